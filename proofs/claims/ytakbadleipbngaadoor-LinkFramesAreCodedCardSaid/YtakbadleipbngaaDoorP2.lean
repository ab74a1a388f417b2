/-
  Lemmas, part 2. Conditions: none.
-/
import Derived.Test.YtakbadleipbngaaDoorP1
import Derived.Scope
import Derived.LoopN
import Derived.Lib.AppendZerosOnto
import Derived.Test.YtakbadleipbngaaDoorProg
set_option linter.all false
set_option maxRecDepth 100000
namespace Go.Proofs.YtakbadleipbngaaDoor
open Go.RowKit
section
structure Cd (α : Type) where
  sz : Nat
  f : α → List E
  h : ∀ a, (f a).length = sz
def cI (k : IntKind) : Cd Int := ⟨1, fun n => [.lit (.int k n)], fun _ => rfl⟩
def cS : Cd ByteArray := ⟨1, fun s => [.lit (.string s)], fun _ => rfl⟩
def slE {α : Type} (c : Cd α) (l : List α) : E := .sl c.sz l.length (l.flatMap c.f)
def cL {α : Type} (c : Cd α) : Cd (List α) := ⟨1, fun l => [slE c l], fun _ => rfl⟩
def cA {α : Type} (n : Nat) (c : Cd α) : Cd (Vector α n) := ⟨n * c.sz, fun v => v.toList.flatMap c.f, fun v => by rw [flat_length c.f c.h, Vector.length_toList]⟩
abbrev dI (k : IntKind) (n : Int) : D := .e (.lit (.int k n))
abbrev dS (s : ByteArray) : D := .e (.lit (.string s))
abbrev dB (b : Bool) : D := .e (.lit (.bool b))
abbrev dN : D := .e (.lit (.slice none 0 0))
abbrev dL {α : Type} (c : Cd α) (l : List α) : D := .e (slE c l)
abbrev dO {α : Type} (id : Nat) (c : Cd α) (l : List α) : D := .own id c.sz l.length (l.flatMap c.f)
abbrev dF {α : Type} (c : Cd α) (l : List α) : D := .fu c.sz l.length (l.flatMap c.f)
abbrev dG {α : Type} (c : Cd α) (a : α) : D := .ag ((c.f a).map .e)
theorem ltb {a b : Nat} (h : Nat.ble (a + 1) b = true) : a < b := Nat.le_of_ble_eq_true h
theorem leb {a b : Nat} (h : Nat.ble a b = true) : a ≤ b := Nat.le_of_ble_eq_true h
def gd {R : Type} (c : Prop) [Decidable c] (k : Option R) : Option R := if c then k else none
def cnd {R : Type} (b : Bool) (x y : Option R) : Option R := match b with | true => x | false => y
def bnd {S R : Type} (x : Option S) (k : S → Option R) : Option R := match x with | some s => k s | none => none
theorem gd_some {R : Type} {c : Prop} [Decidable c] {k : Option R} {r : R} (h : gd c k = some r) : c ∧ k = some r := by
  unfold gd at h
  split at h
  · exact ⟨by assumption, h⟩
  · cases h
theorem gd_pos {R : Type} {c : Prop} [Decidable c] {k : Option R} (h : c) : gd c k = k := if_pos h
theorem cnd_t {R : Type} {b : Bool} {x y : Option R} {r : R} (hb : b = true) (h : cnd b x y = some r) : x = some r := by subst hb; exact h
theorem cnd_f {R : Type} {b : Bool} {x y : Option R} {r : R} (hb : b = false) (h : cnd b x y = some r) : y = some r := by subst hb; exact h
theorem bnd_some {S R : Type} {x : Option S} {k : S → Option R} {r : R} (h : bnd x k = some r) : ∃ s, x = some s ∧ k s = some r := by
  unfold bnd at h
  split at h
  · exact ⟨_, rfl, h⟩
  · cases h
theorem bnd_eq {S R : Type} (s : S) (k : S → Option R) : bnd (some s) k = k s := rfl
theorem bnd_of {S R : Type} {x : Option S} {s : S} (h : x = some s) (k : S → Option R) : bnd x k = k s := by rw [h]; rfl
def loopN {S X : Type} (b : S → Option (S ⊕ X)) : Nat → S → Option X
  | 0, _ => none
  | n + 1, s => match b s with
    | some (.inl s') => loopN b n s'
    | some (.inr x) => some x
    | none => none
theorem loopN_up {S X : Type} {b : S → Option (S ⊕ X)} : ∀ {n : Nat} {s : S} {x : X}, loopN b n s = some x → ∀ m, n ≤ m → loopN b m s = some x
  | 0, _, _, h, _, _ => by cases h
  | n + 1, s, x, h, m, hm => by
    obtain ⟨m, rfl⟩ : ∃ k, m = k + 1 := ⟨m - 1, by omega⟩
    unfold loopN at h ⊢
    split at h
    · exact loopN_up h m (by omega)
    · exact h
    · cases h
noncomputable def loopO {S X : Type} (b : S → Option (S ⊕ X)) (s : S) : Option X := open Classical in if h : ∃ n x, loopN b n s = some x then loopN b (Classical.choose h) s else none
theorem loopO_some {S X : Type} {b : S → Option (S ⊕ X)} {s : S} {x : X} : loopO b s = some x ↔ ∃ n, loopN b n s = some x := by
  unfold loopO
  constructor
  · intro h
    split at h
    · exact ⟨_, h⟩
    · cases h
  · rintro ⟨n, hn⟩
    have h : ∃ n x, loopN b n s = some x := ⟨n, x, hn⟩
    rw [dif_pos h]
    obtain ⟨y, hy⟩ := Classical.choose_spec h
    rw [hy]
    have h1 := loopN_up hn (max n (Classical.choose h)) (Nat.le_max_left ..)
    have h2 := loopN_up hy (max n (Classical.choose h)) (Nat.le_max_right ..)
    rw [h1] at h2
    exact h2.symm
theorem loopO_inl {S X : Type} {b : S → Option (S ⊕ X)} {s s' : S} (h : b s = some (.inl s')) : loopO b s = loopO b s' := by
  have key : ∀ x, loopO b s = some x ↔ loopO b s' = some x := fun x => by
    rw [loopO_some, loopO_some]
    constructor
    · rintro ⟨n, hn⟩
      cases n with
      | zero => cases hn
      | succ n => exact ⟨n, by simpa [loopN, h] using hn⟩
    · rintro ⟨n, hn⟩
      exact ⟨n + 1, by simpa [loopN, h] using hn⟩
  cases h1 : loopO b s with
  | some x => exact ((key x).1 h1).symm
  | none =>
    cases h2 : loopO b s' with
    | none => rfl
    | some x => rw [(key x).2 h2] at h1; cases h1
theorem loopO_inr {S X : Type} {b : S → Option (S ⊕ X)} {s : S} {x : X} (h : b s = some (.inr x)) : loopO b s = some x :=
  loopO_some.2 ⟨1, by simp [loopN, h]⟩
theorem loopO_up {S X : Type} {b : S → Option (S ⊕ X)} (G : Nat → S) (n m : Nat) (x : X) (hnm : n ≤ m) (hr : ∀ i, n ≤ i → i < m → b (G i) = some (.inl (G (i + 1)))) (he : b (G m) = some (.inr x)) : loopO b (G n) = some x := by
  obtain ⟨k, rfl⟩ : ∃ k, m = n + k := ⟨m - n, by omega⟩
  induction k generalizing n with
  | zero => exact loopO_inr he
  | succ k ih =>
    rw [loopO_inl (hr n (Nat.le_refl _) (by omega))]
    exact ih (n + 1) (by omega) (fun i h1 h2 => hr i (by omega) (by omega)) (by rw [show n + 1 + k = n + (k + 1) by omega]; exact he)
section
variable {P : Program} {tb : TypeId → Option TyE} {dr : Bool} {md : Md}
theorem OpOk.le {o : Oper} {ev : Operand → D} {hp hp' : Hp} {d d2 : D} (h : OpOk P o ev hp d hp') (hl : d.le d2) : OpOk P o ev hp d2 hp' :=
  fun B g w a Kn Q hTT hr hx hk => h B g w a Kn Q hTT hr hx fun v g' w' h1 h2 h3 h4 h5 => hk v g' w' h1 h2 (h3.le hl) h4 h5
theorem SndQ.le {o : Oper} {ev : Operand → D} {hp hp' : Hp} {d d2 : D} (h : SndQ P tb md o ev hp d hp') (hl : d.le d2) : SndQ P tb md o ev hp d2 hp' :=
  ⟨h.ok.le hl, fun h1 => ⟨(h.quiet h1).1, fun hp2 h3 => ((h.quiet h1).2 hp2 h3).le hl⟩, h.fr, h.lk⟩
variable {ops : Array Oper} {K : List (Nat × D) → Hp → Prop} {os : List Oper} {tm : List (Nat × D)} {hp hp' : Hp} {t : Tmp} {dst : Option Tmp} {op : Op} {ty : TypeId} {pos : String} {af : Array Edge} {d d2 : D}
theorem st_le (tok : TOk P tb) (hn : md.nc tb op = true) (h : AVC P tb md.dr op ty (evD tm) hp (Kq d hp')) (hl : d.le d2) (h2 : SOps P tb md ops K os ((t, d2) :: tm) hp') : SOps P tb md ops K (⟨some t, op, ty, pos, af, none⟩ :: os) tm hp :=
  st_Q rfl (((AVC.snd tok (o := ⟨some t, op, ty, pos, af, none⟩) h).q hn).le hl) h2
variable {j : Nat} {want c : Bool} {s : Tmp}
theorem go_t (tok : TOk P tb) (hn : md.nc tb op = true) (hj : (ops[j]?).bind (·.dst) = some s) (hc : tm.lookup s = some (.e (.lit (.bool c)))) (hw : c = want) (h : AVC P tb md.dr op ty (evD tm) hp (Kq d hp')) (h2 : SOps P tb md ops K os ((t, d) :: tm) hp') : SOps P tb md ops K (⟨some t, op, ty, pos, af, some (j, want)⟩ :: os) tm hp :=
  st_on hj hc (by subst hw; cases c <;> rfl) ((AVC.snd tok (o := ⟨some t, op, ty, pos, af, some (j, want)⟩) h).q hn) h2
theorem rep_tu0 (hp : Hp) (g : Gh) (w : World) : RepD hp g w (.tu []) undef := .tu [] #[] rfl fun j d u h => by simp at h
theorem no_t (hj : (ops[j]?).bind (·.dst) = some s) (hc : tm.lookup s = some (.e (.lit (.bool c)))) (hw : c = !want) (h2 : SOps P tb md ops K os ((t, .tu []) :: tm) hp) : SOps P tb md ops K (⟨some t, op, ty, pos, af, some (j, want)⟩ :: os) tm hp :=
  .off (.tu []) (.inl ⟨s, c, hj, hc, by subst hw; cases want <;> rfl⟩) (fun _ _ _ _ _ => rep_tu0 _ _ _) h2
theorem nn_t (hj : (ops[j]?).bind (·.dst) = some s) (hc : tm.lookup s = some (.tu [])) (h2 : SOps P tb md ops K os ((t, .tu []) :: tm) hp) : SOps P tb md ops K (⟨some t, op, ty, pos, af, some (j, want)⟩ :: os) tm hp :=
  .off (.tu []) (.inr ⟨s, hj, hc, rfl⟩) (fun _ _ _ _ _ => rep_tu0 _ _ _) h2
theorem sq (tok : TOk P tb) {f : FuncId} {az : List Operand} {ts : Array TypeId} {ds : List D} {r : D} (hc : PCalls P f ds r) (hp1 : ((az.map (evD tm)).map D.ex).all D.pure = true) (hl : leL ((az.map (evD tm)).map D.ex) ds) (hr : r.pure = true ∨ ∃ ds, r = .tu ds) (h2 : SOps P tb md ops K os ((t, r) :: tm) hp) :
    SOps P tb md ops K (⟨some t, .call ⟨.value (.func f), az.toArray, ts⟩, ty, pos, af, none⟩ :: os) tm hp :=
  st_Q rfl (q_call tok rfl (PCalls.le hc hl) hp1 hr) h2
variable {ev : Operand → D} {x y : Operand}
theorem T_move (h : ev x = d := by exact rfl) : AVC P tb dr (.move x) ty ev hp (Kq d hp) := by rw [av_move, h]; exact Kq.here _ _
theorem T_mv {t : Tmp} (h : tm.lookup t = some d := by exact rfl) : AVC P tb dr (.move (.tmp t)) ty (evD tm) hp (Kq d hp) := T_move (h := by show (tm.lookup t).getD .top = d; rw [h]; rfl)
theorem T_as {t : Tmp} (h : tm.lookup t = some d := by exact rfl) (hk : asgV tb ty d hp (Kq d hp) = Kq d hp d hp := by exact rfl) : AVC P tb dr (.assign (.tmp t)) ty (evD tm) hp (Kq d hp) := by
  rw [av_assign, show evD tm (.tmp t) = d by show (tm.lookup t).getD .top = d; rw [h]; rfl, hk]; exact Kq.here _ _
theorem T_asg (h : ev x = d := by exact rfl) (hk : asgV tb ty d hp (Kq d hp) = Kq d hp d hp := by exact rfl) : AVC P tb dr (.assign x) ty ev hp (Kq d hp) := by rw [av_assign, h, hk]; exact Kq.here _ _
theorem T_asgN {vs : List (Nat × List D)} {lv : List (Nat × Nat × Nat × TypeId)} {N0 : Nat} {e : TypeId} {i j : TyE} (ht : tb ty = some i) (he : tb e = some j) (h : ev x = dN := by exact rfl) (hi : i.ty = .slice e := by exact rfl) (hz : Nat.ble (0 + 1) (j.size) = true := by exact rfl) : AVC P tb dr (.assign x) ty ev ⟨vs, lv, N0⟩ (Kq (.own N0 j.size 0 []) ⟨vs, (N0, 0, j.size, e) :: lv, N0 + 1⟩) := by
  replace hz := Nat.le_of_ble_eq_true hz
  rw [av_assign, h, asgV_nil, ht]
  simp only [hi, he]
  exact ⟨hz, Kq.here _ _⟩
theorem T_pickT {cn : Operand} {b : Bool} (hb : b = true) (hc : ev cn = dB b := by exact rfl) (h : ev x = d := by exact rfl) : AVC P tb dr (.pick cn x y) ty ev hp (Kq d hp) := by
  subst hb; rw [av_pick, hc, pickV_t, h]; exact Kq.here _ _
theorem T_pickF {cn : Operand} {b : Bool} (hb : b = false) (hc : ev cn = dB b := by exact rfl) (h : ev y = d := by exact rfl) : AVC P tb dr (.pick cn x y) ty ev hp (Kq d hp) := by
  subst hb; rw [av_pick, hc, pickV_f, h]; exact Kq.here _ _
theorem T_alloc {vs : List (Nat × List D)} {lv : List (Nat × Nat × Nat × TypeId)} {N0 : Nat} {t : TypeId} {i : TyE} (ht : tb t = some i) : AVC P tb dr (.alloc t) ty ev ⟨vs, lv, N0⟩ (Kq (.pt N0 0) ⟨(N0, (i.zero.map fun v => .e (.lit v))) :: vs, lv, N0 + 1⟩) := by
  rw [av_alloc, allocV_eq, ht]; exact Kq.here _ _
theorem T_box {vs : List (Nat × List D)} {lv : List (Nat × Nat × Nat × TypeId)} {N0 : Nat} {t : TypeId} {cs : List D} (h : (ev x).cells = some cs := by exact rfl) : AVC P tb dr (.box t x) ty ev ⟨vs, lv, N0⟩ (Kq (.pt N0 0) ⟨(N0, cs) :: vs, lv, N0 + 1⟩) := by
  rw [av_box, boxV_eq, h]; exact Kq.here _ _
theorem T_build {t : TypeId} {i : TyE} {fs : List (Nat × TypeId)} {ps : List (Nat × Operand)} {qs : List (Nat × List D)} {es : List D} (ht : tb t = some i) (hi : i.ty = .struct fs := by exact rfl) (ha : (fs.all fun f => (tb f.2).isSome) = true := by exact rfl) (hp1 : partsD (ps.map fun p => (p.1, ev p.2)) = some qs := by exact rfl) (hf : fillL (placeS tb fs) (i.zero.map fun v => D.e (.lit v)) qs = some es := by exact rfl) :
    AVC P tb dr (.build t ps.toArray) ty ev hp (Kq (.ag es) hp) := by
  rw [av_build, buildV_eq, ht, hp1]
  simp only [hi, hf]
  exact ⟨fun f hf => (List.all_eq_true.1 ha) f hf, Kq.here _ _⟩
theorem T_bsl {vs : List (Nat × List D)} {lv : List (Nat × Nat × Nat × TypeId)} {N0 : Nat} {t e : TypeId} {i j : TyE} {n : Nat} {ps : List (Nat × Operand)} {qs : List (Nat × List D)} {es : List D} {xs : List E} (ht : tb t = some i) (he : tb e = some j) (hi : i.ty = .slice e := by exact rfl) (hz : Nat.ble (0 + 1) (j.size) = true := by exact rfl) (hn : Nat.ble ((n + 1) * j.size) (16777216) = true := by exact rfl) (hp1 : partsD (ps.map fun p => (p.1, ev p.2)) = some qs := by exact rfl) (hf : fillL (fun m => some (m * j.size, j.size)) (List.replicate ((n + 1) * j.size) (D.e .any)) qs = some es := by exact rfl) (hc : cellsE es = some xs := by exact rfl) (hd : dr = false := by exact rfl) : AVC P tb dr (.buildSlice t (n + 1) ps.toArray) ty ev ⟨vs, lv, N0⟩ (Kq (.own N0 j.size (n + 1) xs) ⟨vs, (N0, (n + 1), j.size, e) :: lv, N0 + 1⟩) := by
  replace hz := Nat.le_of_ble_eq_true hz
  replace hn := Nat.le_of_ble_eq_true hn
  subst hd
  rw [av_buildSlice]
  unfold buildSliceV
  rw [ht, hp1]
  simp only [hi, he, hf, hc]
  exact ⟨hz, hn, Kq.here _ _⟩
theorem T_bslD {t e : TypeId} {i j : TyE} {n : Nat} {ps : List (Nat × Operand)} {qs : List (Nat × List D)} {es : List D} {xs : List E} (ht : tb t = some i) (he : tb e = some j) (hi : i.ty = .slice e := by exact rfl) (hz : Nat.ble (0 + 1) (j.size) = true := by exact rfl) (hn : Nat.ble ((n + 1) * j.size) (16777216) = true := by exact rfl) (hp1 : partsD (ps.map fun p => (p.1, ev p.2)) = some qs := by exact rfl) (hf : fillL (fun m => some (m * j.size, j.size)) (List.replicate ((n + 1) * j.size) (D.e .any)) qs = some es := by exact rfl) (hc : cellsE es = some xs := by exact rfl) (hd : dr = true := by exact rfl) : AVC P tb dr (.buildSlice t (n + 1) ps.toArray) ty ev hp (Kq (.fu j.size (n + 1) xs) hp) := by
  replace hz := Nat.le_of_ble_eq_true hz
  replace hn := Nat.le_of_ble_eq_true hn
  subst hd
  rw [av_buildSlice]
  unfold buildSliceV
  rw [ht, hp1]
  simp only [hi, he, hf, hc]
  exact ⟨hz, hn, Kq.here _ _⟩
theorem T_ldC {t : TypeId} {i : TyE} {j off : Nat} {ds : List D} (ht : tb t = some i) (hg : i.ty.agg = false := by exact rfl) (hx : ev x = .pt j off := by exact rfl) (hv : hp.vars.lookup j = some ds := by exact rfl) (hn : Nat.ble (j + 1) (hp.next) = true := by exact rfl) (hd : ds[off]? = some d := by exact rfl) : AVC P tb dr (.load t x) ty ev hp (Kq d hp) := by
  replace hn := Nat.le_of_ble_eq_true hn
  rw [av_load, hx, loadV_pt, ht, hv]
  simp only [hg]
  exact ⟨hn, d, hd, Kq.here _ _⟩
theorem T_ldA {t : TypeId} {i : TyE} {j off : Nat} {ds es : List D} (ht : tb t = some i) (hg : i.ty.agg = true := by exact rfl) (hx : ev x = .pt j off := by exact rfl) (hv : hp.vars.lookup j = some ds := by exact rfl) (hn : Nat.ble (j + 1) (hp.next) = true := by exact rfl) (hl : Nat.ble (off + i.size) (ds.length) = true := by exact rfl) (hd : (ds.drop off).take i.size = es := by exact rfl) : AVC P tb dr (.load t x) ty ev hp (Kq (.ag es) hp) := by
  replace hn := Nat.le_of_ble_eq_true hn
  replace hl := Nat.le_of_ble_eq_true hl
  rw [av_load, hx, loadV_pt, ht, hv]
  simp only [hg]
  exact ⟨hn, hl, by rw [hd]; exact Kq.here _ _⟩
theorem getD_at {α : Type} [Inhabited α] {c : Cd α} {l : List α} {n o : Nat} {e : E} (hn : n < l.length) (ho : (c.f l[n]!)[o]? = some e) : n * c.sz + o < (l.flatMap c.f).length ∧ (l.flatMap c.f).getD (n * c.sz + o) .any = e := by
  have hoz : o < c.sz := by
    rw [← c.h l[n]!]
    exact (List.getElem?_eq_some_iff.1 ho).1
  refine ⟨?_, ?_⟩
  · rw [flat_length c.f c.h]
    have : (n + 1) * c.sz ≤ l.length * c.sz := Nat.mul_le_mul_right _ hn
    rw [Nat.add_mul] at this
    omega
  · rw [flat_getD c.f c.h hn hoz, List.getD, ho]; rfl
theorem T_ldF {α : Type} [Inhabited α] {t : TypeId} {i : TyE} {c : Cd α} {l : List α} {n o : Nat} {e : E} (ht : tb t = some i) (hn : n < l.length) (hg : i.ty.agg = false := by exact rfl) (hx : ev x = .fp (l.flatMap c.f) (n * c.sz + o) := by exact rfl) (ho : (c.f l[n]!)[o]? = some e := by exact rfl) : AVC P tb dr (.load t x) ty ev hp (Kq (.e e) hp) := by
  obtain ⟨h1, h2⟩ := getD_at hn ho
  rw [av_load, hx, loadV_fp, ht]
  simp only [hg]
  refine ⟨h1, ?_⟩
  rw [h2]
  exact Kq.here _ _
theorem T_ldG {α : Type} [Inhabited α] {t : TypeId} {i : TyE} {c : Cd α} {l : List α} {n o : Nat} {es : List E} (ht : tb t = some i) (hn : n < l.length) (ho : ((c.f l[n]!).drop o).take i.size = es) (hg : i.ty.agg = true := by exact rfl) (hx : ev x = .fp (l.flatMap c.f) (n * c.sz + o) := by exact rfl) (hoz : Nat.ble (o + i.size) (c.sz) = true := by exact rfl) : AVC P tb dr (.load t x) ty ev hp (Kq (.ag (es.map .e)) hp) := by
  replace hoz := Nat.le_of_ble_eq_true hoz
  have hlen : (c.f l[n]!).length = c.sz := c.h _
  have hle : (es.map D.e) = (List.range i.size).map fun j => D.e ((l.flatMap c.f).getD (n * c.sz + o + j) .any) := by
    subst ho
    refine List.ext_getElem? fun j => ?_
    by_cases hj : j < i.size
    · have hoj : o + j < (c.f l[n]!).length := by omega
      have h3 := getD_at (o := o + j) hn (List.getElem?_eq_getElem hoj)
      rw [List.getElem?_map, List.getElem?_map, List.getElem?_take, if_pos hj, List.getElem?_drop, List.getElem?_eq_getElem hoj, List.getElem?_range hj]
      simp only [Option.map_some, Nat.add_assoc]
      rw [h3.2]
    · rw [List.getElem?_eq_none (by simp; omega), List.getElem?_eq_none (by simp; omega)]
  rw [av_load, hx, loadV_fp, ht]
  simp only [hg]
  refine ⟨?_, ?_⟩
  · rw [flat_length c.f c.h]
    have : (n + 1) * c.sz ≤ l.length * c.sz := Nat.mul_le_mul_right _ hn
    rw [Nat.add_mul] at this
    omega
  · rw [hle]
    exact Kq.here _ _
theorem T_st {vs : List (Nat × List D)} {lv : List (Nat × Nat × Nat × TypeId)} {N0 : Nat} {t : TypeId} {i : TyE} {j off : Nat} {ds cs ds' : List D} (ht : tb t = some i) (hx : ev x = .pt j off := by exact rfl) (hv : vs.lookup j = some ds := by exact rfl) (hc : (ev y).cells = some cs := by exact rfl) (hl : cs.length = i.size := by exact rfl) (ho : Nat.ble (off + i.size) (ds.length) = true := by exact rfl) (he : ds.take off ++ cs ++ ds.drop (off + cs.length) = ds' := by exact rfl) : AVC P tb dr (.store t x y) ty ev ⟨vs, lv, N0⟩ (Kq .top ⟨(j, ds') :: vs, lv, N0⟩) := by
  replace ho := Nat.le_of_ble_eq_true ho
  rw [av_store, hx, storeV_pt, ht, hv, hc]
  exact ⟨hl, ho, by rw [he]; exact Kq.here _ _⟩
theorem T_bin {o : BinOp} {t t' : TypeId} {k k' : IntKind} {a b : Int} {v : Value} (hx : ev x = dI k a) (hy : ev y = dI k' b) (h : binV P o t (dI k a) (dI k' b) fun u => Kq (.e (.lit v)) hp (.e (.lit u)) hp) : AVC P tb dr (.binOp o t x y t') ty ev hp (Kq (.e (.lit v)) hp) := by
  rw [av_binOp, hx, hy]; exact h
theorem T_add {t t' : TypeId} {k : IntKind} {a b : Int} (hx : ev x = dI k a := by exact rfl) (hy : ev y = dI k b := by exact rfl) : AVC P tb dr (.binOp .add t x y t') ty ev hp (Kq (dI k (k.wrap (a + b))) hp) := T_bin hx hy (by rw [bin_add]; exact ⟨rfl, Kq.here _ _⟩)
theorem T_sub {t t' : TypeId} {k : IntKind} {a b : Int} (hx : ev x = dI k a := by exact rfl) (hy : ev y = dI k b := by exact rfl) : AVC P tb dr (.binOp .sub t x y t') ty ev hp (Kq (dI k (k.wrap (a - b))) hp) := T_bin hx hy (by rw [bin_sub]; exact ⟨rfl, Kq.here _ _⟩)
theorem T_mul {t t' : TypeId} {k : IntKind} {a b : Int} (hx : ev x = dI k a := by exact rfl) (hy : ev y = dI k b := by exact rfl) : AVC P tb dr (.binOp .mul t x y t') ty ev hp (Kq (dI k (k.wrap (a * b))) hp) := T_bin hx hy (by rw [bin_mul]; exact ⟨rfl, Kq.here _ _⟩)
theorem T_quo {t t' : TypeId} {k : IntKind} {a b : Int} (hb : b ≠ 0) (hx : ev x = dI k a := by exact rfl) (hy : ev y = dI k b := by exact rfl) : AVC P tb dr (.binOp .quo t x y t') ty ev hp (Kq (dI k (k.wrap (a.tdiv b))) hp) := T_bin hx hy (by rw [bin_quo]; exact ⟨rfl, hb, Kq.here _ _⟩)
theorem T_rem {t t' : TypeId} {k : IntKind} {a b : Int} (hb : b ≠ 0) (hx : ev x = dI k a := by exact rfl) (hy : ev y = dI k b := by exact rfl) : AVC P tb dr (.binOp .rem t x y t') ty ev hp (Kq (dI k (a.tmod b)) hp) := T_bin hx hy (by rw [bin_rem]; exact ⟨rfl, hb, Kq.here _ _⟩)
def iand (k : IntKind) (a b : Int) : Int := k.wrap (BitVec.ofInt k.bits a &&& BitVec.ofInt k.bits b).toNat
def ior (k : IntKind) (a b : Int) : Int := k.wrap (BitVec.ofInt k.bits a ||| BitVec.ofInt k.bits b).toNat
def ixor (k : IntKind) (a b : Int) : Int := k.wrap (BitVec.ofInt k.bits a ^^^ BitVec.ofInt k.bits b).toNat
def ishl (k : IntKind) (a b : Int) : Int := k.wrap (a * 2 ^ min b.toNat k.bits)
def ishr (k : IntKind) (a b : Int) : Int := a.fdiv (2 ^ min b.toNat k.bits)
theorem T_and {t t' : TypeId} {k : IntKind} {a b : Int} (hx : ev x = dI k a := by exact rfl) (hy : ev y = dI k b := by exact rfl) : AVC P tb dr (.binOp .and t x y t') ty ev hp (Kq (dI k (iand k a b)) hp) := T_bin hx hy (by rw [bin_and]; exact ⟨rfl, Kq.here _ _⟩)
theorem T_or {t t' : TypeId} {k : IntKind} {a b : Int} (hx : ev x = dI k a := by exact rfl) (hy : ev y = dI k b := by exact rfl) : AVC P tb dr (.binOp .or t x y t') ty ev hp (Kq (dI k (ior k a b)) hp) := T_bin hx hy (by rw [bin_or]; exact ⟨rfl, Kq.here _ _⟩)
theorem T_xor {t t' : TypeId} {k : IntKind} {a b : Int} (hx : ev x = dI k a := by exact rfl) (hy : ev y = dI k b := by exact rfl) : AVC P tb dr (.binOp .xor t x y t') ty ev hp (Kq (dI k (ixor k a b)) hp) := T_bin hx hy (by rw [bin_xor]; exact ⟨rfl, Kq.here _ _⟩)
theorem T_shl {t t' : TypeId} {k k' : IntKind} {a b : Int} (hb : 0 ≤ b) (hx : ev x = dI k a := by exact rfl) (hy : ev y = dI k' b := by exact rfl) : AVC P tb dr (.binOp .shl t x y t') ty ev hp (Kq (dI k (ishl k a b)) hp) := T_bin hx hy (by rw [bin_shl]; exact ⟨hb, Kq.here _ _⟩)
theorem T_shr {t t' : TypeId} {k k' : IntKind} {a b : Int} (hb : 0 ≤ b) (hx : ev x = dI k a := by exact rfl) (hy : ev y = dI k' b := by exact rfl) : AVC P tb dr (.binOp .shr t x y t') ty ev hp (Kq (dI k (ishr k a b)) hp) := T_bin hx hy (by rw [bin_shr]; exact ⟨hb, Kq.here _ _⟩)
theorem T_eql {t t' : TypeId} {k : IntKind} {a b : Int} (hx : ev x = dI k a := by exact rfl) (hy : ev y = dI k b := by exact rfl) : AVC P tb dr (.binOp .eql t x y t') ty ev hp (Kq (dB (decide (a = b))) hp) := T_bin hx hy (by rw [bin_eql]; exact ⟨rfl, Kq.here _ _⟩)
theorem T_neq {t t' : TypeId} {k : IntKind} {a b : Int} (hx : ev x = dI k a := by exact rfl) (hy : ev y = dI k b := by exact rfl) : AVC P tb dr (.binOp .neq t x y t') ty ev hp (Kq (dB (decide (a ≠ b))) hp) := T_bin hx hy (by rw [bin_neq]; exact ⟨rfl, Kq.here _ _⟩)
theorem T_lss {t t' : TypeId} {k : IntKind} {a b : Int} (hx : ev x = dI k a := by exact rfl) (hy : ev y = dI k b := by exact rfl) : AVC P tb dr (.binOp .lss t x y t') ty ev hp (Kq (dB (decide (a < b))) hp) := T_bin hx hy (by rw [bin_lss]; exact ⟨rfl, Kq.here _ _⟩)
theorem T_leq {t t' : TypeId} {k : IntKind} {a b : Int} (hx : ev x = dI k a := by exact rfl) (hy : ev y = dI k b := by exact rfl) : AVC P tb dr (.binOp .leq t x y t') ty ev hp (Kq (dB (decide (a ≤ b))) hp) := T_bin hx hy (by rw [bin_leq]; exact ⟨rfl, Kq.here _ _⟩)
theorem T_gtr {t t' : TypeId} {k : IntKind} {a b : Int} (hx : ev x = dI k a := by exact rfl) (hy : ev y = dI k b := by exact rfl) : AVC P tb dr (.binOp .gtr t x y t') ty ev hp (Kq (dB (decide (b < a))) hp) := T_bin hx hy (by rw [bin_gtr]; exact ⟨rfl, Kq.here _ _⟩)
theorem T_geq {t t' : TypeId} {k : IntKind} {a b : Int} (hx : ev x = dI k a := by exact rfl) (hy : ev y = dI k b := by exact rfl) : AVC P tb dr (.binOp .geq t x y t') ty ev hp (Kq (dB (decide (b ≤ a))) hp) := T_bin hx hy (by rw [bin_geq]; exact ⟨rfl, Kq.here _ _⟩)
theorem T_seql {t t' : TypeId} {a b : ByteArray} (hx : ev x = dS a := by exact rfl) (hy : ev y = dS b := by exact rfl) : AVC P tb dr (.binOp .eql t x y t') ty ev hp (Kq (dB (decide (a = b))) hp) := by
  rw [av_binOp, hx, hy, bin_seql]; exact Kq.here _ _
theorem T_sneq {t t' : TypeId} {a b : ByteArray} (hx : ev x = dS a := by exact rfl) (hy : ev y = dS b := by exact rfl) : AVC P tb dr (.binOp .neq t x y t') ty ev hp (Kq (dB (decide (a ≠ b))) hp) := by
  rw [av_binOp, hx, hy, bin_sneq]; exact Kq.here _ _
theorem T_geql (tok : TOk P tb) (n : Nat) (hd : n ≤ 10000) {t t' : TypeId} {i : TyE} {xs ys : List D} {us vs : List Value} {p : Prop} (ht : tb t = some i) (hg : i.ty.agg = true) (hm : P.eqGuardType P.depth t = false) (hn : namesOk P n t = true) (hx : ev x = .ag xs) (hy : ev y = .ag ys) (hx2 : litsOf xs = some us) (hy2 : litsOf ys = some vs) (hu : fitT tb n t us) (hv : fitT tb n t vs) (hp1 : us = vs ↔ p) [inst : Decidable p] : AVC P tb dr (.binOp .eql t x y t') ty ev hp (Kq (dB (decide p)) hp) := by
  rw [av_binOp, hx, hy]; exact binV_agE tok n hd ht hg hm hn hx2 hy2 hu hv hp1 inst (Kq.here _ _)
theorem T_gneq (tok : TOk P tb) (n : Nat) (hd : n ≤ 10000) {t t' : TypeId} {i : TyE} {xs ys : List D} {us vs : List Value} {p : Prop} (ht : tb t = some i) (hg : i.ty.agg = true) (hm : P.eqGuardType P.depth t = false) (hn : namesOk P n t = true) (hx : ev x = .ag xs) (hy : ev y = .ag ys) (hx2 : litsOf xs = some us) (hy2 : litsOf ys = some vs) (hu : fitT tb n t us) (hv : fitT tb n t vs) (hp1 : us = vs ↔ p) [inst : Decidable p] : AVC P tb dr (.binOp .neq t x y t') ty ev hp (Kq (dB (decide (¬ p))) hp) := by
  rw [av_binOp, hx, hy]; exact binV_agN tok n hd ht hg hm hn hx2 hy2 hu hv hp1 inst (Kq.here _ _)
theorem T_not {t : TypeId} {a : Bool} (hx : ev x = dB a := by exact rfl) : AVC P tb dr (.unOp .not t x) ty ev hp (Kq (dB (!a)) hp) := by rw [av_unOp, hx, un_not]; exact Kq.here _ _
theorem T_neg {t : TypeId} {k : IntKind} {a : Int} (hx : ev x = dI k a := by exact rfl) : AVC P tb dr (.unOp .neg t x) ty ev hp (Kq (dI k (k.wrap (0 - a))) hp) := by rw [av_unOp, hx, un_neg]; exact Kq.here _ _
theorem T_cvI {s t : TypeId} {i j : TyE} {k jk : IntKind} {n : Int} (hs : tb s = some i) (ht : tb t = some j) (hj : j.ty = .int jk := by exact rfl) (hx : ev x = dI k n := by exact rfl) : AVC P tb dr (.convert s t x) ty ev hp (Kq (dI jk (jk.wrap n)) hp) := by
  rw [av_convert, hx, conv_eq, hs, ht]; simp only [hj]; exact Kq.here _ _
def bStr (l : List Int) : ByteArray := ⟨(l.map fun n => UInt8.ofNat n.toNat).toArray⟩
theorem bytesOf_ints : ∀ l : List Int, bytesOf (l.flatMap (cI .u8).f) = some (l.map fun n => UInt8.ofNat n.toNat)
  | [] => rfl
  | n :: l => by
    show bytesOf (.lit (.int .u8 n) :: l.flatMap (cI .u8).f) = _
    rw [bytesOf_cons, bytesOf_ints l]; rfl
theorem T_cvB {s t e : TypeId} {i j m : TyE} {n : Nat} {l : List Int} (hs : tb s = some i) (ht : tb t = some j) (he : tb e = some m) (hno : ∀ b, ev x ≠ dS b) (hj : j.ty = .str := by exact rfl) (hi : i.ty = .slice e := by exact rfl) (hm : m.ty = .int .u8 := by exact rfl) (hx : (ev x).asSl 1 = some (n, l.flatMap (cI .u8).f) := by exact rfl) : AVC P tb dr (.convert s t x) ty ev hp (Kq (dS (bStr l)) hp) := by
  rw [av_convert, conv_eq, hs, ht]
  simp only [hj, hi, he, hm, hx, bytesOf_ints]
  exact ⟨trivial, Kq.here _ _⟩
theorem T_faP {s tt : TypeId} {i j : TyE} {f o k off : Nat} {fs : List (Nat × TypeId)} (hs : tb s = some i) (ht : tb tt = some j) (hi : i.ty = .struct fs := by exact rfl) (hf : fs[f]? = some (o, tt) := by exact rfl) (hz : Nat.ble 1 j.size = true := by exact rfl) (hx : ev x = .pt k off := by exact rfl) : AVC P tb dr (.fieldAddr s x f) ty ev hp (Kq (.pt k (off + o)) hp) := by
  replace hz : j.size ≠ 0 := by have := Nat.le_of_ble_eq_true hz; omega
  rw [av_fieldAddr, hx, fieldAddrV_pt, fieldOff_eq, hs]
  simp only [hi, hf, ht]
  exact ⟨hz, Kq.here _ _⟩
theorem T_iaS {t e : TypeId} {i j : TyE} {n : Nat} {xs : List E} {k : IntKind} {v : Int} (hb : 0 ≤ v ∧ v < (n : Int)) (ht : tb t = some i) (he : tb e = some j) (hi : i.ty = .slice e := by exact rfl) (hx : (ev x).asSl j.size = some (n, xs) := by exact rfl) (hy : ev y = dI k v := by exact rfl) : AVC P tb dr (.indexAddr t x y) ty ev hp (Kq (.fp xs (v.toNat * j.size)) hp) := by
  rw [av_indexAddr, hy, indexAddrV_eq, ht]
  simp only [hi, he, hx]
  exact ⟨hb, Kq.here _ _⟩
theorem T_ext {ds : List D} {i : Nat} (hx : ev x = .tu ds := by exact rfl) (hd : ds[i]? = some d := by exact rfl) : AVC P tb dr (.extract x i) ty ev hp (Kq d hp) := by
  rw [av_extract, hx, extractV_tu, hd, exO_some]; exact Kq.here _ _
theorem T_len {t e : TypeId} {i j : TyE} {n : Nat} {xs : List E} (ht : tb t = some i) (he : tb e = some j) (hi : i.ty = .slice e := by exact rfl) (hx : (ev x).asSl j.size = some (n, xs) := by exact rfl) : AVC P tb dr (.call ⟨.builtin .len, #[x], #[t]⟩) ty ev hp (Kq (dI .i64 n) hp) := by
  show builtinV tb .len [t] [ev x] hp _
  rw [builtin_len, lenV_eq, ht]
  simp only [hi, he, hx]
  exact Kq.here _ _
theorem T_lenS {t : TypeId} {i : TyE} {s : ByteArray} (ht : tb t = some i) (hi : i.ty = .str := by exact rfl) (hx : ev x = dS s := by exact rfl) : AVC P tb dr (.call ⟨.builtin .len, #[x], #[t]⟩) ty ev hp (Kq (dI .i64 s.size) hp) := by
  show builtinV tb .len [t] [ev x] hp _
  rw [hx, builtin_len, lenV_eq, ht]
  simp only [hi]
  exact Kq.here _ _
theorem T_min {ts : Array TypeId} {k k' : IntKind} {a b : Int} (hx : ev x = dI k a := by exact rfl) (hy : ev y = dI k' b := by exact rfl) : AVC P tb dr (.call ⟨.builtin .min, #[x, y], ts⟩) ty ev hp (Kq (dI k (min a b)) hp) := by
  show builtinV tb .min ts.toList [ev x, ev y] hp _
  rw [hx, hy, builtin_min]; exact Kq.here _ _
theorem news_sl {t e : TypeId} {z m : Nat} {ys : List E} {i : TyE} {xd : D} {kn : Nat → List E → Prop} (ht : tb t = some i) (hi : i.ty = .slice e) (hs : xd.strOf = none) (hx : xd.asSl z = some (m, ys)) (h : kn m ys) : newsV tb t z xd kn := by
  rw [newsV_eq, ht]; simp only [hi, hs, hx]; exact h
theorem T_appO {vs : List (Nat × List D)} {lv : List (Nat × Nat × Nat × TypeId)} {N0 : Nat} {α : Type} {t e : TypeId} {i j : TyE} {id m : Nat} {c : Cd α} {l l' : List α} (ht : tb t = some i) (he : tb e = some j) (hf : (l ++ l').length * max 1 j.bytes ≤ 140737488355328) (hi : i.ty = .slice e := by exact rfl) (hz : Nat.ble (0 + 1) (j.size) = true := by exact rfl) (hx : ev x = dO id c l := by exact rfl) (hc : c.sz = j.size := by exact rfl) (hl : lv.lookup id = some (l.length, j.size, e) := by exact rfl) (hs : (ev y).strOf = none := by exact rfl) (hy : (ev y).asSl j.size = some (m, l'.flatMap c.f) := by exact rfl) (hm : m = l'.length := by exact rfl) :
    AVC P tb dr (.call ⟨.builtin .append, #[x, y], #[t, t]⟩) ty ev ⟨vs, lv, N0⟩ (Kq (dO id c (l ++ l')) ⟨vs, (id, (l ++ l').length, j.size, e) :: lv, N0⟩) := by
  replace hz := Nat.le_of_ble_eq_true hz
  subst hm
  show builtinV tb .append [t, t] [ev x, ev y] _ _
  rw [hx, builtin_append, appendV_own, ht]
  simp only [hi, he]
  refine ⟨hz, fun _ => trivial, fun h => absurd hs h, news_sl ht hi hs hy ?_⟩
  refine ⟨hc, hl, by rw [← List.length_append]; exact hf, ?_⟩
  dsimp only [dO]
  rw [List.length_append, List.flatMap_append, hc]
  exact Kq.here _ _
theorem T_appF {vs : List (Nat × List D)} {lv : List (Nat × Nat × Nat × TypeId)} {N0 : Nat} {α : Type} {t e : TypeId} {i j : TyE} {m : Nat} {c : Cd α} {l l' : List α} (ht : tb t = some i) (he : tb e = some j) (hf : (l ++ l').length * max 1 j.bytes ≤ 140737488355328) (hm0 : 0 < l'.length) (hi : i.ty = .slice e := by exact rfl) (hz : Nat.ble (0 + 1) (j.size) = true := by exact rfl) (hx : ev x = dF c l := by exact rfl) (hc : c.sz = j.size := by exact rfl) (hs : (ev y).strOf = none := by exact rfl) (hy : (ev y).asSl j.size = some (m, l'.flatMap c.f) := by exact rfl) (hm : m = l'.length := by exact rfl) :
    AVC P tb dr (.call ⟨.builtin .append, #[x, y], #[t, t]⟩) ty ev ⟨vs, lv, N0⟩ (Kq (dO N0 c (l ++ l')) ⟨vs, (N0, (l ++ l').length, j.size, e) :: lv, N0 + 1⟩) := by
  replace hz := Nat.le_of_ble_eq_true hz
  subst hm
  show builtinV tb .append [t, t] [ev x, ev y] _ _
  rw [hx, builtin_append, appendV_fu, ht]
  simp only [hi, he]
  refine ⟨hz, fun _ => trivial, fun h => absurd hs h, news_sl ht hi hs hy ?_⟩
  refine ⟨hc, hm0, by rw [← List.length_append]; exact hf, ?_⟩
  dsimp only [dO]
  rw [List.length_append, List.flatMap_append, hc]
  exact Kq.here _ _
def strB (s : ByteArray) : List Int := s.data.toList.map fun b => (b.toNat : Int)
theorem strB_length (s : ByteArray) : (strB s).length = s.size := by simp [strB]
theorem str_cells (s : ByteArray) : (s.data.toList.map fun b => E.lit (bv b)) = (strB s).flatMap (cI .u8).f := by
  unfold strB
  generalize s.data.toList = l
  induction l with
  | nil => rfl
  | cons b l ih => rw [List.map_cons, List.map_cons, List.flatMap_cons, ih]; rfl
theorem news_str {t : TypeId} {i : TyE} {s : ByteArray} {kn : Nat → List E → Prop} (ht : tb t = some i) (hi : i.ty = .str) (h : kn (strB s).length ((strB s).flatMap (cI .u8).f)) : newsV tb t 1 (dS s) kn := by
  rw [newsV_eq, ht]
  simp only [hi, strOf_str]
  refine ⟨trivial, ?_⟩
  rw [strB_length, ← str_cells] at h
  exact h
theorem T_appSO {vs : List (Nat × List D)} {lv : List (Nat × Nat × Nat × TypeId)} {N0 : Nat} {t t' e : TypeId} {i i' j : TyE} {id : Nat} {l : List Int} {s : ByteArray} (ht : tb t = some i) (he : tb e = some j) (ht' : tb t' = some i') (hf : (l ++ strB s).length * max 1 j.bytes ≤ 140737488355328) (hi : i.ty = .slice e := by exact rfl) (hi' : i'.ty = .str := by exact rfl) (hj : j.size = 1 := by exact rfl) (hjb : j.bytes = 1 ∧ j.zero = [.int .u8 0] ∧ j.ty.agg = false := by exact ⟨rfl, rfl, rfl⟩) (hx : ev x = dO id (cI .u8) l := by exact rfl) (hl : lv.lookup id = some (l.length, j.size, e) := by exact rfl) (hy : ev y = dS s := by exact rfl) :
    AVC P tb dr (.call ⟨.builtin .append, #[x, y], #[t, t']⟩) ty ev ⟨vs, lv, N0⟩ (Kq (dO id (cI .u8) (l ++ strB s)) ⟨vs, (id, (l ++ strB s).length, j.size, e) :: lv, N0⟩) := by
  show builtinV tb .append [t, t'] [ev x, ev y] _ _
  rw [hx, hy, builtin_append, appendV_own, ht]
  simp only [hi, he]
  refine ⟨by omega, (fun h => by cases h), fun _ => hjb, ?_⟩
  rw [hj]
  refine news_str ht' hi' ?_
  unfold appOwn
  refine ⟨by rw [hj]; rfl, hl, by rw [← List.length_append]; exact hf, ?_⟩
  dsimp only [dO]
  rw [List.length_append, List.flatMap_append, hj]
  exact Kq.here _ _
def subL {α : Type} (l : List α) (a b : Int) : List α := (l.drop a.toNat).take (b - a).toNat
theorem subL_length {α : Type} {l : List α} {a b : Int} (h : 0 ≤ a ∧ a ≤ b ∧ b ≤ (l.length : Int)) : (subL l a b).length = (b - a).toNat := by
  simp only [subL, List.length_take, List.length_drop]; omega
theorem slE_sub {α : Type} {c : Cd α} {l : List α} {a b : Int} (h : 0 ≤ a ∧ a ≤ b ∧ b ≤ (l.length : Int)) : E.sl c.sz (b - a).toNat (((l.flatMap c.f).drop (a.toNat * c.sz)).take ((b - a).toNat * c.sz)) = slE c (subL l a b) := by
  unfold slE
  rw [subL_length h, flat_drop c.f c.h, flat_take c.f c.h]; rfl
theorem T_sl {α : Type} {t e : TypeId} {i j : TyE} {c : Cd α} {l : List α} {n : Nat} {lo hi : Option Operand} {a b : Int} (hb : 0 ≤ a ∧ a ≤ b ∧ b ≤ (l.length : Int)) (ht : tb t = some i) (he : tb e = some j) (hi1 : i.ty = .slice e := by exact rfl) (hc : c.sz = j.size := by exact rfl) (hx : (ev x).asSl j.size = some (n, l.flatMap c.f) := by exact rfl) (hn : n = l.length := by exact rfl) (hlo : boundV (lo.map ev) 0 = fun k => k a := by exact rfl) (hhi : boundV (hi.map ev) n = fun k => k b := by exact rfl) : AVC P tb dr (.slice t x lo hi none) ty ev hp (Kq (dL c (subL l a b)) hp) := by
  subst hn
  rw [av_slice]
  unfold sliceV
  rw [ht]
  simp only [hi1, he, hx, hlo, hhi, Option.map_none]
  refine ⟨hb, ?_⟩
  rw [← hc, slE_sub hb]
  exact Kq.here _ _
theorem T_call {x : Operand} {f : FuncId} {az : List Operand} {ts : Array TypeId} {ds : List D} {r : D} (hev : ev x = .e (.lit (.func (.func f) #[] #[]))) (hc : PCalls P f ds r) (hp1 : ((az.map ev).map D.ex).all D.pure = true) (hl : leL ((az.map ev).map D.ex) ds) (hr : r.pure = true ∨ ∃ ds, r = .tu ds) : AVC P tb dr (.call ⟨.value x, az.toArray, ts⟩) ty ev hp (Kq r hp) := by
  show calleeV P (hvB tb ⟨.value x, az.toArray, ts⟩) (ev x) (az.toArray.toList.map ev) hp (Kq r hp)
  rw [hev]
  refine ⟨rfl, rfl, .inl ⟨hp1, r, PCalls.le hc hl, ?_⟩⟩
  unfold adoptV
  split
  · rcases hr with hr | ⟨_, hr⟩ <;> cases hr
  · rcases hr with hr | ⟨_, hr⟩ <;> cases hr
  · exact Kq.here _ _
theorem T_callO {vs : List (Nat × List D)} {lv : List (Nat × Nat × Nat × TypeId)} {N0 : Nat} {x : Operand} {f : FuncId} {az : List Operand} {ts : Array TypeId} {ds : List D} {e z n : Nat} {xs : List E} (hev : ev x = .e (.lit (.func (.func f) #[] #[]))) (hc : PCalls P f ds (.own e z n xs)) (hp1 : ((az.map ev).map D.ex).all D.pure = true) (hl : leL ((az.map ev).map D.ex) ds) : AVC P tb dr (.call ⟨.value x, az.toArray, ts⟩) ty ev ⟨vs, lv, N0⟩ (Kq (.own N0 z n xs) ⟨vs, (N0, n, z, e) :: lv, N0 + 1⟩) := by
  show calleeV P (hvB tb ⟨.value x, az.toArray, ts⟩) (ev x) (az.toArray.toList.map ev) _ _
  rw [hev]
  exact ⟨rfl, rfl, .inl ⟨hp1, _, PCalls.le hc hl, Kq.here _ _⟩⟩
end
section
variable {P : Program} {tb : TypeId → Option TyE} {x : Cx} {tm tm' : List (Nat × D)} {hp hp' : Hp} {Q : Exit → List (Nat × D) → Hp → Prop}
theorem own_mtG (w : World) (e : TypeId) (base size : Nat) (hb : base ≤ w.heap.size) : (w.alloc (.cells #[] e)).ownsRow base e size (.slice (some ⟨w.heap.size, 0, none⟩) 0 0) 0 [] :=
  ⟨by simp, .inr ⟨w.heap.size, 0, #[], rfl, hb, heap_alloc_new w _, Nat.le_refl _, by decide, by simp, by simp⟩⟩
theorem clone_of {f : FuncId} {e z n : Nat} {xs : List E} (hz : 0 < z) (hf : FnOk P f) (h : ∀ (us : List Value) (v : Value) (w : World), Sl w v z n us → (∀ u ∈ us, u.oneCell' = true) → Calls P f #[v] w fun en w' => ∃ q, en = .returned q ∧ w'.ownsRow w.heap.size e z q n us ∧ Below w.heap.size w w') : PCalls P f [.e (.sl z n xs)] (.own e z n xs) :=
  PCalls.of1 hf fun w F v hF hv => by
    have hv := hv.e_inv
    obtain ⟨us, hsl, hpw⟩ := sl_rep hv
    refine (h us v w hsl (fun u hu => by
      obtain ⟨j, hj⟩ := List.getElem?_of_mem hu
      have hlt : j < xs.length := by
        rw [hpw.1]
        rcases Nat.lt_or_ge j us.length with h | h
        · exact h
        · rw [List.getElem?_eq_none h] at hj; cases hj
      exact (hpw.2 j _ u (List.getElem?_eq_getElem hlt) hj).one)).mono ?_
    rintro en w' ⟨q, rfl, ho, hb⟩
    exact ⟨q, rfl, ⟨hz, ⟨us, ho⟩, own_rep hF hz ho hb hpw⟩, hb⟩
theorem AW.loopO {c : Code} {S X : Type} {b : S → Option (S ⊕ X)} (T : S → List (Nat × D)) (H : S → Hp) (QX : X → Exit → List (Nat × D) → Hp → Prop)
    (round : ∀ s y, b s = some y → AW P x c (T s) (H s) fun ex tm' hp' => match y with | .inl s' => ex = .normal ∧ Wk x tm' hp' (T s') (H s') | .inr e => ex ≠ .normal ∧ QX e ex tm' hp')
    {s : S} {e : X} (h : loopO b s = some e) (hw : Wk x tm hp (T s) (H s)) : AW P x (.loop c) tm hp (QX e) := by
  obtain ⟨n, hn⟩ := loopO_some.1 h
  refine AW.loop (fun n tm hp => ∃ s, tm = T s ∧ hp = H s ∧ loopN b n s = some e) (n := n) hw ⟨s, rfl, rfl, hn⟩ ?_
  rintro n tm hp ⟨s, rfl, rfl, hs⟩
  cases n with
  | zero => cases hs
  | succ n =>
    unfold loopN at hs
    split at hs
    · rename_i s' hb
      refine AW.mono (round s _ hb) ?_
      rintro ex tm' hp' ⟨rfl, hwk⟩
      exact ⟨n, _, _, Nat.lt_succ_self _, hwk, s', rfl, rfl, hs⟩
    · rename_i e' hb
      injection hs with hs
      subst hs
      refine AW.mono (round s _ hb) ?_
      rintro ex tm' hp' ⟨h1, h2⟩
      cases ex with
      | normal => exact absurd rfl h1
      | _ => exact h2
    · cases hs
def wkT (σ : Nat → Nat) (m : Nat) (tm : List (Nat × D)) : List (Nat × D) → Prop
  | [] => True
  | (t, d) :: l => ((∃ d0, tm.lookup t = some d0 ∧ d0.le (d.ren σ)) ∧ d.idsB m = true ∧ d.noOs = true) ∧ wkT σ m tm l
def wkV (σ : Nat → Nat) (m : Nat) (vs : List (Nat × List D)) : List (Nat × List D) → Prop
  | [] => True
  | (k, ds) :: l => (k < m ∧ (∃ ds0, vs.lookup (σ k) = some ds0 ∧ wksL ds0 (ds.map (D.renC σ))) ∧ ds.all (D.idsC m) = true ∧ ds.all D.noO = true) ∧ wkV σ m vs l
def wkL (σ : Nat → Nat) (m : Nat) (lv : List (Nat × Nat × Nat × TypeId)) : List (Nat × Nat × Nat × TypeId) → Prop
  | [] => True
  | (k, y) :: l => (k < m ∧ lv.lookup (σ k) = some y) ∧ wkL σ m lv l
theorem wkT_mem {σ : Nat → Nat} {m : Nat} : ∀ {l : List (Nat × D)}, wkT σ m tm l → ∀ p ∈ l, (∃ d0, tm.lookup p.1 = some d0 ∧ d0.le (p.2.ren σ)) ∧ p.2.idsB m = true ∧ p.2.noOs = true
  | _ :: _, h, _, .head _ => h.1
  | _ :: _, h, p, .tail _ hp => wkT_mem h.2 p hp
theorem wkV_mem {σ : Nat → Nat} {m : Nat} {vs : List (Nat × List D)} : ∀ {l : List (Nat × List D)}, wkV σ m vs l → ∀ p ∈ l, p.1 < m ∧ (∃ ds0, vs.lookup (σ p.1) = some ds0 ∧ wksL ds0 (p.2.map (D.renC σ))) ∧ p.2.all (D.idsC m) = true ∧ p.2.all D.noO = true
  | _ :: _, h, _, .head _ => h.1
  | _ :: _, h, p, .tail _ hp => wkV_mem h.2 p hp
theorem wkL_mem {σ : Nat → Nat} {m : Nat} {lv : List (Nat × Nat × Nat × TypeId)} : ∀ {l : List (Nat × Nat × Nat × TypeId)}, wkL σ m lv l → ∀ p ∈ l, p.1 < m ∧ lv.lookup (σ p.1) = some p.2
  | _ :: _, h, _, .head _ => h.1
  | _ :: _, h, p, .tail _ hp => wkL_mem h.2 p hp
theorem Wk.to {vars' : List (Nat × List D)} {live' : List (Nat × Nat × Nat × TypeId)} {m : Nat} (N0 : Nat) (os : List Nat) (h0 : x.hp0.next = N0) (hs : (os.all fun o => decide (N0 ≤ o)) = true) (hnd : os.Nodup) (hm : m = N0 + os.length)
    (ht : wkT (sg N0 os) m tm tm') (hv : wkV (sg N0 os) m hp.vars vars') (hl : wkL (sg N0 os) m hp.live live') : Wk x tm hp tm' ⟨vars', live', m⟩ := by
  have hs : ∀ o ∈ os, N0 ≤ o := by simpa using hs
  intro a w ⟨g, hr, htm, hsz, hdf, hB, hF, hM⟩
  subst h0 hm
  have hlive : ∀ id y, (⟨vars', live', x.hp0.next + os.length⟩ : Hp).live.lookup id = some y → hp.live.lookup (sg x.hp0.next os id) = some y := fun id y h => (wkL_mem hl _ (mem_of_lookup h)).2
  have hlt : ∀ i, i < x.hp0.next → sg x.hp0.next os i = i := fun i hi => by unfold sg; simp [hi]
  refine ⟨⟨fun i => g.μ (sg x.hp0.next os i), fun i => g.τ (sg x.hp0.next os i), g.F⟩, ⟨fun k ds hk => ?_, fun k k' ds ds' hk hk' he => ?_, fun id n e hi => ?_, fun id id' t t' b hi hi' hb hb' => ?_, hr.base, hr.fits⟩, fun t d h => ?_, hsz, hdf, hB, hF,
    ⟨hM.size, hM.cell, hM.forb, Nat.le_add_right _ _, fun k hk => by show g.μ _ = _; rw [hlt k hk]; exact hM.μ k hk, fun id hid n e hl' => ?_, fun b hb hf => ⟨(hM.fr b hb hf).1, (hM.fr b hb hf).2.1, fun k ds hk => by obtain ⟨_, ⟨_, h, _⟩, _⟩ := wkV_mem hv _ (mem_of_lookup hk); exact (hM.fr b hb hf).2.2.1 _ _ h, fun id t hi => (hM.fr b hb hf).2.2.2 _ t (hlive id _ hi)⟩, hM.szs⟩⟩
  · obtain ⟨h1, ⟨ds0, h2, h2'⟩, h3, h4⟩ := wkV_mem hv _ (mem_of_lookup hk)
    obtain ⟨_, h5, h6, cs, ty, h7, h8, h9⟩ := hr.var _ _ h2
    have h3' : ∀ d ∈ ds, D.idsC (x.hp0.next + os.length) d = true := by simpa using h3
    have h4' : ∀ d ∈ ds, D.noO d = true := by simpa using h4
    have h10 := wksL_len h2'
    refine ⟨h1, h5, h6, cs, ty, h7, by rw [List.length_map] at h10; have h11 : ds0.length = ds.length := h10.symm; omega, fun j u hu => ⟨fun h => (h9 j u hu).1 (by rw [List.length_map] at h10; have h11 : ds0.length = ds.length := h10.symm; have h12 : j < ds.length := h; omega), fun d hd => ?_⟩⟩
    obtain ⟨d0, hd0, hle⟩ := wksL_get h2' (j := j) (d' := d.renC (sg x.hp0.next os)) (by rw [List.getElem?_map, hd]; rfl)
    exact renC_rep (((h9 j u hu).2 d0 hd0).leC hle) (h3' d (List.mem_of_getElem? hd)) (h4' d (List.mem_of_getElem? hd)) rfl (fun _ => rfl) (fun _ => rfl) rfl hlive
  · obtain ⟨h1, ⟨_, h2, _⟩, _⟩ := wkV_mem hv _ (mem_of_lookup hk)
    obtain ⟨h1', ⟨_, h2', _⟩, _⟩ := wkV_mem hv _ (mem_of_lookup hk')
    exact sg_inj hs hnd h1 h1' (hr.inj _ _ _ _ h2 h2' he)
  · obtain ⟨h1, h2⟩ := wkL_mem hl _ (mem_of_lookup hi)
    obtain ⟨_, us, h3, h4, h5⟩ := hr.tok _ n e h2
    exact ⟨h1, us, h3, h4, fun b hb => ⟨(h5 b hb).1, fun k ds hk => by
      obtain ⟨_, ⟨_, h6, _⟩, _⟩ := wkV_mem hv _ (mem_of_lookup hk)
      exact (h5 b hb).2 _ _ h6⟩⟩
  · obtain ⟨h1, h2⟩ := wkL_mem hl _ (mem_of_lookup hi)
    obtain ⟨h1', h2'⟩ := wkL_mem hl _ (mem_of_lookup hi')
    exact sg_inj hs hnd h1 h1' (hr.tinj _ _ _ _ b h2 h2' hb hb')
  · obtain ⟨⟨d0, h1, hle⟩, h2, h3⟩ := wkT_mem ht _ (mem_of_lookup h)
    exact ren_rep ((htm t _ h1).le hle) h2 h3 rfl (fun _ => rfl) (fun _ => rfl) rfl hlive
  · obtain ⟨m0, h1, h2, h3⟩ := hM.live id hid n e (by rw [← hlt id hid]; exact hlive id _ hl')
    exact ⟨m0, h1, h2, fun h => by show g.τ _ = _; rw [hlt id hid]; exact h3 h⟩
theorem le_refl' (d : D) : d.le d := .inl (.inl rfl)
theorem le_eq {d d' : D} (h : d = d') : d.le d' := h ▸ le_refl' d
theorem le_ex (d : D) : d.le d.ex := .inr (.inl rfl)
theorem le_ag {ds ds' : List D} (h : wksL ds ds') : D.le (.ag ds) (.ag ds') := .inr (.inr ⟨ds, ds', rfl, rfl, h⟩)
theorem resD_t {t : Tmp} {d : D} {k : D → Prop} (h : tm.lookup t = some d) (hk : k d) : resD tb tm hp (.tmp t) k := ⟨d, h, hk⟩
theorem resD_a {p : Tmp} {ty : TypeId} {j off : Nat} {i : TyE} {ds es : List D} {k : D → Prop} (h : tm.lookup p = some (.pt j off)) (ht : tb ty = some i) (hg : i.ty.agg = true) (hv : hp.vars.lookup j = some ds) (hn : j < hp.next) (hl : off + i.size ≤ ds.length) (hd : (ds.drop off).take i.size = es) (hk : k (.ag es)) : resD tb tm hp (.cell p ty) k := by
  refine ⟨_, h, ⟨i, ht⟩, ?_⟩
  rw [loadV_pt, ht, hv]
  simp only [hg]
  exact ⟨hn, hl, by rw [hd]; exact hk⟩
theorem RetV.own {t : Tmp} {id e z n : Nat} {xs : List E} (h : tm.lookup t = some (.own id z n xs)) (hl : hp.live.lookup id = some (n, z, e)) : RetV tb [.tmp t] tm hp (.own e z n xs) := ⟨_, h, .inr (.inl ⟨id, e, z, n, xs, rfl, hl, rfl⟩)⟩
end
theorem pure_G {α : Type} (c : Cd α) (a : α) : (dG c a).pure = true := by
  show ((c.f a).map D.e).all D.pureC = true
  rw [List.all_map]; exact List.all_eq_true.2 fun _ _ => rfl
theorem whole_G {α : Type} (c : Cd α) (a : α) {z : Nat} (h : c.sz = z) : ((c.f a).drop 0).take z = c.f a := by
  rw [List.drop_zero, List.take_of_length_le (by rw [c.h, h]; exact Nat.le_refl _)]
theorem AW.scope {P : Program} {x : Cx} {Q : Exit → List (Nat × D) → Hp → Prop} {tm : List (Nat × D)} {hp : Hp} {c : Code} (h : AW P x c tm hp fun ex tm' hp' => match ex with | .goto _ => False | ex => Q ex tm' hp') : AW P x (.scope c) tm hp Q := by
  intro a w hr
  refine wp_scope_straight (wp_mono (h a w hr) ?_)
  rintro ex a' w' ⟨tm', hp', h1, h2⟩
  cases ex with
  | goto l => exact h2.elim
  | _ => exact ⟨tm', hp', h1, h2⟩
theorem AW.label {P : Program} {x : Cx} {Q : Exit → List (Nat × D) → Hp → Prop} {tm : List (Nat × D)} {hp : Hp} {l : Nat} (h : Q .normal tm hp) : AW P x (.label l) tm hp Q := fun _ _ hr => wp_label ⟨tm, hp, hr, h⟩
theorem wk {x : Cx} {tm tm' : List (Nat × D)} {hp : Hp} {vars' : List (Nat × List D)} {live' : List (Nat × Nat × Nat × TypeId)} {m : Nat} (h0 : x.hp0 = ⟨[], [], 0⟩) (os : List Nat) (ht : wkT (sg 0 os) m tm tm') (hv : wkV (sg 0 os) m hp.vars vars') (hl : wkL (sg 0 os) m hp.live live') (hnd : os.Nodup := by decide) (hm : m = 0 + os.length := by exact rfl) : Wk x tm hp tm' ⟨vars', live', m⟩ :=
  Wk.to 0 os (by rw [h0]) (by simp) hnd hm ht hv hl
theorem pure_ex_G {α : Type} (c : Cd α) (a : α) : (D.ex (dG c a)).pure = true := by
  have : D.ex (dG c a) = dG c a := by
    show D.ag (((c.f a).map D.e).map D.exC) = _
    rw [List.map_map]; rfl
  rw [this]; exact pure_G c a
section
variable {σ : Nat → Nat} {m k t : Nat} {tm l : List (Nat × D)} {d d0 d' : D} {ds ds0 ds' : List D} {vs lv : List (Nat × List D)} {ll l2 : List (Nat × Nat × Nat × TypeId)} {y : Nat × Nat × TypeId}
theorem wT (h1 : tm.lookup t = some d0) (h2 : d0.le (d.ren σ)) (h3 : d.idsB m = true) (h4 : d.noOs = true) (hl : wkT σ m tm l) : wkT σ m tm ((t, d) :: l) := ⟨⟨⟨_, h1, h2⟩, h3, h4⟩, hl⟩
theorem wR (h1 : tm.lookup t = some (d.ren σ)) (hl : wkT σ m tm l) (h3 : d.idsB m = true := by exact rfl) (h4 : d.noOs = true := by exact rfl) : wkT σ m tm ((t, d) :: l) := ⟨⟨⟨_, h1, le_refl' _⟩, h3, h4⟩, hl⟩
theorem vR (h1 : vs.lookup (σ k) = some (ds.map (D.renC σ))) (hl : wkV σ m vs lv) (h0 : Nat.ble (k + 1) m = true := by exact rfl) (h3 : ds.all (D.idsC m) = true := by exact rfl) (h4 : ds.all D.noO = true := by exact rfl) : wkV σ m vs ((k, ds) :: lv) := ⟨⟨ltb h0, ⟨_, h1, wksL_refl _⟩, h3, h4⟩, hl⟩
theorem wL (h0 : Nat.ble (k + 1) m = true) (h1 : ll.lookup (σ k) = some y) (hl : wkL σ m ll l2) : wkL σ m ll ((k, y) :: l2) := ⟨⟨ltb h0, h1⟩, hl⟩
theorem wc (h : d.leC d') (hl : wksL ds ds') : wksL (d :: ds) (d' :: ds') := ⟨h, hl⟩
theorem lc_r (d : D) : d.leC d := .inl rfl
theorem lc_x (d : D) : d.leC d.exC := .inr (.inl rfl)
theorem lc_n {z : Nat} (h : Nat.ble 1 z = true) : D.leC dN (.e (.sl z 0 [])) := .inr (.inr ⟨rfl, z, leb h, rfl⟩)
theorem wTn : wkT σ m tm [] := trivial
theorem wVn : wkV σ m vs [] := trivial
theorem wLn : wkL σ m ll [] := trivial
theorem wcn : wksL [] [] := trivial
theorem lAn : leL [] [] := trivial
theorem lA (h : d.le d') (hl : leL ds ds') : leL (d :: ds) (d' :: ds') := ⟨h, hl⟩
end
theorem RetV.mk1 {tb : TypeId → Option TyE} {tm : List (Nat × D)} {hp : Hp} {q : ResultVar} {r : D} (h : resD tb tm hp q fun d => (d.ex.pure = true ∧ r = d.ex) ∨ (∃ id e z n xs, d = .own id z n xs ∧ hp.live.lookup id = some (n, z, e) ∧ r = .own e z n xs) ∨ ∃ d2, d.le d2 ∧ d2.pure = true ∧ r = d2) : RetV tb [q] tm hp r := h
theorem RetV.mk2 {tb : TypeId → Option TyE} {tm : List (Nat × D)} {hp : Hp} {q q' : ResultVar} {r : D} (h : resD tb tm hp q fun d => resD tb tm hp q' fun d' => ((d.ex.pure = true ∧ d'.ex.pure = true) ∧ r = .tu [d.ex, d'.ex]) ∨ ∃ e e', d.le e ∧ d'.le e' ∧ (e.pure = true ∧ e'.pure = true) ∧ r = .tu [e, e']) : RetV tb [q, q'] tm hp r := h
theorem RetV.mk3 {tb : TypeId → Option TyE} {tm : List (Nat × D)} {hp : Hp} {q q' q'' : ResultVar} {r : D} (h : resD tb tm hp q fun d => resD tb tm hp q' fun d' => resD tb tm hp q'' fun d'' => ((d.ex.pure = true ∧ d'.ex.pure = true ∧ d''.ex.pure = true) ∧ r = .tu [d.ex, d'.ex, d''.ex]) ∨ ∃ e e' e'', d.le e ∧ d'.le e' ∧ d''.le e'' ∧ (e.pure = true ∧ e'.pure = true ∧ e''.pure = true) ∧ r = .tu [e, e', e'']) : RetV tb [q, q', q''] tm hp r := h
end
theorem lookup_filt {α : Type} {os : List Nat} {k : Nat} {y : α} : ∀ {l : List (Nat × α)}, (l.filter fun p => !os.contains p.1).lookup k = some y → k ∉ os ∧ l.lookup k = some y
  | [], h => by simp at h
  | (j, a) :: l, h => by
    by_cases hj : j ∈ os
    · rw [List.filter_cons_of_neg (by simpa using hj)] at h
      obtain ⟨h1, h2⟩ := lookup_filt h
      exact ⟨h1, (lookup_cons_ne fun e => h1 (by rw [e]; exact hj)).trans h2⟩
    · rw [List.filter_cons_of_pos (by simpa using hj)] at h
      by_cases hk : k = j
      · subst hk
        exact ⟨hj, by rw [← h, lookup_cons_eq, lookup_cons_eq]⟩
      · obtain ⟨h1, h2⟩ := lookup_filt (l := l) (by rw [← h]; exact (lookup_cons_ne hk).symm)
        exact ⟨h1, (lookup_cons_ne hk).trans h2⟩
section
section
variable {P : Program} {tb : TypeId → Option TyE} {dr : Bool} {ty : TypeId} {ev : Operand → D} {σ : Nat → Nat} {d e : D} {ds es : List D}
theorem grow_of {f : FuncId} {e z : Nat} {n : Int} (hz : 0 < z) (hf : FnOk P f) (h : ∀ w : World, Calls P f #[.slice none 0 0, .int .i64 n] w fun en w' => ∃ q, en = .returned q ∧ w'.ownsRow w.heap.size e z q 0 [] ∧ Below w.heap.size w w') : PCalls P f [dN, dI .i64 n] (.own e z 0 []) := by
  refine ⟨hf, fun w F vs hTT hF hsz hvs => ?_⟩
  obtain ⟨v, u, rfl⟩ : ∃ v u, vs = #[v, u] := by
    rcases vs with ⟨_ | ⟨v, _ | ⟨u, _ | ⟨x, l⟩⟩⟩⟩ <;> simp at hsz
    exact ⟨v, u, rfl⟩
  obtain rfl := (hvs 0 _ v rfl rfl).lit
  obtain rfl := (hvs 1 _ u rfl rfl).lit
  refine (h w).mono ?_
  rintro en w' ⟨q, rfl, ho, hb⟩
  exact ⟨q, rfl, ⟨hz, ⟨[], ho⟩, own_rep hF hz ho hb Pw.nil⟩, hb⟩
theorem run_append_empty {w : World} (t ty e : TypeId) (i : TypeInfo) (ht : P.underlying t = some (.slice e)) (hi : P.info? e = some i) (A A' : Option Addr) (n c : Nat) : (Builtin.append_ #[t, t] ty #[.slice A n n, .slice A' 0 c]).run P w = .ok (.slice A n n) w := by
  cases A' <;> cases A <;> simp [Builtin.append_, run_underlying ht, sizeOf, typeInfo, hi, Builtin.lenOf, Builtin.firstCells, storeCells, loadCells, loadCellsFrom]
theorem appE {md : Md} (tok : TOk P tb) {hp : Hp} {dst : Option Tmp} {ty2 : TypeId} {pos : String} {af : Array Edge} {gd : Option (Nat × Bool)} {x y : Operand} {t e' : TypeId} {ti j : TyE} {z n m : Nat} {xs ys : List E} (ht : tb t = some ti) (he : tb e' = some j) (hi : ti.ty = .slice e') (hx : ev x = .fu z n xs) (hy : (ev y).asSl j.size = some (m, ys)) (hm : m = 0) :
    SndQ P tb md ⟨dst, .call ⟨.builtin .append, #[x, y], #[t, t]⟩, ty2, pos, af, gd⟩ ev hp (.fu z n xs) hp := by
  subst hm
  obtain ⟨f, zz, hi1, _⟩ := tok.inf he
  refine (Snd.loud (OpOk.pure fun B g w a hr hxx => ?_) (fun _ => rfl) (fun _ => Fr.refl _)).q ?_
  · have e1 := hxx x (mem_ops_call (by simp))
    have e2 := hxx y (mem_ops_call (by simp))
    obtain ⟨A', c, hv, _⟩ := asSl_rep e2 hy
    rw [hx] at e1
    cases hax : a.eval x with
    | slice A n' c' =>
      rw [hax] at e1
      cases e1 with
      | fu _ _ _ _ hrep =>
        refine ⟨.slice A n n, ?_, .fu _ _ _ _ hrep⟩
        have := run_append_empty (w := w) t ty2 e' f (tok.slice ht hi) hi1 A A' n c
        simp [execOp, resolve, invoke, builtin, hax, hv, this]
    | _ => rw [hax] at e1; cases e1
  · cases md <;> rfl
end
end
set_option maxRecDepth 100000 in
def tblL : List (Nat × TyE) := [
  (2, ⟨.int .i64, 1, 8, [.int .i64 (0)]⟩),
  (3, ⟨.int .i64, 1, 8, [.int .i64 (0)]⟩),
  (4, ⟨.bool, 1, 1, [.bool false]⟩),
  (5, ⟨.int .u8, 1, 1, [.int .u8 (0)]⟩),
  (6, ⟨.int .u8, 1, 1, [.int .u8 (0)]⟩),
  (7, ⟨.struct [(0, 2), (1, 3), (2, 4), (3, 6)], 4, 24, [.int .i64 (0), .int .i64 (0), .bool false, .int .u8 (0)]⟩),
  (8, ⟨.struct [(0, 2), (1, 3), (2, 4), (3, 6)], 4, 24, [.int .i64 (0), .int .i64 (0), .bool false, .int .u8 (0)]⟩),
  (9, ⟨.str, 1, 16, [.string ⟨#[]⟩]⟩),
  (10, ⟨.str, 1, 16, [.string ⟨#[]⟩]⟩),
  (11, ⟨.str, 1, 16, [.string ⟨#[]⟩]⟩),
  (12, ⟨.int .u64, 1, 8, [.int .u64 (0)]⟩),
  (13, ⟨.struct [(0, 9), (1, 12)], 2, 24, [.string ⟨#[]⟩, .int .u64 (0)]⟩),
  (14, ⟨.struct [(0, 9), (1, 12)], 2, 24, [.string ⟨#[]⟩, .int .u64 (0)]⟩),
  (15, ⟨.other, 1, 8, [.pointer none]⟩),
  (16, ⟨.other, 1, 8, [.pointer none]⟩),
  (17, ⟨.other, 1, 8, [.pointer none]⟩),
  (18, ⟨.struct [(0, 17)], 1, 8, [.pointer none]⟩),
  (19, ⟨.struct [(0, 17)], 1, 8, [.pointer none]⟩),
  (21, ⟨.int .i32, 1, 4, [.int .i32 (0)]⟩),
  (22, ⟨.struct [(0, 3), (1, 3), (2, 9)], 3, 32, [.int .i64 (0), .int .i64 (0), .string ⟨#[]⟩]⟩),
  (23, ⟨.struct [(0, 3), (1, 3), (2, 9)], 3, 32, [.int .i64 (0), .int .i64 (0), .string ⟨#[]⟩]⟩),
  (24, ⟨.slice 5, 1, 24, [.slice none 0 0]⟩),
  (26, ⟨.int .i64, 1, 8, [.int .i64 (0)]⟩),
  (29, ⟨.struct [(0, 24), (1, 26)], 2, 32, [.slice none 0 0, .int .i64 (0)]⟩),
  (30, ⟨.struct [(0, 24), (1, 26)], 2, 32, [.slice none 0 0, .int .i64 (0)]⟩),
  (36, ⟨.slice 9, 1, 24, [.slice none 0 0]⟩),
  (37, ⟨.slice 51, 1, 24, [.slice none 0 0]⟩),
  (38, ⟨.struct [(0, 3), (1, 36), (2, 3), (3, 37)], 4, 64, [.int .i64 (0), .slice none 0 0, .int .i64 (0), .slice none 0 0]⟩),
  (39, ⟨.struct [(0, 3), (1, 36), (2, 3), (3, 37)], 4, 64, [.int .i64 (0), .slice none 0 0, .int .i64 (0), .slice none 0 0]⟩),
  (45, ⟨.slice 23, 1, 24, [.slice none 0 0]⟩),
  (50, ⟨.struct [(0, 3), (1, 9)], 2, 24, [.int .i64 (0), .string ⟨#[]⟩]⟩),
  (51, ⟨.struct [(0, 3), (1, 9)], 2, 24, [.int .i64 (0), .string ⟨#[]⟩]⟩),
  (58, ⟨.arr 16 5, 16, 16, [.int .u8 (0), .int .u8 (0), .int .u8 (0), .int .u8 (0), .int .u8 (0), .int .u8 (0), .int .u8 (0), .int .u8 (0), .int .u8 (0), .int .u8 (0), .int .u8 (0), .int .u8 (0), .int .u8 (0), .int .u8 (0), .int .u8 (0), .int .u8 (0)]⟩),
  (59, ⟨.arr 16 5, 16, 16, [.int .u8 (0), .int .u8 (0), .int .u8 (0), .int .u8 (0), .int .u8 (0), .int .u8 (0), .int .u8 (0), .int .u8 (0), .int .u8 (0), .int .u8 (0), .int .u8 (0), .int .u8 (0), .int .u8 (0), .int .u8 (0), .int .u8 (0), .int .u8 (0)]⟩),
  (69, ⟨.other, 1, 8, [.pointer none]⟩),
  (70, ⟨.other, 1, 8, [.nilFunc]⟩),
  (71, ⟨.other, 1, 8, [.nilFunc]⟩),
  (73, ⟨.struct [(0, 70), (1, 71)], 2, 16, [.nilFunc, .nilFunc]⟩),
  (75, ⟨.slice 73, 1, 24, [.slice none 0 0]⟩),
  (76, ⟨.slice 24, 1, 24, [.slice none 0 0]⟩),
  (78, ⟨.int .u64, 1, 8, [.int .u64 (0)]⟩),
  (79, ⟨.int .u64, 1, 8, [.int .u64 (0)]⟩),
  (80, ⟨.int .u32, 1, 4, [.int .u32 (0)]⟩),
  (81, ⟨.arr 8 80, 8, 32, [.int .u32 (0), .int .u32 (0), .int .u32 (0), .int .u32 (0), .int .u32 (0), .int .u32 (0), .int .u32 (0), .int .u32 (0)]⟩),
  (82, ⟨.arr 64 5, 64, 64, [.int .u8 (0), .int .u8 (0), .int .u8 (0), .int .u8 (0), .int .u8 (0), .int .u8 (0), .int .u8 (0), .int .u8 (0), .int .u8 (0), .int .u8 (0), .int .u8 (0), .int .u8 (0), .int .u8 (0), .int .u8 (0), .int .u8 (0), .int .u8 (0), .int .u8 (0), .int .u8 (0), .int .u8 (0), .int .u8 (0), .int .u8 (0), .int .u8 (0), .int .u8 (0), .int .u8 (0), .int .u8 (0), .int .u8 (0), .int .u8 (0), .int .u8 (0), .int .u8 (0), .int .u8 (0), .int .u8 (0), .int .u8 (0), .int .u8 (0), .int .u8 (0), .int .u8 (0), .int .u8 (0), .int .u8 (0), .int .u8 (0), .int .u8 (0), .int .u8 (0), .int .u8 (0), .int .u8 (0), .int .u8 (0), .int .u8 (0), .int .u8 (0), .int .u8 (0), .int .u8 (0), .int .u8 (0), .int .u8 (0), .int .u8 (0), .int .u8 (0), .int .u8 (0), .int .u8 (0), .int .u8 (0), .int .u8 (0), .int .u8 (0), .int .u8 (0), .int .u8 (0), .int .u8 (0), .int .u8 (0), .int .u8 (0), .int .u8 (0), .int .u8 (0), .int .u8 (0)]⟩),
  (83, ⟨.struct [(0, 81), (8, 82), (72, 78)], 73, 104, [.int .u32 (0), .int .u32 (0), .int .u32 (0), .int .u32 (0), .int .u32 (0), .int .u32 (0), .int .u32 (0), .int .u32 (0), .int .u8 (0), .int .u8 (0), .int .u8 (0), .int .u8 (0), .int .u8 (0), .int .u8 (0), .int .u8 (0), .int .u8 (0), .int .u8 (0), .int .u8 (0), .int .u8 (0), .int .u8 (0), .int .u8 (0), .int .u8 (0), .int .u8 (0), .int .u8 (0), .int .u8 (0), .int .u8 (0), .int .u8 (0), .int .u8 (0), .int .u8 (0), .int .u8 (0), .int .u8 (0), .int .u8 (0), .int .u8 (0), .int .u8 (0), .int .u8 (0), .int .u8 (0), .int .u8 (0), .int .u8 (0), .int .u8 (0), .int .u8 (0), .int .u8 (0), .int .u8 (0), .int .u8 (0), .int .u8 (0), .int .u8 (0), .int .u8 (0), .int .u8 (0), .int .u8 (0), .int .u8 (0), .int .u8 (0), .int .u8 (0), .int .u8 (0), .int .u8 (0), .int .u8 (0), .int .u8 (0), .int .u8 (0), .int .u8 (0), .int .u8 (0), .int .u8 (0), .int .u8 (0), .int .u8 (0), .int .u8 (0), .int .u8 (0), .int .u8 (0), .int .u8 (0), .int .u8 (0), .int .u8 (0), .int .u8 (0), .int .u8 (0), .int .u8 (0), .int .u8 (0), .int .u8 (0), .int .u64 (0)]⟩),
  (84, ⟨.struct [(0, 81), (8, 82), (72, 78)], 73, 104, [.int .u32 (0), .int .u32 (0), .int .u32 (0), .int .u32 (0), .int .u32 (0), .int .u32 (0), .int .u32 (0), .int .u32 (0), .int .u8 (0), .int .u8 (0), .int .u8 (0), .int .u8 (0), .int .u8 (0), .int .u8 (0), .int .u8 (0), .int .u8 (0), .int .u8 (0), .int .u8 (0), .int .u8 (0), .int .u8 (0), .int .u8 (0), .int .u8 (0), .int .u8 (0), .int .u8 (0), .int .u8 (0), .int .u8 (0), .int .u8 (0), .int .u8 (0), .int .u8 (0), .int .u8 (0), .int .u8 (0), .int .u8 (0), .int .u8 (0), .int .u8 (0), .int .u8 (0), .int .u8 (0), .int .u8 (0), .int .u8 (0), .int .u8 (0), .int .u8 (0), .int .u8 (0), .int .u8 (0), .int .u8 (0), .int .u8 (0), .int .u8 (0), .int .u8 (0), .int .u8 (0), .int .u8 (0), .int .u8 (0), .int .u8 (0), .int .u8 (0), .int .u8 (0), .int .u8 (0), .int .u8 (0), .int .u8 (0), .int .u8 (0), .int .u8 (0), .int .u8 (0), .int .u8 (0), .int .u8 (0), .int .u8 (0), .int .u8 (0), .int .u8 (0), .int .u8 (0), .int .u8 (0), .int .u8 (0), .int .u8 (0), .int .u8 (0), .int .u8 (0), .int .u8 (0), .int .u8 (0), .int .u8 (0), .int .u64 (0)]⟩),
  (87, ⟨.arr 32 5, 32, 32, [.int .u8 (0), .int .u8 (0), .int .u8 (0), .int .u8 (0), .int .u8 (0), .int .u8 (0), .int .u8 (0), .int .u8 (0), .int .u8 (0), .int .u8 (0), .int .u8 (0), .int .u8 (0), .int .u8 (0), .int .u8 (0), .int .u8 (0), .int .u8 (0), .int .u8 (0), .int .u8 (0), .int .u8 (0), .int .u8 (0), .int .u8 (0), .int .u8 (0), .int .u8 (0), .int .u8 (0), .int .u8 (0), .int .u8 (0), .int .u8 (0), .int .u8 (0), .int .u8 (0), .int .u8 (0), .int .u8 (0), .int .u8 (0)]⟩),
  (97, ⟨.arr 64 80, 64, 256, [.int .u32 (0), .int .u32 (0), .int .u32 (0), .int .u32 (0), .int .u32 (0), .int .u32 (0), .int .u32 (0), .int .u32 (0), .int .u32 (0), .int .u32 (0), .int .u32 (0), .int .u32 (0), .int .u32 (0), .int .u32 (0), .int .u32 (0), .int .u32 (0), .int .u32 (0), .int .u32 (0), .int .u32 (0), .int .u32 (0), .int .u32 (0), .int .u32 (0), .int .u32 (0), .int .u32 (0), .int .u32 (0), .int .u32 (0), .int .u32 (0), .int .u32 (0), .int .u32 (0), .int .u32 (0), .int .u32 (0), .int .u32 (0), .int .u32 (0), .int .u32 (0), .int .u32 (0), .int .u32 (0), .int .u32 (0), .int .u32 (0), .int .u32 (0), .int .u32 (0), .int .u32 (0), .int .u32 (0), .int .u32 (0), .int .u32 (0), .int .u32 (0), .int .u32 (0), .int .u32 (0), .int .u32 (0), .int .u32 (0), .int .u32 (0), .int .u32 (0), .int .u32 (0), .int .u32 (0), .int .u32 (0), .int .u32 (0), .int .u32 (0), .int .u32 (0), .int .u32 (0), .int .u32 (0), .int .u32 (0), .int .u32 (0), .int .u32 (0), .int .u32 (0), .int .u32 (0)]⟩),
  (99, ⟨.arr 4 80, 4, 16, [.int .u32 (0), .int .u32 (0), .int .u32 (0), .int .u32 (0)]⟩),
  (100, ⟨.slice 80, 1, 24, [.slice none 0 0]⟩),
  (105, ⟨.struct [(0, 17), (1, 17), (2, 17), (3, 9)], 4, 40, [.pointer none, .pointer none, .pointer none, .string ⟨#[]⟩]⟩),
  (106, ⟨.struct [(0, 17), (1, 17), (2, 17), (3, 9)], 4, 40, [.pointer none, .pointer none, .pointer none, .string ⟨#[]⟩]⟩),
  (107, ⟨.arr 0 16, 0, 0, []⟩),
  (108, ⟨.struct [(0, 107)], 0, 0, []⟩),
  (109, ⟨.struct [(0, 107)], 0, 0, []⟩),
  (111, ⟨.int .u8, 1, 1, [.int .u8 (0)]⟩),
  (112, ⟨.int .u8, 1, 1, [.int .u8 (0)]⟩),
  (113, ⟨.other, 1, 8, [.nilFunc]⟩),
  (114, ⟨.other, 1, 8, [.pointer none]⟩),
  (115, ⟨.int .i32, 1, 4, [.int .i32 (0)]⟩),
  (116, ⟨.int .i32, 1, 4, [.int .i32 (0)]⟩),
  (118, ⟨.struct [(0, 12), (1, 12), (2, 80), (3, 111), (4, 5), (5, 5), (6, 112), (7, 113), (8, 114), (9, 115), (10, 116)], 11, 48, [.int .u64 (0), .int .u64 (0), .int .u32 (0), .int .u8 (0), .int .u8 (0), .int .u8 (0), .int .u8 (0), .nilFunc, .pointer none, .int .i32 (0), .int .i32 (0)]⟩),
  (119, ⟨.other, 1, 8, [.pointer none]⟩)
]
def tbl (t : TypeId) : Option TyE := tblL.lookup t
set_option maxRecDepth 100000 in
theorem tb_2 : tbl 2 = some ⟨.int .i64, 1, 8, [.int .i64 (0)]⟩ := rfl
set_option maxRecDepth 100000 in
theorem tb_3 : tbl 3 = some ⟨.int .i64, 1, 8, [.int .i64 (0)]⟩ := rfl
set_option maxRecDepth 100000 in
theorem tb_4 : tbl 4 = some ⟨.bool, 1, 1, [.bool false]⟩ := rfl
set_option maxRecDepth 100000 in
theorem tb_5 : tbl 5 = some ⟨.int .u8, 1, 1, [.int .u8 (0)]⟩ := rfl
set_option maxRecDepth 100000 in
theorem tb_6 : tbl 6 = some ⟨.int .u8, 1, 1, [.int .u8 (0)]⟩ := rfl
set_option maxRecDepth 100000 in
theorem tb_7 : tbl 7 = some ⟨.struct [(0, 2), (1, 3), (2, 4), (3, 6)], 4, 24, [.int .i64 (0), .int .i64 (0), .bool false, .int .u8 (0)]⟩ := rfl
set_option maxRecDepth 100000 in
theorem tb_8 : tbl 8 = some ⟨.struct [(0, 2), (1, 3), (2, 4), (3, 6)], 4, 24, [.int .i64 (0), .int .i64 (0), .bool false, .int .u8 (0)]⟩ := rfl
set_option maxRecDepth 100000 in
theorem tb_9 : tbl 9 = some ⟨.str, 1, 16, [.string ⟨#[]⟩]⟩ := rfl
set_option maxRecDepth 100000 in
theorem tb_10 : tbl 10 = some ⟨.str, 1, 16, [.string ⟨#[]⟩]⟩ := rfl
set_option maxRecDepth 100000 in
theorem tb_11 : tbl 11 = some ⟨.str, 1, 16, [.string ⟨#[]⟩]⟩ := rfl
set_option maxRecDepth 100000 in
theorem tb_12 : tbl 12 = some ⟨.int .u64, 1, 8, [.int .u64 (0)]⟩ := rfl
set_option maxRecDepth 100000 in
theorem tb_13 : tbl 13 = some ⟨.struct [(0, 9), (1, 12)], 2, 24, [.string ⟨#[]⟩, .int .u64 (0)]⟩ := rfl
set_option maxRecDepth 100000 in
theorem tb_14 : tbl 14 = some ⟨.struct [(0, 9), (1, 12)], 2, 24, [.string ⟨#[]⟩, .int .u64 (0)]⟩ := rfl
set_option maxRecDepth 100000 in
theorem tb_15 : tbl 15 = some ⟨.other, 1, 8, [.pointer none]⟩ := rfl
set_option maxRecDepth 100000 in
theorem tb_16 : tbl 16 = some ⟨.other, 1, 8, [.pointer none]⟩ := rfl
set_option maxRecDepth 100000 in
theorem tb_17 : tbl 17 = some ⟨.other, 1, 8, [.pointer none]⟩ := rfl
set_option maxRecDepth 100000 in
theorem tb_18 : tbl 18 = some ⟨.struct [(0, 17)], 1, 8, [.pointer none]⟩ := rfl
set_option maxRecDepth 100000 in
theorem tb_19 : tbl 19 = some ⟨.struct [(0, 17)], 1, 8, [.pointer none]⟩ := rfl
set_option maxRecDepth 100000 in
theorem tb_21 : tbl 21 = some ⟨.int .i32, 1, 4, [.int .i32 (0)]⟩ := rfl
set_option maxRecDepth 100000 in
theorem tb_22 : tbl 22 = some ⟨.struct [(0, 3), (1, 3), (2, 9)], 3, 32, [.int .i64 (0), .int .i64 (0), .string ⟨#[]⟩]⟩ := rfl
set_option maxRecDepth 100000 in
theorem tb_23 : tbl 23 = some ⟨.struct [(0, 3), (1, 3), (2, 9)], 3, 32, [.int .i64 (0), .int .i64 (0), .string ⟨#[]⟩]⟩ := rfl
set_option maxRecDepth 100000 in
theorem tb_24 : tbl 24 = some ⟨.slice 5, 1, 24, [.slice none 0 0]⟩ := rfl
set_option maxRecDepth 100000 in
theorem tb_26 : tbl 26 = some ⟨.int .i64, 1, 8, [.int .i64 (0)]⟩ := rfl
set_option maxRecDepth 100000 in
theorem tb_29 : tbl 29 = some ⟨.struct [(0, 24), (1, 26)], 2, 32, [.slice none 0 0, .int .i64 (0)]⟩ := rfl
set_option maxRecDepth 100000 in
theorem tb_30 : tbl 30 = some ⟨.struct [(0, 24), (1, 26)], 2, 32, [.slice none 0 0, .int .i64 (0)]⟩ := rfl
set_option maxRecDepth 100000 in
theorem tb_36 : tbl 36 = some ⟨.slice 9, 1, 24, [.slice none 0 0]⟩ := rfl
set_option maxRecDepth 100000 in
theorem tb_37 : tbl 37 = some ⟨.slice 51, 1, 24, [.slice none 0 0]⟩ := rfl
set_option maxRecDepth 100000 in
theorem tb_38 : tbl 38 = some ⟨.struct [(0, 3), (1, 36), (2, 3), (3, 37)], 4, 64, [.int .i64 (0), .slice none 0 0, .int .i64 (0), .slice none 0 0]⟩ := rfl
set_option maxRecDepth 100000 in
theorem tb_39 : tbl 39 = some ⟨.struct [(0, 3), (1, 36), (2, 3), (3, 37)], 4, 64, [.int .i64 (0), .slice none 0 0, .int .i64 (0), .slice none 0 0]⟩ := rfl
set_option maxRecDepth 100000 in
theorem tb_45 : tbl 45 = some ⟨.slice 23, 1, 24, [.slice none 0 0]⟩ := rfl
set_option maxRecDepth 100000 in
theorem tb_50 : tbl 50 = some ⟨.struct [(0, 3), (1, 9)], 2, 24, [.int .i64 (0), .string ⟨#[]⟩]⟩ := rfl
set_option maxRecDepth 100000 in
theorem tb_51 : tbl 51 = some ⟨.struct [(0, 3), (1, 9)], 2, 24, [.int .i64 (0), .string ⟨#[]⟩]⟩ := rfl
set_option maxRecDepth 100000 in
theorem tb_58 : tbl 58 = some ⟨.arr 16 5, 16, 16, [.int .u8 (0), .int .u8 (0), .int .u8 (0), .int .u8 (0), .int .u8 (0), .int .u8 (0), .int .u8 (0), .int .u8 (0), .int .u8 (0), .int .u8 (0), .int .u8 (0), .int .u8 (0), .int .u8 (0), .int .u8 (0), .int .u8 (0), .int .u8 (0)]⟩ := rfl
set_option maxRecDepth 100000 in
theorem tb_59 : tbl 59 = some ⟨.arr 16 5, 16, 16, [.int .u8 (0), .int .u8 (0), .int .u8 (0), .int .u8 (0), .int .u8 (0), .int .u8 (0), .int .u8 (0), .int .u8 (0), .int .u8 (0), .int .u8 (0), .int .u8 (0), .int .u8 (0), .int .u8 (0), .int .u8 (0), .int .u8 (0), .int .u8 (0)]⟩ := rfl
set_option maxRecDepth 100000 in
theorem tb_69 : tbl 69 = some ⟨.other, 1, 8, [.pointer none]⟩ := rfl
set_option maxRecDepth 100000 in
theorem tb_70 : tbl 70 = some ⟨.other, 1, 8, [.nilFunc]⟩ := rfl
set_option maxRecDepth 100000 in
theorem tb_71 : tbl 71 = some ⟨.other, 1, 8, [.nilFunc]⟩ := rfl
set_option maxRecDepth 100000 in
theorem tb_73 : tbl 73 = some ⟨.struct [(0, 70), (1, 71)], 2, 16, [.nilFunc, .nilFunc]⟩ := rfl
set_option maxRecDepth 100000 in
theorem tb_75 : tbl 75 = some ⟨.slice 73, 1, 24, [.slice none 0 0]⟩ := rfl
set_option maxRecDepth 100000 in
theorem tb_76 : tbl 76 = some ⟨.slice 24, 1, 24, [.slice none 0 0]⟩ := rfl
set_option maxRecDepth 100000 in
theorem tb_78 : tbl 78 = some ⟨.int .u64, 1, 8, [.int .u64 (0)]⟩ := rfl
set_option maxRecDepth 100000 in
theorem tb_79 : tbl 79 = some ⟨.int .u64, 1, 8, [.int .u64 (0)]⟩ := rfl
set_option maxRecDepth 100000 in
theorem tb_80 : tbl 80 = some ⟨.int .u32, 1, 4, [.int .u32 (0)]⟩ := rfl
set_option maxRecDepth 100000 in
theorem tb_81 : tbl 81 = some ⟨.arr 8 80, 8, 32, [.int .u32 (0), .int .u32 (0), .int .u32 (0), .int .u32 (0), .int .u32 (0), .int .u32 (0), .int .u32 (0), .int .u32 (0)]⟩ := rfl
set_option maxRecDepth 100000 in
theorem tb_82 : tbl 82 = some ⟨.arr 64 5, 64, 64, [.int .u8 (0), .int .u8 (0), .int .u8 (0), .int .u8 (0), .int .u8 (0), .int .u8 (0), .int .u8 (0), .int .u8 (0), .int .u8 (0), .int .u8 (0), .int .u8 (0), .int .u8 (0), .int .u8 (0), .int .u8 (0), .int .u8 (0), .int .u8 (0), .int .u8 (0), .int .u8 (0), .int .u8 (0), .int .u8 (0), .int .u8 (0), .int .u8 (0), .int .u8 (0), .int .u8 (0), .int .u8 (0), .int .u8 (0), .int .u8 (0), .int .u8 (0), .int .u8 (0), .int .u8 (0), .int .u8 (0), .int .u8 (0), .int .u8 (0), .int .u8 (0), .int .u8 (0), .int .u8 (0), .int .u8 (0), .int .u8 (0), .int .u8 (0), .int .u8 (0), .int .u8 (0), .int .u8 (0), .int .u8 (0), .int .u8 (0), .int .u8 (0), .int .u8 (0), .int .u8 (0), .int .u8 (0), .int .u8 (0), .int .u8 (0), .int .u8 (0), .int .u8 (0), .int .u8 (0), .int .u8 (0), .int .u8 (0), .int .u8 (0), .int .u8 (0), .int .u8 (0), .int .u8 (0), .int .u8 (0), .int .u8 (0), .int .u8 (0), .int .u8 (0), .int .u8 (0)]⟩ := rfl
set_option maxRecDepth 100000 in
theorem tb_83 : tbl 83 = some ⟨.struct [(0, 81), (8, 82), (72, 78)], 73, 104, [.int .u32 (0), .int .u32 (0), .int .u32 (0), .int .u32 (0), .int .u32 (0), .int .u32 (0), .int .u32 (0), .int .u32 (0), .int .u8 (0), .int .u8 (0), .int .u8 (0), .int .u8 (0), .int .u8 (0), .int .u8 (0), .int .u8 (0), .int .u8 (0), .int .u8 (0), .int .u8 (0), .int .u8 (0), .int .u8 (0), .int .u8 (0), .int .u8 (0), .int .u8 (0), .int .u8 (0), .int .u8 (0), .int .u8 (0), .int .u8 (0), .int .u8 (0), .int .u8 (0), .int .u8 (0), .int .u8 (0), .int .u8 (0), .int .u8 (0), .int .u8 (0), .int .u8 (0), .int .u8 (0), .int .u8 (0), .int .u8 (0), .int .u8 (0), .int .u8 (0), .int .u8 (0), .int .u8 (0), .int .u8 (0), .int .u8 (0), .int .u8 (0), .int .u8 (0), .int .u8 (0), .int .u8 (0), .int .u8 (0), .int .u8 (0), .int .u8 (0), .int .u8 (0), .int .u8 (0), .int .u8 (0), .int .u8 (0), .int .u8 (0), .int .u8 (0), .int .u8 (0), .int .u8 (0), .int .u8 (0), .int .u8 (0), .int .u8 (0), .int .u8 (0), .int .u8 (0), .int .u8 (0), .int .u8 (0), .int .u8 (0), .int .u8 (0), .int .u8 (0), .int .u8 (0), .int .u8 (0), .int .u8 (0), .int .u64 (0)]⟩ := rfl
set_option maxRecDepth 100000 in
theorem tb_84 : tbl 84 = some ⟨.struct [(0, 81), (8, 82), (72, 78)], 73, 104, [.int .u32 (0), .int .u32 (0), .int .u32 (0), .int .u32 (0), .int .u32 (0), .int .u32 (0), .int .u32 (0), .int .u32 (0), .int .u8 (0), .int .u8 (0), .int .u8 (0), .int .u8 (0), .int .u8 (0), .int .u8 (0), .int .u8 (0), .int .u8 (0), .int .u8 (0), .int .u8 (0), .int .u8 (0), .int .u8 (0), .int .u8 (0), .int .u8 (0), .int .u8 (0), .int .u8 (0), .int .u8 (0), .int .u8 (0), .int .u8 (0), .int .u8 (0), .int .u8 (0), .int .u8 (0), .int .u8 (0), .int .u8 (0), .int .u8 (0), .int .u8 (0), .int .u8 (0), .int .u8 (0), .int .u8 (0), .int .u8 (0), .int .u8 (0), .int .u8 (0), .int .u8 (0), .int .u8 (0), .int .u8 (0), .int .u8 (0), .int .u8 (0), .int .u8 (0), .int .u8 (0), .int .u8 (0), .int .u8 (0), .int .u8 (0), .int .u8 (0), .int .u8 (0), .int .u8 (0), .int .u8 (0), .int .u8 (0), .int .u8 (0), .int .u8 (0), .int .u8 (0), .int .u8 (0), .int .u8 (0), .int .u8 (0), .int .u8 (0), .int .u8 (0), .int .u8 (0), .int .u8 (0), .int .u8 (0), .int .u8 (0), .int .u8 (0), .int .u8 (0), .int .u8 (0), .int .u8 (0), .int .u8 (0), .int .u64 (0)]⟩ := rfl
set_option maxRecDepth 100000 in
theorem tb_87 : tbl 87 = some ⟨.arr 32 5, 32, 32, [.int .u8 (0), .int .u8 (0), .int .u8 (0), .int .u8 (0), .int .u8 (0), .int .u8 (0), .int .u8 (0), .int .u8 (0), .int .u8 (0), .int .u8 (0), .int .u8 (0), .int .u8 (0), .int .u8 (0), .int .u8 (0), .int .u8 (0), .int .u8 (0), .int .u8 (0), .int .u8 (0), .int .u8 (0), .int .u8 (0), .int .u8 (0), .int .u8 (0), .int .u8 (0), .int .u8 (0), .int .u8 (0), .int .u8 (0), .int .u8 (0), .int .u8 (0), .int .u8 (0), .int .u8 (0), .int .u8 (0), .int .u8 (0)]⟩ := rfl
set_option maxRecDepth 100000 in
theorem tb_97 : tbl 97 = some ⟨.arr 64 80, 64, 256, [.int .u32 (0), .int .u32 (0), .int .u32 (0), .int .u32 (0), .int .u32 (0), .int .u32 (0), .int .u32 (0), .int .u32 (0), .int .u32 (0), .int .u32 (0), .int .u32 (0), .int .u32 (0), .int .u32 (0), .int .u32 (0), .int .u32 (0), .int .u32 (0), .int .u32 (0), .int .u32 (0), .int .u32 (0), .int .u32 (0), .int .u32 (0), .int .u32 (0), .int .u32 (0), .int .u32 (0), .int .u32 (0), .int .u32 (0), .int .u32 (0), .int .u32 (0), .int .u32 (0), .int .u32 (0), .int .u32 (0), .int .u32 (0), .int .u32 (0), .int .u32 (0), .int .u32 (0), .int .u32 (0), .int .u32 (0), .int .u32 (0), .int .u32 (0), .int .u32 (0), .int .u32 (0), .int .u32 (0), .int .u32 (0), .int .u32 (0), .int .u32 (0), .int .u32 (0), .int .u32 (0), .int .u32 (0), .int .u32 (0), .int .u32 (0), .int .u32 (0), .int .u32 (0), .int .u32 (0), .int .u32 (0), .int .u32 (0), .int .u32 (0), .int .u32 (0), .int .u32 (0), .int .u32 (0), .int .u32 (0), .int .u32 (0), .int .u32 (0), .int .u32 (0), .int .u32 (0)]⟩ := rfl
set_option maxRecDepth 100000 in
theorem tb_99 : tbl 99 = some ⟨.arr 4 80, 4, 16, [.int .u32 (0), .int .u32 (0), .int .u32 (0), .int .u32 (0)]⟩ := rfl
set_option maxRecDepth 100000 in
theorem tb_100 : tbl 100 = some ⟨.slice 80, 1, 24, [.slice none 0 0]⟩ := rfl
set_option maxRecDepth 100000 in
theorem tb_105 : tbl 105 = some ⟨.struct [(0, 17), (1, 17), (2, 17), (3, 9)], 4, 40, [.pointer none, .pointer none, .pointer none, .string ⟨#[]⟩]⟩ := rfl
set_option maxRecDepth 100000 in
theorem tb_106 : tbl 106 = some ⟨.struct [(0, 17), (1, 17), (2, 17), (3, 9)], 4, 40, [.pointer none, .pointer none, .pointer none, .string ⟨#[]⟩]⟩ := rfl
set_option maxRecDepth 100000 in
theorem tb_107 : tbl 107 = some ⟨.arr 0 16, 0, 0, []⟩ := rfl
set_option maxRecDepth 100000 in
theorem tb_108 : tbl 108 = some ⟨.struct [(0, 107)], 0, 0, []⟩ := rfl
set_option maxRecDepth 100000 in
theorem tb_109 : tbl 109 = some ⟨.struct [(0, 107)], 0, 0, []⟩ := rfl
set_option maxRecDepth 100000 in
theorem tb_111 : tbl 111 = some ⟨.int .u8, 1, 1, [.int .u8 (0)]⟩ := rfl
set_option maxRecDepth 100000 in
theorem tb_112 : tbl 112 = some ⟨.int .u8, 1, 1, [.int .u8 (0)]⟩ := rfl
set_option maxRecDepth 100000 in
theorem tb_113 : tbl 113 = some ⟨.other, 1, 8, [.nilFunc]⟩ := rfl
set_option maxRecDepth 100000 in
theorem tb_114 : tbl 114 = some ⟨.other, 1, 8, [.pointer none]⟩ := rfl
set_option maxRecDepth 100000 in
theorem tb_115 : tbl 115 = some ⟨.int .i32, 1, 4, [.int .i32 (0)]⟩ := rfl
set_option maxRecDepth 100000 in
theorem tb_116 : tbl 116 = some ⟨.int .i32, 1, 4, [.int .i32 (0)]⟩ := rfl
set_option maxRecDepth 100000 in
theorem tb_118 : tbl 118 = some ⟨.struct [(0, 12), (1, 12), (2, 80), (3, 111), (4, 5), (5, 5), (6, 112), (7, 113), (8, 114), (9, 115), (10, 116)], 11, 48, [.int .u64 (0), .int .u64 (0), .int .u32 (0), .int .u8 (0), .int .u8 (0), .int .u8 (0), .int .u8 (0), .nilFunc, .pointer none, .int .i32 (0), .int .i32 (0)]⟩ := rfl
set_option maxRecDepth 100000 in
theorem tb_119 : tbl 119 = some ⟨.other, 1, 8, [.pointer none]⟩ := rfl
def TOkL (P : Program) : List (Nat × TyE) → Prop
  | [] => True
  | (t, i) :: l => ((P.underlying t).map Ty.of = some i.ty ∧ (P.info? t).map (fun f => (f.size, f.bytes, f.zero.map fun v => (v.cells.toList, v.isAggV))) = some (i.size, i.bytes, some (i.zero, i.ty.agg)) ∧ i.zero.length = i.size ∧ i.zero.all Value.oneCell' = true) ∧ TOkL P l
theorem TOkL.get {P : Program} : ∀ {l : List (Nat × TyE)} {t : Nat} {i : TyE}, TOkL P l → l.lookup t = some i → (P.underlying t).map Ty.of = some i.ty ∧ (P.info? t).map (fun f => (f.size, f.bytes, f.zero.map fun v => (v.cells.toList, v.isAggV))) = some (i.size, i.bytes, some (i.zero, i.ty.agg)) ∧ i.zero.length = i.size ∧ i.zero.all Value.oneCell' = true
  | [], t, i, _, h => by simp at h
  | (s, j) :: l, t, i, h, hl => by
    by_cases hts : t = s
    · subst hts
      have : some j = some i := by rw [← hl]; exact lookup_cons_eq.symm
      injection this with this
      subst this
      exact h.1
    · exact TOkL.get h.2 (by rw [← hl]; exact (lookup_cons_ne hts).symm)
set_option maxRecDepth 100000 in
theorem tokL : TOkL Tryd.prog tblL := by
  iterate 64 refine ⟨⟨by kernel_rfl, by kernel_rfl, by kernel_rfl, by kernel_rfl⟩, ?_⟩
  exact trivial
theorem tok : TOk Tryd.prog tbl := fun _ _ h => tokL.get h
section
section
variable {md : Md} {ops : Array Oper} {K : List (Nat × D) → Hp → Prop} {os : List Oper} {tm : List (Nat × D)} {hp hp' : Hp} {t s : Tmp} {op : Op} {ty : TypeId} {pos : String} {af : Array Edge} {d d2 : D} {j : Nat} {want c : Bool}
theorem s1 (h : AVC Tryd.prog tbl md.dr op ty (evD tm) hp (Kq d hp')) (h2 : SOps Tryd.prog tbl md ops K os ((t, d) :: tm) hp') (hn : md.nc tbl op = true := by exact rfl) : SOps Tryd.prog tbl md ops K (⟨some t, op, ty, pos, af, none⟩ :: os) tm hp := st tok hn h h2
theorem s0 (h : AVC Tryd.prog tbl md.dr op ty (evD tm) hp (Kq d hp')) (h2 : SOps Tryd.prog tbl md ops K os tm hp') (hn : md.nc tbl op = true := by exact rfl) : SOps Tryd.prog tbl md ops K (⟨none, op, ty, pos, af, none⟩ :: os) tm hp := st_n tok hn h h2
theorem s2 (h : AVC Tryd.prog tbl md.dr op ty (evD tm) hp (Kq d hp')) (hl : d.le d2) (h2 : SOps Tryd.prog tbl md ops K os ((t, d2) :: tm) hp') (hn : md.nc tbl op = true := by exact rfl) : SOps Tryd.prog tbl md ops K (⟨some t, op, ty, pos, af, none⟩ :: os) tm hp := st_le tok hn h hl h2
theorem g1 (hw : c = want) (h : AVC Tryd.prog tbl md.dr op ty (evD tm) hp (Kq d hp')) (h2 : SOps Tryd.prog tbl md ops K os ((t, d) :: tm) hp') (hj : (ops[j]?).bind (·.dst) = some s := by exact rfl) (hc : tm.lookup s = some (.e (.lit (.bool c))) := by exact rfl) (hn : md.nc tbl op = true := by exact rfl) : SOps Tryd.prog tbl md ops K (⟨some t, op, ty, pos, af, some (j, want)⟩ :: os) tm hp := go_t tok hn hj hc hw h h2
theorem sEm {α : Type} {c0 : Cd α} {x y : Operand} {tt e' : TypeId} {ti i : TyE} {z n : Nat} {xs : List E} {l : List α} (ht : tbl tt = some ti) (he : tbl e' = some i) (hm : decide (0 < l.length) = false) (h2 : SOps Tryd.prog tbl md ops K os ((t, .fu z n xs) :: tm) hp) (hi : ti.ty = .slice e' := by exact rfl) (hx : evD tm x = .fu z n xs := by exact rfl) (hy : (evD tm y).asSl i.size = some (l.length, l.flatMap c0.f) := by exact rfl) :
    SOps Tryd.prog tbl md ops K (⟨some t, .call ⟨.builtin .append, #[x, y], #[tt, tt]⟩, ty, pos, af, none⟩ :: os) tm hp := st_Q rfl (appE tok ht he hi hx hy (by have := of_decide_eq_false hm; omega)) h2
variable {x : Cx} {Q : Exit → List (Nat × D) → Hp → Prop}
theorem rg {n id : Nat} {l : List Oper} (hx : x.N = n) (hN : dstOK n l.toArray = true) (h : ∀ K : List (Nat × D) → Hp → Prop, (∀ tm hp, Q .normal tm hp → K tm hp) → SOps Tryd.prog tbl .seq l.toArray K l tm hp) : AW Tryd.prog x (.region id l.toArray false) tm hp Q := AW.regS tbl (by rw [hx]; exact hN) h
theorem rd {n id : Nat} {l : List Oper} (L : List FuncId) (hx : x.N = n) (hN : dstOK n l.toArray = true) (hord : ordOK tbl L l.toArray = true) (h : ∀ K : List (Nat × D) → Hp → Prop, (∀ tm hp, Q .normal tm hp → K tm hp) → SOps Tryd.prog tbl (.any L) l.toArray K l tm hp) : AW Tryd.prog x (.region id l.toArray true) tm hp Q := AW.drwS tbl L (by kernel_rfl) (by rw [hx]; exact hN) hord h
def PE (x : Cx) {S : Type} (e : Exit) (T : S → List (Nat × D)) (H : S → Hp) (y : S) (ex : Exit) (tm : List (Nat × D)) (hp : Hp) : Prop := ex = e ∧ Wk x tm hp (T y) (H y)
def PR (rs : List ResultVar) {R : Type} (dR : R → D) (y : R) (ex : Exit) (tm : List (Nat × D)) (hp : Hp) : Prop := ex = .ret ∧ RetV tbl rs tm hp (dR y)
def PS {A B : Type} (p : A → Exit → List (Nat × D) → Hp → Prop) (q : B → Exit → List (Nat × D) → Hp → Prop) (y : A ⊕ B) (ex : Exit) (tm : List (Nat × D)) (hp : Hp) : Prop := match y with | .inl a => p a ex tm hp | .inr b => q b ex tm hp
theorem PS.l {A B : Type} {p : A → Exit → List (Nat × D) → Hp → Prop} {q : B → Exit → List (Nat × D) → Hp → Prop} {a : A} {ex : Exit} (h : p a ex tm hp) : PS p q (.inl a) ex tm hp := h
theorem PS.r {A B : Type} {p : A → Exit → List (Nat × D) → Hp → Prop} {q : B → Exit → List (Nat × D) → Hp → Prop} {b : B} {ex : Exit} (h : q b ex tm hp) : PS p q (.inr b) ex tm hp := h
theorem PE.i {S : Type} {e : Exit} {T : S → List (Nat × D)} {H : S → Hp} {y : S} (hw : Wk x tm hp (T y) (H y)) : PE x e T H y e tm hp := ⟨rfl, hw⟩
theorem PR.i {rs : List ResultVar} {R : Type} {dR : R → D} {y : R} (hw : RetV tbl rs tm hp (dR y)) : PR rs dR y .ret tm hp := ⟨rfl, hw⟩
theorem jn {c : Code} {Q' : Exit → List (Nat × D) → Hp → Prop} (Q : Exit → List (Nat × D) → Hp → Prop) (h : AW Tryd.prog x c tm hp Q) (hq : ∀ ex tm hp, Q ex tm hp → Q' ex tm hp) : AW Tryd.prog x c tm hp Q' := AW.mono h hq
theorem lp {c : Code} {S X : Type} {b : S → Option (S ⊕ X)} {Q : Exit → List (Nat × D) → Hp → Prop} {s : S} {e : X} (T : S → List (Nat × D)) (H : S → Hp) (QX : X → Exit → List (Nat × D) → Hp → Prop) (h : loopO b s = some e) (hw : Wk x tm hp (T s) (H s))
    (round : ∀ s y, b s = some y → AW Tryd.prog x c (T s) (H s) (PS (PE x .normal T H) (fun e ex tm hp => ex ≠ .normal ∧ QX e ex tm hp) y)) (hq : ∀ ex tm hp, QX e ex tm hp → Q ex tm hp) : AW Tryd.prog x (.loop c) tm hp Q :=
  AW.mono (AW.loopO T H QX (fun s y hy => AW.mono (round s y hy) fun ex tm' hp' h => by cases y <;> exact h) h hw) hq
end
end
structure S_Held where
  vSeq : Int
  vData : ByteArray
  deriving Inhabited, DecidableEq
def c_Held : Cd S_Held := ⟨2, fun x => [.lit (.int .i64 x.vSeq), .lit (.string x.vData)], fun _ => rfl⟩
structure S_End where
  vBase : Int
  vQueue : List ByteArray
  vWant : Int
  vHeld : List S_Held
  deriving Inhabited, DecidableEq
def c_End : Cd S_End := ⟨4, fun x => [.lit (.int .i64 x.vBase), slE cS x.vQueue, .lit (.int .i64 x.vWant), slE c_Held x.vHeld], fun _ => rfl⟩
structure S_Frame where
  vSeq : Int
  vAck : Int
  vData : ByteArray
  deriving Inhabited, DecidableEq
def c_Frame : Cd S_Frame := ⟨3, fun x => [.lit (.int .i64 x.vSeq), .lit (.int .i64 x.vAck), .lit (.string x.vData)], fun _ => rfl⟩
theorem eqF_Frame (x : S_Frame) : fitT tbl 6 23 [.int .i64 x.vSeq, .int .i64 x.vAck, .string x.vData] := by simp [fitT, fitFs, tb_3, tb_23, tb_9]
theorem eqI_Frame (x y : S_Frame) : ([.int .i64 x.vSeq, .int .i64 x.vAck, .string x.vData] : List Value) = [.int .i64 y.vSeq, .int .i64 y.vAck, .string y.vData] ↔ x = y := by cases x; cases y; simp [and_assoc]
theorem eqF_Held (x : S_Held) : fitT tbl 6 51 [.int .i64 x.vSeq, .string x.vData] := by simp [fitT, fitFs, tb_3, tb_51, tb_9]
theorem eqI_Held (x y : S_Held) : ([.int .i64 x.vSeq, .string x.vData] : List Value) = [.int .i64 y.vSeq, .string y.vData] ↔ x = y := by cases x; cases y; simp [and_assoc]
theorem el_slices_Clone_api_Held_api_Held : El Tryd.prog 37 51 (.agg #[.int .i64 (0), .string ⟨#[]⟩]) 2 24 := ⟨Tryd.underlying37, info_parts (by kernel_rfl), rfl, by decide⟩
set_option maxHeartbeats 1000000 in
set_option maxRecDepth 100000 in
theorem wr_slices_Clone_api_Held_api_Held (n : Nat) (us : List Value) (v : Value) (w : World) (hl : Sl w v 2 n us) (h1 : ∀ u ∈ us, u.oneCell' = true) (hn : n ≤ 1000000) :
    Calls Tryd.prog 35 #[v] w fun e w' => ∃ q, e = .returned q ∧ w'.ownsRow w.heap.size 51 2 q n us ∧ Below w.heap.size w w' := by
  obtain ⟨A, c, rfl, hnc, hcm, hr⟩ := id hl
  cases A with
  | none =>
    obtain rfl : n = 0 := by
      rcases Nat.eq_zero_or_pos n with h | h
      · exact h
      · obtain ⟨_, h, _⟩ := hr.2 h; cases h
    obtain rfl : us = [] := List.eq_nil_of_length_eq_zero (by simpa using hr.1)
    have he : (binOp .eql 37 (.slice none 0 c) (.slice none 0 0)).run Tryd.prog w = .ok (.bool true) w := by kernel_rfl
    go_enter Tryd.func35, Tryd.ntmps35
    go_wp2_with fail
    go_ret
    exact ⟨_, rfl, ⟨rfl, .inl ⟨rfl, rfl⟩⟩, Below.refl _ _⟩
  | some ad =>
    have he : (binOp .eql 37 (.slice (some ad) n c) (.slice none 0 0)).run Tryd.prog w = .ok (.bool false) w := by kernel_rfl
    go_enter Tryd.func35, Tryd.ntmps35
    have hown0 := own_mtG w 51 w.heap.size 2 (Nat.le_refl _)
    have hB0 := (Below.refl w.heap.size w).alloc (Nat.le_refl _) (.cells #[] 51)
    have hl2 := hl.below hB0
    have HL := Lib.hid hl2
    have H1 := Lib.hid h1
    clear hl hr hl2 h1
    go_wp2_with (at_builtin; refine wpList_append_all _ rfl _ _ _ rfl el_slices_Clone_api_Held_api_Held w.heap.size _ _ _ rfl hown0 _ _ _ rfl HL.out H1.out (by omega) (by omega) (by simp) w w.heap.size hB0 (Nat.le_refl _) ?_)
    intro v' w' hown hb
    go_wp2_with fail
    go_ret
    refine ⟨_, rfl, ?_, hb⟩
    simpa using hown
theorem wa_slices_Clone_api_Held_api_Held (n : Nat) (xs : List E) (hn : n ≤ 1000000) : PCalls Tryd.prog 35 [.e (.sl 2 n xs)] (.own 51 2 n xs) :=
  clone_of (by decide) ⟨_, Tryd.func35, rfl, rfl⟩ (fun us v w h1 h2 => wr_slices_Clone_api_Held_api_Held n us v w h1 h2 hn)
noncomputable def g_link_New  : Option S_End := some (⟨(1 : Int), ([] : List ByteArray), (1 : Int), ([] : List S_Held)⟩ : S_End)
theorem w_link_New  {r : S_End} (h : g_link_New = some r) : PCalls Tryd.prog 10 [] (.ag [dI .i64 r.vBase, dN, dI .i64 r.vWant, dN]) := by
  refine PCalls.of (rs := [.cell 0 39]) tok Tryd.func10 rfl rfl (Nat.le_of_ble_eq_true rfl) rfl (fun cx hx h0 => ?_)
  simp only [argsT, Nat.reduceAdd, Nat.zero_add]
  unfold g_link_New at h
  refine AW.seq ?_
  refine rg hx (by kernel_rfl) fun K hK => ?_
  refine s1 (d := .pt 0 0) (T_alloc tb_39) ?_
  refine .nil (hK _ _ ?_)
  refine AW.seq ?_
  refine rg hx (by kernel_rfl) fun K hK => ?_
  refine s1 (d := .ag [dI .i64 (1 : Int), dN, dI .i64 (1 : Int), dN]) (T_build tb_39) ?_
  refine s0 (T_st (ds' := [dI .i64 (1 : Int), dN, dI .i64 (1 : Int), dN]) tb_39) ?_
  refine .nil (hK _ _ ?_)
  refine AW.ret ?_
  obtain rfl := Option.some.inj h
  exact RetV.mk1 (resD_a (es := [dI .i64 (1 : Int), dN, dI .i64 (1 : Int), dN]) rfl tb_39 rfl rfl (ltb rfl) (leb rfl) rfl (.inr (.inr ⟨_, (le_ag (wc (lc_r _) (wc (lc_r _) (wc (lc_r _) (wc (lc_r _) wcn))))), rfl, rfl⟩)))
noncomputable def g_link_short (p_s : ByteArray) : Option Bool := some (decide ((p_s.size : Int) ≤ (4096 : Int)))
theorem w_link_short {p_s : ByteArray} {r : Bool} (h : g_link_short p_s = some r) : PCalls Tryd.prog 33 [dS p_s] (dB r) := by
  refine PCalls.of (rs := [.tmp 2]) tok Tryd.func33 rfl rfl (Nat.le_of_ble_eq_true rfl) rfl (fun cx hx h0 => ?_)
  simp only [argsT, Nat.reduceAdd, Nat.zero_add]
  unfold g_link_short at h
  refine AW.seq ?_
  refine rg hx (by kernel_rfl) fun K hK => ?_
  refine s1 (d := dB false) T_asg ?_
  refine .nil (hK _ _ ?_)
  refine AW.seq ?_
  refine rg hx (by kernel_rfl) fun K hK => ?_
  refine s1 T_mv ?_
  refine s1 (d := dI .i64 (p_s.size : Int)) (T_lenS tb_9) ?_
  refine s1 T_leq ?_
  refine s1 T_as ?_
  refine .nil (hK _ _ ?_)
  refine AW.ret ?_
  obtain rfl := Option.some.inj h
  exact RetV.mk1 (resD_t rfl (.inr (.inr ⟨_, (le_refl' _), rfl, rfl⟩)))
theorem el_slices_Clone_string_string : El Tryd.prog 36 9 (.string ⟨#[]⟩) 1 16 := ⟨Tryd.underlying36, info_parts (by kernel_rfl), rfl, by decide⟩
set_option maxHeartbeats 1000000 in
set_option maxRecDepth 100000 in
theorem wr_slices_Clone_string_string (n : Nat) (us : List Value) (v : Value) (w : World) (hl : Sl w v 1 n us) (h1 : ∀ u ∈ us, u.oneCell' = true) (hn : n ≤ 1000000) :
    Calls Tryd.prog 34 #[v] w fun e w' => ∃ q, e = .returned q ∧ w'.ownsRow w.heap.size 9 1 q n us ∧ Below w.heap.size w w' := by
  obtain ⟨A, c, rfl, hnc, hcm, hr⟩ := id hl
  cases A with
  | none =>
    obtain rfl : n = 0 := by
      rcases Nat.eq_zero_or_pos n with h | h
      · exact h
      · obtain ⟨_, h, _⟩ := hr.2 h; cases h
    obtain rfl : us = [] := List.eq_nil_of_length_eq_zero (by simpa using hr.1)
    have he : (binOp .eql 36 (.slice none 0 c) (.slice none 0 0)).run Tryd.prog w = .ok (.bool true) w := by kernel_rfl
    go_enter Tryd.func34, Tryd.ntmps34
    go_wp2_with fail
    go_ret
    exact ⟨_, rfl, ⟨rfl, .inl ⟨rfl, rfl⟩⟩, Below.refl _ _⟩
  | some ad =>
    have he : (binOp .eql 36 (.slice (some ad) n c) (.slice none 0 0)).run Tryd.prog w = .ok (.bool false) w := by kernel_rfl
    go_enter Tryd.func34, Tryd.ntmps34
    have hown0 := own_mtG w 9 w.heap.size 1 (Nat.le_refl _)
    have hB0 := (Below.refl w.heap.size w).alloc (Nat.le_refl _) (.cells #[] 9)
    have hl2 := hl.below hB0
    have HL := Lib.hid hl2
    have H1 := Lib.hid h1
    clear hl hr hl2 h1
    go_wp2_with (at_builtin; refine wpList_append_all _ rfl _ _ _ rfl el_slices_Clone_string_string w.heap.size _ _ _ rfl hown0 _ _ _ rfl HL.out H1.out (by omega) (by omega) (by simp) w w.heap.size hB0 (Nat.le_refl _) ?_)
    intro v' w' hown hb
    go_wp2_with fail
    go_ret
    refine ⟨_, rfl, ?_, hb⟩
    simpa using hown
theorem wa_slices_Clone_string_string (n : Nat) (xs : List E) (hn : n ≤ 1000000) : PCalls Tryd.prog 34 [.e (.sl 1 n xs)] (.own 9 1 n xs) :=
  clone_of (by decide) ⟨_, Tryd.func34, rfl, rfl⟩ (fun us v w h1 h2 => wr_slices_Clone_string_string n us v w h1 h2 hn)
noncomputable def g_slices_Clone_string_string (l : List ByteArray) : Option (List ByteArray) := gd (l.length ≤ 1000000) (some l)
theorem w_slices_Clone_string_string {l r : List ByteArray} (h : g_slices_Clone_string_string l = some r) : PCalls Tryd.prog 34 [dL cS l] (.own 9 cS.sz r.length (r.flatMap cS.f)) := by
  obtain ⟨hn, h⟩ := gd_some h
  obtain rfl := Option.some.inj h
  exact wa_slices_Clone_string_string _ _ hn
noncomputable def g_link_Send (p_x : S_End) (p_text : ByteArray) : Option (S_End × Int) := bnd (g_link_short p_text) fun x1 => cnd (!x1) (some (p_x, (2 : Int))) (cnd (decide ((64 : Int) ≤ ((p_x.vQueue).length : Int))) (some (p_x, (432 : Int))) (bnd (g_slices_Clone_string_string p_x.vQueue) fun x5 => gd ((x5 ++ [p_text]).length * 16 ≤ 140737488355328) (some ((⟨p_x.vBase, x5 ++ [p_text], p_x.vWant, p_x.vHeld⟩ : S_End), (0 : Int)))))
theorem w_link_Send {p_x : S_End} {p_text : ByteArray} {r : S_End × Int} (h : g_link_Send p_x p_text = some r) : PCalls Tryd.prog 11 [dG c_End p_x, dS p_text] (.tu [dG c_End r.1, dI .i64 r.2]) := by
  refine PCalls.of (rs := [.cell 4 39, .tmp 5]) tok Tryd.func11 rfl rfl (Nat.le_of_ble_eq_true rfl) rfl (fun cx hx h0 => ?_)
  simp only [argsT, Nat.reduceAdd, Nat.zero_add]
  unfold g_link_Send at h
  refine AW.seq ?_
  refine rg hx (by kernel_rfl) fun K hK => ?_
  refine s1 (d := .pt 0 0) T_box ?_
  refine s1 (d := .pt 1 0) (T_alloc tb_39) ?_
  refine s1 (d := dI .i64 (0 : Int)) T_asg ?_
  refine .nil (hK _ _ ?_)
  iterate 2 refine AW.seq ?_
  refine rg hx (by kernel_rfl) fun K hK => ?_
  refine s1 T_mv ?_
  obtain ⟨x1, hx2, h⟩ := bnd_some h
  refine s1 (d := dB x1) (T_call rfl (w_link_short hx2) rfl (lA (le_refl' _) lAn) (.inl rfl)) ?_
  refine s1 T_not ?_
  refine .nil (hK _ _ ?_)
  refine AW.condS rfl (fun hb3 => ?_) (fun hb3 => ?_)
  replace h := cnd_t hb3 h
  refine AW.seq ?_
  refine rg hx (by kernel_rfl) fun K hK => ?_
  refine s1 (d := dG c_End p_x) (T_ldA tb_39) ?_
  refine s0 (T_st (ds' := [dI .i64 p_x.vBase, dL cS p_x.vQueue, dI .i64 p_x.vWant, dL c_Held p_x.vHeld]) tb_39) ?_
  refine s1 (d := dI .i64 (2 : Int)) T_asg ?_
  refine .nil (hK _ _ ?_)
  refine AW.ret ?_
  obtain rfl := Option.some.inj h
  exact RetV.mk2 (resD_a (es := (c_End.f p_x).map .e) rfl tb_39 rfl rfl (ltb rfl) (leb rfl) rfl (resD_t rfl (.inr ⟨_, _, (le_refl' _), (le_refl' _), ⟨rfl, rfl⟩, rfl⟩)))
  replace h := cnd_f hb3 h
  refine AW.skip ?_
  iterate 2 refine AW.seq ?_
  refine rg hx (by kernel_rfl) fun K hK => ?_
  refine s1 (T_faP tb_39 tb_36) ?_
  refine s1 (d := dL cS p_x.vQueue) (T_ldC tb_36) ?_
  refine s1 (d := dI .i64 ((p_x.vQueue).length : Int)) (T_len tb_36 tb_9) ?_
  refine s1 T_geq ?_
  refine .nil (hK _ _ ?_)
  refine AW.condS rfl (fun hb4 => ?_) (fun hb4 => ?_)
  replace h := cnd_t hb4 h
  refine AW.seq ?_
  refine rg hx (by kernel_rfl) fun K hK => ?_
  refine s1 (d := dG c_End p_x) (T_ldA tb_39) ?_
  refine s0 (T_st (ds' := [dI .i64 p_x.vBase, dL cS p_x.vQueue, dI .i64 p_x.vWant, dL c_Held p_x.vHeld]) tb_39) ?_
  refine s1 (d := dI .i64 (432 : Int)) T_asg ?_
  refine .nil (hK _ _ ?_)
  refine AW.ret ?_
  obtain rfl := Option.some.inj h
  exact RetV.mk2 (resD_a (es := (c_End.f p_x).map .e) rfl tb_39 rfl rfl (ltb rfl) (leb rfl) rfl (resD_t rfl (.inr ⟨_, _, (le_refl' _), (le_refl' _), ⟨rfl, rfl⟩, rfl⟩)))
  replace h := cnd_f hb4 h
  refine AW.skip ?_
  refine AW.seq ?_
  refine rg hx (by kernel_rfl) fun K hK => ?_
  refine s1 (T_faP tb_39 tb_36) ?_
  refine s1 (d := dL cS p_x.vQueue) (T_ldC tb_36) ?_
  obtain ⟨x5, hx6, h⟩ := bnd_some h
  refine s1 (d := dO 2 cS x5) (T_callO rfl (w_slices_Clone_string_string hx6) rfl (lA (le_refl' _) lAn)) ?_
  refine s1 T_mv ?_
  refine s1 (d := dO 3 cS [p_text]) (T_bsl tb_36 tb_9) ?_
  obtain ⟨hc7, h⟩ := gd_some h
  refine s1 (d := dO 2 cS (x5 ++ [p_text])) (T_appO tb_36 tb_9 hc7) ?_
  refine s1 (T_faP tb_39 tb_36) ?_
  refine s0 (T_st (ds' := [dI .i64 p_x.vBase, dO 2 cS (x5 ++ [p_text]), dI .i64 p_x.vWant, dL c_Held p_x.vHeld]) tb_36) ?_
  refine .nil (hK _ _ ?_)
  refine AW.seq ?_
  refine rg hx (by kernel_rfl) fun K hK => ?_
  refine s1 (d := .ag [dI .i64 p_x.vBase, dO 2 cS (x5 ++ [p_text]), dI .i64 p_x.vWant, dL c_Held p_x.vHeld]) (T_ldA tb_39) ?_
  refine s0 (T_st (ds' := [dI .i64 p_x.vBase, dO 2 cS (x5 ++ [p_text]), dI .i64 p_x.vWant, dL c_Held p_x.vHeld]) tb_39) ?_
  refine s1 (d := dI .i64 (0 : Int)) T_asg ?_
  refine .nil (hK _ _ ?_)
  refine AW.ret ?_
  obtain rfl := Option.some.inj h
  exact RetV.mk2 (resD_a (es := [dI .i64 p_x.vBase, dO 2 cS (x5 ++ [p_text]), dI .i64 p_x.vWant, dL c_Held p_x.vHeld]) rfl tb_39 rfl rfl (ltb rfl) (leb rfl) rfl (resD_t rfl (.inr ⟨_, _, (le_ag (wc (lc_r _) (wc (lc_x _) (wc (lc_r _) (wc (lc_r _) wcn))))), (le_refl' _), ⟨rfl, rfl⟩, rfl⟩)))
noncomputable def g_link_Check_l9 (p_x : S_End) : Bool × Int → Option ((Bool × Int) ⊕ Bool) := fun (a9_0, a9_1) => cnd (decide (a9_1 < ((p_x.vQueue).length : Int))) (bnd (S := Bool) (gd (0 ≤ a9_1 ∧ a9_1 < ((p_x.vQueue).length : Int)) (cnd a9_0 (bnd (g_link_short ((p_x.vQueue)[(a9_1).toNat]!)) fun x12 => some (x12)) (some (false)))) fun a17_0 => some (.inl (a17_0, IntKind.i64.wrap (a9_1 + (1 : Int))))) (some (.inr a9_0))
noncomputable def g_link_Check_l28 (p_x : S_End) : Bool × Int × Int → Option ((Bool × Int × Int) ⊕ Bool) := fun (a28_0, a28_1, a28_2) => cnd (decide (a28_2 < ((p_x.vHeld).length : Int))) (gd (0 ≤ a28_2 ∧ a28_2 < ((p_x.vHeld).length : Int)) (bnd (S := Bool) (cnd a28_0 (cnd (decide (a28_1 < (((p_x.vHeld)[(a28_2).toNat]!).vSeq))) (cnd (decide ((IntKind.i64.wrap ((((p_x.vHeld)[(a28_2).toNat]!).vSeq) - p_x.vWant)) < (8 : Int))) (cnd (decide ((((p_x.vHeld)[(a28_2).toNat]!).vSeq) < (1099511627776 : Int))) (bnd (g_link_short (((p_x.vHeld)[(a28_2).toNat]!).vData)) fun x23 => some (x23)) (some (false))) (some (false))) (some (false))) (some (false))) fun a40_0 => some (.inl (a40_0, ((p_x.vHeld)[(a28_2).toNat]!).vSeq, IntKind.i64.wrap (a28_2 + (1 : Int)))))) (some (.inr a28_0))
noncomputable def g_link_Check (p_x : S_End) : Option Int := bnd (S := Bool) (cnd (decide ((1 : Int) ≤ p_x.vBase)) (cnd (decide (p_x.vBase ≤ (1099511627776 : Int))) (cnd (decide ((1 : Int) ≤ p_x.vWant)) (cnd (decide (p_x.vWant ≤ (1099511627776 : Int))) (bnd (some (decide (((p_x.vQueue).length : Int) ≤ (64 : Int)))) fun x5 => some (x5)) (some (false))) (some (false))) (some (false))) (some (false))) fun a4_0 => bnd (loopO (g_link_Check_l9 p_x) (a4_0, (0 : Int))) fun a9e0_0 => bnd (loopO (g_link_Check_l28 p_x) (a9e0_0, p_x.vWant, (0 : Int))) fun a28e2_0 => cnd (!a28e2_0) (some (3 : Int)) (some (0 : Int))
set_option maxHeartbeats 4000000 in
theorem w_link_Check {p_x : S_End} {r : Int} (h : g_link_Check p_x = some r) : PCalls Tryd.prog 12 [dG c_End p_x] (dI .i64 r) := by
  refine PCalls.of (rs := [.tmp 2]) tok Tryd.func12 rfl rfl (Nat.le_of_ble_eq_true rfl) rfl (fun cx hx h0 => ?_)
  simp only [argsT, Nat.reduceAdd, Nat.zero_add]
  unfold g_link_Check at h
  refine AW.seq ?_
  refine rg hx (by kernel_rfl) fun K hK => ?_
  refine s1 (d := .pt 0 0) T_box ?_
  refine s1 (d := dI .i64 (0 : Int)) T_asg ?_
  refine .nil (hK _ _ ?_)
  refine AW.seq ?_
  obtain ⟨a4_0, hy, h⟩ := bnd_some h
  refine jn ((PE cx .normal (fun a4_0 => [(1, .pt 0 0), (3, dB a4_0)]) fun a4_0 => ⟨[(0, [dI .i64 p_x.vBase, dL cS p_x.vQueue, dI .i64 p_x.vWant, dL c_Held p_x.vHeld])], [], 1⟩) a4_0) ?_ ?_
  replace h := hy
  refine rg hx (by kernel_rfl) fun K hK => ?_
  refine s1 (T_faP tb_39 tb_3) ?_
  refine s1 (d := dI .i64 p_x.vBase) (T_ldC tb_3) ?_
  refine s1 T_geq ?_
  refine s1 T_mv ?_
  rcases Bool.eq_false_or_eq_true (decide ((1 : Int) ≤ p_x.vBase)) with hb1 | hb1
  replace h := cnd_t hb1 h
  refine g1 hb1 (T_faP tb_39 tb_3) ?_
  refine g1 (d := dI .i64 p_x.vBase) hb1 (T_ldC tb_3) ?_
  refine g1 hb1 T_leq ?_
  refine s1 (d := dB (decide (p_x.vBase ≤ (1099511627776 : Int)))) (T_pickT hb1) ?_
  refine s1 T_mv ?_
  rcases Bool.eq_false_or_eq_true (decide (p_x.vBase ≤ (1099511627776 : Int))) with hb2 | hb2
  replace h := cnd_t hb2 h
  refine g1 hb2 (T_faP tb_39 tb_3) ?_
  refine g1 (d := dI .i64 p_x.vWant) hb2 (T_ldC tb_3) ?_
  refine g1 hb2 T_geq ?_
  refine s1 (d := dB (decide ((1 : Int) ≤ p_x.vWant))) (T_pickT hb2) ?_
  refine s1 T_mv ?_
  rcases Bool.eq_false_or_eq_true (decide ((1 : Int) ≤ p_x.vWant)) with hb3 | hb3
  replace h := cnd_t hb3 h
  refine g1 hb3 (T_faP tb_39 tb_3) ?_
  refine g1 (d := dI .i64 p_x.vWant) hb3 (T_ldC tb_3) ?_
  refine g1 hb3 T_leq ?_
  refine s1 (d := dB (decide (p_x.vWant ≤ (1099511627776 : Int)))) (T_pickT hb3) ?_
  refine s1 T_mv ?_
  rcases Bool.eq_false_or_eq_true (decide (p_x.vWant ≤ (1099511627776 : Int))) with hb4 | hb4
  replace h := cnd_t hb4 h
  refine g1 hb4 (T_faP tb_39 tb_36) ?_
  refine g1 (d := dL cS p_x.vQueue) hb4 (T_ldC tb_36) ?_
  refine g1 (d := dI .i64 ((p_x.vQueue).length : Int)) hb4 (T_len tb_36 tb_9) ?_
  refine g1 hb4 T_leq ?_
  refine s1 (d := dB (decide (((p_x.vQueue).length : Int) ≤ (64 : Int)))) (T_pickT hb4) ?_
  obtain ⟨x5, hx6, h⟩ := bnd_some h
  replace hx6 := Option.some.inj hx6
  refine s2 (d2 := dB x5) T_as (le_eq (congrArg dB hx6)) ?_
  refine .nil (hK _ _ ?_)
  obtain rfl := Option.some.inj h
  exact PE.i (wk h0 [0] (wR rfl (wR rfl wTn)) (vR rfl wVn) wLn)
  replace h := cnd_f hb4 h
  iterate 4 refine no_t rfl rfl hb4 ?_
  refine s1 (d := dB false) (T_pickF hb4) ?_
  refine s1 T_as ?_
  refine .nil (hK _ _ ?_)
  obtain rfl := Option.some.inj h
  exact PE.i (wk h0 [0] (wR rfl (wR rfl wTn)) (vR rfl wVn) wLn)
  replace h := cnd_f hb3 h
  iterate 3 refine no_t rfl rfl hb3 ?_
  refine s1 (d := dB false) (T_pickF hb3) ?_
  refine s1 T_mv ?_
  iterate 4 refine no_t rfl rfl rfl ?_
  refine s1 (d := dB false) (T_pickF rfl) ?_
  refine s1 T_as ?_
  refine .nil (hK _ _ ?_)
  obtain rfl := Option.some.inj h
  exact PE.i (wk h0 [0] (wR rfl (wR rfl wTn)) (vR rfl wVn) wLn)
  replace h := cnd_f hb2 h
  iterate 3 refine no_t rfl rfl hb2 ?_
  refine s1 (d := dB false) (T_pickF hb2) ?_
  refine s1 T_mv ?_
  iterate 3 refine no_t rfl rfl rfl ?_
  refine s1 (d := dB false) (T_pickF rfl) ?_
  refine s1 T_mv ?_
  iterate 4 refine no_t rfl rfl rfl ?_
  refine s1 (d := dB false) (T_pickF rfl) ?_
  refine s1 T_as ?_
  refine .nil (hK _ _ ?_)
  obtain rfl := Option.some.inj h
  exact PE.i (wk h0 [0] (wR rfl (wR rfl wTn)) (vR rfl wVn) wLn)
  replace h := cnd_f hb1 h
  iterate 3 refine no_t rfl rfl hb1 ?_
  refine s1 (d := dB false) (T_pickF hb1) ?_
  refine s1 T_mv ?_
  iterate 3 refine no_t rfl rfl rfl ?_
  refine s1 (d := dB false) (T_pickF rfl) ?_
  refine s1 T_mv ?_
  iterate 3 refine no_t rfl rfl rfl ?_
  refine s1 (d := dB false) (T_pickF rfl) ?_
  refine s1 T_mv ?_
  iterate 4 refine no_t rfl rfl rfl ?_
  refine s1 (d := dB false) (T_pickF rfl) ?_
  refine s1 T_as ?_
  refine .nil (hK _ _ ?_)
  obtain rfl := Option.some.inj h
  exact PE.i (wk h0 [0] (wR rfl (wR rfl wTn)) (vR rfl wVn) wLn)
  rintro ex tm' hp' ⟨rfl, hw⟩
  refine AW.weak hw ?_
  iterate 2 refine AW.seq ?_
  refine rg hx (by kernel_rfl) fun K hK => ?_
  refine s1 (T_faP tb_39 tb_36) ?_
  refine s1 (d := dL cS p_x.vQueue) (T_ldC tb_36) ?_
  refine s1 (d := dI .i64 ((p_x.vQueue).length : Int)) (T_len tb_36 tb_9) ?_
  refine s1 (d := dI .i64 (0 : Int)) T_move ?_
  refine .nil (hK _ _ ?_)
  refine AW.block ?_
  obtain ⟨a9e0_0, hy, h⟩ := bnd_some h
  refine lp (S := Bool × Int) (X := Bool) (fun (a9_0, a9_1) => [(1, .pt 0 0), (3, dB a9_0), (34, dL cS p_x.vQueue), (35, dI .i64 ((p_x.vQueue).length : Int)), (36, dI .i64 a9_1)]) (fun (a9_0, a9_1) => ⟨[(0, [dI .i64 p_x.vBase, dL cS p_x.vQueue, dI .i64 p_x.vWant, dL c_Held p_x.vHeld])], [], 1⟩) (PE cx (.exit 0) (fun a9e0_0 => [(1, .pt 0 0), (3, dB a9e0_0)]) fun a9e0_0 => ⟨[(0, [dI .i64 p_x.vBase, dL cS p_x.vQueue, dI .i64 p_x.vWant, dL c_Held p_x.vHeld])], [], 1⟩) hy ?_ ?_ ?_
  exact wk h0 [0] (wR rfl (wR rfl (wR rfl (wR rfl (wR rfl wTn))))) (vR rfl wVn) wLn
  clear hy h
  rintro ⟨a9_0, a9_1⟩ y h
  dsimp only [g_link_Check_l9] at h
  refine AW.seq ?_
  refine rg hx (by kernel_rfl) fun K hK => ?_
  refine s1 T_lss ?_
  refine .nil (hK _ _ ?_)
  refine AW.seq ?_
  refine AW.condS rfl (fun hb8 => ?_) (fun hb8 => ?_)
  replace h := cnd_t hb8 h
  refine AW.skip ?_
  refine AW.seq ?_
  obtain ⟨a17_0, hy, h⟩ := bnd_some h
  refine jn ((PE cx .normal (fun a17_0 => [(1, .pt 0 0), (3, dB a17_0), (34, dL cS p_x.vQueue), (35, dI .i64 ((p_x.vQueue).length : Int)), (36, dI .i64 a9_1)]) fun a17_0 => ⟨[(0, [dI .i64 p_x.vBase, dL cS p_x.vQueue, dI .i64 p_x.vWant, dL c_Held p_x.vHeld])], [], 1⟩) a17_0) ?_ ?_
  replace h := hy
  refine AW.block ?_
  refine AW.seq ?_
  refine rg hx (by kernel_rfl) fun K hK => ?_
  obtain ⟨hc9, h⟩ := gd_some h
  have hn10 : (a9_1).toNat < (p_x.vQueue).length := by omega
  refine s1 (T_iaS hc9 tb_36 tb_9) ?_
  refine s1 (d := dS ((p_x.vQueue)[(a9_1).toNat]!)) (T_ldF (c := cS) (l := p_x.vQueue) (n := (a9_1).toNat) (o := 0) tb_9 hn10) ?_
  refine s1 T_as ?_
  refine .nil (hK _ _ ?_)
  refine rg hx (by kernel_rfl) fun K hK => ?_
  iterate 2 refine s1 T_mv ?_
  rcases Bool.eq_false_or_eq_true a9_0 with hb11 | hb11
  replace h := cnd_t hb11 h
  refine g1 hb11 T_mv ?_
  obtain ⟨x12, hx13, h⟩ := bnd_some h
  refine g1 (d := dB x12) hb11 (T_call rfl (w_link_short hx13) rfl (lA (le_refl' _) lAn) (.inl rfl)) ?_
  refine s1 (d := dB x12) (T_pickT hb11) ?_
  refine s1 T_as ?_
  refine .nil (hK _ _ ?_)
  obtain rfl := Option.some.inj h
  exact PE.i (wk h0 [0] (wR rfl (wR rfl (wR rfl (wR rfl (wR rfl wTn))))) (vR rfl wVn) wLn)
  replace h := cnd_f hb11 h
  iterate 2 refine no_t rfl rfl hb11 ?_
  refine s1 (d := dB false) (T_pickF hb11) ?_
  refine s1 T_as ?_
  refine .nil (hK _ _ ?_)
  obtain rfl := Option.some.inj h
  exact PE.i (wk h0 [0] (wR rfl (wR rfl (wR rfl (wR rfl (wR rfl wTn))))) (vR rfl wVn) wLn)
  rintro ex tm' hp' ⟨rfl, hw⟩
  refine AW.weak hw ?_
  refine rg hx (by kernel_rfl) fun K hK => ?_
  refine s1 T_add ?_
  refine s1 T_mv ?_
  refine .nil (hK _ _ ?_)
  obtain rfl := Option.some.inj h
  exact PS.l (PE.i (wk h0 [0] (wR rfl (wR rfl (wR rfl (wR rfl (wR rfl wTn))))) (vR rfl wVn) wLn))
  replace h := cnd_f hb8 h
  refine AW.exit ?_
  try dsimp only
  try simp only [if_true, reduceIte, Nat.reduceEqDiff, reduceCtorEq]
  obtain rfl := Option.some.inj h
  exact PS.r ⟨by nofun, PE.i (wk h0 [0] (wR rfl (wR rfl wTn)) (vR rfl wVn) wLn)⟩
  rintro ex tm' hp' ⟨rfl, hw⟩
  try dsimp only
  try simp only [if_true, reduceIte, Nat.reduceEqDiff, reduceCtorEq]
  refine AW.weak hw ?_
  refine AW.seq ?_
  refine rg hx (by kernel_rfl) fun K hK => ?_
  refine s1 (T_faP tb_39 tb_3) ?_
  refine s1 (d := dI .i64 p_x.vWant) (T_ldC tb_3) ?_
  refine s1 T_as ?_
  refine .nil (hK _ _ ?_)
  iterate 2 refine AW.seq ?_
  refine rg hx (by kernel_rfl) fun K hK => ?_
  refine s1 (T_faP tb_39 tb_37) ?_
  refine s1 (d := dL c_Held p_x.vHeld) (T_ldC tb_37) ?_
  refine s1 (d := dI .i64 ((p_x.vHeld).length : Int)) (T_len tb_37 tb_51) ?_
  refine s1 (d := dI .i64 (0 : Int)) T_move ?_
  refine .nil (hK _ _ ?_)
  refine AW.block ?_
  obtain ⟨a28e2_0, hy, h⟩ := bnd_some h
  refine lp (S := Bool × Int × Int) (X := Bool) (fun (a28_0, a28_1, a28_2) => [(1, .pt 0 0), (3, dB a28_0), (6, dI .i64 a28_1), (49, dL c_Held p_x.vHeld), (50, dI .i64 ((p_x.vHeld).length : Int)), (51, dI .i64 a28_2)]) (fun (a28_0, a28_1, a28_2) => ⟨[(0, [dI .i64 p_x.vBase, dL cS p_x.vQueue, dI .i64 p_x.vWant, dL c_Held p_x.vHeld])], [], 1⟩) (PE cx (.exit 2) (fun a28e2_0 => [(3, dB a28e2_0)]) fun a28e2_0 => ⟨[], [], 0⟩) hy ?_ ?_ ?_
  exact wk h0 [0] (wR rfl (wR rfl (wR rfl (wR rfl (wR rfl (wR rfl wTn)))))) (vR rfl wVn) wLn
  clear hy h
  rintro ⟨a28_0, a28_1, a28_2⟩ y h
  dsimp only [g_link_Check_l28] at h
  refine AW.seq ?_
  refine rg hx (by kernel_rfl) fun K hK => ?_
  refine s1 T_lss ?_
  refine .nil (hK _ _ ?_)
  refine AW.seq ?_
  refine AW.condS rfl (fun hb16 => ?_) (fun hb16 => ?_)
  replace h := cnd_t hb16 h
  refine AW.skip ?_
  refine AW.seq ?_
  refine AW.block ?_
  refine AW.seq ?_
  refine rg hx (by kernel_rfl) fun K hK => ?_
  obtain ⟨hc17, h⟩ := gd_some h
  have hn18 : (a28_2).toNat < (p_x.vHeld).length := by omega
  refine s1 (T_iaS hc17 tb_37 tb_51) ?_
  refine s1 (d := dG c_Held ((p_x.vHeld)[(a28_2).toNat]!)) (T_ldG (c := c_Held) (l := p_x.vHeld) (n := (a28_2).toNat) (o := 0) tb_51 hn18 (whole_G _ _ rfl)) ?_
  refine s1 (d := .pt 1 0) (T_alloc tb_51) ?_
  refine s0 (T_st (ds' := [dI .i64 (((p_x.vHeld)[(a28_2).toNat]!).vSeq), dS (((p_x.vHeld)[(a28_2).toNat]!).vData)]) tb_51) ?_
  refine .nil (hK _ _ ?_)
  refine AW.seq ?_
  obtain ⟨a40_0, hy, h⟩ := bnd_some h
  refine jn ((PE cx .normal (fun a40_0 => [(1, .pt 0 0), (3, dB a40_0), (8, .pt 1 0), (49, dL c_Held p_x.vHeld), (50, dI .i64 ((p_x.vHeld).length : Int)), (51, dI .i64 a28_2)]) fun a40_0 => ⟨[(0, [dI .i64 p_x.vBase, dL cS p_x.vQueue, dI .i64 p_x.vWant, dL c_Held p_x.vHeld]), (1, [dI .i64 (((p_x.vHeld)[(a28_2).toNat]!).vSeq), dS (((p_x.vHeld)[(a28_2).toNat]!).vData)])], [], 2⟩) a40_0) ?_ ?_
  replace h := hy
  refine rg hx (by kernel_rfl) fun K hK => ?_
  iterate 2 refine s1 T_mv ?_
  rcases Bool.eq_false_or_eq_true a28_0 with hb19 | hb19
  replace h := cnd_t hb19 h
  refine g1 hb19 (T_faP tb_51 tb_3) ?_
  refine g1 (d := dI .i64 (((p_x.vHeld)[(a28_2).toNat]!).vSeq)) hb19 (T_ldC tb_3) ?_
  refine g1 hb19 T_mv ?_
  refine g1 hb19 T_gtr ?_
  refine s1 (d := dB (decide (a28_1 < (((p_x.vHeld)[(a28_2).toNat]!).vSeq)))) (T_pickT hb19) ?_
  refine s1 T_mv ?_
  rcases Bool.eq_false_or_eq_true (decide (a28_1 < (((p_x.vHeld)[(a28_2).toNat]!).vSeq))) with hb20 | hb20
  replace h := cnd_t hb20 h
  refine g1 hb20 (T_faP tb_51 tb_3) ?_
  refine g1 (d := dI .i64 (((p_x.vHeld)[(a28_2).toNat]!).vSeq)) hb20 (T_ldC tb_3) ?_
  refine g1 hb20 (T_faP tb_39 tb_3) ?_
  refine g1 (d := dI .i64 p_x.vWant) hb20 (T_ldC tb_3) ?_
  refine g1 hb20 T_sub ?_
  refine g1 hb20 T_lss ?_
  refine s1 (d := dB (decide ((IntKind.i64.wrap ((((p_x.vHeld)[(a28_2).toNat]!).vSeq) - p_x.vWant)) < (8 : Int)))) (T_pickT hb20) ?_
  refine s1 T_mv ?_
  rcases Bool.eq_false_or_eq_true (decide ((IntKind.i64.wrap ((((p_x.vHeld)[(a28_2).toNat]!).vSeq) - p_x.vWant)) < (8 : Int))) with hb21 | hb21
  replace h := cnd_t hb21 h
  refine g1 hb21 (T_faP tb_51 tb_3) ?_
  refine g1 (d := dI .i64 (((p_x.vHeld)[(a28_2).toNat]!).vSeq)) hb21 (T_ldC tb_3) ?_
  refine g1 hb21 T_lss ?_
  refine s1 (d := dB (decide ((((p_x.vHeld)[(a28_2).toNat]!).vSeq) < (1099511627776 : Int)))) (T_pickT hb21) ?_
  refine s1 T_mv ?_
  rcases Bool.eq_false_or_eq_true (decide ((((p_x.vHeld)[(a28_2).toNat]!).vSeq) < (1099511627776 : Int))) with hb22 | hb22
  replace h := cnd_t hb22 h
  refine g1 hb22 (T_faP tb_51 tb_9) ?_
  refine g1 (d := dS (((p_x.vHeld)[(a28_2).toNat]!).vData)) hb22 (T_ldC tb_9) ?_
  obtain ⟨x23, hx24, h⟩ := bnd_some h
  refine g1 (d := dB x23) hb22 (T_call rfl (w_link_short hx24) rfl (lA (le_refl' _) lAn) (.inl rfl)) ?_
  refine s1 (d := dB x23) (T_pickT hb22) ?_
  refine s1 T_as ?_
  refine .nil (hK _ _ ?_)
  obtain rfl := Option.some.inj h
  exact PE.i (wk h0 [0, 1] (wR rfl (wR rfl (wR rfl (wR rfl (wR rfl (wR rfl wTn)))))) (vR rfl (vR rfl wVn)) wLn)
  replace h := cnd_f hb22 h
  iterate 3 refine no_t rfl rfl hb22 ?_
  refine s1 (d := dB false) (T_pickF hb22) ?_
  refine s1 T_as ?_
  refine .nil (hK _ _ ?_)
  obtain rfl := Option.some.inj h
  exact PE.i (wk h0 [0, 1] (wR rfl (wR rfl (wR rfl (wR rfl (wR rfl (wR rfl wTn)))))) (vR rfl (vR rfl wVn)) wLn)
  replace h := cnd_f hb21 h
  iterate 3 refine no_t rfl rfl hb21 ?_
  refine s1 (d := dB false) (T_pickF hb21) ?_
  refine s1 T_mv ?_
  iterate 3 refine no_t rfl rfl rfl ?_
  refine s1 (d := dB false) (T_pickF rfl) ?_
  refine s1 T_as ?_
  refine .nil (hK _ _ ?_)
  obtain rfl := Option.some.inj h
  exact PE.i (wk h0 [0, 1] (wR rfl (wR rfl (wR rfl (wR rfl (wR rfl (wR rfl wTn)))))) (vR rfl (vR rfl wVn)) wLn)
  replace h := cnd_f hb20 h
  iterate 6 refine no_t rfl rfl hb20 ?_
  refine s1 (d := dB false) (T_pickF hb20) ?_
  refine s1 T_mv ?_
  iterate 3 refine no_t rfl rfl rfl ?_
  refine s1 (d := dB false) (T_pickF rfl) ?_
  refine s1 T_mv ?_
  iterate 3 refine no_t rfl rfl rfl ?_
  refine s1 (d := dB false) (T_pickF rfl) ?_
  refine s1 T_as ?_
  refine .nil (hK _ _ ?_)
  obtain rfl := Option.some.inj h
  exact PE.i (wk h0 [0, 1] (wR rfl (wR rfl (wR rfl (wR rfl (wR rfl (wR rfl wTn)))))) (vR rfl (vR rfl wVn)) wLn)
  replace h := cnd_f hb19 h
  iterate 4 refine no_t rfl rfl hb19 ?_
  refine s1 (d := dB false) (T_pickF hb19) ?_
  refine s1 T_mv ?_
  iterate 6 refine no_t rfl rfl rfl ?_
  refine s1 (d := dB false) (T_pickF rfl) ?_
  refine s1 T_mv ?_
  iterate 3 refine no_t rfl rfl rfl ?_
  refine s1 (d := dB false) (T_pickF rfl) ?_
  refine s1 T_mv ?_
  iterate 3 refine no_t rfl rfl rfl ?_
  refine s1 (d := dB false) (T_pickF rfl) ?_
  refine s1 T_as ?_
  refine .nil (hK _ _ ?_)
  obtain rfl := Option.some.inj h
  exact PE.i (wk h0 [0, 1] (wR rfl (wR rfl (wR rfl (wR rfl (wR rfl (wR rfl wTn)))))) (vR rfl (vR rfl wVn)) wLn)
  rintro ex tm' hp' ⟨rfl, hw⟩
  refine AW.weak hw ?_
  refine rg hx (by kernel_rfl) fun K hK => ?_
  refine s1 (T_faP tb_51 tb_3) ?_
  refine s1 (d := dI .i64 (((p_x.vHeld)[(a28_2).toNat]!).vSeq)) (T_ldC tb_3) ?_
  refine s1 T_as ?_
  refine .nil (hK _ _ ?_)
  refine rg hx (by kernel_rfl) fun K hK => ?_
  refine s1 T_add ?_
  refine s1 T_mv ?_
  refine .nil (hK _ _ ?_)
  obtain rfl := Option.some.inj h
  exact PS.l (PE.i (wk h0 [0] (wR rfl (wR rfl (wR rfl (wR rfl (wR rfl (wR rfl wTn)))))) (vR rfl wVn) wLn))
  replace h := cnd_f hb16 h
  refine AW.exit ?_
  try dsimp only
  try simp only [if_true, reduceIte, Nat.reduceEqDiff, reduceCtorEq]
  obtain rfl := Option.some.inj h
  exact PS.r ⟨by nofun, PE.i (wk h0 [] (wR rfl wTn) wVn wLn)⟩
  rintro ex tm' hp' ⟨rfl, hw⟩
  try dsimp only
  try simp only [if_true, reduceIte, Nat.reduceEqDiff, reduceCtorEq]
  refine AW.weak hw ?_
  iterate 2 refine AW.seq ?_
  refine rg hx (by kernel_rfl) fun K hK => ?_
  refine s1 T_mv ?_
  refine s1 T_not ?_
  refine .nil (hK _ _ ?_)
  refine AW.condS rfl (fun hb27 => ?_) (fun hb27 => ?_)
  replace h := cnd_t hb27 h
  refine AW.seq ?_
  refine rg hx (by kernel_rfl) fun K hK => ?_
  refine s1 (d := dI .i64 (3 : Int)) T_asg ?_
  refine .nil (hK _ _ ?_)
  refine AW.ret ?_
  obtain rfl := Option.some.inj h
  exact RetV.mk1 (resD_t rfl (.inr (.inr ⟨_, (le_refl' _), rfl, rfl⟩)))
  replace h := cnd_f hb27 h
  refine AW.skip ?_
  refine AW.seq ?_
  refine rg hx (by kernel_rfl) fun K hK => ?_
  refine s1 (d := dI .i64 (0 : Int)) T_asg ?_
  refine .nil (hK _ _ ?_)
  refine AW.ret ?_
  obtain rfl := Option.some.inj h
  exact RetV.mk1 (resD_t rfl (.inr (.inr ⟨_, (le_refl' _), rfl, rfl⟩)))
noncomputable def g_link_Idle (p_x : S_End) : Option Bool := some (decide (((p_x.vQueue).length : Int) = (0 : Int)))
theorem w_link_Idle {p_x : S_End} {r : Bool} (h : g_link_Idle p_x = some r) : PCalls Tryd.prog 13 [dG c_End p_x] (dB r) := by
  refine PCalls.of (rs := [.tmp 2]) tok Tryd.func13 rfl rfl (Nat.le_of_ble_eq_true rfl) rfl (fun cx hx h0 => ?_)
  simp only [argsT, Nat.reduceAdd, Nat.zero_add]
  unfold g_link_Idle at h
  refine AW.seq ?_
  refine rg hx (by kernel_rfl) fun K hK => ?_
  refine s1 (d := .pt 0 0) T_box ?_
  refine s1 (d := dB false) T_asg ?_
  refine .nil (hK _ _ ?_)
  refine AW.seq ?_
  refine rg hx (by kernel_rfl) fun K hK => ?_
  refine s1 (T_faP tb_39 tb_36) ?_
  refine s1 (d := dL cS p_x.vQueue) (T_ldC tb_36) ?_
  refine s1 (d := dI .i64 ((p_x.vQueue).length : Int)) (T_len tb_36 tb_9) ?_
  refine s1 T_eql ?_
  refine s1 T_as ?_
  refine .nil (hK _ _ ?_)
  refine AW.ret ?_
  obtain rfl := Option.some.inj h
  exact RetV.mk1 (resD_t rfl (.inr (.inr ⟨_, (le_refl' _), rfl, rfl⟩)))
noncomputable def g_link_Frames_l17 (p_x : S_End) : (List S_Frame) × Int → Option (((List S_Frame) × Int) ⊕ ((List S_Frame))) := fun (a17_0, a17_1) => cnd (decide (a17_1 < ((subL p_x.vQueue (0 : Int) (min ((p_x.vQueue).length : Int) (8 : Int))).length : Int))) (gd (0 ≤ a17_1 ∧ a17_1 < ((subL p_x.vQueue (0 : Int) (min ((p_x.vQueue).length : Int) (8 : Int))).length : Int)) (bnd (some ((subL p_x.vQueue (0 : Int) (min ((p_x.vQueue).length : Int) (8 : Int)))[(a17_1).toNat]!)) fun x8 => gd ((a17_0 ++ [(⟨IntKind.i64.wrap (p_x.vBase + a17_1), p_x.vWant, x8⟩ : S_Frame)]).length * 32 ≤ 140737488355328) (some (.inl (a17_0 ++ [(⟨IntKind.i64.wrap (p_x.vBase + a17_1), p_x.vWant, x8⟩ : S_Frame)], IntKind.i64.wrap (a17_1 + (1 : Int))))))) (some (.inr a17_0))
noncomputable def g_link_Frames (p_x : S_End) : Option (List S_Frame) := bnd (g_link_Idle p_x) fun x1 => cnd x1 (some [(⟨(0 : Int), p_x.vWant, ByteArray.empty⟩ : S_Frame)]) (gd (0 ≤ (0 : Int) ∧ (0 : Int) ≤ min ((p_x.vQueue).length : Int) (8 : Int) ∧ min ((p_x.vQueue).length : Int) (8 : Int) ≤ ((p_x.vQueue).length : Int)) (bnd (loopO (g_link_Frames_l17 p_x) (([] : List S_Frame), (0 : Int))) fun a17e0_0 => some a17e0_0))
set_option maxHeartbeats 4000000 in
theorem w_link_Frames {p_x : S_End} {r : List S_Frame} (h : g_link_Frames p_x = some r) : PCalls Tryd.prog 14 [dG c_End p_x] (.own 23 c_Frame.sz r.length (r.flatMap c_Frame.f)) := by
  refine PCalls.of (rs := [.tmp 2]) tok Tryd.func14 rfl rfl (Nat.le_of_ble_eq_true rfl) rfl (fun cx hx h0 => ?_)
  simp only [argsT, Nat.reduceAdd, Nat.zero_add]
  unfold g_link_Frames at h
  refine AW.seq ?_
  refine rg hx (by kernel_rfl) fun K hK => ?_
  refine s1 (d := .pt 0 0) T_box ?_
  refine s1 (d := dO 1 c_Frame ([] : List S_Frame)) (T_asgN tb_45 tb_23) ?_
  refine .nil (hK _ _ ?_)
  iterate 2 refine AW.seq ?_
  refine rg hx (by kernel_rfl) fun K hK => ?_
  refine s1 (d := dG c_End p_x) (T_ldA tb_39) ?_
  obtain ⟨x1, hx2, h⟩ := bnd_some h
  refine s1 (d := dB x1) (T_call rfl (w_link_Idle hx2) (by simp only [List.map_cons, List.map_nil, List.all_cons, List.all_nil, Bool.and_true, Bool.and_eq_true]; exact pure_ex_G _ _) (lA (le_refl' _) lAn) (.inl rfl)) ?_
  refine .nil (hK _ _ ?_)
  refine AW.condS rfl (fun hb3 => ?_) (fun hb3 => ?_)
  replace h := cnd_t hb3 h
  refine AW.seq ?_
  refine rg hx (by kernel_rfl) fun K hK => ?_
  refine s1 (T_faP tb_39 tb_3) ?_
  refine s1 (d := dI .i64 p_x.vWant) (T_ldC tb_3) ?_
  refine s1 (d := dG c_Frame (⟨(0 : Int), p_x.vWant, ByteArray.empty⟩ : S_Frame)) (T_build tb_23) ?_
  refine s1 (d := dO 2 c_Frame [(⟨(0 : Int), p_x.vWant, ByteArray.empty⟩ : S_Frame)]) (T_bsl tb_45 tb_23) ?_
  refine s1 T_as ?_
  refine .nil (hK _ _ ?_)
  refine AW.ret ?_
  obtain rfl := Option.some.inj h
  exact RetV.own rfl rfl
  replace h := cnd_f hb3 h
  refine AW.skip ?_
  refine AW.seq ?_
  refine rg hx (by kernel_rfl) fun K hK => ?_
  refine s1 (d := dO 2 c_Frame ([] : List S_Frame)) (T_asgN tb_45 tb_23) ?_
  refine .nil (hK _ _ ?_)
  iterate 2 refine AW.seq ?_
  refine rg hx (by kernel_rfl) fun K hK => ?_
  refine s1 (T_faP tb_39 tb_36) ?_
  refine s1 (d := dL cS p_x.vQueue) (T_ldC tb_36) ?_
  refine s1 (T_faP tb_39 tb_36) ?_
  refine s1 (d := dL cS p_x.vQueue) (T_ldC tb_36) ?_
  refine s1 (d := dI .i64 ((p_x.vQueue).length : Int)) (T_len tb_36 tb_9) ?_
  refine s1 (d := dI .i64 (min ((p_x.vQueue).length : Int) (8 : Int))) T_min ?_
  obtain ⟨hc4, h⟩ := gd_some h
  refine s1 (T_sl (c := cS) (l := p_x.vQueue) (a := (0 : Int)) (b := min ((p_x.vQueue).length : Int) (8 : Int)) hc4 tb_36 tb_9) ?_
  refine s1 (d := dI .i64 ((subL p_x.vQueue (0 : Int) (min ((p_x.vQueue).length : Int) (8 : Int))).length : Int)) (T_len tb_36 tb_9) ?_
  refine s1 (d := dI .i64 (0 : Int)) T_move ?_
  refine .nil (hK _ _ ?_)
  refine AW.block ?_
  obtain ⟨a17e0_0, hy, h⟩ := bnd_some h
  refine lp (S := (List S_Frame) × Int) (X := (List S_Frame)) (fun (a17_0, a17_1) => [(1, .pt 0 0), (3, dO 1 c_Frame a17_0), (18, dL cS (subL p_x.vQueue (0 : Int) (min ((p_x.vQueue).length : Int) (8 : Int)))), (19, dI .i64 ((subL p_x.vQueue (0 : Int) (min ((p_x.vQueue).length : Int) (8 : Int))).length : Int)), (20, dI .i64 a17_1)]) (fun (a17_0, a17_1) => ⟨[(0, [dI .i64 p_x.vBase, dL cS p_x.vQueue, dI .i64 p_x.vWant, dL c_Held p_x.vHeld])], [(1, (a17_0).length, 3, 23)], 2⟩) (PE cx (.exit 0) (fun a17e0_0 => [(3, dO 0 c_Frame a17e0_0)]) fun a17e0_0 => ⟨[], [(0, (a17e0_0).length, 3, 23)], 1⟩) hy ?_ ?_ ?_
  exact wk h0 [0, 2] (wR rfl (wR rfl (wR rfl (wR rfl (wR rfl wTn))))) (vR rfl wVn) (wL rfl rfl wLn)
  clear hy h
  rintro ⟨a17_0, a17_1⟩ y h
  dsimp only [g_link_Frames_l17] at h
  refine AW.seq ?_
  refine rg hx (by kernel_rfl) fun K hK => ?_
  refine s1 T_lss ?_
  refine .nil (hK _ _ ?_)
  refine AW.seq ?_
  refine AW.condS rfl (fun hb5 => ?_) (fun hb5 => ?_)
  replace h := cnd_t hb5 h
  refine AW.skip ?_
  refine AW.seq ?_
  refine AW.block ?_
  refine AW.seq ?_
  refine rg hx (by kernel_rfl) fun K hK => ?_
  refine s1 T_mv ?_
  obtain ⟨hc6, h⟩ := gd_some h
  have hn7 : (a17_1).toNat < (subL p_x.vQueue (0 : Int) (min ((p_x.vQueue).length : Int) (8 : Int))).length := by omega
  refine s1 (T_iaS hc6 tb_36 tb_9) ?_
  refine s1 (d := dS ((subL p_x.vQueue (0 : Int) (min ((p_x.vQueue).length : Int) (8 : Int)))[(a17_1).toNat]!)) (T_ldF (c := cS) (l := subL p_x.vQueue (0 : Int) (min ((p_x.vQueue).length : Int) (8 : Int))) (n := (a17_1).toNat) (o := 0) tb_9 hn7) ?_
  refine s1 T_as ?_
  obtain ⟨x8, hx9, h⟩ := bnd_some h
  replace hx9 := Option.some.inj hx9
  refine s2 (d2 := dS x8) T_as (le_eq (congrArg dS hx9)) ?_
  refine .nil (hK _ _ ?_)
  refine rg hx (by kernel_rfl) fun K hK => ?_
  refine s1 T_mv ?_
  refine s1 (T_faP tb_39 tb_3) ?_
  refine s1 (d := dI .i64 p_x.vBase) (T_ldC tb_3) ?_
  refine s1 T_mv ?_
  refine s1 T_add ?_
  refine s1 (T_faP tb_39 tb_3) ?_
  refine s1 (d := dI .i64 p_x.vWant) (T_ldC tb_3) ?_
  refine s1 T_mv ?_
  refine s1 (d := dG c_Frame (⟨IntKind.i64.wrap (p_x.vBase + a17_1), p_x.vWant, x8⟩ : S_Frame)) (T_build tb_23) ?_
  refine s1 (d := dO 2 c_Frame [(⟨IntKind.i64.wrap (p_x.vBase + a17_1), p_x.vWant, x8⟩ : S_Frame)]) (T_bsl tb_45 tb_23) ?_
  obtain ⟨hc10, h⟩ := gd_some h
  refine s1 (d := dO 1 c_Frame (a17_0 ++ [(⟨IntKind.i64.wrap (p_x.vBase + a17_1), p_x.vWant, x8⟩ : S_Frame)])) (T_appO tb_45 tb_23 hc10) ?_
  refine s1 T_as ?_
  refine .nil (hK _ _ ?_)
  refine rg hx (by kernel_rfl) fun K hK => ?_
  refine s1 T_add ?_
  refine s1 T_mv ?_
  refine .nil (hK _ _ ?_)
  obtain rfl := Option.some.inj h
  exact PS.l (PE.i (wk h0 [0, 1] (wR rfl (wR rfl (wR rfl (wR rfl (wR rfl wTn))))) (vR rfl wVn) (wL rfl rfl wLn)))
  replace h := cnd_f hb5 h
  refine AW.exit ?_
  try dsimp only
  try simp only [if_true, reduceIte, Nat.reduceEqDiff, reduceCtorEq]
  obtain rfl := Option.some.inj h
  exact PS.r ⟨by nofun, PE.i (wk h0 [1] (wR rfl wTn) wVn (wL rfl rfl wLn))⟩
  rintro ex tm' hp' ⟨rfl, hw⟩
  try dsimp only
  try simp only [if_true, reduceIte, Nat.reduceEqDiff, reduceCtorEq]
  refine AW.weak hw ?_
  refine AW.seq ?_
  refine rg hx (by kernel_rfl) fun K hK => ?_
  refine s1 T_mv ?_
  refine s1 T_as ?_
  refine .nil (hK _ _ ?_)
  refine AW.ret ?_
  obtain rfl := Option.some.inj h
  exact RetV.own rfl rfl
noncomputable def g_link_valid (p_f : S_Frame) : Option Bool := bnd (S := Bool) (cnd (decide ((0 : Int) ≤ p_f.vSeq)) (cnd (decide (p_f.vSeq ≤ (2199023255552 : Int))) (cnd (decide ((1 : Int) ≤ p_f.vAck)) (cnd (decide (p_f.vAck ≤ (2199023255552 : Int))) (bnd (g_link_short p_f.vData) fun x5 => cnd x5 (cnd (decide ((0 : Int) < p_f.vSeq)) (some (true)) (some (decide (p_f.vData = ByteArray.empty)))) (some (false))) (some (false))) (some (false))) (some (false))) (some (false))) fun a4_0 => some a4_0
set_option maxHeartbeats 4000000 in
theorem w_link_valid {p_f : S_Frame} {r : Bool} (h : g_link_valid p_f = some r) : PCalls Tryd.prog 19 [dG c_Frame p_f] (dB r) := by
  refine PCalls.of (rs := [.tmp 2]) tok Tryd.func19 rfl rfl (Nat.le_of_ble_eq_true rfl) rfl (fun cx hx h0 => ?_)
  simp only [argsT, Nat.reduceAdd, Nat.zero_add]
  unfold g_link_valid at h
  refine AW.seq ?_
  refine rg hx (by kernel_rfl) fun K hK => ?_
  refine s1 (d := .pt 0 0) T_box ?_
  refine s1 (d := dB false) T_asg ?_
  refine .nil (hK _ _ ?_)
  refine AW.seq ?_
  obtain ⟨a4_0, hy, h⟩ := bnd_some h
  refine jn ((PE cx .normal (fun a4_0 => [(2, dB a4_0)]) fun a4_0 => ⟨[], [], 0⟩) a4_0) ?_ ?_
  replace h := hy
  refine rg hx (by kernel_rfl) fun K hK => ?_
  refine s1 (T_faP tb_23 tb_3) ?_
  refine s1 (d := dI .i64 p_f.vSeq) (T_ldC tb_3) ?_
  refine s1 T_geq ?_
  refine s1 T_mv ?_
  rcases Bool.eq_false_or_eq_true (decide ((0 : Int) ≤ p_f.vSeq)) with hb1 | hb1
  replace h := cnd_t hb1 h
  refine g1 hb1 (T_faP tb_23 tb_3) ?_
  refine g1 (d := dI .i64 p_f.vSeq) hb1 (T_ldC tb_3) ?_
  refine g1 hb1 T_leq ?_
  refine s1 (d := dB (decide (p_f.vSeq ≤ (2199023255552 : Int)))) (T_pickT hb1) ?_
  refine s1 T_mv ?_
  rcases Bool.eq_false_or_eq_true (decide (p_f.vSeq ≤ (2199023255552 : Int))) with hb2 | hb2
  replace h := cnd_t hb2 h
  refine g1 hb2 (T_faP tb_23 tb_3) ?_
  refine g1 (d := dI .i64 p_f.vAck) hb2 (T_ldC tb_3) ?_
  refine g1 hb2 T_geq ?_
  refine s1 (d := dB (decide ((1 : Int) ≤ p_f.vAck))) (T_pickT hb2) ?_
  refine s1 T_mv ?_
  rcases Bool.eq_false_or_eq_true (decide ((1 : Int) ≤ p_f.vAck)) with hb3 | hb3
  replace h := cnd_t hb3 h
  refine g1 hb3 (T_faP tb_23 tb_3) ?_
  refine g1 (d := dI .i64 p_f.vAck) hb3 (T_ldC tb_3) ?_
  refine g1 hb3 T_leq ?_
  refine s1 (d := dB (decide (p_f.vAck ≤ (2199023255552 : Int)))) (T_pickT hb3) ?_
  refine s1 T_mv ?_
  rcases Bool.eq_false_or_eq_true (decide (p_f.vAck ≤ (2199023255552 : Int))) with hb4 | hb4
  replace h := cnd_t hb4 h
  refine g1 hb4 (T_faP tb_23 tb_9) ?_
  refine g1 (d := dS p_f.vData) hb4 (T_ldC tb_9) ?_
  obtain ⟨x5, hx6, h⟩ := bnd_some h
  refine g1 (d := dB x5) hb4 (T_call rfl (w_link_short hx6) rfl (lA (le_refl' _) lAn) (.inl rfl)) ?_
  refine s1 (d := dB x5) (T_pickT hb4) ?_
  refine s1 T_mv ?_
  rcases Bool.eq_false_or_eq_true x5 with hb7 | hb7
  replace h := cnd_t hb7 h
  refine g1 hb7 (T_faP tb_23 tb_3) ?_
  refine g1 (d := dI .i64 p_f.vSeq) hb7 (T_ldC tb_3) ?_
  refine g1 hb7 T_gtr ?_
  refine g1 hb7 T_mv ?_
  rcases Bool.eq_false_or_eq_true (decide ((0 : Int) < p_f.vSeq)) with hb8 | hb8
  replace h := cnd_t hb8 h
  iterate 3 refine no_t rfl rfl hb8 ?_
  refine g1 (d := dB true) hb7 (T_pickT hb8) ?_
  refine s1 (d := dB true) (T_pickT hb7) ?_
  refine s1 T_as ?_
  refine .nil (hK _ _ ?_)
  obtain rfl := Option.some.inj h
  exact PE.i (wk h0 [] (wR rfl wTn) wVn wLn)
  replace h := cnd_f hb8 h
  refine g1 hb8 (T_faP tb_23 tb_9) ?_
  refine g1 (d := dS p_f.vData) hb8 (T_ldC tb_9) ?_
  refine g1 hb8 T_seql ?_
  refine g1 (d := dB (decide (p_f.vData = ByteArray.empty))) hb7 (T_pickF hb8) ?_
  refine s1 (d := dB (decide (p_f.vData = ByteArray.empty))) (T_pickT hb7) ?_
  refine s1 T_as ?_
  refine .nil (hK _ _ ?_)
  obtain rfl := Option.some.inj h
  exact PE.i (wk h0 [] (wR rfl wTn) wVn wLn)
  replace h := cnd_f hb7 h
  iterate 4 refine no_t rfl rfl hb7 ?_
  iterate 3 refine nn_t rfl rfl ?_
  refine no_t rfl rfl hb7 ?_
  refine s1 (d := dB false) (T_pickF hb7) ?_
  refine s1 T_as ?_
  refine .nil (hK _ _ ?_)
  obtain rfl := Option.some.inj h
  exact PE.i (wk h0 [] (wR rfl wTn) wVn wLn)
  replace h := cnd_f hb4 h
  iterate 3 refine no_t rfl rfl hb4 ?_
  refine s1 (d := dB false) (T_pickF hb4) ?_
  refine s1 T_mv ?_
  iterate 4 refine no_t rfl rfl rfl ?_
  iterate 3 refine nn_t rfl rfl ?_
  refine no_t rfl rfl rfl ?_
  refine s1 (d := dB false) (T_pickF rfl) ?_
  refine s1 T_as ?_
  refine .nil (hK _ _ ?_)
  obtain rfl := Option.some.inj h
  exact PE.i (wk h0 [] (wR rfl wTn) wVn wLn)
  replace h := cnd_f hb3 h
  iterate 3 refine no_t rfl rfl hb3 ?_
  refine s1 (d := dB false) (T_pickF hb3) ?_
  refine s1 T_mv ?_
  iterate 3 refine no_t rfl rfl rfl ?_
  refine s1 (d := dB false) (T_pickF rfl) ?_
  refine s1 T_mv ?_
  iterate 4 refine no_t rfl rfl rfl ?_
  iterate 3 refine nn_t rfl rfl ?_
  refine no_t rfl rfl rfl ?_
  refine s1 (d := dB false) (T_pickF rfl) ?_
  refine s1 T_as ?_
  refine .nil (hK _ _ ?_)
  obtain rfl := Option.some.inj h
  exact PE.i (wk h0 [] (wR rfl wTn) wVn wLn)
  replace h := cnd_f hb2 h
  iterate 3 refine no_t rfl rfl hb2 ?_
  refine s1 (d := dB false) (T_pickF hb2) ?_
  refine s1 T_mv ?_
  iterate 3 refine no_t rfl rfl rfl ?_
  refine s1 (d := dB false) (T_pickF rfl) ?_
  refine s1 T_mv ?_
  iterate 3 refine no_t rfl rfl rfl ?_
  refine s1 (d := dB false) (T_pickF rfl) ?_
  refine s1 T_mv ?_
  iterate 4 refine no_t rfl rfl rfl ?_
  iterate 3 refine nn_t rfl rfl ?_
  refine no_t rfl rfl rfl ?_
  refine s1 (d := dB false) (T_pickF rfl) ?_
  refine s1 T_as ?_
  refine .nil (hK _ _ ?_)
  obtain rfl := Option.some.inj h
  exact PE.i (wk h0 [] (wR rfl wTn) wVn wLn)
  replace h := cnd_f hb1 h
  iterate 3 refine no_t rfl rfl hb1 ?_
  refine s1 (d := dB false) (T_pickF hb1) ?_
  refine s1 T_mv ?_
  iterate 3 refine no_t rfl rfl rfl ?_
  refine s1 (d := dB false) (T_pickF rfl) ?_
  refine s1 T_mv ?_
  iterate 3 refine no_t rfl rfl rfl ?_
  refine s1 (d := dB false) (T_pickF rfl) ?_
  refine s1 T_mv ?_
  iterate 3 refine no_t rfl rfl rfl ?_
  refine s1 (d := dB false) (T_pickF rfl) ?_
  refine s1 T_mv ?_
  iterate 4 refine no_t rfl rfl rfl ?_
  iterate 3 refine nn_t rfl rfl ?_
  refine no_t rfl rfl rfl ?_
  refine s1 (d := dB false) (T_pickF rfl) ?_
  refine s1 T_as ?_
  refine .nil (hK _ _ ?_)
  obtain rfl := Option.some.inj h
  exact PE.i (wk h0 [] (wR rfl wTn) wVn wLn)
  rintro ex tm' hp' ⟨rfl, hw⟩
  refine AW.weak hw ?_
  refine AW.ret ?_
  obtain rfl := Option.some.inj h
  exact RetV.mk1 (resD_t rfl (.inr (.inr ⟨_, (le_refl' _), rfl, rfl⟩)))
noncomputable def g_ref42_SameFrames_l15 (p_a : List S_Frame) (p_b : List S_Frame) : Int → Option (Int ⊕ (Bool ⊕ Unit)) := fun a15_0 => cnd (decide (a15_0 < ((p_a).length : Int))) (gd (0 ≤ a15_0 ∧ a15_0 < ((p_a).length : Int)) (gd (0 ≤ a15_0 ∧ a15_0 < ((p_b).length : Int)) (cnd (decide (¬ ((p_a)[(a15_0).toNat]! = (p_b)[(a15_0).toNat]!))) (some (.inr (.inl false))) (some (.inl (IntKind.i64.wrap (a15_0 + (1 : Int)))))))) (some (.inr (.inr ())))
noncomputable def g_ref42_SameFrames (p_a : List S_Frame) (p_b : List S_Frame) : Option Bool := cnd (decide (((p_a).length : Int) ≠ ((p_b).length : Int))) (some false) (bnd (loopO (g_ref42_SameFrames_l15 p_a p_b) (0 : Int)) fun y8 => match y8 with | .inl r => some r | .inr () => some true)
set_option maxHeartbeats 4000000 in
theorem w_ref42_SameFrames {p_a : List S_Frame} {p_b : List S_Frame} {r : Bool} (h : g_ref42_SameFrames p_a p_b = some r) : PCalls Tryd.prog 15 [dL c_Frame p_a, dL c_Frame p_b] (dB r) := by
  refine PCalls.of (rs := [.tmp 4]) tok Tryd.func15 rfl rfl (Nat.le_of_ble_eq_true rfl) rfl (fun cx hx h0 => ?_)
  simp only [argsT, Nat.reduceAdd, Nat.zero_add]
  unfold g_ref42_SameFrames at h
  refine AW.seq ?_
  refine rg hx (by kernel_rfl) fun K hK => ?_
  refine s1 (d := dB false) T_asg ?_
  refine .nil (hK _ _ ?_)
  iterate 2 refine AW.seq ?_
  refine rg hx (by kernel_rfl) fun K hK => ?_
  refine s1 T_mv ?_
  refine s1 (d := dI .i64 ((p_a).length : Int)) (T_len tb_45 tb_23) ?_
  refine s1 T_mv ?_
  refine s1 (d := dI .i64 ((p_b).length : Int)) (T_len tb_45 tb_23) ?_
  refine s1 T_neq ?_
  refine .nil (hK _ _ ?_)
  refine AW.condS rfl (fun hb1 => ?_) (fun hb1 => ?_)
  replace h := cnd_t hb1 h
  refine AW.seq ?_
  refine rg hx (by kernel_rfl) fun K hK => ?_
  refine s1 (d := dB false) T_asg ?_
  refine .nil (hK _ _ ?_)
  refine AW.ret ?_
  obtain rfl := Option.some.inj h
  exact RetV.mk1 (resD_t rfl (.inr (.inr ⟨_, (le_refl' _), rfl, rfl⟩)))
  replace h := cnd_f hb1 h
  refine AW.skip ?_
  iterate 2 refine AW.seq ?_
  refine rg hx (by kernel_rfl) fun K hK => ?_
  refine s1 (d := dI .i64 (0 : Int)) T_asg ?_
  refine .nil (hK _ _ ?_)
  refine AW.block ?_
  obtain ⟨y, hy, h⟩ := bnd_some h
  refine lp (S := Int) (X := Bool ⊕ Unit) (fun a15_0 => [(0, dL c_Frame p_a), (1, dL c_Frame p_b), (5, dI .i64 a15_0)]) (fun a15_0 => ⟨[], [], 0⟩) (PS (PR [.tmp 4] fun r => dB r) (PE cx (.exit 0) (fun () => []) fun () => ⟨[], [], 0⟩)) hy ?_ ?_ ?_
  exact wk h0 [] (wR rfl (wR rfl (wR rfl wTn))) wVn wLn
  clear hy h
  rintro a15_0 y h
  dsimp only [g_ref42_SameFrames_l15] at h
  iterate 2 refine AW.seq ?_
  refine rg hx (by kernel_rfl) fun K hK => ?_
  iterate 2 refine s1 T_mv ?_
  refine s1 (d := dI .i64 ((p_a).length : Int)) (T_len tb_45 tb_23) ?_
  refine s1 T_lss ?_
  refine .nil (hK _ _ ?_)
  refine AW.condS rfl (fun hb2 => ?_) (fun hb2 => ?_)
  replace h := cnd_t hb2 h
  refine AW.skip ?_
  refine AW.seq ?_
  refine AW.block ?_
  refine AW.seq ?_
  refine rd [] hx (by kernel_rfl) (by kernel_rfl) fun K hK => ?_
  iterate 2 refine s1 T_mv ?_
  obtain ⟨hc3, h⟩ := gd_some h
  have hn4 : (a15_0).toNat < (p_a).length := by omega
  refine s1 (T_iaS hc3 tb_45 tb_23) ?_
  refine s1 (d := dG c_Frame ((p_a)[(a15_0).toNat]!)) (T_ldG (c := c_Frame) (l := p_a) (n := (a15_0).toNat) (o := 0) tb_23 hn4 (whole_G _ _ rfl)) ?_
  iterate 2 refine s1 T_mv ?_
  obtain ⟨hc5, h⟩ := gd_some h
  have hn6 : (a15_0).toNat < (p_b).length := by omega
  refine s1 (T_iaS hc5 tb_45 tb_23) ?_
  refine s1 (d := dG c_Frame ((p_b)[(a15_0).toNat]!)) (T_ldG (c := c_Frame) (l := p_b) (n := (a15_0).toNat) (o := 0) tb_23 hn6 (whole_G _ _ rfl)) ?_
  refine s1 (T_gneq tok 6 (by decide) tb_23 rfl (by kernel_rfl) (by kernel_rfl) rfl rfl rfl rfl (eqF_Frame _) (eqF_Frame _) (eqI_Frame _ _)) ?_
  refine .nil (hK _ _ ?_)
  refine AW.condS rfl (fun hb7 => ?_) (fun hb7 => ?_)
  replace h := cnd_t hb7 h
  refine AW.seq ?_
  refine rg hx (by kernel_rfl) fun K hK => ?_
  refine s1 (d := dB false) T_asg ?_
  refine .nil (hK _ _ ?_)
  refine AW.ret ?_
  obtain rfl := Option.some.inj h
  refine PS.r ⟨by nofun, PS.l (PR.i ?_)⟩
  exact RetV.mk1 (resD_t rfl (.inr (.inr ⟨_, (le_refl' _), rfl, rfl⟩)))
  replace h := cnd_f hb7 h
  refine AW.skip ?_
  refine rg hx (by kernel_rfl) fun K hK => ?_
  refine s1 T_mv ?_
  refine s1 T_add ?_
  refine s1 T_as ?_
  refine .nil (hK _ _ ?_)
  obtain rfl := Option.some.inj h
  exact PS.l (PE.i (wk h0 [] (wR rfl (wR rfl (wR rfl wTn))) wVn wLn))
  replace h := cnd_f hb2 h
  refine AW.exit ?_
  try dsimp only
  try simp only [if_true, reduceIte, Nat.reduceEqDiff, reduceCtorEq]
  obtain rfl := Option.some.inj h
  exact PS.r ⟨by nofun, PS.r (PE.i (wk h0 [] wTn wVn wLn))⟩
  rcases y with r | ⟨⟩
  rintro ex tm' hp' ⟨rfl, hw⟩
  obtain rfl := Option.some.inj h
  exact hw
  rintro ex tm' hp' ⟨rfl, hw⟩
  try dsimp only
  try simp only [if_true, reduceIte, Nat.reduceEqDiff, reduceCtorEq]
  refine AW.weak hw ?_
  refine AW.seq ?_
  refine rg hx (by kernel_rfl) fun K hK => ?_
  refine s1 (d := dB true) T_asg ?_
  refine .nil (hK _ _ ?_)
  refine AW.ret ?_
  obtain rfl := Option.some.inj h
  exact RetV.mk1 (resD_t rfl (.inr (.inr ⟨_, (le_refl' _), rfl, rfl⟩)))
noncomputable def g_ref01_SameTexts_l15 (p_a : List ByteArray) (p_b : List ByteArray) : Int → Option (Int ⊕ (Bool ⊕ Unit)) := fun a15_0 => cnd (decide (a15_0 < ((p_a).length : Int))) (gd (0 ≤ a15_0 ∧ a15_0 < ((p_a).length : Int)) (gd (0 ≤ a15_0 ∧ a15_0 < ((p_b).length : Int)) (cnd (decide (((p_a)[(a15_0).toNat]!) ≠ ((p_b)[(a15_0).toNat]!))) (some (.inr (.inl false))) (some (.inl (IntKind.i64.wrap (a15_0 + (1 : Int)))))))) (some (.inr (.inr ())))
noncomputable def g_ref01_SameTexts (p_a : List ByteArray) (p_b : List ByteArray) : Option Bool := cnd (decide (((p_a).length : Int) ≠ ((p_b).length : Int))) (some false) (bnd (loopO (g_ref01_SameTexts_l15 p_a p_b) (0 : Int)) fun y8 => match y8 with | .inl r => some r | .inr () => some true)
set_option maxHeartbeats 4000000 in
theorem w_ref01_SameTexts {p_a : List ByteArray} {p_b : List ByteArray} {r : Bool} (h : g_ref01_SameTexts p_a p_b = some r) : PCalls Tryd.prog 17 [dL cS p_a, dL cS p_b] (dB r) := by
  refine PCalls.of (rs := [.tmp 4]) tok Tryd.func17 rfl rfl (Nat.le_of_ble_eq_true rfl) rfl (fun cx hx h0 => ?_)
  simp only [argsT, Nat.reduceAdd, Nat.zero_add]
  unfold g_ref01_SameTexts at h
  refine AW.seq ?_
  refine rg hx (by kernel_rfl) fun K hK => ?_
  refine s1 (d := dB false) T_asg ?_
  refine .nil (hK _ _ ?_)
  iterate 2 refine AW.seq ?_
  refine rg hx (by kernel_rfl) fun K hK => ?_
  refine s1 T_mv ?_
  refine s1 (d := dI .i64 ((p_a).length : Int)) (T_len tb_36 tb_9) ?_
  refine s1 T_mv ?_
  refine s1 (d := dI .i64 ((p_b).length : Int)) (T_len tb_36 tb_9) ?_
  refine s1 T_neq ?_
  refine .nil (hK _ _ ?_)
  refine AW.condS rfl (fun hb1 => ?_) (fun hb1 => ?_)
  replace h := cnd_t hb1 h
  refine AW.seq ?_
  refine rg hx (by kernel_rfl) fun K hK => ?_
  refine s1 (d := dB false) T_asg ?_
  refine .nil (hK _ _ ?_)
  refine AW.ret ?_
  obtain rfl := Option.some.inj h
  exact RetV.mk1 (resD_t rfl (.inr (.inr ⟨_, (le_refl' _), rfl, rfl⟩)))
  replace h := cnd_f hb1 h
  refine AW.skip ?_
  iterate 2 refine AW.seq ?_
  refine rg hx (by kernel_rfl) fun K hK => ?_
  refine s1 (d := dI .i64 (0 : Int)) T_asg ?_
  refine .nil (hK _ _ ?_)
  refine AW.block ?_
  obtain ⟨y, hy, h⟩ := bnd_some h
  refine lp (S := Int) (X := Bool ⊕ Unit) (fun a15_0 => [(0, dL cS p_a), (1, dL cS p_b), (5, dI .i64 a15_0)]) (fun a15_0 => ⟨[], [], 0⟩) (PS (PR [.tmp 4] fun r => dB r) (PE cx (.exit 0) (fun () => []) fun () => ⟨[], [], 0⟩)) hy ?_ ?_ ?_
  exact wk h0 [] (wR rfl (wR rfl (wR rfl wTn))) wVn wLn
  clear hy h
  rintro a15_0 y h
  dsimp only [g_ref01_SameTexts_l15] at h
  iterate 2 refine AW.seq ?_
  refine rg hx (by kernel_rfl) fun K hK => ?_
  iterate 2 refine s1 T_mv ?_
  refine s1 (d := dI .i64 ((p_a).length : Int)) (T_len tb_36 tb_9) ?_
  refine s1 T_lss ?_
  refine .nil (hK _ _ ?_)
  refine AW.condS rfl (fun hb2 => ?_) (fun hb2 => ?_)
  replace h := cnd_t hb2 h
  refine AW.skip ?_
  refine AW.seq ?_
  refine AW.block ?_
  refine AW.seq ?_
  refine rd [] hx (by kernel_rfl) (by kernel_rfl) fun K hK => ?_
  iterate 2 refine s1 T_mv ?_
  obtain ⟨hc3, h⟩ := gd_some h
  have hn4 : (a15_0).toNat < (p_a).length := by omega
  refine s1 (T_iaS hc3 tb_36 tb_9) ?_
  refine s1 (d := dS ((p_a)[(a15_0).toNat]!)) (T_ldF (c := cS) (l := p_a) (n := (a15_0).toNat) (o := 0) tb_9 hn4) ?_
  iterate 2 refine s1 T_mv ?_
  obtain ⟨hc5, h⟩ := gd_some h
  have hn6 : (a15_0).toNat < (p_b).length := by omega
  refine s1 (T_iaS hc5 tb_36 tb_9) ?_
  refine s1 (d := dS ((p_b)[(a15_0).toNat]!)) (T_ldF (c := cS) (l := p_b) (n := (a15_0).toNat) (o := 0) tb_9 hn6) ?_
  refine s1 T_sneq ?_
  refine .nil (hK _ _ ?_)
  refine AW.condS rfl (fun hb7 => ?_) (fun hb7 => ?_)
  replace h := cnd_t hb7 h
  refine AW.seq ?_
  refine rg hx (by kernel_rfl) fun K hK => ?_
  refine s1 (d := dB false) T_asg ?_
  refine .nil (hK _ _ ?_)
  refine AW.ret ?_
  obtain rfl := Option.some.inj h
  refine PS.r ⟨by nofun, PS.l (PR.i ?_)⟩
  exact RetV.mk1 (resD_t rfl (.inr (.inr ⟨_, (le_refl' _), rfl, rfl⟩)))
  replace h := cnd_f hb7 h
  refine AW.skip ?_
  refine rg hx (by kernel_rfl) fun K hK => ?_
  refine s1 T_mv ?_
  refine s1 T_add ?_
  refine s1 T_as ?_
  refine .nil (hK _ _ ?_)
  obtain rfl := Option.some.inj h
  exact PS.l (PE.i (wk h0 [] (wR rfl (wR rfl (wR rfl wTn))) wVn wLn))
  replace h := cnd_f hb2 h
  refine AW.exit ?_
  try dsimp only
  try simp only [if_true, reduceIte, Nat.reduceEqDiff, reduceCtorEq]
  obtain rfl := Option.some.inj h
  exact PS.r ⟨by nofun, PS.r (PE.i (wk h0 [] wTn wVn wLn))⟩
  rcases y with r | ⟨⟩
  rintro ex tm' hp' ⟨rfl, hw⟩
  obtain rfl := Option.some.inj h
  exact hw
  rintro ex tm' hp' ⟨rfl, hw⟩
  try dsimp only
  try simp only [if_true, reduceIte, Nat.reduceEqDiff, reduceCtorEq]
  refine AW.weak hw ?_
  refine AW.seq ?_
  refine rg hx (by kernel_rfl) fun K hK => ?_
  refine s1 (d := dB true) T_asg ?_
  refine .nil (hK _ _ ?_)
  refine AW.ret ?_
  obtain rfl := Option.some.inj h
  exact RetV.mk1 (resD_t rfl (.inr (.inr ⟨_, (le_refl' _), rfl, rfl⟩)))
noncomputable def g_ref42_Same_l15 (p_a : S_End) (p_b : S_End) : Int → Option (Int ⊕ (Bool ⊕ Unit)) := fun a15_0 => cnd (decide (a15_0 < ((p_a.vHeld).length : Int))) (gd (0 ≤ a15_0 ∧ a15_0 < ((p_a.vHeld).length : Int)) (gd (0 ≤ a15_0 ∧ a15_0 < ((p_b.vHeld).length : Int)) (cnd (decide (¬ ((p_a.vHeld)[(a15_0).toNat]! = (p_b.vHeld)[(a15_0).toNat]!))) (some (.inr (.inl false))) (some (.inl (IntKind.i64.wrap (a15_0 + (1 : Int)))))))) (some (.inr (.inr ())))
noncomputable def g_ref42_Same (p_a : S_End) (p_b : S_End) : Option Bool := bnd (S := Bool) (cnd (decide (p_a.vBase ≠ p_b.vBase)) (some (true)) (cnd (decide (p_a.vWant ≠ p_b.vWant)) (some (true)) (bnd (g_ref01_SameTexts p_a.vQueue p_b.vQueue) fun x3 => cnd (!x3) (some (true)) (some (decide (((p_a.vHeld).length : Int) ≠ ((p_b.vHeld).length : Int))))))) fun a5_0 => cnd a5_0 (some false) (bnd (loopO (g_ref42_Same_l15 p_a p_b) (0 : Int)) fun y14 => match y14 with | .inl r => some r | .inr () => some true)
set_option maxHeartbeats 4000000 in
theorem w_ref42_Same {p_a : S_End} {p_b : S_End} {r : Bool} (h : g_ref42_Same p_a p_b = some r) : PCalls Tryd.prog 18 [dG c_End p_a, dG c_End p_b] (dB r) := by
  refine PCalls.of (rs := [.tmp 4]) tok Tryd.func18 rfl rfl (Nat.le_of_ble_eq_true rfl) rfl (fun cx hx h0 => ?_)
  simp only [argsT, Nat.reduceAdd, Nat.zero_add]
  unfold g_ref42_Same at h
  refine AW.seq ?_
  refine rg hx (by kernel_rfl) fun K hK => ?_
  refine s1 (d := .pt 0 0) T_box ?_
  refine s1 (d := .pt 1 0) T_box ?_
  refine s1 (d := dB false) T_asg ?_
  refine .nil (hK _ _ ?_)
  iterate 2 refine AW.seq ?_
  obtain ⟨a5_0, hy, h⟩ := bnd_some h
  refine jn ((PE cx .normal (fun a5_0 => [(2, .pt 0 0), (3, .pt 1 0), (34, dB a5_0)]) fun a5_0 => ⟨[(0, [dI .i64 p_a.vBase, dL cS p_a.vQueue, dI .i64 p_a.vWant, dL c_Held p_a.vHeld]), (1, [dI .i64 p_b.vBase, dL cS p_b.vQueue, dI .i64 p_b.vWant, dL c_Held p_b.vHeld])], [], 2⟩) a5_0) ?_ ?_
  replace h := hy
  refine rg hx (by kernel_rfl) fun K hK => ?_
  refine s1 (T_faP tb_39 tb_3) ?_
  refine s1 (d := dI .i64 p_a.vBase) (T_ldC tb_3) ?_
  refine s1 (T_faP tb_39 tb_3) ?_
  refine s1 (d := dI .i64 p_b.vBase) (T_ldC tb_3) ?_
  refine s1 T_neq ?_
  refine s1 T_mv ?_
  rcases Bool.eq_false_or_eq_true (decide (p_a.vBase ≠ p_b.vBase)) with hb1 | hb1
  replace h := cnd_t hb1 h
  iterate 5 refine no_t rfl rfl hb1 ?_
  refine s1 (d := dB true) (T_pickT hb1) ?_
  refine s1 T_mv ?_
  iterate 6 refine no_t rfl rfl rfl ?_
  refine s1 (d := dB true) (T_pickT rfl) ?_
  refine s1 T_mv ?_
  iterate 7 refine no_t rfl rfl rfl ?_
  refine s1 (d := dB true) (T_pickT rfl) ?_
  refine .nil (hK _ _ ?_)
  obtain rfl := Option.some.inj h
  exact PE.i (wk h0 [0, 1] (wR rfl (wR rfl (wR rfl wTn))) (vR rfl (vR rfl wVn)) wLn)
  replace h := cnd_f hb1 h
  refine g1 hb1 (T_faP tb_39 tb_3) ?_
  refine g1 (d := dI .i64 p_a.vWant) hb1 (T_ldC tb_3) ?_
  refine g1 hb1 (T_faP tb_39 tb_3) ?_
  refine g1 (d := dI .i64 p_b.vWant) hb1 (T_ldC tb_3) ?_
  refine g1 hb1 T_neq ?_
  refine s1 (d := dB (decide (p_a.vWant ≠ p_b.vWant))) (T_pickF hb1) ?_
  refine s1 T_mv ?_
  rcases Bool.eq_false_or_eq_true (decide (p_a.vWant ≠ p_b.vWant)) with hb2 | hb2
  replace h := cnd_t hb2 h
  iterate 6 refine no_t rfl rfl hb2 ?_
  refine s1 (d := dB true) (T_pickT hb2) ?_
  refine s1 T_mv ?_
  iterate 7 refine no_t rfl rfl rfl ?_
  refine s1 (d := dB true) (T_pickT rfl) ?_
  refine .nil (hK _ _ ?_)
  obtain rfl := Option.some.inj h
  exact PE.i (wk h0 [0, 1] (wR rfl (wR rfl (wR rfl wTn))) (vR rfl (vR rfl wVn)) wLn)
  replace h := cnd_f hb2 h
  refine g1 hb2 (T_faP tb_39 tb_36) ?_
  refine g1 (d := dL cS p_a.vQueue) hb2 (T_ldC tb_36) ?_
  refine g1 hb2 (T_faP tb_39 tb_36) ?_
  refine g1 (d := dL cS p_b.vQueue) hb2 (T_ldC tb_36) ?_
  obtain ⟨x3, hx4, h⟩ := bnd_some h
  refine g1 (d := dB x3) hb2 (T_call rfl (w_ref01_SameTexts hx4) rfl (lA (le_refl' _) (lA (le_refl' _) lAn)) (.inl rfl)) ?_
  refine g1 hb2 T_not ?_
  refine s1 (d := dB (!x3)) (T_pickF hb2) ?_
  refine s1 T_mv ?_
  rcases Bool.eq_false_or_eq_true (!x3) with hb5 | hb5
  replace h := cnd_t hb5 h
  iterate 7 refine no_t rfl rfl hb5 ?_
  refine s1 (d := dB true) (T_pickT hb5) ?_
  refine .nil (hK _ _ ?_)
  obtain rfl := Option.some.inj h
  exact PE.i (wk h0 [0, 1] (wR rfl (wR rfl (wR rfl wTn))) (vR rfl (vR rfl wVn)) wLn)
  replace h := cnd_f hb5 h
  refine g1 hb5 (T_faP tb_39 tb_37) ?_
  refine g1 (d := dL c_Held p_a.vHeld) hb5 (T_ldC tb_37) ?_
  refine g1 (d := dI .i64 ((p_a.vHeld).length : Int)) hb5 (T_len tb_37 tb_51) ?_
  refine g1 hb5 (T_faP tb_39 tb_37) ?_
  refine g1 (d := dL c_Held p_b.vHeld) hb5 (T_ldC tb_37) ?_
  refine g1 (d := dI .i64 ((p_b.vHeld).length : Int)) hb5 (T_len tb_37 tb_51) ?_
  refine g1 hb5 T_neq ?_
  refine s1 (d := dB (decide (((p_a.vHeld).length : Int) ≠ ((p_b.vHeld).length : Int)))) (T_pickF hb5) ?_
  refine .nil (hK _ _ ?_)
  obtain rfl := Option.some.inj h
  exact PE.i (wk h0 [0, 1] (wR rfl (wR rfl (wR rfl wTn))) (vR rfl (vR rfl wVn)) wLn)
  rintro ex tm' hp' ⟨rfl, hw⟩
  refine AW.weak hw ?_
  refine AW.condS rfl (fun hb7 => ?_) (fun hb7 => ?_)
  replace h := cnd_t hb7 h
  refine AW.seq ?_
  refine rg hx (by kernel_rfl) fun K hK => ?_
  refine s1 (d := dB false) T_asg ?_
  refine .nil (hK _ _ ?_)
  refine AW.ret ?_
  obtain rfl := Option.some.inj h
  exact RetV.mk1 (resD_t rfl (.inr (.inr ⟨_, (le_refl' _), rfl, rfl⟩)))
  replace h := cnd_f hb7 h
  refine AW.skip ?_
  iterate 2 refine AW.seq ?_
  refine rg hx (by kernel_rfl) fun K hK => ?_
  refine s1 (d := dI .i64 (0 : Int)) T_asg ?_
  refine .nil (hK _ _ ?_)
  refine AW.block ?_
  obtain ⟨y, hy, h⟩ := bnd_some h
  refine lp (S := Int) (X := Bool ⊕ Unit) (fun a15_0 => [(2, .pt 0 0), (3, .pt 1 0), (5, dI .i64 a15_0)]) (fun a15_0 => ⟨[(0, [dI .i64 p_a.vBase, dL cS p_a.vQueue, dI .i64 p_a.vWant, dL c_Held p_a.vHeld]), (1, [dI .i64 p_b.vBase, dL cS p_b.vQueue, dI .i64 p_b.vWant, dL c_Held p_b.vHeld])], [], 2⟩) (PS (PR [.tmp 4] fun r => dB r) (PE cx (.exit 0) (fun () => []) fun () => ⟨[], [], 0⟩)) hy ?_ ?_ ?_
  exact wk h0 [0, 1] (wR rfl (wR rfl (wR rfl wTn))) (vR rfl (vR rfl wVn)) wLn
  clear hy h
  rintro a15_0 y h
  dsimp only [g_ref42_Same_l15] at h
  iterate 2 refine AW.seq ?_
  refine rg hx (by kernel_rfl) fun K hK => ?_
  refine s1 T_mv ?_
  refine s1 (T_faP tb_39 tb_37) ?_
  refine s1 (d := dL c_Held p_a.vHeld) (T_ldC tb_37) ?_
  refine s1 (d := dI .i64 ((p_a.vHeld).length : Int)) (T_len tb_37 tb_51) ?_
  refine s1 T_lss ?_
  refine .nil (hK _ _ ?_)
  refine AW.condS rfl (fun hb8 => ?_) (fun hb8 => ?_)
  replace h := cnd_t hb8 h
  refine AW.skip ?_
  refine AW.seq ?_
  refine AW.block ?_
  refine AW.seq ?_
  refine rd [] hx (by kernel_rfl) (by kernel_rfl) fun K hK => ?_
  refine s1 (T_faP tb_39 tb_37) ?_
  refine s1 (d := dL c_Held p_a.vHeld) (T_ldC tb_37) ?_
  refine s1 T_mv ?_
  obtain ⟨hc9, h⟩ := gd_some h
  have hn10 : (a15_0).toNat < (p_a.vHeld).length := by omega
  refine s1 (T_iaS hc9 tb_37 tb_51) ?_
  refine s1 (d := dG c_Held ((p_a.vHeld)[(a15_0).toNat]!)) (T_ldG (c := c_Held) (l := p_a.vHeld) (n := (a15_0).toNat) (o := 0) tb_51 hn10 (whole_G _ _ rfl)) ?_
  refine s1 (T_faP tb_39 tb_37) ?_
  refine s1 (d := dL c_Held p_b.vHeld) (T_ldC tb_37) ?_
  refine s1 T_mv ?_
  obtain ⟨hc11, h⟩ := gd_some h
  have hn12 : (a15_0).toNat < (p_b.vHeld).length := by omega
  refine s1 (T_iaS hc11 tb_37 tb_51) ?_
  refine s1 (d := dG c_Held ((p_b.vHeld)[(a15_0).toNat]!)) (T_ldG (c := c_Held) (l := p_b.vHeld) (n := (a15_0).toNat) (o := 0) tb_51 hn12 (whole_G _ _ rfl)) ?_
  refine s1 (T_gneq tok 6 (by decide) tb_51 rfl (by kernel_rfl) (by kernel_rfl) rfl rfl rfl rfl (eqF_Held _) (eqF_Held _) (eqI_Held _ _)) ?_
  refine .nil (hK _ _ ?_)
  refine AW.condS rfl (fun hb13 => ?_) (fun hb13 => ?_)
  replace h := cnd_t hb13 h
  refine AW.seq ?_
  refine rg hx (by kernel_rfl) fun K hK => ?_
  refine s1 (d := dB false) T_asg ?_
  refine .nil (hK _ _ ?_)
  refine AW.ret ?_
  obtain rfl := Option.some.inj h
  refine PS.r ⟨by nofun, PS.l (PR.i ?_)⟩
  exact RetV.mk1 (resD_t rfl (.inr (.inr ⟨_, (le_refl' _), rfl, rfl⟩)))
  replace h := cnd_f hb13 h
  refine AW.skip ?_
  refine rg hx (by kernel_rfl) fun K hK => ?_
  refine s1 T_mv ?_
  refine s1 T_add ?_
  refine s1 T_as ?_
  refine .nil (hK _ _ ?_)
  obtain rfl := Option.some.inj h
  exact PS.l (PE.i (wk h0 [0, 1] (wR rfl (wR rfl (wR rfl wTn))) (vR rfl (vR rfl wVn)) wLn))
  replace h := cnd_f hb8 h
  refine AW.exit ?_
  try dsimp only
  try simp only [if_true, reduceIte, Nat.reduceEqDiff, reduceCtorEq]
  obtain rfl := Option.some.inj h
  exact PS.r ⟨by nofun, PS.r (PE.i (wk h0 [] wTn wVn wLn))⟩
  rcases y with r | ⟨⟩
  rintro ex tm' hp' ⟨rfl, hw⟩
  obtain rfl := Option.some.inj h
  exact hw
  rintro ex tm' hp' ⟨rfl, hw⟩
  try dsimp only
  try simp only [if_true, reduceIte, Nat.reduceEqDiff, reduceCtorEq]
  refine AW.weak hw ?_
  refine AW.seq ?_
  refine rg hx (by kernel_rfl) fun K hK => ?_
  refine s1 (d := dB true) T_asg ?_
  refine .nil (hK _ _ ?_)
  refine AW.ret ?_
  obtain rfl := Option.some.inj h
  exact RetV.mk1 (resD_t rfl (.inr (.inr ⟨_, (le_refl' _), rfl, rfl⟩)))
section
section
variable {R S T : Type}
theorem cnd_true (x y : Option R) : cnd true x y = x := rfl
theorem cnd_false (x y : Option R) : cnd false x y = y := rfl
theorem cnd_and (b c : Bool) : cnd b (some c) (some false) = some (b && c) := by cases b <;> rfl
theorem cnd_or (b c : Bool) : cnd b (some true) (some c) = some (b || c) := by cases b <;> rfl
theorem cnd_nand (b c : Bool) : cnd b (some false) (some c) = some (!b && c) := by cases b <;> rfl
theorem bnd_id (x : Option R) : (bnd x fun a => some a) = x := by cases x <;> rfl
theorem cnd_pos {b : Bool} (x y : Option R) (h : b = true) : cnd b x y = x := by subst h; rfl
theorem cnd_neg {b : Bool} (x y : Option R) (h : b = false) : cnd b x y = y := by subst h; rfl
theorem cnd_dec (p : Prop) [Decidable p] (x y : Option R) : cnd (decide p) x y = if p then x else y := by
  by_cases h : p <;> simp [h, cnd]
theorem cndT {p : Prop} [Decidable p] (x y : Option R) (h : p) : cnd (decide p) x y = x := by rw [decide_eq_true h]; rfl
theorem cndF {p : Prop} [Decidable p] (x y : Option R) (h : ¬ p) : cnd (decide p) x y = y := by rw [decide_eq_false h]; rfl
end
theorem subL_to {α : Type} (l : List α) (b : Int) (h : 0 ≤ b) : subL l 0 b = l.take b.toNat := by
  unfold subL; simp
theorem subL_from {α : Type} (l : List α) (a : Int) : subL l a l.length = l.drop a.toNat := by
  unfold subL
  refine List.take_of_length_le ?_
  rw [List.length_drop]; omega
theorem subL_nat {α : Type} (l : List α) (a b : Nat) : subL l a b = (l.drop a).take (b - a) := by
  unfold subL
  congr 1
  omega
theorem w_id {z : Int} (h : -9223372036854775808 ≤ z ∧ z ≤ 9223372036854775807) : IntKind.i64.wrap z = z := wrap_id h.1 h.2
theorem bs_size0 (s : ByteArray) : s = ByteArray.empty ↔ s.size = 0 := by
  constructor
  · rintro rfl; rfl
  · intro h
    rcases s with ⟨⟨l⟩⟩
    have h' : l.length = 0 := h
    obtain rfl := List.eq_nil_of_length_eq_zero h'
    rfl
theorem bs_size0B (s : ByteArray) : decide (s = ByteArray.empty) = decide (s.size = 0) := decide_eq_decide.2 (bs_size0 s)
end
abbrev LHeld := Int × ByteArray
structure LEnd where
  base : Int
  queue : List ByteArray
  want : Int
  held : List LHeld
structure LFrame where
  seq : Int
  ack : Int
  data : ByteArray
deriving DecidableEq
def LEnd.prev (x : LEnd) (k : Nat) : Int := if k = 0 then x.want else (x.held.getD (k - 1) (0, .empty)).1
def LEnd.headB (x : LEnd) : Bool := decide (1 ≤ x.base) && decide (x.base ≤ 1099511627776) && decide (1 ≤ x.want) && decide (x.want ≤ 1099511627776) && decide (x.queue.length ≤ 64)
def shortB (s : ByteArray) : Bool := decide (s.size ≤ 4096)
def LEnd.queueB (x : LEnd) (k : Nat) : Bool := (x.queue.take k).all shortB
def LEnd.heldAt (x : LEnd) (k : Nat) (h : LHeld) : Bool := decide (x.prev k < h.1) && decide (h.1 < x.want + 8) && decide (h.1 < 1099511627776) && shortB h.2
def LEnd.heldB (x : LEnd) : Nat → Bool
  | 0 => true
  | k + 1 => x.heldB k && match x.held[k]? with
    | none => true
    | some h => x.heldAt k h
def LEnd.okB (x : LEnd) : Bool := x.headB && x.queueB x.queue.length && x.heldB x.held.length
theorem LEnd.queueB_succ (x : LEnd) (k : Nat) (s : ByteArray) (h : x.queue[k]? = some s) : x.queueB (k + 1) = (x.queueB k && shortB s) := by
  unfold LEnd.queueB
  rw [List.take_add_one, h]
  simp
theorem LEnd.heldB_succ (x : LEnd) (k : Nat) (h : LHeld) (hk : x.held[k]? = some h) : x.heldB (k + 1) = (x.heldB k && x.heldAt k h) := by
  show (x.heldB k && match x.held[k]? with | none => true | some h => x.heldAt k h) = _
  rw [hk]
theorem LEnd.heldB_mono (x : LEnd) {i k : Nat} (h : x.heldB k = true) (hi : i ≤ k) : x.heldB i = true := by
  induction k with
  | zero => obtain rfl : i = 0 := by omega
            rfl
  | succ k ih =>
    rcases Nat.lt_or_ge i (k + 1) with hlt | hge
    · refine ih ?_ (by omega)
      have h2 : (x.heldB k && match x.held[k]? with | none => true | some h => x.heldAt k h) = true := h
      rw [Bool.and_eq_true] at h2
      exact h2.1
    · obtain rfl : i = k + 1 := by omega
      exact h
theorem LEnd.heldAt_of (x : LEnd) {k i : Nat} (h : x.heldB k = true) (hi : i < k) {g : LHeld} (hg : x.held[i]? = some g) : x.heldAt i g = true := by
  have h2 := x.heldB_mono h (show i + 1 ≤ k by omega)
  rw [x.heldB_succ i g hg, Bool.and_eq_true] at h2
  exact h2.2
theorem LEnd.want_le_prev (x : LEnd) : ∀ {k : Nat}, x.heldB k = true → k ≤ x.held.length → x.want ≤ x.prev k
  | 0, _, _ => by unfold LEnd.prev; simp
  | k + 1, h, hk => by
    have hlt : k < x.held.length := by omega
    have hg : x.held[k]? = some x.held[k] := List.getElem?_eq_getElem hlt
    have h1 := x.heldAt_of h (by omega) hg
    have h2 := x.want_le_prev (x.heldB_mono h (Nat.le_succ k)) (by omega)
    unfold LEnd.heldAt at h1
    simp only [Bool.and_eq_true, decide_eq_true_eq] at h1
    have h3 : x.prev (k + 1) = x.held[k].1 := by
      unfold LEnd.prev
      rw [if_neg (by omega), Nat.add_sub_cancel]
      simp [List.getD, hg]
    omega
def LEnd.send (x : LEnd) (s : ByteArray) : LEnd := { x with queue := x.queue ++ [s] }
def LEnd.frames (x : LEnd) : List LFrame :=
  if x.queue.length = 0 then [⟨0, x.want, .empty⟩] else (x.queue.take 8).zipIdx.map fun p => ⟨x.base + p.2, x.want, p.1⟩
def LEnd.frameAt (x : LEnd) (k : Nat) : LFrame := ⟨x.base + k, x.want, x.queue.getD k .empty⟩
def LFrame.okB (f : LFrame) : Bool := decide (0 ≤ f.seq) && decide (f.seq ≤ 2199023255552) && decide (1 ≤ f.ack) && decide (f.ack ≤ 2199023255552) && shortB f.data && (decide (0 < f.seq) || decide (f.data.size = 0))
def LEnd.acked (x : LEnd) (f : LFrame) : LEnd :=
  if x.base < f.ack ∧ f.ack ≤ x.base + x.queue.length ∧ f.ack ≤ 1099511627776 then { x with base := f.ack, queue := x.queue.drop (f.ack - x.base).toNat } else x
def putHeld (h : LHeld) : List LHeld → List LHeld
  | [] => [h]
  | g :: l => if g.1 = h.1 then g :: l else if h.1 < g.1 then h :: g :: l else g :: putHeld h l
def LEnd.holds (x : LEnd) (f : LFrame) : LEnd :=
  if x.want < f.seq ∧ f.seq < x.want + 8 ∧ f.seq < 1099511627776 then { x with held := putHeld (f.seq, f.data) x.held } else x
def runLen (n : Int) : List LHeld → Nat
  | [] => 0
  | g :: l => if g.1 = n ∧ n < 1099511627776 then runLen (n + 1) l + 1 else 0
def LEnd.gives (x : LEnd) (f : LFrame) : LEnd × List ByteArray :=
  if f.seq = x.want ∧ x.want < 1099511627776 then
    let k := runLen (x.want + 1) x.held
    ({ x with want := x.want + 1 + k, held := x.held.drop k }, f.data :: (x.held.take k).map (·.2))
  else (x, [])
def LEnd.receive (x : LEnd) (f : LFrame) : LEnd × List ByteArray :=
  if f.okB then ((x.acked f).holds f).gives f else (x, [])
def Grows (n : Int) : List LHeld → Prop
  | [] => True
  | g :: l => n < g.1 ∧ Grows g.1 l
def lastN (n : Int) : List LHeld → Int
  | [] => n
  | g :: l => lastN g.1 l
def HeldOk (n : Int) (g : LHeld) : Prop := g.1 < n + 8 ∧ g.1 < 1099511627776 ∧ g.2.size ≤ 4096
theorem lastN_snoc : ∀ (n : Int) (l : List LHeld) (g : LHeld), lastN n (l ++ [g]) = g.1
  | _, [], _ => rfl
  | _, h :: l, g => lastN_snoc h.1 l g
theorem grows_snoc : ∀ (n : Int) (l : List LHeld) (g : LHeld), Grows n (l ++ [g]) ↔ Grows n l ∧ lastN n l < g.1
  | n, [], g => by simp [Grows, lastN]
  | n, h :: l, g => by
    show n < h.1 ∧ Grows h.1 (l ++ [g]) ↔ (n < h.1 ∧ Grows h.1 l) ∧ lastN h.1 l < g.1
    rw [grows_snoc h.1 l g, and_assoc]
theorem grows_mem : ∀ {n : Int} {l : List LHeld}, Grows n l → ∀ g ∈ l, n < g.1
  | _, [], _, g, hg => by cases hg
  | n, h :: l, hG, g, hg => by
    rcases List.mem_cons.1 hg with rfl | h2
    · exact hG.1
    · have := grows_mem hG.2 g h2
      have := hG.1
      omega
theorem grows_len : ∀ {n m : Int} {l : List LHeld}, Grows n l → (∀ g ∈ l, g.1 < m) → n < m → (l.length : Int) < m - n
  | n, m, [], _, _, h => by simp; omega
  | n, m, g :: l, hG, hm, h => by
    have h1 := grows_len hG.2 (fun k hk => hm k (List.mem_cons_of_mem _ hk)) (hm g (List.mem_cons_self ..))
    have h2 := hG.1
    simp only [List.length_cons]
    omega
theorem LEnd.prev_take (x : LEnd) : ∀ {k : Nat}, k ≤ x.held.length → x.prev k = lastN x.want (x.held.take k)
  | 0, _ => by simp [LEnd.prev, lastN]
  | k + 1, hk => by
    have hg : x.held[k]? = some x.held[k] := List.getElem?_eq_getElem (by omega)
    rw [List.take_add_one, hg]
    show _ = lastN x.want (x.held.take k ++ [x.held[k]])
    rw [lastN_snoc]
    simp [LEnd.prev, List.getD, hg]
theorem LEnd.heldB_take (x : LEnd) : ∀ {k : Nat}, k ≤ x.held.length → (x.heldB k = true ↔ Grows x.want (x.held.take k) ∧ ∀ g ∈ x.held.take k, HeldOk x.want g)
  | 0, _ => by simp [LEnd.heldB, Grows]
  | k + 1, hk => by
    have hg : x.held[k]? = some x.held[k] := List.getElem?_eq_getElem (by omega)
    rw [x.heldB_succ k _ hg, Bool.and_eq_true, x.heldB_take (show k ≤ x.held.length by omega), List.take_add_one, hg]
    show _ ↔ Grows x.want (x.held.take k ++ [x.held[k]]) ∧ ∀ g ∈ x.held.take k ++ [x.held[k]], HeldOk x.want g
    rw [grows_snoc, ← x.prev_take (by omega)]
    unfold LEnd.heldAt shortB HeldOk
    simp only [Bool.and_eq_true, decide_eq_true_eq, List.mem_append, List.mem_singleton]
    constructor
    · rintro ⟨⟨a, b⟩, ⟨⟨c, d⟩, e⟩, f⟩
      refine ⟨⟨a, c⟩, fun g hg => ?_⟩
      rcases hg with hg | rfl
      · exact b g hg
      · exact ⟨d, e, f⟩
    · rintro ⟨⟨a, c⟩, b⟩
      obtain ⟨d, e, f⟩ := b _ (.inr rfl)
      exact ⟨⟨a, fun g hg => b g (.inl hg)⟩, ⟨⟨c, d⟩, e⟩, f⟩
structure LEnd.Ok (x : LEnd) : Prop where
  b1 : 1 ≤ x.base
  b2 : x.base ≤ 1099511627776
  w1 : 1 ≤ x.want
  w2 : x.want ≤ 1099511627776
  ql : x.queue.length ≤ 64
  qs : ∀ s ∈ x.queue, s.size ≤ 4096
  hg : Grows x.want x.held
  ho : ∀ g ∈ x.held, HeldOk x.want g
theorem LEnd.okB_iff (x : LEnd) : x.okB = true ↔ x.Ok := by
  have h := x.heldB_take (Nat.le_refl _)
  rw [List.take_length] at h
  unfold LEnd.okB LEnd.headB LEnd.queueB shortB
  rw [Bool.and_eq_true, h]
  simp only [Bool.and_eq_true, decide_eq_true_eq, List.take_length, List.all_eq_true]
  constructor
  · rintro ⟨⟨⟨⟨⟨⟨a, b⟩, c⟩, d⟩, e⟩, f⟩, g, i⟩
    exact ⟨a, b, c, d, e, f, g, i⟩
  · rintro ⟨a, b, c, d, e, f, g, i⟩
    exact ⟨⟨⟨⟨⟨⟨a, b⟩, c⟩, d⟩, e⟩, f⟩, g, i⟩
theorem LEnd.Ok.held_len {x : LEnd} (h : x.Ok) : x.held.length ≤ 7 := by
  have := grows_len h.hg (fun g hg => (h.ho g hg).1) (by omega)
  omega
theorem putHeld_grows (h : LHeld) : ∀ {n : Int} {l : List LHeld}, Grows n l → n < h.1 → Grows n (putHeld h l)
  | n, [], _, hn => ⟨hn, trivial⟩
  | n, g :: l, hG, hn => by
    unfold putHeld
    split
    · exact hG
    · split
      · exact ⟨hn, by assumption, hG.2⟩
      · exact ⟨hG.1, putHeld_grows h hG.2 (by omega)⟩
theorem putHeld_mem (h : LHeld) : ∀ {l : List LHeld} {g : LHeld}, g ∈ putHeld h l → g = h ∨ g ∈ l
  | [], g, hg => by simpa [putHeld] using hg
  | k :: l, g, hg => by
    unfold putHeld at hg
    split at hg
    · exact .inr hg
    · split at hg
      · rcases List.mem_cons.1 hg with h1 | h1
        · exact .inl h1
        · exact .inr h1
      · rcases List.mem_cons.1 hg with h1 | h1
        · exact .inr (h1 ▸ List.mem_cons_self ..)
        · rcases putHeld_mem h h1 with h2 | h2
          · exact .inl h2
          · exact .inr (List.mem_cons_of_mem _ h2)
theorem putHeld_cut (h : LHeld) : ∀ (l : List LHeld) (k : Nat), k ≤ l.length → (∀ g ∈ l.take k, g.1 < h.1) → (∀ g, l[k]? = some g → h.1 < g.1) → putHeld h l = l.take k ++ h :: l.drop k
  | [], k, hk, _, _ => by
    obtain rfl : k = 0 := by simpa using hk
    rfl
  | g :: l, 0, _, _, h2 => by
    have := h2 g rfl
    unfold putHeld
    rw [if_neg (by omega), if_pos this]; rfl
  | g :: l, k + 1, hk, h1, h2 => by
    have := h1 g (by simp)
    unfold putHeld
    rw [if_neg (by omega), if_neg (by omega), putHeld_cut h l k (by simpa using hk) (fun j hj => h1 j (by simp [hj])) (fun j hj => h2 j (by simpa using hj))]
    rfl
theorem runLen_le : ∀ (n : Int) (l : List LHeld), runLen n l ≤ l.length
  | _, [] => Nat.le_refl _
  | n, g :: l => by
    unfold runLen
    split
    · have := runLen_le (n + 1) l
      simp only [List.length_cons]; omega
    · omega
theorem LEnd.Ok.acked {x : LEnd} (h : x.Ok) (f : LFrame) : (x.acked f).Ok := by
  unfold LEnd.acked
  split
  · rename_i hc
    have := h.b1
    exact ⟨by simp; omega, by simp; omega, h.w1, h.w2, by simp; have := h.ql; omega, fun s hs => h.qs s (List.mem_of_mem_drop hs), h.hg, h.ho⟩
  · exact h
theorem LEnd.Ok.holds {x : LEnd} (h : x.Ok) {f : LFrame} (hf : f.data.size ≤ 4096) : (x.holds f).Ok := by
  unfold LEnd.holds
  split
  · rename_i hc
    refine ⟨h.b1, h.b2, h.w1, h.w2, h.ql, h.qs, putHeld_grows _ h.hg hc.1, fun g hg => ?_⟩
    rcases putHeld_mem _ hg with rfl | hg
    · exact ⟨hc.2.1, hc.2.2, hf⟩
    · exact h.ho g hg
  · exact h
theorem LFrame.okB_data {f : LFrame} (h : f.okB = true) : f.data.size ≤ 4096 := by
  unfold LFrame.okB shortB at h
  simp only [Bool.and_eq_true, decide_eq_true_eq] at h
  exact h.1.2
set_option linter.defProp false in
def tb_all := (And.intro (And.intro (And.intro (And.intro (And.intro (And.intro @tb_2 @tb_3) (And.intro @tb_4 @tb_5)) (And.intro (And.intro @tb_6 @tb_7) (And.intro @tb_8 @tb_9))) (And.intro (And.intro (And.intro @tb_10 @tb_11) (And.intro @tb_12 @tb_13)) (And.intro (And.intro @tb_14 @tb_15) (And.intro @tb_16 @tb_17)))) (And.intro (And.intro (And.intro (And.intro @tb_18 @tb_19) (And.intro @tb_21 @tb_22)) (And.intro (And.intro @tb_23 @tb_24) (And.intro @tb_26 @tb_29))) (And.intro (And.intro (And.intro @tb_30 @tb_36) (And.intro @tb_37 @tb_38)) (And.intro (And.intro @tb_39 @tb_45) (And.intro @tb_50 @tb_51))))) (And.intro (And.intro (And.intro (And.intro (And.intro @tb_58 @tb_59) (And.intro @tb_69 @tb_70)) (And.intro (And.intro @tb_71 @tb_73) (And.intro @tb_75 @tb_76))) (And.intro (And.intro (And.intro @tb_78 @tb_79) (And.intro @tb_80 @tb_81)) (And.intro (And.intro @tb_82 @tb_83) (And.intro @tb_84 @tb_87)))) (And.intro (And.intro (And.intro (And.intro @tb_97 @tb_99) (And.intro @tb_100 @tb_105)) (And.intro (And.intro @tb_106 @tb_107) (And.intro @tb_108 @tb_109))) (And.intro (And.intro (And.intro @tb_111 @tb_112) (And.intro @tb_113 @tb_114)) (And.intro (And.intro @tb_115 @tb_116) (And.intro @tb_118 @tb_119))))))
def sE (s : ByteArray) : E := .lit (.string s)
def hE (l : List LHeld) : List E := l.flatMap fun g => [.lit (.int .i64 g.1), .lit (.string g.2)]
def endD (x : LEnd) : D := .ag [.e (.lit (.int .i64 x.base)), .e (.sl 1 x.queue.length (x.queue.map sE)), .e (.lit (.int .i64 x.want)), .e (.sl 2 x.held.length (hE x.held))]
def frD (f : LFrame) : D := .ag [.e (.lit (.int .i64 f.seq)), .e (.lit (.int .i64 f.ack)), .e (.lit (.string f.data))]
def ofH (h : LHeld) : S_Held := ⟨h.1, h.2⟩
def ofL (x : LEnd) : S_End := ⟨x.base, x.queue, x.want, x.held.map ofH⟩
def ofF (f : LFrame) : S_Frame := ⟨f.seq, f.ack, f.data⟩
def toF (f : S_Frame) : LFrame := ⟨f.vSeq, f.vAck, f.vData⟩
def toL (x : S_End) : LEnd := ⟨x.vBase, x.vQueue, x.vWant, x.vHeld.map fun h => (h.vSeq, h.vData)⟩
theorem toF_ofF (f : LFrame) : toF (ofF f) = f := rfl
theorem ofL_toL (x : S_End) : ofL (toL x) = x := by
  cases x; simp [ofL, toL, ofH, Function.comp_def]
theorem toL_ofL (x : LEnd) : toL (ofL x) = x := by
  cases x; simp [ofL, toL, ofH, Function.comp_def]
theorem hE_of (l : List LHeld) : (l.map ofH).flatMap c_Held.f = hE l := by
  induction l with
  | nil => rfl
  | cons h l ih => rw [List.map_cons, List.flatMap_cons, ih]; rfl
theorem sE_of (l : List ByteArray) : l.flatMap cS.f = l.map sE := by
  induction l with
  | nil => rfl
  | cons h l ih => rw [List.map_cons, List.flatMap_cons, ih]; rfl
theorem endD_of (x : LEnd) : dG c_End (ofL x) = endD x := by
  show D.ag [_, D.e (slE cS x.queue), _, D.e (slE c_Held (x.held.map ofH))] = _
  unfold slE
  rw [hE_of, sE_of, List.length_map]
  rfl
theorem G_short (s : ByteArray) : g_link_short s = some (shortB s) := by
  unfold g_link_short shortB
  simp only [show ((4096 : Int)) = ((4096 : Nat) : Int) from rfl, Int.ofNat_le]
theorem G_valid0 (a b : Int) (c : ByteArray) : g_link_valid ⟨a, b, c⟩ = some (LFrame.okB ⟨a, b, c⟩) := by
  unfold g_link_valid LFrame.okB
  simp only [G_short, bnd_eq, bnd_id, cnd_and, cnd_or, bs_size0B, Bool.and_assoc]
theorem G_valid (f : LFrame) : g_link_valid (ofF f) = some f.okB := G_valid0 _ _ _
theorem a_valid (f : LFrame) : PCalls Tryd.prog 19 [frD f] (.e (.lit (.bool f.okB))) := w_link_valid (G_valid f)
theorem a_cloneS (n : Nat) (xs : List E) (hn : n ≤ 1000000) : PCalls Tryd.prog 34 [.e (.sl 1 n xs)] (.own 9 1 n xs) := wa_slices_Clone_string_string n xs hn
theorem a_cloneH (n : Nat) (xs : List E) (hn : n ≤ 1000000) : PCalls Tryd.prog 35 [.e (.sl 2 n xs)] (.own 51 2 n xs) := wa_slices_Clone_api_Held_api_Held n xs hn
section
def endC (x : LEnd) : List D := [.e (.lit (.int .i64 x.base)), .e (.sl 1 x.queue.length (x.queue.map sE)), .e (.lit (.int .i64 x.want)), .e (.sl 2 x.held.length (hE x.held))]
def hD (g : LHeld) : D := .ag [.e (.lit (.int .i64 g.1)), .e (.lit (.string g.2))]
section
variable {vs : List (Nat × List D)} {lv : List (Nat × Nat × Nat × TypeId)} {N k : Nat}
theorem h_known1 (n : Int) (g : LHeld) (hk : vs.lookup k = some [.e (.lit (.int .i64 n))]) (hN : k < N) :
    HC Tryd.prog 51 [hD g, .pt k 0] ⟨vs, lv, N⟩ (.e (.lit (.bool (decide (g.1 = n))))) ⟨vs, lv, N⟩ := by
  unfold hD
  refine HC.of (rs := [.tmp 3]) tok Tryd.func51 rfl rfl (Nat.le_of_ble_eq_true rfl) rfl (fun cx hx h0 hok => ?_)
  simp only [argsT]
  repeat refine AW.seq ?_
  first | refine AW.region tok (by rw [hx]; kernel_rfl) (fun K hK => ?_) | refine AW.draw tok (by kernel_rfl) (by rw [hx]; kernel_rfl) (by kernel_rfl) (fun K hK => ?_)
  simp (maxSteps := 2000000) (disch := omega) only [sim_all, ↓fieldOff_eq, ↓newsV_eq, ↓sliceV_eq, ↓lenV_eq, seval, Ty.agg, tb_all, hk, beq_lt0 hN, beq_lt hN, beq_gt0 hN, beq_gt hN]
  repeat refine And.intro (by omega) ?_
  refine hK _ _ ?_
  clear hK
  dsimp only
  repeat refine AW.seq ?_
  first | refine AW.region tok (by rw [hx]; kernel_rfl) (fun K hK => ?_) | refine AW.draw tok (by kernel_rfl) (by rw [hx]; kernel_rfl) (by kernel_rfl) (fun K hK => ?_)
  simp (maxSteps := 2000000) (disch := omega) only [sim_all, ↓fieldOff_eq, ↓newsV_eq, ↓sliceV_eq, ↓lenV_eq, seval, Ty.agg, tb_all, hk, beq_lt0 hN, beq_lt hN, beq_gt0 hN, beq_gt hN]
  repeat refine And.intro (by omega) ?_
  refine hK _ _ ?_
  clear hK
  dsimp only
  refine AW.ret ?_
  dsimp only
  refine ⟨[(3, .e (.lit (.bool (decide (g.1 = n)))))], ?_, ?_⟩
  rotate_left
  simp only [RetH, resD, exists_eq, exists_eq', sim_all, ↓fieldOff_eq, ↓newsV_eq, ↓sliceV_eq, ↓lenV_eq, seval, Ty.agg, tb_all, hk, beq_lt0 hN, beq_lt hN, beq_gt0 hN, beq_gt hN]
  apply Wk.fin (ks := []) (kl := []) h0 hok
  case hN => omega
  case hm => omega
  case hv => repeat first | exact TgtV.base | (refine TgtV.cons ⟨by omega, ?_, ?_⟩ ?_; (focus (simp (maxSteps := 2000000) (disch := omega) only [sim_all, ↓fieldOff_eq, ↓newsV_eq, ↓sliceV_eq, ↓lenV_eq, seval, Ty.agg, tb_all, hk, beq_lt0 hN, beq_lt hN, beq_gt0 hN, beq_gt hN, wksL, D.leC, D.e.injEq, E.sl.injEq, exists_eq_right, exists_eq_right', D.idsB, D.idsC, decide_eq_true_eq, List.all_cons, List.all_nil, true_or, or_true]; done)); (focus (simp (maxSteps := 2000000) (disch := omega) only [sim_all, ↓fieldOff_eq, ↓newsV_eq, ↓sliceV_eq, ↓lenV_eq, seval, Ty.agg, tb_all, hk, beq_lt0 hN, beq_lt hN, beq_gt0 hN, beq_gt hN, wksL, D.leC, D.e.injEq, E.sl.injEq, exists_eq_right, exists_eq_right', D.idsB, D.idsC, decide_eq_true_eq, List.all_cons, List.all_nil, true_or, or_true]; done)))
  case hc => repeat first | exact Cov.base | refine Cov.cons (by first | (left; omega) | (right; simp)) ?_
  case hl => repeat first | exact TgtL.base | (refine TgtL.cons ⟨by omega, ?_⟩ ?_; (focus (simp (maxSteps := 2000000) (disch := omega) only [sim_all, ↓fieldOff_eq, ↓newsV_eq, ↓sliceV_eq, ↓lenV_eq, seval, Ty.agg, tb_all, hk, beq_lt0 hN, beq_lt hN, beq_gt0 hN, beq_gt hN, wksL, D.leC, D.e.injEq, E.sl.injEq, exists_eq_right, exists_eq_right', D.idsB, D.idsC, decide_eq_true_eq, List.all_cons, List.all_nil, true_or, or_true]; done)))
  case hcl => repeat first | exact Cov.base | refine Cov.cons (by first | (left; omega) | (right; simp)) ?_
  all_goals simp (maxSteps := 2000000) (disch := omega) only [sim_all, ↓fieldOff_eq, ↓newsV_eq, ↓sliceV_eq, ↓lenV_eq, seval, Ty.agg, tb_all, hk, beq_lt0 hN, beq_lt hN, beq_gt0 hN, beq_gt hN, wksL, D.leC, D.e.injEq, E.sl.injEq, exists_eq_right, exists_eq_right', D.idsB, D.idsC, decide_eq_true_eq, List.all_cons, List.all_nil, true_or, or_true]
  all_goals (try omega)
def findI (p : Nat → Bool) (n : Nat) : Int := match (List.range n).find? p with | some i => i | none => -1
theorem h_index (f : FuncId) (ks : List Nat) (p : Nat → Bool) (n : Nat) (xs : List E) (hxs : xs.length = n * 2) (hks : ks.all (fun k => decide (k < N)) = true) (hn : n ≤ 1000000)
    (hp : ∀ i, i < n → HC Tryd.prog f (.ag [.e (xs.getD (i * 2) .any), .e (xs.getD (i * 2 + 1) .any)] :: ks.map fun k => .pt k 0) ⟨vs, lv, N⟩ (.e (.lit (.bool (p i)))) ⟨vs, lv, N⟩) :
    HC Tryd.prog 54 [.e (.sl 2 n xs), .fn f ks] ⟨vs, lv, N⟩ (.e (.lit (.int .i64 (findI p n)))) ⟨vs, lv, N⟩ := by
  refine HC.of (rs := [.tmp 4]) tok Tryd.func54 rfl rfl (Nat.le_of_ble_eq_true rfl) rfl (fun cx hx h0 hok => ?_)
  simp only [argsT]
  repeat refine AW.seq ?_
  first | refine AW.region tok (by rw [hx]; kernel_rfl) (fun K hK => ?_) | refine AW.draw tok (by kernel_rfl) (by rw [hx]; kernel_rfl) (by kernel_rfl) (fun K hK => ?_)
  simp (maxSteps := 2000000) (disch := omega) only [sim_all, ↓fieldOff_eq, ↓newsV_eq, ↓sliceV_eq, ↓lenV_eq, seval, Ty.agg, tb_all]
  repeat refine And.intro (by omega) ?_
  refine hK _ _ ?_
  clear hK
  dsimp only
  repeat refine AW.seq ?_
  first | refine AW.region tok (by rw [hx]; kernel_rfl) (fun K hK => ?_) | refine AW.draw tok (by kernel_rfl) (by rw [hx]; kernel_rfl) (by kernel_rfl) (fun K hK => ?_)
  simp (maxSteps := 2000000) (disch := omega) only [sim_all, ↓fieldOff_eq, ↓newsV_eq, ↓sliceV_eq, ↓lenV_eq, seval, Ty.agg, tb_all]
  repeat refine And.intro (by omega) ?_
  refine hK _ _ ?_
  clear hK
  dsimp only
  repeat refine AW.seq ?_
  refine AW.block ?_
  refine AW.loopW (fun i : Nat => [(8, .e (.lit (.int .i64 i))), (7, .e (.lit (.int .i64 n))), (1, .fn f ks), (0, .e (.sl 2 n xs))])
      (fun _ => ⟨vs, lv, N⟩) (fun i => i ≤ n ∧ ∀ j, j < i → p j = false) (fun i => n - i) 0 ?_ ⟨Nat.zero_le _, fun j hj => absurd hj (Nat.not_lt_zero _)⟩ ?_
  · skip
    apply Wk.fin (ks := []) (kl := []) h0 hok
    case hN => omega
    case hm => omega
    case hv => repeat first | exact TgtV.base | (refine TgtV.cons ⟨by omega, ?_, ?_⟩ ?_; (focus (simp (maxSteps := 2000000) (disch := omega) only [sim_all, ↓fieldOff_eq, ↓newsV_eq, ↓sliceV_eq, ↓lenV_eq, seval, Ty.agg, tb_all, hks, Int.natCast_zero, wksL, D.leC, D.e.injEq, E.sl.injEq, exists_eq_right, exists_eq_right', D.idsB, D.idsC, decide_eq_true_eq, List.all_cons, List.all_nil, true_or, or_true]; done)); (focus (simp (maxSteps := 2000000) (disch := omega) only [sim_all, ↓fieldOff_eq, ↓newsV_eq, ↓sliceV_eq, ↓lenV_eq, seval, Ty.agg, tb_all, hks, Int.natCast_zero, wksL, D.leC, D.e.injEq, E.sl.injEq, exists_eq_right, exists_eq_right', D.idsB, D.idsC, decide_eq_true_eq, List.all_cons, List.all_nil, true_or, or_true]; done)))
    case hc => repeat first | exact Cov.base | refine Cov.cons (by first | (left; omega) | (right; simp)) ?_
    case hl => repeat first | exact TgtL.base | (refine TgtL.cons ⟨by omega, ?_⟩ ?_; (focus (simp (maxSteps := 2000000) (disch := omega) only [sim_all, ↓fieldOff_eq, ↓newsV_eq, ↓sliceV_eq, ↓lenV_eq, seval, Ty.agg, tb_all, hks, Int.natCast_zero, wksL, D.leC, D.e.injEq, E.sl.injEq, exists_eq_right, exists_eq_right', D.idsB, D.idsC, decide_eq_true_eq, List.all_cons, List.all_nil, true_or, or_true]; done)))
    case hcl => repeat first | exact Cov.base | refine Cov.cons (by first | (left; omega) | (right; simp)) ?_
    all_goals simp (maxSteps := 2000000) (disch := omega) only [sim_all, ↓fieldOff_eq, ↓newsV_eq, ↓sliceV_eq, ↓lenV_eq, seval, Ty.agg, tb_all, hks, Int.natCast_zero, wksL, D.leC, D.e.injEq, E.sl.injEq, exists_eq_right, exists_eq_right', D.idsB, D.idsC, decide_eq_true_eq, List.all_cons, List.all_nil, true_or, or_true]
    all_goals (try omega)
  · intro i ⟨hi, hlow⟩
    by_cases hlt : i < n
    · have hi1 : (i : Int) < n := by omega
      repeat refine AW.seq ?_
      first | refine AW.region tok (by rw [hx]; kernel_rfl) (fun K hK => ?_) | refine AW.draw tok (by kernel_rfl) (by rw [hx]; kernel_rfl) (by kernel_rfl) (fun K hK => ?_)
      simp (maxSteps := 2000000) (disch := omega) only [sim_all, ↓fieldOff_eq, ↓newsV_eq, ↓sliceV_eq, ↓lenV_eq, seval, Ty.agg, tb_all, hi1]
      repeat refine And.intro (by omega) ?_
      refine hK _ _ ?_
      clear hK
      dsimp only
      repeat refine AW.seq ?_
      refine AW.cond (b := true) (by rfl) ?_
      dsimp only
      refine AW.skip ?_
      dsimp only
      repeat refine AW.seq ?_
      refine AW.block ?_
      repeat refine AW.seq ?_
      first | refine AW.region tok (by rw [hx]; kernel_rfl) (fun K hK => ?_) | refine AW.draw tok (by kernel_rfl) (by rw [hx]; kernel_rfl) (by kernel_rfl) (fun K hK => ?_)
      simp (maxSteps := 2000000) (disch := omega) only [sim_all, ↓fieldOff_eq, ↓newsV_eq, ↓sliceV_eq, ↓lenV_eq, seval, Ty.agg, tb_all]
      repeat refine And.intro (by omega) ?_
      refine hK _ _ ?_
      clear hK
      dsimp only
      repeat refine AW.seq ?_
      first | refine AW.region tok (by rw [hx]; kernel_rfl) (fun K hK => ?_) | refine AW.draw tok (by kernel_rfl) (by rw [hx]; kernel_rfl) (by kernel_rfl) (fun K hK => ?_)
      simp (maxSteps := 2000000) (disch := omega) only [sim_all, ↓fieldOff_eq, ↓newsV_eq, ↓sliceV_eq, ↓lenV_eq, seval, Ty.agg, tb_all, hi1]
      repeat refine And.intro (by omega) ?_
      refine callH_of (hp i hlt) (by first | rfl | kernel_rfl) ?_
      simp (maxSteps := 2000000) (disch := omega) only [sim_all, ↓fieldOff_eq, ↓newsV_eq, ↓sliceV_eq, ↓lenV_eq, seval, Ty.agg, tb_all]
      repeat refine And.intro (by omega) ?_
      refine hK _ _ ?_
      clear hK
      dsimp only
      repeat refine AW.seq ?_
      refine AW.condS rfl (fun h => ?_) (fun h => ?_)
      · have h1 : p i = true := h
        have hf : findI p n = i := by
          unfold findI
          have : (List.range n).find? p = some i := by
            rw [List.find?_range_eq_some]
            exact ⟨h1, List.mem_range.2 hlt, fun j hj => by rw [hlow j hj]; rfl⟩
          rw [this]
        rw [hf]
        repeat refine AW.seq ?_
        first | refine AW.region tok (by rw [hx]; kernel_rfl) (fun K hK => ?_) | refine AW.draw tok (by kernel_rfl) (by rw [hx]; kernel_rfl) (by kernel_rfl) (fun K hK => ?_)
        simp (maxSteps := 2000000) (disch := omega) only [sim_all, ↓fieldOff_eq, ↓newsV_eq, ↓sliceV_eq, ↓lenV_eq, seval, Ty.agg, tb_all]
        repeat refine And.intro (by omega) ?_
        refine hK _ _ ?_
        clear hK
        dsimp only
        refine AW.ret ?_
        dsimp only
        refine ⟨[(4, .e (.lit (.int .i64 i)))], ?_, ?_⟩
        rotate_left
        simp only [RetH, resD, exists_eq, exists_eq', sim_all, ↓fieldOff_eq, ↓newsV_eq, ↓sliceV_eq, ↓lenV_eq, seval, Ty.agg, tb_all]
        apply Wk.fin (ks := []) (kl := []) h0 hok
        case hN => omega
        case hm => omega
        case hv => repeat first | exact TgtV.base | (refine TgtV.cons ⟨by omega, ?_, ?_⟩ ?_; (focus (simp (maxSteps := 2000000) (disch := omega) only [sim_all, ↓fieldOff_eq, ↓newsV_eq, ↓sliceV_eq, ↓lenV_eq, seval, Ty.agg, tb_all, wksL, D.leC, D.e.injEq, E.sl.injEq, exists_eq_right, exists_eq_right', D.idsB, D.idsC, decide_eq_true_eq, List.all_cons, List.all_nil, true_or, or_true]; done)); (focus (simp (maxSteps := 2000000) (disch := omega) only [sim_all, ↓fieldOff_eq, ↓newsV_eq, ↓sliceV_eq, ↓lenV_eq, seval, Ty.agg, tb_all, wksL, D.leC, D.e.injEq, E.sl.injEq, exists_eq_right, exists_eq_right', D.idsB, D.idsC, decide_eq_true_eq, List.all_cons, List.all_nil, true_or, or_true]; done)))
        case hc => repeat first | exact Cov.base | refine Cov.cons (by first | (left; omega) | (right; simp)) ?_
        case hl => repeat first | exact TgtL.base | (refine TgtL.cons ⟨by omega, ?_⟩ ?_; (focus (simp (maxSteps := 2000000) (disch := omega) only [sim_all, ↓fieldOff_eq, ↓newsV_eq, ↓sliceV_eq, ↓lenV_eq, seval, Ty.agg, tb_all, wksL, D.leC, D.e.injEq, E.sl.injEq, exists_eq_right, exists_eq_right', D.idsB, D.idsC, decide_eq_true_eq, List.all_cons, List.all_nil, true_or, or_true]; done)))
        case hcl => repeat first | exact Cov.base | refine Cov.cons (by first | (left; omega) | (right; simp)) ?_
        all_goals simp (maxSteps := 2000000) (disch := omega) only [sim_all, ↓fieldOff_eq, ↓newsV_eq, ↓sliceV_eq, ↓lenV_eq, seval, Ty.agg, tb_all, wksL, D.leC, D.e.injEq, E.sl.injEq, exists_eq_right, exists_eq_right', D.idsB, D.idsC, decide_eq_true_eq, List.all_cons, List.all_nil, true_or, or_true]
        all_goals (try omega)
      · have h1 : p i = false := h
        refine AW.skip ?_
        dsimp only
        repeat refine AW.seq ?_
        first | refine AW.region tok (by rw [hx]; kernel_rfl) (fun K hK => ?_) | refine AW.draw tok (by kernel_rfl) (by rw [hx]; kernel_rfl) (by kernel_rfl) (fun K hK => ?_)
        simp (maxSteps := 2000000) (disch := omega) only [sim_all, ↓fieldOff_eq, ↓newsV_eq, ↓sliceV_eq, ↓lenV_eq, seval, Ty.agg, tb_all, wrap_id]
        repeat refine And.intro (by omega) ?_
        refine hK _ _ ?_
        clear hK
        dsimp only
        refine ⟨i + 1, ?_, ⟨by omega, fun j hj => ?_⟩, by omega⟩
        · skip
          apply Wk.fin (ks := []) (kl := []) h0 hok
          case hN => omega
          case hm => omega
          case hv => repeat first | exact TgtV.base | (refine TgtV.cons ⟨by omega, ?_, ?_⟩ ?_; (focus (simp (maxSteps := 2000000) (disch := omega) only [sim_all, ↓fieldOff_eq, ↓newsV_eq, ↓sliceV_eq, ↓lenV_eq, seval, Ty.agg, tb_all, hks, Int.natCast_add, Int.cast_ofNat_Int, wksL, D.leC, D.e.injEq, E.sl.injEq, exists_eq_right, exists_eq_right', D.idsB, D.idsC, decide_eq_true_eq, List.all_cons, List.all_nil, true_or, or_true]; done)); (focus (simp (maxSteps := 2000000) (disch := omega) only [sim_all, ↓fieldOff_eq, ↓newsV_eq, ↓sliceV_eq, ↓lenV_eq, seval, Ty.agg, tb_all, hks, Int.natCast_add, Int.cast_ofNat_Int, wksL, D.leC, D.e.injEq, E.sl.injEq, exists_eq_right, exists_eq_right', D.idsB, D.idsC, decide_eq_true_eq, List.all_cons, List.all_nil, true_or, or_true]; done)))
          case hc => repeat first | exact Cov.base | refine Cov.cons (by first | (left; omega) | (right; simp)) ?_
          case hl => repeat first | exact TgtL.base | (refine TgtL.cons ⟨by omega, ?_⟩ ?_; (focus (simp (maxSteps := 2000000) (disch := omega) only [sim_all, ↓fieldOff_eq, ↓newsV_eq, ↓sliceV_eq, ↓lenV_eq, seval, Ty.agg, tb_all, hks, Int.natCast_add, Int.cast_ofNat_Int, wksL, D.leC, D.e.injEq, E.sl.injEq, exists_eq_right, exists_eq_right', D.idsB, D.idsC, decide_eq_true_eq, List.all_cons, List.all_nil, true_or, or_true]; done)))
          case hcl => repeat first | exact Cov.base | refine Cov.cons (by first | (left; omega) | (right; simp)) ?_
          all_goals simp (maxSteps := 2000000) (disch := omega) only [sim_all, ↓fieldOff_eq, ↓newsV_eq, ↓sliceV_eq, ↓lenV_eq, seval, Ty.agg, tb_all, hks, Int.natCast_add, Int.cast_ofNat_Int, wksL, D.leC, D.e.injEq, E.sl.injEq, exists_eq_right, exists_eq_right', D.idsB, D.idsC, decide_eq_true_eq, List.all_cons, List.all_nil, true_or, or_true]
          all_goals (try omega)
        · rcases Nat.lt_or_ge j i with h2 | h2
          · exact hlow j h2
          · obtain rfl : j = i := by omega
            exact h1
    · have hi1 : ¬ (i : Int) < n := by omega
      repeat refine AW.seq ?_
      first | refine AW.region tok (by rw [hx]; kernel_rfl) (fun K hK => ?_) | refine AW.draw tok (by kernel_rfl) (by rw [hx]; kernel_rfl) (by kernel_rfl) (fun K hK => ?_)
      simp (maxSteps := 2000000) (disch := omega) only [sim_all, ↓fieldOff_eq, ↓newsV_eq, ↓sliceV_eq, ↓lenV_eq, seval, Ty.agg, tb_all, hi1]
      repeat refine And.intro (by omega) ?_
      refine hK _ _ ?_
      clear hK
      dsimp only
      repeat refine AW.seq ?_
      refine AW.cond (b := false) (by rfl) ?_
      dsimp only
      refine AW.exit ?_
      dsimp only
      simp only [if_true]
      have hf : findI p n = -1 := by
        unfold findI
        have : (List.range n).find? p = none := by
          rw [List.find?_range_eq_none]
          exact fun j hj => by rw [hlow j (by omega)]; rfl
        rw [this]
      rw [hf]
      repeat refine AW.seq ?_
      first | refine AW.region tok (by rw [hx]; kernel_rfl) (fun K hK => ?_) | refine AW.draw tok (by kernel_rfl) (by rw [hx]; kernel_rfl) (by kernel_rfl) (fun K hK => ?_)
      simp (maxSteps := 2000000) (disch := omega) only [sim_all, ↓fieldOff_eq, ↓newsV_eq, ↓sliceV_eq, ↓lenV_eq, seval, Ty.agg, tb_all]
      repeat refine And.intro (by omega) ?_
      refine hK _ _ ?_
      clear hK
      dsimp only
      refine AW.ret ?_
      dsimp only
      refine ⟨[(4, .e (.lit (.int .i64 (-1))))], ?_, ?_⟩
      rotate_left
      simp only [RetH, resD, exists_eq, exists_eq', sim_all, ↓fieldOff_eq, ↓newsV_eq, ↓sliceV_eq, ↓lenV_eq, seval, Ty.agg, tb_all]
      apply Wk.fin (ks := []) (kl := []) h0 hok
      case hN => omega
      case hm => omega
      case hv => repeat first | exact TgtV.base | (refine TgtV.cons ⟨by omega, ?_, ?_⟩ ?_; (focus (simp (maxSteps := 2000000) (disch := omega) only [sim_all, ↓fieldOff_eq, ↓newsV_eq, ↓sliceV_eq, ↓lenV_eq, seval, Ty.agg, tb_all, wksL, D.leC, D.e.injEq, E.sl.injEq, exists_eq_right, exists_eq_right', D.idsB, D.idsC, decide_eq_true_eq, List.all_cons, List.all_nil, true_or, or_true]; done)); (focus (simp (maxSteps := 2000000) (disch := omega) only [sim_all, ↓fieldOff_eq, ↓newsV_eq, ↓sliceV_eq, ↓lenV_eq, seval, Ty.agg, tb_all, wksL, D.leC, D.e.injEq, E.sl.injEq, exists_eq_right, exists_eq_right', D.idsB, D.idsC, decide_eq_true_eq, List.all_cons, List.all_nil, true_or, or_true]; done)))
      case hc => repeat first | exact Cov.base | refine Cov.cons (by first | (left; omega) | (right; simp)) ?_
      case hl => repeat first | exact TgtL.base | (refine TgtL.cons ⟨by omega, ?_⟩ ?_; (focus (simp (maxSteps := 2000000) (disch := omega) only [sim_all, ↓fieldOff_eq, ↓newsV_eq, ↓sliceV_eq, ↓lenV_eq, seval, Ty.agg, tb_all, wksL, D.leC, D.e.injEq, E.sl.injEq, exists_eq_right, exists_eq_right', D.idsB, D.idsC, decide_eq_true_eq, List.all_cons, List.all_nil, true_or, or_true]; done)))
      case hcl => repeat first | exact Cov.base | refine Cov.cons (by first | (left; omega) | (right; simp)) ?_
      all_goals simp (maxSteps := 2000000) (disch := omega) only [sim_all, ↓fieldOff_eq, ↓newsV_eq, ↓sliceV_eq, ↓lenV_eq, seval, Ty.agg, tb_all, wksL, D.leC, D.e.injEq, E.sl.injEq, exists_eq_right, exists_eq_right', D.idsB, D.idsC, decide_eq_true_eq, List.all_cons, List.all_nil, true_or, or_true]
      all_goals (try omega)
theorem h_contains (f : FuncId) (ks : List Nat) (p : Nat → Bool) (n : Nat) (xs : List E) (hxs : xs.length = n * 2) (hks : ks.all (fun k => decide (k < N)) = true) (hn : n ≤ 1000000)
    (hp : ∀ i, i < n → HC Tryd.prog f (.ag [.e (xs.getD (i * 2) .any), .e (xs.getD (i * 2 + 1) .any)] :: ks.map fun k => .pt k 0) ⟨vs, lv, N⟩ (.e (.lit (.bool (p i)))) ⟨vs, lv, N⟩) :
    HC Tryd.prog 50 [.e (.sl 2 n xs), .fn f ks] ⟨vs, lv, N⟩ (.e (.lit (.bool (decide (0 ≤ findI p n))))) ⟨vs, lv, N⟩ := by
  refine HC.of (rs := [.tmp 4]) tok Tryd.func50 rfl rfl (Nat.le_of_ble_eq_true rfl) rfl (fun cx hx h0 hok => ?_)
  simp only [argsT]
  repeat refine AW.seq ?_
  first | refine AW.region tok (by rw [hx]; kernel_rfl) (fun K hK => ?_) | refine AW.draw tok (by kernel_rfl) (by rw [hx]; kernel_rfl) (by kernel_rfl) (fun K hK => ?_)
  simp (maxSteps := 2000000) (disch := omega) only [sim_all, ↓fieldOff_eq, ↓newsV_eq, ↓sliceV_eq, ↓lenV_eq, seval, Ty.agg, tb_all]
  repeat refine And.intro (by omega) ?_
  refine hK _ _ ?_
  clear hK
  dsimp only
  repeat refine AW.seq ?_
  first | refine AW.region tok (by rw [hx]; kernel_rfl) (fun K hK => ?_) | refine AW.draw tok (by kernel_rfl) (by rw [hx]; kernel_rfl) (by kernel_rfl) (fun K hK => ?_)
  simp (maxSteps := 2000000) (disch := omega) only [sim_all, ↓fieldOff_eq, ↓newsV_eq, ↓sliceV_eq, ↓lenV_eq, seval, Ty.agg, tb_all]
  repeat refine And.intro (by omega) ?_
  refine callH_of (h_index f ks p n xs hxs hks hn hp) (by first | rfl | kernel_rfl) ?_
  simp (maxSteps := 2000000) (disch := omega) only [sim_all, ↓fieldOff_eq, ↓newsV_eq, ↓sliceV_eq, ↓lenV_eq, seval, Ty.agg, tb_all]
  repeat refine And.intro (by omega) ?_
  refine hK _ _ ?_
  clear hK
  dsimp only
  refine AW.ret ?_
  dsimp only
  refine ⟨[(4, .e (.lit (.bool (decide (0 ≤ findI p n)))))], ?_, ?_⟩
  rotate_left
  simp only [RetH, resD, exists_eq, exists_eq', sim_all, ↓fieldOff_eq, ↓newsV_eq, ↓sliceV_eq, ↓lenV_eq, seval, Ty.agg, tb_all]
  apply Wk.fin (ks := []) (kl := []) h0 hok
  case hN => omega
  case hm => omega
  case hv => repeat first | exact TgtV.base | (refine TgtV.cons ⟨by omega, ?_, ?_⟩ ?_; (focus (simp (maxSteps := 2000000) (disch := omega) only [sim_all, ↓fieldOff_eq, ↓newsV_eq, ↓sliceV_eq, ↓lenV_eq, seval, Ty.agg, tb_all, wksL, D.leC, D.e.injEq, E.sl.injEq, exists_eq_right, exists_eq_right', D.idsB, D.idsC, decide_eq_true_eq, List.all_cons, List.all_nil, true_or, or_true]; done)); (focus (simp (maxSteps := 2000000) (disch := omega) only [sim_all, ↓fieldOff_eq, ↓newsV_eq, ↓sliceV_eq, ↓lenV_eq, seval, Ty.agg, tb_all, wksL, D.leC, D.e.injEq, E.sl.injEq, exists_eq_right, exists_eq_right', D.idsB, D.idsC, decide_eq_true_eq, List.all_cons, List.all_nil, true_or, or_true]; done)))
  case hc => repeat first | exact Cov.base | refine Cov.cons (by first | (left; omega) | (right; simp)) ?_
  case hl => repeat first | exact TgtL.base | (refine TgtL.cons ⟨by omega, ?_⟩ ?_; (focus (simp (maxSteps := 2000000) (disch := omega) only [sim_all, ↓fieldOff_eq, ↓newsV_eq, ↓sliceV_eq, ↓lenV_eq, seval, Ty.agg, tb_all, wksL, D.leC, D.e.injEq, E.sl.injEq, exists_eq_right, exists_eq_right', D.idsB, D.idsC, decide_eq_true_eq, List.all_cons, List.all_nil, true_or, or_true]; done)))
  case hcl => repeat first | exact Cov.base | refine Cov.cons (by first | (left; omega) | (right; simp)) ?_
  all_goals simp (maxSteps := 2000000) (disch := omega) only [sim_all, ↓fieldOff_eq, ↓newsV_eq, ↓sliceV_eq, ↓lenV_eq, seval, Ty.agg, tb_all, wksL, D.leC, D.e.injEq, E.sl.injEq, exists_eq_right, exists_eq_right', D.idsB, D.idsC, decide_eq_true_eq, List.all_cons, List.all_nil, true_or, or_true]
  all_goals (try omega)
theorem hE_length (l : List LHeld) : (hE l).length = l.length * 2 := by
  induction l with
  | nil => rfl
  | cons g l ih => simp only [hE, List.flatMap_cons, List.length_append, List.length_cons, List.length_nil] at ih ⊢; omega
theorem hE_drop : ∀ (l : List LHeld) (i : Nat), (hE l).drop (i * 2) = hE (l.drop i)
  | [], i => by simp [hE]
  | g :: l, 0 => rfl
  | g :: l, i + 1 => by
    have := hE_drop l i
    rw [show (i + 1) * 2 = i * 2 + 1 + 1 by omega]
    exact this
theorem hE_take : ∀ (l : List LHeld) (i : Nat), (hE l).take (i * 2) = hE (l.take i)
  | [], i => by simp [hE]
  | g :: l, 0 => rfl
  | g :: l, i + 1 => by
    have := hE_take l i
    rw [show (i + 1) * 2 = i * 2 + 1 + 1 by omega]
    show _ :: _ :: (hE l).take (i * 2) = _
    rw [this]
    rfl
theorem hE_append (l l' : List LHeld) : hE (l ++ l') = hE l ++ hE l' := by simp [hE]
theorem hE_get {l : List LHeld} {i : Nat} {g : LHeld} (h : l[i]? = some g) : (hE l).getD (i * 2) .any = .lit (.int .i64 g.1) ∧ (hE l).getD (i * 2 + 1) .any = .lit (.string g.2) := by
  have hd : (hE l).drop (i * 2) = .lit (.int .i64 g.1) :: .lit (.string g.2) :: hE (l.drop (i + 1)) := by
    rw [hE_drop]
    have hlt := (List.getElem?_eq_some_iff.1 h).1
    rw [List.drop_eq_getElem_cons hlt]
    have : l[i] = g := by rw [List.getElem?_eq_getElem hlt] at h; injection h
    rw [this]
    rfl
  have h1 : (hE l)[i * 2]? = some (.lit (.int .i64 g.1)) := by
    have := congrArg (·[0]?) hd
    simpa [List.getElem?_drop] using this
  have h2 : (hE l)[i * 2 + 1]? = some (.lit (.string g.2)) := by
    have := congrArg (·[1]?) hd
    simpa [List.getElem?_drop] using this
  exact ⟨by simp [List.getD, h1], by simp [List.getD, h2]⟩
def knownB (x : LEnd) (n : Int) : Bool := x.held.any fun g => decide (g.1 = n)
theorem findI_any (l : List LHeld) (n : Int) : decide (0 ≤ findI (fun i => decide ((l.getD i (0, .empty)).1 = n)) l.length) = l.any fun g => decide (g.1 = n) := by
  rw [Bool.eq_iff_iff]
  simp only [decide_eq_true_eq, List.any_eq_true]
  unfold findI
  constructor
  · intro h
    split at h
    · rename_i i hi
      rw [List.find?_range_eq_some] at hi
      have hlt : i < l.length := List.mem_range.1 hi.2.1
      refine ⟨l[i], List.getElem_mem hlt, ?_⟩
      have := hi.1
      simpa [List.getD, List.getElem?_eq_getElem hlt] using this
    · omega
  · rintro ⟨g, hg, hgn⟩
    split
    · omega
    · rename_i hn
      rw [List.find?_range_eq_none] at hn
      obtain ⟨i, hi⟩ := List.getElem?_of_mem hg
      have hlt := (List.getElem?_eq_some_iff.1 hi).1
      have := hn i hlt
      simp [List.getD, hi, hgn] at this
theorem h_knownP (x : LEnd) (n : Int) (i : Nat) (hi : i < x.held.length) :
    HC Tryd.prog 51 (.ag [.e ((hE x.held).getD (i * 2) .any), .e ((hE x.held).getD (i * 2 + 1) .any)] :: [N].map fun k => .pt k 0) ⟨(N, [.e (.lit (.int .i64 n))]) :: vs, lv, N + 1⟩ (.e (.lit (.bool (decide ((x.held.getD i (0, .empty)).1 = n))))) ⟨(N, [.e (.lit (.int .i64 n))]) :: vs, lv, N + 1⟩ := by
  have hi' : x.held[i]? = some (x.held[i]) := List.getElem?_eq_getElem hi
  obtain ⟨h1, h2⟩ := hE_get hi'
  rw [h1, h2]
  have h3 : x.held.getD i (0, .empty) = x.held[i] := by simp [List.getD, hi']
  rw [h3]
  exact h_known1 n x.held[i] lookup_cons_eq (Nat.lt_succ_self N)
theorem h_known (x : LEnd) (n : Int) (hl : x.held.length ≤ 7) (hk : vs.lookup k = some (endC x)) (hN : k < N) :
    HC Tryd.prog 39 [.pt k 0, .e (.lit (.int .i64 n))] ⟨vs, lv, N⟩ (.e (.lit (.bool (knownB x n)))) ⟨vs, lv, N⟩ := by
  unfold endC at hk
  refine HC.of (rs := [.tmp 4]) tok Tryd.func39 rfl rfl (Nat.le_of_ble_eq_true rfl) rfl (fun cx hx h0 hok => ?_)
  simp only [argsT]
  repeat refine AW.seq ?_
  first | refine AW.region tok (by rw [hx]; kernel_rfl) (fun K hK => ?_) | refine AW.draw tok (by kernel_rfl) (by rw [hx]; kernel_rfl) (by kernel_rfl) (fun K hK => ?_)
  simp (maxSteps := 2000000) (disch := omega) only [sim_all, ↓fieldOff_eq, ↓newsV_eq, ↓sliceV_eq, ↓lenV_eq, seval, Ty.agg, tb_all, hk, beq_lt0 hN, beq_lt hN, beq_gt0 hN, beq_gt hN]
  repeat refine And.intro (by omega) ?_
  refine hK _ _ ?_
  clear hK
  dsimp only
  repeat refine AW.seq ?_
  first | refine AW.region tok (by rw [hx]; kernel_rfl) (fun K hK => ?_) | refine AW.draw tok (by kernel_rfl) (by rw [hx]; kernel_rfl) (by kernel_rfl) (fun K hK => ?_)
  simp (maxSteps := 2000000) (disch := omega) only [sim_all, ↓fieldOff_eq, ↓newsV_eq, ↓sliceV_eq, ↓lenV_eq, seval, Ty.agg, tb_all, hk, beq_lt0 hN, beq_lt hN, beq_gt0 hN, beq_gt hN]
  repeat refine And.intro (by omega) ?_
  refine callH_of (h_contains 51 [N] (fun i => decide ((x.held.getD i (0, .empty)).1 = n)) x.held.length (hE x.held) (hE_length _) (by simp) (by omega) (fun i hi => h_knownP x n i hi)) (by first | rfl | kernel_rfl) ?_
  simp (maxSteps := 2000000) (disch := omega) only [sim_all, ↓fieldOff_eq, ↓newsV_eq, ↓sliceV_eq, ↓lenV_eq, seval, Ty.agg, tb_all, hk, beq_lt0 hN, beq_lt hN, beq_gt0 hN, beq_gt hN]
  repeat refine And.intro (by omega) ?_
  refine hK _ _ ?_
  clear hK
  dsimp only
  rw [findI_any, show (x.held.any fun g => decide (g.1 = n)) = knownB x n from rfl]
  refine AW.ret ?_
  dsimp only
  refine ⟨[(4, .e (.lit (.bool (knownB x n))))], ?_, ?_⟩
  rotate_left
  simp only [RetH, resD, exists_eq, exists_eq', sim_all, ↓fieldOff_eq, ↓newsV_eq, ↓sliceV_eq, ↓lenV_eq, seval, Ty.agg, tb_all, hk, beq_lt0 hN, beq_lt hN, beq_gt0 hN, beq_gt hN]
  apply Wk.fin (ks := []) (kl := []) h0 hok
  case hN => omega
  case hm => omega
  case hv => repeat first | exact TgtV.base | (refine TgtV.cons ⟨by omega, ?_, ?_⟩ ?_; (focus (simp (maxSteps := 2000000) (disch := omega) only [sim_all, ↓fieldOff_eq, ↓newsV_eq, ↓sliceV_eq, ↓lenV_eq, seval, Ty.agg, tb_all, hk, beq_lt0 hN, beq_lt hN, beq_gt0 hN, beq_gt hN, wksL, D.leC, D.e.injEq, E.sl.injEq, exists_eq_right, exists_eq_right', D.idsB, D.idsC, decide_eq_true_eq, List.all_cons, List.all_nil, true_or, or_true]; done)); (focus (simp (maxSteps := 2000000) (disch := omega) only [sim_all, ↓fieldOff_eq, ↓newsV_eq, ↓sliceV_eq, ↓lenV_eq, seval, Ty.agg, tb_all, hk, beq_lt0 hN, beq_lt hN, beq_gt0 hN, beq_gt hN, wksL, D.leC, D.e.injEq, E.sl.injEq, exists_eq_right, exists_eq_right', D.idsB, D.idsC, decide_eq_true_eq, List.all_cons, List.all_nil, true_or, or_true]; done)))
  case hc => repeat first | exact Cov.base | refine Cov.cons (by first | (left; omega) | (right; simp)) ?_
  case hl => repeat first | exact TgtL.base | (refine TgtL.cons ⟨by omega, ?_⟩ ?_; (focus (simp (maxSteps := 2000000) (disch := omega) only [sim_all, ↓fieldOff_eq, ↓newsV_eq, ↓sliceV_eq, ↓lenV_eq, seval, Ty.agg, tb_all, hk, beq_lt0 hN, beq_lt hN, beq_gt0 hN, beq_gt hN, wksL, D.leC, D.e.injEq, E.sl.injEq, exists_eq_right, exists_eq_right', D.idsB, D.idsC, decide_eq_true_eq, List.all_cons, List.all_nil, true_or, or_true]; done)))
  case hcl => repeat first | exact Cov.base | refine Cov.cons (by first | (left; omega) | (right; simp)) ?_
  all_goals simp (maxSteps := 2000000) (disch := omega) only [sim_all, ↓fieldOff_eq, ↓newsV_eq, ↓sliceV_eq, ↓lenV_eq, seval, Ty.agg, tb_all, hk, beq_lt0 hN, beq_lt hN, beq_gt0 hN, beq_gt hN, wksL, D.leC, D.e.injEq, E.sl.injEq, exists_eq_right, exists_eq_right', D.idsB, D.idsC, decide_eq_true_eq, List.all_cons, List.all_nil, true_or, or_true]
  all_goals (try omega)
def frC (f : LFrame) : List D := [.e (.lit (.int .i64 f.seq)), .e (.lit (.int .i64 f.ack)), .e (.lit (.string f.data))]
def ackd (x : LEnd) (f : LFrame) : LEnd := { x with base := f.ack, queue := x.queue.drop (f.ack - x.base).toNat }
theorem h_acknowledge (x : LEnd) (f : LFrame) (h1 : x.base ≤ f.ack) (h2 : f.ack ≤ x.base + x.queue.length) (hq : x.queue.length ≤ 64) (hb : 1 ≤ x.base ∧ x.base ≤ 1099511627776) (hk : vs.lookup k = some (endC x)) (hN : k < N) :
    HC Tryd.prog 37 [.pt k 0, frD f] ⟨vs, lv, N⟩ (.e (.sl 1 0 [])) ⟨(k, endC (ackd x f)) :: vs, lv, N⟩ := by
  unfold frD endC ackd
  unfold endC at hk
  have hd : ∀ m : Nat, m = (f.ack - x.base).toNat → (((x.queue.map sE).drop (m * 1)).take (((x.queue.length : Int) - (f.ack - x.base)).toNat * 1)) = (x.queue.drop (f.ack - x.base).toNat).map sE ∧ ((x.queue.length : Int) - (f.ack - x.base)).toNat = (x.queue.drop (f.ack - x.base).toNat).length := by
    intro m hm
    subst hm
    refine ⟨?_, by rw [List.length_drop]; omega⟩
    simp only [Nat.mul_one]
    rw [List.take_of_length_le (by rw [List.length_drop, List.length_map]; omega), List.map_drop]
  obtain ⟨hd1, hd2⟩ := hd _ rfl
  simp only [Nat.mul_one] at hd1
  rw [hd2] at hd1
  refine HC.of (rs := [.tmp 4]) tok Tryd.func37 rfl rfl (Nat.le_of_ble_eq_true rfl) rfl (fun cx hx h0 hok => ?_)
  simp only [argsT]
  repeat refine AW.seq ?_
  first | refine AW.region tok (by rw [hx]; kernel_rfl) (fun K hK => ?_) | refine AW.draw tok (by kernel_rfl) (by rw [hx]; kernel_rfl) (by kernel_rfl) (fun K hK => ?_)
  simp (maxSteps := 2000000) (disch := omega) only [sim_all, ↓fieldOff_eq, ↓newsV_eq, ↓sliceV_eq, ↓lenV_eq, seval, Ty.agg, tb_all, hk, beq_lt0 hN, beq_lt hN, beq_gt0 hN, beq_gt hN]
  repeat refine And.intro (by omega) ?_
  refine hK _ _ ?_
  clear hK
  dsimp only
  repeat refine AW.seq ?_
  first | refine AW.region tok (by rw [hx]; kernel_rfl) (fun K hK => ?_) | refine AW.draw tok (by kernel_rfl) (by rw [hx]; kernel_rfl) (by kernel_rfl) (fun K hK => ?_)
  simp (maxSteps := 2000000) (disch := omega) only [sim_all, ↓fieldOff_eq, ↓newsV_eq, ↓sliceV_eq, ↓lenV_eq, seval, Ty.agg, tb_all, wrap_id, hd1, hd2, hk, beq_lt0 hN, beq_lt hN, beq_gt0 hN, beq_gt hN]
  repeat refine And.intro (by omega) ?_
  refine hK _ _ ?_
  clear hK
  dsimp only
  repeat refine AW.seq ?_
  first | refine AW.region tok (by rw [hx]; kernel_rfl) (fun K hK => ?_) | refine AW.draw tok (by kernel_rfl) (by rw [hx]; kernel_rfl) (by kernel_rfl) (fun K hK => ?_)
  simp (maxSteps := 2000000) (disch := omega) only [sim_all, ↓fieldOff_eq, ↓newsV_eq, ↓sliceV_eq, ↓lenV_eq, seval, Ty.agg, tb_all, hk, beq_lt0 hN, beq_lt hN, beq_gt0 hN, beq_gt hN]
  repeat refine And.intro (by omega) ?_
  refine hK _ _ ?_
  clear hK
  dsimp only
  repeat refine AW.seq ?_
  first | refine AW.region tok (by rw [hx]; kernel_rfl) (fun K hK => ?_) | refine AW.draw tok (by kernel_rfl) (by rw [hx]; kernel_rfl) (by kernel_rfl) (fun K hK => ?_)
  simp (maxSteps := 2000000) (disch := omega) only [sim_all, ↓fieldOff_eq, ↓newsV_eq, ↓sliceV_eq, ↓lenV_eq, seval, Ty.agg, tb_all, hk, beq_lt0 hN, beq_lt hN, beq_gt0 hN, beq_gt hN]
  repeat refine And.intro (by omega) ?_
  refine hK _ _ ?_
  clear hK
  dsimp only
  refine AW.ret ?_
  dsimp only
  refine ⟨[(4, .e (.sl 1 0 []))], ?_, ?_⟩
  rotate_left
  simp only [RetH, resD, exists_eq, exists_eq', sim_all, ↓fieldOff_eq, ↓newsV_eq, ↓sliceV_eq, ↓lenV_eq, seval, Ty.agg, tb_all, hk, beq_lt0 hN, beq_lt hN, beq_gt0 hN, beq_gt hN]
  apply Wk.fin (ks := [k]) (kl := []) h0 hok
  case hN => omega
  case hm => omega
  case hv => repeat first | exact TgtV.base | (refine TgtV.cons ⟨by omega, ?_, ?_⟩ ?_; (focus (simp (maxSteps := 2000000) (disch := omega) only [sim_all, ↓fieldOff_eq, ↓newsV_eq, ↓sliceV_eq, ↓lenV_eq, seval, Ty.agg, tb_all, hk, beq_lt0 hN, beq_lt hN, beq_gt0 hN, beq_gt hN, wksL, D.leC, D.e.injEq, E.sl.injEq, exists_eq_right, exists_eq_right', D.idsB, D.idsC, decide_eq_true_eq, List.all_cons, List.all_nil, true_or, or_true]; done)); (focus (simp (maxSteps := 2000000) (disch := omega) only [sim_all, ↓fieldOff_eq, ↓newsV_eq, ↓sliceV_eq, ↓lenV_eq, seval, Ty.agg, tb_all, hk, beq_lt0 hN, beq_lt hN, beq_gt0 hN, beq_gt hN, wksL, D.leC, D.e.injEq, E.sl.injEq, exists_eq_right, exists_eq_right', D.idsB, D.idsC, decide_eq_true_eq, List.all_cons, List.all_nil, true_or, or_true]; done)))
  case hc => repeat first | exact Cov.base | refine Cov.cons (by first | (left; omega) | (right; simp)) ?_
  case hl => repeat first | exact TgtL.base | (refine TgtL.cons ⟨by omega, ?_⟩ ?_; (focus (simp (maxSteps := 2000000) (disch := omega) only [sim_all, ↓fieldOff_eq, ↓newsV_eq, ↓sliceV_eq, ↓lenV_eq, seval, Ty.agg, tb_all, hk, beq_lt0 hN, beq_lt hN, beq_gt0 hN, beq_gt hN, wksL, D.leC, D.e.injEq, E.sl.injEq, exists_eq_right, exists_eq_right', D.idsB, D.idsC, decide_eq_true_eq, List.all_cons, List.all_nil, true_or, or_true]; done)))
  case hcl => repeat first | exact Cov.base | refine Cov.cons (by first | (left; omega) | (right; simp)) ?_
  all_goals simp (maxSteps := 2000000) (disch := omega) only [sim_all, ↓fieldOff_eq, ↓newsV_eq, ↓sliceV_eq, ↓lenV_eq, seval, Ty.agg, tb_all, hk, beq_lt0 hN, beq_lt hN, beq_gt0 hN, beq_gt hN, wksL, D.leC, D.e.injEq, E.sl.injEq, exists_eq_right, exists_eq_right', D.idsB, D.idsC, decide_eq_true_eq, List.all_cons, List.all_nil, true_or, or_true]
  all_goals (try omega)
end
end
section
section
variable {vs : List (Nat × List D)} {lv : List (Nat × Nat × Nat × TypeId)} {N k : Nat}
theorem h_recv1 (x : LEnd) (f : LFrame) (hq : x.queue.length ≤ 64) (hb : 1 ≤ x.base ∧ x.base ≤ 1099511627776) (hk : vs.lookup k = some (endC x)) (hN : k < N) :
    HC Tryd.prog 36 [.pt k 0, frD f] ⟨vs, lv, N⟩ (.e (.lit (.bool (decide (x.base < f.ack ∧ f.ack ≤ x.base + x.queue.length ∧ f.ack ≤ 1099511627776))))) ⟨vs, lv, N⟩ := by
  unfold frD
  unfold endC at hk
  refine HC.of (rs := [.tmp 4]) tok Tryd.func36 rfl rfl (Nat.le_of_ble_eq_true rfl) rfl (fun cx hx h0 hok => ?_)
  simp only [argsT, Nat.reduceAdd, Nat.zero_add]
  refine AW.seq ?_
  refine AW.regS tbl (by rw [hx]; kernel_rfl) (fun K hK => ?_)
  iterate 2 refine st tok (by rfl) (by simp (disch := omega) only [sim_box, seval, Ty.agg, tb_3, tb_9, tb_23, hk, beq_lt0 hN, beq_lt hN, beq_gt0 hN, beq_gt hN, sim_assign, tb_4]; (repeat' refine And.intro ?_ ?_) <;> first | exact Kq.here _ _ | omega | assumption | with_reducible rfl) ?_
  refine SOps.nil (hK _ _ ?_)
  clear hK
  dsimp only
  refine AW.seq ?_
  refine AW.drwS tbl [] (by kernel_rfl) (by rw [hx]; kernel_rfl) (by kernel_rfl) (fun K hK => ?_)
  iterate 8 refine st tok (by rfl) (by simp (disch := omega) only [sim_fieldAddr, ↓fieldOff_eq, seval, Ty.agg, tb_3, tb_9, tb_23, hk, beq_lt0 hN, beq_lt hN, beq_gt0 hN, beq_gt hN, sim_load, sim_move, sim_nilCheck, tb_36, tb_37, tb_39, tb_51, sim_binOp]; (repeat' refine And.intro ?_ ?_) <;> first | exact Kq.here _ _ | omega | assumption | with_reducible rfl) ?_
  refine st_opt tok (by rfl) rfl (by simp only [sim_ev, Nat.reduceBEq]; rfl) (bq_t _) (fun hgd => by (have hgq := hgd; (try simp only [sim_bool] at hgq)); simp (disch := omega) only [hgd, sim_un, sim_fieldAddr, ↓fieldOff_eq, seval, Ty.agg, tb_3, tb_9, tb_23, hk, beq_lt0 hN, beq_lt hN, beq_gt0 hN, beq_gt hN]; (repeat' refine And.intro ?_ ?_) <;> first | exact Kq.here _ _ | omega | assumption | with_reducible rfl) (by first | exact Or.inl rfl | exact Or.inr ⟨_, _, _, .tmp 3, rfl, by simp [Op.operands, Call.operands], by simp only [sim_ev, Nat.reduceBEq]; first | exact Or.inl rfl | exact Or.inr ⟨_, rfl⟩⟩) ?_
  refine st_opt tok (by rfl) rfl (by simp only [sim_ev, Nat.reduceBEq]; rfl) (bq_t _) (fun hgd => by (have hgq := hgd; (try simp only [sim_bool] at hgq)); simp (disch := omega) only [hgd, sim_un, sim_load, seval, Ty.agg, tb_3, hk, beq_lt0 hN, beq_lt hN, beq_gt0 hN, beq_gt hN]; (repeat' refine And.intro ?_ ?_) <;> first | exact Kq.here _ _ | omega | assumption | with_reducible rfl) (by first | exact Or.inl rfl | exact Or.inr ⟨_, _, _, .tmp 13, rfl, by simp [Op.operands, Call.operands], by simp only [sim_ev, Nat.reduceBEq]; first | exact Or.inl rfl | exact Or.inr ⟨_, rfl⟩⟩) ?_
  refine st_opt tok (by rfl) rfl (by simp only [sim_ev, Nat.reduceBEq]; rfl) (bq_t _) (fun hgd => by (have hgq := hgd; (try simp only [sim_bool] at hgq)); simp (disch := omega) only [hgd, sim_un, sim_move, seval, Ty.agg, hk, beq_lt0 hN, beq_lt hN, beq_gt0 hN, beq_gt hN]; (repeat' refine And.intro ?_ ?_) <;> first | exact Kq.here _ _ | omega | assumption | with_reducible rfl) (by first | exact Or.inl rfl | exact Or.inr ⟨_, _, _, .tmp 0, rfl, by simp [Op.operands, Call.operands], by simp only [sim_ev, Nat.reduceBEq]; first | exact Or.inl rfl | exact Or.inr ⟨_, rfl⟩⟩) ?_
  refine st_opt tok (by rfl) rfl (by simp only [sim_ev, Nat.reduceBEq]; rfl) (bq_t _) (fun hgd => by (have hgq := hgd; (try simp only [sim_bool] at hgq)); simp (disch := omega) only [hgd, sim_un, sim_nilCheck, seval, Ty.agg, hk, beq_lt0 hN, beq_lt hN, beq_gt0 hN, beq_gt hN]; (repeat' refine And.intro ?_ ?_) <;> first | exact Kq.here _ _ | omega | assumption | with_reducible rfl) (by first | exact Or.inl rfl | exact Or.inr ⟨_, _, _, .tmp 15, rfl, by simp [Op.operands, Call.operands], by simp only [sim_ev, Nat.reduceBEq]; first | exact Or.inl rfl | exact Or.inr ⟨_, rfl⟩⟩) ?_
  refine st_opt tok (by rfl) rfl (by simp only [sim_ev, Nat.reduceBEq]; rfl) (bq_t _) (fun hgd => by (have hgq := hgd; (try simp only [sim_bool] at hgq)); simp (disch := omega) only [hgd, sim_un, sim_fieldAddr, ↓fieldOff_eq, seval, Ty.agg, tb_3, tb_9, tb_36, tb_37, tb_39, tb_51, hk, beq_lt0 hN, beq_lt hN, beq_gt0 hN, beq_gt hN]; (repeat' refine And.intro ?_ ?_) <;> first | exact Kq.here _ _ | omega | assumption | with_reducible rfl) (by first | exact Or.inl rfl | exact Or.inr ⟨_, _, _, .tmp 16, rfl, by simp [Op.operands, Call.operands], by simp only [sim_ev, Nat.reduceBEq]; first | exact Or.inl rfl | exact Or.inr ⟨_, rfl⟩⟩) ?_
  refine st_opt tok (by rfl) rfl (by simp only [sim_ev, Nat.reduceBEq]; rfl) (bq_t _) (fun hgd => by (have hgq := hgd; (try simp only [sim_bool] at hgq)); simp (disch := omega) only [hgd, sim_un, sim_load, seval, Ty.agg, tb_3, hk, beq_lt0 hN, beq_lt hN, beq_gt0 hN, beq_gt hN]; (repeat' refine And.intro ?_ ?_) <;> first | exact Kq.here _ _ | omega | assumption | with_reducible rfl) (by first | exact Or.inl rfl | exact Or.inr ⟨_, _, _, .tmp 17, rfl, by simp [Op.operands, Call.operands], by simp only [sim_ev, Nat.reduceBEq]; first | exact Or.inl rfl | exact Or.inr ⟨_, rfl⟩⟩) ?_
  refine st_opt tok (by rfl) rfl (by simp only [sim_ev, Nat.reduceBEq]; rfl) (bq_t _) (fun hgd => by (have hgq := hgd; (try simp only [sim_bool] at hgq)); simp (disch := omega) only [hgd, sim_un, sim_move, seval, Ty.agg, hk, beq_lt0 hN, beq_lt hN, beq_gt0 hN, beq_gt hN]; (repeat' refine And.intro ?_ ?_) <;> first | exact Kq.here _ _ | omega | assumption | with_reducible rfl) (by first | exact Or.inl rfl | exact Or.inr ⟨_, _, _, .tmp 0, rfl, by simp [Op.operands, Call.operands], by simp only [sim_ev, Nat.reduceBEq]; first | exact Or.inl rfl | exact Or.inr ⟨_, rfl⟩⟩) ?_
  refine st_opt tok (by rfl) rfl (by simp only [sim_ev, Nat.reduceBEq]; rfl) (bq_t _) (fun hgd => by (have hgq := hgd; (try simp only [sim_bool] at hgq)); simp (disch := omega) only [hgd, sim_un, sim_nilCheck, seval, Ty.agg, hk, beq_lt0 hN, beq_lt hN, beq_gt0 hN, beq_gt hN]; (repeat' refine And.intro ?_ ?_) <;> first | exact Kq.here _ _ | omega | assumption | with_reducible rfl) (by first | exact Or.inl rfl | exact Or.inr ⟨_, _, _, .tmp 19, rfl, by simp [Op.operands, Call.operands], by simp only [sim_ev, Nat.reduceBEq]; first | exact Or.inl rfl | exact Or.inr ⟨_, rfl⟩⟩) ?_
  refine st_opt tok (by rfl) rfl (by simp only [sim_ev, Nat.reduceBEq]; rfl) (bq_t _) (fun hgd => by (have hgq := hgd; (try simp only [sim_bool] at hgq)); simp (disch := omega) only [hgd, sim_un, sim_fieldAddr, ↓fieldOff_eq, seval, Ty.agg, tb_3, tb_9, tb_36, tb_37, tb_39, tb_51, hk, beq_lt0 hN, beq_lt hN, beq_gt0 hN, beq_gt hN]; (repeat' refine And.intro ?_ ?_) <;> first | exact Kq.here _ _ | omega | assumption | with_reducible rfl) (by first | exact Or.inl rfl | exact Or.inr ⟨_, _, _, .tmp 20, rfl, by simp [Op.operands, Call.operands], by simp only [sim_ev, Nat.reduceBEq]; first | exact Or.inl rfl | exact Or.inr ⟨_, rfl⟩⟩) ?_
  refine st_opt tok (by rfl) rfl (by simp only [sim_ev, Nat.reduceBEq]; rfl) (bq_t _) (fun hgd => by (have hgq := hgd; (try simp only [sim_bool] at hgq)); simp (disch := omega) only [hgd, sim_un, sim_load, seval, Ty.agg, tb_9, tb_36, hk, beq_lt0 hN, beq_lt hN, beq_gt0 hN, beq_gt hN]; (repeat' refine And.intro ?_ ?_) <;> first | exact Kq.here _ _ | omega | assumption | with_reducible rfl) (by first | exact Or.inl rfl | exact Or.inr ⟨_, _, _, .tmp 21, rfl, by simp [Op.operands, Call.operands], by simp only [sim_ev, Nat.reduceBEq]; first | exact Or.inl rfl | exact Or.inr ⟨_, rfl⟩⟩) ?_
  refine st_opt tok (by rfl) rfl (by simp only [sim_ev, Nat.reduceBEq]; rfl) (bq_t _) (fun hgd => by (have hgq := hgd; (try simp only [sim_bool] at hgq)); simp (disch := omega) only [hgd, sim_un, sim_call, ↓newsV_eq, ↓lenV_eq, seval, Ty.agg, tb_3, tb_9, tb_36, hk, beq_lt0 hN, beq_lt hN, beq_gt0 hN, beq_gt hN]; (repeat' refine And.intro ?_ ?_) <;> first | exact Kq.here _ _ | omega | assumption | with_reducible rfl) (by first | exact Or.inl rfl | exact Or.inr ⟨_, _, _, .tmp 22, rfl, by simp [Op.operands, Call.operands], by simp only [sim_ev, Nat.reduceBEq]; first | exact Or.inl rfl | exact Or.inr ⟨_, rfl⟩⟩) ?_
  refine st_opt tok (by rfl) rfl (by simp only [sim_ev, Nat.reduceBEq]; rfl) (bq_t _) (fun hgd => by (have hgq := hgd; (try simp only [sim_bool] at hgq)); simp (disch := omega) only [hgd, sim_un, sim_binOp, seval, Ty.agg, tb_3, hk, beq_lt0 hN, beq_lt hN, beq_gt0 hN, beq_gt hN]; (repeat' refine And.intro ?_ ?_) <;> first | exact Kq.here _ _ | omega | assumption | with_reducible rfl) (by first | exact Or.inl rfl | exact Or.inr ⟨_, _, _, .tmp 18, rfl, by simp [Op.operands, Call.operands], by simp only [sim_ev, Nat.reduceBEq]; first | exact Or.inl rfl | exact Or.inr ⟨_, rfl⟩⟩) ?_
  refine st_opt tok (by rfl) rfl (by simp only [sim_ev, Nat.reduceBEq]; rfl) (bq_t _) (fun hgd => by (have hgq := hgd; (try simp only [sim_bool] at hgq)); simp (disch := omega) only [hgd, sim_un, sim_binOp, seval, Ty.agg, tb_3, hk, beq_lt0 hN, beq_lt hN, beq_gt0 hN, beq_gt hN]; (repeat' refine And.intro ?_ ?_) <;> first | exact Kq.here _ _ | omega | assumption | with_reducible rfl) (by first | exact Or.inl rfl | exact Or.inr ⟨_, _, _, .tmp 14, rfl, by simp [Op.operands, Call.operands], by simp only [sim_ev, Nat.reduceBEq]; first | exact Or.inl rfl | exact Or.inr ⟨_, rfl⟩⟩) ?_
  refine st_and tok (by simp only [sim_ev, Nat.reduceBEq]; rfl) (fun hgd => by simp only [sim_ev, Nat.reduceBEq, sim_un, hgd, cond_true, Bool.not_false, Bool.not_true]; rfl) ?_
  refine st tok (by rfl) (by simp (disch := omega) only [sim_move, seval, Ty.agg, hk, beq_lt0 hN, beq_lt hN, beq_gt0 hN, beq_gt hN]; (repeat' refine And.intro ?_ ?_) <;> first | exact Kq.here _ _ | omega | assumption | with_reducible rfl) ?_
  refine st_opt tok (by rfl) rfl (by simp only [sim_ev, Nat.reduceBEq]; rfl) (bq_t _) (fun hgd => by (have hgq := hgd; (try simp only [sim_bool] at hgq)); simp (disch := omega) only [hgd, sim_un, sim_fieldAddr, ↓fieldOff_eq, seval, Ty.agg, tb_3, tb_9, tb_23, hk, beq_lt0 hN, beq_lt hN, beq_gt0 hN, beq_gt hN]; (repeat' refine And.intro ?_ ?_) <;> first | exact Kq.here _ _ | omega | assumption | with_reducible rfl) (by first | exact Or.inl rfl | exact Or.inr ⟨_, _, _, .tmp 3, rfl, by simp [Op.operands, Call.operands], by simp only [sim_ev, Nat.reduceBEq]; first | exact Or.inl rfl | exact Or.inr ⟨_, rfl⟩⟩) ?_
  refine st_opt tok (by rfl) rfl (by simp only [sim_ev, Nat.reduceBEq]; rfl) (bq_t _) (fun hgd => by (have hgq := hgd; (try simp only [sim_bool] at hgq)); simp (disch := omega) only [hgd, sim_un, sim_load, seval, Ty.agg, tb_3, hk, beq_lt0 hN, beq_lt hN, beq_gt0 hN, beq_gt hN]; (repeat' refine And.intro ?_ ?_) <;> first | exact Kq.here _ _ | omega | assumption | with_reducible rfl) (by first | exact Or.inl rfl | exact Or.inr ⟨_, _, _, .tmp 28, rfl, by simp [Op.operands, Call.operands], by simp only [sim_ev, Nat.reduceBEq]; first | exact Or.inl rfl | exact Or.inr ⟨_, rfl⟩⟩) ?_
  refine st_opt tok (by rfl) rfl (by simp only [sim_ev, Nat.reduceBEq]; rfl) (bq_t _) (fun hgd => by (have hgq := hgd; (try simp only [sim_bool] at hgq)); simp (disch := omega) only [hgd, sim_un, sim_binOp, seval, Ty.agg, tb_3, hk, beq_lt0 hN, beq_lt hN, beq_gt0 hN, beq_gt hN]; (repeat' refine And.intro ?_ ?_) <;> first | exact Kq.here _ _ | omega | assumption | with_reducible rfl) (by first | exact Or.inl rfl | exact Or.inr ⟨_, _, _, .tmp 29, rfl, by simp [Op.operands, Call.operands], by simp only [sim_ev, Nat.reduceBEq]; first | exact Or.inl rfl | exact Or.inr ⟨_, rfl⟩⟩) ?_
  refine st_and tok (by simp only [sim_ev, Nat.reduceBEq]; rfl) (fun hgd => by simp only [sim_ev, Nat.reduceBEq, sim_un, hgd, cond_true, Bool.not_false, Bool.not_true]; rfl) ?_
  refine st tok (by rfl) (by simp (disch := omega) only [sim_assign, seval, Ty.agg, tb_4, hk, beq_lt0 hN, beq_lt hN, beq_gt0 hN, beq_gt hN]; (repeat' refine And.intro ?_ ?_) <;> first | exact Kq.here _ _ | omega | assumption | with_reducible rfl) ?_
  refine SOps.nil (hK _ _ ?_)
  clear hK
  dsimp only
  refine AW.keep [4] ?_
  simp only [keepT_cons, keepT_nil, keepO_some, keepO_none, lk_cons, lk_nil, Nat.reduceBEq, cond_true, cond_false]
  -- stop: ret (live 4)
  refine AW.ret ?_
  dsimp only
  refine retH1 (by simp only [sim_ev, Nat.reduceBEq]; rfl)  ?e ?w
  case e => ((try simp only [sim_ex]); all_goals (simp [wrap_id (show -9223372036854775808 ≤ x.base + (x.queue.length : Int) by omega) (by omega), and_assoc, Bool.and_assoc]))
  (try simp only [sim_ex])
  apply Wk.fin (ks := []) (kl := []) h0 hok
  case hN => omega
  case hm => omega
  case hv => repeat first | exact TgtV.base | (refine TgtV.cons ⟨by omega, ?_, ?_⟩ ?_; (focus (simp (maxSteps := 2000000) (disch := omega) only [sim_all, ↓fieldOff_eq, ↓newsV_eq, ↓sliceV_eq, ↓lenV_eq, seval, Ty.agg, tb_all, wksL, D.leC, D.e.injEq, E.sl.injEq, exists_eq_right, exists_eq_right', D.idsB, D.idsC, decide_eq_true_eq, List.all_cons, List.all_nil, true_or, or_true]; done)); (focus (simp (maxSteps := 2000000) (disch := omega) only [sim_all, ↓fieldOff_eq, ↓newsV_eq, ↓sliceV_eq, ↓lenV_eq, seval, Ty.agg, tb_all, wksL, D.leC, D.e.injEq, E.sl.injEq, exists_eq_right, exists_eq_right', D.idsB, D.idsC, decide_eq_true_eq, List.all_cons, List.all_nil, true_or, or_true]; done)))
  case hc => repeat first | exact Cov.base | refine Cov.cons (by first | (left; omega) | (right; simp)) ?_
  case hl => repeat first | exact TgtL.base | (refine TgtL.cons ⟨by omega, ?_⟩ ?_; (focus (simp (maxSteps := 2000000) (disch := omega) only [sim_all, ↓fieldOff_eq, ↓newsV_eq, ↓sliceV_eq, ↓lenV_eq, seval, Ty.agg, tb_all, wksL, D.leC, D.e.injEq, E.sl.injEq, exists_eq_right, exists_eq_right', D.idsB, D.idsC, decide_eq_true_eq, List.all_cons, List.all_nil, true_or, or_true]; done)))
  case hcl => repeat first | exact Cov.base | refine Cov.cons (by first | (left; omega) | (right; simp)) ?_
  all_goals simp (maxSteps := 2000000) (disch := omega) only [sim_all, ↓fieldOff_eq, ↓newsV_eq, ↓sliceV_eq, ↓lenV_eq, seval, Ty.agg, tb_all, wksL, D.leC, D.e.injEq, E.sl.injEq, exists_eq_right, exists_eq_right', D.idsB, D.idsC, decide_eq_true_eq, List.all_cons, List.all_nil, true_or, or_true]
  all_goals (try omega)
theorem h_recv3 (x : LEnd) (f : LFrame) (hk : vs.lookup k = some (endC x)) (hN : k < N) :
    HC Tryd.prog 41 [.pt k 0, frD f] ⟨vs, lv, N⟩ (.e (.lit (.bool (decide (f.seq = x.want ∧ x.want < 1099511627776))))) ⟨vs, lv, N⟩ := by
  unfold frD
  unfold endC at hk
  refine HC.of (rs := [.tmp 4]) tok Tryd.func41 rfl rfl (Nat.le_of_ble_eq_true rfl) rfl (fun cx hx h0 hok => ?_)
  simp only [argsT, Nat.reduceAdd, Nat.zero_add]
  refine AW.seq ?_
  refine AW.regS tbl (by rw [hx]; kernel_rfl) (fun K hK => ?_)
  iterate 2 refine st tok (by rfl) (by simp (disch := omega) only [sim_box, seval, Ty.agg, tb_3, tb_9, tb_23, hk, beq_lt0 hN, beq_lt hN, beq_gt0 hN, beq_gt hN, sim_assign, tb_4]; (repeat' refine And.intro ?_ ?_) <;> first | exact Kq.here _ _ | omega | assumption | with_reducible rfl) ?_
  refine SOps.nil (hK _ _ ?_)
  clear hK
  dsimp only
  refine AW.seq ?_
  refine AW.drwS tbl [] (by kernel_rfl) (by rw [hx]; kernel_rfl) (by kernel_rfl) (fun K hK => ?_)
  iterate 8 refine st tok (by rfl) (by simp (disch := omega) only [sim_fieldAddr, ↓fieldOff_eq, seval, Ty.agg, tb_3, tb_9, tb_23, hk, beq_lt0 hN, beq_lt hN, beq_gt0 hN, beq_gt hN, sim_load, sim_move, sim_nilCheck, tb_36, tb_37, tb_39, tb_51, sim_binOp]; (repeat' refine And.intro ?_ ?_) <;> first | exact Kq.here _ _ | omega | assumption | with_reducible rfl) ?_
  refine st_opt tok (by rfl) rfl (by simp only [sim_ev, Nat.reduceBEq]; rfl) (bq_t _) (fun hgd => by (have hgq := hgd; (try simp only [sim_bool] at hgq)); simp (disch := omega) only [hgd, sim_un, sim_move, seval, Ty.agg, hk, beq_lt0 hN, beq_lt hN, beq_gt0 hN, beq_gt hN]; (repeat' refine And.intro ?_ ?_) <;> first | exact Kq.here _ _ | omega | assumption | with_reducible rfl) (by first | exact Or.inl rfl | exact Or.inr ⟨_, _, _, .tmp 0, rfl, by simp [Op.operands, Call.operands], by simp only [sim_ev, Nat.reduceBEq]; first | exact Or.inl rfl | exact Or.inr ⟨_, rfl⟩⟩) ?_
  refine st_opt tok (by rfl) rfl (by simp only [sim_ev, Nat.reduceBEq]; rfl) (bq_t _) (fun hgd => by (have hgq := hgd; (try simp only [sim_bool] at hgq)); simp (disch := omega) only [hgd, sim_un, sim_nilCheck, seval, Ty.agg, hk, beq_lt0 hN, beq_lt hN, beq_gt0 hN, beq_gt hN]; (repeat' refine And.intro ?_ ?_) <;> first | exact Kq.here _ _ | omega | assumption | with_reducible rfl) (by first | exact Or.inl rfl | exact Or.inr ⟨_, _, _, .tmp 13, rfl, by simp [Op.operands, Call.operands], by simp only [sim_ev, Nat.reduceBEq]; first | exact Or.inl rfl | exact Or.inr ⟨_, rfl⟩⟩) ?_
  refine st_opt tok (by rfl) rfl (by simp only [sim_ev, Nat.reduceBEq]; rfl) (bq_t _) (fun hgd => by (have hgq := hgd; (try simp only [sim_bool] at hgq)); simp (disch := omega) only [hgd, sim_un, sim_fieldAddr, ↓fieldOff_eq, seval, Ty.agg, tb_3, tb_9, tb_36, tb_37, tb_39, tb_51, hk, beq_lt0 hN, beq_lt hN, beq_gt0 hN, beq_gt hN]; (repeat' refine And.intro ?_ ?_) <;> first | exact Kq.here _ _ | omega | assumption | with_reducible rfl) (by first | exact Or.inl rfl | exact Or.inr ⟨_, _, _, .tmp 14, rfl, by simp [Op.operands, Call.operands], by simp only [sim_ev, Nat.reduceBEq]; first | exact Or.inl rfl | exact Or.inr ⟨_, rfl⟩⟩) ?_
  refine st_opt tok (by rfl) rfl (by simp only [sim_ev, Nat.reduceBEq]; rfl) (bq_t _) (fun hgd => by (have hgq := hgd; (try simp only [sim_bool] at hgq)); simp (disch := omega) only [hgd, sim_un, sim_load, seval, Ty.agg, tb_3, hk, beq_lt0 hN, beq_lt hN, beq_gt0 hN, beq_gt hN]; (repeat' refine And.intro ?_ ?_) <;> first | exact Kq.here _ _ | omega | assumption | with_reducible rfl) (by first | exact Or.inl rfl | exact Or.inr ⟨_, _, _, .tmp 15, rfl, by simp [Op.operands, Call.operands], by simp only [sim_ev, Nat.reduceBEq]; first | exact Or.inl rfl | exact Or.inr ⟨_, rfl⟩⟩) ?_
  refine st_opt tok (by rfl) rfl (by simp only [sim_ev, Nat.reduceBEq]; rfl) (bq_t _) (fun hgd => by (have hgq := hgd; (try simp only [sim_bool] at hgq)); simp (disch := omega) only [hgd, sim_un, sim_binOp, seval, Ty.agg, tb_3, hk, beq_lt0 hN, beq_lt hN, beq_gt0 hN, beq_gt hN]; (repeat' refine And.intro ?_ ?_) <;> first | exact Kq.here _ _ | omega | assumption | with_reducible rfl) (by first | exact Or.inl rfl | exact Or.inr ⟨_, _, _, .tmp 16, rfl, by simp [Op.operands, Call.operands], by simp only [sim_ev, Nat.reduceBEq]; first | exact Or.inl rfl | exact Or.inr ⟨_, rfl⟩⟩) ?_
  refine st_and tok (by simp only [sim_ev, Nat.reduceBEq]; rfl) (fun hgd => by simp only [sim_ev, Nat.reduceBEq, sim_un, hgd, cond_true, Bool.not_false, Bool.not_true]; rfl) ?_
  refine st tok (by rfl) (by simp (disch := omega) only [sim_assign, seval, Ty.agg, tb_4, hk, beq_lt0 hN, beq_lt hN, beq_gt0 hN, beq_gt hN]; (repeat' refine And.intro ?_ ?_) <;> first | exact Kq.here _ _ | omega | assumption | with_reducible rfl) ?_
  refine SOps.nil (hK _ _ ?_)
  clear hK
  dsimp only
  refine AW.keep [4] ?_
  simp only [keepT_cons, keepT_nil, keepO_some, keepO_none, lk_cons, lk_nil, Nat.reduceBEq, cond_true, cond_false]
  -- stop: ret (live 4)
  refine AW.ret ?_
  dsimp only
  refine retH1 (by simp only [sim_ev, Nat.reduceBEq]; rfl)  ?e ?w
  case e => ((try simp only [sim_ex]); all_goals (simp))
  (try simp only [sim_ex])
  apply Wk.fin (ks := []) (kl := []) h0 hok
  case hN => omega
  case hm => omega
  case hv => repeat first | exact TgtV.base | (refine TgtV.cons ⟨by omega, ?_, ?_⟩ ?_; (focus (simp (maxSteps := 2000000) (disch := omega) only [sim_all, ↓fieldOff_eq, ↓newsV_eq, ↓sliceV_eq, ↓lenV_eq, seval, Ty.agg, tb_all, wksL, D.leC, D.e.injEq, E.sl.injEq, exists_eq_right, exists_eq_right', D.idsB, D.idsC, decide_eq_true_eq, List.all_cons, List.all_nil, true_or, or_true]; done)); (focus (simp (maxSteps := 2000000) (disch := omega) only [sim_all, ↓fieldOff_eq, ↓newsV_eq, ↓sliceV_eq, ↓lenV_eq, seval, Ty.agg, tb_all, wksL, D.leC, D.e.injEq, E.sl.injEq, exists_eq_right, exists_eq_right', D.idsB, D.idsC, decide_eq_true_eq, List.all_cons, List.all_nil, true_or, or_true]; done)))
  case hc => repeat first | exact Cov.base | refine Cov.cons (by first | (left; omega) | (right; simp)) ?_
  case hl => repeat first | exact TgtL.base | (refine TgtL.cons ⟨by omega, ?_⟩ ?_; (focus (simp (maxSteps := 2000000) (disch := omega) only [sim_all, ↓fieldOff_eq, ↓newsV_eq, ↓sliceV_eq, ↓lenV_eq, seval, Ty.agg, tb_all, wksL, D.leC, D.e.injEq, E.sl.injEq, exists_eq_right, exists_eq_right', D.idsB, D.idsC, decide_eq_true_eq, List.all_cons, List.all_nil, true_or, or_true]; done)))
  case hcl => repeat first | exact Cov.base | refine Cov.cons (by first | (left; omega) | (right; simp)) ?_
  all_goals simp (maxSteps := 2000000) (disch := omega) only [sim_all, ↓fieldOff_eq, ↓newsV_eq, ↓sliceV_eq, ↓lenV_eq, seval, Ty.agg, tb_all, wksL, D.leC, D.e.injEq, E.sl.injEq, exists_eq_right, exists_eq_right', D.idsB, D.idsC, decide_eq_true_eq, List.all_cons, List.all_nil, true_or, or_true]
  all_goals (try omega)
theorem h_recv2 (x : LEnd) (f : LFrame) (hl : x.held.length ≤ 7) (hb : 1 ≤ x.want ∧ x.want ≤ 1099511627776) (hk : vs.lookup k = some (endC x)) (hN : k < N) :
    HC Tryd.prog 38 [.pt k 0, frD f] ⟨vs, lv, N⟩ (.e (.lit (.bool (decide (x.want < f.seq ∧ f.seq < min (x.want + 8) 1099511627776) && !knownB x f.seq)))) ⟨vs, lv, N⟩ := by
  unfold frD
  have hk' := hk
  unfold endC at hk
  refine HC.of (rs := [.tmp 4]) tok Tryd.func38 rfl rfl (Nat.le_of_ble_eq_true rfl) rfl (fun cx hx h0 hok => ?_)
  simp only [argsT, Nat.reduceAdd, Nat.zero_add]
  refine AW.seq ?_
  refine AW.regS tbl (by rw [hx]; kernel_rfl) (fun K hK => ?_)
  iterate 2 refine st tok (by rfl) (by simp (disch := omega) only [sim_box, seval, Ty.agg, tb_3, tb_9, tb_23, hk, beq_lt0 hN, beq_lt hN, beq_gt0 hN, beq_gt hN, sim_assign, tb_4]; (repeat' refine And.intro ?_ ?_) <;> first | exact Kq.here _ _ | omega | assumption | with_reducible rfl) ?_
  refine SOps.nil (hK _ _ ?_)
  clear hK
  dsimp only
  refine AW.seq ?_
  refine AW.drwS tbl [] (by kernel_rfl) (by rw [hx]; kernel_rfl) (by kernel_rfl) (fun K hK => ?_)
  iterate 8 refine st tok (by rfl) (by simp (disch := omega) only [sim_fieldAddr, ↓fieldOff_eq, seval, Ty.agg, tb_3, tb_9, tb_23, hk, beq_lt0 hN, beq_lt hN, beq_gt0 hN, beq_gt hN, sim_load, sim_move, sim_nilCheck, tb_36, tb_37, tb_39, tb_51, sim_binOp]; (repeat' refine And.intro ?_ ?_) <;> first | exact Kq.here _ _ | omega | assumption | with_reducible rfl) ?_
  refine st_opt tok (by rfl) rfl (by simp only [sim_ev, Nat.reduceBEq]; rfl) (bq_t _) (fun hgd => by (have hgq := hgd; (try simp only [sim_bool] at hgq)); simp (disch := omega) only [hgd, sim_un, sim_fieldAddr, ↓fieldOff_eq, seval, Ty.agg, tb_3, tb_9, tb_23, hk, beq_lt0 hN, beq_lt hN, beq_gt0 hN, beq_gt hN]; (repeat' refine And.intro ?_ ?_) <;> first | exact Kq.here _ _ | omega | assumption | with_reducible rfl) (by first | exact Or.inl rfl | exact Or.inr ⟨_, _, _, .tmp 3, rfl, by simp [Op.operands, Call.operands], by simp only [sim_ev, Nat.reduceBEq]; first | exact Or.inl rfl | exact Or.inr ⟨_, rfl⟩⟩) ?_
  refine st_opt tok (by rfl) rfl (by simp only [sim_ev, Nat.reduceBEq]; rfl) (bq_t _) (fun hgd => by (have hgq := hgd; (try simp only [sim_bool] at hgq)); simp (disch := omega) only [hgd, sim_un, sim_load, seval, Ty.agg, tb_3, hk, beq_lt0 hN, beq_lt hN, beq_gt0 hN, beq_gt hN]; (repeat' refine And.intro ?_ ?_) <;> first | exact Kq.here _ _ | omega | assumption | with_reducible rfl) (by first | exact Or.inl rfl | exact Or.inr ⟨_, _, _, .tmp 13, rfl, by simp [Op.operands, Call.operands], by simp only [sim_ev, Nat.reduceBEq]; first | exact Or.inl rfl | exact Or.inr ⟨_, rfl⟩⟩) ?_
  refine st_opt tok (by rfl) rfl (by simp only [sim_ev, Nat.reduceBEq]; rfl) (bq_t _) (fun hgd => by (have hgq := hgd; (try simp only [sim_bool] at hgq)); simp (disch := omega) only [hgd, sim_un, sim_move, seval, Ty.agg, hk, beq_lt0 hN, beq_lt hN, beq_gt0 hN, beq_gt hN]; (repeat' refine And.intro ?_ ?_) <;> first | exact Kq.here _ _ | omega | assumption | with_reducible rfl) (by first | exact Or.inl rfl | exact Or.inr ⟨_, _, _, .tmp 0, rfl, by simp [Op.operands, Call.operands], by simp only [sim_ev, Nat.reduceBEq]; first | exact Or.inl rfl | exact Or.inr ⟨_, rfl⟩⟩) ?_
  refine st_opt tok (by rfl) rfl (by simp only [sim_ev, Nat.reduceBEq]; rfl) (bq_t _) (fun hgd => by (have hgq := hgd; (try simp only [sim_bool] at hgq)); simp (disch := omega) only [hgd, sim_un, sim_nilCheck, seval, Ty.agg, hk, beq_lt0 hN, beq_lt hN, beq_gt0 hN, beq_gt hN]; (repeat' refine And.intro ?_ ?_) <;> first | exact Kq.here _ _ | omega | assumption | with_reducible rfl) (by first | exact Or.inl rfl | exact Or.inr ⟨_, _, _, .tmp 15, rfl, by simp [Op.operands, Call.operands], by simp only [sim_ev, Nat.reduceBEq]; first | exact Or.inl rfl | exact Or.inr ⟨_, rfl⟩⟩) ?_
  refine st_opt tok (by rfl) rfl (by simp only [sim_ev, Nat.reduceBEq]; rfl) (bq_t _) (fun hgd => by (have hgq := hgd; (try simp only [sim_bool] at hgq)); simp (disch := omega) only [hgd, sim_un, sim_fieldAddr, ↓fieldOff_eq, seval, Ty.agg, tb_3, tb_9, tb_36, tb_37, tb_39, tb_51, hk, beq_lt0 hN, beq_lt hN, beq_gt0 hN, beq_gt hN]; (repeat' refine And.intro ?_ ?_) <;> first | exact Kq.here _ _ | omega | assumption | with_reducible rfl) (by first | exact Or.inl rfl | exact Or.inr ⟨_, _, _, .tmp 16, rfl, by simp [Op.operands, Call.operands], by simp only [sim_ev, Nat.reduceBEq]; first | exact Or.inl rfl | exact Or.inr ⟨_, rfl⟩⟩) ?_
  refine st_opt tok (by rfl) rfl (by simp only [sim_ev, Nat.reduceBEq]; rfl) (bq_t _) (fun hgd => by (have hgq := hgd; (try simp only [sim_bool] at hgq)); simp (disch := omega) only [hgd, sim_un, sim_load, seval, Ty.agg, tb_3, hk, beq_lt0 hN, beq_lt hN, beq_gt0 hN, beq_gt hN]; (repeat' refine And.intro ?_ ?_) <;> first | exact Kq.here _ _ | omega | assumption | with_reducible rfl) (by first | exact Or.inl rfl | exact Or.inr ⟨_, _, _, .tmp 17, rfl, by simp [Op.operands, Call.operands], by simp only [sim_ev, Nat.reduceBEq]; first | exact Or.inl rfl | exact Or.inr ⟨_, rfl⟩⟩) ?_
  refine st_opt tok (by rfl) rfl (by simp only [sim_ev, Nat.reduceBEq]; rfl) (bq_t _) (fun hgd => by (have hgq := hgd; (try simp only [sim_bool] at hgq)); simp (disch := omega) only [hgd, sim_un, sim_binOp, seval, Ty.agg, tb_3, hk, beq_lt0 hN, beq_lt hN, beq_gt0 hN, beq_gt hN]; (repeat' refine And.intro ?_ ?_) <;> first | exact Kq.here _ _ | omega | assumption | with_reducible rfl) (by first | exact Or.inl rfl | exact Or.inr ⟨_, _, _, .tmp 18, rfl, by simp [Op.operands, Call.operands], by simp only [sim_ev, Nat.reduceBEq]; first | exact Or.inl rfl | exact Or.inr ⟨_, rfl⟩⟩) ?_
  refine st_opt tok (by rfl) rfl (by simp only [sim_ev, Nat.reduceBEq]; rfl) (bq_t _) (fun hgd => by (have hgq := hgd; (try simp only [sim_bool] at hgq)); simp (disch := omega) only [hgd, sim_un, sim_call, ↓newsV_eq, ↓lenV_eq, seval, Ty.agg, tb_3, hk, beq_lt0 hN, beq_lt hN, beq_gt0 hN, beq_gt hN]; (repeat' refine And.intro ?_ ?_) <;> first | exact Kq.here _ _ | omega | assumption | with_reducible rfl) (by first | exact Or.inl rfl | exact Or.inr ⟨_, _, _, .tmp 19, rfl, by simp [Op.operands, Call.operands], by simp only [sim_ev, Nat.reduceBEq]; first | exact Or.inl rfl | exact Or.inr ⟨_, rfl⟩⟩) ?_
  refine st_opt tok (by rfl) rfl (by simp only [sim_ev, Nat.reduceBEq]; rfl) (bq_t _) (fun hgd => by (have hgq := hgd; (try simp only [sim_bool] at hgq)); simp (disch := omega) only [hgd, sim_un, sim_binOp, seval, Ty.agg, tb_3, hk, beq_lt0 hN, beq_lt hN, beq_gt0 hN, beq_gt hN]; (repeat' refine And.intro ?_ ?_) <;> first | exact Kq.here _ _ | omega | assumption | with_reducible rfl) (by first | exact Or.inl rfl | exact Or.inr ⟨_, _, _, .tmp 14, rfl, by simp [Op.operands, Call.operands], by simp only [sim_ev, Nat.reduceBEq]; first | exact Or.inl rfl | exact Or.inr ⟨_, rfl⟩⟩) ?_
  refine st_and tok (by simp only [sim_ev, Nat.reduceBEq]; rfl) (fun hgd => by simp only [sim_ev, Nat.reduceBEq, sim_un, hgd, cond_true, Bool.not_false, Bool.not_true]; rfl) ?_
  refine st tok (by rfl) (by simp (disch := omega) only [sim_move, seval, Ty.agg, hk, beq_lt0 hN, beq_lt hN, beq_gt0 hN, beq_gt hN]; (repeat' refine And.intro ?_ ?_) <;> first | exact Kq.here _ _ | omega | assumption | with_reducible rfl) ?_
  refine st_opt tok (by rfl) rfl (by simp only [sim_ev, Nat.reduceBEq]; rfl) (bq_t _) (fun hgd => by (have hgq := hgd; (try simp only [sim_bool] at hgq)); simp (disch := omega) only [hgd, sim_un, sim_move, seval, Ty.agg, hk, beq_lt0 hN, beq_lt hN, beq_gt0 hN, beq_gt hN]; (repeat' refine And.intro ?_ ?_) <;> first | exact Kq.here _ _ | omega | assumption | with_reducible rfl) (by first | exact Or.inl rfl | exact Or.inr ⟨_, _, _, .tmp 0, rfl, by simp [Op.operands, Call.operands], by simp only [sim_ev, Nat.reduceBEq]; first | exact Or.inl rfl | exact Or.inr ⟨_, rfl⟩⟩) ?_
  refine st_opt tok (by rfl) rfl (by simp only [sim_ev, Nat.reduceBEq]; rfl) (bq_t _) (fun hgd => by (have hgq := hgd; (try simp only [sim_bool] at hgq)); simp (disch := omega) only [hgd, sim_un, sim_fieldAddr, ↓fieldOff_eq, seval, Ty.agg, tb_3, tb_9, tb_23, hk, beq_lt0 hN, beq_lt hN, beq_gt0 hN, beq_gt hN]; (repeat' refine And.intro ?_ ?_) <;> first | exact Kq.here _ _ | omega | assumption | with_reducible rfl) (by first | exact Or.inl rfl | exact Or.inr ⟨_, _, _, .tmp 3, rfl, by simp [Op.operands, Call.operands], by simp only [sim_ev, Nat.reduceBEq]; first | exact Or.inl rfl | exact Or.inr ⟨_, rfl⟩⟩) ?_
  refine st_opt tok (by rfl) rfl (by simp only [sim_ev, Nat.reduceBEq]; rfl) (bq_t _) (fun hgd => by (have hgq := hgd; (try simp only [sim_bool] at hgq)); simp (disch := omega) only [hgd, sim_un, sim_load, seval, Ty.agg, tb_3, hk, beq_lt0 hN, beq_lt hN, beq_gt0 hN, beq_gt hN]; (repeat' refine And.intro ?_ ?_) <;> first | exact Kq.here _ _ | omega | assumption | with_reducible rfl) (by first | exact Or.inl rfl | exact Or.inr ⟨_, _, _, .tmp 25, rfl, by simp [Op.operands, Call.operands], by simp only [sim_ev, Nat.reduceBEq]; first | exact Or.inl rfl | exact Or.inr ⟨_, rfl⟩⟩) ?_
  -- stop: call ['f', 39] (line 126)
  refine st_opt tok (by rfl) rfl (by simp only [sim_ev, Nat.reduceBEq]; rfl) (bq_t _) (fun hgd => by (have hgq := hgd; (try simp only [sim_bool] at hgq)); simp (disch := omega) only [hgd, sim_un, sim_call, ↓newsV_eq, ↓lenV_eq, seval, Ty.agg, tb_3, tb_4, tb_69, hk, beq_lt0 hN, beq_lt hN, beq_gt0 hN, beq_gt hN]; (repeat refine And.intro (by omega) ?_); apply callH_of; (case hc => exact (h_known x f.seq hl (by simp (disch := omega) only [lk_cons, beq_lt0 hN, cond_false]; exact hk') (by omega))); (case hh => first | rfl | kernel_rfl); (case h => ((try simp only [adopt_own, adopt_e, adopt_ag, adopt_tu, hp_tok, true_and, hk, beq_lt0 hN, beq_lt hN, beq_gt0 hN, beq_gt hN]); exact Kq.here _ _))) (by first | exact Or.inl rfl | exact Or.inr ⟨_, _, _, .tmp 24, rfl, by simp [Op.operands, Call.operands], by simp only [sim_ev, Nat.reduceBEq]; first | exact Or.inl rfl | exact Or.inr ⟨_, rfl⟩⟩) ?_
  refine st_opt tok (by rfl) rfl (by simp only [sim_ev, Nat.reduceBEq]; rfl) (bq_t _) (fun hgd => by (have hgq := hgd; (try simp only [sim_bool] at hgq)); simp (disch := omega) only [hgd, sim_un, sim_unOp, seval, Ty.agg, tb_4, hk, beq_lt0 hN, beq_lt hN, beq_gt0 hN, beq_gt hN]; (repeat' refine And.intro ?_ ?_) <;> first | exact Kq.here _ _ | omega | assumption | with_reducible rfl) (by first | exact Or.inl rfl | exact Or.inr ⟨_, _, _, .tmp 27, rfl, by simp [Op.operands, Call.operands], by simp only [sim_ev, Nat.reduceBEq]; first | exact Or.inl rfl | exact Or.inr ⟨_, rfl⟩⟩) ?_
  refine st_and tok (by simp only [sim_ev, Nat.reduceBEq]; rfl) (fun hgd => by simp only [sim_ev, Nat.reduceBEq, sim_un, hgd, cond_true, Bool.not_false, Bool.not_true]; rfl) ?_
  refine st tok (by rfl) (by simp (disch := omega) only [sim_assign, seval, Ty.agg, tb_4, hk, beq_lt0 hN, beq_lt hN, beq_gt0 hN, beq_gt hN]; (repeat' refine And.intro ?_ ?_) <;> first | exact Kq.here _ _ | omega | assumption | with_reducible rfl) ?_
  refine SOps.nil (hK _ _ ?_)
  clear hK
  dsimp only
  refine AW.keep [4] ?_
  simp only [keepT_cons, keepT_nil, keepO_some, keepO_none, lk_cons, lk_nil, Nat.reduceBEq, cond_true, cond_false]
  -- stop: ret (live 4)
  refine AW.ret ?_
  dsimp only
  refine retH1 (by simp only [sim_ev, Nat.reduceBEq]; rfl)  ?e ?w
  case e => ((try simp only [sim_ex]); all_goals (simp [wrap_id (show -9223372036854775808 ≤ x.want + 8 by omega) (by omega)]))
  (try simp only [sim_ex])
  apply Wk.fin (ks := []) (kl := []) h0 hok
  case hN => omega
  case hm => omega
  case hv => repeat first | exact TgtV.base | (refine TgtV.cons ⟨by omega, ?_, ?_⟩ ?_; (focus (simp (maxSteps := 2000000) (disch := omega) only [sim_all, ↓fieldOff_eq, ↓newsV_eq, ↓sliceV_eq, ↓lenV_eq, seval, Ty.agg, tb_all, wksL, D.leC, D.e.injEq, E.sl.injEq, exists_eq_right, exists_eq_right', D.idsB, D.idsC, decide_eq_true_eq, List.all_cons, List.all_nil, true_or, or_true]; done)); (focus (simp (maxSteps := 2000000) (disch := omega) only [sim_all, ↓fieldOff_eq, ↓newsV_eq, ↓sliceV_eq, ↓lenV_eq, seval, Ty.agg, tb_all, wksL, D.leC, D.e.injEq, E.sl.injEq, exists_eq_right, exists_eq_right', D.idsB, D.idsC, decide_eq_true_eq, List.all_cons, List.all_nil, true_or, or_true]; done)))
  case hc => repeat first | exact Cov.base | refine Cov.cons (by first | (left; omega) | (right; simp)) ?_
  case hl => repeat first | exact TgtL.base | (refine TgtL.cons ⟨by omega, ?_⟩ ?_; (focus (simp (maxSteps := 2000000) (disch := omega) only [sim_all, ↓fieldOff_eq, ↓newsV_eq, ↓sliceV_eq, ↓lenV_eq, seval, Ty.agg, tb_all, wksL, D.leC, D.e.injEq, E.sl.injEq, exists_eq_right, exists_eq_right', D.idsB, D.idsC, decide_eq_true_eq, List.all_cons, List.all_nil, true_or, or_true]; done)))
  case hcl => repeat first | exact Cov.base | refine Cov.cons (by first | (left; omega) | (right; simp)) ?_
  all_goals simp (maxSteps := 2000000) (disch := omega) only [sim_all, ↓fieldOff_eq, ↓newsV_eq, ↓sliceV_eq, ↓lenV_eq, seval, Ty.agg, tb_all, wksL, D.leC, D.e.injEq, E.sl.injEq, exists_eq_right, exists_eq_right', D.idsB, D.idsC, decide_eq_true_eq, List.all_cons, List.all_nil, true_or, or_true]
  all_goals (try omega)
end
end
end Go.Proofs.YtakbadleipbngaaDoor
