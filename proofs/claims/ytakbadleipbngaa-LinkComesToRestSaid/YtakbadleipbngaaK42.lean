/-
  The laws of G1 over the program at hand. Conditions: none.
-/
import Derived.Test.YtakbadleipbngaaG3
import Derived.Test.YtakbadleipbngaaTab42
set_option linter.all false
namespace Go.Proofs.Ytakbadleipbngaa
open Go.RowKit
section
variable {md : Md} {ops : Array Oper} {K : List (Nat × D) → Hp → Prop} {os : List Oper} {tm : List (Nat × D)} {hp hp' : Hp} {t s : Tmp} {op : Op} {ty : TypeId} {pos : String} {af : Array Edge} {d d2 : D} {j : Nat} {want c : Bool}
theorem s1 (h : AVC Try.prog tbl md.dr op ty (evD tm) hp (Kq d hp')) (h2 : SOps Try.prog tbl md ops K os ((t, d) :: tm) hp') (hn : md.nc tbl op = true := by exact rfl) : SOps Try.prog tbl md ops K (⟨some t, op, ty, pos, af, none⟩ :: os) tm hp := st tok hn h h2
theorem s0 (h : AVC Try.prog tbl md.dr op ty (evD tm) hp (Kq d hp')) (h2 : SOps Try.prog tbl md ops K os tm hp') (hn : md.nc tbl op = true := by exact rfl) : SOps Try.prog tbl md ops K (⟨none, op, ty, pos, af, none⟩ :: os) tm hp := st_n tok hn h h2
theorem s2 (h : AVC Try.prog tbl md.dr op ty (evD tm) hp (Kq d hp')) (hl : d.le d2) (h2 : SOps Try.prog tbl md ops K os ((t, d2) :: tm) hp') (hn : md.nc tbl op = true := by exact rfl) : SOps Try.prog tbl md ops K (⟨some t, op, ty, pos, af, none⟩ :: os) tm hp := st_le tok hn h hl h2
theorem g1 (hw : c = want) (h : AVC Try.prog tbl md.dr op ty (evD tm) hp (Kq d hp')) (h2 : SOps Try.prog tbl md ops K os ((t, d) :: tm) hp') (hj : (ops[j]?).bind (·.dst) = some s := by exact rfl) (hc : tm.lookup s = some (.e (.lit (.bool c))) := by exact rfl) (hn : md.nc tbl op = true := by exact rfl) : SOps Try.prog tbl md ops K (⟨some t, op, ty, pos, af, some (j, want)⟩ :: os) tm hp := go_t tok hn hj hc hw h h2
theorem g0 (hw : c = want) (h : AVC Try.prog tbl md.dr op ty (evD tm) hp (Kq d hp')) (h2 : SOps Try.prog tbl md ops K os tm hp') (hj : (ops[j]?).bind (·.dst) = some s := by exact rfl) (hc : tm.lookup s = some (.e (.lit (.bool c))) := by exact rfl) (hn : md.nc tbl op = true := by exact rfl) : SOps Try.prog tbl md ops K (⟨none, op, ty, pos, af, some (j, want)⟩ :: os) tm hp := go_n tok hn hj hc hw h h2
theorem g2 (hw : c = want) (h : AVC Try.prog tbl md.dr op ty (evD tm) hp (Kq d hp')) (hl : d.le d2) (h2 : SOps Try.prog tbl md ops K os ((t, d2) :: tm) hp') (hj : (ops[j]?).bind (·.dst) = some s := by exact rfl) (hc : tm.lookup s = some (.e (.lit (.bool c))) := by exact rfl) (hn : md.nc tbl op = true := by exact rfl) : SOps Try.prog tbl md ops K (⟨some t, op, ty, pos, af, some (j, want)⟩ :: os) tm hp := go_le tok hn hj hc hw h hl h2
theorem sEm {α : Type} {c0 : Cd α} {x y : Operand} {tt e' : TypeId} {ti i : TyE} {z n : Nat} {xs : List E} {l : List α} (ht : tbl tt = some ti) (he : tbl e' = some i) (hm : decide (0 < l.length) = false) (h2 : SOps Try.prog tbl md ops K os ((t, .fu z n xs) :: tm) hp) (hi : ti.ty = .slice e' := by exact rfl) (hx : evD tm x = .fu z n xs := by exact rfl) (hy : (evD tm y).asSl i.size = some (l.length, l.flatMap c0.f) := by exact rfl) :
    SOps Try.prog tbl md ops K (⟨some t, .call ⟨.builtin .append, #[x, y], #[tt, tt]⟩, ty, pos, af, none⟩ :: os) tm hp := st_Q rfl (appE tok ht he hi hx hy (by have := of_decide_eq_false hm; omega)) h2
variable {x : Cx} {Q : Exit → List (Nat × D) → Hp → Prop}
theorem rg {n id : Nat} {l : List Oper} (hx : x.N = n) (hN : dstOK n l.toArray = true) (h : ∀ K : List (Nat × D) → Hp → Prop, (∀ tm hp, Q .normal tm hp → K tm hp) → SOps Try.prog tbl .seq l.toArray K l tm hp) : AW Try.prog x (.region id l.toArray false) tm hp Q := AW.regS tbl (by rw [hx]; exact hN) h
theorem rd {n id : Nat} {l : List Oper} (L : List FuncId) (hx : x.N = n) (hN : dstOK n l.toArray = true) (hord : ordOK tbl L l.toArray = true) (h : ∀ K : List (Nat × D) → Hp → Prop, (∀ tm hp, Q .normal tm hp → K tm hp) → SOps Try.prog tbl (.any L) l.toArray K l tm hp) : AW Try.prog x (.region id l.toArray true) tm hp Q := AW.drwS tbl L (by kernel_rfl) (by rw [hx]; exact hN) hord h
/-- What stands behind a piece of code, by how it ended. -/
def PE (x : Cx) {S : Type} (e : Exit) (T : S → List (Nat × D)) (H : S → Hp) (y : S) (ex : Exit) (tm : List (Nat × D)) (hp : Hp) : Prop := ex = e ∧ Wk x tm hp (T y) (H y)
def PR (rs : List ResultVar) {R : Type} (dR : R → D) (y : R) (ex : Exit) (tm : List (Nat × D)) (hp : Hp) : Prop := ex = .ret ∧ RetV tbl rs tm hp (dR y)
def PS {A B : Type} (p : A → Exit → List (Nat × D) → Hp → Prop) (q : B → Exit → List (Nat × D) → Hp → Prop) (y : A ⊕ B) (ex : Exit) (tm : List (Nat × D)) (hp : Hp) : Prop := match y with | .inl a => p a ex tm hp | .inr b => q b ex tm hp
def PH (x : Cx) (rs : List ResultVar) {R : Type} (dR : R → D) (H : R → Hp) (y : R) (ex : Exit) (tm : List (Nat × D)) (hp : Hp) : Prop := ex = .ret ∧ ∃ tm', Wk x tm hp tm' (H y) ∧ RetH tbl rs tm' (H y) (dR y)
theorem PS.l {A B : Type} {p : A → Exit → List (Nat × D) → Hp → Prop} {q : B → Exit → List (Nat × D) → Hp → Prop} {a : A} {ex : Exit} (h : p a ex tm hp) : PS p q (.inl a) ex tm hp := h
theorem PS.r {A B : Type} {p : A → Exit → List (Nat × D) → Hp → Prop} {q : B → Exit → List (Nat × D) → Hp → Prop} {b : B} {ex : Exit} (h : q b ex tm hp) : PS p q (.inr b) ex tm hp := h
theorem PE.i {S : Type} {e : Exit} {T : S → List (Nat × D)} {H : S → Hp} {y : S} (hw : Wk x tm hp (T y) (H y)) : PE x e T H y e tm hp := ⟨rfl, hw⟩
theorem PR.i {rs : List ResultVar} {R : Type} {dR : R → D} {y : R} (hw : RetV tbl rs tm hp (dR y)) : PR rs dR y .ret tm hp := ⟨rfl, hw⟩
theorem PH.i {x : Cx} {rs : List ResultVar} {R : Type} {dR : R → D} {H : R → Hp} {y : R} (hw : ∃ tm', Wk x tm hp tm' (H y) ∧ RetH tbl rs tm' (H y) (dR y)) : PH x rs dR H y .ret tm hp := ⟨rfl, hw⟩
theorem jn {c : Code} {Q' : Exit → List (Nat × D) → Hp → Prop} (Q : Exit → List (Nat × D) → Hp → Prop) (h : AW Try.prog x c tm hp Q) (hq : ∀ ex tm hp, Q ex tm hp → Q' ex tm hp) : AW Try.prog x c tm hp Q' := AW.mono h hq
theorem lp {c : Code} {S X : Type} {b : S → Option (S ⊕ X)} {Q : Exit → List (Nat × D) → Hp → Prop} {s : S} {e : X} (T : S → List (Nat × D)) (H : S → Hp) (QX : X → Exit → List (Nat × D) → Hp → Prop) (h : loopO b s = some e) (hw : Wk x tm hp (T s) (H s))
    (round : ∀ s y, b s = some y → AW Try.prog x c (T s) (H s) (PS (PE x .normal T H) (fun e ex tm hp => ex ≠ .normal ∧ QX e ex tm hp) y)) (hq : ∀ ex tm hp, QX e ex tm hp → Q ex tm hp) : AW Try.prog x (.loop c) tm hp Q :=
  AW.mono (AW.loopO T H QX (fun s y hy => AW.mono (round s y hy) fun ex tm' hp' h => by cases y <;> exact h) h hw) hq
theorem PX.i {X : Type} {QX : X → Exit → List (Nat × D) → Hp → Prop} {e : X} {ex : Exit} (hn : ex ≠ .normal) (h : QX e ex tm hp) : (fun (e : X) ex tm hp => ex ≠ Exit.normal ∧ QX e ex tm hp) e ex tm hp := ⟨hn, h⟩
end
end Go.Proofs.Ytakbadleipbngaa
