/-
  Functions read off the program's code: calls of functions that are given variables. Conditions: none.
-/
import Derived.Test.YtakbadleipbngaaG1
import Derived.Test.YtakbadleipbngaaAbI
import Derived.Lib.AppendZerosOnto
set_option linter.all false
namespace Go.Proofs.Ytakbadleipbngaa
open Go.RowKit
section
variable {P : Program} {tb : TypeId → Option TyE} {dr : Bool} {ty : TypeId} {ev : Operand → D} {σ : Nat → Nat} {d e : D} {ds es : List D}
theorem fA {m : Nat} (h : d.le (e.ren σ)) (hr : frA σ m ds es) (h3 : e.idsB m = true := by exact rfl) (h4 : e.noOs = true := by exact rfl) : frA σ m (d :: ds) (e :: es) := ⟨⟨h, h3, h4⟩, hr⟩
theorem fAG {α : Type} {c : Cd α} {a : α} {m : Nat} (h : d.le (dG c a)) (hr : frA σ m ds es) : frA σ m (d :: ds) (dG c a :: es) := ⟨⟨le_G h, ids_G _ _ _, noO_G _ _⟩, hr⟩
theorem fAn {m : Nat} : frA σ m [] [] := trivial
theorem HC.fr {f : FuncId} {dsS : List D} {r r' : D} {vsS vsS' vs vs2 : List (Nat × List D)} {lvS lvS' lv lv2 : List (Nat × Nat × Nat × TypeId)} {m n' N N2 : Nat} (os : List Nat) (hc : HC P f dsS ⟨vsS, lvS, m⟩ r ⟨vsS', lvS', n'⟩)
    (ha : frA (fun i => os.getD i 0) m ds dsS) (hv : wkV (fun i => os.getD i 0) m vs vsS) (hl : wkL (fun i => os.getD i 0) m lv lvS) (hos : os.length = m) (hnd : os.Nodup) (hlt : (os.all fun o => Nat.ble (o + 1) N) = true)
    (hr : r.okF = true) (hvo : (vsS'.all fun p => p.2.all D.okC) = true) (hr' : r.ren (rn os m N) = r') (hvs : frV (rn os m N) os vsS' vs = vs2) (hlv : frL (rn os m N) os lvS' lv = lv2) (hN : N + (n' - m) = N2) :
    HC P f ds ⟨vs, lv, N⟩ r' ⟨vs2, lv2, N2⟩ := by
  subst hr' hvs hlv hN
  exact HC.frame hc os hos hnd (fun o ho => ltb (List.all_eq_true.1 hlt o ho)) ha (fun k ds hk => wkV_mem hv _ (mem_of_lookup hk)) (fun id y hy => wkL_mem hl _ (mem_of_lookup hy)) hr (fun p hp => List.all_eq_true.1 hvo p hp)
theorem T_callV {x : Operand} {f : FuncId} {as : List Operand} {ts : Array TypeId} {dsS : List D} {r r' : D} {vsS vsS' vs vs2 : List (Nat × List D)} {lvS lvS' lv lv2 : List (Nat × Nat × Nat × TypeId)} {m n' N N2 : Nat} (os : List Nat)
    (hev : ev x = .e (.lit (.func (.func f) #[] #[]))) (hc : HC P f dsS ⟨vsS, lvS, m⟩ r ⟨vsS', lvS', n'⟩) (ha : frA (fun i => os.getD i 0) m (as.map ev) dsS) (hv : wkV (fun i => os.getD i 0) m vs vsS) (hl : wkL (fun i => os.getD i 0) m lv lvS)
    (hos : os.length = m := by exact rfl) (hnd : os.Nodup := by decide) (hlt : (os.all fun o => Nat.ble (o + 1) N) = true := by exact rfl) (hr : r.okF = true := by exact rfl) (hvo : (vsS'.all fun p => p.2.all D.okC) = true := by exact rfl)
    (hr' : r.ren (rn os m N) = r' := by exact rfl) (hvs : frV (rn os m N) os vsS' vs = vs2 := by exact rfl) (hlv : frL (rn os m N) os lvS' lv = lv2 := by exact rfl) (hN : N + (n' - m) = N2 := by exact rfl)
    (hh : hvB tb ⟨.value x, as.toArray, ts⟩ = true := by kernel_rfl) : AVC P tb dr (.call ⟨.value x, as.toArray, ts⟩) ty ev ⟨vs, lv, N⟩ (Kq r' ⟨vs2, lv2, N2⟩) :=
  T_callH hev (HC.fr os hc ha hv hl hos hnd hlt hr hvo hr' hvs hlv hN) rfl hh
theorem T_callFV {x : Operand} {f : FuncId} {ks : List Nat} {as : List Operand} {ts : Array TypeId} {dsS : List D} {r r' : D} {vsS vsS' vs vs2 : List (Nat × List D)} {lvS lvS' lv lv2 : List (Nat × Nat × Nat × TypeId)} {m n' N N2 : Nat} (os : List Nat)
    (hev : ev x = .fn f ks) (hc : HC P f dsS ⟨vsS, lvS, m⟩ r ⟨vsS', lvS', n'⟩) (ha : frA (fun i => os.getD i 0) m (as.map ev ++ ks.map fun k => .pt k 0) dsS) (hv : wkV (fun i => os.getD i 0) m vs vsS) (hl : wkL (fun i => os.getD i 0) m lv lvS)
    (hos : os.length = m := by exact rfl) (hnd : os.Nodup := by decide) (hlt : (os.all fun o => Nat.ble (o + 1) N) = true := by exact rfl) (hr : r.okF = true := by exact rfl) (hvo : (vsS'.all fun p => p.2.all D.okC) = true := by exact rfl)
    (hr' : r.ren (rn os m N) = r' := by exact rfl) (hvs : frV (rn os m N) os vsS' vs = vs2 := by exact rfl) (hlv : frL (rn os m N) os lvS' lv = lv2 := by exact rfl) (hN : N + (n' - m) = N2 := by exact rfl)
    (hh : hvB tb ⟨.value x, as.toArray, ts⟩ = true := by kernel_rfl) : AVC P tb dr (.call ⟨.value x, as.toArray, ts⟩) ty ev ⟨vs, lv, N⟩ (Kq r' ⟨vs2, lv2, N2⟩) :=
  T_callF hev (HC.fr os hc ha hv hl hos hnd hlt hr hvo hr' hvs hlv hN) rfl hh
theorem grow_of {f : FuncId} {e z : Nat} {n : Int} (hz : 0 < z) (hf : FnOk P f) (h : ∀ w : World, Calls P f #[.slice none 0 0, .int .i64 n] w fun en w' => ∃ q, en = .returned q ∧ w'.ownsRow w.heap.size e z q 0 [] ∧ Below w.heap.size w w') : PCalls P f [dN, dI .i64 n] (.own e z 0 []) := by
  refine ⟨hf, fun w F vs hF hsz hvs => ?_⟩
  obtain ⟨v, u, rfl⟩ : ∃ v u, vs = #[v, u] := by
    rcases vs with ⟨_ | ⟨v, _ | ⟨u, _ | ⟨x, l⟩⟩⟩⟩ <;> simp at hsz
    exact ⟨v, u, rfl⟩
  obtain rfl := (hvs 0 _ v rfl rfl).lit
  obtain rfl := (hvs 1 _ u rfl rfl).lit
  refine (h w).mono ?_
  rintro en w' ⟨q, rfl, ho, hb⟩
  exact ⟨q, rfl, ⟨hz, ⟨[], ho⟩, own_rep hF hz ho hb Pw.nil⟩, hb⟩
theorem run_append_empty {w : World} (t ty e : TypeId) (i : TypeInfo) (ht : P.underlying t = some (.slice e)) (hi : P.info? e = some i) (A A' : Option Addr) (n c : Nat) : (Builtin.append_ #[t, t] ty #[.slice A n n, .slice A' 0 c]).run P w = .ok (.slice A n n) w := by
  cases A' <;> cases A <;> simp [Builtin.append_, run_underlying ht, sizeOf, typeInfo, hi, Builtin.lenOf, Builtin.firstCells, storeCells, loadCells, loadCellsFrom]
/-- append(s, x...) where s is full and x is empty: s itself. -/
theorem appE {md : Md} (tok : TOk P tb) {hp : Hp} {dst : Option Tmp} {ty2 : TypeId} {pos : String} {af : Array Edge} {gd : Option (Nat × Bool)} {x y : Operand} {t e' : TypeId} {ti j : TyE} {z n m : Nat} {xs ys : List E} (ht : tb t = some ti) (he : tb e' = some j) (hi : ti.ty = .slice e') (hx : ev x = .fu z n xs) (hy : (ev y).asSl j.size = some (m, ys)) (hm : m = 0) :
    SndQ P tb md ⟨dst, .call ⟨.builtin .append, #[x, y], #[t, t]⟩, ty2, pos, af, gd⟩ ev hp (.fu z n xs) hp := by
  subst hm
  obtain ⟨f, zz, hi1, _⟩ := tok.inf he
  refine (Snd.loud (OpOk.pure fun B g w a hr hxx => ?_) (fun _ => rfl) (fun _ => Fr.refl _)).q ?_
  · have e1 := hxx x (mem_ops_call (by simp))
    have e2 := hxx y (mem_ops_call (by simp))
    obtain ⟨A', c, hv, _⟩ := asSl_rep e2 hy
    rw [hx] at e1
    cases hax : a.eval x with
    | slice A n' c' =>
      rw [hax] at e1
      cases e1 with
      | fu _ _ _ _ hrep =>
        refine ⟨.slice A n n, ?_, .fu _ _ _ _ hrep⟩
        have := run_append_empty (w := w) t ty2 e' f (tok.slice ht hi) hi1 A A' n c
        simp [execOp, resolve, invoke, builtin, hax, hv, this]
    | _ => rw [hax] at e1; cases e1
  · cases md <;> rfl
end
end Go.Proofs.Ytakbadleipbngaa
