/-
  The abstract layer: equations by which a row of operations is worked out; code that is walked. Conditions: none.
-/
import Derived.Test.YtakbadleipbngaaAb9
set_option linter.all false
namespace Go.Proofs.Ytakbadleipbngaa
open Go.RowKit
/-- What follows an operation. -/
def kont (P : Program) (tb : TypeId → Option TyE) (dr : Bool) (ops : Array Oper) (dst : Option Tmp) (os : List Oper) (tm : List (Nat × D)) (K : List (Nat × D) → Hp → Prop) (d : D) (hp : Hp) : Prop := aops P tb dr ops os (putD dst d tm) hp K
def atHp (k : D → Hp → Prop) (hp : Hp) (d : D) : Prop := k d hp
def atLit (k : D → Hp → Prop) (hp : Hp) (v : Value) : Prop := k (.e (.lit v)) hp
def atInt (k : D → Hp → Prop) (hp : Hp) (n : Int) : Prop := k (.e (.lit (.int .i64 n))) hp
/-- What comes behind is not looked at before the value is known. -/
def exO (o : Option D) (k : D → Prop) : Prop := ∃ d, o = some d ∧ k d
@[congr] theorem exO_congr {o o' : Option D} {k : D → Prop} (h : o = o') : exO o k = exO o' k := by rw [h]
theorem exO_some (d : D) (k : D → Prop) : exO (some d) k = k d := by
  unfold exO; exact propext ⟨fun ⟨_, h, hk⟩ => by injection h with h; rw [h]; exact hk, fun h => ⟨d, rfl, h⟩⟩
def gdO (o : Option Tmp) (tm : List (Nat × D)) (want : Bool) (A B : Prop) : Prop := match o with
  | some t => gdV (tm.lookup t) want A B
  | none => False
@[congr] theorem gdO_congr {o o' : Option Tmp} {tm : List (Nat × D)} {want : Bool} {A B : Prop} (h : o = o') : gdO o tm want A B = gdO o' tm want A B := by rw [h]
theorem gdO_some (t : Tmp) (tm : List (Nat × D)) (want : Bool) (A B : Prop) : gdO (some t) tm want A B = gdV (tm.lookup t) want A B := Eq.trans rfl rfl
section
variable {P : Program} {tb : TypeId → Option TyE} {dr : Bool} {ops : Array Oper} {os : List Oper} {tm : List (Nat × D)} {hp : Hp} {K : List (Nat × D) → Hp → Prop} {dst : Option Tmp} {ty : TypeId} {pos : String} {af : Array Edge}
theorem kont_ap (d : D) : kont P tb dr ops dst os tm K d hp = aops P tb dr ops os (putD dst d tm) hp K := rfl
theorem atHp_ap (k : D → Hp → Prop) (d : D) : atHp k hp d = k d hp := rfl
theorem atLit_ap (k : D → Hp → Prop) (v : Value) : atLit k hp v = k (.e (.lit v)) hp := rfl
theorem atInt_ap (k : D → Hp → Prop) (n : Int) : atInt k hp n = k (.e (.lit (.int .i64 n))) hp := rfl
theorem ao_nil : aops P tb dr ops [] tm hp K = K tm hp := Eq.trans rfl rfl
theorem ao_move (x : Operand) : aops P tb dr ops (⟨dst, .move x, ty, pos, af, none⟩ :: os) tm hp K = aops P tb dr ops os (putD dst (evD tm x) tm) hp K := Eq.trans rfl rfl
theorem ao_assign (x : Operand) : aops P tb dr ops (⟨dst, .assign x, ty, pos, af, none⟩ :: os) tm hp K = asgV tb ty (evD tm x) hp (kont P tb dr ops dst os tm K) := Eq.trans rfl rfl
theorem ao_pick (c x y : Operand) : aops P tb dr ops (⟨dst, .pick c x y, ty, pos, af, none⟩ :: os) tm hp K = pickV (evD tm c) (evD tm x) (evD tm y) (atHp (kont P tb dr ops dst os tm K) hp) := Eq.trans rfl rfl
def allocV (tb : TypeId → Option TyE) (t : TypeId) (hp : Hp) (k : D → Hp → Prop) : Prop := match tb t with | some i => k (.pt hp.next 0) (hp.var (i.zero.map fun v => .e (.lit v))) | none => False
def boxV (d : D) (hp : Hp) (k : D → Hp → Prop) : Prop := match d.cells with | some cs => k (.pt hp.next 0) (hp.var cs) | none => False
def extractV (d : D) (i : Nat) (k : D → Prop) : Prop := match d with | .tu ds => exO (ds[i]?) k | _ => False
theorem ao_alloc (t : TypeId) : aops P tb dr ops (⟨dst, .alloc t, ty, pos, af, none⟩ :: os) tm hp K = allocV tb t hp (kont P tb dr ops dst os tm K) := Eq.trans rfl rfl
theorem ao_box (t : TypeId) (x : Operand) : aops P tb dr ops (⟨dst, .box t x, ty, pos, af, none⟩ :: os) tm hp K = boxV (evD tm x) hp (kont P tb dr ops dst os tm K) := Eq.trans rfl rfl
theorem ao_build (t : TypeId) (ps : List (Nat × Operand)) : aops P tb dr ops (⟨dst, .build t ps.toArray, ty, pos, af, none⟩ :: os) tm hp K = buildV tb t (ps.map fun p => (p.1, evD tm p.2)) (atHp (kont P tb dr ops dst os tm K) hp) := Eq.trans rfl rfl
theorem ao_buildSlice (t : TypeId) (n : Nat) (ps : List (Nat × Operand)) : aops P tb dr ops (⟨dst, .buildSlice t n ps.toArray, ty, pos, af, none⟩ :: os) tm hp K = buildSliceV tb (!dr) t n (ps.map fun p => (p.1, evD tm p.2)) hp (kont P tb dr ops dst os tm K) := Eq.trans rfl rfl
theorem ao_load (t : TypeId) (x : Operand) : aops P tb dr ops (⟨dst, .load t x, ty, pos, af, none⟩ :: os) tm hp K = loadV tb t (evD tm x) hp (atHp (kont P tb dr ops dst os tm K) hp) := Eq.trans rfl rfl
theorem ao_store (t : TypeId) (x y : Operand) : aops P tb dr ops (⟨dst, .store t x y, ty, pos, af, none⟩ :: os) tm hp K = storeV tb t (evD tm x) (evD tm y) hp (kont P tb dr ops dst os tm K) := Eq.trans rfl rfl
theorem ao_binOp (o : BinOp) (t t' : TypeId) (x y : Operand) : aops P tb dr ops (⟨dst, .binOp o t x y t', ty, pos, af, none⟩ :: os) tm hp K = binV P o t (evD tm x) (evD tm y) (atLit (kont P tb dr ops dst os tm K) hp) := Eq.trans rfl rfl
theorem ao_unOp (o : UnOp) (t : TypeId) (x : Operand) : aops P tb dr ops (⟨dst, .unOp o t x, ty, pos, af, none⟩ :: os) tm hp K = unV o (evD tm x) (atLit (kont P tb dr ops dst os tm K) hp) := Eq.trans rfl rfl
theorem ao_slice (t : TypeId) (x : Operand) (lo hi mx : Option Operand) : aops P tb dr ops (⟨dst, .slice t x lo hi mx, ty, pos, af, none⟩ :: os) tm hp K = sliceV tb t (evD tm x) (lo.map (evD tm)) (hi.map (evD tm)) (mx.map (evD tm)) (atHp (kont P tb dr ops dst os tm K) hp) := Eq.trans rfl rfl
theorem ao_fieldAddr (t : TypeId) (x : Operand) (f : Nat) : aops P tb dr ops (⟨dst, .fieldAddr t x f, ty, pos, af, none⟩ :: os) tm hp K = fieldAddrV tb t f (evD tm x) (atHp (kont P tb dr ops dst os tm K) hp) := Eq.trans rfl rfl
theorem ao_field (t : TypeId) (x : Operand) (f : Nat) : aops P tb dr ops (⟨dst, .field t x f, ty, pos, af, none⟩ :: os) tm hp K = fieldV tb t f (evD tm x) (atHp (kont P tb dr ops dst os tm K) hp) := Eq.trans rfl rfl
theorem ao_indexAddr (t : TypeId) (x i : Operand) : aops P tb dr ops (⟨dst, .indexAddr t x i, ty, pos, af, none⟩ :: os) tm hp K = indexAddrV tb t (evD tm x) (evD tm i) (atHp (kont P tb dr ops dst os tm K) hp) := Eq.trans rfl rfl
theorem ao_index (t : TypeId) (x i : Operand) : aops P tb dr ops (⟨dst, .index t x i, ty, pos, af, none⟩ :: os) tm hp K = indexV tb t (evD tm x) (evD tm i) (atHp (kont P tb dr ops dst os tm K) hp) := Eq.trans rfl rfl
theorem ao_extract (x : Operand) (i : Nat) : aops P tb dr ops (⟨dst, .extract x i, ty, pos, af, none⟩ :: os) tm hp K = extractV (evD tm x) i (atHp (kont P tb dr ops dst os tm K) hp) := Eq.trans rfl rfl
theorem ao_len (x : List Operand) (ts : List TypeId) : aops P tb dr ops (⟨dst, .call ⟨.builtin .len, x.toArray, ts.toArray⟩, ty, pos, af, none⟩ :: os) tm hp K = builtinV tb .len ts (x.map (evD tm)) hp (kont P tb dr ops dst os tm K) := Eq.trans rfl rfl
theorem ao_builtin (b : Builtin) (as : List Operand) (ts : List TypeId) : aops P tb dr ops (⟨dst, .call ⟨.builtin b, as.toArray, ts.toArray⟩, ty, pos, af, none⟩ :: os) tm hp K = builtinV tb b ts (as.map (evD tm)) hp (kont P tb dr ops dst os tm K) := Eq.trans rfl rfl
theorem ao_call (f : FuncId) (as : List Operand) (ts : Array TypeId) : aops P tb dr ops (⟨dst, .call ⟨.value (.func f), as.toArray, ts⟩, ty, pos, af, none⟩ :: os) tm hp K = (0 = 0 ∧ 0 = 0 ∧ callV P (hvB tb ⟨.value (.func f), as.toArray, ts⟩) f (as.map (evD tm)) hp (kont P tb dr ops dst os tm K)) := Eq.trans rfl rfl
theorem ao_calltmp (t : Tmp) (as : List Operand) (ts : Array TypeId) : aops P tb dr ops (⟨dst, .call ⟨.value (.tmp t), as.toArray, ts⟩, ty, pos, af, none⟩ :: os) tm hp K = calleeV P true (evD tm (.tmp t)) (as.map (evD tm)) hp (kont P tb dr ops dst os tm K) := Eq.trans rfl rfl
theorem ao_nilCheck (x : Operand) : aops P tb dr ops (⟨dst, .nilCheck x, ty, pos, af, none⟩ :: os) tm hp K = nilV (evD tm x) (atHp (kont P tb dr ops dst os tm K) hp) := Eq.trans rfl rfl
theorem ao_makeFunc (fn : Fn) (first cs : List Operand) : aops P tb dr ops (⟨dst, .makeFunc fn first.toArray cs.toArray, ty, pos, af, none⟩ :: os) tm hp K = makeFuncV fn first.length (cs.map (evD tm)) (atHp (kont P tb dr ops dst os tm K) hp) := Eq.trans rfl rfl
theorem ao_guard (op : Op) (j : Nat) (want : Bool) : aops P tb dr ops (⟨dst, op, ty, pos, af, some (j, want)⟩ :: os) tm hp K = gdO ((ops[j]?).bind (·.dst)) tm want (aops P tb dr ops (⟨dst, op, ty, pos, af, none⟩ :: os) tm hp K) (aops P tb dr ops os (putD dst .top tm) hp K) := Eq.trans rfl rfl
end
/-- What comes behind a guard is not looked at before the guard is known. -/
@[congr] theorem gdV_congr {d d' : Option D} {want : Bool} {A B : Prop} (h : d = d') : gdV d want A B = gdV d' want A B := by rw [h]
theorem gd_tt (A B : Prop) : gdV (some (.e (.lit (.bool true)))) true A B = A := Eq.trans rfl rfl
theorem gd_ff (A B : Prop) : gdV (some (.e (.lit (.bool false)))) false A B = A := Eq.trans rfl rfl
theorem gd_tf (A B : Prop) : gdV (some (.e (.lit (.bool true)))) false A B = B := Eq.trans rfl rfl
theorem gd_ft (A B : Prop) : gdV (some (.e (.lit (.bool false)))) true A B = B := Eq.trans rfl rfl
theorem ev_tmp (tm : List (Nat × D)) (t : Tmp) : evD tm (.tmp t) = (tm.lookup t).getD .top := rfl
theorem ev_const (tm : List (Nat × D)) (v : Value) : evD tm (.const v) = constD v := rfl
theorem co_int (k : IntKind) (n : Int) : constD (.int k n) = .e (.lit (.int k n)) := rfl
theorem co_bool (b : Bool) : constD (.bool b) = .e (.lit (.bool b)) := rfl
theorem co_str (s : ByteArray) : constD (.string s) = .e (.lit (.string s)) := rfl
theorem co_slice (a : Option Addr) (n c : Nat) : constD (.slice a n c) = .e (.lit (.slice a n c)) := rfl
theorem co_agg (l : List Value) : constD (.agg l.toArray) = if l.all Value.oneCell' then .ag (l.map fun u => .e (.lit u)) else .top := rfl
theorem put_some (t : Tmp) (d : D) (tm : List (Nat × D)) : putD (some t) d tm = (t, d) :: tm := rfl
theorem put_none (d : D) (tm : List (Nat × D)) : putD none d tm = tm := rfl
theorem lk_nil {α : Type} (k : Nat) : ([] : List (Nat × α)).lookup k = none := Eq.trans rfl rfl
theorem lk_cons {α : Type} (k j : Nat) (x : α) (l : List (Nat × α)) : ((j, x) :: l).lookup k = bif k == j then some x else l.lookup k := by
  rw [List.lookup_cons]
  cases k == j <;> rfl
theorem hp_var (vs : List (Nat × List D)) (lv : List (Nat × Nat × Nat × TypeId)) (n : Nat) (ds : List D) : (⟨vs, lv, n⟩ : Hp).var ds = ⟨(n, ds) :: vs, lv, n + 1⟩ := rfl
theorem hp_set (vs : List (Nat × List D)) (lv : List (Nat × Nat × Nat × TypeId)) (n k : Nat) (ds : List D) : (⟨vs, lv, n⟩ : Hp).set k ds = ⟨(k, ds) :: vs, lv, n⟩ := rfl
theorem hp_tok (vs : List (Nat × List D)) (lv : List (Nat × Nat × Nat × TypeId)) (n m : Nat) (e : Nat × TypeId) : (⟨vs, lv, n⟩ : Hp).tok m e = ⟨vs, (n, m, e) :: lv, n + 1⟩ := rfl
theorem hp_app (vs : List (Nat × List D)) (lv : List (Nat × Nat × Nat × TypeId)) (n id m : Nat) (e : Nat × TypeId) : (⟨vs, lv, n⟩ : Hp).app id m e = ⟨vs, (id, m, e) :: lv, n⟩ := rfl
theorem wrap_id {z : Int} (h1 : -9223372036854775808 ≤ z) (h2 : z ≤ 9223372036854775807) : IntKind.i64.wrap z = z := by
  rw [IntKind.wrap_i64]; omega
section
variable {P : Program} {tb : TypeId → Option TyE} {hp : Hp} {k : D → Hp → Prop} {kd : D → Prop} {kv : Value → Prop} {ki : Int → Prop}
/-! ### Loads and stores -/
theorem loadV_pt (t : TypeId) (j off : Nat) : loadV tb t (.pt j off) hp kd = (match tb t, hp.vars.lookup j with
    | some i, some ds => j < hp.next ∧ match i.ty.agg with
      | true => off + i.size ≤ ds.length ∧ kd (.ag ((ds.drop off).take i.size))
      | false => exO (ds[off]?) kd
    | _, _ => False) := Eq.trans rfl rfl
theorem loadV_fp (t : TypeId) (xs : List E) (off : Nat) : loadV tb t (.fp xs off) hp kd = (match tb t with
    | some i => match i.ty.agg with
      | true => off + i.size ≤ xs.length ∧ kd (.ag ((List.range i.size).map fun j => .e (xs.getD (off + j) .any)))
      | false => off < xs.length ∧ kd (.e (xs.getD off .any))
    | _ => False) := Eq.trans rfl rfl
theorem storeV_pt (t : TypeId) (j off : Nat) (x : D) : storeV tb t (.pt j off) x hp k = (match tb t, hp.vars.lookup j, x.cells with
    | some i, some ds, some cs => cs.length = i.size ∧ off + i.size ≤ ds.length ∧ k .top (hp.set j (ds.take off ++ cs ++ ds.drop (off + cs.length)))
    | _, _, _ => False) := Eq.trans rfl rfl
theorem asgV_nil (t : TypeId) : asgV tb t (.e (.lit (.slice none 0 0))) hp k = (match tb t with
    | some i => match i.ty with
      | .slice e => match tb e with
        | some j => 0 < j.size ∧ k (.own hp.next j.size 0 []) (hp.tok 0 (j.size, e))
        | none => k (.e (.lit (.slice none 0 0))) hp
      | _ => k (.e (.lit (.slice none 0 0))) hp
    | none => k (.e (.lit (.slice none 0 0))) hp) := Eq.trans rfl rfl
theorem asgV_int (t : TypeId) (j : IntKind) (n : Int) : asgV tb t (.e (.lit (.int j n))) hp k = k (.e (.lit (.int j n))) hp := Eq.trans rfl rfl
theorem asgV_bool (t : TypeId) (b : Bool) : asgV tb t (.e (.lit (.bool b))) hp k = k (.e (.lit (.bool b))) hp := Eq.trans rfl rfl
theorem asgV_str (t : TypeId) (b : ByteArray) : asgV tb t (.e (.lit (.string b))) hp k = k (.e (.lit (.string b))) hp := Eq.trans rfl rfl
theorem asgV_sl (t : TypeId) (z n : Nat) (xs : List E) : asgV tb t (.e (.sl z n xs)) hp k = k (.e (.sl z n xs)) hp := Eq.trans rfl rfl
theorem asgV_own (t : TypeId) (id z n : Nat) (xs : List E) : asgV tb t (.own id z n xs) hp k = k (.own id z n xs) hp := Eq.trans rfl rfl
theorem asgV_fu (t : TypeId) (z n : Nat) (xs : List E) : asgV tb t (.fu z n xs) hp k = k (.fu z n xs) hp := Eq.trans rfl rfl
theorem asgV_ag (t : TypeId) (ds : List D) : asgV tb t (.ag ds) hp k = k (.ag ds) hp := Eq.trans rfl rfl
theorem asgV_pt (t : TypeId) (j off : Nat) : asgV tb t (.pt j off) hp k = k (.pt j off) hp := Eq.trans rfl rfl
theorem asgV_fp (t : TypeId) (xs : List E) (off : Nat) : asgV tb t (.fp xs off) hp k = k (.fp xs off) hp := Eq.trans rfl rfl
theorem pickV_t (a b : D) : pickV (.e (.lit (.bool true))) a b kd = kd a := Eq.trans rfl rfl
theorem pickV_f (a b : D) : pickV (.e (.lit (.bool false))) a b kd = kd b := Eq.trans rfl rfl
theorem allocV_eq (t : TypeId) : allocV tb t hp k = (match tb t with | some i => k (.pt hp.next 0) (hp.var (i.zero.map fun v => .e (.lit v))) | none => False) := Eq.trans rfl rfl
theorem boxV_eq (d : D) : boxV d hp k = (match d.cells with | some cs => k (.pt hp.next 0) (hp.var cs) | none => False) := Eq.trans rfl rfl
theorem extractV_tu (ds : List D) (i : Nat) : extractV (.tu ds) i kd = exO (ds[i]?) kd := Eq.trans rfl rfl
theorem cells_e (x : E) : (D.e x).cells = some [.e x] := rfl
theorem cells_own (id z n : Nat) (xs : List E) : (D.own id z n xs).cells = some [.own id z n xs] := rfl
theorem cells_fu (z n : Nat) (xs : List E) : (D.fu z n xs).cells = some [.fu z n xs] := rfl
theorem cells_ag (ds : List D) : (D.ag ds).cells = some ds := rfl
theorem cells_pt (j off : Nat) : (D.pt j off).cells = some [.pt j off] := rfl
theorem cells_fp (xs : List E) (off : Nat) : (D.fp xs off).cells = some [.fp xs off] := rfl
theorem cellE_e (x : E) : (D.e x).cellE = some x := rfl
theorem cellE_own (id z n : Nat) (xs : List E) : (D.own id z n xs).cellE = some (.sl z n xs) := rfl
theorem cellE_fu (z n : Nat) (xs : List E) : (D.fu z n xs).cellE = some (.sl z n xs) := rfl
theorem asSl_sl (z z' n : Nat) (xs : List E) : (D.e (.sl z' n xs)).asSl z = if z' = z then some (n, xs) else none := rfl
theorem asSl_own (id z z' n : Nat) (xs : List E) : (D.own id z' n xs).asSl z = if z' = z then some (n, xs) else none := rfl
theorem asSl_fu (z z' n : Nat) (xs : List E) : (D.fu z' n xs).asSl z = if z' = z then some (n, xs) else none := rfl
theorem asSl_nil (z : Nat) : (D.e (.lit (.slice none 0 0))).asSl z = if z = 0 then none else some (0, []) := rfl
theorem strOf_str (s : ByteArray) : (D.e (.lit (.string s))).strOf = some s := rfl
theorem strOf_sl (z n : Nat) (xs : List E) : (D.e (.sl z n xs)).strOf = none := rfl
theorem strOf_own (id z n : Nat) (xs : List E) : (D.own id z n xs).strOf = none := rfl
theorem strOf_fu (z n : Nat) (xs : List E) : (D.fu z n xs).strOf = none := rfl
theorem strOf_nil (a : Option Addr) (n c : Nat) : (D.e (.lit (.slice a n c))).strOf = none := rfl
theorem ex_e (x : E) : (D.e x).ex = .e x := rfl
theorem ex_own (id z n : Nat) (xs : List E) : (D.own id z n xs).ex = .e (.sl z n xs) := rfl
theorem ex_fu (z n : Nat) (xs : List E) : (D.fu z n xs).ex = .e (.sl z n xs) := rfl
theorem ex_ag (ds : List D) : (D.ag ds).ex = .ag (ds.map D.exC) := rfl
theorem ex_tu (ds : List D) : (D.tu ds).ex = .tu ds := rfl
theorem ex_fp (xs : List E) (off : Nat) : (D.fp xs off).ex = .fp xs off := rfl
theorem exC_e (x : E) : (D.e x).exC = .e x := rfl
theorem exC_own (id z n : Nat) (xs : List E) : (D.own id z n xs).exC = .e (.sl z n xs) := rfl
theorem exC_fu (z n : Nat) (xs : List E) : (D.fu z n xs).exC = .e (.sl z n xs) := rfl
theorem pure_e (x : E) : (D.e x).pure = true := rfl
theorem pure_ag (ds : List D) : (D.ag ds).pure = ds.all D.pureC := rfl
theorem pure_fp (xs : List E) (off : Nat) : (D.fp xs off).pure = true := rfl
theorem pureC_e (x : E) : (D.e x).pureC = true := rfl
/-! ### Arithmetic -/
theorem bin_shl (t : TypeId) (j j' : IntKind) (a b : Int) : binV P .shl t (.e (.lit (.int j a))) (.e (.lit (.int j' b))) kv = (0 ≤ b ∧ kv (.int j (j.wrap (a * 2 ^ min b.toNat j.bits)))) := Eq.trans rfl rfl
theorem bin_shr (t : TypeId) (j j' : IntKind) (a b : Int) : binV P .shr t (.e (.lit (.int j a))) (.e (.lit (.int j' b))) kv = (0 ≤ b ∧ kv (.int j (a.fdiv (2 ^ min b.toNat j.bits)))) := Eq.trans rfl rfl
theorem bin_add (t : TypeId) (j j' : IntKind) (a b : Int) : binV P .add t (.e (.lit (.int j a))) (.e (.lit (.int j' b))) kv = (j = j' ∧ kv (.int j (j.wrap (a + b)))) := Eq.trans rfl rfl
theorem bin_sub (t : TypeId) (j j' : IntKind) (a b : Int) : binV P .sub t (.e (.lit (.int j a))) (.e (.lit (.int j' b))) kv = (j = j' ∧ kv (.int j (j.wrap (a - b)))) := Eq.trans rfl rfl
theorem bin_mul (t : TypeId) (j j' : IntKind) (a b : Int) : binV P .mul t (.e (.lit (.int j a))) (.e (.lit (.int j' b))) kv = (j = j' ∧ kv (.int j (j.wrap (a * b)))) := Eq.trans rfl rfl
theorem bin_quo (t : TypeId) (j j' : IntKind) (a b : Int) : binV P .quo t (.e (.lit (.int j a))) (.e (.lit (.int j' b))) kv = (j = j' ∧ b ≠ 0 ∧ kv (.int j (j.wrap (a.tdiv b)))) := Eq.trans rfl rfl
theorem bin_rem (t : TypeId) (j j' : IntKind) (a b : Int) : binV P .rem t (.e (.lit (.int j a))) (.e (.lit (.int j' b))) kv = (j = j' ∧ b ≠ 0 ∧ kv (.int j (a.tmod b))) := Eq.trans rfl rfl
theorem bin_and (t : TypeId) (j j' : IntKind) (a b : Int) : binV P .and t (.e (.lit (.int j a))) (.e (.lit (.int j' b))) kv = (j = j' ∧ kv (.int j (j.wrap (BitVec.ofInt j.bits a &&& BitVec.ofInt j.bits b).toNat))) := Eq.trans rfl rfl
theorem bin_or (t : TypeId) (j j' : IntKind) (a b : Int) : binV P .or t (.e (.lit (.int j a))) (.e (.lit (.int j' b))) kv = (j = j' ∧ kv (.int j (j.wrap (BitVec.ofInt j.bits a ||| BitVec.ofInt j.bits b).toNat))) := Eq.trans rfl rfl
theorem bin_xor (t : TypeId) (j j' : IntKind) (a b : Int) : binV P .xor t (.e (.lit (.int j a))) (.e (.lit (.int j' b))) kv = (j = j' ∧ kv (.int j (j.wrap (BitVec.ofInt j.bits a ^^^ BitVec.ofInt j.bits b).toNat))) := Eq.trans rfl rfl
theorem bin_eql (t : TypeId) (j j' : IntKind) (a b : Int) : binV P .eql t (.e (.lit (.int j a))) (.e (.lit (.int j' b))) kv = (j = j' ∧ kv (.bool (decide (a = b)))) := Eq.trans rfl rfl
theorem bin_neq (t : TypeId) (j j' : IntKind) (a b : Int) : binV P .neq t (.e (.lit (.int j a))) (.e (.lit (.int j' b))) kv = (j = j' ∧ kv (.bool (decide (a ≠ b)))) := Eq.trans rfl rfl
theorem bin_lss (t : TypeId) (j j' : IntKind) (a b : Int) : binV P .lss t (.e (.lit (.int j a))) (.e (.lit (.int j' b))) kv = (j = j' ∧ kv (.bool (decide (a < b)))) := Eq.trans rfl rfl
theorem bin_leq (t : TypeId) (j j' : IntKind) (a b : Int) : binV P .leq t (.e (.lit (.int j a))) (.e (.lit (.int j' b))) kv = (j = j' ∧ kv (.bool (decide (a ≤ b)))) := Eq.trans rfl rfl
theorem bin_gtr (t : TypeId) (j j' : IntKind) (a b : Int) : binV P .gtr t (.e (.lit (.int j a))) (.e (.lit (.int j' b))) kv = (j = j' ∧ kv (.bool (decide (b < a)))) := Eq.trans rfl rfl
theorem bin_geq (t : TypeId) (j j' : IntKind) (a b : Int) : binV P .geq t (.e (.lit (.int j a))) (.e (.lit (.int j' b))) kv = (j = j' ∧ kv (.bool (decide (b ≤ a)))) := Eq.trans rfl rfl
theorem bin_sadd (t : TypeId) (a b : ByteArray) : binV P .add t (.e (.lit (.string a))) (.e (.lit (.string b))) kv = (a.size + b.size ≤ 9223372036854775807 ∧ kv (.string (a ++ b))) := Eq.trans rfl rfl
theorem bin_beql (t : TypeId) (a b : Bool) : binV P .eql t (.e (.lit (.bool a))) (.e (.lit (.bool b))) kv = (P.underlying t = some .bool ∧ kv (.bool (a == b))) := Eq.trans rfl rfl
theorem bin_bneq (t : TypeId) (a b : Bool) : binV P .neq t (.e (.lit (.bool a))) (.e (.lit (.bool b))) kv = (P.underlying t = some .bool ∧ kv (.bool (!(a == b)))) := Eq.trans rfl rfl
theorem bin_seql (t : TypeId) (a b : ByteArray) : binV P .eql t (.e (.lit (.string a))) (.e (.lit (.string b))) kv = kv (.bool (decide (a = b))) := Eq.trans rfl rfl
theorem bin_sneq (t : TypeId) (a b : ByteArray) : binV P .neq t (.e (.lit (.string a))) (.e (.lit (.string b))) kv = kv (.bool (decide (a ≠ b))) := Eq.trans rfl rfl
/-- == or != of structs whose cells are known: by the equality of their types (proved for each). -/
def EqT (P : Program) (op : BinOp) (t : TypeId) (us vs : List Value) (b : Bool) : Prop := ∀ w, (do eqGuard op t (.tmp 0) (.tmp 0) (.agg us.toArray) (.agg vs.toArray); binOp op t (.agg us.toArray) (.agg vs.toArray)).run P w = .ok (.bool b) w
theorem bin_ag {op : BinOp} {t : TypeId} {xs ys : List D} {us vs : List Value} {b : Bool} (hop : op = .eql ∨ op = .neq) (hx : litsOf xs = some us) (hy : litsOf ys = some vs) (he : EqT P op t us vs b) (h : kv (.bool b)) : binV P op t (.ag xs) (.ag ys) kv := by
  rcases hop with rfl | rfl <;>
  · unfold binV
    simp only [hx, hy]
    exact ⟨.bool b, he, rfl, h⟩
theorem nilV_pt (j off : Nat) : nilV (.pt j off) kd = kd (.pt j off) := Eq.trans rfl rfl
theorem nilV_fp (xs : List E) (off : Nat) : nilV (.fp xs off) kd = kd (.fp xs off) := Eq.trans rfl rfl
theorem makeFuncV_0 (f : FuncId) (n : Nat) : makeFuncV (.func f) n [] kd = (n = 0 ∧ kd (.e (.lit (.func (.func f) #[] #[])))) := Eq.trans rfl rfl
theorem makeFuncV_1 (f : FuncId) (n : Nat) (d : D) (ds : List D) : makeFuncV (.func f) n (d :: ds) kd = (n = 0 ∧ match capsV (d :: ds) with
      | some ks => kd (.fn f ks)
      | none => False) := Eq.trans rfl rfl
theorem caps_nil : capsV [] = some [] := rfl
theorem caps_cons (j : Nat) (ds : List D) : capsV (.pt j 0 :: ds) = (capsV ds).map (j :: ·) := rfl
theorem calleeV_lit (hv : Bool) (f : FuncId) (ds : List D) : calleeV P hv (.e (.lit (.func (.func f) #[] #[]))) ds hp k = (0 = 0 ∧ 0 = 0 ∧ callV P hv f ds hp k) := Eq.trans rfl rfl
theorem calleeV_fn (hv : Bool) (f : FuncId) (ks : List Nat) (ds : List D) : calleeV P hv (.fn f ks) ds hp k = callV P hv f (ds ++ ks.map fun k => .pt k 0) hp k := Eq.trans rfl rfl
theorem un_not (t : Bool) : unV .not (.e (.lit (.bool t))) kv = kv (.bool !t) := Eq.trans rfl rfl
theorem un_neg (j : IntKind) (n : Int) : unV .neg (.e (.lit (.int j n))) kv = kv (.int j (j.wrap (0 - n))) := rfl
/-! ### Places -/
theorem fieldOff_eq (s : TypeId) (f : Nat) (kf : Nat → Nat → Bool → Prop) : fieldOff tb s f kf = (match tb s with
    | some i => match i.ty with
      | .struct fs => match fs[f]? with
        | some (off, t) => match tb t with
          | some j => kf off j.size j.ty.agg
          | none => False
        | none => False
      | _ => False
    | none => False) := Eq.trans rfl rfl
theorem fieldAddrV_pt (s : TypeId) (f j off : Nat) : fieldAddrV tb s f (.pt j off) kd = fieldOff tb s f fun o z _ => z ≠ 0 ∧ kd (.pt j (off + o)) := Eq.trans rfl rfl
theorem fieldAddrV_fp (s : TypeId) (f : Nat) (xs : List E) (off : Nat) : fieldAddrV tb s f (.fp xs off) kd = fieldOff tb s f fun o z _ => z ≠ 0 ∧ kd (.fp xs (off + o)) := Eq.trans rfl rfl
theorem fieldV_ag (s : TypeId) (f : Nat) (ds : List D) : fieldV tb s f (.ag ds) kd = fieldOff tb s f fun o z g => match g with
      | true => o + z ≤ ds.length ∧ kd (.ag ((ds.drop o).take z))
      | false => exO (ds[o]?) kd := Eq.trans rfl rfl
theorem indexAddrV_eq (t : TypeId) (d : D) (j : IntKind) (x : Int) : indexAddrV tb t d (.e (.lit (.int j x))) kd = (match tb t with
    | some ti => match ti.ty with
      | .slice e => match tb e with
        | some j => match d.asSl j.size with
          | some (n, xs) => (0 ≤ x ∧ x < (n : Int)) ∧ kd (.fp xs (x.toNat * j.size))
          | none => match d with
            | .ow v off z n => z = j.size ∧ (0 ≤ x ∧ x < (n : Int)) ∧ kd (.pt v (off + x.toNat * j.size))
            | _ => False
        | none => False
      | .arr n e => match tb e, d with
        | some j, .pt v off => (0 ≤ x ∧ x < (n : Int)) ∧ kd (.pt v (off + x.toNat * j.size))
        | some j, .fp xs off => (0 ≤ x ∧ x < (n : Int)) ∧ kd (.fp xs (off + x.toNat * j.size))
        | _, _ => False
      | _ => False
    | none => False) := by
  unfold indexAddrV
  cases tb t <;> rfl
theorem indexV_eq (t : TypeId) (d : D) (j : IntKind) (x : Int) : indexV tb t d (.e (.lit (.int j x))) kd = (match tb t with
    | some ti => match ti.ty, d with
      | .str, .e (.lit (.string s)) => (0 ≤ x ∧ x < (s.size : Int)) ∧ kd (.e (.lit (.int .u8 ((s.data.toList.getD x.toNat 0).toNat : Int))))
      | .arr n e, .ag ds => match tb e with
        | some j => (0 ≤ x ∧ x < (n : Int)) ∧ match j.ty.agg with
          | true => x.toNat * j.size + j.size ≤ ds.length ∧ kd (.ag ((ds.drop (x.toNat * j.size)).take j.size))
          | false => ∃ d, ds[x.toNat * j.size]? = some d ∧ kd d
        | none => False
      | _, _ => False
    | none => False) := by
  unfold indexV
  cases tb t <;> rfl
@[congr] theorem boundV_congr {b b' : Option D} {n n' : Int} {k : Int → Prop} (h : b = b') (h' : n = n') : boundV b n k = boundV b' n' k := by rw [h, h']
theorem boundV_none (i : Int) : boundV none i ki = ki i := Eq.trans rfl rfl
theorem boundV_some (j : IntKind) (x i : Int) : boundV (some (.e (.lit (.int j x)))) i ki = ki x := Eq.trans rfl rfl
theorem builtin_len (t : TypeId) (d : D) : builtinV tb .len [t] [d] hp k = lenV tb t d (atInt k hp) := Eq.trans rfl rfl
theorem builtin_min (ts : List TypeId) (j j' : IntKind) (x y : Int) : builtinV tb .min ts [.e (.lit (.int j x)), .e (.lit (.int j' y))] hp k = k (.e (.lit (.int j (min x y)))) hp := by
  unfold builtinV
  split <;> first | rfl | simp_all
theorem builtin_max (ts : List TypeId) (j j' : IntKind) (x y : Int) : builtinV tb .max ts [.e (.lit (.int j x)), .e (.lit (.int j' y))] hp k = k (.e (.lit (.int j (max x y)))) hp := by
  unfold builtinV
  split <;> first | rfl | simp_all
theorem builtin_append (t t' : TypeId) (s x : D) : builtinV tb .append [t, t'] [s, x] hp k = appendV tb t t' s x hp k := Eq.trans rfl rfl
def appOwn (j : TyE) (e : TypeId) (id z n : Nat) (xs : List E) (hp : Hp) (k : D → Hp → Prop) (m : Nat) (ys : List E) : Prop := z = j.size ∧ hp.live.lookup id = some (n, j.size, e) ∧ (n + m) * max 1 j.bytes ≤ 140737488355328 ∧ k (.own id j.size (n + m) (xs ++ ys)) (hp.app id (n + m) (j.size, e))
def appNil (j : TyE) (e : TypeId) (hp : Hp) (k : D → Hp → Prop) (m : Nat) (ys : List E) : Prop := m * max 1 j.bytes ≤ 140737488355328 ∧ k (.own hp.next j.size m ys) (hp.tok m (j.size, e))
theorem appOwn_ap (j : TyE) (e : TypeId) (id z n : Nat) (xs : List E) (m : Nat) (ys : List E) : appOwn j e id z n xs hp k m ys = (z = j.size ∧ hp.live.lookup id = some (n, j.size, e) ∧ (n + m) * max 1 j.bytes ≤ 140737488355328 ∧ k (.own id j.size (n + m) (xs ++ ys)) (hp.app id (n + m) (j.size, e))) := rfl
theorem appNil_ap (j : TyE) (e : TypeId) (m : Nat) (ys : List E) : appNil j e hp k m ys = (m * max 1 j.bytes ≤ 140737488355328 ∧ k (.own hp.next j.size m ys) (hp.tok m (j.size, e))) := rfl
theorem appendV_own (t t' : TypeId) (id z n : Nat) (xs : List E) (x : D) : appendV tb t t' (.own id z n xs) x hp k = (match tb t with
    | some ti => match ti.ty with
      | .slice e => match tb e with
        | some j => 0 < j.size ∧ (x.strOf = none → t' = t) ∧ (x.strOf ≠ none → j.bytes = 1 ∧ j.zero = [.int .u8 0] ∧ j.ty.agg = false) ∧ newsV tb t' j.size x (appOwn j e id z n xs hp k)
        | none => False
      | _ => False
    | none => False) := Eq.trans rfl rfl
def appFu (j : TyE) (e : TypeId) (z n : Nat) (xs : List E) (hp : Hp) (k : D → Hp → Prop) (m : Nat) (ys : List E) : Prop := z = j.size ∧ 0 < m ∧ (n + m) * max 1 j.bytes ≤ 140737488355328 ∧ k (.own hp.next j.size (n + m) (xs ++ ys)) (hp.tok (n + m) (j.size, e))
theorem appFu_ap (j : TyE) (e : TypeId) (z n : Nat) (xs : List E) (m : Nat) (ys : List E) : appFu j e z n xs hp k m ys = (z = j.size ∧ 0 < m ∧ (n + m) * max 1 j.bytes ≤ 140737488355328 ∧ k (.own hp.next j.size (n + m) (xs ++ ys)) (hp.tok (n + m) (j.size, e))) := rfl
theorem appendV_fu (t t' : TypeId) (z n : Nat) (xs : List E) (x : D) : appendV tb t t' (.fu z n xs) x hp k = (match tb t with
    | some ti => match ti.ty with
      | .slice e => match tb e with
        | some j => 0 < j.size ∧ (x.strOf = none → t' = t) ∧ (x.strOf ≠ none → j.bytes = 1 ∧ j.zero = [.int .u8 0] ∧ j.ty.agg = false) ∧ newsV tb t' j.size x (appFu j e z n xs hp k)
        | none => False
      | _ => False
    | none => False) := Eq.trans rfl rfl
theorem appendV_nil (t t' : TypeId) (x : D) : appendV tb t t' (.e (.lit (.slice none 0 0))) x hp k = (match tb t with
    | some ti => match ti.ty with
      | .slice e => match tb e with
        | some j => 0 < j.size ∧ (x.strOf = none → t' = t) ∧ (x.strOf ≠ none → j.bytes = 1 ∧ j.zero = [.int .u8 0] ∧ j.ty.agg = false) ∧ newsV tb t' j.size x (appNil j e hp k)
        | none => False
      | _ => False
    | none => False) := Eq.trans rfl rfl
theorem newsV_eq (t : TypeId) (z : Nat) (x : D) (kn : Nat → List E → Prop) : newsV tb t z x kn = (match tb t with
    | some i => match i.ty, x.strOf with
      | .str, some s => z = 1 ∧ kn s.size (s.data.toList.map fun b => .lit (bv b))
      | .slice _, none => match x.asSl z with
        | some (m, ys) => kn m ys
        | none => False
      | _, _ => False
    | none => False) := rfl
def slH (z n : Nat) (xs : List E) (hi mx : Option D) (kd : D → Prop) (l : Int) : Prop := boundV hi n fun h => (0 ≤ l ∧ l ≤ h ∧ h ≤ (n : Int)) ∧ match mx with
  | none => kd (.e (.sl z (h - l).toNat ((xs.drop (l.toNat * z)).take ((h - l).toNat * z))))
  | some m => boundV (some m) 0 fun m => hi.isSome = true ∧ m = h ∧ kd (.fu z (h - l).toNat ((xs.drop (l.toNat * z)).take ((h - l).toNat * z)))
def slS (s : ByteArray) (hi : Option D) (kd : D → Prop) (l : Int) : Prop := boundV hi s.size fun h => (0 ≤ l ∧ l ≤ h ∧ h ≤ (s.size : Int)) ∧ kd (.e (.lit (.string (s.extract l.toNat h.toNat))))
theorem sliceV_eq (t : TypeId) (d : D) (lo hi mx : Option D) : sliceV tb t d lo hi mx kd = (match tb t with
    | some ti => match ti.ty with
      | .slice e => match tb e with
        | some j => match d.asSl j.size with
          | some (n, xs) => boundV lo 0 (slH j.size n xs hi mx kd)
          | none => False
        | none => False
      | .str => match d, mx with
        | .e (.lit (.string s)), none => boundV lo 0 (slS s hi kd)
        | _, _ => False
      | _ => False
    | none => False) := Eq.trans rfl rfl
theorem slH_none (z n : Nat) (xs : List E) (l : Int) : slH z n xs none none kd l = ((0 ≤ l ∧ l ≤ (n : Int) ∧ (n : Int) ≤ (n : Int)) ∧ kd (.e (.sl z ((n : Int) - l).toNat ((xs.drop (l.toNat * z)).take (((n : Int) - l).toNat * z))))) := rfl
theorem slH_some (z n : Nat) (xs : List E) (j : IntKind) (h l : Int) : slH z n xs (some (.e (.lit (.int j h)))) none kd l = ((0 ≤ l ∧ l ≤ h ∧ h ≤ (n : Int)) ∧ kd (.e (.sl z (h - l).toNat ((xs.drop (l.toNat * z)).take ((h - l).toNat * z))))) := rfl
theorem slH_max (z n : Nat) (xs : List E) (j j' : IntKind) (h m l : Int) : slH z n xs (some (.e (.lit (.int j h)))) (some (.e (.lit (.int j' m)))) kd l = ((0 ≤ l ∧ l ≤ h ∧ h ≤ (n : Int)) ∧ true = true ∧ m = h ∧ kd (.fu z (h - l).toNat ((xs.drop (l.toNat * z)).take ((h - l).toNat * z)))) := rfl
theorem slS_none (s : ByteArray) (l : Int) : slS s none kd l = ((0 ≤ l ∧ l ≤ (s.size : Int) ∧ (s.size : Int) ≤ (s.size : Int)) ∧ kd (.e (.lit (.string (s.extract l.toNat (s.size : Int).toNat))))) := rfl
theorem slS_some (s : ByteArray) (j : IntKind) (h l : Int) : slS s (some (.e (.lit (.int j h)))) kd l = ((0 ≤ l ∧ l ≤ h ∧ h ≤ (s.size : Int)) ∧ kd (.e (.lit (.string (s.extract l.toNat h.toNat))))) := rfl
theorem lenV_eq (t : TypeId) (d : D) : lenV tb t d ki = (match tb t with
    | some ti => match ti.ty with
      | .slice e => match tb e with
        | some j => match d.asSl j.size with
          | some (n, _) => ki n
          | none => match d with
            | .ow _ _ _ n => ki n
            | _ => False
        | none => False
      | .str => match d with
        | .e (.lit (.string s)) => ki s.size
        | _ => False
      | .arr n _ => ki n
      | _ => False
    | none => False) := Eq.trans rfl rfl
theorem partsD_nil : partsD [] = some [] := rfl
theorem partsD_cons (i : Nat) (d : D) (r : List (Nat × D)) : partsD ((i, d) :: r) = (match d.cells, partsD r with
    | some cs, some r => some ((i, cs) :: r)
    | _, _ => none) := rfl
theorem cellsE_nil : cellsE [] = some [] := rfl
theorem cellsE_cons (d : D) (ds : List D) : cellsE (d :: ds) = (match d.cellE, cellsE ds with
    | some x, some xs => some (x :: xs)
    | _, _ => none) := rfl
theorem fillL_nil {α : Type} (place : Nat → Option (Nat × Nat)) (cells : List α) : fillL place cells [] = some cells := rfl
theorem fillL_cons {α : Type} (place : Nat → Option (Nat × Nat)) (cells : List α) (i : Nat) (cs : List α) (r : List (Nat × List α)) : fillL place cells ((i, cs) :: r) = (match place i with
    | none => none
    | some (off, size) => if cs.length ≠ size ∨ off + cs.length > cells.length then none else fillL place (cells.take off ++ cs ++ cells.drop (off + cs.length)) r) := rfl
theorem placeS_eq (fs : List (Nat × TypeId)) (i : Nat) : placeS tb fs i = (match fs[i]? with
    | some (off, t) => (tb t).map fun j => (off, j.size)
    | none => none) := rfl
theorem buildV_eq (t : TypeId) (ps : List (Nat × D)) : buildV tb t ps kd = (match tb t, partsD ps with
    | some i, some qs => match i.ty with
      | .struct fs => (∀ f ∈ fs, (tb f.2).isSome = true) ∧ match fillL (placeS tb fs) (i.zero.map fun v => D.e (.lit v)) qs with
        | some ds => kd (.ag ds)
        | none => False
      | .arr _ e => match tb e with
        | some j => match fillL (fun n => some (n * j.size, j.size)) (i.zero.map fun v => D.e (.lit v)) qs with
          | some ds => kd (.ag ds)
          | none => False
        | none => False
      | _ => False
    | _, _ => False) := Eq.trans rfl rfl
theorem buildSliceV_mt (own : Bool) (t : TypeId) : buildSliceV tb own t 0 [] hp k = (match tb t with
    | some i => match i.ty with
      | .slice e => match tb e with
        | some j => 0 < j.size ∧ 0 * j.size ≤ 16777216 ∧ ([] : List (Nat × List D)) = [] ∧ k (.own hp.next j.size 0 []) (hp.tok 0 (j.size, e))
        | none => False
      | _ => False
    | none => False) := by
  unfold buildSliceV
  cases tb t <;> rfl
theorem buildSliceV_1 (own : Bool) (t : TypeId) (ps : List (Nat × D)) : buildSliceV tb own t 1 ps hp k = (match tb t, partsD ps with
    | some i, some qs => match i.ty with
      | .slice e => match tb e with
        | some j => 0 < j.size ∧ 1 * j.size ≤ 16777216 ∧ match fillL (fun m => some (m * j.size, j.size)) (List.replicate (1 * j.size) (D.e .any)) qs with
            | some ds => match cellsE ds with
              | some xs => match own with
                | true => k (.own hp.next j.size 1 xs) (hp.tok 1 (j.size, e))
                | false => k (.fu j.size 1 xs) hp
              | none => False
            | none => False
        | none => False
      | _ => False
    | _, _ => False) := Eq.trans rfl rfl
theorem buildSliceV_2 (own : Bool) (t : TypeId) (ps : List (Nat × D)) : buildSliceV tb own t 2 ps hp k = (match tb t, partsD ps with
    | some i, some qs => match i.ty with
      | .slice e => match tb e with
        | some j => 0 < j.size ∧ 2 * j.size ≤ 16777216 ∧ match fillL (fun m => some (m * j.size, j.size)) (List.replicate (2 * j.size) (D.e .any)) qs with
            | some ds => match cellsE ds with
              | some xs => match own with
                | true => k (.own hp.next j.size 2 xs) (hp.tok 2 (j.size, e))
                | false => k (.fu j.size 2 xs) hp
              | none => False
            | none => False
        | none => False
      | _ => False
    | _, _ => False) := Eq.trans rfl rfl
theorem buildSliceV_3 (own : Bool) (t : TypeId) (ps : List (Nat × D)) : buildSliceV tb own t 3 ps hp k = (match tb t, partsD ps with
    | some i, some qs => match i.ty with
      | .slice e => match tb e with
        | some j => 0 < j.size ∧ 3 * j.size ≤ 16777216 ∧ match fillL (fun m => some (m * j.size, j.size)) (List.replicate (3 * j.size) (D.e .any)) qs with
            | some ds => match cellsE ds with
              | some xs => match own with
                | true => k (.own hp.next j.size 3 xs) (hp.tok 3 (j.size, e))
                | false => k (.fu j.size 3 xs) hp
              | none => False
            | none => False
        | none => False
      | _ => False
    | _, _ => False) := Eq.trans rfl rfl
theorem buildSliceV_4 (own : Bool) (t : TypeId) (ps : List (Nat × D)) : buildSliceV tb own t 4 ps hp k = (match tb t, partsD ps with
    | some i, some qs => match i.ty with
      | .slice e => match tb e with
        | some j => 0 < j.size ∧ 4 * j.size ≤ 16777216 ∧ match fillL (fun m => some (m * j.size, j.size)) (List.replicate (4 * j.size) (D.e .any)) qs with
            | some ds => match cellsE ds with
              | some xs => match own with
                | true => k (.own hp.next j.size 4 xs) (hp.tok 4 (j.size, e))
                | false => k (.fu j.size 4 xs) hp
              | none => False
            | none => False
        | none => False
      | _ => False
    | _, _ => False) := Eq.trans rfl rfl
theorem buildSliceV_5 (own : Bool) (t : TypeId) (ps : List (Nat × D)) : buildSliceV tb own t 5 ps hp k = (match tb t, partsD ps with
    | some i, some qs => match i.ty with
      | .slice e => match tb e with
        | some j => 0 < j.size ∧ 5 * j.size ≤ 16777216 ∧ match fillL (fun m => some (m * j.size, j.size)) (List.replicate (5 * j.size) (D.e .any)) qs with
            | some ds => match cellsE ds with
              | some xs => match own with
                | true => k (.own hp.next j.size 5 xs) (hp.tok 5 (j.size, e))
                | false => k (.fu j.size 5 xs) hp
              | none => False
            | none => False
        | none => False
      | _ => False
    | _, _ => False) := Eq.trans rfl rfl
theorem buildSliceV_6 (own : Bool) (t : TypeId) (ps : List (Nat × D)) : buildSliceV tb own t 6 ps hp k = (match tb t, partsD ps with
    | some i, some qs => match i.ty with
      | .slice e => match tb e with
        | some j => 0 < j.size ∧ 6 * j.size ≤ 16777216 ∧ match fillL (fun m => some (m * j.size, j.size)) (List.replicate (6 * j.size) (D.e .any)) qs with
            | some ds => match cellsE ds with
              | some xs => match own with
                | true => k (.own hp.next j.size 6 xs) (hp.tok 6 (j.size, e))
                | false => k (.fu j.size 6 xs) hp
              | none => False
            | none => False
        | none => False
      | _ => False
    | _, _ => False) := Eq.trans rfl rfl
theorem call_of {f : FuncId} {as ds : List D} {r : D} (hc : PCalls P f ds r) (ha : as.map D.ex = ds) (hp1 : ds.all D.pure = true) (h : adoptV r hp k) {hv : Bool} : callV P hv f as hp k := by
  subst ha
  exact .inl ⟨hp1, r, hc, h⟩
theorem callH_of {f : FuncId} {as : List D} {d : D} {hp' : Hp} {hv : Bool} (hc : HC P f as hp d hp') (hh : hv = true) (h : k d hp') : callV P hv f as hp k := .inr ⟨hh, d, hp', hc, h⟩
theorem adopt_own (e z n : Nat) (xs : List E) : adoptV (.own e z n xs) hp k = k (.own hp.next z n xs) (hp.tok n (z, e)) := Eq.trans rfl rfl
theorem adopt_e (x : E) : adoptV (.e x) hp k = k (.e x) hp := Eq.trans rfl rfl
theorem adopt_ag (ds : List D) : adoptV (.ag ds) hp k = k (.ag ds) hp := Eq.trans rfl rfl
theorem adopt_tu (ds : List D) : adoptV (.tu ds) hp k = k (.tu ds) hp := Eq.trans rfl rfl
theorem lits_nil : litsOf [] = some [] := rfl
theorem lits_cons (v : Value) (ds : List D) : litsOf (.e (.lit v) :: ds) = (litsOf ds).map (v :: ·) := rfl
theorem AW.condS {x : Cx} {Q : Exit → List (Nat × D) → Hp → Prop} {tm : List (Nat × D)} {c : Operand} {c1 c2 : Code} {b : Bool} (hc : evD tm c = .e (.lit (.bool b))) (ht : b = true → AW P x c1 tm hp Q) (hf : b = false → AW P x c2 tm hp Q) : AW P x (.cond c c1 c2) tm hp Q := by
  refine AW.cond hc ?_
  cases b
  · exact hf rfl
  · exact ht rfl
end
end Go.Proofs.Ytakbadleipbngaa
