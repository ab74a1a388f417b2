/-
  The abstract layer: what each operation does to data, and that it does so. Conditions: none.
-/
import Derived.Test.YtakbadleipbngaaAb2
import Derived.Great.BuildSlice
set_option linter.all false
namespace Go.Proofs.Ytakbadleipbngaa
open Go.RowKit

/-! ### Types -/
inductive Ty where
  | int (k : IntKind) | str | bool | slice (e : TypeId) | struct (fs : List (Nat × TypeId)) | arr (n : Nat) (e : TypeId) | other
def Ty.of : TypeDesc → Ty
  | .int k => .int k
  | .string => .str
  | .bool => .bool
  | .slice e => .slice e
  | .struct fs => .struct (fs.toList.map fun f => (f.offset, f.type))
  | .array n e => .arr n e
  | _ => .other
def Ty.agg : Ty → Bool
  | .struct _ | .arr _ _ => true
  | _ => false
def _root_.Go.Value.isAggV : Value → Bool
  | .agg _ => true
  | _ => false
structure TyE where
  ty : Ty
  size : Nat
  bytes : Nat
  zero : List Value
/-- The table tb says what the program's types are. -/
def TOk (P : Program) (tb : TypeId → Option TyE) : Prop := ∀ t i, tb t = some i →
  (P.underlying t).map Ty.of = some i.ty ∧ (P.info? t).map (fun f => (f.size, f.bytes, f.zero.map fun v => (v.cells.toList, v.isAggV))) = some (i.size, i.bytes, some (i.zero, i.ty.agg)) ∧ i.zero.length = i.size ∧ i.zero.all Value.oneCell' = true
section
variable {P : Program} {tb : TypeId → Option TyE}
theorem TOk.und (tok : TOk P tb) {t : TypeId} {i : TyE} (h : tb t = some i) : ∃ d, P.underlying t = some d ∧ Ty.of d = i.ty := by
  obtain ⟨h1, _⟩ := tok t i h
  cases hd : P.underlying t with
  | none => simp [hd] at h1
  | some d => exact ⟨d, rfl, by simpa [hd] using h1⟩
theorem TOk.inf (tok : TOk P tb) {t : TypeId} {i : TyE} (h : tb t = some i) : ∃ f z, P.info? t = some f ∧ f.size = i.size ∧ f.bytes = i.bytes ∧ f.zero = some z ∧ z.cells.toList = i.zero ∧ z.isAggV = i.ty.agg := by
  obtain ⟨_, h1, _⟩ := tok t i h
  cases hd : P.info? t with
  | none => simp [hd] at h1
  | some f =>
    simp only [hd, Option.map_some, Option.some.injEq, Prod.mk.injEq] at h1
    obtain ⟨e1, e2, e3⟩ := h1
    cases hz : f.zero with
    | none => simp [hz] at e3
    | some z =>
      simp only [hz, Option.map_some, Option.some.injEq, Prod.mk.injEq] at e3
      exact ⟨f, z, rfl, e1, e2, hz, e3.1, e3.2⟩
theorem TOk.slice (tok : TOk P tb) {t e : TypeId} {i : TyE} (h : tb t = some i) (hs : i.ty = .slice e) : P.underlying t = some (.slice e) := by
  obtain ⟨d, h1, h2⟩ := tok.und h
  rw [hs] at h2
  cases d <;> simp [Ty.of] at h2
  rw [h1, h2]
theorem TOk.str (tok : TOk P tb) {t : TypeId} {i : TyE} (h : tb t = some i) (hs : i.ty = .str) : P.underlying t = some .string := by
  obtain ⟨d, h1, h2⟩ := tok.und h
  rw [hs] at h2
  cases d <;> simp [Ty.of] at h2
  exact h1
theorem TOk.int (tok : TOk P tb) {t : TypeId} {i : TyE} {k : IntKind} (h : tb t = some i) (hs : i.ty = .int k) : P.underlying t = some (.int k) := by
  obtain ⟨d, h1, h2⟩ := tok.und h
  rw [hs] at h2
  cases d <;> simp [Ty.of] at h2
  rw [h1, h2]
theorem TOk.arr (tok : TOk P tb) {t e : TypeId} {n : Nat} {i : TyE} (h : tb t = some i) (hs : i.ty = .arr n e) : P.underlying t = some (.array n e) := by
  obtain ⟨d, h1, h2⟩ := tok.und h
  rw [hs] at h2
  cases d <;> simp [Ty.of] at h2
  rw [h1, h2.1, h2.2]
theorem TOk.struct (tok : TOk P tb) {t : TypeId} {fs : List (Nat × TypeId)} {i : TyE} (h : tb t = some i) (hs : i.ty = .struct fs) : ∃ fields : Array Field, P.underlying t = some (.struct fields) ∧ fields.toList.map (fun f => (f.offset, f.type)) = fs := by
  obtain ⟨d, h1, h2⟩ := tok.und h
  rw [hs] at h2
  cases d <;> simp [Ty.of] at h2
  exact ⟨_, h1, h2⟩
theorem TOk.run_sizeOf (tok : TOk P tb) {t : TypeId} {i : TyE} (h : tb t = some i) (w : World) : (sizeOf t).run P w = .ok i.size w := by
  obtain ⟨f, z, h1, h2, _⟩ := tok.inf h
  simp [sizeOf, typeInfo, h1, h2]
theorem TOk.run_zero (tok : TOk P tb) {t : TypeId} {i : TyE} (h : tb t = some i) (w : World) : ∃ z, (zeroValue t).run P w = .ok z w ∧ z.cells.toList = i.zero := by
  obtain ⟨f, z, h1, _, _, h4, h5, _⟩ := tok.inf h
  exact ⟨z, by simp [zeroValue, typeInfo, h1, h4], h5⟩
theorem TOk.run_isAgg (tok : TOk P tb) {t : TypeId} {i : TyE} (h : tb t = some i) (w : World) : (isAgg t).run P w = .ok i.ty.agg w := by
  obtain ⟨d, h1, h2⟩ := tok.und h
  rw [← h2]
  unfold isAgg
  rw [Sem.run_bind, run_underlying h1 w]
  cases d <;> rfl
end

/-! ### The operations on data -/
/-- The cells that a value takes. -/
def D.cells : D → Option (List D)
  | .ag ds => some ds
  | .tu _ | .top | .opt _ _ => none
  | d => some [d]
def D.cellE : D → Option E
  | .e x => some x
  | .own _ z n xs => some (.sl z n xs)
  | .fu z n xs => some (.sl z n xs)
  | _ => none
def cellsE : List D → Option (List E)
  | [] => some []
  | d :: ds => match d.cellE, cellsE ds with
    | some x, some xs => some (x :: xs)
    | _, _ => none
/-- A slice's length and contents. -/
def D.asSl (z : Nat) : D → Option (Nat × List E)
  | .e (.sl z' n xs) => if z' = z then some (n, xs) else none
  | .own _ z' n xs => if z' = z then some (n, xs) else none
  | .fu z' n xs => if z' = z then some (n, xs) else none
  | .e (.lit (.slice none 0 0)) => if z = 0 then none else some (0, [])
  | _ => none
def D.strOf : D → Option ByteArray
  | .e (.lit (.string s)) => some s
  | _ => none
/-- As another function sees it. -/
def D.exC : D → D
  | .own _ z n xs => .e (.sl z n xs)
  | .fu z n xs => .e (.sl z n xs)
  | d => d
def D.ex : D → D
  | .own _ z n xs => .e (.sl z n xs)
  | .fu z n xs => .e (.sl z n xs)
  | .ag ds => .ag (ds.map D.exC)
  | d => d
def D.pureC : D → Bool
  | .e _ => true
  | _ => false
def D.pure : D → Bool
  | .e _ => true
  | .ag ds => ds.all D.pureC
  | .fp _ _ => true
  | _ => false
def constD (v : Value) : D :=
  match v with
  | .agg cs => if cs.toList.all Value.oneCell' then .ag (cs.toList.map fun u => .e (.lit u)) else .top
  | .tuple _ => .top
  | v => .e (.lit v)
def evD (tm : List (Nat × D)) : Operand → D
  | .tmp t => (tm.lookup t).getD .top
  | .const v => constD v
  | .global _ => .top
  | .func f => .e (.lit (.func (.func f) #[] #[]))
def putD (dst : Option Tmp) (d : D) (tm : List (Nat × D)) : List (Nat × D) :=
  match dst with
  | some t => (t, d) :: tm
  | none => tm
section
variable (P : Program) (tb : TypeId → Option TyE)
def loadV (t : TypeId) (d : D) (hp : Hp) (k : D → Prop) : Prop :=
  match d with
  | .pt j off => match tb t, hp.vars.lookup j with
    | some i, some ds => j < hp.next ∧ match i.ty.agg with
      | true => off + i.size ≤ ds.length ∧ k (.ag ((ds.drop off).take i.size))
      | false => ∃ d, ds[off]? = some d ∧ k d
    | _, _ => False
  | .fp xs off => match tb t with
    | some i => match i.ty.agg with
      | true => off + i.size ≤ xs.length ∧ k (.ag ((List.range i.size).map fun j => .e (xs.getD (off + j) .any)))
      | false => off < xs.length ∧ k (.e (xs.getD off .any))
    | _ => False
  | _ => False
def storeV (t : TypeId) (d x : D) (hp : Hp) (k : D → Hp → Prop) : Prop :=
  match d with
  | .pt j off => match tb t, hp.vars.lookup j, x.cells with
    | some i, some ds, some cs => cs.length = i.size ∧ off + i.size ≤ ds.length ∧ k .top (hp.set j (ds.take off ++ cs ++ ds.drop (off + cs.length)))
    | _, _, _ => False
  | _ => False
def asgV (ty : TypeId) (d : D) (hp : Hp) (k : D → Hp → Prop) : Prop :=
  match d with
  | .e (.lit (.slice none 0 0)) => match tb ty with
    | some i => match i.ty with
      | .slice e => match tb e with
        | some j => 0 < j.size ∧ k (.own hp.next j.size 0 []) (hp.tok 0 (j.size, e))
        | none => k d hp
      | _ => k d hp
    | none => k d hp
  | _ => k d hp
def pickV (c a b : D) (k : D → Prop) : Prop :=
  match c with
  | .e (.lit (.bool true)) => k a
  | .e (.lit (.bool false)) => k b
  | _ => False
/-- Parts laid over cells. -/
def fillL {α : Type} (place : Nat → Option (Nat × Nat)) (cells : List α) : List (Nat × List α) → Option (List α)
  | [] => some cells
  | (i, cs) :: rest => match place i with
    | none => none
    | some (off, size) => if cs.length ≠ size ∨ off + cs.length > cells.length then none else fillL place (cells.take off ++ cs ++ cells.drop (off + cs.length)) rest
def partsD : List (Nat × D) → Option (List (Nat × List D))
  | [] => some []
  | (i, d) :: rest => match d.cells, partsD rest with
    | some cs, some r => some ((i, cs) :: r)
    | _, _ => none
def placeS (fs : List (Nat × TypeId)) (i : Nat) : Option (Nat × Nat) :=
  match fs[i]? with
  | some (off, t) => (tb t).map fun j => (off, j.size)
  | none => none
def buildV (t : TypeId) (ps : List (Nat × D)) (k : D → Prop) : Prop :=
  match tb t, partsD ps with
  | some i, some qs => match i.ty with
    | .struct fs => (∀ f ∈ fs, (tb f.2).isSome = true) ∧ match fillL (placeS tb fs) (i.zero.map fun v => D.e (.lit v)) qs with
      | some ds => k (.ag ds)
      | none => False
    | .arr _ e => match tb e with
      | some j => match fillL (fun n => some (n * j.size, j.size)) (i.zero.map fun v => D.e (.lit v)) qs with
        | some ds => k (.ag ds)
        | none => False
      | none => False
    | _ => False
  | _, _ => False
def buildSliceV (own : Bool) (t : TypeId) (n : Nat) (ps : List (Nat × D)) (hp : Hp) (k : D → Hp → Prop) : Prop :=
  match tb t, partsD ps with
  | some i, some qs => match i.ty with
    | .slice e => match tb e with
      | some j => 0 < j.size ∧ n * j.size ≤ 16777216 ∧ match n with
        | 0 => qs = [] ∧ k (.own hp.next j.size 0 []) (hp.tok 0 (j.size, e))
        | n => match fillL (fun m => some (m * j.size, j.size)) (List.replicate (n * j.size) (D.e .any)) qs with
          | some ds => match cellsE ds with
            | some xs => match own with
              | true => k (.own hp.next j.size n xs) (hp.tok n (j.size, e))
              | false => k (.fu j.size n xs) hp
            | none => False
          | none => False
      | none => False
    | _ => False
  | _, _ => False
def binIntV (op : BinOp) (j : IntKind) (a b : Int) (k : Value → Prop) : Prop :=
  match op with
  | .add => k (.int j (j.wrap (a + b)))
  | .sub => k (.int j (j.wrap (a - b)))
  | .mul => k (.int j (j.wrap (a * b)))
  | .quo => b ≠ 0 ∧ k (.int j (j.wrap (a.tdiv b)))
  | .rem => b ≠ 0 ∧ k (.int j (a.tmod b))
  | .and => k (.int j (j.wrap (BitVec.ofInt j.bits a &&& BitVec.ofInt j.bits b).toNat))
  | .or => k (.int j (j.wrap (BitVec.ofInt j.bits a ||| BitVec.ofInt j.bits b).toNat))
  | .xor => k (.int j (j.wrap (BitVec.ofInt j.bits a ^^^ BitVec.ofInt j.bits b).toNat))
  | .andNot => k (.int j (j.wrap (BitVec.ofInt j.bits a &&& ~~~ BitVec.ofInt j.bits b).toNat))
  | .eql => k (.bool (decide (a = b)))
  | .neq => k (.bool (decide (a ≠ b)))
  | .lss => k (.bool (decide (a < b)))
  | .leq => k (.bool (decide (a ≤ b)))
  | .gtr => k (.bool (decide (b < a)))
  | .geq => k (.bool (decide (b ≤ a)))
  | _ => False
def binStrV (op : BinOp) (a b : ByteArray) (k : Value → Prop) : Prop :=
  match op with
  | .add => a.size + b.size ≤ 9223372036854775807 ∧ k (.string (a ++ b))
  | .eql => k (.bool (decide (a = b)))
  | .neq => k (.bool (decide (a ≠ b)))
  | _ => False
def binBoolV (op : BinOp) (a b : Bool) (k : Value → Prop) : Prop :=
  match op with
  | .eql => k (.bool (a == b))
  | .neq => k (.bool (!(a == b)))
  | _ => False
def litsOf : List D → Option (List Value)
  | [] => some []
  | .e (.lit v) :: ds => (litsOf ds).map (v :: ·)
  | _ => none
def binV (op : BinOp) (t : TypeId) (a b : D) (k : Value → Prop) : Prop :=
  match op, a, b with
  | .shl, .e (.lit (.int j x)), .e (.lit (.int _ y)) => 0 ≤ y ∧ k (.int j (j.wrap (x * 2 ^ min y.toNat j.bits)))
  | .shr, .e (.lit (.int j x)), .e (.lit (.int _ y)) => 0 ≤ y ∧ k (.int j (x.fdiv (2 ^ min y.toNat j.bits)))
  | op, .e (.lit (.int j x)), .e (.lit (.int j' y)) => j = j' ∧ binIntV op j x y k
  | op, .e (.lit (.string x)), .e (.lit (.string y)) => binStrV op x y k
  | op, .e (.lit (.bool x)), .e (.lit (.bool y)) => P.underlying t = some .bool ∧ binBoolV op x y k
  | op, .ag xs, .ag ys => match litsOf xs, litsOf ys with
    | some us, some vs => ∃ r, (∀ w, (do eqGuard op t (.tmp 0) (.tmp 0) (.agg us.toArray) (.agg vs.toArray); binOp op t (.agg us.toArray) (.agg vs.toArray)).run P w = .ok r w) ∧ r.oneCell' = true ∧ k r
    | _, _ => False
  | _, _, _ => False
def unV (op : UnOp) (a : D) (k : Value → Prop) : Prop :=
  match op, a with
  | .not, .e (.lit (.bool b)) => k (.bool !b)
  | .neg, .e (.lit (.int j n)) => k (.int j (j.wrap (0 - n)))
  | _, _ => False
def fieldOff (s : TypeId) (f : Nat) (k : Nat → Nat → Bool → Prop) : Prop :=
  match tb s with
  | some i => match i.ty with
    | .struct fs => match fs[f]? with
      | some (off, t) => match tb t with
        | some j => k off j.size j.ty.agg
        | none => False
      | none => False
    | _ => False
  | none => False
def fieldAddrV (s : TypeId) (f : Nat) (d : D) (k : D → Prop) : Prop :=
  fieldOff tb s f fun o z _ => z ≠ 0 ∧ match d with
    | .pt j off => k (.pt j (off + o))
    | .fp xs off => k (.fp xs (off + o))
    | _ => False
def fieldV (s : TypeId) (f : Nat) (d : D) (k : D → Prop) : Prop :=
  fieldOff tb s f fun o z g => match d with
    | .ag ds => match g with
      | true => o + z ≤ ds.length ∧ k (.ag ((ds.drop o).take z))
      | false => ∃ d, ds[o]? = some d ∧ k d
    | _ => False
def indexAddrV (t : TypeId) (d i : D) (k : D → Prop) : Prop :=
  match tb t, i with
  | some ti, .e (.lit (.int _ x)) => match ti.ty with
    | .slice e => match tb e with
      | some j => match d.asSl j.size with
        | some (n, xs) => (0 ≤ x ∧ x < (n : Int)) ∧ k (.fp xs (x.toNat * j.size))
        | none => match d with
          | .ow v off z n => z = j.size ∧ (0 ≤ x ∧ x < (n : Int)) ∧ k (.pt v (off + x.toNat * j.size))
          | _ => False
      | none => False
    | .arr n e => match tb e, d with
      | some j, .pt v off => (0 ≤ x ∧ x < (n : Int)) ∧ k (.pt v (off + x.toNat * j.size))
      | some j, .fp xs off => (0 ≤ x ∧ x < (n : Int)) ∧ k (.fp xs (off + x.toNat * j.size))
      | _, _ => False
    | _ => False
  | _, _ => False
def indexV (t : TypeId) (d i : D) (k : D → Prop) : Prop :=
  match tb t, i with
  | some ti, .e (.lit (.int _ x)) => match ti.ty, d with
    | .str, .e (.lit (.string s)) => (0 ≤ x ∧ x < (s.size : Int)) ∧ k (.e (.lit (.int .u8 ((s.data.toList.getD x.toNat 0).toNat : Int))))
    | .arr n e, .ag ds => match tb e with
      | some j => (0 ≤ x ∧ x < (n : Int)) ∧ match j.ty.agg with
        | true => x.toNat * j.size + j.size ≤ ds.length ∧ k (.ag ((ds.drop (x.toNat * j.size)).take j.size))
        | false => ∃ d, ds[x.toNat * j.size]? = some d ∧ k d
      | none => False
    | _, _ => False
  | _, _ => False
/-- Bytes as data, and the text that they are. -/
def byteOf : E → Option UInt8
  | .lit (.int .u8 n) => some (UInt8.ofNat n.toNat)
  | _ => none
def bytesOf : List E → Option (List UInt8)
  | [] => some []
  | x :: xs => match byteOf x, bytesOf xs with
    | some b, some bs => some (b :: bs)
    | _, _ => none
def convV (s t : TypeId) (d : D) (k : D → Prop) : Prop :=
  match tb s, tb t with
  | some i, some j => match j.ty, d with
    | .int jk, .e (.lit (.int _ n)) => k (.e (.lit (.int jk (jk.wrap n))))
    | .str, .e (.lit (.string s)) => k (.e (.lit (.string s)))
    | .str, d => match i.ty with
      | .slice e => match tb e with
        | some l => l.ty = .int .u8 ∧ match d.asSl 1 with
          | some (_, xs) => match bytesOf xs with
            | some bs => k (.e (.lit (.string ⟨bs.toArray⟩)))
            | none => False
          | none => False
        | none => False
      | _ => False
    | _, _ => False
  | _, _ => False
def boundV (b : Option D) (dflt : Int) (k : Int → Prop) : Prop :=
  match b with
  | none => k dflt
  | some (.e (.lit (.int _ x))) => k x
  | _ => False
def sliceV (t : TypeId) (d : D) (lo hi mx : Option D) (k : D → Prop) : Prop :=
  match tb t with
  | some ti => match ti.ty with
    | .slice e => match tb e with
      | some j => match d.asSl j.size with
        | some (n, xs) => boundV lo 0 fun l => boundV hi n fun h => (0 ≤ l ∧ l ≤ h ∧ h ≤ (n : Int)) ∧ match mx with
          | none => k (.e (.sl j.size (h - l).toNat ((xs.drop (l.toNat * j.size)).take ((h - l).toNat * j.size))))
          | some m => boundV (some m) 0 fun m => hi.isSome = true ∧ m = h ∧ k (.fu j.size (h - l).toNat ((xs.drop (l.toNat * j.size)).take ((h - l).toNat * j.size)))
        | none => False
      | none => False
    | .str => match d, mx with
      | .e (.lit (.string s)), none => boundV lo 0 fun l => boundV hi s.size fun h => (0 ≤ l ∧ l ≤ h ∧ h ≤ (s.size : Int)) ∧ k (.e (.lit (.string (s.extract l.toNat h.toNat))))
      | _, _ => False
    | _ => False
  | none => False
def lenV (t : TypeId) (d : D) (k : Int → Prop) : Prop :=
  match tb t with
  | some ti => match ti.ty with
    | .slice e => match tb e with
      | some j => match d.asSl j.size with
        | some (n, _) => k n
        | none => match d with
          | .ow _ _ _ n => k n
          | _ => False
      | none => False
    | .str => match d with
      | .e (.lit (.string s)) => k s.size
      | _ => False
    | .arr n _ => k n
    | _ => False
  | none => False
/-- What is appended: cells, how many elements. -/
def newsV (t : TypeId) (z : Nat) (x : D) (k : Nat → List E → Prop) : Prop :=
  match tb t with
  | some i => match i.ty, x.strOf with
    | .str, some s => z = 1 ∧ k s.size (s.data.toList.map fun b => .lit (bv b))
    | .slice _, none => match x.asSl z with
      | some (m, ys) => k m ys
      | none => False
    | _, _ => False
  | none => False
def appendV (t t' : TypeId) (s x : D) (hp : Hp) (k : D → Hp → Prop) : Prop :=
  match tb t with
  | some ti => match ti.ty with
    | .slice e => match tb e with
      | some j => 0 < j.size ∧ (x.strOf = none → t' = t) ∧ (x.strOf ≠ none → j.bytes = 1 ∧ j.zero = [.int .u8 0] ∧ j.ty.agg = false) ∧ newsV tb t' j.size x fun m ys => match s with
        | .own id z n xs => z = j.size ∧ hp.live.lookup id = some (n, j.size, e) ∧ (n + m) * max 1 j.bytes ≤ 140737488355328 ∧ k (.own id j.size (n + m) (xs ++ ys)) (hp.app id (n + m) (j.size, e))
        | .e (.lit (.slice none 0 0)) => m * max 1 j.bytes ≤ 140737488355328 ∧ k (.own hp.next j.size m ys) (hp.tok m (j.size, e))
        | .fu z n xs => z = j.size ∧ 0 < m ∧ (n + m) * max 1 j.bytes ≤ 140737488355328 ∧ k (.own hp.next j.size (n + m) (xs ++ ys)) (hp.tok (n + m) (j.size, e))
        | _ => False
      | none => False
    | _ => False
  | none => False
/-- A function of the program, called. -/
def FnOk (P : Program) (f : FuncId) : Prop := ∃ fn, P.funcs[f]? = some fn ∧ (fn.name == "runtime.NumGoroutine") = false ∧ fn.body.isNone = false
def PRep (w : World) (F : Addr → Prop) (d : D) (v : Value) : Prop := RepD ⟨[], [], 0⟩ ⟨fun _ => 0, fun _ => default, F⟩ w d v
/-- A result: data, or a new slice that its owner may still let grow ('.own e z n xs' in a contract: e is the type of its elements). -/
def PRes (B : Nat) (F : Addr → Prop) (w : World) (r : D) (v : Value) : Prop :=
  match r with
  | .own e z n xs => 0 < z ∧ (∃ us, w.ownsRow B e z v n us) ∧ RepE w (fun p => F p ∨ Value.tail v (n * z) p) (.sl z n xs) v
  | r => PRep w F r v
def PCalls (f : FuncId) (ds : List D) (r : D) : Prop := FnOk P f ∧ ∀ (w : World) (F : Addr → Prop) (vs : Array Value), (∀ p : Addr, F p → p.block < w.heap.size) → vs.size = ds.length → (∀ (j : Nat) (d : D) (u : Value), ds[j]? = some d → vs[j]? = some u → PRep w F d u) →
  Calls P f vs w fun e w' => ∃ v, e = .returned v ∧ PRes w.heap.size F w' r v ∧ Below w.heap.size w w'
/-- The same where the function is given variables of the caller's, or leaves some: what it does to the state. -/
def HC (f : FuncId) (ds : List D) (hp : Hp) (d : D) (hp' : Hp) : Prop := FnOk P f ∧ ∀ (B : Nat) (g : Gh) (w : World) (vs : Array Value), HR B hp g w → vs.size = ds.length → (∀ (j : Nat) (d : D) (u : Value), ds[j]? = some d → vs[j]? = some u → RepD hp g w d u) →
  Calls P f vs w fun e w' => ∃ v g', e = .returned v ∧ HR B hp' g' w' ∧ Mono hp g w hp' g' w' ∧ RepD hp' g' w' d v ∧ Below B w w' ∧ ∀ p : Addr, p.block < B → g.F p → g'.F p
/-- Whether a call may be given variables: by the types of its arguments. -/
def hvB (c : Call) : Bool :=
  match c.callee with
  | .value (.func _) => c.argTypes.any fun t => match tb t with
    | some i => match i.ty with
      | .other => true
      | _ => false
    | none => true
  | .value _ => true
  | _ => false
def adoptV (r : D) (hp : Hp) (k : D → Hp → Prop) : Prop :=
  match r with
  | .own e z n xs => k (.own hp.next z n xs) (hp.tok n (z, e))
  | .fu _ _ _ => False
  | r => k r hp
def callV (hv : Bool) (f : FuncId) (ds : List D) (hp : Hp) (k : D → Hp → Prop) : Prop :=
  ((ds.map D.ex).all D.pure = true ∧ ∃ r, PCalls P f (ds.map D.ex) r ∧ adoptV r hp k) ∨ (hv = true ∧ ∃ d hp', HC P f ds hp d hp' ∧ k d hp')
def builtinV (b : Builtin) (ts : List TypeId) (ds : List D) (hp : Hp) (k : D → Hp → Prop) : Prop :=
  match b, ts, ds with
  | .len, [t], [d] => lenV tb t d fun n => k (.e (.lit (.int .i64 n))) hp
  | .min, _, [.e (.lit (.int j x)), .e (.lit (.int _ y))] => k (.e (.lit (.int j (min x y)))) hp
  | .max, _, [.e (.lit (.int j x)), .e (.lit (.int _ y))] => k (.e (.lit (.int j (max x y)))) hp
  | .append, [t, t'], [s, x] => appendV tb t t' s x hp k
  | _, _, _ => False
def calleeV (hv : Bool) (d : D) (ds : List D) (hp : Hp) (k : D → Hp → Prop) : Prop :=
  match d with
  | .e (.lit (.func (.func f) fi ca)) => fi.size = 0 ∧ ca.size = 0 ∧ callV P hv f ds hp k
  | .fn f ks => callV P hv f (ds ++ ks.map fun k => .pt k 0) hp k
  | _ => False
def nilV (d : D) (k : D → Prop) : Prop :=
  match d with
  | .pt j off => k (.pt j off)
  | .fp xs off => k (.fp xs off)
  | _ => False
def capsV : List D → Option (List Nat)
  | [] => some []
  | .pt k 0 :: ds => (capsV ds).map (k :: ·)
  | _ => none
def makeFuncV (fn : Fn) (first : Nat) (cs : List D) (k : D → Prop) : Prop :=
  match fn with
  | .func f => first = 0 ∧ match cs with
    | [] => k (.e (.lit (.func (.func f) #[] #[])))
    | cs => match capsV cs with
      | some ks => k (.fn f ks)
      | none => False
  | _ => False
/-- dr: the order is drawn (a new slice may then not grow in place). -/
def AVC (dr : Bool) (op : Op) (ty : TypeId) (ev : Operand → D) (hp : Hp) (k : D → Hp → Prop) : Prop :=
  match op with
  | .move x => k (ev x) hp
  | .assign x => asgV tb ty (ev x) hp k
  | .pick c a b => pickV (ev c) (ev a) (ev b) fun d => k d hp
  | .alloc t => match tb t with
    | some i => k (.pt hp.next 0) (hp.var (i.zero.map fun v => .e (.lit v)))
    | none => False
  | .box _ x => match (ev x).cells with
    | some cs => k (.pt hp.next 0) (hp.var cs)
    | none => False
  | .build t ps => buildV tb t (ps.toList.map fun p => (p.1, ev p.2)) fun d => k d hp
  | .buildSlice t n ps => buildSliceV tb (!dr) t n (ps.toList.map fun p => (p.1, ev p.2)) hp k
  | .load t x => loadV tb t (ev x) hp fun d => k d hp
  | .store t x y => storeV tb t (ev x) (ev y) hp k
  | .binOp o t x y _ => binV P o t (ev x) (ev y) fun v => k (.e (.lit v)) hp
  | .unOp o _ x => unV o (ev x) fun v => k (.e (.lit v)) hp
  | .convert s t x => convV tb s t (ev x) fun d => k d hp
  | .slice t x lo hi mx => sliceV tb t (ev x) (lo.map ev) (hi.map ev) (mx.map ev) fun d => k d hp
  | .fieldAddr s x f => fieldAddrV tb s f (ev x) fun d => k d hp
  | .field s x f => fieldV tb s f (ev x) fun d => k d hp
  | .indexAddr t x i => indexAddrV tb t (ev x) (ev i) fun d => k d hp
  | .index t x i => indexV tb t (ev x) (ev i) fun d => k d hp
  | .extract x i => match ev x with
    | .tu ds => ∃ d, ds[i]? = some d ∧ k d hp
    | _ => False
  | .call c => match c.callee with
    | .builtin b => builtinV tb b c.argTypes.toList (c.args.toList.map ev) hp k
    | .value x => calleeV P (hvB tb c) (ev x) (c.args.toList.map ev) hp k
    | .invoke _ _ => False
  | .nilCheck x => nilV (ev x) fun d => k d hp
  | .makeFunc fn first cs => makeFuncV fn first.size (cs.toList.map ev) fun d => k d hp
  | _ => False
end
end Go.Proofs.Ytakbadleipbngaa
