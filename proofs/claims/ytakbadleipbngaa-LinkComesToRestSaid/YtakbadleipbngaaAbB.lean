/-
  The abstract layer: regions that draw their order. Conditions: none.
-/
import Derived.Test.YtakbadleipbngaaAbA
import Derived.OrdersHeld
set_option linter.all false
namespace Go.Proofs.Ytakbadleipbngaa
open Go.RowKit

/-! ### What is ordered -/
/-- Operation j waits for operation i, through others. -/
inductive Bef (ops : Array Oper) : Nat → Nat → Prop
  | edge (i : Nat) (o : Oper) (e : Edge) (hi : ops[i]? = some o) (he : e ∈ o.after) (hb : Region.binds .any e = true) : Bef ops e.on i
  | trans (j i : Nat) (o : Oper) (e : Edge) (hi : ops[i]? = some o) (he : e ∈ o.after) (hb : Region.binds .any e = true) (h : Bef ops j e.on) : Bef ops j i
/-- The number is worked out before it goes on. -/
def fz {α : Type} (n : Nat) (k : Nat → α) : α := match n with
  | 0 => k 0
  | m + 1 => k (m + 1)
theorem fz_eq {α : Type} {n : Nat} {k : Nat → α} : fz n k = k n := by cases n <;> rfl
def look : List (Nat × Nat) → Nat → Nat
  | [], _ => 0
  | (j, b) :: m, k => if Nat.beq j k then b else look m k
def maskOf (m : List (Nat × Nat)) (l : List Edge) (s : Nat) : Nat := match l with
  | [] => s
  | e :: l => if Region.binds .any e then fz (s ||| 2 ^ e.on ||| look m e.on) fun s => maskOf m l s else maskOf m l s
theorem mask_spec (m : List (Nat × Nat)) : ∀ (l : List Edge) (s j : Nat), (maskOf m l s).testBit j = true →
    s.testBit j = true ∨ ∃ e ∈ l, Region.binds .any e = true ∧ (e.on = j ∨ (look m e.on).testBit j = true)
  | [], s, j, h => .inl h
  | e :: l, s, j, h => by
    unfold maskOf at h
    split at h
    · rename_i hb
      rw [fz_eq] at h
      rcases mask_spec m l _ j h with h1 | ⟨e', h1, h2⟩
      · rw [Nat.testBit_or, Nat.testBit_or] at h1
        simp only [Bool.or_eq_true] at h1
        rcases h1 with (h1 | h1) | h1
        · exact .inl h1
        · rw [Nat.testBit_two_pow] at h1
          exact .inr ⟨e, List.mem_cons_self .., hb, .inl (by simpa using h1)⟩
        · exact .inr ⟨e, List.mem_cons_self .., hb, .inr h1⟩
      · exact .inr ⟨e', List.mem_cons_of_mem _ h1, h2⟩
    · rcases mask_spec m l _ j h with h1 | ⟨e', h1, h2⟩
      · exact .inl h1
      · exact .inr ⟨e', List.mem_cons_of_mem _ h1, h2⟩
theorem look_spec {ops : Array Oper} : ∀ {m : List (Nat × Nat)}, (∀ p ∈ m, ∀ j, p.2.testBit j = true → Bef ops j p.1) → ∀ k j, (look m k).testBit j = true → Bef ops j k
  | [], _, k, j, h => by simp [look] at h
  | (i, b) :: m, hm, k, j, h => by
    unfold look at h
    split at h
    · rename_i he
      obtain rfl : i = k := Nat.eq_of_beq_eq_true he
      exact hm _ (List.mem_cons_self ..) j h
    · exact look_spec (fun p hp => hm p (List.mem_cons_of_mem _ hp)) k j h
def tmpsOf (ops : Array Oper) (o : Oper) : List Tmp :=
  (o.op.operands.toList.filterMap fun | .tmp t => some t | _ => none) ++ (match o.guard with
    | some (j, _) => ((ops[j]?).bind (·.dst)).toList
    | none => [])
def subB (a b : Nat) : Bool := Nat.beq (a &&& b) a
theorem subB_spec {a b j : Nat} (h : subB a b = true) (hj : a.testBit j = true) : b.testBit j = true := by
  have h := Nat.eq_of_beq_eq_true h
  rw [← h, Nat.testBit_and] at hj
  simp only [Bool.and_eq_true] at hj
  exact hj.2
def markB (c : Bool) (s i : Nat) : Nat := if c then s ||| 2 ^ i else s
theorem markB_old {c : Bool} {s i j : Nat} (h : s.testBit j = true) : (markB c s i).testBit j = true := by
  unfold markB; split
  · rw [Nat.testBit_or, h]; rfl
  · exact h
theorem markB_new {s i : Nat} : (markB true s i).testBit i = true := by
  unfold markB; rw [if_pos rfl, Nat.testBit_or, Nat.testBit_two_pow]; simp
def usedT (s : List (Tmp × Nat)) (i : Nat) : List Tmp → List (Tmp × Nat)
  | [] => s
  | t :: ts => usedT ((t, i) :: s) i ts
theorem usedT_old {i : Nat} : ∀ {ts : List Tmp} {s : List (Tmp × Nat)} {p : Tmp × Nat}, p ∈ s → p ∈ usedT s i ts
  | [], _, _, h => h
  | _ :: ts, _, _, h => usedT_old (ts := ts) (List.mem_cons_of_mem _ h)
theorem usedT_new {i : Nat} : ∀ {ts : List Tmp} {s : List (Tmp × Nat)} {t : Nat}, t ∈ ts → (t, i) ∈ usedT s i ts
  | t' :: ts, s, t, h => by
    show (t, i) ∈ usedT ((t', i) :: s) i ts
    rcases List.mem_cons.1 h with rfl | h
    · exact usedT_old (List.mem_cons_self ..)
    · exact usedT_new h
def freshB (d : Option Tmp) (b : Nat) (u pr : List (Tmp × Nat)) : Bool := match d with
  | none => true
  | some t => (u.all fun p => !Nat.beq p.1 t || b.testBit p.2) && pr.all fun p => !Nat.beq p.1 t
def consD (d : Option Tmp) (i : Nat) (pr : List (Tmp × Nat)) : List (Tmp × Nat) := match d with
  | none => pr
  | some t => (t, i) :: pr
def fzl {α : Type} : List Nat → (List Nat → α) → α
  | [], k => k []
  | t :: ts, k => fz t fun t => fzl ts fun ts => k (t :: ts)
theorem fzl_eq {α : Type} : ∀ {l : List Nat} {k : List Nat → α}, fzl l k = k l
  | [], _ => rfl
  | _ :: _, _ => by rw [fzl, fz_eq, fzl_eq]
def usedK {α : Type} (u : List (Tmp × Nat)) (i : Nat) : List Tmp → (List (Tmp × Nat) → α) → α
  | [], k => k u
  | t :: ts, k => usedK ((t, i) :: u) i ts k
theorem usedK_eq {α : Type} {i : Nat} : ∀ {ts : List Tmp} {u : List (Tmp × Nat)} {k : List (Tmp × Nat) → α}, usedK u i ts k = k (usedT u i ts)
  | [], _, _ => rfl
  | _ :: ts, _, _ => usedK_eq (ts := ts)
def consK {α : Type} (d : Option Tmp) (i : Nat) (pr : List (Tmp × Nat)) (k : List (Tmp × Nat) → α) : α := match d with
  | none => k pr
  | some t => fz t fun t => k ((t, i) :: pr)
theorem consK_eq {α : Type} {d : Option Tmp} {i : Nat} {pr : List (Tmp × Nat)} {k : List (Tmp × Nat) → α} : consK d i pr k = k (consD d i pr) := by
  cases d with
  | none => rfl
  | some t => rw [consK, fz_eq]; rfl
/-- In whatever order the edges allow, the same comes out. -/
def ordG (tb : TypeId → Option TyE) (L : List FuncId) (ops : Array Oper) : List Oper → Nat → List (Nat × Nat) → Nat → Nat → Nat → List (Tmp × Nat) → List (Tmp × Nat) → Bool
  | [], _, _, _, _, _, _, _ => true
  | o :: os, i, m, lo, ld, vs, u, pr =>
    fz (maskOf m o.after.toList 0) fun b => fzl (tmpsOf ops o) fun ts =>
    o.after.toList.all (fun e => !Region.binds .any e || Nat.blt e.on i) &&
    (quietL tb L o.op || subB lo b) &&
    (!loadB o.op || subB vs b) &&
    (!varC tb o.op || subB ld b) &&
    freshB o.dst b u pr &&
    ts.all (fun t => pr.all fun p => !Nat.beq p.1 t || b.testBit p.2) &&
    fz (markB (!quietL tb L o.op) lo i) fun lo => fz (markB (loadB o.op) ld i) fun ld => fz (markB (varC tb o.op) vs i) fun vs => fz (i + 1) fun i' =>
    usedK u i ts fun u => consK o.dst i pr fun pr => ordG tb L ops os i' ((i, b) :: m) lo ld vs u pr
def ordOK (tb : TypeId → Option TyE) (L : List FuncId) (ops : Array Oper) : Bool := ordG tb L ops ops.toList 0 [] 0 0 0 [] []
structure OrdT (tb : TypeId → Option TyE) (L : List FuncId) (ops : Array Oper) : Prop where
  low : ∀ (i : Nat) (o : Oper) (e : Edge), ops[i]? = some o → e ∈ o.after → Region.binds .any e = true → e.on < i
  dst : ∀ (i j : Nat) (o o' : Oper) (t : Tmp), ops[i]? = some o → ops[j]? = some o' → o.dst = some t → o'.dst = some t → i = j
  data : ∀ (i j : Nat) (o o' : Oper) (t : Tmp), ops[i]? = some o → ops[j]? = some o' → i ≠ j → t ∈ tmpsOf ops o → o'.dst = some t → (j < i ∧ Bef ops j i) ∨ (i < j ∧ Bef ops i j)
  loud : ∀ (i j : Nat) (o o' : Oper), ops[i]? = some o → ops[j]? = some o' → i < j → quietL tb L o.op = false → quietL tb L o'.op = false → Bef ops i j
  vars : ∀ (i j : Nat) (o o' : Oper), ops[i]? = some o → ops[j]? = some o' → i ≠ j → loadB o.op = true → varC tb o'.op = true → (j < i ∧ Bef ops j i) ∨ (i < j ∧ Bef ops i j)
/-- What holds of a pair of operations. -/
structure OrdP (tb : TypeId → Option TyE) (L : List FuncId) (ops : Array Oper) (j i : Nat) (o' o : Oper) : Prop where
  dst : ∀ t, o'.dst = some t → o.dst ≠ some t
  fwd : ∀ t, t ∈ tmpsOf ops o → o'.dst = some t → Bef ops j i
  bwd : ∀ t, t ∈ tmpsOf ops o' → o.dst = some t → Bef ops j i
  loud : quietL tb L o.op = false → quietL tb L o'.op = false → Bef ops j i
  v1 : loadB o.op = true → varC tb o'.op = true → Bef ops j i
  v2 : varC tb o.op = true → loadB o'.op = true → Bef ops j i
structure OrdI (tb : TypeId → Option TyE) (L : List FuncId) (ops : Array Oper) (i : Nat) (m : List (Nat × Nat)) (lo ld vs : Nat) (u pr : List (Tmp × Nat)) : Prop where
  m : ∀ p ∈ m, ∀ j, p.2.testBit j = true → Bef ops j p.1
  lo : ∀ j o, j < i → ops[j]? = some o → quietL tb L o.op = false → lo.testBit j = true
  ld : ∀ j o, j < i → ops[j]? = some o → loadB o.op = true → ld.testBit j = true
  vs : ∀ j o, j < i → ops[j]? = some o → varC tb o.op = true → vs.testBit j = true
  u : ∀ j o t, j < i → ops[j]? = some o → t ∈ tmpsOf ops o → (t, j) ∈ u
  pr : ∀ j o t, j < i → ops[j]? = some o → o.dst = some t → (t, j) ∈ pr
theorem ordG_spec {tb : TypeId → Option TyE} {L : List FuncId} {ops : Array Oper} : ∀ (os : List Oper) (i : Nat) (m : List (Nat × Nat)) (lo ld vs : Nat) (u pr : List (Tmp × Nat)), ops.toList.drop i = os → OrdI tb L ops i m lo ld vs u pr → ordG tb L ops os i m lo ld vs u pr = true →
    ∀ k o, i ≤ k → ops[k]? = some o → (∀ e ∈ o.after, Region.binds .any e = true → e.on < k) ∧ ∀ j o', j < k → ops[j]? = some o' → OrdP tb L ops j k o' o
  | [], i, m, lo, ld, vs, u, pr, hd, _, _, k, o, hk, hok => by
    have : ops.toList.length ≤ i := List.drop_eq_nil_iff.1 hd
    have h2 : k < ops.size := (Array.getElem?_eq_some_iff.1 hok).1
    simp at this
    omega
  | o :: os, i, m, lo, ld, vs, u, pr, hd, hI, h, k, ok, hk, hok => by
    have ho : ops[i]? = some o := by
      have : (ops.toList.drop i)[0]? = some o := by rw [hd]; rfl
      rw [List.getElem?_drop] at this
      simpa using this
    have hd' : ops.toList.drop (i + 1) = os := by
      rw [← List.drop_drop, hd]; rfl
    unfold ordG at h
    simp only [fz_eq, fzl_eq, usedK_eq, consK_eq, Bool.and_eq_true] at h
    obtain ⟨⟨⟨⟨⟨⟨h1, h2⟩, h3⟩, h4⟩, h5⟩, h6⟩, h7⟩ := h
    have hb : ∀ j, (maskOf m o.after.toList 0).testBit j = true → Bef ops j i := by
      intro j hj
      rcases mask_spec m _ _ _ hj with h | ⟨e, he, hbi, h⟩
      · simp at h
      · rcases h with rfl | h
        · exact .edge _ o e ho (by simpa using he) hbi
        · exact .trans j _ o e ho (by simpa using he) hbi (look_spec hI.m _ _ h)
    rcases Nat.lt_or_ge i k with hik | hik
    · refine ordG_spec os (i + 1) _ _ _ _ _ _ hd' ?_ h7 k ok hik hok
      have split : ∀ {j : Nat} {oj : Oper} {Q : Nat → Oper → Prop}, j < i + 1 → ops[j]? = some oj → (j < i → ops[j]? = some oj → Q j oj) → Q i o → Q j oj := by
        intro j oj Q hj hoj hold hnew
        rcases Nat.lt_or_ge j i with h | h
        · exact hold h hoj
        · obtain rfl : j = i := by omega
          obtain rfl : o = oj := by rw [ho] at hoj; injection hoj
          exact hnew
      refine ⟨fun p hp => ?_, fun j oj hj hoj => ?_, fun j oj hj hoj => ?_, fun j oj hj hoj => ?_, fun j oj t hj hoj => ?_, fun j oj t hj hoj => ?_⟩
      · rcases List.mem_cons.1 hp with rfl | hp
        · exact hb
        · exact hI.m p hp
      · refine split (Q := fun j oj => quietL tb L oj.op = false → (markB (!quietL tb L o.op) lo i).testBit j = true) hj hoj (fun hj hoj hq => markB_old (hI.lo j oj hj hoj hq)) fun hq => ?_
        rw [hq]; exact markB_new
      · refine split (Q := fun j oj => loadB oj.op = true → (markB (loadB o.op) ld i).testBit j = true) hj hoj (fun hj hoj hq => markB_old (hI.ld j oj hj hoj hq)) fun hq => ?_
        rw [hq]; exact markB_new
      · refine split (Q := fun j oj => varC tb oj.op = true → (markB (varC tb o.op) vs i).testBit j = true) hj hoj (fun hj hoj hq => markB_old (hI.vs j oj hj hoj hq)) fun hq => ?_
        rw [hq]; exact markB_new
      · exact split (Q := fun j oj => t ∈ tmpsOf ops oj → (t, j) ∈ usedT u i (tmpsOf ops o)) hj hoj (fun hj hoj hq => usedT_old (hI.u j oj t hj hoj hq)) fun hq => usedT_new hq
      · refine split (Q := fun j oj => oj.dst = some t → (t, j) ∈ consD o.dst i pr) hj hoj (fun hj hoj hq => ?_) fun hq => ?_
        · have := hI.pr j oj t hj hoj hq
          unfold consD
          split
          · exact this
          · exact List.mem_cons_of_mem _ this
        · rw [hq]; exact List.mem_cons_self ..
    · obtain rfl : i = k := by omega
      obtain rfl : o = ok := by rw [ho] at hok; injection hok
      have fresh : ∀ t, o.dst = some t → (∀ j, (t, j) ∈ u → Bef ops j i) ∧ ∀ p ∈ pr, p.1 ≠ t := by
        intro t ht
        rw [ht] at h5
        simp only [freshB, Bool.and_eq_true, Bool.not_eq_true', List.all_eq_true] at h5
        refine ⟨fun j hj => ?_, fun p hp e => ?_⟩
        · have := h5.1 _ hj
          simp only [Nat.beq_refl, Bool.not_true, Bool.false_or] at this
          exact hb j this
        have := h5.2 p hp
        rw [e, Nat.beq_refl] at this
        cases this
      refine ⟨fun e he hbe => ?_, fun j o' hj hoj => ⟨fun t ht ht' => ?_, fun t ht ht' => ?_, fun t ht ht' => ?_, fun hq hq' => ?_, fun hl hv => ?_, fun hv hl => ?_⟩⟩
      · have := List.all_eq_true.1 h1 e (by simpa using he)
        rw [hbe] at this
        simpa [Nat.blt_eq] using this
      · exact (fresh t ht').2 _ (hI.pr j o' t hj hoj ht) rfl
      · have := List.all_eq_true.1 (List.all_eq_true.1 h6 t ht) _ (hI.pr j o' t hj hoj ht')
        simp only [Nat.beq_refl, Bool.not_true, Bool.false_or] at this
        exact hb j this
      · exact (fresh t ht').1 j (hI.u j o' t hj hoj ht)
      · rw [hq] at h2
        exact hb j (subB_spec (by simpa using h2) (hI.lo j o' hj hoj hq'))
      · rw [hl] at h3
        exact hb j (subB_spec (by simpa using h3) (hI.vs j o' hj hoj hv))
      · rw [hv] at h4
        exact hb j (subB_spec (by simpa using h4) (hI.ld j o' hj hoj hl))
theorem ordOK_spec {tb : TypeId → Option TyE} {L : List FuncId} {ops : Array Oper} (h : ordOK tb L ops = true) : OrdT tb L ops := by
  have key := ordG_spec (tb := tb) (L := L) (ops := ops) ops.toList 0 [] 0 0 0 [] [] rfl
    ⟨fun p hp => (by cases hp), fun j o hj => absurd hj (Nat.not_lt_zero _), fun j o hj => absurd hj (Nat.not_lt_zero _), fun j o hj => absurd hj (Nat.not_lt_zero _), fun j o t hj => absurd hj (Nat.not_lt_zero _), fun j o t hj => absurd hj (Nat.not_lt_zero _)⟩ h
  refine ⟨fun i o e hi he hbe => (key i o (Nat.zero_le _) hi).1 e he hbe, fun i j o o' t hi hj ht ht' => ?_, fun i j o o' t hi hj hne ht ht' => ?_, fun i j o o' hi hj hlt hq hq' => ?_, fun i j o o' hi hj hne hq hv => ?_⟩
  · rcases Nat.lt_trichotomy i j with h1 | h1 | h1
    · exact absurd ht' (((key j o' (Nat.zero_le _) hj).2 i o h1 hi).dst t ht)
    · exact h1
    · exact absurd ht (((key i o (Nat.zero_le _) hi).2 j o' h1 hj).dst t ht')
  · rcases Nat.lt_or_ge i j with h1 | h1
    · exact .inr ⟨h1, ((key j o' (Nat.zero_le _) hj).2 i o h1 hi).bwd t ht ht'⟩
    · exact .inl ⟨by omega, ((key i o (Nat.zero_le _) hi).2 j o' (by omega) hj).fwd t ht ht'⟩
  · exact ((key j o' (Nat.zero_le _) hj).2 i o hlt hi).loud hq' hq
  · rcases Nat.lt_or_ge i j with h1 | h1
    · exact .inr ⟨h1, ((key j o' (Nat.zero_le _) hj).2 i o h1 hi).v2 hv hq⟩
    · exact .inl ⟨by omega, ((key i o (Nat.zero_le _) hi).2 j o' (by omega) hj).v1 hq hv⟩

/-! ### A row of operations worked out in the order of the text -/
section
variable {P : Program} {tb : TypeId → Option TyE} {L : List FuncId}
/-- Operations below n have been worked out. -/
structure Run (P : Program) (tb : TypeId → Option TyE) (L : List FuncId) (ops : Array Oper) (n : Nat) (dd : Nat → D) (hh : Nat → Hp) (ac : Nat → Bool) (tms : Nat → List (Nat × D)) : Prop where
  ts : ∀ (i : Nat) (o : Oper), i < n → ops[i]? = some o → tms (i + 1) = putD o.dst (dd i) (tms i)
  on : ∀ (i : Nat) (o : Oper), i < n → ops[i]? = some o → ac i = true → Gd ops o (tms i) true ∧ SndQ P tb (.any L) o (evD (tms i)) (hh i) (dd i) (hh (i + 1))
  off : ∀ (i : Nat) (o : Oper), i < n → ops[i]? = some o → ac i = false → Gd ops o (tms i) false ∧ Offs o (evD (tms i)) (dd i) ∧ hh (i + 1) = hh i
theorem run_of {ops : Array Oper} {K : List (Nat × D) → Hp → Prop} : ∀ (rest : List Oper) (i : Nat) (dd : Nat → D) (hh : Nat → Hp) (ac : Nat → Bool) (tms : Nat → List (Nat × D)), Run P tb L ops i dd hh ac tms → ops.toList.drop i = rest → SOps P tb (.any L) ops K rest (tms i) (hh i) →
    ∃ dd' hh' ac' tms', Run P tb L ops (i + rest.length) dd' hh' ac' tms' ∧ K (tms' (i + rest.length)) (hh' (i + rest.length)) ∧ tms' 0 = tms 0 ∧ hh' 0 = hh 0
  | [], i, dd, hh, ac, tms, hr, _, h => by cases h with | nil h => exact ⟨dd, hh, ac, tms, hr, h, rfl, rfl⟩
  | o :: rest, i, dd, hh, ac, tms, hr, hd, h => by
    have ho : ops[i]? = some o := by
      have : (ops.toList.drop i)[0]? = some o := by rw [hd]; rfl
      rw [List.getElem?_drop] at this
      simpa using this
    have hd' : ops.toList.drop (i + 1) = rest := by
      rw [← List.drop_drop, hd]; rfl
    have ext : ∀ (d : D) (hp' : Hp) (b : Bool), ((b = true → Gd ops o (tms i) true ∧ SndQ P tb (.any L) o (evD (tms i)) (hh i) d hp') ∧ (b = false → Gd ops o (tms i) false ∧ Offs o (evD (tms i)) d ∧ hp' = hh i)) → SOps P tb (.any L) ops K rest (putD o.dst d (tms i)) hp' →
        ∃ dd' hh' ac' tms', Run P tb L ops (i + (o :: rest).length) dd' hh' ac' tms' ∧ K (tms' (i + (o :: rest).length)) (hh' (i + (o :: rest).length)) ∧ tms' 0 = tms 0 ∧ hh' 0 = hh 0 := by
      intro d hp' b hb hrest
      have hrun : Run P tb L ops (i + 1) (fun j => if j = i then d else dd j) (fun j => if j = i + 1 then hp' else hh j) (fun j => if j = i then b else ac j) (fun j => if j = i + 1 then putD o.dst d (tms i) else tms j) := by
        refine ⟨fun j oj hj hoj => ?_, fun j oj hj hoj hac => ?_, fun j oj hj hoj hac => ?_⟩
        · by_cases hji : j = i
          · subst hji
            obtain rfl : o = oj := by rw [ho] at hoj; injection hoj
            simp
          · have h5 := hr.ts j oj (by omega) hoj
            have h6 : j + 1 ≠ i + 1 := by omega
            have h7 : j ≠ i + 1 := by omega
            simp only [h6, h7, hji, if_false]
            exact h5
        · by_cases hji : j = i
          · subst hji
            obtain rfl : o = oj := by rw [ho] at hoj; injection hoj
            have : b = true := by simpa using hac
            simpa using hb.1 this
          · have h5 : ac j = true := by simpa [hji] using hac
            have h6 : j + 1 ≠ i + 1 := by omega
            have h7 : j ≠ i + 1 := by omega
            simp only [h6, h7, hji, if_false]
            exact hr.on j oj (by omega) hoj h5
        · by_cases hji : j = i
          · subst hji
            obtain rfl : o = oj := by rw [ho] at hoj; injection hoj
            have : b = false := by simpa using hac
            simpa using hb.2 this
          · have h5 : ac j = false := by simpa [hji] using hac
            have h6 : j + 1 ≠ i + 1 := by omega
            have h7 : j ≠ i + 1 := by omega
            simp only [h6, h7, hji, if_false]
            exact hr.off j oj (by omega) hoj h5
      obtain ⟨dd', hh', ac', tms', h1, h2, h3, h4⟩ := run_of (ops := ops) (K := K) rest (i + 1) _ _ _ _ hrun hd' (by rw [if_pos rfl, if_pos rfl]; exact hrest)
      refine ⟨dd', hh', ac', tms', ?_, ?_, ?_, ?_⟩
      · rw [List.length_cons, show i + (rest.length + 1) = i + 1 + rest.length by omega]; exact h1
      · rw [List.length_cons, show i + (rest.length + 1) = i + 1 + rest.length by omega]; exact h2
      · rw [h3]; exact if_neg (by omega)
      · rw [h4]; exact if_neg (by omega)
    cases h with
    | on d hp' hg h2 h1 => exact ext d hp' true ⟨fun _ => ⟨hg, h2⟩, fun h => by cases h⟩ h1
    | off d hg hs h1 => exact ext d (hh i) false ⟨fun h => (by cases h), fun _ => ⟨hg, hs, rfl⟩⟩ h1

theorem Run.quiet_step {ops : Array Oper} {n : Nat} {dd : Nat → D} {hh : Nat → Hp} {ac : Nat → Bool} {tms : Nat → List (Nat × D)} (hr : Run P tb L ops n dd hh ac tms) {j : Nat} {o : Oper} (hj : j < n) (ho : ops[j]? = some o) (hq : quietL tb L o.op = true) : hh (j + 1) = hh j := by
  cases hac : ac j with
  | true => exact ((hr.on j o hj ho hac).2.quiet hq).1
  | false => exact (hr.off j o hj ho hac).2.2
theorem Run.fr_step {ops : Array Oper} {n : Nat} {dd : Nat → D} {hh : Nat → Hp} {ac : Nat → Bool} {tms : Nat → List (Nat × D)} (hr : Run P tb L ops n dd hh ac tms) {j : Nat} {o : Oper} (hj : j < n) (ho : ops[j]? = some o) (hq : varC tb o.op = false) : Fr (hh j) (hh (j + 1)) := by
  cases hac : ac j with
  | true => exact (hr.on j o hj ho hac).2.fr hq
  | false => rw [(hr.off j o hj ho hac).2.2]; exact Fr.refl _
theorem Fr.trans {a b c : Hp} (h : Fr a b) (h' : Fr b c) : Fr a c := ⟨Nat.le_trans h.1 h'.1, fun j hj => (h'.2 j (Nat.lt_of_lt_of_le hj h.1)).trans (h.2 j hj)⟩
theorem Run.frs {ops : Array Oper} (hh : Nat → Hp) {a b : Nat} (hab : a ≤ b) (hb : b ≤ ops.size) (h : ∀ j o, a ≤ j → j < b → ops[j]? = some o → Fr (hh j) (hh (j + 1))) : Fr (hh a) (hh b) := by
  induction b with
  | zero => obtain rfl : a = 0 := by omega
            exact Fr.refl _
  | succ b ih =>
    rcases Nat.lt_or_ge a (b + 1) with h1 | h1
    · have hlt : b < ops.size := by omega
      exact (ih (by omega) (by omega) fun j o h2 h3 h4 => h j o h2 (by omega) h4).trans (h b ops[b] (by omega) (by omega) (Array.getElem?_eq_getElem hlt))
    · obtain rfl : a = b + 1 := by omega
      exact Fr.refl _
theorem Run.same {α : Type} {ops : Array Oper} (f : Nat → α) {a b : Nat} (hab : a ≤ b) (hb : b ≤ ops.size) (h : ∀ j o, a ≤ j → j < b → ops[j]? = some o → f (j + 1) = f j) : f b = f a := by
  induction b with
  | zero => obtain rfl : a = 0 := by omega
            rfl
  | succ b ih =>
    rcases Nat.lt_or_ge a (b + 1) with h1 | h1
    · have hlt : b < ops.size := by omega
      rw [h b ops[b] (by omega) (by omega) (Array.getElem?_eq_getElem hlt)]
      exact ih (by omega) (by omega) fun j o h2 h3 h4 => h j o h2 (by omega) h4
    · obtain rfl : a = b + 1 := by omega
      rfl
theorem Run.lookup {ops : Array Oper} {n : Nat} {dd : Nat → D} {hh : Nat → Hp} {ac : Nat → Bool} {tms : Nat → List (Nat × D)} (hr : Run P tb L ops n dd hh ac tms) (hn : n ≤ ops.size) : ∀ {i : Nat} {t : Nat} {d : D}, i ≤ n → (tms i).lookup t = some d →
    (∃ j o, j < i ∧ ops[j]? = some o ∧ o.dst = some t ∧ d = dd j) ∨ ((∀ j o, j < i → ops[j]? = some o → o.dst ≠ some t) ∧ (tms 0).lookup t = some d)
  | 0, t, d, _, h => .inr ⟨fun j _ hj => by omega, h⟩
  | i + 1, t, d, hi, h => by
    have hlt : i < ops.size := by omega
    have ho : ops[i]? = some ops[i] := Array.getElem?_eq_getElem hlt
    rw [hr.ts i _ (by omega) ho] at h
    by_cases hd : (ops[i]).dst = some t
    · rw [hd] at h
      rw [show (putD (some t) (dd i) (tms i)).lookup t = some (dd i) from lookup_cons_eq] at h
      injection h with h
      exact .inl ⟨i, _, Nat.lt_succ_self _, ho, hd, h.symm⟩
    · have h' : (tms i).lookup t = some d := by
        rw [← h]
        cases hdd : (ops[i]).dst with
        | none => rfl
        | some s => exact (lookup_cons_ne (fun e => hd (by rw [hdd, e]))).symm
      rcases hr.lookup hn (show i ≤ n by omega) h' with ⟨j, o, h1, h2, h3, h4⟩ | ⟨h1, h2⟩
      · exact .inl ⟨j, o, by omega, h2, h3, h4⟩
      · refine .inr ⟨fun j o hj hoj => ?_, h2⟩
        rcases Nat.lt_or_ge j i with h3 | h3
        · exact h1 j o h3 hoj
        · obtain rfl : j = i := by omega
          obtain rfl : ops[j] = o := by rw [ho] at hoj; injection hoj
          exact hd
/-- What is known of a temporary when the listed operations have come up. -/
def LookL (ops : Array Oper) (dd : Nat → D) (tm0 : List (Nat × D)) (listed : Array Bool) (t : Nat) (d : D) : Prop :=
  (∃ i o, ops[i]? = some o ∧ listed.getD i false = true ∧ o.dst = some t ∧ d = dd i) ∨ ((∀ i o, ops[i]? = some o → listed.getD i false = true → o.dst ≠ some t) ∧ tm0.lookup t = some d)
structure InvA (tb : TypeId → Option TyE) (L : List FuncId) (x : Cx) (ops : Array Oper) (dd : Nat → D) (hh : Nat → Hp) (tm0 : List (Nat × D)) (listed : Array Bool) (a : Act) (w : World) (m : Nat) (g : Gh) : Prop where
  size : listed.size = ops.size
  closed : ∀ (i : Nat) (o : Oper) (e : Edge), ops[i]? = some o → listed.getD i false = true → e ∈ o.after → Region.binds .any e = true → listed.getD e.on false = true
  le : m ≤ ops.size
  loud : ∀ (j : Nat) (o : Oper), ops[j]? = some o → quietL tb L o.op = false → (listed.getD j false = true ↔ j < m)
  hr : HR x.B (hh m) g w
  look : ∀ t d, LookL ops dd tm0 listed t d → RepD (hh m) g w d (a.tmps.getD t undef)
  tsz : a.tmps.size = x.N
  df : a.defers = []
  bl : Below x.B x.w0 w
  fr : ∀ p : Addr, p.block < x.B → x.F0 p → g.F p
  mo : Mono x.hp0 x.g0 x.w0 (hh m) g w
theorem Bef.listed {ops : Array Oper} {listed : Array Bool} (hcl : ∀ (i : Nat) (o : Oper) (e : Edge), ops[i]? = some o → listed.getD i false = true → e ∈ o.after → Region.binds .any e = true → listed.getD e.on false = true) {j i : Nat} (h : Bef ops j i) : listed.getD i false = true → listed.getD j false = true := by
  induction h with
  | edge i o e hi he hb => exact fun hl => hcl i o e hi hl he hb
  | trans j i o e hi he hb _ ih => exact fun hl => ih (hcl i o e hi hl he hb)
theorem Bef.ready {ops : Array Oper} {listed : Array Bool} (hcl : ∀ (i : Nat) (o : Oper) (e : Edge), ops[i]? = some o → listed.getD i false = true → e ∈ o.after → Region.binds .any e = true → listed.getD e.on false = true) {j i : Nat} (h : Bef ops j i) (hall : ∀ o, ops[i]? = some o → ∀ e ∈ o.after, Region.binds .any e = true → listed.getD e.on false = true) : listed.getD j false = true := by
  cases h with
  | edge _ o e hi he hb => exact hall o hi e he hb
  | trans _ _ o e hi he hb h => exact h.listed hcl (hall o hi e he hb)
theorem Gd.wanted' {ops : Array Oper} {o : Oper} {tm : List (Nat × D)} {hp : Hp} {w : World} {a : Act} {b : Bool} {g : Gh} (h : Gd ops o tm b) (hr : ∀ t d, t ∈ tmpsOf ops o → tm.lookup t = some d → RepD hp g w d (a.tmps.getD t undef)) : Region.wanted o (yielded ops a.tmps) = b := by
  unfold Gd at h
  unfold Region.wanted
  split at h
  · rename_i hg
    rw [hg, h]
  · rename_i j want hg
    rw [hg]
    dsimp only
    rcases h with ⟨t, c, h1, h2, h3⟩ | ⟨t, h1, h2, rfl⟩
    rotate_left
    · have hm : t ∈ tmpsOf ops o := by
        unfold tmpsOf
        rw [hg]
        dsimp only
        rw [h1]
        exact List.mem_append.2 (.inr (by simp))
      have hv := hr t _ hm h2
      have hy : yielded ops a.tmps j = none := by
        unfold yielded
        rw [h1]
        simp only [Option.bind_some]
        cases ht : a.tmps[t]? with
        | none => rfl
        | some u =>
          have hu : a.tmps.getD t undef = u := by simp [Array.getD_eq_getD_getElem?, ht]
          rw [hu] at hv
          cases hv with
          | tu _ cs hl hr => rfl
      rw [hy]; rfl
    have hm : t ∈ tmpsOf ops o := by
      unfold tmpsOf
      rw [hg]
      dsimp only
      rw [h1]
      exact List.mem_append.2 (.inr (by simp))
    have hv := (hr t _ hm h2).lit
    have hy : yielded ops a.tmps j = some c := by
      unfold yielded
      rw [h1]
      simp only [Option.bind_some]
      cases ht : a.tmps[t]? with
      | none => simp [Array.getD_eq_getD_getElem?, ht, undef] at hv
      | some u =>
        have : u = .bool c := by simpa [Array.getD_eq_getD_getElem?, ht] using hv
        rw [this]
    rw [hy, ← h3]
    rfl
theorem listed_set {listed : Array Bool} {i : Nat} (hi : i < listed.size) (j : Nat) : (listed.setIfInBounds i true).getD j false = true ↔ j = i ∨ listed.getD j false = true := by
  by_cases hji : j = i
  · subst hji
    simp [hi]
  · simp [Array.getD_eq_getD_getElem?, Array.getElem?_setIfInBounds_ne (Ne.symm hji), hji]
def unl (listed : Array Bool) (n : Nat) : Nat := ((List.range n).filter fun j => !listed.getD j false).length
theorem unl_set {listed : Array Bool} {n i : Nat} (hi : i < n) (hs : i < listed.size) (hf : listed.getD i false = false) : unl (listed.setIfInBounds i true) n < unl listed n := by
  unfold unl
  have hsub : ∀ l : List Nat, ((l.filter fun j => !(listed.setIfInBounds i true).getD j false).length ≤ (l.filter fun j => !listed.getD j false).length) ∧ (i ∈ l → (l.filter fun j => !(listed.setIfInBounds i true).getD j false).length < (l.filter fun j => !listed.getD j false).length) := by
    intro l
    induction l with
    | nil => exact ⟨Nat.le_refl _, fun h => by cases h⟩
    | cons k l ih =>
      by_cases hki : k = i
      · subst hki
        have e1 : (listed.setIfInBounds k true).getD k false = true := (listed_set hs k).2 (.inl rfl)
        simp only [List.filter_cons, e1, hf, Bool.not_true, Bool.not_false, if_true, List.length_cons]
        exact ⟨by have := ih.1; simp at this ⊢; omega, fun _ => by have := ih.1; simp at this ⊢; omega⟩
      · have e1 : (listed.setIfInBounds i true).getD k false = listed.getD k false := by
          simp [Array.getD_eq_getD_getElem?, Array.getElem?_setIfInBounds_ne (Ne.symm hki)]
        simp only [List.filter_cons, e1]
        cases listed.getD k false with
        | true => exact ⟨ih.1, fun h => ih.2 (by rcases List.mem_cons.1 h with h | h; exact absurd h.symm hki; exact h)⟩
        | false =>
          simp only [Bool.not_false, if_true, List.length_cons]
          exact ⟨by have := ih.1; omega, fun h => by have := ih.2 (by rcases List.mem_cons.1 h with h | h; exact absurd h.symm hki; exact h); omega⟩
  exact (hsub (List.range n)).2 (by simpa using hi)
theorem varB_of_C {op : Op} (h : varC tb op = true) : varB tb op = true := by cases op <;> first | rfl | exact h | cases h
theorem loud_of_var {op : Op} (hv : varB tb op = true) : quietL tb L op = false := by
  have h1 : quietB op = false := by
    cases op <;> first | rfl | cases hv | skip
    rename_i c
    obtain ⟨callee, as, ts⟩ := c
    cases callee <;> first | rfl | cases hv
  have h2 : callIn tb L op = false := by
    cases op <;> first | rfl | skip
    rename_i c
    have hv' : hvB tb c = true := hv
    show ((match c.callee with | .value (.func f) => L.elem f | _ => false) && !hvB tb c) = false
    rw [hv']
    simp
  unfold quietL
  rw [h1, h2]; rfl
theorem wpAny_of {x : Cx} {ops : Array Oper} {dd : Nat → D} {hh : Nat → Hp} {ac : Nat → Bool} {tms : Nat → List (Nat × D)} {Q : Exit → Act → World → Prop} (hN : dstOK x.N ops = true) (hord : OrdT tb L ops) (hrun : Run P tb L ops ops.size dd hh ac tms)
    (hQ : ∀ a w, RS x (tms ops.size) (hh ops.size) a w → Q .normal a w) : ∀ (fuel : Nat) (listed : Array Bool) (a : Act) (w : World) (m : Nat) (g : Gh), InvA tb L x ops dd hh (tms 0) listed a w m g → unl listed ops.size ≤ fuel → wpAny P .any ops Q fuel listed a w := by
  -- when all are listed
  have fin : ∀ (listed : Array Bool) (a : Act) (w : World) (m : Nat) (g : Gh), InvA tb L x ops dd hh (tms 0) listed a w m g → Region.ready .any ops listed = [] → Q .normal a w := by
    intro listed a w m g hI hready
    have hall : ∀ i, i < ops.size → listed.getD i false = true := by
      intro i
      induction i using Nat.strongRecOn with
      | _ i ih =>
        intro hi
        cases hl : listed.getD i false with
        | true => rfl
        | false =>
          exfalso
          have hmem : i ∈ Region.ready .any ops listed := by
            refine mem_ready.2 ⟨?_, ops[i], Array.getElem?_eq_getElem hi, fun e he hb => ?_⟩
            · have hsz := hI.size
              have hlt : i < listed.size := by omega
              simpa [Array.getD_eq_getD_getElem?, hlt] using hl
            · have := hord.low i _ e (Array.getElem?_eq_getElem hi) he hb
              exact ih _ this (by omega)
          rw [hready] at hmem
          cases hmem
    have hhm : hh ops.size = hh m := Run.same (ops := ops) hh hI.le (Nat.le_refl _) fun j o h1 h2 h3 => by
      cases hq : quietL tb L o.op with
      | true => exact hrun.quiet_step h2 h3 hq
      | false =>
        have := (hI.loud j o h3 hq).1 (hall j h2)
        omega
    refine hQ a w ⟨g, ?_, fun t d h => ?_, hI.tsz, hI.df, hI.bl, hI.fr, ?_⟩
    rotate_right
    · rw [hhm]; exact hI.mo
    · rw [hhm]; exact hI.hr
    · rw [hhm]
      refine hI.look t d ?_
      rcases hrun.lookup (Nat.le_refl _) (Nat.le_refl _) h with ⟨j, o, h1, h2, h3, h4⟩ | ⟨h1, h2⟩
      · exact .inl ⟨j, o, h2, hall j h1, h3, h4⟩
      · exact .inr ⟨fun j o hj _ => h1 j o (by
          rcases Nat.lt_or_ge j ops.size with h | h
          · exact h
          · rw [Array.getElem?_eq_none h] at hj; cases hj) hj, h2⟩
  intro fuel
  induction fuel with
  | zero =>
    intro listed a w m g hI hu
    have hnone : Region.ready .any ops listed = [] := by
      cases hr : Region.ready .any ops listed with
      | nil => rfl
      | cons i l =>
        exfalso
        have hi : i ∈ Region.ready .any ops listed := by rw [hr]; exact List.mem_cons_self ..
        obtain ⟨h1, o, ho, _⟩ := mem_ready.1 hi
        have hlt : i < ops.size := (Array.getElem?_eq_some_iff.1 ho).1
        have hs : i < listed.size := by rw [hI.size]; exact hlt
        have hf : listed.getD i false = false := by simpa [Array.getD_eq_getD_getElem?, hs] using h1
        have := unl_set hlt hs hf
        omega
    exact ⟨hnone, fin listed a w m g hI hnone⟩
  | succ fuel ih =>
    intro listed a w m g hI hu
    refine ⟨fun h => fin listed a w m g hI h, fun i hi => ?_⟩
    obtain ⟨h1, o, ho, hall⟩ := mem_ready.1 hi
    have hlt : i < ops.size := (Array.getElem?_eq_some_iff.1 ho).1
    have hs : i < listed.size := by rw [hI.size]; exact hlt
    have hf : listed.getD i false = false := by simpa [Array.getD_eq_getD_getElem?, hs] using h1
    have hnl : ¬ listed.getD i false = true := by rw [hf]; simp
    have hbef : ∀ j, Bef ops j i → listed.getD j false = true := fun j h => h.ready hI.closed fun o' ho' => by
      obtain rfl : o = o' := by rw [ho] at ho'; injection ho'
      exact hall
    have hnot : ∀ j, Bef ops i j → listed.getD j false ≠ true := fun j h hj => hnl (h.listed hI.closed hj)
    have hset := listed_set hs
    have hu' : unl (listed.setIfInBounds i true) ops.size ≤ fuel := by have := unl_set hlt hs hf; omega
    have hdn : ∀ t, o.dst = some t → t < x.N := fun t ht => dstOK_spec hN ho ht
    have hclosed' : ∀ (j : Nat) (o' : Oper) (e : Edge), ops[j]? = some o' → (listed.setIfInBounds i true).getD j false = true → e ∈ o'.after → Region.binds .any e = true → (listed.setIfInBounds i true).getD e.on false = true := by
      intro j o' e hj hl he hb
      refine (hset _).2 (.inr ?_)
      rcases (hset j).1 hl with rfl | hl
      · obtain rfl : o = o' := by rw [ho] at hj; injection hj
        exact hall e he hb
      · exact hI.closed j o' e hj hl he hb
    -- what the operation reads
    have hread : ∀ t d, t ∈ tmpsOf ops o → (tms i).lookup t = some d → LookL ops dd (tms 0) listed t d := by
      intro t d ht hl
      rcases hrun.lookup (Nat.le_refl _) (Nat.le_of_lt hlt) hl with ⟨j, oj, h2, h3, h4, h5⟩ | ⟨h2, h3⟩
      · refine .inl ⟨j, oj, h3, ?_, h4, h5⟩
        rcases hord.data i j o oj t ho h3 (by omega) ht h4 with ⟨_, h⟩ | ⟨h, _⟩
        · exact hbef j h
        · omega
      · refine .inr ⟨fun j oj hj hlj hd => ?_, h3⟩
        by_cases hji : j = i
        · subst hji; exact hnl hlj
        · rcases hord.data i j o oj t ho hj (Ne.symm hji) ht hd with ⟨h, _⟩ | ⟨_, h⟩
          · exact h2 j oj h hj hd
          · exact hnot j h hlj
    have htm : ∀ t d, t ∈ tmpsOf ops o → (tms i).lookup t = some d → RepD (hh m) g w d (a.tmps.getD t undef) := fun t d ht hl => hI.look t d (hread t d ht hl)
    have hopd : ∀ y ∈ o.op.operands, RepD (hh m) g w (evD (tms i) y) (a.eval y) := by
      intro y hy
      cases y with
      | tmp t =>
        show RepD (hh m) g w (((tms i).lookup t).getD .top) _
        cases hl : (tms i).lookup t with
        | none => exact .top _
        | some d =>
          refine htm t d ?_ hl
          unfold tmpsOf
          refine List.mem_append.2 (.inl (List.mem_filterMap.2 ⟨.tmp t, by simpa using hy, rfl⟩))
      | const v => exact constD_rep g v
      | global g' => exact .top _
      | func f => exact .e _ _ (.lit _ rfl)
    -- the invariant behind the operation
    have next : ∀ (a' : Act) (w' : World) (m' : Nat) (g' : Gh) (v : Value), a' = a.put o.dst v → m' ≤ ops.size → (∀ (j : Nat) (o' : Oper), ops[j]? = some o' → quietL tb L o'.op = false → ((listed.setIfInBounds i true).getD j false = true ↔ j < m')) →
        HR x.B (hh m') g' w' → Mono (hh m) g w (hh m') g' w' → RepD (hh m') g' w' (dd i) v → Below x.B w w' → (∀ p : Addr, p.block < x.B → g.F p → g'.F p) → wpAny P .any ops Q fuel (listed.setIfInBounds i true) a' w' := by
      intro a' w' m' g' v ha hm' hloud hr' hmo hd hb hF
      have hmono : ∀ d u, RepD (hh m) g w d u → RepD (hh m') g' w' d u := fun d u h => h.mono hmo
      subst ha
      refine ih _ _ _ m' g' ⟨by simp [hI.size], hclosed', hm', hloud, hr', fun t d hl => ?_, by rw [put_size]; exact hI.tsz, by rw [put_defers]; exact hI.df, hI.bl.trans hb, fun p h1 h2 => hF p h1 (hI.fr p h1 h2), hI.mo.trans hmo⟩ hu'
      by_cases hdt : o.dst = some t
      · have hdd : d = dd i := by
          rcases hl with ⟨j, oj, h2, _, h4, h5⟩ | ⟨h2, _⟩
          · obtain rfl := hord.dst j i oj o t h2 ho h4 hdt
            exact h5
          · exact absurd hdt (h2 i o ho ((hset i).2 (.inl rfl)))
        subst hdd
        rw [hdt, put_same (by rw [hI.tsz]; exact hdn t hdt)]
        exact hd
      · rw [put_other hdt]
        refine hmono _ _ (hI.look t d ?_)
        rcases hl with ⟨j, oj, h2, h3, h4, h5⟩ | ⟨h2, h3⟩
        · refine .inl ⟨j, oj, h2, ?_, h4, h5⟩
          rcases (hset j).1 h3 with rfl | h3
          · obtain rfl : o = oj := by rw [ho] at h2; injection h2
            exact absurd h4 hdt
          · exact h3
        · exact .inr ⟨fun j oj hj hlj => h2 j oj hj ((hset j).2 (.inr hlj)), h3⟩
    -- a loud operation comes up in the order of the text
    have hloud_eq : quietL tb L o.op = false → hh i = hh m ∧ m ≤ i := by
      intro hq
      have hmi : m ≤ i := by
        rcases Nat.lt_or_ge i m with h | h
        · exact absurd ((hI.loud i o ho hq).2 h) hnl
        · exact h
      refine ⟨Run.same (ops := ops) hh hmi (Nat.le_of_lt hlt) fun j oj h2 h3 h4 => ?_, hmi⟩
      cases hqj : quietL tb L oj.op with
      | true => exact hrun.quiet_step (by omega) h4 hqj
      | false =>
        have := (hI.loud j oj h4 hqj).1 (hbef j (hord.loud j i oj o h4 ho h3 hqj hq))
        omega
    have hloud_next : quietL tb L o.op = false → ∀ (j : Nat) (o' : Oper), ops[j]? = some o' → quietL tb L o'.op = false → ((listed.setIfInBounds i true).getD j false = true ↔ j < i + 1) := by
      intro hq j o' hj hqj
      obtain ⟨_, hmi⟩ := hloud_eq hq
      rw [hset, hI.loud j o' hj hqj]
      constructor
      · rintro (rfl | h) <;> omega
      · intro h
        by_cases hji : j = i
        · exact .inl hji
        · exact .inr ((hI.loud j o' hj hqj).1 (hbef j (hord.loud j i o' o hj ho (by omega) hqj hq)))
    have hquiet_next : quietL tb L o.op = true → ∀ (j : Nat) (o' : Oper), ops[j]? = some o' → quietL tb L o'.op = false → ((listed.setIfInBounds i true).getD j false = true ↔ j < m) := by
      intro hq j o' hj hqj
      rw [hset, ← hI.loud j o' hj hqj]
      constructor
      · rintro (rfl | h)
        · obtain rfl : o = o' := by rw [ho] at hj; injection hj
          rw [hq] at hqj; cases hqj
        · exact h
      · exact .inr
    unfold wpOp
    rw [ho]
    dsimp only
    cases hac : ac i with
    | true =>
      obtain ⟨hg, hsnd⟩ := hrun.on i o hlt ho hac
      rw [hg.wanted' htm, if_pos rfl]
      left
      cases hq : quietL tb L o.op with
      | false =>
        obtain ⟨he, _⟩ := hloud_eq hq
        have hok := hsnd.ok
        rw [he] at hok
        refine hok x.B g w a _ _ hI.hr hopd fun v g' w' hr' mo hd hb hF => ?_
        exact next _ w' (i + 1) g' v rfl hlt (hloud_next hq) hr' mo hd hb hF
      | true =>
        have hv : loadB o.op = true → LdEq o (evD (tms i)) (hh i) (hh m) := by
          intro hld
          have noV : ∀ j oj, ops[j]? = some oj → (m ≤ j ∧ j < i ∨ i ≤ j ∧ j < m) → varC tb oj.op = false := by
            intro j oj hj hr
            cases hv : varC tb oj.op with
            | false => rfl
            | true =>
              exfalso
              have hlo : quietL tb L oj.op = false := loud_of_var (varB_of_C hv)
              have hne : i ≠ j := fun e => by
                subst e
                obtain rfl : o = oj := by rw [ho] at hj; injection hj
                rw [hq] at hlo; cases hlo
              rcases hord.vars i j o oj ho hj hne hld hv with ⟨h2, h3⟩ | ⟨h2, h3⟩
              · have := (hI.loud j oj hj hlo).1 (hbef j h3)
                omega
              · have := hnot j h3
                have : ¬ j < m := fun h => this ((hI.loud j oj hj hlo).2 h)
                omega
          intro x hx j off hxe
          have hjm : j < (hh m).next := by
            have h3 := (hopd x hx).un
            rw [hxe] at h3
            generalize a.eval x = u at h3
            cases h3 with
            | pt _ _ hk => exact hk
          have hji : j < (hh i).next := hsnd.lk hld x hx j off hxe
          rcases Nat.le_total m i with hmi | hmi
          · exact ((Run.frs (ops := ops) hh hmi (Nat.le_of_lt hlt) fun j oj h2 h3 h4 => hrun.fr_step (by omega) h4 (noV j oj h4 (.inl ⟨h2, h3⟩))).2 j hjm).symm
          · exact (Run.frs (ops := ops) hh hmi hI.le fun j oj h2 h3 h4 => hrun.fr_step (by have := hI.le; omega) h4 (noV j oj h4 (.inr ⟨h2, h3⟩))).2 j hji
        have hok := (hsnd.quiet hq).2 (hh m) hv
        refine hok x.B g w a _ _ hI.hr hopd fun v g' w' hr' mo hd hb hF => ?_
        exact next _ w' m g' v rfl hI.le (hquiet_next hq) hr' mo hd hb hF
    | false =>
      obtain ⟨hg, hd, he⟩ := hrun.off i o hlt ho hac
      rw [hg.wanted' htm, if_neg (by simp)]
      cases hq : quietL tb L o.op with
      | false =>
        obtain ⟨he2, _⟩ := hloud_eq hq
        have e3 : hh (i + 1) = hh m := by rw [he, he2]
        exact next _ w (i + 1) g undef rfl hlt (hloud_next hq) (by rw [e3]; exact hI.hr) (by rw [e3]; exact Mono.refl _ _ _) (by rw [e3]; exact hd _ g w a hopd) (Below.refl _ _) fun _ _ h => h
      | true =>
        exact next _ w m g undef rfl hI.le (hquiet_next hq) hI.hr (Mono.refl _ _ _) (hd _ g w a hopd) (Below.refl _ _) fun _ _ h => h
/-- A region, whatever its order. -/
theorem AW.drawS {x : Cx} {tm : List (Nat × D)} {hp : Hp} {Q : Exit → List (Nat × D) → Hp → Prop} {id : Nat} {ops : Array Oper} (hm : P.follows .mixedOrders = true) (hN : dstOK x.N ops = true) (hord : ordOK tb L ops = true)
    (h : ∀ K : List (Nat × D) → Hp → Prop, (∀ tm hp, Q .normal tm hp → K tm hp) → SOps P tb (.any L) ops K ops.toList tm hp) : AW P x (.region id ops true) tm hp Q := by
  intro a w hr
  refine wp_region_any hm ?_
  obtain ⟨dd, hh, ac, tms, hrun, hK, h1, h2⟩ := run_of (ops := ops) ops.toList 0 (fun _ => .top) (fun _ => hp) (fun _ => false) (fun _ => tm) ⟨fun _ _ h => absurd h (by omega), fun _ _ h => absurd h (by omega), fun _ _ h => absurd h (by omega)⟩ rfl (h _ fun _ _ h => h)
  simp only [Nat.zero_add, Array.length_toList] at hrun hK h1 h2
  obtain ⟨g, hr1, htm, hsz, hdf, hB, hF, hM⟩ := hr
  refine wpAny_of hN (ordOK_spec hord) hrun (fun a w hr => ⟨_, _, hr, hK⟩) ops.size _ a _ 0 g ?_ ?_
  · have hnl : ∀ j, ¬ (Array.replicate ops.size false).getD j false = true := by
      intro j
      simp [Array.getD_eq_getD_getElem?, Array.getElem?_replicate]
      split <;> simp
    refine ⟨by simp, fun i _ _ _ hl => absurd hl (hnl i), Nat.zero_le _, fun j _ _ _ => ⟨fun hl => absurd hl (hnl j), fun h => absurd h (by omega)⟩, ?_, fun t d hl => ?_, hsz, hdf, hB.drew, hF, ?_⟩
    rotate_right
    · rw [h2]; exact hM.trans (Mono.keep hp g (Nat.le_refl _) (fun _ _ => rfl))
    · rw [h2]; exact hr1.keep (Nat.le_refl _) (fun _ _ => rfl)
    · rw [h2]
      rcases hl with ⟨i, _, _, hl, _⟩ | ⟨_, hl⟩
      · exact absurd hl (hnl i)
      · rw [h1] at hl
        exact (htm t d hl).mono (Mono.keep hp g (Nat.le_refl _) (fun _ _ => rfl))
  · unfold unl
    exact Nat.le_trans (List.length_filter_le _ _) (by simp)
theorem AW.draw {x : Cx} {tm : List (Nat × D)} {hp : Hp} {Q : Exit → List (Nat × D) → Hp → Prop} (tok : TOk P tb) {id : Nat} {ops : Array Oper} (hm : P.follows .mixedOrders = true) (hN : dstOK x.N ops = true) (hord : ordOK tb [] ops = true)
    (h : ∀ K : List (Nat × D) → Hp → Prop, (∀ tm hp, Q .normal tm hp → K tm hp) → aops P tb true ops ops.toList tm hp K) : AW P x (.region id ops true) tm hp Q :=
  AW.drawS (L := []) hm hN hord fun K hK => SOps.of_aops (md := .any []) nc_any tok (h K hK)
/-- A loop whose state at its head is known up to s. -/
theorem AW.loopW {x : Cx} {tm : List (Nat × D)} {hp : Hp} {Q : Exit → List (Nat × D) → Hp → Prop} {c : Code} {α : Type} (T : α → List (Nat × D)) (H : α → Hp) (Inv : α → Prop) (μ : α → Nat) (s0 : α) (hw : Wk x tm hp (T s0) (H s0)) (h0 : Inv s0)
    (round : ∀ s, Inv s → AW P x c (T s) (H s) fun ex tm' hp' => match ex with | .normal => ∃ s', Wk x tm' hp' (T s') (H s') ∧ Inv s' ∧ μ s' < μ s | ex => Q ex tm' hp') : AW P x (.loop c) tm hp Q := by
  refine AW.loop (fun n tm hp => ∃ s, n = μ s ∧ tm = T s ∧ hp = H s ∧ Inv s) (n := μ s0) hw ⟨s0, rfl, rfl, rfl, h0⟩ ?_
  rintro n tm hp ⟨s, rfl, rfl, rfl, hI⟩
  refine AW.mono (round s hI) ?_
  intro ex tm' hp' h
  cases ex with
  | normal =>
    obtain ⟨s', h1, h2, h3⟩ := h
    exact ⟨_, _, _, h3, h1, s', rfl, rfl, rfl, h2⟩
  | _ => exact h
end
end Go.Proofs.Ytakbadleipbngaa
