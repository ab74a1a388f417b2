/-
  From a walk to a law's statement: the arguments read as lists; what the row asks behind the call. Conditions: none.
-/
import Derived.Test.YtakbadleipbngaaBase2
import Derived.Test.YtakbadleipbngaaRows
import Derived.ProofKit
import Derived.OpenShut
import Derived.ChangeSame
import Derived.Deep.Slices
import Derived.JoinedCond
import Derived.SizedLaws
import Derived.Deep.CondSized
set_option linter.all false
namespace Go.Proofs.Ytakbadleipbngaa
open Go.ChangeShapes Go.WideShapes Go.ChangeAt Go.RowKit Go.Deep

/-- It returns b, and leaves all that was there as it was. -/
def Says (b : Bool) (w : World) (e : Ending) (w' : World) : Prop := e = .returned (.bool b) ∧ Below w.heap.size w w'
theorem Says.more {b : Bool} {w0 w : World} (h : Below w0.heap.size w0 w) (e : Ending) (w' : World) (hs : Says b w e w') : Says b w0 e w' := ⟨hs.1, h.trans (hs.2.mono h.size)⟩

section
variable {H : Type} {enc : TypeId × Value → H} {P : Program}
theorem post_of_below {f : Func} {s : ChangeSpec} {apart fresh handsOn again : Bool} {W W' : World} {args : Array Value} {v : Value} {ds gs : List (DataW H)} {before pa pv : List MemPlace}
    (hW : DataW.Whole enc P f.params.toList s.vars apart W args.toList ds gs before)
    (hres : ∀ (b : Nat) (sp : Nat → Bool) (hd : Bool), DataW.TrodAll enc P W' b sp hd f.resultTypes.toList (v.resultList f.resultTypes.size) (s.fn H (ds ++ gs)).results [])
    (hargs : ∀ sp : Nat → Bool, (∀ p ∈ before, sp p.block = true) → DataW.TrodAll enc P W' 0 sp true f.params.toList args.toList (s.fn H (ds ++ gs)).args pa)
    (hvars : ∀ sp : Nat → Bool, (∀ p ∈ before, sp p.block = true) → DataW.TrodVars enc P W' sp s.vars (s.fn H (ds ++ gs)).vars pv)
    (hps : before = pa ++ pv) (hb : Below W.heap.size W W')
    (hok : ∀ (j : Nat) (t : TypeId) (r : Value), f.resultTypes[j]? = some t → (v.resultList f.resultTypes.size)[j]? = some r → Value.okWide P W' .any 0 t r) :
    s.post enc P f apart fresh handsOn again W args v W' := by
  have hlt : ∀ p ∈ before, p.block < W.heap.size := fun p hp => hW.lt p hp
  have hold : ∀ p ∈ before, (fun b => decide (b < W.heap.size)) p.block = true := fun p hp => by simpa using hlt p hp
  refine ⟨ds, gs, before, [], pa, pv, hW, hres _ _ _, hargs _ hold, hvars _ hold, World.keptBut_mono (fun p hp => ⟨hp, ?_⟩) (hb.frame (· ∈ before)), fun _ => ?_⟩
  · rw [hps, List.mem_append] at hp
    exact Or.inr hp
  · obtain ⟨_, _, _, _, _, hz, hn⟩ := hW
    refine ⟨hok, _, _, ([] ++ pa) ++ pv, ⟨[] ++ pa, pv, trodAll_append (hargs _ (fun _ _ => rfl)) (hres _ _ _), hvars _ (fun _ _ => rfl), rfl, ?_, ?_⟩, ?_⟩
    · intro b off hp
      have hin : MemPlace.cell b off ∈ before := by rw [hps]; simpa using hp
      rw [hb.frozen (hlt _ hin)]
      exact hz b off hin
    · intro ha
      have := hn ha
      rw [hps] at this
      simpa using this
    · intro p hp _
      rw [hps]
      simpa using hp

theorem trodAll_below (hl : laidOutB P = true) {W W' : World} (hb : Below W.heap.size W W') {sp : Nat → Bool} : ∀ (ts : List TypeId) (vs : List Value) (ds : List (DataW H)) (p : List MemPlace),
    (ts.all fun t => P.readableRec t && decide (t < P.types.size)) = true → DataW.TrodAll enc P W 0 (fun _ => true) true ts vs ds p → (∀ x ∈ p, x.block < W.heap.size) → (∀ x ∈ p, sp x.block = true) →
    DataW.TrodAll enc P W' 0 sp true ts vs ds p := by
  intro ts
  induction ts with
  | nil =>
    intro vs ds p _ h _ _
    cases vs with
    | nil => cases ds with
      | nil => exact h
      | cons d ds => exact h.elim
    | cons v vs => exact h.elim
  | cons t ts ih =>
    intro vs ds p hr h hlt hs
    cases vs with
    | nil => exact h.elim
    | cons v vs =>
      cases ds with
      | nil => exact h.elim
      | cons d ds =>
        obtain ⟨p1, q, h1, h2, rfl⟩ := h
        simp only [List.all_cons, Bool.and_eq_true, decide_eq_true_eq] at hr
        refine ⟨p1, q, WideElems.Trod_stays hl hr.1.1 hr.1.2 h1 (fun x hx => hb.same (hlt x (by simp [hx]))) (fun x hx => hs x (by simp [hx])), ih vs ds q hr.2 h2 (fun x hx => hlt x (by simp [hx])) (fun x hx => hs x (by simp [hx])), rfl⟩

/-- What a law's row asks behind a call that has returned true and has left alone what was there. -/
theorem law_post {f : Func} {s : ChangeSpec} {W W' : World} {args : Array Value} {ds gs : List (DataW H)} {before : List MemPlace} {tb : TypeId}
    (hl : laidOutB P = true) (hv : s.vars = []) (hrec : (f.params.toList.all fun t => P.readableRec t && decide (t < P.types.size)) = true)
    (hres : f.resultTypes = #[tb]) (htb : P.underlying tb = some .bool)
    (hW : DataW.Whole enc P f.params.toList s.vars false W args.toList ds gs before)
    (hfn : s.fn H (ds ++ gs) = { results := [.lit (.bool true)], args := ds }) (hb : Below W.heap.size W W') :
    s.post enc P f false true false false W args (.bool true) W' := by
  have hW' := hW
  obtain ⟨p, q, hA, hV, hpq, _, _⟩ := hW
  rw [hv] at hV
  have hq : q = [] := by
    cases gs with
    | nil => exact hV
    | cons g gs => exact hV.elim
  subst hq
  rw [List.append_nil] at hpq
  subst hpq
  refine post_of_below (pa := before) (pv := []) hW' (fun b sp hd => ?_) (fun sp hsp => ?_) (fun sp _ => ?_) (by simp) hb ?_
  · rw [hres, hfn]
    exact trodAll_cons_mk (shut_bool htb _) trodAll_mk0
  · rw [hfn]
    exact trodAll_below hl hb _ _ _ _ hrec hA (fun x hx => hW'.lt x hx) hsp
  · rw [hv, hfn]; rfl
  · exact ok_one hres rfl (okWide_bool_mk htb _)

/-! ### Arguments -/
/-- A slice that came in reads as a list. -/
theorem sl_of_trod {α : Type} [Inhabited α] {W : World} {t e : TypeId} {size : Nat} {sp : Nat → Bool} {hd : Bool} {base : Nat} (cells : α → List Value) (D : α → DataW H) (good : α → Prop)
    (ht : P.underlying t = some (.slice e)) (hc : P.cellsOf e = size) (hpos : 0 < size)
    (hel : ∀ (n : Nat) (cs : List Value) (d : DataW H) (pl : List MemPlace), cs.length = size → DataW.trod enc P W base sp hd n e cs = some (d, pl) → ∃ x, cs = cells x ∧ d = D x ∧ good x)
    (hcl : ∀ x, good x → (cells x).length = size)
    {v : Value} {d : DataW H} {p : List MemPlace} (hv : v.cells = #[v]) (h : DataW.Trod enc P W base sp hd t v d p) :
    ∃ l : List α, Sl W v size l.length (l.flatMap cells) ∧ (∀ x ∈ l, good x) ∧ (d = .nil ∧ l = [] ∨ ∃ spare, d = .slice (l.map D) spare) := by
  obtain ⟨fuel, hf⟩ := h
  rw [hv] at hf
  rcases open_slice ht hf with ⟨h1, h2⟩ | ⟨a, len, cap, m, n, D', Pl, h1, hb, hlc, hcm, hm, hx, hi⟩
  · simp only [List.cons.injEq, and_true] at h1
    simp only [Prod.mk.injEq] at h2
    subst h1
    exact ⟨[], Sl.nil_ W size, by simp, .inl ⟨h2.1, rfl⟩⟩
  · simp only [List.cons.injEq, and_true] at h1
    subst h1
    have hle : len ≤ m := by rw [hm]; split <;> omega
    have hex : ∀ i, ∃ x : α, i < len → (∃ cs', W.cells? base (a.add (i * size)) size = some cs' ∧ cs' = cells x) ∧ D' i = D x ∧ good x := by
      intro i
      by_cases hil : i < len
      · obtain ⟨cs', hc1, hc2⟩ := hi i (by omega)
        rw [hc] at hc1
        obtain ⟨x, hx1, hx2, hx3⟩ := hel _ _ _ _ (World.cells?_some hc1).2.1 hc2
        exact ⟨x, fun _ => ⟨⟨cs', hc1, hx1⟩, hx2, hx3⟩⟩
      · exact ⟨default, fun h => absurd h hil⟩
    obtain ⟨X, hX⟩ : ∃ X : Nat → α, ∀ i, i < len → (∃ cs', W.cells? base (a.add (i * size)) size = some cs' ∧ cs' = cells (X i)) ∧ D' i = D (X i) ∧ good (X i) :=
      ⟨fun i => Classical.choose (hex i), fun i hil => Classical.choose_spec (hex i) hil⟩
    have hlen : ((List.range len).map X).length = len := by simp
    refine ⟨(List.range len).map X, ?_, ?_, .inr ⟨(List.range (m - len)).map fun j => D' (len + j), ?_⟩⟩
    · rw [hlen]
      refine ⟨some a, cap, rfl, hlc, hcm, ?_, fun hpl => ⟨a, rfl, ?_, ?_⟩⟩
      · have : ∀ (ls : List Nat), (∀ i ∈ ls, i < len) → ((ls.map X).flatMap cells).length = ls.length * size := by
          intro ls
          induction ls with
          | nil => simp
          | cons i ls ih =>
            intro hls
            have h1 := hcl _ (hX i (hls i (by simp))).2.2
            have h2 := ih (fun j hj => hls j (by simp [hj]))
            simp only [List.map_cons, List.flatMap_cons, List.length_append, h1, h2, List.length_cons, Nat.add_mul]
            omega
        simpa using this (List.range len) (by simp)
      · obtain ⟨⟨cs', hc1, _⟩, _⟩ := hX 0 hpl
        have h2 := (World.cells?_some hc1).2
        have h3 := h2.2 0 hpos
        have h4 : cs'[0]? = some cs'[0] := List.getElem?_eq_getElem (by omega)
        rw [h4] at h3
        have := World.block_lt_of_cell? W _ h3
        rwa [block_of_add, block_of_add] at this
      · intro j u hu
        have hgen : ∀ (k : Nat) (ls : List Nat), (∀ i, ls[i]? = if i < ls.length then some (k + i) else none) → k + ls.length ≤ len → ∀ j u, ((ls.map X).flatMap cells)[j]? = some u → W.cell? (a.add (k * size + j)) = some u := by
          intro k ls
          induction ls generalizing k with
          | nil => intro _ _ j u hu; simp at hu
          | cons i ls ih =>
            intro hls hk j u hu
            have hi0 : i = k := by have := hls 0; simpa using this
            subst hi0
            simp only [List.length_cons] at hk
            obtain ⟨⟨cs', hc1, hc2⟩, _, hg⟩ := hX i (by omega)
            have hl1 := hcl _ hg
            simp only [List.map_cons, List.flatMap_cons] at hu
            by_cases hj : j < size
            · rw [List.getElem?_append_left (by omega)] at hu
              have h3 := (World.cells?_some hc1).2.2 j hj
              rw [add_of_add] at h3
              rw [h3, hc2, hu]
            · rw [List.getElem?_append_right (by omega)] at hu
              have := ih (i + 1) (fun q => by
                have h5 := hls (q + 1)
                simp only [List.getElem?_cons_succ, List.length_cons, Nat.add_lt_add_iff_right] at h5
                rw [h5]
                split
                · congr 1; omega
                · rfl) (by omega) (j - size) u (by rw [← hl1]; exact hu)
              rw [← this]
              congr 2
              rw [Nat.add_mul]
              omega
        have := hgen 0 (List.range len) (fun i => by simp; split <;> simp_all) (by simp) j u hu
        simpa using this
    · intro x hxm
      obtain ⟨i, hil, rfl⟩ := List.mem_map.1 hxm
      exact (hX i (by simpa using hil)).2.2
    · simp only [Prod.mk.injEq] at hx
      rw [hx.1, List.map_map]
      congr 1
      apply List.map_congr_left
      intro i hil
      exact (hX i (by simpa using hil)).2.1

theorem flatMap_one {α : Type} (f : α → Value) (l : List α) : l.flatMap (fun x => [f x]) = l.map f := by
  induction l with
  | nil => rfl
  | cons x l ih => rw [List.flatMap_cons, ih]; rfl
/-- An argument that is a slice of bytes. -/
theorem bytes_of_trod {W : World} {t e : TypeId} {sp : Nat → Bool} {hd : Bool} {base base' : Nat} {r : Reach} (ht : P.underlying t = some (.slice e)) (he : P.underlying e = some (.int .u8)) (hc : P.cellsOf e = 1)
    {v : Value} {d : DataW H} {p : List MemPlace} (hval : Value.okWide P W r base' t v) (h : DataW.Trod enc P W base sp hd t v d p) :
    ∃ l : List UInt8, Sl W v 1 l.length (l.map bv) ∧ (d = .nil ∧ l = [] ∨ ∃ spare, d = .slice (l.map fun u => .lit (.int .u8 (u.toNat : Int))) spare) := by
  obtain ⟨a, n, c, rfl⟩ := okWide_slice ht hval
  obtain ⟨l, h1, _, h3⟩ := sl_of_trod (α := UInt8) (fun u => [bv u]) (fun u => .lit (.int .u8 (u.toNat : Int))) (fun _ => True) ht hc (by omega) (fun n cs d pl _ hh => by
    obtain ⟨k, h1, h2, h3⟩ := DataW.trod_int he hh
    simp only [Prod.mk.injEq] at h2
    have hk : 0 ≤ k ∧ k ≤ 255 := by simpa [Lit.wf, IntKind.min, IntKind.max, IntKind.signed, IntKind.bits] using h3
    have e1 : ((UInt8.ofNat k.toNat).toNat : Int) = k := by rw [UInt8.toNat_ofNat', Nat.mod_eq_of_lt (by omega)]; omega
    exact ⟨UInt8.ofNat k.toNat, by rw [h1]; unfold bv; rw [e1], by rw [h2.1, e1], trivial⟩) (fun _ _ => rfl) rfl h
  rw [flatMap_one] at h1
  exact ⟨l, h1, h3⟩
/-- An argument that is a slice of integers. -/
theorem ints_of_trod {W : World} {t e : TypeId} {sp : Nat → Bool} {hd : Bool} {base base' : Nat} {r : Reach} (ht : P.underlying t = some (.slice e)) (he : P.underlying e = some (.int .i64)) (hc : P.cellsOf e = 1)
    {v : Value} {d : DataW H} {p : List MemPlace} (hval : Value.okWide P W r base' t v) (h : DataW.Trod enc P W base sp hd t v d p) :
    ∃ l : List Int, Sl W v 1 l.length (l.map (Value.int .i64)) ∧ (∀ n ∈ l, -9223372036854775808 ≤ n ∧ n ≤ 9223372036854775807) ∧ (d = .nil ∧ l = [] ∨ ∃ spare, d = .slice (l.map fun u => .lit (.int .i64 u)) spare) := by
  obtain ⟨a, n, c, rfl⟩ := okWide_slice ht hval
  obtain ⟨l, h1, h2, h3⟩ := sl_of_trod (α := Int) (fun u => [Value.int .i64 u]) (fun u => .lit (.int .i64 u)) (fun n => -9223372036854775808 ≤ n ∧ n ≤ 9223372036854775807) ht hc (by omega) (fun n cs d pl _ hh => by
    obtain ⟨k, h1, h2, h3⟩ := DataW.trod_int he hh
    simp only [Prod.mk.injEq] at h2
    exact ⟨k, h1, h2.1, by simpa [Lit.wf, IntKind.min, IntKind.max, IntKind.signed, IntKind.bits] using h3⟩) (fun _ _ => rfl) rfl h
  rw [flatMap_one] at h1
  exact ⟨l, h1, h2, h3⟩
/-- An argument that is a slice of strings. -/
theorem strings_of_trod {W : World} {t e : TypeId} {sp : Nat → Bool} {hd : Bool} {base base' : Nat} {r : Reach} (ht : P.underlying t = some (.slice e)) (he : P.underlying e = some .string) (hc : P.cellsOf e = 1)
    {v : Value} {d : DataW H} {p : List MemPlace} (hval : Value.okWide P W r base' t v) (h : DataW.Trod enc P W base sp hd t v d p) :
    ∃ l : List ByteArray, Sl W v 1 l.length (l.map Value.string) ∧ (∀ s ∈ l, s.size ≤ maxLen) ∧ (d = .nil ∧ l = [] ∨ ∃ spare, d = .slice (l.map fun u => .lit (.string u.data.toList)) spare) := by
  obtain ⟨a, n, c, rfl⟩ := okWide_slice ht hval
  obtain ⟨l, h1, h2, h3⟩ := sl_of_trod (α := ByteArray) (fun u => [Value.string u]) (fun u => .lit (.string u.data.toList)) (fun s => s.size ≤ maxLen) ht hc (by omega) (fun n cs d pl _ hh => by
    obtain ⟨k, h1, h2, h3⟩ := DataW.trod_string he hh
    simp only [Prod.mk.injEq] at h2
    exact ⟨k, h1, h2.1, h3⟩) (fun _ _ => rfl) rfl h
  rw [flatMap_one] at h1
  exact ⟨l, h1, h2, h3⟩
end
/-- The strings of a slice that came in. -/
theorem strs_reach {H : Type} {P : Program} {ts : List TypeId} {ds : List (DataW H)} (hz : (DataW.weightsEach P ts ds).all (· ≤ reachBytes) = true) {j : Nat} {t e : TypeId} {l : List ByteArray} (ht : ts[j]? = some t) (hu : P.underlying t = some (.slice e))
    (hd : l = [] ∨ ∃ spare, ds[j]? = some (.slice (l.map fun u => .lit (.string u.data.toList)) spare)) : ∀ s ∈ l, s.size ≤ 140737488351232 := by
  intro s hs
  rcases hd with rfl | ⟨spare, hd⟩
  · cases hs
  · have hmem : ∀ l : List ByteArray, s ∈ l → s.data.toList.length ∈ DataW.weightsAll P e (l.map fun u => (DataW.lit (.string u.data.toList) : DataW H)) := by
      intro l
      induction l with
      | nil => intro h; cases h
      | cons a l ih =>
        intro h
        simp only [List.map_cons, DataW.weightsAll, List.mem_append]
        rcases List.mem_cons.1 h with h | h
        · subst h; exact .inl (by simp [DataW.weights])
        · exact .inr (ih h)
    have h1 := List.all_eq_true.1 hz _ (DataW.weights_mem_each ht hd s.data.toList.length (by
      simp only [DataW.weights, hu, List.mem_cons, List.mem_append]
      exact .inr (.inl (hmem l hs))))
    have h2 : reachBytes = 140737488351232 := by decide
    have h3 : s.data.size = s.size := rfl
    rw [Array.length_toList] at h1
    have h4 : s.data.size ≤ reachBytes := by simpa using h1
    omega
theorem one_le {H : Type} (d : DataW H) : 1 ≤ Rows.uptoBulk d := by
  cases d with
  | lit l => cases l <;> simp [Rows.uptoBulk]
  | nil => simp [Rows.uptoBulk]
  | ptr d => simp [Rows.uptoBulk]
  | slice elems spare => simp [Rows.uptoBulk]
  | agg parts => simp [Rows.uptoBulk]
  | iface t d => simp [Rows.uptoBulk]
  | map entries => simp [Rows.uptoBulk]
  | held h => simp [Rows.uptoBulk]
theorem bulk_len {H : Type} (l : List (DataW H)) : l.length ≤ Rows.uptoBulkAll l := by
  induction l with
  | nil => simp [Rows.uptoBulkAll]
  | cons x r ih => have := one_le x; simp only [Rows.uptoBulkAll, List.length_cons]; omega
theorem bulk_strings {H : Type} (l : List ByteArray) : Rows.uptoBulkAll (l.map fun u => (DataW.lit (.string u.data.toList) : DataW H)) = l.length + (l.map fun s => s.size).sum := by
  induction l with
  | nil => simp [Rows.uptoBulkAll]
  | cons x r ih =>
    simp only [List.map_cons, Rows.uptoBulkAll, ih, Rows.uptoBulk, List.length_cons, List.sum_cons, Array.length_toList]
    have : x.data.size = x.size := rfl
    omega
/-- The bulk of a slice of strings. -/
theorem bulk_strs {H : Type} {l : List ByteArray} {d : DataW H} {n : Nat} (hk : d = .nil ∧ l = [] ∨ ∃ spare, d = .slice (l.map fun u => .lit (.string u.data.toList)) spare) (h : Rows.uptoBulk d ≤ n) : l.length + (l.map fun s => s.size).sum ≤ n := by
  rcases hk with ⟨rfl, rfl⟩ | ⟨spare, rfl⟩
  · simp
  · simp only [Rows.uptoBulk, bulk_strings] at h
    omega
theorem bulk_elems {H : Type} {α : Type} {D : α → DataW H} {l : List α} {d : DataW H} {n : Nat} (hk : d = .nil ∧ l = [] ∨ ∃ spare, d = .slice (l.map D) spare) (h : Rows.uptoBulk d ≤ n) : l.length ≤ n := by
  rcases hk with ⟨rfl, rfl⟩ | ⟨spare, rfl⟩
  · simp
  · simp only [Rows.uptoBulk] at h
    have := bulk_len (l.map D)
    rw [List.length_map] at this
    omega
theorem hv_of {P : Program} {W : World} {params : Array TypeId} {args : Array Value} (h : ∀ (j : Nat) t v, params[j]? = some t → args[j]? = some v → Value.okWide P W .any 0 t v ∨ ∃ base, Value.okWide P W .any base t v) (j : Nat) {t : TypeId} {v : Value}
    (h1 : params[j]? = some t) (h2 : args[j]? = some v) : ∃ base, Value.okWide P W .any base t v := by
  rcases h j t v h1 h2 with h | h
  · exact ⟨0, h⟩
  · exact h
/-- The length of a slice that came in. -/
theorem reach_le {H : Type} {P : Program} {ts : List TypeId} {ds : List (DataW H)} (hz : (DataW.weightsEach P ts ds).all (· ≤ reachBytes) = true) {j : Nat} {t e : TypeId} {n m : Nat} (ht : ts[j]? = some t) (hu : P.underlying t = some (.slice e)) (hb : P.bytesOf e = m) (hm : 0 < m)
    (hd : ds[j]? = some .nil ∧ n = 0 ∨ ∃ elems spare, ds[j]? = some (.slice elems spare) ∧ elems.length = n) : n ≤ 140737488351232 := by
  rcases hd with ⟨_, rfl⟩ | ⟨elems, spare, hd, rfl⟩
  · omega
  · have h1 := sized_slice hz ht hd hu
    rw [hb] at h1
    have h2 : reachBytes = 140737488351232 := by decide
    have h3 : (elems.length + spare.length) * 1 ≤ (elems.length + spare.length) * m := Nat.mul_le_mul_left _ hm
    omega
end Go.Proofs.Ytakbadleipbngaa
