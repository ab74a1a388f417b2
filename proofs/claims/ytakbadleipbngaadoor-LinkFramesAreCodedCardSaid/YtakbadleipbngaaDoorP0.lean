/-
  Lemmas, part 0. Conditions: none.
-/
import Derived.WalkKit
import Derived.Lib.Hide
import Derived.Lib.AppendStr
import Derived.Laws.BytesArg
import Derived.Lib.SliceRun
import Derived.Deep.Draws
import Derived.Deep.AppendLies
import Derived.Maps.AppendAt
import Derived.BigQuiet
import Derived.Deep.QuietTactic
import Derived.Deep.DeepFit
import Derived.WalkSpells
import Derived.Deep.WholeRow
import Derived.Deep.MidRow
import Derived.WalkLawsBesides
import Derived.Great.BuildSlice
import Derived.Laws.Small
set_option linter.all false
set_option maxRecDepth 100000
namespace Go.Proofs.YtakbadleipbngaaDoor
open Go.RowKit
section
theorem block_of_add (a : Addr) (n : Nat) : (a.add n).block = a.block := by unfold Addr.add; split <;> rfl
theorem add_of_add (a : Addr) (i j : Nat) : (a.add i).add j = a.add (i + j) := by
  unfold Addr.add
  by_cases hi : i = 0 <;> by_cases hj : j = 0 <;> simp [hi, hj, Nat.add_assoc]
def Reads (w : World) (B size : Nat) (A : Option Addr) (n : Nat) (xs : List Value) : Prop :=
  xs.length = n * size ∧ (0 < n → ∃ ad, A = some ad ∧ ad.block < B ∧ ∀ j u, xs[j]? = some u → w.cell? (ad.add j) = some u)
def Sl (w : World) (v : Value) (size n : Nat) (xs : List Value) : Prop :=
  ∃ A c, v = .slice A n c ∧ n ≤ c ∧ c ≤ maxLen ∧ Reads w w.heap.size size A n xs
section
variable {w w' : World} {B B' size n : Nat} {A : Option Addr} {xs : List Value}
theorem Reads.at_ {k : Nat} (h : Reads w B 1 A n xs) (hk : k < n) : ∃ ad u, A = some ad ∧ ad.block < B ∧ xs[k]? = some u ∧ w.cell? (ad.add k) = some u := by
  obtain ⟨ad, e, hb, hc⟩ := h.2 (by omega)
  have hl : k < xs.length := by have := h.1; omega
  exact ⟨ad, xs[k], e, hb, List.getElem?_eq_getElem hl, hc k _ (List.getElem?_eq_getElem hl)⟩
theorem Reads.keep (h : Reads w B size A n xs) (hk : ∀ p : Addr, p.block < B → w'.cell? p = w.cell? p) : Reads w' B size A n xs :=
  ⟨h.1, fun hn => by
    obtain ⟨ad, e, hb, hc⟩ := h.2 hn
    exact ⟨ad, e, hb, fun j u hu => (hk _ (by rw [block_of_add]; exact hb)).trans (hc j u hu)⟩⟩
theorem Reads.more (h : Reads w B size A n xs) (hB : B ≤ B') : Reads w B' size A n xs :=
  ⟨h.1, fun hn => by
    obtain ⟨ad, e, hb, hc⟩ := h.2 hn
    exact ⟨ad, e, by omega, hc⟩⟩
theorem Reads.below (h : Reads w B size A n xs) (hb : Below B w w') : Reads w' B size A n xs := h.keep fun _ hp => hb.cell hp
theorem Reads.alloc (h : Reads w B size A n xs) (hB : B ≤ w.heap.size) (o : Obj) : Reads (w.alloc o) B size A n xs := h.keep fun p hp => World.cell?_alloc_lt w o p (by omega)
theorem Reads.cut (h : Reads w B size A n xs) {k cap : Nat} (hk : k ≤ n) (hc : n ≤ cap) :
    Reads w B size (if cap = k then A else A.map (·.add (k * size))) (n - k) (xs.drop (k * size)) := by
  refine ⟨by rw [List.length_drop, h.1, Nat.sub_mul], fun hn => ?_⟩
  obtain ⟨ad, rfl, hb, hcell⟩ := h.2 (by omega)
  rw [if_neg (by omega)]
  refine ⟨ad.add (k * size), rfl, by rw [block_of_add]; exact hb, fun j u hu => ?_⟩
  rw [add_of_add]
  exact hcell _ u (by rw [← hu, List.getElem?_drop])
theorem Reads.first (h : Reads w B size A n xs) {k : Nat} (hk : k ≤ n) : Reads w B size A k (xs.take (k * size)) := by
  refine ⟨by rw [List.length_take, h.1]; exact Nat.min_eq_left (Nat.mul_le_mul_right _ hk), fun hn => ?_⟩
  obtain ⟨ad, rfl, hb, hcell⟩ := h.2 (by omega)
  refine ⟨ad, rfl, hb, fun j u hu => hcell j u ?_⟩
  rw [List.getElem?_take] at hu
  split at hu
  · exact hu
  · simp at hu
theorem Reads.of_own {base : Nat} {e : TypeId} {c : Nat} (h : w.ownsRow base e size (.slice A n c) n xs) : Reads w w.heap.size size A n xs := by
  refine ⟨h.1, fun hn => ?_⟩
  obtain ⟨g, cap, hv, _, hlt⟩ := h.form hn
  have hA : A = some ⟨g, 0, none⟩ := by injection hv
  subst hA
  exact ⟨_, rfl, hlt, h.cells (g := g) rfl⟩
theorem Reads.new (w : World) (cs : Array Value) (e : TypeId) (hl : cs.toList.length = n * size) :
    Reads (w.alloc (.cells cs e)) (w.heap.size + 1) size (some ⟨w.heap.size, 0, none⟩) n cs.toList := by
  refine ⟨hl, fun _ => ⟨_, rfl, by simp, fun j u hu => ?_⟩⟩
  rw [Addr.add_lit, World.cell?_alloc_at _ _ _ _ rfl]
  simpa using hu
theorem Reads.elem {α : Type} {f : α → Value} {l : List α} {k : Nat} (h : Reads w B 1 A n (l.map f)) (hk : k < l.length) (hn : n = l.length) :
    ∃ ad x, A = some ad ∧ ad.block < B ∧ l[k]? = some x ∧ w.cell? (ad.add k) = some (f x) := by
  obtain ⟨ad, u, e, hb, hu, hc⟩ := h.at_ (show k < n by omega)
  refine ⟨ad, l[k], e, hb, List.getElem?_eq_getElem hk, ?_⟩
  rw [List.getElem?_map, List.getElem?_eq_getElem hk] at hu
  rw [hc, ← hu]; rfl
theorem Sl.below {v : Value} (h : Sl w v size n xs) (hb : Below w.heap.size w w') : Sl w' v size n xs := by
  obtain ⟨A, c, rfl, h1, h2, hr⟩ := h
  exact ⟨A, c, rfl, h1, h2, (hr.below hb).more hb.size⟩
theorem Sl.alloc {v : Value} (h : Sl w v size n xs) (o : Obj) : Sl (w.alloc o) v size n xs := by
  obtain ⟨A, c, rfl, h1, h2, hr⟩ := h
  exact ⟨A, c, rfl, h1, h2, (hr.alloc (Nat.le_refl _) o).more (by simp)⟩
theorem Sl.of_own {base : Nat} {e : TypeId} {v : Value} (h : w.ownsRow base e size v n xs) : Sl w v size n xs := by
  rcases h.2 with ⟨rfl, rfl⟩ | ⟨g, cap, cur, rfl, _, _, hnc, hcm, _⟩
  · exact ⟨none, 0, rfl, Nat.le_refl _, by simp [maxLen], Reads.of_own h⟩
  · exact ⟨_, cap, rfl, hnc, hcm, Reads.of_own h⟩
end
theorem own_below {w w' : World} {base : Nat} {e : TypeId} {size : Nat} {v : Value} {n : Nat} {xs : List Value} (h : w.ownsRow base e size v n xs) (hb : Below w.heap.size w w') : w'.ownsRow base e size v n xs := by
  refine ⟨h.1, ?_⟩
  rcases h.2 with h0 | ⟨g, cap, cur, rfl, hg, hh, r⟩
  · exact .inl h0
  · have hlt : g < w.heap.size := by
      rcases Nat.lt_or_ge g w.heap.size with hlt | hge
      · exact hlt
      · rw [Array.getElem?_eq_none hge] at hh; cases hh
    exact .inr ⟨g, cap, cur, rfl, hg, (hb.block g hlt).trans hh, r⟩
theorem own_mono {w : World} {base base' : Nat} {e : TypeId} {size : Nat} {v : Value} {n : Nat} {xs : List Value} (h : w.ownsRow base e size v n xs) (hb : base' ≤ base) : w.ownsRow base' e size v n xs := by
  refine ⟨h.1, ?_⟩
  rcases h.2 with h0 | ⟨g, cap, cur, hv, hg, r⟩
  · exact .inl h0
  · exact .inr ⟨g, cap, cur, hv, by omega, r⟩
def bv (u : UInt8) : Value := .int .u8 (u.toNat : Int)
theorem bv_ofNat (n : Nat) (h : n < 256) : bv (UInt8.ofNat n) = .int .u8 (n : Int) := by
  unfold bv
  rw [UInt8.toNat_ofNat', Nat.mod_eq_of_lt h]
theorem bvs_one (l : List UInt8) : ∀ u ∈ l.map bv, u.oneCell' = true := by
  intro u hu
  obtain ⟨_, _, rfl⟩ := List.mem_map.1 hu
  rfl
theorem strCells_bv (s : ByteArray) : Lib.strCells s = s.data.toList.map bv := rfl
section
variable {P : Program}
theorem run_bytes_string (w : World) (src dst e : TypeId) (hs : P.underlying src = some (.slice e)) (he : P.underlying e = some (.int .u8)) (hd : P.underlying dst = some .string)
    {v : Value} {l : List UInt8} (h : Sl w v 1 l.length (l.map bv)) : (convert src dst v).run P w = .ok (.string ⟨l.toArray⟩) w := by
  obtain ⟨A, c, rfl, _, _, hr⟩ := h
  cases A with
  | none =>
    have h0 : l.length = 0 := by
      rcases Nat.eq_zero_or_pos l.length with h0 | h0
      · exact h0
      · obtain ⟨_, h, _⟩ := hr.2 h0; cases h
    have h1 : l = [] := List.eq_nil_of_length_eq_zero h0
    subst h1
    exact run_convert_bytes_nil w src e hs he _ _ dst hd
  | some ad =>
    refine run_convert_bytes_back w src dst e ad c l hs he hd (fun j hj => ?_)
    obtain ⟨ad', h, _, hc⟩ := hr.2 (by omega)
    injection h with h
    subst h
    exact hc j (bv l[j]) (by rw [List.getElem?_map, List.getElem?_eq_getElem hj]; rfl)
theorem wpList_bytes_string {ops : Array Oper} {rest : List Oper} {o : Oper} {a : Act} {w : World} {Q : Exit → Act → World → Prop} (hgd : o.guard = none) (src dst e : TypeId) (x : Operand) (ho : o.op = .convert src dst x)
    (hs : P.underlying src = some (.slice e)) (he : P.underlying e = some (.int .u8)) (hd : P.underlying dst = some .string)
    {v : Value} (hx : a.eval x = v) (l : List UInt8) (h : Sl w v 1 l.length (l.map bv)) (hk : wpList P ops Q rest (a.put o.dst (.string ⟨l.toArray⟩)) w) : wpList P ops Q (o :: rest) a w := by
  refine wpList_plain hgd fun K hK => ?_
  unfold Oper.wp execOp
  simp only [ho, hx, Sem.run_bind, Sem.run_pure, Result.andThen_ok, run_bytes_string w src dst e hs he hd h]
  exact hK _ _ hk
end
structure El (P : Program) (t e : TypeId) (z : Value) (size bytes : Nat) : Prop where
  ht : P.underlying t = some (.slice e)
  info : ∃ i, P.info? e = some i ∧ i.zero = some z ∧ i.size = size ∧ i.bytes = bytes
  hzs : z.cells.size = size
  hsz : 0 < size
section
variable {P : Program} (w : World)
theorem run_append_of_nil (base : Nat) (t ty e : TypeId) (i : TypeInfo) (size : Nat) (ht : P.underlying t = some (.slice e)) (hi : P.info? e = some i)
    (v : Value) (n : Nat) (xs : List Value) (hown : w.ownsRow base e size v n xs) (c : Nat) : (Builtin.append_ #[t, t] ty #[v, .slice none 0 c]).run P w = .ok v w := by
  rcases hown.2 with ⟨rfl, rfl⟩ | ⟨g, cap, cur, rfl, _, _, hnc, _⟩
  · simp [Builtin.append_, run_underlying ht, sizeOf, typeInfo, hi, Builtin.lenOf, Builtin.firstCells]
  · simp [Builtin.append_, run_underlying ht, sizeOf, typeInfo, hi, Builtin.lenOf, Builtin.firstCells, hnc, storeCells]
theorem run_append_any (base : Nat) (t ty e : TypeId) (i : TypeInfo) (z : Value) (size bytes : Nat) (ht : P.underlying t = some (.slice e)) (hi : P.info? e = some i) (hz : i.zero = some z)
    (hsize : i.size = size) (hby : i.bytes = bytes) (hzs : z.cells.size = size) (hsz : 0 < size)
    (v : Value) (n : Nat) (xs : List Value) (hown : w.ownsRow base e size v n xs)
    (B : Nat) (A : Option Addr) (m c : Nat) (news : List Value) (hr : Reads w B size A m news) (h1 : ∀ u ∈ news, u.oneCell' = true)
    (h63 : n + m ≤ maxLen) (hbytes : (n + m) * bytes ≤ 140737488355328) (hbase : base ≤ w.heap.size) :
    ∃ v' w', (Builtin.append_ #[t, t] ty #[v, .slice A m c]).run P w = .ok v' w' ∧ w'.ownsRow base e size v' (n + m) (xs ++ news) ∧ w.grownBy w' v.ownBlock ∧
      (v'.ownBlock = v.ownBlock ∨ v'.ownBlock = some w.heap.size) := by
  rcases A with _ | ad
  · have hm : m = 0 := by
      rcases Nat.eq_zero_or_pos m with h0 | h0
      · exact h0
      · obtain ⟨ad, h, _⟩ := hr.2 h0
        cases h
    subst hm
    have hn : news = [] := List.eq_nil_of_length_eq_zero (by simpa using hr.1)
    subst hn
    exact ⟨v, w, run_append_of_nil w base t ty e i size ht hi v n xs hown c, by simpa using hown, World.grownBy.refl w _, .inl rfl⟩
  · have hcells : ∀ j u, news[j]? = some u → w.cell? (ad.add j) = some u := by
      intro j u hu
      rcases Nat.eq_zero_or_pos m with h0 | h0
      · subst h0
        have hn : news = [] := List.eq_nil_of_length_eq_zero (by simpa using hr.1)
        subst hn
        simp at hu
      · obtain ⟨ad', h, _, hc⟩ := hr.2 h0
        injection h with h
        subst h
        exact hc j u hu
    obtain ⟨v', w', hrun, h2, h3, _, h5⟩ := run_append_own_at (P := P) w base t ty e i z size bytes ht hi hz hsize hby hzs hsz v n xs hown ad m c news hr.1 hcells h1 h63 hbytes hbase
    exact ⟨v', w', hrun, h2, h3, h5⟩
theorem wp_append_any {o : Oper} {a : Act} {K : Act → World → Prop} {Q : Exit → Act → World → Prop} (s x : Operand) (t : TypeId)
    (ho : o.op = .call { callee := .builtin .append, args := #[s, x], argTypes := #[t, t] })
    {e : TypeId} {z : Value} {size bytes : Nat} (el : El P t e z size bytes) (base : Nat) 
    (v : Value) (n : Nat) (xs : List Value) (hs : a.eval s = v) (hown : w.ownsRow base e size v n xs)
    (vx : Value) (m : Nat) (news : List Value) (hx : a.eval x = vx) (hr : Sl w vx size m news) (h1 : ∀ u ∈ news, u.oneCell' = true)
    (hbytes : (n + m) * bytes ≤ 140737488355328) (h63 : n + m ≤ 140737488355328) (hbase : base ≤ w.heap.size)
    (h : ∀ v' w', w'.ownsRow base e size v' (n + m) (xs ++ news) → w.grownBy w' v.ownBlock → (v'.ownBlock = v.ownBlock ∨ v'.ownBlock = some w.heap.size) → K (a.put o.dst v') w') : o.wp P a w K Q := by
  obtain ⟨i, hi, hz, hsize, hby⟩ := el.info
  obtain ⟨A, c, rfl, _, _, hr⟩ := hr
  obtain ⟨v', w', hrun, h2, h3, h4⟩ := run_append_any (P := P) w base t o.type e i z size bytes el.ht hi hz hsize hby el.hzs el.hsz v n xs hown _ A m c news hr h1 (by unfold maxLen; omega) hbytes hbase
  unfold Oper.wp execOp
  simp only [ho, resolve, invoke, builtin, Sem.run_bind, Sem.run_pure, Result.andThen_ok, List.map_toArray, List.map_cons, List.map_nil, hs, hx, hrun]
  exact h v' w' h2 h3 h4
theorem wpList_append_any {ops : Array Oper} {rest : List Oper} {o : Oper} {a : Act} {Q : Exit → Act → World → Prop} (hgd : o.guard = none) (s x : Operand) (t : TypeId)
    (ho : o.op = .call { callee := .builtin .append, args := #[s, x], argTypes := #[t, t] })
    {e : TypeId} {z : Value} {size bytes : Nat} (el : El P t e z size bytes) (base : Nat) 
    (v : Value) (n : Nat) (xs : List Value) (hs : a.eval s = v) (hown : w.ownsRow base e size v n xs)
    (vx : Value) (m : Nat) (news : List Value) (hx : a.eval x = vx) (hr : Sl w vx size m news) (h1 : ∀ u ∈ news, u.oneCell' = true)
    (hbytes : (n + m) * bytes ≤ 140737488355328) (h63 : n + m ≤ 140737488355328) (hbase : base ≤ w.heap.size)
    (h : ∀ v' w', w'.ownsRow base e size v' (n + m) (xs ++ news) → w.grownBy w' v.ownBlock → (v'.ownBlock = v.ownBlock ∨ v'.ownBlock = some w.heap.size) → wpList P ops Q rest (a.put o.dst v') w') : wpList P ops Q (o :: rest) a w :=
  wpList_plain hgd fun _ hK => wp_append_any w s x t ho el base v n xs hs hown vx m news hx hr h1 hbytes h63 hbase fun v' w' h2 h3 h4 => hK _ _ (h v' w' h2 h3 h4)
theorem Sl.built (w : World) (cs : Array Value) (e : TypeId) (n size : Nat) (hl : cs.size = n * size) (hn : n ≤ maxLen) : Sl (w.alloc (.cells cs e)) (.slice (some ⟨w.heap.size, 0, none⟩) n n) size n cs.toList :=
  ⟨_, _, rfl, Nat.le_refl _, hn, (Reads.new w cs e (by simpa using hl)).more (by simp)⟩
theorem wpList_append_one {ops : Array Oper} {rest : List Oper} {o : Oper} {a : Act} {Q : Exit → Act → World → Prop} (hgd : o.guard = none) (s x : Operand) (t : TypeId)
    (ho : o.op = .call { callee := .builtin .append, args := #[s, x], argTypes := #[t, t] })
    {e : TypeId} {z : Value} {bytes : Nat} (el : El P t e z 1 bytes) (base : Nat) 
    (v : Value) (n : Nat) (xs : List Value) (hs : a.eval s = v) (hown : w.ownsRow base e 1 v n xs)
    (u : Value) (hx : a.eval x = .slice (some ⟨w.heap.size, 0, none⟩) 1 1) (h1 : u.oneCell' = true)
    (hbytes : (n + 1) * bytes ≤ 140737488355328) (h63 : n + 1 ≤ 140737488355328) (hbase : base ≤ w.heap.size) (w0 : World) (B : Nat) (hB : Below B w0 w) (hBb : B ≤ base)
    (h : ∀ v' w', w'.ownsRow base e 1 v' (n + 1) (xs ++ [u]) → Below B w0 w' → wpList P ops Q rest (a.put o.dst v') w') : wpList P ops Q (o :: rest) a (w.alloc (.cells #[u] e)) :=
  wpList_append_any _ hgd s x t ho el base v n xs hs (hown.alloc _) _ 1 [u] hx (Sl.built w #[u] e 1 1 rfl (by simp [maxLen])) (by simpa using h1) hbytes h63 (by simp; omega) fun v' w' h2 h3 _ =>
    h v' w' h2 ((hB.alloc (by omega) _).grown h3 (by simp; omega) (fun k hk => by have := (hown.lt k hk).1; omega))
theorem wpList_append_all {ops : Array Oper} {rest : List Oper} {o : Oper} {a : Act} {Q : Exit → Act → World → Prop} (hgd : o.guard = none) (s x : Operand) (t : TypeId)
    (ho : o.op = .call { callee := .builtin .append, args := #[s, x], argTypes := #[t, t] })
    {e : TypeId} {z : Value} {size bytes : Nat} (el : El P t e z size bytes) (base : Nat) 
    (v : Value) (n : Nat) (xs : List Value) (hs : a.eval s = v) (hown : w.ownsRow base e size v n xs)
    (vx : Value) (m : Nat) (news : List Value) (hx : a.eval x = vx) (hr : Sl w vx size m news) (h1 : ∀ u ∈ news, u.oneCell' = true)
    (hbytes : (n + m) * bytes ≤ 140737488355328) (h63 : n + m ≤ 140737488355328) (hbase : base ≤ w.heap.size) (w0 : World) (B : Nat) (hB : Below B w0 w) (hBb : B ≤ base)
    (h : ∀ v' w', w'.ownsRow base e size v' (n + m) (xs ++ news) → Below B w0 w' → wpList P ops Q rest (a.put o.dst v') w') : wpList P ops Q (o :: rest) a w :=
  wpList_append_any _ hgd s x t ho el base v n xs hs hown vx m news hx hr h1 hbytes h63 hbase fun v' w' h2 h3 _ =>
    h v' w' h2 (hB.grown h3 (by omega) (fun k hk => by have := (hown.lt k hk).1; omega))
theorem wpList_append_str {ops : Array Oper} {rest : List Oper} {o : Oper} {a : Act} {Q : Exit → Act → World → Prop} (hgd : o.guard = none) (sl x : Operand) (t u : TypeId)
    (ho : o.op = .call { callee := .builtin .append, args := #[sl, x], argTypes := #[t, u] }) (hu : P.underlying u = some .string)
    {e : TypeId} (el : El P t e (.int .u8 0) 1 1) (base : Nat) 
    (v : Value) (n : Nat) (xs : List Value) (hs : a.eval sl = v) (hown : w.ownsRow base e 1 v n xs) (s : ByteArray) (hx : a.eval x = .string s)
    (hbytes : n + s.size ≤ 140737488355328) (hbase : base ≤ w.heap.size) (w0 : World) (B : Nat) (hB : Below B w0 w) (hBb : B ≤ base)
    (h : ∀ v' w', w'.ownsRow base e 1 v' (n + s.size) (xs ++ Lib.strCells s) → Below B w0 w' → wpList P ops Q rest (a.put o.dst v') w') : wpList P ops Q (o :: rest) a w := by
  obtain ⟨i, hi, hz, hsize, hby⟩ := el.info
  exact Lib.wpList_append_own_string _ hgd sl x t u ho base e i el.ht hu hi hz hsize hby v n xs hs hown s hx (by unfold maxLen; omega) hbytes hbase fun v' w' h2 h3 _ =>
    h v' w' h2 (hB.grown h3 (by omega) (fun k hk => by have := (hown.lt k hk).1; omega))
end
def Agg (P : Program) (ty : TypeId) (n : Nat) : Prop := (∃ d : TypeDesc, P.underlying ty = some d ∧ d.isRow = true) ∧ (P.info? ty).map (·.size) = some n
section
variable {P : Program}
theorem wpList_load_cells {ops : Array Oper} {rest : List Oper} {o : Oper} {a : Act} {w : World} {Q : Exit → Act → World → Prop} (hgd : o.guard = none) (ty : TypeId) (x : Operand) (ho : o.op = .load ty x)
    (ad : Addr) (hx : a.eval x = .pointer (some ad)) (cs : List Value) {n : Nat} (ag : Agg P ty n) (hl : cs.length = n) (hc : ∀ j u, cs[j]? = some u → w.cell? (ad.add j) = some u)
    (h : wpList P ops Q rest (a.put o.dst (.agg cs.toArray)) w) : wpList P ops Q (o :: rest) a w := by
  obtain ⟨⟨d, hu, hd⟩, hi⟩ := ag
  have hr := run_loadCells_list (P := P) w ad cs hc
  refine wpList_plain hgd fun K hK => ?_
  have hlv : (loadVar ty ad).run P w = .ok (.agg cs.toArray) w := by
    cases hq : P.info? ty with
    | none => simp [hq] at hi
    | some i =>
      have hs : i.size = cs.length := by rw [hl]; simpa [hq] using hi
      have hagg : (isAgg ty).run P w = .ok true w := by
        unfold isAgg
        rw [Sem.run_bind, run_underlying hu w]
        cases d <;> simp_all
      simp [loadVar, Sem.run_bind, hagg, sizeOf, typeInfo, hq, hs, hr]
  unfold Oper.wp execOp
  simp only [ho, hx, Instr.loadAt, Instr.sureAddr, Sem.run_bind, Sem.run_pure, Result.andThen_ok, hlv]
  exact hK _ _ h
theorem wpList_store_fresh {ops : Array Oper} {rest : List Oper} {o : Oper} {a : Act} {w : World} {Q : Exit → Act → World → Prop} (hgd : o.guard = none) (ty : TypeId) (x y : Operand) (ho : o.op = .store ty x y)
    (c c' : Array Value) (hx : a.eval x = .pointer (some ⟨w.heap.size, 0, none⟩)) (hy : a.eval y = .agg c') {n : Nat} (ag : Agg P ty n) (hl : c.size = n) (hl' : c'.size = n) (h1 : ∀ u ∈ c'.toList, u.oneCell' = true)
    (h : wpList P ops Q rest (a.put o.dst undef) (w.alloc (.cells c' ty))) : wpList P ops Q (o :: rest) a (w.alloc (.cells c ty)) := by
  refine wpList_plain hgd fun K hK => ?_
  have hst := run_storeAt_new (P := P) w ty c c' (by rw [ag.2, hl']) (by rw [hl, hl']) (by rw [Array.all_eq_true]; intro i hi; exact h1 _ (by simp))
  unfold Oper.wp execOp
  simp only [ho, hx, hy, Sem.run_bind, Sem.run_pure, Result.andThen_ok, hst]
  exact hK _ _ h
end
end
section
section
variable {P : Program} {w : World}
theorem Sl.sub {A : Option Addr} {c size n : Nat} {xs : List Value} (h : Sl w (.slice A n c) size n xs) (lo hi : Nat) (h1 : lo ≤ hi) (h2 : hi ≤ n) :
    Sl w (.slice (if c = lo then A else A.map (·.add (lo * size))) (hi - lo) (c - lo)) size (hi - lo) ((xs.drop (lo * size)).take ((hi - lo) * size)) := by
  obtain ⟨A', c', he, hnc, hcm, hr⟩ := h
  injection he with e1 e2 e3
  subst e1; subst e3
  have h := (hr.cut (k := lo) (cap := c) (by omega) hnc).first (k := hi - lo) (by omega)
  exact ⟨_, _, rfl, by omega, by omega, h⟩
theorem Sl.le_cap {A : Option Addr} {c size n m : Nat} {xs : List Value} (h : Sl w (.slice A n c) size m xs) : n ≤ c ∧ c ≤ maxLen := by
  obtain ⟨A', c', he, h1, h2, _⟩ := h
  injection he with e1 e2 e3
  omega
theorem run_sizeOf_el {t e : TypeId} {z : Value} {size bytes : Nat} (el : El P t e z size bytes) (w : World) : (sizeOf e).run P w = .ok size w := by
  obtain ⟨i, hi, _, hs, _⟩ := el.info
  simp [sizeOf, typeInfo, hi, hs]
theorem wpList_slice_lh {ops : Array Oper} {rest : List Oper} {o : Oper} {a : Act} {Q : Exit → Act → World → Prop} (hgd : o.guard = none) (t : TypeId) (x l h : Operand) (ho : o.op = .slice t x (some l) (some h) none)
    {e : TypeId} {z : Value} {size bytes : Nat} (el : El P t e z size bytes) {A : Option Addr} {n c : Nat} {xs : List Value} (hx : a.eval x = .slice A n c) (hr : Sl w (.slice A n c) size n xs)
    (kl kh : IntKind) (lo hi : Nat) {il ih : Int} (hl : a.eval l = .int kl il) (hh : a.eval h = .int kh ih) (el1 : il = (lo : Int)) (eh1 : ih = (hi : Int)) (h1 : lo ≤ hi) (h2 : hi ≤ n)
    (hk : ∀ X d m, m = hi - lo → Sl w (.slice X m d) size m ((xs.drop (lo * size)).take (m * size)) → wpList P ops Q rest (a.put o.dst (.slice X m d)) w) : wpList P ops Q (o :: rest) a w := by
  refine wpList_plain hgd fun K hK => ?_
  have hle := hr.le_cap
  subst el1; subst eh1
  have hrun : (Instr.slice t (.slice A n c) (some (.int kl (lo : Int))) (some (.int kh (hi : Int))) none).run P w = .ok (.slice (if c = lo then A else A.map (·.add (lo * size))) (hi - lo) (c - lo)) w := by
    simp [Instr.slice, run_underlying el.ht, Instr.sliceBounds, run_sliceBound, run_sizeOf_el el, (by omega : hi ≤ c), h1]
  have hrun' : (Instr.sliceAt t (.slice A n c) (some (.int kl (lo : Int))) (some (.int kh (hi : Int))) none).run P w = .ok (.slice (if c = lo then A else A.map (·.add (lo * size))) (hi - lo) (c - lo)) w := by
    rw [← hrun]
    simp [Instr.sliceAt, run_underlying el.ht]
  unfold Oper.wp execOp
  simp only [ho, Option.map_some, Option.map_none, hx, hl, hh, Sem.run_bind, Sem.run_pure, Result.andThen_ok, hrun']
  exact hK _ _ (hk _ _ _ rfl (hr.sub lo hi h1 h2))
end
end
section
inductive E where
  | lit (v : Value)
  | sl (z n : Nat) (xs : List E)
  | any
  deriving Inhabited
inductive RepE (w : World) (F : Addr → Prop) : E → Value → Prop
  | lit (u : Value) (h : u.oneCell' = true) : RepE w F (.lit u) u
  | any (v : Value) (h : v.oneCell' = true) : RepE w F .any v
  | sl (z n : Nat) (xs : List E) (A : Option Addr) (c : Nat) (us : Nat → Value) (hl : xs.length = n * z) (hz : 0 < z) (hnc : n ≤ c) (hcm : c ≤ maxLen)
      (hA : 0 < n → ∃ ad, A = some ad ∧ ad.block < w.heap.size)
      (hc : ∀ ad, A = some ad → ∀ j x, xs[j]? = some x → w.cell? (ad.add j) = some (us j) ∧ ¬ F (ad.add j))
      (hr : ∀ j x, xs[j]? = some x → RepE w F x (us j)) : RepE w F (.sl z n xs) (.slice A n c)
theorem RepE.one {w : World} {F : Addr → Prop} {x : E} {v : Value} (h : RepE w F x v) : v.oneCell' = true := by
  cases h <;> first | assumption | rfl
theorem RepE.mono {w w' : World} {F F' : Addr → Prop} {x : E} {v : Value} (h : RepE w F x v) (hs : w.heap.size ≤ w'.heap.size)
    (hc : ∀ p : Addr, p.block < w.heap.size → ¬ F p → w'.cell? p = w.cell? p) (hF : ∀ p : Addr, p.block < w.heap.size → F' p → F p) : RepE w' F' x v := by
  induction h with
  | lit u h => exact .lit u h
  | any v h => exact .any v h
  | sl z n xs A c us hl hz hnc hcm hA hcc hr ih =>
    refine .sl z n xs A c us hl hz hnc hcm (fun hn => ?_) (fun ad ha j x hx => ?_) ih
    · obtain ⟨ad, e, hb⟩ := hA hn
      exact ⟨ad, e, by omega⟩
    · obtain ⟨h1, h2⟩ := hcc ad ha j x hx
      have hn : 0 < n := by
        have : j < xs.length := by
          rcases Nat.lt_or_ge j xs.length with h | h
          · exact h
          · rw [List.getElem?_eq_none h] at hx; cases hx
        rcases Nat.eq_zero_or_pos n with h0 | h0
        · subst h0; omega
        · exact h0
      obtain ⟨ad', e, hb⟩ := hA hn
      rw [ha] at e
      injection e with e
      subst e
      have hb' : (ad.add j).block < w.heap.size := by rw [block_of_add]; exact hb
      exact ⟨(hc _ hb' h2).trans h1, fun hf => h2 (hF _ hb' hf)⟩
inductive D where
  | e (x : E)
  | own (id z n : Nat) (xs : List E)
  | fu (z n : Nat) (xs : List E)
  | ag (ds : List D)
  | tu (ds : List D)
  | fp (xs : List E) (off : Nat)
  | pt (k off : Nat)
  | ow (k off z n : Nat)
  | gw (k z n : Nat)
  | fn (f : FuncId) (ks : List Nat)
  | opt (b : Bool) (d : D)
  | top
  deriving Inhabited
def D.isE : D → Bool
  | .e _ => true
  | .fu _ _ _ => true
  | .fp _ _ => true
  | _ => false
def D.idsC (m : Nat) : D → Bool
  | .e _ => true
  | .fu _ _ _ => true
  | .fp _ _ => true
  | .own id _ _ _ => decide (id < m)
  | .pt k _ => decide (k < m)
  | .ow k _ _ _ => decide (k < m)
  | .gw k _ _ => decide (k < m)
  | .fn _ ks => ks.all fun k => decide (k < m)
  | .top => true
  | .opt _ (.ag ds) => ds.all D.isE
  | .opt _ d => d.idsC m
  | _ => false
theorem D.idsC_le {m m' : Nat} (h : m ≤ m') : ∀ {d : D}, d.idsC m = true → d.idsC m' = true
  | .e _, _ => rfl
  | .fu _ _ _, _ => rfl
  | .fp _ _, _ => rfl
  | .top, _ => rfl
  | .own id _ _ _, h' => by simp only [D.idsC, decide_eq_true_eq] at h' ⊢; omega
  | .pt k _, h' => by simp only [D.idsC, decide_eq_true_eq] at h' ⊢; omega
  | .ow k _ _ _, h' => by simp only [D.idsC, decide_eq_true_eq] at h' ⊢; omega
  | .gw k _ _, h' => by simp only [D.idsC, decide_eq_true_eq] at h' ⊢; omega
  | .fn _ ks, h' => by simp only [D.idsC, List.all_eq_true, decide_eq_true_eq] at h' ⊢; exact fun k hk => Nat.lt_of_lt_of_le (h' k hk) h
  | .opt _ (.ag ds), h' => h'
  | .opt _ (.e _), _ => rfl
  | .opt _ (.fu _ _ _), _ => rfl
  | .opt _ (.fp _ _), _ => rfl
  | .opt _ .top, _ => rfl
  | .opt _ (.own id z n xs), h' => D.idsC_le (d := .own id z n xs) h h'
  | .opt _ (.pt k o), h' => D.idsC_le (d := .pt k o) h h'
  | .opt _ (.ow k o z n), h' => D.idsC_le (d := .ow k o z n) h h'
  | .opt _ (.gw k z n), h' => D.idsC_le (d := .gw k z n) h h'
  | .opt _ (.fn f ks), h' => D.idsC_le (d := .fn f ks) h h'
  | .opt _ (.opt b d), h' => D.idsC_le (d := .opt b d) h h'
  | .opt _ (.tu _), h' => by cases h'
  | .ag _, h' => by cases h'
  | .tu _, h' => by cases h'
structure Hp where
  vars : List (Nat × List D)
  live : List (Nat × Nat × Nat × TypeId)
  next : Nat
structure Gh where
  μ : Nat → Nat
  τ : Nat → Value
  F : Addr → Prop
inductive RepD (hp : Hp) (g : Gh) (w : World) : D → Value → Prop
  | e (x : E) (v : Value) (h : RepE w g.F x v) : RepD hp g w (.e x) v
  | own (id z n : Nat) (xs : List E) (v : Value) (h : RepE w g.F (.sl z n xs) v) (hid : id < hp.next)
      (ht : ∀ m e, hp.live.lookup id = some (m, e) → n ≤ m ∧ e.1 = z ∧ (n = m → v = g.τ id)) : RepD hp g w (.own id z n xs) v
  | fu (z n : Nat) (xs : List E) (A : Option Addr) (h : RepE w g.F (.sl z n xs) (.slice A n n)) : RepD hp g w (.fu z n xs) (.slice A n n)
  | ag (ds : List D) (cs : Array Value) (hl : cs.size = ds.length) (h1 : ∀ (j : Nat) (u : Value), cs[j]? = some u → u.oneCell' = true)
      (hr : ∀ (j : Nat) (d : D) (u : Value), ds[j]? = some d → cs[j]? = some u → RepD hp g w d u) : RepD hp g w (.ag ds) (.agg cs)
  | tu (ds : List D) (cs : Array Value) (hl : cs.size = ds.length)
      (hr : ∀ (j : Nat) (d : D) (u : Value), ds[j]? = some d → cs[j]? = some u → RepD hp g w d u) : RepD hp g w (.tu ds) (.tuple cs)
  | fp (xs : List E) (off : Nat) (ad : Addr) (hb : ad.block < w.heap.size) (hc : ∀ j x, xs[j]? = some x → ∃ u, w.cell? (ad.add j) = some u ∧ ¬ g.F (ad.add j) ∧ RepE w g.F x u) :
      RepD hp g w (.fp xs off) (.pointer (some (ad.add off)))
  | pt (k off : Nat) (hk : k < hp.next) : RepD hp g w (.pt k off) (.pointer (some ⟨g.μ k, off, none⟩))
  | ow (k off z n c : Nat) (hk : k < hp.next) (hnc : n ≤ c) (hcm : c ≤ maxLen) : RepD hp g w (.ow k off z n) (.slice (some ⟨g.μ k, off, none⟩) n c)
  | gw (k z n c : Nat) (hk : k < hp.next) (hnc : n ≤ c) (hcm : c ≤ maxLen) (hs : ∃ (cs : Array Value) (ty : TypeId) (l : Nat × Nat), w.heap[g.μ k]? = some (Obj.cells cs ty l) ∧ c * z ≤ cs.size) : RepD hp g w (.gw k z n) (.slice (some ⟨g.μ k, 0, none⟩) n c)
  | fn (f : FuncId) (ks : List Nat) (hk : ∀ k ∈ ks, k < hp.next) : RepD hp g w (.fn f ks) (.func (.func f) #[] (ks.map fun k => Value.pointer (some ⟨g.μ k, 0, none⟩)).toArray)
  | opt (b : Bool) (d : D) (v : Value) (hi : (D.opt b d).idsC hp.next = true) (h : b = true → RepD hp g w d v) : RepD hp g w (.opt b d) v
  | top (v : Value) : RepD hp g w .top v
def Free (hp : Hp) (g : Gh) (b : Nat) : Prop := (∀ k ds, hp.vars.lookup k = some ds → g.μ k ≠ b) ∧ ∀ id t, hp.live.lookup id = some t → (g.τ id).ownBlock ≠ some b
def SzB (w w' : World) (b : Nat) : Prop := ∀ (cs : Array Value) (ty : TypeId) (l : Nat × Nat), w.heap[b]? = some (Obj.cells cs ty l) → ∃ cs' : Array Value, w'.heap[b]? = some (Obj.cells cs' ty l) ∧ cs'.size = cs.size
theorem SzB.same {w w' : World} {b : Nat} (h : b < w.heap.size → w'.heap[b]? = w.heap[b]?) : SzB w w' b := fun cs _ _ hc => ⟨cs, (h (Array.getElem?_eq_some_iff.1 hc).1).trans hc, rfl⟩
structure Mono (hp : Hp) (g : Gh) (w : World) (hp' : Hp) (g' : Gh) (w' : World) : Prop where
  size : w.heap.size ≤ w'.heap.size
  cell : ∀ p : Addr, p.block < w.heap.size → ¬ g.F p → w'.cell? p = w.cell? p
  forb : ∀ p : Addr, p.block < w.heap.size → g'.F p → g.F p
  next : hp.next ≤ hp'.next
  μ : ∀ k, k < hp.next → g'.μ k = g.μ k
  live : ∀ id, id < hp.next → ∀ m e, hp'.live.lookup id = some (m, e) → ∃ m0, hp.live.lookup id = some (m0, e) ∧ m0 ≤ m ∧ (m0 = m → g'.τ id = g.τ id)
  fr : ∀ b, b < w.heap.size → Free hp g b → w'.heap[b]? = w.heap[b]? ∧ (∀ p : Addr, p.block = b → g.F p → g'.F p) ∧ Free hp' g' b
  szs : ∀ b, SzB w w' b
theorem Mono.refl (hp : Hp) (g : Gh) (w : World) : Mono hp g w hp g w :=
  ⟨Nat.le_refl _, fun _ _ _ => rfl, fun _ _ h => h, Nat.le_refl _, fun _ _ => rfl, fun _ _ m _ h => ⟨m, h, Nat.le_refl _, fun _ => rfl⟩, fun _ _ h => ⟨rfl, fun _ _ h => h, h⟩, fun _ => .same fun _ => rfl⟩
theorem Mono.trans {hp hp' hp'' : Hp} {g g' g'' : Gh} {w w' w'' : World} (h : Mono hp g w hp' g' w') (h' : Mono hp' g' w' hp'' g'' w'') : Mono hp g w hp'' g'' w'' :=
  ⟨Nat.le_trans h.size h'.size, fun p hb hf => (h'.cell p (Nat.lt_of_lt_of_le hb h.size) (fun hf' => hf (h.forb p hb hf'))).trans (h.cell p hb hf),
    fun p hb hf => h.forb p hb (h'.forb p (Nat.lt_of_lt_of_le hb h.size) hf), Nat.le_trans h.next h'.next,
    fun k hk => (h'.μ k (Nat.lt_of_lt_of_le hk h.next)).trans (h.μ k hk),
    fun id hid m e hm => by
      obtain ⟨m1, h1, h2, h3⟩ := h'.live id (Nat.lt_of_lt_of_le hid h.next) m e hm
      obtain ⟨m0, h4, h5, h6⟩ := h.live id hid m1 e h1
      exact ⟨m0, h4, Nat.le_trans h5 h2, fun hh => (h3 (by omega)).trans (h6 (by omega))⟩,
    fun b hb hf => by
      obtain ⟨h1, h2, h3⟩ := h.fr b hb hf
      obtain ⟨h4, h5, h6⟩ := h'.fr b (Nat.lt_of_lt_of_le hb h.size) h3
      exact ⟨h4.trans h1, fun p hp hq => h5 p hp (h2 p hp hq), h6⟩,
    fun b cs ty l hc => by
      obtain ⟨c1, h1, h2⟩ := h.szs b cs ty l hc
      obtain ⟨c2, h3, h4⟩ := h'.szs b c1 ty l h1
      exact ⟨c2, h3, h4.trans h2⟩⟩
section
variable {hp hp' : Hp} {g g' : Gh} {w w' : World} {d : D} {v : Value} {x : E}
theorem Mono.repE (m : Mono hp g w hp' g' w') (h : RepE w g.F x v) : RepE w' g'.F x v := h.mono m.size m.cell m.forb
theorem RepD.mono (h : RepD hp g w d v) (m : Mono hp g w hp' g' w') : RepD hp' g' w' d v := by
  induction h with
  | e x v h => exact .e x v (m.repE h)
  | own id z n xs v h hid ht =>
    refine .own id z n xs v (m.repE h) (Nat.lt_of_lt_of_le hid m.next) (fun m' e hm => ?_)
    obtain ⟨m0, h1, h2, h3⟩ := m.live id hid m' e hm
    obtain ⟨h4, h6, h5⟩ := ht m0 e h1
    exact ⟨Nat.le_trans h4 h2, h6, fun hh => (h5 (by omega)).trans (h3 (by omega)).symm⟩
  | fu z n xs A h => exact .fu z n xs A (m.repE h)
  | ag ds cs hl h1 _ ih => exact .ag ds cs hl h1 ih
  | tu ds cs hl _ ih => exact .tu ds cs hl ih
  | fp xs off ad hb hc =>
    refine .fp xs off ad (Nat.lt_of_lt_of_le hb m.size) (fun j x hx => ?_)
    obtain ⟨u, h1, h2, h3⟩ := hc j x hx
    have hb' : (ad.add j).block < w.heap.size := by rw [block_of_add]; exact hb
    exact ⟨u, (m.cell _ hb' h2).trans h1, fun hf => h2 (m.forb _ hb' hf), m.repE h3⟩
  | pt k off hk => rw [← m.μ k hk]; exact .pt k off (Nat.lt_of_lt_of_le hk m.next)
  | ow k off z n c hk h1 h2 => rw [← m.μ k hk]; exact .ow k off z n c (Nat.lt_of_lt_of_le hk m.next) h1 h2
  | gw k z n c hk h1 h2 hs =>
    obtain ⟨cs, ty, l, h3, h4⟩ := hs
    obtain ⟨cs', h5, h6⟩ := m.szs _ cs ty l h3
    rw [← m.μ k hk]
    exact .gw k z n c (Nat.lt_of_lt_of_le hk m.next) h1 h2 ⟨cs', ty, l, by rw [m.μ k hk]; exact h5, by omega⟩
  | fn f ks hk =>
    have : (ks.map fun k => Value.pointer (some ⟨g.μ k, 0, none⟩)) = ks.map fun k => Value.pointer (some ⟨g'.μ k, 0, none⟩) :=
      List.map_congr_left fun k h => by rw [m.μ k (hk k h)]
    rw [this]
    exact .fn f ks (fun k h => Nat.lt_of_lt_of_le (hk k h) m.next)
  | opt b d v hi _ ih => exact .opt b d v (D.idsC_le m.next hi) ih
  | top v => exact .top v
end
structure HR (B : Nat) (hp : Hp) (g : Gh) (w : World) : Prop where
  var : ∀ k ds, hp.vars.lookup k = some ds → k < hp.next ∧ B ≤ g.μ k ∧ (∀ p : Addr, p.block = g.μ k → g.F p) ∧
    ∃ cs ty, w.heap[g.μ k]? = some (.cells cs ty (0, 0)) ∧ ds.length ≤ cs.size ∧ ∀ (j : Nat) (u : Value), cs[j]? = some u → (j < ds.length → u.oneCell' = true) ∧ ∀ d, ds[j]? = some d → RepD hp g w d u
  inj : ∀ k k' ds ds', hp.vars.lookup k = some ds → hp.vars.lookup k' = some ds' → g.μ k = g.μ k' → k = k'
  tok : ∀ id n e, hp.live.lookup id = some (n, e) → id < hp.next ∧ ∃ us, 0 < e.1 ∧ w.ownsRow B e.2 e.1 (g.τ id) n us ∧
    ∀ b, (g.τ id).ownBlock = some b → (∀ p : Addr, p.block = b → n * e.1 ≤ p.off → g.F p) ∧ ∀ k ds, hp.vars.lookup k = some ds → g.μ k ≠ b
  tinj : ∀ id id' t t' b, hp.live.lookup id = some t → hp.live.lookup id' = some t' → (g.τ id).ownBlock = some b → (g.τ id').ownBlock = some b → id = id'
  base : B ≤ w.heap.size
  fits : ∀ p : Addr, g.F p → p.block < w.heap.size
section
variable {B : Nat} {hp hp' : Hp} {g g' : Gh} {w w' : World}
theorem HR.var_lt (h : HR B hp g w) {k : Nat} {ds : List D} (hk : hp.vars.lookup k = some ds) : g.μ k < w.heap.size := by
  obtain ⟨_, _, _, cs, ty, hh, _⟩ := h.var k ds hk
  exact (Array.getElem?_eq_some_iff.1 hh).1
theorem HR.keep (h : HR B hp g w) (hs : w.heap.size ≤ w'.heap.size) (hb : ∀ b, b < w.heap.size → w'.heap[b]? = w.heap[b]?) : HR B hp g w' := by
  have m : Mono hp g w hp g w' := ⟨hs, fun _ hq _ => World.cell?_of_block (hb _ hq), fun _ _ h => h, Nat.le_refl _, fun _ _ => rfl, fun _ _ m _ h => ⟨m, h, Nat.le_refl _, fun _ => rfl⟩, fun b hq h => ⟨hb b hq, fun _ _ h => h, h⟩, fun b => .same (hb b)⟩
  refine ⟨fun k ds hk => ?_, h.inj, fun id n e hi => ?_, h.tinj, Nat.le_trans h.base hs, fun p hf => Nat.lt_of_lt_of_le (h.fits p hf) hs⟩
  · have hlt := h.var_lt hk
    obtain ⟨h1, h2, h3, cs, ty, h4, h5, h6⟩ := h.var k ds hk
    exact ⟨h1, h2, h3, cs, ty, (hb _ hlt).trans h4, h5, fun j u hu => ⟨(h6 j u hu).1, fun d hd => ((h6 j u hu).2 d hd).mono m⟩⟩
  · obtain ⟨h1, us, hz, h2, h3⟩ := h.tok id n e hi
    refine ⟨h1, us, hz, ⟨h2.1, ?_⟩, h3⟩
    rcases h2.2 with h0 | ⟨b, cap, cur, hv, hB, hh, r⟩
    · exact .inl h0
    · exact .inr ⟨b, cap, cur, hv, hB, (hb b (Array.getElem?_eq_some_iff.1 hh).1).trans hh, r⟩
theorem Mono.keep (hp : Hp) (g : Gh) (hs : w.heap.size ≤ w'.heap.size) (hb : ∀ b, b < w.heap.size → w'.heap[b]? = w.heap[b]?) : Mono hp g w hp g w' :=
  ⟨hs, fun _ hq _ => World.cell?_of_block (hb _ hq), fun _ _ h => h, Nat.le_refl _, fun _ _ => rfl, fun _ _ m _ h => ⟨m, h, Nat.le_refl _, fun _ => rfl⟩, fun b hq h => ⟨hb b hq, fun _ _ h => h, h⟩, fun b => .same (hb b)⟩
theorem lookup_cons_ne {α : Type} {k j : Nat} {x : α} {l : List (Nat × α)} (h : j ≠ k) : ((k, x) :: l).lookup j = l.lookup j := by
  rw [List.lookup_cons, beq_eq_false_iff_ne.2 h]
theorem lookup_cons_eq {α : Type} {k : Nat} {x : α} {l : List (Nat × α)} : ((k, x) :: l).lookup k = some x := by
  rw [List.lookup_cons, beq_self_eq_true]
def Hp.var (hp : Hp) (ds : List D) : Hp := ⟨(hp.next, ds) :: hp.vars, hp.live, hp.next + 1⟩
def Gh.var (g : Gh) (k b : Nat) : Gh := ⟨fun j => if j = k then b else g.μ j, g.τ, fun p => g.F p ∨ p.block = b⟩
theorem Mono.var (hp : Hp) (g : Gh) (w : World) (ds : List D) (o : Obj) : Mono hp g w (hp.var ds) (g.var hp.next w.heap.size) (w.alloc o) := by
  refine ⟨by simp, fun p hp1 _ => World.cell?_alloc_lt w o p hp1, fun p hb hf => ?_, Nat.le_succ _, fun k hk => ?_, fun _ _ m _ hm => ⟨m, hm, Nat.le_refl _, fun _ => rfl⟩, fun b hb hf => ⟨heap_alloc_old w _ hb, fun _ _ h => .inl h, fun k ds' hk => ?_, hf.2⟩, fun b => .same fun h => heap_alloc_old w _ h⟩
  · rcases hf with hf | hf
    · exact hf
    · omega
  · show (if k = hp.next then _ else _) = _
    rw [if_neg (by omega)]
  · show (if k = hp.next then _ else _) ≠ _
    by_cases hkn : k = hp.next
    · rw [if_pos hkn]; omega
    · rw [if_neg hkn]
      exact hf.1 k ds' (by rw [← hk]; exact (lookup_cons_ne hkn).symm)
theorem HR.newVar (hr : HR B hp g w) (ds : List D) (cs : Array Value) (ty : TypeId) (hl : ds.length ≤ cs.size)
    (hc : ∀ (j : Nat) (u : Value), cs[j]? = some u → (j < ds.length → u.oneCell' = true) ∧ ∀ d, ds[j]? = some d → RepD hp g w d u) : HR B (hp.var ds) (g.var hp.next w.heap.size) (w.alloc (.cells cs ty)) := by
  have m := Mono.var hp g w ds (.cells cs ty)
  have hall : ∀ b, b < w.heap.size → (w.alloc (.cells cs ty)).heap[b]? = w.heap[b]? := fun b hb => heap_alloc_old w _ hb
  have hμ : ∀ k, k < hp.next → (g.var hp.next w.heap.size).μ k = g.μ k := m.μ
  refine ⟨fun k ds' hk => ?_, fun k k' a b hk hk' he => ?_, fun id n e hi => ?_, fun id id' t t' b hi hi' he he' => hr.tinj id id' t t' b hi hi' he he', by simp; have := hr.base; omega, fun p hf => ?_⟩
  · by_cases hkn : k = hp.next
    · subst hkn
      have : some ds = some ds' := by rw [← hk]; exact lookup_cons_eq.symm
      injection this with this
      subst this
      refine ⟨Nat.lt_succ_self _, by show B ≤ (if _ then _ else _); rw [if_pos rfl]; exact hr.base, fun p hp' => .inr ?_, cs, ty, ?_, hl, fun j u hu => ⟨(hc j u hu).1, fun d hd => ((hc j u hu).2 d hd).mono m⟩⟩
      · rw [hp']; show (if _ then _ else _) = _; rw [if_pos rfl]
      · show (w.alloc _).heap[(if _ then _ else _)]? = _
        rw [if_pos rfl]
        exact heap_alloc_new w _
    · have hk0 : hp.vars.lookup k = some ds' := by rw [← hk]; exact (lookup_cons_ne hkn).symm
      have hlt := hr.var_lt hk0
      obtain ⟨h1, h2, h3, cs', ty', h4, h5, h6⟩ := hr.var k ds' hk0
      rw [hμ k h1]
      exact ⟨Nat.lt_succ_of_lt h1, h2, fun p hp' => .inl (h3 p hp'), cs', ty', (hall _ hlt).trans h4, h5, fun j u hu => ⟨(h6 j u hu).1, fun d hd => ((h6 j u hu).2 d hd).mono m⟩⟩
  · have look : ∀ {j : Nat} {a : List D}, (hp.var ds).vars.lookup j = some a → j = hp.next ∨ (j ≠ hp.next ∧ hp.vars.lookup j = some a) := by
      intro j a hj
      by_cases hjn : j = hp.next
      · exact .inl hjn
      · exact .inr ⟨hjn, by rw [← hj]; exact (lookup_cons_ne hjn).symm⟩
    rcases look hk with h1 | ⟨h1, h1'⟩ <;> rcases look hk' with h2 | ⟨h2, h2'⟩
    · omega
    · have hlt := hr.var_lt h2'
      have hn := (hr.var k' b h2').1
      rw [hμ k' hn, h1] at he
      have : (g.var hp.next w.heap.size).μ hp.next = w.heap.size := if_pos rfl
      omega
    · have hlt := hr.var_lt h1'
      have hn := (hr.var k a h1').1
      rw [hμ k hn, h2] at he
      have : (g.var hp.next w.heap.size).μ hp.next = w.heap.size := if_pos rfl
      omega
    · rw [hμ k (hr.var k a h1').1, hμ k' (hr.var k' b h2').1] at he
      exact hr.inj k k' a b h1' h2' he
  · obtain ⟨h1, us, hz, h2, h3⟩ := hr.tok id n e hi
    refine ⟨Nat.lt_succ_of_lt h1, us, hz, own_below h2 ((Below.refl w.heap.size w).alloc (Nat.le_refl _) _), fun b hb => ⟨fun p h4 h5 => .inl ((h3 b hb).1 p h4 h5), fun k ds' hk => ?_⟩⟩
    by_cases hkn : k = hp.next
    · subst hkn
      show (if _ then _ else _) ≠ b
      rw [if_pos rfl]
      have := (h2.lt b hb).2
      omega
    · have hk0 : hp.vars.lookup k = some ds' := by rw [← hk]; exact (lookup_cons_ne hkn).symm
      rw [hμ k (hr.var k ds' hk0).1]
      exact (h3 b hb).2 k ds' hk0
  · simp only [World.size_alloc]
    rcases hf with hf | hf
    · have := hr.fits p hf; omega
    · omega
def Hp.set (hp : Hp) (k : Nat) (ds : List D) : Hp := ⟨(k, ds) :: hp.vars, hp.live, hp.next⟩
theorem Mono.setVar (hr : HR B hp g w) {k : Nat} {ds : List D} (hk : hp.vars.lookup k = some ds) (ds' : List D) (hs : w'.heap.size = w.heap.size) (ho : ∀ b, b ≠ g.μ k → w'.heap[b]? = w.heap[b]?) (hz : SzB w w' (g.μ k)) : Mono hp g w (hp.set k ds') g w' := by
  refine ⟨by omega, fun p hp' hf => World.cell?_of_block (ho _ fun e => hf ((hr.var k ds hk).2.2.1 p e)), fun _ _ h => h, Nat.le_refl _, fun _ _ => rfl, fun _ _ m _ h => ⟨m, h, Nat.le_refl _, fun _ => rfl⟩, fun b hb hf => ⟨ho b fun e => hf.1 k ds hk e.symm, fun _ _ h => h, fun j a hj => ?_, hf.2⟩, fun b => by
    by_cases hb : b = g.μ k
    · subst hb; exact hz
    · exact .same fun _ => ho b hb⟩
  by_cases hjn : j = k
  · subst hjn; exact hf.1 j ds hk
  · exact hf.1 j a (by rw [← hj]; exact (lookup_cons_ne hjn).symm)
theorem HR.setVar (hr : HR B hp g w) {k : Nat} {ds : List D} (hk : hp.vars.lookup k = some ds) (ds' : List D) (cs : Array Value) (ty : TypeId) (hs : w'.heap.size = w.heap.size) (ho : ∀ b, b ≠ g.μ k → w'.heap[b]? = w.heap[b]?)
    (hn : w'.heap[g.μ k]? = some (.cells cs ty (0, 0))) (hl : ds'.length ≤ cs.size) (hz : SzB w w' (g.μ k)) (hc : ∀ (j : Nat) (u : Value), cs[j]? = some u → (j < ds'.length → u.oneCell' = true) ∧ ∀ d, ds'[j]? = some d → RepD hp g w d u) : HR B (hp.set k ds') g w' := by
  have m := Mono.setVar hr hk ds' hs ho hz
  have look : ∀ {j : Nat} {a : List D}, (hp.set k ds').vars.lookup j = some a → (j = k ∧ a = ds') ∨ (j ≠ k ∧ hp.vars.lookup j = some a) := by
    intro j a hj
    by_cases hjn : j = k
    · subst hjn
      have : some ds' = some a := by rw [← hj]; exact lookup_cons_eq.symm
      injection this with this
      exact .inl ⟨rfl, this.symm⟩
    · exact .inr ⟨hjn, by rw [← hj]; exact (lookup_cons_ne hjn).symm⟩
  have some_of : ∀ {j : Nat} {a : List D}, (hp.set k ds').vars.lookup j = some a → ∃ a', hp.vars.lookup j = some a' := by
    intro j a hj
    rcases look hj with ⟨rfl, _⟩ | ⟨_, h⟩
    · exact ⟨_, hk⟩
    · exact ⟨_, h⟩
  refine ⟨fun j a hj => ?_, fun j j' a b hj hj' he => ?_, fun id n e hi => ?_, hr.tinj, by have := hr.base; omega, fun p hf => by have := hr.fits p hf; omega⟩
  · rcases look hj with ⟨rfl, rfl⟩ | ⟨hne, h0⟩
    · obtain ⟨h1, h2, h3, _⟩ := hr.var j ds hk
      exact ⟨h1, h2, h3, cs, ty, hn, hl, fun i u hu => ⟨(hc i u hu).1, fun d hd => ((hc i u hu).2 d hd).mono m⟩⟩
    · obtain ⟨h1, h2, h3, cs', ty', h4, h5, h6⟩ := hr.var j a h0
      exact ⟨h1, h2, h3, cs', ty', (ho _ fun e => hne (hr.inj j k a ds h0 hk e)).trans h4, h5, fun i u hu => ⟨(h6 i u hu).1, fun d hd => ((h6 i u hu).2 d hd).mono m⟩⟩
  · obtain ⟨a', ha'⟩ := some_of hj
    obtain ⟨b', hb'⟩ := some_of hj'
    exact hr.inj j j' a' b' ha' hb' he
  · obtain ⟨h1, us, hz, h2, h3⟩ := hr.tok id n e hi
    refine ⟨h1, us, hz, ⟨h2.1, ?_⟩, fun b hb => ⟨(h3 b hb).1, fun j a hj => ?_⟩⟩
    · rcases h2.2 with h0 | ⟨b, cap, cur, hv, hB, hh, r⟩
      · exact .inl h0
      · refine .inr ⟨b, cap, cur, hv, hB, (ho b fun e => ?_).trans hh, r⟩
        exact (h3 b (by rw [hv]; rfl)).2 k ds hk e.symm
    · obtain ⟨a', ha'⟩ := some_of hj
      exact (h3 b hb).2 j a' ha'
def Hp.tok (hp : Hp) (n : Nat) (e : Nat × TypeId) : Hp := ⟨hp.vars, (hp.next, n, e) :: hp.live, hp.next + 1⟩
def Value.tail (v : Value) (n : Nat) (p : Addr) : Prop := ∃ b, v.ownBlock = some b ∧ p.block = b ∧ n ≤ p.off
def Gh.tok (g : Gh) (id : Nat) (v : Value) (n : Nat) : Gh := ⟨g.μ, fun j => if j = id then v else g.τ j, fun p => (g.F p ∧ ¬ (v.ownBlock = some p.block ∧ p.off < n)) ∨ Value.tail v n p⟩
theorem Mono.tok (hp : Hp) (g : Gh) {v : Value} {n m : Nat} {e : Nat × TypeId} (hs : w.heap.size ≤ w'.heap.size) (hb : ∀ b, b < w.heap.size → w'.heap[b]? = w.heap[b]?) (hv : ∀ b, v.ownBlock = some b → w.heap.size ≤ b) :
    Mono hp g w (hp.tok n e) (g.tok hp.next v m) w' := by
  refine ⟨hs, fun p hp' _ => World.cell?_of_block (hb _ hp'), fun p hpb hf => ?_, Nat.le_succ _, fun _ _ => rfl, fun id hid k e' hm => ?_, fun b hq hf => ⟨hb b hq, fun p h1 h2 => .inl ⟨h2, fun h => by have := hv _ h.1; omega⟩, hf.1, fun id t hi => ?_⟩, fun b => .same (hb b)⟩
  · rcases hf with hf | ⟨b, h1, h2, _⟩
    · exact hf.1
    · have := hv b h1; omega
  · refine ⟨k, ?_, Nat.le_refl _, fun _ => ?_⟩
    · rw [← hm]
      exact (lookup_cons_ne (show id ≠ hp.next by omega)).symm
    · show (if id = hp.next then v else g.τ id) = _
      rw [if_neg (by omega)]
  · show (if id = hp.next then v else g.τ id).ownBlock ≠ _
    by_cases hin : id = hp.next
    · rw [if_pos hin]; intro he; have := hv _ he; omega
    · rw [if_neg hin]
      exact hf.2 id t (by rw [← hi]; exact (lookup_cons_ne hin).symm)
theorem HR.newTok (hr : HR B hp g w) {v : Value} {n : Nat} {e : Nat × TypeId} {us : List Value} (hz : 0 < e.1) (hs : w.heap.size ≤ w'.heap.size) (hb : ∀ b, b < w.heap.size → w'.heap[b]? = w.heap[b]?) (hv : ∀ b, v.ownBlock = some b → w.heap.size ≤ b)
    (ho : w'.ownsRow B e.2 e.1 v n us) : HR B (hp.tok n e) (g.tok hp.next v (n * e.1)) w' := by
  have m : Mono hp g w (hp.tok n e) (g.tok hp.next v (n * e.1)) w' := Mono.tok hp g hs hb hv
  have look : ∀ {j : Nat} {a : Nat × Nat × TypeId}, (hp.tok n e).live.lookup j = some a → (j = hp.next ∧ a = (n, e)) ∨ (j ≠ hp.next ∧ hp.live.lookup j = some a) := by
    intro j a hj
    by_cases hjn : j = hp.next
    · subst hjn
      have : some (n, e) = some a := by rw [← hj]; exact lookup_cons_eq.symm
      injection this with this
      exact .inl ⟨rfl, this.symm⟩
    · exact .inr ⟨hjn, by rw [← hj]; exact (lookup_cons_ne hjn).symm⟩
  have hτ : ∀ j, j ≠ hp.next → (g.tok hp.next v (n * e.1)).τ j = g.τ j := fun j hj => if_neg hj
  have hτn : (g.tok hp.next v (n * e.1)).τ hp.next = v := if_pos rfl
  have old : ∀ {j : Nat} {a : Nat × Nat × TypeId} {b : Nat}, hp.live.lookup j = some a → (g.τ j).ownBlock = some b → b < w.heap.size := by
    intro j a b hj hb'
    obtain ⟨_, _, _, h2, _⟩ := hr.tok j a.1 a.2 hj
    exact (h2.lt b hb').2
  have stay : ∀ p : Addr, p.block < w.heap.size → g.F p → (g.tok hp.next v (n * e.1)).F p := fun p hp' hf => .inl ⟨hf, fun h => by have := hv _ h.1; omega⟩
  refine ⟨fun k ds hk => ?_, hr.inj, fun id n' e' hi => ?_, fun id id' t t' b hi hi' he he' => ?_, Nat.le_trans hr.base hs, fun p hf => ?_⟩
  · have hlt := hr.var_lt (k := k) (ds := ds) hk
    obtain ⟨h1, h2, h3, cs', ty', h4, h5, h6⟩ := hr.var k ds hk
    exact ⟨Nat.lt_succ_of_lt h1, h2, fun p hp' => stay p (by rw [hp']; exact hlt) (h3 p hp'), cs', ty', (hb _ hlt).trans h4, h5, fun j u hu => ⟨(h6 j u hu).1, fun d hd => ((h6 j u hu).2 d hd).mono m⟩⟩
  · rcases look hi with ⟨rfl, h⟩ | ⟨hne, h0⟩
    · injection h with ha hb'
      subst ha; subst hb'
      rw [hτn]
      exact ⟨Nat.lt_succ_self _, us, hz, ho, fun b hb' => ⟨fun p h4 h5 => .inr ⟨b, hb', h4, h5⟩, fun k ds hk => by
        have h6 := hr.var_lt (k := k) (ds := ds) hk
        have h7 := hv b hb'
        show g.μ k ≠ b
        omega⟩⟩
    · obtain ⟨h1, us', hz', h2, h3⟩ := hr.tok id n' e' h0
      rw [hτ id hne]
      refine ⟨Nat.lt_succ_of_lt h1, us', hz', ⟨h2.1, ?_⟩, fun b hb' => ⟨fun p h4 h5 => stay p (by have := old h0 hb'; omega) ((h3 b hb').1 p h4 h5), (h3 b hb').2⟩⟩
      rcases h2.2 with h0 | ⟨b, cap, cur, hv', hB, hh, r⟩
      · exact .inl h0
      · exact .inr ⟨b, cap, cur, hv', hB, (hb b (Array.getElem?_eq_some_iff.1 hh).1).trans hh, r⟩
  · rcases look hi with ⟨rfl, _⟩ | ⟨hne, h0⟩ <;> rcases look hi' with ⟨rfl, _⟩ | ⟨hne', h0'⟩
    · rfl
    · rw [hτn] at he
      rw [hτ _ hne'] at he'
      have h1 := old h0' he'
      have h2 := hv b he
      omega
    · rw [hτn] at he'
      rw [hτ _ hne] at he
      have h1 := old h0 he
      have h2 := hv b he'
      omega
    · rw [hτ _ hne] at he
      rw [hτ _ hne'] at he'
      exact hr.tinj id id' t t' b h0 h0' he he'
  · rcases hf with hf | ⟨b, h1, h2, _⟩
    · exact Nat.lt_of_lt_of_le (hr.fits p hf.1) hs
    · rw [h2]
      exact (ho.lt b h1).2
theorem Gh.tok_keep (g : Gh) (id : Nat) {v : Value} {n : Nat} (hv : ∀ b, v.ownBlock = some b → B ≤ b) (p : Addr) (hp : p.block < B) (hf : g.F p) : (g.tok id v n).F p := .inl ⟨hf, fun h => by have := hv _ h.1; omega⟩
end
end
section
section
variable {P : Program}
inductive Appd (w : World) (v : Value) (m : Nat) (w' : World) (v' : Value) : Prop
  | same (h0 : m = 0) (hw : w' = w) (hv : v' = v)
  | place (b : Nat) (h0 : 0 < m) (hv : v.ownBlock = some b) (hv' : v'.ownBlock = some b) (hg : w.grownBy w' (some b)) (hs : w'.heap.size = w.heap.size) (hz : SzB w w' b)
  | fresh (h0 : 0 < m) (hg : w.grownBy w' none) (hv' : v'.ownBlock = some w.heap.size)
theorem SzB.row {w : World} {b : Nat} {cur new : Array Value} {ty : TypeId} {l : Nat × Nat} (hg : w.heap[b]? = some (.cells cur ty l)) (h : new.size = cur.size) : SzB w (w.setRow b new) b := fun cs ty' l' hc => by
  rw [hg] at hc
  injection hc with hc
  injection hc with h1 h2 h3
  subst h1; subst h2; subst h3
  exact ⟨new, setRow_heap w b cur new ty l hg, h⟩
theorem run_append_law (w : World) (base : Nat) (t ty e : TypeId) (i : TypeInfo) (z : Value) (size bytes : Nat) (ht : P.underlying t = some (.slice e)) (hi : P.info? e = some i) (hz : i.zero = some z)
    (hsize : i.size = size) (hby : i.bytes = bytes) (hzs : z.cells.size = size) (hsz : 0 < size)
    (v : Value) (n : Nat) (xs : List Value) (hown : w.ownsRow base e size v n xs)
    (A : Option Addr) (m c : Nat) (news : List Value) (hl : news.length = m * size) (hA : 0 < m → ∃ a, A = some a) (hnews : ∀ a, A = some a → ∀ j u, news[j]? = some u → w.cell? (a.add j) = some u) (h1 : ∀ u ∈ news, u.oneCell' = true)
    (h63 : n + m ≤ maxLen) (hbytes : (n + m) * bytes ≤ 140737488355328) (hbase : base ≤ w.heap.size) :
    ∃ v' w', (Builtin.append_ #[t, t] ty #[v, .slice A m c]).run P w = .ok v' w' ∧ w'.ownsRow base e size v' (n + m) (xs ++ news) ∧ Appd w v m w' v' := by
  subst hsize
  subst hby
  have hsmall : n + m ≤ 9223372036854775807 := by simp only [maxLen] at h63; omega
  have hlen : (xs ++ news).length = (n + m) * i.size := by rw [List.length_append, hown.1, hl, Nat.add_mul]
  by_cases hm : m = 0
  · subst hm
    have hn : news = [] := List.eq_nil_of_length_eq_zero (by simpa using hl)
    subst hn
    refine ⟨v, w, ?_, by simpa using hown, .same rfl rfl rfl⟩
    rcases hown.2 with ⟨rfl, rfl⟩ | ⟨g, cap, cur, rfl, hbg, hg, hnc, hcm, hcs, htake⟩
    · cases A <;> simp [Builtin.append_, run_underlying ht, sizeOf, typeInfo, hi, Builtin.lenOf, Builtin.firstCells, loadCells, loadCellsFrom]
    · cases A <;> simp [Builtin.append_, run_underlying ht, sizeOf, typeInfo, hi, Builtin.lenOf, Builtin.firstCells, loadCells, loadCellsFrom, hnc, storeCells]
  · have hmp : 0 < m := by omega
    obtain ⟨a, rfl⟩ := hA hmp
    have hcell := hnews a rfl
    have grown : ∀ (old : Nat), old < n + m →
        (w.drew.alloc (.cells (xs.toArray ++ news.toArray ++ Builtin.zeroCells z.cells (grownCap w (n + m) old e - (n + m))) e)).ownsRow base e i.size
          (.slice (some ⟨w.heap.size, 0, none⟩) (n + m) (grownCap w (n + m) old e)) (n + m) (xs ++ news) ∧
        w.grownBy (w.drew.alloc (.cells (xs.toArray ++ news.toArray ++ Builtin.zeroCells z.cells (grownCap w (n + m) old e - (n + m))) e)) none := by
      intro old ho
      have hge := grownCap_ge w (n + m) old e
      have hcm : grownCap w (n + m) old e ≤ maxLen := grownCap_le_maxLen w (n + m) old e h63
      refine ⟨⟨hlen, .inr ⟨w.heap.size, _, _, rfl, hbase, heap_alloc_new w.drew _, hge, hcm, ?_, ?_⟩⟩, ⟨rfl, rfl, rfl, by simp, fun k hk _ => heap_alloc_old w.drew _ hk⟩⟩
      · simp only [Array.size_append, List.size_toArray, size_zeroCells, hzs, hown.1, hl, ← Nat.add_mul]
        congr 1
        omega
      · simp only [Array.toList_append, List.append_assoc]
        rw [← List.append_assoc, ← hlen]
        exact List.take_left
    rcases hown.2 with ⟨rfl, rfl⟩ | ⟨g, cap, cur, rfl, hbg, hg, hnc, hcm, hcs, htake⟩
    · have hx : xs = [] := List.eq_nil_of_length_eq_zero (by simpa using hown.1)
      subst hx
      have hr := run_append_nil (P := P) w t ty e i z ht hi hz a m c news hl hcell (by omega) (by omega) (by have hb := hbytes; simp only [Nat.zero_add] at hb; omega)
      have hgr := grown 0 (by omega)
      simp only [Nat.zero_add, List.nil_append, Array.empty_append] at hgr ⊢
      exact ⟨_, _, hr, hgr.1, .fresh hmp hgr.2 rfl⟩
    · by_cases hroom : n + m ≤ cap
      · have hfit : n * i.size + news.length ≤ cur.size := by rw [hl, hcs, ← Nat.add_mul]; exact Nat.mul_le_mul_right _ hroom
        have hr := run_append_room (P := P) w t ty e i ht hi g n cap cur hg a m c news hl hcell h1 hroom hfit
        refine ⟨_, _, hr, ⟨hlen, .inr ⟨g, cap, _, rfl, hbg, setRow_heap w g cur _ e _ hg, hroom, hcm, ?_, ?_⟩⟩, .place g hmp rfl rfl ⟨rfl, rfl, rfl, by simp, fun k _ hk => setRow_other w g k _ (fun e => hk (by rw [e]))⟩ (by simp) (SzB.row hg ?_)⟩
        · simp only [List.size_toArray, List.length_append, List.length_take, List.length_drop, Array.length_toList]
          omega
        · rw [htake, ← hlen]
          exact List.take_left
        · simp only [List.size_toArray, List.length_append, List.length_take, List.length_drop, Array.length_toList]
          omega
      · have holds : ∀ j u, xs[j]? = some u → w.cell? ((⟨g, 0, none⟩ : Addr).add j) = some u := hown.cells (g := g) rfl
        have hr := run_append_grow (P := P) w t ty e i z ht hi hz ⟨g, 0, none⟩ n cap xs hown.1 holds a m c news hl hcell (by omega) (by omega) (growslice_fits (by omega) hbytes)
        have hgr := grown cap (by omega)
        exact ⟨_, _, hr, hgr.1, .fresh hmp hgr.2 rfl⟩
theorem run_append_str_law (w : World) (base : Nat) (t u ty e : TypeId) (i : TypeInfo) (ht : P.underlying t = some (.slice e)) (hu : P.underlying u = some .string) (hi : P.info? e = some i) (hz : i.zero = some (.int .u8 0))
    (hsize : i.size = 1) (hby : i.bytes = 1) (v : Value) (n : Nat) (xs : List Value) (hown : w.ownsRow base e 1 v n xs) (s : ByteArray)
    (h63 : n + s.size ≤ maxLen) (hbytes : n + s.size ≤ 140737488355328) (hbase : base ≤ w.heap.size) :
    ∃ v' w', (Builtin.append_ #[t, u] ty #[v, .string s]).run P w = .ok v' w' ∧ w'.ownsRow base e 1 v' (n + s.size) (xs ++ Lib.strCells s) ∧ Appd w v s.size w' v' := by
  have hsmall : n + s.size ≤ 9223372036854775807 := by simp only [maxLen] at h63; omega
  have hxl : xs.length = n := by simpa using hown.1
  have hlen : (xs ++ Lib.strCells s).length = (n + s.size) * 1 := by rw [List.length_append, hxl, Lib.strCells_length, Nat.mul_one]
  have grown : ∀ (old : Nat), old < n + s.size →
      (w.drew.alloc (.cells (xs.toArray ++ (Lib.strCells s).toArray ++ Builtin.zeroCells (Value.int .u8 0).cells (grownCap w (n + s.size) old e - (n + s.size))) e)).ownsRow base e 1
        (.slice (some ⟨w.heap.size, 0, none⟩) (n + s.size) (grownCap w (n + s.size) old e)) (n + s.size) (xs ++ Lib.strCells s) ∧
      w.grownBy (w.drew.alloc (.cells (xs.toArray ++ (Lib.strCells s).toArray ++ Builtin.zeroCells (Value.int .u8 0).cells (grownCap w (n + s.size) old e - (n + s.size))) e)) none := by
    intro old ho
    have hge := grownCap_ge w (n + s.size) old e
    have hcm : grownCap w (n + s.size) old e ≤ maxLen := grownCap_le_maxLen w (n + s.size) old e h63
    refine ⟨⟨hlen, .inr ⟨w.heap.size, _, _, rfl, hbase, heap_alloc_new w.drew _, hge, hcm, ?_, ?_⟩⟩, ⟨rfl, rfl, rfl, by simp, fun k hk _ => heap_alloc_old w.drew _ hk⟩⟩
    · have hz1 : (Value.int IntKind.u8 0).cells.size = 1 := rfl
      simp only [Array.size_append, List.size_toArray, size_zeroCells, hz1, hxl, Lib.strCells_length]
      omega
    · simp only [Array.toList_append, List.append_assoc]
      rw [← List.append_assoc, ← hlen]
      exact List.take_left
  rcases hown.2 with ⟨rfl, rfl⟩ | ⟨g, cap, cur, rfl, hbg, hg, hnc, hcm, hcs, htake⟩
  · have hx : xs = [] := List.eq_nil_of_length_eq_zero hxl
    subst hx
    by_cases hm : s.size = 0
    · have hn : Lib.strCells s = [] := List.eq_nil_of_length_eq_zero (by rw [Lib.strCells_length]; exact hm)
      refine ⟨.slice none 0 0, w, ?_, by rw [hm, hn]; exact World.ownsRow_nil w base e 1, .same hm rfl rfl⟩
      have hf := Lib.run_firstCells_string (P := P) w 1 s
      rw [hm] at hf
      simp [Builtin.append_, run_underlying ht, run_underlying hu, sizeOf, typeInfo, hi, hsize, Builtin.lenOf, hm, hf]
    · have hr := run_append_nil_string (P := P) w t u ty e i (.int .u8 0) ht hu hi hz s (by omega) (by omega) (by rw [hby]; omega)
      have hgr := grown 0 (by omega)
      simp only [Nat.zero_add, List.nil_append, Array.empty_append] at hgr ⊢
      have e1 : (s.data.map fun b => Value.int .u8 b.toNat) = (Lib.strCells s).toArray := by
        apply Array.ext'
        simp [Lib.strCells]
      rw [e1] at hr
      exact ⟨_, _, hr, hgr.1, .fresh (by omega) hgr.2 rfl⟩
  · by_cases hm : s.size = 0
    · have hn : Lib.strCells s = [] := List.eq_nil_of_length_eq_zero (by rw [Lib.strCells_length]; exact hm)
      refine ⟨_, w, ?_, by rw [hm, hn, List.append_nil]; exact hown, .same hm rfl rfl⟩
      have hf := Lib.run_firstCells_string (P := P) w 1 s
      rw [hm, hn] at hf
      simp [Builtin.append_, run_underlying ht, run_underlying hu, sizeOf, typeInfo, hi, hsize, Builtin.lenOf, hm, hf, hnc, storeCells]
    by_cases hroom : n + s.size ≤ cap
    · have hcs' : cur.size = cap := by simpa using hcs
      have hr := Lib.run_append_room_string (P := P) w t u ty e i ht hu hi hsize g n cap cur hg s hroom (by omega)
      refine ⟨_, _, hr, ⟨hlen, .inr ⟨g, cap, _, rfl, hbg, setRow_heap w g cur _ e _ hg, hroom, hcm, ?_, ?_⟩⟩, .place g (by omega) rfl rfl ⟨rfl, rfl, rfl, by simp, fun k _ hk => setRow_other w g k _ (fun e => hk (by rw [e]))⟩ (by simp) (SzB.row hg ?_)⟩
      · simp only [List.size_toArray, List.length_append, List.length_take, List.length_drop, Array.length_toList, Lib.strCells_length]
        omega
      · have ht' : cur.toList.take n = xs := by simpa using htake
        rw [ht', ← hlen]
        exact List.take_left
      · simp only [List.size_toArray, List.length_append, List.length_take, List.length_drop, Array.length_toList, Lib.strCells_length]
        omega
    · have holds : ∀ j u, xs[j]? = some u → w.cell? ((⟨g, 0, none⟩ : Addr).add j) = some u := hown.cells (g := g) rfl
      have hr := Lib.run_append_grow_string (P := P) w t u ty e i (.int .u8 0) ht hu hi hz ⟨g, 0, none⟩ n cap xs (by rw [hsize]; simpa using hxl) holds s (by omega) (by omega) (by rw [hby]; exact growslice_fits (by omega) (by omega))
      have hgr := grown cap (by omega)
      exact ⟨_, _, hr, hgr.1, .fresh (by omega) hgr.2 rfl⟩
end
section
variable {B : Nat} {hp : Hp} {g : Gh} {w w' : World}
def Hp.app (hp : Hp) (id n : Nat) (e : Nat × TypeId) : Hp := ⟨hp.vars, (id, n, e) :: hp.live, hp.next⟩
theorem Appd.size {v v' : Value} {m : Nat} (h : Appd w v m w' v') : w.heap.size ≤ w'.heap.size := by
  cases h with
  | same _ hw _ => rw [hw]; exact Nat.le_refl _
  | place _ _ _ _ hg _ _ => exact hg.size
  | fresh _ hg _ => exact hg.size
theorem Appd.szs {v v' : Value} {m : Nat} (h : Appd w v m w' v') (b : Nat) : SzB w w' b := by
  cases h with
  | same _ hw _ => rw [hw]; exact .same fun _ => rfl
  | place b' _ _ _ hg _ hz =>
    by_cases hb : b = b'
    · subst hb; exact hz
    · exact .same fun h => hg.block b h (fun e => hb (by injection e))
  | fresh _ hg _ => exact .same fun h => hg.block b h (by simp)
theorem row_prefix {e : TypeId} {z n m b : Nat} {v v' : Value} {xs news : List Value} (h : w.ownsRow B e z v n xs) (h' : w'.ownsRow B e z v' (n + m) (xs ++ news)) (hb : v.ownBlock = some b) (hb' : v'.ownBlock = some b) (p : Addr) (hp : p.block = b) (ho : p.off < n * z) :
    w'.cell? p = w.cell? p := by
  rcases h.2 with ⟨rfl, _⟩ | ⟨g, cap, cur, rfl, _, hh, _, _, _, ht⟩
  · cases hb
  rcases h'.2 with ⟨rfl, _⟩ | ⟨g', cap', cur', rfl, _, hh', _, _, _, ht'⟩
  · cases hb'
  obtain rfl : g = b := by simpa [Value.ownBlock] using hb
  obtain rfl : g' = g := by simpa [Value.ownBlock] using hb'
  subst hp
  have e1 : cur[p.off]? = xs[p.off]? := by
    rw [← ht, List.getElem?_take, if_pos ho, Array.getElem?_toList]
  have e2 : cur'[p.off]? = xs[p.off]? := by
    have : (xs ++ news)[p.off]? = xs[p.off]? := List.getElem?_append_left (by rw [h.1]; exact ho)
    rw [← this, ← ht', List.getElem?_take, if_pos (Nat.lt_of_lt_of_le ho (Nat.mul_le_mul_right _ (Nat.le_add_right _ _))), Array.getElem?_toList]
  simp only [World.cell?, hh, hh', e1, e2]
theorem Mono.app {id n m : Nat} {e : Nat × TypeId} {v' : Value} {xs news : List Value} (hi : hp.live.lookup id = some (n, e)) (ho : w.ownsRow B e.2 e.1 (g.τ id) n xs)
    (hF : ∀ b, (g.τ id).ownBlock = some b → ∀ p : Addr, p.block = b → n * e.1 ≤ p.off → g.F p)
    (ho' : w'.ownsRow B e.2 e.1 v' (n + m) (xs ++ news)) (ha : Appd w (g.τ id) m w' v') : Mono hp g w (hp.app id (n + m) e) (g.tok id v' ((n + m) * e.1)) w' := by
  refine ⟨ha.size, fun p hpb hf => ?_, fun p hpb hf => ?_, Nat.le_refl _, fun _ _ => rfl, fun j hj k e' hm => ?_, fun b hb hf => ?_, fun b => ha.szs b⟩
  · cases ha with
    | same _ hw _ => rw [hw]
    | place b _ hv hv' hg _ _ =>
      by_cases hb : p.block = b
      · refine row_prefix ho ho' hv hv' p hb ?_
        rcases Nat.lt_or_ge p.off (n * e.1) with h | h
        · exact h
        · exact absurd (hF b hv p hb h) hf
      · exact World.cell?_of_block (hg.block _ hpb (fun e => hb (by injection e)))
    | fresh _ hg _ => exact World.cell?_of_block (hg.block _ hpb (by simp))
  · rcases hf with hf | ⟨b, h1, h2, h3⟩
    · exact hf.1
    · cases ha with
      | same h0 _ hv =>
        subst h0
        rw [hv] at h1
        exact hF b h1 p h2 h3
      | place b' _ hv hv' _ _ _ =>
        obtain rfl : b' = b := by rw [hv'] at h1; injection h1
        exact hF b' hv p h2 (Nat.le_trans (Nat.mul_le_mul_right _ (Nat.le_add_right _ _)) h3)
      | fresh _ _ hv' =>
        rw [hv'] at h1
        injection h1 with h1
        omega
  · by_cases hjd : j = id
    · subst hjd
      have : some (n + m, e) = some (k, e') := by rw [← hm]; exact lookup_cons_eq.symm
      injection this with this
      injection this with h1 h2
      subst h1; subst h2
      refine ⟨n, hi, Nat.le_add_right _ _, fun h => ?_⟩
      have h0 : m = 0 := by omega
      show (if j = j then v' else g.τ j) = _
      rw [if_pos rfl]
      cases ha with
      | same _ _ hv => exact hv
      | place _ h _ _ _ _ _ => omega
      | fresh h _ _ => omega
    · refine ⟨k, ?_, Nat.le_refl _, fun _ => ?_⟩
      · rw [← hm]
        exact (lookup_cons_ne hjd).symm
      · show (if j = id then v' else g.τ j) = _
        rw [if_neg hjd]
  · have hne := hf.2 id _ hi
    have hvb : v'.ownBlock ≠ some b := by
      cases ha with
      | same _ _ hv => rw [hv]; exact hne
      | place b' _ hv hv' _ _ _ => rw [hv']; intro he; exact hne (by rw [hv]; exact he)
      | fresh _ _ hv' => rw [hv']; intro he; injection he with he; omega
    refine ⟨?_, fun p h1 h2 => .inl ⟨h2, fun h => hvb (by rw [h.1, h1])⟩, hf.1, fun j t hj => ?_⟩
    · cases ha with
      | same _ hw _ => rw [hw]
      | place b' _ hv hv' hg _ _ => exact hg.block _ hb (fun e => hne (by rw [hv]; injection e with e; rw [e]))
      | fresh _ hg _ => exact hg.block _ hb (by simp)
    · show (if j = id then v' else g.τ j).ownBlock ≠ _
      by_cases hjd : j = id
      · rw [if_pos hjd]; exact hvb
      · rw [if_neg hjd]
        exact hf.2 j t (by rw [← hj]; exact (lookup_cons_ne hjd).symm)
theorem HR.app (hr : HR B hp g w) {id n m : Nat} {e : Nat × TypeId} {v' : Value} {xs news : List Value} (hz : 0 < e.1) (hi : hp.live.lookup id = some (n, e)) (ho : w.ownsRow B e.2 e.1 (g.τ id) n xs)
    (hF : ∀ b, (g.τ id).ownBlock = some b → ∀ p : Addr, p.block = b → n * e.1 ≤ p.off → g.F p)
    (ho' : w'.ownsRow B e.2 e.1 v' (n + m) (xs ++ news)) (ha : Appd w (g.τ id) m w' v') : HR B (hp.app id (n + m) e) (g.tok id v' ((n + m) * e.1)) w' := by
  have mo := Mono.app hi ho hF ho' ha
  have hs := ha.size
  have look : ∀ {j : Nat} {a : Nat × Nat × TypeId}, (hp.app id (n + m) e).live.lookup j = some a → (j = id ∧ a = (n + m, e)) ∨ (j ≠ id ∧ hp.live.lookup j = some a) := by
    intro j a hj
    by_cases hjn : j = id
    · subst hjn
      have : some (n + m, e) = some a := by rw [← hj]; exact lookup_cons_eq.symm
      injection this with this
      exact .inl ⟨rfl, this.symm⟩
    · exact .inr ⟨hjn, by rw [← hj]; exact (lookup_cons_ne hjn).symm⟩
  have hτ : ∀ j, j ≠ id → (g.tok id v' ((n + m) * e.1)).τ j = g.τ j := fun j hj => if_neg hj
  have hτn : (g.tok id v' ((n + m) * e.1)).τ id = v' := if_pos rfl
  -- a block that is not the row's is as it was
  have keep : ∀ b, b < w.heap.size → (g.τ id).ownBlock ≠ some b → w'.heap[b]? = w.heap[b]? := by
    intro b hb hne
    cases ha with
    | same _ hw _ => rw [hw]
    | place b' _ hv _ hg _ _ => exact hg.block b hb (fun e => hne (by rw [hv, ← e]))
    | fresh _ hg _ => exact hg.block b hb (by simp)
  have newb : ∀ b, v'.ownBlock = some b → (g.τ id).ownBlock = some b ∨ w.heap.size ≤ b := by
    intro b hb
    cases ha with
    | same _ _ hv => rw [hv] at hb; exact .inl hb
    | place b' _ hv hv' _ _ _ => rw [hv'] at hb; rw [hv]; exact .inl hb
    | fresh _ _ hv' => rw [hv'] at hb; injection hb with hb; exact .inr (by omega)
  obtain ⟨hid, _, _, _, htk⟩ := hr.tok id n e hi
  have stay : ∀ p : Addr, p.block < w.heap.size → (g.τ id).ownBlock ≠ some p.block → g.F p → (g.tok id v' ((n + m) * e.1)).F p := fun p hp' hne hf => .inl ⟨hf, fun h => by
    rcases newb _ h.1 with h | h
    · exact hne h
    · omega⟩
  refine ⟨fun k ds hk => ?_, hr.inj, fun j n' e' hj => ?_, fun j j' t t' b hj hj' he he' => ?_, Nat.le_trans hr.base hs, fun p hf => ?_⟩
  · have hlt := hr.var_lt (k := k) (ds := ds) hk
    obtain ⟨h1, h2, h3, cs', ty', h4, h5, h6⟩ := hr.var k ds hk
    exact ⟨h1, h2, fun p hp' => stay p (by rw [hp']; exact hlt) (fun e => (htk _ e).2 k ds hk hp'.symm) (h3 p hp'), cs', ty', (keep _ hlt fun e => (htk _ e).2 k ds hk rfl).trans h4, h5, fun j u hu => ⟨(h6 j u hu).1, fun d hd => ((h6 j u hu).2 d hd).mono mo⟩⟩
  · rcases look hj with ⟨rfl, h⟩ | ⟨hne, h0⟩
    · injection h with ha1 hb1
      subst ha1; subst hb1
      rw [hτn]
      refine ⟨hid, _, hz, ho', fun b hb => ⟨fun p h4 h5 => .inr ⟨b, hb, h4, h5⟩, fun k ds hk => ?_⟩⟩
      rcases newb b hb with h | h
      · exact (htk b h).2 k ds hk
      · have := hr.var_lt (k := k) (ds := ds) hk
        show g.μ k ≠ b
        omega
    · obtain ⟨h1, us', hz', h2, h3⟩ := hr.tok j n' e' h0
      rw [hτ j hne]
      refine ⟨h1, us', hz', ⟨h2.1, ?_⟩, fun b hb => ⟨fun p h4 h5 => stay p (by rw [h4]; exact (h2.lt b hb).2) (fun e => hne (hr.tinj j id _ _ b h0 hi hb (by rw [e, h4]))) ((h3 b hb).1 p h4 h5), (h3 b hb).2⟩⟩
      rcases h2.2 with h0' | ⟨b, cap, cur, hv', hB, hh, r⟩
      · exact .inl h0'
      · refine .inr ⟨b, cap, cur, hv', hB, (keep b (Array.getElem?_eq_some_iff.1 hh).1 fun e => ?_).trans hh, r⟩
        exact hne (hr.tinj j id _ _ b h0 hi (by rw [hv']; rfl) e)
  · have old : ∀ {j : Nat} {a : Nat × Nat × TypeId} {b : Nat}, hp.live.lookup j = some a → (g.τ j).ownBlock = some b → b < w.heap.size := by
      intro j a b hj hb'
      obtain ⟨_, _, _, h2, _⟩ := hr.tok j a.1 a.2 hj
      exact (h2.lt b hb').2
    rcases look hj with ⟨rfl, _⟩ | ⟨hne, h0⟩ <;> rcases look hj' with ⟨rfl, _⟩ | ⟨hne', h0'⟩
    · rfl
    · rw [hτn] at he
      rw [hτ _ hne'] at he'
      rcases newb b he with h | h
      · exact hr.tinj _ _ _ _ b hi h0' h he'
      · have := old h0' he'
        omega
    · rw [hτn] at he'
      rw [hτ _ hne] at he
      rcases newb b he' with h | h
      · exact hr.tinj _ _ _ _ b h0 hi he h
      · have := old h0 he
        omega
    · rw [hτ _ hne] at he
      rw [hτ _ hne'] at he'
      exact hr.tinj j j' t t' b h0 h0' he he'
  · rcases hf with hf | ⟨b, h1, h2, _⟩
    · exact Nat.lt_of_lt_of_le (hr.fits p hf.1) hs
    · rw [h2]
      exact (ho'.lt b h1).2
end
end
def tabK : List Nat := [1116352408, 1899447441, 3049323471, 3921009573, 961987163, 1508970993, 2453635748, 2870763221, 3624381080, 310598401, 607225278, 1426881987, 1925078388, 2162078206, 2614888103, 3248222580, 3835390401, 4022224774, 264347078, 604807628, 770255983, 1249150122, 1555081692, 1996064986, 2554220882, 2821834349, 2952996808, 3210313671, 3336571891, 3584528711, 113926993, 338241895, 666307205, 773529912, 1294757372, 1396182291, 1695183700, 1986661051, 2177026350, 2456956037, 2730485921, 2820302411, 3259730800, 3345764771, 3516065817, 3600352804, 4094571909, 275423344, 430227734, 506948616, 659060556, 883997877, 958139571, 1322822218, 1537002063, 1747873779, 1955562222, 2024104815, 2227730452, 2361852424, 2428436474, 2756734187, 3204031479, 3329325298]
def tabL : List (Nat × List Value) := []
  ++ [(0, tabK.map fun k => .int .u32 (k : Int))]
  ++ [(1, tabK.map fun k => .int .u32 (k : Int))]
def TT (B : Nat) (w : World) : Prop := ∀ p ∈ tabL, p.1 < B ∧ ∀ (i : Nat) (v : Value), p.2[i]? = some v → w.cell? ⟨p.1, i, none⟩ = some v
theorem TT.up {B B' : Nat} {w : World} (h : TT B w) (hb : B ≤ B') : TT B' w := fun p hp => ⟨Nat.lt_of_lt_of_le (h p hp).1 hb, (h p hp).2⟩
theorem TT.below {B : Nat} {w w' : World} (h : TT B w) (hb : Below B w w') : TT B w' := fun p hp => ⟨(h p hp).1, fun i v hv => (World.cell?_of_block (hb.block _ (h p hp).1)).trans ((h p hp).2 i v hv)⟩
section
inductive Ty where
  | int (k : IntKind) | str | bool | slice (e : TypeId) | struct (fs : List (Nat × TypeId)) | arr (n : Nat) (e : TypeId) | other
def Ty.of : TypeDesc → Ty
  | .int k => .int k
  | .string => .str
  | .bool => .bool
  | .slice e => .slice e
  | .struct fs => .struct (fs.toList.map fun f => (f.offset, f.type))
  | .array n e => .arr n e
  | _ => .other
def Ty.agg : Ty → Bool
  | .struct _ | .arr _ _ => true
  | _ => false
def _root_.Go.Value.isAggV : Value → Bool
  | .agg _ => true
  | _ => false
structure TyE where
  ty : Ty
  size : Nat
  bytes : Nat
  zero : List Value
def TOk (P : Program) (tb : TypeId → Option TyE) : Prop := ∀ t i, tb t = some i →
  (P.underlying t).map Ty.of = some i.ty ∧ (P.info? t).map (fun f => (f.size, f.bytes, f.zero.map fun v => (v.cells.toList, v.isAggV))) = some (i.size, i.bytes, some (i.zero, i.ty.agg)) ∧ i.zero.length = i.size ∧ i.zero.all Value.oneCell' = true
section
variable {P : Program} {tb : TypeId → Option TyE}
theorem TOk.und (tok : TOk P tb) {t : TypeId} {i : TyE} (h : tb t = some i) : ∃ d, P.underlying t = some d ∧ Ty.of d = i.ty := by
  obtain ⟨h1, _⟩ := tok t i h
  cases hd : P.underlying t with
  | none => simp [hd] at h1
  | some d => exact ⟨d, rfl, by simpa [hd] using h1⟩
theorem TOk.inf (tok : TOk P tb) {t : TypeId} {i : TyE} (h : tb t = some i) : ∃ f z, P.info? t = some f ∧ f.size = i.size ∧ f.bytes = i.bytes ∧ f.zero = some z ∧ z.cells.toList = i.zero ∧ z.isAggV = i.ty.agg := by
  obtain ⟨_, h1, _⟩ := tok t i h
  cases hd : P.info? t with
  | none => simp [hd] at h1
  | some f =>
    simp only [hd, Option.map_some, Option.some.injEq, Prod.mk.injEq] at h1
    obtain ⟨e1, e2, e3⟩ := h1
    cases hz : f.zero with
    | none => simp [hz] at e3
    | some z =>
      simp only [hz, Option.map_some, Option.some.injEq, Prod.mk.injEq] at e3
      exact ⟨f, z, rfl, e1, e2, hz, e3.1, e3.2⟩
theorem TOk.slice (tok : TOk P tb) {t e : TypeId} {i : TyE} (h : tb t = some i) (hs : i.ty = .slice e) : P.underlying t = some (.slice e) := by
  obtain ⟨d, h1, h2⟩ := tok.und h
  rw [hs] at h2
  cases d <;> simp [Ty.of] at h2
  rw [h1, h2]
theorem TOk.str (tok : TOk P tb) {t : TypeId} {i : TyE} (h : tb t = some i) (hs : i.ty = .str) : P.underlying t = some .string := by
  obtain ⟨d, h1, h2⟩ := tok.und h
  rw [hs] at h2
  cases d <;> simp [Ty.of] at h2
  exact h1
theorem TOk.int (tok : TOk P tb) {t : TypeId} {i : TyE} {k : IntKind} (h : tb t = some i) (hs : i.ty = .int k) : P.underlying t = some (.int k) := by
  obtain ⟨d, h1, h2⟩ := tok.und h
  rw [hs] at h2
  cases d <;> simp [Ty.of] at h2
  rw [h1, h2]
theorem TOk.arr (tok : TOk P tb) {t e : TypeId} {n : Nat} {i : TyE} (h : tb t = some i) (hs : i.ty = .arr n e) : P.underlying t = some (.array n e) := by
  obtain ⟨d, h1, h2⟩ := tok.und h
  rw [hs] at h2
  cases d <;> simp [Ty.of] at h2
  rw [h1, h2.1, h2.2]
theorem TOk.struct (tok : TOk P tb) {t : TypeId} {fs : List (Nat × TypeId)} {i : TyE} (h : tb t = some i) (hs : i.ty = .struct fs) : ∃ fields : Array Field, P.underlying t = some (.struct fields) ∧ fields.toList.map (fun f => (f.offset, f.type)) = fs := by
  obtain ⟨d, h1, h2⟩ := tok.und h
  rw [hs] at h2
  cases d <;> simp [Ty.of] at h2
  exact ⟨_, h1, h2⟩
theorem TOk.run_sizeOf (tok : TOk P tb) {t : TypeId} {i : TyE} (h : tb t = some i) (w : World) : (sizeOf t).run P w = .ok i.size w := by
  obtain ⟨f, z, h1, h2, _⟩ := tok.inf h
  simp [sizeOf, typeInfo, h1, h2]
theorem TOk.run_zero (tok : TOk P tb) {t : TypeId} {i : TyE} (h : tb t = some i) (w : World) : ∃ z, (zeroValue t).run P w = .ok z w ∧ z.cells.toList = i.zero := by
  obtain ⟨f, z, h1, _, _, h4, h5, _⟩ := tok.inf h
  exact ⟨z, by simp [zeroValue, typeInfo, h1, h4], h5⟩
theorem TOk.run_isAgg (tok : TOk P tb) {t : TypeId} {i : TyE} (h : tb t = some i) (w : World) : (isAgg t).run P w = .ok i.ty.agg w := by
  obtain ⟨d, h1, h2⟩ := tok.und h
  rw [← h2]
  unfold isAgg
  rw [Sem.run_bind, run_underlying h1 w]
  cases d <;> rfl
end
def D.cells : D → Option (List D)
  | .ag ds => some ds
  | .tu _ | .top | .opt _ _ => none
  | d => some [d]
def D.cellE : D → Option E
  | .e x => some x
  | .own _ z n xs => some (.sl z n xs)
  | .fu z n xs => some (.sl z n xs)
  | _ => none
def cellsE : List D → Option (List E)
  | [] => some []
  | d :: ds => match d.cellE, cellsE ds with
    | some x, some xs => some (x :: xs)
    | _, _ => none
def D.asSl (z : Nat) : D → Option (Nat × List E)
  | .e (.sl z' n xs) => if z' = z then some (n, xs) else none
  | .own _ z' n xs => if z' = z then some (n, xs) else none
  | .fu z' n xs => if z' = z then some (n, xs) else none
  | .e (.lit (.slice none 0 0)) => if z = 0 then none else some (0, [])
  | _ => none
def D.strOf : D → Option ByteArray
  | .e (.lit (.string s)) => some s
  | _ => none
def D.exC : D → D
  | .own _ z n xs => .e (.sl z n xs)
  | .fu z n xs => .e (.sl z n xs)
  | d => d
def D.ex : D → D
  | .own _ z n xs => .e (.sl z n xs)
  | .fu z n xs => .e (.sl z n xs)
  | .ag ds => .ag (ds.map D.exC)
  | d => d
def D.pureC : D → Bool
  | .e _ => true
  | _ => false
def D.pure : D → Bool
  | .e _ => true
  | .ag ds => ds.all D.pureC
  | .fp _ _ => true
  | _ => false
def constD (v : Value) : D :=
  match v with
  | .agg cs => if cs.toList.all Value.oneCell' then .ag (cs.toList.map fun u => .e (.lit u)) else .top
  | .tuple _ => .top
  | v => .e (.lit v)
def evD (tm : List (Nat × D)) : Operand → D
  | .tmp t => (tm.lookup t).getD .top
  | .const v => constD v
  | .global _ => .top
  | .func f => .e (.lit (.func (.func f) #[] #[]))
def putD (dst : Option Tmp) (d : D) (tm : List (Nat × D)) : List (Nat × D) :=
  match dst with
  | some t => (t, d) :: tm
  | none => tm
section
variable (P : Program) (tb : TypeId → Option TyE)
def loadV (t : TypeId) (d : D) (hp : Hp) (k : D → Prop) : Prop :=
  match d with
  | .pt j off => match tb t, hp.vars.lookup j with
    | some i, some ds => j < hp.next ∧ match i.ty.agg with
      | true => off + i.size ≤ ds.length ∧ k (.ag ((ds.drop off).take i.size))
      | false => ∃ d, ds[off]? = some d ∧ k d
    | _, _ => False
  | .fp xs off => match tb t with
    | some i => match i.ty.agg with
      | true => off + i.size ≤ xs.length ∧ k (.ag ((List.range i.size).map fun j => .e (xs.getD (off + j) .any)))
      | false => off < xs.length ∧ k (.e (xs.getD off .any))
    | _ => False
  | _ => False
def storeV (t : TypeId) (d x : D) (hp : Hp) (k : D → Hp → Prop) : Prop :=
  match d with
  | .pt j off => match tb t, hp.vars.lookup j, x.cells with
    | some i, some ds, some cs => cs.length = i.size ∧ off + i.size ≤ ds.length ∧ k .top (hp.set j (ds.take off ++ cs ++ ds.drop (off + cs.length)))
    | _, _, _ => False
  | _ => False
def asgV (ty : TypeId) (d : D) (hp : Hp) (k : D → Hp → Prop) : Prop :=
  match d with
  | .e (.lit (.slice none 0 0)) => match tb ty with
    | some i => match i.ty with
      | .slice e => match tb e with
        | some j => 0 < j.size ∧ k (.own hp.next j.size 0 []) (hp.tok 0 (j.size, e))
        | none => k d hp
      | _ => k d hp
    | none => k d hp
  | _ => k d hp
def pickV (c a b : D) (k : D → Prop) : Prop :=
  match c with
  | .e (.lit (.bool true)) => k a
  | .e (.lit (.bool false)) => k b
  | _ => False
def fillL {α : Type} (place : Nat → Option (Nat × Nat)) (cells : List α) : List (Nat × List α) → Option (List α)
  | [] => some cells
  | (i, cs) :: rest => match place i with
    | none => none
    | some (off, size) => if cs.length ≠ size ∨ off + cs.length > cells.length then none else fillL place (cells.take off ++ cs ++ cells.drop (off + cs.length)) rest
def partsD : List (Nat × D) → Option (List (Nat × List D))
  | [] => some []
  | (i, d) :: rest => match d.cells, partsD rest with
    | some cs, some r => some ((i, cs) :: r)
    | _, _ => none
def placeS (fs : List (Nat × TypeId)) (i : Nat) : Option (Nat × Nat) :=
  match fs[i]? with
  | some (off, t) => (tb t).map fun j => (off, j.size)
  | none => none
def buildV (t : TypeId) (ps : List (Nat × D)) (k : D → Prop) : Prop :=
  match tb t, partsD ps with
  | some i, some qs => match i.ty with
    | .struct fs => (∀ f ∈ fs, (tb f.2).isSome = true) ∧ match fillL (placeS tb fs) (i.zero.map fun v => D.e (.lit v)) qs with
      | some ds => k (.ag ds)
      | none => False
    | .arr _ e => match tb e with
      | some j => match fillL (fun n => some (n * j.size, j.size)) (i.zero.map fun v => D.e (.lit v)) qs with
        | some ds => k (.ag ds)
        | none => False
      | none => False
    | _ => False
  | _, _ => False
def buildSliceV (own : Bool) (t : TypeId) (n : Nat) (ps : List (Nat × D)) (hp : Hp) (k : D → Hp → Prop) : Prop :=
  match tb t, partsD ps with
  | some i, some qs => match i.ty with
    | .slice e => match tb e with
      | some j => 0 < j.size ∧ n * j.size ≤ 16777216 ∧ match n with
        | 0 => qs = [] ∧ k (.own hp.next j.size 0 []) (hp.tok 0 (j.size, e))
        | n => match fillL (fun m => some (m * j.size, j.size)) (List.replicate (n * j.size) (D.e .any)) qs with
          | some ds => match cellsE ds with
            | some xs => match own with
              | true => k (.own hp.next j.size n xs) (hp.tok n (j.size, e))
              | false => k (.fu j.size n xs) hp
            | none => False
          | none => False
      | none => False
    | _ => False
  | _, _ => False
def binIntV (op : BinOp) (j : IntKind) (a b : Int) (k : Value → Prop) : Prop :=
  match op with
  | .add => k (.int j (j.wrap (a + b)))
  | .sub => k (.int j (j.wrap (a - b)))
  | .mul => k (.int j (j.wrap (a * b)))
  | .quo => b ≠ 0 ∧ k (.int j (j.wrap (a.tdiv b)))
  | .rem => b ≠ 0 ∧ k (.int j (a.tmod b))
  | .and => k (.int j (j.wrap (BitVec.ofInt j.bits a &&& BitVec.ofInt j.bits b).toNat))
  | .or => k (.int j (j.wrap (BitVec.ofInt j.bits a ||| BitVec.ofInt j.bits b).toNat))
  | .xor => k (.int j (j.wrap (BitVec.ofInt j.bits a ^^^ BitVec.ofInt j.bits b).toNat))
  | .andNot => k (.int j (j.wrap (BitVec.ofInt j.bits a &&& ~~~ BitVec.ofInt j.bits b).toNat))
  | .eql => k (.bool (decide (a = b)))
  | .neq => k (.bool (decide (a ≠ b)))
  | .lss => k (.bool (decide (a < b)))
  | .leq => k (.bool (decide (a ≤ b)))
  | .gtr => k (.bool (decide (b < a)))
  | .geq => k (.bool (decide (b ≤ a)))
  | _ => False
def binStrV (op : BinOp) (a b : ByteArray) (k : Value → Prop) : Prop :=
  match op with
  | .add => a.size + b.size ≤ 9223372036854775807 ∧ k (.string (a ++ b))
  | .eql => k (.bool (decide (a = b)))
  | .neq => k (.bool (decide (a ≠ b)))
  | _ => False
def binBoolV (op : BinOp) (a b : Bool) (k : Value → Prop) : Prop :=
  match op with
  | .eql => k (.bool (a == b))
  | .neq => k (.bool (!(a == b)))
  | _ => False
def litsOf : List D → Option (List Value)
  | [] => some []
  | .e (.lit v) :: ds => (litsOf ds).map (v :: ·)
  | _ => none
def binV (op : BinOp) (t : TypeId) (a b : D) (k : Value → Prop) : Prop :=
  match op, a, b with
  | .shl, .e (.lit (.int j x)), .e (.lit (.int _ y)) => 0 ≤ y ∧ k (.int j (j.wrap (x * 2 ^ min y.toNat j.bits)))
  | .shr, .e (.lit (.int j x)), .e (.lit (.int _ y)) => 0 ≤ y ∧ k (.int j (x.fdiv (2 ^ min y.toNat j.bits)))
  | op, .e (.lit (.int j x)), .e (.lit (.int j' y)) => j = j' ∧ binIntV op j x y k
  | op, .e (.lit (.string x)), .e (.lit (.string y)) => binStrV op x y k
  | op, .e (.lit (.bool x)), .e (.lit (.bool y)) => P.underlying t = some .bool ∧ binBoolV op x y k
  | op, .ag xs, .ag ys => match litsOf xs, litsOf ys with
    | some us, some vs => ∃ r, (∀ w, (do eqGuard op t (.tmp 0) (.tmp 0) (.agg us.toArray) (.agg vs.toArray); binOp op t (.agg us.toArray) (.agg vs.toArray)).run P w = .ok r w) ∧ r.oneCell' = true ∧ k r
    | _, _ => False
  | _, _, _ => False
def unV (op : UnOp) (a : D) (k : Value → Prop) : Prop :=
  match op, a with
  | .not, .e (.lit (.bool b)) => k (.bool !b)
  | .neg, .e (.lit (.int j n)) => k (.int j (j.wrap (0 - n)))
  | _, _ => False
def fieldOff (s : TypeId) (f : Nat) (k : Nat → Nat → Bool → Prop) : Prop :=
  match tb s with
  | some i => match i.ty with
    | .struct fs => match fs[f]? with
      | some (off, t) => match tb t with
        | some j => k off j.size j.ty.agg
        | none => False
      | none => False
    | _ => False
  | none => False
def fieldAddrV (s : TypeId) (f : Nat) (d : D) (k : D → Prop) : Prop :=
  fieldOff tb s f fun o z _ => z ≠ 0 ∧ match d with
    | .pt j off => k (.pt j (off + o))
    | .fp xs off => k (.fp xs (off + o))
    | _ => False
def fieldV (s : TypeId) (f : Nat) (d : D) (k : D → Prop) : Prop :=
  fieldOff tb s f fun o z g => match d with
    | .ag ds => match g with
      | true => o + z ≤ ds.length ∧ k (.ag ((ds.drop o).take z))
      | false => ∃ d, ds[o]? = some d ∧ k d
    | _ => False
def indexAddrV (t : TypeId) (d i : D) (k : D → Prop) : Prop :=
  match tb t, i with
  | some ti, .e (.lit (.int _ x)) => match ti.ty with
    | .slice e => match tb e with
      | some j => match d.asSl j.size with
        | some (n, xs) => (0 ≤ x ∧ x < (n : Int)) ∧ k (.fp xs (x.toNat * j.size))
        | none => match d with
          | .ow v off z n => z = j.size ∧ (0 ≤ x ∧ x < (n : Int)) ∧ k (.pt v (off + x.toNat * j.size))
          | _ => False
      | none => False
    | .arr n e => match tb e, d with
      | some j, .pt v off => (0 ≤ x ∧ x < (n : Int)) ∧ k (.pt v (off + x.toNat * j.size))
      | some j, .fp xs off => (0 ≤ x ∧ x < (n : Int)) ∧ k (.fp xs (off + x.toNat * j.size))
      | _, _ => False
    | _ => False
  | _, _ => False
def indexV (t : TypeId) (d i : D) (k : D → Prop) : Prop :=
  match tb t, i with
  | some ti, .e (.lit (.int _ x)) => match ti.ty, d with
    | .str, .e (.lit (.string s)) => (0 ≤ x ∧ x < (s.size : Int)) ∧ k (.e (.lit (.int .u8 ((s.data.toList.getD x.toNat 0).toNat : Int))))
    | .arr n e, .ag ds => match tb e with
      | some j => (0 ≤ x ∧ x < (n : Int)) ∧ match j.ty.agg with
        | true => x.toNat * j.size + j.size ≤ ds.length ∧ k (.ag ((ds.drop (x.toNat * j.size)).take j.size))
        | false => ∃ d, ds[x.toNat * j.size]? = some d ∧ k d
      | none => False
    | _, _ => False
  | _, _ => False
def byteOf : E → Option UInt8
  | .lit (.int .u8 n) => some (UInt8.ofNat n.toNat)
  | _ => none
def bytesOf : List E → Option (List UInt8)
  | [] => some []
  | x :: xs => match byteOf x, bytesOf xs with
    | some b, some bs => some (b :: bs)
    | _, _ => none
def convV (s t : TypeId) (d : D) (k : D → Prop) : Prop :=
  match tb s, tb t with
  | some i, some j => match j.ty, d with
    | .int jk, .e (.lit (.int _ n)) => k (.e (.lit (.int jk (jk.wrap n))))
    | .str, .e (.lit (.string s)) => k (.e (.lit (.string s)))
    | .str, d => match i.ty with
      | .slice e => match tb e with
        | some l => l.ty = .int .u8 ∧ match d.asSl 1 with
          | some (_, xs) => match bytesOf xs with
            | some bs => k (.e (.lit (.string ⟨bs.toArray⟩)))
            | none => False
          | none => False
        | none => False
      | _ => False
    | _, _ => False
  | _, _ => False
def boundV (b : Option D) (dflt : Int) (k : Int → Prop) : Prop :=
  match b with
  | none => k dflt
  | some (.e (.lit (.int _ x))) => k x
  | _ => False
def sliceV (t : TypeId) (d : D) (lo hi mx : Option D) (k : D → Prop) : Prop :=
  match tb t with
  | some ti => match ti.ty with
    | .slice e => match tb e with
      | some j => match d.asSl j.size with
        | some (n, xs) => boundV lo 0 fun l => boundV hi n fun h => (0 ≤ l ∧ l ≤ h ∧ h ≤ (n : Int)) ∧ match mx with
          | none => k (.e (.sl j.size (h - l).toNat ((xs.drop (l.toNat * j.size)).take ((h - l).toNat * j.size))))
          | some m => boundV (some m) 0 fun m => hi.isSome = true ∧ m = h ∧ k (.fu j.size (h - l).toNat ((xs.drop (l.toNat * j.size)).take ((h - l).toNat * j.size)))
        | none => False
      | none => False
    | .str => match d, mx with
      | .e (.lit (.string s)), none => boundV lo 0 fun l => boundV hi s.size fun h => (0 ≤ l ∧ l ≤ h ∧ h ≤ (s.size : Int)) ∧ k (.e (.lit (.string (s.extract l.toNat h.toNat))))
      | _, _ => False
    | _ => False
  | none => False
def lenV (t : TypeId) (d : D) (k : Int → Prop) : Prop :=
  match tb t with
  | some ti => match ti.ty with
    | .slice e => match tb e with
      | some j => match d.asSl j.size with
        | some (n, _) => k n
        | none => match d with
          | .ow _ _ _ n => k n
          | _ => False
      | none => False
    | .str => match d with
      | .e (.lit (.string s)) => k s.size
      | _ => False
    | .arr n _ => k n
    | _ => False
  | none => False
def newsV (t : TypeId) (z : Nat) (x : D) (k : Nat → List E → Prop) : Prop :=
  match tb t with
  | some i => match i.ty, x.strOf with
    | .str, some s => z = 1 ∧ k s.size (s.data.toList.map fun b => .lit (bv b))
    | .slice _, none => match x.asSl z with
      | some (m, ys) => k m ys
      | none => False
    | _, _ => False
  | none => False
def appendV (t t' : TypeId) (s x : D) (hp : Hp) (k : D → Hp → Prop) : Prop :=
  match tb t with
  | some ti => match ti.ty with
    | .slice e => match tb e with
      | some j => 0 < j.size ∧ (x.strOf = none → t' = t) ∧ (x.strOf ≠ none → j.bytes = 1 ∧ j.zero = [.int .u8 0] ∧ j.ty.agg = false) ∧ newsV tb t' j.size x fun m ys => match s with
        | .own id z n xs => z = j.size ∧ hp.live.lookup id = some (n, j.size, e) ∧ (n + m) * max 1 j.bytes ≤ 140737488355328 ∧ k (.own id j.size (n + m) (xs ++ ys)) (hp.app id (n + m) (j.size, e))
        | .e (.lit (.slice none 0 0)) => m * max 1 j.bytes ≤ 140737488355328 ∧ k (.own hp.next j.size m ys) (hp.tok m (j.size, e))
        | .fu z n xs => z = j.size ∧ 0 < m ∧ (n + m) * max 1 j.bytes ≤ 140737488355328 ∧ k (.own hp.next j.size (n + m) (xs ++ ys)) (hp.tok (n + m) (j.size, e))
        | _ => False
      | none => False
    | _ => False
  | none => False
def FnOk (P : Program) (f : FuncId) : Prop := ∃ fn, P.funcs[f]? = some fn ∧ (fn.name == "runtime.NumGoroutine") = false ∧ fn.body.isNone = false
def PRep (w : World) (F : Addr → Prop) (d : D) (v : Value) : Prop := RepD ⟨[], [], 0⟩ ⟨fun _ => 0, fun _ => default, F⟩ w d v
def PRes (B : Nat) (F : Addr → Prop) (w : World) (r : D) (v : Value) : Prop :=
  match r with
  | .own e z n xs => 0 < z ∧ (∃ us, w.ownsRow B e z v n us) ∧ RepE w (fun p => F p ∨ Value.tail v (n * z) p) (.sl z n xs) v
  | r => PRep w F r v
def PCalls (f : FuncId) (ds : List D) (r : D) : Prop := FnOk P f ∧ ∀ (w : World) (F : Addr → Prop) (vs : Array Value), TT w.heap.size w → (∀ p : Addr, F p → p.block < w.heap.size) → vs.size = ds.length → (∀ (j : Nat) (d : D) (u : Value), ds[j]? = some d → vs[j]? = some u → PRep w F d u) →
  Calls P f vs w fun e w' => ∃ v, e = .returned v ∧ PRes w.heap.size F w' r v ∧ Below w.heap.size w w'
def HC (f : FuncId) (ds : List D) (hp : Hp) (d : D) (hp' : Hp) : Prop := FnOk P f ∧ ∀ (B : Nat) (g : Gh) (w : World) (vs : Array Value), TT B w → HR B hp g w → vs.size = ds.length → (∀ (j : Nat) (d : D) (u : Value), ds[j]? = some d → vs[j]? = some u → RepD hp g w d u) →
  Calls P f vs w fun e w' => ∃ v g', e = .returned v ∧ HR B hp' g' w' ∧ Mono hp g w hp' g' w' ∧ RepD hp' g' w' d v ∧ Below B w w' ∧ ∀ p : Addr, p.block < B → g.F p → g'.F p
def hvB (c : Call) : Bool :=
  match c.callee with
  | .value (.func _) => c.argTypes.any fun t => match tb t with
    | some i => match i.ty with
      | .other => true
      | .struct [p, q] => match tb p.2, tb q.2 with
        | some a, some b => match a.ty, b.ty with
          | .struct [_, _], .slice _ => true
          | _, _ => false
        | _, _ => true
      | _ => false
    | none => true
  | .value _ => true
  | _ => false
def adoptV (r : D) (hp : Hp) (k : D → Hp → Prop) : Prop :=
  match r with
  | .own e z n xs => k (.own hp.next z n xs) (hp.tok n (z, e))
  | .fu _ _ _ => False
  | r => k r hp
def callV (hv : Bool) (f : FuncId) (ds : List D) (hp : Hp) (k : D → Hp → Prop) : Prop :=
  ((ds.map D.ex).all D.pure = true ∧ ∃ r, PCalls P f (ds.map D.ex) r ∧ adoptV r hp k) ∨ (hv = true ∧ ∃ d hp', HC P f ds hp d hp' ∧ k d hp')
def builtinV (b : Builtin) (ts : List TypeId) (ds : List D) (hp : Hp) (k : D → Hp → Prop) : Prop :=
  match b, ts, ds with
  | .len, [t], [d] => lenV tb t d fun n => k (.e (.lit (.int .i64 n))) hp
  | .min, _, [.e (.lit (.int j x)), .e (.lit (.int _ y))] => k (.e (.lit (.int j (min x y)))) hp
  | .max, _, [.e (.lit (.int j x)), .e (.lit (.int _ y))] => k (.e (.lit (.int j (max x y)))) hp
  | .append, [t, t'], [s, x] => appendV tb t t' s x hp k
  | _, _, _ => False
def calleeV (hv : Bool) (d : D) (ds : List D) (hp : Hp) (k : D → Hp → Prop) : Prop :=
  match d with
  | .e (.lit (.func (.func f) fi ca)) => fi.size = 0 ∧ ca.size = 0 ∧ callV P hv f ds hp k
  | .fn f ks => callV P hv f (ds ++ ks.map fun k => .pt k 0) hp k
  | _ => False
def nilV (d : D) (k : D → Prop) : Prop :=
  match d with
  | .pt j off => k (.pt j off)
  | .fp xs off => k (.fp xs off)
  | _ => False
def capsV : List D → Option (List Nat)
  | [] => some []
  | .pt k 0 :: ds => (capsV ds).map (k :: ·)
  | _ => none
def makeFuncV (fn : Fn) (first : Nat) (cs : List D) (k : D → Prop) : Prop :=
  match fn with
  | .func f => first = 0 ∧ match cs with
    | [] => k (.e (.lit (.func (.func f) #[] #[])))
    | cs => match capsV cs with
      | some ks => k (.fn f ks)
      | none => False
  | _ => False
def AVC (dr : Bool) (op : Op) (ty : TypeId) (ev : Operand → D) (hp : Hp) (k : D → Hp → Prop) : Prop :=
  match op with
  | .move x => k (ev x) hp
  | .assign x => asgV tb ty (ev x) hp k
  | .pick c a b => pickV (ev c) (ev a) (ev b) fun d => k d hp
  | .alloc t => match tb t with
    | some i => k (.pt hp.next 0) (hp.var (i.zero.map fun v => .e (.lit v)))
    | none => False
  | .box _ x => match (ev x).cells with
    | some cs => k (.pt hp.next 0) (hp.var cs)
    | none => False
  | .build t ps => buildV tb t (ps.toList.map fun p => (p.1, ev p.2)) fun d => k d hp
  | .buildSlice t n ps => buildSliceV tb (!dr) t n (ps.toList.map fun p => (p.1, ev p.2)) hp k
  | .load t x => loadV tb t (ev x) hp fun d => k d hp
  | .store t x y => storeV tb t (ev x) (ev y) hp k
  | .binOp o t x y _ => binV P o t (ev x) (ev y) fun v => k (.e (.lit v)) hp
  | .unOp o _ x => unV o (ev x) fun v => k (.e (.lit v)) hp
  | .convert s t x => convV tb s t (ev x) fun d => k d hp
  | .slice t x lo hi mx => sliceV tb t (ev x) (lo.map ev) (hi.map ev) (mx.map ev) fun d => k d hp
  | .fieldAddr s x f => fieldAddrV tb s f (ev x) fun d => k d hp
  | .field s x f => fieldV tb s f (ev x) fun d => k d hp
  | .indexAddr t x i => indexAddrV tb t (ev x) (ev i) fun d => k d hp
  | .index t x i => indexV tb t (ev x) (ev i) fun d => k d hp
  | .extract x i => match ev x with
    | .tu ds => ∃ d, ds[i]? = some d ∧ k d hp
    | _ => False
  | .call c => match c.callee with
    | .builtin b => builtinV tb b c.argTypes.toList (c.args.toList.map ev) hp k
    | .value x => calleeV P (hvB tb c) (ev x) (c.args.toList.map ev) hp k
    | .invoke _ _ => False
  | .nilCheck x => nilV (ev x) fun d => k d hp
  | .makeFunc fn first cs => makeFuncV fn first.size (cs.toList.map ev) fun d => k d hp
  | _ => False
end
end
section
def Pw {α β : Type} (R : α → β → Prop) (xs : List α) (ys : List β) : Prop := xs.length = ys.length ∧ ∀ (j : Nat) (x : α) (y : β), xs[j]? = some x → ys[j]? = some y → R x y
section
variable {α β : Type} {R : α → β → Prop} {xs xs' : List α} {ys ys' : List β}
theorem Pw.append (h : Pw R xs ys) (h' : Pw R xs' ys') : Pw R (xs ++ xs') (ys ++ ys') := by
  refine ⟨by rw [List.length_append, List.length_append, h.1, h'.1], fun j x y hx hy => ?_⟩
  rw [List.getElem?_append] at hx hy
  rw [h.1] at hx
  split at hx
  · rename_i hlt
    rw [if_pos hlt] at hy
    exact h.2 j x y hx hy
  · rename_i hlt
    rw [if_neg hlt] at hy
    exact h'.2 _ x y hx hy
theorem Pw.take (h : Pw R xs ys) (n : Nat) : Pw R (xs.take n) (ys.take n) := by
  refine ⟨by rw [List.length_take, List.length_take, h.1], fun j x y hx hy => ?_⟩
  rw [List.getElem?_take] at hx hy
  split at hx
  · rename_i hlt
    rw [if_pos hlt] at hy
    exact h.2 j x y hx hy
  · cases hx
theorem Pw.drop (h : Pw R xs ys) (n : Nat) : Pw R (xs.drop n) (ys.drop n) := by
  refine ⟨by rw [List.length_drop, List.length_drop, h.1], fun j x y hx hy => ?_⟩
  rw [List.getElem?_drop] at hx hy
  exact h.2 _ x y hx hy
theorem Pw.get (h : Pw R xs ys) {j : Nat} {x : α} (hx : xs[j]? = some x) : ∃ y, ys[j]? = some y ∧ R x y := by
  have hj : j < ys.length := by
    rw [← h.1]
    rcases Nat.lt_or_ge j xs.length with hh | hh
    · exact hh
    · rw [List.getElem?_eq_none hh] at hx; cases hx
  exact ⟨ys[j], List.getElem?_eq_getElem hj, h.2 j x _ hx (List.getElem?_eq_getElem hj)⟩
theorem Pw.nil : Pw R [] [] := ⟨rfl, fun j _ _ h _ => by simp at h⟩
theorem Pw.cons {x : α} {y : β} (h : R x y) (h' : Pw R xs ys) : Pw R (x :: xs) (y :: ys) := by
  refine ⟨by simp [h'.1], fun j a b ha hb => ?_⟩
  cases j with
  | zero =>
    simp at ha hb
    subst ha; subst hb
    exact h
  | succ j => exact h'.2 j a b (by simpa using ha) (by simpa using hb)
theorem Pw.imp {R' : α → β → Prop} (h : Pw R xs ys) (hi : ∀ x y, R x y → R' x y) : Pw R' xs ys := ⟨h.1, fun j x y hx hy => hi x y (h.2 j x y hx hy)⟩
end
theorem oneCell_cells {v : Value} (h : v.oneCell' = true) : v.cells = #[v] := by cases v <;> first | rfl | cases h
section
variable {hp : Hp} {g : Gh} {w : World} {d : D} {v : Value}
def Cells (hp : Hp) (g : Gh) (w : World) (cs : List D) (us : List Value) : Prop := Pw (RepD hp g w) cs us ∧ ∀ u ∈ us, u.oneCell' = true
theorem Cells.one (h : RepD hp g w d v) (h1 : v.oneCell' = true) : Cells hp g w [d] v.cells.toList := by
  rw [oneCell_cells h1]
  exact ⟨Pw.cons h Pw.nil, fun u hu => by simp at hu; subst hu; exact h1⟩
theorem RepD.cells {cs : List D} (h : RepD hp g w d v) (hc : d.cells = some cs) : Cells hp g w cs v.cells.toList := by
  cases h with
  | ag ds cs' hl h1 hr =>
    obtain rfl : ds = cs := by simpa [D.cells] using hc
    refine ⟨⟨hl.symm.trans (Array.length_toList (xs := cs')).symm, fun j x y hx hy => hr j x y hx (by simpa [Value.cells] using hy)⟩, fun u hu => ?_⟩
    obtain ⟨j, hj⟩ := List.getElem?_of_mem hu
    exact h1 j u (by simpa [Value.cells] using hj)
  | tu ds cs' hl hr => simp [D.cells] at hc
  | top v => simp [D.cells] at hc
  | opt b d v hi h => simp [D.cells] at hc
  | e x v h =>
    obtain rfl : [D.e x] = cs := by simpa [D.cells] using hc
    exact Cells.one (.e x v h) h.one
  | own id z n xs v h hid ht =>
    obtain rfl : [D.own id z n xs] = cs := by simpa [D.cells] using hc
    exact Cells.one (.own id z n xs v h hid ht) h.one
  | fu z n xs A h =>
    obtain rfl : [D.fu z n xs] = cs := by simpa [D.cells] using hc
    exact Cells.one (.fu z n xs A h) rfl
  | fp xs off ad hb hc' =>
    obtain rfl : [D.fp xs off] = cs := by simpa [D.cells] using hc
    exact Cells.one (.fp xs off ad hb hc') rfl
  | pt k off hk =>
    obtain rfl : [D.pt k off] = cs := by simpa [D.cells] using hc
    exact Cells.one (.pt k off hk) rfl
  | ow k off z n c hk h1 h2 =>
    obtain rfl : [D.ow k off z n] = cs := by simpa [D.cells] using hc
    exact Cells.one (.ow k off z n c hk h1 h2) rfl
  | gw k z n c hk h1 h2 hs =>
    obtain rfl : [D.gw k z n] = cs := by simpa [D.cells] using hc
    exact Cells.one (.gw k z n c hk h1 h2 hs) rfl
  | fn f ks hk =>
    obtain rfl : [D.fn f ks] = cs := by simpa [D.cells] using hc
    exact Cells.one (.fn f ks hk) rfl
theorem Cells.append {cs cs' : List D} {us us' : List Value} (h : Cells hp g w cs us) (h' : Cells hp g w cs' us') : Cells hp g w (cs ++ cs') (us ++ us') :=
  ⟨h.1.append h'.1, fun u hu => (List.mem_append.1 hu).elim (h.2 u) (h'.2 u)⟩
theorem Cells.take {cs : List D} {us : List Value} (h : Cells hp g w cs us) (n : Nat) : Cells hp g w (cs.take n) (us.take n) := ⟨h.1.take n, fun u hu => h.2 u (List.mem_of_mem_take hu)⟩
theorem Cells.drop {cs : List D} {us : List Value} (h : Cells hp g w cs us) (n : Nat) : Cells hp g w (cs.drop n) (us.drop n) := ⟨h.1.drop n, fun u hu => h.2 u (List.mem_of_mem_drop hu)⟩
theorem Cells.ag {cs : List D} {us : List Value} (h : Cells hp g w cs us) : RepD hp g w (.ag cs) (.agg us.toArray) :=
  .ag cs us.toArray (by simpa using h.1.1.symm) (fun j u hu => h.2 u (List.mem_of_getElem? (by simpa using hu))) (fun j d u hd hu => h.1.2 j d u hd (by simpa using hu))
theorem Cells.lits (l : List Value) (h : l.all Value.oneCell' = true) : Cells hp g w (l.map fun v => .e (.lit v)) l := by
  have h1 : ∀ u ∈ l, u.oneCell' = true := by simpa using h
  refine ⟨⟨by simp, fun j x y hx hy => ?_⟩, h1⟩
  rw [List.getElem?_map, hy] at hx
  injection hx with hx
  subst hx
  exact .e _ _ (.lit y (h1 y (List.mem_of_getElem? hy)))
theorem cellE_rep {x : E} (h : RepD hp g w d v) (hx : d.cellE = some x) : RepE w g.F x v := by
  cases h <;> simp [D.cellE] at hx <;> (subst hx; assumption)
theorem cellsE_rep : ∀ {cs : List D} {us : List Value} {xs : List E}, Cells hp g w cs us → cellsE cs = some xs → Pw (RepE w g.F) xs us
  | [], us, xs, h, hx => by
    obtain rfl : [] = xs := by simpa [cellsE] using hx
    have : us = [] := List.eq_nil_of_length_eq_zero h.1.1.symm
    subst this
    exact Pw.nil
  | d :: ds, us, xs, h, hx => by
    cases us with
    | nil => have := h.1.1; simp at this
    | cons u us =>
      unfold cellsE at hx
      split at hx
      · rename_i x xs' h1 h2
        injection hx with hx
        subst hx
        refine Pw.cons (cellE_rep (h.1.2 0 d u rfl rfl) h1) (cellsE_rep ⟨⟨by simpa using h.1.1, fun j a b ha hb => h.1.2 (j + 1) a b ha hb⟩, fun u hu => h.2 u (List.mem_cons_of_mem _ hu)⟩ h2)
      · cases hx
end
theorem foldl_set (off : Nat) : ∀ (l : List Value) (k : Nat) (arr : Array Value), off + k + l.length ≤ arr.size →
    ((l.zipIdx k).foldl (fun (cs : Array Value) (x : Value × Nat) => cs.setIfInBounds (off + x.2) x.1) arr).toList = arr.toList.take (off + k) ++ l ++ arr.toList.drop (off + k + l.length)
  | [], k, arr, h => by simp
  | c :: l, k, arr, h => by
    simp only [List.length_cons] at h
    simp only [List.zipIdx_cons, List.foldl_cons]
    rw [foldl_set off l (k + 1) (arr.setIfInBounds (off + k) c) (by simp; omega), Array.toList_setIfInBounds]
    have hk : off + k < arr.toList.length := by simp; omega
    rw [show off + (k + 1) = off + k + 1 by omega, List.take_add_one, List.take_set_of_le (Nat.le_refl _), List.getElem?_set_self hk, List.drop_set_of_lt (by omega)]
    simp [Nat.add_assoc, Nat.add_comm, Nat.add_left_comm]
theorem fill_run (place : Nat → Option (Nat × Nat)) : ∀ (parts : List (Nat × Value)) (cells : Array Value),
    Instr.fill place cells parts = (match fillL place cells.toList (parts.map fun p => (p.1, p.2.cells.toList)) with | some l => some l.toArray | none => none) ∨ fillL place cells.toList (parts.map fun p => (p.1, p.2.cells.toList)) = none
  | [], cells => by simp [Instr.fill, fillL]
  | (i, v) :: rest, cells => by
    simp only [Instr.fill, fillL, List.map_cons]
    cases hp : place i with
    | none => exact .inr rfl
    | some q =>
      obtain ⟨off, size⟩ := q
      simp only [Array.length_toList]
      by_cases hc : v.cells.size ≠ size ∨ off + v.cells.size > cells.size
      · right
        rw [if_pos hc]
      · rw [if_neg hc]
        have e1 : (v.cells.zipIdx.foldl (fun cs (x : Value × Nat) => match x with | (c, j) => cs.setIfInBounds (off + j) c) cells).toList = cells.toList.take off ++ v.cells.toList ++ cells.toList.drop (off + v.cells.size) := by
          rw [← Array.foldl_toList, Array.toList_zipIdx]
          have := foldl_set off v.cells.toList 0 cells (by simp; omega)
          simpa using this
        have h3 : ¬ (decide (v.cells.size ≠ size) || decide (off + v.cells.size > cells.size)) = true := by simpa using hc
        rw [← e1]
        have h2 := fill_run place rest (v.cells.zipIdx.foldl (fun cs (x : Value × Nat) => match x with | (c, j) => cs.setIfInBounds (off + j) c) cells)
        rcases h2 with h2 | h2
        · left
          rw [← h2, if_neg h3]
        · exact .inr h2
theorem fillL_rel {α β : Type} {R : α → β → Prop} (place : Nat → Option (Nat × Nat)) : ∀ {qs : List (Nat × List α)} {ps : List (Nat × List β)} {ds ds' : List α} {vs : List β}, fillL place ds qs = some ds' → Pw R ds vs → Pw (fun (q : Nat × List α) (p : Nat × List β) => q.1 = p.1 ∧ Pw R q.2 p.2) qs ps →
    ∃ vs', fillL place vs ps = some vs' ∧ Pw R ds' vs'
  | [], ps, ds, ds', vs, h, hd, hq => by
    have : ps = [] := List.eq_nil_of_length_eq_zero hq.1.symm
    subst this
    obtain rfl : ds = ds' := by simpa [fillL] using h
    exact ⟨vs, rfl, hd⟩
  | (i, cs) :: rest, ps, ds, ds', vs, h, hd, hq => by
    cases ps with
    | nil => have := hq.1; simp at this
    | cons p ps =>
      obtain ⟨i', us⟩ := p
      obtain ⟨e1, hcu⟩ := hq.2 0 _ _ rfl rfl
      dsimp only at e1 hcu
      subst e1
      have hrest : Pw (fun (q : Nat × List α) (p : Nat × List β) => q.1 = p.1 ∧ Pw R q.2 p.2) rest ps := ⟨by have := hq.1; simpa using this, fun j a b ha hb => hq.2 (j + 1) a b ha hb⟩
      unfold fillL at h ⊢
      cases hp : place i with
      | none => simp [hp] at h
      | some q =>
        obtain ⟨off, size⟩ := q
        simp only [hp] at h ⊢
        rw [← hcu.1, ← hd.1]
        split at h
        · cases h
        · rename_i hc
          rw [if_neg hc]
          refine fillL_rel place h ?_ hrest
          exact ((hd.take off).append hcu).append (hd.drop _)
theorem fillL_rel_one {place : Nat → Option (Nat × Nat)} : ∀ {ps : List (Nat × List Value)} {vs vs' : List Value}, fillL place vs ps = some vs' → (∀ u ∈ vs, u.oneCell' = true) → (∀ p ∈ ps, ∀ u ∈ p.2, u.oneCell' = true) → ∀ u ∈ vs', u.oneCell' = true
  | [], vs, vs', h, h1, _ => by
    obtain rfl : vs = vs' := by simpa [fillL] using h
    exact h1
  | (i, cs) :: rest, vs, vs', h, h1, h2 => by
    unfold fillL at h
    split at h
    · cases h
    · split at h
      · cases h
      · refine fillL_rel_one h (fun u hu => ?_) (fun p hp => h2 p (List.mem_cons_of_mem _ hp))
        rcases List.mem_append.1 hu with hu | hu
        · rcases List.mem_append.1 hu with hu | hu
          · exact h1 u (List.mem_of_mem_take hu)
          · exact h2 _ (List.mem_cons_self ..) u hu
        · exact h1 u (List.mem_of_mem_drop hu)
theorem partsD_rep {hp : Hp} {g : Gh} {w : World} {ev : Operand → D} {ρ : Operand → Value} : ∀ {ps : List (Nat × Operand)} {qs : List (Nat × List D)}, (∀ p ∈ ps, RepD hp g w (ev p.2) (ρ p.2)) → partsD (ps.map fun p => (p.1, ev p.2)) = some qs →
    Pw (fun (q : Nat × List D) (p : Nat × List Value) => q.1 = p.1 ∧ Pw (RepD hp g w) q.2 p.2) qs ((ps.map fun p => (p.1, ρ p.2)).map fun p => (p.1, p.2.cells.toList)) ∧ ∀ p ∈ ((ps.map fun p => (p.1, ρ p.2)).map fun p => (p.1, p.2.cells.toList)), ∀ u ∈ p.2, u.oneCell' = true
  | [], qs, _, h => by
    obtain rfl : [] = qs := by simpa [partsD] using h
    exact ⟨Pw.nil, by simp⟩
  | (i, x) :: ps, qs, hr, h => by
    simp only [List.map_cons, partsD] at h
    split at h
    · rename_i cs r h1 h2
      injection h with h
      subst h
      have hx := (hr _ (List.mem_cons_self ..)).cells h1
      obtain ⟨h3, h4⟩ := partsD_rep (fun p hp => hr p (List.mem_cons_of_mem _ hp)) h2
      refine ⟨Pw.cons ⟨rfl, hx.1⟩ h3, fun p hp u hu => ?_⟩
      simp only [List.map_cons, List.mem_cons] at hp
      rcases hp with rfl | hp
      · exact hx.2 u hu
      · exact h4 p hp u hu
    · cases h
section
variable {P : Program} {tb : TypeId → Option TyE}
theorem run_loadVar_agg (tok : TOk P tb) {t : TypeId} {i : TyE} (ht : tb t = some i) (ha : i.ty.agg = true) (w : World) (ad : Addr) (us : List Value) (hl : us.length = i.size) (hc : ∀ j u, us[j]? = some u → w.cell? (ad.add j) = some u) :
    (loadVar t ad).run P w = .ok (.agg us.toArray) w := by
  have hr := run_loadCells_list (P := P) w ad us hc
  have h1 := tok.run_isAgg ht w
  have h2 := tok.run_sizeOf ht w
  rw [ha] at h1
  rw [hl] at hr
  simp [loadVar, Sem.run_bind, h1, h2, hr]
theorem run_loadVar_one (tok : TOk P tb) {t : TypeId} {i : TyE} (ht : tb t = some i) (ha : i.ty.agg = false) (w : World) (ad : Addr) (u : Value) (hc : w.cell? ad = some u) : (loadVar t ad).run P w = .ok u w := by
  have h1 := tok.run_isAgg ht w
  rw [ha] at h1
  simp [loadVar, Sem.run_bind, h1, load, Sem.run, hc]
theorem HR.cells {B : Nat} {hp : Hp} {g : Gh} {w : World} (h : HR B hp g w) {k : Nat} {ds : List D} (hk : hp.vars.lookup k = some ds) : ∃ cs ty, w.heap[g.μ k]? = some (.cells cs ty (0, 0)) ∧ Cells hp g w ds (cs.toList.take ds.length) ∧ ds.length ≤ cs.size := by
  obtain ⟨_, _, _, cs, ty, h1, h2, h3⟩ := h.var k ds hk
  refine ⟨cs, ty, h1, ⟨⟨by simp; omega, fun j x y hx hy => (h3 j y ?_).2 x hx⟩, fun u hu => ?_⟩, h2⟩
  rotate_left
  · obtain ⟨j, hj⟩ := List.getElem?_of_mem hu
    rw [List.getElem?_take] at hj
    split at hj
    · rename_i hlt
      exact (h3 j u (by simpa using hj)).1 hlt
    · cases hj
  rw [List.getElem?_take] at hy
  split at hy
  · simpa using hy
  · cases hy
theorem win_eq {α : Type} (l : List α) {off s n : Nat} (h : off + s ≤ n) : ((l.take n).drop off).take s = (l.drop off).take s := by
  rw [List.drop_take, List.take_take, Nat.min_eq_left (by omega)]
theorem loadV_sound (tok : TOk P tb) {t : TypeId} {d : D} {hp : Hp} {k : D → Prop} (h : loadV tb t d hp k) :
    ∃ d', k d' ∧ (∀ j off, d = .pt j off → j < hp.next) ∧ ∀ (hp2 : Hp) (B : Nat) (g : Gh) (w : World) (u : Value), (∀ j off, d = .pt j off → hp2.vars.lookup j = hp.vars.lookup j) → HR B hp2 g w → RepD hp2 g w d u → ∃ v, (Instr.loadAt t u).run P w = .ok v w ∧ RepD hp2 g w d' v := by
  unfold loadV at h
  split at h
  · rename_i j off
    split at h
    · rename_i i ds ht hv
      obtain ⟨hjn, h⟩ := h
      split at h
      · rename_i ha
        obtain ⟨hle, hk⟩ := h
        refine ⟨_, hk, (fun j' off' e => by cases e; exact hjn), fun hp2 B g w u hvv hr hu => ?_⟩
        cases hu
        obtain ⟨cs, ty, hh, hcs, hlen⟩ := hr.cells (by rw [hvv _ _ rfl]; exact hv)
        have hag := ((hcs.drop off).take i.size).ag
        rw [win_eq _ hle] at hag
        refine ⟨_, ?_, hag⟩
        have := run_loadVar_agg tok ht ha w ⟨g.μ j, off, none⟩ ((cs.toList.drop off).take i.size) (by rw [List.length_take, List.length_drop, Array.length_toList]; omega) (fun n u hu => by
          rw [Addr.add_lit]
          rw [List.getElem?_take] at hu
          split at hu
          · rw [List.getElem?_drop] at hu
            simp only [World.cell?, hh]
            simpa using hu
          · cases hu)
        simpa [Instr.loadAt, Instr.sureAddr] using this
      · rename_i ha
        obtain ⟨d', hd', hk⟩ := h
        refine ⟨d', hk, (fun j' off' e => by cases e; exact hjn), fun hp2 B g w u hvv hr hu => ?_⟩
        cases hu
        obtain ⟨cs, ty, hh, hcs, _⟩ := hr.cells (by rw [hvv _ _ rfl]; exact hv)
        obtain ⟨y, hy, hrep⟩ := hcs.1.get hd'
        refine ⟨y, ?_, hrep⟩
        rw [List.getElem?_take] at hy
        split at hy
        rotate_left
        · cases hy
        have := run_loadVar_one tok ht ha w ⟨g.μ j, off, none⟩ y (by simp only [World.cell?, hh]; simpa using hy)
        simpa [Instr.loadAt, Instr.sureAddr] using this
    · cases h
  · rename_i xs off
    split at h
    · rename_i i ht
      split at h
      · rename_i ha
        obtain ⟨hle, hk⟩ := h
        refine ⟨_, hk, (fun _ _ e => by cases e), fun hp2 B g w u hvv hr hu => ?_⟩
        cases hu with
        | fp _ _ ad hb hc =>
          have hall : ∀ m : Nat, ∃ us : List Value, m ≤ i.size → us.length = m ∧ (∀ j u, us[j]? = some u → w.cell? ((ad.add off).add j) = some u) ∧ Cells hp2 g w ((List.range m).map fun j => .e (xs.getD (off + j) .any)) us := by
            intro m
            induction m with
            | zero => exact ⟨[], fun _ => ⟨rfl, by simp, Pw.nil, by simp⟩⟩
            | succ m ih =>
              obtain ⟨us, hus⟩ := ih
              by_cases hm : m + 1 ≤ i.size
              · obtain ⟨h1, h2, h3⟩ := hus (by omega)
                have hx : xs[off + m]? = some xs[off + m] := List.getElem?_eq_getElem (by omega)
                obtain ⟨u, hu1, _, hu3⟩ := hc _ _ hx
                refine ⟨us ++ [u], fun _ => ⟨by simp [h1], fun j v hv => ?_, ?_⟩⟩
                · rw [List.getElem?_append] at hv
                  split at hv
                  · exact h2 j v hv
                  · have : j = m := by
                      rcases Nat.lt_or_ge j (m + 1) with hh | hh
                      · omega
                      · rw [List.getElem?_eq_none (by simp; omega)] at hv; cases hv
                    subst this
                    have : u = v := by simpa [h1] using hv
                    subst this
                    rw [add_of_add]
                    exact hu1
                · rw [List.range_succ, List.map_append]
                  refine h3.append ?_
                  have := Cells.one (hp := hp2) (g := g) (w := w) (d := .e (xs.getD (off + m) .any)) (v := u) (.e _ _ (by rw [List.getD, hx]; exact hu3)) hu3.one
                  rwa [oneCell_cells hu3.one] at this
              · exact ⟨[], fun h => absurd h hm⟩
          obtain ⟨us, hus⟩ := hall i.size
          obtain ⟨h1, h2, h3⟩ := hus (Nat.le_refl _)
          refine ⟨_, ?_, h3.ag⟩
          have := run_loadVar_agg tok ht ha w (ad.add off) us h1 h2
          simpa [Instr.loadAt, Instr.sureAddr] using this
      · rename_i ha
        obtain ⟨hle, hk⟩ := h
        refine ⟨_, hk, (fun _ _ e => by cases e), fun hp2 B g w u hvv hr hu => ?_⟩
        cases hu with
        | fp _ _ ad hb hc =>
          have hx : xs[off]? = some xs[off] := List.getElem?_eq_getElem hle
          obtain ⟨u, hu1, _, hu3⟩ := hc _ _ hx
          refine ⟨u, ?_, .e _ _ (by rw [List.getD, hx]; exact hu3)⟩
          have := run_loadVar_one tok ht ha w (ad.add off) u hu1
          simpa [Instr.loadAt, Instr.sureAddr] using this
    · cases h
  · cases h
theorem below_setRow2 {B : Nat} (w : World) {b : Nat} (hb : B ≤ b) (cs : Array Value) : Below B w (w.setRow b cs) :=
  ⟨rfl, rfl, rfl, by simp [World.setRow], fun k hk => setRow_other w b k cs (by omega)⟩
theorem storeV_sound (tok : TOk P tb) {t : TypeId} {d x : D} {hp : Hp} {k : D → Hp → Prop} (h : storeV tb t d x hp k) :
    ∃ hp', k .top hp' ∧ ∀ (B : Nat) (g : Gh) (w : World) (u v : Value), HR B hp g w → RepD hp g w d u → RepD hp g w x v →
      ∃ w', (Instr.storeAt t u v).run P w = .ok () w' ∧ HR B hp' g w' ∧ Mono hp g w hp' g w' ∧ Below B w w' := by
  unfold storeV at h
  split at h
  · rename_i j off
    split at h
    · rename_i i ds cs ht hv hx
      obtain ⟨hl, hle, hk⟩ := h
      refine ⟨_, hk, fun B g w u v hr hu hxv => ?_⟩
      cases hu
      obtain ⟨cur, ty, hh, hcur, hcl⟩ := hr.cells hv
      have hcs := hxv.cells hx
      have hsz : v.cells.size = i.size := by rw [← hl, hcs.1.1]; simp
      have hst := run_storeCells_at P (g.μ j) off ty v.cells.toList 0 cur w hh (by simp; omega) hcs.2
      have hlt := hr.var_lt hv
      have hB := (hr.var j ds hv).2.1
      have hcl2 : cs.length = v.cells.toList.length := hcs.1.1
      have hnew : Cells hp g w (ds.take off ++ cs ++ ds.drop (off + cs.length)) ((cur.toList.take (off + 0) ++ v.cells.toList ++ cur.toList.drop (off + 0 + v.cells.toList.length)).take ds.length) := by
        have := ((hcur.take off).append hcs).append (hcur.drop (off + cs.length))
        rw [hcs.1.1] at this ⊢
        have e1 : (cur.toList.take (off + 0) ++ v.cells.toList ++ cur.toList.drop (off + 0 + v.cells.toList.length)).take ds.length = ((cur.toList.take ds.length).take off ++ v.cells.toList) ++ (cur.toList.take ds.length).drop (off + v.cells.toList.length) := by
          rw [List.take_append, List.take_of_length_le (by simp; omega), List.drop_take, List.take_take, Nat.min_eq_left (by omega)]
          congr 2
          simp
          omega
        rw [e1]
        exact this
      have hsame : SzB w (w.setRow (g.μ j) (cur.toList.take (off + 0) ++ v.cells.toList ++ cur.toList.drop (off + 0 + v.cells.toList.length)).toArray) (g.μ j) := SzB.row hh (by simp; omega)
      have hheap := setRow_heap w (g.μ j) cur (cur.toList.take (off + 0) ++ v.cells.toList ++ cur.toList.drop (off + 0 + v.cells.toList.length)).toArray ty (0, 0) hh
      refine ⟨_, ?_, hr.setVar hv _ _ ty (by simp [World.setRow]) (fun b hb => setRow_other w _ b _ hb) hheap (by simp; omega) hsame (fun n u hu => ?_), Mono.setVar hr hv _ (by simp [World.setRow]) (fun b hb => setRow_other w _ b _ hb) hsame, below_setRow2 w hB _⟩
      · have h2 := tok.run_sizeOf ht w
        simp [Instr.storeAt, Instr.sureAddr, storeVar, Sem.run_bind, h2, hsz, hst]
      · have hu' : (cur.toList.take (off + 0) ++ v.cells.toList ++ cur.toList.drop (off + 0 + v.cells.toList.length))[n]? = some u := by simpa using hu
        have hw : n < ds.length → ((cur.toList.take (off + 0) ++ v.cells.toList ++ cur.toList.drop (off + 0 + v.cells.toList.length)).take ds.length)[n]? = some u := fun hn => by
          rw [List.getElem?_take, if_pos hn]; exact hu'
        have hl3 : (ds.take off ++ cs ++ ds.drop (off + cs.length)).length = ds.length := by simp; omega
        exact ⟨fun hn => hnew.2 u (List.mem_of_getElem? (hw (by omega))), fun d hd => hnew.1.2 n d u hd (hw (by rw [← hl3]; exact (List.getElem?_eq_some_iff.1 hd).1))⟩
    · cases h
  · cases h
end
end
section
section
variable {P : Program} {tb : TypeId → Option TyE} {hp : Hp} {g : Gh} {w : World} {B : Nat}
theorem run_places (tok : TOk P tb) : ∀ (fields : List Field) (_ : ∀ f ∈ fields.map (fun f => (f.offset, f.type)), (tb f.2).isSome = true) (w : World),
    (fields.mapM fun f => do pure (f.offset, ← sizeOf f.type) : Sem (List (Nat × Nat))).run P w = .ok (fields.map fun f => (f.offset, ((tb f.type).map TyE.size).getD 0)) w
  | [], _, w => by simp
  | f :: fs, h, w => by
    have h1 := h (f.offset, f.type) (by simp)
    cases ht : tb f.type with
    | none => simp [ht] at h1
    | some i =>
      have h2 := tok.run_sizeOf ht w
      have ih := run_places tok fs (fun x hx => h x (by simp only [List.map_cons, List.mem_cons]; exact .inr hx)) w
      simp only [List.mapM_cons, Sem.run_bind, h2, Result.andThen_ok, Sem.run_pure, ih, List.map_cons, ht, Option.map_some, Option.getD_some]
theorem placeS_fields (fields : List Field) (h : ∀ f ∈ fields.map (fun f => (f.offset, f.type)), (tb f.2).isSome = true) (i : Nat) :
    (fields.map fun f => (f.offset, ((tb f.type).map TyE.size).getD 0))[i]? = placeS tb (fields.map fun f => (f.offset, f.type)) i := by
  unfold placeS
  rw [List.getElem?_map, List.getElem?_map]
  cases hf : fields[i]? with
  | none => rfl
  | some f =>
    have h1 := h (f.offset, f.type) (by
      refine List.mem_map.2 ⟨f, List.mem_of_getElem? hf, rfl⟩)
    cases ht : tb f.type with
    | none => simp [ht] at h1
    | some i => simp [ht]
theorem fill_of {place : Nat → Option (Nat × Nat)} {cells : Array Value} {parts : List (Nat × Value)} {l : List Value} (h : fillL place cells.toList (parts.map fun p => (p.1, p.2.cells.toList)) = some l) : Instr.fill place cells parts = some l.toArray := by
  rcases fill_run place parts cells with h2 | h2
  · rw [h2, h]
  · rw [h] at h2; cases h2
theorem buildV_sound (tok : TOk P tb) {t : TypeId} {ps : List (Nat × Operand)} {ev : Operand → D} {k : D → Prop} (h : buildV tb t (ps.map fun p => (p.1, ev p.2)) k) :
    ∃ d', k d' ∧ ∀ (hp : Hp) (g : Gh) (w : World) (ρ : Operand → Value), (∀ p ∈ ps, RepD hp g w (ev p.2) (ρ p.2)) → ∃ v, (Instr.build t (ps.map fun p => (p.1, ρ p.2)).toArray).run P w = .ok v w ∧ RepD hp g w d' v := by
  unfold buildV at h
  split at h
  · rename_i i qs ht hq
    split at h
    · rename_i fs hty
      obtain ⟨hsz, h⟩ := h
      split at h
      · rename_i ds hds
        refine ⟨_, h, fun hp g w ρ hρ => ?_⟩
        obtain ⟨fields, hu, hfs⟩ := tok.struct ht hty
        obtain ⟨z, hz, hzc⟩ := tok.run_zero ht w
        obtain ⟨h1, h2⟩ := partsD_rep hρ hq
        have h0 := Cells.lits (hp := hp) (g := g) (w := w) i.zero (tok t i ht).2.2.2
        obtain ⟨vs, h3, h4⟩ := fillL_rel _ hds h0.1 h1
        have h5 := fillL_rel_one h3 h0.2 h2
        subst hfs
        have hpl := run_places tok fields.toList hsz w
        have hfun : (fun x => (fields.toList.map fun f => (f.offset, ((tb f.type).map TyE.size).getD 0)).toArray[x]?) = placeS tb (fields.toList.map fun f => (f.offset, f.type)) := by
          funext n
          rw [← placeS_fields _ hsz n]
          simp
        rw [← hzc] at h3
        have hfill := fill_of (parts := ps.map fun p => (p.1, ρ p.2)) h3
        refine ⟨_, ?_, (Cells.ag ⟨h4, h5⟩)⟩
        rw [← hfun] at hfill
        simp only [Instr.build, Sem.run_bind, hz, Result.andThen_ok, run_underlying hu, Array.mapM_eq_mapM_toList, Sem.run_map, hpl]
        simp only [hfill, Sem.run_pure]
      · cases h
    · rename_i n e hty
      split at h
      · rename_i j he
        split at h
        · rename_i ds hds
          refine ⟨_, h, fun hp g w ρ hρ => ?_⟩
          have hu := tok.arr ht hty
          obtain ⟨z, hz, hzc⟩ := tok.run_zero ht w
          obtain ⟨h1, h2⟩ := partsD_rep hρ hq
          have h0 := Cells.lits (hp := hp) (g := g) (w := w) i.zero (tok t i ht).2.2.2
          obtain ⟨vs, h3, h4⟩ := fillL_rel _ hds h0.1 h1
          have h5 := fillL_rel_one h3 h0.2 h2
          rw [← hzc] at h3
          have hfill := fill_of (parts := ps.map fun p => (p.1, ρ p.2)) h3
          refine ⟨_, ?_, (Cells.ag ⟨h4, h5⟩)⟩
          have hs := tok.run_sizeOf he w
          simp only [Instr.build, Sem.run_bind, hz, Result.andThen_ok, run_underlying hu, hs]
          simp only [hfill, Sem.run_pure]
        · cases h
      · cases h
    · cases h
  · cases h
theorem RepE.new {F : Addr → Prop} {z n : Nat} {xs : List E} (us : List Value) (e : TypeId) (hz : 0 < z) (hl : xs.length = n * z) (hn : n ≤ maxLen) (hF : ∀ p : Addr, p.block = w.heap.size → ¬ F p) (h : Pw (RepE w F) xs us) :
    RepE (w.alloc (.cells us.toArray e)) F (.sl z n xs) (.slice (some ⟨w.heap.size, 0, none⟩) n n) := by
  refine .sl z n xs _ n (fun j => us.getD j undef) hl hz (Nat.le_refl _) hn (fun _ => ⟨_, rfl, by simp⟩) (fun ad ha j x hx => ?_) (fun j x hx => ?_)
  · injection ha with ha
    subst ha
    obtain ⟨u, hu, _⟩ := h.get hx
    refine ⟨?_, hF _ (by rw [block_of_add])⟩
    rw [Addr.add_lit, World.cell?_alloc_at _ _ _ _ rfl]
    simp [List.getD, hu]
  · obtain ⟨u, hu, hr⟩ := h.get hx
    have : us.getD j undef = u := by simp [List.getD, hu]
    rw [this]
    exact hr.mono (by simp) (fun p hp _ => World.cell?_alloc_lt w _ p hp) (fun _ _ h => h)
theorem asSl_rep {d : D} {v : Value} {z n : Nat} {xs : List E} (h : RepD hp g w d v) (ha : d.asSl z = some (n, xs)) : ∃ A c, v = .slice A n c ∧ RepE w g.F (.sl z n xs) (.slice A n c) := by
  have gen : ∀ {z' n' : Nat} {xs' : List E} {v : Value}, RepE w g.F (.sl z' n' xs') v → (if z' = z then some (n', xs') else none) = some (n, xs) → ∃ A c, v = .slice A n c ∧ RepE w g.F (.sl z n xs) (.slice A n c) := by
    intro z' n' xs' v h hq
    split at hq
    · rename_i hz
      subst hz
      injection hq with hq
      injection hq with h1 h2
      subst h1; subst h2
      cases h with
      | sl _ _ _ A c us hl hz hnc hcm hA hc hr => exact ⟨A, c, rfl, .sl _ _ _ A c us hl hz hnc hcm hA hc hr⟩
    · cases hq
  cases h with
  | e x v h =>
    cases h with
    | lit u h1 =>
      unfold D.asSl at ha
      split at ha
      · rename_i heq; cases heq
      · rename_i heq; cases heq
      · rename_i heq; cases heq
      · rename_i heq
        injection heq with heq
        injection heq with heq
        subst heq
        split at ha
        · cases ha
        · rename_i hz
          injection ha with ha
          injection ha with h1 h2
          subst h1; subst h2
          exact ⟨none, 0, rfl, .sl z 0 [] none 0 (fun _ => undef) (by simp) (by omega) (Nat.le_refl _) (by decide) (fun h => absurd h (by omega)) (fun _ h => by cases h) (fun _ _ h => by simp at h)⟩
      · cases ha
    | any v h1 => simp [D.asSl] at ha
    | sl z' n' xs' A c us hl hz hnc hcm hA hc hr => exact gen (.sl z' n' xs' A c us hl hz hnc hcm hA hc hr) ha
  | own id z' n' xs' v h hid ht => exact gen h ha
  | fu z' n' xs' A h => exact gen h ha
  | _ => simp [D.asSl] at ha
theorem RepE.reads {F : Addr → Prop} {z n : Nat} {xs : List E} {A : Option Addr} {c : Nat} (h : RepE w F (.sl z n xs) (.slice A n c)) :
    xs.length = n * z ∧ 0 < z ∧ n ≤ c ∧ c ≤ maxLen ∧ (0 < n → ∃ ad, A = some ad ∧ ad.block < w.heap.size) ∧ ∃ us : List Value, us.length = n * z ∧ (∀ ad, A = some ad → ∀ j u, us[j]? = some u → w.cell? (ad.add j) = some u ∧ ¬ F (ad.add j)) ∧ Pw (RepE w F) xs us := by
  cases h with
  | sl _ _ _ _ _ us hl hz hnc hcm hA hc hr =>
    refine ⟨hl, hz, hnc, hcm, hA, (List.range (n * z)).map us, by simp, fun ad ha j u hu => ?_, ⟨by simp [hl], fun j x y hx hy => ?_⟩⟩
    · have hj : j < n * z := by
        rcases Nat.lt_or_ge j (n * z) with hh | hh
        · exact hh
        · rw [List.getElem?_eq_none (by simpa using hh)] at hu; cases hu
      have : us j = u := by simpa [hj] using hu
      subst this
      exact hc ad ha j _ (List.getElem?_eq_getElem (by omega))
    · have hj : j < n * z := by
        rcases Nat.lt_or_ge j (n * z) with hh | hh
        · exact hh
        · rw [List.getElem?_eq_none (by simpa using hh)] at hy; cases hy
      have : us j = y := by simpa [hj] using hy
      subst this
      exact hr j x hx
theorem RepE.fp {z n : Nat} {xs : List E} {A : Option Addr} {c : Nat} (h : RepE w g.F (.sl z n xs) (.slice A n c)) (hn : 0 < n) : ∃ ad, A = some ad ∧ ∀ off, RepD hp g w (.fp xs off) (.pointer (some (ad.add off))) := by
  obtain ⟨_, _, _, _, hA, us, _, hc, hp⟩ := h.reads
  obtain ⟨ad, rfl, hb⟩ := hA hn
  refine ⟨ad, rfl, fun off => .fp xs off ad hb (fun j x hx => ?_)⟩
  obtain ⟨u, hu, hr⟩ := hp.get hx
  obtain ⟨h1, h2⟩ := hc ad rfl j u hu
  exact ⟨u, h1, h2, hr⟩
theorem RepE.cut {F : Addr → Prop} {z n : Nat} {xs : List E} {A : Option Addr} {c : Nat} (h : RepE w F (.sl z n xs) (.slice A n c)) (l m c' : Nat) (hle : l + m ≤ n) (hmc : m ≤ c') (hc' : c' ≤ maxLen) (A' : Option Addr) (hA' : 0 < m → A' = A.map (·.add (l * z))) :
    RepE w F (.sl z m ((xs.drop (l * z)).take (m * z))) (.slice A' m c') := by
  obtain ⟨hl, hz, hnc, hcm, hA, us, hul, hc, hp⟩ := h.reads
  have hlm : (l + m) * z ≤ n * z := Nat.mul_le_mul_right _ hle
  rw [Nat.add_mul] at hlm
  refine .sl z m _ A' c' (fun j => us.getD (l * z + j) undef) (by rw [List.length_take, List.length_drop, hl]; omega) hz hmc hc' (fun hm => ?_) (fun ad ha j x hx => ?_) (fun j x hx => ?_)
  · obtain ⟨ad, rfl, hb⟩ := hA (by omega)
    exact ⟨ad.add (l * z), by rw [hA' hm]; rfl, by rw [block_of_add]; exact hb⟩
  · rw [List.getElem?_take] at hx
    split at hx
    · rename_i hj
      rw [List.getElem?_drop] at hx
      have hm : 0 < m := by
        rcases Nat.eq_zero_or_pos m with h0 | h0
        · subst h0; omega
        · exact h0
      obtain ⟨ad0, rfl, _⟩ := hA (by omega)
      rw [hA' hm] at ha
      have : ad0.add (l * z) = ad := by simpa using ha
      subst this
      obtain ⟨u, hu, hr⟩ := hp.get hx
      obtain ⟨h1, h2⟩ := hc ad0 rfl _ u hu
      rw [add_of_add]
      refine ⟨?_, h2⟩
      simp only [List.getD, hu, Option.getD_some]
      exact h1
    · cases hx
  · rw [List.getElem?_take] at hx
    split at hx
    · rw [List.getElem?_drop] at hx
      obtain ⟨u, hu, hr⟩ := hp.get hx
      simpa only [List.getD, hu, Option.getD_some] using hr
    · cases hx
theorem boundV_sound {b : Option Operand} {ev : Operand → D} {dflt : Int} {k : Int → Prop} (h : boundV (b.map ev) dflt k) :
    (b = none ∧ k dflt) ∨ ∃ x i, b = some x ∧ k i ∧ ∀ (hp : Hp) (g : Gh) (w : World) (v : Value), RepD hp g w (ev x) v → ∃ kd, v = .int kd i := by
  cases b with
  | none => exact .inl ⟨rfl, h⟩
  | some x =>
    simp only [Option.map_some, boundV] at h
    split at h
    · rename_i heq; cases heq
    · rename_i kd i heq
      injection heq with heq
      refine .inr ⟨x, i, rfl, h, fun hp g w v hv => ?_⟩
      rw [heq] at hv
      cases hv with
      | e _ _ h => cases h; exact ⟨kd, rfl⟩
    · cases h
theorem RepD.lit {u v : Value} (h : RepD hp g w (.e (.lit u)) v) : v = u := by
  cases h with
  | e _ _ h => cases h; rfl
theorem run_sliceBounds_ok (b : Bool) (len cap : Nat) (lo hi : Option Value) (l h : Nat) (hl : lo = none ∧ l = 0 ∨ ∃ kd, lo = some (.int kd (l : Int))) (hh : hi = none ∧ h = len ∨ ∃ kd, hi = some (.int kd (h : Int))) (h1 : l ≤ h) (h2 : h ≤ cap) :
    (Instr.sliceBounds b len cap lo hi none).run P w = .ok (l, h, cap) w := by
  have n1 : ¬ (l : Int) < 0 := by omega
  rcases hl with ⟨rfl, rfl⟩ | ⟨kd, rfl⟩ <;> rcases hh with ⟨rfl, rfl⟩ | ⟨kd', rfl⟩ <;>
    simp [Instr.sliceBounds, run_sliceBound, h1, h2]
theorem sliceV_sound (tok : TOk P tb) {t : TypeId} {x : Operand} {lo hi mx : Option Operand} {ev : Operand → D} {k : D → Prop} (h : sliceV tb t (ev x) (lo.map ev) (hi.map ev) (mx.map ev) k) :
    ∃ d', k d' ∧ ∀ (hp : Hp) (g : Gh) (w : World) (ρ : Operand → Value), RepD hp g w (ev x) (ρ x) → (∀ y, lo = some y ∨ hi = some y ∨ mx = some y → RepD hp g w (ev y) (ρ y)) →
      ∃ v, (Instr.sliceAt t (ρ x) (lo.map ρ) (hi.map ρ) (mx.map ρ)).run P w = .ok v w ∧ RepD hp g w d' v := by
  unfold sliceV at h
  split at h
  · rename_i ti ht
    split at h
    · rename_i e hty
      have hu := tok.slice ht hty
      split at h
      · rename_i j he
        split at h
        · rename_i n xs ha
          obtain ⟨l, hlo, h⟩ : ∃ l : Int, (lo = none ∧ l = 0 ∨ ∃ y, lo = some y ∧ ∀ (hp : Hp) (g : Gh) (w : World) (v : Value), RepD hp g w (ev y) v → ∃ kd, v = .int kd l) ∧ boundV (hi.map ev) n fun h => (0 ≤ l ∧ l ≤ h ∧ h ≤ (n : Int)) ∧ match mx.map ev with
              | none => k (.e (.sl j.size (h - l).toNat ((xs.drop (l.toNat * j.size)).take ((h - l).toNat * j.size))))
              | some m => boundV (some m) 0 fun m => (hi.map ev).isSome = true ∧ m = h ∧ k (.fu j.size (h - l).toNat ((xs.drop (l.toNat * j.size)).take ((h - l).toNat * j.size))) := by
            rcases boundV_sound h with ⟨h1, h2⟩ | ⟨y, i, h1, h2, h3⟩
            · exact ⟨0, .inl ⟨h1, rfl⟩, h2⟩
            · exact ⟨i, .inr ⟨y, h1, h3⟩, h2⟩
          obtain ⟨hh, hhi, ⟨h0, hlh, hhn⟩, h⟩ : ∃ hh : Int, (hi = none ∧ hh = n ∨ ∃ y, hi = some y ∧ ∀ (hp : Hp) (g : Gh) (w : World) (v : Value), RepD hp g w (ev y) v → ∃ kd, v = .int kd hh) ∧ (0 ≤ l ∧ l ≤ hh ∧ hh ≤ (n : Int)) ∧ match mx.map ev with
              | none => k (.e (.sl j.size (hh - l).toNat ((xs.drop (l.toNat * j.size)).take ((hh - l).toNat * j.size))))
              | some m => boundV (some m) 0 fun m => (hi.map ev).isSome = true ∧ m = hh ∧ k (.fu j.size (hh - l).toNat ((xs.drop (l.toNat * j.size)).take ((hh - l).toNat * j.size))) := by
            rcases boundV_sound h with ⟨h1, h2⟩ | ⟨y, i, h1, h2, h3⟩
            · exact ⟨n, .inl ⟨h1, rfl⟩, h2⟩
            · exact ⟨i, .inr ⟨y, h1, h3⟩, h2⟩
          obtain ⟨L, rfl⟩ : ∃ L : Nat, l = L := ⟨l.toNat, by omega⟩
          obtain ⟨H, rfl⟩ : ∃ H : Nat, hh = H := ⟨hh.toNat, by omega⟩
          have e1 : ((H : Int) - L).toNat = H - L := by omega
          rw [e1, Int.toNat_natCast] at h
          cases mx with
          | none =>
            refine ⟨_, h, fun hp g w ρ hx hy => ?_⟩
            obtain ⟨A, c, hv, hrep⟩ := asSl_rep hx ha
            obtain ⟨_, hz, hnc, hcm, _⟩ := hrep.reads
            have hb := run_sliceBounds_ok (P := P) (w := w) true n c (lo.map ρ) (hi.map ρ) L H (by
              rcases hlo with ⟨rfl, h9⟩ | ⟨y, rfl, h9⟩
              · exact .inl ⟨rfl, by omega⟩
              · obtain ⟨kd, hk⟩ := h9 hp g w _ (hy y (.inl rfl)); exact .inr ⟨kd, by simp [hk]⟩) (by
              rcases hhi with ⟨rfl, h9⟩ | ⟨y, rfl, h9⟩
              · exact .inl ⟨rfl, by omega⟩
              · obtain ⟨kd, hk⟩ := h9 hp g w _ (hy y (.inr (.inl rfl))); exact .inr ⟨kd, by simp [hk]⟩) (by omega) (by omega)
            have hs := tok.run_sizeOf he w
            refine ⟨.slice (if c = L then A else A.map (·.add (L * j.size))) (H - L) (c - L), ?_, .e _ _ (hrep.cut L (H - L) (c - L) (by omega) (by omega) (by omega) _ (fun hm => by rw [if_neg (by omega)]))⟩
            simp [Instr.sliceAt, Instr.slice, run_underlying hu, hv, hb, hs]
          | some m =>
            rcases boundV_sound (b := some m) h with ⟨h1, _⟩ | ⟨y, i, h1, ⟨h2, h2', h3⟩, h4⟩
            · cases h1
            injection h1 with h1
            subst h1; subst h2'
            refine ⟨_, h3, fun hp g w ρ hx hy => ?_⟩
            obtain ⟨A, c, hv, hrep⟩ := asSl_rep hx ha
            have hnc := hrep.reads.2.2.1
            have hcm := hrep.reads.2.2.2.1
            have q1 : L + (H - L) ≤ n := by omega
            have q2 : H - L ≤ maxLen := by omega
            have q3 : 0 < H - L → ¬ H = L := by omega
            obtain ⟨km, hm⟩ := h4 hp g w _ (hy m (.inr (.inr rfl)))
            have hs := tok.run_sizeOf he w
            obtain ⟨y, rfl⟩ : ∃ y, hi = some y := by cases hi with | none => simp at h2 | some y => exact ⟨y, rfl⟩
            obtain ⟨kh, hk⟩ : ∃ kh, ρ y = .int kh (H : Int) := by
              rcases hhi with ⟨h, _⟩ | ⟨y', h, h'⟩
              · cases h
              · injection h with h; subst h
                exact h' hp g w _ (hy y (.inr (.inl rfl)))
            have hHc : H ≤ c := by omega
            have hb : (Instr.sliceBounds true n c (lo.map ρ) (some (.int kh (H : Int))) (some (.int km (H : Int)))).run P w = .ok (L, H, H) w := by
              have hLH : L ≤ H := by omega
              rcases hlo with ⟨rfl, h9⟩ | ⟨y', rfl, h9⟩
              · obtain rfl : L = 0 := by omega
                simp [Instr.sliceBounds, run_sliceBound, hHc]
              · obtain ⟨kd, hk'⟩ := h9 hp g w _ (hy y' (.inl rfl))
                simp [Instr.sliceBounds, run_sliceBound, hHc, hk', hLH]
            have hcut := hrep.cut L (H - L) (H - L) q1 (Nat.le_refl _) q2 (if H = L then A else A.map (·.add (L * j.size))) (fun hm => by rw [if_neg (q3 hm)])
            refine ⟨.slice (if H = L then A else A.map (·.add (L * j.size))) (H - L) (H - L), ?_, .fu _ _ _ _ hcut⟩
            simp [Instr.sliceAt, Instr.slice, run_underlying hu, hv, hb, hs, hk, hm]
        · cases h
      · cases h
    · rename_i hty
      have hu := tok.str ht hty
      split at h
      · rename_i s hx0 hmx
        obtain ⟨l, hlo, h⟩ : ∃ l : Int, (lo = none ∧ l = 0 ∨ ∃ y, lo = some y ∧ ∀ (hp : Hp) (g : Gh) (w : World) (v : Value), RepD hp g w (ev y) v → ∃ kd, v = .int kd l) ∧ boundV (hi.map ev) s.size fun h => (0 ≤ l ∧ l ≤ h ∧ h ≤ (s.size : Int)) ∧ k (.e (.lit (.string (s.extract l.toNat h.toNat)))) := by
          rcases boundV_sound h with ⟨h1, h2⟩ | ⟨y, i, h1, h2, h3⟩
          · exact ⟨0, .inl ⟨h1, rfl⟩, h2⟩
          · exact ⟨i, .inr ⟨y, h1, h3⟩, h2⟩
        obtain ⟨hh, hhi, ⟨h0, hlh, hhn⟩, h⟩ : ∃ hh : Int, (hi = none ∧ hh = s.size ∨ ∃ y, hi = some y ∧ ∀ (hp : Hp) (g : Gh) (w : World) (v : Value), RepD hp g w (ev y) v → ∃ kd, v = .int kd hh) ∧ (0 ≤ l ∧ l ≤ hh ∧ hh ≤ (s.size : Int)) ∧ k (.e (.lit (.string (s.extract l.toNat hh.toNat)))) := by
          rcases boundV_sound h with ⟨h1, h2⟩ | ⟨y, i, h1, h2, h3⟩
          · exact ⟨s.size, .inl ⟨h1, rfl⟩, h2⟩
          · exact ⟨i, .inr ⟨y, h1, h3⟩, h2⟩
        obtain ⟨L, rfl⟩ : ∃ L : Nat, l = L := ⟨l.toNat, by omega⟩
        obtain ⟨H, rfl⟩ : ∃ H : Nat, hh = H := ⟨hh.toNat, by omega⟩
        obtain rfl : mx = none := by cases mx with | none => rfl | some _ => cases hmx
        refine ⟨_, h, fun hp g w ρ hx hy => ?_⟩
        rw [hx0] at hx
        have hv := hx.lit
        have hb := run_sliceBounds_ok (P := P) (w := w) false s.size s.size (lo.map ρ) (hi.map ρ) L H (by
          rcases hlo with ⟨rfl, h9⟩ | ⟨y, rfl, h9⟩
          · exact .inl ⟨rfl, by omega⟩
          · obtain ⟨kd, hk⟩ := h9 hp g w _ (hy y (.inl rfl)); exact .inr ⟨kd, by simp [hk]⟩) (by
          rcases hhi with ⟨rfl, h9⟩ | ⟨y, rfl, h9⟩
          · exact .inl ⟨rfl, by omega⟩
          · obtain ⟨kd, hk⟩ := h9 hp g w _ (hy y (.inr (.inl rfl))); exact .inr ⟨kd, by simp [hk]⟩) (by omega) (by omega)
        refine ⟨.string (s.extract L H), ?_, .e _ _ (.lit _ rfl)⟩
        simp [Instr.sliceAt, Instr.slice, run_underlying hu, hv, hb]
      · cases h
    · cases h
  · cases h
end
end
section
section
variable {P : Program} {tb : TypeId → Option TyE} {hp : Hp} {g : Gh} {w : World} {B : Nat}
theorem Pw.of_any (us : List Value) (h : ∀ u ∈ us, u.oneCell' = true) : Cells hp g w (List.replicate us.length (D.e .any)) us := by
  refine ⟨⟨by simp, fun j x y hx hy => ?_⟩, h⟩
  have : x = D.e .any := (List.mem_replicate.1 (List.mem_of_getElem? hx)).2
  subst this
  exact .e _ _ (.any y (h y (List.mem_of_getElem? hy)))
theorem RepE.new' {F' : Addr → Prop} {z n : Nat} {xs : List E} (us : List Value) (e : TypeId) (hz : 0 < z) (hl : xs.length = n * z) (hn : n ≤ maxLen) (hF : ∀ j, j < n * z → ¬ F' ⟨w.heap.size, j, none⟩) (h : Pw (RepE (w.alloc (.cells us.toArray e)) F') xs us) :
    RepE (w.alloc (.cells us.toArray e)) F' (.sl z n xs) (.slice (some ⟨w.heap.size, 0, none⟩) n n) := by
  refine .sl z n xs _ n (fun j => us.getD j undef) hl hz (Nat.le_refl _) hn (fun _ => ⟨_, rfl, by simp⟩) (fun ad ha j x hx => ?_) (fun j x hx => ?_)
  · injection ha with ha
    subst ha
    obtain ⟨u, hu, _⟩ := h.get hx
    rw [Addr.add_lit, Nat.zero_add]
    refine ⟨?_, hF j ?_⟩
    · rw [World.cell?_alloc_at _ _ _ _ rfl]
      simp [List.getD, hu]
    · rw [← hl]
      rcases Nat.lt_or_ge j xs.length with hh | hh
      · exact hh
      · rw [List.getElem?_eq_none hh] at hx; cases hx
  · obtain ⟨u, hu, hr⟩ := h.get hx
    simpa only [List.getD, hu, Option.getD_some] using hr
theorem tok_free' (g : Gh) (id : Nat) (v : Value) (n b j : Nat) (hb : v.ownBlock = some b) (hj : j < n) : ¬ (g.tok id v n).F ⟨b, j, none⟩ := by
  rintro (⟨_, h⟩ | ⟨b', h1, h2, h3⟩)
  · exact h ⟨hb, hj⟩
  · have : n ≤ j := h3
    omega
theorem buildSliceV_sound (tok : TOk P tb) {own : Bool} {t : TypeId} {n : Nat} {ps : List (Nat × Operand)} {ev : Operand → D} {k : D → Hp → Prop} (h : buildSliceV tb own t n (ps.map fun p => (p.1, ev p.2)) hp k) :
    ∃ d' hp', k d' hp' ∧ ∀ (B : Nat) (g : Gh) (w : World) (ρ : Operand → Value), HR B hp g w → (∀ p ∈ ps, RepD hp g w (ev p.2) (ρ p.2)) →
      ∃ v g' w', (Instr.buildSlice t n (ps.map fun p => (p.1, ρ p.2)).toArray).run P w = .ok v w' ∧ HR B hp' g' w' ∧ Mono hp g w hp' g' w' ∧ RepD hp' g' w' d' v ∧ Below B w w' ∧ ∀ p : Addr, p.block < B → g.F p → g'.F p := by
  unfold buildSliceV at h
  split at h
  · rename_i i qs ht hq
    split at h
    · rename_i e hty
      have hu := tok.slice ht hty
      split at h
      · rename_i j he
        obtain ⟨hz, hsm, h⟩ := h
        split at h
        · obtain ⟨rfl, hk⟩ := h
          refine ⟨_, _, hk, fun B g w ρ hr hρ => ?_⟩
          have hps : ps = [] := by
            cases ps with
            | nil => rfl
            | cons p ps =>
              simp only [List.map_cons, partsD] at hq
              split at hq <;> simp at hq
          subst hps
          have ho : (w.alloc (.cells #[] e)).ownsRow B e j.size (.slice (some ⟨w.heap.size, 0, none⟩) 0 0) 0 [] := World.ownsRow_made w #[] 0 hr.base (by decide) (by simp)
          have hv : ∀ b, (Value.slice (some ⟨w.heap.size, 0, none⟩) 0 0).ownBlock = some b → w.heap.size ≤ b := fun b hb => by
            simp [Value.ownBlock] at hb; omega
          have hsz : w.heap.size ≤ (w.alloc (.cells #[] e)).heap.size := by simp
          refine ⟨.slice (some ⟨w.heap.size, 0, none⟩) 0 0, _, w.alloc (.cells #[] e), ?_, hr.newTok (e := (j.size, e)) hz hsz (fun b hb => heap_alloc_old w _ hb) hv ho, Mono.tok hp g hsz (fun b hb => heap_alloc_old w _ hb) hv, ?_, (Below.refl _ _).alloc hr.base _, fun p hp1 hp2 => Gh.tok_keep g _ (fun b hb => Nat.le_trans hr.base (hv b hb)) p hp1 hp2⟩
          · have hs := tok.run_sizeOf he w
            have h00 : ∀ f : Nat → Value, Array.map f (Array.range 0) = #[] := fun f => Array.eq_empty_of_size_eq_zero (by simp)
            simp only [Instr.buildSlice, Sem.run_bind, run_underlying hu, Result.andThen_ok, hs, Nat.zero_mul, List.map_nil, Instr.fill, h00]
            rfl
          · refine .own _ _ _ _ _ (.sl _ 0 [] _ 0 (fun _ => undef) (by simp) hz (Nat.le_refl _) (by decide) (fun h => absurd h (by omega)) (fun _ _ _ _ h => by simp at h) (fun _ _ h => by simp at h)) (Nat.lt_succ_self _) (fun m e' hm => ?_)
            have : some (0, (j.size, e)) = some (m, e') := by rw [← hm]; exact lookup_cons_eq.symm
            injection this with this
            injection this with h1 h2
            subst h1; subst h2
            exact ⟨Nat.le_refl _, rfl, fun _ => (if_pos rfl).symm⟩
        · rename_i hn0
          split at h
          · rename_i ds hds
            split at h
            · rename_i xs hxs
              have main : ∀ (hp : Hp) (g : Gh) (w : World) (ρ : Operand → Value), (∀ p : Addr, g.F p → p.block < w.heap.size) → (∀ p ∈ ps, RepD hp g w (ev p.2) (ρ p.2)) → ∃ vs : List Value, (Instr.buildSlice t n (ps.map fun p => (p.1, ρ p.2)).toArray).run P w = .ok (.slice (some ⟨w.heap.size, 0, none⟩) n n) (w.alloc (.cells vs.toArray e)) ∧
                  Pw (RepE w g.F) xs vs ∧ xs.length = n * j.size ∧ n ≤ maxLen := by
                intro hp g w ρ hfits hρ
                have hnp : 0 < n := by
                  rcases Nat.eq_zero_or_pos n with h0 | h0
                  · exact absurd h0 hn0
                  · exact h0
                obtain ⟨zv, hzv, hzc⟩ := tok.run_zero he w
                obtain ⟨_, _, hzl, hz1⟩ := tok e j he
                have hzb : ∀ u ∈ zv.cells, u.oneCell' = true := fun u hu => (by simpa using hz1 : ∀ u ∈ j.zero, u.oneCell' = true) u (by rw [← hzc]; simpa using hu)
                have hzs : zv.cells.size = j.size := by rw [← hzl, ← hzc]; simp
                obtain ⟨h1, h2⟩ := partsD_rep hρ hq
                obtain ⟨zl, hzl'⟩ : ∃ zl, zl = ((Array.range (n * j.size)).map (zv.cells[· % zv.cells.size]!)).toList := ⟨_, rfl⟩
                have hlen : zl.length = n * j.size := by rw [hzl']; simp
                have hone : ∀ u ∈ zl, u.oneCell' = true := by
                  intro u hu
                  rw [hzl'] at hu
                  simp only [Array.toList_map, List.mem_map] at hu
                  obtain ⟨m, _, rfl⟩ := hu
                  have hlt : m % zv.cells.size < zv.cells.size := Nat.mod_lt _ (by omega)
                  rw [getElem!_pos zv.cells _ hlt]
                  exact hzb _ (Array.getElem_mem _)
                have h0 := Pw.of_any (hp := hp) (g := g) (w := w) zl hone
                rw [hlen] at h0
                obtain ⟨vs, h3, h4⟩ := fillL_rel _ hds h0.1 h1
                have h5 := fillL_rel_one h3 h0.2 h2
                rw [hzl'] at h3
                have hfill := fill_of (parts := ps.map fun p => (p.1, ρ p.2)) h3
                have hpw := cellsE_rep ⟨h4, h5⟩ hxs
                have fl : ∀ {α : Type} {place : Nat → Option (Nat × Nat)} {qs : List (Nat × List α)} {ds ds' : List α}, fillL place ds qs = some ds' → ds'.length = ds.length := by
                  intro α place qs
                  induction qs with
                  | nil => intro ds ds' h; simp only [fillL, Option.some.injEq] at h; rw [h]
                  | cons q qs ih =>
                    obtain ⟨q1, q2⟩ := q
                    intro ds ds' h
                    unfold fillL at h
                    split at h
                    · cases h
                    · split at h
                      · cases h
                      · rw [ih h]
                        simp only [List.length_append, List.length_take, List.length_drop]
                        omega
                have hxl : xs.length = n * j.size := by
                  rw [hpw.1, ← h4.1, fl hds]; simp
                have hsm2 : ¬ n * j.size > 2 ^ 24 := by omega
                have hne : ¬ n * j.size = 0 := by
                  have := Nat.mul_pos hnp hz
                  omega
                have hnm : n ≤ maxLen := by
                  have : n * 1 ≤ n * j.size := Nat.mul_le_mul_left _ hz
                  unfold maxLen; omega
                refine ⟨vs, ?_, hpw, hxl, hnm⟩
                have hs := tok.run_sizeOf he w
                simp only [Instr.buildSlice, Sem.run_bind, run_underlying hu, Result.andThen_ok, hs, if_neg hsm2, if_neg hne, hzv, Sem.run_pure]
                simp only [hfill]
                rfl
              split at h
              · refine ⟨_, _, h, fun B g w ρ hr hρ => ?_⟩
                obtain ⟨vs, hrun, hpw, hxl, hnm⟩ := main hp g w ρ hr.fits hρ
                have hvl : vs.length = n * j.size := by rw [← hpw.1, hxl]
                have hnb : ∀ b, (Value.slice (some ⟨w.heap.size, 0, none⟩) n n).ownBlock = some b → w.heap.size ≤ b := fun b hb => by
                  simp [Value.ownBlock] at hb; omega
                have hsz : w.heap.size ≤ (w.alloc (.cells vs.toArray e)).heap.size := by simp
                have ho : (w.alloc (.cells vs.toArray e)).ownsRow B e j.size (.slice (some ⟨w.heap.size, 0, none⟩) n n) n vs :=
                  ⟨hvl, .inr ⟨w.heap.size, n, vs.toArray, rfl, hr.base, heap_alloc_new w _, Nat.le_refl _, hnm, by simpa using hvl, by simp [← hvl]⟩⟩
                have mo : Mono hp g w (hp.tok n (j.size, e)) (g.tok hp.next (.slice (some ⟨w.heap.size, 0, none⟩) n n) (n * j.size)) (w.alloc (.cells vs.toArray e)) := Mono.tok hp g hsz (fun b hb => heap_alloc_old w _ hb) hnb
                refine ⟨_, _, _, hrun, hr.newTok (e := (j.size, e)) hz hsz (fun b hb => heap_alloc_old w _ hb) hnb ho, mo, ?_, (Below.refl _ _).alloc hr.base _, fun p hp1 hp2 => Gh.tok_keep g _ (fun b hb => Nat.le_trans hr.base (hnb b hb)) p hp1 hp2⟩
                refine .own _ _ _ _ _ (RepE.new' vs e hz hxl hnm (fun i hi => tok_free' g _ _ _ _ _ rfl hi) (hpw.imp fun _ _ h => mo.repE h)) (Nat.lt_succ_self _) (fun m e' hm => ?_)
                rw [show (Hp.tok hp _ _).live.lookup _ = _ from lookup_cons_eq] at hm
                injection hm with hm
                injection hm with h1 h2
                subst h1; subst h2
                exact ⟨Nat.le_refl _, rfl, fun _ => (if_pos rfl).symm⟩
              · refine ⟨_, _, h, fun B g w ρ hr hρ => ?_⟩
                obtain ⟨vs, hrun, hpw, hxl, hnm⟩ := main hp g w ρ hr.fits hρ
                exact ⟨_, g, _, hrun, hr.keep (by simp) (fun b hb => heap_alloc_old w _ hb), Mono.keep hp g (by simp) (fun b hb => heap_alloc_old w _ hb), .fu _ _ _ _ (RepE.new vs e hz hxl hnm (fun p hp hf => by have := hr.fits p hf; omega) hpw), (Below.refl _ _).alloc hr.base _, fun _ _ hp => hp⟩
            · cases h
          · cases h
      · cases h
    · cases h
  · cases h
theorem buildSliceV_indep {t : TypeId} {n : Nat} {ps : List (Nat × D)} {k : D → Hp → Prop} (hn : n ≠ 0) (h : buildSliceV tb false t n ps hp k) : ∃ d, k d hp ∧ ∀ hp2, buildSliceV tb false t n ps hp2 fun d' h' => d' = d ∧ h' = hp2 := by
  unfold buildSliceV at h ⊢
  split at h
  · split at h
    · split at h
      · obtain ⟨hz, hsm, h⟩ := h
        split at h
        · exact absurd rfl hn
        · split at h
          · split at h
            · dsimp only at h
              exact ⟨_, h, fun hp2 => by simp only [*, and_self]⟩
            · cases h
          · cases h
      · cases h
    · cases h
  · cases h
theorem buildSliceV_vars {own : Bool} {t : TypeId} {n : Nat} {ps : List (Nat × D)} {k : D → Hp → Prop} (h : buildSliceV tb own t n ps hp k) : buildSliceV tb own t n ps hp fun d' h' => k d' h' ∧ h'.vars = hp.vars ∧ hp.next ≤ h'.next := by
  have h3 : ∀ n e, (hp.tok n e).vars = hp.vars := fun _ _ => rfl
  have h4 : ∀ n e, hp.next ≤ (hp.tok n e).next := fun _ _ => Nat.le_succ _
  have h5 := Nat.le_refl hp.next
  unfold buildSliceV at h ⊢
  split at h
  · split at h
    · split at h
      · obtain ⟨hz, hsm, h⟩ := h
        split at h
        · obtain ⟨h1, h2⟩ := h
          simp only [*, and_self]
        · split at h
          · split at h
            · cases own
              · dsimp only at h
                simp only [*, and_self]
              · dsimp only at h
                simp only [*, and_self]
            · cases h
          · cases h
      · cases h
    · cases h
  · cases h
theorem fieldOff_spec (tok : TOk P tb) {s : TypeId} {f : Nat} {k : Nat → Nat → Bool → Prop} (h : fieldOff tb s f k) :
    ∃ (fields : Array Field) (fd : Field) (j : TyE), P.underlying s = some (.struct fields) ∧ fields[f]? = some fd ∧ tb fd.type = some j ∧ k fd.offset j.size j.ty.agg := by
  unfold fieldOff at h
  split at h
  · rename_i i ht
    split at h
    · rename_i fs hty
      obtain ⟨fields, hu, hfs⟩ := tok.struct ht hty
      split at h
      · rename_i off t hf
        split at h
        · rename_i j hj
          rw [← hfs, List.getElem?_map] at hf
          cases hfd : fields.toList[f]? with
          | none => simp [hfd] at hf
          | some fd =>
            simp only [hfd, Option.map_some, Option.some.injEq, Prod.mk.injEq] at hf
            obtain ⟨h1, h2⟩ := hf
            subst h1; subst h2
            exact ⟨fields, fd, j, hu, by simpa using hfd, hj, h⟩
        · cases h
      · cases h
    · cases h
  · cases h
theorem fieldAddrV_sound (tok : TOk P tb) {s : TypeId} {f : Nat} {d : D} {k : D → Prop} (h : fieldAddrV tb s f d k) :
    ∃ d', k d' ∧ ∀ (hp : Hp) (g : Gh) (w : World) (u : Value), RepD hp g w d u → ∃ v, (Instr.fieldAt s u f).run P w = .ok v w ∧ RepD hp g w d' v := by
  unfold fieldAddrV at h
  obtain ⟨fields, fd, j, hu, hf, hj, hz, h⟩ := fieldOff_spec tok h
  have hrun : ∀ (w : World) (ad : Addr), (Instr.fieldAt s (.pointer (some ad)) f).run P w = .ok (.pointer (some (ad.add fd.offset))) w := by
    intro w ad
    have hs := tok.run_sizeOf hj w
    simp [Instr.fieldAt, run_underlying hu, hf, Instr.sureAddr, fieldPlace, hs, hz]
  split at h
  · rename_i v off
    refine ⟨_, h, fun hp g w u hr => ?_⟩
    cases hr with
    | pt _ _ hk =>
      refine ⟨_, hrun w _, ?_⟩
      rw [Addr.add_lit]
      exact .pt _ _ hk
  · rename_i xs off
    refine ⟨_, h, fun hp g w u hr => ?_⟩
    cases hr with
    | fp _ _ ad hb hc =>
      refine ⟨_, hrun w _, ?_⟩
      rw [add_of_add]
      exact .fp _ _ ad hb hc
  · cases h
theorem run_part_agg (tok : TOk P tb) {t : TypeId} {j : TyE} (hj : tb t = some j) (ha : j.ty.agg = true) (cs : Array Value) (off : Nat) (w : World) : (part t cs off).run P w = .ok (.agg (cs.extract off (off + j.size))) w := by
  have h1 := tok.run_isAgg hj w
  have h2 := tok.run_sizeOf hj w
  rw [ha] at h1
  simp [part, h1, h2]
theorem run_part_one (tok : TOk P tb) {t : TypeId} {j : TyE} (hj : tb t = some j) (ha : j.ty.agg = false) (cs : Array Value) (off : Nat) (v : Value) (hv : cs[off]? = some v) (w : World) : (part t cs off).run P w = .ok v w := by
  have h1 := tok.run_isAgg hj w
  rw [ha] at h1
  simp [part, h1, hv]
theorem agg_cells {ds : List D} {u : Value} (h : RepD hp g w (.ag ds) u) : ∃ cs : Array Value, u = .agg cs ∧ Cells hp g w ds cs.toList := by
  have hc := h.cells (cs := ds) rfl
  cases h with
  | ag _ cs hl h1 hr => exact ⟨cs, rfl, hc⟩
theorem extract_cells {cs : Array Value} (off n : Nat) : (cs.toList.drop off).take n = (cs.extract off (off + n)).toList := by
  rw [Array.toList_extract, List.extract_eq_take_drop, Nat.add_sub_cancel_left]
theorem fieldV_sound (tok : TOk P tb) {s : TypeId} {f : Nat} {d : D} {k : D → Prop} (h : fieldV tb s f d k) :
    ∃ d', k d' ∧ ∀ (hp : Hp) (g : Gh) (w : World) (u : Value), RepD hp g w d u → ∃ v, (Instr.field s u f).run P w = .ok v w ∧ RepD hp g w d' v := by
  unfold fieldV at h
  obtain ⟨fields, fd, j, hu, hf, hj, h⟩ := fieldOff_spec tok h
  split at h
  · rename_i ds
    split at h
    · rename_i ha
      obtain ⟨hle, hk⟩ := h
      refine ⟨_, hk, fun hp g w u hr => ?_⟩
      obtain ⟨cs, rfl, hcs⟩ := agg_cells hr
      refine ⟨_, ?_, ((hcs.drop fd.offset).take j.size).ag⟩
      have h1 := run_part_agg tok hj ha cs fd.offset w
      simp only [Instr.field, Sem.run_bind, run_underlying hu, Result.andThen_ok, hf, asAgg, Sem.run_pure, h1, extract_cells]
    · rename_i ha
      obtain ⟨d', hd', hk⟩ := h
      refine ⟨_, hk, fun hp g w u hr => ?_⟩
      obtain ⟨cs, rfl, hcs⟩ := agg_cells hr
      obtain ⟨y, hy, hrep⟩ := hcs.1.get hd'
      refine ⟨y, ?_, hrep⟩
      have h1 := run_part_one tok hj ha cs fd.offset y (by simpa using hy) w
      simp only [Instr.field, Sem.run_bind, run_underlying hu, Result.andThen_ok, hf, asAgg, Sem.run_pure, h1]
  · cases h
theorem indexAddrV_sound (tok : TOk P tb) {t : TypeId} {d i : D} {k : D → Prop} (h : indexAddrV tb t d i k) :
    ∃ d', k d' ∧ ∀ (hp : Hp) (g : Gh) (w : World) (u v : Value), RepD hp g w d u → RepD hp g w i v → ∃ r, (Instr.indexAt t u v).run P w = .ok r w ∧ RepD hp g w d' r := by
  unfold indexAddrV at h
  split at h
  · rename_i ti kd x ht
    split at h
    · rename_i e hty
      have hu := tok.slice ht hty
      split at h
      · rename_i j he
        split at h
        · rename_i n xs ha
          obtain ⟨⟨h0, h1⟩, hk⟩ := h
          refine ⟨_, hk, fun hp g w u v hr hi => ?_⟩
          obtain rfl := hi.lit
          obtain ⟨A, c, rfl, hrep⟩ := asSl_rep hr ha
          obtain ⟨ad, rfl, hfp⟩ := hrep.fp (hp := hp) (show 0 < n by omega)
          have hs := tok.run_sizeOf he w
          exact ⟨_, by simp [Instr.indexAt, asIntOf, run_underlying hu, hs, h0, h1], hfp _⟩
        · split at h
          · rename_i vv off z n
            obtain ⟨rfl, ⟨h0, h1⟩, hk⟩ := h
            refine ⟨_, hk, fun hp g w u v hr hi => ?_⟩
            obtain rfl := hi.lit
            cases hr with
            | ow _ _ _ _ c hkk hnc hcm =>
              have hs := tok.run_sizeOf he w
              refine ⟨.pointer (some ((⟨_, _, none⟩ : Addr).add (x.toNat * j.size))), ?_, by rw [Addr.add_lit]; exact .pt _ _ hkk⟩
              simp [Instr.indexAt, asIntOf, run_underlying hu, hs, h0, h1]
          · cases h
      · cases h
    · rename_i n e hty
      have hu := tok.arr ht hty
      split at h
      · rename_i j vv off he
        obtain ⟨⟨h0, h1⟩, hk⟩ := h
        refine ⟨_, hk, fun hp g w u v hr hi => ?_⟩
        obtain rfl := hi.lit
        cases hr with
        | pt _ _ hkk =>
          have hs := tok.run_sizeOf he w
          refine ⟨.pointer (some ((⟨_, _, none⟩ : Addr).add (x.toNat * j.size))), ?_, by rw [Addr.add_lit]; exact .pt _ _ hkk⟩
          simp [Instr.indexAt, asIntOf, run_underlying hu, Instr.sureAddr, hs, h0, h1]
      · rename_i j xs off he
        obtain ⟨⟨h0, h1⟩, hk⟩ := h
        refine ⟨_, hk, fun hp g w u v hr hi => ?_⟩
        obtain rfl := hi.lit
        cases hr with
        | fp _ _ ad hb hc =>
          have hs := tok.run_sizeOf he w
          refine ⟨.pointer (some ((ad.add off).add (x.toNat * j.size))), ?_, ?_⟩
          · simp [Instr.indexAt, asIntOf, run_underlying hu, Instr.sureAddr, hs, h0, h1]
          · rw [add_of_add]
            exact .fp _ _ ad hb hc
      · cases h
    · cases h
  · cases h
theorem indexV_sound (tok : TOk P tb) {t : TypeId} {d i : D} {k : D → Prop} (h : indexV tb t d i k) :
    ∃ d', k d' ∧ ∀ (hp : Hp) (g : Gh) (w : World) (u v : Value), RepD hp g w d u → RepD hp g w i v → ∃ r, (Instr.index t u v).run P w = .ok r w ∧ RepD hp g w d' r := by
  unfold indexV at h
  split at h
  · rename_i ti kd x ht
    split at h
    · rename_i s hty
      have hu := tok.str ht hty
      obtain ⟨⟨h0, h1⟩, hk⟩ := h
      refine ⟨_, hk, fun hp g w u v hr hi => ?_⟩
      obtain rfl := hi.lit
      obtain rfl := hr.lit
      refine ⟨.int .u8 ((s.data.toList.getD x.toNat 0).toNat : Int), ?_, .e _ _ (.lit _ rfl)⟩
      have hlt : x.toNat < s.size := by omega
      have hget : s[x.toNat]? = some s[x.toNat] := getElem?_pos s x.toNat hlt
      have hge : s.data.toList.getD x.toNat 0 = s[x.toNat] := by
        have hlt' : x.toNat < s.data.size := hlt
        rw [List.getD, Array.getElem?_toList, Array.getElem?_eq_getElem hlt']
        rfl
      simp only [Instr.index, Sem.run_bind, asIntOf, Sem.run_pure, Result.andThen_ok, run_underlying hu, if_pos h0, hget, hge]
    · rename_i n e ds hty
      have hu := tok.arr ht hty
      split at h
      · rename_i j he
        obtain ⟨⟨h0, h1⟩, h⟩ := h
        have hs := fun w => tok.run_sizeOf he w
        split at h
        · rename_i ha
          obtain ⟨hle, hk⟩ := h
          refine ⟨_, hk, fun hp g w u v hr hi => ?_⟩
          obtain rfl := hi.lit
          obtain ⟨cs, rfl, hcs⟩ := agg_cells hr
          refine ⟨_, ?_, ((hcs.drop (x.toNat * j.size)).take j.size).ag⟩
          have h2 := run_part_agg tok he ha cs (x.toNat * j.size) w
          have hcond : 0 ≤ x ∧ x < (n : Int) := ⟨h0, h1⟩
          simp only [Instr.index, asIntOf, Sem.run_bind, Sem.run_pure, run_underlying hu, Result.andThen_ok, if_pos hcond, hs, h2, extract_cells]
        · rename_i ha
          obtain ⟨d', hd', hk⟩ := h
          refine ⟨_, hk, fun hp g w u v hr hi => ?_⟩
          obtain rfl := hi.lit
          obtain ⟨cs, rfl, hcs⟩ := agg_cells hr
          obtain ⟨y, hy, hrep⟩ := hcs.1.get hd'
          refine ⟨y, ?_, hrep⟩
          have h2 := run_part_one tok he ha cs (x.toNat * j.size) y (by simpa using hy) w
          have hcond : 0 ≤ x ∧ x < (n : Int) := ⟨h0, h1⟩
          simp only [Instr.index, asIntOf, Sem.run_bind, Sem.run_pure, run_underlying hu, Result.andThen_ok, if_pos hcond, hs, h2]
      · cases h
    · cases h
  · cases h
theorem str_beq (a b : ByteArray) : (a.toList == b.toList) = decide (a = b) := by
  rw [Bool.eq_iff_iff, beq_iff_eq, decide_eq_true_eq, ByteArray.toList_eq, ByteArray.toList_eq]
  constructor
  · intro h
    cases a; cases b
    congr 1
    exact Array.toList_inj.1 h
  · intro h; rw [h]
theorem binIntV_sound {op : BinOp} {j : IntKind} {a b : Int} {t : TypeId} {k : Value → Prop} (h : binIntV op j a b k) (hs : op ≠ .shl ∧ op ≠ .shr) : ∃ r, k r ∧ r.oneCell' = true ∧ ∀ w, (binOp op t (.int j a) (.int j b)).run P w = .ok r w := by
  unfold binIntV at h
  split at h
  all_goals first
    | (refine ⟨_, h, rfl, fun w => ?_⟩; simp [binOp, Op.intArith, Op.intCmp, Op.intBits]; done)
    | (obtain ⟨hb, h⟩ := h; refine ⟨_, h, rfl, fun w => ?_⟩; simp [binOp, Op.intDiv, hb]; done)
    | (refine ⟨_, h, rfl, fun w => ?_⟩; simp only [binOp, Op.intCmp, ne_eq, not_true_eq_false, if_false, Sem.run_pure]; congr 2; first | rfl | (rw [Bool.eq_iff_iff]; simp; done))
    | (refine ⟨_, h, rfl, fun w => ?_⟩; simp only [binOp, Op.intCmp, ne_eq, not_true_eq_false, if_false, Sem.run_pure]; rfl)
    | (refine ⟨_, h, rfl, fun w => ?_⟩; simp only [binOp, Op.intCmp, ne_eq, not_true_eq_false, if_false, Sem.run_pure, decide_not]; rfl)
    | (cases h; done)
theorem binV_sound {op : BinOp} {t : TypeId} {x y : Operand} {ev : Operand → D} {k : Value → Prop} (h : binV P op t (ev x) (ev y) k) :
    ∃ r, k r ∧ r.oneCell' = true ∧ ∀ (hp : Hp) (g : Gh) (w : World) (ρ : Operand → Value), RepD hp g w (ev x) (ρ x) → RepD hp g w (ev y) (ρ y) → (do eqGuard op t x y (ρ x) (ρ y); binOp op t (ρ x) (ρ y) : Sem Value).run P w = .ok r w := by
  have guard : ∀ (a b : Value) (w : World), (match a, b with | .nilIface, .nilIface => False | .agg _, .agg _ => False | _, _ => True) → (eqGuard op t x y a b).run P w = .ok () w := by
    intro a b w hab
    unfold eqGuard
    cases op <;> first | rfl | (cases a <;> cases b <;> first | rfl | exact hab.elim)
  unfold binV at h
  split at h
  · rename_i j a kd b hx hy
    obtain ⟨h0, h⟩ := h
    refine ⟨_, h, rfl, fun hp g w ρ h1 h2 => ?_⟩
    rw [hx] at h1
    rw [hy] at h2
    rw [Sem.run_bind, h1.lit, h2.lit, guard _ _ _ trivial]
    have : ¬ b < 0 := by omega
    simp [binOp, Op.shift, this]
  · rename_i j a kd b hx hy
    obtain ⟨h0, h⟩ := h
    refine ⟨_, h, rfl, fun hp g w ρ h1 h2 => ?_⟩
    rw [hx] at h1
    rw [hy] at h2
    rw [Sem.run_bind, h1.lit, h2.lit, guard _ _ _ trivial]
    have : ¬ b < 0 := by omega
    simp [binOp, Op.shift, this]
  · rename_i j a j' b hs1 hs2 hx hy
    obtain ⟨rfl, h⟩ := h
    obtain ⟨r, hk, h1, hrun⟩ := binIntV_sound (P := P) (t := t) h (by constructor <;> (intro e; subst e; simp_all))
    refine ⟨r, hk, h1, fun hp g w ρ h1 h2 => ?_⟩
    rw [hx] at h1
    rw [hy] at h2
    rw [Sem.run_bind, h1.lit, h2.lit, guard _ _ _ trivial]
    exact hrun w
  · rename_i a b hx hy
    unfold binStrV at h
    split at h
    · obtain ⟨hl, h⟩ := h
      refine ⟨_, h, rfl, fun hp g w ρ h1 h2 => ?_⟩
      rw [hx] at h1
      rw [hy] at h2
      rw [Sem.run_bind, h1.lit, h2.lit, guard _ _ _ trivial]
      have hm : ¬ ((a.size + b.size : Nat) : Int) > IntKind.i64.max := by
        have : IntKind.i64.max = 9223372036854775807 := by decide
        omega
      simp only [Result.andThen_ok, binOp, Op.stringOp, if_neg hm, Sem.run_pure]
    · refine ⟨_, h, rfl, fun hp g w ρ h1 h2 => ?_⟩
      rw [hx] at h1
      rw [hy] at h2
      rw [Sem.run_bind, h1.lit, h2.lit, guard _ _ _ trivial]
      simp only [Result.andThen_ok, binOp, Op.stringOp, Sem.run_pure, str_beq]
    · refine ⟨_, h, rfl, fun hp g w ρ h1 h2 => ?_⟩
      rw [hx] at h1
      rw [hy] at h2
      rw [Sem.run_bind, h1.lit, h2.lit, guard _ _ _ trivial]
      simp only [Result.andThen_ok, binOp, Op.stringOp, Sem.run_pure, str_beq, decide_not]
    · cases h
  · rename_i a b hx hy
    obtain ⟨hub, h⟩ := h
    unfold binBoolV at h
    split at h
    · refine ⟨_, h, rfl, fun hp g w ρ h1 h2 => ?_⟩
      rw [hx] at h1
      rw [hy] at h2
      rw [Sem.run_bind, h1.lit, h2.lit, guard _ _ _ trivial]
      simp only [Result.andThen_ok]
      exact run_eql_bool w t a b hub
    · refine ⟨_, h, rfl, fun hp g w ρ h1 h2 => ?_⟩
      rw [hx] at h1
      rw [hy] at h2
      rw [Sem.run_bind, h1.lit, h2.lit, guard _ _ _ trivial]
      simp only [Result.andThen_ok]
      exact run_neq_bool w t a b hub
    · cases h
  · rename_i xs ys hx hy
    split at h
    · rename_i us vs h3 h4
      obtain ⟨r, hrun, h1, hk⟩ := h
      refine ⟨r, hk, h1, fun hp g w ρ h5 h6 => ?_⟩
      have lits : ∀ {l : List D} {us : List Value} {v : Value}, litsOf l = some us → RepD hp g w (.ag l) v → v = .agg us.toArray := by
        intro l us v hl hv
        obtain ⟨cs, rfl, hcs⟩ := agg_cells hv
        have : ∀ (l : List D) (us cs : List Value), litsOf l = some us → Pw (RepD hp g w) l cs → cs = us := by
          intro l
          induction l with
          | nil =>
            intro us cs h1 h2
            simp only [litsOf, Option.some.injEq] at h1
            rw [← h1]
            exact List.eq_nil_of_length_eq_zero h2.1.symm
          | cons d l ih =>
            intro us cs h1 h2
            cases cs with
            | nil => have := h2.1; simp at this
            | cons c cs =>
              unfold litsOf at h1
              split at h1
              · rename_i heq; cases heq
              · rename_i v ds heq
                injection heq with e1 e2
                subst e1; subst e2
                cases hl : litsOf l with
                | none => simp [hl] at h1
                | some us' =>
                  simp only [hl, Option.map_some, Option.some.injEq] at h1
                  subst h1
                  have hc := (h2.2 0 _ _ rfl rfl : RepD hp g w (.e (.lit v)) c).lit
                  subst hc
                  rw [ih us' cs hl ⟨by have := h2.1; simpa using this, fun j a b ha hb => h2.2 (j + 1) a b ha hb⟩]
              · cases h1
        have := this l us cs.toList hl hcs.1
        rw [← this]
      rw [hx] at h5
      rw [hy] at h6
      rw [lits h3 h5, lits h4 h6]
      exact hrun w
    · cases h
  · cases h
theorem unV_sound {op : UnOp} {d : D} {k : Value → Prop} (h : unV op d k) : ∃ r, k r ∧ r.oneCell' = true ∧ ∀ (hp : Hp) (g : Gh) (w : World) (u : Value), RepD hp g w d u → (Op.unary op u).run P w = .ok r w := by
  unfold unV at h
  split at h
  · refine ⟨_, h, rfl, fun hp g w u hu => ?_⟩
    rw [hu.lit]
    rfl
  · refine ⟨_, h, rfl, fun hp g w u hu => ?_⟩
    rw [hu.lit]
    rfl
  · cases h
theorem bytesOf_at : ∀ {xs : List E} {bs : List UInt8}, bytesOf xs = some bs → xs.length = bs.length ∧ ∀ (j : Nat) (b : UInt8), bs[j]? = some b → ∃ n : Int, xs[j]? = some (E.lit (.int .u8 n)) ∧ b = UInt8.ofNat n.toNat
  | [], bs, h => by
    simp only [bytesOf, Option.some.injEq] at h
    subst h
    exact ⟨rfl, fun j b h => by simp at h⟩
  | x :: xs, bs, h => by
    unfold bytesOf at h
    split at h
    · rename_i b bs' h1 h2
      injection h with h
      subst h
      obtain ⟨hl, hj⟩ := bytesOf_at h2
      refine ⟨by simp [hl], fun j c hc => ?_⟩
      cases j with
      | zero =>
        simp only [List.getElem?_cons_zero, Option.some.injEq] at hc
        subst hc
        unfold byteOf at h1
        split at h1
        · injection h1 with h1
          exact ⟨_, by simp, h1.symm⟩
        · cases h1
      | succ j => simpa using hj j c (by simpa using hc)
    · cases h
theorem convV_sound (tok : TOk P tb) {s t : TypeId} {d : D} {k : D → Prop} (h : convV tb s t d k) : ∃ r, k r ∧ ∀ (hp : Hp) (g : Gh) (w : World) (u : Value), RepD hp g w d u → ∃ v, (convert s t u).run P w = .ok v w ∧ RepD hp g w r v := by
  unfold convV at h
  split at h
  · rename_i i j hi hj
    obtain ⟨ds, hs, _⟩ := tok.und hi
    split at h
    · rename_i jk _ n hty
      refine ⟨_, h, fun hp g w u hu => ⟨_, ?_, .e _ _ (.lit _ rfl)⟩⟩
      rw [hu.lit]
      simp [convert, run_underlying hs, run_underlying (tok.int hj hty), Conv.intToInt]
    · rename_i str hty
      refine ⟨_, h, fun hp g w u hu => ⟨_, ?_, .e _ _ (.lit _ rfl)⟩⟩
      rw [hu.lit]
      simp [convert, run_underlying hs, run_underlying (tok.str hj hty)]
    · rename_i hty _
      split at h
      · rename_i e hsl
        split at h
        · rename_i l he
          obtain ⟨hl, h⟩ := h
          split at h
          · rename_i n xs ha
            split at h
            · rename_i bs hb
              refine ⟨_, h, fun hp g w u hu => ?_⟩
              obtain ⟨A, c, hv, hrep⟩ := asSl_rep hu ha
              subst hv
              obtain ⟨hlen, hat⟩ := bytesOf_at hb
              refine ⟨_, ?_, .e _ _ (.lit _ rfl)⟩
              rw [run_convert_bytes_string w s t e A n c (tok.slice hi hsl) (tok.int he hl) (tok.str hj hty)]
              cases hrep with
              | sl _ _ _ _ _ us hxl hz hnc hcm hA hc hr =>
                cases A with
                | none =>
                  have hn : n = 0 := by
                    rcases Nat.eq_zero_or_pos n with h0 | h0
                    · exact h0
                    · obtain ⟨ad, e, _⟩ := hA h0
                      cases e
                  subst hn
                  have : bs = [] := List.eq_nil_of_length_eq_zero (by omega)
                  subst this
                  rfl
                | some a =>
                  let ns : List Int := xs.map fun x => match x with
                    | .lit (.int _ n) => n
                    | _ => 0
                  have hnl : ns.length = n := by simp only [ns, List.length_map]; omega
                  have hload : (loadCells a n).run P w = .ok (ns.map (Value.int .u8)).toArray w := by
                    have := run_loadCells_list (P := P) w a (ns.map (Value.int .u8)) (fun j v hj => by
                      simp only [ns, List.map_map, List.getElem?_map, Option.map_eq_some_iff] at hj
                      obtain ⟨x, hx, hv⟩ := hj
                      have hjl : j < bs.length := by
                        rw [← hlen]
                        rcases Nat.lt_or_ge j xs.length with h | h
                        · exact h
                        · rw [List.getElem?_eq_none h] at hx; cases hx
                      obtain ⟨m, hm, _⟩ := hat j _ (List.getElem?_eq_getElem hjl)
                      rw [hx] at hm
                      injection hm with hm
                      subst hm
                      obtain ⟨h1, _⟩ := hc a rfl j _ hx
                      rw [h1]
                      have h2 := hr j _ hx
                      generalize us j = y at h2
                      cases h2
                      rw [← hv]
                      rfl)
                    simpa [hnl] using this
                  rw [run_bytesToString w a n c ns hload, foldl_push_bytes]
                  have : (ns.map fun n => UInt8.ofNat n.toNat) = bs := by
                    apply List.ext_getElem?
                    intro j
                    rcases Nat.lt_or_ge j bs.length with h | h
                    · obtain ⟨m, hm, hb⟩ := hat j _ (List.getElem?_eq_getElem h)
                      rw [List.getElem?_eq_getElem h, hb]
                      simp only [ns, List.map_map, List.getElem?_map, hm, Option.map_some, Function.comp]
                    · rw [List.getElem?_eq_none h, List.getElem?_eq_none (by simp only [ns, List.length_map]; omega)]
                  rw [this]
                  simp [ByteArray.empty, ByteArray.emptyWithCapacity]
                  rfl
            · cases h
          · cases h
        · cases h
      · cases h
    · cases h
  · cases h
end
end
section
section
variable {P : Program} {tb : TypeId → Option TyE} {hp : Hp} {g : Gh} {w : World} {B : Nat}
theorem lenV_sound (tok : TOk P tb) {t : TypeId} {d : D} {k : Int → Prop} (h : lenV tb t d k) : ∃ n, k n ∧ ∀ (hp : Hp) (g : Gh) (w : World) (ty : TypeId) (u : Value), RepD hp g w d u → (Builtin.len_ #[t] ty #[u]).run P w = .ok (.int .i64 n) w := by
  unfold lenV at h
  split at h
  · rename_i ti ht
    split at h
    · rename_i e hty
      have hu := tok.slice ht hty
      split at h
      · rename_i j he
        split at h
        · rename_i n xs ha
          refine ⟨_, h, fun hp g w ty u hr => ?_⟩
          obtain ⟨A, c, rfl, _⟩ := asSl_rep hr ha
          simp [Builtin.len_, run_underlying hu, goInt]
        · split at h
          · refine ⟨_, h, fun hp g w ty u hr => ?_⟩
            cases hr with
            | ow _ _ _ _ c hkk hnc hcm => simp [Builtin.len_, run_underlying hu, goInt]
          · cases h
      · cases h
    · rename_i hty
      have hu := tok.str ht hty
      split at h
      · refine ⟨_, h, fun hp g w ty u hr => ?_⟩
        rw [hr.lit]
        simp [Builtin.len_, run_underlying hu, goInt]
      · cases h
    · rename_i n e hty
      have hu := tok.arr ht hty
      refine ⟨_, h, fun hp g w ty u hr => ?_⟩
      simp [Builtin.len_, run_underlying hu, goInt]
    · cases h
  · cases h
inductive News (P : Program) (t t' : TypeId) (F : Addr → Prop) (w : World) (z : Nat) : Option ByteArray → Value → Nat → List E → Prop
  | sl (A : Option Addr) (m c : Nat) (ys : List E) (h : RepE w F (.sl z m ys) (.slice A m c)) (hd : t' = t) : News P t t' F w z none (.slice A m c) m ys
  | str (s : ByteArray) (hu : P.underlying t' = some .string) (hz : z = 1) : News P t t' F w z (some s) (.string s) s.size (s.data.toList.map fun b => .lit (bv b))
theorem strOf_eq {x : D} {s : ByteArray} (h : x.strOf = some s) : x = .e (.lit (.string s)) := by
  unfold D.strOf at h
  split at h
  · injection h with h; rw [h]
  · cases h
theorem newsV_sound (tok : TOk P tb) {t t' : TypeId} {z : Nat} {x : D} {k : Nat → List E → Prop} (h : newsV tb t' z x k) (hx : x.strOf = none → t' = t) :
    ∃ m ys, k m ys ∧ ∀ (hp : Hp) (g : Gh) (w : World) (u : Value), RepD hp g w x u → News P t t' g.F w z x.strOf u m ys := by
  unfold newsV at h
  split at h
  · rename_i i ht
    split at h
    · rename_i s hty hs
      obtain ⟨hz, h⟩ := h
      refine ⟨_, _, h, fun hp g w u hr => ?_⟩
      rw [hs]
      rw [strOf_eq hs] at hr
      rw [hr.lit]
      exact .str s (tok.str ht hty) hz
    · rename_i e hty hs
      split at h
      · rename_i m ys ha
        refine ⟨_, _, h, fun hp g w u hr => ?_⟩
        rw [hs]
        obtain ⟨A, c, rfl, hrep⟩ := asSl_rep hr ha
        exact .sl A m c ys hrep (hx hs)
      · cases h
    · cases h
  · cases h
theorem append_run (tok : TOk P tb) {t t' e : TypeId} {ti j : TyE} (ht : tb t = some ti) (hty : ti.ty = .slice e) (he : tb e = some j) (hjz : 0 < j.size) {so : Option ByteArray} {u : Value} {m : Nat} {ys : List E} (hn : News P t t' g.F w j.size so u m ys)
    (hstr : so ≠ none → j.bytes = 1 ∧ j.zero = [.int .u8 0] ∧ j.ty.agg = false) (ty : TypeId) (v : Value) (n : Nat) (xs : List Value) (hown : w.ownsRow B e j.size v n xs) (hbytes : (n + m) * max 1 j.bytes ≤ 140737488355328) (hB : B ≤ w.heap.size) :
    ∃ v' w' news, (Builtin.append_ #[t, t'] ty #[v, u]).run P w = .ok v' w' ∧ w'.ownsRow B e j.size v' (n + m) (xs ++ news) ∧ Appd w v m w' v' ∧ Pw (RepE w g.F) ys news ∧ ys.length = m * j.size := by
  have hu := tok.slice ht hty
  obtain ⟨f, z, hi, hfs, hfb, hfz, hzc, hza⟩ := tok.inf he
  have h1 : n + m ≤ 140737488355328 := Nat.le_trans (Nat.le_mul_of_pos_right _ (by omega)) hbytes
  have h2 : (n + m) * j.bytes ≤ 140737488355328 := Nat.le_trans (Nat.mul_le_mul_left _ (Nat.le_max_right _ _)) hbytes
  have h3 : n + m ≤ maxLen := by unfold maxLen; omega
  cases hn with
  | sl A _ c _ hrep hd =>
    subst hd
    obtain ⟨hl, hz, hnc, hcm, hA, us, hul, hc, hp⟩ := hrep.reads
    obtain ⟨v', w', hrun, ho, ha⟩ := run_append_law (P := P) w B t' ty e f z j.size j.bytes hu hi hfz hfs hfb (by rw [← (tok e j he).2.2.1, ← hzc]; simp) hjz v n xs hown A m c us hul (fun hm => by obtain ⟨ad, e, _⟩ := hA hm; exact ⟨ad, e⟩)
      (fun a ha j' u hu => (hc a ha j' u hu).1) (fun u hu => by
        obtain ⟨i, hi⟩ := List.getElem?_of_mem hu
        have hlt : i < ys.length := by
          rw [hp.1]
          rcases Nat.lt_or_ge i us.length with hh | hh
          · exact hh
          · rw [List.getElem?_eq_none hh] at hi; cases hi
        exact (hp.2 i _ u (List.getElem?_eq_getElem hlt) hi).one) h3 h2 hB
    exact ⟨v', w', us, hrun, ho, ha, hp, hl⟩
  | str s hus hz =>
    obtain ⟨hb1, hz1, hag⟩ := hstr (by simp)
    have hz0 : f.zero = some (.int .u8 0) := by
      rw [hfz]
      congr 1
      rw [hz1] at hzc
      rw [hag] at hza
      cases z <;> simp_all [Value.cells, Value.isAggV]
    rw [hz] at hown ⊢
    obtain ⟨v', w', hrun, ho, ha⟩ := run_append_str_law (P := P) w B t t' ty e f hu hus hi hz0 (by rw [hfs, hz]) (by rw [hfb, hb1]) v n xs hown s h3 h1 hB
    have hlen : s.data.toList.length = s.size := by rw [Array.length_toList]; rfl
    refine ⟨v', w', _, hrun, ho, ha, ⟨by simp [Lib.strCells], fun i a b hia hib => ?_⟩, by rw [List.length_map, hlen, Nat.mul_one]⟩
    rw [strCells_bv, List.getElem?_map] at hib
    rw [List.getElem?_map] at hia
    cases hc : s.data.toList[i]? with
    | none => simp [hc] at hia
    | some c =>
      simp only [hc, Option.map_some, Option.some.injEq] at hia hib
      subst hia; subst hib
      exact .lit _ rfl
theorem RepE.appended {F' : Addr → Prop} {w' : World} {e : TypeId} {z n m : Nat} {v' : Value} {xs ys : List E} {us news : List Value} (hz : 0 < z) (ho' : w'.ownsRow B e z v' (n + m) (us ++ news)) (hx : Pw (RepE w' F') xs us) (hy : Pw (RepE w' F') ys news)
    (hF : ∀ b j, v'.ownBlock = some b → j < (n + m) * z → ¬ F' ⟨b, j, none⟩) : RepE w' F' (.sl z (n + m) (xs ++ ys)) v' := by
  have hp := hx.append hy
  have hl := ho'.1
  rcases ho'.2 with ⟨rfl, h0⟩ | ⟨b, cap, cur, rfl, _, hh, hnc, hcm, hcs, ht⟩
  · rw [h0] at hl ⊢
    have : xs ++ ys = [] := List.eq_nil_of_length_eq_zero (by rw [hp.1, hl]; simp)
    rw [this]
    exact .sl z 0 [] none 0 (fun _ => undef) (by simp) hz (Nat.le_refl _) (by decide) (fun h => absurd h (by omega)) (fun _ h => by cases h) (fun _ _ h => by simp at h)
  · have hlt : b < w'.heap.size := (Array.getElem?_eq_some_iff.1 hh).1
    refine .sl z (n + m) _ _ cap (fun j => (us ++ news).getD j undef) (by rw [hp.1, hl]) hz hnc hcm (fun _ => ⟨_, rfl, hlt⟩) (fun ad ha j x hxj => ?_) (fun j x hxj => ?_)
    · injection ha with ha
      subst ha
      obtain ⟨u, hu, _⟩ := hp.get hxj
      have hj : j < (n + m) * z := by
        rw [← hl]
        rcases Nat.lt_or_ge j (us ++ news).length with h | h
        · exact h
        · rw [List.getElem?_eq_none h] at hu; cases hu
      rw [Addr.add_lit, Nat.zero_add]
      refine ⟨?_, hF b j rfl hj⟩
      simp only [List.getD, hu, Option.getD_some, World.cell?, hh]
      rw [← ht, List.getElem?_take, if_pos hj] at hu
      simpa using hu
    · obtain ⟨u, hu, hr⟩ := hp.get hxj
      simpa only [List.getD, hu, Option.getD_some] using hr
theorem own_reads {e : TypeId} {z n : Nat} {v : Value} {xs : List E} {us : List Value} {F : Addr → Prop} (ho : w.ownsRow B e z v n us) (h : RepE w F (.sl z n xs) v) : Pw (RepE w F) xs us := by
  rcases ho.2 with ⟨rfl, h0⟩ | ⟨b, cap, cur, rfl, _, hh, hnc, hcm, hcs, ht⟩
  · subst h0
    obtain ⟨hl, _⟩ := h.reads
    have h1 : xs = [] := List.eq_nil_of_length_eq_zero (by simpa using hl)
    have h2 : us = [] := List.eq_nil_of_length_eq_zero (by simpa using ho.1)
    subst h1; subst h2
    exact Pw.nil
  · obtain ⟨hl, hz, _, _, hA, us', hl', hc, hp⟩ := h.reads
    have : us' = us := by
      apply List.ext_getElem?
      intro j
      rcases Nat.lt_or_ge j (n * z) with hj | hj
      · have h1 : us'[j]? = some us'[j] := List.getElem?_eq_getElem (by omega)
        obtain ⟨h2, _⟩ := hc _ rfl j _ h1
        rw [h1, ← ht, List.getElem?_take, if_pos hj]
        rw [Addr.add_lit, Nat.zero_add] at h2
        simp only [World.cell?, hh] at h2
        simpa using h2.symm
      · rw [List.getElem?_eq_none (by omega), List.getElem?_eq_none (by rw [ho.1]; omega)]
    rw [← this]
    exact hp
theorem Appd.below {v v' : Value} {m : Nat} {w' : World} (h : Appd w v m w' v') (hB : B ≤ w.heap.size) (hv : ∀ b, v.ownBlock = some b → B ≤ b) : Below B w w' := by
  cases h with
  | same _ hw _ => rw [hw]; exact Below.refl _ _
  | place b _ hb _ hg _ _ => exact (Below.refl _ _).grown hg hB (fun k hk => by injection hk with hk; subst hk; exact hv _ hb)
  | fresh _ hg _ => exact (Below.refl _ _).grown hg hB (fun k hk => by cases hk)
theorem Appd.block {v v' : Value} {m : Nat} {w' : World} (h : Appd w v m w' v') : ∀ b, v'.ownBlock = some b → v.ownBlock = some b ∨ w.heap.size ≤ b := by
  intro b hb
  cases h with
  | same _ _ hv => rw [hv] at hb; exact .inl hb
  | place b' _ hv hv' _ _ _ => rw [hv'] at hb; rw [hv]; exact .inl hb
  | fresh _ _ hv' => rw [hv'] at hb; injection hb with hb; exact .inr (by omega)
theorem tok_free (g : Gh) (id : Nat) (v : Value) (n b j : Nat) (hb : v.ownBlock = some b) (hj : j < n) : ¬ (g.tok id v n).F ⟨b, j, none⟩ := by
  rintro (⟨_, h⟩ | ⟨b', h1, h2, h3⟩)
  · exact h ⟨hb, hj⟩
  · have : n ≤ j := h3
    omega
theorem append_full (tok : TOk P tb) {t t' e : TypeId} {ti j : TyE} (ht : tb t = some ti) (hty : ti.ty = .slice e) (he : tb e = some j) (hjz : 0 < j.size) {so : Option ByteArray} {u : Value} {m : Nat} {ys : List E} (hn : News P t t' g.F w j.size so u m ys)
    (hstr : so ≠ none → j.bytes = 1 ∧ j.zero = [.int .u8 0] ∧ j.ty.agg = false) (ty : TypeId) {A : Option Addr} {n : Nat} {xs : List E} (hrep : RepE w g.F (.sl j.size n xs) (.slice A n n)) (hm : 0 < m) (hbytes : (n + m) * max 1 j.bytes ≤ 140737488355328) (hB : B ≤ w.heap.size) :
    ∃ r w' us news, (Builtin.append_ #[t, t'] ty #[.slice A n n, u]).run P w = .ok r w' ∧ w'.ownsRow B e j.size r (n + m) (us ++ news) ∧ w.grownBy w' none ∧ r.ownBlock = some w.heap.size ∧ Pw (RepE w g.F) xs us ∧ Pw (RepE w g.F) ys news := by
  cases A with
  | none =>
    obtain ⟨hl, _, _, _, hA, _⟩ := hrep.reads
    have h0 : n = 0 := by
      rcases Nat.eq_zero_or_pos n with h | h
      · exact h
      · obtain ⟨_, h1, _⟩ := hA h; cases h1
    subst h0
    have hx : xs = [] := List.eq_nil_of_length_eq_zero (by simpa using hl)
    subst hx
    obtain ⟨r, w', news, hrun, ho, ha, hpw, _⟩ := append_run tok ht hty he hjz hn hstr ty _ _ _ (World.ownsRow_nil w B e j.size) hbytes hB
    cases ha with
    | same h _ _ => omega
    | place b _ hv _ _ _ _ => cases hv
    | fresh _ hg hv => exact ⟨r, w', [], news, hrun, ho, hg, hv, Pw.nil, hpw⟩
  | some ad =>
    have hu := tok.slice ht hty
    obtain ⟨f, z, hi, hfs, hfb, hfz, hzc, hza⟩ := tok.inf he
    have hzs : z.cells.size = j.size := by rw [← (tok e j he).2.2.1, ← hzc]; simp
    have h1 : n + m ≤ 140737488355328 := Nat.le_trans (Nat.le_mul_of_pos_right _ (by omega)) hbytes
    have h2 : (n + m) * j.bytes ≤ 140737488355328 := Nat.le_trans (Nat.mul_le_mul_left _ (Nat.le_max_right _ _)) hbytes
    have h3 : n + m ≤ maxLen := by unfold maxLen; omega
    obtain ⟨hl, _, _, _, _, us, hul, hc, hpx⟩ := hrep.reads
    have holds : ∀ i u, us[i]? = some u → w.cell? (ad.add i) = some u := fun i u hu => (hc ad rfl i u hu).1
    have grown : ∀ (news : List Value), news.length = m * j.size →
        (w.drew.alloc (.cells (us.toArray ++ news.toArray ++ Builtin.zeroCells z.cells (grownCap w (n + m) n e - (n + m))) e)).ownsRow B e j.size
          (.slice (some ⟨w.heap.size, 0, none⟩) (n + m) (grownCap w (n + m) n e)) (n + m) (us ++ news) ∧
        w.grownBy (w.drew.alloc (.cells (us.toArray ++ news.toArray ++ Builtin.zeroCells z.cells (grownCap w (n + m) n e - (n + m))) e)) none := by
      intro news hnl
      have hge := grownCap_ge w (n + m) n e
      have hcm : grownCap w (n + m) n e ≤ maxLen := grownCap_le_maxLen w (n + m) n e h3
      have hlen : (us ++ news).length = (n + m) * j.size := by rw [List.length_append, hul, hnl, Nat.add_mul]
      refine ⟨⟨hlen, .inr ⟨w.heap.size, _, _, rfl, hB, heap_alloc_new w.drew _, hge, hcm, ?_, ?_⟩⟩, ⟨rfl, rfl, rfl, by simp, fun k hk _ => heap_alloc_old w.drew _ hk⟩⟩
      · simp only [Array.size_append, List.size_toArray, size_zeroCells, hzs, hul, hnl, ← Nat.add_mul]
        congr 1
        omega
      · simp only [Array.toList_append, List.append_assoc]
        rw [← List.append_assoc, ← hlen]
        exact List.take_left
    cases hn with
    | sl A' _ c _ hrep' hd =>
      subst hd
      obtain ⟨hl', hz', hnc', hcm', hA', us', hul', hc', hpy⟩ := hrep'.reads
      obtain ⟨ad', rfl, _⟩ := hA' hm
      have hr := run_append_grow (P := P) w t' ty e f z hu hi hfz ad n n us (by rw [hul, hfs]) holds ad' m c us' (by rw [hul', hfs]) (fun i u hu => (hc' ad' rfl i u hu).1) (by omega) (by omega) (by rw [hfb]; exact growslice_fits (by omega) h2)
      have hgr := grown us' hul'
      exact ⟨_, _, us, us', hr, hgr.1, hgr.2, rfl, hpx, hpy⟩
    | str s hus hz =>
      obtain ⟨hb1, hz1, hag⟩ := hstr (by simp)
      have hz0 : f.zero = some (.int .u8 0) := by
        rw [hfz]
        congr 1
        rw [hz1] at hzc
        rw [hag] at hza
        cases z <;> simp_all [Value.cells, Value.isAggV]
      have hzz : z = .int .u8 0 := by rw [hfz] at hz0; injection hz0
      have hlen : s.data.toList.length = s.size := by rw [Array.length_toList]; rfl
      have hr := Lib.run_append_grow_string (P := P) w t t' ty e f (.int .u8 0) hu hus hi hz0 ad n n us (by rw [hul, hfs]) holds s (by omega) (by omega) (by rw [hfb]; exact growslice_fits (by omega) h2)
      have hgr := grown (Lib.strCells s) (by rw [Lib.strCells_length, hz, Nat.mul_one])
      rw [hzz] at hgr
      refine ⟨_, _, us, Lib.strCells s, hr, hgr.1, hgr.2, rfl, hpx, ⟨by simp [Lib.strCells], fun i a b hia hib => ?_⟩⟩
      rw [strCells_bv, List.getElem?_map] at hib
      rw [List.getElem?_map] at hia
      cases hc : s.data.toList[i]? with
      | none => simp [hc] at hia
      | some c =>
        simp only [hc, Option.map_some, Option.some.injEq] at hia hib
        subst hia; subst hib
        exact .lit _ rfl
theorem appendV_sound (tok : TOk P tb) {t t' : TypeId} {s x : D} {k : D → Hp → Prop} (h : appendV tb t t' s x hp k) :
    ∃ d' hp', k d' hp' ∧ ∀ (B : Nat) (g : Gh) (w : World) (ty : TypeId) (u v : Value), HR B hp g w → RepD hp g w s u → RepD hp g w x v →
      ∃ r g' w', (Builtin.append_ #[t, t'] ty #[u, v]).run P w = .ok r w' ∧ HR B hp' g' w' ∧ Mono hp g w hp' g' w' ∧ RepD hp' g' w' d' r ∧ Below B w w' ∧ ∀ p : Addr, p.block < B → g.F p → g'.F p := by
  unfold appendV at h
  split at h
  · rename_i ti ht
    split at h
    · rename_i e hty
      split at h
      · rename_i j he
        obtain ⟨hjz, htt, hstr, h⟩ := h
        obtain ⟨m, ys, h, hnews⟩ := newsV_sound tok h htt
        split at h
        · rename_i id z n xs
          obtain ⟨rfl, hlive, hbytes, hk⟩ := h
          refine ⟨_, _, hk, fun B g w ty u v hr hu hv => ?_⟩
          cases hu with
          | own _ _ _ _ _ hrep hid htok =>
            have huτ := (htok _ _ hlive).2.2 rfl
            obtain ⟨_, us, _, ho, hF⟩ := hr.tok _ _ _ hlive
            subst huτ
            obtain ⟨r, w', news, hrun, ho', ha, hpw, hyl⟩ := append_run tok ht hty he hjz (hnews hp g w v hv) hstr ty _ _ us ho hbytes hr.base
            have hF1 := fun b hb => (hF b hb).1
            have mo := Mono.app (hp := hp) (g := g) hlive ho hF1 ho' ha
            have hr' := hr.app hjz hlive ho hF1 ho' ha
            have hown : ∀ b, (g.τ _).ownBlock = some b → B ≤ b := fun b hb => (ho.lt b hb).1
            refine ⟨r, _, w', hrun, hr', mo, ?_, ha.below hr.base hown, fun p hp1 hp2 => Gh.tok_keep g _ (fun b hb => ?_) p hp1 hp2⟩
            · have hx := (own_reads ho hrep).imp (fun _ _ h => mo.repE h)
              have hy := hpw.imp (fun _ _ h => mo.repE h)
              refine .own _ _ _ _ _ (RepE.appended hjz ho' hx hy (fun b j' hb hj => tok_free g _ r _ b j' hb hj)) hid (fun m' e' hm => ?_)
              rw [show (Hp.app hp _ _ _).live.lookup _ = _ from lookup_cons_eq] at hm
              injection hm with hm
              injection hm with h1 h2
              subst h1; subst h2
              exact ⟨Nat.le_refl _, rfl, fun _ => (if_pos rfl).symm⟩
            · rcases ha.block b hb with h | h
              · exact hown b h
              · exact Nat.le_trans hr.base h
        · obtain ⟨hbytes, hk⟩ := h
          refine ⟨_, _, hk, fun B g w ty u v hr hu hv => ?_⟩
          rw [hu.lit]
          obtain ⟨r, w', news, hrun, ho', ha, hpw, hyl⟩ := append_run tok ht hty he hjz (hnews hp g w v hv) hstr ty _ _ _ (World.ownsRow_nil w B e j.size) (by simpa using hbytes) hr.base
          simp only [Nat.zero_add, List.nil_append] at ho'
          have hsz := ha.size
          have hold : ∀ b, b < w.heap.size → w'.heap[b]? = w.heap[b]? := by
            intro b hb
            cases ha with
            | same _ hw _ => rw [hw]
            | place b' _ hv' _ _ _ _ => cases hv'
            | fresh _ hg _ => exact hg.block b hb (by simp)
          have hnb : ∀ b, r.ownBlock = some b → w.heap.size ≤ b := fun b hb => by
            rcases ha.block b hb with h | h
            · cases h
            · exact h
          have mo : Mono hp g w (hp.tok m (j.size, e)) (g.tok hp.next r (m * j.size)) w' := Mono.tok hp g hsz hold hnb
          have hr' := hr.newTok (e := (j.size, e)) hjz hsz hold hnb ho'
          refine ⟨r, _, w', hrun, hr', mo, ?_, ha.below hr.base (fun b hb => by cases hb), fun p hp1 hp2 => Gh.tok_keep g _ (fun b hb => Nat.le_trans hr.base (hnb b hb)) p hp1 hp2⟩
          have hy := hpw.imp (fun _ _ h => mo.repE h)
          have happ := RepE.appended (F' := (g.tok hp.next r (m * j.size)).F) (n := 0) (m := m) (xs := []) (us := []) hjz (by simpa using ho') Pw.nil hy (fun b j' hb hj => tok_free g _ r _ b j' hb (by simpa using hj))
          simp only [Nat.zero_add, List.nil_append] at happ
          refine .own _ _ _ _ _ happ (Nat.lt_succ_self _) (fun m' e' hm => ?_)
          rw [show (Hp.tok hp _ _).live.lookup _ = _ from lookup_cons_eq] at hm
          injection hm with hm
          injection hm with h1 h2
          subst h1; subst h2
          exact ⟨Nat.le_refl _, rfl, fun _ => (if_pos rfl).symm⟩
        · rename_i z n xs _
          obtain ⟨hzz, hm, hbytes, hk⟩ := h
          refine ⟨_, _, hk, fun B g w ty u v hr hu hv => ?_⟩
          cases hu with
          | fu _ _ _ A hrep =>
            subst hzz
            obtain ⟨r, w', us, news, hrun, ho', hg, hrb, hpx, hpy⟩ := append_full tok ht hty he hjz (hnews hp g w v hv) hstr ty hrep hm hbytes hr.base
            have hold : ∀ b, b < w.heap.size → w'.heap[b]? = w.heap[b]? := fun b hb => hg.block b hb (by simp)
            have hnb : ∀ b, r.ownBlock = some b → w.heap.size ≤ b := fun b hb => by rw [hrb] at hb; injection hb with hb; omega
            have mo : Mono hp g w (hp.tok (n + m) (j.size, e)) (g.tok hp.next r ((n + m) * j.size)) w' := Mono.tok hp g hg.size hold hnb
            have hr' := hr.newTok (e := (j.size, e)) hjz hg.size hold hnb ho'
            refine ⟨r, _, w', hrun, hr', mo, ?_, (Below.refl _ _).grown hg hr.base (fun k hk => by cases hk), fun p hp1 hp2 => Gh.tok_keep g _ (fun b hb => Nat.le_trans hr.base (hnb b hb)) p hp1 hp2⟩
            have happ := RepE.appended (F' := (g.tok hp.next r ((n + m) * j.size)).F) hjz ho' (hpx.imp fun _ _ h => mo.repE h) (hpy.imp fun _ _ h => mo.repE h) (fun b j' hb hj => tok_free g _ r _ b j' hb hj)
            refine .own _ _ _ _ _ happ (Nat.lt_succ_self _) (fun m' e' hm => ?_)
            rw [show (Hp.tok hp _ _).live.lookup _ = _ from lookup_cons_eq] at hm
            injection hm with hm
            injection hm with h1 h2
            subst h1; subst h2
            exact ⟨Nat.le_refl _, rfl, fun _ => (if_pos rfl).symm⟩
        · cases h
      · cases h
    · cases h
  · cases h
end
end
section
section
variable {P : Program} {tb : TypeId → Option TyE}
def OpOk (P : Program) (o : Oper) (ev : Operand → D) (hp : Hp) (d : D) (hp' : Hp) : Prop :=
  ∀ (B : Nat) (g : Gh) (w : World) (a : Act) (Kn : Act → World → Prop) (Q : Exit → Act → World → Prop), TT B w → HR B hp g w → (∀ x ∈ o.op.operands, RepD hp g w (ev x) (a.eval x)) →
    (∀ v g' w', HR B hp' g' w' → Mono hp g w hp' g' w' → RepD hp' g' w' d v → Below B w w' → (∀ p : Addr, p.block < B → g.F p → g'.F p) → Kn (a.put o.dst v) w') → o.wp P a w Kn Q
def quietB : Op → Bool
  | .sliceToArrayPointer .. => true
  | .move _ | .nilCheck _ | .makeFunc .. | .pick .. | .build .. | .load .. | .binOp .. | .unOp .. | .convert .. | .slice .. | .fieldAddr .. | .field .. | .indexAddr .. | .index .. | .extract .. => true
  | .buildSlice _ n _ => n != 0
  | .call c => match c.callee with
    | .builtin .append => false
    | .builtin .copy => false
    | .builtin _ => true
    | _ => false
  | _ => false
def refT (tb : TypeId → Option TyE) (t : TypeId) : Bool :=
  match tb t with
  | some i => match i.ty with
    | .slice e => match tb e with
      | some j => j.zero.any fun v => match v with
        | .pointer _ => true
        | .slice .. => j.size != 1
        | _ => false
      | none => false
    | _ => false
  | none => false
def cpB (tb : TypeId → Option TyE) (c : Call) : Bool := match c.callee with
  | .builtin .copy => true
  | .builtin .append => (c.argTypes[0]?).any (refT tb)
  | _ => false
def litB (tb : TypeId → Option TyE) : Op → Bool
  | .buildSlice t _ _ => refT tb t
  | _ => false
def varB (tb : TypeId → Option TyE) : Op → Bool
  | .alloc _ | .box .. | .store .. | .makeSlice .. => true
  | .call c => hvB tb c || cpB tb c
  | _ => false
theorem hvOf {tb : TypeId → Option TyE} {x : Operand} {args : Array Operand} {ts : Array TypeId} (h : (hvB tb ⟨.value x, args, ts⟩ || cpB tb ⟨.value x, args, ts⟩) = false) : hvB tb ⟨.value x, args, ts⟩ = false := by
  simpa [cpB] using h
def varC (tb : TypeId → Option TyE) : Op → Bool
  | .box .. | .store .. => true
  | .call c => hvB tb c || cpB tb c
  | _ => false
def loadB : Op → Bool
  | .load .. => true
  | _ => false
def D.un : D → D
  | .opt b d => bif b then d.un else .top
  | d => d
theorem un_un : ∀ d : D, d.un.un = d.un
  | .opt b d => by
    cases b
    · rfl
    · exact un_un d
  | .e _ | .own .. | .fu .. | .ag _ | .tu _ | .fp .. | .pt .. | .ow .. | .gw .. | .fn .. | .top => rfl
theorem RepD.un {hp : Hp} {g : Gh} {w : World} {d : D} {v : Value} (h : RepD hp g w d v) : RepD hp g w d.un v := by
  induction h with
  | opt b d v hi h ih =>
    unfold D.un
    cases b
    · exact .top _
    · exact ih rfl
  | e x v h => exact .e x v h
  | own id z n xs v h hid ht => exact .own id z n xs v h hid ht
  | fu z n xs A h => exact .fu z n xs A h
  | ag ds cs hl h1 hr ih => exact .ag ds cs hl h1 hr
  | tu ds cs hl hr ih => exact .tu ds cs hl hr
  | fp xs off ad hb hc => exact .fp xs off ad hb hc
  | pt k off hk => exact .pt k off hk
  | ow k off z n c hk h1 h2 => exact .ow k off z n c hk h1 h2
  | gw k z n c hk h1 h2 hs => exact .gw k z n c hk h1 h2 hs
  | fn f ks hk => exact .fn f ks hk
  | top v => exact .top v
def LdEq (o : Oper) (ev : Operand → D) (hp hp2 : Hp) : Prop := ∀ x ∈ o.op.operands, ∀ j off, (ev x).un = .pt j off → hp2.vars.lookup j = hp.vars.lookup j
def LdLt (o : Oper) (ev : Operand → D) (hp : Hp) : Prop := ∀ x ∈ o.op.operands, ∀ j off, (ev x).un = .pt j off → j < hp.next
def Fr (hp hp' : Hp) : Prop := hp.next ≤ hp'.next ∧ ∀ j, j < hp.next → hp'.vars.lookup j = hp.vars.lookup j
theorem Fr.refl (hp : Hp) : Fr hp hp := ⟨Nat.le_refl _, fun _ _ => rfl⟩
theorem Fr.of {hp hp' : Hp} (h : hp'.vars = hp.vars ∧ hp.next ≤ hp'.next) : Fr hp hp' := ⟨h.2, fun _ _ => by rw [h.1]⟩
structure Snd (P : Program) (tb : TypeId → Option TyE) (dr : Bool) (o : Oper) (ev : Operand → D) (hp : Hp) (d : D) (hp' : Hp) : Prop where
  ok : OpOk P o ev hp d hp'
  quiet : dr = true → quietB o.op = true → hp' = hp ∧ ∀ hp2 : Hp, (loadB o.op = true → LdEq o ev hp hp2) → OpOk P o ev hp2 d hp2
  fr : varC tb o.op = false → Fr hp hp'
  lk : loadB o.op = true → LdLt o ev hp
def callIn (tb : TypeId → Option TyE) (L : List FuncId) : Op → Bool
  | .call c => (match c.callee with
    | .value (.func f) => L.elem f
    | _ => false) && !hvB tb c
  | _ => false
def inL (L : List FuncId) : Op → Bool
  | .call c => match c.callee with
    | .value (.func f) => L.elem f
    | _ => false
  | _ => false
theorem inL_callIn {tb : TypeId → Option TyE} {L : List FuncId} {op : Op} (h : inL L op = false) : callIn tb L op = false := by
  cases op with
  | call c =>
    show ((match c.callee with | .value (.func f) => L.elem f | _ => false) && !hvB tb c) = false
    have h2 : (match c.callee with | .value (.func f) => L.elem f | _ => false) = false := h
    rw [h2]; rfl
  | _ => rfl
def varL (tb : TypeId → Option TyE) (L : List FuncId) (op : Op) : Bool := varC tb op && !inL L op
theorem varL_C {tb : TypeId → Option TyE} {L : List FuncId} {op : Op} (h : varL tb L op = true) : varC tb op = true := by
  unfold varL at h; rw [Bool.and_eq_true] at h; exact h.1
def quietL (tb : TypeId → Option TyE) (L : List FuncId) (op : Op) : Bool := (quietB op && !litB tb op) || callIn tb L op
inductive Md where
  | seq
  | any (L : List FuncId)
def Md.dr : Md → Bool
  | .seq => false
  | .any _ => true
def Md.qt (tb : TypeId → Option TyE) : Md → Op → Bool
  | .seq, _ => false
  | .any L, op => quietL tb L op
def Md.nc (_ : TypeId → Option TyE) : Md → Op → Bool
  | .seq, _ => true
  | .any L, op => !inL L op
def Md.vr (tb : TypeId → Option TyE) : Md → Op → Bool
  | .seq, op => varC tb op
  | .any L, op => varL tb L op
theorem Md.vr_C {tb : TypeId → Option TyE} {md : Md} {op : Op} (hn : md.nc tb op = true) (h : md.vr tb op = false) : varC tb op = false := by
  cases md with
  | seq => exact h
  | any L =>
    have h1 : (varC tb op && !inL L op) = false := h
    have h2 : (!inL L op) = true := hn
    rwa [h2, Bool.and_true] at h1
structure SndQ (P : Program) (tb : TypeId → Option TyE) (md : Md) (o : Oper) (ev : Operand → D) (hp : Hp) (d : D) (hp' : Hp) : Prop where
  ok : OpOk P o ev hp d hp'
  quiet : md.qt tb o.op = true → hp' = hp ∧ ∀ hp2 : Hp, (loadB o.op = true → LdEq o ev hp hp2) → OpOk P o ev hp2 d hp2
  fr : md.vr tb o.op = false → Fr hp hp'
  lk : loadB o.op = true → LdLt o ev hp
theorem Snd.q {md : Md} {o : Oper} {ev : Operand → D} {hp hp' : Hp} {d : D} (h : Snd P tb md.dr o ev hp d hp') (hn : md.nc tb o.op = true) : SndQ P tb md o ev hp d hp' := by
  refine ⟨h.ok, fun hq => ?_, fun hv => h.fr (Md.vr_C hn hv), h.lk⟩
  cases md with
  | seq => cases hq
  | any L =>
    have h1 : ((quietB o.op && !litB tb o.op) || callIn tb L o.op) = true := hq
    have h2 : (!inL L o.op) = true := hn
    refine h.quiet rfl ?_
    rw [inL_callIn (by rwa [Bool.not_eq_true'] at h2), Bool.or_false, Bool.and_eq_true] at h1
    exact h1.1
theorem Snd.calmL {dr : Bool} {o : Oper} {ev : Operand → D} {hp : Hp} {d : D} (hl : loadB o.op = true → LdLt o ev hp) (h : ∀ hp2 : Hp, (loadB o.op = true → LdEq o ev hp hp2) → OpOk P o ev hp2 d hp2) : Snd P tb dr o ev hp d hp := ⟨h hp fun _ _ _ _ _ _ => rfl, fun _ _ => ⟨rfl, h⟩, fun _ => Fr.refl _, hl⟩
theorem Snd.calm {dr : Bool} {o : Oper} {ev : Operand → D} {hp : Hp} {d : D} (h : ∀ hp2 : Hp, (loadB o.op = true → LdEq o ev hp hp2) → OpOk P o ev hp2 d hp2) (hl : loadB o.op = false := by rfl) : Snd P tb dr o ev hp d hp := Snd.calmL (fun h => by rw [hl] at h; cases h) h
theorem Snd.loud {dr : Bool} {o : Oper} {ev : Operand → D} {hp hp' : Hp} {d : D} (h : OpOk P o ev hp d hp') (hq : dr = true → quietB o.op = false) (hv : varC tb o.op = false → Fr hp hp') (hl : loadB o.op = false := by rfl) : Snd P tb dr o ev hp d hp' := ⟨h, fun hd h => (by rw [hq hd] at h; cases h), hv, fun h => by rw [hl] at h; cases h⟩
theorem OpOk.pure {o : Oper} {ev : Operand → D} {hp : Hp} {d : D} (h : ∀ (B : Nat) (g : Gh) (w : World) (a : Act), HR B hp g w → (∀ x ∈ o.op.operands, RepD hp g w (ev x) (a.eval x)) → ∃ v, (execOp a.eval o).run P w = .ok (.value v) w ∧ RepD hp g w d v) : OpOk P o ev hp d hp := by
  intro B g w a Kn Q ht hr hx hk
  obtain ⟨v, hrun, hd⟩ := h B g w a hr hx
  unfold Oper.wp
  rw [hrun]
  exact hk v g w hr (Mono.refl _ _ _) hd (Below.refl _ _) fun _ _ h => h
theorem OpOk.step {o : Oper} {ev : Operand → D} {hp hp' : Hp} {d : D} (h : ∀ (B : Nat) (g : Gh) (w : World) (a : Act), HR B hp g w → (∀ x ∈ o.op.operands, RepD hp g w (ev x) (a.eval x)) → ∃ v g' w', (execOp a.eval o).run P w = .ok (.value v) w' ∧ HR B hp' g' w' ∧ Mono hp g w hp' g' w' ∧ RepD hp' g' w' d v ∧ Below B w w' ∧ ∀ p : Addr, p.block < B → g.F p → g'.F p) : OpOk P o ev hp d hp' := by
  intro B g w a Kn Q ht hr hx hk
  obtain ⟨v, g', w', hrun, h1, h2, h3, h4, h5⟩ := h B g w a hr hx
  unfold Oper.wp
  rw [hrun]
  exact hk v g' w' h1 h2 h3 h4 h5
theorem pureC_ex {d : D} (h : d.exC.pureC = true) : ∃ x, d.exC = D.e x ∧ ∀ (hp : Hp) (g : Gh) (w : World) (v : Value), RepD hp g w d v → RepE w g.F x v := by
  cases d with
  | e x => exact ⟨x, rfl, fun hp g w v hv => by cases hv; assumption⟩
  | own id z n xs => exact ⟨_, rfl, fun hp g w v hv => by cases hv; assumption⟩
  | fu z n xs => exact ⟨_, rfl, fun hp g w v hv => by cases hv; assumption⟩
  | _ => cases h
theorem RepD.xport {hp : Hp} {g : Gh} {w : World} {d : D} {v : Value} (h : RepD hp g w d v) (hp' : d.ex.pure = true) : PRep w g.F d.ex v := by
  cases h with
  | e x v h => exact .e x v h
  | own id z n xs v h hid ht => exact .e _ _ h
  | fu z n xs A h => exact .e _ _ h
  | ag ds cs hl h1 hr =>
    refine .ag _ cs (by simpa using hl) h1 (fun j d u hd hu => ?_)
    have hall : ∀ x ∈ ds.map D.exC, D.pureC x = true := by
      have : (ds.map D.exC).all D.pureC = true := hp'
      simpa only [List.all_eq_true] using this
    have hm := hall d (List.mem_of_getElem? hd)
    rw [List.getElem?_map] at hd
    cases hdj : ds[j]? with
    | none => simp [hdj] at hd
    | some d0 =>
      simp only [hdj, Option.map_some, Option.some.injEq] at hd
      subst hd
      obtain ⟨x, hx, hrep⟩ := pureC_ex hm
      rw [hx]
      exact .e x u (show RepE w g.F x u from hrep hp g w u (hr j d0 u hdj hu))
  | fp xs off ad hb hc => exact .fp xs off ad hb hc
  | tu ds cs hl hr => cases hp'
  | pt k off hk => cases hp'
  | ow k off z n c hk h1 h2 => cases hp'
  | gw k z n c hk h1 h2 hs => cases hp'
  | fn f ks hk => cases hp'
  | opt b d v hi h => cases hp'
  | top v => cases hp'
theorem PRep.to {w : World} {F : Addr → Prop} {d : D} {v : Value} (h : PRep w F d v) (hp : Hp) (g : Gh) (hg : g.F = F) : RepD hp g w d v := by
  subst hg
  unfold PRep at h
  generalize hh : (⟨[], [], 0⟩ : Hp) = h0 at h
  generalize hgg : (⟨fun _ => 0, fun _ => default, g.F⟩ : Gh) = g0 at h
  have hF : g0.F = g.F := by rw [← hgg]
  have hn : h0.next = 0 := by rw [← hh]
  induction h with
  | e x v h => exact .e x v (by rw [← hF]; exact h)
  | own id z n xs v h hid ht => omega
  | fu z n xs A h => exact .fu z n xs A (by rw [← hF]; exact h)
  | ag ds cs hl h1 hr ih => exact .ag ds cs hl h1 ih
  | tu ds cs hl hr ih => exact .tu ds cs hl ih
  | fp xs off ad hb hc => exact .fp xs off ad hb (by rw [← hF]; exact hc)
  | pt k off hk => omega
  | ow k off z n c hk h1 h2 => omega
  | gw k z n c hk h1 h2 hs => omega
  | fn f ks hk =>
    cases ks with
    | nil => exact .fn f [] (by simp)
    | cons k ks => have := hk k (by simp); omega
  | opt b d v hi h ih => exact .opt b d v (D.idsC_le (Nat.zero_le _) (by rw [← hn]; exact hi)) ih
  | top v => exact .top v
theorem callV_sound {hv : Bool} {f : FuncId} {args : List Operand} {ev : Operand → D} {hp : Hp} {k : D → Hp → Prop} {caps : List D} {cvs : Gh → List Value} (hcaps : ∀ (g : Gh) (w : World), Pw (RepD hp g w) caps (cvs g)) (h : callV P hv f (args.map ev ++ caps) hp k) :
    ∃ d hp', k d hp' ∧ (hv = false → Fr hp hp') ∧ FnOk P f ∧ ∀ (B : Nat) (g : Gh) (w : World) (ρ : Operand → Value), TT B w → HR B hp g w → (∀ x ∈ args, RepD hp g w (ev x) (ρ x)) →
      Calls P f (args.map ρ ++ cvs g).toArray w fun e w' => ∃ v g', e = .returned v ∧ HR B hp' g' w' ∧ Mono hp g w hp' g' w' ∧ RepD hp' g' w' d v ∧ Below B w w' ∧ ∀ p : Addr, p.block < B → g.F p → g'.F p := by
  have reps : ∀ (g : Gh) (w : World) (ρ : Operand → Value), (∀ x ∈ args, RepD hp g w (ev x) (ρ x)) → Pw (RepD hp g w) (args.map ev ++ caps) (args.map ρ ++ cvs g) := fun g w ρ hx => Pw.append ⟨by simp, fun j d u hd hu => by
    rw [List.getElem?_map] at hd hu
    cases ha : args[j]? with
    | none => simp [ha] at hd
    | some x =>
      simp only [ha, Option.map_some, Option.some.injEq] at hd hu
      subst hd; subst hu
      exact hx x (List.mem_of_getElem? ha)⟩ (hcaps g w)
  rcases h with h | ⟨rfl, d, hp', ⟨hfn, hcall⟩, hk⟩
  rotate_left
  · refine ⟨d, hp', hk, (fun h => by cases h), hfn, fun B g w ρ ht hr hx => ?_⟩
    have hpw := reps g w ρ hx
    exact hcall B g w _ ht hr (by simpa using hpw.1.symm) (fun j d u hd hu => hpw.2 j d u hd (by simpa using hu))
  obtain ⟨hpure, r, ⟨hfn, hcall⟩, hk⟩ := h
  have hargs : ∀ (B : Nat) (g : Gh) (w : World) (ρ : Operand → Value), TT B w → HR B hp g w → (∀ x ∈ args, RepD hp g w (ev x) (ρ x)) →
      Calls P f (args.map ρ ++ cvs g).toArray w fun e w' => ∃ v, e = .returned v ∧ PRes w.heap.size g.F w' r v ∧ Below w.heap.size w w' := by
    intro B g w ρ ht hr hx
    have hpw := reps g w ρ hx
    refine hcall w g.F _ (ht.up hr.base) hr.fits (by have := hpw.1; simpa using this.symm) (fun j d u hd hu => ?_)
    rw [List.getElem?_map] at hd
    cases ha : (args.map ev ++ caps)[j]? with
    | none => rw [ha] at hd; cases hd
    | some d0 =>
      rw [ha] at hd
      simp only [Option.map_some, Option.some.injEq] at hd
      subst hd
      refine (hpw.2 j d0 u ha (by simpa using hu)).xport ?_
      simp only [List.all_eq_true, List.mem_map] at hpure
      exact hpure _ ⟨d0, List.mem_of_getElem? ha, rfl⟩
  have plain : (∀ e z n xs, r ≠ .own e z n xs) → k r hp → ∃ d hp', k d hp' ∧ (hv = false → Fr hp hp') ∧ FnOk P f ∧ ∀ (B : Nat) (g : Gh) (w : World) (ρ : Operand → Value), TT B w → HR B hp g w → (∀ x ∈ args, RepD hp g w (ev x) (ρ x)) →
      Calls P f (args.map ρ ++ cvs g).toArray w fun e w' => ∃ v g', e = .returned v ∧ HR B hp' g' w' ∧ Mono hp g w hp' g' w' ∧ RepD hp' g' w' d v ∧ Below B w w' ∧ ∀ p : Addr, p.block < B → g.F p → g'.F p := by
    intro hno hk
    refine ⟨r, hp, hk, fun _ => Fr.refl _, hfn, fun B g w ρ ht hr hx => (hargs B g w ρ ht hr hx).mono ?_⟩
    rintro e w' ⟨v, rfl, hres, hb⟩
    have hres' : PRep w' g.F r v := by
      unfold PRes at hres
      split at hres
      · exact absurd rfl (hno _ _ _ _)
      · exact hres
    exact ⟨v, g, rfl, hr.keep hb.size hb.block, Mono.keep hp g hb.size hb.block, hres'.to hp g rfl, hb.mono hr.base, fun _ _ h => h⟩
  unfold adoptV at hk
  split at hk
  · rename_i e z n xs
    refine ⟨_, _, hk, fun _ => Fr.of ⟨rfl, Nat.le_succ _⟩, hfn, fun B g w ρ ht hr hx => (hargs B g w ρ ht hr hx).mono ?_⟩
    rintro e' w' ⟨v, rfl, ⟨hz, ⟨us, ho⟩, hrep⟩, hb⟩
    have hv : ∀ b, v.ownBlock = some b → w.heap.size ≤ b := fun b hb => (ho.lt b hb).1
    refine ⟨v, _, rfl, hr.newTok (e := (z, e)) hz hb.size hb.block hv (own_mono ho hr.base), Mono.tok hp g hb.size hb.block hv, ?_, hb.mono hr.base, fun p h1 h2 => Gh.tok_keep g _ (fun b hb => Nat.le_trans hr.base (hv b hb)) p h1 h2⟩
    refine .own _ _ _ _ _ (hrep.mono (Nat.le_refl _) (fun _ _ _ => rfl) (fun p _ hf => ?_)) (Nat.lt_succ_self _) (fun m e' hm => ?_)
    · rcases hf with hf | hf
      · exact .inl hf.1
      · exact .inr hf
    · rw [show (Hp.tok hp _ _).live.lookup _ = _ from lookup_cons_eq] at hm
      injection hm with hm
      injection hm with h1 h2
      subst h1; subst h2
      exact ⟨Nat.le_refl _, rfl, fun _ => (if_pos rfl).symm⟩
  · cases hk
  · rename_i h1 h2
    exact plain (fun e z n xs he => h1 e z n xs he) hk
theorem mem_ops_call {b : Callee} {args : Array Operand} {ts : Array TypeId} {x : Operand} (h : x ∈ args) : x ∈ (Op.call ⟨b, args, ts⟩).operands := by
  simp only [Op.operands, Call.operands]
  exact Array.mem_append.2 (.inr h)
theorem enter_wp {o : Oper} {a : Act} {w : World} {Kn : Act → World → Prop} {Q : Exit → Act → World → Prop} {f : FuncId} {args : Array Value} {R : Value → World → Prop} (h : (execOp a.eval o).run P w = .ok (.enter f args) w) (hc : Calls P f args w fun e w' => ∃ v, e = .returned v ∧ R v w')
    (hk : ∀ v w', R v w' → Kn (a.put o.dst v) w') : o.wp P a w Kn Q := by
  unfold Oper.wp
  rw [h, Oper.upon_enter]
  refine hc.mono ?_
  rintro e w' ⟨v, rfl, hr⟩
  exact hk v w' hr
theorem newsV_imp {t : TypeId} {z : Nat} {x : D} {k k' : Nat → List E → Prop} (h : newsV tb t z x k) (hi : ∀ m ys, k m ys → k' m ys) : newsV tb t z x k' := by
  unfold newsV at h ⊢
  split at h
  · split at h
    · exact ⟨h.1, hi _ _ h.2⟩
    · split at h
      · exact hi _ _ h
      · cases h
    · cases h
  · cases h
theorem appendV_vars {t t' : TypeId} {s x : D} {hp : Hp} {k : D → Hp → Prop} (h : appendV tb t t' s x hp k) : appendV tb t t' s x hp fun d h' => k d h' ∧ h'.vars = hp.vars ∧ hp.next ≤ h'.next := by
  unfold appendV at h ⊢
  split at h
  · split at h
    · split at h
      · obtain ⟨h1, h2, h3, h4⟩ := h
        refine ⟨h1, h2, h3, newsV_imp h4 fun m ys h => ?_⟩
        split at h
        · obtain ⟨h5, h6, h7, h8⟩ := h
          exact ⟨h5, h6, h7, h8, rfl, by first | exact Nat.le_refl _ | exact Nat.le_succ _⟩
        · obtain ⟨h5, h6⟩ := h
          exact ⟨h5, h6, rfl, by first | exact Nat.le_refl _ | exact Nat.le_succ _⟩
        · obtain ⟨h5, h6, h7, h8⟩ := h
          exact ⟨h5, h6, h7, h8, rfl, by first | exact Nat.le_refl _ | exact Nat.le_succ _⟩
        · cases h
      · cases h
    · cases h
  · cases h
theorem AVC.sound (tok : TOk P tb) {dr : Bool} {o : Oper} {ev : Operand → D} {hp : Hp} {k : D → Hp → Prop} (h : AVC P tb dr o.op o.type ev hp k) : ∃ d hp', k d hp' ∧ Snd P tb dr o ev hp d hp' := by
  obtain ⟨dst, op, ty, pos, af, gd⟩ := o
  unfold AVC at h
  dsimp only at h
  split at h
  · -- move
    rename_i x
    exact ⟨_, _, h, .calm fun hp2 _ => .pure fun B g w a hr hx => ⟨a.eval x, by simp [execOp], hx x (by simp [Op.operands])⟩⟩
  · -- assign
    rename_i x
    have gen : k (ev x) hp → ∃ d hp', k d hp' ∧ Snd P tb dr ⟨dst, .assign x, ty, pos, af, gd⟩ ev hp d hp' := fun h => ⟨_, _, h, .loud (.pure fun B g w a hr hx => ⟨a.eval x, by simp [execOp], hx x (by simp [Op.operands])⟩) (fun _ => rfl) fun _ => Fr.refl _⟩
    unfold asgV at h
    split at h
    · rename_i hd
      split at h
      · split at h
        · rename_i e hty
          split at h
          · rename_i j he
            obtain ⟨hz, h⟩ := h
            refine ⟨_, _, h, .loud (.step fun B g w a hr hx => ?_) (fun _ => rfl) fun _ => Fr.of ⟨rfl, Nat.le_succ _⟩⟩
            have hv := hx x (by simp [Op.operands])
            rw [hd] at hv
            have hv := hv.lit
            have ho := World.ownsRow_nil w B e j.size
            have hnb : ∀ b, (Value.slice none 0 0).ownBlock = some b → w.heap.size ≤ b := fun b hb => by cases hb
            refine ⟨.slice none 0 0, _, w, by simp [execOp, hv], hr.newTok (e := (j.size, e)) hz (Nat.le_refl _) (fun _ _ => rfl) hnb ho, Mono.tok hp g (Nat.le_refl _) (fun _ _ => rfl) hnb, ?_, Below.refl _ _, fun p h1 h2 => Gh.tok_keep g _ (fun b hb => by cases hb) p h1 h2⟩
            refine .own _ _ _ _ _ (.sl _ 0 [] none 0 (fun _ => undef) (by simp) hz (Nat.le_refl _) (by decide) (fun h => absurd h (by omega)) (fun _ h => by cases h) (fun _ _ h => by simp at h)) (Nat.lt_succ_self _) (fun m e' hm => ?_)
            rw [show (Hp.tok hp _ _).live.lookup _ = _ from lookup_cons_eq] at hm
            injection hm with hm
            injection hm with h1 h2
            subst h1; subst h2
            exact ⟨Nat.le_refl _, rfl, fun _ => (if_pos rfl).symm⟩
          · exact gen h
        · exact gen h
      · exact gen h
    · exact gen h
  · -- pick
    rename_i c x y
    unfold pickV at h
    split at h
    · rename_i hc
      refine ⟨_, _, h, .calm fun hp2 _ => .pure fun B g w a hr hx => ⟨a.eval x, ?_, hx x (by simp [Op.operands])⟩⟩
      have := hx c (by simp [Op.operands])
      rw [hc] at this
      simp [execOp, this.lit, asBool]
    · rename_i hc
      refine ⟨_, _, h, .calm fun hp2 _ => .pure fun B g w a hr hx => ⟨a.eval y, ?_, hx y (by simp [Op.operands])⟩⟩
      have := hx c (by simp [Op.operands])
      rw [hc] at this
      simp [execOp, this.lit, asBool]
    · cases h
  · -- alloc
    rename_i t
    split at h
    · rename_i i ht
      refine ⟨_, _, h, .loud (.step fun B g w a hr hx => ?_) (fun _ => rfl) fun _ => ⟨Nat.le_succ _, fun j hj => lookup_cons_ne (by omega)⟩⟩
      obtain ⟨z, hz, hzc⟩ := tok.run_zero ht w
      have hcs := Cells.lits (hp := hp) (g := g) (w := w) i.zero (tok t i ht).2.2.2
      refine ⟨.pointer (some ⟨w.heap.size, 0, none⟩), _, w.alloc (.cells z.cells t), ?_, hr.newVar _ z.cells t (by rw [← Array.length_toList, hzc]; simp) (fun j u hu => ?_), Mono.var hp g w _ _, ?_, (Below.refl _ _).alloc hr.base _, fun p _ h => .inl h⟩
      · simp only [execOp, Instr.alloc, Sem.run_bind, hz, Result.andThen_ok]
        rfl
      · have hu' : i.zero[j]? = some u := by rw [← hzc]; simpa using hu
        exact ⟨fun _ => hcs.2 u (List.mem_of_getElem? hu'), fun d hd => hcs.1.2 j d u hd hu'⟩
      · have := RepD.pt (hp := hp.var (i.zero.map fun v => .e (.lit v))) (g := g.var hp.next w.heap.size) (w := w.alloc (.cells z.cells t)) hp.next 0 (Nat.lt_succ_self _)
        rwa [show (g.var hp.next w.heap.size).μ hp.next = w.heap.size from if_pos rfl] at this
    · cases h
  · -- box
    rename_i t x
    split at h
    · rename_i cs hc
      refine ⟨_, _, h, .loud (.step fun B g w a hr hx => ?_) (fun _ => rfl) fun h => by cases h⟩
      have hcs := (hx x (by simp [Op.operands])).cells hc
      refine ⟨.pointer (some ⟨w.heap.size, 0, none⟩), _, w.alloc (.cells (a.eval x).cells t), ?_, hr.newVar _ _ t (by rw [← Array.length_toList, hcs.1.1]; exact Nat.le_refl _) (fun j u hu => ?_), Mono.var hp g w _ _, ?_, (Below.refl _ _).alloc hr.base _, fun p _ h => .inl h⟩
      · rfl
      · have hu' : (a.eval x).cells.toList[j]? = some u := by simpa using hu
        exact ⟨fun _ => hcs.2 u (List.mem_of_getElem? hu'), fun d hd => hcs.1.2 j d u hd hu'⟩
      · have := RepD.pt (hp := hp.var cs) (g := g.var hp.next w.heap.size) (w := w.alloc (.cells (a.eval x).cells t)) hp.next 0 (Nat.lt_succ_self _)
        rwa [show (g.var hp.next w.heap.size).μ hp.next = w.heap.size from if_pos rfl] at this
    · cases h
  · -- build
    rename_i t ps
    obtain ⟨d', hk, hs⟩ := buildV_sound tok h
    refine ⟨_, _, hk, .calm fun hp2 hvv => .pure fun B g w a hr hx => ?_⟩
    obtain ⟨v, hrun, hd⟩ := hs hp2 g w a.eval (fun p hp => hx _ (by simp only [Op.operands, List.mem_toArray, List.mem_map]; exact ⟨p, hp, rfl⟩))
    refine ⟨v, ?_, hd⟩
    have hps : (ps.map fun (x : Nat × Operand) => (x.1, a.eval x.2)) = (ps.toList.map fun p => (p.1, a.eval p.2)).toArray := by
      apply Array.toList_inj.1; simp
    simp only [execOp, Sem.run_bind]
    rw [hps, hrun]
    rfl
  · -- buildSlice
    rename_i t n ps
    have hps : (ps.map fun (x : Nat × Operand) => (x.1, ev x.2)) = (ps.toList.map fun p => (p.1, ev p.2)).toArray := by
      apply Array.toList_inj.1; simp
    have step : ∀ {hp1 hp1' : Hp} {d' : D}, (∀ (B : Nat) (g : Gh) (w : World) (ρ : Operand → Value), HR B hp1 g w → (∀ p ∈ ps.toList, RepD hp1 g w (ev p.2) (ρ p.2)) →
        ∃ v g' w', (Instr.buildSlice t n (ps.toList.map fun p => (p.1, ρ p.2)).toArray).run P w = .ok v w' ∧ HR B hp1' g' w' ∧ Mono hp1 g w hp1' g' w' ∧ RepD hp1' g' w' d' v ∧ Below B w w' ∧ ∀ p : Addr, p.block < B → g.F p → g'.F p) →
        OpOk P ⟨dst, .buildSlice t n ps, ty, pos, af, gd⟩ ev hp1 d' hp1' := by
      intro hp1 hp1' d' hs
      refine .step fun B g w a hr hx => ?_
      obtain ⟨v, g', w', hrun, h1⟩ := hs B g w a.eval hr (fun p hp => hx _ (by simp only [Op.operands, List.mem_toArray, List.mem_map]; exact ⟨p, hp, rfl⟩))
      refine ⟨v, g', w', ?_, h1⟩
      have hps : (ps.map fun (x : Nat × Operand) => (x.1, a.eval x.2)) = (ps.toList.map fun p => (p.1, a.eval p.2)).toArray := by
        apply Array.toList_inj.1; simp
      simp only [execOp, Sem.run_bind]
      rw [hps, hrun]
      rfl
    by_cases hn : n = 0
    · subst hn
      obtain ⟨d', hp', hk, hs⟩ := buildSliceV_sound tok (buildSliceV_vars h)
      exact ⟨_, _, hk.1, .loud (step hs) (fun _ => rfl) fun _ => Fr.of hk.2⟩
    · cases dr with
      | false =>
        obtain ⟨d', hp', hk, hs⟩ := buildSliceV_sound tok (buildSliceV_vars h)
        exact ⟨_, _, hk.1, .loud (step hs) (fun h => by cases h) fun _ => Fr.of hk.2⟩
      | true =>
      obtain ⟨d, hk, hall⟩ := buildSliceV_indep hn h
      refine ⟨_, _, hk, .calm fun hp2 _ => ?_⟩
      obtain ⟨d', hp', ⟨rfl, rfl⟩, hs⟩ := buildSliceV_sound tok (hall hp2)
      exact step hs
  · -- load
    rename_i t x
    obtain ⟨d', hk, hlt, hs⟩ := loadV_sound tok h
    have hun : ∀ j off, (ev x).un = .pt j off → ev x = .pt j off := by
      intro j off e
      cases hd : ev x with
      | opt b d => rw [hd] at h; cases h
      | _ => rw [hd] at e; first | exact e | cases e
    refine ⟨_, _, hk, .calmL (fun _ y hy j off e => hlt j off (hun j off (by rw [show y = x by simpa [Op.operands] using hy] at e; exact e))) fun hp2 hvv => .pure fun B g w a hr hx => ?_⟩
    obtain ⟨v, hrun, hd⟩ := hs hp2 B g w _ (fun j off e => hvv rfl x (by simp [Op.operands]) j off (by rw [e]; rfl)) hr (hx x (by simp [Op.operands]))
    exact ⟨v, by simp [execOp, hrun], hd⟩
  · -- store
    rename_i t x y
    obtain ⟨hp', hk, hs⟩ := storeV_sound tok h
    refine ⟨_, _, hk, .loud (fun B g w a Kn Q ht hr hx hkn => ?_) (fun _ => rfl) fun h => by cases h⟩
    obtain ⟨w', hrun, h1, h2, h3⟩ := hs B g w _ _ hr (hx x (by simp [Op.operands])) (hx y (by simp [Op.operands]))
    unfold Oper.wp
    have : (execOp a.eval ⟨dst, .store t x y, ty, pos, af, gd⟩).run P w = .ok .skip w' := by simp [execOp, hrun]
    rw [this]
    exact hkn undef g w' h1 h2 (.top _) h3 fun _ _ h => h
  · -- binOp
    rename_i op t x y yt
    obtain ⟨r, hk, h1, hs⟩ := binV_sound h
    refine ⟨_, _, hk, .calm fun hp2 hvv => .pure fun B g w a hr hx => ⟨r, ?_, .e _ _ (.lit r h1)⟩⟩
    have := hs hp2 g w a.eval (hx x (by simp [Op.operands])) (hx y (by simp [Op.operands]))
    simp only [execOp, Sem.run_bind] at this ⊢
    rw [this]
    rfl
  · -- unOp
    rename_i op t x
    obtain ⟨r, hk, h1, hs⟩ := unV_sound (P := P) h
    refine ⟨_, _, hk, .calm fun hp2 hvv => .pure fun B g w a hr hx => ⟨r, ?_, .e _ _ (.lit r h1)⟩⟩
    have := hs hp2 g w _ (hx x (by simp [Op.operands]))
    simp [execOp, this]
  · -- convert
    rename_i s t x
    obtain ⟨d', hk, hs⟩ := convV_sound tok h
    refine ⟨_, _, hk, .calm fun hp2 hvv => .pure fun B g w a hr hx => ?_⟩
    obtain ⟨v, hrun, hd⟩ := hs hp2 g w _ (hx x (by simp [Op.operands]))
    exact ⟨v, by simp [execOp, hrun], hd⟩
  · -- slice
    rename_i t x lo hi mx
    obtain ⟨d', hk, hs⟩ := sliceV_sound tok h
    refine ⟨_, _, hk, .calm fun hp2 hvv => .pure fun B g w a hr hx => ?_⟩
    obtain ⟨v, hrun, hd⟩ := hs hp2 g w a.eval (hx x (by simp [Op.operands])) (fun y hy => hx y (by
      simp only [Op.operands, Array.mem_append]
      rcases hy with rfl | rfl | rfl
      · exact .inl (.inl (.inr (by simp)))
      · exact .inl (.inr (by simp))
      · exact .inr (by simp)))
    exact ⟨v, by simp [execOp, hrun], hd⟩
  · -- fieldAddr
    rename_i s x f
    obtain ⟨d', hk, hs⟩ := fieldAddrV_sound tok h
    refine ⟨_, _, hk, .calm fun hp2 hvv => .pure fun B g w a hr hx => ?_⟩
    obtain ⟨v, hrun, hd⟩ := hs hp2 g w _ (hx x (by simp [Op.operands]))
    exact ⟨v, by simp [execOp, hrun], hd⟩
  · -- field
    rename_i s x f
    obtain ⟨d', hk, hs⟩ := fieldV_sound tok h
    refine ⟨_, _, hk, .calm fun hp2 hvv => .pure fun B g w a hr hx => ?_⟩
    obtain ⟨v, hrun, hd⟩ := hs hp2 g w _ (hx x (by simp [Op.operands]))
    exact ⟨v, by simp [execOp, hrun], hd⟩
  · -- indexAddr
    rename_i t x i
    obtain ⟨d', hk, hs⟩ := indexAddrV_sound tok h
    refine ⟨_, _, hk, .calm fun hp2 hvv => .pure fun B g w a hr hx => ?_⟩
    obtain ⟨v, hrun, hd⟩ := hs hp2 g w _ _ (hx x (by simp [Op.operands])) (hx i (by simp [Op.operands]))
    exact ⟨v, by simp [execOp, hrun], hd⟩
  · -- index
    rename_i t x i
    obtain ⟨d', hk, hs⟩ := indexV_sound tok h
    refine ⟨_, _, hk, .calm fun hp2 hvv => .pure fun B g w a hr hx => ?_⟩
    obtain ⟨v, hrun, hd⟩ := hs hp2 g w _ _ (hx x (by simp [Op.operands])) (hx i (by simp [Op.operands]))
    exact ⟨v, by simp [execOp, hrun], hd⟩
  · -- extract
    rename_i x i
    split at h
    · rename_i ds hd
      obtain ⟨d', hdi, hk⟩ := h
      refine ⟨_, _, hk, .calm fun hp2 hvv => .pure fun B g w a hr hx => ?_⟩
      have hv := hx x (by simp [Op.operands])
      rw [hd] at hv
      generalize hu : a.eval x = u at hv
      cases hv with
      | tu _ cs hl hrr =>
        have hlt : i < cs.size := by
          rw [hl]
          rcases Nat.lt_or_ge i ds.length with hh | hh
          · exact hh
          · rw [List.getElem?_eq_none hh] at hdi; cases hdi
        refine ⟨cs[i], by simp [execOp, hu, Instr.extract, hlt], hrr i d' _ hdi (Array.getElem?_eq_getElem hlt)⟩
    · cases h
  · -- call
    rename_i c
    obtain ⟨callee, args, ts⟩ := c
    dsimp only at h
    split at h
    · rename_i b
      unfold builtinV at h
      split at h
      · -- len
        rename_i t d hts hds
        obtain ⟨n, hk, hs⟩ := lenV_sound (P := P) tok h
        refine ⟨_, _, hk, .calm fun hp2 hvv => .pure fun B g w a hr hx => ?_⟩
        obtain ⟨x, rfl, rfl⟩ : ∃ x, args = #[x] ∧ ev x = d := by
          rcases args with ⟨_ | ⟨x, _ | ⟨y, l⟩⟩⟩ <;> simp at hds
          exact ⟨x, rfl, hds⟩
        obtain rfl : ts = #[t] := by
          apply Array.toList_inj.1; simpa using hts
        have := hs hp2 g w ty _ (hx x (mem_ops_call (by simp)))
        refine ⟨.int .i64 n, ?_, .e _ _ (.lit _ rfl)⟩
        simp [execOp, resolve, invoke, builtin, this]
      · -- min
        rename_i j m j' m' hds
        obtain ⟨x, y, rfl, h1, h2⟩ : ∃ x y, args = #[x, y] ∧ ev x = .e (.lit (.int j m)) ∧ ev y = .e (.lit (.int j' m')) := by
          rcases args with ⟨_ | ⟨x, _ | ⟨y, _ | ⟨z, l⟩⟩⟩⟩ <;> simp at hds
          exact ⟨x, y, rfl, hds⟩
        refine ⟨_, _, h, .calm fun hp2 _ => .pure fun B g w a hr hx => ?_⟩
        have e1 := hx x (mem_ops_call (by simp))
        have e2 := hx y (mem_ops_call (by simp))
        rw [h1] at e1
        rw [h2] at e2
        refine ⟨.int j (min m m'), ?_, .e _ _ (.lit _ rfl)⟩
        have hmin : (if m' < m then m' else m) = min m m' := by
          rw [Int.min_def]; split <;> split <;> omega
        simp [execOp, resolve, invoke, builtin, e1.lit, e2.lit, Builtin.min_, Builtin.min2, hmin]
      · -- max
        rename_i j m j' m' hds
        obtain ⟨x, y, rfl, h1, h2⟩ : ∃ x y, args = #[x, y] ∧ ev x = .e (.lit (.int j m)) ∧ ev y = .e (.lit (.int j' m')) := by
          rcases args with ⟨_ | ⟨x, _ | ⟨y, _ | ⟨z, l⟩⟩⟩⟩ <;> simp at hds
          exact ⟨x, y, rfl, hds⟩
        refine ⟨_, _, h, .calm fun hp2 _ => .pure fun B g w a hr hx => ?_⟩
        have e1 := hx x (mem_ops_call (by simp))
        have e2 := hx y (mem_ops_call (by simp))
        rw [h1] at e1
        rw [h2] at e2
        refine ⟨.int j (max m m'), ?_, .e _ _ (.lit _ rfl)⟩
        have hmax : (if m < m' then m' else m) = max m m' := by
          rw [Int.max_def]; split <;> split <;> omega
        simp [execOp, resolve, invoke, builtin, e1.lit, e2.lit, Builtin.max_, Builtin.max2, hmax]
      · -- append
        rename_i t t' s x hts hds
        have h := appendV_vars h
        obtain ⟨d', hp', hk, hs⟩ := appendV_sound tok h
        refine ⟨_, _, hk.1, .loud (.step fun B g w a hr hx => ?_) (fun _ => rfl) fun _ => Fr.of hk.2⟩
        obtain ⟨o1, o2, rfl, rfl, rfl⟩ : ∃ o1 o2, args = #[o1, o2] ∧ ev o1 = s ∧ ev o2 = x := by
          rcases args with ⟨_ | ⟨x, _ | ⟨y, _ | ⟨z, l⟩⟩⟩⟩ <;> simp at hds
          exact ⟨x, y, rfl, hds⟩
        obtain rfl : ts = #[t, t'] := by
          apply Array.toList_inj.1; simpa using hts
        obtain ⟨r, g', w', hrun, h1⟩ := hs B g w ty _ _ hr (hx o1 (mem_ops_call (by simp))) (hx o2 (mem_ops_call (by simp)))
        refine ⟨r, g', w', ?_, h1⟩
        simp [execOp, resolve, invoke, builtin, hrun]
      · cases h
    · rename_i x
      -- what is called, with what it has captured
      have enter : ∀ {f : FuncId} {caps : List D} {cvs : Gh → List Value}, (∀ (g : Gh) (w : World), Pw (RepD hp g w) caps (cvs g)) → callV P (hvB tb ⟨.value x, args, ts⟩) f (args.toList.map ev ++ caps) hp k →
          (∀ (g : Gh) (w : World) (u : Value), RepD hp g w (ev x) u → u = .func (.func f) #[] (cvs g).toArray) → ∃ d hp', k d hp' ∧ Snd P tb dr ⟨dst, .call ⟨.value x, args, ts⟩, ty, pos, af, gd⟩ ev hp d hp' := by
        intro f caps cvs hcaps h hfv
        obtain ⟨d, hp', hk, hvars, ⟨fn, hf, hn, hbody⟩, hc⟩ := callV_sound hcaps h
        refine ⟨_, _, hk, .loud (fun B g w a Kn Q ht hr hx hkn => ?_) (fun _ => rfl) fun h => hvars (hvOf h)⟩
        have hv := hfv g w _ (hx x (by simp [Op.operands, Call.operands]))
        have hcall := hc B g w a.eval ht hr (fun y hy => hx y (mem_ops_call (by simpa using hy)))
        have hargs : (args.map a.eval ++ (cvs g).toArray) = (args.toList.map a.eval ++ cvs g).toArray := by apply Array.toList_inj.1; simp
        refine enter_wp (R := fun v w' => ∃ g', HR B hp' g' w' ∧ Mono hp g w hp' g' w' ∧ RepD hp' g' w' d v ∧ Below B w w' ∧ ∀ p : Addr, p.block < B → g.F p → g'.F p) ?_ (hcall.mono ?_) ?_
        · have hn' : fn.name ≠ "runtime.NumGoroutine" := by simpa using hn
          have hb' : ¬ fn.body = none := fun e => by rw [e] at hbody; cases hbody
          have hcf : (callFunc f (args.toList.map a.eval ++ cvs g).toArray).run P w = .ok (.enter f (args.toList.map a.eval ++ cvs g).toArray) w := by
            simp [callFunc, hf, hn', hb']
          rw [← hcf, ← hargs]
          simp [execOp, resolve, invoke, Deferred.ofValue, hv]
        · rintro e w' ⟨v, g', rfl, h1⟩
          exact ⟨v, rfl, g', h1⟩
        · rintro v w' ⟨g', h1, h2, h3, h4, h5⟩
          exact hkn v g' w' h1 h2 h3 h4 h5
      unfold calleeV at h
      split at h
      · rename_i f fi ca hx0
        obtain ⟨hfi, hca, h⟩ := h
        obtain rfl := Array.eq_empty_of_size_eq_zero hfi
        obtain rfl := Array.eq_empty_of_size_eq_zero hca
        refine enter (caps := []) (cvs := fun _ => []) (fun _ _ => Pw.nil) (by simpa using h) (fun g w u hu => ?_)
        rw [hx0] at hu
        exact hu.lit
      · rename_i f ks hx0
        have hks : ∀ (g : Gh) (w : World) (u : Value), RepD hp g w (.fn f ks) u → (∀ k ∈ ks, k < hp.next) ∧ u = .func (.func f) #[] (ks.map fun k => Value.pointer (some ⟨g.μ k, 0, none⟩)).toArray := by
          intro g w u hu
          cases hu with
          | fn _ _ hk => exact ⟨hk, rfl⟩
        by_cases hk : ∀ k ∈ ks, k < hp.next
        · refine enter (caps := ks.map fun k => .pt k 0) (cvs := fun g => ks.map fun k => Value.pointer (some ⟨g.μ k, 0, none⟩)) (fun g w => ⟨by simp, fun j d u hd hu => ?_⟩) h (fun g w u hu => ?_)
          · rw [List.getElem?_map] at hd hu
            cases hj : ks[j]? with
            | none => simp [hj] at hd
            | some kk =>
              simp only [hj, Option.map_some, Option.some.injEq] at hd hu
              subst hd; subst hu
              exact .pt kk 0 (hk kk (List.mem_of_getElem? hj))
          · rw [hx0] at hu
            exact (hks g w u hu).2
        · -- such a value stands for nothing
          rcases h with ⟨hpure, _⟩ | ⟨hvt, d, hp', _, hkk⟩
          · exfalso
            apply hk
            intro k hkm
            rw [List.map_append, List.all_append, Bool.and_eq_true] at hpure
            have := hpure.2
            simp only [List.all_eq_true, List.mem_map] at this
            have := this (D.pt k 0).ex ⟨.pt k 0, ⟨k, hkm, rfl⟩, rfl⟩
            cases this
          refine ⟨d, hp', hkk, .loud (fun B g w a Kn Q ht hr hx hkn => ?_) (fun _ => rfl) fun h => ?_⟩
          rotate_left
          · have h' : hvB tb ⟨.value x, args, ts⟩ = false := hvOf h
            rw [hvt] at h'; cases h'
          have := hx x (by simp [Op.operands, Call.operands])
          rw [hx0] at this
          exact absurd (hks g w _ this).1 hk
      · cases h
    · cases h
  · -- nilCheck
    rename_i x
    unfold nilV at h
    split at h
    · rename_i j off hx0
      refine ⟨_, _, h, .calm fun hp2 _ => .pure fun B g w a hr hx => ⟨a.eval x, ?_, ?_⟩⟩
      · have hv := hx x (by simp [Op.operands])
        rw [hx0] at hv
        generalize hu : a.eval x = u at hv
        cases hv
        simp [execOp, hu]
      · have hv := hx x (by simp [Op.operands])
        rwa [hx0] at hv
    · rename_i xs off hx0
      refine ⟨_, _, h, .calm fun hp2 _ => .pure fun B g w a hr hx => ⟨a.eval x, ?_, ?_⟩⟩
      · have hv := hx x (by simp [Op.operands])
        rw [hx0] at hv
        generalize hu : a.eval x = u at hv
        cases hv
        simp [execOp, hu]
      · have hv := hx x (by simp [Op.operands])
        rwa [hx0] at hv
    · cases h
  · -- makeFunc
    rename_i fn first cs
    unfold makeFuncV at h
    split at h
    · rename_i f
      obtain ⟨hfirst, h⟩ := h
      obtain rfl := Array.eq_empty_of_size_eq_zero hfirst
      split at h
      · rename_i hcs
        have hce : cs = #[] := by
          apply Array.toList_inj.1
          simpa using hcs
        subst hce
        exact ⟨_, _, h, .calm fun hp2 _ => .pure fun B g w a hr hx => ⟨_, by simp [execOp, Instr.makeFunc], .e _ _ (.lit _ rfl)⟩⟩
      · split at h
        · rename_i ks hks
          refine ⟨_, _, h, .calm fun hp2 _ => .pure fun B g w a hr hx => ?_⟩
          have caps : ∀ (l : List Operand) (ks : List Nat), capsV (l.map ev) = some ks → (∀ y ∈ l, RepD hp2 g w (ev y) (a.eval y)) → l.map a.eval = (ks.map fun k => Value.pointer (some ⟨g.μ k, 0, none⟩)) ∧ ∀ k ∈ ks, k < hp2.next := by
            intro l
            induction l with
            | nil =>
              intro ks h _
              simp only [List.map_nil, capsV, Option.some.injEq] at h
              subst h
              exact ⟨rfl, by simp⟩
            | cons y l ih =>
              intro ks h hy
              simp only [List.map_cons] at h
              unfold capsV at h
              split at h
              · rename_i heq; cases heq
              · rename_i k ds heq
                injection heq with e1 e2
                subst e2
                cases hl : capsV (l.map ev) with
                | none => simp [hl] at h
                | some ks' =>
                  simp only [hl, Option.map_some, Option.some.injEq] at h
                  subst h
                  obtain ⟨h1, h2⟩ := ih ks' hl (fun z hz => hy z (List.mem_cons_of_mem _ hz))
                  have hv := hy y (List.mem_cons_self ..)
                  rw [e1] at hv
                  generalize hu : a.eval y = u at hv
                  cases hv with
                  | pt _ _ hk =>
                    refine ⟨by simp [hu, h1], fun k' hk' => ?_⟩
                    rcases List.mem_cons.1 hk' with rfl | hk'
                    · exact hk
                    · exact h2 k' hk'
              · cases h
          obtain ⟨h1, h2⟩ := caps cs.toList ks hks (fun y hy => hx y (by
            simp only [Op.operands]
            exact Array.mem_append.2 (.inr (by simpa using hy))))
          refine ⟨_, ?_, .fn f ks h2⟩
          have : cs.map a.eval = (ks.map fun k => Value.pointer (some ⟨g.μ k, 0, none⟩)).toArray := by
            apply Array.toList_inj.1
            simpa using h1
          simp [execOp, Instr.makeFunc, this]
        · cases h
    · cases h
  · cases h
end
end
end Go.Proofs.YtakbadleipbngaaDoor
