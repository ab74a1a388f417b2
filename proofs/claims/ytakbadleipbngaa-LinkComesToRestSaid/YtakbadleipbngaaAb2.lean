/-
  The abstract layer: append. Conditions: none.
-/
import Derived.Test.YtakbadleipbngaaAb1
set_option linter.all false
namespace Go.Proofs.Ytakbadleipbngaa
open Go.RowKit
section
variable {P : Program}
/-- What append leaves: nothing to do; the row written in place; or a new row. -/
inductive Appd (w : World) (v : Value) (m : Nat) (w' : World) (v' : Value) : Prop
  | same (h0 : m = 0) (hw : w' = w) (hv : v' = v)
  | place (b : Nat) (h0 : 0 < m) (hv : v.ownBlock = some b) (hv' : v'.ownBlock = some b) (hg : w.grownBy w' (some b)) (hs : w'.heap.size = w.heap.size)
  | fresh (h0 : 0 < m) (hg : w.grownBy w' none) (hv' : v'.ownBlock = some w.heap.size)
theorem run_append_law (w : World) (base : Nat) (t ty e : TypeId) (i : TypeInfo) (z : Value) (size bytes : Nat) (ht : P.underlying t = some (.slice e)) (hi : P.info? e = some i) (hz : i.zero = some z)
    (hsize : i.size = size) (hby : i.bytes = bytes) (hzs : z.cells.size = size) (hsz : 0 < size)
    (v : Value) (n : Nat) (xs : List Value) (hown : w.ownsRow base e size v n xs)
    (A : Option Addr) (m c : Nat) (news : List Value) (hl : news.length = m * size) (hA : 0 < m → ∃ a, A = some a) (hnews : ∀ a, A = some a → ∀ j u, news[j]? = some u → w.cell? (a.add j) = some u) (h1 : ∀ u ∈ news, u.oneCell' = true)
    (h63 : n + m ≤ maxLen) (hbytes : (n + m) * bytes ≤ 140737488355328) (hbase : base ≤ w.heap.size) :
    ∃ v' w', (Builtin.append_ #[t, t] ty #[v, .slice A m c]).run P w = .ok v' w' ∧ w'.ownsRow base e size v' (n + m) (xs ++ news) ∧ Appd w v m w' v' := by
  subst hsize
  subst hby
  have hsmall : n + m ≤ 9223372036854775807 := by simp only [maxLen] at h63; omega
  have hlen : (xs ++ news).length = (n + m) * i.size := by rw [List.length_append, hown.1, hl, Nat.add_mul]
  by_cases hm : m = 0
  · subst hm
    have hn : news = [] := List.eq_nil_of_length_eq_zero (by simpa using hl)
    subst hn
    refine ⟨v, w, ?_, by simpa using hown, .same rfl rfl rfl⟩
    rcases hown.2 with ⟨rfl, rfl⟩ | ⟨g, cap, cur, rfl, hbg, hg, hnc, hcm, hcs, htake⟩
    · cases A <;> simp [Builtin.append_, run_underlying ht, sizeOf, typeInfo, hi, Builtin.lenOf, Builtin.firstCells, loadCells, loadCellsFrom]
    · cases A <;> simp [Builtin.append_, run_underlying ht, sizeOf, typeInfo, hi, Builtin.lenOf, Builtin.firstCells, loadCells, loadCellsFrom, hnc, storeCells]
  · have hmp : 0 < m := by omega
    obtain ⟨a, rfl⟩ := hA hmp
    have hcell := hnews a rfl
    have grown : ∀ (old : Nat), old < n + m →
        (w.drew.alloc (.cells (xs.toArray ++ news.toArray ++ Builtin.zeroCells z.cells (grownCap w (n + m) old e - (n + m))) e)).ownsRow base e i.size
          (.slice (some ⟨w.heap.size, 0, none⟩) (n + m) (grownCap w (n + m) old e)) (n + m) (xs ++ news) ∧
        w.grownBy (w.drew.alloc (.cells (xs.toArray ++ news.toArray ++ Builtin.zeroCells z.cells (grownCap w (n + m) old e - (n + m))) e)) none := by
      intro old ho
      have hge := grownCap_ge w (n + m) old e
      have hcm : grownCap w (n + m) old e ≤ maxLen := grownCap_le_maxLen w (n + m) old e h63
      refine ⟨⟨hlen, .inr ⟨w.heap.size, _, _, rfl, hbase, heap_alloc_new w.drew _, hge, hcm, ?_, ?_⟩⟩, ⟨rfl, rfl, rfl, by simp, fun k hk _ => heap_alloc_old w.drew _ hk⟩⟩
      · simp only [Array.size_append, List.size_toArray, size_zeroCells, hzs, hown.1, hl, ← Nat.add_mul]
        congr 1
        omega
      · simp only [Array.toList_append, List.append_assoc]
        rw [← List.append_assoc, ← hlen]
        exact List.take_left
    rcases hown.2 with ⟨rfl, rfl⟩ | ⟨g, cap, cur, rfl, hbg, hg, hnc, hcm, hcs, htake⟩
    · have hx : xs = [] := List.eq_nil_of_length_eq_zero (by simpa using hown.1)
      subst hx
      have hr := run_append_nil (P := P) w t ty e i z ht hi hz a m c news hl hcell (by omega) (by omega) (by have hb := hbytes; simp only [Nat.zero_add] at hb; omega)
      have hgr := grown 0 (by omega)
      simp only [Nat.zero_add, List.nil_append, Array.empty_append] at hgr ⊢
      exact ⟨_, _, hr, hgr.1, .fresh hmp hgr.2 rfl⟩
    · by_cases hroom : n + m ≤ cap
      · have hfit : n * i.size + news.length ≤ cur.size := by rw [hl, hcs, ← Nat.add_mul]; exact Nat.mul_le_mul_right _ hroom
        have hr := run_append_room (P := P) w t ty e i ht hi g n cap cur hg a m c news hl hcell h1 hroom hfit
        refine ⟨_, _, hr, ⟨hlen, .inr ⟨g, cap, _, rfl, hbg, setRow_heap w g cur _ e _ hg, hroom, hcm, ?_, ?_⟩⟩, .place g hmp rfl rfl ⟨rfl, rfl, rfl, by simp, fun k _ hk => setRow_other w g k _ (fun e => hk (by rw [e]))⟩ (by simp)⟩
        · simp only [List.size_toArray, List.length_append, List.length_take, List.length_drop, Array.length_toList]
          omega
        · rw [htake, ← hlen]
          exact List.take_left
      · have holds : ∀ j u, xs[j]? = some u → w.cell? ((⟨g, 0, none⟩ : Addr).add j) = some u := hown.cells (g := g) rfl
        have hr := run_append_grow (P := P) w t ty e i z ht hi hz ⟨g, 0, none⟩ n cap xs hown.1 holds a m c news hl hcell (by omega) (by omega) (growslice_fits (by omega) hbytes)
        have hgr := grown cap (by omega)
        exact ⟨_, _, hr, hgr.1, .fresh hmp hgr.2 rfl⟩
theorem run_append_str_law (w : World) (base : Nat) (t u ty e : TypeId) (i : TypeInfo) (ht : P.underlying t = some (.slice e)) (hu : P.underlying u = some .string) (hi : P.info? e = some i) (hz : i.zero = some (.int .u8 0))
    (hsize : i.size = 1) (hby : i.bytes = 1) (v : Value) (n : Nat) (xs : List Value) (hown : w.ownsRow base e 1 v n xs) (s : ByteArray)
    (h63 : n + s.size ≤ maxLen) (hbytes : n + s.size ≤ 140737488355328) (hbase : base ≤ w.heap.size) :
    ∃ v' w', (Builtin.append_ #[t, u] ty #[v, .string s]).run P w = .ok v' w' ∧ w'.ownsRow base e 1 v' (n + s.size) (xs ++ Lib.strCells s) ∧ Appd w v s.size w' v' := by
  have hsmall : n + s.size ≤ 9223372036854775807 := by simp only [maxLen] at h63; omega
  have hxl : xs.length = n := by simpa using hown.1
  have hlen : (xs ++ Lib.strCells s).length = (n + s.size) * 1 := by rw [List.length_append, hxl, Lib.strCells_length, Nat.mul_one]
  have grown : ∀ (old : Nat), old < n + s.size →
      (w.drew.alloc (.cells (xs.toArray ++ (Lib.strCells s).toArray ++ Builtin.zeroCells (Value.int .u8 0).cells (grownCap w (n + s.size) old e - (n + s.size))) e)).ownsRow base e 1
        (.slice (some ⟨w.heap.size, 0, none⟩) (n + s.size) (grownCap w (n + s.size) old e)) (n + s.size) (xs ++ Lib.strCells s) ∧
      w.grownBy (w.drew.alloc (.cells (xs.toArray ++ (Lib.strCells s).toArray ++ Builtin.zeroCells (Value.int .u8 0).cells (grownCap w (n + s.size) old e - (n + s.size))) e)) none := by
    intro old ho
    have hge := grownCap_ge w (n + s.size) old e
    have hcm : grownCap w (n + s.size) old e ≤ maxLen := grownCap_le_maxLen w (n + s.size) old e h63
    refine ⟨⟨hlen, .inr ⟨w.heap.size, _, _, rfl, hbase, heap_alloc_new w.drew _, hge, hcm, ?_, ?_⟩⟩, ⟨rfl, rfl, rfl, by simp, fun k hk _ => heap_alloc_old w.drew _ hk⟩⟩
    · have hz1 : (Value.int IntKind.u8 0).cells.size = 1 := rfl
      simp only [Array.size_append, List.size_toArray, size_zeroCells, hz1, hxl, Lib.strCells_length]
      omega
    · simp only [Array.toList_append, List.append_assoc]
      rw [← List.append_assoc, ← hlen]
      exact List.take_left
  rcases hown.2 with ⟨rfl, rfl⟩ | ⟨g, cap, cur, rfl, hbg, hg, hnc, hcm, hcs, htake⟩
  · have hx : xs = [] := List.eq_nil_of_length_eq_zero hxl
    subst hx
    by_cases hm : s.size = 0
    · have hn : Lib.strCells s = [] := List.eq_nil_of_length_eq_zero (by rw [Lib.strCells_length]; exact hm)
      refine ⟨.slice none 0 0, w, ?_, by rw [hm, hn]; exact World.ownsRow_nil w base e 1, .same hm rfl rfl⟩
      have hf := Lib.run_firstCells_string (P := P) w 1 s
      rw [hm] at hf
      simp [Builtin.append_, run_underlying ht, run_underlying hu, sizeOf, typeInfo, hi, hsize, Builtin.lenOf, hm, hf]
    · have hr := run_append_nil_string (P := P) w t u ty e i (.int .u8 0) ht hu hi hz s (by omega) (by omega) (by rw [hby]; omega)
      have hgr := grown 0 (by omega)
      simp only [Nat.zero_add, List.nil_append, Array.empty_append] at hgr ⊢
      have e1 : (s.data.map fun b => Value.int .u8 b.toNat) = (Lib.strCells s).toArray := by
        apply Array.ext'
        simp [Lib.strCells]
      rw [e1] at hr
      exact ⟨_, _, hr, hgr.1, .fresh (by omega) hgr.2 rfl⟩
  · by_cases hm : s.size = 0
    · have hn : Lib.strCells s = [] := List.eq_nil_of_length_eq_zero (by rw [Lib.strCells_length]; exact hm)
      refine ⟨_, w, ?_, by rw [hm, hn, List.append_nil]; exact hown, .same hm rfl rfl⟩
      have hf := Lib.run_firstCells_string (P := P) w 1 s
      rw [hm, hn] at hf
      simp [Builtin.append_, run_underlying ht, run_underlying hu, sizeOf, typeInfo, hi, hsize, Builtin.lenOf, hm, hf, hnc, storeCells]
    by_cases hroom : n + s.size ≤ cap
    · have hcs' : cur.size = cap := by simpa using hcs
      have hr := Lib.run_append_room_string (P := P) w t u ty e i ht hu hi hsize g n cap cur hg s hroom (by omega)
      refine ⟨_, _, hr, ⟨hlen, .inr ⟨g, cap, _, rfl, hbg, setRow_heap w g cur _ e _ hg, hroom, hcm, ?_, ?_⟩⟩, .place g (by omega) rfl rfl ⟨rfl, rfl, rfl, by simp, fun k _ hk => setRow_other w g k _ (fun e => hk (by rw [e]))⟩ (by simp)⟩
      · simp only [List.size_toArray, List.length_append, List.length_take, List.length_drop, Array.length_toList, Lib.strCells_length]
        omega
      · have ht' : cur.toList.take n = xs := by simpa using htake
        rw [ht', ← hlen]
        exact List.take_left
    · have holds : ∀ j u, xs[j]? = some u → w.cell? ((⟨g, 0, none⟩ : Addr).add j) = some u := hown.cells (g := g) rfl
      have hr := Lib.run_append_grow_string (P := P) w t u ty e i (.int .u8 0) ht hu hi hz ⟨g, 0, none⟩ n cap xs (by rw [hsize]; simpa using hxl) holds s (by omega) (by omega) (by rw [hby]; exact growslice_fits (by omega) (by omega))
      have hgr := grown cap (by omega)
      exact ⟨_, _, hr, hgr.1, .fresh (by omega) hgr.2 rfl⟩
end
section
variable {B : Nat} {hp : Hp} {g : Gh} {w w' : World}
def Hp.app (hp : Hp) (id n : Nat) (e : Nat × TypeId) : Hp := ⟨hp.vars, (id, n, e) :: hp.live, hp.next⟩
theorem Appd.size {v v' : Value} {m : Nat} (h : Appd w v m w' v') : w.heap.size ≤ w'.heap.size := by
  cases h with
  | same _ hw _ => rw [hw]; exact Nat.le_refl _
  | place _ _ _ _ hg _ => exact hg.size
  | fresh _ hg _ => exact hg.size
/-- The cells of the row that were there are there. -/
theorem row_prefix {e : TypeId} {z n m b : Nat} {v v' : Value} {xs news : List Value} (h : w.ownsRow B e z v n xs) (h' : w'.ownsRow B e z v' (n + m) (xs ++ news)) (hb : v.ownBlock = some b) (hb' : v'.ownBlock = some b) (p : Addr) (hp : p.block = b) (ho : p.off < n * z) :
    w'.cell? p = w.cell? p := by
  rcases h.2 with ⟨rfl, _⟩ | ⟨g, cap, cur, rfl, _, hh, _, _, _, ht⟩
  · cases hb
  rcases h'.2 with ⟨rfl, _⟩ | ⟨g', cap', cur', rfl, _, hh', _, _, _, ht'⟩
  · cases hb'
  obtain rfl : g = b := by simpa [Value.ownBlock] using hb
  obtain rfl : g' = g := by simpa [Value.ownBlock] using hb'
  subst hp
  have e1 : cur[p.off]? = xs[p.off]? := by
    rw [← ht, List.getElem?_take, if_pos ho, Array.getElem?_toList]
  have e2 : cur'[p.off]? = xs[p.off]? := by
    have : (xs ++ news)[p.off]? = xs[p.off]? := List.getElem?_append_left (by rw [h.1]; exact ho)
    rw [← this, ← ht', List.getElem?_take, if_pos (Nat.lt_of_lt_of_le ho (Nat.mul_le_mul_right _ (Nat.le_add_right _ _))), Array.getElem?_toList]
  simp only [World.cell?, hh, hh', e1, e2]
theorem Mono.app {id n m : Nat} {e : Nat × TypeId} {v' : Value} {xs news : List Value} (hi : hp.live.lookup id = some (n, e)) (ho : w.ownsRow B e.2 e.1 (g.τ id) n xs)
    (hF : ∀ b, (g.τ id).ownBlock = some b → ∀ p : Addr, p.block = b → n * e.1 ≤ p.off → g.F p)
    (ho' : w'.ownsRow B e.2 e.1 v' (n + m) (xs ++ news)) (ha : Appd w (g.τ id) m w' v') : Mono hp g w (hp.app id (n + m) e) (g.tok id v' ((n + m) * e.1)) w' := by
  refine ⟨ha.size, fun p hpb hf => ?_, fun p hpb hf => ?_, Nat.le_refl _, fun _ _ => rfl, fun j hj k e' hm => ?_, fun b hb hf => ?_⟩
  · cases ha with
    | same _ hw _ => rw [hw]
    | place b _ hv hv' hg _ =>
      by_cases hb : p.block = b
      · refine row_prefix ho ho' hv hv' p hb ?_
        rcases Nat.lt_or_ge p.off (n * e.1) with h | h
        · exact h
        · exact absurd (hF b hv p hb h) hf
      · exact World.cell?_of_block (hg.block _ hpb (fun e => hb (by injection e)))
    | fresh _ hg _ => exact World.cell?_of_block (hg.block _ hpb (by simp))
  · rcases hf with hf | ⟨b, h1, h2, h3⟩
    · exact hf.1
    · cases ha with
      | same h0 _ hv =>
        subst h0
        rw [hv] at h1
        exact hF b h1 p h2 h3
      | place b' _ hv hv' _ _ =>
        obtain rfl : b' = b := by rw [hv'] at h1; injection h1
        exact hF b' hv p h2 (Nat.le_trans (Nat.mul_le_mul_right _ (Nat.le_add_right _ _)) h3)
      | fresh _ _ hv' =>
        rw [hv'] at h1
        injection h1 with h1
        omega
  · by_cases hjd : j = id
    · subst hjd
      have : some (n + m, e) = some (k, e') := by rw [← hm]; exact lookup_cons_eq.symm
      injection this with this
      injection this with h1 h2
      subst h1; subst h2
      refine ⟨n, hi, Nat.le_add_right _ _, fun h => ?_⟩
      have h0 : m = 0 := by omega
      show (if j = j then v' else g.τ j) = _
      rw [if_pos rfl]
      cases ha with
      | same _ _ hv => exact hv
      | place _ h _ _ _ _ => omega
      | fresh h _ _ => omega
    · refine ⟨k, ?_, Nat.le_refl _, fun _ => ?_⟩
      · rw [← hm]
        exact (lookup_cons_ne hjd).symm
      · show (if j = id then v' else g.τ j) = _
        rw [if_neg hjd]
  · have hne := hf.2 id _ hi
    have hvb : v'.ownBlock ≠ some b := by
      cases ha with
      | same _ _ hv => rw [hv]; exact hne
      | place b' _ hv hv' _ _ => rw [hv']; intro he; exact hne (by rw [hv]; exact he)
      | fresh _ _ hv' => rw [hv']; intro he; injection he with he; omega
    refine ⟨?_, fun p h1 h2 => .inl ⟨h2, fun h => hvb (by rw [h.1, h1])⟩, hf.1, fun j t hj => ?_⟩
    · cases ha with
      | same _ hw _ => rw [hw]
      | place b' _ hv hv' hg _ => exact hg.block _ hb (fun e => hne (by rw [hv]; injection e with e; rw [e]))
      | fresh _ hg _ => exact hg.block _ hb (by simp)
    · show (if j = id then v' else g.τ j).ownBlock ≠ _
      by_cases hjd : j = id
      · rw [if_pos hjd]; exact hvb
      · rw [if_neg hjd]
        exact hf.2 j t (by rw [← hj]; exact (lookup_cons_ne hjd).symm)
theorem HR.app (hr : HR B hp g w) {id n m : Nat} {e : Nat × TypeId} {v' : Value} {xs news : List Value} (hz : 0 < e.1) (hi : hp.live.lookup id = some (n, e)) (ho : w.ownsRow B e.2 e.1 (g.τ id) n xs)
    (hF : ∀ b, (g.τ id).ownBlock = some b → ∀ p : Addr, p.block = b → n * e.1 ≤ p.off → g.F p)
    (ho' : w'.ownsRow B e.2 e.1 v' (n + m) (xs ++ news)) (ha : Appd w (g.τ id) m w' v') : HR B (hp.app id (n + m) e) (g.tok id v' ((n + m) * e.1)) w' := by
  have mo := Mono.app hi ho hF ho' ha
  have hs := ha.size
  have look : ∀ {j : Nat} {a : Nat × Nat × TypeId}, (hp.app id (n + m) e).live.lookup j = some a → (j = id ∧ a = (n + m, e)) ∨ (j ≠ id ∧ hp.live.lookup j = some a) := by
    intro j a hj
    by_cases hjn : j = id
    · subst hjn
      have : some (n + m, e) = some a := by rw [← hj]; exact lookup_cons_eq.symm
      injection this with this
      exact .inl ⟨rfl, this.symm⟩
    · exact .inr ⟨hjn, by rw [← hj]; exact (lookup_cons_ne hjn).symm⟩
  have hτ : ∀ j, j ≠ id → (g.tok id v' ((n + m) * e.1)).τ j = g.τ j := fun j hj => if_neg hj
  have hτn : (g.tok id v' ((n + m) * e.1)).τ id = v' := if_pos rfl
  -- a block that is not the row's is as it was
  have keep : ∀ b, b < w.heap.size → (g.τ id).ownBlock ≠ some b → w'.heap[b]? = w.heap[b]? := by
    intro b hb hne
    cases ha with
    | same _ hw _ => rw [hw]
    | place b' _ hv _ hg _ => exact hg.block b hb (fun e => hne (by rw [hv, ← e]))
    | fresh _ hg _ => exact hg.block b hb (by simp)
  have newb : ∀ b, v'.ownBlock = some b → (g.τ id).ownBlock = some b ∨ w.heap.size ≤ b := by
    intro b hb
    cases ha with
    | same _ _ hv => rw [hv] at hb; exact .inl hb
    | place b' _ hv hv' _ _ => rw [hv'] at hb; rw [hv]; exact .inl hb
    | fresh _ _ hv' => rw [hv'] at hb; injection hb with hb; exact .inr (by omega)
  obtain ⟨hid, _, _, _, htk⟩ := hr.tok id n e hi
  have stay : ∀ p : Addr, p.block < w.heap.size → (g.τ id).ownBlock ≠ some p.block → g.F p → (g.tok id v' ((n + m) * e.1)).F p := fun p hp' hne hf => .inl ⟨hf, fun h => by
    rcases newb _ h.1 with h | h
    · exact hne h
    · omega⟩
  refine ⟨fun k ds hk => ?_, hr.inj, fun j n' e' hj => ?_, fun j j' t t' b hj hj' he he' => ?_, Nat.le_trans hr.base hs, fun p hf => ?_⟩
  · have hlt := hr.var_lt (k := k) (ds := ds) hk
    obtain ⟨h1, h2, h3, cs', ty', h4, h5, h6⟩ := hr.var k ds hk
    exact ⟨h1, h2, fun p hp' => stay p (by rw [hp']; exact hlt) (fun e => (htk _ e).2 k ds hk hp'.symm) (h3 p hp'), cs', ty', (keep _ hlt fun e => (htk _ e).2 k ds hk rfl).trans h4, h5, fun j u hu => ⟨(h6 j u hu).1, fun d hd => ((h6 j u hu).2 d hd).mono mo⟩⟩
  · rcases look hj with ⟨rfl, h⟩ | ⟨hne, h0⟩
    · injection h with ha1 hb1
      subst ha1; subst hb1
      rw [hτn]
      refine ⟨hid, _, hz, ho', fun b hb => ⟨fun p h4 h5 => .inr ⟨b, hb, h4, h5⟩, fun k ds hk => ?_⟩⟩
      rcases newb b hb with h | h
      · exact (htk b h).2 k ds hk
      · have := hr.var_lt (k := k) (ds := ds) hk
        show g.μ k ≠ b
        omega
    · obtain ⟨h1, us', hz', h2, h3⟩ := hr.tok j n' e' h0
      rw [hτ j hne]
      refine ⟨h1, us', hz', ⟨h2.1, ?_⟩, fun b hb => ⟨fun p h4 h5 => stay p (by rw [h4]; exact (h2.lt b hb).2) (fun e => hne (hr.tinj j id _ _ b h0 hi hb (by rw [e, h4]))) ((h3 b hb).1 p h4 h5), (h3 b hb).2⟩⟩
      rcases h2.2 with h0' | ⟨b, cap, cur, hv', hB, hh, r⟩
      · exact .inl h0'
      · refine .inr ⟨b, cap, cur, hv', hB, (keep b (Array.getElem?_eq_some_iff.1 hh).1 fun e => ?_).trans hh, r⟩
        exact hne (hr.tinj j id _ _ b h0 hi (by rw [hv']; rfl) e)
  · have old : ∀ {j : Nat} {a : Nat × Nat × TypeId} {b : Nat}, hp.live.lookup j = some a → (g.τ j).ownBlock = some b → b < w.heap.size := by
      intro j a b hj hb'
      obtain ⟨_, _, _, h2, _⟩ := hr.tok j a.1 a.2 hj
      exact (h2.lt b hb').2
    rcases look hj with ⟨rfl, _⟩ | ⟨hne, h0⟩ <;> rcases look hj' with ⟨rfl, _⟩ | ⟨hne', h0'⟩
    · rfl
    · rw [hτn] at he
      rw [hτ _ hne'] at he'
      rcases newb b he with h | h
      · exact hr.tinj _ _ _ _ b hi h0' h he'
      · have := old h0' he'
        omega
    · rw [hτn] at he'
      rw [hτ _ hne] at he
      rcases newb b he' with h | h
      · exact hr.tinj _ _ _ _ b h0 hi he h
      · have := old h0 he
        omega
    · rw [hτ _ hne] at he
      rw [hτ _ hne'] at he'
      exact hr.tinj j j' t t' b h0 h0' he he'
  · rcases hf with hf | ⟨b, h1, h2, _⟩
    · exact Nat.lt_of_lt_of_le (hr.fits p hf.1) hs
    · rw [h2]
      exact (ho'.lt b h1).2
end
end Go.Proofs.Ytakbadleipbngaa
