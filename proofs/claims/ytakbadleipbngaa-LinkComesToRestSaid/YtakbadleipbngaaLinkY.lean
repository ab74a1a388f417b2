/-
  layer 42: Unpack in plain terms; what is packed is unpacked, and the other way round. Conditions: none.
-/
import Derived.Test.YtakbadleipbngaaLinkX
set_option linter.all false
namespace Go.Proofs.Ytakbadleipbngaa
open Go.RowKit
/-- A part is read and cut off. -/
def part {α : Type} (one : List UInt8 → α × Int × Int) (s : List UInt8 × Bool) : α × List UInt8 × Bool :=
  if (one s.1).2.2 ≠ 0 then ((one s.1).1, s.1, false) else ((one s.1).1, s.1.drop (one s.1).2.1.toNat, s.2)
/-- What a decoder says is within what it was given. -/
def Fits {α : Type} (one : List UInt8 → α × Int × Int) : Prop := ∀ l, (∃ (x : α) (u : Nat), one l = (x, (u : Int), 0) ∧ u ≤ l.length) ∨ (one l).2.2 ≠ 0
theorem getGo_fits {α : Type} {f : α → List UInt8} {one : List UInt8 → α × Int × Int} {good : α → Prop} (C : Codec f one good) (l : List UInt8) : ∀ (n a : Nat) (acc : List α), a ≤ l.length → (∃ (r : List α) (u : Nat), getGo one l n a acc = (r, (u : Int), 0) ∧ u ≤ l.length) ∨ (getGo one l n a acc).2.2 ≠ 0 := by
  intro n
  induction n with
  | zero => intro a acc ha; exact .inl ⟨acc, a, rfl, ha⟩
  | succ n ih =>
    intro a acc ha
    rcases C.ok (l.drop a) with ⟨x, u, h1, h2⟩ | h1
    · rw [getGo_ok h1]
      exact ih _ _ (by rw [List.length_drop] at h2; omega)
    · refine .inr ?_
      rw [getGo, if_pos h1]
      exact h1
theorem getList_fits {α : Type} {f : α → List UInt8} {one : List UInt8 → α × Int × Int} {good : α → Prop} (C : Codec f one good) : Fits (getList one 1) := by
  intro l
  unfold getList
  rcases getLen_cases l 1 with ⟨n, u, h, h1, h2, h3⟩ | h | h
  · rw [h, if_neg (fun h => h rfl)]
    exact getGo_fits C l _ _ _ (by simpa using h2)
  · rw [h, if_pos (by decide)]; exact .inr (by simp)
  · rw [h, if_pos (by decide)]; exact .inr (by simp)
theorem part_eq {α β : Type} {one : List UInt8 → α × Int × Int} (hf : Fits one) (l : List UInt8) (ok : Bool) (cv : α → β) (K : (List Int) × Bool → Option (β × List Int × Bool)) :
    bnd (S := (List Int) × Bool) (cnd (decide ((one l).2.2 ≠ (0 : Int))) (some ((B8 l, false))) (gd (0 ≤ (one l).2.1 ∧ (one l).2.1 ≤ ((B8 l).length : Int) ∧ ((B8 l).length : Int) ≤ ((B8 l).length : Int)) (some ((subL (B8 l) (one l).2.1 ((B8 l).length : Int), ok))))) K = K (B8 (part one (l, ok)).2.1, (part one (l, ok)).2.2) := by
  unfold part
  rcases hf l with ⟨x, u, h1, h2⟩ | h1
  · rw [h1, cndF _ _ (fun h => h rfl), if_neg (fun h => h rfl)]
    dsimp only
    rw [gd_pos (by rw [B8_len]; omega), bnd_eq, B8_drop, Int.toNat_natCast]
  · rw [cndT _ _ h1, if_pos h1]
    rfl
theorem part_fst {α : Type} (one : List UInt8 → α × Int × Int) (s : List UInt8 × Bool) : (part one s).1 = (one s.1).1 := by unfold part; split <;> rfl
theorem G_getI (s : List UInt8 × Bool) (hl : s.1.length ≤ 1000000000) : g_link_get_int_v (B8 s.1) s.2 = some ((part getInt s).1, B8 (part getInt s).2.1, (part getInt s).2.2) := by
  obtain ⟨l, ok⟩ := s
  dsimp only at hl ⊢
  unfold g_link_get_int_v
  rw [G_GetInt l hl, bnd_eq, part_eq (one := getInt) (fun l => codecInt.ok l) l ok (fun x => x), part_fst]
theorem G_getIs (s : List UInt8 × Bool) (hl : s.1.length ≤ 1000000000) : g_link_get_int_v2 (B8 s.1) s.2 = some ((part (getList getInt 1) s).1, B8 (part (getList getInt 1) s).2.1, (part (getList getInt 1) s).2.2) := by
  obtain ⟨l, ok⟩ := s
  dsimp only at hl ⊢
  unfold g_link_get_int_v2
  rw [G_GetInts l hl, bnd_eq, part_eq (one := getList getInt 1) (getList_fits codecInt) l ok (fun x => x), part_fst]
theorem G_getSs (s : List UInt8 × Bool) (hl : s.1.length ≤ 1000000000) : g_link_get_string_v (B8 s.1) s.2 = some ((part (getList getBytes 1) s).1.map ofB, B8 (part (getList getBytes 1) s).2.1, (part (getList getBytes 1) s).2.2) := by
  obtain ⟨l, ok⟩ := s
  dsimp only at hl ⊢
  unfold g_link_get_string_v
  rw [G_GetStrings l hl, bnd_eq]
  dsimp only
  rw [part_eq (one := getList getBytes 1) (getList_fits codecBytes) l ok (fun x => x.map ofB), part_fst]
theorem part_len {α : Type} (one : List UInt8 → α × Int × Int) (s : List UInt8 × Bool) : (part one s).2.1.length ≤ s.1.length := by
  unfold part
  split
  · exact Nat.le_refl _
  · rw [List.length_drop]; omega
/-- The parts of an encoding. -/
structure Parts where
  a : Int
  b : Int
  q : List (List UInt8)
  n : List Int
  t : List (List UInt8)
  rest : List UInt8
  ok : Bool
def parts (l : List UInt8) : Parts :=
  let a := part getInt (l, true)
  let b := part getInt a.2
  let q := part (getList getBytes 1) b.2
  let n := part (getList getInt 1) q.2
  let t := part (getList getBytes 1) n.2
  ⟨a.1, b.1, q.1, n.1, t.1, t.2.1, t.2.2⟩
def Parts.good (p : Parts) : Bool := p.ok && decide (p.rest = []) && decide (p.n.length = p.t.length)
def Parts.heldOf (p : Parts) : List LHeld := p.n.zip (p.t.map ofB)
def Parts.toEnd (p : Parts) : LEnd := ⟨p.a, p.q.map ofB, p.b, p.heldOf⟩
def unpack (l : List UInt8) : Option LEnd := if (parts l).good = true ∧ (parts l).toEnd.okB = true then some (parts l).toEnd else none
theorem part_ok {α : Type} {f : α → List UInt8} {one : List UInt8 → α × Int × Int} (hf : Fits one) (hc : ∀ {l : List UInt8} {x : α} {u : Nat}, one l = (x, (u : Int), 0) → l.take u = f x ∧ (f x).length = u) {s : List UInt8 × Bool} (h : (part one s).2.2 = true) :
    s.2 = true ∧ s.1 = f (part one s).1 ++ (part one s).2.1 := by
  unfold part at h ⊢
  split at h
  · cases h
  · rename_i hn
    rw [if_neg hn]
    refine ⟨h, ?_⟩
    rcases hf s.1 with ⟨x, u, h1, h2⟩ | h1
    · rw [h1, Int.toNat_natCast, ← (hc h1).1, List.take_append_drop]
    · exact absurd h1 hn
theorem strs_eq (q : List (List UInt8)) : encStrings (q.map ofB) = encList encB q := by
  rw [encStrings_eq, List.map_map]
  congr 1
  exact (List.map_congr_left fun x _ => by simp [ofB]).trans (List.map_id _)
theorem zip_fst {α β : Type} : ∀ {a : List α} {b : List β}, a.length = b.length → (a.zip b).map (·.1) = a
  | [], [], _ => rfl
  | x :: a, y :: b, h => by simp only [List.zip_cons_cons, List.map_cons]; rw [zip_fst (by simpa using h)]
  | [], _ :: _, h => by simp at h
  | _ :: _, [], h => by simp at h
theorem zip_snd {α β : Type} : ∀ {a : List α} {b : List β}, a.length = b.length → (a.zip b).map (·.2) = b
  | [], [], _ => rfl
  | x :: a, y :: b, h => by simp only [List.zip_cons_cons, List.map_cons]; rw [zip_snd (by simpa using h)]
  | [], _ :: _, h => by simp at h
  | _ :: _, [], h => by simp at h
/-- What Unpack accepts is the encoding of its result. -/
theorem unpack_canon {l : List UInt8} {x : LEnd} (h : unpack l = some x) : x.Ok ∧ x.pack = l := by
  unfold unpack at h
  split at h
  · rename_i hc
    injection h with h
    subst h
    refine ⟨(LEnd.okB_iff _).1 hc.2, ?_⟩
    have hg := hc.1
    unfold Parts.good at hg
    simp only [Bool.and_eq_true, decide_eq_true_eq] at hg
    obtain ⟨⟨h1, h2⟩, h3⟩ := hg
    obtain ⟨o5, e5⟩ := part_ok (f := encList encB) (getList_fits codecBytes) (fun h => ⟨(getList_canon codecBytes h).1, (getList_canon codecBytes h).2.1⟩) (s := (part (getList getInt 1) (part (getList getBytes 1) (part getInt (part getInt (l, true)).2).2).2).2) h1
    obtain ⟨o4, e4⟩ := part_ok (f := encList encInt) (getList_fits codecInt) (fun h => ⟨(getList_canon codecInt h).1, (getList_canon codecInt h).2.1⟩) (s := (part (getList getBytes 1) (part getInt (part getInt (l, true)).2).2).2) o5
    obtain ⟨o3, e3⟩ := part_ok (f := encList encB) (getList_fits codecBytes) (fun h => ⟨(getList_canon codecBytes h).1, (getList_canon codecBytes h).2.1⟩) (s := (part getInt (part getInt (l, true)).2).2) o4
    obtain ⟨o2, e2⟩ := part_ok (f := encInt) (fun l => codecInt.ok l) (fun h => getInt_canon h) (s := (part getInt (l, true)).2) o3
    obtain ⟨o1, e1⟩ := part_ok (f := encInt) (fun l => codecInt.ok l) (fun h => getInt_canon h) (s := (l, true)) o2
    have hz : (parts l).n.length = ((parts l).t.map ofB).length := by rw [List.length_map]; exact h3
    show encInt (parts l).a ++ encInt (parts l).b ++ encStrings ((parts l).q.map ofB) ++ encInts ((parts l).heldOf.map (·.1)) ++ encStrings ((parts l).heldOf.map (·.2)) = l
    unfold Parts.heldOf
    rw [zip_fst hz, zip_snd hz, strs_eq, strs_eq, encInts_eq]
    have h2' : (parts l).rest = [] := h2
    have r : l = encInt (parts l).a ++ (encInt (parts l).b ++ (encList encB (parts l).q ++ (encList encInt (parts l).n ++ (encList encB (parts l).t ++ (parts l).rest)))) := by
      conv => lhs; rw [show l = (l, true).1 from rfl, e1, e2, e3, e4, e5]
      rfl
    conv => rhs; rw [r, h2']
    simp only [List.append_nil, List.append_assoc]
  · cases h
theorem part_of {α : Type} {f : α → List UInt8} {one : List UInt8 → α × Int × Int} {x : α} (t : List UInt8) (h : one (f x ++ t) = (x, ((f x).length : Int), 0)) : part one (f x ++ t, true) = (x, t, true) := by
  unfold part
  rw [h, if_neg (fun h => h rfl), Int.toNat_natCast, List.drop_left]
theorem f1_of (f : ByteArray) : ofB f.data.toList = f := by
  unfold ofB
  rcases f with ⟨⟨l⟩⟩
  rfl
theorem zip_self (l : List LHeld) : (l.map (·.1)).zip (l.map (·.2)) = l := by
  induction l with
  | nil => rfl
  | cons g l ih => simp only [List.map_cons, List.zip_cons_cons, ih]
/-- Unpack of what Pack returned is the end. -/
theorem unpack_pack {x : LEnd} (hx : x.Ok) : unpack x.pack = some x := by
  have hk := hx.pk
  have hb (l : List ByteArray) : ((l.map fun s => s.data.toList).map ofB) = l := by
    rw [List.map_map]
    exact (List.map_congr_left fun s _ => f1_of s).trans (List.map_id _)
  have hpos : ∀ x : List UInt8, 1 ≤ (encB x).length := fun x => by unfold encB; rw [List.length_append]; have := enc_length_pos (zig (x.length : Int)); unfold encInt; omega
  have hS (l : List ByteArray) (h : ∀ s ∈ l, s.size ≤ 4096) (hl : l.length ≤ 1000) (t : List UInt8) : getList getBytes 1 (encList encB (l.map fun s => s.data.toList) ++ t) = (l.map fun s => s.data.toList, ((encList encB (l.map fun s => s.data.toList)).length : Int), 0) :=
    getList_enc codecBytes hpos (fun y hy => by
      obtain ⟨s, hs, rfl⟩ := List.mem_map.1 hy
      have := h s hs
      show s.data.toList.length ≤ _
      rw [Array.length_toList]
      exact Nat.le_trans this (by omega)) (by rw [List.length_map]; omega) t
  have e : parts x.pack = ⟨x.base, x.want, x.queue.map fun s => s.data.toList, x.held.map (·.1), (x.held.map (·.2)).map fun s => s.data.toList, [], true⟩ := by
    unfold parts LEnd.pack
    simp only [List.append_assoc, encStrings_eq, encInts_eq]
    rw [part_of _ (getInt_enc hk.b _)]
    dsimp only
    rw [part_of _ (getInt_enc hk.w _)]
    dsimp only
    rw [part_of (f := encList encB) _ (hS _ hk.q (by have := hk.ql; omega) _)]
    dsimp only
    rw [part_of (f := encList encInt) _ (getList_enc codecInt (fun y => enc_length_pos _) hk.n (by rw [List.length_map]; have := hk.hl; omega) _)]
    dsimp only
    have := part_of (f := encList encB) [] (hS _ hk.t (by rw [List.length_map]; have := hk.hl; omega) [])
    rw [List.append_nil] at this
    rw [this]
  have ee : (parts x.pack).toEnd = x := by
    rw [e]
    unfold Parts.toEnd Parts.heldOf
    simp only [hb, zip_self]
  unfold unpack
  rw [ee, if_pos ⟨by rw [e]; unfold Parts.good; simp, (LEnd.okB_iff x).2 hx⟩]
theorem getGo_all {α : Type} {one : List UInt8 → α × Int × Int} {G : α → Prop} (hG : ∀ l, (one l).2.2 = 0 → G (one l).1) (l : List UInt8) : ∀ (n a : Nat) (acc : List α), (∀ x ∈ acc, G x) → ∀ x ∈ (getGo one l n a acc).1, G x
  | 0, a, acc, h => h
  | n + 1, a, acc, h => by
    rw [getGo]
    split
    · intro x hx; simp at hx
    · rename_i hn
      refine getGo_all hG l n _ _ fun x hx => ?_
      rcases List.mem_append.1 hx with hx | hx
      · exact h x hx
      · obtain rfl := List.mem_singleton.1 hx
        exact hG _ (Classical.not_not.1 hn)
theorem getInt_I64 (l : List UInt8) : I64 (getInt l).1 := by
  rcases getInt_cases l with ⟨n, u, h, _, _, h3⟩ | h | h
  · rw [h]; exact h3
  · rw [h]; exact ⟨by decide, by decide⟩
  · rw [h]; exact ⟨by decide, by decide⟩
theorem getGo_len {α : Type} {one : List UInt8 → α × Int × Int} (l : List UInt8) : ∀ (n a : Nat) (acc : List α), (getGo one l n a acc).1.length ≤ acc.length + n
  | 0, a, acc => Nat.le_refl _
  | n + 1, a, acc => by
    rw [getGo]
    split
    · simp
    · refine Nat.le_trans (getGo_len l n _ _) ?_
      rw [List.length_append, List.length_singleton]; omega
theorem getList_len {α : Type} {one : List UInt8 → α × Int × Int} (l : List UInt8) : (getList one 1 l).1.length ≤ l.length := by
  unfold getList
  split
  · simp
  · refine Nat.le_trans (getGo_len l _ _ _) ?_
    rcases getLen_cases l 1 with ⟨n, u, h, h1, h2, h3⟩ | h | h <;> rw [h] <;> simp <;> omega
theorem getInts_I64 (l : List UInt8) : ∀ n ∈ (getList getInt 1 l).1, I64 n := by
  unfold getList
  split
  · intro n hn; simp at hn
  · exact getGo_all (fun l _ => getInt_I64 l) l _ _ [] (fun x hx => by simp at hx)
theorem G_Unpack (l : List UInt8) (hl : l.length ≤ 100000000) : g_link_Unpack (B8 l) = some (match unpack l with | some x => (ofL x, 0) | none => (⟨0, [], 0, []⟩, 11)) := by
  have L1 := part_len getInt (l, true)
  have L2 := part_len getInt (part getInt (l, true)).2
  have L3 := part_len (getList getBytes 1) (part getInt (part getInt (l, true)).2).2
  have L4 := part_len (getList getInt 1) (part (getList getBytes 1) (part getInt (part getInt (l, true)).2).2).2
  have hL1 : (part getInt (l, true)).2.1.length ≤ l.length := L1
  unfold g_link_Unpack
  have E1 := G_getI (l, true) (by show l.length ≤ _; omega)
  have E2 := G_getI (part getInt (l, true)).2 (by omega)
  have E3 := G_getSs (part getInt (part getInt (l, true)).2).2 (by omega)
  have E4 := G_getIs (part (getList getBytes 1) (part getInt (part getInt (l, true)).2).2).2 (by omega)
  have E5 := G_getSs (part (getList getInt 1) (part (getList getBytes 1) (part getInt (part getInt (l, true)).2).2).2).2 (by omega)
  dsimp only at E1
  rw [E1, bnd_eq]
  dsimp only
  rw [E2, bnd_eq]
  dsimp only
  rw [E3, bnd_eq]
  dsimp only
  rw [E4, bnd_eq]
  dsimp only
  rw [E5, bnd_eq]
  dsimp only
  show (bnd (S := Bool) (cnd (!(parts l).ok) (some true) (cnd (decide ((0 : Int) < ((B8 (parts l).rest).length : Int))) (some true) (some (decide (((parts l).n.length : Int) ≠ (((parts l).t.map ofB).length : Int)))))) _) = _
  rw [cnd_or, cnd_or, bnd_eq]
  have hg : (!(parts l).ok || (decide ((0 : Int) < ((B8 (parts l).rest).length : Int)) || decide (((parts l).n.length : Int) ≠ (((parts l).t.map ofB).length : Int)))) = !(parts l).good := by
    unfold Parts.good
    rw [B8_len, List.length_map]
    rw [Bool.eq_iff_iff]
    simp only [Bool.or_eq_true, Bool.not_eq_true', Bool.and_eq_false_iff, decide_eq_true_eq, decide_eq_false_iff_not]
    rw [show ((parts l).rest = []) ↔ (parts l).rest.length = 0 from List.length_eq_zero_iff.symm]
    constructor
    · rintro (h | h | h)
      · exact .inl (.inl h)
      · exact .inl (.inr (by omega))
      · exact .inr (by omega)
    · rintro ((h | h) | h)
      · exact .inl h
      · exact .inr (.inl (by omega))
      · exact .inr (.inr (by omega))
  rw [hg]
  unfold unpack
  cases hgd : (parts l).good
  · rfl
  · have hgd' := hgd
    unfold Parts.good at hgd'
    simp only [Bool.and_eq_true, decide_eq_true_eq] at hgd'
    have hnt := hgd'.2
    have hnl : (parts l).n.length ≤ l.length := by
      show (part (getList getInt 1) _).1.length ≤ _
      rw [part_fst]
      refine Nat.le_trans (getList_len _) ?_
      omega
    have hql : (parts l).q.length ≤ l.length := by
      show (part (getList getBytes 1) _).1.length ≤ _
      rw [part_fst]
      refine Nat.le_trans (getList_len _) ?_
      omega
    have hnI : ∀ n ∈ (parts l).n, I64 n := by
      show ∀ n ∈ (part (getList getInt 1) _).1, I64 n
      rw [part_fst]
      exact getInts_I64 _
    rw [Bool.not_true, cnd_false]
    -- the queue
    have hq : ∀ K : S_End → Option (S_End × Int), bnd (S := S_End) (cnd (decide ((((parts l).q.map ofB).length : Int) = (0 : Int))) (some ((⟨(parts l).a, ([] : List ByteArray), (parts l).b, ([] : List S_Held)⟩ : S_End))) (some ((⟨(parts l).a, (parts l).q.map ofB, (parts l).b, ([] : List S_Held)⟩ : S_End)))) K = K ⟨(parts l).a, (parts l).q.map ofB, (parts l).b, []⟩ := by
      intro K
      by_cases h0 : (parts l).q.length = 0
      · rw [List.length_eq_zero_iff.1 h0]; rfl
      · rw [cndF _ _ (by rw [List.length_map]; omega), bnd_eq]
    refine (hq _).trans ?_
    -- those that came too early
    have hloop : loopO (g_link_Unpack_l29 (part (getList getInt 1) (part (getList getBytes 1) (part getInt (part getInt (l, true)).2).2).2 |> fun p => (p.1, B8 p.2.1, p.2.2)) (part (getList getBytes 1) (part (getList getInt 1) (part (getList getBytes 1) (part getInt (part getInt (l, true)).2).2).2).2 |> fun p => (p.1.map ofB, B8 p.2.1, p.2.2))) ((0 : Int), ([] : List S_Held)) = some ((parts l).heldOf.map ofH) := by
      have hz : (parts l).heldOf.length = (parts l).n.length := by
        unfold Parts.heldOf; rw [List.length_zip, List.length_map, ← hnt, Nat.min_self]
      have := loopO_up (b := g_link_Unpack_l29 (part (getList getInt 1) (part (getList getBytes 1) (part getInt (part getInt (l, true)).2).2).2 |> fun p => (p.1, B8 p.2.1, p.2.2)) (part (getList getBytes 1) (part (getList getInt 1) (part (getList getBytes 1) (part getInt (part getInt (l, true)).2).2).2).2 |> fun p => (p.1.map ofB, B8 p.2.1, p.2.2)))
        (fun i => ((i : Int), ((parts l).heldOf.take i).map ofH)) 0 (parts l).n.length ((parts l).heldOf.map ofH) (Nat.zero_le _) (fun i _ hi => by
          show g_link_Unpack_l29 ((parts l).n, _, _) ((parts l).t.map ofB, _, _) _ = _
          simp only [g_link_Unpack_l29]
          have hti : i < ((parts l).t.map ofB).length := by rw [List.length_map]; omega
          rw [cndT _ _ (by omega), gd_pos (by omega), gd_pos (by omega), getE _ _ hi, getE _ _ hti, gd_pos (by rw [List.length_append, List.length_map, List.length_take, List.length_singleton]; omega), w_id (by omega), List.take_succ_eq_append_getElem (by rw [hz]; exact hi), List.map_append]
          have : (parts l).heldOf[i]'(by rw [hz]; exact hi) = ((parts l).n[i], ((parts l).t.map ofB)[i]) := by unfold Parts.heldOf; rw [List.getElem_zip]
          rw [this]
          rfl) (by
          show g_link_Unpack_l29 ((parts l).n, _, _) ((parts l).t.map ofB, _, _) _ = _
          simp only [g_link_Unpack_l29]
          rw [cndF _ _ (by omega), List.take_of_length_le (by rw [hz]; exact Nat.le_refl _)])
      exact this
    refine (bnd_of hloop _).trans ?_
    have hm : (parts l).toEnd.Mach := ⟨by show ((parts l).q.map ofB).length ≤ _; rw [List.length_map]; omega, by show (parts l).heldOf.length ≤ _; unfold Parts.heldOf; rw [List.length_zip]; omega, fun g hg => by
      have : g.1 ∈ (parts l).heldOf.map (·.1) := List.mem_map.2 ⟨g, hg, rfl⟩
      unfold Parts.heldOf at this
      rw [zip_fst (by rw [List.length_map]; exact hnt)] at this
      exact (hnI _ this).2⟩
    have hc := G_Check (parts l).toEnd hm.hs hm.q hm.h
    refine (bnd_of hc _).trans ?_
    cases hb : (parts l).toEnd.okB
    · rfl
    · rfl
end Go.Proofs.Ytakbadleipbngaa
