/-
  layer 42: Pack and Unpack in plain terms. Conditions: none.
-/
import Derived.Test.YtakbadleipbngaaLinkW
import Derived.Test.YtakbadleipbngaaGW
set_option linter.all false
namespace Go.Proofs.Ytakbadleipbngaa
open Go.RowKit
/-- Numbers and lengths are such as a machine holds. -/
structure LEnd.Mach (x : LEnd) : Prop where
  q : x.queue.length ≤ 9223372036854775807
  h : x.held.length ≤ 9223372036854775807
  hs : ∀ g ∈ x.held, g.1 ≤ 9223372036854775807
theorem LEnd.Ok.mach {x : LEnd} (h : x.Ok) : x.Mach :=
  ⟨by have := h.ql; omega, by have := h.held_len; omega, fun g hg => by have := (h.ho g hg).2; unfold HeldOk at *; have := (h.ho g hg); omega⟩
/-! ### Pack -/
def LEnd.pack (x : LEnd) : List UInt8 := encInt x.base ++ encInt x.want ++ encStrings x.queue ++ encInts (x.held.map (·.1)) ++ encStrings (x.held.map (·.2))
theorem flat_bound {α : Type} (f : α → List UInt8) (B : Nat) : ∀ (l : List α), (∀ a ∈ l, (f a).length ≤ B) → (l.flatMap f).length ≤ l.length * B
  | [], _ => by simp
  | a :: l, h => by
    rw [List.flatMap_cons, List.length_append, List.length_cons, Nat.add_mul]
    have h1 := h a (by simp)
    have h2 := flat_bound f B l (fun a ha => h a (by simp [ha]))
    omega
theorem encStrings_bound {l : List ByteArray} (B n : Nat) (h : ∀ s ∈ l, s.size ≤ B) (hn : l.length ≤ n) (hb : B ≤ 1000000) (hn2 : n ≤ 1000000) : (encStrings l).length ≤ 10 + n * (10 + B) := by
  unfold encStrings
  rw [List.length_append]
  have h1 := (encInt_len (n := (l.length : Int)) ⟨by omega, by omega⟩).2
  have h2 := flat_bound encBytes (10 + B) l (fun s hs => by
    have h3 := (encInt_len (n := (s.size : Int)) ⟨by omega, by have := h s hs; omega⟩).2
    have := h s hs
    rw [encBytes_len]; omega)
  have h3 : l.length * (10 + B) ≤ n * (10 + B) := Nat.mul_le_mul_right _ hn
  omega
theorem encInts_bound {l : List Int} (n : Nat) (h : ∀ s ∈ l, I64 s) (hn : l.length ≤ n) (hn2 : n ≤ 1000000) : (encInts l).length ≤ 10 + n * 10 := by
  unfold encInts
  rw [List.length_append]
  have h1 := (encInt_len (n := (l.length : Int)) ⟨by omega, by omega⟩).2
  have h2 := flat_bound encInt 10 l (fun s hs => (encInt_len (h s hs)).2)
  omega
structure PkOk (x : LEnd) : Prop where
  b : I64 x.base
  w : I64 x.want
  q : ∀ s ∈ x.queue, s.size ≤ 4096
  ql : x.queue.length ≤ 64
  n : ∀ s ∈ x.held.map (·.1), I64 s
  t : ∀ s ∈ x.held.map (·.2), s.size ≤ 4096
  hl : x.held.length ≤ 7
theorem LEnd.Ok.pk {x : LEnd} (h : x.Ok) : PkOk x := by
  have h1 := h.b1; have h2 := h.b2; have h3 := h.w1; have h4 := h.w2
  refine ⟨⟨by omega, by omega⟩, ⟨by omega, by omega⟩, h.qs, h.ql, fun s hs => ?_, fun s hs => ?_, h.held_len⟩
  · obtain ⟨g, hg, rfl⟩ := List.mem_map.1 hs
    have := h.ho g hg
    have h5 := grows_mem h.hg g hg
    unfold HeldOk at this
    exact ⟨by omega, by omega⟩
  · obtain ⟨g, hg, rfl⟩ := List.mem_map.1 hs
    have := h.ho g hg
    unfold HeldOk at this
    omega
theorem pack_lens {x : LEnd} (h : PkOk x) : (encInt x.base).length ≤ 10 ∧ (encInt x.want).length ≤ 10 ∧ (encStrings x.queue).length ≤ 262794 ∧ (encInts (x.held.map (·.1))).length ≤ 80 ∧ (encStrings (x.held.map (·.2))).length ≤ 28752 := by
  have h1 := encStrings_bound 4096 64 h.q h.ql (by omega) (by omega)
  have h2 := encStrings_bound 4096 7 h.t (by rw [List.length_map]; exact h.hl) (by omega) (by omega)
  have h3 := encInts_bound 7 h.n (by rw [List.length_map]; exact h.hl) (by omega)
  exact ⟨(encInt_len h.b).2, (encInt_len h.w).2, by omega, by omega, by omega⟩
theorem G_Concat (l : List (List UInt8)) (hn : l.length ≤ 1000) (hl : (l.flatMap fun x => x).length ≤ 1000000) : g_slices_Concat_byte_byte (l.map B8) = some (B8 (l.flatMap fun x => x)) := by
  have hml : (l.map B8).length = l.length := List.length_map _
  have hget : ∀ i, i < l.length → (l.map B8)[((i : Int)).toNat]! = B8 (l[i]!) := fun i hi => by
    rw [getE _ _ (by rw [hml]; exact hi), List.getElem_map, getElem!_pos l i hi]
  have hpre : ∀ i, i < l.length → ((l.take (i + 1)).flatMap fun x => x) = ((l.take i).flatMap fun x => x) ++ l[i]! := fun i hi => by
    rw [take_flat (fun x : List UInt8 => x) l i hi, getElem!_pos l i hi]
  have hle : ∀ i, ((l.take i).flatMap fun x => x).length ≤ 1000000 := fun i => Nat.le_trans (flat_le (fun x : List UInt8 => x) l i) hl
  have h1 := loopO_up (b := g_slices_Concat_byte_byte_l9 (l.map B8)) (fun i => ((((l.take i).flatMap fun x => x).length : Int), (i : Int))) 0 l.length ((l.flatMap fun x => x).length : Int) (Nat.zero_le _) (fun i _ hi => by
    have h2 := hle (i + 1)
    rw [hpre i hi, List.length_append] at h2
    simp only [g_slices_Concat_byte_byte_l9]
    rw [cndT _ _ (by rw [hml]; omega), gd_pos (by rw [hml]; omega), hget i hi, bnd_eq, B8_len, w_id (by omega), cndF _ _ (by omega), w_id (by omega), hpre i hi, List.length_append]
    rfl) (by
    simp only [g_slices_Concat_byte_byte_l9]
    rw [cndF _ _ (by rw [hml]; omega), List.take_length])
  have h2 := list_up (enc1 := fun x : List UInt8 => x) (b := g_slices_Concat_byte_byte_l34 (l.map B8)) l [] (fun o i h ho => by
    simp only [g_slices_Concat_byte_byte_l34]
    rw [cndT _ _ (by rw [hml]; omega), gd_pos (by rw [hml]; omega), hget i h, getElem!_pos l i h, ← B8_app, gd_pos (by rw [B8_len, List.length_append]; simp only [List.length_nil] at ho; omega), w_id (by omega)]
    rfl) (fun o => by
    simp only [g_slices_Concat_byte_byte_l34]
    rw [cndF _ _ (by rw [hml]; omega)])
  have h1' : loopO (g_slices_Concat_byte_byte_l9 (l.map B8)) ((0 : Int), (0 : Int)) = some ((l.flatMap fun x => x).length : Int) := h1
  have h2' : loopO (g_slices_Concat_byte_byte_l34 (l.map B8)) (([] : List Int), (0 : Int)) = some (B8 (l.flatMap fun x => x)) := h2
  unfold g_slices_Concat_byte_byte g_slices_Grow_byte_byte
  rw [h1', bnd_eq, gd_pos (by omega), bnd_eq, h2', bnd_eq]
theorem pack_loop (x : LEnd) (h : x.held.length ≤ 7) : loopO (g_link_Pack_l21 (ofL x)) (([] : List Int), ([] : List ByteArray), (0 : Int)) = some (x.held.map (·.1), x.held.map (·.2)) := by
  have hl : (ofL x).vHeld = x.held.map ofH := rfl
  have hll : (x.held.map ofH).length = x.held.length := List.length_map _
  have := loopO_up (b := g_link_Pack_l21 (ofL x)) (fun i => ((x.held.take i).map (·.1), (x.held.take i).map (·.2), (i : Int))) 0 x.held.length (x.held.map (·.1), x.held.map (·.2)) (Nat.zero_le _) (fun i _ hi => by
    have hge : (x.held.map ofH)[((i : Int)).toNat]! = ofH x.held[i] := by rw [getE _ _ (by rw [hll]; exact hi), List.getElem_map]
    simp only [g_link_Pack_l21, hl]
    rw [cndT _ _ (by rw [hll]; omega), gd_pos (by rw [hll]; omega), hge, gd_pos (by simp; omega), gd_pos (by simp; omega), w_id (by omega), List.take_succ_eq_append_getElem hi, List.map_append, List.map_append]
    rfl) (by
    simp only [g_link_Pack_l21, hl]
    rw [cndF _ _ (by rw [hll]; omega), List.take_length])
  exact this
theorem G_Pack (x : LEnd) (hm : x.Mach) : g_link_Pack (ofL x) = some (if x.okB then (B8 x.pack, 0) else ([], 3)) := by
  unfold g_link_Pack
  rw [G_Check x hm.hs hm.q hm.h, bnd_eq]
  cases hb : x.okB
  · rfl
  · have hk := ((LEnd.okB_iff x).1 hb).pk
    obtain ⟨l1, l2, l3, l4, l5⟩ := pack_lens hk
    have e := G_Concat [encInt x.base, encInt x.want, encStrings x.queue, encInts (x.held.map (·.1)), encStrings (x.held.map (·.2))] (by simp) (by simp; omega)
    have e' : g_slices_Concat_byte_byte [B8 (encInt x.base), B8 (encInt x.want), B8 (encStrings x.queue), B8 (encInts (x.held.map (·.1))), B8 (encStrings (x.held.map (·.2)))] = some (B8 x.pack) := by
      refine Eq.trans e ?_
      unfold LEnd.pack
      simp only [List.flatMap_cons, List.flatMap_nil, List.append_nil, List.append_assoc]
    rw [if_pos rfl, cndF _ _ (fun h => h rfl), pack_loop x hk.hl, bnd_eq]
    dsimp only
    rw [show (ofL x).vBase = x.base from rfl, show (ofL x).vWant = x.want from rfl, show (ofL x).vQueue = x.queue from rfl, G_Int hk.b, bnd_eq, G_Int hk.w, bnd_eq, G_Strings (fun s hs => by have := hk.q s hs; omega) (by omega) (by have := hk.ql; omega), bnd_eq,
      G_Ints hk.n (by omega) (by rw [List.length_map]; have := hk.hl; omega), bnd_eq, G_Strings (fun s hs => by have := hk.t s hs; omega) (by omega) (by rw [List.length_map]; have := hk.hl; omega), bnd_eq, e', bnd_eq]
    rfl
end Go.Proofs.Ytakbadleipbngaa
