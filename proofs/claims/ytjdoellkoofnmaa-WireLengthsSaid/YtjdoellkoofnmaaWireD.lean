/-
  The encoders of digests. Conditions: none.
-/
import Derived.Test.YtjdoellkoofnmaaWireC
namespace Go.Proofs.Ytjdoellkoofnmaa
open Go.RowKit
def dg (d : List UInt8) : Value := .agg (d.map bv).toArray
def encDigests (l : List (List UInt8)) : List UInt8 := encInt l.length ++ l.flatten
theorem aggDigest : Agg Try.prog 57 16 := ⟨⟨_, Try.underlying57, rfl⟩, by kernel_rfl⟩

theorem own_made {w : World} {cs : Array Value} {e : TypeId} : (w.alloc (.cells cs e)).ownsRow w.heap.size e 1 (.slice (some ⟨w.heap.size, 0, none⟩) 0 cs.size) 0 [] ∨ maxLen < cs.size := by
  by_cases h : cs.size ≤ maxLen
  · exact .inl (World.ownsRow_made w cs cs.size (Nat.le_refl _) h (by simp))
  · exact .inr (by omega)

set_option maxHeartbeats 400000 in
theorem clone_bytes (l : List UInt8) (v : Value) (w : World) (hl : Sl w v 1 l.length (l.map bv)) (hs : l.length ≤ 140737488355000) (hnil : v ≠ .slice none 0 0 ∧ (∀ n c, v ≠ .slice none n c)) :
    Calls Try.prog 48 #[v] w (Made l w) := by
  obtain ⟨A, c, rfl, hnc, hcm, hr⟩ := hl
  obtain ⟨a, rfl⟩ : ∃ a, A = some a := by
    cases A with
    | none => exact absurd rfl (hnil.2 _ _)
    | some a => exact ⟨a, rfl⟩
  clear hnil
  have hsl : Sl w (.slice (some a) l.length c) 1 l.length (l.map bv) := ⟨_, _, rfl, hnc, hcm, hr⟩
  have hb0 : Below w.heap.size w (w.alloc (.cells #[] 5)) := (Below.refl _ _).alloc (Nat.le_refl _) _
  have hnl := fun W : World => Go.Lib.run_eql_slice_nil (P := Try.prog) W _ _ (some a) l.length c 0 0 Try.underlying28
  go_enter Try.func48, Try.ntmps48
  go_wp2_with (at_builtin; refine wpList_append_all _ rfl _ _ _ rfl elBytes w.heap.size _ 0 [] rfl (World.ownsRow_made w #[] 0 (Nat.le_refl _) (by simp) rfl) _ _ _ rfl (hsl.alloc _) (bvs_one _) (by omega) (by omega) (by simp) w w.heap.size hb0 (Nat.le_refl _) ?_; intro v' w' hown' hb')
  go_ret
  exact ⟨_, rfl, by simpa using hown', hb'⟩

set_option maxHeartbeats 400000 in
theorem digest_any (d : List UInt8) (w : World) (hd : d.length = 16) :
    Calls Try.prog 41 #[dg d] w (Made d w) := by
  have hd' := Lib.hid hd
  go_enter Try.func41, Try.ntmps41
  unfold dg
  clear hd
  go_wp2_with fail
  refine (clone_bytes d _ _ ?_ (by rw [hd'.out]; omega) ⟨by simp, by simp⟩).mono ?_
  · rw [hd'.out]; exact Sl.built w (d.map bv).toArray _ 16 1 (by simp [hd'.out]) (by simp [maxLen])
  rintro e w1 ⟨v, rfl, hown, hb⟩
  go_wp2
  go_ret
  exact ⟨_, rfl, own_mono hown (by simp), ((Below.refl _ _).alloc (Nat.le_refl _) _).trans (hb.mono (by simp))⟩

theorem flat_get {l : List (List UInt8)} (h : ∀ d ∈ l, d.length = 16) : ∀ (k : Nat) (d : List UInt8), l[k]? = some d → ∀ (j : Nat) (u : UInt8), d[j]? = some u → l.flatten[k * 16 + j]? = some u := by
  induction l with
  | nil => intro k d hd; simp at hd
  | cons a l ih =>
    intro k d hd j u hu
    have ha : a.length = 16 := h a (by simp)
    cases k with
    | zero =>
      simp only [List.getElem?_cons_zero, Option.some.injEq] at hd
      subst hd
      have hj : j < a.length := by
        rcases Nat.lt_or_ge j a.length with hj | hj
        · exact hj
        · rw [List.getElem?_eq_none hj] at hu; cases hu
      rw [List.flatten_cons, List.getElem?_append_left (by omega)]
      simpa using hu
    | succ k =>
      simp only [List.getElem?_cons_succ] at hd
      rw [List.flatten_cons, List.getElem?_append_right (by omega)]
      have := ih (fun d hd => h d (by simp [hd])) k d hd j u hu
      rw [← this]
      congr 1
      omega
theorem take_flatten {l : List (List UInt8)} {k : Nat} {d : List UInt8} (h : l[k]? = some d) : (l.take (k + 1)).flatten = (l.take k).flatten ++ d := by
  rw [List.take_add_one, h]; simp
theorem flatten_le (l : List (List UInt8)) (k : Nat) : ((l.take k).flatten).length ≤ l.flatten.length := by
  conv => rhs; rw [← List.take_append_drop k l]
  rw [List.flatten_append]; simp
def DigRel (l : List (List UInt8)) (w : World) (out i : Value) (wr : World) : Prop :=
  ∃ k : Nat, k ≤ l.length ∧ i = .int .i64 (k : Int) ∧
    wr.ownsRow w.heap.size 5 1 out (encInt l.length ++ (l.take k).flatten).length ((encInt l.length ++ (l.take k).flatten).map bv) ∧ Below w.heap.size w wr

set_option maxHeartbeats 400000 in
theorem list_digest (l : List (List UInt8)) (v : Value) (w : World) (hl : Sl w v 16 l.length (l.flatten.map bv)) (hi : ∀ d ∈ l, d.length = 16) (hs : (encDigests l).length ≤ 140737488355000) (hn : l.length ≤ 140737488355328) :
    Calls Try.prog 40 #[v, .func (.func 41) #[] #[]] w (Made (encDigests l) w) := by
  obtain ⟨A, c, rfl, hnc, hcm, hr⟩ := hl
  unfold maxLen at hcm
  go_enter Try.func40, Try.ntmps40
  go_wp2_with fail
  refine (wire_Int _ _ (by omega) (by omega)).mono ?_
  rintro e w1 ⟨v, rfl, hown, hb⟩
  go_wp2_with fail
  go_loopw [5, 13] (DigRel l w) (fun _ i _ => l.length - (intOf i).toNat)
  case atStart => exact ⟨0, Nat.zero_le _, rfl, by simpa using hown, hb⟩
  case round =>
    obtain ⟨k, hk, rfl, hown, hb⟩ := hrel
    have hr1 := hr.below hb
    by_cases hlt : k < l.length
    · have hx : l[k]? = some l[k] := List.getElem?_eq_getElem hlt
      generalize l[k] = d at hx
      have hd := hi d (List.mem_of_getElem? hx)
      obtain ⟨ad, rfl, hab, hc⟩ := hr1.cells_at hlt (d.map bv) (fun j u hu => by
        rw [List.getElem?_map] at hu ⊢
        cases hj : d[j]? with
        | none => rw [hj] at hu; cases hu
        | some b => rw [hj] at hu; rw [flat_get hi k d hx j b hj]; exact hu)
      have hle := flatten_le l (k + 1)
      have hst := take_flatten hx
      have hsz : (encInt l.length ++ (l.take k).flatten).length + d.length ≤ 140737488355000 := by
        rw [hst] at hle
        simp only [encDigests, List.length_append] at hs hle ⊢
        omega
      have HX := Lib.hid hx
      have HC := Lib.hid hc
      have HD := Lib.hid hd
      clear hx hst hle hc hd
      go_wp2_with (first
        | (with_reducible refine wpList_load_cells (o := ⟨some 16, _, _, _, _, _⟩) rfl _ _ rfl (ad.add (k * 16)) rfl (d.map bv) aggDigest (by simp [HD.out]) HC.out ?_)
        | (with_reducible refine wpList_store_fresh (o := ⟨none, _, _, _, _, _⟩) rfl _ _ _ rfl _ (d.map bv).toArray rfl rfl aggDigest rfl (by simp [HD.out]) (by simpa using bvs_one d) ?_)
        | (with_reducible refine wpList_load_fresh (o := ⟨some 19, _, _, _, _, _⟩) rfl _ _ rfl (d.map bv).toArray _ rfl aggDigest (by simp [HD.out]) ?_))
      have hb1 := hb.alloc hb.size (.cells (d.map bv).toArray 57)
      refine (digest_any d _ HD.out).mono ?_
      rintro e w2 ⟨v2, rfl, hown2, hb2⟩
      have hb3 := hb1.trans (hb2.mono hb1.size)
      go_wp2_with (at_builtin; refine wpList_append_all _ rfl _ _ _ rfl elBytes w.heap.size _ _ _ rfl (own_below (hown.alloc _) hb2) _ _ _ rfl (Sl.of_own hown2) (bvs_one _) (by omega) (by omega) hb3.size w w.heap.size hb3 (Nat.le_refl _) ?_; intro v' w' hown' hb')
      go_roundw
      case rel => exact ⟨k + 1, hlt, by go_num, by rw [take_flatten HX.out, ← List.append_assoc, List.length_append, List.map_append]; exact hown', hb'⟩
      case measure => simp [intOf]; omega
    · obtain rfl : k = l.length := by omega
      go_wp2
      go_ret
      rw [List.take_length] at hown
      exact ⟨_, rfl, hown, hb⟩

set_option maxHeartbeats 400000 in
theorem ref_Digests (l : List (List UInt8)) (v : Value) (w : World) (hl : Sl w v 16 l.length (l.flatten.map bv)) (hi : ∀ d ∈ l, d.length = 16) (hs : (encDigests l).length ≤ 140737488355000) (hn : l.length ≤ 140737488355328) :
    Calls Try.prog 23 #[v] w (Made (encDigests l) w) := by
  obtain ⟨A, c, rfl, hnc, hcm, hr⟩ := hl
  unfold maxLen at hcm
  go_enter Try.func23, Try.ntmps23
  go_wp2_with fail
  refine (ref_Int _ _ (by omega) (by omega)).mono ?_
  rintro e w1 ⟨v, rfl, hown, hb⟩
  go_wp2_with fail
  go_loopw [3, 4] (DigRel l w) (fun _ i _ => l.length - (intOf i).toNat)
  case atStart => exact ⟨0, Nat.zero_le _, rfl, by simpa using hown, hb⟩
  case round =>
    obtain ⟨k, hk, rfl, hown, hb⟩ := hrel
    have hr1 := hr.below hb
    by_cases hlt : k < l.length
    · have hx : l[k]? = some l[k] := List.getElem?_eq_getElem hlt
      generalize l[k] = d at hx
      have hd := hi d (List.mem_of_getElem? hx)
      obtain ⟨ad, rfl, hab, hc⟩ := hr1.cells_at hlt (d.map bv) (fun j u hu => by
        rw [List.getElem?_map] at hu ⊢
        cases hj : d[j]? with
        | none => rw [hj] at hu; cases hu
        | some b => rw [hj] at hu; rw [flat_get hi k d hx j b hj]; exact hu)
      have hle := flatten_le l (k + 1)
      have hst := take_flatten hx
      have hsz : (encInt l.length ++ (l.take k).flatten).length + d.length ≤ 140737488355000 := by
        rw [hst] at hle
        simp only [encDigests, List.length_append] at hs hle ⊢
        omega
      have hsl : Sl wr (.slice (some (ad.add (k * 16))) 16 16) 1 d.length (d.map bv) := by
        rw [hd]
        refine ⟨_, _, rfl, Nat.le_refl _, by simp [maxLen], by simp [hd], fun _ => ⟨_, rfl, ?_, hc⟩⟩
        rw [block_of_add]; exact Nat.lt_of_lt_of_le hab hb.size
      have HX := Lib.hid hx
      have HD := Lib.hid hd
      clear hx hst hle hc hd
      go_wp2_with (at_builtin; refine wpList_append_all _ rfl _ _ _ rfl elBytes w.heap.size _ _ _ rfl hown _ _ _ rfl hsl (bvs_one _) (by omega) (by omega) hb.size w w.heap.size hb (Nat.le_refl _) ?_; intro v' w' hown' hb')
      go_roundw
      case rel => exact ⟨k + 1, hlt, by go_num, by rw [take_flatten HX.out, ← List.append_assoc, List.length_append, List.map_append]; exact hown', hb'⟩
      case measure => simp [intOf]; omega
    · obtain rfl : k = l.length := by omega
      go_wp2
      go_ret
      rw [List.take_length] at hown
      exact ⟨_, rfl, hown, hb⟩

set_option maxHeartbeats 400000 in
theorem wire_Digests (l : List (List UInt8)) (v : Value) (w : World) (hl : Sl w v 16 l.length (l.flatten.map bv)) (hi : ∀ d ∈ l, d.length = 16) (hs : (encDigests l).length ≤ 140737488355000) (hn : l.length ≤ 140737488355328) :
    Calls Try.prog 22 #[v] w (Made (encDigests l) w) := by
  go_enter Try.func22, Try.ntmps22
  go_wp2_with fail
  refine (list_digest l v _ hl hi hs hn).mono ?_
  rintro e w1 ⟨v, rfl, hown, hb⟩
  go_wp2
  go_ret
  exact ⟨_, rfl, hown, hb⟩
end Go.Proofs.Ytjdoellkoofnmaa
