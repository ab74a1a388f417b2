/-
  The law on canonical encodings: the walk. Conditions: none.
-/
import Derived.Test.YtjdoellkoofnmaaWireS
namespace Go.Proofs.Ytjdoellkoofnmaa
open Go.RowKit
theorem Sl.firstn {w : World} {A : Option Addr} {l : List UInt8} {c : Nat} (h : Sl w (.slice A l.length c) 1 l.length (l.map bv)) (u : Nat) (hu : u ≤ l.length) : Sl w (.slice A u c) 1 (l.take u).length ((l.take u).map bv) := by
  obtain ⟨A', c', he, h1, h2, hr⟩ := h
  injection he with e1 e2 e3
  subst e1; subst e3
  rw [List.length_take, Nat.min_eq_left hu, List.map_take]
  have := hr.first hu
  rw [Nat.mul_one] at this
  exact ⟨_, _, rfl, by omega, h2, this⟩
set_option maxHeartbeats 1000000 in
theorem is_err (v : Value) (u e0 : Int) (p : Value) (w : World) (he : (e0 != 0) = true) :
    Calls Try.prog 37 #[v, .int .i64 u, .int .i64 e0, p] w (Says true w) := by
  go_enter Try.func37, Try.ntmps37
  go_wp2_with fail
  go_ret
  exact ⟨rfl, Below.refl _ _⟩
set_option maxHeartbeats 1000000 in
theorem is_ok (l E : List UInt8) (v : Value) (A : Option Addr) (c u : Nat) (g : Addr) (w : World) (hv : Sl w v 1 E.length (E.map bv)) (hl : Sl w (.slice A l.length c) 1 l.length (l.map bv)) (hg : w.cell? g = some (.slice A l.length c)) (hu : u ≤ l.length) (hu1 : 1 ≤ u) (hE : l.take u = E) :
    Calls Try.prog 37 #[v, .int .i64 (u : Int), .int .i64 0, .pointer (some g)] w (Says true w) := by
  have HE := Lib.hid hE
  have hle := hl.le_cap
  have h1 := hle.1
  have h2 : c ≤ 9223372036854775807 := by have := hle.2; unfold maxLen at this; omega
  clear hle hE
  go_enter Try.func37, Try.ntmps37
  go_wp2_with fail
  refine (Same_any E (l.take u) _ _ _ hv (hl.firstn u hu)).mono ?_
  rintro e w1 ⟨rfl, hb1⟩
  rw [show decide (E = l.take u) = true from by rw [HE.out]; simp]
  go_wp2_with fail
  go_ret
  exact ⟨rfl, hb1⟩
theorem getList_u {α : Type} {one : List UInt8 → α × Int × Int} (l : List UInt8) (least : Int) : 0 ≤ (getList one least l).2.1 := by
  have hgo : ∀ (n a : Nat) (acc : List α), 0 ≤ (getGo one l n a acc).2.1 := by
    intro n
    induction n with
    | zero => intro a acc; simp [getGo]
    | succ n ih =>
      intro a acc
      rw [getGo]
      split
      · simp
      · exact ih _ _
  unfold getList
  split
  · simp
  · exact hgo _ _ _
theorem getInt_u (l : List UInt8) : 0 ≤ (getInt l).2.1 := by
  rcases getInt_cases l with ⟨n, u, h, _⟩ | h | h
  · rw [h]; simp
  · rw [h]; simp
  · rw [h]; simp
theorem getBytes_u (l : List UInt8) : 0 ≤ (getBytes l).2.1 := by
  rcases getBytes_cases l with ⟨n, u, h, _⟩ | h | h
  · rw [h]; simp
  · rw [h]; simp
  · rw [h]; simp
/-- What 'is' says of a decoding r of the whole of l, E being the encoding of its value. -/
theorem is_any (l E : List UInt8) (v : Value) (A : Option Addr) (c : Nat) (a b : Int) (g : Addr) (w : World) (hv : Sl w v 1 E.length (E.map bv)) (hl : Sl w (.slice A l.length c) 1 l.length (l.map bv)) (hg : w.cell? g = some (.slice A l.length c))
    (h : b = 0 → ∃ u : Nat, a = (u : Int) ∧ u ≤ l.length ∧ 1 ≤ u ∧ l.take u = E) :
    Calls Try.prog 37 #[v, .int .i64 a, .int .i64 b, .pointer (some g)] w (Says true w) := by
  by_cases hb : b = 0
  · obtain ⟨u, rfl, h1, h2, h3⟩ := h hb
    subst hb
    exact is_ok l E v A c u g w hv hl hg h1 h2 h3
  · exact is_err v a b (.pointer (some g)) w (by simp [hb])
theorem cond_int (l : List UInt8) : (getInt l).2.2 = 0 → ∃ u : Nat, (getInt l).2.1 = (u : Int) ∧ u ≤ l.length ∧ 1 ≤ u ∧ l.take u = encInt (getInt l).1 := by
  rcases getInt_cases l with ⟨n, u, h, h1, h2, _⟩ | h | h
  · have h3 := getInt_canon h
    rw [h]
    intro _
    exact ⟨u, rfl, h2, h1, h3.1⟩
  · rw [h]; simp
  · rw [h]; simp
theorem cond_bytes (l : List UInt8) : (getBytes l).2.2 = 0 → ∃ u : Nat, (getBytes l).2.1 = (u : Int) ∧ u ≤ l.length ∧ 1 ≤ u ∧ l.take u = encB (getBytes l).1 := by
  rcases getBytes_cases l with ⟨n, u, h, h1, h2⟩ | h | h
  · have h3 := getBytes_canon h
    rw [h]
    intro _
    exact ⟨u, rfl, h2, h1, h3.1⟩
  · rw [h]; simp
  · rw [h]; simp
theorem encList_pos {α : Type} (f : α → List UInt8) (xs : List α) : 1 ≤ (encList f xs).length := by
  unfold encList; rw [List.length_append]; have := enc_pos (xs.length : Int); omega
theorem cond_list {α : Type} {f : α → List UInt8} {one : List UInt8 → α × Int × Int} {good : α → Prop} (C : Codec f one good) (l : List UInt8) : (getList one 1 l).2.2 = 0 →
    ∃ u : Nat, (getList one 1 l).2.1 = (u : Int) ∧ u ≤ l.length ∧ 1 ≤ u ∧ l.take u = encList f (getList one 1 l).1 := by
  intro h
  have h1 := getList_u (one := one) l 1
  obtain ⟨u, hu⟩ := Int.eq_ofNat_of_zero_le h1
  obtain ⟨c1, c2, c3⟩ := getList_canon C (l := l) (r := (getList one 1 l).1) (u := u) (by rw [← hu, ← h])
  have := encList_pos f (getList one 1 l).1
  exact ⟨u, hu, c3, by omega, c1⟩
theorem cond_digests (l : List UInt8) : (getList oneD 16 l).2.2 = 0 → ∃ u : Nat, (getList oneD 16 l).2.1 = (u : Int) ∧ u ≤ l.length ∧ 1 ≤ u ∧ l.take u = encDigests (getList oneD 16 l).1 := by
  intro h
  have h1 := getList_u (one := oneD) l 16
  obtain ⟨u, hu⟩ := Int.eq_ofNat_of_zero_le h1
  obtain ⟨c1, c2, c3⟩ := getDigests_canon (l := l) (r := (getList oneD 16 l).1) (u := u) (by rw [← hu, ← h])
  have := enc_pos ((getList oneD 16 l).1.length : Int)
  have h4 : (encDigests (getList oneD 16 l).1).length = (encInt ((getList oneD 16 l).1.length : Int)).length + ((getList oneD 16 l).1.flatten).length := by unfold encDigests; rw [List.length_append]
  exact ⟨u, hu, c3, by omega, c1⟩
theorem enc_of_cond {l E : List UInt8} {a b : Int} (h : b = 0 → ∃ u : Nat, a = (u : Int) ∧ u ≤ l.length ∧ 1 ≤ u ∧ l.take u = E) (hb : b = 0) : E.length ≤ l.length := by
  obtain ⟨u, _, h1, _, h3⟩ := h hb
  rw [← h3, List.length_take]
  omega

theorem getList_good {α : Type} {one : List UInt8 → α × Int × Int} {good : α → Prop} (h : ∀ l, (one l).2.2 = 0 → good (one l).1) (l : List UInt8) (least : Int) : ∀ x ∈ (getList one least l).1, good x := by
  have hgo : ∀ (n a : Nat) (acc : List α), (∀ x ∈ acc, good x) → ∀ x ∈ (getGo one l n a acc).1, good x := by
    intro n
    induction n with
    | zero => intro a acc hacc; exact hacc
    | succ n ih =>
      intro a acc hacc
      rw [getGo]
      split
      · simp
      · rename_i h0
        refine ih _ _ (fun x hx => ?_)
        rcases List.mem_append.1 hx with hx | hx
        · exact hacc x hx
        · rw [List.mem_singleton.1 hx]; exact h _ (by simpa using h0)
  unfold getList
  split
  · simp
  · exact hgo _ _ _ (by simp)
theorem getList_nil {α : Type} {one : List UInt8 → α × Int × Int} (l : List UInt8) (least : Int) : (getList one least l).2.2 = 0 ∨ (getList one least l).1 = [] := by
  have hgo : ∀ (n a : Nat) (acc : List α), (getGo one l n a acc).2.2 = 0 ∨ (getGo one l n a acc).1 = [] := by
    intro n
    induction n with
    | zero => intro a acc; exact .inl rfl
    | succ n ih =>
      intro a acc
      rw [getGo]
      split
      · exact .inr rfl
      · exact ih _ _
  unfold getList
  split
  · exact .inr rfl
  · exact hgo _ _ _
theorem getInt_good (l : List UInt8) : I64 (getInt l).1 := by
  rcases getInt_cases l with ⟨n, u, h, _, _, h3⟩ | h | h
  · rw [h]; exact h3
  · rw [h]; exact ⟨by decide, by decide⟩
  · rw [h]; exact ⟨by decide, by decide⟩
theorem getBytes_size (l : List UInt8) : (getBytes l).1.length ≤ l.length := by
  unfold getBytes
  simp only
  split
  · simp
  · rw [List.length_take, List.length_drop]; omega
theorem list_bound {α : Type} {f : α → List UInt8} {one : List UInt8 → α × Int × Int} {good : α → Prop} (C : Codec f one good) (l : List UInt8) : (encList f (getList one 1 l).1).length ≤ l.length + 10 := by
  rcases getList_nil (one := one) l 1 with h | h
  · have := enc_of_cond (cond_list C l) h; omega
  · rw [h]
    unfold encList
    have := (encInt_len (i64_nat (k := 0) (by omega))).2
    simp only [List.flatMap_nil, List.append_nil, List.length_nil]
    omega
theorem digests_bound (l : List UInt8) : (encDigests (getList oneD 16 l).1).length ≤ l.length + 10 := by
  rcases getList_nil (one := oneD) l 16 with h | h
  · have := enc_of_cond (cond_digests l) h; omega
  · rw [h]
    unfold encDigests
    have := (encInt_len (i64_nat (k := 0) (by omega))).2
    simp only [List.flatten_nil, List.append_nil, List.length_nil]
    omega
theorem len_le_flat {α : Type} (f : α → List UInt8) (xs : List α) (hf : ∀ x, 1 ≤ (f x).length) : xs.length ≤ (encList f xs).length := by
  unfold encList; rw [List.length_append]; have := flat_ge hf xs; omega
theorem encB_pos (x : List UInt8) : 1 ≤ (encB x).length := by unfold encB; rw [List.length_append]; have := enc_pos (x.length : Int); omega
theorem len_le_digests (xs : List (List UInt8)) (hg : ∀ x ∈ xs, x.length = 16) : xs.length ≤ (encDigests xs).length := by
  unfold encDigests; rw [List.length_append, flatten_len hg]; omega
theorem encStrings_map (xs : List (List UInt8)) : encStrings (xs.map ofBytes) = encList encB xs := by
  rw [encStrings_eq, List.map_map]
  congr 1
  rw [show ((fun s : ByteArray => s.data.toList) ∘ ofBytes) = id from rfl, List.map_id]
theorem encBytes_of (x : List UInt8) : encBytes (ofBytes x) = encB x := by rw [encBytes_eq]; rfl

set_option maxHeartbeats 2000000 in
set_option maxRecDepth 100000 in
theorem canonical_walk (l : List UInt8) (v : Value) (w : World) (hl : Sl w v 1 l.length (l.map bv)) (hs : l.length ≤ 140737488355328) :
    Calls Try.prog 7 #[v] w (Says true w) := by
  obtain ⟨A, c, rfl, hnc, hcm, hl0⟩ := hl.open_
  clear hl
  have hb0 : Below w.heap.size w (w.alloc (.cells #[.slice A l.length c] 28)) := bl_alloc (Below.refl _ _) _
  have hl1 := hl0.alloc (.cells #[.slice A l.length c] 28)
  have hg1 : (w.alloc (.cells #[.slice A l.length c] 28)).cell? ⟨w.heap.size, 0, none⟩ = some (.slice A l.length c) := by rw [World.cell?_alloc_at _ _ _ _ rfl]; rfl
  by_cases hlen : 2000 < l.length
  · go_enter Try.func7, Try.ntmps7
    go_wp2_with fail
    refine (sanity_true _).mono ?_
    rintro e w1 ⟨rfl, hb1⟩
    go_wp2_with fail
    go_ret
    exact ⟨rfl, bl_next hb0 hb1⟩
  · go_enter Try.func7, Try.ntmps7
    go_wp2_with fail
    refine (opq (wire_GetInt l _ _ hl1)).mono ?_
    rintro e w1 ⟨rfl, hb1⟩
    have hg2 : w1.cell? ⟨w.heap.size, 0, none⟩ = some (.slice A l.length c) := (hb1.cell (by simp)).trans hg1
    replace hl1 := hl1.below hb1
    replace hb1 := bl_next hb0 hb1
    clear hb0 hg1
    have hsz1 : w.heap.size < w1.heap.size := by
      obtain hlt | hge := Nat.lt_or_ge w.heap.size w1.heap.size
      · exact hlt
      · simp [World.cell?, Array.getElem?_eq_none hge] at hg2
    unfold trip
    go_wp2_with fail
    refine (wire_GetBytes l _ _ hl1).mono ?_
    rintro e w2 ⟨rfl, rfl⟩
    unfold tripB
    go_wp2_with fail
    refine (wire_GetInts l _ _ hl1 (by omega)).mono ?_
    rintro e w3 ⟨vI, rfl, hI, hb3⟩
    have hg3 : w3.cell? ⟨w.heap.size, 0, none⟩ = some (.slice A l.length c) := (hb3.cell hsz1).trans hg2
    replace hl1 := hl1.below hb3
    have hsz3 := Nat.lt_of_lt_of_le hsz1 hb3.size
    replace hb3 := bl_next hb1 hb3
    replace hI := Sl.of_own hI
    clear hb1 hg2 hsz1
    go_wp2_with fail
    refine (wire_GetStrings l _ _ hl1 (by omega)).mono ?_
    rintro e w4 ⟨vS, rfl, hS, hb4⟩
    have hg4 : w4.cell? ⟨w.heap.size, 0, none⟩ = some (.slice A l.length c) := (hb4.cell hsz3).trans hg3
    replace hl1 := hl1.below hb4
    replace hI := hI.below hb4
    have hsz4 := Nat.lt_of_lt_of_le hsz3 hb4.size
    replace hb4 := bl_next hb3 hb4
    replace hS := strs_sl (Sl.of_own hS)
    clear hb3 hg3 hsz3
    go_wp2_with fail
    refine (wire_GetDigests l _ _ hl1 (by omega)).mono ?_
    rintro e w5 ⟨vD, rfl, hD, hb5⟩
    have hg5 : w5.cell? ⟨w.heap.size, 0, none⟩ = some (.slice A l.length c) := (hb5.cell hsz4).trans hg4
    replace hl1 := hl1.below hb5
    replace hI := hI.below hb5
    replace hS := hS.below hb5
    have hsz5 := Nat.lt_of_lt_of_le hsz4 hb5.size
    replace hb5 := bl_next hb4 hb5
    replace hD := Sl.of_own hD
    clear hb4 hg4 hsz4
    have hd16 := getDigests_len l
    have hiG := getList_good (good := I64) (fun l _ => getInt_good l) l 1
    have k1 := getInt_good l
    have k2 := getBytes_size l
    have k3 := list_bound codecInt l
    have k4 := list_bound codecBytes l
    have k5 := digests_bound l
    have m3 := len_le_flat encInt (getList getInt 1 l).1 enc_pos
    have m4 := len_le_flat encB (getList getBytes 1 l).1 encB_pos
    have m5 := len_le_digests _ hd16
    have c1 := cond_int l
    have c2 := cond_bytes l
    have c3 := cond_list codecInt l
    have c4 := cond_list codecBytes l
    have c5 := cond_digests l
    generalize getInt l = r1 at *
    generalize getBytes l = r2 at *
    generalize getList getInt 1 l = r3 at *
    generalize getList getBytes 1 l = r4 at *
    generalize getList oneD 16 l = r5 at *
    have C1 := Lib.hid c1
    have C2 := Lib.hid c2
    have C3 := Lib.hid c3
    have C4 := Lib.hid c4
    have C5 := Lib.hid c5
    clear c1 c2 c3 c4 c5
    go_wp2_with fail
    refine (sanity_true _).mono ?_
    rintro e w6 ⟨rfl, hb6⟩
    have hg6 : w6.cell? ⟨w.heap.size, 0, none⟩ = some (.slice A l.length c) := (hb6.cell hsz5).trans hg5
    replace hl1 := hl1.below hb6
    replace hI := hI.below hb6
    replace hS := hS.below hb6
    replace hD := hD.below hb6
    have hsz6 := Nat.lt_of_lt_of_le hsz5 hb6.size
    replace hb6 := bl_next hb5 hb6
    clear hb5 hg5 hsz5
    go_wp2_with fail
    refine (wire_Int r1.1 _ k1.1 k1.2).mono ?_
    rintro e w7 ⟨v7, rfl, ho, hb7⟩
    have hg7 : w7.cell? ⟨w.heap.size, 0, none⟩ = some (.slice A l.length c) := (hb7.cell hsz6).trans hg6
    replace hl1 := hl1.below hb7
    replace hI := hI.below hb7
    replace hS := hS.below hb7
    replace hD := hD.below hb7
    have hsz7 := Nat.lt_of_lt_of_le hsz6 hb7.size
    replace hb7 := bl_next hb6 hb7
    clear hb6 hg6 hsz6
    replace ho := Sl.of_own ho
    go_wp2_with fail
    refine (is_any l _ _ A c _ _ _ _ ho hl1 hg7 C1.out).mono ?_
    rintro e w8 ⟨rfl, hb8⟩
    have hg8 : w8.cell? ⟨w.heap.size, 0, none⟩ = some (.slice A l.length c) := (hb8.cell hsz7).trans hg7
    replace hl1 := hl1.below hb8
    replace hI := hI.below hb8
    replace hS := hS.below hb8
    replace hD := hD.below hb8
    have hsz8 := Nat.lt_of_lt_of_le hsz7 hb8.size
    replace hb8 := bl_next hb7 hb8
    clear hb7 hg7 hsz7
    clear ho
    go_wp2_with fail
    refine (wire_Bytes (ofBytes r2.1) _ (by show r2.1.toArray.size ≤ _; rw [List.size_toArray]; omega)).mono ?_
    rintro e w9 ⟨v9, rfl, ho, hb9⟩
    have hg9 : w9.cell? ⟨w.heap.size, 0, none⟩ = some (.slice A l.length c) := (hb9.cell hsz8).trans hg8
    replace hl1 := hl1.below hb9
    replace hI := hI.below hb9
    replace hS := hS.below hb9
    replace hD := hD.below hb9
    have hsz9 := Nat.lt_of_lt_of_le hsz8 hb9.size
    replace hb9 := bl_next hb8 hb9
    clear hb8 hg8 hsz8
    replace ho := Sl.of_own ho
    rw [encBytes_of] at ho
    go_wp2_with fail
    refine (is_any l _ _ A c _ _ _ _ ho hl1 hg9 C2.out).mono ?_
    rintro e w10 ⟨rfl, hb10⟩
    have hg10 : w10.cell? ⟨w.heap.size, 0, none⟩ = some (.slice A l.length c) := (hb10.cell hsz9).trans hg9
    replace hl1 := hl1.below hb10
    replace hI := hI.below hb10
    replace hS := hS.below hb10
    replace hD := hD.below hb10
    have hsz10 := Nat.lt_of_lt_of_le hsz9 hb10.size
    replace hb10 := bl_next hb9 hb10
    clear hb9 hg9 hsz9
    clear ho
    go_wp2_with fail
    refine (wire_Ints r3.1 _ _ hI hiG (by rw [encInts_eq]; omega) (by omega)).mono ?_
    rintro e w11 ⟨v11, rfl, ho, hb11⟩
    have hg11 : w11.cell? ⟨w.heap.size, 0, none⟩ = some (.slice A l.length c) := (hb11.cell hsz10).trans hg10
    replace hl1 := hl1.below hb11
    replace hS := hS.below hb11
    replace hD := hD.below hb11
    have hsz11 := Nat.lt_of_lt_of_le hsz10 hb11.size
    replace hb11 := bl_next hb10 hb11
    clear hb10 hg10 hsz10
    replace ho := Sl.of_own ho
    go_wp2_with fail
    refine (is_any l _ _ A c _ _ _ _ ho hl1 hg11 C3.out).mono ?_
    rintro e w12 ⟨rfl, hb12⟩
    have hg12 : w12.cell? ⟨w.heap.size, 0, none⟩ = some (.slice A l.length c) := (hb12.cell hsz11).trans hg11
    replace hl1 := hl1.below hb12
    replace hS := hS.below hb12
    replace hD := hD.below hb12
    have hsz12 := Nat.lt_of_lt_of_le hsz11 hb12.size
    replace hb12 := bl_next hb11 hb12
    clear hb11 hg11 hsz11
    clear ho
    go_wp2_with fail
    refine (wire_Strings (r4.1.map ofBytes) _ _ hS (by rw [encStrings_map]; omega) (by rw [List.length_map]; omega)).mono ?_
    rintro e w13 ⟨v13, rfl, ho, hb13⟩
    have hg13 : w13.cell? ⟨w.heap.size, 0, none⟩ = some (.slice A l.length c) := (hb13.cell hsz12).trans hg12
    replace hl1 := hl1.below hb13
    replace hD := hD.below hb13
    have hsz13 := Nat.lt_of_lt_of_le hsz12 hb13.size
    replace hb13 := bl_next hb12 hb13
    clear hb12 hg12 hsz12
    replace ho := Sl.of_own ho
    rw [encStrings_map] at ho
    go_wp2_with fail
    refine (is_any l _ _ A c _ _ _ _ ho hl1 hg13 C4.out).mono ?_
    rintro e w14 ⟨rfl, hb14⟩
    have hg14 : w14.cell? ⟨w.heap.size, 0, none⟩ = some (.slice A l.length c) := (hb14.cell hsz13).trans hg13
    replace hl1 := hl1.below hb14
    replace hD := hD.below hb14
    have hsz14 := Nat.lt_of_lt_of_le hsz13 hb14.size
    replace hb14 := bl_next hb13 hb14
    clear hb13 hg13 hsz13
    clear ho
    go_wp2_with fail
    refine (wire_Digests r5.1 _ _ hD hd16 (by omega) (by omega)).mono ?_
    rintro e w15 ⟨v15, rfl, ho, hb15⟩
    have hg15 : w15.cell? ⟨w.heap.size, 0, none⟩ = some (.slice A l.length c) := (hb15.cell hsz14).trans hg14
    replace hl1 := hl1.below hb15
    have hsz15 := Nat.lt_of_lt_of_le hsz14 hb15.size
    replace hb15 := bl_next hb14 hb15
    clear hb14 hg14 hsz14
    replace ho := Sl.of_own ho
    go_wp2_with fail
    refine (is_any l _ _ A c _ _ _ _ ho hl1 hg15 C5.out).mono ?_
    rintro e w16 ⟨rfl, hb16⟩
    have hg16 : w16.cell? ⟨w.heap.size, 0, none⟩ = some (.slice A l.length c) := (hb16.cell hsz15).trans hg15
    replace hl1 := hl1.below hb16
    have hsz16 := Nat.lt_of_lt_of_le hsz15 hb16.size
    replace hb16 := bl_next hb15 hb16
    clear hb15 hg15 hsz15
    clear ho
    go_wp2_with fail
    go_ret
    exact ⟨rfl, hb16⟩
end Go.Proofs.Ytjdoellkoofnmaa
