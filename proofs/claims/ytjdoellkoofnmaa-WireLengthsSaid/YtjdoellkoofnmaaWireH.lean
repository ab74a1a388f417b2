/-
  The decoders of lists. Conditions: none.
-/
import Derived.Test.YtjdoellkoofnmaaWireG
import Derived.Test.YtjdoellkoofnmaaBase2
namespace Go.Proofs.Ytjdoellkoofnmaa
open Go.RowKit
def getGo {α : Type} (one : List UInt8 → α × Int × Int) (l : List UInt8) : Nat → Nat → List α → List α × Int × Int
  | 0, at_, acc => (acc, (at_ : Int), 0)
  | n + 1, at_, acc => if (one (l.drop at_)).2.2 ≠ 0 then ([], 0, (one (l.drop at_)).2.2) else getGo one l n (at_ + (one (l.drop at_)).2.1.toNat) (acc ++ [(one (l.drop at_)).1])
def getList {α : Type} (one : List UInt8 → α × Int × Int) (least : Int) (l : List UInt8) : List α × Int × Int :=
  if (getLen l least).2.2 ≠ 0 then ([], 0, (getLen l least).2.2) else getGo one l (getLen l least).1.toNat (getLen l least).2.1.toNat []
/-- What a decoder of a list leaves. -/
def Got {α : Type} (t : TypeId) (size : Nat) (cells : List α → List Value) (r : List α × Int × Int) (w : World) (e : Ending) (w' : World) : Prop :=
  ∃ v, e = .returned (.tuple #[v, .int .i64 r.2.1, .int .i64 r.2.2]) ∧ w'.ownsRow w.heap.size t size v r.1.length (cells r.1) ∧ Below w.heap.size w w'
theorem Sl.bytes_from {w : World} {v : Value} {l : List UInt8} {a m : Nat} (hm : m = l.length - a) (h : Sl w v 1 m ((l.map bv).drop (a * 1))) : Sl w v 1 (l.drop a).length ((l.drop a).map bv) := by
  rw [List.length_drop, ← hm, List.map_drop]
  simpa using h
theorem elInts : El Try.prog 22 3 (.int .i64 0) 1 8 := ⟨Try.underlying22, info_parts (by kernel_rfl), rfl, by decide⟩
theorem elStrings : El Try.prog 23 9 (.string ⟨#[]⟩) 1 16 := ⟨Try.underlying23, info_parts (by kernel_rfl), rfl, by decide⟩
theorem getGo_err {α : Type} {one : List UInt8 → α × Int × Int} {l : List UInt8} {n a : Nat} {acc : List α} {x : α} {u e : Int} (h : one (l.drop a) = (x, u, e)) (he : e ≠ 0) : getGo one l (n + 1) a acc = ([], 0, e) := by
  rw [getGo, h, if_pos he]
theorem getGo_ok {α : Type} {one : List UInt8 → α × Int × Int} {l : List UInt8} {n a u : Nat} {acc : List α} {x : α} (h : one (l.drop a) = (x, (u : Int), 0)) : getGo one l (n + 1) a acc = getGo one l n (a + u) (acc ++ [x]) := by
  rw [getGo, h]; simp

/-- The relation of the loops of the decoders. -/
def GetRel {α : Type} (t : TypeId) (size : Nat) (cells : List α → List Value) (one : List UInt8 → α × Int × Int) (r : List α × Int × Int) (l : List UInt8) (n : Nat) (w : World) (at_ out i : Value) (wr : World) : Prop :=
  ∃ (k a : Nat) (acc : List α), k ≤ n ∧ a ≤ l.length ∧ at_ = .int .i64 (a : Int) ∧ i = .int .i64 (k : Int) ∧ acc.length = k ∧ getGo one l (n - k) a acc = r ∧ wr.ownsRow w.heap.size t size out k (cells acc) ∧ Below w.heap.size w wr

theorem getBytes_cases (l : List UInt8) : (∃ (x : List UInt8) (u : Nat), getBytes l = (x, (u : Int), 0) ∧ 1 ≤ u ∧ u ≤ l.length) ∨ getBytes l = ([], 0, 10) ∨ getBytes l = ([], 0, 11) := by
  unfold getBytes
  rcases getLen_cases l 1 with ⟨n, u, hg, hu1, hu2, hn⟩ | hg | hg
  · rw [hg]
    rw [Int.ediv_one] at hn
    exact .inl ⟨(l.drop u).take n, u + n, by simp, by omega, by omega⟩
  · rw [hg]; exact .inr (.inl rfl)
  · rw [hg]; exact .inr (.inr rfl)
set_option maxHeartbeats 1000000 in
set_option maxRecDepth 100000 in
theorem get_int (l : List UInt8) (v : Value) (w : World) (hl : Sl w v 1 l.length (l.map bv)) (hs : l.length ≤ 1099511627776) :
    Calls Try.prog 43 #[v, .int .i64 1, .func (.func 24) #[] #[]] w (Got 3 1 (List.map iv) (getList getInt 1 l) w) := by
  have hl0 := hl
  obtain ⟨A, c, rfl, hnc, hcm, hr⟩ := hl
  have hcm' := hcm
  unfold maxLen at hcm
  rcases getLen_cases l 1 with ⟨n, u, hg, hu1, hu2, hn⟩ | hg | hg
  · have hst : getList getInt 1 l = getGo getInt l n u [] := by unfold getList; rw [hg]; simp
    have HG := Lib.hid hg
    have HS := Lib.hid hst.symm
    clear hg hst
    rw [Int.ediv_one] at hn
    go_enter Try.func43, Try.ntmps43
    go_wp2_with fail
    refine (wire_length l _ 1 _ hl0 (by omega) (by omega)).mono ?_
    rintro e w' ⟨rfl, rfl⟩
    rw [HG.out]
    unfold trip
    go_wp2_with fail
    go_loopw [10, 12, 27] (GetRel 3 1 (List.map iv) getInt (getList getInt 1 l) l n w) (fun _ _ i _ => n - (intOf i).toNat)
    case atStart => exact ⟨0, u, [], Nat.zero_le _, hu2, rfl, rfl, rfl, HS.out, World.ownsRow_nil _ _ _ _, Below.refl _ _⟩
    case round =>
      obtain ⟨k, a, acc, hk, ha, rfl, rfl, hacc, hgo, hown, hb⟩ := hrel
      have HA := Lib.hid hacc
      have HGO := Lib.hid hgo
      clear hacc hgo
      have hsl1 := hl0.below hb
      clear hr
      by_cases hlt : k < n
      · obtain ⟨m, hm⟩ : ∃ m, n - k = m + 1 := ⟨n - k - 1, by omega⟩
        have HM := Lib.hid hm
        clear hm
        go_wp2_with (refine wpList_slice_l (o := ⟨some 33, _, _, _, _, _⟩) rfl _ _ _ rfl elBytes rfl hsl1 _ a rfl rfl (by omega) ?_; intro X d m0 hm0 hsl; have HM0 := Lib.hid hm0; clear hm0)
        refine (wire_GetInt (l.drop a) _ _ (hsl.bytes_from HM0.out)).mono ?_
        rintro e w' ⟨rfl, rfl⟩
        rcases getInt_cases (l.drop a) with ⟨x, u', hg, hu1', hu2', hx1, hx2⟩ | hg | hg
        · rw [List.length_drop] at hu2'
          rw [hg]
          have HG2 := Lib.hid hg
          clear hg
          unfold trip
          go_wp2_with (at_builtin; refine wpList_append_one _ rfl _ _ _ rfl elInts w.heap.size _ _ _ rfl hown _ rfl rfl (by omega) (by omega) hb.size w w.heap.size hb (Nat.le_refl _) ?_; intro v' w' hown' hb')
          go_roundw
          case rel => exact ⟨k + 1, a + u', acc ++ [x], hlt, by omega, by go_num, by go_num, by rw [List.length_append, HA.out]; rfl, by rw [← HGO.out, HM.out, getGo_ok HG2.out, show n - (k + 1) = m from by have := HM.out; omega], by rw [List.map_append]; exact hown', hb'⟩
          case measure => simp [intOf]; omega
        all_goals
          have hfin := getGo_err (acc := acc) (n := m) hg (by decide)
          rw [← HM.out, HGO.out] at hfin
          have HF := Lib.hid hfin
          rw [hg]
          clear hg hfin HGO
          unfold trip
          go_wp2_with fail
          go_ret3
          rw [HF.out]
          exact ⟨_, rfl, World.ownsRow_nil _ _ _ _, hb⟩
      · obtain rfl : k = n := by omega
        have hfin := HGO.out
        rw [Nat.sub_self, getGo] at hfin
        have HF := Lib.hid hfin
        clear hfin HGO HS
        go_wp2_with fail
        go_ret3
        rw [← HF.out]
        exact ⟨_, rfl, by rw [HA.out]; exact hown, hb⟩
  all_goals
    have HG := Lib.hid hg
    clear hg
    go_enter Try.func43, Try.ntmps43
    go_wp2_with fail
    refine (wire_length l _ 1 _ hl0 (by omega) (by omega)).mono ?_
    rintro e w' ⟨rfl, rfl⟩
    rw [HG.out]
    unfold trip
    go_wp2_with fail
    go_ret3
    refine ⟨.slice none 0 0, ?_, ?_, Below.refl _ _⟩
    all_goals
      unfold getList
      rw [HG.out]
    · rfl
    · exact World.ownsRow_nil _ _ _ _
set_option maxHeartbeats 1000000 in
set_option maxRecDepth 100000 in
theorem get_string (l : List UInt8) (v : Value) (w : World) (hl : Sl w v 1 l.length (l.map bv)) (hs : l.length ≤ 1099511627776) :
    Calls Try.prog 45 #[v, .int .i64 1, .func (.func 26) #[] #[]] w (Got 9 1 (List.map str) (getList getBytes 1 l) w) := by
  have hl0 := hl
  obtain ⟨A, c, rfl, hnc, hcm, hr⟩ := hl
  have hcm' := hcm
  unfold maxLen at hcm
  rcases getLen_cases l 1 with ⟨n, u, hg, hu1, hu2, hn⟩ | hg | hg
  · have hst : getList getBytes 1 l = getGo getBytes l n u [] := by unfold getList; rw [hg]; simp
    have HG := Lib.hid hg
    have HS := Lib.hid hst.symm
    clear hg hst
    rw [Int.ediv_one] at hn
    go_enter Try.func45, Try.ntmps45
    go_wp2_with fail
    refine (wire_length l _ 1 _ hl0 (by omega) (by omega)).mono ?_
    rintro e w' ⟨rfl, rfl⟩
    rw [HG.out]
    unfold trip
    go_wp2_with fail
    go_loopw [10, 12, 27] (GetRel 9 1 (List.map str) getBytes (getList getBytes 1 l) l n w) (fun _ _ i _ => n - (intOf i).toNat)
    case atStart => exact ⟨0, u, [], Nat.zero_le _, hu2, rfl, rfl, rfl, HS.out, World.ownsRow_nil _ _ _ _, Below.refl _ _⟩
    case round =>
      obtain ⟨k, a, acc, hk, ha, rfl, rfl, hacc, hgo, hown, hb⟩ := hrel
      have HA := Lib.hid hacc
      have HGO := Lib.hid hgo
      clear hacc hgo
      have hsl1 := hl0.below hb
      clear hr
      by_cases hlt : k < n
      · obtain ⟨m, hm⟩ : ∃ m, n - k = m + 1 := ⟨n - k - 1, by omega⟩
        have HM := Lib.hid hm
        clear hm
        go_wp2_with (refine wpList_slice_l (o := ⟨some 33, _, _, _, _, _⟩) rfl _ _ _ rfl elBytes rfl hsl1 _ a rfl rfl (by omega) ?_; intro X d m0 hm0 hsl; have HM0 := Lib.hid hm0; clear hm0)
        refine (wire_GetBytes (l.drop a) _ _ (hsl.bytes_from HM0.out)).mono ?_
        rintro e w' ⟨rfl, rfl⟩
        rcases getBytes_cases (l.drop a) with ⟨x, u', hg, hu1', hu2'⟩ | hg | hg
        · rw [List.length_drop] at hu2'
          rw [hg]
          have HG2 := Lib.hid hg
          clear hg
          unfold tripB str
          go_wp2_with (at_builtin; refine wpList_append_one _ rfl _ _ _ rfl elStrings w.heap.size _ _ _ rfl hown _ rfl rfl (by omega) (by omega) hb.size w w.heap.size hb (Nat.le_refl _) ?_; intro v' w' hown' hb')
          go_roundw
          case rel => exact ⟨k + 1, a + u', acc ++ [x], hlt, by omega, by go_num, by go_num, by rw [List.length_append, HA.out]; rfl, by rw [← HGO.out, HM.out, getGo_ok HG2.out, show n - (k + 1) = m from by have := HM.out; omega], by rw [List.map_append]; exact hown', hb'⟩
          case measure => simp [intOf]; omega
        all_goals
          have hfin := getGo_err (acc := acc) (n := m) hg (by decide)
          rw [← HM.out, HGO.out] at hfin
          have HF := Lib.hid hfin
          rw [hg]
          clear hg hfin HGO
          unfold tripB str
          go_wp2_with fail
          go_ret3
          rw [HF.out]
          exact ⟨_, rfl, World.ownsRow_nil _ _ _ _, hb⟩
      · obtain rfl : k = n := by omega
        have hfin := HGO.out
        rw [Nat.sub_self, getGo] at hfin
        have HF := Lib.hid hfin
        clear hfin HGO HS
        go_wp2_with fail
        go_ret3
        rw [← HF.out]
        exact ⟨_, rfl, by rw [HA.out]; exact hown, hb⟩
  all_goals
    have HG := Lib.hid hg
    clear hg
    go_enter Try.func45, Try.ntmps45
    go_wp2_with fail
    refine (wire_length l _ 1 _ hl0 (by omega) (by omega)).mono ?_
    rintro e w' ⟨rfl, rfl⟩
    rw [HG.out]
    unfold trip
    go_wp2_with fail
    go_ret3
    refine ⟨.slice none 0 0, ?_, ?_, Below.refl _ _⟩
    all_goals
      unfold getList
      rw [HG.out]
    · rfl
    · exact World.ownsRow_nil _ _ _ _
set_option maxHeartbeats 1000000 in
set_option maxRecDepth 100000 in
theorem ref_GetInts (l : List UInt8) (v : Value) (w : World) (hl : Sl w v 1 l.length (l.map bv)) (hs : l.length ≤ 1099511627776) :
    Calls Try.prog 29 #[v] w (Got 3 1 (List.map iv) (getList getInt 1 l) w) := by
  have hl0 := hl
  obtain ⟨A, c, rfl, hnc, hcm, hr⟩ := hl
  have hcm' := hcm
  unfold maxLen at hcm
  rcases getLen_cases l 1 with ⟨n, u, hg, hu1, hu2, hn⟩ | hg | hg
  · have hst : getList getInt 1 l = getGo getInt l n u [] := by unfold getList; rw [hg]; simp
    have HG := Lib.hid hg
    have HS := Lib.hid hst.symm
    clear hg hst
    rw [Int.ediv_one] at hn
    go_enter Try.func29, Try.ntmps29
    go_wp2_with fail
    refine (ref_length l _ 1 _ hl0 (by omega) (by omega)).mono ?_
    rintro e w' ⟨rfl, rfl⟩
    rw [HG.out]
    unfold trip
    go_wp2_with fail
    go_loopw [6, 8, 9] (GetRel 3 1 (List.map iv) getInt (getList getInt 1 l) l n w) (fun _ _ i _ => n - (intOf i).toNat)
    case atStart => exact ⟨0, u, [], Nat.zero_le _, hu2, rfl, rfl, rfl, HS.out, World.ownsRow_nil _ _ _ _, Below.refl _ _⟩
    case round =>
      obtain ⟨k, a, acc, hk, ha, rfl, rfl, hacc, hgo, hown, hb⟩ := hrel
      have HA := Lib.hid hacc
      have HGO := Lib.hid hgo
      clear hacc hgo
      have hsl1 := hl0.below hb
      clear hr
      by_cases hlt : k < n
      · obtain ⟨m, hm⟩ : ∃ m, n - k = m + 1 := ⟨n - k - 1, by omega⟩
        have HM := Lib.hid hm
        clear hm
        go_wp2_with (refine wpList_slice_l (o := ⟨some 30, _, _, _, _, _⟩) rfl _ _ _ rfl elBytes rfl hsl1 _ a rfl rfl (by omega) ?_; intro X d m0 hm0 hsl; have HM0 := Lib.hid hm0; clear hm0)
        refine (ref_GetInt (l.drop a) _ _ (hsl.bytes_from HM0.out)).mono ?_
        rintro e w' ⟨rfl, rfl⟩
        rcases getInt_cases (l.drop a) with ⟨x, u', hg, hu1', hu2', hx1, hx2⟩ | hg | hg
        · rw [List.length_drop] at hu2'
          rw [hg]
          have HG2 := Lib.hid hg
          clear hg
          unfold trip
          go_wp2_with (at_builtin; refine wpList_append_one _ rfl _ _ _ rfl elInts w.heap.size _ _ _ rfl hown _ rfl rfl (by omega) (by omega) hb.size w w.heap.size hb (Nat.le_refl _) ?_; intro v' w' hown' hb')
          go_roundw
          case rel => exact ⟨k + 1, a + u', acc ++ [x], hlt, by omega, by go_num, by go_num, by rw [List.length_append, HA.out]; rfl, by rw [← HGO.out, HM.out, getGo_ok HG2.out, show n - (k + 1) = m from by have := HM.out; omega], by rw [List.map_append]; exact hown', hb'⟩
          case measure => simp [intOf]; omega
        all_goals
          have hfin := getGo_err (acc := acc) (n := m) hg (by decide)
          rw [← HM.out, HGO.out] at hfin
          have HF := Lib.hid hfin
          rw [hg]
          clear hg hfin HGO
          unfold trip
          go_wp2_with fail
          go_ret3
          rw [HF.out]
          exact ⟨_, rfl, World.ownsRow_nil _ _ _ _, hb⟩
      · obtain rfl : k = n := by omega
        have hfin := HGO.out
        rw [Nat.sub_self, getGo] at hfin
        have HF := Lib.hid hfin
        clear hfin HGO HS
        go_wp2_with fail
        go_ret3
        rw [← HF.out]
        exact ⟨_, rfl, by rw [HA.out]; exact hown, hb⟩
  all_goals
    have HG := Lib.hid hg
    clear hg
    go_enter Try.func29, Try.ntmps29
    go_wp2_with fail
    refine (ref_length l _ 1 _ hl0 (by omega) (by omega)).mono ?_
    rintro e w' ⟨rfl, rfl⟩
    rw [HG.out]
    unfold trip
    go_wp2_with fail
    go_ret3
    refine ⟨.slice none 0 0, ?_, ?_, Below.refl _ _⟩
    all_goals
      unfold getList
      rw [HG.out]
    · rfl
    · exact World.ownsRow_nil _ _ _ _
set_option maxHeartbeats 1000000 in
set_option maxRecDepth 100000 in
theorem ref_GetStrings (l : List UInt8) (v : Value) (w : World) (hl : Sl w v 1 l.length (l.map bv)) (hs : l.length ≤ 1099511627776) :
    Calls Try.prog 32 #[v] w (Got 9 1 (List.map str) (getList getBytes 1 l) w) := by
  have hl0 := hl
  obtain ⟨A, c, rfl, hnc, hcm, hr⟩ := hl
  have hcm' := hcm
  unfold maxLen at hcm
  rcases getLen_cases l 1 with ⟨n, u, hg, hu1, hu2, hn⟩ | hg | hg
  · have hst : getList getBytes 1 l = getGo getBytes l n u [] := by unfold getList; rw [hg]; simp
    have HG := Lib.hid hg
    have HS := Lib.hid hst.symm
    clear hg hst
    rw [Int.ediv_one] at hn
    go_enter Try.func32, Try.ntmps32
    go_wp2_with fail
    refine (ref_length l _ 1 _ hl0 (by omega) (by omega)).mono ?_
    rintro e w' ⟨rfl, rfl⟩
    rw [HG.out]
    unfold trip
    go_wp2_with fail
    go_loopw [6, 8, 9] (GetRel 9 1 (List.map str) getBytes (getList getBytes 1 l) l n w) (fun _ _ i _ => n - (intOf i).toNat)
    case atStart => exact ⟨0, u, [], Nat.zero_le _, hu2, rfl, rfl, rfl, HS.out, World.ownsRow_nil _ _ _ _, Below.refl _ _⟩
    case round =>
      obtain ⟨k, a, acc, hk, ha, rfl, rfl, hacc, hgo, hown, hb⟩ := hrel
      have HA := Lib.hid hacc
      have HGO := Lib.hid hgo
      clear hacc hgo
      have hsl1 := hl0.below hb
      clear hr
      by_cases hlt : k < n
      · obtain ⟨m, hm⟩ : ∃ m, n - k = m + 1 := ⟨n - k - 1, by omega⟩
        have HM := Lib.hid hm
        clear hm
        go_wp2_with (refine wpList_slice_l (o := ⟨some 30, _, _, _, _, _⟩) rfl _ _ _ rfl elBytes rfl hsl1 _ a rfl rfl (by omega) ?_; intro X d m0 hm0 hsl; have HM0 := Lib.hid hm0; clear hm0)
        refine (ref_GetBytes (l.drop a) _ _ (hsl.bytes_from HM0.out)).mono ?_
        rintro e w' ⟨rfl, rfl⟩
        rcases getBytes_cases (l.drop a) with ⟨x, u', hg, hu1', hu2'⟩ | hg | hg
        · rw [List.length_drop] at hu2'
          rw [hg]
          have HG2 := Lib.hid hg
          clear hg
          unfold tripB str
          go_wp2_with (at_builtin; refine wpList_append_one _ rfl _ _ _ rfl elStrings w.heap.size _ _ _ rfl hown _ rfl rfl (by omega) (by omega) hb.size w w.heap.size hb (Nat.le_refl _) ?_; intro v' w' hown' hb')
          go_roundw
          case rel => exact ⟨k + 1, a + u', acc ++ [x], hlt, by omega, by go_num, by go_num, by rw [List.length_append, HA.out]; rfl, by rw [← HGO.out, HM.out, getGo_ok HG2.out, show n - (k + 1) = m from by have := HM.out; omega], by rw [List.map_append]; exact hown', hb'⟩
          case measure => simp [intOf]; omega
        all_goals
          have hfin := getGo_err (acc := acc) (n := m) hg (by decide)
          rw [← HM.out, HGO.out] at hfin
          have HF := Lib.hid hfin
          rw [hg]
          clear hg hfin HGO
          unfold tripB str
          go_wp2_with fail
          go_ret3
          rw [HF.out]
          exact ⟨_, rfl, World.ownsRow_nil _ _ _ _, hb⟩
      · obtain rfl : k = n := by omega
        have hfin := HGO.out
        rw [Nat.sub_self, getGo] at hfin
        have HF := Lib.hid hfin
        clear hfin HGO HS
        go_wp2_with fail
        go_ret3
        rw [← HF.out]
        exact ⟨_, rfl, by rw [HA.out]; exact hown, hb⟩
  all_goals
    have HG := Lib.hid hg
    clear hg
    go_enter Try.func32, Try.ntmps32
    go_wp2_with fail
    refine (ref_length l _ 1 _ hl0 (by omega) (by omega)).mono ?_
    rintro e w' ⟨rfl, rfl⟩
    rw [HG.out]
    unfold trip
    go_wp2_with fail
    go_ret3
    refine ⟨.slice none 0 0, ?_, ?_, Below.refl _ _⟩
    all_goals
      unfold getList
      rw [HG.out]
    · rfl
    · exact World.ownsRow_nil _ _ _ _

set_option maxHeartbeats 400000 in
theorem wire_GetInts (l : List UInt8) (v : Value) (w : World) (hl : Sl w v 1 l.length (l.map bv)) (hs : l.length ≤ 1099511627776) :
    Calls Try.prog 28 #[v] w (Got 3 1 (List.map iv) (getList getInt 1 l) w) := by
  go_enter Try.func28, Try.ntmps28
  go_wp2_with fail
  refine (get_int l v _ hl hs).mono ?_
  rintro e w1 ⟨v, rfl, hown, hb⟩
  go_wp2_with fail
  go_ret3
  exact ⟨_, rfl, hown, hb⟩
set_option maxHeartbeats 400000 in
theorem wire_GetStrings (l : List UInt8) (v : Value) (w : World) (hl : Sl w v 1 l.length (l.map bv)) (hs : l.length ≤ 1099511627776) :
    Calls Try.prog 31 #[v] w (Got 9 1 (List.map str) (getList getBytes 1 l) w) := by
  go_enter Try.func31, Try.ntmps31
  go_wp2_with fail
  refine (get_string l v _ hl hs).mono ?_
  rintro e w1 ⟨v, rfl, hown, hb⟩
  go_wp2_with fail
  go_ret3
  exact ⟨_, rfl, hown, hb⟩
end Go.Proofs.Ytjdoellkoofnmaa
