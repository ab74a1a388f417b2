/-
  The decoders of lists of digests. Conditions: none.
-/
import Derived.Test.YtjdoellkoofnmaaWireI
namespace Go.Proofs.Ytjdoellkoofnmaa
open Go.RowKit
def oneD (l : List UInt8) : List UInt8 × Int × Int := (l.take 16, 16, 0)
def flat (l : List (List UInt8)) : List Value := l.flatten.map bv
def DgRel (r : List (List UInt8) × Int × Int) (l : List UInt8) (n : Nat) (w : World) (at_ out i : Value) (wr : World) : Prop :=
  ∃ (k a : Nat) (acc : List (List UInt8)), k ≤ n ∧ a + 16 * (n - k) ≤ l.length ∧ at_ = .int .i64 (a : Int) ∧ i = .int .i64 (k : Int) ∧ acc.length = k ∧ getGo oneD l (n - k) a acc = r ∧ wr.ownsRow w.heap.size 57 16 out k (flat acc) ∧ Below w.heap.size w wr
theorem oneD_ok (l : List UInt8) (a n : Nat) (acc : List (List UInt8)) : getGo oneD l (n + 1) a acc = getGo oneD l n (a + 16) (acc ++ [(l.drop a).take 16]) := getGo_ok (u := 16) rfl

set_option maxHeartbeats 1000000 in
set_option maxRecDepth 100000 in
theorem get_digest (l : List UInt8) (v : Value) (w : World) (hl : Sl w v 1 l.length (l.map bv)) (hs : l.length ≤ 1099511627776) :
    Calls Try.prog 46 #[v, .int .i64 16, .func (.func 47) #[] #[]] w (Got 57 16 flat (getList oneD 16 l) w) := by
  have hl0 := hl
  obtain ⟨A, c, rfl, hnc, hcm, hr⟩ := hl
  have hcm' := hcm
  unfold maxLen at hcm
  rcases getLen_cases l 16 with ⟨n, u, hg, hu1, hu2, hn⟩ | hg | hg
  · have hst : getList oneD 16 l = getGo oneD l n u [] := by unfold getList; rw [hg]; simp
    have HG := Lib.hid hg
    have HS := Lib.hid hst.symm
    clear hg hst
    have hn16 : u + 16 * n ≤ l.length := by omega
    clear hn
    go_enter Try.func46, Try.ntmps46
    go_wp2_with fail
    refine (wire_length l _ 16 _ hl0 (by omega) (by omega)).mono ?_
    rintro e w' ⟨rfl, rfl⟩
    rw [HG.out]
    unfold trip
    go_wp2_with fail
    go_loopw [10, 12, 27] (DgRel (getList oneD 16 l) l n w) (fun _ _ i _ => n - (intOf i).toNat)
    case atStart => exact ⟨0, u, [], Nat.zero_le _, by omega, rfl, rfl, rfl, HS.out, World.ownsRow_nil _ _ _ _, Below.refl _ _⟩
    case round =>
      obtain ⟨k, a, acc, hk, ha, rfl, rfl, hacc, hgo, hown, hb⟩ := hrel
      have HA := Lib.hid hacc
      have HGO := Lib.hid hgo
      clear hacc hgo
      have hsl1 := hl0.below hb
      clear hr
      by_cases hlt : k < n
      · obtain ⟨m, hm⟩ : ∃ m, n - k = m + 1 := ⟨n - k - 1, by omega⟩
        have HM := Lib.hid hm
        have ha16 : a + 16 ≤ l.length := by omega
        clear hm
        go_wp2_with (refine wpList_slice_l (o := ⟨some 33, _, _, _, _, _⟩) rfl _ _ _ rfl elBytes rfl hsl1 _ a rfl rfl (by omega) ?_; intro X d m0 hm0 hsl; have HM0 := Lib.hid hm0; clear hm0)
        refine (getDigest_any (l.drop a) _ _ (hsl.bytes_from HM0.out) (by rw [List.length_drop]; omega)).mono ?_
        rintro e w2 ⟨rfl, hb2⟩
        have hb3 := hb.trans (hb2.mono hb.size)
        have hown2 := own_below hown hb2
        obtain ⟨dd, hdd⟩ : ∃ dd, dd = (l.drop a).take 16 := ⟨_, rfl⟩
        have hdl : dd.length = 16 := by rw [hdd, List.length_take, List.length_drop]; omega
        rw [← hdd]
        have HD := Lib.hid hdd
        have HL := Lib.hid hdl
        clear hdd hdl
        unfold dg
        have hb4 := hb3.alloc hb3.size (.cells (dd.map bv).toArray 57)
        go_wp2_with (first
          | (with_reducible refine wpList_store_fresh (o := ⟨none, _, _, _, _, _⟩) rfl _ _ _ rfl _ (dd.map bv).toArray rfl rfl aggDigest rfl (by simp [HL.out]) (by simpa using bvs_one dd) ?_)
          | (with_reducible refine wpList_load_fresh (o := ⟨some 42, _, _, _, _, _⟩) rfl _ _ rfl (dd.map bv).toArray _ rfl aggDigest (by simp [HL.out]) ?_)
          | (with_reducible refine wpList_built_one (o := ⟨some 43, _, _, _, _, _⟩) rfl _ _ rfl elDigests (by omega) (dd.map bv).toArray rfl (by simp [HL.out]) ?_)
          | (at_builtin; refine wpList_append_elem rfl _ _ _ rfl elDigests w.heap.size _ _ _ rfl (hown2.alloc _) (dd.map bv) rfl (by simp [HL.out]) (bvs_one _) (by omega) (by omega) hb4.size w w.heap.size hb4 (Nat.le_refl _) ?_; intro v' w' hown' hb'))
        go_roundw
        case rel => exact ⟨k + 1, a + 16, acc ++ [dd], hlt, by have := HM.out; omega, by go_num, by go_num, by rw [List.length_append, HA.out]; rfl, by rw [← HGO.out, HM.out, oneD_ok, ← HD.out, show n - (k + 1) = m from by have := HM.out; omega], by unfold flat at hown' ⊢; rw [List.flatten_append, List.map_append]; simpa using hown', hb'⟩
        case measure => simp [intOf]; omega
      · obtain rfl : k = n := by omega
        have hfin := HGO.out
        rw [Nat.sub_self, getGo] at hfin
        have HF := Lib.hid hfin
        clear hfin HGO HS
        go_wp2_with fail
        go_ret3
        rw [← HF.out]
        exact ⟨_, rfl, by rw [HA.out]; exact hown, hb⟩
  all_goals
    have HG := Lib.hid hg
    clear hg
    go_enter Try.func46, Try.ntmps46
    go_wp2_with fail
    refine (wire_length l _ 16 _ hl0 (by omega) (by omega)).mono ?_
    rintro e w' ⟨rfl, rfl⟩
    rw [HG.out]
    unfold trip
    go_wp2_with fail
    go_ret3
    refine ⟨.slice none 0 0, ?_, ?_, Below.refl _ _⟩
    all_goals
      unfold getList
      rw [HG.out]
    · rfl
    · exact World.ownsRow_nil _ _ _ _

set_option maxHeartbeats 400000 in
theorem wire_GetDigests (l : List UInt8) (v : Value) (w : World) (hl : Sl w v 1 l.length (l.map bv)) (hs : l.length ≤ 1099511627776) :
    Calls Try.prog 34 #[v] w (Got 57 16 flat (getList oneD 16 l) w) := by
  go_enter Try.func34, Try.ntmps34
  go_wp2_with fail
  refine (get_digest l v _ hl hs).mono ?_
  rintro e w1 ⟨v, rfl, hown, hb⟩
  go_wp2_with fail
  go_ret3
  exact ⟨_, rfl, hown, hb⟩
end Go.Proofs.Ytjdoellkoofnmaa
