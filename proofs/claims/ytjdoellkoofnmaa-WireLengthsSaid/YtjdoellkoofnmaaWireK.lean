/-
  The specification's decoder of lists of digests. Conditions: none.
-/
import Derived.Test.YtjdoellkoofnmaaWireJ
namespace Go.Proofs.Ytjdoellkoofnmaa
open Go.RowKit
/-- The first j bytes of d, then zeros. -/
def part16 (d : List UInt8) (j : Nat) : Array Value := ((d.take j).map bv ++ List.replicate (16 - j) (Value.int .u8 0)).toArray
theorem part16_size {d : List UInt8} (hd : d.length = 16) {j : Nat} (hj : j ≤ 16) : (part16 d j).size = 16 := by simp [part16]; omega
theorem part16_all {d : List UInt8} (hd : d.length = 16) : part16 d 16 = (d.map bv).toArray := by
  unfold part16
  rw [List.take_of_length_le (by omega)]
  simp
theorem part16_set {d : List UInt8} {j : Nat} {x : UInt8} (hx : d[j]? = some x) (hj : j < 16) (hd : d.length = 16) : (part16 d j).setIfInBounds j (bv x) = part16 d (j + 1) := by
  apply Array.toList_inj.1
  unfold part16
  simp only [Array.toList_setIfInBounds]
  have h1 : (List.map bv (List.take j d)).length = j := by simp; omega
  rw [show 16 - j = (16 - (j + 1)) + 1 from by omega, List.replicate_succ, List.set_append_right _ _ (by omega), h1, Nat.sub_self, List.set_cons_zero, List.take_add_one, hx]
  simp
theorem setCell_new (w : World) (c : Array Value) (t : TypeId) (j : Nat) (v : Value) : (w.alloc (.cells c t)).setCell ⟨w.heap.size, j, none⟩ v = w.alloc (.cells (c.setIfInBounds j v) t) := by
  simp only [World.setCell, World.alloc]
  congr 1
  apply Array.ext_getElem?
  intro i
  rw [Array.getElem?_modify]
  by_cases h : w.heap.size = i
  · subst h
    simp
  · have h' : ¬ i = w.heap.size := fun e => h e.symm
    simp [h, h', Array.getElem?_push]

set_option maxHeartbeats 1000000 in
set_option maxRecDepth 100000 in
theorem ref_GetDigests (l : List UInt8) (v : Value) (w : World) (hl : Sl w v 1 l.length (l.map bv)) (hs : l.length ≤ 1099511627776) :
    Calls Try.prog 35 #[v] w (Got 57 16 flat (getList oneD 16 l) w) := by
  have hl0 := hl
  obtain ⟨A, c, rfl, hnc, hcm, hr⟩ := hl
  have hcm' := hcm
  unfold maxLen at hcm
  rcases getLen_cases l 16 with ⟨n, u, hg, hu1, hu2, hn⟩ | hg | hg
  · have hst : getList oneD 16 l = getGo oneD l n u [] := by unfold getList; rw [hg]; simp
    have HG := Lib.hid hg
    have HS := Lib.hid hst.symm
    clear hg hst
    have hn16 : u + 16 * n ≤ l.length := by omega
    clear hn
    go_enter Try.func35, Try.ntmps35
    go_wp2_with fail
    refine (ref_length l _ 16 _ hl0 (by omega) (by omega)).mono ?_
    rintro e w' ⟨rfl, rfl⟩
    rw [HG.out]
    unfold trip
    go_wp2_with fail
    go_loopw [6, 8, 9] (DgRel (getList oneD 16 l) l n w) (fun _ _ i _ => n - (intOf i).toNat)
    case atStart => exact ⟨0, u, [], Nat.zero_le _, by omega, rfl, rfl, rfl, HS.out, World.ownsRow_nil _ _ _ _, Below.refl _ _⟩
    case round =>
      obtain ⟨k, a, acc, hk, ha, rfl, rfl, hacc, hgo, hown, hb⟩ := hrel
      obtain ⟨wo, rfl⟩ : ∃ wo : World, wo = wr := ⟨_, rfl⟩
      have HA := Lib.hid hacc
      have HGO := Lib.hid hgo
      clear hacc hgo
      have hr1 := hr.below hb
      clear hr
      by_cases hlt : k < n
      · obtain ⟨m, hm⟩ : ∃ m, n - k = m + 1 := ⟨n - k - 1, by omega⟩
        have HM := Lib.hid hm
        have ha16 : a + 16 ≤ l.length := by omega
        clear hm
        obtain ⟨dd, hdd⟩ : ∃ dd, dd = (l.drop a).take 16 := ⟨_, rfl⟩
        have hdl : dd.length = 16 := by rw [hdd, List.length_take, List.length_drop]; omega
        have HD := Lib.hid hdd
        have HL := Lib.hid hdl
        clear hdd hdl
        go_wp2_with fail
        go_loopw [11] (fun i wr => ∃ j : Nat, j ≤ 16 ∧ i = .int .i64 (j : Int) ∧ wr = wo.alloc (.cells (part16 dd j) 57)) (fun i _ => 16 - (intOf i).toNat)
        case atStart => exact ⟨0, by omega, rfl, rfl⟩
        case round =>
          obtain ⟨j, hj, rfl, rfl⟩ := hrel
          by_cases hj16 : j < 16
          · obtain ⟨ad, x, rfl, hab, hx, hc⟩ := hr1.elem (k := a + j) (by omega) rfl
            have hsz := part16_size HL.out hj
            have hdj : dd[j]? = some x := by rw [HD.out, List.getElem?_take, if_pos hj16, List.getElem?_drop]; exact hx
            have HX := Lib.hid hdj
            have hc1 : (wo.alloc (.cells (part16 dd j) 57)).cell? (ad.add (a + j)) = some (bv x) := by
              rw [World.cell?_alloc_lt _ _ _ (by rw [block_of_add]; exact Nat.lt_of_lt_of_le hab hb.size)]; exact hc
            obtain ⟨old, hold⟩ : ∃ old, (wo.alloc (.cells (part16 dd j) 57)).cell? ⟨wo.heap.size, j, none⟩ = some old := by
              rw [World.cell?_alloc_at _ _ _ _ rfl]; exact ⟨_, Array.getElem?_eq_getElem (by omega)⟩
            have hfr : (wo.alloc (.cells (part16 dd j) 57)).frozen? ⟨wo.heap.size, j, none⟩ = false := World.frozen?_alloc_at _ _ _ _ rfl
            have hset := part16_set hdj hj16 HL.out
            have HSET := Lib.hid hset
            clear hset hsz hx hdj hc
            unfold bv at hc1
            go_wp2_with fail
            go_roundw
            case rel => exact ⟨j + 1, by omega, by go_num, by rw [← HSET.out]; rfl⟩
            case measure => simp [intOf]; omega
          · obtain rfl : j = 16 := by omega
            rw [part16_all HL.out]
            have hb4 := hb.alloc hb.size (.cells (dd.map bv).toArray 57)
            go_wp2_with (first
              | (with_reducible refine wpList_load_fresh (o := ⟨some 39, _, _, _, _, _⟩) rfl _ _ rfl (dd.map bv).toArray _ rfl aggDigest (by simp [HL.out]) ?_)
              | (with_reducible refine wpList_built_one (o := ⟨some 40, _, _, _, _, _⟩) rfl _ _ rfl elDigests (by omega) (dd.map bv).toArray rfl (by simp [HL.out]) ?_)
              | (at_builtin; refine wpList_append_elem rfl _ _ _ rfl elDigests w.heap.size _ _ _ rfl (hown.alloc _) (dd.map bv) rfl (by simp [HL.out]) (bvs_one _) (by omega) (by omega) hb4.size w w.heap.size hb4 (Nat.le_refl _) ?_; intro v' w' hown' hb'))
            go_roundw
            case rel => exact ⟨k + 1, a + 16, acc ++ [dd], hlt, by have := HM.out; omega, by go_num, by go_num, by rw [List.length_append, HA.out]; rfl, by rw [← HGO.out, HM.out, oneD_ok, ← HD.out, show n - (k + 1) = m from by have := HM.out; omega], by unfold flat at hown' ⊢; rw [List.flatten_append, List.map_append]; simpa using hown', hb'⟩
            case measure => simp [intOf]; omega
      · obtain rfl : k = n := by omega
        have hfin := HGO.out
        rw [Nat.sub_self, getGo] at hfin
        have HF := Lib.hid hfin
        clear hfin HGO HS
        go_wp2_with fail
        go_ret3
        rw [← HF.out]
        exact ⟨_, rfl, by rw [HA.out]; exact hown, hb⟩
  all_goals
    have HG := Lib.hid hg
    clear hg
    go_enter Try.func35, Try.ntmps35
    go_wp2_with fail
    refine (ref_length l _ 16 _ hl0 (by omega) (by omega)).mono ?_
    rintro e w' ⟨rfl, rfl⟩
    rw [HG.out]
    unfold trip
    go_wp2_with fail
    go_ret3
    refine ⟨.slice none 0 0, ?_, ?_, Below.refl _ _⟩
    all_goals
      unfold getList
      rw [HG.out]
    · rfl
    · exact World.ownsRow_nil _ _ _ _
end Go.Proofs.Ytjdoellkoofnmaa
