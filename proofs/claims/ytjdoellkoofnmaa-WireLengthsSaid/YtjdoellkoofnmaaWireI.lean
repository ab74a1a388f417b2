/-
  The decoders of lists of digests. Conditions: none.
-/
import Derived.Test.YtjdoellkoofnmaaWireH
namespace Go.Proofs.Ytjdoellkoofnmaa
open Go.RowKit
theorem elDigests : El Try.prog 24 57 (dg (List.replicate 16 0)) 16 16 := ⟨Try.underlying24, info_parts (by kernel_rfl), rfl, by decide⟩
section
variable {P : Program}
theorem run_loadVar_fresh (w : World) (ty t : TypeId) (c : Array Value) {n : Nat} (ag : Agg P ty n) (hl : c.size = n) : (loadVar ty ⟨w.heap.size, 0, none⟩).run P (w.alloc (.cells c t)) = .ok (.agg c) (w.alloc (.cells c t)) := by
  obtain ⟨⟨d, hu, hd⟩, hi⟩ := ag
  exact run_loadVar_row _ _ t ty c (0, 0) d (heap_alloc_new w _) hu (by cases d <;> simp_all) (by rw [hi, hl])
theorem results_cell3 {fn : Func} {p t u : Tmp} {ty : TypeId} (h : fn.results = #[.cell p ty, .tmp t, .tmp u]) (tmps : Array Value) (w : World) (ad : Addr) (cs : Array Value)
    (hp : tmps.getD p undef = .pointer (some ad)) (hlv : (loadVar ty ad).run P w = .ok (.agg cs) w) :
    (results fn tmps).run P w = .ok (.tuple #[.agg cs, tmps.getD t undef, tmps.getD u undef]) w := by
  have hp' : tmps[p]?.getD undef = .pointer (some ad) := by simpa using hp
  simp [results, h, hp', asAddr, hlv]
end
theorem Sl.addr {w : World} {A : Option Addr} {n size c : Nat} {xs : List Value} (h : Sl w (.slice A n c) size n xs) (hn : 0 < n) :
    ∃ ad, A = some ad ∧ ad.block < w.heap.size ∧ ∀ j u, xs[j]? = some u → w.cell? (ad.add j) = some u := by
  obtain ⟨A', c', he, _, _, hr⟩ := h
  injection he with e1 e2 e3
  subst e1
  exact hr.2 hn
theorem digest_sl {w : World} {v : Value} {l dd : List UInt8} (hd : dd = l.take 16) (h : Sl w v 1 16 ((l.map bv).take (16 * 1))) : Sl w v 1 16 (dd.map bv) := by
  rw [hd, List.map_take]; exact h
set_option maxHeartbeats 400000 in
theorem getDigest_any (l : List UInt8) (v : Value) (w : World) (hl : Sl w v 1 l.length (l.map bv)) (h16 : 16 ≤ l.length) :
    Calls Try.prog 47 #[v] w fun e w' => e = .returned (.tuple #[dg (l.take 16), .int .i64 16, .int .i64 0]) ∧ Below w.heap.size w w' := by
  have hl0 := hl
  obtain ⟨A, c, rfl, hnc, hcm, hr⟩ := hl
  clear hr
  unfold maxLen at hcm
  obtain ⟨dd, hdd⟩ : ∃ dd, dd = l.take 16 := ⟨_, rfl⟩
  have HL := Lib.hid (show dd.length = 16 from by rw [hdd, List.length_take]; omega)
  have HD := Lib.hid hdd
  clear hdd
  have harr := fun (W : World) (X : Option Addr) (d : Nat) => run_arrayAt (P := Try.prog) W 57 _ 16 X 16 d Try.underlying57 (Nat.le_refl _)
  go_enter Try.func47, Try.ntmps47
  go_wp2_with (first
    | (refine wpList_slice_h (o := ⟨some 6, _, _, _, _, _⟩) rfl _ _ _ rfl elBytes rfl (hl0.alloc _) _ 16 rfl rfl h16 ?_
       intro X d m0 hm0 hsl
       subst hm0
       obtain ⟨ad, rfl, hab, hc⟩ := (digest_sl HD.out hsl).addr (by omega)
       have HC := Lib.hid hc
       clear hc hsl)
    | (with_reducible refine wpList_load_cells (o := ⟨some 8, _, _, _, _, _⟩) rfl _ _ rfl ad rfl (dd.map bv) aggDigest (by simp [HL.out]) HC.out ?_)
    | (with_reducible refine wpList_store_fresh (o := ⟨none, _, _, _, _, _⟩) rfl _ _ _ rfl _ (dd.map bv).toArray rfl rfl aggDigest rfl (by simp [HL.out]) (by simpa using bvs_one dd) ?_))


  refine bodyPost_ret (v := .tuple #[dg dd, .int .i64 16, .int .i64 0]) (results_cell3 Try.results47 _ _ ⟨w.heap.size, 0, none⟩ (dd.map bv).toArray rfl (run_loadVar_fresh w _ _ (dd.map bv).toArray aggDigest (by simp [HL.out]))) rfl ⟨by rw [← HD.out], (Below.refl _ _).alloc (Nat.le_refl _) _⟩
end Go.Proofs.Ytjdoellkoofnmaa
