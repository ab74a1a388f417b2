/-
  The comparisons. Conditions: none.
-/
import Derived.Test.YtjdoellkoofnmaaWireK
import Derived.Test.YtjdoellkoofnmaaLift
import Derived.Stop.BytesEq
namespace Go.Proofs.Ytjdoellkoofnmaa
open Go.RowKit
theorem run_loadAt_cells {P : Program} (w : World) (ty : TypeId) (ad : Addr) (cs : List Value) {n : Nat} (ag : Agg P ty n) (hl : cs.length = n) (hc : ∀ j u, cs[j]? = some u → w.cell? (ad.add j) = some u) :
    (Instr.loadAt ty (.pointer (some ad))).run P w = .ok (.agg cs.toArray) w := by
  obtain ⟨⟨d, hu, hd⟩, hi⟩ := ag
  have hr := run_loadCells_list (P := P) w ad cs hc
  have hlv : (loadVar ty ad).run P w = .ok (.agg cs.toArray) w := by
    cases hq : P.info? ty with
    | none => simp [hq] at hi
    | some i =>
      have hs : i.size = cs.length := by rw [hl]; simpa [hq] using hi
      have hagg : (isAgg ty).run P w = .ok true w := by
        unfold isAgg
        rw [Sem.run_bind, run_underlying hu w]
        cases d <;> simp_all
      simp [loadVar, Sem.run_bind, hagg, sizeOf, typeInfo, hq, hs, hr]
  simp only [Instr.loadAt, Instr.sureAddr, Sem.run_bind, Sem.run_pure, Result.andThen_ok, hlv]
theorem wpQuiet_load_cells {P : Program} {ops : Array Oper} {C : World → Prop} {Q : Act → Prop} {a : Act} {o : Oper} {rest : List Oper} (hgd : o.guard = none) (ty : TypeId) (x : Operand) (ho : o.op = .load ty x)
    (ad : Addr) (hx : a.eval x = .pointer (some ad)) (cs : List Value) {n : Nat} (ag : Agg P ty n) (hl : cs.length = n) (hc : ∀ w, C w → ∀ j u, cs[j]? = some u → w.cell? (ad.add j) = some u)
    (h : wpQuiet P ops C Q rest (a.put o.dst (.agg cs.toArray))) : wpQuiet P ops C Q (o :: rest) a := by
  refine wpQuiet_step fun K hK => ?_
  rw [if_pos (by simp [Region.wanted, hgd])]
  refine ⟨.agg cs.toArray, fun w hw => ?_, hK _ h⟩
  unfold Oper.quietAt execOp
  simp only [ho, hx, Sem.run_bind, Sem.run_pure, Result.andThen_ok, run_loadAt_cells w ty ad cs ag hl (hc w hw)]
  exact ⟨rfl, rfl⟩
theorem run_neq_bytes {P : Program} (w : World) (t e : TypeId) (n : Nat) (ht : P.underlying t = some (.array n e)) (he : P.underlying e = some (.int .u8)) (hsz : ∀ w, (sizeOf e).run P w = .ok 1 w)
    (xs ys : List UInt8) (hx : xs.length = n) (hy : ys.length = n) :
    (binOp .neq t (.agg (xs.map bv).toArray) (.agg (ys.map bv).toArray)).run P w = .ok (.bool (!(xs == ys))) w := by
  have h := run_equalIn_bytes (P := P) w 9998 t e n ht he hsz xs ys hx hy
  rw [run_neq_struct]
  show ((Op.equalIn (9998 + 2) t (.agg (xs.map Extern.Stop.cell).toArray) (.agg (ys.map Extern.Stop.cell).toArray)).run P w).andThen _ = _
  rw [h]
  rfl
theorem drewN_cells {wr : World} {ad : Addr} {cs : List Value} (hc : ∀ j u, cs[j]? = some u → wr.cell? (ad.add j) = some u) : ∀ w, (∃ n, w = wr.drewN n) → ∀ j u, cs[j]? = some u → w.cell? (ad.add j) = some u := by
  rintro w ⟨n, rfl⟩
  exact hc
set_option maxHeartbeats 400000 in
theorem Same_any (l l' : List UInt8) (v v' : Value) (w : World) (hl : Sl w v 1 l.length (l.map bv)) (hl' : Sl w v' 1 l'.length (l'.map bv)) :
    Calls Try.prog 13 #[v, v'] w (Says (decide (l = l')) w) := by
  have c1 := run_bytes_string w _ _ _ elBytes.ht Try.underlying5 Try.underlying9 hl
  have c2 := run_bytes_string w _ _ _ elBytes.ht Try.underlying5 Try.underlying9 hl'
  go_enter Try.func13, Try.ntmps13
  go_wp2_with fail
  go_ret
  refine ⟨?_, Below.refl _ _⟩
  by_cases h : l = l' <;> simp [h]

set_option maxHeartbeats 400000 in
theorem SameInts_true (l : List Int) (v v' : Value) (w : World) (hl : Sl w v 1 l.length (l.map iv)) (hl' : Sl w v' 1 l.length (l.map iv)) :
    Calls Try.prog 30 #[v, v'] w (Says true w) := by
  obtain ⟨A, c, rfl, hnc, hcm, hr⟩ := hl
  obtain ⟨A', c', rfl, hnc', hcm', hr'⟩ := hl'
  unfold maxLen at hcm hcm'
  go_enter Try.func30, Try.ntmps30
  go_wp2_with fail
  go_loopw [5] (fun i wr => ∃ k : Nat, k ≤ l.length ∧ i = .int .i64 (k : Int) ∧ Below w.heap.size w wr) (fun i _ => l.length - (intOf i).toNat)
  case atStart => exact ⟨0, Nat.zero_le _, rfl, Below.refl _ _⟩
  case round =>
    obtain ⟨k, hk, rfl, hb⟩ := hrel
    by_cases hlt : k < l.length
    · obtain ⟨ad, x, rfl, hab, hx, hc⟩ := (hr.below hb).elem hlt rfl
      obtain ⟨ad', x', rfl, hab', hx', hc'⟩ := (hr'.below hb).elem hlt rfl
      obtain rfl : x = x' := by rw [hx] at hx'; exact Option.some.inj hx'
      unfold iv at hc hc'
      clear hx hx'
      go_wp2_with fail
      go_quiet (fail)
      go_wp2_with fail
      go_roundw
      case rel => exact ⟨k + 1, hlt, by go_num, below_drewN hb _⟩
      case measure => simp [intOf]; omega
    · obtain rfl : k = l.length := by omega
      go_wp2_with fail
      go_ret
      exact ⟨rfl, hb⟩
set_option maxHeartbeats 400000 in
theorem SameTexts_true (l : List ByteArray) (v v' : Value) (w : World) (hl : Sl w v 1 l.length (l.map Value.string)) (hl' : Sl w v' 1 l.length (l.map Value.string)) :
    Calls Try.prog 33 #[v, v'] w (Says true w) := by
  obtain ⟨A, c, rfl, hnc, hcm, hr⟩ := hl
  obtain ⟨A', c', rfl, hnc', hcm', hr'⟩ := hl'
  unfold maxLen at hcm hcm'
  go_enter Try.func33, Try.ntmps33
  go_wp2_with fail
  go_loopw [5] (fun i wr => ∃ k : Nat, k ≤ l.length ∧ i = .int .i64 (k : Int) ∧ Below w.heap.size w wr) (fun i _ => l.length - (intOf i).toNat)
  case atStart => exact ⟨0, Nat.zero_le _, rfl, Below.refl _ _⟩
  case round =>
    obtain ⟨k, hk, rfl, hb⟩ := hrel
    by_cases hlt : k < l.length
    · obtain ⟨ad, x, rfl, hab, hx, hc⟩ := (hr.below hb).elem hlt rfl
      obtain ⟨ad', x', rfl, hab', hx', hc'⟩ := (hr'.below hb).elem hlt rfl
      obtain rfl : x = x' := by rw [hx] at hx'; exact Option.some.inj hx'
      clear hx hx'
      go_wp2_with fail
      go_quiet (fail)
      go_wp2_with fail
      go_roundw
      case rel => exact ⟨k + 1, hlt, by go_num, below_drewN hb _⟩
      case measure => simp [intOf]; omega
    · obtain rfl : k = l.length := by omega
      go_wp2_with fail
      go_ret
      exact ⟨rfl, hb⟩

set_option maxHeartbeats 400000 in
theorem SameDigests_true (l : List (List UInt8)) (v v' : Value) (w : World) (hl : Sl w v 16 l.length (flat l)) (hl' : Sl w v' 16 l.length (flat l)) (hd : ∀ d ∈ l, d.length = 16) :
    Calls Try.prog 36 #[v, v'] w (Says true w) := by
  obtain ⟨A, c, rfl, hnc, hcm, hr⟩ := hl
  obtain ⟨A', c', rfl, hnc', hcm', hr'⟩ := hl'
  unfold maxLen at hcm hcm'
  go_enter Try.func36, Try.ntmps36
  go_wp2_with fail
  go_loopw [5] (fun i wr => ∃ k : Nat, k ≤ l.length ∧ i = .int .i64 (k : Int) ∧ Below w.heap.size w wr) (fun i _ => l.length - (intOf i).toNat)
  case atStart => exact ⟨0, Nat.zero_le _, rfl, Below.refl _ _⟩
  case round =>
    obtain ⟨k, hk, rfl, hb⟩ := hrel
    by_cases hlt : k < l.length
    · have hx : l[k]? = some l[k] := List.getElem?_eq_getElem hlt
      generalize l[k] = d at hx
      have hdl := hd d (List.mem_of_getElem? hx)
      have hget : ∀ j u, (d.map bv)[j]? = some u → (flat l)[k * 16 + j]? = some u := fun j u hu => by
        unfold flat
        rw [List.getElem?_map] at hu ⊢
        cases hj : d[j]? with
        | none => rw [hj] at hu; cases hu
        | some b => rw [hj] at hu; rw [flat_get hd k d hx j b hj]; exact hu
      obtain ⟨ad, rfl, hab, hc⟩ := (hr.below hb).cells_at hlt (d.map bv) hget
      obtain ⟨ad', rfl, hab', hc'⟩ := (hr'.below hb).cells_at hlt (d.map bv) hget
      have hne := fun W : World => run_neq_bytes (P := Try.prog) W _ _ 16 Try.underlying57 Try.underlying5 (run_sizeOf_el elBytes) d d hdl hdl
      simp only [beq_self_eq_true, Bool.not_true] at hne
      have HW := Lib.hid (drewN_cells hc)
      have HW' := Lib.hid (drewN_cells hc')
      have HL := Lib.hid hdl
      clear hx hget hc hc' hdl
      go_wp2_with fail
      refine wp_region_quiet_lit (by kernel_rfl) (by kernel_rfl) ?_
      repeat (any_goals (first
        | (with_reducible refine wpQuiet_load_cells (o := ⟨some 20, _, _, _, _, _⟩) rfl _ _ rfl (ad.add (k * 16)) rfl (d.map bv) aggDigest (by simp [HL.out]) HW.out ?_)
        | (with_reducible refine wpQuiet_load_cells (o := ⟨some 24, _, _, _, _, _⟩) rfl _ _ rfl (ad'.add (k * 16)) rfl (d.map bv) aggDigest (by simp [HL.out]) HW'.out ?_)
        | quiet_step (fail)))
      refine wpQuiet_nil ?_
      intro _ hw'
      obtain ⟨nq, rfl⟩ := hw'
      go_wp2_with fail
      go_roundw
      case rel => exact ⟨k + 1, hlt, by go_num, below_drewN hb _⟩
      case measure => simp [intOf]; omega
    · obtain rfl : k = l.length := by omega
      go_wp2_with fail
      go_ret
      exact ⟨rfl, hb⟩
end Go.Proofs.Ytjdoellkoofnmaa
