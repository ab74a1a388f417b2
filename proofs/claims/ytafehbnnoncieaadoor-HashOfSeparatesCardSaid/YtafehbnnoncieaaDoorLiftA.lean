/-
  An argument that is an array of bytes. Conditions: none.
-/
import Derived.Test.YtafehbnnoncieaaDoorLift
namespace Go.Proofs.YtafehbnnoncieaaDoor
open Go.ChangeShapes Go.WideShapes Go.ChangeAt Go.RowKit Go.Deep
section
variable {H : Type} {enc : TypeId × Value → H}
def digD {H : Type} (d : List UInt8) : DataW H := .agg (d.map fun u => .lit (.int .u8 (u.toNat : Int)))
theorem trod_bytes_agg {P : Program} {W : World} {t e : TypeId} {n : Nat} {sp : Nat → Bool} {hd : Bool} {base fuel : Nat} {cs : List Value} {x : DataW H × List MemPlace} (ht : P.underlying t = some (.array n e)) (he : P.underlying e = some (.int .u8)) (hc : P.cellsOf e = 1) (hn : P.cellsOf t = n)
    (h : DataW.trod enc P W base sp hd fuel t cs = some x) : ∃ d : List UInt8, cs = d.map bv ∧ x.1 = digD d ∧ d.length = n := by
  obtain ⟨xs, m, rfl, rfl, hl, hlx, hi⟩ := DataW.trod_array ht h
  rw [hn] at hl
  simp only [hc, Nat.mul_one] at hi
  have hex : ∀ i, ∃ u : UInt8, i < n → cs[i]? = some (bv u) ∧ (xs[i]?).map (·.1) = some (.lit (.int .u8 (u.toNat : Int))) := by
    intro i
    by_cases hin : i < n
    · have h1 := hi i hin
      have h2 : cs[i]? = some cs[i] := List.getElem?_eq_getElem (by omega)
      have h3 : xs[i]? = some xs[i] := List.getElem?_eq_getElem (by omega)
      rw [h3, List.drop_eq_getElem_cons (by omega), List.take_succ_cons, List.take_zero] at h1
      obtain ⟨k, e1, e2, e3⟩ := DataW.trod_int he h1
      have hk : 0 ≤ k ∧ k ≤ 255 := by simpa [Lit.wf, IntKind.min, IntKind.max, IntKind.signed, IntKind.bits] using e3
      have e4 : ((UInt8.ofNat k.toNat).toNat : Int) = k := by rw [UInt8.toNat_ofNat', Nat.mod_eq_of_lt (by omega)]; omega
      refine ⟨UInt8.ofNat k.toNat, fun _ => ⟨?_, ?_⟩⟩
      · rw [h2]; simp only [List.cons.injEq, and_true] at e1; rw [e1]; unfold bv; rw [e4]
      · rw [h3, e4, e2]; rfl
    · exact ⟨0, fun h => absurd h hin⟩
  obtain ⟨U, hU⟩ : ∃ U : Nat → UInt8, ∀ i, i < n → cs[i]? = some (bv (U i)) ∧ (xs[i]?).map (·.1) = some (.lit (.int .u8 ((U i).toNat : Int))) := ⟨fun i => Classical.choose (hex i), fun i => Classical.choose_spec (hex i)⟩
  refine ⟨(List.range n).map U, ?_, ?_, by simp⟩
  · apply List.ext_getElem?
    intro i
    by_cases hin : i < n
    · rw [(hU i hin).1]; simp [hin]
    · rw [List.getElem?_eq_none (by omega), List.getElem?_eq_none (by simp; omega)]
  · unfold digD
    show DataW.agg _ = DataW.agg _
    congr 1
    apply List.ext_getElem?
    intro i
    by_cases hin : i < n
    · rw [List.getElem?_map, (hU i hin).2]; simp [hin]
    · rw [List.getElem?_eq_none (by simp; omega), List.getElem?_eq_none (by simp; omega)]
theorem bytes_arr_of_trod {P : Program} {W : World} {t e : TypeId} {n : Nat} {sp : Nat → Bool} {hd : Bool} {base base' : Nat} {r : Reach} {v : Value} {d : DataW H} {p : List MemPlace} (ht : P.underlying t = some (.array n e)) (he : P.underlying e = some (.int .u8)) (hc : P.cellsOf e = 1) (hn : P.cellsOf t = n)
    (hval : Value.okWide P W r base' t v) (h : DataW.Trod enc P W base sp hd t v d p) : ∃ l : List UInt8, v = .agg (l.map bv).toArray ∧ l.length = n := by
  simp only [Value.okWide, ht] at hval
  obtain ⟨cs, rfl, _, _⟩ := hval
  obtain ⟨fuel, hf⟩ := h
  obtain ⟨l, h1, _, h3⟩ := trod_bytes_agg ht he hc hn hf
  refine ⟨l, ?_, h3⟩
  congr 1
  exact Array.toList_inj.1 h1
end
end Go.Proofs.YtafehbnnoncieaaDoor
