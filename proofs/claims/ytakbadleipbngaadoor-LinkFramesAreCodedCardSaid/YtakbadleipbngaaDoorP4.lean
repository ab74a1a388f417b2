/-
  Lemmas, part 4. Conditions: none.
-/
import Derived.Test.YtakbadleipbngaaDoorP3
import Derived.WalkKit
import Derived.OrdersHeld
import Derived.Deep.RegionHeld3
import Derived.Deep.DrawnRows
import Derived.Maps.RangeWalk
import Derived.Deep.OwnRows
import Derived.Deep.Light
import Derived.Test.YtakbadleipbngaaDoorProg
import Derived.Test.YtakbadleipbngaaDoorRows
import Derived.Deep.DeepCutAuto
import Derived.Laws.Cover3
import Derived.Laws.CopyRow
import Derived.Lib.AppendStr
set_option linter.all false
set_option maxRecDepth 100000
namespace Go.Proofs.YtakbadleipbngaaDoor
open Go.RowKit
section
section
variable {P : Program} {ops : Array Oper} {Q : Exit → Act → World → Prop} {md : Region.Mode} {S : World → Prop} {lasts : Nat → Bool}
def wpAnyT (P : Program) (md : Region.Mode) (ops : Array Oper) (Q : Exit → Act → World → Prop) (S : World → Prop) (lasts : Nat → Bool) : Nat → Array Bool → Act → World → Prop
  | 0, listed, a, w => Region.ready md ops listed = [] ∧ Q .normal a w
  | fuel + 1, listed, a, w =>
    (Region.ready md ops listed = [] → Q .normal a w) ∧
    ∀ i ∈ Region.ready md ops listed, wpOp P ops Q i (fun a' w' => (lasts i = false → S w') ∧ wpAnyT P md ops Q S lasts fuel (listed.setIfInBounds i true) a' w') a w
theorem wpAny_of_lasts : ∀ (fuel : Nat) (listed : Array Bool) (a : Act) (w : World), wpAnyT P md ops Q S lasts fuel listed a w → wpAny P md ops Q fuel listed a w
  | 0, _, _, _, h => h
  | fuel + 1, _, _, _, h => ⟨h.1, fun i hi => wpOp_mono (fun a' w' h' => wpAny_of_lasts fuel _ a' w' h'.2) (h.2 i hi)⟩
def behind (md : Region.Mode) (ops : Array Oper) (lasts : Nat → Bool) (i : Nat) : Bool :=
  (List.range ops.size).all fun j => !lasts j || match ops[j]? with
    | some o => o.after.any fun e => Region.binds md e && e.on == i
    | none => true
theorem behind_spec {i j : Nat} {listed : Array Bool} (h : behind md ops lasts i = true) (hi : listed.getD i true = false) (hj : j ∈ Region.ready md ops listed) : lasts j = false := by
  obtain ⟨_, o, ho, hall⟩ := mem_ready.1 hj
  simp only [behind, List.all_eq_true, List.mem_range] at h
  have h1 := h j (Array.getElem?_eq_some_iff.1 ho).1
  simp only [ho, Bool.or_eq_true, Bool.not_eq_true'] at h1
  rcases h1 with h1 | h1
  · exact h1
  · obtain ⟨e, he, hb⟩ := Array.any_eq_true'.1 h1
    simp only [Bool.and_eq_true, beq_iff_eq] at hb
    have h2 := hall e he hb.1
    rw [hb.2] at h2
    rcases Nat.lt_or_ge i listed.size with h' | h'
    · simp [h'] at hi h2; rw [hi] at h2; cases h2
    · simp [Array.getElem?_eq_none h'] at h2
theorem wpAnyT_first {i : Nat} {oi : Oper} {v : Value} (hi : ops[i]? = some oi) (hsel : ∀ (j : Nat) (o : Oper) cs b, ops[j]? = some o → o.op ≠ .select cs b)
    (hQ : ∀ c a w, Q (.panic c) (a.put oi.dst v) w → Q (.panic c) a w) (hbe : behind md ops lasts i = true) :
    ∀ (fuel : Nat) (listed : Array Bool) (a : Act) (w : World),
      (∀ j oj, ops[j]? = some oj → j ≠ i → listed.getD j true = false → (∀ e ∈ oj.after, Region.binds md e = true → e.on ≠ i) → oi.apart ops oj = true) →
      i ∈ Region.ready md ops listed → YieldsIf P ops S oi v a → S w →
      wpAnyT P md ops Q S lasts fuel (listed.setIfInBounds i true) (a.put oi.dst v) w → wpAnyT P md ops Q S lasts (fuel + 1) listed a w := by
  intro fuel
  induction fuel with
  | zero =>
    intro listed a w _ hr hy hS H
    refine ⟨fun h => (by rw [h] at hr; cases hr), fun j hj => ?_⟩
    by_cases hji : j = i
    · subst hji; exact hy.wpOp hi hS ⟨fun _ => hS, H⟩
    · have := ready_mono hj hji
      rw [H.1] at this
      cases this
  | succ fuel ih =>
    intro listed a w hfree hr hy hS H
    refine ⟨fun h => (by rw [h] at hr; cases hr), fun j hj => ?_⟩
    by_cases hji : j = i
    · subst hji; exact hy.wpOp hi hS ⟨fun _ => hS, H⟩
    · have hl := behind_spec hbe (mem_ready.1 hr).1 hj
      have h1 := H.2 j (ready_mono hj hji)
      obtain ⟨hjun, oj, hoj, hall⟩ := mem_ready.1 hj
      have hnot : ∀ e ∈ oj.after, Region.binds md e = true → e.on ≠ i := fun e he hb heq => by
        have h1 := hall e he hb
        have h0 := (mem_ready.1 hr).1
        rw [heq] at h1
        rcases Nat.lt_or_ge i listed.size with h' | h'
        · simp [h'] at h0 h1; rw [h0] at h1; cases h1
        · simp [Array.getElem?_eq_none h'] at h1
      have h2 := wpOp_putIf hoj (hfree j oj hoj hji hjun hnot) (fun cs b => hsel i oi cs b hi) (fun cs b => hsel j oj cs b hoj) hQ hy h1
      have hfree' : ∀ k ok, ops[k]? = some ok → k ≠ i → (listed.setIfInBounds j true).getD k true = false →
          (∀ e ∈ ok.after, Region.binds md e = true → e.on ≠ i) → oi.apart ops ok = true := fun k ok hk hki hun hno => by
        refine hfree k ok hk hki ?_ hno
        by_cases hjk : j = k
        · subst hjk; exact hjun
        · rw [getD_set_ne true hjk] at hun; exact hun
      refine wpOp_mono (fun a' w' h3 => ⟨h3.2.1, ih (listed.setIfInBounds j true) a' w' hfree' (ready_mono hr (Ne.symm hji)) h3.1 (h3.2.1 hl) ?_⟩) h2
      rw [Array.setIfInBounds_comm _ _ hji]
      exact h3.2.2
theorem wpAnyT_take {i : Nat} {oi : Oper} {v : Value} {fuel : Nat} {listed : Array Bool} {a : Act} {w : World} (hi : ops[i]? = some oi)
    (hs : Region.noSelect ops = true) (hbe : behind md ops lasts i = true) (hf : Region.free md ops listed i = true) (hr : (Region.ready md ops listed).contains i = true)
    (hQ : ∀ c a w, Q (.panic c) (a.put oi.dst v) w → Q (.panic c) a w) (hy : YieldsIf P ops S oi v a) (hS : S w)
    (h : wpAnyT P md ops Q S lasts fuel (listed.setIfInBounds i true) (a.put oi.dst v) w) : wpAnyT P md ops Q S lasts (fuel + 1) listed a w :=
  wpAnyT_first hi (Region.noSelect_spec hs) hQ hbe fuel listed a w (Region.free_spec hi hf) (by simpa using hr) hy hS h
theorem wpAnyT_done {listed : Array Bool} {a : Act} {w : World} (hr : Region.ready md ops listed = []) (h : Q .normal a w) :
    ∀ fuel, wpAnyT P md ops Q S lasts fuel listed a w
  | 0 => ⟨hr, h⟩
  | _ + 1 => ⟨fun _ => h, by rw [hr]; simp⟩
theorem wpAnyT_one {i : Nat} {o : Oper} {fuel : Nat} {listed : Array Bool} {a : Act} {w : World} (ho : ops[i]? = some o) (hr : Region.ready md ops listed = [i])
    (h : ∀ K' : Act → World → Prop, Shut (∀ a w, (lasts i = false → S w) → ((lasts i = false → S w) → wpAnyT P md ops Q S lasts fuel (listed.setIfInBounds i true) a w) → K' a w) → if Region.wanted o (yielded ops a.tmps) = true then Oper.wp P o a w K' Q else K' (a.put o.dst undef) w) :
    wpAnyT P md ops Q S lasts (fuel + 1) listed a w := by
  refine ⟨fun h0 => (by rw [hr] at h0; cases h0), fun j hj => ?_⟩
  rw [hr] at hj
  obtain rfl : j = i := by simpa using hj
  exact wpOp_step ho (fun K' hK => h K' (fun a w hS hW => hK a w ⟨hS, hW hS⟩))
theorem wpAnyT_two {i i' : Nat} {o o' : Oper} {fuel : Nat} {listed : Array Bool} {a : Act} {w : World} (ho : ops[i]? = some o) (ho' : ops[i']? = some o') (hr : Region.ready md ops listed = [i, i'])
    (h : ∀ K' : Act → World → Prop, Shut (∀ a w, (lasts i = false → S w) → ((lasts i = false → S w) → wpAnyT P md ops Q S lasts fuel (listed.setIfInBounds i true) a w) → K' a w) → if Region.wanted o (yielded ops a.tmps) = true then Oper.wp P o a w K' Q else K' (a.put o.dst undef) w)
    (h' : ∀ K' : Act → World → Prop, Shut (∀ a w, (lasts i' = false → S w) → ((lasts i' = false → S w) → wpAnyT P md ops Q S lasts fuel (listed.setIfInBounds i' true) a w) → K' a w) → if Region.wanted o' (yielded ops a.tmps) = true then Oper.wp P o' a w K' Q else K' (a.put o'.dst undef) w) :
    wpAnyT P md ops Q S lasts (fuel + 1) listed a w := by
  refine ⟨fun h0 => (by rw [hr] at h0; cases h0), fun j hj => ?_⟩
  rw [hr] at hj
  rcases List.mem_cons.1 hj with rfl | hj
  · exact wpOp_step ho (fun K' hK => h K' (fun a w hS hW => hK a w ⟨hS, hW hS⟩))
  · obtain rfl : j = i' := by simpa using hj
    exact wpOp_step ho' (fun K' hK => h' K' (fun a w hS hW => hK a w ⟨hS, hW hS⟩))
theorem wp_region_lasts {id : Nat} {a : Act} {w : World} (S : World → Prop) (lasts : Nat → Bool) (hm : P.follows .mixedOrders = true) (hS : S w.drew)
    (h : S w.drew → wpAnyT P .any ops (NoPanic Q) S lasts ops.size (Array.replicate ops.size false) a w.drew) : (Code.region id ops true).wp P Q a w :=
  wp_region_noPanic (wp_region_any hm (wpAny_of_lasts _ _ _ _ (h hS)))
end
section
variable {P : Program} {md : Region.Mode} {Q : Exit → Act → World → Prop} {S : World → Prop} {lasts : Nat → Bool} {fuel : Nat} {listed : Array Bool} {a : Act} {w : World}
theorem tk_0 {o0 : Oper} {r : List Oper} {v : Value} (hs : Region.noSelect (o0 :: r).toArray = true) (hbe : behind md (o0 :: r).toArray lasts 0 = true) (hf : Region.free md (o0 :: r).toArray listed 0 = true) (hr : (Region.ready md (o0 :: r).toArray listed).contains 0 = true)
    (hQ : ∀ c a w, Q (.panic c) (a.put o0.dst v) w → Q (.panic c) a w) (hy : YieldsIf P (o0 :: r).toArray S o0 v a) (hS : S w) (h : wpAnyT P md (o0 :: r).toArray Q S lasts fuel (listed.setIfInBounds 0 true) (a.put o0.dst v) w) : wpAnyT P md (o0 :: r).toArray Q S lasts (fuel + 1) listed a w :=
  wpAnyT_take (i := 0) rfl hs hbe hf hr hQ hy hS h
theorem dn_0 {o0 : Oper} {r : List Oper} (hr : Region.ready md (o0 :: r).toArray listed = [0])
    (h : ∀ K' : Act → World → Prop, Shut (∀ a w, (lasts 0 = false → S w) → ((lasts 0 = false → S w) → wpAnyT P md (o0 :: r).toArray Q S lasts fuel (listed.setIfInBounds 0 true) a w) → K' a w) → if Region.wanted o0 (yielded (o0 :: r).toArray a.tmps) = true then Oper.wp P o0 a w K' Q else K' (a.put o0.dst undef) w) : wpAnyT P md (o0 :: r).toArray Q S lasts (fuel + 1) listed a w :=
  wpAnyT_one (o := o0) rfl hr h
theorem tk_1 {o0 o1 : Oper} {r : List Oper} {v : Value} (hs : Region.noSelect (o0 :: o1 :: r).toArray = true) (hbe : behind md (o0 :: o1 :: r).toArray lasts 1 = true) (hf : Region.free md (o0 :: o1 :: r).toArray listed 1 = true) (hr : (Region.ready md (o0 :: o1 :: r).toArray listed).contains 1 = true)
    (hQ : ∀ c a w, Q (.panic c) (a.put o1.dst v) w → Q (.panic c) a w) (hy : YieldsIf P (o0 :: o1 :: r).toArray S o1 v a) (hS : S w) (h : wpAnyT P md (o0 :: o1 :: r).toArray Q S lasts fuel (listed.setIfInBounds 1 true) (a.put o1.dst v) w) : wpAnyT P md (o0 :: o1 :: r).toArray Q S lasts (fuel + 1) listed a w :=
  wpAnyT_take (i := 1) rfl hs hbe hf hr hQ hy hS h
theorem tk_2 {o0 o1 o2 : Oper} {r : List Oper} {v : Value} (hs : Region.noSelect (o0 :: o1 :: o2 :: r).toArray = true) (hbe : behind md (o0 :: o1 :: o2 :: r).toArray lasts 2 = true) (hf : Region.free md (o0 :: o1 :: o2 :: r).toArray listed 2 = true) (hr : (Region.ready md (o0 :: o1 :: o2 :: r).toArray listed).contains 2 = true)
    (hQ : ∀ c a w, Q (.panic c) (a.put o2.dst v) w → Q (.panic c) a w) (hy : YieldsIf P (o0 :: o1 :: o2 :: r).toArray S o2 v a) (hS : S w) (h : wpAnyT P md (o0 :: o1 :: o2 :: r).toArray Q S lasts fuel (listed.setIfInBounds 2 true) (a.put o2.dst v) w) : wpAnyT P md (o0 :: o1 :: o2 :: r).toArray Q S lasts (fuel + 1) listed a w :=
  wpAnyT_take (i := 2) rfl hs hbe hf hr hQ hy hS h
theorem dn_2 {o0 o1 o2 : Oper} {r : List Oper} (hr : Region.ready md (o0 :: o1 :: o2 :: r).toArray listed = [2])
    (h : ∀ K' : Act → World → Prop, Shut (∀ a w, (lasts 2 = false → S w) → ((lasts 2 = false → S w) → wpAnyT P md (o0 :: o1 :: o2 :: r).toArray Q S lasts fuel (listed.setIfInBounds 2 true) a w) → K' a w) → if Region.wanted o2 (yielded (o0 :: o1 :: o2 :: r).toArray a.tmps) = true then Oper.wp P o2 a w K' Q else K' (a.put o2.dst undef) w) : wpAnyT P md (o0 :: o1 :: o2 :: r).toArray Q S lasts (fuel + 1) listed a w :=
  wpAnyT_one (o := o2) rfl hr h
theorem tk_3 {o0 o1 o2 o3 : Oper} {r : List Oper} {v : Value} (hs : Region.noSelect (o0 :: o1 :: o2 :: o3 :: r).toArray = true) (hbe : behind md (o0 :: o1 :: o2 :: o3 :: r).toArray lasts 3 = true) (hf : Region.free md (o0 :: o1 :: o2 :: o3 :: r).toArray listed 3 = true) (hr : (Region.ready md (o0 :: o1 :: o2 :: o3 :: r).toArray listed).contains 3 = true)
    (hQ : ∀ c a w, Q (.panic c) (a.put o3.dst v) w → Q (.panic c) a w) (hy : YieldsIf P (o0 :: o1 :: o2 :: o3 :: r).toArray S o3 v a) (hS : S w) (h : wpAnyT P md (o0 :: o1 :: o2 :: o3 :: r).toArray Q S lasts fuel (listed.setIfInBounds 3 true) (a.put o3.dst v) w) : wpAnyT P md (o0 :: o1 :: o2 :: o3 :: r).toArray Q S lasts (fuel + 1) listed a w :=
  wpAnyT_take (i := 3) rfl hs hbe hf hr hQ hy hS h
theorem dn_3 {o0 o1 o2 o3 : Oper} {r : List Oper} (hr : Region.ready md (o0 :: o1 :: o2 :: o3 :: r).toArray listed = [3])
    (h : ∀ K' : Act → World → Prop, Shut (∀ a w, (lasts 3 = false → S w) → ((lasts 3 = false → S w) → wpAnyT P md (o0 :: o1 :: o2 :: o3 :: r).toArray Q S lasts fuel (listed.setIfInBounds 3 true) a w) → K' a w) → if Region.wanted o3 (yielded (o0 :: o1 :: o2 :: o3 :: r).toArray a.tmps) = true then Oper.wp P o3 a w K' Q else K' (a.put o3.dst undef) w) : wpAnyT P md (o0 :: o1 :: o2 :: o3 :: r).toArray Q S lasts (fuel + 1) listed a w :=
  wpAnyT_one (o := o3) rfl hr h
theorem tk_4 {o0 o1 o2 o3 o4 : Oper} {r : List Oper} {v : Value} (hs : Region.noSelect (o0 :: o1 :: o2 :: o3 :: o4 :: r).toArray = true) (hbe : behind md (o0 :: o1 :: o2 :: o3 :: o4 :: r).toArray lasts 4 = true) (hf : Region.free md (o0 :: o1 :: o2 :: o3 :: o4 :: r).toArray listed 4 = true) (hr : (Region.ready md (o0 :: o1 :: o2 :: o3 :: o4 :: r).toArray listed).contains 4 = true)
    (hQ : ∀ c a w, Q (.panic c) (a.put o4.dst v) w → Q (.panic c) a w) (hy : YieldsIf P (o0 :: o1 :: o2 :: o3 :: o4 :: r).toArray S o4 v a) (hS : S w) (h : wpAnyT P md (o0 :: o1 :: o2 :: o3 :: o4 :: r).toArray Q S lasts fuel (listed.setIfInBounds 4 true) (a.put o4.dst v) w) : wpAnyT P md (o0 :: o1 :: o2 :: o3 :: o4 :: r).toArray Q S lasts (fuel + 1) listed a w :=
  wpAnyT_take (i := 4) rfl hs hbe hf hr hQ hy hS h
theorem dn_4 {o0 o1 o2 o3 o4 : Oper} {r : List Oper} (hr : Region.ready md (o0 :: o1 :: o2 :: o3 :: o4 :: r).toArray listed = [4])
    (h : ∀ K' : Act → World → Prop, Shut (∀ a w, (lasts 4 = false → S w) → ((lasts 4 = false → S w) → wpAnyT P md (o0 :: o1 :: o2 :: o3 :: o4 :: r).toArray Q S lasts fuel (listed.setIfInBounds 4 true) a w) → K' a w) → if Region.wanted o4 (yielded (o0 :: o1 :: o2 :: o3 :: o4 :: r).toArray a.tmps) = true then Oper.wp P o4 a w K' Q else K' (a.put o4.dst undef) w) : wpAnyT P md (o0 :: o1 :: o2 :: o3 :: o4 :: r).toArray Q S lasts (fuel + 1) listed a w :=
  wpAnyT_one (o := o4) rfl hr h
theorem tk_5 {o0 o1 o2 o3 o4 o5 : Oper} {r : List Oper} {v : Value} (hs : Region.noSelect (o0 :: o1 :: o2 :: o3 :: o4 :: o5 :: r).toArray = true) (hbe : behind md (o0 :: o1 :: o2 :: o3 :: o4 :: o5 :: r).toArray lasts 5 = true) (hf : Region.free md (o0 :: o1 :: o2 :: o3 :: o4 :: o5 :: r).toArray listed 5 = true) (hr : (Region.ready md (o0 :: o1 :: o2 :: o3 :: o4 :: o5 :: r).toArray listed).contains 5 = true)
    (hQ : ∀ c a w, Q (.panic c) (a.put o5.dst v) w → Q (.panic c) a w) (hy : YieldsIf P (o0 :: o1 :: o2 :: o3 :: o4 :: o5 :: r).toArray S o5 v a) (hS : S w) (h : wpAnyT P md (o0 :: o1 :: o2 :: o3 :: o4 :: o5 :: r).toArray Q S lasts fuel (listed.setIfInBounds 5 true) (a.put o5.dst v) w) : wpAnyT P md (o0 :: o1 :: o2 :: o3 :: o4 :: o5 :: r).toArray Q S lasts (fuel + 1) listed a w :=
  wpAnyT_take (i := 5) rfl hs hbe hf hr hQ hy hS h
theorem dn_5 {o0 o1 o2 o3 o4 o5 : Oper} {r : List Oper} (hr : Region.ready md (o0 :: o1 :: o2 :: o3 :: o4 :: o5 :: r).toArray listed = [5])
    (h : ∀ K' : Act → World → Prop, Shut (∀ a w, (lasts 5 = false → S w) → ((lasts 5 = false → S w) → wpAnyT P md (o0 :: o1 :: o2 :: o3 :: o4 :: o5 :: r).toArray Q S lasts fuel (listed.setIfInBounds 5 true) a w) → K' a w) → if Region.wanted o5 (yielded (o0 :: o1 :: o2 :: o3 :: o4 :: o5 :: r).toArray a.tmps) = true then Oper.wp P o5 a w K' Q else K' (a.put o5.dst undef) w) : wpAnyT P md (o0 :: o1 :: o2 :: o3 :: o4 :: o5 :: r).toArray Q S lasts (fuel + 1) listed a w :=
  wpAnyT_one (o := o5) rfl hr h
theorem tk_6 {o0 o1 o2 o3 o4 o5 o6 : Oper} {r : List Oper} {v : Value} (hs : Region.noSelect (o0 :: o1 :: o2 :: o3 :: o4 :: o5 :: o6 :: r).toArray = true) (hbe : behind md (o0 :: o1 :: o2 :: o3 :: o4 :: o5 :: o6 :: r).toArray lasts 6 = true) (hf : Region.free md (o0 :: o1 :: o2 :: o3 :: o4 :: o5 :: o6 :: r).toArray listed 6 = true) (hr : (Region.ready md (o0 :: o1 :: o2 :: o3 :: o4 :: o5 :: o6 :: r).toArray listed).contains 6 = true)
    (hQ : ∀ c a w, Q (.panic c) (a.put o6.dst v) w → Q (.panic c) a w) (hy : YieldsIf P (o0 :: o1 :: o2 :: o3 :: o4 :: o5 :: o6 :: r).toArray S o6 v a) (hS : S w) (h : wpAnyT P md (o0 :: o1 :: o2 :: o3 :: o4 :: o5 :: o6 :: r).toArray Q S lasts fuel (listed.setIfInBounds 6 true) (a.put o6.dst v) w) : wpAnyT P md (o0 :: o1 :: o2 :: o3 :: o4 :: o5 :: o6 :: r).toArray Q S lasts (fuel + 1) listed a w :=
  wpAnyT_take (i := 6) rfl hs hbe hf hr hQ hy hS h
theorem dn_6 {o0 o1 o2 o3 o4 o5 o6 : Oper} {r : List Oper} (hr : Region.ready md (o0 :: o1 :: o2 :: o3 :: o4 :: o5 :: o6 :: r).toArray listed = [6])
    (h : ∀ K' : Act → World → Prop, Shut (∀ a w, (lasts 6 = false → S w) → ((lasts 6 = false → S w) → wpAnyT P md (o0 :: o1 :: o2 :: o3 :: o4 :: o5 :: o6 :: r).toArray Q S lasts fuel (listed.setIfInBounds 6 true) a w) → K' a w) → if Region.wanted o6 (yielded (o0 :: o1 :: o2 :: o3 :: o4 :: o5 :: o6 :: r).toArray a.tmps) = true then Oper.wp P o6 a w K' Q else K' (a.put o6.dst undef) w) : wpAnyT P md (o0 :: o1 :: o2 :: o3 :: o4 :: o5 :: o6 :: r).toArray Q S lasts (fuel + 1) listed a w :=
  wpAnyT_one (o := o6) rfl hr h
theorem tk_7 {o0 o1 o2 o3 o4 o5 o6 o7 : Oper} {r : List Oper} {v : Value} (hs : Region.noSelect (o0 :: o1 :: o2 :: o3 :: o4 :: o5 :: o6 :: o7 :: r).toArray = true) (hbe : behind md (o0 :: o1 :: o2 :: o3 :: o4 :: o5 :: o6 :: o7 :: r).toArray lasts 7 = true) (hf : Region.free md (o0 :: o1 :: o2 :: o3 :: o4 :: o5 :: o6 :: o7 :: r).toArray listed 7 = true) (hr : (Region.ready md (o0 :: o1 :: o2 :: o3 :: o4 :: o5 :: o6 :: o7 :: r).toArray listed).contains 7 = true)
    (hQ : ∀ c a w, Q (.panic c) (a.put o7.dst v) w → Q (.panic c) a w) (hy : YieldsIf P (o0 :: o1 :: o2 :: o3 :: o4 :: o5 :: o6 :: o7 :: r).toArray S o7 v a) (hS : S w) (h : wpAnyT P md (o0 :: o1 :: o2 :: o3 :: o4 :: o5 :: o6 :: o7 :: r).toArray Q S lasts fuel (listed.setIfInBounds 7 true) (a.put o7.dst v) w) : wpAnyT P md (o0 :: o1 :: o2 :: o3 :: o4 :: o5 :: o6 :: o7 :: r).toArray Q S lasts (fuel + 1) listed a w :=
  wpAnyT_take (i := 7) rfl hs hbe hf hr hQ hy hS h
theorem dn_7 {o0 o1 o2 o3 o4 o5 o6 o7 : Oper} {r : List Oper} (hr : Region.ready md (o0 :: o1 :: o2 :: o3 :: o4 :: o5 :: o6 :: o7 :: r).toArray listed = [7])
    (h : ∀ K' : Act → World → Prop, Shut (∀ a w, (lasts 7 = false → S w) → ((lasts 7 = false → S w) → wpAnyT P md (o0 :: o1 :: o2 :: o3 :: o4 :: o5 :: o6 :: o7 :: r).toArray Q S lasts fuel (listed.setIfInBounds 7 true) a w) → K' a w) → if Region.wanted o7 (yielded (o0 :: o1 :: o2 :: o3 :: o4 :: o5 :: o6 :: o7 :: r).toArray a.tmps) = true then Oper.wp P o7 a w K' Q else K' (a.put o7.dst undef) w) : wpAnyT P md (o0 :: o1 :: o2 :: o3 :: o4 :: o5 :: o6 :: o7 :: r).toArray Q S lasts (fuel + 1) listed a w :=
  wpAnyT_one (o := o7) rfl hr h
theorem tk_8 {o0 o1 o2 o3 o4 o5 o6 o7 o8 : Oper} {r : List Oper} {v : Value} (hs : Region.noSelect (o0 :: o1 :: o2 :: o3 :: o4 :: o5 :: o6 :: o7 :: o8 :: r).toArray = true) (hbe : behind md (o0 :: o1 :: o2 :: o3 :: o4 :: o5 :: o6 :: o7 :: o8 :: r).toArray lasts 8 = true) (hf : Region.free md (o0 :: o1 :: o2 :: o3 :: o4 :: o5 :: o6 :: o7 :: o8 :: r).toArray listed 8 = true) (hr : (Region.ready md (o0 :: o1 :: o2 :: o3 :: o4 :: o5 :: o6 :: o7 :: o8 :: r).toArray listed).contains 8 = true)
    (hQ : ∀ c a w, Q (.panic c) (a.put o8.dst v) w → Q (.panic c) a w) (hy : YieldsIf P (o0 :: o1 :: o2 :: o3 :: o4 :: o5 :: o6 :: o7 :: o8 :: r).toArray S o8 v a) (hS : S w) (h : wpAnyT P md (o0 :: o1 :: o2 :: o3 :: o4 :: o5 :: o6 :: o7 :: o8 :: r).toArray Q S lasts fuel (listed.setIfInBounds 8 true) (a.put o8.dst v) w) : wpAnyT P md (o0 :: o1 :: o2 :: o3 :: o4 :: o5 :: o6 :: o7 :: o8 :: r).toArray Q S lasts (fuel + 1) listed a w :=
  wpAnyT_take (i := 8) rfl hs hbe hf hr hQ hy hS h
theorem dn_8 {o0 o1 o2 o3 o4 o5 o6 o7 o8 : Oper} {r : List Oper} (hr : Region.ready md (o0 :: o1 :: o2 :: o3 :: o4 :: o5 :: o6 :: o7 :: o8 :: r).toArray listed = [8])
    (h : ∀ K' : Act → World → Prop, Shut (∀ a w, (lasts 8 = false → S w) → ((lasts 8 = false → S w) → wpAnyT P md (o0 :: o1 :: o2 :: o3 :: o4 :: o5 :: o6 :: o7 :: o8 :: r).toArray Q S lasts fuel (listed.setIfInBounds 8 true) a w) → K' a w) → if Region.wanted o8 (yielded (o0 :: o1 :: o2 :: o3 :: o4 :: o5 :: o6 :: o7 :: o8 :: r).toArray a.tmps) = true then Oper.wp P o8 a w K' Q else K' (a.put o8.dst undef) w) : wpAnyT P md (o0 :: o1 :: o2 :: o3 :: o4 :: o5 :: o6 :: o7 :: o8 :: r).toArray Q S lasts (fuel + 1) listed a w :=
  wpAnyT_one (o := o8) rfl hr h
theorem tk_9 {o0 o1 o2 o3 o4 o5 o6 o7 o8 o9 : Oper} {r : List Oper} {v : Value} (hs : Region.noSelect (o0 :: o1 :: o2 :: o3 :: o4 :: o5 :: o6 :: o7 :: o8 :: o9 :: r).toArray = true) (hbe : behind md (o0 :: o1 :: o2 :: o3 :: o4 :: o5 :: o6 :: o7 :: o8 :: o9 :: r).toArray lasts 9 = true) (hf : Region.free md (o0 :: o1 :: o2 :: o3 :: o4 :: o5 :: o6 :: o7 :: o8 :: o9 :: r).toArray listed 9 = true) (hr : (Region.ready md (o0 :: o1 :: o2 :: o3 :: o4 :: o5 :: o6 :: o7 :: o8 :: o9 :: r).toArray listed).contains 9 = true)
    (hQ : ∀ c a w, Q (.panic c) (a.put o9.dst v) w → Q (.panic c) a w) (hy : YieldsIf P (o0 :: o1 :: o2 :: o3 :: o4 :: o5 :: o6 :: o7 :: o8 :: o9 :: r).toArray S o9 v a) (hS : S w) (h : wpAnyT P md (o0 :: o1 :: o2 :: o3 :: o4 :: o5 :: o6 :: o7 :: o8 :: o9 :: r).toArray Q S lasts fuel (listed.setIfInBounds 9 true) (a.put o9.dst v) w) : wpAnyT P md (o0 :: o1 :: o2 :: o3 :: o4 :: o5 :: o6 :: o7 :: o8 :: o9 :: r).toArray Q S lasts (fuel + 1) listed a w :=
  wpAnyT_take (i := 9) rfl hs hbe hf hr hQ hy hS h
theorem dn_9 {o0 o1 o2 o3 o4 o5 o6 o7 o8 o9 : Oper} {r : List Oper} (hr : Region.ready md (o0 :: o1 :: o2 :: o3 :: o4 :: o5 :: o6 :: o7 :: o8 :: o9 :: r).toArray listed = [9])
    (h : ∀ K' : Act → World → Prop, Shut (∀ a w, (lasts 9 = false → S w) → ((lasts 9 = false → S w) → wpAnyT P md (o0 :: o1 :: o2 :: o3 :: o4 :: o5 :: o6 :: o7 :: o8 :: o9 :: r).toArray Q S lasts fuel (listed.setIfInBounds 9 true) a w) → K' a w) → if Region.wanted o9 (yielded (o0 :: o1 :: o2 :: o3 :: o4 :: o5 :: o6 :: o7 :: o8 :: o9 :: r).toArray a.tmps) = true then Oper.wp P o9 a w K' Q else K' (a.put o9.dst undef) w) : wpAnyT P md (o0 :: o1 :: o2 :: o3 :: o4 :: o5 :: o6 :: o7 :: o8 :: o9 :: r).toArray Q S lasts (fuel + 1) listed a w :=
  wpAnyT_one (o := o9) rfl hr h
theorem tk_10 {o0 o1 o2 o3 o4 o5 o6 o7 o8 o9 o10 : Oper} {r : List Oper} {v : Value} (hs : Region.noSelect (o0 :: o1 :: o2 :: o3 :: o4 :: o5 :: o6 :: o7 :: o8 :: o9 :: o10 :: r).toArray = true) (hbe : behind md (o0 :: o1 :: o2 :: o3 :: o4 :: o5 :: o6 :: o7 :: o8 :: o9 :: o10 :: r).toArray lasts 10 = true) (hf : Region.free md (o0 :: o1 :: o2 :: o3 :: o4 :: o5 :: o6 :: o7 :: o8 :: o9 :: o10 :: r).toArray listed 10 = true) (hr : (Region.ready md (o0 :: o1 :: o2 :: o3 :: o4 :: o5 :: o6 :: o7 :: o8 :: o9 :: o10 :: r).toArray listed).contains 10 = true)
    (hQ : ∀ c a w, Q (.panic c) (a.put o10.dst v) w → Q (.panic c) a w) (hy : YieldsIf P (o0 :: o1 :: o2 :: o3 :: o4 :: o5 :: o6 :: o7 :: o8 :: o9 :: o10 :: r).toArray S o10 v a) (hS : S w) (h : wpAnyT P md (o0 :: o1 :: o2 :: o3 :: o4 :: o5 :: o6 :: o7 :: o8 :: o9 :: o10 :: r).toArray Q S lasts fuel (listed.setIfInBounds 10 true) (a.put o10.dst v) w) : wpAnyT P md (o0 :: o1 :: o2 :: o3 :: o4 :: o5 :: o6 :: o7 :: o8 :: o9 :: o10 :: r).toArray Q S lasts (fuel + 1) listed a w :=
  wpAnyT_take (i := 10) rfl hs hbe hf hr hQ hy hS h
theorem tk_11 {o0 o1 o2 o3 o4 o5 o6 o7 o8 o9 o10 o11 : Oper} {r : List Oper} {v : Value} (hs : Region.noSelect (o0 :: o1 :: o2 :: o3 :: o4 :: o5 :: o6 :: o7 :: o8 :: o9 :: o10 :: o11 :: r).toArray = true) (hbe : behind md (o0 :: o1 :: o2 :: o3 :: o4 :: o5 :: o6 :: o7 :: o8 :: o9 :: o10 :: o11 :: r).toArray lasts 11 = true) (hf : Region.free md (o0 :: o1 :: o2 :: o3 :: o4 :: o5 :: o6 :: o7 :: o8 :: o9 :: o10 :: o11 :: r).toArray listed 11 = true) (hr : (Region.ready md (o0 :: o1 :: o2 :: o3 :: o4 :: o5 :: o6 :: o7 :: o8 :: o9 :: o10 :: o11 :: r).toArray listed).contains 11 = true)
    (hQ : ∀ c a w, Q (.panic c) (a.put o11.dst v) w → Q (.panic c) a w) (hy : YieldsIf P (o0 :: o1 :: o2 :: o3 :: o4 :: o5 :: o6 :: o7 :: o8 :: o9 :: o10 :: o11 :: r).toArray S o11 v a) (hS : S w) (h : wpAnyT P md (o0 :: o1 :: o2 :: o3 :: o4 :: o5 :: o6 :: o7 :: o8 :: o9 :: o10 :: o11 :: r).toArray Q S lasts fuel (listed.setIfInBounds 11 true) (a.put o11.dst v) w) : wpAnyT P md (o0 :: o1 :: o2 :: o3 :: o4 :: o5 :: o6 :: o7 :: o8 :: o9 :: o10 :: o11 :: r).toArray Q S lasts (fuel + 1) listed a w :=
  wpAnyT_take (i := 11) rfl hs hbe hf hr hQ hy hS h
theorem dn_11 {o0 o1 o2 o3 o4 o5 o6 o7 o8 o9 o10 o11 : Oper} {r : List Oper} (hr : Region.ready md (o0 :: o1 :: o2 :: o3 :: o4 :: o5 :: o6 :: o7 :: o8 :: o9 :: o10 :: o11 :: r).toArray listed = [11])
    (h : ∀ K' : Act → World → Prop, Shut (∀ a w, (lasts 11 = false → S w) → ((lasts 11 = false → S w) → wpAnyT P md (o0 :: o1 :: o2 :: o3 :: o4 :: o5 :: o6 :: o7 :: o8 :: o9 :: o10 :: o11 :: r).toArray Q S lasts fuel (listed.setIfInBounds 11 true) a w) → K' a w) → if Region.wanted o11 (yielded (o0 :: o1 :: o2 :: o3 :: o4 :: o5 :: o6 :: o7 :: o8 :: o9 :: o10 :: o11 :: r).toArray a.tmps) = true then Oper.wp P o11 a w K' Q else K' (a.put o11.dst undef) w) : wpAnyT P md (o0 :: o1 :: o2 :: o3 :: o4 :: o5 :: o6 :: o7 :: o8 :: o9 :: o10 :: o11 :: r).toArray Q S lasts (fuel + 1) listed a w :=
  wpAnyT_one (o := o11) rfl hr h
theorem tk_12 {o0 o1 o2 o3 o4 o5 o6 o7 o8 o9 o10 o11 o12 : Oper} {r : List Oper} {v : Value} (hs : Region.noSelect (o0 :: o1 :: o2 :: o3 :: o4 :: o5 :: o6 :: o7 :: o8 :: o9 :: o10 :: o11 :: o12 :: r).toArray = true) (hbe : behind md (o0 :: o1 :: o2 :: o3 :: o4 :: o5 :: o6 :: o7 :: o8 :: o9 :: o10 :: o11 :: o12 :: r).toArray lasts 12 = true) (hf : Region.free md (o0 :: o1 :: o2 :: o3 :: o4 :: o5 :: o6 :: o7 :: o8 :: o9 :: o10 :: o11 :: o12 :: r).toArray listed 12 = true) (hr : (Region.ready md (o0 :: o1 :: o2 :: o3 :: o4 :: o5 :: o6 :: o7 :: o8 :: o9 :: o10 :: o11 :: o12 :: r).toArray listed).contains 12 = true)
    (hQ : ∀ c a w, Q (.panic c) (a.put o12.dst v) w → Q (.panic c) a w) (hy : YieldsIf P (o0 :: o1 :: o2 :: o3 :: o4 :: o5 :: o6 :: o7 :: o8 :: o9 :: o10 :: o11 :: o12 :: r).toArray S o12 v a) (hS : S w) (h : wpAnyT P md (o0 :: o1 :: o2 :: o3 :: o4 :: o5 :: o6 :: o7 :: o8 :: o9 :: o10 :: o11 :: o12 :: r).toArray Q S lasts fuel (listed.setIfInBounds 12 true) (a.put o12.dst v) w) : wpAnyT P md (o0 :: o1 :: o2 :: o3 :: o4 :: o5 :: o6 :: o7 :: o8 :: o9 :: o10 :: o11 :: o12 :: r).toArray Q S lasts (fuel + 1) listed a w :=
  wpAnyT_take (i := 12) rfl hs hbe hf hr hQ hy hS h
theorem tk_13 {o0 o1 o2 o3 o4 o5 o6 o7 o8 o9 o10 o11 o12 o13 : Oper} {r : List Oper} {v : Value} (hs : Region.noSelect (o0 :: o1 :: o2 :: o3 :: o4 :: o5 :: o6 :: o7 :: o8 :: o9 :: o10 :: o11 :: o12 :: o13 :: r).toArray = true) (hbe : behind md (o0 :: o1 :: o2 :: o3 :: o4 :: o5 :: o6 :: o7 :: o8 :: o9 :: o10 :: o11 :: o12 :: o13 :: r).toArray lasts 13 = true) (hf : Region.free md (o0 :: o1 :: o2 :: o3 :: o4 :: o5 :: o6 :: o7 :: o8 :: o9 :: o10 :: o11 :: o12 :: o13 :: r).toArray listed 13 = true) (hr : (Region.ready md (o0 :: o1 :: o2 :: o3 :: o4 :: o5 :: o6 :: o7 :: o8 :: o9 :: o10 :: o11 :: o12 :: o13 :: r).toArray listed).contains 13 = true)
    (hQ : ∀ c a w, Q (.panic c) (a.put o13.dst v) w → Q (.panic c) a w) (hy : YieldsIf P (o0 :: o1 :: o2 :: o3 :: o4 :: o5 :: o6 :: o7 :: o8 :: o9 :: o10 :: o11 :: o12 :: o13 :: r).toArray S o13 v a) (hS : S w) (h : wpAnyT P md (o0 :: o1 :: o2 :: o3 :: o4 :: o5 :: o6 :: o7 :: o8 :: o9 :: o10 :: o11 :: o12 :: o13 :: r).toArray Q S lasts fuel (listed.setIfInBounds 13 true) (a.put o13.dst v) w) : wpAnyT P md (o0 :: o1 :: o2 :: o3 :: o4 :: o5 :: o6 :: o7 :: o8 :: o9 :: o10 :: o11 :: o12 :: o13 :: r).toArray Q S lasts (fuel + 1) listed a w :=
  wpAnyT_take (i := 13) rfl hs hbe hf hr hQ hy hS h
theorem tk_14 {o0 o1 o2 o3 o4 o5 o6 o7 o8 o9 o10 o11 o12 o13 o14 : Oper} {r : List Oper} {v : Value} (hs : Region.noSelect (o0 :: o1 :: o2 :: o3 :: o4 :: o5 :: o6 :: o7 :: o8 :: o9 :: o10 :: o11 :: o12 :: o13 :: o14 :: r).toArray = true) (hbe : behind md (o0 :: o1 :: o2 :: o3 :: o4 :: o5 :: o6 :: o7 :: o8 :: o9 :: o10 :: o11 :: o12 :: o13 :: o14 :: r).toArray lasts 14 = true) (hf : Region.free md (o0 :: o1 :: o2 :: o3 :: o4 :: o5 :: o6 :: o7 :: o8 :: o9 :: o10 :: o11 :: o12 :: o13 :: o14 :: r).toArray listed 14 = true) (hr : (Region.ready md (o0 :: o1 :: o2 :: o3 :: o4 :: o5 :: o6 :: o7 :: o8 :: o9 :: o10 :: o11 :: o12 :: o13 :: o14 :: r).toArray listed).contains 14 = true)
    (hQ : ∀ c a w, Q (.panic c) (a.put o14.dst v) w → Q (.panic c) a w) (hy : YieldsIf P (o0 :: o1 :: o2 :: o3 :: o4 :: o5 :: o6 :: o7 :: o8 :: o9 :: o10 :: o11 :: o12 :: o13 :: o14 :: r).toArray S o14 v a) (hS : S w) (h : wpAnyT P md (o0 :: o1 :: o2 :: o3 :: o4 :: o5 :: o6 :: o7 :: o8 :: o9 :: o10 :: o11 :: o12 :: o13 :: o14 :: r).toArray Q S lasts fuel (listed.setIfInBounds 14 true) (a.put o14.dst v) w) : wpAnyT P md (o0 :: o1 :: o2 :: o3 :: o4 :: o5 :: o6 :: o7 :: o8 :: o9 :: o10 :: o11 :: o12 :: o13 :: o14 :: r).toArray Q S lasts (fuel + 1) listed a w :=
  wpAnyT_take (i := 14) rfl hs hbe hf hr hQ hy hS h
theorem tk_15 {o0 o1 o2 o3 o4 o5 o6 o7 o8 o9 o10 o11 o12 o13 o14 o15 : Oper} {r : List Oper} {v : Value} (hs : Region.noSelect (o0 :: o1 :: o2 :: o3 :: o4 :: o5 :: o6 :: o7 :: o8 :: o9 :: o10 :: o11 :: o12 :: o13 :: o14 :: o15 :: r).toArray = true) (hbe : behind md (o0 :: o1 :: o2 :: o3 :: o4 :: o5 :: o6 :: o7 :: o8 :: o9 :: o10 :: o11 :: o12 :: o13 :: o14 :: o15 :: r).toArray lasts 15 = true) (hf : Region.free md (o0 :: o1 :: o2 :: o3 :: o4 :: o5 :: o6 :: o7 :: o8 :: o9 :: o10 :: o11 :: o12 :: o13 :: o14 :: o15 :: r).toArray listed 15 = true) (hr : (Region.ready md (o0 :: o1 :: o2 :: o3 :: o4 :: o5 :: o6 :: o7 :: o8 :: o9 :: o10 :: o11 :: o12 :: o13 :: o14 :: o15 :: r).toArray listed).contains 15 = true)
    (hQ : ∀ c a w, Q (.panic c) (a.put o15.dst v) w → Q (.panic c) a w) (hy : YieldsIf P (o0 :: o1 :: o2 :: o3 :: o4 :: o5 :: o6 :: o7 :: o8 :: o9 :: o10 :: o11 :: o12 :: o13 :: o14 :: o15 :: r).toArray S o15 v a) (hS : S w) (h : wpAnyT P md (o0 :: o1 :: o2 :: o3 :: o4 :: o5 :: o6 :: o7 :: o8 :: o9 :: o10 :: o11 :: o12 :: o13 :: o14 :: o15 :: r).toArray Q S lasts fuel (listed.setIfInBounds 15 true) (a.put o15.dst v) w) : wpAnyT P md (o0 :: o1 :: o2 :: o3 :: o4 :: o5 :: o6 :: o7 :: o8 :: o9 :: o10 :: o11 :: o12 :: o13 :: o14 :: o15 :: r).toArray Q S lasts (fuel + 1) listed a w :=
  wpAnyT_take (i := 15) rfl hs hbe hf hr hQ hy hS h
theorem dn_15 {o0 o1 o2 o3 o4 o5 o6 o7 o8 o9 o10 o11 o12 o13 o14 o15 : Oper} {r : List Oper} (hr : Region.ready md (o0 :: o1 :: o2 :: o3 :: o4 :: o5 :: o6 :: o7 :: o8 :: o9 :: o10 :: o11 :: o12 :: o13 :: o14 :: o15 :: r).toArray listed = [15])
    (h : ∀ K' : Act → World → Prop, Shut (∀ a w, (lasts 15 = false → S w) → ((lasts 15 = false → S w) → wpAnyT P md (o0 :: o1 :: o2 :: o3 :: o4 :: o5 :: o6 :: o7 :: o8 :: o9 :: o10 :: o11 :: o12 :: o13 :: o14 :: o15 :: r).toArray Q S lasts fuel (listed.setIfInBounds 15 true) a w) → K' a w) → if Region.wanted o15 (yielded (o0 :: o1 :: o2 :: o3 :: o4 :: o5 :: o6 :: o7 :: o8 :: o9 :: o10 :: o11 :: o12 :: o13 :: o14 :: o15 :: r).toArray a.tmps) = true then Oper.wp P o15 a w K' Q else K' (a.put o15.dst undef) w) : wpAnyT P md (o0 :: o1 :: o2 :: o3 :: o4 :: o5 :: o6 :: o7 :: o8 :: o9 :: o10 :: o11 :: o12 :: o13 :: o14 :: o15 :: r).toArray Q S lasts (fuel + 1) listed a w :=
  wpAnyT_one (o := o15) rfl hr h
theorem tk_16 {o0 o1 o2 o3 o4 o5 o6 o7 o8 o9 o10 o11 o12 o13 o14 o15 o16 : Oper} {r : List Oper} {v : Value} (hs : Region.noSelect (o0 :: o1 :: o2 :: o3 :: o4 :: o5 :: o6 :: o7 :: o8 :: o9 :: o10 :: o11 :: o12 :: o13 :: o14 :: o15 :: o16 :: r).toArray = true) (hbe : behind md (o0 :: o1 :: o2 :: o3 :: o4 :: o5 :: o6 :: o7 :: o8 :: o9 :: o10 :: o11 :: o12 :: o13 :: o14 :: o15 :: o16 :: r).toArray lasts 16 = true) (hf : Region.free md (o0 :: o1 :: o2 :: o3 :: o4 :: o5 :: o6 :: o7 :: o8 :: o9 :: o10 :: o11 :: o12 :: o13 :: o14 :: o15 :: o16 :: r).toArray listed 16 = true) (hr : (Region.ready md (o0 :: o1 :: o2 :: o3 :: o4 :: o5 :: o6 :: o7 :: o8 :: o9 :: o10 :: o11 :: o12 :: o13 :: o14 :: o15 :: o16 :: r).toArray listed).contains 16 = true)
    (hQ : ∀ c a w, Q (.panic c) (a.put o16.dst v) w → Q (.panic c) a w) (hy : YieldsIf P (o0 :: o1 :: o2 :: o3 :: o4 :: o5 :: o6 :: o7 :: o8 :: o9 :: o10 :: o11 :: o12 :: o13 :: o14 :: o15 :: o16 :: r).toArray S o16 v a) (hS : S w) (h : wpAnyT P md (o0 :: o1 :: o2 :: o3 :: o4 :: o5 :: o6 :: o7 :: o8 :: o9 :: o10 :: o11 :: o12 :: o13 :: o14 :: o15 :: o16 :: r).toArray Q S lasts fuel (listed.setIfInBounds 16 true) (a.put o16.dst v) w) : wpAnyT P md (o0 :: o1 :: o2 :: o3 :: o4 :: o5 :: o6 :: o7 :: o8 :: o9 :: o10 :: o11 :: o12 :: o13 :: o14 :: o15 :: o16 :: r).toArray Q S lasts (fuel + 1) listed a w :=
  wpAnyT_take (i := 16) rfl hs hbe hf hr hQ hy hS h
theorem tk_17 {o0 o1 o2 o3 o4 o5 o6 o7 o8 o9 o10 o11 o12 o13 o14 o15 o16 o17 : Oper} {r : List Oper} {v : Value} (hs : Region.noSelect (o0 :: o1 :: o2 :: o3 :: o4 :: o5 :: o6 :: o7 :: o8 :: o9 :: o10 :: o11 :: o12 :: o13 :: o14 :: o15 :: o16 :: o17 :: r).toArray = true) (hbe : behind md (o0 :: o1 :: o2 :: o3 :: o4 :: o5 :: o6 :: o7 :: o8 :: o9 :: o10 :: o11 :: o12 :: o13 :: o14 :: o15 :: o16 :: o17 :: r).toArray lasts 17 = true) (hf : Region.free md (o0 :: o1 :: o2 :: o3 :: o4 :: o5 :: o6 :: o7 :: o8 :: o9 :: o10 :: o11 :: o12 :: o13 :: o14 :: o15 :: o16 :: o17 :: r).toArray listed 17 = true) (hr : (Region.ready md (o0 :: o1 :: o2 :: o3 :: o4 :: o5 :: o6 :: o7 :: o8 :: o9 :: o10 :: o11 :: o12 :: o13 :: o14 :: o15 :: o16 :: o17 :: r).toArray listed).contains 17 = true)
    (hQ : ∀ c a w, Q (.panic c) (a.put o17.dst v) w → Q (.panic c) a w) (hy : YieldsIf P (o0 :: o1 :: o2 :: o3 :: o4 :: o5 :: o6 :: o7 :: o8 :: o9 :: o10 :: o11 :: o12 :: o13 :: o14 :: o15 :: o16 :: o17 :: r).toArray S o17 v a) (hS : S w) (h : wpAnyT P md (o0 :: o1 :: o2 :: o3 :: o4 :: o5 :: o6 :: o7 :: o8 :: o9 :: o10 :: o11 :: o12 :: o13 :: o14 :: o15 :: o16 :: o17 :: r).toArray Q S lasts fuel (listed.setIfInBounds 17 true) (a.put o17.dst v) w) : wpAnyT P md (o0 :: o1 :: o2 :: o3 :: o4 :: o5 :: o6 :: o7 :: o8 :: o9 :: o10 :: o11 :: o12 :: o13 :: o14 :: o15 :: o16 :: o17 :: r).toArray Q S lasts (fuel + 1) listed a w :=
  wpAnyT_take (i := 17) rfl hs hbe hf hr hQ hy hS h
theorem tk_18 {o0 o1 o2 o3 o4 o5 o6 o7 o8 o9 o10 o11 o12 o13 o14 o15 o16 o17 o18 : Oper} {r : List Oper} {v : Value} (hs : Region.noSelect (o0 :: o1 :: o2 :: o3 :: o4 :: o5 :: o6 :: o7 :: o8 :: o9 :: o10 :: o11 :: o12 :: o13 :: o14 :: o15 :: o16 :: o17 :: o18 :: r).toArray = true) (hbe : behind md (o0 :: o1 :: o2 :: o3 :: o4 :: o5 :: o6 :: o7 :: o8 :: o9 :: o10 :: o11 :: o12 :: o13 :: o14 :: o15 :: o16 :: o17 :: o18 :: r).toArray lasts 18 = true) (hf : Region.free md (o0 :: o1 :: o2 :: o3 :: o4 :: o5 :: o6 :: o7 :: o8 :: o9 :: o10 :: o11 :: o12 :: o13 :: o14 :: o15 :: o16 :: o17 :: o18 :: r).toArray listed 18 = true) (hr : (Region.ready md (o0 :: o1 :: o2 :: o3 :: o4 :: o5 :: o6 :: o7 :: o8 :: o9 :: o10 :: o11 :: o12 :: o13 :: o14 :: o15 :: o16 :: o17 :: o18 :: r).toArray listed).contains 18 = true)
    (hQ : ∀ c a w, Q (.panic c) (a.put o18.dst v) w → Q (.panic c) a w) (hy : YieldsIf P (o0 :: o1 :: o2 :: o3 :: o4 :: o5 :: o6 :: o7 :: o8 :: o9 :: o10 :: o11 :: o12 :: o13 :: o14 :: o15 :: o16 :: o17 :: o18 :: r).toArray S o18 v a) (hS : S w) (h : wpAnyT P md (o0 :: o1 :: o2 :: o3 :: o4 :: o5 :: o6 :: o7 :: o8 :: o9 :: o10 :: o11 :: o12 :: o13 :: o14 :: o15 :: o16 :: o17 :: o18 :: r).toArray Q S lasts fuel (listed.setIfInBounds 18 true) (a.put o18.dst v) w) : wpAnyT P md (o0 :: o1 :: o2 :: o3 :: o4 :: o5 :: o6 :: o7 :: o8 :: o9 :: o10 :: o11 :: o12 :: o13 :: o14 :: o15 :: o16 :: o17 :: o18 :: r).toArray Q S lasts (fuel + 1) listed a w :=
  wpAnyT_take (i := 18) rfl hs hbe hf hr hQ hy hS h
theorem tk_19 {o0 o1 o2 o3 o4 o5 o6 o7 o8 o9 o10 o11 o12 o13 o14 o15 o16 o17 o18 o19 : Oper} {r : List Oper} {v : Value} (hs : Region.noSelect (o0 :: o1 :: o2 :: o3 :: o4 :: o5 :: o6 :: o7 :: o8 :: o9 :: o10 :: o11 :: o12 :: o13 :: o14 :: o15 :: o16 :: o17 :: o18 :: o19 :: r).toArray = true) (hbe : behind md (o0 :: o1 :: o2 :: o3 :: o4 :: o5 :: o6 :: o7 :: o8 :: o9 :: o10 :: o11 :: o12 :: o13 :: o14 :: o15 :: o16 :: o17 :: o18 :: o19 :: r).toArray lasts 19 = true) (hf : Region.free md (o0 :: o1 :: o2 :: o3 :: o4 :: o5 :: o6 :: o7 :: o8 :: o9 :: o10 :: o11 :: o12 :: o13 :: o14 :: o15 :: o16 :: o17 :: o18 :: o19 :: r).toArray listed 19 = true) (hr : (Region.ready md (o0 :: o1 :: o2 :: o3 :: o4 :: o5 :: o6 :: o7 :: o8 :: o9 :: o10 :: o11 :: o12 :: o13 :: o14 :: o15 :: o16 :: o17 :: o18 :: o19 :: r).toArray listed).contains 19 = true)
    (hQ : ∀ c a w, Q (.panic c) (a.put o19.dst v) w → Q (.panic c) a w) (hy : YieldsIf P (o0 :: o1 :: o2 :: o3 :: o4 :: o5 :: o6 :: o7 :: o8 :: o9 :: o10 :: o11 :: o12 :: o13 :: o14 :: o15 :: o16 :: o17 :: o18 :: o19 :: r).toArray S o19 v a) (hS : S w) (h : wpAnyT P md (o0 :: o1 :: o2 :: o3 :: o4 :: o5 :: o6 :: o7 :: o8 :: o9 :: o10 :: o11 :: o12 :: o13 :: o14 :: o15 :: o16 :: o17 :: o18 :: o19 :: r).toArray Q S lasts fuel (listed.setIfInBounds 19 true) (a.put o19.dst v) w) : wpAnyT P md (o0 :: o1 :: o2 :: o3 :: o4 :: o5 :: o6 :: o7 :: o8 :: o9 :: o10 :: o11 :: o12 :: o13 :: o14 :: o15 :: o16 :: o17 :: o18 :: o19 :: r).toArray Q S lasts (fuel + 1) listed a w :=
  wpAnyT_take (i := 19) rfl hs hbe hf hr hQ hy hS h
theorem tk_20 {o0 o1 o2 o3 o4 o5 o6 o7 o8 o9 o10 o11 o12 o13 o14 o15 o16 o17 o18 o19 o20 : Oper} {r : List Oper} {v : Value} (hs : Region.noSelect (o0 :: o1 :: o2 :: o3 :: o4 :: o5 :: o6 :: o7 :: o8 :: o9 :: o10 :: o11 :: o12 :: o13 :: o14 :: o15 :: o16 :: o17 :: o18 :: o19 :: o20 :: r).toArray = true) (hbe : behind md (o0 :: o1 :: o2 :: o3 :: o4 :: o5 :: o6 :: o7 :: o8 :: o9 :: o10 :: o11 :: o12 :: o13 :: o14 :: o15 :: o16 :: o17 :: o18 :: o19 :: o20 :: r).toArray lasts 20 = true) (hf : Region.free md (o0 :: o1 :: o2 :: o3 :: o4 :: o5 :: o6 :: o7 :: o8 :: o9 :: o10 :: o11 :: o12 :: o13 :: o14 :: o15 :: o16 :: o17 :: o18 :: o19 :: o20 :: r).toArray listed 20 = true) (hr : (Region.ready md (o0 :: o1 :: o2 :: o3 :: o4 :: o5 :: o6 :: o7 :: o8 :: o9 :: o10 :: o11 :: o12 :: o13 :: o14 :: o15 :: o16 :: o17 :: o18 :: o19 :: o20 :: r).toArray listed).contains 20 = true)
    (hQ : ∀ c a w, Q (.panic c) (a.put o20.dst v) w → Q (.panic c) a w) (hy : YieldsIf P (o0 :: o1 :: o2 :: o3 :: o4 :: o5 :: o6 :: o7 :: o8 :: o9 :: o10 :: o11 :: o12 :: o13 :: o14 :: o15 :: o16 :: o17 :: o18 :: o19 :: o20 :: r).toArray S o20 v a) (hS : S w) (h : wpAnyT P md (o0 :: o1 :: o2 :: o3 :: o4 :: o5 :: o6 :: o7 :: o8 :: o9 :: o10 :: o11 :: o12 :: o13 :: o14 :: o15 :: o16 :: o17 :: o18 :: o19 :: o20 :: r).toArray Q S lasts fuel (listed.setIfInBounds 20 true) (a.put o20.dst v) w) : wpAnyT P md (o0 :: o1 :: o2 :: o3 :: o4 :: o5 :: o6 :: o7 :: o8 :: o9 :: o10 :: o11 :: o12 :: o13 :: o14 :: o15 :: o16 :: o17 :: o18 :: o19 :: o20 :: r).toArray Q S lasts (fuel + 1) listed a w :=
  wpAnyT_take (i := 20) rfl hs hbe hf hr hQ hy hS h
theorem tk_21 {o0 o1 o2 o3 o4 o5 o6 o7 o8 o9 o10 o11 o12 o13 o14 o15 o16 o17 o18 o19 o20 o21 : Oper} {r : List Oper} {v : Value} (hs : Region.noSelect (o0 :: o1 :: o2 :: o3 :: o4 :: o5 :: o6 :: o7 :: o8 :: o9 :: o10 :: o11 :: o12 :: o13 :: o14 :: o15 :: o16 :: o17 :: o18 :: o19 :: o20 :: o21 :: r).toArray = true) (hbe : behind md (o0 :: o1 :: o2 :: o3 :: o4 :: o5 :: o6 :: o7 :: o8 :: o9 :: o10 :: o11 :: o12 :: o13 :: o14 :: o15 :: o16 :: o17 :: o18 :: o19 :: o20 :: o21 :: r).toArray lasts 21 = true) (hf : Region.free md (o0 :: o1 :: o2 :: o3 :: o4 :: o5 :: o6 :: o7 :: o8 :: o9 :: o10 :: o11 :: o12 :: o13 :: o14 :: o15 :: o16 :: o17 :: o18 :: o19 :: o20 :: o21 :: r).toArray listed 21 = true) (hr : (Region.ready md (o0 :: o1 :: o2 :: o3 :: o4 :: o5 :: o6 :: o7 :: o8 :: o9 :: o10 :: o11 :: o12 :: o13 :: o14 :: o15 :: o16 :: o17 :: o18 :: o19 :: o20 :: o21 :: r).toArray listed).contains 21 = true)
    (hQ : ∀ c a w, Q (.panic c) (a.put o21.dst v) w → Q (.panic c) a w) (hy : YieldsIf P (o0 :: o1 :: o2 :: o3 :: o4 :: o5 :: o6 :: o7 :: o8 :: o9 :: o10 :: o11 :: o12 :: o13 :: o14 :: o15 :: o16 :: o17 :: o18 :: o19 :: o20 :: o21 :: r).toArray S o21 v a) (hS : S w) (h : wpAnyT P md (o0 :: o1 :: o2 :: o3 :: o4 :: o5 :: o6 :: o7 :: o8 :: o9 :: o10 :: o11 :: o12 :: o13 :: o14 :: o15 :: o16 :: o17 :: o18 :: o19 :: o20 :: o21 :: r).toArray Q S lasts fuel (listed.setIfInBounds 21 true) (a.put o21.dst v) w) : wpAnyT P md (o0 :: o1 :: o2 :: o3 :: o4 :: o5 :: o6 :: o7 :: o8 :: o9 :: o10 :: o11 :: o12 :: o13 :: o14 :: o15 :: o16 :: o17 :: o18 :: o19 :: o20 :: o21 :: r).toArray Q S lasts (fuel + 1) listed a w :=
  wpAnyT_take (i := 21) rfl hs hbe hf hr hQ hy hS h
theorem tk_22 {o0 o1 o2 o3 o4 o5 o6 o7 o8 o9 o10 o11 o12 o13 o14 o15 o16 o17 o18 o19 o20 o21 o22 : Oper} {r : List Oper} {v : Value} (hs : Region.noSelect (o0 :: o1 :: o2 :: o3 :: o4 :: o5 :: o6 :: o7 :: o8 :: o9 :: o10 :: o11 :: o12 :: o13 :: o14 :: o15 :: o16 :: o17 :: o18 :: o19 :: o20 :: o21 :: o22 :: r).toArray = true) (hbe : behind md (o0 :: o1 :: o2 :: o3 :: o4 :: o5 :: o6 :: o7 :: o8 :: o9 :: o10 :: o11 :: o12 :: o13 :: o14 :: o15 :: o16 :: o17 :: o18 :: o19 :: o20 :: o21 :: o22 :: r).toArray lasts 22 = true) (hf : Region.free md (o0 :: o1 :: o2 :: o3 :: o4 :: o5 :: o6 :: o7 :: o8 :: o9 :: o10 :: o11 :: o12 :: o13 :: o14 :: o15 :: o16 :: o17 :: o18 :: o19 :: o20 :: o21 :: o22 :: r).toArray listed 22 = true) (hr : (Region.ready md (o0 :: o1 :: o2 :: o3 :: o4 :: o5 :: o6 :: o7 :: o8 :: o9 :: o10 :: o11 :: o12 :: o13 :: o14 :: o15 :: o16 :: o17 :: o18 :: o19 :: o20 :: o21 :: o22 :: r).toArray listed).contains 22 = true)
    (hQ : ∀ c a w, Q (.panic c) (a.put o22.dst v) w → Q (.panic c) a w) (hy : YieldsIf P (o0 :: o1 :: o2 :: o3 :: o4 :: o5 :: o6 :: o7 :: o8 :: o9 :: o10 :: o11 :: o12 :: o13 :: o14 :: o15 :: o16 :: o17 :: o18 :: o19 :: o20 :: o21 :: o22 :: r).toArray S o22 v a) (hS : S w) (h : wpAnyT P md (o0 :: o1 :: o2 :: o3 :: o4 :: o5 :: o6 :: o7 :: o8 :: o9 :: o10 :: o11 :: o12 :: o13 :: o14 :: o15 :: o16 :: o17 :: o18 :: o19 :: o20 :: o21 :: o22 :: r).toArray Q S lasts fuel (listed.setIfInBounds 22 true) (a.put o22.dst v) w) : wpAnyT P md (o0 :: o1 :: o2 :: o3 :: o4 :: o5 :: o6 :: o7 :: o8 :: o9 :: o10 :: o11 :: o12 :: o13 :: o14 :: o15 :: o16 :: o17 :: o18 :: o19 :: o20 :: o21 :: o22 :: r).toArray Q S lasts (fuel + 1) listed a w :=
  wpAnyT_take (i := 22) rfl hs hbe hf hr hQ hy hS h
theorem tk_23 {o0 o1 o2 o3 o4 o5 o6 o7 o8 o9 o10 o11 o12 o13 o14 o15 o16 o17 o18 o19 o20 o21 o22 o23 : Oper} {r : List Oper} {v : Value} (hs : Region.noSelect (o0 :: o1 :: o2 :: o3 :: o4 :: o5 :: o6 :: o7 :: o8 :: o9 :: o10 :: o11 :: o12 :: o13 :: o14 :: o15 :: o16 :: o17 :: o18 :: o19 :: o20 :: o21 :: o22 :: o23 :: r).toArray = true) (hbe : behind md (o0 :: o1 :: o2 :: o3 :: o4 :: o5 :: o6 :: o7 :: o8 :: o9 :: o10 :: o11 :: o12 :: o13 :: o14 :: o15 :: o16 :: o17 :: o18 :: o19 :: o20 :: o21 :: o22 :: o23 :: r).toArray lasts 23 = true) (hf : Region.free md (o0 :: o1 :: o2 :: o3 :: o4 :: o5 :: o6 :: o7 :: o8 :: o9 :: o10 :: o11 :: o12 :: o13 :: o14 :: o15 :: o16 :: o17 :: o18 :: o19 :: o20 :: o21 :: o22 :: o23 :: r).toArray listed 23 = true) (hr : (Region.ready md (o0 :: o1 :: o2 :: o3 :: o4 :: o5 :: o6 :: o7 :: o8 :: o9 :: o10 :: o11 :: o12 :: o13 :: o14 :: o15 :: o16 :: o17 :: o18 :: o19 :: o20 :: o21 :: o22 :: o23 :: r).toArray listed).contains 23 = true)
    (hQ : ∀ c a w, Q (.panic c) (a.put o23.dst v) w → Q (.panic c) a w) (hy : YieldsIf P (o0 :: o1 :: o2 :: o3 :: o4 :: o5 :: o6 :: o7 :: o8 :: o9 :: o10 :: o11 :: o12 :: o13 :: o14 :: o15 :: o16 :: o17 :: o18 :: o19 :: o20 :: o21 :: o22 :: o23 :: r).toArray S o23 v a) (hS : S w) (h : wpAnyT P md (o0 :: o1 :: o2 :: o3 :: o4 :: o5 :: o6 :: o7 :: o8 :: o9 :: o10 :: o11 :: o12 :: o13 :: o14 :: o15 :: o16 :: o17 :: o18 :: o19 :: o20 :: o21 :: o22 :: o23 :: r).toArray Q S lasts fuel (listed.setIfInBounds 23 true) (a.put o23.dst v) w) : wpAnyT P md (o0 :: o1 :: o2 :: o3 :: o4 :: o5 :: o6 :: o7 :: o8 :: o9 :: o10 :: o11 :: o12 :: o13 :: o14 :: o15 :: o16 :: o17 :: o18 :: o19 :: o20 :: o21 :: o22 :: o23 :: r).toArray Q S lasts (fuel + 1) listed a w :=
  wpAnyT_take (i := 23) rfl hs hbe hf hr hQ hy hS h
theorem tk_24 {o0 o1 o2 o3 o4 o5 o6 o7 o8 o9 o10 o11 o12 o13 o14 o15 o16 o17 o18 o19 o20 o21 o22 o23 o24 : Oper} {r : List Oper} {v : Value} (hs : Region.noSelect (o0 :: o1 :: o2 :: o3 :: o4 :: o5 :: o6 :: o7 :: o8 :: o9 :: o10 :: o11 :: o12 :: o13 :: o14 :: o15 :: o16 :: o17 :: o18 :: o19 :: o20 :: o21 :: o22 :: o23 :: o24 :: r).toArray = true) (hbe : behind md (o0 :: o1 :: o2 :: o3 :: o4 :: o5 :: o6 :: o7 :: o8 :: o9 :: o10 :: o11 :: o12 :: o13 :: o14 :: o15 :: o16 :: o17 :: o18 :: o19 :: o20 :: o21 :: o22 :: o23 :: o24 :: r).toArray lasts 24 = true) (hf : Region.free md (o0 :: o1 :: o2 :: o3 :: o4 :: o5 :: o6 :: o7 :: o8 :: o9 :: o10 :: o11 :: o12 :: o13 :: o14 :: o15 :: o16 :: o17 :: o18 :: o19 :: o20 :: o21 :: o22 :: o23 :: o24 :: r).toArray listed 24 = true) (hr : (Region.ready md (o0 :: o1 :: o2 :: o3 :: o4 :: o5 :: o6 :: o7 :: o8 :: o9 :: o10 :: o11 :: o12 :: o13 :: o14 :: o15 :: o16 :: o17 :: o18 :: o19 :: o20 :: o21 :: o22 :: o23 :: o24 :: r).toArray listed).contains 24 = true)
    (hQ : ∀ c a w, Q (.panic c) (a.put o24.dst v) w → Q (.panic c) a w) (hy : YieldsIf P (o0 :: o1 :: o2 :: o3 :: o4 :: o5 :: o6 :: o7 :: o8 :: o9 :: o10 :: o11 :: o12 :: o13 :: o14 :: o15 :: o16 :: o17 :: o18 :: o19 :: o20 :: o21 :: o22 :: o23 :: o24 :: r).toArray S o24 v a) (hS : S w) (h : wpAnyT P md (o0 :: o1 :: o2 :: o3 :: o4 :: o5 :: o6 :: o7 :: o8 :: o9 :: o10 :: o11 :: o12 :: o13 :: o14 :: o15 :: o16 :: o17 :: o18 :: o19 :: o20 :: o21 :: o22 :: o23 :: o24 :: r).toArray Q S lasts fuel (listed.setIfInBounds 24 true) (a.put o24.dst v) w) : wpAnyT P md (o0 :: o1 :: o2 :: o3 :: o4 :: o5 :: o6 :: o7 :: o8 :: o9 :: o10 :: o11 :: o12 :: o13 :: o14 :: o15 :: o16 :: o17 :: o18 :: o19 :: o20 :: o21 :: o22 :: o23 :: o24 :: r).toArray Q S lasts (fuel + 1) listed a w :=
  wpAnyT_take (i := 24) rfl hs hbe hf hr hQ hy hS h
theorem tk_25 {o0 o1 o2 o3 o4 o5 o6 o7 o8 o9 o10 o11 o12 o13 o14 o15 o16 o17 o18 o19 o20 o21 o22 o23 o24 o25 : Oper} {r : List Oper} {v : Value} (hs : Region.noSelect (o0 :: o1 :: o2 :: o3 :: o4 :: o5 :: o6 :: o7 :: o8 :: o9 :: o10 :: o11 :: o12 :: o13 :: o14 :: o15 :: o16 :: o17 :: o18 :: o19 :: o20 :: o21 :: o22 :: o23 :: o24 :: o25 :: r).toArray = true) (hbe : behind md (o0 :: o1 :: o2 :: o3 :: o4 :: o5 :: o6 :: o7 :: o8 :: o9 :: o10 :: o11 :: o12 :: o13 :: o14 :: o15 :: o16 :: o17 :: o18 :: o19 :: o20 :: o21 :: o22 :: o23 :: o24 :: o25 :: r).toArray lasts 25 = true) (hf : Region.free md (o0 :: o1 :: o2 :: o3 :: o4 :: o5 :: o6 :: o7 :: o8 :: o9 :: o10 :: o11 :: o12 :: o13 :: o14 :: o15 :: o16 :: o17 :: o18 :: o19 :: o20 :: o21 :: o22 :: o23 :: o24 :: o25 :: r).toArray listed 25 = true) (hr : (Region.ready md (o0 :: o1 :: o2 :: o3 :: o4 :: o5 :: o6 :: o7 :: o8 :: o9 :: o10 :: o11 :: o12 :: o13 :: o14 :: o15 :: o16 :: o17 :: o18 :: o19 :: o20 :: o21 :: o22 :: o23 :: o24 :: o25 :: r).toArray listed).contains 25 = true)
    (hQ : ∀ c a w, Q (.panic c) (a.put o25.dst v) w → Q (.panic c) a w) (hy : YieldsIf P (o0 :: o1 :: o2 :: o3 :: o4 :: o5 :: o6 :: o7 :: o8 :: o9 :: o10 :: o11 :: o12 :: o13 :: o14 :: o15 :: o16 :: o17 :: o18 :: o19 :: o20 :: o21 :: o22 :: o23 :: o24 :: o25 :: r).toArray S o25 v a) (hS : S w) (h : wpAnyT P md (o0 :: o1 :: o2 :: o3 :: o4 :: o5 :: o6 :: o7 :: o8 :: o9 :: o10 :: o11 :: o12 :: o13 :: o14 :: o15 :: o16 :: o17 :: o18 :: o19 :: o20 :: o21 :: o22 :: o23 :: o24 :: o25 :: r).toArray Q S lasts fuel (listed.setIfInBounds 25 true) (a.put o25.dst v) w) : wpAnyT P md (o0 :: o1 :: o2 :: o3 :: o4 :: o5 :: o6 :: o7 :: o8 :: o9 :: o10 :: o11 :: o12 :: o13 :: o14 :: o15 :: o16 :: o17 :: o18 :: o19 :: o20 :: o21 :: o22 :: o23 :: o24 :: o25 :: r).toArray Q S lasts (fuel + 1) listed a w :=
  wpAnyT_take (i := 25) rfl hs hbe hf hr hQ hy hS h
theorem tk_26 {o0 o1 o2 o3 o4 o5 o6 o7 o8 o9 o10 o11 o12 o13 o14 o15 o16 o17 o18 o19 o20 o21 o22 o23 o24 o25 o26 : Oper} {r : List Oper} {v : Value} (hs : Region.noSelect (o0 :: o1 :: o2 :: o3 :: o4 :: o5 :: o6 :: o7 :: o8 :: o9 :: o10 :: o11 :: o12 :: o13 :: o14 :: o15 :: o16 :: o17 :: o18 :: o19 :: o20 :: o21 :: o22 :: o23 :: o24 :: o25 :: o26 :: r).toArray = true) (hbe : behind md (o0 :: o1 :: o2 :: o3 :: o4 :: o5 :: o6 :: o7 :: o8 :: o9 :: o10 :: o11 :: o12 :: o13 :: o14 :: o15 :: o16 :: o17 :: o18 :: o19 :: o20 :: o21 :: o22 :: o23 :: o24 :: o25 :: o26 :: r).toArray lasts 26 = true) (hf : Region.free md (o0 :: o1 :: o2 :: o3 :: o4 :: o5 :: o6 :: o7 :: o8 :: o9 :: o10 :: o11 :: o12 :: o13 :: o14 :: o15 :: o16 :: o17 :: o18 :: o19 :: o20 :: o21 :: o22 :: o23 :: o24 :: o25 :: o26 :: r).toArray listed 26 = true) (hr : (Region.ready md (o0 :: o1 :: o2 :: o3 :: o4 :: o5 :: o6 :: o7 :: o8 :: o9 :: o10 :: o11 :: o12 :: o13 :: o14 :: o15 :: o16 :: o17 :: o18 :: o19 :: o20 :: o21 :: o22 :: o23 :: o24 :: o25 :: o26 :: r).toArray listed).contains 26 = true)
    (hQ : ∀ c a w, Q (.panic c) (a.put o26.dst v) w → Q (.panic c) a w) (hy : YieldsIf P (o0 :: o1 :: o2 :: o3 :: o4 :: o5 :: o6 :: o7 :: o8 :: o9 :: o10 :: o11 :: o12 :: o13 :: o14 :: o15 :: o16 :: o17 :: o18 :: o19 :: o20 :: o21 :: o22 :: o23 :: o24 :: o25 :: o26 :: r).toArray S o26 v a) (hS : S w) (h : wpAnyT P md (o0 :: o1 :: o2 :: o3 :: o4 :: o5 :: o6 :: o7 :: o8 :: o9 :: o10 :: o11 :: o12 :: o13 :: o14 :: o15 :: o16 :: o17 :: o18 :: o19 :: o20 :: o21 :: o22 :: o23 :: o24 :: o25 :: o26 :: r).toArray Q S lasts fuel (listed.setIfInBounds 26 true) (a.put o26.dst v) w) : wpAnyT P md (o0 :: o1 :: o2 :: o3 :: o4 :: o5 :: o6 :: o7 :: o8 :: o9 :: o10 :: o11 :: o12 :: o13 :: o14 :: o15 :: o16 :: o17 :: o18 :: o19 :: o20 :: o21 :: o22 :: o23 :: o24 :: o25 :: o26 :: r).toArray Q S lasts (fuel + 1) listed a w :=
  wpAnyT_take (i := 26) rfl hs hbe hf hr hQ hy hS h
theorem tk_27 {o0 o1 o2 o3 o4 o5 o6 o7 o8 o9 o10 o11 o12 o13 o14 o15 o16 o17 o18 o19 o20 o21 o22 o23 o24 o25 o26 o27 : Oper} {r : List Oper} {v : Value} (hs : Region.noSelect (o0 :: o1 :: o2 :: o3 :: o4 :: o5 :: o6 :: o7 :: o8 :: o9 :: o10 :: o11 :: o12 :: o13 :: o14 :: o15 :: o16 :: o17 :: o18 :: o19 :: o20 :: o21 :: o22 :: o23 :: o24 :: o25 :: o26 :: o27 :: r).toArray = true) (hbe : behind md (o0 :: o1 :: o2 :: o3 :: o4 :: o5 :: o6 :: o7 :: o8 :: o9 :: o10 :: o11 :: o12 :: o13 :: o14 :: o15 :: o16 :: o17 :: o18 :: o19 :: o20 :: o21 :: o22 :: o23 :: o24 :: o25 :: o26 :: o27 :: r).toArray lasts 27 = true) (hf : Region.free md (o0 :: o1 :: o2 :: o3 :: o4 :: o5 :: o6 :: o7 :: o8 :: o9 :: o10 :: o11 :: o12 :: o13 :: o14 :: o15 :: o16 :: o17 :: o18 :: o19 :: o20 :: o21 :: o22 :: o23 :: o24 :: o25 :: o26 :: o27 :: r).toArray listed 27 = true) (hr : (Region.ready md (o0 :: o1 :: o2 :: o3 :: o4 :: o5 :: o6 :: o7 :: o8 :: o9 :: o10 :: o11 :: o12 :: o13 :: o14 :: o15 :: o16 :: o17 :: o18 :: o19 :: o20 :: o21 :: o22 :: o23 :: o24 :: o25 :: o26 :: o27 :: r).toArray listed).contains 27 = true)
    (hQ : ∀ c a w, Q (.panic c) (a.put o27.dst v) w → Q (.panic c) a w) (hy : YieldsIf P (o0 :: o1 :: o2 :: o3 :: o4 :: o5 :: o6 :: o7 :: o8 :: o9 :: o10 :: o11 :: o12 :: o13 :: o14 :: o15 :: o16 :: o17 :: o18 :: o19 :: o20 :: o21 :: o22 :: o23 :: o24 :: o25 :: o26 :: o27 :: r).toArray S o27 v a) (hS : S w) (h : wpAnyT P md (o0 :: o1 :: o2 :: o3 :: o4 :: o5 :: o6 :: o7 :: o8 :: o9 :: o10 :: o11 :: o12 :: o13 :: o14 :: o15 :: o16 :: o17 :: o18 :: o19 :: o20 :: o21 :: o22 :: o23 :: o24 :: o25 :: o26 :: o27 :: r).toArray Q S lasts fuel (listed.setIfInBounds 27 true) (a.put o27.dst v) w) : wpAnyT P md (o0 :: o1 :: o2 :: o3 :: o4 :: o5 :: o6 :: o7 :: o8 :: o9 :: o10 :: o11 :: o12 :: o13 :: o14 :: o15 :: o16 :: o17 :: o18 :: o19 :: o20 :: o21 :: o22 :: o23 :: o24 :: o25 :: o26 :: o27 :: r).toArray Q S lasts (fuel + 1) listed a w :=
  wpAnyT_take (i := 27) rfl hs hbe hf hr hQ hy hS h
theorem tk_28 {o0 o1 o2 o3 o4 o5 o6 o7 o8 o9 o10 o11 o12 o13 o14 o15 o16 o17 o18 o19 o20 o21 o22 o23 o24 o25 o26 o27 o28 : Oper} {r : List Oper} {v : Value} (hs : Region.noSelect (o0 :: o1 :: o2 :: o3 :: o4 :: o5 :: o6 :: o7 :: o8 :: o9 :: o10 :: o11 :: o12 :: o13 :: o14 :: o15 :: o16 :: o17 :: o18 :: o19 :: o20 :: o21 :: o22 :: o23 :: o24 :: o25 :: o26 :: o27 :: o28 :: r).toArray = true) (hbe : behind md (o0 :: o1 :: o2 :: o3 :: o4 :: o5 :: o6 :: o7 :: o8 :: o9 :: o10 :: o11 :: o12 :: o13 :: o14 :: o15 :: o16 :: o17 :: o18 :: o19 :: o20 :: o21 :: o22 :: o23 :: o24 :: o25 :: o26 :: o27 :: o28 :: r).toArray lasts 28 = true) (hf : Region.free md (o0 :: o1 :: o2 :: o3 :: o4 :: o5 :: o6 :: o7 :: o8 :: o9 :: o10 :: o11 :: o12 :: o13 :: o14 :: o15 :: o16 :: o17 :: o18 :: o19 :: o20 :: o21 :: o22 :: o23 :: o24 :: o25 :: o26 :: o27 :: o28 :: r).toArray listed 28 = true) (hr : (Region.ready md (o0 :: o1 :: o2 :: o3 :: o4 :: o5 :: o6 :: o7 :: o8 :: o9 :: o10 :: o11 :: o12 :: o13 :: o14 :: o15 :: o16 :: o17 :: o18 :: o19 :: o20 :: o21 :: o22 :: o23 :: o24 :: o25 :: o26 :: o27 :: o28 :: r).toArray listed).contains 28 = true)
    (hQ : ∀ c a w, Q (.panic c) (a.put o28.dst v) w → Q (.panic c) a w) (hy : YieldsIf P (o0 :: o1 :: o2 :: o3 :: o4 :: o5 :: o6 :: o7 :: o8 :: o9 :: o10 :: o11 :: o12 :: o13 :: o14 :: o15 :: o16 :: o17 :: o18 :: o19 :: o20 :: o21 :: o22 :: o23 :: o24 :: o25 :: o26 :: o27 :: o28 :: r).toArray S o28 v a) (hS : S w) (h : wpAnyT P md (o0 :: o1 :: o2 :: o3 :: o4 :: o5 :: o6 :: o7 :: o8 :: o9 :: o10 :: o11 :: o12 :: o13 :: o14 :: o15 :: o16 :: o17 :: o18 :: o19 :: o20 :: o21 :: o22 :: o23 :: o24 :: o25 :: o26 :: o27 :: o28 :: r).toArray Q S lasts fuel (listed.setIfInBounds 28 true) (a.put o28.dst v) w) : wpAnyT P md (o0 :: o1 :: o2 :: o3 :: o4 :: o5 :: o6 :: o7 :: o8 :: o9 :: o10 :: o11 :: o12 :: o13 :: o14 :: o15 :: o16 :: o17 :: o18 :: o19 :: o20 :: o21 :: o22 :: o23 :: o24 :: o25 :: o26 :: o27 :: o28 :: r).toArray Q S lasts (fuel + 1) listed a w :=
  wpAnyT_take (i := 28) rfl hs hbe hf hr hQ hy hS h
theorem tk_29 {o0 o1 o2 o3 o4 o5 o6 o7 o8 o9 o10 o11 o12 o13 o14 o15 o16 o17 o18 o19 o20 o21 o22 o23 o24 o25 o26 o27 o28 o29 : Oper} {r : List Oper} {v : Value} (hs : Region.noSelect (o0 :: o1 :: o2 :: o3 :: o4 :: o5 :: o6 :: o7 :: o8 :: o9 :: o10 :: o11 :: o12 :: o13 :: o14 :: o15 :: o16 :: o17 :: o18 :: o19 :: o20 :: o21 :: o22 :: o23 :: o24 :: o25 :: o26 :: o27 :: o28 :: o29 :: r).toArray = true) (hbe : behind md (o0 :: o1 :: o2 :: o3 :: o4 :: o5 :: o6 :: o7 :: o8 :: o9 :: o10 :: o11 :: o12 :: o13 :: o14 :: o15 :: o16 :: o17 :: o18 :: o19 :: o20 :: o21 :: o22 :: o23 :: o24 :: o25 :: o26 :: o27 :: o28 :: o29 :: r).toArray lasts 29 = true) (hf : Region.free md (o0 :: o1 :: o2 :: o3 :: o4 :: o5 :: o6 :: o7 :: o8 :: o9 :: o10 :: o11 :: o12 :: o13 :: o14 :: o15 :: o16 :: o17 :: o18 :: o19 :: o20 :: o21 :: o22 :: o23 :: o24 :: o25 :: o26 :: o27 :: o28 :: o29 :: r).toArray listed 29 = true) (hr : (Region.ready md (o0 :: o1 :: o2 :: o3 :: o4 :: o5 :: o6 :: o7 :: o8 :: o9 :: o10 :: o11 :: o12 :: o13 :: o14 :: o15 :: o16 :: o17 :: o18 :: o19 :: o20 :: o21 :: o22 :: o23 :: o24 :: o25 :: o26 :: o27 :: o28 :: o29 :: r).toArray listed).contains 29 = true)
    (hQ : ∀ c a w, Q (.panic c) (a.put o29.dst v) w → Q (.panic c) a w) (hy : YieldsIf P (o0 :: o1 :: o2 :: o3 :: o4 :: o5 :: o6 :: o7 :: o8 :: o9 :: o10 :: o11 :: o12 :: o13 :: o14 :: o15 :: o16 :: o17 :: o18 :: o19 :: o20 :: o21 :: o22 :: o23 :: o24 :: o25 :: o26 :: o27 :: o28 :: o29 :: r).toArray S o29 v a) (hS : S w) (h : wpAnyT P md (o0 :: o1 :: o2 :: o3 :: o4 :: o5 :: o6 :: o7 :: o8 :: o9 :: o10 :: o11 :: o12 :: o13 :: o14 :: o15 :: o16 :: o17 :: o18 :: o19 :: o20 :: o21 :: o22 :: o23 :: o24 :: o25 :: o26 :: o27 :: o28 :: o29 :: r).toArray Q S lasts fuel (listed.setIfInBounds 29 true) (a.put o29.dst v) w) : wpAnyT P md (o0 :: o1 :: o2 :: o3 :: o4 :: o5 :: o6 :: o7 :: o8 :: o9 :: o10 :: o11 :: o12 :: o13 :: o14 :: o15 :: o16 :: o17 :: o18 :: o19 :: o20 :: o21 :: o22 :: o23 :: o24 :: o25 :: o26 :: o27 :: o28 :: o29 :: r).toArray Q S lasts (fuel + 1) listed a w :=
  wpAnyT_take (i := 29) rfl hs hbe hf hr hQ hy hS h
theorem tk_30 {o0 o1 o2 o3 o4 o5 o6 o7 o8 o9 o10 o11 o12 o13 o14 o15 o16 o17 o18 o19 o20 o21 o22 o23 o24 o25 o26 o27 o28 o29 o30 : Oper} {r : List Oper} {v : Value} (hs : Region.noSelect (o0 :: o1 :: o2 :: o3 :: o4 :: o5 :: o6 :: o7 :: o8 :: o9 :: o10 :: o11 :: o12 :: o13 :: o14 :: o15 :: o16 :: o17 :: o18 :: o19 :: o20 :: o21 :: o22 :: o23 :: o24 :: o25 :: o26 :: o27 :: o28 :: o29 :: o30 :: r).toArray = true) (hbe : behind md (o0 :: o1 :: o2 :: o3 :: o4 :: o5 :: o6 :: o7 :: o8 :: o9 :: o10 :: o11 :: o12 :: o13 :: o14 :: o15 :: o16 :: o17 :: o18 :: o19 :: o20 :: o21 :: o22 :: o23 :: o24 :: o25 :: o26 :: o27 :: o28 :: o29 :: o30 :: r).toArray lasts 30 = true) (hf : Region.free md (o0 :: o1 :: o2 :: o3 :: o4 :: o5 :: o6 :: o7 :: o8 :: o9 :: o10 :: o11 :: o12 :: o13 :: o14 :: o15 :: o16 :: o17 :: o18 :: o19 :: o20 :: o21 :: o22 :: o23 :: o24 :: o25 :: o26 :: o27 :: o28 :: o29 :: o30 :: r).toArray listed 30 = true) (hr : (Region.ready md (o0 :: o1 :: o2 :: o3 :: o4 :: o5 :: o6 :: o7 :: o8 :: o9 :: o10 :: o11 :: o12 :: o13 :: o14 :: o15 :: o16 :: o17 :: o18 :: o19 :: o20 :: o21 :: o22 :: o23 :: o24 :: o25 :: o26 :: o27 :: o28 :: o29 :: o30 :: r).toArray listed).contains 30 = true)
    (hQ : ∀ c a w, Q (.panic c) (a.put o30.dst v) w → Q (.panic c) a w) (hy : YieldsIf P (o0 :: o1 :: o2 :: o3 :: o4 :: o5 :: o6 :: o7 :: o8 :: o9 :: o10 :: o11 :: o12 :: o13 :: o14 :: o15 :: o16 :: o17 :: o18 :: o19 :: o20 :: o21 :: o22 :: o23 :: o24 :: o25 :: o26 :: o27 :: o28 :: o29 :: o30 :: r).toArray S o30 v a) (hS : S w) (h : wpAnyT P md (o0 :: o1 :: o2 :: o3 :: o4 :: o5 :: o6 :: o7 :: o8 :: o9 :: o10 :: o11 :: o12 :: o13 :: o14 :: o15 :: o16 :: o17 :: o18 :: o19 :: o20 :: o21 :: o22 :: o23 :: o24 :: o25 :: o26 :: o27 :: o28 :: o29 :: o30 :: r).toArray Q S lasts fuel (listed.setIfInBounds 30 true) (a.put o30.dst v) w) : wpAnyT P md (o0 :: o1 :: o2 :: o3 :: o4 :: o5 :: o6 :: o7 :: o8 :: o9 :: o10 :: o11 :: o12 :: o13 :: o14 :: o15 :: o16 :: o17 :: o18 :: o19 :: o20 :: o21 :: o22 :: o23 :: o24 :: o25 :: o26 :: o27 :: o28 :: o29 :: o30 :: r).toArray Q S lasts (fuel + 1) listed a w :=
  wpAnyT_take (i := 30) rfl hs hbe hf hr hQ hy hS h
theorem tk_31 {o0 o1 o2 o3 o4 o5 o6 o7 o8 o9 o10 o11 o12 o13 o14 o15 o16 o17 o18 o19 o20 o21 o22 o23 o24 o25 o26 o27 o28 o29 o30 o31 : Oper} {r : List Oper} {v : Value} (hs : Region.noSelect (o0 :: o1 :: o2 :: o3 :: o4 :: o5 :: o6 :: o7 :: o8 :: o9 :: o10 :: o11 :: o12 :: o13 :: o14 :: o15 :: o16 :: o17 :: o18 :: o19 :: o20 :: o21 :: o22 :: o23 :: o24 :: o25 :: o26 :: o27 :: o28 :: o29 :: o30 :: o31 :: r).toArray = true) (hbe : behind md (o0 :: o1 :: o2 :: o3 :: o4 :: o5 :: o6 :: o7 :: o8 :: o9 :: o10 :: o11 :: o12 :: o13 :: o14 :: o15 :: o16 :: o17 :: o18 :: o19 :: o20 :: o21 :: o22 :: o23 :: o24 :: o25 :: o26 :: o27 :: o28 :: o29 :: o30 :: o31 :: r).toArray lasts 31 = true) (hf : Region.free md (o0 :: o1 :: o2 :: o3 :: o4 :: o5 :: o6 :: o7 :: o8 :: o9 :: o10 :: o11 :: o12 :: o13 :: o14 :: o15 :: o16 :: o17 :: o18 :: o19 :: o20 :: o21 :: o22 :: o23 :: o24 :: o25 :: o26 :: o27 :: o28 :: o29 :: o30 :: o31 :: r).toArray listed 31 = true) (hr : (Region.ready md (o0 :: o1 :: o2 :: o3 :: o4 :: o5 :: o6 :: o7 :: o8 :: o9 :: o10 :: o11 :: o12 :: o13 :: o14 :: o15 :: o16 :: o17 :: o18 :: o19 :: o20 :: o21 :: o22 :: o23 :: o24 :: o25 :: o26 :: o27 :: o28 :: o29 :: o30 :: o31 :: r).toArray listed).contains 31 = true)
    (hQ : ∀ c a w, Q (.panic c) (a.put o31.dst v) w → Q (.panic c) a w) (hy : YieldsIf P (o0 :: o1 :: o2 :: o3 :: o4 :: o5 :: o6 :: o7 :: o8 :: o9 :: o10 :: o11 :: o12 :: o13 :: o14 :: o15 :: o16 :: o17 :: o18 :: o19 :: o20 :: o21 :: o22 :: o23 :: o24 :: o25 :: o26 :: o27 :: o28 :: o29 :: o30 :: o31 :: r).toArray S o31 v a) (hS : S w) (h : wpAnyT P md (o0 :: o1 :: o2 :: o3 :: o4 :: o5 :: o6 :: o7 :: o8 :: o9 :: o10 :: o11 :: o12 :: o13 :: o14 :: o15 :: o16 :: o17 :: o18 :: o19 :: o20 :: o21 :: o22 :: o23 :: o24 :: o25 :: o26 :: o27 :: o28 :: o29 :: o30 :: o31 :: r).toArray Q S lasts fuel (listed.setIfInBounds 31 true) (a.put o31.dst v) w) : wpAnyT P md (o0 :: o1 :: o2 :: o3 :: o4 :: o5 :: o6 :: o7 :: o8 :: o9 :: o10 :: o11 :: o12 :: o13 :: o14 :: o15 :: o16 :: o17 :: o18 :: o19 :: o20 :: o21 :: o22 :: o23 :: o24 :: o25 :: o26 :: o27 :: o28 :: o29 :: o30 :: o31 :: r).toArray Q S lasts (fuel + 1) listed a w :=
  wpAnyT_take (i := 31) rfl hs hbe hf hr hQ hy hS h
theorem tk_32 {o0 o1 o2 o3 o4 o5 o6 o7 o8 o9 o10 o11 o12 o13 o14 o15 o16 o17 o18 o19 o20 o21 o22 o23 o24 o25 o26 o27 o28 o29 o30 o31 o32 : Oper} {r : List Oper} {v : Value} (hs : Region.noSelect (o0 :: o1 :: o2 :: o3 :: o4 :: o5 :: o6 :: o7 :: o8 :: o9 :: o10 :: o11 :: o12 :: o13 :: o14 :: o15 :: o16 :: o17 :: o18 :: o19 :: o20 :: o21 :: o22 :: o23 :: o24 :: o25 :: o26 :: o27 :: o28 :: o29 :: o30 :: o31 :: o32 :: r).toArray = true) (hbe : behind md (o0 :: o1 :: o2 :: o3 :: o4 :: o5 :: o6 :: o7 :: o8 :: o9 :: o10 :: o11 :: o12 :: o13 :: o14 :: o15 :: o16 :: o17 :: o18 :: o19 :: o20 :: o21 :: o22 :: o23 :: o24 :: o25 :: o26 :: o27 :: o28 :: o29 :: o30 :: o31 :: o32 :: r).toArray lasts 32 = true) (hf : Region.free md (o0 :: o1 :: o2 :: o3 :: o4 :: o5 :: o6 :: o7 :: o8 :: o9 :: o10 :: o11 :: o12 :: o13 :: o14 :: o15 :: o16 :: o17 :: o18 :: o19 :: o20 :: o21 :: o22 :: o23 :: o24 :: o25 :: o26 :: o27 :: o28 :: o29 :: o30 :: o31 :: o32 :: r).toArray listed 32 = true) (hr : (Region.ready md (o0 :: o1 :: o2 :: o3 :: o4 :: o5 :: o6 :: o7 :: o8 :: o9 :: o10 :: o11 :: o12 :: o13 :: o14 :: o15 :: o16 :: o17 :: o18 :: o19 :: o20 :: o21 :: o22 :: o23 :: o24 :: o25 :: o26 :: o27 :: o28 :: o29 :: o30 :: o31 :: o32 :: r).toArray listed).contains 32 = true)
    (hQ : ∀ c a w, Q (.panic c) (a.put o32.dst v) w → Q (.panic c) a w) (hy : YieldsIf P (o0 :: o1 :: o2 :: o3 :: o4 :: o5 :: o6 :: o7 :: o8 :: o9 :: o10 :: o11 :: o12 :: o13 :: o14 :: o15 :: o16 :: o17 :: o18 :: o19 :: o20 :: o21 :: o22 :: o23 :: o24 :: o25 :: o26 :: o27 :: o28 :: o29 :: o30 :: o31 :: o32 :: r).toArray S o32 v a) (hS : S w) (h : wpAnyT P md (o0 :: o1 :: o2 :: o3 :: o4 :: o5 :: o6 :: o7 :: o8 :: o9 :: o10 :: o11 :: o12 :: o13 :: o14 :: o15 :: o16 :: o17 :: o18 :: o19 :: o20 :: o21 :: o22 :: o23 :: o24 :: o25 :: o26 :: o27 :: o28 :: o29 :: o30 :: o31 :: o32 :: r).toArray Q S lasts fuel (listed.setIfInBounds 32 true) (a.put o32.dst v) w) : wpAnyT P md (o0 :: o1 :: o2 :: o3 :: o4 :: o5 :: o6 :: o7 :: o8 :: o9 :: o10 :: o11 :: o12 :: o13 :: o14 :: o15 :: o16 :: o17 :: o18 :: o19 :: o20 :: o21 :: o22 :: o23 :: o24 :: o25 :: o26 :: o27 :: o28 :: o29 :: o30 :: o31 :: o32 :: r).toArray Q S lasts (fuel + 1) listed a w :=
  wpAnyT_take (i := 32) rfl hs hbe hf hr hQ hy hS h
theorem tk_33 {o0 o1 o2 o3 o4 o5 o6 o7 o8 o9 o10 o11 o12 o13 o14 o15 o16 o17 o18 o19 o20 o21 o22 o23 o24 o25 o26 o27 o28 o29 o30 o31 o32 o33 : Oper} {r : List Oper} {v : Value} (hs : Region.noSelect (o0 :: o1 :: o2 :: o3 :: o4 :: o5 :: o6 :: o7 :: o8 :: o9 :: o10 :: o11 :: o12 :: o13 :: o14 :: o15 :: o16 :: o17 :: o18 :: o19 :: o20 :: o21 :: o22 :: o23 :: o24 :: o25 :: o26 :: o27 :: o28 :: o29 :: o30 :: o31 :: o32 :: o33 :: r).toArray = true) (hbe : behind md (o0 :: o1 :: o2 :: o3 :: o4 :: o5 :: o6 :: o7 :: o8 :: o9 :: o10 :: o11 :: o12 :: o13 :: o14 :: o15 :: o16 :: o17 :: o18 :: o19 :: o20 :: o21 :: o22 :: o23 :: o24 :: o25 :: o26 :: o27 :: o28 :: o29 :: o30 :: o31 :: o32 :: o33 :: r).toArray lasts 33 = true) (hf : Region.free md (o0 :: o1 :: o2 :: o3 :: o4 :: o5 :: o6 :: o7 :: o8 :: o9 :: o10 :: o11 :: o12 :: o13 :: o14 :: o15 :: o16 :: o17 :: o18 :: o19 :: o20 :: o21 :: o22 :: o23 :: o24 :: o25 :: o26 :: o27 :: o28 :: o29 :: o30 :: o31 :: o32 :: o33 :: r).toArray listed 33 = true) (hr : (Region.ready md (o0 :: o1 :: o2 :: o3 :: o4 :: o5 :: o6 :: o7 :: o8 :: o9 :: o10 :: o11 :: o12 :: o13 :: o14 :: o15 :: o16 :: o17 :: o18 :: o19 :: o20 :: o21 :: o22 :: o23 :: o24 :: o25 :: o26 :: o27 :: o28 :: o29 :: o30 :: o31 :: o32 :: o33 :: r).toArray listed).contains 33 = true)
    (hQ : ∀ c a w, Q (.panic c) (a.put o33.dst v) w → Q (.panic c) a w) (hy : YieldsIf P (o0 :: o1 :: o2 :: o3 :: o4 :: o5 :: o6 :: o7 :: o8 :: o9 :: o10 :: o11 :: o12 :: o13 :: o14 :: o15 :: o16 :: o17 :: o18 :: o19 :: o20 :: o21 :: o22 :: o23 :: o24 :: o25 :: o26 :: o27 :: o28 :: o29 :: o30 :: o31 :: o32 :: o33 :: r).toArray S o33 v a) (hS : S w) (h : wpAnyT P md (o0 :: o1 :: o2 :: o3 :: o4 :: o5 :: o6 :: o7 :: o8 :: o9 :: o10 :: o11 :: o12 :: o13 :: o14 :: o15 :: o16 :: o17 :: o18 :: o19 :: o20 :: o21 :: o22 :: o23 :: o24 :: o25 :: o26 :: o27 :: o28 :: o29 :: o30 :: o31 :: o32 :: o33 :: r).toArray Q S lasts fuel (listed.setIfInBounds 33 true) (a.put o33.dst v) w) : wpAnyT P md (o0 :: o1 :: o2 :: o3 :: o4 :: o5 :: o6 :: o7 :: o8 :: o9 :: o10 :: o11 :: o12 :: o13 :: o14 :: o15 :: o16 :: o17 :: o18 :: o19 :: o20 :: o21 :: o22 :: o23 :: o24 :: o25 :: o26 :: o27 :: o28 :: o29 :: o30 :: o31 :: o32 :: o33 :: r).toArray Q S lasts (fuel + 1) listed a w :=
  wpAnyT_take (i := 33) rfl hs hbe hf hr hQ hy hS h
theorem tk_34 {o0 o1 o2 o3 o4 o5 o6 o7 o8 o9 o10 o11 o12 o13 o14 o15 o16 o17 o18 o19 o20 o21 o22 o23 o24 o25 o26 o27 o28 o29 o30 o31 o32 o33 o34 : Oper} {r : List Oper} {v : Value} (hs : Region.noSelect (o0 :: o1 :: o2 :: o3 :: o4 :: o5 :: o6 :: o7 :: o8 :: o9 :: o10 :: o11 :: o12 :: o13 :: o14 :: o15 :: o16 :: o17 :: o18 :: o19 :: o20 :: o21 :: o22 :: o23 :: o24 :: o25 :: o26 :: o27 :: o28 :: o29 :: o30 :: o31 :: o32 :: o33 :: o34 :: r).toArray = true) (hbe : behind md (o0 :: o1 :: o2 :: o3 :: o4 :: o5 :: o6 :: o7 :: o8 :: o9 :: o10 :: o11 :: o12 :: o13 :: o14 :: o15 :: o16 :: o17 :: o18 :: o19 :: o20 :: o21 :: o22 :: o23 :: o24 :: o25 :: o26 :: o27 :: o28 :: o29 :: o30 :: o31 :: o32 :: o33 :: o34 :: r).toArray lasts 34 = true) (hf : Region.free md (o0 :: o1 :: o2 :: o3 :: o4 :: o5 :: o6 :: o7 :: o8 :: o9 :: o10 :: o11 :: o12 :: o13 :: o14 :: o15 :: o16 :: o17 :: o18 :: o19 :: o20 :: o21 :: o22 :: o23 :: o24 :: o25 :: o26 :: o27 :: o28 :: o29 :: o30 :: o31 :: o32 :: o33 :: o34 :: r).toArray listed 34 = true) (hr : (Region.ready md (o0 :: o1 :: o2 :: o3 :: o4 :: o5 :: o6 :: o7 :: o8 :: o9 :: o10 :: o11 :: o12 :: o13 :: o14 :: o15 :: o16 :: o17 :: o18 :: o19 :: o20 :: o21 :: o22 :: o23 :: o24 :: o25 :: o26 :: o27 :: o28 :: o29 :: o30 :: o31 :: o32 :: o33 :: o34 :: r).toArray listed).contains 34 = true)
    (hQ : ∀ c a w, Q (.panic c) (a.put o34.dst v) w → Q (.panic c) a w) (hy : YieldsIf P (o0 :: o1 :: o2 :: o3 :: o4 :: o5 :: o6 :: o7 :: o8 :: o9 :: o10 :: o11 :: o12 :: o13 :: o14 :: o15 :: o16 :: o17 :: o18 :: o19 :: o20 :: o21 :: o22 :: o23 :: o24 :: o25 :: o26 :: o27 :: o28 :: o29 :: o30 :: o31 :: o32 :: o33 :: o34 :: r).toArray S o34 v a) (hS : S w) (h : wpAnyT P md (o0 :: o1 :: o2 :: o3 :: o4 :: o5 :: o6 :: o7 :: o8 :: o9 :: o10 :: o11 :: o12 :: o13 :: o14 :: o15 :: o16 :: o17 :: o18 :: o19 :: o20 :: o21 :: o22 :: o23 :: o24 :: o25 :: o26 :: o27 :: o28 :: o29 :: o30 :: o31 :: o32 :: o33 :: o34 :: r).toArray Q S lasts fuel (listed.setIfInBounds 34 true) (a.put o34.dst v) w) : wpAnyT P md (o0 :: o1 :: o2 :: o3 :: o4 :: o5 :: o6 :: o7 :: o8 :: o9 :: o10 :: o11 :: o12 :: o13 :: o14 :: o15 :: o16 :: o17 :: o18 :: o19 :: o20 :: o21 :: o22 :: o23 :: o24 :: o25 :: o26 :: o27 :: o28 :: o29 :: o30 :: o31 :: o32 :: o33 :: o34 :: r).toArray Q S lasts (fuel + 1) listed a w :=
  wpAnyT_take (i := 34) rfl hs hbe hf hr hQ hy hS h
theorem tk_35 {o0 o1 o2 o3 o4 o5 o6 o7 o8 o9 o10 o11 o12 o13 o14 o15 o16 o17 o18 o19 o20 o21 o22 o23 o24 o25 o26 o27 o28 o29 o30 o31 o32 o33 o34 o35 : Oper} {r : List Oper} {v : Value} (hs : Region.noSelect (o0 :: o1 :: o2 :: o3 :: o4 :: o5 :: o6 :: o7 :: o8 :: o9 :: o10 :: o11 :: o12 :: o13 :: o14 :: o15 :: o16 :: o17 :: o18 :: o19 :: o20 :: o21 :: o22 :: o23 :: o24 :: o25 :: o26 :: o27 :: o28 :: o29 :: o30 :: o31 :: o32 :: o33 :: o34 :: o35 :: r).toArray = true) (hbe : behind md (o0 :: o1 :: o2 :: o3 :: o4 :: o5 :: o6 :: o7 :: o8 :: o9 :: o10 :: o11 :: o12 :: o13 :: o14 :: o15 :: o16 :: o17 :: o18 :: o19 :: o20 :: o21 :: o22 :: o23 :: o24 :: o25 :: o26 :: o27 :: o28 :: o29 :: o30 :: o31 :: o32 :: o33 :: o34 :: o35 :: r).toArray lasts 35 = true) (hf : Region.free md (o0 :: o1 :: o2 :: o3 :: o4 :: o5 :: o6 :: o7 :: o8 :: o9 :: o10 :: o11 :: o12 :: o13 :: o14 :: o15 :: o16 :: o17 :: o18 :: o19 :: o20 :: o21 :: o22 :: o23 :: o24 :: o25 :: o26 :: o27 :: o28 :: o29 :: o30 :: o31 :: o32 :: o33 :: o34 :: o35 :: r).toArray listed 35 = true) (hr : (Region.ready md (o0 :: o1 :: o2 :: o3 :: o4 :: o5 :: o6 :: o7 :: o8 :: o9 :: o10 :: o11 :: o12 :: o13 :: o14 :: o15 :: o16 :: o17 :: o18 :: o19 :: o20 :: o21 :: o22 :: o23 :: o24 :: o25 :: o26 :: o27 :: o28 :: o29 :: o30 :: o31 :: o32 :: o33 :: o34 :: o35 :: r).toArray listed).contains 35 = true)
    (hQ : ∀ c a w, Q (.panic c) (a.put o35.dst v) w → Q (.panic c) a w) (hy : YieldsIf P (o0 :: o1 :: o2 :: o3 :: o4 :: o5 :: o6 :: o7 :: o8 :: o9 :: o10 :: o11 :: o12 :: o13 :: o14 :: o15 :: o16 :: o17 :: o18 :: o19 :: o20 :: o21 :: o22 :: o23 :: o24 :: o25 :: o26 :: o27 :: o28 :: o29 :: o30 :: o31 :: o32 :: o33 :: o34 :: o35 :: r).toArray S o35 v a) (hS : S w) (h : wpAnyT P md (o0 :: o1 :: o2 :: o3 :: o4 :: o5 :: o6 :: o7 :: o8 :: o9 :: o10 :: o11 :: o12 :: o13 :: o14 :: o15 :: o16 :: o17 :: o18 :: o19 :: o20 :: o21 :: o22 :: o23 :: o24 :: o25 :: o26 :: o27 :: o28 :: o29 :: o30 :: o31 :: o32 :: o33 :: o34 :: o35 :: r).toArray Q S lasts fuel (listed.setIfInBounds 35 true) (a.put o35.dst v) w) : wpAnyT P md (o0 :: o1 :: o2 :: o3 :: o4 :: o5 :: o6 :: o7 :: o8 :: o9 :: o10 :: o11 :: o12 :: o13 :: o14 :: o15 :: o16 :: o17 :: o18 :: o19 :: o20 :: o21 :: o22 :: o23 :: o24 :: o25 :: o26 :: o27 :: o28 :: o29 :: o30 :: o31 :: o32 :: o33 :: o34 :: o35 :: r).toArray Q S lasts (fuel + 1) listed a w :=
  wpAnyT_take (i := 35) rfl hs hbe hf hr hQ hy hS h
theorem dn_35 {o0 o1 o2 o3 o4 o5 o6 o7 o8 o9 o10 o11 o12 o13 o14 o15 o16 o17 o18 o19 o20 o21 o22 o23 o24 o25 o26 o27 o28 o29 o30 o31 o32 o33 o34 o35 : Oper} {r : List Oper} (hr : Region.ready md (o0 :: o1 :: o2 :: o3 :: o4 :: o5 :: o6 :: o7 :: o8 :: o9 :: o10 :: o11 :: o12 :: o13 :: o14 :: o15 :: o16 :: o17 :: o18 :: o19 :: o20 :: o21 :: o22 :: o23 :: o24 :: o25 :: o26 :: o27 :: o28 :: o29 :: o30 :: o31 :: o32 :: o33 :: o34 :: o35 :: r).toArray listed = [35])
    (h : ∀ K' : Act → World → Prop, Shut (∀ a w, (lasts 35 = false → S w) → ((lasts 35 = false → S w) → wpAnyT P md (o0 :: o1 :: o2 :: o3 :: o4 :: o5 :: o6 :: o7 :: o8 :: o9 :: o10 :: o11 :: o12 :: o13 :: o14 :: o15 :: o16 :: o17 :: o18 :: o19 :: o20 :: o21 :: o22 :: o23 :: o24 :: o25 :: o26 :: o27 :: o28 :: o29 :: o30 :: o31 :: o32 :: o33 :: o34 :: o35 :: r).toArray Q S lasts fuel (listed.setIfInBounds 35 true) a w) → K' a w) → if Region.wanted o35 (yielded (o0 :: o1 :: o2 :: o3 :: o4 :: o5 :: o6 :: o7 :: o8 :: o9 :: o10 :: o11 :: o12 :: o13 :: o14 :: o15 :: o16 :: o17 :: o18 :: o19 :: o20 :: o21 :: o22 :: o23 :: o24 :: o25 :: o26 :: o27 :: o28 :: o29 :: o30 :: o31 :: o32 :: o33 :: o34 :: o35 :: r).toArray a.tmps) = true then Oper.wp P o35 a w K' Q else K' (a.put o35.dst undef) w) : wpAnyT P md (o0 :: o1 :: o2 :: o3 :: o4 :: o5 :: o6 :: o7 :: o8 :: o9 :: o10 :: o11 :: o12 :: o13 :: o14 :: o15 :: o16 :: o17 :: o18 :: o19 :: o20 :: o21 :: o22 :: o23 :: o24 :: o25 :: o26 :: o27 :: o28 :: o29 :: o30 :: o31 :: o32 :: o33 :: o34 :: o35 :: r).toArray Q S lasts (fuel + 1) listed a w :=
  wpAnyT_one (o := o35) rfl hr h
def AllT (P : Program) (md : Region.Mode) (ops : Array Oper) (Q : Exit → Act → World → Prop) (S : World → Prop) (lasts : Nat → Bool) (fuel : Nat) (listed : Array Bool) (a : Act) (w : World) (rs : List Nat) : Prop :=
  ∀ i ∈ rs, wpOp P ops Q i (fun a' w' => (lasts i = false → S w') ∧ wpAnyT P md ops Q S lasts fuel (listed.setIfInBounds i true) a' w') a w
theorem AllT.nil {ops : Array Oper} : AllT P md ops Q S lasts fuel listed a w [] := fun _ h => by cases h
theorem AllT.cons {ops : Array Oper} {i : Nat} {o : Oper} {rs : List Nat} (ho : ops[i]? = some o)
    (h : ∀ K' : Act → World → Prop, Shut (∀ a w, (lasts i = false → S w) → ((lasts i = false → S w) → wpAnyT P md ops Q S lasts fuel (listed.setIfInBounds i true) a w) → K' a w) → if Region.wanted o (yielded ops a.tmps) = true then Oper.wp P o a w K' Q else K' (a.put o.dst undef) w)
    (hs : AllT P md ops Q S lasts fuel listed a w rs) : AllT P md ops Q S lasts fuel listed a w (i :: rs) := fun j hj => by
  rcases List.mem_cons.1 hj with rfl | hj
  · exact wpOp_step ho (fun K' hK => h K' (fun a w hS hW => hK a w ⟨hS, hW hS⟩))
  · exact hs j hj
theorem wpAnyT_ready {ops : Array Oper} {rs : List Nat} (hr : Region.ready md ops listed = rs) (hne : rs ≠ []) (h : AllT P md ops Q S lasts fuel listed a w rs) : wpAnyT P md ops Q S lasts (fuel + 1) listed a w :=
  ⟨fun h0 => absurd (hr ▸ h0) hne, hr ▸ h⟩
theorem ca_0 {o0 : Oper} {r : List Oper} {rs : List Nat}
    (h : ∀ K' : Act → World → Prop, Shut (∀ a w, (lasts 0 = false → S w) → ((lasts 0 = false → S w) → wpAnyT P md (o0 :: r).toArray Q S lasts fuel (listed.setIfInBounds 0 true) a w) → K' a w) → if Region.wanted o0 (yielded (o0 :: r).toArray a.tmps) = true then Oper.wp P o0 a w K' Q else K' (a.put o0.dst undef) w)
    (hs : AllT P md (o0 :: r).toArray Q S lasts fuel listed a w rs) : AllT P md (o0 :: r).toArray Q S lasts fuel listed a w (0 :: rs) :=
  AllT.cons (o := o0) rfl h hs
theorem ca_3 {o0 o1 o2 o3 : Oper} {r : List Oper} {rs : List Nat}
    (h : ∀ K' : Act → World → Prop, Shut (∀ a w, (lasts 3 = false → S w) → ((lasts 3 = false → S w) → wpAnyT P md (o0 :: o1 :: o2 :: o3 :: r).toArray Q S lasts fuel (listed.setIfInBounds 3 true) a w) → K' a w) → if Region.wanted o3 (yielded (o0 :: o1 :: o2 :: o3 :: r).toArray a.tmps) = true then Oper.wp P o3 a w K' Q else K' (a.put o3.dst undef) w)
    (hs : AllT P md (o0 :: o1 :: o2 :: o3 :: r).toArray Q S lasts fuel listed a w rs) : AllT P md (o0 :: o1 :: o2 :: o3 :: r).toArray Q S lasts fuel listed a w (3 :: rs) :=
  AllT.cons (o := o3) rfl h hs
theorem ca_4 {o0 o1 o2 o3 o4 : Oper} {r : List Oper} {rs : List Nat}
    (h : ∀ K' : Act → World → Prop, Shut (∀ a w, (lasts 4 = false → S w) → ((lasts 4 = false → S w) → wpAnyT P md (o0 :: o1 :: o2 :: o3 :: o4 :: r).toArray Q S lasts fuel (listed.setIfInBounds 4 true) a w) → K' a w) → if Region.wanted o4 (yielded (o0 :: o1 :: o2 :: o3 :: o4 :: r).toArray a.tmps) = true then Oper.wp P o4 a w K' Q else K' (a.put o4.dst undef) w)
    (hs : AllT P md (o0 :: o1 :: o2 :: o3 :: o4 :: r).toArray Q S lasts fuel listed a w rs) : AllT P md (o0 :: o1 :: o2 :: o3 :: o4 :: r).toArray Q S lasts fuel listed a w (4 :: rs) :=
  AllT.cons (o := o4) rfl h hs
theorem ca_5 {o0 o1 o2 o3 o4 o5 : Oper} {r : List Oper} {rs : List Nat}
    (h : ∀ K' : Act → World → Prop, Shut (∀ a w, (lasts 5 = false → S w) → ((lasts 5 = false → S w) → wpAnyT P md (o0 :: o1 :: o2 :: o3 :: o4 :: o5 :: r).toArray Q S lasts fuel (listed.setIfInBounds 5 true) a w) → K' a w) → if Region.wanted o5 (yielded (o0 :: o1 :: o2 :: o3 :: o4 :: o5 :: r).toArray a.tmps) = true then Oper.wp P o5 a w K' Q else K' (a.put o5.dst undef) w)
    (hs : AllT P md (o0 :: o1 :: o2 :: o3 :: o4 :: o5 :: r).toArray Q S lasts fuel listed a w rs) : AllT P md (o0 :: o1 :: o2 :: o3 :: o4 :: o5 :: r).toArray Q S lasts fuel listed a w (5 :: rs) :=
  AllT.cons (o := o5) rfl h hs
theorem ca_6 {o0 o1 o2 o3 o4 o5 o6 : Oper} {r : List Oper} {rs : List Nat}
    (h : ∀ K' : Act → World → Prop, Shut (∀ a w, (lasts 6 = false → S w) → ((lasts 6 = false → S w) → wpAnyT P md (o0 :: o1 :: o2 :: o3 :: o4 :: o5 :: o6 :: r).toArray Q S lasts fuel (listed.setIfInBounds 6 true) a w) → K' a w) → if Region.wanted o6 (yielded (o0 :: o1 :: o2 :: o3 :: o4 :: o5 :: o6 :: r).toArray a.tmps) = true then Oper.wp P o6 a w K' Q else K' (a.put o6.dst undef) w)
    (hs : AllT P md (o0 :: o1 :: o2 :: o3 :: o4 :: o5 :: o6 :: r).toArray Q S lasts fuel listed a w rs) : AllT P md (o0 :: o1 :: o2 :: o3 :: o4 :: o5 :: o6 :: r).toArray Q S lasts fuel listed a w (6 :: rs) :=
  AllT.cons (o := o6) rfl h hs
theorem dt_6 {o0 o1 o2 o3 o4 o5 o6 o7 : Oper} {r : List Oper} (hr : Region.ready md (o0 :: o1 :: o2 :: o3 :: o4 :: o5 :: o6 :: o7 :: r).toArray listed = [6, 7])
    (h : ∀ K' : Act → World → Prop, Shut (∀ a w, (lasts 6 = false → S w) → ((lasts 6 = false → S w) → wpAnyT P md (o0 :: o1 :: o2 :: o3 :: o4 :: o5 :: o6 :: o7 :: r).toArray Q S lasts fuel (listed.setIfInBounds 6 true) a w) → K' a w) → if Region.wanted o6 (yielded (o0 :: o1 :: o2 :: o3 :: o4 :: o5 :: o6 :: o7 :: r).toArray a.tmps) = true then Oper.wp P o6 a w K' Q else K' (a.put o6.dst undef) w)
    (h' : ∀ K' : Act → World → Prop, Shut (∀ a w, (lasts 7 = false → S w) → ((lasts 7 = false → S w) → wpAnyT P md (o0 :: o1 :: o2 :: o3 :: o4 :: o5 :: o6 :: o7 :: r).toArray Q S lasts fuel (listed.setIfInBounds 7 true) a w) → K' a w) → if Region.wanted o7 (yielded (o0 :: o1 :: o2 :: o3 :: o4 :: o5 :: o6 :: o7 :: r).toArray a.tmps) = true then Oper.wp P o7 a w K' Q else K' (a.put o7.dst undef) w) : wpAnyT P md (o0 :: o1 :: o2 :: o3 :: o4 :: o5 :: o6 :: o7 :: r).toArray Q S lasts (fuel + 1) listed a w :=
  wpAnyT_two (o := o6) (o' := o7) rfl rfl hr h h'
end
theorem bl_on {w w1 w2 : World} (h : Below w.heap.size w w1) (h2 : Below w1.heap.size w1 w2) : Below w.heap.size w w2 := h.trans (h2.mono h.size)
end
abbrev wv (x : Sha.W) : Value := .int .u32 (x.toNat : Int)
theorem rot_count (j : Nat) (h0 : 0 < j) (hj : j < 32) : bits .and .u64 (IntKind.u64.wrap (-(j : Int))) 31 = ((32 - j : Nat) : Int) := by
  rw [IntKind.wrap_u64, show (-(j : Int)) % 18446744073709551616 = ((18446744073709551616 - j : Nat) : Int) from by omega, show (31 : Int) = ((31 : Nat) : Int) from rfl, u64_and_nat _ _ (by omega) (by omega)]
  congr 1
  have := Nat.and_two_pow_sub_one_eq_mod (18446744073709551616 - j) 5
  rw [show (31 : Nat) = 2 ^ 5 - 1 from rfl, this]
  omega
theorem rot_val (x : Sha.W) (j : Nat) (hj : j ≤ 32) : bits .or .u32 ((x.toNat : Int) * 2 ^ (32 - j) % 4294967296) ((x.toNat : Int) / 2 ^ (32 - (32 - j))) = ((Sha.rotr x j).toNat : Int) := by
  rw [← IntKind.wrap_u32, u32_shl, u32_shr, u32_or, show 32 - (32 - j) = j from by omega]
  unfold Sha.rotr
  rw [BitVec.or_comm]
set_option maxHeartbeats 400000 in
theorem RotateLeft32 (x : Sha.W) (k y : Int) (j : Nat) (hk : k = -(j : Int)) (hy : y = x.toNat) (h0 : 0 < j) (hj : j < 32) (w : World) :
    Calls Tryd.prog 60 #[.int .u32 y, .int .i64 k] w fun e w' => e = .returned (wv (Sha.rotr x j)) ∧ w = w' := by
  subst hk; subst hy
  have hc := rot_count j h0 hj
  have hv := Lib.hid (rot_val x j (by omega))
  have hlt := x.isLt
  obtain ⟨c, hcj⟩ : ∃ c, c = 32 - j := ⟨_, rfl⟩
  rw [← hcj] at hc hv
  have hc1 : 0 < c := by omega
  have hc2 : c < 32 := by omega
  clear hcj
  go_enter Tryd.func60, Tryd.ntmps60
  go_wp2_with fail
  go_ret
  exact ⟨congrArg (fun z => Ending.returned (.int .u32 z)) hv.out, rfl⟩
set_option maxHeartbeats 400000 in
theorem hash_mix (x : Sha.W) (y ki kj kk : Int) (i j k : Nat) (hy : y = x.toNat) (hi : ki = i) (hj : kj = j) (hk : kk = k) (bi : 0 < i ∧ i < 32) (bj : 0 < j ∧ j < 32) (bk : 0 < k ∧ k < 32) (w : World) :
    Calls Tryd.prog 56 #[.int .u32 y, .int .i64 ki, .int .i64 kj, .int .i64 kk] w fun e w' => e = .returned (wv (Sha.mix x i j k)) ∧ w = w' := by
  subst hi; subst hj; subst hk; subst hy
  go_enter Tryd.func56, Tryd.ntmps56
  go_wp2_with fail
  with_reducible refine (RotateLeft32 x (-(i : Int)) _ i rfl rfl bi.1 bi.2 _).mono ?_
  rintro e w' ⟨rfl, rfl⟩
  go_wp2_with fail
  with_reducible refine (RotateLeft32 x (-(j : Int)) _ j rfl rfl bj.1 bj.2 _).mono ?_
  rintro e w' ⟨rfl, rfl⟩
  go_wp2_with fail
  with_reducible refine (RotateLeft32 x (-(k : Int)) _ k rfl rfl bk.1 bk.2 _).mono ?_
  rintro e w' ⟨rfl, rfl⟩
  go_wp2_with fail
  go_ret
  exact ⟨by rw [u32_xor, u32_xor]; rfl, rfl⟩
theorem elBytes : El Tryd.prog 24 5 (.int .u8 0) 1 1 := ⟨Tryd.underlying24, info_parts (by kernel_rfl), rfl, by decide⟩
def Made (l : List UInt8) (w : World) (e : Ending) (w' : World) : Prop :=
  ∃ v, e = .returned v ∧ w'.ownsRow w.heap.size 5 1 v l.length (l.map bv) ∧ Below w.heap.size w w'
theorem enc_step {l : List UInt8} {z : Nat} (hz : ¬ z < 128) (n : Int) (h : l ++ enc z = encInt n) : (l ++ [UInt8.ofNat (z % 128 + 128)]) ++ enc (z / 128) = encInt n := by
  rw [← h, enc_big hz]; simp
theorem enc_last {l : List UInt8} {z : Nat} (hz : z < 128) (n : Int) (h : l ++ enc z = encInt n) : l ++ [UInt8.ofNat z] = encInt n := by
  rw [← h, enc_small hz]
theorem enc_short {l : List UInt8} {z : Nat} (n : Int) (h1 : -9223372036854775808 ≤ n) (h2 : n ≤ 9223372036854775807) (h : l ++ enc z = encInt n) : l.length + 1 ≤ 10 := by
  have := enc_length_10 (zig n) (zig_lt n h1 h2)
  have h' := congrArg List.length h
  have := enc_length_pos z
  simp only [encInt, List.length_append] at h'
  omega
theorem own_snoc {w : World} {base : Nat} {v : Value} {l : List UInt8} {k : Int} {u : UInt8} (hk : Value.int .u8 k = bv u) (h : w.ownsRow base 5 1 v (l.length + 1) (l.map bv ++ [.int .u8 k])) :
    w.ownsRow base 5 1 v (l ++ [u]).length ((l ++ [u]).map bv) := by
  rw [hk] at h; simpa using h
def EncRel (n : Int) (w : World) (u3 u4 : Value) (wr : World) : Prop :=
  ∃ (z : Nat) (l : List UInt8), u3 = .int .u64 z ∧ z < 18446744073709551616 ∧ l ++ enc z = encInt n ∧ wr.ownsRow w.heap.size 5 1 u4 l.length (l.map bv) ∧ Below w.heap.size w wr
set_option maxHeartbeats 400000 in
theorem wire_Int (n : Int) (w : World) (h1 : -9223372036854775808 ≤ n) (h2 : n ≤ 9223372036854775807) :
    Calls Tryd.prog 21 #[.int .i64 n] w (Made (encInt n) w) := by
  go_enter Tryd.func21, Tryd.ntmps21
  go_wp2
  rw [xor_zig n h1 h2]
  go_loopw [3, 4] (EncRel n w) (fun u3 _ _ => (intOf u3).toNat)
  case atStart => exact ⟨zig n, [], rfl, zig_lt n h1 h2, rfl, World.ownsRow_nil _ _ _ _, Below.refl _ _⟩
  case round =>
    obtain ⟨z, l, rfl, hz, hl, hown, hb⟩ := hrel
    have hsh := enc_short n h1 h2 hl
    have H := Lib.hid hl
    clear hl
    by_cases hlt : z < 128
    · go_wp2_with (at_builtin; refine wpList_append_one _ rfl _ _ _ rfl elBytes w.heap.size _ _ _ rfl hown _ rfl rfl (by omega) (by omega) hb.size w w.heap.size hb (Nat.le_refl _) ?_)
      intro v' w' hown' hb'
      go_wp2
      go_ret
      refine ⟨v', rfl, ?_, hb'⟩
      have := own_snoc (u := UInt8.ofNat z) (by rw [bv_ofNat z (by omega)]) hown'
      rw [← enc_last hlt n H.out]
      exact this
    · go_wp2_with (at_builtin; refine wpList_append_one _ rfl _ _ _ rfl elBytes w.heap.size _ _ _ rfl hown _ rfl rfl (by omega) (by omega) hb.size w w.heap.size hb (Nat.le_refl _) ?_)
      intro v' w' hown' hb'
      have hown2 := own_snoc (u := UInt8.ofNat (z % 128 + 128)) (by rw [or128, bv_ofNat _ (by omega)]) hown'
      clear hown' hown
      go_wp2
      go_roundw
      case rel => exact ⟨z / 128, _, by go_num, by omega, enc_step hlt n H.out, hown2, hb'⟩
      case measure => simp [intOf]; omega
theorem rep_at (n i : Nat) (v : Value) (h : i < n) : (List.replicate n v).toArray[i]? = some v := by rw [List.getElem?_toArray, List.getElem?_replicate, if_pos h]
namespace Sha
def part (b : List UInt8) (t : Nat) : Nat → W
  | 0 => 0#32
  | j + 1 => (part b t j <<< 8) ||| byteAt b (4 * t + j)
theorem part_4 (b : List UInt8) (t : Nat) : part b t 4 = word b t := by
  simp [part, word]
theorem wAt_lo (b : List UInt8) (t : Nat) (h : t < 16) : wAt b t = word b t := by
  unfold wAt nextW; rw [if_pos h]
theorem revW_at (b : List UInt8) : ∀ (n i : Nat), i < n → (revW b n).getD i 0#32 = wAt b (n - 1 - i)
  | n + 1, 0, _ => rfl
  | n + 1, i + 1, h => by
    show (revW b n).getD i 0#32 = _
    rw [revW_at b n i (by omega)]
    congr 1; omega
theorem wAt_hi (b : List UInt8) (t : Nat) (h : ¬ t < 16) : wAt b t = wAt b (t - 16) + s0 (wAt b (t - 15)) + wAt b (t - 7) + s1 (wAt b (t - 2)) := by
  have h15 := revW_at b t 15 (by omega)
  have h14 := revW_at b t 14 (by omega)
  have h6 := revW_at b t 6 (by omega)
  have h1 := revW_at b t 1 (by omega)
  unfold wAt
  conv => lhs; unfold nextW
  rw [if_neg h, h15, h14, h6, h1, show t - 1 - 15 = t - 16 from by omega, show t - 1 - 14 = t - 15 from by omega, show t - 1 - 6 = t - 7 from by omega, show t - 1 - 1 = t - 2 from by omega]
  rfl
def wrow (b : List UInt8) (k : Nat) (p : W) (i : Nat) : Value := if i < k then wv (wAt b i) else if i = k then wv p else wv 0#32
theorem wrow_at (b : List UInt8) (k : Nat) (p : W) : wrow b k p k = wv p := by unfold wrow; rw [if_neg (by omega), if_pos rfl]
theorem wrow_lo (b : List UInt8) (k i : Nat) (p : W) (h : i < k) : wrow b k p i = wv (wAt b i) := by unfold wrow; rw [if_pos h]
theorem wrow_set (b : List UInt8) (k : Nat) (p q : W) (j : Nat) : (if j = k then wv q else wrow b k p j) = wrow b k q j := by
  unfold wrow
  by_cases h : j = k
  · subst h; simp
  · simp [h]
theorem wrow_next (b : List UInt8) (k : Nat) (p : W) (h : p = wAt b k) (j : Nat) : wrow b k p j = wrow b (k + 1) 0#32 j := by
  subst h
  unfold wrow
  by_cases h1 : j < k
  · rw [if_pos h1, if_pos (by omega)]
  · by_cases h2 : j = k
    · subst h2; rw [if_neg h1, if_pos rfl, if_pos (by omega)]
    · rw [if_neg h1, if_neg h2, if_neg (by omega)]; simp
end Sha
theorem aggW64 : Agg Tryd.prog 97 64 := ⟨⟨_, Tryd.underlying97, rfl⟩, by kernel_rfl⟩
def schedVal (b : List UInt8) : Value := .agg (arr 64 fun i => wv (Sha.wAt b i))
theorem shl8_or (p : Sha.W) (b : List UInt8) (i u : Nat) (hu : (b.getD i 0).toNat = u) : bits .or .u32 ((p.toNat : Int) * 256 % 4294967296) (u : Int) = (((p <<< 8) ||| Sha.byteAt b i).toNat : Int) := by
  have e1 : (p.toNat : Int) * (256 : Int) % (4294967296 : Int) = ((p <<< 8).toNat : Int) := by rw [← IntKind.wrap_u32]; exact u32_shl p 8
  have e2 : (u : Int) = ((Sha.byteAt b i).toNat : Int) := by
    unfold Sha.byteAt
    have := (b.getD i 0).toNat_lt
    rw [BitVec.toNat_ofNat, hu, Nat.mod_eq_of_lt (by omega)]
  rw [e1, e2, u32_or]
theorem shr3 (x : Sha.W) : (x.toNat : Int) / (8 : Int) = ((x >>> 3).toNat : Int) := u32_shr x 3
theorem shr10 (x : Sha.W) : (x.toNat : Int) / (1024 : Int) = ((x >>> 10).toNat : Int) := u32_shr x 10
theorem sched_val (x16 x15 x7 x2 : Sha.W) : IntKind.u32.wrap (IntKind.u32.wrap (IntKind.u32.wrap ((x16.toNat : Int) + bits .xor .u32 (bits .xor .u32 ((Sha.rotr x15 7).toNat : Int) ((Sha.rotr x15 18).toNat : Int)) ((x15.toNat : Int) / (8 : Int))) + (x7.toNat : Int)) +
    bits .xor .u32 (bits .xor .u32 ((Sha.rotr x2 17).toNat : Int) ((Sha.rotr x2 19).toNat : Int)) ((x2.toNat : Int) / (1024 : Int))) = ((x16 + Sha.s0 x15 + x7 + Sha.s1 x2).toNat : Int) := by
  rw [shr3, shr10, u32_xor, u32_xor, u32_xor, u32_xor, u32_add, u32_add, u32_add]; rfl
set_option maxHeartbeats 1000000 in
set_option maxRecDepth 100000 in
theorem hash_schedule (b : List UInt8) (x : Value) (w : World) (hb : b.length = 64) (hl : Sl w x 1 b.length (b.map bv)) :
    Calls Tryd.prog 55 #[x] w fun e w' => e = .returned (schedVal b) ∧ Below w.heap.size w w' := by
  obtain ⟨A, c, rfl, hnc, hcm, hr⟩ := id hl
  unfold maxLen at hcm
  obtain ⟨ad, rfl, hab, hcell⟩ := hr.2 (by omega)
  have hb1 : 64 ≤ b.length := by omega
  have HB := Lib.hid hb
  clear hb
  have hzero : ∀ i, i < 64 → (List.replicate 64 (wv 0#32)).toArray[i]? = some (wv 0#32) := fun i hi => rep_at 64 i _ hi
  go_enter Tryd.func55, Tryd.ntmps55
  go_wp2_with fail
  go_loopw [11] (fun u11 wr => ∃ k : Nat, k ≤ 64 ∧ u11 = .int .i64 k ∧ wr.rowIs (w.heap.size + 1) 97 64 (Sha.wrow b k 0#32) ∧ wr.rowIs w.heap.size 97 64 (fun _ => wv 0#32) ∧ Below w.heap.size w wr) (fun u11 _ => 64 - (intOf u11).toNat)
  case atStart =>
    refine ⟨0, by omega, rfl, ?_, ?_, ((Below.refl _ _).alloc (Nat.le_refl _) _).alloc (by simp) _⟩
    · have h1 := row_new (w.alloc (.cells (List.replicate 64 (wv 0#32)).toArray 97)) (List.replicate 64 (wv 0#32)).toArray 97 64 (Sha.wrow b 0 0#32) rfl (fun i hi => by
        rw [hzero i hi]; unfold Sha.wrow; rw [if_neg (by omega)]; simp)
      have h2 : (w.alloc (.cells (List.replicate 64 (wv 0#32)).toArray 97)).heap.size = w.heap.size + 1 := by simp
      rw [h2] at h1
      exact h1
    · exact (row_new w (List.replicate 64 (wv 0#32)).toArray 97 64 (fun _ => wv 0#32) rfl hzero).alloc _
  case round =>
    clear hzero
    obtain ⟨k, hk, rfl, hw, hres, hbl⟩ := hrel
    by_cases hlt : k < 64
    · by_cases h16 : k < 16
      · go_wp2_with fail
        have hadd : ∀ j, (ad.add (4 * k)).add j = ad.add (4 * k + j) := fun j => add_of_add _ _ _
        have hbytes : ∀ j, j < 4 → w.cell? ((ad.add (4 * k)).add j) = some (.int .u8 ((b.getD (4 * k + j) 0).toNat : Int)) := fun j hj => by
          rw [hadd]
          refine hcell _ _ ?_
          have h1 : 4 * k + j < b.length := by omega
          simp [List.getElem?_eq_getElem h1, bv]
        have hblk : (ad.add (4 * k)).block < w.heap.size := by rw [block_of_add]; exact hab
        generalize ad.add (4 * k) = ad2 at *
        clear hadd
        obtain ⟨wo, rfl⟩ : ∃ wo : World, wo = wr := ⟨_, rfl⟩
        go_loopw [24] (fun u24 wi => ∃ j : Nat, j ≤ 4 ∧ u24 = .int .i64 j ∧ wi.rowIs (w.heap.size + 1) 97 64 (Sha.wrow b k (Sha.part b k j)) ∧ wi.rowIs w.heap.size 97 64 (fun _ => wv 0#32) ∧ Below w.heap.size w wi) (fun u24 _ => 4 - (intOf u24).toNat)
        case atStart => exact ⟨0, by omega, rfl, hw, hres, hbl⟩
        case round =>
          obtain ⟨j, hj, rfl, hwi, hri, hbi⟩ := hrel
          by_cases hj4 : j < 4
          · have hcj := hbytes j hj4
            have hcj' : wr.cell? (ad2.add j) = some (.int .u8 ((b.getD (4 * k + j) 0).toNat : Int)) := (hbi.cell (p := ad2.add j) (by rw [block_of_add]; exact hblk)).trans hcj
            have hu := (b.getD (4 * k + j) 0).toNat_lt
            have hwk := hwi.cell (i := k) (by omega)
            rw [Sha.wrow_at] at hwk
            have hfr := hwi.frozen k
            have hv := shl8_or (Sha.part b k j) b (4 * k + j) _ rfl
            have hpn : Sha.part b k (j + 1) = (Sha.part b k j <<< 8) ||| Sha.byteAt b (4 * k + j) := rfl
            rw [← hpn] at hv
            clear hbytes hcj hpn
            generalize hun : (b.getD (4 * k + j) 0).toNat = u at *
            clear hun
            generalize hpj : Sha.part b k j = p at *
            generalize hpj1 : Sha.part b k (j + 1) = p1 at *
            have HV := Lib.hid hv
            have HP1 := Lib.hid hpj1
            clear hpj hv hpj1
            go_wp2_with fail
            go_roundw
            case rel =>
              refine ⟨j + 1, by omega, by go_num, ?_, hri.setOther (by simp) _, hbi.setCell (by simp) _⟩
              rw [HV.out, ← HP1.out]
              refine (hwi.set k _).congr (fun i _ => ?_)
              rw [HP1.out]
              exact Sha.wrow_set b k p p1 i
            case measure => go_light; simp [intOf]; omega
          · obtain rfl : j = 4 := by omega
            have HW := Lib.hid (Sha.wrow_next b k (Sha.part b k 4) (by rw [Sha.part_4, Sha.wAt_lo b k h16]))
            go_wp2_with fail
            go_roundw
            case rel => exact ⟨k + 1, by omega, by go_num, hwi.congr (fun i _ => HW.out i), hri, hbi⟩
            case measure => go_light; simp [intOf]; omega
      · have c16 := hw.cell (i := k - 16) (by omega)
        have c15 := hw.cell (i := k - 15) (by omega)
        have c7 := hw.cell (i := k - 7) (by omega)
        have c2 := hw.cell (i := k - 2) (by omega)
        rw [Sha.wrow_lo _ _ _ _ (by omega)] at c16 c15 c7 c2
        have ck := hw.cell (i := k) (by omega)
        rw [Sha.wrow_at] at ck
        have hfr := hw.frozen k
        have hwh := Sha.wAt_hi b k h16
        generalize Sha.wAt b (k - 16) = x16 at *
        generalize Sha.wAt b (k - 15) = x15 at *
        generalize Sha.wAt b (k - 7) = x7 at *
        generalize Sha.wAt b (k - 2) = x2 at *
        have HW := Lib.hid hwh
        clear hwh hl hr hcell
        go_wp2_with fail
        have k64 : (k : Int) < 64 := by omega
        have b15 : ((k - 15 : Nat) : Int) < 64 := by omega
        have b2 : ((k - 2 : Nat) : Int) < 64 := by omega
        have b16 : ((k - 16 : Nat) : Int) < 64 := by omega
        have b7 : ((k - 7 : Nat) : Int) < 64 := by omega
        have s15 : IntKind.i64.wrap ((k : Int) - 15) = ((k - 15 : Nat) : Int) := by rw [IntKind.wrap_i64]; omega
        have s2 : IntKind.i64.wrap ((k : Int) - 2) = ((k - 2 : Nat) : Int) := by rw [IntKind.wrap_i64]; clear s15; omega
        have s16 : IntKind.i64.wrap ((k : Int) - 16) = ((k - 16 : Nat) : Int) := by rw [IntKind.wrap_i64]; clear s15 s2; omega
        have s7 : IntKind.i64.wrap ((k : Int) - 7) = ((k - 7 : Nat) : Int) := by rw [IntKind.wrap_i64]; clear s15 s2 s16; omega
        have S16 := Lib.hid s16
        have S7 := Lib.hid s7
        clear s16 s7
        refine wp_region_lasts (fun w' => w'.cell? ⟨w.heap.size + 1, k - 15, none⟩ = some (wv x15) ∧ w'.cell? ⟨w.heap.size + 1, k - 2, none⟩ = some (wv x2)) (fun _ => false) (by kernel_rfl) ⟨c15, c2⟩ (fun hHeld => ?_)
        refine tk_0 (v := ?_) (by kernel_rfl) (by kernel_rfl) (by kernel_rfl) (by kernel_rfl) (fun _ _ _ h => h) (Or.inl ⟨by kernel_rfl, ?_⟩) (by assumption) ?_
        rotate_left
        · (intro wS hSw; (try dsimp only at hSw); (go_simp); (all_goals (with_reducible rfl)))
        try go_frame
        refine tk_1 (v := ?_) (by kernel_rfl) (by kernel_rfl) (by kernel_rfl) (by kernel_rfl) (fun _ _ _ h => h) (Or.inl ⟨by kernel_rfl, ?_⟩) (by assumption) ?_
        rotate_left
        · (intro wS hSw; (try dsimp only at hSw); (go_simp); (all_goals (with_reducible rfl)))
        try go_frame
        refine tk_2 (v := ?_) (by kernel_rfl) (by kernel_rfl) (by kernel_rfl) (by kernel_rfl) (fun _ _ _ h => h) (Or.inl ⟨by kernel_rfl, ?_⟩) (by assumption) ?_
        rotate_left
        · (intro wS hSw; (try dsimp only at hSw); (go_simp); (all_goals (with_reducible rfl)))
        try go_frame
        refine tk_3 (v := ?_) (by kernel_rfl) (by kernel_rfl) (by kernel_rfl) (by kernel_rfl) (fun _ _ _ h => h) (Or.inl ⟨by kernel_rfl, ?_⟩) (by assumption) ?_
        rotate_left
        · (intro wS hSw; (try dsimp only at hSw); (obtain ⟨g1, g2⟩ := hSw; go_simp); (all_goals (with_reducible rfl)))
        try go_frame
        refine tk_4 (v := ?_) (by kernel_rfl) (by kernel_rfl) (by kernel_rfl) (by kernel_rfl) (fun _ _ _ h => h) (Or.inl ⟨by kernel_rfl, ?_⟩) (by assumption) ?_
        rotate_left
        · (intro wS hSw; (try dsimp only at hSw); (go_simp); (all_goals (with_reducible rfl)))
        try go_frame
        refine tk_5 (v := ?_) (by kernel_rfl) (by kernel_rfl) (by kernel_rfl) (by kernel_rfl) (fun _ _ _ h => h) (Or.inl ⟨by kernel_rfl, ?_⟩) (by assumption) ?_
        rotate_left
        · (intro wS hSw; (try dsimp only at hSw); (go_simp); (all_goals (with_reducible rfl)))
        try go_frame
        refine tk_6 (v := ?_) (by kernel_rfl) (by kernel_rfl) (by kernel_rfl) (by kernel_rfl) (fun _ _ _ h => h) (Or.inl ⟨by kernel_rfl, ?_⟩) (by assumption) ?_
        rotate_left
        · (intro wS hSw; (try dsimp only at hSw); (go_simp); (all_goals (with_reducible rfl)))
        try go_frame
        refine tk_7 (v := ?_) (by kernel_rfl) (by kernel_rfl) (by kernel_rfl) (by kernel_rfl) (fun _ _ _ h => h) (Or.inl ⟨by kernel_rfl, ?_⟩) (by assumption) ?_
        rotate_left
        · (intro wS hSw; (try dsimp only at hSw); (obtain ⟨g1, g2⟩ := hSw; go_simp); (all_goals (with_reducible rfl)))
        try go_frame
        refine tk_8 (v := ?_) (by kernel_rfl) (by kernel_rfl) (by kernel_rfl) (by kernel_rfl) (fun _ _ _ h => h) (Or.inl ⟨by kernel_rfl, ?_⟩) (by assumption) ?_
        rotate_left
        · (intro wS hSw; (try dsimp only at hSw); (go_simp); (all_goals (with_reducible rfl)))
        try go_frame
        refine tk_9 (v := ?_) (by kernel_rfl) (by kernel_rfl) (by kernel_rfl) (by kernel_rfl) (fun _ _ _ h => h) (Or.inl ⟨by kernel_rfl, ?_⟩) (by assumption) ?_
        rotate_left
        · (intro wS hSw; (try dsimp only at hSw); (go_simp); (all_goals (with_reducible rfl)))
        try go_frame
        refine wpAnyT_done (by kernel_rfl) ?_ _
        refine NoPanic.normal ?_
        clear s15 s2
        go_wp2_with fail
        with_reducible refine (RotateLeft32 x15 (-7) _ 7 rfl rfl (by decide) (by decide) _).mono ?_
        rintro e w' ⟨rfl, rfl⟩
        go_wp2_with fail
        with_reducible refine (RotateLeft32 x15 (-18) _ 18 rfl rfl (by decide) (by decide) _).mono ?_
        rintro e w' ⟨rfl, rfl⟩
        go_wp2_with fail
        with_reducible refine (RotateLeft32 x2 (-17) _ 17 rfl rfl (by decide) (by decide) _).mono ?_
        rintro e w' ⟨rfl, rfl⟩
        go_wp2_with fail
        with_reducible refine (RotateLeft32 x2 (-19) _ 19 rfl rfl (by decide) (by decide) _).mono ?_
        rintro e w' ⟨rfl, rfl⟩
        go_wp2_with fail
        have s16 := S16.out
        have s7 := S7.out
        refine wp_region_lasts (fun w' => w'.cell? ⟨w.heap.size + 1, k - 16, none⟩ = some (wv x16) ∧ w'.cell? ⟨w.heap.size + 1, k - 7, none⟩ = some (wv x7)) (fun i => i == 15) (by kernel_rfl) ⟨c16, c7⟩ (fun hHeld => ?_)
        refine tk_0 (v := ?_) (by kernel_rfl) (by kernel_rfl) (by kernel_rfl) (by kernel_rfl) (fun _ _ _ h => h) (Or.inl ⟨by kernel_rfl, ?_⟩) (by assumption) ?_
        rotate_left
        · (intro wS hSw; (try dsimp only at hSw); (go_simp); (all_goals (with_reducible rfl)))
        try go_frame
        refine tk_1 (v := ?_) (by kernel_rfl) (by kernel_rfl) (by kernel_rfl) (by kernel_rfl) (fun _ _ _ h => h) (Or.inl ⟨by kernel_rfl, ?_⟩) (by assumption) ?_
        rotate_left
        · (intro wS hSw; (try dsimp only at hSw); (go_simp); (all_goals (with_reducible rfl)))
        try go_frame
        refine tk_2 (v := ?_) (by kernel_rfl) (by kernel_rfl) (by kernel_rfl) (by kernel_rfl) (fun _ _ _ h => h) (Or.inl ⟨by kernel_rfl, ?_⟩) (by assumption) ?_
        rotate_left
        · (intro wS hSw; (try dsimp only at hSw); (go_simp); (all_goals (with_reducible rfl)))
        try go_frame
        refine tk_3 (v := ?_) (by kernel_rfl) (by kernel_rfl) (by kernel_rfl) (by kernel_rfl) (fun _ _ _ h => h) (Or.inl ⟨by kernel_rfl, ?_⟩) (by assumption) ?_
        rotate_left
        · (intro wS hSw; (try dsimp only at hSw); (go_simp); (all_goals (with_reducible rfl)))
        try go_frame
        refine tk_4 (v := ?_) (by kernel_rfl) (by kernel_rfl) (by kernel_rfl) (by kernel_rfl) (fun _ _ _ h => h) (Or.inl ⟨by kernel_rfl, ?_⟩) (by assumption) ?_
        rotate_left
        · (intro wS hSw; (try dsimp only at hSw); (obtain ⟨g1, g2⟩ := hSw; go_simp); (all_goals (with_reducible rfl)))
        try go_frame
        refine tk_5 (v := ?_) (by kernel_rfl) (by kernel_rfl) (by kernel_rfl) (by kernel_rfl) (fun _ _ _ h => h) (Or.inl ⟨by kernel_rfl, ?_⟩) (by assumption) ?_
        rotate_left
        · (intro wS hSw; (try dsimp only at hSw); (go_simp); (all_goals (with_reducible rfl)))
        try go_frame
        refine tk_6 (v := ?_) (by kernel_rfl) (by kernel_rfl) (by kernel_rfl) (by kernel_rfl) (fun _ _ _ h => h) (Or.inl ⟨by kernel_rfl, ?_⟩) (by assumption) ?_
        rotate_left
        · (intro wS hSw; (try dsimp only at hSw); (go_simp); (all_goals (with_reducible rfl)))
        try go_frame
        refine tk_7 (v := ?_) (by kernel_rfl) (by kernel_rfl) (by kernel_rfl) (by kernel_rfl) (fun _ _ _ h => h) (Or.inl ⟨by kernel_rfl, ?_⟩) (by assumption) ?_
        rotate_left
        · (intro wS hSw; (try dsimp only at hSw); (go_simp); (all_goals (with_reducible rfl)))
        try go_frame
        refine tk_8 (v := ?_) (by kernel_rfl) (by kernel_rfl) (by kernel_rfl) (by kernel_rfl) (fun _ _ _ h => h) (Or.inl ⟨by kernel_rfl, ?_⟩) (by assumption) ?_
        rotate_left
        · (intro wS hSw; (try dsimp only at hSw); (go_simp); (all_goals (with_reducible rfl)))
        try go_frame
        refine tk_9 (v := ?_) (by kernel_rfl) (by kernel_rfl) (by kernel_rfl) (by kernel_rfl) (fun _ _ _ h => h) (Or.inl ⟨by kernel_rfl, ?_⟩) (by assumption) ?_
        rotate_left
        · (intro wS hSw; (try dsimp only at hSw); (go_simp); (all_goals (with_reducible rfl)))
        try go_frame
        refine tk_10 (v := ?_) (by kernel_rfl) (by kernel_rfl) (by kernel_rfl) (by kernel_rfl) (fun _ _ _ h => h) (Or.inl ⟨by kernel_rfl, ?_⟩) (by assumption) ?_
        rotate_left
        · (intro wS hSw; (try dsimp only at hSw); (obtain ⟨g1, g2⟩ := hSw; go_simp); (all_goals (with_reducible rfl)))
        try go_frame
        refine tk_11 (v := ?_) (by kernel_rfl) (by kernel_rfl) (by kernel_rfl) (by kernel_rfl) (fun _ _ _ h => h) (Or.inl ⟨by kernel_rfl, ?_⟩) (by assumption) ?_
        rotate_left
        · (intro wS hSw; (try dsimp only at hSw); (go_simp); (all_goals (with_reducible rfl)))
        try go_frame
        refine tk_12 (v := ?_) (by kernel_rfl) (by kernel_rfl) (by kernel_rfl) (by kernel_rfl) (fun _ _ _ h => h) (Or.inl ⟨by kernel_rfl, ?_⟩) (by assumption) ?_
        rotate_left
        · (intro wS hSw; (try dsimp only at hSw); (go_simp); (all_goals (with_reducible rfl)))
        try go_frame
        refine tk_13 (v := ?_) (by kernel_rfl) (by kernel_rfl) (by kernel_rfl) (by kernel_rfl) (fun _ _ _ h => h) (Or.inl ⟨by kernel_rfl, ?_⟩) (by assumption) ?_
        rotate_left
        · (intro wS hSw; (try dsimp only at hSw); (go_simp); (all_goals (with_reducible rfl)))
        try go_frame
        refine tk_14 (v := ?_) (by kernel_rfl) (by kernel_rfl) (by kernel_rfl) (by kernel_rfl) (fun _ _ _ h => h) (Or.inl ⟨by kernel_rfl, ?_⟩) (by assumption) ?_
        rotate_left
        · (intro wS hSw; (try dsimp only at hSw); (go_simp); (all_goals (with_reducible rfl)))
        try go_frame
        refine dn_15 (by kernel_rfl) (fun K hK => ?_)
        rw [if_pos (by kernel_rfl)]
        go_simp
        refine hK.out _ _ (fun h => by cases h) (fun _ => ?_)
        clear hK K
        try go_frame
        refine wpAnyT_done (by kernel_rfl) ?_ _
        refine NoPanic.normal ?_
        clear s16 s7
        rw [sched_val, ← HW.out]
        have HN := Lib.hid (Sha.wrow_next b k (Sha.wAt b k) rfl)
        have HX := Lib.hid (Sha.wrow_set b k 0#32 (Sha.wAt b k))
        generalize Sha.wAt b k = v at *
        go_wp2_with fail
        go_roundw
        case rel => exact ⟨k + 1, by omega, by go_num, (hw.set k _).congr (fun i _ => (HX.out i).trans (HN.out i)), hres.setOther (by simp) _, (hbl.setCell (by simp) _).drew.drew⟩
        case measure => go_light; simp [intOf]; omega
    · obtain rfl : k = 64 := by omega
      have hw2 : wr.rowIs (w.heap.size + 1) 97 64 (fun i => wv (Sha.wAt b i)) := hw.congr (fun i hi => Sha.wrow_lo b 64 i _ hi)
      go_wp2_with (first | (refine wpList_load_arr (o := ⟨some 78, _, _, _, _, _⟩) rfl _ _ rfl hw2 rfl aggW64 ?_) | (refine wpList_store_arr (o := ⟨none, _, _, _, _, _⟩) rfl _ _ _ rfl hres rfl rfl aggW64 (fun _ _ => rfl) ?_; intro hres2))
      exact bodyPost_arr (p := 2) (by rfl) hres2 (by rfl) aggW64 (by rfl) ⟨rfl, below_setRow' hbl (Nat.le_refl _) _⟩
theorem aggW8 : Agg Tryd.prog 81 8 := ⟨⟨_, Tryd.underlying81, rfl⟩, by kernel_rfl⟩
theorem aggW4 : Agg Tryd.prog 99 4 := ⟨⟨_, Tryd.underlying99, rfl⟩, by kernel_rfl⟩
namespace Sha
def stF (s : St) (i : Nat) : Value := wv (s.toList.getD i 0#32)
def stA (s : St) (i : Nat) : Value := wv ([s.a, s.b, s.c, s.d].getD i 0#32)
def stE (s : St) (i : Nat) : Value := wv ([s.e, s.f, s.g, s.h].getD i 0#32)
end Sha
def stVal (s : Sha.St) : Value := .agg (arr 8 (Sha.stF s))
def Consts (w : World) : Prop := 0 < w.heap.size ∧ ∀ i : Nat, i < 64 → w.cell? ⟨0, i, none⟩ = some (.int .u32 ((Sha.ks.getD i 0 : Nat) : Int))
theorem Consts.below {w w' : World} (h : Consts w) (hb : Below w.heap.size w w') : Consts w' :=
  ⟨Nat.lt_of_lt_of_le h.1 hb.size, fun i hi => (hb.cell (p := ⟨0, i, none⟩) h.1).trans (h.2 i hi)⟩
theorem rowIs_below' {w w' : World} {b : Nat} {t : TypeId} {n : Nat} {f : Nat → Value} (h : w.rowIs b t n f) (hb : Below w.heap.size w w') : w'.rowIs b t n f := h.of_block (hb.block b h.lt)
def kF (i : Nat) : Value := .int .u32 ((Sha.ks.getD i 0 : Nat) : Int)
theorem k_index (k : Nat) (hk : k < 64) (w : World) : (Instr.index 97 (.agg (arr 64 kF)) (.int .i64 (k : Int))).run Tryd.prog w = .ok (kF k) w :=
  run_index_arr (z := .int .u32 0) (bytes := 4) _ _ 64 kF Tryd.underlying97 (info_parts (by kernel_rfl)) Tryd.underlying80 k hk w
theorem stA_at (s : Sha.St) : ∀ i, i < 4 → (#[wv s.a, wv s.b, wv s.c, wv s.d] : Array Value)[i]? = some (Sha.stA s i)
  | 0, _ => rfl
  | 1, _ => rfl
  | 2, _ => rfl
  | 3, _ => rfl
  | n + 4, h => absurd h (by omega)
theorem stE_at (s : Sha.St) : ∀ i, i < 4 → (#[wv s.e, wv s.f, wv s.g, wv s.h] : Array Value)[i]? = some (Sha.stE s i)
  | 0, _ => rfl
  | 1, _ => rfl
  | 2, _ => rfl
  | 3, _ => rfl
  | n + 4, h => absurd h (by omega)
theorem ks_lt : ∀ k : Nat, k < 64 → Sha.ks.getD k 0 < 4294967296 := by decide
theorem kF_wv (k : Nat) (hk : k < 64) : kF k = wv (BitVec.ofNat 32 (Sha.ks.getD k 0)) := by
  unfold kF wv
  rw [BitVec.toNat_ofNat, Nat.mod_eq_of_lt (ks_lt k hk)]
theorem u32_not (x : Sha.W) : bits .xor .u32 (if IntKind.u32.signed = true then -1 else IntKind.u32.max) (x.toNat : Int) = ((~~~ x).toNat : Int) := by
  have h : (if IntKind.u32.signed = true then (-1 : Int) else IntKind.u32.max) = ((BitVec.allOnes 32).toNat : Int) := by decide
  rw [h, u32_xor, BitVec.allOnes_xor]
theorem x_val (te tf tg th kk wk : Sha.W) : IntKind.u32.wrap (IntKind.u32.wrap (IntKind.u32.wrap (IntKind.u32.wrap ((th.toNat : Int) + ((Sha.mix te 6 11 25).toNat : Int)) +
    bits .xor .u32 (bits .and .u32 (te.toNat : Int) (tf.toNat : Int)) (bits .and .u32 (bits .xor .u32 (if IntKind.u32.signed = true then -1 else IntKind.u32.max) (te.toNat : Int)) (tg.toNat : Int))) + (kk.toNat : Int)) + (wk.toNat : Int)) =
    ((th + Sha.mix te 6 11 25 + ((te &&& tf) ^^^ ((~~~ te) &&& tg)) + kk + wk).toNat : Int) := by
  rw [u32_not, u32_and, u32_and, u32_xor, u32_add, u32_add, u32_add, u32_add]
theorem y_val (ta tb tc : Sha.W) : IntKind.u32.wrap (((Sha.mix ta 2 13 22).toNat : Int) + bits .xor .u32 (bits .xor .u32 (bits .and .u32 (ta.toNat : Int) (tb.toNat : Int)) (bits .and .u32 (ta.toNat : Int) (tc.toNat : Int))) (bits .and .u32 (tb.toNat : Int) (tc.toNat : Int))) =
    ((Sha.mix ta 2 13 22 + ((ta &&& tb) ^^^ (ta &&& tc) ^^^ (tb &&& tc))).toNat : Int) := by
  rw [u32_and, u32_and, u32_and, u32_xor, u32_xor, u32_add]
theorem u32_add' (x y : Sha.W) : ((x.toNat : Int) + (y.toNat : Int)) % (4294967296 : Int) = ((x + y).toNat : Int) := by
  rw [← IntKind.wrap_u32]; exact u32_add x y
theorem rowIs_cells4 {w : World} {b : Nat} {t : TypeId} {f : Nat → Value} (h : w.rowIs b t 4 f) : w.cell? ⟨b, 0, none⟩ = some (f 0) ∧ w.cell? ⟨b, 1, none⟩ = some (f 1) ∧ w.cell? ⟨b, 2, none⟩ = some (f 2) ∧ w.cell? ⟨b, 3, none⟩ = some (f 3) :=
  ⟨h.cell (by decide), h.cell (by decide), h.cell (by decide), h.cell (by decide)⟩
namespace Sha
theorem add_lo (s t : St) : ∀ i, i < 4 → (s.add t).toList.getD i 0#32 = s.toList.getD i 0#32 + [t.a, t.b, t.c, t.d].getD i 0#32
  | 0, _ => rfl
  | 1, _ => rfl
  | 2, _ => rfl
  | 3, _ => rfl
  | n + 4, h => absurd h (by omega)
theorem add_hi (s t : St) : ∀ i, i < 4 → (s.add t).toList.getD (i + 4) 0#32 = s.toList.getD (i + 4) 0#32 + [t.e, t.f, t.g, t.h].getD i 0#32
  | 0, _ => rfl
  | 1, _ => rfl
  | 2, _ => rfl
  | 3, _ => rfl
  | n + 4, h => absurd h (by omega)
def midF (s t : St) (i e : Nat) (j : Nat) : Value := if j < i ∨ (4 ≤ j ∧ j < 4 + e) then stF (s.add t) j else stF s j
theorem midF_0 (s t : St) (j : Nat) : stF s j = midF s t 0 0 j := by unfold midF; rw [if_neg (by omega)]
theorem midF_8 (s t : St) (j : Nat) (h : j < 8) : midF s t 4 4 j = stF (s.add t) j := by unfold midF; rw [if_pos (by omega)]
theorem midF_lo (s t : St) (i j : Nat) (hi : i < 4) : (if j = i then stF (s.add t) i else midF s t i i j) = midF s t (i + 1) i j := by
  unfold midF
  by_cases h : j = i
  · subst h; rw [if_pos rfl, if_pos (by omega)]
  · rw [if_neg h]
    by_cases h2 : j < i ∨ (4 ≤ j ∧ j < 4 + i)
    · rw [if_pos h2, if_pos (by omega)]
    · rw [if_neg h2, if_neg (by omega)]
theorem midF_hi (s t : St) (i j : Nat) (hi : i < 4) : (if j = i + 4 then stF (s.add t) (i + 4) else midF s t (i + 1) i j) = midF s t (i + 1) (i + 1) j := by
  unfold midF
  by_cases h : j = i + 4
  · subst h; rw [if_pos rfl, if_pos (by omega)]
  · rw [if_neg h]
    by_cases h2 : j < i + 1 ∨ (4 ≤ j ∧ j < 4 + i)
    · rw [if_pos h2, if_pos (by omega)]
    · rw [if_neg h2, if_neg (by omega)]
end Sha
set_option maxHeartbeats 4000000 in
set_option maxRecDepth 100000 in
theorem hash_compress (s : Sha.St) (b : List UInt8) (x y : Value) (hx : x = stVal s) (w : World) (hb : b.length = 64) (hl : Sl w y 1 b.length (b.map bv)) (hC : Consts w) :
    Calls Tryd.prog 52 #[x, y] w fun e w' => e = .returned (stVal (Sha.compress s b)) ∧ Below w.heap.size w w' := by
  subst hx
  unfold stVal
  obtain ⟨A, c, rfl, hnc, hcm, hr⟩ := id hl
  have hl2 := Lib.hid hl
  have HB := Lib.hid hb
  clear hb hl hr
  go_enter Tryd.func52, Tryd.ntmps52
  go_wp2_with fail
  refine (hash_schedule b _ _ HB.out ((hl2.out.alloc _).alloc _)).mono ?_
  rintro e w1 ⟨rfl, hb1⟩
  unfold schedVal
  go_wp2_with (with_reducible refine wpList_store_fresh (o := ⟨none, _, _, _, _, _⟩) rfl _ _ _ rfl _ (arr 64 fun i => wv (Sha.wAt b i)) rfl rfl aggW64 rfl (arr_size _ _) (arr_ones (fun _ _ => rfl)) ?_)
  try go_frame
  have hB0 : Below w.heap.size w ((w.alloc (.cells (arr 8 (Sha.stF s)) 81)).alloc (.cells (List.replicate 8 (wv 0#32)).toArray 81)) := ((Below.refl _ _).alloc (Nat.le_refl _) _).alloc (by simp) _
  have hs0 := ((row_alloc w 81 8 (Sha.stF s)).alloc (.cells (List.replicate 8 (wv 0#32)).toArray 81))
  have hr0 := row_new (w.alloc (.cells (arr 8 (Sha.stF s)) 81)) (List.replicate 8 (wv 0#32)).toArray 81 8 (fun _ => wv 0#32) rfl (fun i hi => rep_at 8 i _ hi)
  have hz0 : (w.alloc (.cells (arr 8 (Sha.stF s)) 81)).heap.size = w.heap.size + 1 := by simp
  rw [hz0] at hr0
  have hz1 : w.heap.size + 2 ≤ w1.heap.size := by have := hb1.size; simp at this; omega
  have hs1 := rowIs_below' hs0 hb1
  have hr1 := rowIs_below' hr0 hb1
  have hB1 := bl_on hB0 hb1
  have hW2 := row_alloc w1 97 64 (fun i => wv (Sha.wAt b i))
  have hs2 := hs1.alloc (.cells (arr 64 fun i => wv (Sha.wAt b i)) 97)
  have hr2 := hr1.alloc (.cells (arr 64 fun i => wv (Sha.wAt b i)) 97)
  have hB2 : Below w.heap.size w (w1.alloc (.cells (arr 64 fun i => wv (Sha.wAt b i)) 97)) := hB1.alloc (by omega) _
  have hz2 : (w1.alloc (.cells (arr 64 fun i => wv (Sha.wAt b i)) 97)).heap.size = w1.heap.size + 1 := by simp
  clear hB0 hs0 hr0 hz0 hs1 hr1 hB1 hb1
  generalize w1.alloc (.cells (arr 64 fun i => wv (Sha.wAt b i)) 97) = w2 at *
  have hz3 : w1.heap.size < w2.heap.size := by omega
  clear hz2
  generalize w1.heap.size = g5 at *
  clear w1
  go_cut [6, 7] (fun u6 u7 wc => ∃ g6 g7 : Nat, u6 = .pointer (some ⟨g6, 0, none⟩) ∧ u7 = .pointer (some ⟨g7, 0, none⟩) ∧ g5 < g6 ∧ g5 < g7 ∧ g6 ≠ g7 ∧ wc.rowIs w.heap.size 81 8 (Sha.stF s) ∧ wc.rowIs (w.heap.size + 1) 81 8 (fun _ => wv 0#32) ∧
    wc.rowIs g5 97 64 (fun i => wv (Sha.wAt b i)) ∧ wc.rowIs g6 99 4 (Sha.stA s) ∧ wc.rowIs g7 99 4 (Sha.stE s) ∧ Below w.heap.size w wc)
  case first =>
    refine wp_region_lasts (fun w' => w'.rowIs w.heap.size 81 8 (Sha.stF s)) (fun _ => false) (by kernel_rfl) hs2 (fun hHeld => ?_)
    have harr := fun (W : World) (X : Option Addr) (d : Nat) => run_arrayAt (P := Tryd.prog) W 99 _ 4 X 4 d Tryd.underlying99 (Nat.le_refl _)
    refine tk_0 (v := ?_) (by kernel_rfl) (by kernel_rfl) (by kernel_rfl) (by kernel_rfl) (fun _ _ _ h => h) (Or.inl ⟨by kernel_rfl, ?_⟩) (by assumption) ?_
    rotate_left
    · (intro wS hSw; (try dsimp only at hSw); (go_simp); (all_goals (with_reducible rfl)))
    try go_frame
    refine tk_1 (v := ?_) (by kernel_rfl) (by kernel_rfl) (by kernel_rfl) (by kernel_rfl) (fun _ _ _ h => h) (Or.inl ⟨by kernel_rfl, ?_⟩) (by assumption) ?_
    rotate_left
    · (intro wS hSw; (try dsimp only at hSw); (go_simp); (all_goals (with_reducible rfl)))
    try go_frame
    refine tk_2 (v := ?_) (by kernel_rfl) (by kernel_rfl) (by kernel_rfl) (by kernel_rfl) (fun _ _ _ h => h) (Or.inl ⟨by kernel_rfl, ?_⟩) (by assumption) ?_
    rotate_left
    · (intro wS hSw; (try dsimp only at hSw); (have q0 : wS.cell? ⟨w.heap.size, 0, none⟩ = some (wv s.a) := hSw.cell (i := 0) (by decide); have q1 : wS.cell? ⟨w.heap.size, 1, none⟩ = some (wv s.b) := hSw.cell (i := 1) (by decide); have q2 : wS.cell? ⟨w.heap.size, 2, none⟩ = some (wv s.c) := hSw.cell (i := 2) (by decide); have q3 : wS.cell? ⟨w.heap.size, 3, none⟩ = some (wv s.d) := hSw.cell (i := 3) (by decide); go_simp); (all_goals (with_reducible rfl)))
    try go_frame
    refine tk_3 (v := ?_) (by kernel_rfl) (by kernel_rfl) (by kernel_rfl) (by kernel_rfl) (fun _ _ _ h => h) (Or.inl ⟨by kernel_rfl, ?_⟩) (by assumption) ?_
    rotate_left
    · (intro wS hSw; (try dsimp only at hSw); (go_simp); (all_goals (with_reducible rfl)))
    try go_frame
    refine tk_4 (v := ?_) (by kernel_rfl) (by kernel_rfl) (by kernel_rfl) (by kernel_rfl) (fun _ _ _ h => h) (Or.inl ⟨by kernel_rfl, ?_⟩) (by assumption) ?_
    rotate_left
    · (intro wS hSw; (try dsimp only at hSw); (go_simp); (all_goals (with_reducible rfl)))
    try go_frame
    refine tk_5 (v := ?_) (by kernel_rfl) (by kernel_rfl) (by kernel_rfl) (by kernel_rfl) (fun _ _ _ h => h) (Or.inl ⟨by kernel_rfl, ?_⟩) (by assumption) ?_
    rotate_left
    · (intro wS hSw; (try dsimp only at hSw); (have q4 : wS.cell? ⟨w.heap.size, 4, none⟩ = some (wv s.e) := hSw.cell (i := 4) (by decide); have q5 : wS.cell? ⟨w.heap.size, 5, none⟩ = some (wv s.f) := hSw.cell (i := 5) (by decide); have q6 : wS.cell? ⟨w.heap.size, 6, none⟩ = some (wv s.g) := hSw.cell (i := 6) (by decide); have q7 : wS.cell? ⟨w.heap.size, 7, none⟩ = some (wv s.h) := hSw.cell (i := 7) (by decide); go_simp); (all_goals (with_reducible rfl)))
    try go_frame
    refine dt_6 (by kernel_rfl) (fun K hK => ?_) (fun K hK => ?_)
    · skip
      rw [if_pos (by kernel_rfl)]
      go_simp
      refine hK.out _ _ (fun _ => by (try dsimp only); first | exact hs2.alloc _ | exact (hs2.alloc _).alloc _) (fun hHeld => ?_)
      replace hHeld := hHeld rfl
      clear hK K
      try go_frame
      refine dn_7 (by kernel_rfl) (fun K hK => ?_)
      rw [if_pos (by kernel_rfl)]
      go_simp
      refine hK.out _ _ (fun _ => by (try dsimp only); first | exact hs2.alloc _ | exact (hs2.alloc _).alloc _) (fun hHeld => ?_)
      replace hHeld := hHeld rfl
      clear hK K
      try go_frame
      refine dn_8 (by kernel_rfl) (fun K hK => ?_)
      rw [if_pos (by kernel_rfl)]
      go_simp
      refine hK.out _ _ (fun _ => by (try dsimp only); first | exact hs2.alloc _ | exact (hs2.alloc _).alloc _) (fun hHeld => ?_)
      replace hHeld := hHeld rfl
      clear hK K
      try go_frame
      refine dn_9 (by kernel_rfl) (fun K hK => ?_)
      rw [if_pos (by kernel_rfl)]
      go_simp
      refine hK.out _ _ (fun _ => by (try dsimp only); first | exact hs2.alloc _ | exact (hs2.alloc _).alloc _) (fun hHeld => ?_)
      replace hHeld := hHeld rfl
      clear hK K
      try go_frame
      refine wpAnyT_done (by kernel_rfl) ?_ _
      refine NoPanic.normal ?_
      go_wp2_with fail
      go_meet
      exact ⟨w2.heap.size, w2.heap.size + 1, rfl, rfl, by omega, by omega, by omega, (hs2.alloc _).alloc _, (hr2.alloc _).alloc _, (hW2.alloc _).alloc _, (row_new w2 _ 99 4 (Sha.stA s) rfl (stA_at s)).alloc _,
        by have := row_new (w2.alloc (.cells #[wv s.a, wv s.b, wv s.c, wv s.d] 99)) _ 99 4 (Sha.stE s) rfl (stE_at s); simp only [World.size_alloc] at this; exact this, ((hB2.alloc (by omega) _).alloc (by simp; omega) _).drew⟩
    · skip
      rw [if_pos (by kernel_rfl)]
      go_simp
      refine hK.out _ _ (fun _ => by (try dsimp only); first | exact hs2.alloc _ | exact (hs2.alloc _).alloc _) (fun hHeld => ?_)
      replace hHeld := hHeld rfl
      clear hK K
      try go_frame
      refine dn_6 (by kernel_rfl) (fun K hK => ?_)
      rw [if_pos (by kernel_rfl)]
      go_simp
      refine hK.out _ _ (fun _ => by (try dsimp only); first | exact hs2.alloc _ | exact (hs2.alloc _).alloc _) (fun hHeld => ?_)
      replace hHeld := hHeld rfl
      clear hK K
      try go_frame
      refine dn_8 (by kernel_rfl) (fun K hK => ?_)
      rw [if_pos (by kernel_rfl)]
      go_simp
      refine hK.out _ _ (fun _ => by (try dsimp only); first | exact hs2.alloc _ | exact (hs2.alloc _).alloc _) (fun hHeld => ?_)
      replace hHeld := hHeld rfl
      clear hK K
      try go_frame
      refine dn_9 (by kernel_rfl) (fun K hK => ?_)
      rw [if_pos (by kernel_rfl)]
      go_simp
      refine hK.out _ _ (fun _ => by (try dsimp only); first | exact hs2.alloc _ | exact (hs2.alloc _).alloc _) (fun hHeld => ?_)
      replace hHeld := hHeld rfl
      clear hK K
      try go_frame
      refine wpAnyT_done (by kernel_rfl) ?_ _
      refine NoPanic.normal ?_
      go_wp2_with fail
      go_meet
      exact ⟨w2.heap.size + 1, w2.heap.size, rfl, rfl, by omega, by omega, by omega, (hs2.alloc _).alloc _, (hr2.alloc _).alloc _, (hW2.alloc _).alloc _,
        by have := row_new (w2.alloc (.cells #[wv s.e, wv s.f, wv s.g, wv s.h] 99)) _ 99 4 (Sha.stA s) rfl (stA_at s); simp only [World.size_alloc] at this; exact this,
        (row_new w2 _ 99 4 (Sha.stE s) rfl (stE_at s)).alloc _, ((hB2.alloc (by omega) _).alloc (by simp; omega) _).drew⟩
  case rest =>
    obtain ⟨g6, g7, rfl, rfl, hg6, hg7, hne, hs, hr, hW, hv, he, hB⟩ := hcut
    have hcB : ∀ i, i < 64 → wc.cell? ((⟨0, 0, none⟩ : Addr).add i) = some (kF i) := fun i hi => by
      rw [Addr.add_lit, Nat.zero_add]
      exact (hB.cell (p := ⟨0, i, none⟩) hC.1).trans (hC.2 i hi)
    clear hs2 hr2 hW2 hB2 hz3 hC
    clear w2
    go_wp2_with (with_reducible refine wpList_load_far (o := ⟨some 21, _, _, _, _, _⟩) rfl _ _ rfl hcB rfl aggW64 ?_)
    try go_frame
    clear hcB
    go_loopw [22] (fun u22 wr => ∃ k : Nat, k ≤ 64 ∧ u22 = .int .i64 k ∧ wr.rowIs w.heap.size 81 8 (Sha.stF s) ∧ wr.rowIs (w.heap.size + 1) 81 8 (fun _ => wv 0#32) ∧
      wr.rowIs g5 97 64 (fun i => wv (Sha.wAt b i)) ∧ wr.rowIs g6 99 4 (Sha.stA (Sha.rounds b s k)) ∧ wr.rowIs g7 99 4 (Sha.stE (Sha.rounds b s k)) ∧ Below w.heap.size w wr) (fun u22 _ => 64 - (intOf u22).toNat)
    case atStart => exact ⟨0, by omega, rfl, hs, hr, hW, hv, he, hB⟩
    case round =>
      clear hs hr hW hv he hB
      clear wc
      obtain ⟨k, hk, rfl, hs, hr, hW, hv, he, hB⟩ := hrel
      by_cases hlt : k < 64
      · have hik := k_index k hlt
        have hkw := kF_wv k hlt
        have hwk := hW.cell (i := k) hlt
        have hrd : Sha.rounds b s (k + 1) = Sha.round (Sha.rounds b s k) (BitVec.ofNat 32 (Sha.ks.getD k 0)) (Sha.wAt b k) := rfl
        rw [hkw] at hik
        generalize BitVec.ofNat 32 (Sha.ks.getD k 0) = kk at *
        generalize Sha.wAt b k = wk at *
        generalize hrk : Sha.rounds b s k = t at *
        obtain ⟨ta, tb, tc, td, te, tf, tg, th⟩ := t
        obtain ⟨v0, v1, v2, v3⟩ := rowIs_cells4 hv
        obtain ⟨e0, e1, e2, e3⟩ := rowIs_cells4 he
        replace v0 : wr.cell? ⟨g6, 0, none⟩ = some (wv ta) := v0
        replace v1 : wr.cell? ⟨g6, 1, none⟩ = some (wv tb) := v1
        replace v2 : wr.cell? ⟨g6, 2, none⟩ = some (wv tc) := v2
        replace v3 : wr.cell? ⟨g6, 3, none⟩ = some (wv td) := v3
        replace e0 : wr.cell? ⟨g7, 0, none⟩ = some (wv te) := e0
        replace e1 : wr.cell? ⟨g7, 1, none⟩ = some (wv tf) := e1
        replace e2 : wr.cell? ⟨g7, 2, none⟩ = some (wv tg) := e2
        replace e3 : wr.cell? ⟨g7, 3, none⟩ = some (wv th) := e3
        have HRD := Lib.hid hrd
        have HRK := Lib.hid hrk
        clear hrd hrk hkw
        have k0 : (0 : Int) ≤ (k : Int) := by omega
        have k64 : (k : Int) < 64 := by omega
        go_wp2_with fail
        refine wp_region_lasts (fun w' => w'.cell? ⟨g7, 0, none⟩ = some (wv te) ∧ w'.cell? ⟨g7, 1, none⟩ = some (wv tf) ∧ w'.cell? ⟨g7, 2, none⟩ = some (wv tg) ∧ w'.cell? ⟨g7, 3, none⟩ = some (wv th) ∧ w'.cell? ⟨g5, k, none⟩ = some (wv wk)) (fun _ => false) (by kernel_rfl) ⟨e0, e1, e2, e3, hwk⟩ (fun hHeld => ?_)
        refine tk_0 (v := ?_) (by kernel_rfl) (by kernel_rfl) (by kernel_rfl) (by kernel_rfl) (fun _ _ _ h => h) (Or.inl ⟨by kernel_rfl, ?_⟩) (by assumption) ?_
        rotate_left
        · (intro wS hSw; (try dsimp only at hSw); (go_simp); (all_goals (with_reducible rfl)))
        try go_frame
        refine tk_1 (v := ?_) (by kernel_rfl) (by kernel_rfl) (by kernel_rfl) (by kernel_rfl) (fun _ _ _ h => h) (Or.inl ⟨by kernel_rfl, ?_⟩) (by assumption) ?_
        rotate_left
        · (intro wS hSw; (try dsimp only at hSw); (obtain ⟨q0, q1, q2, q3, q4⟩ := hSw; go_simp); (all_goals (with_reducible rfl)))
        try go_frame
        refine tk_2 (v := ?_) (by kernel_rfl) (by kernel_rfl) (by kernel_rfl) (by kernel_rfl) (fun _ _ _ h => h) (Or.inl ⟨by kernel_rfl, ?_⟩) (by assumption) ?_
        rotate_left
        · (intro wS hSw; (try dsimp only at hSw); (go_simp); (all_goals (with_reducible rfl)))
        try go_frame
        refine tk_3 (v := ?_) (by kernel_rfl) (by kernel_rfl) (by kernel_rfl) (by kernel_rfl) (fun _ _ _ h => h) (Or.inl ⟨by kernel_rfl, ?_⟩) (by assumption) ?_
        rotate_left
        · (intro wS hSw; (try dsimp only at hSw); (obtain ⟨q0, q1, q2, q3, q4⟩ := hSw; go_simp); (all_goals (with_reducible rfl)))
        try go_frame
        refine tk_6 (v := ?_) (by kernel_rfl) (by kernel_rfl) (by kernel_rfl) (by kernel_rfl) (fun _ _ _ h => h) (Or.inl ⟨by kernel_rfl, ?_⟩) (by assumption) ?_
        rotate_left
        · (intro wS hSw; (try dsimp only at hSw); (go_simp); (all_goals (with_reducible rfl)))
        try go_frame
        refine tk_7 (v := ?_) (by kernel_rfl) (by kernel_rfl) (by kernel_rfl) (by kernel_rfl) (fun _ _ _ h => h) (Or.inl ⟨by kernel_rfl, ?_⟩) (by assumption) ?_
        rotate_left
        · (intro wS hSw; (try dsimp only at hSw); (obtain ⟨q0, q1, q2, q3, q4⟩ := hSw; go_simp); (all_goals (with_reducible rfl)))
        try go_frame
        refine tk_8 (v := ?_) (by kernel_rfl) (by kernel_rfl) (by kernel_rfl) (by kernel_rfl) (fun _ _ _ h => h) (Or.inl ⟨by kernel_rfl, ?_⟩) (by assumption) ?_
        rotate_left
        · (intro wS hSw; (try dsimp only at hSw); (go_simp); (all_goals (with_reducible rfl)))
        try go_frame
        refine tk_9 (v := ?_) (by kernel_rfl) (by kernel_rfl) (by kernel_rfl) (by kernel_rfl) (fun _ _ _ h => h) (Or.inl ⟨by kernel_rfl, ?_⟩) (by assumption) ?_
        rotate_left
        · (intro wS hSw; (try dsimp only at hSw); (obtain ⟨q0, q1, q2, q3, q4⟩ := hSw; go_simp); (all_goals (with_reducible rfl)))
        try go_frame
        refine tk_10 (v := ?_) (by kernel_rfl) (by kernel_rfl) (by kernel_rfl) (by kernel_rfl) (fun _ _ _ h => h) (Or.inl ⟨by kernel_rfl, ?_⟩) (by assumption) ?_
        rotate_left
        · (intro wS hSw; (try dsimp only at hSw); (go_simp); (all_goals (with_reducible rfl)))
        try go_frame
        refine tk_11 (v := ?_) (by kernel_rfl) (by kernel_rfl) (by kernel_rfl) (by kernel_rfl) (fun _ _ _ h => h) (Or.inl ⟨by kernel_rfl, ?_⟩) (by assumption) ?_
        rotate_left
        · (intro wS hSw; (try dsimp only at hSw); (go_simp); (all_goals (with_reducible rfl)))
        try go_frame
        refine tk_12 (v := ?_) (by kernel_rfl) (by kernel_rfl) (by kernel_rfl) (by kernel_rfl) (fun _ _ _ h => h) (Or.inl ⟨by kernel_rfl, ?_⟩) (by assumption) ?_
        rotate_left
        · (intro wS hSw; (try dsimp only at hSw); (obtain ⟨q0, q1, q2, q3, q4⟩ := hSw; go_simp); (all_goals (with_reducible rfl)))
        try go_frame
        refine tk_13 (v := ?_) (by kernel_rfl) (by kernel_rfl) (by kernel_rfl) (by kernel_rfl) (fun _ _ _ h => h) (Or.inl ⟨by kernel_rfl, ?_⟩) (by assumption) ?_
        rotate_left
        · (intro wS hSw; (try dsimp only at hSw); (go_simp); (all_goals (with_reducible rfl)))
        try go_frame
        refine tk_14 (v := ?_) (by kernel_rfl) (by kernel_rfl) (by kernel_rfl) (by kernel_rfl) (fun _ _ _ h => h) (Or.inl ⟨by kernel_rfl, ?_⟩) (by assumption) ?_
        rotate_left
        · (intro wS hSw; (try dsimp only at hSw); (go_simp); (all_goals (with_reducible rfl)))
        try go_frame
        refine tk_15 (v := ?_) (by kernel_rfl) (by kernel_rfl) (by kernel_rfl) (by kernel_rfl) (fun _ _ _ h => h) (Or.inl ⟨by kernel_rfl, ?_⟩) (by assumption) ?_
        rotate_left
        · (intro wS hSw; (try dsimp only at hSw); (obtain ⟨q0, q1, q2, q3, q4⟩ := hSw; go_simp); (all_goals (with_reducible rfl)))
        try go_frame
        refine tk_16 (v := ?_) (by kernel_rfl) (by kernel_rfl) (by kernel_rfl) (by kernel_rfl) (fun _ _ _ h => h) (Or.inl ⟨by kernel_rfl, ?_⟩) (by assumption) ?_
        rotate_left
        · (intro wS hSw; (try dsimp only at hSw); (go_simp); (all_goals (with_reducible rfl)))
        try go_frame
        refine tk_17 (v := ?_) (by kernel_rfl) (by kernel_rfl) (by kernel_rfl) (by kernel_rfl) (fun _ _ _ h => h) (Or.inl ⟨by kernel_rfl, ?_⟩) (by assumption) ?_
        rotate_left
        · (intro wS hSw; (try dsimp only at hSw); (go_simp); (all_goals (with_reducible rfl)))
        try go_frame
        refine tk_19 (v := ?_) (by kernel_rfl) (by kernel_rfl) (by kernel_rfl) (by kernel_rfl) (fun _ _ _ h => h) (Or.inl ⟨by kernel_rfl, ?_⟩) (by assumption) ?_
        rotate_left
        · (intro wS hSw; (try dsimp only at hSw); (go_simp); (all_goals (with_reducible rfl)))
        try go_frame
        refine tk_21 (v := ?_) (by kernel_rfl) (by kernel_rfl) (by kernel_rfl) (by kernel_rfl) (fun _ _ _ h => h) (Or.inl ⟨by kernel_rfl, ?_⟩) (by assumption) ?_
        rotate_left
        · (intro wS hSw; (try dsimp only at hSw); (go_simp); (all_goals (with_reducible rfl)))
        try go_frame
        refine tk_22 (v := ?_) (by kernel_rfl) (by kernel_rfl) (by kernel_rfl) (by kernel_rfl) (fun _ _ _ h => h) (Or.inl ⟨by kernel_rfl, ?_⟩) (by assumption) ?_
        rotate_left
        · (intro wS hSw; (try dsimp only at hSw); (go_simp); (all_goals (with_reducible rfl)))
        try go_frame
        refine tk_23 (v := ?_) (by kernel_rfl) (by kernel_rfl) (by kernel_rfl) (by kernel_rfl) (fun _ _ _ h => h) (Or.inl ⟨by kernel_rfl, ?_⟩) (by assumption) ?_
        rotate_left
        · (intro wS hSw; (try dsimp only at hSw); (obtain ⟨q0, q1, q2, q3, q4⟩ := hSw; go_simp); (all_goals (with_reducible rfl)))
        try go_frame
        refine dn_4 (by kernel_rfl) (fun K hK => ?_)
        rw [if_pos (by kernel_rfl)]
        go_simp; go_at_call 56; with_reducible refine (hash_mix te _ 6 11 25 6 11 25 rfl rfl rfl rfl (by decide) (by decide) (by decide) _).mono ?_; rintro e w' ⟨rfl, rfl⟩; go_simp
        refine hK.out _ _ (fun _ => by (try dsimp only); exact hHeld) (fun hHeld => ?_)
        replace hHeld := hHeld rfl
        clear hK K
        try go_frame
        refine tk_5 (v := ?_) (by kernel_rfl) (by kernel_rfl) (by kernel_rfl) (by kernel_rfl) (fun _ _ _ h => h) (Or.inl ⟨by kernel_rfl, ?_⟩) (by assumption) ?_
        rotate_left
        · (intro wS hSw; (try dsimp only at hSw); (go_simp); (all_goals (with_reducible rfl)))
        try go_frame
        refine tk_18 (v := ?_) (by kernel_rfl) (by kernel_rfl) (by kernel_rfl) (by kernel_rfl) (fun _ _ _ h => h) (Or.inl ⟨by kernel_rfl, ?_⟩) (by assumption) ?_
        rotate_left
        · (intro wS hSw; (try dsimp only at hSw); (go_simp); (all_goals (with_reducible rfl)))
        try go_frame
        refine tk_20 (v := ?_) (by kernel_rfl) (by kernel_rfl) (by kernel_rfl) (by kernel_rfl) (fun _ _ _ h => h) (Or.inl ⟨by kernel_rfl, ?_⟩) (by assumption) ?_
        rotate_left
        · (intro wS hSw; (try dsimp only at hSw); (go_simp); (all_goals (with_reducible rfl)))
        try go_frame
        refine tk_24 (v := ?_) (by kernel_rfl) (by kernel_rfl) (by kernel_rfl) (by kernel_rfl) (fun _ _ _ h => h) (Or.inl ⟨by kernel_rfl, ?_⟩) (by assumption) ?_
        rotate_left
        · (intro wS hSw; (try dsimp only at hSw); (go_simp); (all_goals (with_reducible rfl)))
        try go_frame
        refine tk_25 (v := ?_) (by kernel_rfl) (by kernel_rfl) (by kernel_rfl) (by kernel_rfl) (fun _ _ _ h => h) (Or.inl ⟨by kernel_rfl, ?_⟩) (by assumption) ?_
        rotate_left
        · (intro wS hSw; (try dsimp only at hSw); (go_simp); (all_goals (with_reducible rfl)))
        try go_frame
        refine wpAnyT_done (by kernel_rfl) ?_ _
        refine NoPanic.normal ?_
        rw [x_val, show (if IntKind.u32.signed = true then (-1 : Int) else IntKind.u32.max) = 4294967295 from by decide]
        generalize hxx : (th + Sha.mix te 6 11 25 + ((te &&& tf) ^^^ ((~~~ te) &&& tg)) + kk + wk) = xx at *
        have HX := Lib.hid hxx
        clear hxx hHeld hik hwk e0 e1 e2 e3
        go_wp2_with fail
        refine wp_region_lasts (fun w' => w'.cell? ⟨g6, 0, none⟩ = some (wv ta) ∧ w'.cell? ⟨g6, 1, none⟩ = some (wv tb) ∧ w'.cell? ⟨g6, 2, none⟩ = some (wv tc)) (fun _ => false) (by kernel_rfl) ⟨v0, v1, v2⟩ (fun hHeld => ?_)
        refine tk_0 (v := ?_) (by kernel_rfl) (by kernel_rfl) (by kernel_rfl) (by kernel_rfl) (fun _ _ _ h => h) (Or.inl ⟨by kernel_rfl, ?_⟩) (by assumption) ?_
        rotate_left
        · (intro wS hSw; (try dsimp only at hSw); (go_simp); (all_goals (with_reducible rfl)))
        try go_frame
        refine tk_1 (v := ?_) (by kernel_rfl) (by kernel_rfl) (by kernel_rfl) (by kernel_rfl) (fun _ _ _ h => h) (Or.inl ⟨by kernel_rfl, ?_⟩) (by assumption) ?_
        rotate_left
        · (intro wS hSw; (try dsimp only at hSw); (obtain ⟨q0, q1, q2⟩ := hSw; go_simp); (all_goals (with_reducible rfl)))
        try go_frame
        refine tk_3 (v := ?_) (by kernel_rfl) (by kernel_rfl) (by kernel_rfl) (by kernel_rfl) (fun _ _ _ h => h) (Or.inl ⟨by kernel_rfl, ?_⟩) (by assumption) ?_
        rotate_left
        · (intro wS hSw; (try dsimp only at hSw); (go_simp); (all_goals (with_reducible rfl)))
        try go_frame
        refine tk_4 (v := ?_) (by kernel_rfl) (by kernel_rfl) (by kernel_rfl) (by kernel_rfl) (fun _ _ _ h => h) (Or.inl ⟨by kernel_rfl, ?_⟩) (by assumption) ?_
        rotate_left
        · (intro wS hSw; (try dsimp only at hSw); (obtain ⟨q0, q1, q2⟩ := hSw; go_simp); (all_goals (with_reducible rfl)))
        try go_frame
        refine tk_5 (v := ?_) (by kernel_rfl) (by kernel_rfl) (by kernel_rfl) (by kernel_rfl) (fun _ _ _ h => h) (Or.inl ⟨by kernel_rfl, ?_⟩) (by assumption) ?_
        rotate_left
        · (intro wS hSw; (try dsimp only at hSw); (go_simp); (all_goals (with_reducible rfl)))
        try go_frame
        refine tk_6 (v := ?_) (by kernel_rfl) (by kernel_rfl) (by kernel_rfl) (by kernel_rfl) (fun _ _ _ h => h) (Or.inl ⟨by kernel_rfl, ?_⟩) (by assumption) ?_
        rotate_left
        · (intro wS hSw; (try dsimp only at hSw); (obtain ⟨q0, q1, q2⟩ := hSw; go_simp); (all_goals (with_reducible rfl)))
        try go_frame
        refine tk_7 (v := ?_) (by kernel_rfl) (by kernel_rfl) (by kernel_rfl) (by kernel_rfl) (fun _ _ _ h => h) (Or.inl ⟨by kernel_rfl, ?_⟩) (by assumption) ?_
        rotate_left
        · (intro wS hSw; (try dsimp only at hSw); (go_simp); (all_goals (with_reducible rfl)))
        try go_frame
        refine tk_8 (v := ?_) (by kernel_rfl) (by kernel_rfl) (by kernel_rfl) (by kernel_rfl) (fun _ _ _ h => h) (Or.inl ⟨by kernel_rfl, ?_⟩) (by assumption) ?_
        rotate_left
        · (intro wS hSw; (try dsimp only at hSw); (go_simp); (all_goals (with_reducible rfl)))
        try go_frame
        refine tk_9 (v := ?_) (by kernel_rfl) (by kernel_rfl) (by kernel_rfl) (by kernel_rfl) (fun _ _ _ h => h) (Or.inl ⟨by kernel_rfl, ?_⟩) (by assumption) ?_
        rotate_left
        · (intro wS hSw; (try dsimp only at hSw); (obtain ⟨q0, q1, q2⟩ := hSw; go_simp); (all_goals (with_reducible rfl)))
        try go_frame
        refine tk_10 (v := ?_) (by kernel_rfl) (by kernel_rfl) (by kernel_rfl) (by kernel_rfl) (fun _ _ _ h => h) (Or.inl ⟨by kernel_rfl, ?_⟩) (by assumption) ?_
        rotate_left
        · (intro wS hSw; (try dsimp only at hSw); (go_simp); (all_goals (with_reducible rfl)))
        try go_frame
        refine tk_11 (v := ?_) (by kernel_rfl) (by kernel_rfl) (by kernel_rfl) (by kernel_rfl) (fun _ _ _ h => h) (Or.inl ⟨by kernel_rfl, ?_⟩) (by assumption) ?_
        rotate_left
        · (intro wS hSw; (try dsimp only at hSw); (obtain ⟨q0, q1, q2⟩ := hSw; go_simp); (all_goals (with_reducible rfl)))
        try go_frame
        refine tk_12 (v := ?_) (by kernel_rfl) (by kernel_rfl) (by kernel_rfl) (by kernel_rfl) (fun _ _ _ h => h) (Or.inl ⟨by kernel_rfl, ?_⟩) (by assumption) ?_
        rotate_left
        · (intro wS hSw; (try dsimp only at hSw); (go_simp); (all_goals (with_reducible rfl)))
        try go_frame
        refine tk_13 (v := ?_) (by kernel_rfl) (by kernel_rfl) (by kernel_rfl) (by kernel_rfl) (fun _ _ _ h => h) (Or.inl ⟨by kernel_rfl, ?_⟩) (by assumption) ?_
        rotate_left
        · (intro wS hSw; (try dsimp only at hSw); (go_simp); (all_goals (with_reducible rfl)))
        try go_frame
        refine tk_14 (v := ?_) (by kernel_rfl) (by kernel_rfl) (by kernel_rfl) (by kernel_rfl) (fun _ _ _ h => h) (Or.inl ⟨by kernel_rfl, ?_⟩) (by assumption) ?_
        rotate_left
        · (intro wS hSw; (try dsimp only at hSw); (go_simp); (all_goals (with_reducible rfl)))
        try go_frame
        refine tk_15 (v := ?_) (by kernel_rfl) (by kernel_rfl) (by kernel_rfl) (by kernel_rfl) (fun _ _ _ h => h) (Or.inl ⟨by kernel_rfl, ?_⟩) (by assumption) ?_
        rotate_left
        · (intro wS hSw; (try dsimp only at hSw); (obtain ⟨q0, q1, q2⟩ := hSw; go_simp); (all_goals (with_reducible rfl)))
        try go_frame
        refine tk_16 (v := ?_) (by kernel_rfl) (by kernel_rfl) (by kernel_rfl) (by kernel_rfl) (fun _ _ _ h => h) (Or.inl ⟨by kernel_rfl, ?_⟩) (by assumption) ?_
        rotate_left
        · (intro wS hSw; (try dsimp only at hSw); (go_simp); (all_goals (with_reducible rfl)))
        try go_frame
        refine tk_17 (v := ?_) (by kernel_rfl) (by kernel_rfl) (by kernel_rfl) (by kernel_rfl) (fun _ _ _ h => h) (Or.inl ⟨by kernel_rfl, ?_⟩) (by assumption) ?_
        rotate_left
        · (intro wS hSw; (try dsimp only at hSw); (obtain ⟨q0, q1, q2⟩ := hSw; go_simp); (all_goals (with_reducible rfl)))
        try go_frame
        refine tk_18 (v := ?_) (by kernel_rfl) (by kernel_rfl) (by kernel_rfl) (by kernel_rfl) (fun _ _ _ h => h) (Or.inl ⟨by kernel_rfl, ?_⟩) (by assumption) ?_
        rotate_left
        · (intro wS hSw; (try dsimp only at hSw); (go_simp); (all_goals (with_reducible rfl)))
        try go_frame
        refine tk_19 (v := ?_) (by kernel_rfl) (by kernel_rfl) (by kernel_rfl) (by kernel_rfl) (fun _ _ _ h => h) (Or.inl ⟨by kernel_rfl, ?_⟩) (by assumption) ?_
        rotate_left
        · (intro wS hSw; (try dsimp only at hSw); (go_simp); (all_goals (with_reducible rfl)))
        try go_frame
        refine dn_2 (by kernel_rfl) (fun K hK => ?_)
        rw [if_pos (by kernel_rfl)]
        go_simp; go_at_call 56; with_reducible refine (hash_mix ta _ 2 13 22 2 13 22 rfl rfl rfl rfl (by decide) (by decide) (by decide) _).mono ?_; rintro e w' ⟨rfl, rfl⟩; go_simp
        refine hK.out _ _ (fun _ => by (try dsimp only); exact hHeld) (fun hHeld => ?_)
        replace hHeld := hHeld rfl
        clear hK K
        try go_frame
        refine tk_20 (v := ?_) (by kernel_rfl) (by kernel_rfl) (by kernel_rfl) (by kernel_rfl) (fun _ _ _ h => h) (Or.inl ⟨by kernel_rfl, ?_⟩) (by assumption) ?_
        rotate_left
        · (intro wS hSw; (try dsimp only at hSw); (go_simp); (all_goals (with_reducible rfl)))
        try go_frame
        refine tk_21 (v := ?_) (by kernel_rfl) (by kernel_rfl) (by kernel_rfl) (by kernel_rfl) (fun _ _ _ h => h) (Or.inl ⟨by kernel_rfl, ?_⟩) (by assumption) ?_
        rotate_left
        · (intro wS hSw; (try dsimp only at hSw); (go_simp); (all_goals (with_reducible rfl)))
        try go_frame
        refine wpAnyT_done (by kernel_rfl) ?_ _
        refine NoPanic.normal ?_
        rw [y_val]
        generalize hyy : (Sha.mix ta 2 13 22 + ((ta &&& tb) ^^^ (ta &&& tc) ^^^ (tb &&& tc))) = yy at *
        have HY := Lib.hid hyy
        clear hyy hHeld
        clear v0 v1 v2 v3
        replace hs := hs.drew.drew
        replace hr := hr.drew.drew
        replace hW := hW.drew.drew
        replace hv := hv.drew.drew
        replace he := he.drew.drew
        replace hB := hB.drew.drew
        generalize wr.drew.drew = wd at *
        obtain ⟨v0, v1, v2, v3⟩ := rowIs_cells4 hv
        obtain ⟨e0, e1, e2, e3⟩ := rowIs_cells4 he
        replace v3 : wd.cell? ⟨g6, 3, none⟩ = some (wv td) := v3
        replace e0 : wd.cell? ⟨g7, 0, none⟩ = some (wv te) := e0
        replace e1 : wd.cell? ⟨g7, 1, none⟩ = some (wv tf) := e1
        replace e2 : wd.cell? ⟨g7, 2, none⟩ = some (wv tg) := e2
        clear v0 v1 v2 e3
        have hnew : Sha.rounds b s (k + 1) = ⟨xx + yy, ta, tb, tc, td + xx, te, tf, tg⟩ := by rw [HRD.out, ← HX.out, ← HY.out]; rfl
        have HN := Lib.hid hnew
        have hE2 : Value.agg #[.int .u32 (((td.toNat : Int) + (xx.toNat : Int)) % 4294967296), wv te, wv tf, wv tg] = .agg (arr 4 (Sha.stE ⟨xx + yy, ta, tb, tc, td + xx, te, tf, tg⟩)) := by rw [u32_add']; rfl
        have hA2 : Value.agg #[.int .u32 (((xx.toNat : Int) + (yy.toNat : Int)) % 4294967296), wv ta, wv tb, wv tc] = .agg (arr 4 (Sha.stA ⟨xx + yy, ta, tb, tc, td + xx, te, tf, tg⟩)) := by rw [u32_add']; rfl
        have hE3 : Value.agg #[.int .u32 (IntKind.u32.wrap ((td.toNat : Int) + (xx.toNat : Int))), wv te, wv tf, wv tg] = .agg (arr 4 (Sha.stE ⟨xx + yy, ta, tb, tc, td + xx, te, tf, tg⟩)) := by rw [u32_add]; rfl
        have hA3 : Value.agg #[.int .u32 (IntKind.u32.wrap ((xx.toNat : Int) + (yy.toNat : Int))), wv ta, wv tb, wv tc] = .agg (arr 4 (Sha.stA ⟨xx + yy, ta, tb, tc, td + xx, te, tf, tg⟩)) := by rw [u32_add]; rfl
        have HE2 := Lib.hid hE2
        have HA2 := Lib.hid hA2
        have HE3 := Lib.hid hE3
        have HA3 := Lib.hid hA3
        clear hE2 hA2 hE3 hA3
        have hE : Value.agg #[wv (td + xx), wv te, wv tf, wv tg] = .agg (arr 4 (Sha.stE ⟨xx + yy, ta, tb, tc, td + xx, te, tf, tg⟩)) := rfl
        have hA : Value.agg #[wv (xx + yy), wv ta, wv tb, wv tc] = .agg (arr 4 (Sha.stA ⟨xx + yy, ta, tb, tc, td + xx, te, tf, tg⟩)) := rfl
        have HE := Lib.hid hE
        have HA := Lib.hid hA
        have HO : Hid (∀ (t : Sha.St) (i : Nat), i < 4 → (Sha.stE t i).oneCell' = true) := fun _ _ _ => rfl
        have HO2 : Hid (∀ (t : Sha.St) (i : Nat), i < 4 → (Sha.stA t i).oneCell' = true) := fun _ _ _ => rfl
        clear hnew hE hA HRD HRK HX HY
        go_wp2_with (refine wpList_store_arr (o := ⟨none, _, _, _, _, _⟩) (g := Sha.stE ⟨xx + yy, ta, tb, tc, td + xx, te, tf, tg⟩) rfl _ _ _ rfl he rfl ?_ aggW4 (HO.out _) ?_)
        · first | exact HE2.out | exact HE3.out | exact HE.out
        intro he2
        try go_frame
        replace hv := row_setRow_other hv hne (arr 4 (Sha.stE ⟨xx + yy, ta, tb, tc, td + xx, te, tf, tg⟩))
        replace hs := row_setRow_other hs (show w.heap.size ≠ g7 by omega) (arr 4 (Sha.stE ⟨xx + yy, ta, tb, tc, td + xx, te, tf, tg⟩))
        replace hr := row_setRow_other hr (show w.heap.size + 1 ≠ g7 by omega) (arr 4 (Sha.stE ⟨xx + yy, ta, tb, tc, td + xx, te, tf, tg⟩))
        replace hW := row_setRow_other hW (show g5 ≠ g7 by omega) (arr 4 (Sha.stE ⟨xx + yy, ta, tb, tc, td + xx, te, tf, tg⟩))
        replace hB := below_setRow' hB (show w.heap.size ≤ g7 by omega) (arr 4 (Sha.stE ⟨xx + yy, ta, tb, tc, td + xx, te, tf, tg⟩))
        clear v3 e0 e1 e2 he
        generalize wd.setRow g7 (arr 4 (Sha.stE ⟨xx + yy, ta, tb, tc, td + xx, te, tf, tg⟩)) = we at *
        obtain ⟨v0, v1, v2, v3⟩ := rowIs_cells4 hv
        replace v0 : we.cell? ⟨g6, 0, none⟩ = some (wv ta) := v0
        replace v1 : we.cell? ⟨g6, 1, none⟩ = some (wv tb) := v1
        replace v2 : we.cell? ⟨g6, 2, none⟩ = some (wv tc) := v2
        clear v3
        go_wp2_with (refine wpList_store_arr (o := ⟨none, _, _, _, _, _⟩) (g := Sha.stA ⟨xx + yy, ta, tb, tc, td + xx, te, tf, tg⟩) rfl _ _ _ rfl hv rfl ?_ aggW4 (HO2.out _) ?_)
        · first | exact HA2.out | exact HA3.out | exact HA.out
        intro hv2
        try go_frame
        replace he2 := row_setRow_other he2 (Ne.symm hne) (arr 4 (Sha.stA ⟨xx + yy, ta, tb, tc, td + xx, te, tf, tg⟩))
        replace hs := row_setRow_other hs (show w.heap.size ≠ g6 by omega) (arr 4 (Sha.stA ⟨xx + yy, ta, tb, tc, td + xx, te, tf, tg⟩))
        replace hr := row_setRow_other hr (show w.heap.size + 1 ≠ g6 by omega) (arr 4 (Sha.stA ⟨xx + yy, ta, tb, tc, td + xx, te, tf, tg⟩))
        replace hW := row_setRow_other hW (show g5 ≠ g6 by omega) (arr 4 (Sha.stA ⟨xx + yy, ta, tb, tc, td + xx, te, tf, tg⟩))
        replace hB := below_setRow' hB (show w.heap.size ≤ g6 by omega) (arr 4 (Sha.stA ⟨xx + yy, ta, tb, tc, td + xx, te, tf, tg⟩))
        clear v0 v1 v2 hv
        generalize we.setRow g6 (arr 4 (Sha.stA ⟨xx + yy, ta, tb, tc, td + xx, te, tf, tg⟩)) = wf at *
        rw [← HN.out] at he2 hv2
        go_wp2_with fail
        go_roundw
        case rel => exact ⟨k + 1, by omega, by go_num, hs, hr, hW, hv2, he2, hB⟩
        case measure => go_light; simp [intOf]; omega
      · obtain rfl : k = 64 := by omega
        have hcp : Sha.compress s b = s.add (Sha.rounds b s 64) := rfl
        generalize Sha.rounds b s 64 = t at *
        have HCP := Lib.hid hcp
        clear hcp
        replace hs := hs.congr (fun j _ => Sha.midF_0 s t j)
        go_wp2_with fail
        go_loopw [94] (fun u94 wi => ∃ i : Nat, i ≤ 4 ∧ u94 = .int .i64 i ∧ wi.rowIs w.heap.size 81 8 (Sha.midF s t i i) ∧ wi.rowIs (w.heap.size + 1) 81 8 (fun _ => wv 0#32) ∧
          wi.rowIs g6 99 4 (Sha.stA t) ∧ wi.rowIs g7 99 4 (Sha.stE t) ∧ Below w.heap.size w wi) (fun u94 _ => 4 - (intOf u94).toNat)
        case atStart => exact ⟨0, by omega, rfl, hs, hr, hv, he, hB⟩
        case round =>
          clear hs hr hW hv he hB
          obtain ⟨i, hi, rfl, hs, hr, hv, he, hB⟩ := hrel
          by_cases hi4 : i < 4
          · have c1 := hs.cell (i := i) (by omega)
            have f1 := hs.frozen i
            have c2 := hv.cell (i := i) (by omega)
            have e1 : Sha.midF s t i i i = wv (s.toList.getD i 0#32) := by unfold Sha.midF; rw [if_neg (by omega)]; rfl
            have e2 : Sha.stA t i = wv ([t.a, t.b, t.c, t.d].getD i 0#32) := rfl
            rw [e1] at c1
            rw [e2] at c2
            have hlo := Sha.add_lo s t i hi4
            have hst : Sha.stF (s.add t) i = wv ((s.add t).toList.getD i 0#32) := rfl
            rw [hlo] at hst
            clear e1 e2 hlo
            generalize s.toList.getD i 0#32 = x1 at *
            generalize [t.a, t.b, t.c, t.d].getD i 0#32 = x2 at *
            have HST := Lib.hid hst
            clear hst
            have i0 : (0 : Int) ≤ (i : Int) := by omega
            have i4 : (i : Int) < 4 := by omega
            have i8 : (i : Int) < 8 := by omega
            have s4 : IntKind.i64.wrap ((i : Int) + 4) = ((i + 4 : Nat) : Int) := by rw [IntKind.wrap_i64]; omega
            have S4 := Lib.hid s4
            clear s4
            go_wp2_with fail
            refine wp_region_lasts (fun w' => w'.cell? ⟨w.heap.size, i, none⟩ = some (wv x1) ∧ w'.cell? ⟨g6, i, none⟩ = some (wv x2)) (fun i => i == 8) (by kernel_rfl) ⟨c1, c2⟩ (fun hHeld => ?_)
            refine tk_0 (v := ?_) (by kernel_rfl) (by kernel_rfl) (by kernel_rfl) (by kernel_rfl) (fun _ _ _ h => h) (Or.inl ⟨by kernel_rfl, ?_⟩) (by assumption) ?_
            rotate_left
            · (intro wS hSw; (try dsimp only at hSw); (go_simp); (all_goals (with_reducible rfl)))
            try go_frame
            refine tk_1 (v := ?_) (by kernel_rfl) (by kernel_rfl) (by kernel_rfl) (by kernel_rfl) (fun _ _ _ h => h) (Or.inl ⟨by kernel_rfl, ?_⟩) (by assumption) ?_
            rotate_left
            · (intro wS hSw; (try dsimp only at hSw); (go_simp); (all_goals (with_reducible rfl)))
            try go_frame
            refine tk_2 (v := ?_) (by kernel_rfl) (by kernel_rfl) (by kernel_rfl) (by kernel_rfl) (fun _ _ _ h => h) (Or.inl ⟨by kernel_rfl, ?_⟩) (by assumption) ?_
            rotate_left
            · (intro wS hSw; (try dsimp only at hSw); (obtain ⟨q0, q1⟩ := hSw; go_simp); (all_goals (with_reducible rfl)))
            try go_frame
            refine tk_3 (v := ?_) (by kernel_rfl) (by kernel_rfl) (by kernel_rfl) (by kernel_rfl) (fun _ _ _ h => h) (Or.inl ⟨by kernel_rfl, ?_⟩) (by assumption) ?_
            rotate_left
            · (intro wS hSw; (try dsimp only at hSw); (go_simp); (all_goals (with_reducible rfl)))
            try go_frame
            refine tk_4 (v := ?_) (by kernel_rfl) (by kernel_rfl) (by kernel_rfl) (by kernel_rfl) (fun _ _ _ h => h) (Or.inl ⟨by kernel_rfl, ?_⟩) (by assumption) ?_
            rotate_left
            · (intro wS hSw; (try dsimp only at hSw); (go_simp); (all_goals (with_reducible rfl)))
            try go_frame
            refine tk_5 (v := ?_) (by kernel_rfl) (by kernel_rfl) (by kernel_rfl) (by kernel_rfl) (fun _ _ _ h => h) (Or.inl ⟨by kernel_rfl, ?_⟩) (by assumption) ?_
            rotate_left
            · (intro wS hSw; (try dsimp only at hSw); (obtain ⟨q0, q1⟩ := hSw; go_simp); (all_goals (with_reducible rfl)))
            try go_frame
            refine tk_6 (v := ?_) (by kernel_rfl) (by kernel_rfl) (by kernel_rfl) (by kernel_rfl) (fun _ _ _ h => h) (Or.inl ⟨by kernel_rfl, ?_⟩) (by assumption) ?_
            rotate_left
            · (intro wS hSw; (try dsimp only at hSw); (go_simp); (all_goals (with_reducible rfl)))
            try go_frame
            refine tk_7 (v := ?_) (by kernel_rfl) (by kernel_rfl) (by kernel_rfl) (by kernel_rfl) (fun _ _ _ h => h) (Or.inl ⟨by kernel_rfl, ?_⟩) (by assumption) ?_
            rotate_left
            · (intro wS hSw; (try dsimp only at hSw); (go_simp); (all_goals (with_reducible rfl)))
            try go_frame
            refine dn_8 (by kernel_rfl) (fun K hK => ?_)
            rw [if_pos (by kernel_rfl)]
            go_simp
            refine hK.out _ _ (fun h => by cases h) (fun _ => ?_)
            clear hK K
            try go_frame
            refine wpAnyT_done (by kernel_rfl) ?_ _
            refine NoPanic.normal ?_
            rw [u32_add]
            have hs1 : (wr.setCell ⟨w.heap.size, i, none⟩ (wv (x1 + x2))).drew.rowIs w.heap.size 81 8 (Sha.midF s t (i + 1) i) := ((hs.set i (wv (x1 + x2))).congr (fun j _ => by rw [← HST.out]; exact Sha.midF_lo s t i j hi4)).drew
            have hr1 := (hr.setOther (a := ⟨w.heap.size, i, none⟩) (show w.heap.size + 1 ≠ w.heap.size by omega) (wv (x1 + x2))).drew
            have hv1 := (hv.setOther (a := ⟨w.heap.size, i, none⟩) (show g6 ≠ w.heap.size by omega) (wv (x1 + x2))).drew
            have he1 := (he.setOther (a := ⟨w.heap.size, i, none⟩) (show g7 ≠ w.heap.size by omega) (wv (x1 + x2))).drew
            have hB1 := (hB.setCell (p := ⟨w.heap.size, i, none⟩) (Nat.le_refl _) (wv (x1 + x2))).drew
            clear c1 f1 c2 hHeld hs hr hv he hB
            generalize (wr.setCell ⟨w.heap.size, i, none⟩ (wv (x1 + x2))).drew = wg at *
            obtain ⟨m, hm⟩ : ∃ m, m = i + 4 := ⟨_, rfl⟩
            have c1 := hs1.cell (i := m) (by omega)
            have f1 := hs1.frozen m
            have c2 := he1.cell (i := i) (by omega)
            have e1 : Sha.midF s t (i + 1) i m = wv (s.toList.getD m 0#32) := by unfold Sha.midF; rw [if_neg (by omega)]; rfl
            have e2 : Sha.stE t i = wv ([t.e, t.f, t.g, t.h].getD i 0#32) := rfl
            rw [e1] at c1
            rw [e2] at c2
            have hlo := Sha.add_hi s t i hi4
            rw [← hm] at hlo
            have hst : Sha.stF (s.add t) m = wv ((s.add t).toList.getD m 0#32) := rfl
            rw [hlo] at hst
            clear e1 e2 hlo
            generalize s.toList.getD m 0#32 = x3 at *
            generalize [t.e, t.f, t.g, t.h].getD i 0#32 = x4 at *
            have HST2 := Lib.hid hst
            clear hst
            have s4 : IntKind.i64.wrap ((i : Int) + 4) = (m : Int) := by rw [S4.out, hm]
            have i48 : (m : Int) < 8 := by clear s4; omega
            have HM := Lib.hid hm
            clear hm
            go_wp2_with fail
            refine wp_region_lasts (fun w' => w'.cell? ⟨w.heap.size, m, none⟩ = some (wv x3) ∧ w'.cell? ⟨g7, i, none⟩ = some (wv x4)) (fun i => i == 9) (by kernel_rfl) ⟨c1, c2⟩ (fun hHeld => ?_)
            refine tk_0 (v := ?_) (by kernel_rfl) (by kernel_rfl) (by kernel_rfl) (by kernel_rfl) (fun _ _ _ h => h) (Or.inl ⟨by kernel_rfl, ?_⟩) (by assumption) ?_
            rotate_left
            · (intro wS hSw; (try dsimp only at hSw); (go_simp); (all_goals (with_reducible rfl)))
            try go_frame
            refine tk_1 (v := ?_) (by kernel_rfl) (by kernel_rfl) (by kernel_rfl) (by kernel_rfl) (fun _ _ _ h => h) (Or.inl ⟨by kernel_rfl, ?_⟩) (by assumption) ?_
            rotate_left
            · (intro wS hSw; (try dsimp only at hSw); (go_simp); (all_goals (with_reducible rfl)))
            try go_frame
            refine tk_2 (v := ?_) (by kernel_rfl) (by kernel_rfl) (by kernel_rfl) (by kernel_rfl) (fun _ _ _ h => h) (Or.inl ⟨by kernel_rfl, ?_⟩) (by assumption) ?_
            rotate_left
            · (intro wS hSw; (try dsimp only at hSw); (go_simp); (all_goals (with_reducible rfl)))
            try go_frame
            refine tk_3 (v := ?_) (by kernel_rfl) (by kernel_rfl) (by kernel_rfl) (by kernel_rfl) (fun _ _ _ h => h) (Or.inl ⟨by kernel_rfl, ?_⟩) (by assumption) ?_
            rotate_left
            · (intro wS hSw; (try dsimp only at hSw); (obtain ⟨q0, q1⟩ := hSw; go_simp); (all_goals (with_reducible rfl)))
            try go_frame
            refine tk_4 (v := ?_) (by kernel_rfl) (by kernel_rfl) (by kernel_rfl) (by kernel_rfl) (fun _ _ _ h => h) (Or.inl ⟨by kernel_rfl, ?_⟩) (by assumption) ?_
            rotate_left
            · (intro wS hSw; (try dsimp only at hSw); (go_simp); (all_goals (with_reducible rfl)))
            try go_frame
            refine tk_5 (v := ?_) (by kernel_rfl) (by kernel_rfl) (by kernel_rfl) (by kernel_rfl) (fun _ _ _ h => h) (Or.inl ⟨by kernel_rfl, ?_⟩) (by assumption) ?_
            rotate_left
            · (intro wS hSw; (try dsimp only at hSw); (go_simp); (all_goals (with_reducible rfl)))
            try go_frame
            refine tk_6 (v := ?_) (by kernel_rfl) (by kernel_rfl) (by kernel_rfl) (by kernel_rfl) (fun _ _ _ h => h) (Or.inl ⟨by kernel_rfl, ?_⟩) (by assumption) ?_
            rotate_left
            · (intro wS hSw; (try dsimp only at hSw); (obtain ⟨q0, q1⟩ := hSw; go_simp); (all_goals (with_reducible rfl)))
            try go_frame
            refine tk_7 (v := ?_) (by kernel_rfl) (by kernel_rfl) (by kernel_rfl) (by kernel_rfl) (fun _ _ _ h => h) (Or.inl ⟨by kernel_rfl, ?_⟩) (by assumption) ?_
            rotate_left
            · (intro wS hSw; (try dsimp only at hSw); (go_simp); (all_goals (with_reducible rfl)))
            try go_frame
            refine tk_8 (v := ?_) (by kernel_rfl) (by kernel_rfl) (by kernel_rfl) (by kernel_rfl) (fun _ _ _ h => h) (Or.inl ⟨by kernel_rfl, ?_⟩) (by assumption) ?_
            rotate_left
            · (intro wS hSw; (try dsimp only at hSw); (go_simp); (all_goals (with_reducible rfl)))
            try go_frame
            refine dn_9 (by kernel_rfl) (fun K hK => ?_)
            rw [if_pos (by kernel_rfl)]
            go_simp
            refine hK.out _ _ (fun h => by cases h) (fun _ => ?_)
            clear hK K
            try go_frame
            refine wpAnyT_done (by kernel_rfl) ?_ _
            refine NoPanic.normal ?_
            rw [u32_add]
            clear s4
            have hs2 : (wg.setCell ⟨w.heap.size, m, none⟩ (wv (x3 + x4))).drew.rowIs w.heap.size 81 8 (Sha.midF s t (i + 1) (i + 1)) := ((hs1.set m (wv (x3 + x4))).congr (fun j _ => by rw [← HST2.out, HM.out]; exact Sha.midF_hi s t i j hi4)).drew
            have hr2 := (hr1.setOther (a := ⟨w.heap.size, m, none⟩) (show w.heap.size + 1 ≠ w.heap.size by omega) (wv (x3 + x4))).drew
            have hv2 := (hv1.setOther (a := ⟨w.heap.size, m, none⟩) (show g6 ≠ w.heap.size by omega) (wv (x3 + x4))).drew
            have he2 := (he1.setOther (a := ⟨w.heap.size, m, none⟩) (show g7 ≠ w.heap.size by omega) (wv (x3 + x4))).drew
            have hB2 := (hB1.setCell (p := ⟨w.heap.size, m, none⟩) (Nat.le_refl _) (wv (x3 + x4))).drew
            clear c1 f1 c2 hHeld hs1 hr1 hv1 he1 hB1
            generalize (wg.setCell ⟨w.heap.size, m, none⟩ (wv (x3 + x4))).drew = wh at *
            go_wp2_with fail
            go_roundw
            case rel =>
              repeat apply Exists.intro
              exact ⟨⟨i + 1, by omega, by go_num, hs2, hr2, hv2, he2, hB2⟩, rfl⟩
            case measure => go_light; simp [intOf]; omega
          · obtain rfl : i = 4 := by omega
            have hs2 : wr.rowIs w.heap.size 81 8 (Sha.stF (Sha.compress s b)) := by rw [HCP.out]; exact hs.congr (fun j hj => Sha.midF_8 s t j hj)
            go_wp2_with (first | (with_reducible refine wpList_load_arr (o := ⟨some 115, _, _, _, _, _⟩) rfl _ _ rfl hs2 rfl aggW8 ?_) | (refine wpList_store_arr (o := ⟨none, _, _, _, _, _⟩) rfl _ _ _ rfl hr rfl rfl aggW8 (fun _ _ => rfl) ?_; intro hr2))
            exact bodyPost_arr (p := 4) (by rfl) hr2 (by rfl) aggW8 (by rfl) ⟨rfl, below_setRow' hB (by omega) _⟩
section
def over (f : Nat → Value) (o m : Nat) (g : Nat → Value) (j : Nat) : Value := if o ≤ j ∧ j < o + m then g (j - o) else f j
theorem arr_over (n : Nat) (f : Nat → Value) (o m : Nat) (g : Nat → Value) (h : o + m ≤ n) :
    ((arr n f).toList.take o ++ (List.range m).map g ++ (arr n f).toList.drop (o + m)).toArray = arr n (over f o m g) := by
  apply Array.toList_inj.1
  unfold arr
  apply List.ext_getElem?
  intro j
  simp only [List.getElem?_append, List.length_append, List.length_take, List.length_map, List.length_range, List.getElem?_take, List.getElem?_drop, List.getElem?_map]
  by_cases h1 : j < o
  · have : ¬ (o ≤ j ∧ j < o + m) := by omega
    simp [h1, over, show j < n by omega, this, show j < min o n + m by omega, show j < min o n by omega]
  · by_cases h2 : j < o + m
    · simp [over, show j < n by omega, show min o n = o by omega, show j - o < m by omega, show o ≤ j by omega, h2]
      intro hh; omega
    · have h3 : ¬ (o ≤ j ∧ j < o + m) := by omega
      by_cases h4 : j < n
      · simp [over, show min o n = o by omega, h3, h4, show o + m + (j - (o + m)) = j by omega]
        intro hh; omega
      · simp [show min o n = o by omega, h4, show o + m + (j - (o + m)) = j by omega]
        intro hh; omega
section
variable {P : Program} {w : World} {b : Nat} {t : TypeId} {n : Nat} {f : Nat → Value}
theorem run_store_over (h : w.rowIs b t n f) (o m : Nat) (g : Nat → Value) (hom : o + m ≤ n) (h1 : ∀ i, i < m → (g i).oneCell' = true) :
    (storeCells ⟨b, o, none⟩ ((List.range m).map g) 0).run P w = .ok () (w.setRow b (arr n (over f o m g))) := by
  have hs := run_storeCells_at P b o t ((List.range m).map g) 0 (arr n f) w (row_block h) (by rw [arr_size]; simpa using hom) (fun v hv => by
    obtain ⟨i, hi, rfl⟩ := List.mem_map.1 hv
    exact h1 i (by simpa using hi))
  rw [hs]
  congr 2
  rw [← arr_over n f o m g hom]
  simp
theorem wp_store_over {o : Oper} {a : Act} {K : Act → World → Prop} {Q : Exit → Act → World → Prop} (ty : TypeId) (x y : Operand) (ho : o.op = .store ty x y)
    (h : w.rowIs b t n f) {off m : Nat} {g : Nat → Value} (hx : a.eval x = .pointer (some ⟨b, off, none⟩)) (hy : a.eval y = .agg (arr m g)) (hom : off + m ≤ n) (ag : Agg P ty m) (h1 : ∀ i, i < m → (g i).oneCell' = true)
    (hk : K (a.put o.dst undef) (w.setRow b (arr n (over f off m g)))) : o.wp P a w K Q := by
  have hrun := run_store_over (P := P) h off m g hom h1
  obtain ⟨⟨d, hu, hd⟩, hi⟩ := ag
  have hst : (storeVar ty ⟨b, off, none⟩ (.agg (arr m g))).run P w = .ok () (w.setRow b (arr n (over f off m g))) := by
    cases hq : P.info? ty with
    | none => simp [hq] at hi
    | some i =>
      have hs : m = i.size := by simp [hq] at hi; omega
      have hc : (Value.agg (arr m g)).cells.size = m := arr_size m g
      have hl : (Value.agg (arr m g)).cells.toList = (List.range m).map g := by show (arr m g).toList = _; simp [arr]
      simp [storeVar, sizeOf, typeInfo, hq, hc, hl, ← hs, hrun]
  unfold Oper.wp execOp
  simp only [ho, hx, hy, Instr.storeAt, Instr.sureAddr, Sem.run_bind, Sem.run_pure, Result.andThen_ok, hst]
  exact hk
theorem wpList_copy_over {ops : Array Oper} {rest : List Oper} {o : Oper} {a : Act} {Q : Exit → Act → World → Prop} (hgd : o.guard = none) (d s : Operand) (dT sT : TypeId)
    (ho : o.op = .call { callee := .builtin .copy, args := #[d, s], argTypes := #[dT, sT] }) {elem : TypeId} (hu : P.underlying dT = some (.slice elem)) (hsz : (P.info? elem).map (·.size) = some 1)
    (h : w.rowIs b t n f) {off dLen dCap : Nat} {str : ByteArray} (hd : a.eval d = .slice (some ⟨b, off, none⟩) dLen dCap) (hs : a.eval s = .string str) (hom : off + dLen ≤ n) {k : Nat} (hkm : k = min str.size dLen)
    (hk : ∀ w', w' = w.setRow b (arr n (over f off k (fun i => bv (str.data.toList.getD i 0)))) → wpList P ops Q rest (a.put o.dst (goInt (k : Nat))) w') : wpList P ops Q (o :: rest) a w := by
  subst hkm
  refine wpList_plain hgd fun K hK => ?_
  have hrun := run_store_over (P := P) h off (min str.size dLen) (fun i => bv (str.data.toList.getD i 0)) (by omega) (fun _ _ => rfl)
  have hcells : List.take (Nat.min str.size dLen) (List.map (fun b => Value.int IntKind.u8 b.toNat) str.data.toList) = (List.range (min str.size dLen)).map (fun i => bv (str.data.toList.getD i 0)) := by
    apply List.ext_getElem?
    intro j
    have hl : str.data.toList.length = str.size := by rw [Array.length_toList]; rfl
    show (List.take (min str.size dLen) _)[j]? = _
    rw [List.getElem?_take]
    by_cases hj : j < min str.size dLen
    · have h2 : j < str.data.toList.length := by omega
      rw [if_pos hj, List.getElem?_map, List.getElem?_map, List.getElem?_eq_getElem h2, List.getElem?_range hj]
      simp only [Option.map_some, bv, List.getD, List.getElem?_eq_getElem h2, Option.getD_some]
    · rw [if_neg hj, List.getElem?_eq_none (by simpa using hj)]
  have hcp : (Builtin.copy_ #[dT, sT] o.type #[.slice (some ⟨b, off, none⟩) dLen dCap, .string str]).run P w = .ok (goInt (min str.size dLen : Nat)) (w.setRow b (arr n (over f off (min str.size dLen) (fun i => bv (str.data.toList.getD i 0))))) := by
    generalize w.setRow b (arr n (over f off (min str.size dLen) (fun i => bv (str.data.toList.getD i 0)))) = w2 at *
    cases hq : P.info? elem with
    | none => simp [hq] at hsz
    | some i =>
      simp only [← hcells] at hrun
      simp [Builtin.copy_, run_underlying hu, Builtin.lenOf, Builtin.firstCells, sizeOf, typeInfo, hq, hrun]
  unfold Oper.wp execOp
  simp only [ho, resolve, invoke, builtin, Sem.run_bind, Sem.run_pure, Result.andThen_ok, List.map_toArray, List.map_cons, List.map_nil, hd, hs, hcp]
  exact hK _ _ (hk _ rfl)
theorem run_sliceAt_arr {P : Program} (t e : TypeId) (n : Nat) (ht : P.underlying t = some (.array n e)) (hi : (P.info? e).map (·.size) = some 1) (b off l : Nat) (hl : l < n) (w : World) :
    (Instr.sliceAt t (.pointer (some ⟨b, off, none⟩)) (some (.int .i64 (l : Int))) none none).run P w = .ok (.slice (some ⟨b, off + l, none⟩) (n - l) (n - l)) w := by
  cases hq : P.info? e with
  | none => simp [hq] at hi
  | some i =>
    have hs : i.size = 1 := by simpa [hq] using hi
    have h1 : ¬ n = l := by omega
    have h2 : l ≤ n := by omega
    simp [Instr.sliceAt, run_underlying ht, Instr.sureAddr, Instr.sliceBounds, run_sliceBound, sizeOf, typeInfo, hq, hs, h1, h2, Addr.add]
theorem exec_load_arr {P : Program} {ρ : Operand → Value} {o : Oper} (ty : TypeId) (x : Operand) (ho : o.op = .load ty x) {w : World} {b : Nat} {t : TypeId} {n : Nat} {f : Nat → Value} (hr : w.rowIs b t n f) (hx : ρ x = .pointer (some ⟨b, 0, none⟩)) (ag : Agg P ty n) :
    (execOp ρ o).run P w = .ok (.value (.agg (arr n f))) w := by
  obtain ⟨⟨d, hu, hd⟩, hi⟩ := ag
  have hl := run_loadVar_row (P := P) w b t ty (arr n f) (0, 0) d (row_block hr) hu (by cases d <;> simp_all) (by rw [hi, arr_size])
  unfold execOp
  simp only [ho, hx, Instr.loadAt, Instr.sureAddr, Sem.run_bind, Sem.run_pure, Result.andThen_ok, hl]
theorem wp_alloc_arr {P : Program} {o : Oper} {a : Act} {w : World} {K : Act → World → Prop} {Q : Exit → Act → World → Prop} {t : TypeId} (ho : o.op = .alloc t) {n : Nat} {f : Nat → Value} (hz : ∀ w, (zeroValue t).run P w = .ok (.agg (arr n f)) w)
    (h : ∀ g w', w.heap.size ≤ g → w'.rowIs g t n f → Below w.heap.size w w' → K (a.put o.dst (.pointer (some ⟨g, 0, none⟩))) w') : o.wp P a w K Q := by
  unfold Oper.wp execOp
  simp only [ho, Instr.alloc, Sem.run_bind, Sem.run_pure, Result.andThen_ok, hz]
  exact h _ _ (Nat.le_refl _) (row_alloc w t n f) ((Below.refl _ _).alloc (Nat.le_refl _) _)
theorem range_one (f : Nat → Value) (v : Value) : (Array.map f (Array.range 1)).setIfInBounds 0 v = #[v] := by
  apply Array.ext
  · simp
  · intro i h1 h2
    have : i = 0 := by simp at h2; omega
    subst this
    simp
theorem wp_built_byte {P : Program} {o : Oper} {a : Act} {w : World} {K : Act → World → Prop} {Q : Exit → Act → World → Prop} (t : TypeId) (x : Operand) (ho : o.op = .buildSlice t 1 #[(0, x)])
    {e : TypeId} (el : El P t e (.int .u8 0) 1 1) {z : Int} (hx : a.eval x = .int .u8 z)
    (h : ∀ g w', w.heap.size ≤ g → Sl w' (.slice (some ⟨g, 0, none⟩) 1 1) 1 1 [.int .u8 z] → Below w.heap.size w w' → K (a.put o.dst (.slice (some ⟨g, 0, none⟩) 1 1)) w') : o.wp P a w K Q := by
  obtain ⟨i, hi, hz, hs, _⟩ := el.info
  have hsl := Sl.built w #[.int .u8 z] e 1 1 rfl (by decide)
  unfold Oper.wp
  simp [execOp, ho, Instr.buildSlice, run_underlying el.ht, sizeOf, zeroValue, typeInfo, hi, hz, hs, Instr.fill, hx, Value.cells]
  have h2 := h w.heap.size (w.alloc (.cells #[.int .u8 z] e)) (Nat.le_refl _) hsl ((Below.refl _ _).alloc (Nat.le_refl _) _)
  have hcs := range_one (fun x => [Value.int .u8 0][x % 1]?.getD default) (Value.int .u8 z)
  rw [hcs]
  exact h2
end
end
namespace Sha
theorem feed_prefix : ∀ (q : Nat) (s : St) (l x : List UInt8), 64 * q ≤ l.length → feed q s (l ++ x) = feed q s l
  | 0, _, _, _, _ => rfl
  | q + 1, s, l, x, h => by
    simp only [feed]
    rw [List.take_append_of_le_length (by omega), List.drop_append_of_le_length (by omega)]
    exact feed_prefix q _ _ _ (by rw [List.length_drop]; omega)
theorem feed_last : ∀ (q : Nat) (s : St) (l : List UInt8), feed (q + 1) s l = compress (feed q s l) ((l.drop (64 * q)).take 64)
  | 0, _, _ => by simp [feed]
  | q + 1, s, l => by
    have h := feed_last q (compress s (l.take 64)) (l.drop 64)
    simp only [feed] at h ⊢
    rw [h, List.drop_drop]
    congr 3
    omega
def blkIn (blk : List UInt8) (at_ : Nat) (x : List UInt8) : List UInt8 := blk.take at_ ++ x ++ blk.drop (at_ + x.length)
theorem blkIn_length (blk : List UInt8) (a : Nat) (x : List UInt8) (h : blk.length = 64) (hx : a + x.length ≤ 64) : (blkIn blk a x).length = 64 := by
  unfold blkIn; simp; omega
theorem blkIn_take (blk m x : List UInt8) (hb : blk.take (m.length % 64) = m.drop (64 * (m.length / 64))) :
    (blkIn blk (m.length % 64) x).take (m.length % 64 + x.length) = (m ++ x).drop (64 * (m.length / 64)) := by
  unfold blkIn
  rw [hb, List.drop_append_of_le_length (by omega), List.take_append_of_le_length (by simp; omega), List.take_of_length_le (by simp; omega)]
theorem step_part (blk m x : List UInt8) (_h : blk.length = 64) (hx : m.length % 64 + x.length < 64) (hb : blk.take (m.length % 64) = m.drop (64 * (m.length / 64))) :
    feed ((m ++ x).length / 64) init (m ++ x) = feed (m.length / 64) init m ∧ (blkIn blk (m.length % 64) x).take ((m ++ x).length % 64) = (m ++ x).drop (64 * ((m ++ x).length / 64)) := by
  have hq : (m ++ x).length / 64 = m.length / 64 := by rw [List.length_append]; omega
  have hr : (m ++ x).length % 64 = m.length % 64 + x.length := by rw [List.length_append]; omega
  rw [hq, hr]
  exact ⟨feed_prefix _ _ _ _ (by omega), blkIn_take blk m x hb⟩
theorem step_full (blk m x : List UInt8) (h : blk.length = 64) (hx : m.length % 64 + x.length = 64) (hb : blk.take (m.length % 64) = m.drop (64 * (m.length / 64))) :
    feed ((m ++ x).length / 64) init (m ++ x) = compress (feed (m.length / 64) init m) (blkIn blk (m.length % 64) x) ∧ (blkIn blk (m.length % 64) x).take ((m ++ x).length % 64) = (m ++ x).drop (64 * ((m ++ x).length / 64)) := by
  have hq : (m ++ x).length / 64 = m.length / 64 + 1 := by rw [List.length_append]; omega
  have hr : (m ++ x).length % 64 = 0 := by rw [List.length_append]; omega
  have hb2 := blkIn_take blk m x hb
  have hl := blkIn_length blk (m.length % 64) x h (by omega)
  rw [hq, hr]
  refine ⟨?_, ?_⟩
  · rw [feed_last, feed_prefix _ _ _ _ (by omega), ← hb2, hx, List.take_take, Nat.min_self, List.take_of_length_le (by omega)]
  · rw [List.drop_of_length_le (by rw [List.length_append]; omega)]; rfl
end Sha
theorem aggStr : Agg Tryd.prog 84 73 := ⟨⟨_, Tryd.underlying84, rfl⟩, by kernel_rfl⟩
theorem aggSum : Agg Tryd.prog 87 32 := ⟨⟨_, Tryd.underlying87, rfl⟩, by kernel_rfl⟩
namespace Sha
def strF (s : St) (blk : List UInt8) (n : Nat) (i : Nat) : Value := if i < 8 then stF s i else if i < 72 then bv (blk.getD (i - 8) 0) else .int .u64 (n : Int)
theorem strF_one (s : St) (blk : List UInt8) (n i : Nat) : (strF s blk n i).oneCell' = true := by
  unfold strF; split
  · rfl
  · split <;> rfl
def IsStream (v : Value) (m : List UInt8) : Prop := ∃ blk : List UInt8, v = .agg (arr 73 (strF (feed (m.length / 64) init m) blk m.length)) ∧ blk.length = 64 ∧ blk.take (m.length % 64) = m.drop (64 * (m.length / 64))
end Sha
def zF : Nat → Value := Sha.strF ⟨0#32, 0#32, 0#32, 0#32, 0#32, 0#32, 0#32, 0#32⟩ (List.replicate 64 0) 0
theorem str_zero (w : World) : (zeroValue 84).run Tryd.prog w = .ok (.agg (arr 73 zF)) w := by kernel_rfl
set_option maxHeartbeats 1000000 in
set_option maxRecDepth 100000 in
theorem hash_Begin (w : World) :
    Calls Tryd.prog 44 #[] w fun e w' => ∃ v, e = .returned v ∧ Sha.IsStream v [] ∧ Below w.heap.size w w' := by
  have hb : ((Tryd.prog.built 84 [(0, .agg ((Tryd.prog.built 81 [(0, .int .u32 1779033703), (1, .int .u32 3144134277), (2, .int .u32 1013904242), (3, .int .u32 2773480762), (4, .int .u32 1359893119), (5, .int .u32 2600822924), (6, .int .u32 528734635), (7, .int .u32 1541459225)]).getD #[]))]).getD #[]) = arr 73 (Sha.strF Sha.init (List.replicate 64 0) 0) := by kernel_rfl
  have hz := str_zero
  go_enter Tryd.func44, Tryd.ntmps44
  go_wp2_with (first | (refine wpList_build (o := ⟨some 1, _, _, _, _, _⟩) rfl _ _ rfl (by kernel_rfl) ?_) | (refine wpList_build (o := ⟨some 2, _, _, _, _, _⟩) rfl _ _ rfl (by kernel_rfl) ?_) |
    (refine wpList_store_fresh (o := ⟨none, _, _, _, _, _⟩) rfl _ _ _ rfl _ (arr 73 (Sha.strF Sha.init (List.replicate 64 0) 0)) rfl ?_ aggStr (arr_size _ _) (arr_size _ _) (arr_ones (fun i _ => Sha.strF_one _ _ _ i)) ?_))
  try go_frame
  exact bodyPost_arr (p := 0) (by rfl) (row_alloc w _ 73 _) (by rfl) aggStr (by rfl) ⟨_, rfl, ⟨List.replicate 64 0, rfl, rfl, rfl⟩, (Below.refl _ _).alloc (Nat.le_refl _) _⟩
namespace Sha
theorem blkIn_at (bk x : List UInt8) (a j : Nat) (h : bk.length = 64) (hx : a + x.length ≤ 64) (hj : j < 64) : (blkIn bk a x).getD j 0 = if a ≤ j ∧ j < a + x.length then x.getD (j - a) 0 else bk.getD j 0 := by
  unfold blkIn
  simp only [List.getD, List.getElem?_append, List.length_append, List.length_take, List.getElem?_take, List.getElem?_drop]
  by_cases h1 : j < a
  · rw [if_pos (by omega), if_pos (by omega), if_pos h1, if_neg (by omega)]
  · by_cases h2 : j < a + x.length
    · rw [if_pos (by omega), if_neg (by omega), if_pos (by omega)]
      congr 2; omega
    · rw [if_neg (by omega), if_neg (by omega)]
      congr 2; omega
theorem strF_over (st : St) (bk rl : List UInt8) (n a k : Nat) (h : bk.length = 64) (hk : a + k ≤ 64) (hl : k ≤ rl.length) (j : Nat) (hj : j < 73) :
    over (strF st bk n) (8 + a) k (fun i => bv (rl.getD i 0)) j = strF st (blkIn bk a (rl.take k)) n j := by
  have hxl : (rl.take k).length = k := by rw [List.length_take]; omega
  unfold over strF
  by_cases h1 : j < 8
  · rw [if_neg (by omega), if_pos h1, if_pos h1]
  · by_cases h2 : j < 72
    · rw [if_neg h1, if_pos h2, if_neg h1, if_pos h2, blkIn_at bk _ a (j - 8) h (by omega) (by omega), hxl]
      by_cases h3 : a ≤ j - 8 ∧ j - 8 < a + k
      · rw [if_pos (by omega), if_pos h3]
        have e : j - (8 + a) = j - 8 - a := by omega
        rw [e]
        simp only [List.getD, List.getElem?_take, show j - 8 - a < k by omega, if_true]
      · rw [if_neg (by omega), if_neg h3]
    · rw [if_neg (by omega), if_neg h1, if_neg h2, if_neg h1, if_neg h2]
theorem strF_n (st : St) (bk : List UInt8) (n n' : Nat) (j : Nat) : (if j = 72 then Value.int .u64 (n' : Int) else strF st bk n j) = if j < 73 then strF st bk n' j else strF st bk n j := by
  unfold strF
  by_cases h1 : j < 8
  · rw [if_neg (by omega), if_pos h1, if_pos (by omega), if_pos h1]
  · by_cases h2 : j < 72
    · rw [if_neg (by omega), if_neg h1, if_pos h2, if_pos (by omega), if_neg h1, if_pos h2]
    · by_cases h3 : j = 72
      · rw [if_pos h3, if_pos (by omega), if_neg h1, if_neg h2]
      · rw [if_neg h3, if_neg h1, if_neg h2, if_neg (by omega)]
theorem strF_st (st st' : St) (bk : List UInt8) (n : Nat) (j : Nat) : over (strF st bk n) 0 8 (stF st') j = strF st' bk n j := by
  unfold over strF
  by_cases h1 : j < 8
  · rw [if_pos (by omega), if_pos h1]; rfl
  · rw [if_neg (by omega), if_neg h1, if_neg h1]
end Sha
theorem str_block {w : World} {g : Nat} {st : Sha.St} {bk : List UInt8} {n : Nat} {t : TypeId} (h : w.rowIs g t 73 (Sha.strF st bk n)) (hb : bk.length = 64) : Sl w (.slice (some ⟨g, 8, none⟩) 64 64) 1 bk.length (bk.map bv) := by
  rw [hb]
  refine ⟨_, _, rfl, Nat.le_refl _, by decide, by simp [hb], fun _ => ⟨_, rfl, h.lt, fun j u hu => ?_⟩⟩
  have hj : j < 64 := by
    rcases Nat.lt_or_ge j 64 with h | h
    · exact h
    · rw [List.getElem?_eq_none (by simp; omega)] at hu; cases hu
  rw [Addr.add_lit, h.cell (i := 8 + j) (by omega)]
  have h2 : j < bk.length := by omega
  unfold Sha.strF
  rw [if_neg (by omega), if_pos (by omega), show 8 + j - 8 = j by omega, ← hu]
  simp [List.getD, List.getElem?_eq_getElem h2]
theorem Consts.below' {w w' : World} (h : Consts w) (hb : Below w.heap.size w w') : Consts w' := h.below hb
theorem extract_drop (r : ByteArray) (k : Nat) : (r.extract k r.size).data.toList = r.data.toList.drop k := by
  have h : r.size = r.data.toList.length := by rw [Array.length_toList]; rfl
  rw [ByteArray.data_extract, Array.toList_extract, h, List.extract_eq_take_drop]
  rw [List.take_of_length_le (by simp)]
theorem add_rest (m' : List UInt8) (r : ByteArray) (k : Nat) (l : List UInt8) (h : m' ++ r.data.toList = l) : (m' ++ r.data.toList.take k) ++ (r.extract k r.size).data.toList = l := by
  rw [extract_drop, List.append_assoc, List.take_append_drop, h]
theorem row_n {w : World} {g : Nat} {st : Sha.St} {bk : List UInt8} {n : Nat} {t : TypeId} (h : w.rowIs g t 73 (Sha.strF st bk n)) (n' : Nat) (z : Int) (hz : z = (n' : Int)) : (w.setCell ⟨g, 72, none⟩ (.int .u64 z)).rowIs g t 73 (Sha.strF st bk n') := by
  subst hz
  exact (h.set 72 _).congr fun j hj => by rw [Sha.strF_n, if_pos hj]
set_option maxHeartbeats 2000000 in
set_option maxRecDepth 100000 in
theorem hash_StreamAdd (v : Value) (m : List UInt8) (s : ByteArray) (w : World) (hv : Sha.IsStream v m) (hs : m.length + s.size ≤ 1000000000000000) (hC : Consts w) :
    Calls Tryd.prog 45 #[v, .string s] w fun e w' => ∃ v', e = .returned v' ∧ Sha.IsStream v' (m ++ s.data.toList) ∧ Below w.heap.size w w' := by
  obtain ⟨blk, rfl, hbl, hbt⟩ := hv
  have hz := str_zero
  go_enter Tryd.func45, Tryd.ntmps45
  go_wp2_with fail
  have hr0 := row_alloc (w.alloc (.cells (arr 73 (Sha.strF (Sha.feed (m.length / 64) Sha.init m) blk m.length)) 84)) 84 73 zF
  simp only [World.size_alloc] at hr0
  go_loopw [1] (fun u1 wr => ∃ (r : ByteArray) (m' blk' : List UInt8), u1 = .string r ∧ m' ++ r.data.toList = m ++ s.data.toList ∧ wr.rowIs w.heap.size 84 73 (Sha.strF (Sha.feed (m'.length / 64) Sha.init m') blk' m'.length) ∧ blk'.length = 64 ∧
    blk'.take (m'.length % 64) = m'.drop (64 * (m'.length / 64)) ∧ (∃ f, wr.rowIs (w.heap.size + 1) 84 73 f) ∧ Below w.heap.size w wr) (fun u1 _ => match u1 with | .string r => r.size | _ => 0)
  case atStart => exact ⟨s, m, blk, rfl, rfl, (row_alloc w _ 73 _).alloc _, hbl, hbt, ⟨_, hr0⟩, ((Below.refl _ _).alloc (Nat.le_refl _) _).alloc (by simp) _⟩
  case round =>
    clear hbl hbt hr0
    obtain ⟨r, m', bk, rfl, hmr, hst, hbl, hbt, ⟨f, hrr⟩, hB⟩ := hrel
    by_cases hr0 : 0 < r.size
    · have hne : (!r.toList.isEmpty) = true := by
        rw [ByteArray.toList_eq]
        cases hl : r.data.toList with
        | nil => have : r.data.toList.length = 0 := by rw [hl]; rfl
                 rw [Array.length_toList] at this; exact absurd hr0 (by show ¬ 0 < r.data.size; omega)
        | cons _ _ => rfl
      have hn := hst.cell (i := 72) (by omega)
      replace hn : wr.cell? ⟨w.heap.size, 72, none⟩ = some (.int .u64 (m'.length : Int)) := hn
      have hfn := hst.frozen 72
      have hlen : m'.length + r.size = m.length + s.size := by
        have := congrArg List.length hmr
        simp only [List.length_append, Array.length_toList] at this
        exact this
      have ht : m'.length % 64 < 64 := Nat.mod_lt _ (by omega)
      obtain ⟨n, hnl⟩ : ∃ n, n = m'.length := ⟨_, rfl⟩
      obtain ⟨at_, hat⟩ : ∃ k, k = m'.length % 64 := ⟨_, rfl⟩
      have hat1 : ((m'.length : Int)) % 64 = (at_ : Int) := by omega
      rw [← hnl] at hn hat1 hlen
      have HST := Lib.hid hst
      have HBT := Lib.hid hbt
      have HAT := Lib.hid hat
      have HNL := Lib.hid hnl
      have HMR := Lib.hid hmr
      have HLEN : n + r.size ≤ 1000000000000000 := by omega
      have at64 : at_ < 64 := by omega
      clear hst hbt hat hnl hmr hlen ht
      have hsl := run_sliceAt_arr (P := Tryd.prog) 82 5 64 Tryd.underlying82 (by kernel_rfl) w.heap.size 8 at_ at64
      obtain ⟨k, hkm⟩ : ∃ k, k = min r.size (64 - at_) := ⟨_, rfl⟩
      have hk1 : k ≤ r.size := by omega
      have hk2 : at_ + k ≤ 64 := by omega
      have hk3 : at_ + k = 64 ∨ k = r.size := by omega
      have hk4 : 0 < k := by omega
      have HKM := Lib.hid hkm
      clear hkm
      have hrl : k ≤ r.data.toList.length := by rw [Array.length_toList]; exact hk1
      generalize hstt : Sha.feed (m'.length / 64) Sha.init m' = st at *
      have HSTT := Lib.hid hstt
      clear hstt
      have HBK := Lib.hid (Sha.blkIn_length bk at_ (r.data.toList.take k) hbl (by rw [List.length_take]; omega))
      rw [← HNL.out] at HST
      go_wp2_with (refine wpList_copy_over (o := ⟨some 17, _, _, _, _, _⟩) rfl _ _ _ _ rfl Tryd.underlying24 (by kernel_rfl) HST.out (off := 8 + at_) (dLen := 64 - at_) rfl rfl (by omega) HKM.out ?_; intro wc hwc; have hst2 := (row_setRow HST.out (over (Sha.strF st bk n) (8 + at_) k (fun i => bv (r.data.toList.getD i 0)))).congr (fun j hj => Sha.strF_over st bk r.data.toList n at_ k hbl hk2 hrl j hj); have hrr2 := row_setRow_other hrr (show w.heap.size + 1 ≠ w.heap.size by omega) (arr 73 (over (Sha.strF st bk n) (8 + at_) k (fun i => bv (r.data.toList.getD i 0)))); have hB2 := below_setRow' hB (Nat.le_refl _) (arr 73 (over (Sha.strF st bk n) (8 + at_) k (fun i => bv (r.data.toList.getD i 0)))); rw [← hwc] at hst2 hrr2 hB2; clear hwc hn hfn hrr hB; have hn2 := hst2.cell (i := 72) (by omega); replace hn2 : wc.cell? ⟨w.heap.size, 72, none⟩ = some (.int .u64 (n : Int)) := hn2; have hfn2 := hst2.frozen 72)
      · have hfull : at_ + k = 64 := by
          have : ((at_ : Int) + (k : Int) == 64) = true := by assumption
          rw [beq_iff_eq] at this; omega
        have hst3 := row_n hst2 (n + k) ((n : Int) + (k : Int)) (by omega)
        have hrr3 := hrr2.setOther (a := ⟨w.heap.size, 72, none⟩) (show w.heap.size + 1 ≠ w.heap.size by omega) (.int .u64 ((n : Int) + (k : Int)))
        have hB3 := hB2.setCell (p := ⟨w.heap.size, 72, none⟩) (Nat.le_refl _) (.int .u64 ((n : Int) + (k : Int)))
        clear hst2 hrr2 hB2 hn2 hfn2
        generalize wc.setCell ⟨w.heap.size, 72, none⟩ (.int .u64 ((n : Int) + (k : Int))) = wd at *
        generalize hbk2 : Sha.blkIn bk at_ (r.data.toList.take k) = bk2 at *
        have HBK2 := Lib.hid hbk2
        clear hbk2
        refine wp_region_lasts (fun w' => w'.rowIs w.heap.size 84 73 (Sha.strF st bk2 (n + k)) ∧ (∃ f, w'.rowIs (w.heap.size + 1) 84 73 f) ∧ Below w.heap.size w w') (fun i => i == 6) (by kernel_rfl) ⟨hst3.drew, ⟨_, hrr3.drew⟩, hB3.drew⟩ (fun hHeld => ?_)
        refine tk_0 (v := ?_) (by kernel_rfl) (by kernel_rfl) (by kernel_rfl) (by kernel_rfl) (fun _ _ _ h => h) (Or.inl ⟨by kernel_rfl, ?_⟩) (by assumption) ?_
        rotate_left
        · (intro wS hSw; (try dsimp only at hSw); (go_simp); (all_goals (with_reducible rfl)))
        try go_frame
        refine tk_1 (v := ?_) (by kernel_rfl) (by kernel_rfl) (by kernel_rfl) (by kernel_rfl) (fun _ _ _ h => h) (Or.inl ⟨by kernel_rfl, ?_⟩) (by assumption) ?_
        rotate_left
        · (intro wS hSw; (try dsimp only at hSw); (replace hSw := hSw.1; have q0 : wS.cell? ⟨w.heap.size, 0, none⟩ = some (wv st.a) := hSw.cell (i := 0) (by decide); have q1 : wS.cell? ⟨w.heap.size, 1, none⟩ = some (wv st.b) := hSw.cell (i := 1) (by decide); have q2 : wS.cell? ⟨w.heap.size, 2, none⟩ = some (wv st.c) := hSw.cell (i := 2) (by decide); have q3 : wS.cell? ⟨w.heap.size, 3, none⟩ = some (wv st.d) := hSw.cell (i := 3) (by decide); have q4 : wS.cell? ⟨w.heap.size, 4, none⟩ = some (wv st.e) := hSw.cell (i := 4) (by decide); have q5 : wS.cell? ⟨w.heap.size, 5, none⟩ = some (wv st.f) := hSw.cell (i := 5) (by decide); have q6 : wS.cell? ⟨w.heap.size, 6, none⟩ = some (wv st.g) := hSw.cell (i := 6) (by decide); have q7 : wS.cell? ⟨w.heap.size, 7, none⟩ = some (wv st.h) := hSw.cell (i := 7) (by decide); go_simp); (all_goals (with_reducible rfl)))
        try go_frame
        refine tk_2 (v := ?_) (by kernel_rfl) (by kernel_rfl) (by kernel_rfl) (by kernel_rfl) (fun _ _ _ h => h) (Or.inl ⟨by kernel_rfl, ?_⟩) (by assumption) ?_
        rotate_left
        · (intro wS hSw; (try dsimp only at hSw); (go_simp); (all_goals (with_reducible rfl)))
        try go_frame
        refine tk_3 (v := ?_) (by kernel_rfl) (by kernel_rfl) (by kernel_rfl) (by kernel_rfl) (fun _ _ _ h => h) (Or.inl ⟨by kernel_rfl, ?_⟩) (by assumption) ?_
        rotate_left
        · (intro wS hSw; (try dsimp only at hSw); (go_simp); (all_goals (with_reducible rfl)))
        try go_frame
        refine dn_4 (by kernel_rfl) (fun K hK => ?_)
        rw [if_pos (by kernel_rfl)]
        go_simp; go_at_call 52; refine (hash_compress st bk2 _ _ rfl _ HBK.out (str_block hHeld.1 HBK.out) (hC.below' hHeld.2.2)).mono ?_; rintro e w4 ⟨rfl, hb4⟩; go_simp
        refine hK.out _ _ (fun _ => by (try dsimp only); exact ⟨rowIs_below' hHeld.1 hb4, ⟨_, rowIs_below' hHeld.2.1.choose_spec hb4⟩, bl_on hHeld.2.2 hb4⟩) (fun hHeld => ?_)
        replace hHeld := hHeld rfl
        clear hK K
        try go_frame
        obtain ⟨hst4, ⟨f4, hrr4⟩, hB4⟩ := id hHeld
        refine tk_5 (v := ?_) (by kernel_rfl) (by kernel_rfl) (by kernel_rfl) (by kernel_rfl) (fun _ _ _ h => h) (Or.inl ⟨by kernel_rfl, ?_⟩) (by assumption) ?_
        rotate_left
        · (intro wS hSw; (try dsimp only at hSw); (go_simp); (all_goals (with_reducible rfl)))
        try go_frame
        refine dn_6 (by kernel_rfl) (fun K hK => ?_)
        rw [if_pos (by kernel_rfl)]
        refine wp_store_over (g := Sha.stF (Sha.compress st bk2)) _ _ _ rfl hst4 rfl rfl (by decide) aggW8 (fun _ _ => rfl) ?_
        refine hK.out _ _ (fun h => by cases h) (fun _ => ?_)
        clear hK K
        try go_frame
        refine wpAnyT_done (by kernel_rfl) ?_ _
        refine NoPanic.normal ?_
        have hst5 : (w4.setRow w.heap.size (arr 73 (over (Sha.strF st bk2 (n + k)) 0 8 (Sha.stF (Sha.compress st bk2))))).rowIs w.heap.size 84 73 (Sha.strF (Sha.compress st bk2) bk2 (n + k)) := (row_setRow hst4 _).congr (fun j _ => Sha.strF_st _ _ _ _ j)
        have hrr5 := row_setRow_other hrr4 (show w.heap.size + 1 ≠ w.heap.size by omega) (arr 73 (over (Sha.strF st bk2 (n + k)) 0 8 (Sha.stF (Sha.compress st bk2))))
        have hB5 := below_setRow' hB4 (Nat.le_refl _) (arr 73 (over (Sha.strF st bk2 (n + k)) 0 8 (Sha.stF (Sha.compress st bk2))))
        have HF := Lib.hid (Sha.step_full bk m' (r.data.toList.take k) hbl (by rw [← HAT.out, List.length_take]; omega) HBT.out)
        have HL : Hid ((m' ++ r.data.toList.take k).length = n + k) := by show _ = _; rw [List.length_append, List.length_take, HNL.out]; omega
        clear hHeld hst3 hrr3 hB3 hst4 hrr4 hB4
        generalize w4.setRow w.heap.size (arr 73 (over (Sha.strF st bk2 (n + k)) 0 8 (Sha.stF (Sha.compress st bk2)))) = w5 at *
        go_wp2_with fail
        go_roundw
        case rel =>
          have h1 := HF.out
          rw [HSTT.out, ← HAT.out, HBK2.out] at h1
          exact ⟨r.extract k r.size, m' ++ r.data.toList.take k, bk2, rfl, add_rest m' r k _ HMR.out, by rw [h1.1, HL.out]; exact hst5, HBK.out, h1.2, ⟨_, hrr5⟩, hB5⟩
        case measure => go_light; simp; omega
      · have hpart : at_ + k < 64 := by
          have : ((at_ : Int) + (k : Int) == 64) = false := by assumption
          rw [beq_eq_false_iff_ne] at this; omega
        have hst3 := row_n hst2 (n + k) ((n : Int) + (k : Int)) (by omega)
        have hrr3 := hrr2.setOther (a := ⟨w.heap.size, 72, none⟩) (show w.heap.size + 1 ≠ w.heap.size by omega) (.int .u64 ((n : Int) + (k : Int)))
        have hB3 := hB2.setCell (p := ⟨w.heap.size, 72, none⟩) (Nat.le_refl _) (.int .u64 ((n : Int) + (k : Int)))
        have HF := Lib.hid (Sha.step_part bk m' (r.data.toList.take k) hbl (by rw [← HAT.out, List.length_take]; omega) HBT.out)
        have HL : Hid ((m' ++ r.data.toList.take k).length = n + k) := by show _ = _; rw [List.length_append, List.length_take, HNL.out]; omega
        go_roundw
        case rel =>
          have h1 := HF.out
          rw [HSTT.out, ← HAT.out] at h1
          exact ⟨r.extract k r.size, m' ++ r.data.toList.take k, _, rfl, add_rest m' r k _ HMR.out, by rw [h1.1, HL.out]; exact hst3, HBK.out, h1.2, ⟨_, hrr3⟩, hB3⟩
        case measure => go_light; simp; omega
    · have hne : (!r.toList.isEmpty) = false := by
        rw [ByteArray.toList_eq]
        have : r.data.toList.length = 0 := by rw [Array.length_toList]; show r.size = 0; omega
        rw [List.eq_nil_of_length_eq_zero this]; rfl
      have hnil : r.data.toList = [] := List.eq_nil_of_length_eq_zero (by rw [Array.length_toList]; show r.size = 0; omega)
      rw [hnil, List.append_nil] at hmr
      subst hmr
      clear hnil
      go_wp2_with (first | (with_reducible refine wpList_load_arr (o := ⟨some 37, _, _, _, _, _⟩) rfl _ _ rfl hst rfl aggStr ?_) | (refine wpList_store_arr (o := ⟨none, _, _, _, _, _⟩) rfl _ _ _ rfl hrr rfl rfl aggStr (fun i _ => Sha.strF_one _ _ _ i) ?_; intro hr2))
      exact bodyPost_arr (p := 4) (by rfl) hr2 (by rfl) aggStr (by rfl) ⟨_, rfl, ⟨bk, rfl, hbl, hbt⟩, below_setRow' hB (by omega) _⟩
namespace Sha
theorem pad_test (n j : Nat) : ((n + (1 + j)) % 64 = 56) ↔ (119 - n % 64) % 64 = j % 64 := by omega
theorem zeros_lt (n : Nat) : zeros n < 64 := by unfold zeros; omega
theorem zeros_test (n j : Nat) (hj : j ≤ zeros n) : ((n + (1 + j)) % 64 = 56) ↔ j = zeros n := by
  have := zeros_lt n
  rw [pad_test]; unfold zeros at *; omega
end Sha
theorem Sha.out_at (st : Sha.St) : ∀ i, i < 32 → (Sha.out st).getD i 0 = UInt8.ofNat ((st.toList.getD (i / 4) 0#32).toNat >>> (24 - 8 * (i % 4)) % 256)
  | 0, _ => rfl
  | 1, _ => rfl
  | 2, _ => rfl
  | 3, _ => rfl
  | 4, _ => rfl
  | 5, _ => rfl
  | 6, _ => rfl
  | 7, _ => rfl
  | 8, _ => rfl
  | 9, _ => rfl
  | 10, _ => rfl
  | 11, _ => rfl
  | 12, _ => rfl
  | 13, _ => rfl
  | 14, _ => rfl
  | 15, _ => rfl
  | 16, _ => rfl
  | 17, _ => rfl
  | 18, _ => rfl
  | 19, _ => rfl
  | 20, _ => rfl
  | 21, _ => rfl
  | 22, _ => rfl
  | 23, _ => rfl
  | 24, _ => rfl
  | 25, _ => rfl
  | 26, _ => rfl
  | 27, _ => rfl
  | 28, _ => rfl
  | 29, _ => rfl
  | 30, _ => rfl
  | 31, _ => rfl
  | n + 32, h => absurd h (by omega)
theorem out_val (st : Sha.St) (i : Nat) (hi : i < 32) : Value.int .u8 (((st.toList.getD (i / 4) 0#32).toNat : Int) / 2 ^ (24 - 8 * (i % 4)) % 256) = bv ((Sha.out st).getD i 0) := by
  rw [Sha.out_at st i hi, bv_ofNat _ (by omega), Nat.shiftRight_eq_div_pow]
  simp
theorem len8_snoc (N i : Nat) (hi : i < 8) : (Sha.len8 N).take (i + 1) = (Sha.len8 N).take i ++ [UInt8.ofNat (N >>> (56 - 8 * i) % 256)] := by
  have hl : i < (Sha.len8 N).length := by simp [Sha.len8]; omega
  rw [List.take_succ_eq_append_getElem hl]
  simp [Sha.len8]
theorem len8_val (n i : Nat) : Value.int .u8 (8 * (n : Int) / 2 ^ (56 - 8 * i) % 256) = bv (UInt8.ofNat ((8 * n) >>> (56 - 8 * i) % 256)) := by
  rw [bv_ofNat _ (by omega), Nat.shiftRight_eq_div_pow]
  simp
theorem own_new (w : World) (u : Value) (e : TypeId) (base : Nat) (hb : base ≤ w.heap.size) : (w.alloc (.cells #[u] e)).ownsRow base e 1 (.slice (some ⟨w.heap.size, 0, none⟩) 1 1) 1 [u] :=
  ⟨rfl, .inr ⟨w.heap.size, 1, #[u], rfl, hb, heap_alloc_new w _, Nat.le_refl _, by decide, rfl, rfl⟩⟩
set_option maxHeartbeats 2000000 in
set_option maxRecDepth 100000 in
theorem hash_StreamSum (v : Value) (m : List UInt8) (w : World) (hv : Sha.IsStream v m) (hs : m.length ≤ 100000000000000) (hC : Consts w) :
    Calls Tryd.prog 46 #[v] w fun e w' => e = .returned (.agg (arr 32 (fun i => bv ((Sha.sha m).getD i 0)))) ∧ Below w.heap.size w w' := by
  obtain ⟨blk, rfl, hbl, hbt⟩ := id hv
  have HV := Lib.hid hv
  clear hv hbt
  have hst0 := row_alloc w 84 73 (Sha.strF (Sha.feed (m.length / 64) Sha.init m) blk m.length)
  have hcell := hst0.cell (i := 72) (by omega)
  replace hcell : (w.alloc (.cells (arr 73 (Sha.strF (Sha.feed (m.length / 64) Sha.init m) blk m.length)) 84)).cell? ⟨w.heap.size, 72, none⟩ = some (.int .u64 (m.length : Int)) := hcell
  have hout0 := row_new (w.alloc (.cells (arr 73 (Sha.strF (Sha.feed (m.length / 64) Sha.init m) blk m.length)) 84)) (List.replicate 32 (bv 0)).toArray 87 32 (fun _ => bv 0) rfl (fun i hi => rep_at 32 i _ hi)
  have hz0 : (w.alloc (.cells (arr 73 (Sha.strF (Sha.feed (m.length / 64) Sha.init m) blk m.length)) 84)).heap.size = w.heap.size + 1 := by simp
  rw [hz0] at hout0
  have hst1 := hst0.alloc (.cells (List.replicate 32 (bv 0)).toArray 87)
  have hca : ∀ o, ((w.alloc (.cells (arr 73 (Sha.strF (Sha.feed (m.length / 64) Sha.init m) blk m.length)) 84)).alloc o).cell? ⟨w.heap.size, 72, none⟩ = some (.int .u64 (m.length : Int)) := fun o => by
    rw [World.cell?_alloc_lt _ _ _ (by simp)]; exact hcell
  go_enter Tryd.func46, Tryd.ntmps46
  go_wp2_with fail
  generalize hstt : Sha.feed (m.length / 64) Sha.init m = st at *
  have HSTT := Lib.hid hstt
  clear hstt
  generalize hn : m.length = n at *
  have HN := Lib.hid hn
  clear hcell hca hz0 hst0 hn
  have hz2 : ((w.alloc (.cells (arr 73 (Sha.strF st blk n)) 84)).alloc (.cells (List.replicate 32 (bv 0)).toArray 87)).heap.size = w.heap.size + 2 := by simp
  have hown0 := own_new ((w.alloc (.cells (arr 73 (Sha.strF st blk n)) 84)).alloc (.cells (List.replicate 32 (bv 0)).toArray 87)) (bv 128) 5 (w.heap.size + 2) (by omega)
  rw [hz2] at hown0
  go_loopw [4] (fun u4 wr => ∃ j : Nat, j ≤ Sha.zeros n ∧ wr.rowIs w.heap.size 84 73 (Sha.strF st blk n) ∧ wr.rowIs (w.heap.size + 1) 87 32 (fun _ => bv 0) ∧ wr.ownsRow (w.heap.size + 2) 5 1 u4 (j + 1) ((128 :: List.replicate j 0).map bv) ∧ Below w.heap.size w wr)
    (fun u4 _ => match u4 with | .slice _ len _ => 65 - len | _ => 0)
  case atStart => exact ⟨0, Nat.zero_le _, hst1.alloc _, hout0.alloc _, hown0, (((Below.refl _ _).alloc (Nat.le_refl _) _).alloc (by simp) _).alloc (by simp; omega) _⟩
  case round =>
    clear hown0 hz2 hst1 hout0
    obtain ⟨j, hj, hst, hout, hown, hB⟩ := hrel
    have hzl := Sha.zeros_lt n
    have hzt := Sha.zeros_test n j hj
    have hcell := hst.cell (i := 72) (by omega)
    replace hcell : wr.cell? ⟨w.heap.size, 72, none⟩ = some (.int .u64 (n : Int)) := hcell
    have hzs := hB.size
    have hz2 : w.heap.size + 2 ≤ wr.heap.size := hout.lt
    obtain ⟨g, cap, rfl, _, _⟩ := hown.form (by omega)
    by_cases hjz : j = Sha.zeros n
    · have ht : (((n : Int) + ((j : Int) + 1)) % 64 != 56) = false := by
        have := hzt.2 hjz
        rw [bne_eq_false_iff_eq]; omega
      clear hzt
      subst hjz
      generalize hz : Sha.zeros n = z at *
      have HZ := Lib.hid hz
      clear hz
      go_wp2_with fail
      have hown1 : wr.ownsRow (w.heap.size + 2) 5 1 (.slice (some ⟨g, 0, none⟩) (z + 1) cap) (z + 1 + 0) ((128 :: List.replicate z 0 ++ (Sha.len8 (8 * n)).take 0).map bv) := by simpa using hown
      obtain ⟨wo, rfl⟩ : ∃ wo : World, wo = wr := ⟨_, rfl⟩
      go_loopw [4, 23] (fun u4 u23 wi => ∃ i : Nat, i ≤ 8 ∧ u23 = .int .i64 i ∧ wi.rowIs w.heap.size 84 73 (Sha.strF st blk n) ∧ wi.rowIs (w.heap.size + 1) 87 32 (fun _ => bv 0) ∧ wi.ownsRow (w.heap.size + 2) 5 1 u4 (z + 1 + i) ((128 :: List.replicate z 0 ++ (Sha.len8 (8 * n)).take i).map bv) ∧ Below w.heap.size w wi)
        (fun _ u23 _ => 8 - (intOf u23).toNat)
      case atStart => exact ⟨0, by omega, rfl, hst, hout, hown1, hB⟩
      case round =>
        clear hown1 hown hst hout hB hcell
        obtain ⟨i, hi, rfl, hst, hout, hown, hB⟩ := hrel
        have hz2 : w.heap.size + 2 ≤ wr.heap.size := hout.lt
        by_cases hi8 : i < 8
        · go_wp2_with (at_builtin; refine wpList_append_one _ rfl _ _ _ rfl elBytes (w.heap.size + 2) _ _ _ rfl hown _ rfl rfl (by omega) (by omega) hz2 wr (w.heap.size + 2) (Below.refl _ _) (Nat.le_refl _) ?_)
          intro v' w' hown' hb'
          have hst' := row_below hst hb' (by omega)
          have hout' := row_below hout hb' (by omega)
          have hB' := hB.trans (hb'.mono (by omega))
          have hown2 : w'.ownsRow (w.heap.size + 2) 5 1 v' (z + 1 + (i + 1)) ((128 :: List.replicate z 0 ++ (Sha.len8 (8 * n)).take (i + 1)).map bv) := by
            rw [len8_val] at hown'
            have e : (128 :: List.replicate z 0 ++ (Sha.len8 (8 * n)).take (i + 1)).map bv = bv 128 :: (List.replicate z (bv 0) ++ (List.take i (List.map bv (Sha.len8 (8 * n))) ++ [bv (UInt8.ofNat ((8 * n) >>> (56 - 8 * i) % 256))])) := by
              rw [len8_snoc _ _ hi8]; simp [List.map_take]
            rw [e]; exact hown'
          clear hown hown' hst hout hB hb'
          go_wp2_with fail
          go_roundw
          case rel => exact ⟨i + 1, by omega, by go_num, hst', hout', hown2, hB'⟩
          case measure => go_light; simp [intOf]; omega
        · obtain rfl : i = 8 := by omega
          have hpl : 128 :: List.replicate z 0 ++ (Sha.len8 (8 * n)).take 8 = 128 :: (List.replicate (Sha.zeros m.length) 0 ++ Sha.len8 (8 * m.length % 18446744073709551616)) := by
            rw [HN.out, HZ.out, Nat.mod_eq_of_lt (by omega), List.take_of_length_le (by simp [Sha.len8])]; rfl
          rw [hpl] at hown
          have hlen : z + 1 + 8 = (128 :: (List.replicate (Sha.zeros m.length) 0 ++ Sha.len8 (8 * m.length % 18446744073709551616))).length := by
            have := hown.1; rw [List.length_map] at this; omega
          rw [hlen] at hown
          have HLP : Hid (m ++ 128 :: (List.replicate (Sha.zeros m.length) 0 ++ Sha.len8 (8 * m.length % 18446744073709551616)) = Sha.pad m) := rfl
          have hlt : (128 :: (List.replicate (Sha.zeros m.length) 0 ++ Sha.len8 (8 * m.length % 18446744073709551616))).length < 100 := by omega
          clear hpl hlen
          generalize 128 :: (List.replicate (Sha.zeros m.length) 0 ++ Sha.len8 (8 * m.length % 18446744073709551616)) = P at *
          have hsl := Sl.of_own hown
          go_wp2_with (first | (with_reducible refine wpList_load_arr (o := ⟨some 36, _, _, _, _, _⟩) rfl _ _ rfl hst rfl aggStr ?_) | (refine wpList_bytes_string (o := ⟨some 38, _, _, _, _, _⟩) rfl _ _ _ _ rfl Tryd.underlying24 Tryd.underlying5 Tryd.underlying9 rfl P hsl ?_))
          refine (hash_StreamAdd _ m ⟨P.toArray⟩ _ HV.out (by rw [HN.out]; show n + P.toArray.size ≤ _; simp; omega) (hC.below hB)).mono ?_
          rintro e w5 ⟨v5, rfl, hv5, hb5⟩
          obtain ⟨blk5, rfl, hbl5, hbt5⟩ := hv5
          have eP : (⟨P.toArray⟩ : ByteArray).data.toList = P := by simp
          have hsha : Sha.sha m = Sha.out (Sha.feed ((Sha.pad m).length / 64) Sha.init (Sha.pad m)) := rfl
          rw [eP, HLP.out]
          clear hbt5 eP hlt hsl hown
          generalize Sha.feed ((Sha.pad m).length / 64) Sha.init (Sha.pad m) = sf at *
          generalize (Sha.pad m).length = N at *
          have HSHA := Lib.hid hsha
          clear hsha
          have hst5 := rowIs_below' hst hb5
          have hout5 := rowIs_below' hout hb5
          have hB5 := bl_on hB hb5
          have hz5 : w.heap.size + 2 ≤ w5.heap.size := Nat.le_trans hz2 hb5.size
          clear hst hout hB hb5 hz2
          go_wp2_with (refine wpList_store_arr (o := ⟨none, _, _, _, _, _⟩) rfl _ _ _ rfl hst5 rfl rfl aggStr (fun i _ => Sha.strF_one _ _ _ i) ?_; intro hst6)
          have hout6 := row_setRow_other hout5 (show w.heap.size + 1 ≠ w.heap.size by omega) (arr 73 (Sha.strF sf blk5 N))
          have hB6 := below_setRow' hB5 (Nat.le_refl _) (arr 73 (Sha.strF sf blk5 N))
          have hz6 : (w5.setRow w.heap.size (arr 73 (Sha.strF sf blk5 N))).heap.size = w5.heap.size := size_setRow _ _ _
          have hnew := row_new (w5.setRow w.heap.size (arr 73 (Sha.strF sf blk5 N))) (List.replicate 32 (bv 0)).toArray 87 32 (fun j => if j < 0 then bv ((Sha.out sf).getD j 0) else bv 0) rfl (fun i hi => by rw [rep_at 32 i _ hi, if_neg (by omega)])
          rw [hz6] at hnew
          have hst7 := hst6.alloc (.cells (List.replicate 32 (bv 0)).toArray 87)
          have hout7 := hout6.alloc (.cells (List.replicate 32 (bv 0)).toArray 87)
          have hB7 := hB6.alloc (show w.heap.size ≤ (w5.setRow w.heap.size (arr 73 (Sha.strF sf blk5 N))).heap.size by rw [hz6]; omega) (.cells (List.replicate 32 (bv 0)).toArray 87)
          go_loopw [40] (fun u40 wi => ∃ i : Nat, i ≤ 32 ∧ u40 = .int .i64 i ∧ wi.rowIs w.heap.size 84 73 (Sha.strF sf blk5 N) ∧ wi.rowIs (w.heap.size + 1) 87 32 (fun _ => bv 0) ∧
            wi.rowIs w5.heap.size 87 32 (fun j => if j < i then bv ((Sha.out sf).getD j 0) else bv 0) ∧ Below w.heap.size w wi) (fun u40 _ => 32 - (intOf u40).toNat)
          case atStart => exact ⟨0, by omega, rfl, hst7, hout7, hnew, hB7⟩
          case round =>
            clear hst5 hout5 hB5 hst6 hout6 hB6 hz6 hnew hst7 hout7 hB7
            obtain ⟨i, hi, rfl, hst, hout, hnew, hB⟩ := hrel
            by_cases hi32 : i < 32
            · have hc1 := hst.cell (i := i / 4) (by omega)
              have e1 : Sha.strF sf blk5 N (i / 4) = wv (sf.toList.getD (i / 4) 0#32) := by unfold Sha.strF; rw [if_pos (by omega)]; rfl
              rw [e1] at hc1
              have hc2 := hnew.cell (i := i) hi32
              rw [if_neg (by omega)] at hc2
              have hfr := hnew.frozen i
              have hov := Lib.hid (out_val sf i hi32)
              clear e1
              generalize sf.toList.getD (i / 4) 0#32 = x at *
              have hx := x.isLt
              go_wp2_with fail
              rw [hov.out]
              go_roundw
              case rel =>
                refine ⟨i + 1, by omega, by go_num, hst.setOther (show w.heap.size ≠ w5.heap.size by omega) _, hout.setOther (show w.heap.size + 1 ≠ w5.heap.size by omega) _, (hnew.set i _).congr (fun j _ => ?_), hB.setCell (show w.heap.size ≤ w5.heap.size by omega) _⟩
                by_cases hji : j = i
                · subst hji; rw [if_pos rfl, if_pos (by omega)]
                · rw [if_neg hji]
                  by_cases h2 : j < i
                  · rw [if_pos h2, if_pos (by omega)]
                  · rw [if_neg h2, if_neg (by omega)]
              case measure => go_light; simp [intOf]; omega
            · obtain rfl : i = 32 := by omega
              have hn2 : wr.rowIs w5.heap.size 87 32 (fun j => bv ((Sha.sha m).getD j 0)) := hnew.congr (fun j hj => by rw [if_pos hj, HSHA.out])
              go_wp2_with (first | (with_reducible refine wpList_load_arr (o := ⟨some 57, _, _, _, _, _⟩) rfl _ _ rfl hn2 rfl aggSum ?_) | (refine wpList_store_arr (o := ⟨none, _, _, _, _, _⟩) rfl _ _ _ rfl hout rfl rfl aggSum (fun _ _ => rfl) ?_; intro hr2))
              exact bodyPost_arr (p := 2) (by rfl) hr2 (by rfl) aggSum (by rfl) ⟨rfl, below_setRow' hB (by omega) _⟩
    · have ht : (((n : Int) + ((j : Int) + 1)) % 64 != 56) = true := by
        have := fun h => hjz (hzt.1 h)
        rw [bne_iff_ne]; intro h; exact this (by omega)
      clear hzt
      go_wp2_with (at_builtin; refine wpList_append_one _ rfl _ _ _ rfl elBytes (w.heap.size + 2) _ _ _ rfl hown _ rfl rfl (by omega) (by omega) hz2 wr (w.heap.size + 2) (Below.refl _ _) (Nat.le_refl _) ?_)
      intro v' w' hown' hb'
      obtain ⟨g', cap', rfl, _, _⟩ := hown'.form (by omega)
      have hst' := row_below hst hb' (by omega)
      have hout' := row_below hout hb' (by omega)
      have hB' := hB.trans (hb'.mono (by omega))
      have hown2 : w'.ownsRow (w.heap.size + 2) 5 1 (.slice (some ⟨g', 0, none⟩) (j + 1 + 1) cap') (j + 1 + 1) ((128 :: List.replicate (j + 1) 0).map bv) := by
        have e : (128 :: List.replicate (j + 1) (0 : UInt8)).map bv = bv 128 :: (List.replicate j (bv 0) ++ [Value.int .u8 0]) := by
          rw [List.replicate_succ']; simp [bv]
        rw [e]; exact hown'
      clear hown hown' hst hout hB hb' hcell
      go_wp2_with fail
      go_roundw
      case rel => exact ⟨j + 1, by omega, hst', hout', hown2, hB'⟩
      case measure => go_light; simp; omega
theorem ba_sz (l : List UInt8) : (⟨l.toArray⟩ : ByteArray).size = l.length := rfl
def shaVal (l : List UInt8) : Value := .agg (arr 32 (fun i => bv ((Sha.sha l).getD i 0)))
set_option maxHeartbeats 400000 in
set_option maxRecDepth 100000 in
theorem ref_Int (n : Int) (w : World) (h1 : -9223372036854775808 ≤ n) (h2 : n ≤ 9223372036854775807) :
    Calls Tryd.prog 25 #[.int .i64 n] w (Made (encInt n) w) := by
  by_cases hn : n < 0
  all_goals
    go_enter Tryd.func25, Tryd.ntmps25
    go_wp2
    go_loopw [3, 4] (EncRel n w) (fun u3 _ _ => (intOf u3).toNat)
    case atStart => exact ⟨zig n, [], by congr 1; unfold zig; split <;> omega, zig_lt n h1 h2, rfl, World.ownsRow_nil _ _ _ _, Below.refl _ _⟩
    case round =>
      obtain ⟨z, l, rfl, hz, hl, hown, hb⟩ := hrel
      have hsh := enc_short n h1 h2 hl
      have H := Lib.hid hl
      clear hl hn
      by_cases hlt : z < 128
      · go_wp2_with (at_builtin; refine wpList_append_one _ rfl _ _ _ rfl elBytes w.heap.size _ _ _ rfl hown _ rfl rfl (by omega) (by omega) hb.size w w.heap.size hb (Nat.le_refl _) ?_)
        intro v' w' hown' hb'
        go_wp2
        go_ret
        refine ⟨v', rfl, ?_, hb'⟩
        have := own_snoc (u := UInt8.ofNat z) (by rw [bv_ofNat z (by omega)]) hown'
        rw [← enc_last hlt n H.out]
        exact this
      · go_wp2_with (at_builtin; refine wpList_append_one _ rfl _ _ _ rfl elBytes w.heap.size _ _ _ rfl hown _ rfl rfl (by omega) (by omega) hb.size w w.heap.size hb (Nat.le_refl _) ?_)
        intro v' w' hown' hb'
        have hown2 := own_snoc (u := UInt8.ofNat (z % 128 + 128)) (by rw [bv_ofNat _ (by omega)]; go_num) hown'
        clear hown' hown
        go_wp2
        go_roundw
        case rel => exact ⟨z / 128, _, by go_num, by omega, enc_step hlt n H.out, hown2, hb'⟩
        case measure => simp [intOf]; omega
set_option maxHeartbeats 400000 in
theorem wire_Bytes (s : ByteArray) (w : World) (hs : s.size ≤ 140737488355000) :
    Calls Tryd.prog 22 #[.string s] w (Made (encBytes s) w) := by
  go_enter Tryd.func22, Tryd.ntmps22
  go_wp2_with fail
  refine (wire_Int _ _ (by omega) (by omega)).mono ?_
  rintro e w1 ⟨v, rfl, hown, hb⟩
  have hlen := enc_length_10 _ (zig_lt (s.size : Int) (by omega) (by omega))
  have hlen' : (encInt (s.size : Int)).length ≤ 10 := hlen
  clear hlen
  go_wp2_with (at_builtin; refine wpList_append_str _ rfl _ _ _ _ rfl Tryd.underlying9 elBytes w.heap.size _ _ _ rfl hown _ rfl (by omega) hb.size w w.heap.size hb (Nat.le_refl _) ?_)
  intro v' w' hown' hb'
  go_wp2
  go_ret
  refine ⟨v', rfl, ?_, hb'⟩
  rw [strCells_bv] at hown'
  simpa [encBytes] using hown'
set_option maxHeartbeats 400000 in
theorem ref_Bytes (s : ByteArray) (w : World) (hs : s.size ≤ 140737488355000) :
    Calls Tryd.prog 26 #[.string s] w (Made (encBytes s) w) := by
  go_enter Tryd.func26, Tryd.ntmps26
  go_wp2_with fail
  refine (ref_Int _ _ (by omega) (by omega)).mono ?_
  rintro e w1 ⟨v, rfl, hown, hb⟩
  have hlen := enc_length_10 _ (zig_lt (s.size : Int) (by omega) (by omega))
  have hlen' : (encInt (s.size : Int)).length ≤ 10 := hlen
  clear hlen
  go_wp2_with (at_builtin; refine wpList_append_str _ rfl _ _ _ _ rfl Tryd.underlying9 elBytes w.heap.size _ _ _ rfl hown _ rfl (by omega) hb.size w w.heap.size hb (Nat.le_refl _) ?_)
  intro v' w' hown' hb'
  go_wp2
  go_ret
  refine ⟨v', rfl, ?_, hb'⟩
  rw [strCells_bv] at hown'
  simpa [encBytes] using hown'
end Go.Proofs.YtakbadleipbngaaDoor
