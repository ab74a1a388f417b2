/-
  LinkFramesAreCoded: for every frame and all bytes, Encode and Decode return what the specification defines, and Decode of what Encode returned is the frame. Conditions: the package-level tables hold what the program's text lays (the card ties them).
-/
import Derived.Test.YtakbadleipbngaaDoorP6
import Derived.Test.YtakbadleipbngaaDoorCards
import Derived.Test.YtakbadleipbngaaDoorTie
import Derived.Deep.DeepHandedRow
import Derived.Lib.LaidTab
import Derived.Stop.LaidErr
import Derived.MakeChecks
set_option linter.all false
set_option maxRecDepth 100000
namespace Go.Proofs.YtakbadleipbngaaDoor
open Go.RowKit
section
open Go.ChangeShapes Go.WideShapes Go.ChangeAt Go.RowKit Go.ChangeMaps
def W_Frame (x : S_Frame) : Prop := (Wi .i64 x.vSeq) ∧ (Wi .i64 x.vAck) ∧ (x.vData.size ≤ maxLen)
theorem rd_Frame : Rd tbl 23 2 c_Frame W_Frame := by
  intro k xs h
  obtain ⟨i, hi, hl, h⟩ := h
  rw [tb_23] at hi; cases hi
  obtain ⟨j0, e0, l0, f0, j1, e1, l1, f1, j2, e2, l2, f2, h⟩ := h
  rw [tb_3] at e0; cases e0
  obtain ⟨a0, h0, w0⟩ := (rd_I tb_3 rfl) _ _ f0
  rw [tb_3] at e1; cases e1
  obtain ⟨a1, h1, w1⟩ := (rd_I tb_3 rfl) _ _ f1
  rw [tb_9] at e2; cases e2
  obtain ⟨a2, h2, w2⟩ := (rd_S tb_9 rfl) _ _ f2
  refine ⟨⟨a0, a1, a2⟩, (take_parts h0 (take_parts h1 (take_parts h2 h))).trans ?_, ⟨w0, w1, w2⟩⟩
  first | rfl | (simp [c_Frame]; done) | (simp [c_Frame]; rfl)
namespace linkFrames
theorem own : ownKnob Tryd.prog.godebug = none := by kernel_rfl
theorem laid : laidOutB Tryd.prog = true := by kernel_rfl
def ksI : List Int := tabK.map fun k : Nat => (k : Int)
theorem ksI_at {i : Nat} {v : Value} (h : (tabK.map fun k : Nat => Value.int .u32 (k : Int))[i]? = some v) : i < ksI.length ∧ v = .int .u32 (ksI.getD i 0) := by
  rw [List.getElem?_map] at h
  cases hk : tabK[i]? with
  | none => rw [hk] at h; cases h
  | some k =>
    rw [hk] at h; cases h
    refine ⟨by unfold ksI; rw [List.length_map]; exact (List.getElem?_eq_some_iff.1 hk).1, ?_⟩
    unfold ksI
    rw [List.getD_eq_getElem?_getD, List.getElem?_map, hk]; rfl
theorem tab_in {W : World} {nm : String} {g : Nat} (hg : Tryd.prog.globalNamed nm = some g) (h : Lib.TabIs Tryd.prog W nm .u32 ksI) : g < W.heap.size ∧ ∀ (i : Nat) (v : Value), (tabK.map fun k : Nat => Value.int .u32 (k : Int))[i]? = some v → W.cell? ⟨g, i, none⟩ = some v :=
  ⟨World.block_lt_of_cell? W _ (h.cell hg 0 (by decide)), fun i v hv => by obtain ⟨h1, rfl⟩ := ksI_at hv; exact h.cell hg i h1⟩
theorem tabs {W : World} (h : laidMetH Tryd.prog Rows.linkFramesAreCodedRow.laid W) : TT W.heap.size W := by
  have h : laidMet Tryd.prog Rows.linkFramesAreCodedRow.laid W := h
  have h1 : Lib.TabIs Tryd.prog W "skewback/skewbackref02.constants" .u32 ksI := Lib.tabIs_of_head (P := Tryd.prog) (zs := ksI) (g := 1) (t := 97) (by kernel_rfl) (by kernel_rfl) Tryd.underlying97 Tryd.underlying80 (by kernel_rfl) (by kernel_rfl) h
  have h2 : Lib.TabIs Tryd.prog W "skewback/hash.constants" .u32 ksI := Lib.tabIs_of_head (P := Tryd.prog) (zs := ksI) (g := 0) (t := 97) (by kernel_rfl) (by kernel_rfl) Tryd.underlying97 Tryd.underlying80 (by kernel_rfl) (by kernel_rfl) h.tail
  intro p hp
  have hp : p ∈ [(0, tabK.map fun k : Nat => Value.int .u32 (k : Int)), (1, tabK.map fun k : Nat => Value.int .u32 (k : Int))] := hp
  rcases List.mem_cons.1 hp with rfl | hp
  · exact tab_in (by kernel_rfl) h2
  · rcases List.mem_cons.1 hp with rfl | hp
    · exact tab_in (by kernel_rfl) h1
    · cases hp
def setTab (h : Array Obj) (g : Nat) (cs : Array Value) : Array Obj := h.modify g fun
  | .cells _ t frozen => .cells cs t frozen
  | o => o
noncomputable def laidWorld (os : Os) : World :=
  { World.holding Tryd.prog os ⟨#[], #[], []⟩ with heap := setTab (setTab (World.holding Tryd.prog os ⟨#[], #[], []⟩).heap (0) (ksI.map fun z => Value.int .u32 z).toArray) (1) (ksI.map fun z => Value.int .u32 z).toArray }
set_option maxRecDepth 100000 in
theorem contract (H : Type) (enc : TypeId × Value → H) (W : World) (args : Array Value) (ds gs : List (DataW H)) (before : List MemPlace)
    (hval : ∀ (j : Nat) t v, Tryd.f3.params[j]? = some t → args[j]? = some v → Value.okWide Tryd.prog W .any 0 t v ∨ ∃ base, Value.okWide Tryd.prog W .any base t v)
    (hW : DataW.Whole enc Tryd.prog Tryd.f3.params.toList Rows.linkFramesAreCodedSpec.vars false W args.toList ds gs before) (hL : laidMetH Tryd.prog Rows.linkFramesAreCodedRow.laid W) :
    Calls Tryd.prog 3 args W fun e W' => ∃ v, e = .returned v ∧ Rows.linkFramesAreCodedSpec.post enc Tryd.prog Tryd.f3 false true false false W args v W' := by
  have hT := tabs hL
  have hW' := hW
  obtain ⟨p, q, hA0, hV, rfl, hfz, hnd⟩ := hW
  have hA : DataW.TrodAll enc Tryd.prog W 0 (fun _ => true) true Tryd.f3.params.toList args.toList ds p := hA0
  rw [Tryd.params3] at hA hval
  obtain ⟨v0, vs0, d0, ds0, p0, q0, hargs, rfl, rfl, h0, r0⟩ := trodAll_cons hA
  obtain ⟨v1, vs1, d1, ds1, p1, q1, rfl, rfl, rfl, h1, r1⟩ := trodAll_cons r0
  obtain ⟨rfl, rfl, rfl⟩ := trodAll_nil r1
  obtain rfl : args = #[v0, v1] := by cases args; simp_all
  obtain ⟨rfl, rfl⟩ := trodVars_none hV
  obtain ⟨a0, b0, w0⟩ := arg_of (k := 0) (t := 23) tok (by kernel_rfl) tb_23 (rd_Frame) (Classical.choose_spec (hv_of hval 0 rfl rfl)) h0
  obtain ⟨a1, b1, w1⟩ := arg_of (k := 0) (t := 24) tok (by kernel_rfl) tb_24 (rd_L tb_24 tb_5 (rd_I tb_5 rfl)) (Classical.choose_spec (hv_of hval 1 rfl rfl)) h1
  refine (says_of (w_law42_LinkFramesAreCoded (G_frames a0 a1 fun n hn => w1.2 n hn)) rfl (fun j d u hd hu => ?_) hT).mono fun e W' hs => ?_
  · match j, hd, hu with
    | 0, hd, hu => cases hd; cases hu; exact b0
    | 1, hd, hu => cases hd; cases hu; exact b1
  · obtain ⟨rfl, hb⟩ := hs
    exact ⟨_, rfl, law_post laid rfl (by kernel_rfl) (by kernel_rfl) Tryd.underlying4 hW' rfl hb⟩
theorem laid_met (os : Os) : laidMet Tryd.prog Rows.linkFramesAreCodedRow.laid ((laidWorld os).forCall (fun _ _ => 0) ⟨#[], #[.agg #[.int .i64 0, .int .i64 0, .string ⟨#[]⟩], .slice none 0 0], []⟩).memory :=
  laidMet_of_run' 8 (by kernel_rfl) (by kernel_rfl)
theorem reads (os : Os) {H : Type} (enc : TypeId × Value → H) : ∃ places, DataW.whole enc Tryd.prog ((laidWorld os).forCall (fun _ _ => 0) ⟨#[], #[.agg #[.int .i64 0, .int .i64 0, .string ⟨#[]⟩], .slice none 0 0], []⟩).memory Tryd.f3.params.toList Rows.linkFramesAreCodedSpec.vars false (#[.agg #[.int .i64 0, .int .i64 0, .string ⟨#[]⟩], .slice none 0 0] : Array Value).toList 8 = some ([.agg [.lit (.int .i64 0), .lit (.int .i64 0), .lit (.string [])], .nil], [], places) :=
  ⟨[], by kernel_rfl⟩
set_option maxRecDepth 100000 in
theorem lifted (os : Os) (started : os.Started) (H : Type) (enc : TypeId × Value → H) (F : Stop.Interp) :
    ReturnsInHanded {} Tryd.checked os 3 .any ((OpenSpec.ofChange Rows.linkFramesAreCodedSpec).preRow enc Tryd.prog Tryd.f3 Rows.linkFramesAreCodedRow.domain false Rows.linkFramesAreCodedRow.laid) (((OpenSpec.ofChange Rows.linkFramesAreCodedSpec).at F).post enc Tryd.prog Tryd.f3 false true false false) := by
  obtain ⟨places, hx⟩ := reads os enc
  refine returnsInHanded_of_row (C := Tryd.checked) (s := OpenSpec.ofChange Rows.linkFramesAreCodedSpec) own started (by kernel_rfl) Tryd.func3
    (witness_row_at (enc := enc) (C := Tryd.checked) false (laidWorld os) #[.agg #[.int .i64 0, .int .i64 0, .string ⟨#[]⟩], .slice none 0 0] rfl (by kernel_rfl) (by kernel_rfl) (by kernel_rfl)
      (OpenSpec.preRow_of_cond 8 hx (by kernel_rfl) (fun k hk => by cases hk) (by kernel_rfl) (laid_met os))) ?_
  intro W base args ds gs before hval hW _ _ _ hL _ _
  exact contract H enc W args ds gs before (fun j t v h1 h2 => .inr ⟨base, hval j t v h1 h2⟩) hW hL
theorem said : Rows.LinkFramesAreCodedSaid :=
  OpenClaim.holds_of_cond 3 Tryd.f3 rfl rfl rfl rfl rfl rfl rfl ⟨rfl, rfl, rfl, rfl, rfl⟩ rfl rfl rfl rfl rfl (by kernel_rfl) Tryd.func3 (by kernel_rfl)
    (of_decide_eq_true (by kernel_rfl)) (by unfold Func.isWrapper; first | (rw [if_pos (by decide +kernel)]; kernel_rfl) | (rw [if_neg (by decide +kernel)]; exact ⟨rfl, rfl⟩))
    (fun os started H enc _ F => by rw [OpenClaim.pre_eq_preRow]; exact lifted os started H enc F)
theorem plain (f : FuncId) (fn : Func) (hf : Tryd.pinned.checked.prog.funcNamed "skewback/skewbacklaw42.LinkFramesAreCoded" = some f) (hfn : Tryd.pinned.checked.prog.funcs[f]? = some fn) :
    false = Tryd.pinned.checked.prog.looks [] ∧ ∀ (j : Nat) t, fn.params[j]? = some t → Tryd.pinned.checked.prog.wantsStandIn t = false := by
  obtain rfl : f = 3 := Option.some.inj ((show Tryd.prog.funcNamed "skewback/skewbacklaw42.LinkFramesAreCoded" = some 3 by kernel_rfl).symm.trans hf) |>.symm
  obtain rfl : fn = Tryd.f3 := (Option.some.inj (Tryd.func3.symm.trans hfn)).symm
  refine ⟨by kernel_rfl, fun j t ht => ?_⟩
  rw [Tryd.params3] at ht
  have hall : ∀ t ∈ [23, 24], Tryd.prog.wantsStandIn t = false := by
    intro t ht
    simp only [List.mem_cons, List.not_mem_nil, or_false] at ht
    rcases ht with rfl | rfl
    all_goals kernel_rfl
  exact hall t (by simpa using Array.mem_of_getElem? ht)
theorem proved : Rows.LinkFramesAreCodedCardSaid :=
  Claim7.holds_tied_plain_at .later [] _ _ _ _ said (fun _ h => by cases h) (by kernel_rfl) (fun _ h => by cases h) linkFramesAreCoded_row_tie rfl ⟨rfl, rfl⟩ (by kernel_rfl) rfl plain (by kernel_rfl)
end linkFrames
#print axioms linkFrames.proved
end
end Go.Proofs.YtakbadleipbngaaDoor
