/-
  From arguments that read as data to data of the abstract layer; from a contract of the layer to a law's row. Conditions: none.
-/
import Derived.Test.YtakbadleipbngaaLift
import Derived.Test.YtakbadleipbngaaAbF
set_option linter.all false
namespace Go.Proofs.Ytakbadleipbngaa
open Go.ChangeShapes Go.WideShapes Go.ChangeAt Go.RowKit Go.Deep
/-- The cells of a struct, field by field. -/
def wtFs (tb : TypeId → Option TyE) (f : TypeId → List E → Prop) : List (Nat × TypeId) → List E → Prop
  | [], xs => xs = []
  | (_, t) :: fs, xs => ∃ j, tb t = some j ∧ j.size ≤ xs.length ∧ f t (xs.take j.size) ∧ wtFs tb f fs (xs.drop j.size)
/-- Data of a type. -/
def wtE (tb : TypeId → Option TyE) : Nat → TypeId → List E → Prop
  | 0, _, _ => False
  | k + 1, t, xs => ∃ i, tb t = some i ∧ xs.length = i.size ∧ match i.ty with
    | .int kd => ∃ n, xs = [.lit (.int kd n)] ∧ (Lit.int kd n).wf = true
    | .bool => ∃ b, xs = [.lit (.bool b)]
    | .str => ∃ s : ByteArray, xs = [.lit (.string s)] ∧ s.size ≤ maxLen
    | .slice e => ∃ j n ys, tb e = some j ∧ xs = [.sl j.size n ys] ∧ ys.length = n * j.size ∧ n ≤ maxLen ∧ ∀ i, i < n → wtE tb k e ((ys.drop (i * j.size)).take j.size)
    | .struct fs => wtFs tb (wtE tb k) fs xs
    | .arr n e => ∃ j, tb e = some j ∧ xs.length = n * j.size ∧ ∀ i, i < n → wtE tb k e ((xs.drop (i * j.size)).take j.size)
    | _ => False
/-- Types that are data through and through, laid out without gaps. -/
def tileFs (tb : TypeId → Option TyE) (f : TypeId → Bool) : List (Nat × TypeId) → Nat → Nat → Bool
  | [], off, n => off == n
  | (o, t) :: fs, off, n => o == off && f t && match tb t with
    | some j => tileFs tb f fs (off + j.size) n
    | none => false
def okTy (tb : TypeId → Option TyE) : Nat → TypeId → Bool
  | 0, _ => false
  | k + 1, t => match tb t with
    | some i => match i.ty with
      | .int _ | .bool | .str => i.size == 1
      | .slice e => i.size == 1 && okTy tb k e && match tb e with
        | some j => decide (0 < j.size)
        | none => false
      | .struct fs => tileFs tb (okTy tb k) fs 0 i.size
      | .arr n e => okTy tb k e && match tb e with
        | some j => i.size == n * j.size
        | none => false
      | _ => false
    | none => false
section
variable {H : Type} {enc : TypeId × Value → H} {P : Program} {tb : TypeId → Option TyE} {W : World} {sp : Nat → Bool} {hd : Bool} {base : Nat}
theorem TOk.cells (tok : TOk P tb) {t : TypeId} {i : TyE} (h : tb t = some i) : P.cellsOf t = i.size := by
  obtain ⟨f, z, h1, h2, _⟩ := tok.inf h
  unfold Program.cellsOf
  rw [h1]
  exact h2
def F0 : Addr → Prop := fun _ => False
/-- Chunks laid end to end. -/
theorem chunks_ex {z : Nat} {us : List Value} {Good : List E → Prop} : ∀ (n : Nat), us.length = n * z → (∀ i, i < n → ∃ xs, Pw (RepE W F0) xs ((us.drop (i * z)).take z) ∧ Good xs) →
    ∃ ys, Pw (RepE W F0) ys us ∧ ys.length = n * z ∧ ∀ i, i < n → Good ((ys.drop (i * z)).take z)
  | 0, hl, _ => ⟨[], by rw [Nat.zero_mul] at hl; rw [List.eq_nil_of_length_eq_zero hl]; exact Pw.nil, by simp, fun i h => absurd h (Nat.not_lt_zero _)⟩
  | n + 1, hl, h => by
    rw [Nat.succ_mul] at hl
    have hlt : (us.take (n * z)).length = n * z := by rw [List.length_take]; omega
    obtain ⟨ys, h1, h2, h3⟩ := chunks_ex (us := us.take (n * z)) n hlt fun i hi => by
      obtain ⟨xs, g1, g2⟩ := h i (by omega)
      have hm : i * z + z ≤ n * z := by rw [← Nat.succ_mul]; exact Nat.mul_le_mul_right _ hi
      refine ⟨xs, ?_, g2⟩
      rw [List.drop_take, List.take_take, Nat.min_eq_left (by omega)]
      exact g1
    obtain ⟨xs, g1, g2⟩ := h n (by omega)
    have hx : xs.length = z := by rw [g1.1, List.length_take, List.length_drop]; omega
    refine ⟨ys ++ xs, ?_, by rw [List.length_append, h2, hx, Nat.succ_mul], fun i hi => ?_⟩
    · have e : us = us.take (n * z) ++ (us.drop (n * z)).take z := by
        rw [List.take_of_length_le (l := us.drop (n * z)) (by rw [List.length_drop]; omega), List.take_append_drop]
      rw [e]
      exact h1.append g1
    · rcases Nat.lt_or_ge i n with hin | hin
      · have hm : i * z + z ≤ n * z := by rw [← Nat.succ_mul]; exact Nat.mul_le_mul_right _ hin
        rw [List.drop_append_of_le_length (by omega), List.take_append_of_le_length (by rw [List.length_drop]; omega)]
        exact h3 i hin
      · obtain rfl : i = n := by omega
        rw [List.drop_append, h2, Nat.sub_self, List.drop_of_length_le (by omega)]
        simp only [List.drop_zero, List.nil_append]
        rw [List.take_of_length_le (by omega)]
        exact g2
theorem e_of_trod (tok : TOk P tb) : ∀ (k : Nat) (fuel : Nat) (t : TypeId) (cs : List Value) (x : DataW H × List MemPlace), okTy tb k t = true → DataW.trod enc P W base sp hd fuel t cs = some x → ∃ xs, Pw (RepE W F0) xs cs ∧ wtE tb k t xs
  | 0, _, _, _, _, h, _ => by cases h
  | k + 1, fuel, t, cs, x, hok, h => by
    unfold okTy at hok
    cases ht : tb t with
    | none => rw [ht] at hok; cases hok
    | some i =>
      rw [ht] at hok
      dsimp only at hok
      cases hty : i.ty with
      | int kd =>
        rw [hty] at hok
        have hz : i.size = 1 := by simpa using hok
        obtain ⟨n, rfl, _, hw⟩ := DataW.trod_int (tok.int ht hty) h
        exact ⟨[.lit (.int kd n)], Pw.cons (.lit _ rfl) Pw.nil, i, ht, by rw [hz]; rfl, by rw [hty]; exact ⟨n, rfl, hw⟩⟩
      | bool =>
        rw [hty] at hok
        have hz : i.size = 1 := by simpa using hok
        obtain ⟨dd, hd1, hd2⟩ := tok.und ht
        rw [hty] at hd2
        have hb : P.underlying t = some .bool := by cases dd <;> simp [Ty.of] at hd2; exact hd1
        obtain ⟨b, rfl, _⟩ := DataW.trod_bool hb h
        exact ⟨[.lit (.bool b)], Pw.cons (.lit _ rfl) Pw.nil, i, ht, by rw [hz]; rfl, by rw [hty]; exact ⟨b, rfl⟩⟩
      | str =>
        rw [hty] at hok
        have hz : i.size = 1 := by simpa using hok
        obtain ⟨s, rfl, _, hs⟩ := DataW.trod_string (tok.str ht hty) h
        exact ⟨[.lit (.string s)], Pw.cons (.lit _ rfl) Pw.nil, i, ht, by rw [hz]; rfl, by rw [hty]; exact ⟨s, rfl, hs⟩⟩
      | slice e =>
        rw [hty] at hok
        dsimp only at hok
        cases he : tb e with
        | none => rw [he] at hok; simp at hok
        | some j =>
          rw [he] at hok
          simp only [Bool.and_eq_true, beq_iff_eq, decide_eq_true_eq] at hok
          obtain ⟨⟨hz, hoe⟩, hjz⟩ := hok
          have hce := tok.cells he
          rcases open_slice (tok.slice ht hty) h with ⟨rfl, _⟩ | ⟨a, len, cap, m, n, D, Pl, rfl, hb, hlc, hcm, hm, _, hi⟩
          · exact ⟨[.sl j.size 0 []], Pw.cons (.sl _ 0 [] none 0 (fun _ => undef) (by simp) hjz (Nat.le_refl _) (Nat.zero_le _) (fun h => absurd h (Nat.lt_irrefl _)) (fun _ h => by cases h) (fun _ _ h => by simp at h)) Pw.nil,
              i, ht, by rw [hz]; rfl, by rw [hty]; exact ⟨j, 0, [], he, rfl, by simp, Nat.zero_le _, fun i h => absurd h (Nat.not_lt_zero _)⟩⟩
          · have hle : len ≤ m := by rw [hm]; split <;> omega
            rw [hce] at hi
            let us : List Value := (List.range (len * j.size)).map fun q => (W.cell? (a.add q)).getD undef
            have hul : us.length = len * j.size := by simp [us]
            have hu : ∀ q, q < len * j.size → us[q]? = some ((W.cell? (a.add q)).getD undef) := fun q hq => by simp [us, hq]
            have hchunk : ∀ i, i < len → ∃ cs', W.cells? base (a.add (i * j.size)) j.size = some cs' ∧ cs' = (us.drop (i * j.size)).take j.size := by
              intro i hil
              obtain ⟨cs', hc, _⟩ := hi i (by omega)
              obtain ⟨_, hcl, hcc⟩ := World.cells?_some hc
              refine ⟨cs', hc, List.ext_getElem? fun q => ?_⟩
              have hm2 : i * j.size + j.size ≤ len * j.size := by rw [← Nat.succ_mul]; exact Nat.mul_le_mul_right _ hil
              rw [List.getElem?_take, List.getElem?_drop]
              split
              · rename_i hq
                have h1 := hcc q hq
                rw [add_of_add] at h1
                rw [hu _ (by omega), h1]
                rw [List.getElem?_eq_getElem (by omega)]; rfl
              · rename_i hq
                rw [List.getElem?_eq_none (by omega)]
            obtain ⟨ys, hy1, hy2, hy3⟩ := chunks_ex (W := W) (us := us) (z := j.size) (Good := wtE tb k e) len hul fun i hil => by
              obtain ⟨cs', hc, hcs'⟩ := hchunk i hil
              obtain ⟨cs2, hc2, htr⟩ := hi i (by omega)
              rw [hc] at hc2
              injection hc2 with hc2
              subst hc2
              rw [← hcs']
              exact e_of_trod tok k _ e cs' _ hoe htr
            have hcell : ∀ q v, us[q]? = some v → W.cell? (a.add q) = some v := by
              intro q v hv
              have hq : q < len * j.size := by
                rcases Nat.lt_or_ge q us.length with h | h
                · omega
                · rw [List.getElem?_eq_none h] at hv; cases hv
              -- the cell lies in a chunk
              have hqd : q / j.size < len := Nat.div_lt_of_lt_mul (by rw [Nat.mul_comm]; exact hq)
              obtain ⟨cs', hc, hcs'⟩ := hchunk (q / j.size) hqd
              obtain ⟨_, hcl, hcc⟩ := World.cells?_some hc
              have h1 := hcc (q % j.size) (Nat.mod_lt _ hjz)
              rw [add_of_add, Nat.mul_comm, Nat.div_add_mod] at h1
              rw [hu q hq] at hv
              injection hv with hv
              rw [h1] at hv
              rw [h1, List.getElem?_eq_getElem (by have := Nat.mod_lt q hjz; omega)] at *
              simp only [Option.getD_some] at hv
              rw [hv]
            refine ⟨[.sl j.size len ys], Pw.cons (.sl _ len ys (some a) cap (fun q => us.getD q undef) hy2 hjz hlc hcm (fun hpl => ⟨a, rfl, ?_⟩) (fun ad had q y hq => ?_) (fun q y hq => ?_)) Pw.nil, i, ht, by rw [hz]; rfl, by rw [hty]; exact ⟨j, len, ys, he, rfl, hy2, Nat.le_trans hlc hcm, hy3⟩⟩
            · have h0 : 0 < len * j.size := Nat.mul_pos hpl hjz
              have := World.block_lt_of_cell? W _ (hcell 0 _ (hu 0 h0))
              rwa [block_of_add] at this
            · injection had with had
              subst had
              obtain ⟨v, hv, _⟩ := hy1.get hq
              refine ⟨?_, fun hf => hf⟩
              rw [hcell q v hv, List.getD, hv]; rfl
            · obtain ⟨v, hv, hr⟩ := hy1.get hq
              rw [List.getD, hv]
              exact hr
      | other => rw [hty] at hok; cases hok
      | struct fs =>
        rw [hty] at hok
        dsimp only at hok
        obtain ⟨fields, hf, hfs⟩ := tok.struct ht hty
        obtain ⟨xs, n, _, _, hcl, hxl, hall⟩ := DataW.trod_struct hf h
        rw [tok.cells ht] at hcl
        have key : ∀ (l : List Field) (off : Nat), (∀ f ∈ l, ∃ x, DataW.trod enc P W base sp hd n f.type ((cs.drop f.offset).take (P.cellsOf f.type)) = some x) → off ≤ cs.length → tileFs tb (okTy tb k) (l.map fun f => (f.offset, f.type)) off i.size = true →
            ∃ ys, Pw (RepE W F0) ys (cs.drop off) ∧ wtFs tb (wtE tb k) (l.map fun f => (f.offset, f.type)) ys := by
          intro l
          induction l with
          | nil =>
            intro off _ ho htile
            have : off = i.size := by simpa [tileFs] using htile
            exact ⟨[], by rw [List.drop_of_length_le (by omega)]; exact Pw.nil, rfl⟩
          | cons f l ih =>
            intro off hl ho htile
            simp only [List.map_cons, tileFs, Bool.and_eq_true, beq_iff_eq] at htile
            obtain ⟨⟨hof, hok2⟩, htile⟩ := htile
            cases hj : tb f.type with
            | none => rw [hj] at htile; cases htile
            | some j =>
              rw [hj] at htile
              dsimp only at htile
              obtain ⟨x, hx⟩ := hl f (List.mem_cons_self ..)
              rw [tok.cells hj, hof] at hx
              obtain ⟨zs, hz1, hz2⟩ := e_of_trod tok k _ f.type _ _ hok2 hx
              have hzl : zs.length = j.size := by
                cases k with
                | zero => cases hz2
                | succ k =>
                  obtain ⟨j', hj', hl', _⟩ := hz2
                  rw [hj] at hj'
                  injection hj' with hj'
                  subst hj'
                  exact hl'
              have hlen : off + j.size ≤ cs.length := by
                have := hz1.1
                rw [hzl, List.length_take, List.length_drop] at this
                omega
              obtain ⟨ys, hy1, hy2⟩ := ih (off + j.size) (fun g hg => hl g (List.mem_cons_of_mem _ hg)) hlen htile
              refine ⟨zs ++ ys, ?_, j, hj, by rw [List.length_append]; omega, ?_, ?_⟩
              · have e : cs.drop off = (cs.drop off).take j.size ++ cs.drop (off + j.size) := by
                  rw [← List.drop_drop, List.take_append_drop]
                rw [e]
                exact hz1.append hy1
              · rw [List.take_append_of_le_length (by omega), List.take_of_length_le (by omega)]
                exact hz2
              · rw [List.drop_append_of_le_length (by omega), List.drop_of_length_le (by omega)]
                exact hy2
        obtain ⟨ys, hy1, hy2⟩ := key fields.toList 0 (fun f hfm => by
          obtain ⟨q, hq⟩ := List.getElem?_of_mem hfm
          have hq' : fields[q]? = some f := by simpa using hq
          have hlt : q < xs.length := by rw [hxl]; exact (Array.getElem?_eq_some_iff.1 hq').1
          exact ⟨xs[q], by rw [hall q f hq', List.getElem?_eq_getElem hlt]⟩) (Nat.zero_le _) (by rw [hfs]; exact hok)
        rw [List.drop_zero] at hy1
        exact ⟨ys, hy1, i, ht, by rw [hy1.1, hcl], by rw [hty]; rw [hfs] at hy2; exact hy2⟩
      | arr n e =>
        rw [hty] at hok
        dsimp only at hok
        cases he : tb e with
        | none => rw [he] at hok; simp at hok
        | some j =>
          rw [he] at hok
          simp only [Bool.and_eq_true, beq_iff_eq] at hok
          obtain ⟨hoe, hz⟩ := hok
          obtain ⟨xs, m, _, _, hcl, hxl, hall⟩ := DataW.trod_array (tok.arr ht hty) h
          rw [tok.cells ht] at hcl
          rw [tok.cells he] at hall
          obtain ⟨ys, hy1, hy2, hy3⟩ := chunks_ex (W := W) (us := cs) (z := j.size) (Good := wtE tb k e) n (by rw [hcl, hz]) fun q hq => by
            have hq' := hall q hq
            rw [List.getElem?_eq_getElem (by omega)] at hq'
            exact e_of_trod tok k _ e _ _ hoe hq'
          exact ⟨ys, hy1, i, ht, by rw [hy1.1, hcl], by rw [hty]; exact ⟨j, he, hy2, hy3⟩⟩
/-- An argument, as the layer sees it. -/
def argD (g : Bool) (xs : List E) : D := match g with
  | true => .ag (xs.map D.e)
  | false => .e (xs.headD .any)
theorem arg_rep (tok : TOk P tb) {k : Nat} {t : TypeId} {i : TyE} {v : Value} {d : DataW H} {p : List MemPlace} {r : Reach} {b0 : Nat} (hok : okTy tb k t = true) (ht : tb t = some i) (hval : Value.okWide P W r b0 t v) (h : DataW.Trod enc P W base sp hd t v d p) :
    ∃ xs, wtE tb k t xs ∧ PRep W F0 (argD i.ty.agg xs) v := by
  obtain ⟨fuel, hf⟩ := h
  obtain ⟨xs, hx, hw⟩ := e_of_trod tok k fuel t _ _ hok hf
  refine ⟨xs, hw, ?_⟩
  have one : v.cells = #[v] → PRep W F0 (.e (xs.headD .any)) v := by
    intro hv
    rw [hv] at hx
    cases xs with
    | nil => have := hx.1; simp at this
    | cons y ys => exact RepD.e _ _ (hx.2 0 y v rfl rfl)
  have agg : ∀ cs, v = .agg cs → PRep W F0 (.ag (xs.map D.e)) v := by
    rintro cs rfl
    have hx' : Pw (RepE W F0) xs cs.toList := hx
    refine RepD.ag _ cs (by simpa using hx'.1.symm) (fun j u hu => ?_) (fun j d u hd hu => ?_)
    · have hu' : cs.toList[j]? = some u := by simpa using hu
      have hlt : j < xs.length := by
        rw [hx'.1]
        exact (List.getElem?_eq_some_iff.1 hu').1
      exact (hx'.2 j _ u (List.getElem?_eq_getElem hlt) hu').one
    · rw [List.getElem?_map] at hd
      cases hxj : xs[j]? with
      | none => simp [hxj] at hd
      | some y =>
        simp only [hxj, Option.map_some, Option.some.injEq] at hd
        subst hd
        exact .e _ _ (hx'.2 j y u hxj (by simpa using hu))
  cases hty : i.ty with
  | int kd => obtain ⟨n, rfl⟩ := okWide_int (tok.int ht hty) hval; exact one rfl
  | bool =>
    obtain ⟨dd, hd1, hd2⟩ := tok.und ht
    rw [hty] at hd2
    have hb : P.underlying t = some .bool := by cases dd <;> simp [Ty.of] at hd2; exact hd1
    obtain ⟨b, rfl⟩ := okWide_bool hb hval
    exact one rfl
  | str => obtain ⟨s, rfl⟩ := okWide_string (tok.str ht hty) hval; exact one rfl
  | slice e => obtain ⟨a, l, c, rfl⟩ := okWide_slice (tok.slice ht hty) hval; exact one rfl
  | struct fs =>
    obtain ⟨fields, hf, _⟩ := tok.struct ht hty
    obtain ⟨cs, rfl, _⟩ := okWide_struct hf hval
    exact agg cs rfl
  | arr n e =>
    have ha := tok.arr ht hty
    unfold Value.okWide at hval
    rw [ha] at hval
    obtain ⟨cs, rfl, _⟩ := hval
    exact agg cs rfl
  | other =>
    cases k with
    | zero => cases hok
    | succ k => unfold okTy at hok; rw [ht] at hok; dsimp only at hok; rw [hty] at hok; cases hok
/-- A law that the layer has walked. -/
theorem says_of {f : FuncId} {ds : List D} {args : Array Value} (hc : PCalls P f ds (.e (.lit (.bool true)))) (hsz : args.size = ds.length) (hargs : ∀ (j : Nat) (d : D) (u : Value), ds[j]? = some d → args[j]? = some u → PRep W F0 d u) :
    Calls P f args W fun e w' => e = .returned (.bool true) ∧ Below W.heap.size W w' := by
  refine (hc.2 W F0 args (fun _ h => h.elim) hsz hargs).mono ?_
  rintro e w' ⟨v, rfl, hres, hb⟩
  have hr : PRep w' F0 (.e (.lit (.bool true))) v := hres
  exact ⟨by rw [RepD.lit hr], hb⟩
theorem chunks_typed {α : Type} (cells : α → List E) (z : Nat) (good : α → Prop) : ∀ (n : Nat) (ys : List E), ys.length = n * z → (∀ i, i < n → ∃ a, (ys.drop (i * z)).take z = cells a ∧ good a) → ∃ l : List α, l.length = n ∧ ys = l.flatMap cells ∧ ∀ a ∈ l, good a
  | 0, ys, hl, _ => ⟨[], rfl, by rw [Nat.zero_mul] at hl; rw [List.eq_nil_of_length_eq_zero hl]; rfl, by simp⟩
  | n + 1, ys, hl, h => by
    rw [Nat.succ_mul] at hl
    obtain ⟨a, ha, hga⟩ := h 0 (Nat.succ_pos n)
    obtain ⟨l, h1, h2, h3⟩ := chunks_typed cells z good n (ys.drop z) (by rw [List.length_drop]; omega) fun i hi => by
      have := h (i + 1) (by omega)
      rw [List.drop_drop, show z + i * z = (i + 1) * z by rw [Nat.succ_mul]; omega]
      exact this
    simp only [Nat.zero_mul, List.drop_zero] at ha
    refine ⟨a :: l, by simp [h1], ?_, fun b hb => ?_⟩
    · rw [List.flatMap_cons, ← ha, ← h2, List.take_append_drop]
    · rcases List.mem_cons.1 hb with rfl | hb
      · exact hga
      · exact h3 b hb
end
end Go.Proofs.Ytakbadleipbngaa
