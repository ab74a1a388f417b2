/-
  layer 42: the specification's Few; slices.Clone of strings. Conditions: none.
-/
import Derived.Test.YtakbadleipbngaaLinkC
set_option linter.all false
namespace Go.Proofs.Ytakbadleipbngaa
open Go.RowKit
theorem elStrs42 : El Try.prog 22 9 (.string ⟨#[]⟩) 1 16 := ⟨Try.underlying22, info_parts (by kernel_rfl), rfl, by decide⟩
theorem own_mt (w : World) (e : TypeId) (base size : Nat) (hb : base ≤ w.heap.size) : (w.alloc (.cells #[] e)).ownsRow base e size (.slice (some ⟨w.heap.size, 0, none⟩) 0 0) 0 [] :=
  ⟨by simp, .inr ⟨w.heap.size, 0, #[], rfl, hb, heap_alloc_new w _, Nat.le_refl _, by decide, by simp, by simp⟩⟩
/-- The texts are short, and the end is valid. -/
def LEnd.fewB (x : LEnd) : Bool := x.queue.all (fun s => decide (s.size ≤ 200)) && x.okB
def LEnd.few0 (x : LEnd) (k : Nat) : Bool := (x.queue.take k).all (fun s => decide (s.size ≤ 200))
theorem LEnd.few0_succ (x : LEnd) (k : Nat) (s : ByteArray) (h : x.queue[k]? = some s) : x.few0 (k + 1) = (x.few0 k && decide (s.size ≤ 200)) := by
  unfold LEnd.few0
  rw [List.take_add_one, h]
  simp
set_option maxHeartbeats 1000000 in
set_option maxRecDepth 100000 in
theorem ref_Few42 (x : LEnd) (v : Value) (w : World) (hx : IsEnd w v x) : Calls Try.prog 8 #[v] w fun e w' => e = .returned (.bool x.fewB) ∧ Below w.heap.size w w' := by
  have hxx := hx
  obtain ⟨⟨q, h, rfl, hq, hh⟩, h64⟩ := hx
  obtain ⟨A, ca, rfl, hna, hcma, _⟩ := id hq
  obtain ⟨B, cb, rfl, _, _, _⟩ := id hh
  unfold maxLen at hcma
  obtain ⟨b, hb⟩ : ∃ b, b = x.base := ⟨_, rfl⟩
  obtain ⟨n, hn⟩ : ∃ n, n = x.want := ⟨_, rfl⟩
  obtain ⟨L, hL⟩ : ∃ L, L = x.queue.length := ⟨_, rfl⟩
  obtain ⟨M, hM⟩ : ∃ M, M = x.held.length := ⟨_, rfl⟩
  rw [← hL, ← hM, ← hb, ← hn] at hxx
  rw [← hL] at hq hna ⊢
  rw [← hM, ← hb, ← hn]
  unfold endV at hxx ⊢
  have hB := (Below.refl w.heap.size w).alloc (Nat.le_refl _) (.cells #[.int .i64 b, .slice A L ca, .int .i64 n, .slice B M cb] 25)
  have hrow := row_new w #[.int .i64 b, .slice A L ca, .int .i64 n, .slice B M cb] 25 4 (endF b (.slice A L ca) n (.slice B M cb)) rfl (fun i hi => by
    match i, hi with
    | 0, _ => rfl
    | 1, _ => rfl
    | 2, _ => rfl
    | 3, _ => rfl)
  have hq1 := hq.below hB
  have hx1 := hxx.below hB
  have HL := Lib.hid hL
  have hq0 : x.few0 0 = true := by unfold LEnd.few0; simp
  have HQ0 := Lib.hid hq0
  clear hb hn hL hM h64 hq hh hxx hq0
  go_enter Try.func8, Try.ntmps8
  go_upto_region 1 with (fail)
  generalize w.alloc (.cells #[.int .i64 b, .slice A L ca, .int .i64 n, .slice B M cb] 25) = w0 at *
  have c0 := hrow.cell (i := 0) (by decide)
  have c1 := hrow.cell (i := 1) (by decide)
  have c2 := hrow.cell (i := 2) (by decide)
  have c3 := hrow.cell (i := 3) (by decide)
  simp only [endF] at c0 c1 c2 c3
  go_wp2_with fail
  go_loopw [3] (fun u3 wr => ∃ (i : Nat), i ≤ L ∧ u3 = .int .i64 i ∧ x.few0 i = true ∧ wr = w0) (fun u3 _ => L - (intOf u3).toNat)
  case atStart => exact ⟨0, Nat.zero_le _, rfl, HQ0.out, rfl⟩
  case round =>
    obtain ⟨i, hi, rfl, hqi, rfl⟩ := hrel
    have HQ := Lib.hid hqi
    clear hqi
    by_cases hlt : i < L
    · obtain ⟨_, _, hv, _, _, hr1⟩ := id hq1
      injection hv with e1 e2 e3
      subst e1; subst e3
      rw [HL.out] at hr1
      obtain ⟨ad, s, rfl, hab, hx, hc⟩ := hr1.elem (k := i) (by rw [← HL.out]; exact hlt) rfl
      have hs := x.few0_succ i s hx
      rw [HQ.out, Bool.true_and] at hs
      have HS := Lib.hid hs
      have hil : (i : Int) < (L : Int) := by omega
      have HME := Lib.hid (List.mem_of_getElem? hx)
      clear hs hx hr1
      by_cases hsz : (s.size : Int) ≤ 200
      · go_wp2_with fail
        go_roundw
        case rel => exact ⟨i + 1, hlt, by go_num, by rw [HS.out]; simp; omega, by first | rfl | trivial⟩
        case measure => go_light; simp [intOf]; omega
      · go_wp2_with fail
        go_ret
        refine ⟨?_, hB⟩
        rw [show x.fewB = false by
          unfold LEnd.fewB
          rw [Bool.and_eq_false_iff]
          left
          rw [List.all_eq_false]
          exact ⟨s, HME.out, by simp; omega⟩]
        rfl
    · obtain rfl : i = L := by omega
      clear hlt hi
      have hf : x.fewB = x.okB := by
        have h := HQ.out
        unfold LEnd.few0 at h
        rw [HL.out, List.take_length] at h
        unfold LEnd.fewB
        rw [h, Bool.true_and]
      have HF := Lib.hid hf
      have HX1 := Lib.hid hx1
      clear hf hx1
      go_wp2_with fail
      refine (ref_Check x _ _ HX1.out).mono ?_
      rintro e w1 ⟨rfl, hb1⟩
      obtain ⟨ob, hob⟩ : ∃ ob, ob = x.okB := ⟨_, rfl⟩
      rw [← hob]
      have HO := Lib.hid hob
      clear hob
      cases ob
      · unfold errV
        go_wp2_with fail
        go_ret
        exact ⟨by rw [HF.out, ← HO.out]; rfl, bl_on hB hb1⟩
      · unfold errV
        go_wp2_with fail
        go_ret
        exact ⟨by rw [HF.out, ← HO.out]; rfl, bl_on hB hb1⟩
set_option maxHeartbeats 1000000 in
set_option maxRecDepth 100000 in
theorem clone_strings (l : List ByteArray) (v : Value) (w : World) (hl : Sl w v 1 l.length (l.map Value.string)) (hn : l.length ≤ 1000) :
    Calls Try.prog 32 #[v] w fun e w' => ∃ q, e = .returned q ∧ w'.ownsRow w.heap.size 9 1 q l.length (l.map Value.string) ∧ Below w.heap.size w w' := by
  obtain ⟨A, c, rfl, hnc, hcm, hr⟩ := id hl
  cases A with
  | none =>
    obtain rfl : l = [] := by
      rcases Nat.eq_zero_or_pos l.length with h | h
      · exact List.eq_nil_of_length_eq_zero h
      · obtain ⟨_, h, _⟩ := hr.2 h; cases h
    have he : (binOp .eql 22 (.slice none 0 c) (.slice none 0 0)).run Try.prog w = .ok (.bool true) w := by kernel_rfl
    go_enter Try.func32, Try.ntmps32
    go_wp2_with fail
    go_ret
    exact ⟨_, rfl, ⟨rfl, .inl ⟨rfl, rfl⟩⟩, Below.refl _ _⟩
  | some ad =>
    obtain ⟨N, hN⟩ : ∃ N, N = l.length := ⟨_, rfl⟩
    have he : (binOp .eql 22 (.slice (some ad) l.length c) (.slice none 0 0)).run Try.prog w = .ok (.bool false) w := by kernel_rfl
    go_enter Try.func32, Try.ntmps32
    have hown0 := own_mt w 9 w.heap.size 1 (Nat.le_refl _)
    have hB0 := (Below.refl w.heap.size w).alloc (Nat.le_refl _) (.cells #[] 9)
    have hl2 := hl.below hB0
    have hone : ∀ u ∈ l.map Value.string, u.oneCell' = true := by
      intro u hu
      obtain ⟨_, _, rfl⟩ := List.mem_map.1 hu
      rfl
    have HL := Lib.hid hl2
    clear hl hr hl2 hN
    go_wp2_with (at_builtin; refine wpList_append_all _ rfl _ _ _ rfl elStrs42 w.heap.size _ _ _ rfl hown0 _ _ _ rfl HL.out hone (by omega) (by omega) (by simp) w w.heap.size hB0 (Nat.le_refl _) ?_)
    intro v' w' hown hb
    go_wp2_with fail
    go_ret
    refine ⟨_, rfl, ?_, hb⟩
    simpa using hown
end Go.Proofs.Ytakbadleipbngaa
