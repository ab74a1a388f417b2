/-
  layer 42: Check and the specification's Check, Few. Conditions: none.
-/
import Derived.Test.YtakbadleipbngaaLinkA
import Derived.Test.YtakbadleipbngaaDrawn
import Derived.Deep.DeepCutAuto
import Derived.Deep.CutBlock
import Derived.LoopTactic
import Derived.Deep.Light
set_option linter.all false
namespace Go.Proofs.Ytakbadleipbngaa
open Go.RowKit
theorem row_on {w w' : World} {b : Nat} {t : TypeId} {n : Nat} {f : Nat → Value} (h : w.rowIs b t n f) (hb : Below w.heap.size w w') : w'.rowIs b t n f := h.of_block (hb.block b h.lt)
/-- The cells of the texts that came too early. -/
def heldV (l : List LHeld) : List Value := l.flatMap fun g => [.int .i64 g.1, .string g.2]
theorem heldV_len (l : List LHeld) : (heldV l).length = l.length * 2 := by
  unfold heldV
  induction l with
  | nil => rfl
  | cons g l ih => simp [ih]; omega
theorem heldV_at : ∀ (l : List LHeld) (k : Nat) (g : LHeld), l[k]? = some g → (heldV l)[k * 2]? = some (.int .i64 g.1) ∧ (heldV l)[k * 2 + 1]? = some (.string g.2)
  | [], k, g, h => by simp at h
  | g :: l, 0, g', h => by
    obtain rfl : g = g' := by simpa using h
    exact ⟨rfl, rfl⟩
  | g :: l, k + 1, g', h => by
    have h2 := heldV_at l k g' (by simpa using h)
    rw [show (k + 1) * 2 = k * 2 + 2 by omega, show k * 2 + 2 + 1 = (k * 2 + 1) + 2 by omega]
    exact h2
/-- The end x lies at v. -/
def IsEnd (w : World) (v : Value) (x : LEnd) : Prop :=
  (∃ q h, v = endV x.base q x.want h ∧ Sl w q 1 x.queue.length (x.queue.map Value.string) ∧ Sl w h 2 x.held.length (heldV x.held)) ∧ ∀ g ∈ x.held, I64 g.1
theorem IsEnd.below {w w' : World} {v : Value} {x : LEnd} (h : IsEnd w v x) (hb : Below w.heap.size w w') : IsEnd w' v x := by
  obtain ⟨⟨q, g, e, h1, h2⟩, h3⟩ := h
  exact ⟨⟨q, g, e, h1.below hb, h2.below hb⟩, h3⟩
def errV (b : Bool) : Value := .int .i64 (if b then 0 else 3)
theorem held_elem {w : World} {B : Nat} {A : Option Addr} {l : List LHeld} {k : Nat} (h : Reads w B 2 A l.length (heldV l)) (hk : k < l.length) :
    ∃ ad g, A = some ad ∧ ad.block < B ∧ l[k]? = some g ∧ w.cell? (ad.add (k * 2)) = some (.int .i64 g.1) ∧ w.cell? ((ad.add (k * 2)).add 1) = some (.string g.2) := by
  obtain ⟨ad, e, hb, hc⟩ := h.2 (by omega)
  have hg : l[k]? = some l[k] := List.getElem?_eq_getElem hk
  obtain ⟨h1, h2⟩ := heldV_at l k _ hg
  refine ⟨ad, _, e, hb, hg, hc _ _ h1, ?_⟩
  rw [add_of_add]
  exact hc _ _ h2
theorem aggHeld : Agg Try.prog 74 2 := ⟨⟨_, Try.underlying74, rfl⟩, by kernel_rfl⟩
set_option maxHeartbeats 1000000 in
set_option maxRecDepth 100000 in
theorem link_Check (x : LEnd) (v : Value) (w : World) (hx : IsEnd w v x) : Calls Try.prog 9 #[v] w fun e w' => e = .returned (errV x.okB) ∧ Below w.heap.size w w' := by
  obtain ⟨⟨q, h, rfl, hq, hh⟩, h64⟩ := hx
  obtain ⟨A, ca, rfl, hna, hcma, _⟩ := id hq
  obtain ⟨B, cb, rfl, hnb, hcmb, _⟩ := id hh
  unfold maxLen at hcma hcmb
  obtain ⟨b, hb⟩ : ∃ b, b = x.base := ⟨_, rfl⟩
  obtain ⟨n, hn⟩ : ∃ n, n = x.want := ⟨_, rfl⟩
  obtain ⟨L, hL⟩ : ∃ L, L = x.queue.length := ⟨_, rfl⟩
  obtain ⟨M, hM⟩ : ∃ M, M = x.held.length := ⟨_, rfl⟩
  have h0 : x.headB = (decide (1 ≤ b) && decide (b ≤ 1099511627776) && decide (1 ≤ n) && decide (n ≤ 1099511627776) && decide ((L : Int) ≤ 64)) := by
    rw [hb, hn, hL]
    unfold LEnd.headB
    congr 1
    rw [Bool.eq_iff_iff, decide_eq_true_eq, decide_eq_true_eq]; omega
  obtain ⟨hd, hhd⟩ : ∃ hd, hd = x.headB := ⟨_, rfl⟩
  rw [← hhd] at h0
  rw [← hL] at hq hna ⊢
  rw [← hM] at hh hnb ⊢
  rw [← hb, ← hn]
  unfold endV
  have hB := (Below.refl w.heap.size w).alloc (Nat.le_refl _) (.cells #[.int .i64 b, .slice A L ca, .int .i64 n, .slice B M cb] 25)
  have hrow := row_new w #[.int .i64 b, .slice A L ca, .int .i64 n, .slice B M cb] 25 4 (endF b (.slice A L ca) n (.slice B M cb)) rfl (fun i hi => by
    match i, hi with
    | 0, _ => rfl
    | 1, _ => rfl
    | 2, _ => rfl
    | 3, _ => rfl)
  have hq1 := hq.below hB
  have hh1 := hh.below hB
  have H0 := Lib.hid h0
  have HB := Lib.hid hb
  have HN := Lib.hid hn
  have HL := Lib.hid hL
  have HM := Lib.hid hM
  have HD := Lib.hid hhd
  have H64 := Lib.hid h64
  clear h0 hb hn hL hM hhd h64 hq hh
  go_enter Try.func9, Try.ntmps9
  go_upto_region 1 with (fail)
  generalize w.alloc (.cells #[.int .i64 b, .slice A L ca, .int .i64 n, .slice B M cb] 25) = w0 at *
  have c0 := hrow.cell (i := 0) (by decide)
  have c1 := hrow.cell (i := 1) (by decide)
  have c2 := hrow.cell (i := 2) (by decide)
  have c3 := hrow.cell (i := 3) (by decide)
  simp only [endF] at c0 c1 c2 c3
  go_cut [3] (fun u3 wc => u3 = .bool hd ∧ wc = w0)
  case first =>
    go_wp2_with fail
    all_goals
      go_meet
      refine ⟨?_, rfl⟩
      rw [H0.out]
      first
        | (simp_all; done)
        | (simp_all; intros; omega)
  case rest =>
    obtain ⟨rfl, rfl⟩ := hcut
    clear H0 HB
    obtain ⟨w0, hw0⟩ : ∃ w0, w0 = wc := ⟨_, rfl⟩
    subst hw0
    go_upto_block 0 with (fail)
    go_cut [3] (fun u3 wc => u3 = .bool (hd && x.queueB L) ∧ wc = w0)
    case first =>
      have hq0 : x.queueB 0 = true := by unfold LEnd.queueB; simp
      have HQ0 := Lib.hid hq0
      clear hq0
      go_wp2_with fail
      go_loopw [3, 36] (fun u3 u36 wr => ∃ (i : Nat) (ok : Bool), i ≤ L ∧ u36 = .int .i64 i ∧ u3 = .bool ok ∧ ok = (hd && x.queueB i) ∧ wr = w0) (fun _ u36 _ => L - (intOf u36).toNat)
      case atStart => exact ⟨0, hd, Nat.zero_le _, rfl, rfl, by rw [HQ0.out, Bool.and_true], rfl⟩
      case round =>
        obtain ⟨i, ok, hi, rfl, rfl, hok, rfl⟩ := hrel
        have HOK := Lib.hid hok
        clear hok
        by_cases hlt : i < L
        · obtain ⟨_, _, hv, _, _, hr1⟩ := id hq1
          injection hv with e1 e2 e3
          subst e1; subst e3
          rw [HL.out] at hr1
          obtain ⟨ad, s, rfl, hab, hx, hc⟩ := hr1.elem (k := i) (by rw [← HL.out]; exact hlt) rfl
          have hs := x.queueB_succ i s hx
          have HS := Lib.hid hs
          have hil : (i : Int) < (L : Int) := by omega
          clear hs hx hr1
          cases ok
          · go_wp2_with fail
            go_roundw
            case rel => exact ⟨i + 1, false, hlt, by go_num, rfl, by rw [HS.out, ← Bool.and_assoc, ← HOK.out]; rfl, by first | rfl | trivial⟩
            case measure => go_light; simp [intOf]; omega
          · go_wp2_with fail
            refine (link_short s _).mono ?_
            rintro e w1 ⟨rfl, rfl⟩
            go_wp2_with fail
            go_roundw
            case rel => exact ⟨i + 1, shortB s, hlt, by go_num, rfl, by rw [HS.out, ← Bool.and_assoc, ← HOK.out]; rfl, by first | rfl | trivial⟩
            case measure => go_light; simp [intOf]; omega
        · obtain rfl : i = L := by omega
          clear hlt hi
          go_wp2_with fail
          go_meet
          exact ⟨by rw [HOK.out], rfl⟩
    case rest =>
      obtain ⟨rfl, rfl⟩ := hcut
      obtain ⟨h1, hh1'⟩ : ∃ h1, h1 = (hd && x.queueB L) := ⟨_, rfl⟩
      rw [← hh1']
      have H1 := Lib.hid hh1'
      have hp0 : x.prev 0 = n := by rw [HN.out]; unfold LEnd.prev; simp
      have HP0 := Lib.hid hp0
      clear hp0 hh1' hq1 hcma hna
      obtain ⟨w0, hw0⟩ : ∃ w0, w0 = wc := ⟨_, rfl⟩
      subst hw0
      go_wp2_with fail
      go_loopw [3, 6, 51] (fun u3 u6 u51 wr => ∃ (i : Nat) (ok : Bool), i ≤ M ∧ u51 = .int .i64 i ∧ u3 = .bool ok ∧ ok = (h1 && x.heldB i) ∧ u6 = .int .i64 (x.prev i) ∧ Below w0.heap.size w0 wr) (fun _ _ u51 _ => M - (intOf u51).toNat)
      case atStart => exact ⟨0, h1, Nat.zero_le _, rfl, rfl, by rw [show x.heldB 0 = true from rfl, Bool.and_true], by rw [HP0.out], Below.refl _ _⟩
      case round =>
        obtain ⟨i, ok, hi, rfl, rfl, hok, rfl, hBr⟩ := hrel
        have HOK := Lib.hid hok
        clear hok
        by_cases hlt : i < M
        · obtain ⟨_, _, hv, _, _, hr1⟩ := id (hh1.below hBr)
          injection hv with e1 e2 e3
          subst e1; subst e3
          rw [HM.out] at hr1
          obtain ⟨ad, g, rfl, hab, hx, hc1, hc2⟩ := held_elem (k := i) hr1 (by rw [← HM.out]; exact hlt)
          have hs := x.heldB_succ i g hx
          have HS := Lib.hid hs
          have hpn : x.prev (i + 1) = g.1 := by
            unfold LEnd.prev
            rw [if_neg (by omega), Nat.add_sub_cancel]
            simp [List.getD, hx]
          have HPN := Lib.hid hpn
          have hil : (i : Int) < (M : Int) := by omega
          have hcs : ∀ j u, [Value.int .i64 g.1, Value.string g.2][j]? = some u → wr.cell? ((ad.add (i * 2)).add j) = some u := fun j u hu => by
            match j, hu with
            | 0, hu => injection hu with hu; subst hu; exact hc1
            | 1, hu => injection hu with hu; subst hu; exact hc2
          have HC := Lib.hid hcs
          have hg64 := H64.out g (List.mem_of_getElem? hx)
          clear hs hx hr1 hpn hcs hc1 hc2
          obtain ⟨s, d⟩ := g
          go_upto_region 11 with (refine wpList_load_cells (o := ⟨some 54, _, _, _, _, _⟩) rfl _ _ rfl (ad.add (i * 2)) rfl [.int .i64 s, .string d] aggHeld rfl HC.out ?_)
          have hrw := row_on hrow hBr
          have hBx := (Below.refl wr.heap.size wr).alloc (Nat.le_refl _) (.cells #[.int .i64 s, .string d] 74)
          have hra := row_on hrw hBx
          have hB5 := bl_on hBr hBx
          have hrn := row_new wr #[.int .i64 s, .string d] 74 2 (fun i => if i = 0 then .int .i64 s else .string d) rfl (fun i hi => by
            match i, hi with
            | 0, _ => rfl
            | 1, _ => rfl)
          have k0 := hrn.cell (i := 0) (by decide)
          have k1 := hrn.cell (i := 1) (by decide)
          have c2' := hra.cell (i := 2) (by decide)
          simp only [endF, if_true] at k0 c2'
          rw [if_neg (by decide)] at k1
          generalize wr.alloc (.cells #[.int .i64 s, .string d] 74) = w5 at *
          generalize wr.heap.size = g8 at *
          obtain ⟨P, hP⟩ : ∃ P, P = x.prev i := ⟨_, rfl⟩
          rw [← hP]
          have hnew : (ok && (decide (P < s) && decide (s < n + 8) && decide (s < 1099511627776) && shortB d)) = (h1 && x.heldB (i + 1)) := by
            rw [HS.out, ← Bool.and_assoc h1, ← HOK.out, hP, HN.out]; rfl
          have HNEW := Lib.hid hnew
          have hon : ok = true → 1 ≤ n ∧ n ≤ 1099511627776 ∧ n ≤ P := by
            intro h
            rw [HOK.out, H1.out, HD.out] at h
            unfold LEnd.headB at h
            simp only [Bool.and_eq_true, decide_eq_true_eq] at h
            rw [HN.out, hP]
            exact ⟨h.1.1.1.1.2, h.1.1.1.2, x.want_le_prev h.2 (by rw [← HM.out]; exact hi)⟩
          have HON := Lib.hid hon
          have HPN' := Lib.hid (show x.prev (i + 1) = s from HPN.out)
          have hg2 : s ≤ 9223372036854775807 := hg64.2
          clear hnew hon hrw hra hrn hg64 hBx hP c0 c1 c2 c3
          cases ok
          · go_wp2_with fail
            go_roundw
            case rel => exact ⟨i + 1, false, hlt, by go_num, rfl, by rw [← HNEW.out]; rfl, by rw [HPN'.out], hB5⟩
            case measure => go_light; simp [intOf]; omega
          · obtain ⟨n1, n2, n3⟩ := HON.out rfl
            by_cases y1 : P < s
            · have hw : IntKind.i64.wrap (s - n) = s - n := by rw [IntKind.wrap_i64]; omega
              by_cases y2 : s - n < 8
              · by_cases y3 : s < 1099511627776
                · go_wp2_with fail
                  refine (link_short d _).mono ?_
                  rintro e w1 ⟨rfl, rfl⟩
                  go_wp2_with fail
                  go_roundw
                  case rel => exact ⟨i + 1, shortB d, hlt, by go_num, rfl, by rw [← HNEW.out]; simp [y1, y3]; omega, by rw [HPN'.out], hB5⟩
                  case measure => go_light; simp [intOf]; omega
                · go_wp2_with fail
                  go_roundw
                  case rel => exact ⟨i + 1, false, hlt, by go_num, rfl, by rw [← HNEW.out]; simp; omega, by rw [HPN'.out], hB5⟩
                  case measure => go_light; simp [intOf]; omega
              · go_wp2_with fail
                go_roundw
                case rel => exact ⟨i + 1, false, hlt, by go_num, rfl, by rw [← HNEW.out]; simp; omega, by rw [HPN'.out], hB5⟩
                case measure => go_light; simp [intOf]; omega
            · go_wp2_with fail
              go_roundw
              case rel => exact ⟨i + 1, false, hlt, by go_num, rfl, by rw [← HNEW.out]; simp; omega, by rw [HPN'.out], hB5⟩
              case measure => go_light; simp [intOf]; omega
        · obtain rfl : i = M := by omega
          clear hlt hi
          have hfin : ok = x.okB := by
            rw [HOK.out, H1.out, HD.out, HL.out, HM.out]; rfl
          have HF := Lib.hid hfin
          have hBz := bl_on hB hBr
          clear hfin
          cases ok
          · go_wp2_with fail
            go_ret
            exact ⟨by rw [← HF.out]; rfl, hBz⟩
          · go_wp2_with fail
            go_ret
            exact ⟨by rw [← HF.out]; rfl, hBz⟩
end Go.Proofs.Ytakbadleipbngaa
