/-
  layer 42 in the abstract layer: ends and frames as data; contracts that were proved before. Conditions: none.
-/
import Derived.Test.YtakbadleipbngaaAbC
import Derived.Test.YtakbadleipbngaaAbG
import Derived.Test.YtakbadleipbngaaTab42
import Derived.Test.YtakbadleipbngaaLinkE
set_option linter.all false
namespace Go.Proofs.Ytakbadleipbngaa
open Go.RowKit
set_option linter.defProp false in
def tb_all := (And.intro (And.intro (And.intro (And.intro (And.intro (And.intro @tb_1 (And.intro @tb_2 @tb_3)) (And.intro (And.intro @tb_4 @tb_5) (And.intro @tb_6 @tb_7))) (And.intro (And.intro (And.intro @tb_8 @tb_9) (And.intro @tb_10 @tb_11)) (And.intro (And.intro @tb_12 @tb_13) (And.intro @tb_14 @tb_15)))) (And.intro (And.intro (And.intro (And.intro @tb_16 @tb_17) (And.intro @tb_18 @tb_19)) (And.intro (And.intro @tb_21 @tb_22) (And.intro @tb_23 @tb_24))) (And.intro (And.intro (And.intro @tb_25 @tb_26) (And.intro @tb_27 @tb_28)) (And.intro (And.intro @tb_29 @tb_30) (And.intro @tb_31 @tb_33))))) (And.intro (And.intro (And.intro (And.intro @tb_34 (And.intro @tb_35 @tb_36)) (And.intro (And.intro @tb_38 @tb_39) (And.intro @tb_40 @tb_41))) (And.intro (And.intro (And.intro @tb_42 @tb_43) (And.intro @tb_44 @tb_45)) (And.intro (And.intro @tb_46 @tb_47) (And.intro @tb_48 @tb_49)))) (And.intro (And.intro (And.intro (And.intro @tb_50 @tb_51) (And.intro @tb_52 @tb_53)) (And.intro (And.intro @tb_54 @tb_55) (And.intro @tb_56 @tb_57))) (And.intro (And.intro (And.intro @tb_58 @tb_60) (And.intro @tb_61 @tb_62)) (And.intro (And.intro @tb_63 @tb_64) (And.intro @tb_65 @tb_66)))))) (And.intro (And.intro (And.intro (And.intro (And.intro @tb_67 (And.intro @tb_68 @tb_69)) (And.intro (And.intro @tb_71 @tb_72) (And.intro @tb_73 @tb_74))) (And.intro (And.intro (And.intro @tb_75 @tb_76) (And.intro @tb_77 @tb_78)) (And.intro (And.intro @tb_79 @tb_80) (And.intro @tb_81 @tb_82)))) (And.intro (And.intro (And.intro (And.intro @tb_83 @tb_84) (And.intro @tb_85 @tb_86)) (And.intro (And.intro @tb_87 @tb_88) (And.intro @tb_89 @tb_90))) (And.intro (And.intro (And.intro @tb_91 @tb_92) (And.intro @tb_93 @tb_94)) (And.intro (And.intro @tb_95 @tb_96) (And.intro @tb_97 @tb_98))))) (And.intro (And.intro (And.intro (And.intro (And.intro @tb_99 @tb_100) (And.intro @tb_101 @tb_102)) (And.intro (And.intro @tb_103 @tb_104) (And.intro @tb_105 @tb_106))) (And.intro (And.intro (And.intro @tb_107 @tb_108) (And.intro @tb_111 @tb_112)) (And.intro (And.intro @tb_114 @tb_115) (And.intro @tb_116 @tb_118)))) (And.intro (And.intro (And.intro (And.intro @tb_119 @tb_120) (And.intro @tb_121 @tb_122)) (And.intro (And.intro @tb_123 @tb_124) (And.intro @tb_125 @tb_126))) (And.intro (And.intro (And.intro @tb_127 @tb_128) (And.intro @tb_129 @tb_130)) (And.intro (And.intro @tb_131 @tb_132) (And.intro @tb_133 @tb_134)))))))
def sE (s : ByteArray) : E := .lit (.string s)
def hE (l : List LHeld) : List E := l.flatMap fun g => [.lit (.int .i64 g.1), .lit (.string g.2)]
def fE (l : List LFrame) : List E := l.flatMap fun f => [.lit (.int .i64 f.seq), .lit (.int .i64 f.ack), .lit (.string f.data)]
def iD (n : Int) : D := .e (.lit (.int .i64 n))
def bD (b : Bool) : D := .e (.lit (.bool b))
def endD (x : LEnd) : D := .ag [.e (.lit (.int .i64 x.base)), .e (.sl 1 x.queue.length (x.queue.map sE)), .e (.lit (.int .i64 x.want)), .e (.sl 2 x.held.length (hE x.held))]
def frD (f : LFrame) : D := .ag [.e (.lit (.int .i64 f.seq)), .e (.lit (.int .i64 f.ack)), .e (.lit (.string f.data))]
theorem hE_heldV (l : List LHeld) : Pw (fun (x : E) u => x = .lit u) (hE l) (heldV l) := by
  induction l with
  | nil => exact Pw.nil
  | cons g l ih => exact Pw.cons rfl (Pw.cons rfl ih)
theorem isEnd_of {w : World} {F : Addr → Prop} {v : Value} {x : LEnd} (h : PRep w F (endD x) v) (h64 : ∀ g ∈ x.held, I64 g.1) : IsEnd w v x := by
  obtain ⟨cs, rfl, hc⟩ := PRep.ag_inv h
  obtain ⟨a, cs, rfl, h1, hc⟩ := hc.cons_inv
  obtain ⟨b, cs, rfl, h2, hc⟩ := hc.cons_inv
  obtain ⟨c, cs, rfl, h3, hc⟩ := hc.cons_inv
  obtain ⟨d, cs, rfl, h4, hc⟩ := hc.cons_inv
  obtain rfl := hc.nil_inv
  obtain rfl := h1.e_inv.lit_inv
  obtain rfl := h3.e_inv.lit_inv
  exact ⟨⟨b, d, rfl, sl_of_rep h2.e_inv (Pw.lits _ _), sl_of_rep h4.e_inv (hE_heldV _)⟩, h64⟩
theorem frV_of {w : World} {F : Addr → Prop} {v : Value} {f : LFrame} (h : PRep w F (frD f) v) : v = frV f := by
  obtain ⟨cs, rfl, hc⟩ := PRep.ag_inv h
  obtain ⟨a, cs, rfl, h1, hc⟩ := hc.cons_inv
  obtain ⟨b, cs, rfl, h2, hc⟩ := hc.cons_inv
  obtain ⟨c, cs, rfl, h3, hc⟩ := hc.cons_inv
  obtain rfl := hc.nil_inv
  obtain rfl := h1.e_inv.lit_inv
  obtain rfl := h2.e_inv.lit_inv
  obtain rfl := h3.e_inv.lit_inv
  rfl
theorem pres_lit {B : Nat} {F : Addr → Prop} {w : World} {v : Value} (h : v.oneCell' = true) : PRes B F w (.e (.lit v)) v := RepD.e _ _ (.lit v h)
theorem a_Check (x : LEnd) (h64 : ∀ g ∈ x.held, I64 g.1) : PCalls Try.prog 9 [endD x] (.e (.lit (errV x.okB))) :=
  PCalls.of1 ⟨_, Try.func9, rfl, rfl⟩ fun w _ v _ hv => (link_Check x v w (isEnd_of hv h64)).mono fun _ _ ⟨h1, h2⟩ => ⟨_, h1, pres_lit rfl, h2⟩
theorem a_refCheck (x : LEnd) (h64 : ∀ g ∈ x.held, I64 g.1) : PCalls Try.prog 10 [endD x] (.e (.lit (errV x.okB))) :=
  PCalls.of1 ⟨_, Try.func10, rfl, rfl⟩ fun w _ v _ hv => (ref_Check x v w (isEnd_of hv h64)).mono fun _ _ ⟨h1, h2⟩ => ⟨_, h1, pres_lit rfl, h2⟩
theorem a_refFew (x : LEnd) (h64 : ∀ g ∈ x.held, I64 g.1) : PCalls Try.prog 8 [endD x] (.e (.lit (.bool x.fewB))) :=
  PCalls.of1 ⟨_, Try.func8, rfl, rfl⟩ fun w _ v _ hv => (ref_Few42 x v w (isEnd_of hv h64)).mono fun _ _ ⟨h1, h2⟩ => ⟨_, h1, pres_lit rfl, h2⟩
theorem a_valid (f : LFrame) : PCalls Try.prog 33 [frD f] (.e (.lit (.bool f.okB))) :=
  PCalls.of1 ⟨_, Try.func33, rfl, rfl⟩ fun w _ v _ hv => by
    rw [frV_of hv]
    exact (link_valid f w).mono fun _ _ ⟨h1, h2⟩ => ⟨_, h1, pres_lit rfl, h2⟩
theorem a_refValid (f : LFrame) : PCalls Try.prog 42 [frD f] (.e (.lit (.bool f.okB))) :=
  PCalls.of1 ⟨_, Try.func42, rfl, rfl⟩ fun w _ v _ hv => by
    rw [frV_of hv]
    exact (ref_Valid f w).mono fun _ _ ⟨h1, h2⟩ => ⟨_, h1, pres_lit rfl, h2⟩
theorem a_short (s : ByteArray) : PCalls Try.prog 31 [.e (.lit (.string s))] (.e (.lit (.bool (shortB s)))) :=
  PCalls.of1 ⟨_, Try.func31, rfl, rfl⟩ fun w _ v _ hv => by
    rw [hv.e_inv.lit_inv]
    exact (link_short s w).mono fun _ _ ⟨h1, h2⟩ => ⟨_, h1, pres_lit rfl, by rw [h2]; exact Below.refl _ _⟩
set_option maxHeartbeats 1000000 in
set_option maxRecDepth 100000 in
theorem a_cloneS_run (n : Nat) (us : List Value) (v : Value) (w : World) (hl : Sl w v 1 n us) (h1 : ∀ u ∈ us, u.oneCell' = true) (hn : n ≤ 1000000) :
    Calls Try.prog 32 #[v] w fun e w' => ∃ q, e = .returned q ∧ w'.ownsRow w.heap.size 9 1 q n us ∧ Below w.heap.size w w' := by
  obtain ⟨A, c, rfl, hnc, hcm, hr⟩ := id hl
  cases A with
  | none =>
    obtain rfl : n = 0 := by
      rcases Nat.eq_zero_or_pos n with h | h
      · exact h
      · obtain ⟨_, h, _⟩ := hr.2 h; cases h
    obtain rfl : us = [] := List.eq_nil_of_length_eq_zero (by simpa using hr.1)
    have he : (binOp .eql 22 (.slice none 0 c) (.slice none 0 0)).run Try.prog w = .ok (.bool true) w := by kernel_rfl
    go_enter Try.func32, Try.ntmps32
    go_wp2_with fail
    go_ret
    exact ⟨_, rfl, ⟨rfl, .inl ⟨rfl, rfl⟩⟩, Below.refl _ _⟩
  | some ad =>
    have he : (binOp .eql 22 (.slice (some ad) n c) (.slice none 0 0)).run Try.prog w = .ok (.bool false) w := by kernel_rfl
    go_enter Try.func32, Try.ntmps32
    have hown0 := own_mt w 9 w.heap.size 1 (Nat.le_refl _)
    have hB0 := (Below.refl w.heap.size w).alloc (Nat.le_refl _) (.cells #[] 9)
    have hl2 := hl.below hB0
    have HL := Lib.hid hl2
    have H1 := Lib.hid h1
    clear hl hr hl2 h1
    go_wp2_with (at_builtin; refine wpList_append_all _ rfl _ _ _ rfl elStrs42 w.heap.size _ _ _ rfl hown0 _ _ _ rfl HL.out H1.out (by omega) (by omega) (by simp) w w.heap.size hB0 (Nat.le_refl _) ?_)
    intro v' w' hown hb
    go_wp2_with fail
    go_ret
    refine ⟨_, rfl, ?_, hb⟩
    simpa using hown
theorem a_cloneS (n : Nat) (xs : List E) (hn : n ≤ 1000000) : PCalls Try.prog 32 [.e (.sl 1 n xs)] (.own 9 1 n xs) :=
  PCalls.of1 ⟨_, Try.func32, rfl, rfl⟩ fun w F v hF hv => by
    have hv := hv.e_inv
    obtain ⟨us, hsl, hpw⟩ := sl_rep hv
    refine (a_cloneS_run n us v w hsl (fun u hu => by
      obtain ⟨j, hj⟩ := List.getElem?_of_mem hu
      have hlt : j < xs.length := by
        rw [hpw.1]
        rcases Nat.lt_or_ge j us.length with h | h
        · exact h
        · rw [List.getElem?_eq_none h] at hj; cases hj
      exact (hpw.2 j _ u (List.getElem?_eq_getElem hlt) hj).one) hn).mono ?_
    rintro e w' ⟨q, rfl, ho, hb⟩
    exact ⟨q, rfl, ⟨by decide, ⟨us, ho⟩, own_rep hF (by decide) ho hb hpw⟩, hb⟩
set_option maxHeartbeats 1000000 in
set_option maxRecDepth 100000 in
theorem a_cloneH_run (n : Nat) (us : List Value) (v : Value) (w : World) (hl : Sl w v 2 n us) (h1 : ∀ u ∈ us, u.oneCell' = true) (hn : n ≤ 1000000) :
    Calls Try.prog 34 #[v] w fun e w' => ∃ q, e = .returned q ∧ w'.ownsRow w.heap.size 74 2 q n us ∧ Below w.heap.size w w' := by
  obtain ⟨A, c, rfl, hnc, hcm, hr⟩ := id hl
  cases A with
  | none =>
    obtain rfl : n = 0 := by
      rcases Nat.eq_zero_or_pos n with h | h
      · exact h
      · obtain ⟨_, h, _⟩ := hr.2 h; cases h
    obtain rfl : us = [] := List.eq_nil_of_length_eq_zero (by simpa using hr.1)
    have he : (binOp .eql 23 (.slice none 0 c) (.slice none 0 0)).run Try.prog w = .ok (.bool true) w := by kernel_rfl
    go_enter Try.func34, Try.ntmps34
    go_wp2_with fail
    go_ret
    exact ⟨_, rfl, ⟨rfl, .inl ⟨rfl, rfl⟩⟩, Below.refl _ _⟩
  | some ad =>
    have he : (binOp .eql 23 (.slice (some ad) n c) (.slice none 0 0)).run Try.prog w = .ok (.bool false) w := by kernel_rfl
    go_enter Try.func34, Try.ntmps34
    have hown0 := own_mt w 74 w.heap.size 2 (Nat.le_refl _)
    have hB0 := (Below.refl w.heap.size w).alloc (Nat.le_refl _) (.cells #[] 74)
    have hl2 := hl.below hB0
    have HL := Lib.hid hl2
    have H1 := Lib.hid h1
    clear hl hr hl2 h1
    go_wp2_with (at_builtin; refine wpList_append_all _ rfl _ _ _ rfl elHeld w.heap.size _ _ _ rfl hown0 _ _ _ rfl HL.out H1.out (by omega) (by omega) (by simp) w w.heap.size hB0 (Nat.le_refl _) ?_)
    intro v' w' hown hb
    go_wp2_with fail
    go_ret
    refine ⟨_, rfl, ?_, hb⟩
    simpa using hown
theorem a_cloneH (n : Nat) (xs : List E) (hn : n ≤ 1000000) : PCalls Try.prog 34 [.e (.sl 2 n xs)] (.own 74 2 n xs) :=
  PCalls.of1 ⟨_, Try.func34, rfl, rfl⟩ fun w F v hF hv => by
    have hv := hv.e_inv
    obtain ⟨us, hsl, hpw⟩ := sl_rep hv
    refine (a_cloneH_run n us v w hsl (fun u hu => by
      obtain ⟨j, hj⟩ := List.getElem?_of_mem hu
      have hlt : j < xs.length := by
        rw [hpw.1]
        rcases Nat.lt_or_ge j us.length with h | h
        · exact h
        · rw [List.getElem?_eq_none h] at hj; cases hj
      exact (hpw.2 j _ u (List.getElem?_eq_getElem hlt) hj).one) hn).mono ?_
    rintro e w' ⟨q, rfl, ho, hb⟩
    exact ⟨q, rfl, ⟨by decide, ⟨us, ho⟩, own_rep hF (by decide) ho hb hpw⟩, hb⟩
end Go.Proofs.Ytakbadleipbngaa
