/-
  layer 42: ends and frames as data. Conditions: none.
-/
import Derived.Test.YtakbadleipbngaaGA
import Derived.Test.YtakbadleipbngaaAbG
import Derived.Test.YtakbadleipbngaaGP
import Derived.Test.YtakbadleipbngaaLinkQ
set_option linter.all false
namespace Go.Proofs.Ytakbadleipbngaa
open Go.RowKit
set_option linter.defProp false in
def tb_all := (And.intro (And.intro (And.intro (And.intro (And.intro (And.intro @tb_1 (And.intro @tb_2 @tb_3)) (And.intro (And.intro @tb_4 @tb_5) (And.intro @tb_6 @tb_7))) (And.intro (And.intro (And.intro @tb_8 @tb_9) (And.intro @tb_10 @tb_11)) (And.intro (And.intro @tb_12 @tb_13) (And.intro @tb_14 @tb_15)))) (And.intro (And.intro (And.intro (And.intro @tb_16 @tb_17) (And.intro @tb_18 @tb_19)) (And.intro (And.intro @tb_21 @tb_22) (And.intro @tb_23 @tb_24))) (And.intro (And.intro (And.intro @tb_25 @tb_26) (And.intro @tb_27 @tb_28)) (And.intro (And.intro @tb_29 @tb_30) (And.intro @tb_31 @tb_33))))) (And.intro (And.intro (And.intro (And.intro @tb_34 (And.intro @tb_35 @tb_36)) (And.intro (And.intro @tb_38 @tb_39) (And.intro @tb_40 @tb_41))) (And.intro (And.intro (And.intro @tb_42 @tb_43) (And.intro @tb_44 @tb_45)) (And.intro (And.intro @tb_46 @tb_47) (And.intro @tb_48 @tb_49)))) (And.intro (And.intro (And.intro (And.intro @tb_50 @tb_51) (And.intro @tb_52 @tb_53)) (And.intro (And.intro @tb_54 @tb_55) (And.intro @tb_56 @tb_57))) (And.intro (And.intro (And.intro @tb_58 @tb_60) (And.intro @tb_61 @tb_62)) (And.intro (And.intro @tb_63 @tb_64) (And.intro @tb_65 @tb_66)))))) (And.intro (And.intro (And.intro (And.intro (And.intro @tb_67 (And.intro @tb_68 @tb_69)) (And.intro (And.intro @tb_71 @tb_72) (And.intro @tb_73 @tb_74))) (And.intro (And.intro (And.intro @tb_75 @tb_76) (And.intro @tb_77 @tb_78)) (And.intro (And.intro @tb_79 @tb_80) (And.intro @tb_81 @tb_82)))) (And.intro (And.intro (And.intro (And.intro @tb_83 @tb_84) (And.intro @tb_85 @tb_86)) (And.intro (And.intro @tb_87 @tb_88) (And.intro @tb_89 @tb_90))) (And.intro (And.intro (And.intro @tb_91 @tb_92) (And.intro @tb_93 @tb_94)) (And.intro (And.intro @tb_95 @tb_96) (And.intro @tb_97 @tb_98))))) (And.intro (And.intro (And.intro (And.intro (And.intro @tb_99 @tb_100) (And.intro @tb_101 @tb_102)) (And.intro (And.intro @tb_103 @tb_104) (And.intro @tb_105 @tb_106))) (And.intro (And.intro (And.intro @tb_107 @tb_108) (And.intro @tb_111 @tb_112)) (And.intro (And.intro @tb_114 @tb_115) (And.intro @tb_116 @tb_118)))) (And.intro (And.intro (And.intro (And.intro @tb_119 @tb_120) (And.intro @tb_121 @tb_122)) (And.intro (And.intro @tb_123 @tb_124) (And.intro @tb_125 @tb_126))) (And.intro (And.intro (And.intro @tb_127 @tb_128) (And.intro @tb_129 @tb_130)) (And.intro (And.intro @tb_131 @tb_132) (And.intro @tb_133 @tb_134)))))))
def sE (s : ByteArray) : E := .lit (.string s)
def hE (l : List LHeld) : List E := l.flatMap fun g => [.lit (.int .i64 g.1), .lit (.string g.2)]
def fE (l : List LFrame) : List E := l.flatMap fun f => [.lit (.int .i64 f.seq), .lit (.int .i64 f.ack), .lit (.string f.data)]
def iD (n : Int) : D := .e (.lit (.int .i64 n))
def bD (b : Bool) : D := .e (.lit (.bool b))
def endD (x : LEnd) : D := .ag [.e (.lit (.int .i64 x.base)), .e (.sl 1 x.queue.length (x.queue.map sE)), .e (.lit (.int .i64 x.want)), .e (.sl 2 x.held.length (hE x.held))]
def frD (f : LFrame) : D := .ag [.e (.lit (.int .i64 f.seq)), .e (.lit (.int .i64 f.ack)), .e (.lit (.string f.data))]
/-! ### Between the generated structures and these -/
def ofH (h : LHeld) : S_Held := ⟨h.1, h.2⟩
def ofL (x : LEnd) : S_End := ⟨x.base, x.queue, x.want, x.held.map ofH⟩
def ofF (f : LFrame) : S_Frame := ⟨f.seq, f.ack, f.data⟩
def toF (f : S_Frame) : LFrame := ⟨f.vSeq, f.vAck, f.vData⟩
def toL (x : S_End) : LEnd := ⟨x.vBase, x.vQueue, x.vWant, x.vHeld.map fun h => (h.vSeq, h.vData)⟩
theorem ofF_toF (f : S_Frame) : ofF (toF f) = f := rfl
theorem toF_ofF (f : LFrame) : toF (ofF f) = f := rfl
theorem ofL_toL (x : S_End) : ofL (toL x) = x := by
  cases x; simp [ofL, toL, ofH, Function.comp_def]
theorem toL_ofL (x : LEnd) : toL (ofL x) = x := by
  cases x; simp [ofL, toL, ofH, Function.comp_def]
theorem hE_of (l : List LHeld) : (l.map ofH).flatMap c_Held.f = hE l := by
  induction l with
  | nil => rfl
  | cons h l ih => rw [List.map_cons, List.flatMap_cons, ih]; rfl
theorem sE_of (l : List ByteArray) : l.flatMap cS.f = l.map sE := by
  induction l with
  | nil => rfl
  | cons h l ih => rw [List.map_cons, List.flatMap_cons, ih]; rfl
theorem fE_of (l : List LFrame) : (l.map ofF).flatMap c_Frame.f = fE l := by
  induction l with
  | nil => rfl
  | cons h l ih => rw [List.map_cons, List.flatMap_cons, ih]; rfl
theorem endD_of (x : LEnd) : dG c_End (ofL x) = endD x := by
  show D.ag [_, D.e (slE cS x.queue), _, D.e (slE c_Held (x.held.map ofH))] = _
  unfold slE
  rw [hE_of, sE_of, List.length_map]
  rfl
theorem frD_of (f : LFrame) : dG c_Frame (ofF f) = frD f := rfl
theorem G_short (s : ByteArray) : g_link_short s = some (shortB s) := by
  unfold g_link_short shortB
  simp only [show ((4096 : Int)) = ((4096 : Nat) : Int) from rfl, Int.ofNat_le]
theorem G_valid0 (a b : Int) (c : ByteArray) : g_link_valid ⟨a, b, c⟩ = some (LFrame.okB ⟨a, b, c⟩) := by
  unfold g_link_valid LFrame.okB
  simp only [G_short, bnd_eq, bnd_id, cnd_and, cnd_or, bs_size0B, Bool.and_assoc]
theorem G_valid (f : LFrame) : g_link_valid (ofF f) = some f.okB := G_valid0 _ _ _
theorem a_valid (f : LFrame) : PCalls Try.prog 33 [frD f] (.e (.lit (.bool f.okB))) := w_link_valid (G_valid f)
theorem a_cloneS (n : Nat) (xs : List E) (hn : n ≤ 1000000) : PCalls Try.prog 32 [.e (.sl 1 n xs)] (.own 9 1 n xs) := wa_slices_Clone_string_string n xs hn
theorem a_cloneH (n : Nat) (xs : List E) (hn : n ≤ 1000000) : PCalls Try.prog 34 [.e (.sl 2 n xs)] (.own 74 2 n xs) := wa_slices_Clone_api_Held_api_Held n xs hn
end Go.Proofs.Ytakbadleipbngaa
