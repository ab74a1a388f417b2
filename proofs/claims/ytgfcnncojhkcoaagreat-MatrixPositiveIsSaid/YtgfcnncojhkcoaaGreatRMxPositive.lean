/-
  MatrixPositiveIs: a matrix that is Positive is positive; squares of invertible ones are. Conditions: none.
-/
import Derived.Test.YtgfcnncojhkcoaaGreatU7
import Derived.Test.YtgfcnncojhkcoaaGreatRows
set_option linter.all false
set_option maxRecDepth 100000
namespace Go.Proofs.YtgfcnncojhkcoaaGreat
open Go.RowKit Go.IntKind Tryz Go.Proofs.Tryz
noncomputable section
section
open Go.ChangeShapes Go.WideShapes Go.ChangeAt Go.RowKit Go.ChangeMaps
def Pj(x:aq):Prop:=(True)∧(True)∧(∀a∈x.vW.toList,Wi .u32 a)
theorem MQ:Rd tbl 32 3 ap Pj:=by
 intro k xs h
 obtain⟨i,hi,hl,h⟩:=h
 rw[az] at hi;cases hi
 obtain⟨j0,e0,l0,f0,j1,e1,l1,f1,j2,e2,l2,f2,h⟩:=h
 rw[gp] at e0;cases e0
 obtain⟨a0,h0,w0⟩:=(Rd.up (rd_B gp rfl) 1) _ _ f0
 rw[gp] at e1;cases e1
 obtain⟨a1,h1,w1⟩:=(Rd.up (rd_B gp rfl) 1) _ _ f1
 rw[aE] at e2;cases e2
 obtain⟨a2,h2,w2⟩:=(rd_A aE aH (rd_I aH rfl)) _ _ f2
 refine⟨⟨a0,a1,a2⟩,(lr h0 (lr h1 (lr h2 h))).trans ?_,⟨w0,w1,w2⟩⟩
 first|rfl|(simp[ap];done)|(simp[ap];rfl)
def W_Rat(x:ak):Prop:=(Pj x.vN)∧(Pj x.vD)
theorem MP:Rd tbl 34 4 aj W_Rat:=by
 intro k xs h
 obtain⟨i,hi,hl,h⟩:=h
 rw[aD] at hi;cases hi
 obtain⟨j0,e0,l0,f0,j1,e1,l1,f1,h⟩:=h
 rw[az] at e0;cases e0
 obtain⟨a0,h0,w0⟩:=(MQ) _ _ f0
 rw[az] at e1;cases e1
 obtain⟨a1,h1,w1⟩:=(MQ) _ _ f1
 refine⟨⟨a0,a1⟩,(lr h0 (lr h1 h)).trans ?_,⟨w0,w1⟩⟩
 first|rfl|(simp[aj];done)|(simp[aj];rfl)
def W_Mat(x:av):Prop:=(Wi .i64 x.vR)∧(Wi .i64 x.vC)∧(x.vV.length≤maxLen∧∀a∈x.vV,W_Rat a)
theorem rd_Mat:Rd tbl 24 6 aR W_Mat:=by
 intro k xs h
 obtain⟨i,hi,hl,h⟩:=h
 rw[ax] at hi;cases hi
 obtain⟨j0,e0,l0,f0,j1,e1,l1,f1,j2,e2,l2,f2,h⟩:=h
 rw[a6] at e0;cases e0
 obtain⟨a0,h0,w0⟩:=(Rd.up (rd_I a6 rfl) 4) _ _ f0
 rw[a6] at e1;cases e1
 obtain⟨a1,h1,w1⟩:=(Rd.up (rd_I a6 rfl) 4) _ _ f1
 rw[aP] at e2;cases e2
 obtain⟨a2,h2,w2⟩:=(rd_L aP aD (MP)) _ _ f2
 refine⟨⟨a0,a1,a2⟩,(lr h0 (lr h1 (lr h2 h))).trans ?_,⟨w0,w1,w2⟩⟩
 first|rfl|(simp[aR];done)|(simp[aR];rfl)
namespace matrixPositive
theorem own:ownKnob prog.godebug=none:=by kernel_rfl
theorem laid:laidOutB prog=true:=by kernel_rfl
theorem OO(H:Type)(enc:TypeId×Value→H)(W:World)(args:Array Value)(ds gs:List (DataW H))(before:List MemPlace)
  (rN:∀(j:Nat) t v,f8.params[j]? =some t→args[j]? =some v→Value.okWide prog W .any 0 t v∨∃base,Value.okWide prog W .any base t v)
  (hW:DataW.Whole enc prog f8.params.toList Rows.matrixPositiveIsSpec.vars false W args.toList ds gs before):
  Calls prog 8 args W fun e W'=>∃v,e=.returned v∧Rows.matrixPositiveIsSpec.post enc prog f8 false true false false W args v W':=by
 have hW':=hW
 obtain⟨p,q,hA0,hV,rfl,hfz,wb⟩:=hW
 have hA:DataW.TrodAll enc prog W 0 (fun _=>true) true f8.params.toList args.toList ds p:=hA0
 rw[params8] at hA rN
 obtain⟨v0,vs0,d0,tP,p0,q0,qU,rfl,rfl,h0,r0⟩:=trodAll_cons hA
 obtain⟨v1,vs1,d1,ds1,p1,q1,rfl,rfl,rfl,h1,r1⟩:=trodAll_cons r0
 obtain⟨rfl,rfl,rfl⟩:=trodAll_nil r1
 obtain rfl:args=#[v0,v1]:=by cases args;simp_all
 obtain⟨rfl,rfl⟩:=trodVars_none hV
 obtain⟨a0,b0,w0⟩:=O9 (k:=0) (t:=24) tok (by kernel_rfl) ax (rd_Mat) (BB (hv_of rN 0 rfl rfl)) h0
 obtain⟨a1,b1,w1⟩:=O9 (k:=0) (t:=22) tok (by kernel_rfl) aP (rd_L aP aD (MP)) (BB (hv_of rN 1 rfl rfl)) h1
 refine (says_of (rh (Hz w0.2.2 w1)) rfl fun j d u hd hu=>?_).mono fun e W' hs=>?_
 ·match j,hd,hu with
  |0,hd,hu=>cases hd;cases hu;exact b0
  |1,hd,hu=>cases hd;cases hu;exact b1
 ·obtain⟨rfl,hb⟩:=hs
  exact⟨_,rfl,Nl laid rfl (by kernel_rfl) (by kernel_rfl) underlying4 hW' rfl hb⟩
theorem lifted(os:Os)(started:os.Started)(H:Type)(enc:TypeId×Value→H):
  ReturnsInHanded {} checked os 8 .any (Rows.matrixPositiveIsSpec.pre6 enc prog f8 Rows.matrixPositiveIsRow.domain false) (Rows.matrixPositiveIsSpec.post enc prog f8 false true false false):=by
 refine returnsInHanded_of_change_sized (C:=checked) own started (by kernel_rfl) func8
  (ChangeSpec.witness6 (enc:=enc) (C:=checked) false ⟨#[],#[.agg #[.int .i64 (0),.int .i64 (0),.slice none 0 0],.slice none 0 0],[]⟩ 8 (by kernel_rfl) (by kernel_rfl) (by kernel_rfl) (by kernel_rfl)) ?_
 intro W base args ds gs before rN hW _ _ _
 exact OO H enc W args ds gs before (fun j t v h1 h2=>.inr ⟨base,rN j t v h1 h2⟩) hW
theorem proved:Rows.MatrixPositiveIsSaid:=
 OpenClaim.holds_of_wide 8 f8 rfl rfl rfl rfl rfl rfl rfl ⟨rfl,rfl,rfl,rfl,rfl⟩ rfl rfl rfl rfl rfl (by kernel_rfl) func8 closed
  (pO (by kernel_rfl)) (by unfold Func.isWrapper;first|(rw[ay (by decide +kernel)];kernel_rfl)|(rw[aA (by decide +kernel)];exact⟨rfl,rfl⟩))
  (fun os started H enc _=>lifted os started H enc)
end matrixPositive
#print axioms matrixPositive.proved
end
end
end Go.Proofs.YtgfcnncojhkcoaaGreat
