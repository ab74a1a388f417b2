/-
  MatrixReduces: reductions, determinants, inverses, null spaces are as the specification says. Conditions: none.
-/
import Derived.Test.YtgfcnncojhkcoaaGreatZ9
import Derived.Test.YtgfcnncojhkcoaaGreatRows
set_option linter.all false
set_option maxRecDepth 100000
namespace Go.Proofs.YtgfcnncojhkcoaaGreat
open Go.RowKit Go.IntKind Tryz Go.Proofs.Tryz
noncomputable section
section
open Go.ChangeShapes Go.WideShapes Go.ChangeAt Go.RowKit Go.ChangeMaps
def Sg(x:ap):Prop:=(True)∧(True)∧(∀a∈x.vW.toList,Wi .u32 a)
theorem PI:Rd tbl 32 3 az Sg:=by
 intro k xs h
 obtain⟨i,hi,hl,h⟩:=h
 rw[iO] at hi;cases hi
 obtain⟨j0,e0,l0,f0,j1,e1,l1,f1,j2,e2,l2,f2,h⟩:=h
 rw[sD] at e0;cases e0
 obtain⟨a0,h0,w0⟩:=(Rd.up (rd_B sD rfl) 1) _ _ f0
 rw[sD] at e1;cases e1
 obtain⟨a1,h1,w1⟩:=(Rd.up (rd_B sD rfl) 1) _ _ f1
 rw[da] at e2;cases e2
 obtain⟨a2,h2,w2⟩:=(rd_A da bX (rd_I bX rfl)) _ _ f2
 refine⟨⟨a0,a1,a2⟩,(mT h0 (mT h1 (mT h2 h))).trans ?_,⟨w0,w1,w2⟩⟩
 first|rfl|(simp[az];done)|(simp[az];rfl)
def W_Rat(x:ai):Prop:=(Sg x.vN)∧(Sg x.vD)
theorem rd_Rat:Rd tbl 34 4 ae W_Rat:=by
 intro k xs h
 obtain⟨i,hi,hl,h⟩:=h
 rw[aC] at hi;cases hi
 obtain⟨j0,e0,l0,f0,j1,e1,l1,f1,h⟩:=h
 rw[iO] at e0;cases e0
 obtain⟨a0,h0,w0⟩:=(PI) _ _ f0
 rw[iO] at e1;cases e1
 obtain⟨a1,h1,w1⟩:=(PI) _ _ f1
 refine⟨⟨a0,a1⟩,(mT h0 (mT h1 h)).trans ?_,⟨w0,w1⟩⟩
 first|rfl|(simp[ae];done)|(simp[ae];rfl)
def W_Mat(x:an):Prop:=(Wi .i64 x.vR)∧(Wi .i64 x.vC)∧(x.vV.length≤maxLen∧∀a∈x.vV,W_Rat a)
theorem rd_Mat:Rd tbl 24 6 aH W_Mat:=by
 intro k xs h
 obtain⟨i,hi,hl,h⟩:=h
 rw[aq] at hi;cases hi
 obtain⟨j0,e0,l0,f0,j1,e1,l1,f1,j2,e2,l2,f2,h⟩:=h
 rw[bh] at e0;cases e0
 obtain⟨a0,h0,w0⟩:=(Rd.up (rd_I bh rfl) 4) _ _ f0
 rw[bh] at e1;cases e1
 obtain⟨a1,h1,w1⟩:=(Rd.up (rd_I bh rfl) 4) _ _ f1
 rw[aF] at e2;cases e2
 obtain⟨a2,h2,w2⟩:=(rd_L aF aC (rd_Rat)) _ _ f2
 refine⟨⟨a0,a1,a2⟩,(mT h0 (mT h1 (mT h2 h))).trans ?_,⟨w0,w1,w2⟩⟩
 first|rfl|(simp[aH];done)|(simp[aH];rfl)
namespace matrixReduces
theorem own:ownKnob prog.godebug=none:=by kernel_rfl
theorem laid:laidOutB prog=true:=by kernel_rfl
theorem RG(H:Type)(enc:TypeId×Value→H)(W:World)(args:Array Value)(ds gs:List (DataW H))(before:List MemPlace)
  (yD:∀(j:Nat) t v,f4.params[j]? =some t→args[j]? =some v→Value.okWide prog W .any 0 t v∨∃base,Value.okWide prog W .any base t v)
  (hW:DataW.Whole enc prog f4.params.toList Rows.matrixReducesAsSpecifiedSpec.vars false W args.toList ds gs before):
  Calls prog 4 args W fun e W'=>∃v,e=.returned v∧Rows.matrixReducesAsSpecifiedSpec.post enc prog f4 false true false false W args v W':=by
 have hW':=hW
 obtain⟨p,q,hA0,hV,rfl,hfz,uH⟩:=hW
 have hA:DataW.TrodAll enc prog W 0 (fun _=>true) true f4.params.toList args.toList ds p:=hA0
 rw[params4] at hA yD
 obtain⟨v0,vs0,d0,pm,p0,q0,tA,rfl,rfl,h0,r0⟩:=trodAll_cons hA
 obtain⟨rfl,rfl,rfl⟩:=trodAll_nil r0
 obtain rfl:args=#[v0]:=by cases args;simp_all
 obtain⟨rfl,rfl⟩:=trodVars_none hV
 obtain⟨a0,b0,w0⟩:=arg_of (k:=0) (t:=24) tok (by kernel_rfl) aq (rd_Mat) (HK (hv_of yD 0 rfl rfl)) h0
 refine (says_of (py (Mp w0.2.2)) rfl fun j d u hd hu=>?_).mono fun e W' hs=>?_
 ·match j,hd,hu with
  |0,hd,hu=>cases hd;cases hu;exact b0
 ·obtain⟨rfl,hb⟩:=hs
  exact⟨_,rfl,Qc laid rfl (by kernel_rfl) (by kernel_rfl) underlying4 hW' rfl hb⟩
theorem lifted(os:Os)(started:os.Started)(H:Type)(enc:TypeId×Value→H):
  ReturnsInHanded {} checked os 4 .any (Rows.matrixReducesAsSpecifiedSpec.pre6 enc prog f4 Rows.matrixReducesAsSpecifiedRow.domain false) (Rows.matrixReducesAsSpecifiedSpec.post enc prog f4 false true false false):=by
 refine returnsInHanded_of_change_sized (C:=checked) own started (by kernel_rfl) func4
  (ChangeSpec.witness6 (enc:=enc) (C:=checked) false ⟨#[],#[.agg #[.int .i64 (0),.int .i64 (0),.slice none 0 0]],[]⟩ 8 (by kernel_rfl) (by kernel_rfl) (by kernel_rfl) (by kernel_rfl)) ?_
 intro W base args ds gs before yD hW _ _ _
 exact RG H enc W args ds gs before (fun j t v h1 h2=>.inr ⟨base,yD j t v h1 h2⟩) hW
theorem proved:Rows.MatrixReducesAsSpecifiedSaid:=
 OpenClaim.holds_of_wide 4 f4 rfl rfl rfl rfl rfl rfl rfl ⟨rfl,rfl,rfl,rfl,rfl⟩ rfl rfl rfl rfl rfl (by kernel_rfl) func4 closed
  (n8 (by kernel_rfl)) (by unfold Func.isWrapper;first|(rw[ar (by decide +kernel)];kernel_rfl)|(rw[aA (by decide +kernel)];exact⟨rfl,rfl⟩))
  (fun os started H enc _=>lifted os started H enc)
end matrixReduces
#print axioms matrixReduces.proved
end
end
end Go.Proofs.YtgfcnncojhkcoaaGreat
