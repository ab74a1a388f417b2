/-
  MatrixNullIsAll: the elements of Null solve, are as many as columns that are no pivots, and a solution is their sum. Conditions: none.
-/
import Derived.Test.YtgfcnncojhkcoaaGreatT8
import Derived.Test.YtgfcnncojhkcoaaGreatRows
set_option linter.all false
set_option maxRecDepth 100000
namespace Go.Proofs.YtgfcnncojhkcoaaGreat
open Go.RowKit Go.IntKind Tryz Go.Proofs.Tryz
noncomputable section
section
open Go.ChangeShapes Go.WideShapes Go.ChangeAt Go.RowKit Go.ChangeMaps
def UB(x:ap):Prop:=(True)∧(True)∧(∀a∈x.vW.toList,Wi .u32 a)
theorem RL:Rd tbl 32 3 au UB:=by
 intro k xs h
 obtain⟨i,hi,hl,h⟩:=h
 rw[g5] at hi;cases hi
 obtain⟨j0,e0,l0,f0,j1,e1,l1,f1,j2,e2,l2,f2,h⟩:=h
 rw[sC] at e0;cases e0
 obtain⟨a0,h0,w0⟩:=(Rd.up (rd_B sC rfl) 1) _ _ f0
 rw[sC] at e1;cases e1
 obtain⟨a1,h1,w1⟩:=(Rd.up (rd_B sC rfl) 1) _ _ f1
 rw[cr] at e2;cases e2
 obtain⟨a2,h2,w2⟩:=(rd_A cr bH (rd_I bH rfl)) _ _ f2
 refine⟨⟨a0,a1,a2⟩,(lz h0 (lz h1 (lz h2 h))).trans ?_,⟨w0,w1,w2⟩⟩
 first|rfl|(simp[au];done)|(simp[au];rfl)
def W_Rat(x:ak):Prop:=(UB x.vN)∧(UB x.vD)
theorem RK:Rd tbl 34 4 aj W_Rat:=by
 intro k xs h
 obtain⟨i,hi,hl,h⟩:=h
 rw[aR] at hi;cases hi
 obtain⟨j0,e0,l0,f0,j1,e1,l1,f1,h⟩:=h
 rw[g5] at e0;cases e0
 obtain⟨a0,h0,w0⟩:=(RL) _ _ f0
 rw[g5] at e1;cases e1
 obtain⟨a1,h1,w1⟩:=(RL) _ _ f1
 refine⟨⟨a0,a1⟩,(lz h0 (lz h1 h)).trans ?_,⟨w0,w1⟩⟩
 first|rfl|(simp[aj];done)|(simp[aj];rfl)
def W_Mat(x:aq):Prop:=(Wi .i64 x.vR)∧(Wi .i64 x.vC)∧(x.vV.length≤maxLen∧∀a∈x.vV,W_Rat a)
theorem rd_Mat:Rd tbl 24 6 aG W_Mat:=by
 intro k xs h
 obtain⟨i,hi,hl,h⟩:=h
 rw[ay] at hi;cases hi
 obtain⟨j0,e0,l0,f0,j1,e1,l1,f1,j2,e2,l2,f2,h⟩:=h
 rw[dJ] at e0;cases e0
 obtain⟨a0,h0,w0⟩:=(Rd.up (rd_I dJ rfl) 4) _ _ f0
 rw[dJ] at e1;cases e1
 obtain⟨a1,h1,w1⟩:=(Rd.up (rd_I dJ rfl) 4) _ _ f1
 rw[aW] at e2;cases e2
 obtain⟨a2,h2,w2⟩:=(rd_L aW aR (RK)) _ _ f2
 refine⟨⟨a0,a1,a2⟩,(lz h0 (lz h1 (lz h2 h))).trans ?_,⟨w0,w1,w2⟩⟩
 first|rfl|(simp[aG];done)|(simp[aG];rfl)
namespace matrixNull
theorem own:ownKnob prog.godebug=none:=by kernel_rfl
theorem laid:laidOutB prog=true:=by kernel_rfl
theorem TQ(H:Type)(enc:TypeId×Value→H)(W:World)(args:Array Value)(ds gs:List (DataW H))(before:List MemPlace)
  (vZ:∀(j:Nat) t v,f6.params[j]? =some t→args[j]? =some v→Value.okWide prog W .any 0 t v∨∃base,Value.okWide prog W .any base t v)
  (hW:DataW.Whole enc prog f6.params.toList Rows.matrixNullIsAllSpec.vars false W args.toList ds gs before):
  Calls prog 6 args W fun e W'=>∃v,e=.returned v∧Rows.matrixNullIsAllSpec.post enc prog f6 false true false false W args v W':=by
 have hW':=hW
 obtain⟨p,q,hA0,hV,rfl,hfz,tf⟩:=hW
 have hA:DataW.TrodAll enc prog W 0 (fun _=>true) true f6.params.toList args.toList ds p:=hA0
 rw[params6] at hA vZ
 obtain⟨v0,vs0,d0,sQ,p0,q0,rx,rfl,rfl,h0,r0⟩:=trodAll_cons hA
 obtain⟨v1,vs1,d1,ds1,p1,q1,rfl,rfl,rfl,h1,r1⟩:=trodAll_cons r0
 obtain⟨rfl,rfl,rfl⟩:=trodAll_nil r1
 obtain rfl:args=#[v0,v1]:=by cases args;simp_all
 obtain⟨rfl,rfl⟩:=trodVars_none hV
 obtain⟨a0,b0,w0⟩:=Uk (k:=0) (t:=24) tok (by kernel_rfl) ay (rd_Mat) (DY (hv_of vZ 0 rfl rfl)) h0
 obtain⟨a1,b1,w1⟩:=Uk (k:=0) (t:=22) tok (by kernel_rfl) aW (rd_L aW aR (RK)) (DY (hv_of vZ 1 rfl rfl)) h1
 refine (says_of (sB (G_nullW w0.2.2 w1)) rfl fun j d u hd hu=>?_).mono fun e W' hs=>?_
 ·match j,hd,hu with
  |0,hd,hu=>cases hd;cases hu;exact b0
  |1,hd,hu=>cases hd;cases hu;exact b1
 ·obtain⟨rfl,hb⟩:=hs
  exact⟨_,rfl,Ss laid rfl (by kernel_rfl) (by kernel_rfl) underlying4 hW' rfl hb⟩
theorem lifted(os:Os)(started:os.Started)(H:Type)(enc:TypeId×Value→H):
  ReturnsInHanded {} checked os 6 .any (Rows.matrixNullIsAllSpec.pre6 enc prog f6 Rows.matrixNullIsAllRow.domain false) (Rows.matrixNullIsAllSpec.post enc prog f6 false true false false):=by
 refine returnsInHanded_of_change_sized (C:=checked) own started (by kernel_rfl) func6
  (ChangeSpec.witness6 (enc:=enc) (C:=checked) false ⟨#[],#[.agg #[.int .i64 (0),.int .i64 (0),.slice none 0 0],.slice none 0 0],[]⟩ 8 (by kernel_rfl) (by kernel_rfl) (by kernel_rfl) (by kernel_rfl)) ?_
 intro W base args ds gs before vZ hW _ _ _
 exact TQ H enc W args ds gs before (fun j t v h1 h2=>.inr ⟨base,vZ j t v h1 h2⟩) hW
theorem proved:Rows.MatrixNullIsAllSaid:=
 OpenClaim.holds_of_wide 6 f6 rfl rfl rfl rfl rfl rfl rfl ⟨rfl,rfl,rfl,rfl,rfl⟩ rfl rfl rfl rfl rfl (by kernel_rfl) func6 closed
  (oc (by kernel_rfl)) (by unfold Func.isWrapper;first|(rw[an (by decide +kernel)];kernel_rfl)|(rw[az (by decide +kernel)];exact⟨rfl,rfl⟩))
  (fun os started H enc _=>lifted os started H enc)
end matrixNull
#print axioms matrixNull.proved
end
end
end Go.Proofs.YtgfcnncojhkcoaaGreat
