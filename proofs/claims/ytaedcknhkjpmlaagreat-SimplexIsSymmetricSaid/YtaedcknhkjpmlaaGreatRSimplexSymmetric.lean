/-
  SimplexIsSymmetric: the program reversed has an answer of the same kind, and the value times the factor. Conditions: none.
-/
import Derived.Test.YtaedcknhkjpmlaaGreatY9
import Derived.Test.YtaedcknhkjpmlaaGreatRows
set_option linter.all false
set_option maxRecDepth 100000
namespace Go.Proofs.YtaedcknhkjpmlaaGreat
open Go.RowKit Go.IntKind Tryz Go.Proofs.Tryz
noncomputable section
section
open Go.ChangeShapes Go.WideShapes Go.ChangeAt Go.RowKit Go.ChangeMaps
def UN(x:ap):Prop:=(True)∧(True)∧(∀a∈x.vW.toList,Wi .u32 a)
theorem RR:Rd tbl 41 3 aq UN:=by
 intro k xs h
 obtain⟨i,hi,hl,h⟩:=h
 rw[ff] at hi;cases hi
 obtain⟨j0,e0,l0,f0,j1,e1,l1,f1,j2,e2,l2,f2,h⟩:=h
 rw[uE] at e0;cases e0
 obtain⟨a0,h0,w0⟩:=(Rd.up (rd_B uE rfl) 1) _ _ f0
 rw[uE] at e1;cases e1
 obtain⟨a1,h1,w1⟩:=(Rd.up (rd_B uE rfl) 1) _ _ f1
 rw[cY] at e2;cases e2
 obtain⟨a2,h2,w2⟩:=(rd_A cY bQ (rd_I bQ rfl)) _ _ f2
 refine⟨⟨a0,a1,a2⟩,(iv h0 (iv h1 (iv h2 h))).trans ?_,⟨w0,w1,w2⟩⟩
 first|rfl|(simp[aq];done)|(simp[aq];rfl)
def Pk(x:am):Prop:=(UN x.vN)∧(UN x.vD)
theorem Mc:Rd tbl 43 4 ak Pk:=by
 intro k xs h
 obtain⟨i,hi,hl,h⟩:=h
 rw[aO] at hi;cases hi
 obtain⟨j0,e0,l0,f0,j1,e1,l1,f1,h⟩:=h
 rw[ff] at e0;cases e0
 obtain⟨a0,h0,w0⟩:=(RR) _ _ f0
 rw[ff] at e1;cases e1
 obtain⟨a1,h1,w1⟩:=(RR) _ _ f1
 refine⟨⟨a0,a1⟩,(iv h0 (iv h1 h)).trans ?_,⟨w0,w1⟩⟩
 first|rfl|(simp[ak];done)|(simp[ak];rfl)
def W_Mat(x:fM):Prop:=(Wi .i64 x.vR)∧(Wi .i64 x.vC)∧(x.vV.length≤maxLen∧∀a∈x.vV,Pk a)
theorem rd_Mat:Rd tbl 24 6 mQ W_Mat:=by
 intro k xs h
 obtain⟨i,hi,hl,h⟩:=h
 rw[wB] at hi;cases hi
 obtain⟨j0,e0,l0,f0,j1,e1,l1,f1,j2,e2,l2,f2,h⟩:=h
 rw[dZ] at e0;cases e0
 obtain⟨a0,h0,w0⟩:=(Rd.up (rd_I dZ rfl) 4) _ _ f0
 rw[dZ] at e1;cases e1
 obtain⟨a1,h1,w1⟩:=(Rd.up (rd_I dZ rfl) 4) _ _ f1
 rw[bZ] at e2;cases e2
 obtain⟨a2,h2,w2⟩:=(rd_L bZ aO (Mc)) _ _ f2
 refine⟨⟨a0,a1,a2⟩,(iv h0 (iv h1 (iv h2 h))).trans ?_,⟨w0,w1,w2⟩⟩
 first|rfl|(simp[mQ];done)|(simp[mQ];rfl)
def QM(x:a7):Prop:=(W_Mat x.vA)∧(x.vB.length≤maxLen∧∀a∈x.vB,Pk a)∧(x.vC.length≤maxLen∧∀a∈x.vC,Pk a)
theorem Me:Rd tbl 26 7 d9 QM:=by
 intro k xs h
 obtain⟨i,hi,hl,h⟩:=h
 rw[rE] at hi;cases hi
 obtain⟨j0,e0,l0,f0,j1,e1,l1,f1,j2,e2,l2,f2,h⟩:=h
 rw[wB] at e0;cases e0
 obtain⟨a0,h0,w0⟩:=(rd_Mat) _ _ f0
 rw[bZ] at e1;cases e1
 obtain⟨a1,h1,w1⟩:=(Rd.up (rd_L bZ aO (Mc)) 1) _ _ f1
 rw[bZ] at e2;cases e2
 obtain⟨a2,h2,w2⟩:=(Rd.up (rd_L bZ aO (Mc)) 1) _ _ f2
 refine⟨⟨a0,a1,a2⟩,(iv h0 (iv h1 (iv h2 h))).trans ?_,⟨w0,w1,w2⟩⟩
 first|rfl|(simp[d9];done)|(simp[d9];rfl)
namespace simplexSymmetric
theorem own:ownKnob prog.godebug=none:=by kernel_rfl
theorem laid:laidOutB prog=true:=by kernel_rfl
theorem T7(H:Type)(enc:TypeId×Value→H)(W:World)(args:Array Value)(ds gs:List (DataW H))(before:List MemPlace)
  (t4:∀(j:Nat) t v,f8.params[j]? =some t→args[j]? =some v→Value.okWide prog W .any 0 t v∨∃base,Value.okWide prog W .any base t v)
  (hW:DataW.Whole enc prog f8.params.toList Rows.simplexIsSymmetricSpec.vars false W args.toList ds gs before):
  Calls prog 8 args W fun e W'=>∃v,e=.returned v∧Rows.simplexIsSymmetricSpec.post enc prog f8 false true false false W args v W':=by
 have hW':=hW
 obtain⟨p,q,hA0,hV,rfl,hfz,Ap⟩:=hW
 have hA:DataW.TrodAll enc prog W 0 (fun _=>true) true f8.params.toList args.toList ds p:=hA0
 rw[params8] at hA t4
 obtain⟨v0,vs0,d0,s8,p0,q0,vM,rfl,rfl,h0,r0⟩:=trodAll_cons hA
 obtain⟨v1,PG,d1,ds1,p1,q1,rfl,rfl,rfl,h1,r1⟩:=trodAll_cons r0
 obtain⟨rfl,rfl,rfl⟩:=trodAll_nil r1
 obtain rfl:args=#[v0,v1]:=by cases args;simp_all
 obtain⟨rfl,rfl⟩:=trodVars_none hV
 obtain⟨a0,b0,w0⟩:=Ux (k:=0) (t:=26) tok (by kernel_rfl) rE (Me) (EW (hv_of t4 0 rfl rfl)) h0
 obtain⟨a1,b1,w1⟩:=Ux (k:=0) (t:=5) tok (by kernel_rfl) tb_5 (rd_I tb_5 rfl) (EW (hv_of t4 1 rfl rfl)) h1
 refine (says_of (rB (Jt w0.1.2.2 w0.2.1 w0.2.2 w1)) rfl fun j d u hd hu=>?_).mono fun e W' hs=>?_
 ·match j,hd,hu with
  |0,hd,hu=>cases hd;cases hu;exact b0
  |1,hd,hu=>cases hd;cases hu;exact b1
 ·obtain⟨rfl,hb⟩:=hs
  exact⟨_,rfl,Sq laid rfl (by kernel_rfl) (by kernel_rfl) underlying4 hW' rfl hb⟩
theorem lifted(os:Os)(started:os.Started)(H:Type)(enc:TypeId×Value→H):
  ReturnsInHanded {} checked os 8 .any (Rows.simplexIsSymmetricSpec.pre6 enc prog f8 Rows.simplexIsSymmetricRow.domain false) (Rows.simplexIsSymmetricSpec.post enc prog f8 false true false false):=by
 refine returnsInHanded_of_change_sized (C:=checked) own started (by kernel_rfl) func8
  (ChangeSpec.witness6 (enc:=enc) (C:=checked) false ⟨#[],#[.agg #[.int .i64 (0),.int .i64 (0),.slice none 0 0,.slice none 0 0,.slice none 0 0],.int .u8 (0)],[]⟩ 8 (by kernel_rfl) (by kernel_rfl) (by kernel_rfl) (by kernel_rfl)) ?_
 intro W base args ds gs before t4 hW _ _ _
 exact T7 H enc W args ds gs before (fun j t v h1 h2=>.inr ⟨base,t4 j t v h1 h2⟩) hW
theorem proved:Rows.SimplexIsSymmetricSaid:=
 OpenClaim.holds_of_wide 8 f8 rfl rfl rfl rfl rfl rfl rfl ⟨rfl,rfl,rfl,rfl,rfl⟩ rfl rfl rfl rfl rfl (by kernel_rfl) func8 closed
  (bC (by kernel_rfl)) (by unfold Func.isWrapper;first|(rw[ai (by decide +kernel)];kernel_rfl)|(rw[ah (by decide +kernel)];exact⟨rfl,rfl⟩))
  (fun os started H enc _=>lifted os started H enc)
end simplexSymmetric
#print axioms simplexSymmetric.proved
end
end
end Go.Proofs.YtaedcknhkjpmlaaGreat
