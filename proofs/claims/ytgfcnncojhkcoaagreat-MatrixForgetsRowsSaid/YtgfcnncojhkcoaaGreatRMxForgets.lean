/-
  MatrixForgetsRows: the order of the rows is forgotten. Conditions: none.
-/
import Derived.Test.YtgfcnncojhkcoaaGreatV7
import Derived.Test.YtgfcnncojhkcoaaGreatRows
set_option linter.all false
set_option maxRecDepth 100000
namespace Go.Proofs.YtgfcnncojhkcoaaGreat
open Go.RowKit Go.IntKind Tryz Go.Proofs.Tryz
noncomputable section
section
open Go.ChangeShapes Go.WideShapes Go.ChangeAt Go.RowKit Go.ChangeMaps
def OR(x:ar):Prop:=(True)∧(True)∧(∀a∈x.vW.toList,Wi .u32 a)
theorem Mn:Rd tbl 32 3 ap OR:=by
 intro k xs h
 obtain⟨i,hi,hl,h⟩:=h
 rw[aA] at hi;cases hi
 obtain⟨j0,e0,l0,f0,j1,e1,l1,f1,j2,e2,l2,f2,h⟩:=h
 rw[ge] at e0;cases e0
 obtain⟨a0,h0,w0⟩:=(Rd.up (rd_B ge rfl) 1) _ _ f0
 rw[ge] at e1;cases e1
 obtain⟨a1,h1,w1⟩:=(Rd.up (rd_B ge rfl) 1) _ _ f1
 rw[aC] at e2;cases e2
 obtain⟨a2,h2,w2⟩:=(rd_A aC aH (Mo aH rfl)) _ _ f2
 refine⟨⟨a0,a1,a2⟩,(kq h0 (kq h1 (kq h2 h))).trans ?_,⟨w0,w1,w2⟩⟩
 first|rfl|(simp[ap];done)|(simp[ap];rfl)
def W_Rat(x:ak):Prop:=(OR x.vN)∧(OR x.vD)
theorem rd_Rat:Rd tbl 34 4 aj W_Rat:=by
 intro k xs h
 obtain⟨i,hi,hl,h⟩:=h
 rw[ay] at hi;cases hi
 obtain⟨j0,e0,l0,f0,j1,e1,l1,f1,h⟩:=h
 rw[aA] at e0;cases e0
 obtain⟨a0,h0,w0⟩:=(Mn) _ _ f0
 rw[aA] at e1;cases e1
 obtain⟨a1,h1,w1⟩:=(Mn) _ _ f1
 refine⟨⟨a0,a1⟩,(kq h0 (kq h1 h)).trans ?_,⟨w0,w1⟩⟩
 first|rfl|(simp[aj];done)|(simp[aj];rfl)
def W_Mat(x:aE):Prop:=(Wi .i64 x.vR)∧(Wi .i64 x.vC)∧(x.vV.length≤maxLen∧∀a∈x.vV,W_Rat a)
theorem rd_Mat:Rd tbl 24 6 a9 W_Mat:=by
 intro k xs h
 obtain⟨i,hi,hl,h⟩:=h
 rw[aG] at hi;cases hi
 obtain⟨j0,e0,l0,f0,j1,e1,l1,f1,j2,e2,l2,f2,h⟩:=h
 rw[aR] at e0;cases e0
 obtain⟨a0,h0,w0⟩:=(Rd.up (Mo aR rfl) 4) _ _ f0
 rw[aR] at e1;cases e1
 obtain⟨a1,h1,w1⟩:=(Rd.up (Mo aR rfl) 4) _ _ f1
 rw[aJ] at e2;cases e2
 obtain⟨a2,h2,w2⟩:=(rd_L aJ ay (rd_Rat)) _ _ f2
 refine⟨⟨a0,a1,a2⟩,(kq h0 (kq h1 (kq h2 h))).trans ?_,⟨w0,w1,w2⟩⟩
 first|rfl|(simp[a9];done)|(simp[a9];rfl)
namespace matrixForgets
theorem own:ownKnob prog.godebug=none:=by kernel_rfl
theorem laid:laidOutB prog=true:=by kernel_rfl
theorem Ok(H:Type)(enc:TypeId×Value→H)(W:World)(args:Array Value)(ds gs:List (DataW H))(before:List MemPlace)
  (s4:∀(j:Nat) t v,f3.params[j]? =some t→args[j]? =some v→Value.okWide prog W .any 0 t v∨∃base,Value.okWide prog W .any base t v)
  (hW:DataW.Whole enc prog f3.params.toList Rows.matrixForgetsRowsSpec.vars false W args.toList ds gs before):
  Calls prog 3 args W fun e W'=>∃v,e=.returned v∧Rows.matrixForgetsRowsSpec.post enc prog f3 false true false false W args v W':=by
 have hW':=hW
 obtain⟨p,q,hA0,hV,rfl,hfz,vn⟩:=hW
 have hA:DataW.TrodAll enc prog W 0 (fun _=>true) true f3.params.toList args.toList ds p:=hA0
 rw[params3] at hA s4
 obtain⟨v0,vs0,d0,nl,p0,q0,qe,rfl,rfl,h0,r0⟩:=trodAll_cons hA
 obtain⟨v1,vs1,d1,ds1,p1,q1,rfl,rfl,rfl,h1,r1⟩:=trodAll_cons r0
 obtain⟨v2,sD,d2,ds2,p2,q2,rfl,rfl,rfl,h2,r2⟩:=trodAll_cons r1
 obtain⟨rfl,rfl,rfl⟩:=trodAll_nil r2
 obtain rfl:args=#[v0,v1,v2]:=by cases args;simp_all
 obtain⟨rfl,rfl⟩:=trodVars_none hV
 obtain⟨a0,b0,w0⟩:=Ip (k:=0) (t:=24) tok (by kernel_rfl) aG (rd_Mat) (xM (M2 s4 0 rfl rfl)) h0
 obtain⟨a1,b1,w1⟩:=Ip (k:=0) (t:=5) tok (by kernel_rfl) L1 (Mo L1 rfl) (xM (M2 s4 1 rfl rfl)) h1
 obtain⟨a2,b2,w2⟩:=Ip (k:=0) (t:=5) tok (by kernel_rfl) L1 (Mo L1 rfl) (xM (M2 s4 2 rfl rfl)) h2
 refine (says_of (p6 (I3 w0.2.2 w1 w2)) rfl fun j d u hd hu=>?_).mono fun e W' hs=>?_
 ·match j,hd,hu with
  |0,hd,hu=>cases hd;cases hu;exact b0
  |1,hd,hu=>cases hd;cases hu;exact b1
  |2,hd,hu=>cases hd;cases hu;exact b2
 ·obtain⟨rfl,hb⟩:=hs
  exact⟨_,rfl,MO laid rfl (by kernel_rfl) (by kernel_rfl) underlying4 hW' rfl hb⟩
theorem lifted(os:Os)(started:os.Started)(H:Type)(enc:TypeId×Value→H):
  ReturnsInHanded {} checked os 3 .any (Rows.matrixForgetsRowsSpec.pre6 enc prog f3 Rows.matrixForgetsRowsRow.domain false) (Rows.matrixForgetsRowsSpec.post enc prog f3 false true false false):=by
 refine returnsInHanded_of_change_sized (C:=checked) own started (by kernel_rfl) func3
  (ChangeSpec.witness6 (enc:=enc) (C:=checked) false ⟨#[],#[.agg #[.int .i64 (0),.int .i64 (0),.slice none 0 0],.int .u8 (0),.int .u8 (0)],[]⟩ 8 (by kernel_rfl) (by kernel_rfl) (by kernel_rfl) (by kernel_rfl)) ?_
 intro W base args ds gs before s4 hW _ _ _
 exact Ok H enc W args ds gs before (fun j t v h1 h2=>.inr ⟨base,s4 j t v h1 h2⟩) hW
theorem proved:Rows.MatrixForgetsRowsSaid:=
 OpenClaim.holds_of_wide 3 f3 rfl rfl rfl rfl rfl rfl rfl ⟨rfl,rfl,rfl,rfl,rfl⟩ rfl rfl rfl rfl rfl (by kernel_rfl) func3 closed
  (pT (by kernel_rfl)) (by unfold Func.isWrapper;first|(rw[ao (by decide +kernel)];kernel_rfl)|(rw[aq (by decide +kernel)];exact⟨rfl,rfl⟩))
  (fun os started H enc _=>lifted os started H enc)
end matrixForgets
#print axioms matrixForgets.proved
end
end
end Go.Proofs.YtgfcnncojhkcoaaGreat
