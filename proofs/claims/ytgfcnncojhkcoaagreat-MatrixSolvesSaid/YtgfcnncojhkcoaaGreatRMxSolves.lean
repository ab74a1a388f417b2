/-
  MatrixSolves: solutions are as specified, solve, and are found. Conditions: none.
-/
import Derived.Test.YtgfcnncojhkcoaaGreatX9
import Derived.Test.YtgfcnncojhkcoaaGreatRows
set_option linter.all false
set_option maxRecDepth 100000
namespace Go.Proofs.YtgfcnncojhkcoaaGreat
open Go.RowKit Go.IntKind Tryz Go.Proofs.Tryz
noncomputable section
section
open Go.ChangeShapes Go.WideShapes Go.ChangeAt Go.RowKit Go.ChangeMaps
def Qj(x:ay):Prop:=(True)∧(True)∧(∀a∈x.vW.toList,Wi .u32 a)
theorem NK:Rd tbl 32 3 an Qj:=by
 intro k xs h
 obtain⟨i,hi,hl,h⟩:=h
 rw[qza0] at hi;cases hi
 obtain⟨j0,e0,l0,f0,j1,e1,l1,f1,j2,e2,l2,f2,h⟩:=h
 rw[fF] at e0;cases e0
 obtain⟨a0,h0,w0⟩:=(Rd.up (rd_B fF rfl) 1) _ _ f0
 rw[fF] at e1;cases e1
 obtain⟨a1,h1,w1⟩:=(Rd.up (rd_B fF rfl) 1) _ _ f1
 rw[aH] at e2;cases e2
 obtain⟨a2,h2,w2⟩:=(rd_A aH aP (NL aP rfl)) _ _ f2
 refine⟨⟨a0,a1,a2⟩,(mr h0 (mr h1 (mr h2 h))).trans ?_,⟨w0,w1,w2⟩⟩
 first|rfl|(simp[an];done)|(simp[an];rfl)
def W_Rat(x:aj):Prop:=(Qj x.vN)∧(Qj x.vD)
theorem NI:Rd tbl 34 4 ae W_Rat:=by
 intro k xs h
 obtain⟨i,hi,hl,h⟩:=h
 rw[ax] at hi;cases hi
 obtain⟨j0,e0,l0,f0,j1,e1,l1,f1,h⟩:=h
 rw[qza0] at e0;cases e0
 obtain⟨a0,h0,w0⟩:=(NK) _ _ f0
 rw[qza0] at e1;cases e1
 obtain⟨a1,h1,w1⟩:=(NK) _ _ f1
 refine⟨⟨a0,a1⟩,(mr h0 (mr h1 h)).trans ?_,⟨w0,w1⟩⟩
 first|rfl|(simp[ae];done)|(simp[ae];rfl)
def W_Mat(x:ap):Prop:=(Wi .i64 x.vR)∧(Wi .i64 x.vC)∧(x.vV.length≤maxLen∧∀a∈x.vV,W_Rat a)
theorem NJ:Rd tbl 24 6 aE W_Mat:=by
 intro k xs h
 obtain⟨i,hi,hl,h⟩:=h
 rw[aq] at hi;cases hi
 obtain⟨j0,e0,l0,f0,j1,e1,l1,f1,j2,e2,l2,f2,h⟩:=h
 rw[aT] at e0;cases e0
 obtain⟨a0,h0,w0⟩:=(Rd.up (NL aT rfl) 4) _ _ f0
 rw[aT] at e1;cases e1
 obtain⟨a1,h1,w1⟩:=(Rd.up (NL aT rfl) 4) _ _ f1
 rw[aF] at e2;cases e2
 obtain⟨a2,h2,w2⟩:=(rd_L aF ax (NI)) _ _ f2
 refine⟨⟨a0,a1,a2⟩,(mr h0 (mr h1 (mr h2 h))).trans ?_,⟨w0,w1,w2⟩⟩
 first|rfl|(simp[aE];done)|(simp[aE];rfl)
namespace matrixSolves
theorem own:ownKnob prog.godebug=none:=by kernel_rfl
theorem laid:laidOutB prog=true:=by kernel_rfl
theorem PJ(H:Type)(enc:TypeId×Value→H)(W:World)(args:Array Value)(ds gs:List (DataW H))(before:List MemPlace)
  (tT:∀(j:Nat) t v,f5.params[j]? =some t→args[j]? =some v→Value.okWide prog W .any 0 t v∨∃base,Value.okWide prog W .any base t v)
  (hW:DataW.Whole enc prog f5.params.toList Rows.matrixSolvesSpec.vars false W args.toList ds gs before):
  Calls prog 5 args W fun e W'=>∃v,e=.returned v∧Rows.matrixSolvesSpec.post enc prog f5 false true false false W args v W':=by
 have hW':=hW
 obtain⟨p,q,hA0,hV,rfl,hfz,xR⟩:=hW
 have hA:DataW.TrodAll enc prog W 0 (fun _=>true) true f5.params.toList args.toList ds p:=hA0
 rw[params5] at hA tT
 obtain⟨v0,vs0,d0,oi,p0,q0,se,rfl,rfl,h0,r0⟩:=trodAll_cons hA
 obtain⟨v1,vs1,d1,ds1,p1,q1,rfl,rfl,rfl,h1,r1⟩:=trodAll_cons r0
 obtain⟨v2,uE,d2,ds2,p2,q2,rfl,rfl,rfl,h2,r2⟩:=trodAll_cons r1
 obtain⟨rfl,rfl,rfl⟩:=trodAll_nil r2
 obtain rfl:args=#[v0,v1,v2]:=by cases args;simp_all
 obtain⟨rfl,rfl⟩:=trodVars_none hV
 obtain⟨a0,b0,w0⟩:=CG (k:=0) (t:=24) tok (by kernel_rfl) aq (NJ) (vi (HY tT 0 rfl rfl)) h0
 obtain⟨a1,b1,w1⟩:=CG (k:=0) (t:=22) tok (by kernel_rfl) aF (rd_L aF ax (NI)) (vi (HY tT 1 rfl rfl)) h1
 obtain⟨a2,b2,w2⟩:=CG (k:=0) (t:=22) tok (by kernel_rfl) aF (rd_L aF ax (NI)) (vi (HY tT 2 rfl rfl)) h2
 refine (says_of (w_law07_MatrixSolves (G_solvesW w0.2.2 w1 w2)) rfl fun j d u hd hu=>?_).mono fun e W' hs=>?_
 ·match j,hd,hu with
  |0,hd,hu=>cases hd;cases hu;exact b0
  |1,hd,hu=>cases hd;cases hu;exact b1
  |2,hd,hu=>cases hd;cases hu;exact b2
 ·obtain⟨rfl,hb⟩:=hs
  exact⟨_,rfl,On laid rfl (by kernel_rfl) (by kernel_rfl) underlying4 hW' rfl hb⟩
theorem lifted(os:Os)(started:os.Started)(H:Type)(enc:TypeId×Value→H):
  ReturnsInHanded {} checked os 5 .any (Rows.matrixSolvesSpec.pre6 enc prog f5 Rows.matrixSolvesRow.domain false) (Rows.matrixSolvesSpec.post enc prog f5 false true false false):=by
 refine returnsInHanded_of_change_sized (C:=checked) own started (by kernel_rfl) func5
  (ChangeSpec.witness6 (enc:=enc) (C:=checked) false ⟨#[],#[.agg #[.int .i64 (0),.int .i64 (0),.slice none 0 0],.slice none 0 0,.slice none 0 0],[]⟩ 8 (by kernel_rfl) (by kernel_rfl) (by kernel_rfl) (by kernel_rfl)) ?_
 intro W base args ds gs before tT hW _ _ _
 exact PJ H enc W args ds gs before (fun j t v h1 h2=>.inr ⟨base,tT j t v h1 h2⟩) hW
theorem proved:Rows.MatrixSolvesSaid:=
 OpenClaim.holds_of_wide 5 f5 rfl rfl rfl rfl rfl rfl rfl ⟨rfl,rfl,rfl,rfl,rfl⟩ rfl rfl rfl rfl rfl (by kernel_rfl) func5 closed
  (xz (by kernel_rfl)) (by unfold Func.isWrapper;first|(rw[aQ (by decide +kernel)];kernel_rfl)|(rw[aV (by decide +kernel)];exact⟨rfl,rfl⟩))
  (fun os started H enc _=>lifted os started H enc)
end matrixSolves
#print axioms matrixSolves.proved
end
end
end Go.Proofs.YtgfcnncojhkcoaaGreat
