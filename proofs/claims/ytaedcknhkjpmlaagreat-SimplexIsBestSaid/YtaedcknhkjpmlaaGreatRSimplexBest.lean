/-
  SimplexIsBest: no numbers that are allowed have a greater value than the answer. Conditions: none.
-/
import Derived.Test.YtaedcknhkjpmlaaGreatB9
import Derived.Test.YtaedcknhkjpmlaaGreatRows
set_option linter.all false
set_option maxRecDepth 100000
namespace Go.Proofs.YtaedcknhkjpmlaaGreat
open Go.RowKit Go.IntKind Tryz Go.Proofs.Tryz
noncomputable section
section
open Go.ChangeShapes Go.WideShapes Go.ChangeAt Go.RowKit Go.ChangeMaps
def UY(x:ao):Prop:=(True)∧(True)∧(∀a∈x.vW.toList,Wi .u32 a)
theorem R1:Rd tbl 41 3 ap UY:=by
 intro k xs h
 obtain⟨i,hi,hl,h⟩:=h
 rw[fc] at hi;cases hi
 obtain⟨j0,e0,l0,f0,j1,e1,l1,f1,j2,e2,l2,f2,h⟩:=h
 rw[uF] at e0;cases e0
 obtain⟨a0,h0,w0⟩:=(Rd.up (rd_B uF rfl) 1) _ _ f0
 rw[uF] at e1;cases e1
 obtain⟨a1,h1,w1⟩:=(Rd.up (rd_B uF rfl) 1) _ _ f1
 rw[cU] at e2;cases e2
 obtain⟨a2,h2,w2⟩:=(rd_A cU bQ (rd_I bQ rfl)) _ _ f2
 refine⟨⟨a0,a1,a2⟩,(iy h0 (iy h1 (iy h2 h))).trans ?_,⟨w0,w1,w2⟩⟩
 first|rfl|(simp[ap];done)|(simp[ap];rfl)
def Po(x:am):Prop:=(UY x.vN)∧(UY x.vD)
theorem Ib:Rd tbl 43 4 ak Po:=by
 intro k xs h
 obtain⟨i,hi,hl,h⟩:=h
 rw[aR] at hi;cases hi
 obtain⟨j0,e0,l0,f0,j1,e1,l1,f1,h⟩:=h
 rw[fc] at e0;cases e0
 obtain⟨a0,h0,w0⟩:=(R1) _ _ f0
 rw[fc] at e1;cases e1
 obtain⟨a1,h1,w1⟩:=(R1) _ _ f1
 refine⟨⟨a0,a1⟩,(iy h0 (iy h1 h)).trans ?_,⟨w0,w1⟩⟩
 first|rfl|(simp[ak];done)|(simp[ak];rfl)
def W_Mat(x:fE):Prop:=(Wi .i64 x.vR)∧(Wi .i64 x.vC)∧(x.vV.length≤maxLen∧∀a∈x.vV,Po a)
theorem rd_Mat:Rd tbl 24 6 mu W_Mat:=by
 intro k xs h
 obtain⟨i,hi,hl,h⟩:=h
 rw[ye] at hi;cases hi
 obtain⟨j0,e0,l0,f0,j1,e1,l1,f1,j2,e2,l2,f2,h⟩:=h
 rw[dW] at e0;cases e0
 obtain⟨a0,h0,w0⟩:=(Rd.up (rd_I dW rfl) 4) _ _ f0
 rw[dW] at e1;cases e1
 obtain⟨a1,h1,w1⟩:=(Rd.up (rd_I dW rfl) 4) _ _ f1
 rw[b9] at e2;cases e2
 obtain⟨a2,h2,w2⟩:=(rd_L b9 aR (Ib)) _ _ f2
 refine⟨⟨a0,a1,a2⟩,(iy h0 (iy h1 (iy h2 h))).trans ?_,⟨w0,w1,w2⟩⟩
 first|rfl|(simp[mu];done)|(simp[mu];rfl)
def QW(x:aU):Prop:=(W_Mat x.vA)∧(x.vB.length≤maxLen∧∀a∈x.vB,Po a)∧(x.vC.length≤maxLen∧∀a∈x.vC,Po a)
theorem Mn:Rd tbl 26 7 dJ QW:=by
 intro k xs h
 obtain⟨i,hi,hl,h⟩:=h
 rw[rJ] at hi;cases hi
 obtain⟨j0,e0,l0,f0,j1,e1,l1,f1,j2,e2,l2,f2,h⟩:=h
 rw[ye] at e0;cases e0
 obtain⟨a0,h0,w0⟩:=(rd_Mat) _ _ f0
 rw[b9] at e1;cases e1
 obtain⟨a1,h1,w1⟩:=(Rd.up (rd_L b9 aR (Ib)) 1) _ _ f1
 rw[b9] at e2;cases e2
 obtain⟨a2,h2,w2⟩:=(Rd.up (rd_L b9 aR (Ib)) 1) _ _ f2
 refine⟨⟨a0,a1,a2⟩,(iy h0 (iy h1 (iy h2 h))).trans ?_,⟨w0,w1,w2⟩⟩
 first|rfl|(simp[dJ];done)|(simp[dJ];rfl)
namespace simplexBest
theorem own:ownKnob prog.godebug=none:=by kernel_rfl
theorem laid:laidOutB prog=true:=by kernel_rfl
theorem Ui(H:Type)(enc:TypeId×Value→H)(W:World)(args:Array Value)(ds gs:List (DataW H))(before:List MemPlace)
  (wa:∀(j:Nat) t v,f10.params[j]? =some t→args[j]? =some v→Value.okWide prog W .any 0 t v∨∃base,Value.okWide prog W .any base t v)
  (hW:DataW.Whole enc prog f10.params.toList Rows.simplexIsBestSpec.vars false W args.toList ds gs before):
  Calls prog 10 args W fun e W'=>∃v,e=.returned v∧Rows.simplexIsBestSpec.post enc prog f10 false true false false W args v W':=by
 have hW':=hW
 obtain⟨p,q,hA0,hV,rfl,hfz,Ap⟩:=hW
 have hA:DataW.TrodAll enc prog W 0 (fun _=>true) true f10.params.toList args.toList ds p:=hA0
 rw[params10] at hA wa
 obtain⟨v0,vs0,d0,ta,p0,q0,vJ,rfl,rfl,h0,r0⟩:=trodAll_cons hA
 obtain⟨v1,PL,d1,ds1,p1,q1,rfl,rfl,rfl,h1,r1⟩:=trodAll_cons r0
 obtain⟨rfl,rfl,rfl⟩:=trodAll_nil r1
 obtain rfl:args=#[v0,v1]:=by cases args;simp_all
 obtain⟨rfl,rfl⟩:=trodVars_none hV
 obtain⟨a0,b0,w0⟩:=UI (k:=0) (t:=26) tok (by kernel_rfl) rJ (Mn) (E6 (hv_of wa 0 rfl rfl)) h0
 obtain⟨a1,b1,w1⟩:=UI (k:=0) (t:=22) tok (by kernel_rfl) b9 (rd_L b9 aR (Ib)) (E6 (hv_of wa 1 rfl rfl)) h1
 refine (says_of (vZ (G_bestW w0.1.2.2 w0.2.1 w0.2.2 w1)) rfl fun j d u hd hu=>?_).mono fun e W' hs=>?_
 ·match j,hd,hu with
  |0,hd,hu=>cases hd;cases hu;exact b0
  |1,hd,hu=>cases hd;cases hu;exact b1
 ·obtain⟨rfl,hb⟩:=hs
  exact⟨_,rfl,SA laid rfl (by kernel_rfl) (by kernel_rfl) underlying4 hW' rfl hb⟩
theorem lifted(os:Os)(started:os.Started)(H:Type)(enc:TypeId×Value→H):
  ReturnsInHanded {} checked os 10 .any (Rows.simplexIsBestSpec.pre6 enc prog f10 Rows.simplexIsBestRow.domain false) (Rows.simplexIsBestSpec.post enc prog f10 false true false false):=by
 refine returnsInHanded_of_change_sized (C:=checked) own started (by kernel_rfl) func10
  (ChangeSpec.witness6 (enc:=enc) (C:=checked) false ⟨#[],#[.agg #[.int .i64 (0),.int .i64 (0),.slice none 0 0,.slice none 0 0,.slice none 0 0],.slice none 0 0],[]⟩ 8 (by kernel_rfl) (by kernel_rfl) (by kernel_rfl) (by kernel_rfl)) ?_
 intro W base args ds gs before wa hW _ _ _
 exact Ui H enc W args ds gs before (fun j t v h1 h2=>.inr ⟨base,wa j t v h1 h2⟩) hW
theorem proved:Rows.SimplexIsBestSaid:=
 OpenClaim.holds_of_wide 10 f10 rfl rfl rfl rfl rfl rfl rfl ⟨rfl,rfl,rfl,rfl,rfl⟩ rfl rfl rfl rfl rfl (by kernel_rfl) func10 closed
  (bw (by kernel_rfl)) (by unfold Func.isWrapper;first|(rw[ai (by decide +kernel)];kernel_rfl)|(rw[ah (by decide +kernel)];exact⟨rfl,rfl⟩))
  (fun os started H enc _=>lifted os started H enc)
end simplexBest
#print axioms simplexBest.proved
end
end
end Go.Proofs.YtaedcknhkjpmlaaGreat
