/-
  SimplexAnswersAgree: two answers that Check accepts for a valid program have the same kind, and the same value if there is a best one. Conditions: none.
-/
import Derived.Test.YtaedcknhkjpmlaaGreatA8
import Derived.Test.YtaedcknhkjpmlaaGreatRows
set_option linter.all false
set_option maxRecDepth 100000
namespace Go.Proofs.YtaedcknhkjpmlaaGreat
open Go.RowKit Go.IntKind
noncomputable section
section
open Go.ChangeShapes Go.WideShapes Go.ChangeAt Go.RowKit Go.ChangeMaps
def PG(x:av):Prop:=(True)∧(True)∧(∀a∈x.vW.toList,Wi .u32 a)
theorem MX:Rd tbl 41 3 aj PG:=by
 intro k xs h
 obtain⟨i,hi,hl,h⟩:=h
 rw[ap] at hi;cases hi
 obtain⟨j0,e0,l0,f0,j1,e1,l1,f1,j2,e2,l2,f2,h⟩:=h
 rw[eY] at e0;cases e0
 obtain⟨a0,h0,w0⟩:=(Rd.up (rd_B eY rfl) 1) _ _ f0
 rw[eY] at e1;cases e1
 obtain⟨a1,h1,w1⟩:=(Rd.up (rd_B eY rfl) 1) _ _ f1
 rw[aA] at e2;cases e2
 obtain⟨a2,h2,w2⟩:=(rd_A aA aG (rd_I aG rfl)) _ _ f2
 refine⟨⟨a0,a1,a2⟩,(e7 h0 (e7 h1 (e7 h2 h))).trans ?_,⟨w0,w1,w2⟩⟩
 first|rfl|(simp[aj];done)|(simp[aj];rfl)
def CS(x:aq):Prop:=(PG x.vN)∧(PG x.vD)
theorem yW:Rd tbl 43 4 ai CS:=by
 intro k xs h
 obtain⟨i,hi,hl,h⟩:=h
 rw[ay] at hi;cases hi
 obtain⟨j0,e0,l0,f0,j1,e1,l1,f1,h⟩:=h
 rw[ap] at e0;cases e0
 obtain⟨a0,h0,w0⟩:=(MX) _ _ f0
 rw[ap] at e1;cases e1
 obtain⟨a1,h1,w1⟩:=(MX) _ _ f1
 refine⟨⟨a0,a1⟩,(e7 h0 (e7 h1 h)).trans ?_,⟨w0,w1⟩⟩
 first|rfl|(simp[ai];done)|(simp[ai];rfl)
def W_Mat(x:fE):Prop:=(Wi .i64 x.vR)∧(Wi .i64 x.vC)∧(x.vV.length≤maxLen∧∀a∈x.vV,CS a)
theorem rd_Mat:Rd tbl 24 6 f6 W_Mat:=by
 intro k xs h
 obtain⟨i,hi,hl,h⟩:=h
 rw[lE] at hi;cases hi
 obtain⟨j0,e0,l0,f0,j1,e1,l1,f1,j2,e2,l2,f2,h⟩:=h
 rw[bG] at e0;cases e0
 obtain⟨a0,h0,w0⟩:=(Rd.up (rd_I bG rfl) 4) _ _ f0
 rw[bG] at e1;cases e1
 obtain⟨a1,h1,w1⟩:=(Rd.up (rd_I bG rfl) 4) _ _ f1
 rw[aM] at e2;cases e2
 obtain⟨a2,h2,w2⟩:=(K5 aM ay (yW)) _ _ f2
 refine⟨⟨a0,a1,a2⟩,(e7 h0 (e7 h1 (e7 h2 h))).trans ?_,⟨w0,w1,w2⟩⟩
 first|rfl|(simp[f6];done)|(simp[f6];rfl)
def LY(x:bY):Prop:=(W_Mat x.vA)∧(x.vB.length≤maxLen∧∀a∈x.vB,CS a)∧(x.vC.length≤maxLen∧∀a∈x.vC,CS a)
theorem Ix:Rd tbl 26 7 ci LY:=by
 intro k xs h
 obtain⟨i,hi,hl,h⟩:=h
 rw[mE] at hi;cases hi
 obtain⟨j0,e0,l0,f0,j1,e1,l1,f1,j2,e2,l2,f2,h⟩:=h
 rw[lE] at e0;cases e0
 obtain⟨a0,h0,w0⟩:=(rd_Mat) _ _ f0
 rw[aM] at e1;cases e1
 obtain⟨a1,h1,w1⟩:=(Rd.up (K5 aM ay (yW)) 1) _ _ f1
 rw[aM] at e2;cases e2
 obtain⟨a2,h2,w2⟩:=(Rd.up (K5 aM ay (yW)) 1) _ _ f2
 refine⟨⟨a0,a1,a2⟩,(e7 h0 (e7 h1 (e7 h2 h))).trans ?_,⟨w0,w1,w2⟩⟩
 first|rfl|(simp[ci];done)|(simp[ci];rfl)
def PH(x:bW):Prop:=(Wi .i64 x.vKind)∧(x.vX.length≤maxLen∧∀a∈x.vX,CS a)∧(x.vY.length≤maxLen∧∀a∈x.vY,CS a)∧(x.vRay.length≤maxLen∧∀a∈x.vRay,CS a)
theorem Ea:Rd tbl 29 6 dU PH:=by
 intro k xs h
 obtain⟨i,hi,hl,h⟩:=h
 rw[lD] at hi;cases hi
 obtain⟨j0,e0,l0,f0,j1,e1,l1,f1,j2,e2,l2,f2,j3,e3,l3,f3,h⟩:=h
 rw[bG] at e0;cases e0
 obtain⟨a0,h0,w0⟩:=(Rd.up (rd_I bG rfl) 4) _ _ f0
 rw[aM] at e1;cases e1
 obtain⟨a1,h1,w1⟩:=(K5 aM ay (yW)) _ _ f1
 rw[aM] at e2;cases e2
 obtain⟨a2,h2,w2⟩:=(K5 aM ay (yW)) _ _ f2
 rw[aM] at e3;cases e3
 obtain⟨a3,h3,w3⟩:=(K5 aM ay (yW)) _ _ f3
 refine⟨⟨a0,a1,a2,a3⟩,(e7 h0 (e7 h1 (e7 h2 (e7 h3 h)))).trans ?_,⟨w0,w1,w2,w3⟩⟩
 first|rfl|(simp[dU];done)|(simp[dU];rfl)
namespace simplexAgree
theorem own:ownKnob Tryz.prog.godebug=none:=by kernel_rfl
theorem laid:laidOutB Tryz.prog=true:=by kernel_rfl
theorem O9(H:Type)(enc:TypeId×Value→H)(W:World)(args:Array Value)(ds gs:List (DataW H))(before:List MemPlace)
  (tp:∀(j:Nat) t v,Tryz.f7.params[j]? =some t→args[j]? =some v→Value.okWide Tryz.prog W .any 0 t v∨∃base,Value.okWide Tryz.prog W .any base t v)
  (hW:DataW.Whole enc Tryz.prog Tryz.f7.params.toList Rows.simplexAnswersAgreeSpec.vars false W args.toList ds gs before):
  Calls Tryz.prog 7 args W fun e W'=>∃v,e=.returned v∧Rows.simplexAnswersAgreeSpec.post enc Tryz.prog Tryz.f7 false true false false W args v W':=by
 have hW':=hW
 obtain⟨p,q,hA0,hV,rfl,hfz,FA⟩:=hW
 have hA:DataW.TrodAll enc Tryz.prog W 0 (fun _=>true) true Tryz.f7.params.toList args.toList ds p:=hA0
 rw[Tryz.params7] at hA tp
 obtain⟨v0,vs0,d0,rI,p0,q0,t5,rfl,rfl,h0,r0⟩:=trodAll_cons hA
 obtain⟨v1,KU,d1,ds1,p1,q1,rfl,rfl,rfl,h1,r1⟩:=trodAll_cons r0
 obtain⟨v2,vs2,d2,ds2,p2,q2,rfl,rfl,rfl,h2,r2⟩:=trodAll_cons r1
 obtain⟨rfl,rfl,rfl⟩:=trodAll_nil r2
 obtain rfl:args=#[v0,v1,v2]:=by cases args;simp_all
 obtain⟨rfl,rfl⟩:=trodVars_none hV
 obtain⟨a0,b0,w0⟩:=Jt (k:=0) (t:=26) tok (by kernel_rfl) mE (Ix) (zJ (NJ tp 0 rfl rfl)) h0
 obtain⟨a1,b1,w1⟩:=Jt (k:=0) (t:=29) tok (by kernel_rfl) lD (Ea) (zJ (NJ tp 1 rfl rfl)) h1
 obtain⟨a2,b2,w2⟩:=Jt (k:=0) (t:=29) tok (by kernel_rfl) lD (Ea) (zJ (NJ tp 2 rfl rfl)) h2
 refine (says_of (pW (Qe w0.1.2.2 w0.2.1 w0.2.2 w1.2.1 w1.2.2.1 w1.2.2.2 w2.2.1 w2.2.2.1 w2.2.2.2)) rfl fun j d u hd hu=>?_).mono fun e W' hs=>?_
 ·match j,hd,hu with
  |0,hd,hu=>cases hd;cases hu;exact b0
  |1,hd,hu=>cases hd;cases hu;exact b1
  |2,hd,hu=>cases hd;cases hu;exact b2
 ·obtain⟨rfl,hb⟩:=hs
  exact⟨_,rfl,Nw laid rfl (by kernel_rfl) (by kernel_rfl) Tryz.underlying4 hW' rfl hb⟩
theorem lifted(os:Os)(started:os.Started)(H:Type)(enc:TypeId×Value→H):
  ReturnsInHanded {} Tryz.checked os 7 .any (Rows.simplexAnswersAgreeSpec.pre6 enc Tryz.prog Tryz.f7 Rows.simplexAnswersAgreeRow.domain false) (Rows.simplexAnswersAgreeSpec.post enc Tryz.prog Tryz.f7 false true false false):=by
 refine returnsInHanded_of_change_sized (C:=Tryz.checked) own started (by kernel_rfl) Tryz.func7
  (ChangeSpec.witness6 (enc:=enc) (C:=Tryz.checked) false ⟨#[],#[.agg #[.int .i64 (0),.int .i64 (0),.slice none 0 0,.slice none 0 0,.slice none 0 0],.agg #[.int .i64 (0),.slice none 0 0,.slice none 0 0,.slice none 0 0],.agg #[.int .i64 (0),.slice none 0 0,.slice none 0 0,.slice none 0 0]],[]⟩ 8 (by kernel_rfl) (by kernel_rfl) (by kernel_rfl) (by kernel_rfl)) ?_
 intro W base args ds gs before tp hW _ _ _
 exact O9 H enc W args ds gs before (fun j t v h1 h2=>.inr ⟨base,tp j t v h1 h2⟩) hW
theorem proved:Rows.SimplexAnswersAgreeSaid:=
 OpenClaim.holds_of_wide 7 Tryz.f7 rfl rfl rfl rfl rfl rfl rfl ⟨rfl,rfl,rfl,rfl,rfl⟩ rfl rfl rfl rfl rfl (by kernel_rfl) Tryz.func7 closed
  (cj (by kernel_rfl)) (by unfold Func.isWrapper;first|(rw[if_pos (by decide +kernel)];kernel_rfl)|(rw[if_neg (by decide +kernel)];exact⟨rfl,rfl⟩))
  (fun os started H enc _=>lifted os started H enc)
end simplexAgree
#print axioms simplexAgree.proved
end
end
end Go.Proofs.YtaedcknhkjpmlaaGreat
