/-
  SimplexChecksAsSpecified: Check returns what the specification returns. Conditions: none.
-/
import Derived.Test.YtaedcknhkjpmlaaGreatK8
import Derived.Test.YtaedcknhkjpmlaaGreatRows
set_option linter.all false
set_option maxRecDepth 100000
namespace Go.Proofs.YtaedcknhkjpmlaaGreat
open Go.RowKit Go.IntKind
noncomputable section
section
open Go.ChangeShapes Go.WideShapes Go.ChangeAt Go.RowKit Go.ChangeMaps
def Qs(x:av):Prop:=(True)∧(True)∧(∀a∈x.vW.toList,Wi .u32 a)
theorem NI:Rd tbl 41 3 aj Qs:=by
 intro k xs h
 obtain⟨i,hi,hl,h⟩:=h
 rw[am] at hi;cases hi
 obtain⟨j0,e0,l0,f0,j1,e1,l1,f1,j2,e2,l2,f2,h⟩:=h
 rw[ey] at e0;cases e0
 obtain⟨a0,h0,w0⟩:=(Rd.up (rd_B ey rfl) 1) _ _ f0
 rw[ey] at e1;cases e1
 obtain⟨a1,h1,w1⟩:=(Rd.up (rd_B ey rfl) 1) _ _ f1
 rw[aA] at e2;cases e2
 obtain⟨a2,h2,w2⟩:=(rd_A aA aI (rd_I aI rfl)) _ _ f2
 refine⟨⟨a0,a1,a2⟩,(ff h0 (ff h1 (ff h2 h))).trans ?_,⟨w0,w1,w2⟩⟩
 first|rfl|(simp[aj];done)|(simp[aj];rfl)
def DA(x:ao):Prop:=(Qs x.vN)∧(Qs x.vD)
theorem zZ:Rd tbl 43 4 ai DA:=by
 intro k xs h
 obtain⟨i,hi,hl,h⟩:=h
 rw[aw] at hi;cases hi
 obtain⟨j0,e0,l0,f0,j1,e1,l1,f1,h⟩:=h
 rw[am] at e0;cases e0
 obtain⟨a0,h0,w0⟩:=(NI) _ _ f0
 rw[am] at e1;cases e1
 obtain⟨a1,h1,w1⟩:=(NI) _ _ f1
 refine⟨⟨a0,a1⟩,(ff h0 (ff h1 h)).trans ?_,⟨w0,w1⟩⟩
 first|rfl|(simp[ai];done)|(simp[ai];rfl)
def W_Mat(x:et):Prop:=(Wi .i64 x.vR)∧(Wi .i64 x.vC)∧(x.vV.length≤maxLen∧∀a∈x.vV,DA a)
theorem rd_Mat:Rd tbl 24 6 eN W_Mat:=by
 intro k xs h
 obtain⟨i,hi,hl,h⟩:=h
 rw[iS] at hi;cases hi
 obtain⟨j0,e0,l0,f0,j1,e1,l1,f1,j2,e2,l2,f2,h⟩:=h
 rw[bE] at e0;cases e0
 obtain⟨a0,h0,w0⟩:=(Rd.up (rd_I bE rfl) 4) _ _ f0
 rw[bE] at e1;cases e1
 obtain⟨a1,h1,w1⟩:=(Rd.up (rd_I bE rfl) 4) _ _ f1
 rw[aH] at e2;cases e2
 obtain⟨a2,h2,w2⟩:=(LN aH aw (zZ)) _ _ f2
 refine⟨⟨a0,a1,a2⟩,(ff h0 (ff h1 (ff h2 h))).trans ?_,⟨w0,w1,w2⟩⟩
 first|rfl|(simp[eN];done)|(simp[eN];rfl)
def MM(x:bR):Prop:=(W_Mat x.vA)∧(x.vB.length≤maxLen∧∀a∈x.vB,DA a)∧(x.vC.length≤maxLen∧∀a∈x.vC,DA a)
theorem Ji:Rd tbl 26 7 b9 MM:=by
 intro k xs h
 obtain⟨i,hi,hl,h⟩:=h
 rw[m5] at hi;cases hi
 obtain⟨j0,e0,l0,f0,j1,e1,l1,f1,j2,e2,l2,f2,h⟩:=h
 rw[iS] at e0;cases e0
 obtain⟨a0,h0,w0⟩:=(rd_Mat) _ _ f0
 rw[aH] at e1;cases e1
 obtain⟨a1,h1,w1⟩:=(Rd.up (LN aH aw (zZ)) 1) _ _ f1
 rw[aH] at e2;cases e2
 obtain⟨a2,h2,w2⟩:=(Rd.up (LN aH aw (zZ)) 1) _ _ f2
 refine⟨⟨a0,a1,a2⟩,(ff h0 (ff h1 (ff h2 h))).trans ?_,⟨w0,w1,w2⟩⟩
 first|rfl|(simp[b9];done)|(simp[b9];rfl)
def Qt(x:bP):Prop:=(Wi .i64 x.vKind)∧(x.vX.length≤maxLen∧∀a∈x.vX,DA a)∧(x.vY.length≤maxLen∧∀a∈x.vY,DA a)∧(x.vRay.length≤maxLen∧∀a∈x.vRay,DA a)
theorem LO:Rd tbl 29 6 dJ Qt:=by
 intro k xs h
 obtain⟨i,hi,hl,h⟩:=h
 rw[ma] at hi;cases hi
 obtain⟨j0,e0,l0,f0,j1,e1,l1,f1,j2,e2,l2,f2,j3,e3,l3,f3,h⟩:=h
 rw[bE] at e0;cases e0
 obtain⟨a0,h0,w0⟩:=(Rd.up (rd_I bE rfl) 4) _ _ f0
 rw[aH] at e1;cases e1
 obtain⟨a1,h1,w1⟩:=(LN aH aw (zZ)) _ _ f1
 rw[aH] at e2;cases e2
 obtain⟨a2,h2,w2⟩:=(LN aH aw (zZ)) _ _ f2
 rw[aH] at e3;cases e3
 obtain⟨a3,h3,w3⟩:=(LN aH aw (zZ)) _ _ f3
 refine⟨⟨a0,a1,a2,a3⟩,(ff h0 (ff h1 (ff h2 (ff h3 h)))).trans ?_,⟨w0,w1,w2,w3⟩⟩
 first|rfl|(simp[dJ];done)|(simp[dJ];rfl)
namespace simplexChecks
theorem own:ownKnob Tryz.prog.godebug=none:=by kernel_rfl
theorem laid:laidOutB Tryz.prog=true:=by kernel_rfl
theorem P4(H:Type)(enc:TypeId×Value→H)(W:World)(args:Array Value)(ds gs:List (DataW H))(before:List MemPlace)
  (uU:∀(j:Nat) t v,Tryz.f4.params[j]? =some t→args[j]? =some v→Value.okWide Tryz.prog W .any 0 t v∨∃base,Value.okWide Tryz.prog W .any base t v)
  (hW:DataW.Whole enc Tryz.prog Tryz.f4.params.toList Rows.simplexChecksAsSpecifiedSpec.vars false W args.toList ds gs before):
  Calls Tryz.prog 4 args W fun e W'=>∃v,e=.returned v∧Rows.simplexChecksAsSpecifiedSpec.post enc Tryz.prog Tryz.f4 false true false false W args v W':=by
 have hW':=hW
 obtain⟨p,q,hA0,hV,rfl,hfz,Gn⟩:=hW
 have hA:DataW.TrodAll enc Tryz.prog W 0 (fun _=>true) true Tryz.f4.params.toList args.toList ds p:=hA0
 rw[Tryz.params4] at hA uU
 obtain⟨v0,vs0,d0,sm,p0,q0,uH,rfl,rfl,h0,r0⟩:=trodAll_cons hA
 obtain⟨v1,LD,d1,ds1,p1,q1,rfl,rfl,rfl,h1,r1⟩:=trodAll_cons r0
 obtain⟨rfl,rfl,rfl⟩:=trodAll_nil r1
 obtain rfl:args=#[v0,v1]:=by cases args;simp_all
 obtain⟨rfl,rfl⟩:=trodVars_none hV
 obtain⟨a0,b0,w0⟩:=Qo (k:=0) (t:=26) tok (by kernel_rfl) m5 (Ji) (Do (hv_of uU 0 rfl rfl)) h0
 obtain⟨a1,b1,w1⟩:=Qo (k:=0) (t:=29) tok (by kernel_rfl) ma (LO) (Do (hv_of uU 1 rfl rfl)) h1
 refine (says_of (oe (MS w0.1.2.2 w0.2.1 w0.2.2 w1.2.1 w1.2.2.1 w1.2.2.2)) rfl fun j d u hd hu=>?_).mono fun e W' hs=>?_
 ·match j,hd,hu with
  |0,hd,hu=>cases hd;cases hu;exact b0
  |1,hd,hu=>cases hd;cases hu;exact b1
 ·obtain⟨rfl,hb⟩:=hs
  exact⟨_,rfl,Oi laid rfl (by kernel_rfl) (by kernel_rfl) Tryz.underlying4 hW' rfl hb⟩
theorem lifted(os:Os)(started:os.Started)(H:Type)(enc:TypeId×Value→H):
  ReturnsInHanded {} Tryz.checked os 4 .any (Rows.simplexChecksAsSpecifiedSpec.pre6 enc Tryz.prog Tryz.f4 Rows.simplexChecksAsSpecifiedRow.domain false) (Rows.simplexChecksAsSpecifiedSpec.post enc Tryz.prog Tryz.f4 false true false false):=by
 refine returnsInHanded_of_change_sized (C:=Tryz.checked) own started (by kernel_rfl) Tryz.func4
  (ChangeSpec.witness6 (enc:=enc) (C:=Tryz.checked) false ⟨#[],#[.agg #[.int .i64 (0),.int .i64 (0),.slice none 0 0,.slice none 0 0,.slice none 0 0],.agg #[.int .i64 (0),.slice none 0 0,.slice none 0 0,.slice none 0 0]],[]⟩ 8 (by kernel_rfl) (by kernel_rfl) (by kernel_rfl) (by kernel_rfl)) ?_
 intro W base args ds gs before uU hW _ _ _
 exact P4 H enc W args ds gs before (fun j t v h1 h2=>.inr ⟨base,uU j t v h1 h2⟩) hW
theorem proved:Rows.SimplexChecksAsSpecifiedSaid:=
 OpenClaim.holds_of_wide 4 Tryz.f4 rfl rfl rfl rfl rfl rfl rfl ⟨rfl,rfl,rfl,rfl,rfl⟩ rfl rfl rfl rfl rfl (by kernel_rfl) Tryz.func4 closed
  (da (by kernel_rfl)) (by unfold Func.isWrapper;first|(rw[if_pos (by decide +kernel)];kernel_rfl)|(rw[if_neg (by decide +kernel)];exact⟨rfl,rfl⟩))
  (fun os started H enc _=>lifted os started H enc)
end simplexChecks
#print axioms simplexChecks.proved
end
end
end Go.Proofs.YtaedcknhkjpmlaaGreat
