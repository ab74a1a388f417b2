/-
  MatrixMultiplies: determinants of products, inverses. Conditions: none.
-/
import Derived.Test.YtgfcnncojhkcoaaGreatY7
import Derived.Test.YtgfcnncojhkcoaaGreatRows
set_option linter.all false
set_option maxRecDepth 100000
namespace Go.Proofs.YtgfcnncojhkcoaaGreat
open Go.RowKit Go.IntKind Tryz Go.Proofs.Tryz
noncomputable section
section
open Go.ChangeShapes Go.WideShapes Go.ChangeAt Go.RowKit Go.ChangeMaps
def O6(x:aq):Prop:=(True)∧(True)∧(∀a∈x.vW.toList,Wi .u32 a)
theorem MF:Rd tbl 32 3 ap O6:=by
 intro k xs h
 obtain⟨i,hi,hl,h⟩:=h
 rw[ax] at hi;cases hi
 obtain⟨j0,e0,l0,f0,j1,e1,l1,f1,j2,e2,l2,f2,h⟩:=h
 rw[gp] at e0;cases e0
 obtain⟨a0,h0,w0⟩:=(Rd.up (rd_B gp rfl) 1) _ _ f0
 rw[gp] at e1;cases e1
 obtain⟨a1,h1,w1⟩:=(Rd.up (rd_B gp rfl) 1) _ _ f1
 rw[aF] at e2;cases e2
 obtain⟨a2,h2,w2⟩:=(rd_A aF aI (rd_I aI rfl)) _ _ f2
 refine⟨⟨a0,a1,a2⟩,(kU h0 (kU h1 (kU h2 h))).trans ?_,⟨w0,w1,w2⟩⟩
 first|rfl|(simp[ap];done)|(simp[ap];rfl)
def W_Rat(x:ak):Prop:=(O6 x.vN)∧(O6 x.vD)
theorem rd_Rat:Rd tbl 34 4 aj W_Rat:=by
 intro k xs h
 obtain⟨i,hi,hl,h⟩:=h
 rw[aA] at hi;cases hi
 obtain⟨j0,e0,l0,f0,j1,e1,l1,f1,h⟩:=h
 rw[ax] at e0;cases e0
 obtain⟨a0,h0,w0⟩:=(MF) _ _ f0
 rw[ax] at e1;cases e1
 obtain⟨a1,h1,w1⟩:=(MF) _ _ f1
 refine⟨⟨a0,a1⟩,(kU h0 (kU h1 h)).trans ?_,⟨w0,w1⟩⟩
 first|rfl|(simp[aj];done)|(simp[aj];rfl)
def W_Mat(x:aB):Prop:=(Wi .i64 x.vR)∧(Wi .i64 x.vC)∧(x.vV.length≤maxLen∧∀a∈x.vV,W_Rat a)
theorem ME:Rd tbl 24 6 aQ W_Mat:=by
 intro k xs h
 obtain⟨i,hi,hl,h⟩:=h
 rw[av] at hi;cases hi
 obtain⟨j0,e0,l0,f0,j1,e1,l1,f1,j2,e2,l2,f2,h⟩:=h
 rw[aY] at e0;cases e0
 obtain⟨a0,h0,w0⟩:=(Rd.up (rd_I aY rfl) 4) _ _ f0
 rw[aY] at e1;cases e1
 obtain⟨a1,h1,w1⟩:=(Rd.up (rd_I aY rfl) 4) _ _ f1
 rw[aP] at e2;cases e2
 obtain⟨a2,h2,w2⟩:=(rd_L aP aA (rd_Rat)) _ _ f2
 refine⟨⟨a0,a1,a2⟩,(kU h0 (kU h1 (kU h2 h))).trans ?_,⟨w0,w1,w2⟩⟩
 first|rfl|(simp[aQ];done)|(simp[aQ];rfl)
namespace matrixMultiplies
theorem own:ownKnob prog.godebug=none:=by kernel_rfl
theorem laid:laidOutB prog=true:=by kernel_rfl
theorem OB(H:Type)(enc:TypeId×Value→H)(W:World)(args:Array Value)(ds gs:List (DataW H))(before:List MemPlace)
  (uh:∀(j:Nat) t v,f7.params[j]? =some t→args[j]? =some v→Value.okWide prog W .any 0 t v∨∃base,Value.okWide prog W .any base t v)
  (hW:DataW.Whole enc prog f7.params.toList Rows.matrixMultipliesSpec.vars false W args.toList ds gs before):
  Calls prog 7 args W fun e W'=>∃v,e=.returned v∧Rows.matrixMultipliesSpec.post enc prog f7 false true false false W args v W':=by
 have hW':=hW
 obtain⟨p,q,hA0,hV,rfl,hfz,vY⟩:=hW
 have hA:DataW.TrodAll enc prog W 0 (fun _=>true) true f7.params.toList args.toList ds p:=hA0
 rw[params7] at hA uh
 obtain⟨v0,vs0,d0,tz,p0,q0,qE,rfl,rfl,h0,r0⟩:=trodAll_cons hA
 obtain⟨v1,vs1,d1,ds1,p1,q1,rfl,rfl,rfl,h1,r1⟩:=trodAll_cons r0
 obtain⟨rfl,rfl,rfl⟩:=trodAll_nil r1
 obtain rfl:args=#[v0,v1]:=by cases args;simp_all
 obtain⟨rfl,rfl⟩:=trodVars_none hV
 obtain⟨a0,b0,w0⟩:=OW (k:=0) (t:=24) tok (by kernel_rfl) av (ME) (Bs (hv_of uh 0 rfl rfl)) h0
 obtain⟨a1,b1,w1⟩:=OW (k:=0) (t:=24) tok (by kernel_rfl) av (ME) (Bs (hv_of uh 1 rfl rfl)) h1
 refine (says_of (qO (CE w0.2.2 w1.2.2)) rfl fun j d u hd hu=>?_).mono fun e W' hs=>?_
 ·match j,hd,hu with
  |0,hd,hu=>cases hd;cases hu;exact b0
  |1,hd,hu=>cases hd;cases hu;exact b1
 ·obtain⟨rfl,hb⟩:=hs
  exact⟨_,rfl,M6 laid rfl (by kernel_rfl) (by kernel_rfl) underlying4 hW' rfl hb⟩
theorem lifted(os:Os)(started:os.Started)(H:Type)(enc:TypeId×Value→H):
  ReturnsInHanded {} checked os 7 .any (Rows.matrixMultipliesSpec.pre6 enc prog f7 Rows.matrixMultipliesRow.domain false) (Rows.matrixMultipliesSpec.post enc prog f7 false true false false):=by
 refine returnsInHanded_of_change_sized (C:=checked) own started (by kernel_rfl) func7
  (ChangeSpec.witness6 (enc:=enc) (C:=checked) false ⟨#[],#[.agg #[.int .i64 (0),.int .i64 (0),.slice none 0 0],.agg #[.int .i64 (0),.int .i64 (0),.slice none 0 0]],[]⟩ 8 (by kernel_rfl) (by kernel_rfl) (by kernel_rfl) (by kernel_rfl)) ?_
 intro W base args ds gs before uh hW _ _ _
 exact OB H enc W args ds gs before (fun j t v h1 h2=>.inr ⟨base,uh j t v h1 h2⟩) hW
theorem proved:Rows.MatrixMultipliesSaid:=
 OpenClaim.holds_of_wide 7 f7 rfl rfl rfl rfl rfl rfl rfl ⟨rfl,rfl,rfl,rfl,rfl⟩ rfl rfl rfl rfl rfl (by kernel_rfl) func7 closed
  (pi (by kernel_rfl)) (by unfold Func.isWrapper;first|(rw[az (by decide +kernel)];kernel_rfl)|(rw[ay (by decide +kernel)];exact⟨rfl,rfl⟩))
  (fun os started H enc _=>lifted os started H enc)
end matrixMultiplies
#print axioms matrixMultiplies.proved
end
end
end Go.Proofs.YtgfcnncojhkcoaaGreat
