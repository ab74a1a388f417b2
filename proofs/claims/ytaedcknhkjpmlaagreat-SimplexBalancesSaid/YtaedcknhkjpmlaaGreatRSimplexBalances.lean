/-
  SimplexBalances: Equal has an answer, which CheckEqual accepts. Conditions: none.
-/
import Derived.Test.YtaedcknhkjpmlaaGreatL9
set_option linter.all false
set_option maxRecDepth 100000
namespace Go.Proofs.YtaedcknhkjpmlaaGreat
open Go.RowKit Go.IntKind Tryz Go.Proofs.Tryz
noncomputable section
section
open Go.ChangeShapes Go.WideShapes Go.ChangeAt Go.RowKit Go.ChangeMaps
def Vh(x:ap):Prop:=(True)∧(True)∧(∀a∈x.vW.toList,Wi .u32 a)
theorem Si:Rd tbl 41 3 aq Vh:=by
 intro k xs h
 obtain⟨i,hi,hl,h⟩:=h
 rw[fy] at hi;cases hi
 obtain⟨j0,e0,l0,f0,j1,e1,l1,f1,j2,e2,l2,f2,h⟩:=h
 rw[uY] at e0;cases e0
 obtain⟨a0,h0,w0⟩:=(Rd.up (rd_B uY rfl) 1) _ _ f0
 rw[uY] at e1;cases e1
 obtain⟨a1,h1,w1⟩:=(Rd.up (rd_B uY rfl) 1) _ _ f1
 rw[c5] at e2;cases e2
 obtain⟨a2,h2,w2⟩:=(rd_A c5 bX (rd_I bX rfl)) _ _ f2
 refine⟨⟨a0,a1,a2⟩,(mu h0 (mu h1 (mu h2 h))).trans ?_,⟨w0,w1,w2⟩⟩
 first|rfl|(simp[aq];done)|(simp[aq];rfl)
def W_Rat(x:am):Prop:=(Vh x.vN)∧(Vh x.vD)
theorem Io:Rd tbl 43 4 aj W_Rat:=by
 intro k xs h
 obtain⟨i,hi,hl,h⟩:=h
 rw[aQ] at hi;cases hi
 obtain⟨j0,e0,l0,f0,j1,e1,l1,f1,h⟩:=h
 rw[fy] at e0;cases e0
 obtain⟨a0,h0,w0⟩:=(Si) _ _ f0
 rw[fy] at e1;cases e1
 obtain⟨a1,h1,w1⟩:=(Si) _ _ f1
 refine⟨⟨a0,a1⟩,(mu h0 (mu h1 h)).trans ?_,⟨w0,w1⟩⟩
 first|rfl|(simp[aj];done)|(simp[aj];rfl)
def W_Mat(x:eZ):Prop:=(Wi .i64 x.vR)∧(Wi .i64 x.vC)∧(x.vV.length≤maxLen∧∀a∈x.vV,W_Rat a)
theorem rd_Mat:Rd tbl 24 6 mh W_Mat:=by
 intro k xs h
 obtain⟨i,hi,hl,h⟩:=h
 rw[yH] at hi;cases hi
 obtain⟨j0,e0,l0,f0,j1,e1,l1,f1,j2,e2,l2,f2,h⟩:=h
 rw[d8] at e0;cases e0
 obtain⟨a0,h0,w0⟩:=(Rd.up (rd_I d8 rfl) 4) _ _ f0
 rw[d8] at e1;cases e1
 obtain⟨a1,h1,w1⟩:=(Rd.up (rd_I d8 rfl) 4) _ _ f1
 rw[cg] at e2;cases e2
 obtain⟨a2,h2,w2⟩:=(rd_L cg aQ (Io)) _ _ f2
 refine⟨⟨a0,a1,a2⟩,(mu h0 (mu h1 (mu h2 h))).trans ?_,⟨w0,w1,w2⟩⟩
 first|rfl|(simp[mh];done)|(simp[mh];rfl)
namespace simplexBalances
theorem own:ownKnob prog.godebug=none:=by kernel_rfl
theorem laid:laidOutB prog=true:=by kernel_rfl
theorem UB(H:Type)(enc:TypeId×Value→H)(W:World)(args:Array Value)(ds gs:List (DataW H))(before:List MemPlace)
  (ur:∀(j:Nat) t v,f9.params[j]? =some t→args[j]? =some v→Value.okWide prog W .any 0 t v∨∃base,Value.okWide prog W .any base t v)
  (hW:DataW.Whole enc prog f9.params.toList Rows.simplexBalancesSpec.vars false W args.toList ds gs before):
  Calls prog 9 args W fun e W'=>∃v,e=.returned v∧Rows.simplexBalancesSpec.post enc prog f9 false true false false W args v W':=by
 have hW':=hW
 obtain⟨p,q,hA0,hV,rfl,hfz,AP⟩:=hW
 have hA:DataW.TrodAll enc prog W 0 (fun _=>true) true f9.params.toList args.toList ds p:=hA0
 rw[params9] at hA ur
 obtain⟨v0,vs0,d0,tB,p0,q0,wm,rfl,rfl,h0,r0⟩:=trodAll_cons hA
 obtain⟨v1,P8,d1,ds1,p1,q1,rfl,rfl,rfl,h1,r1⟩:=trodAll_cons r0
 obtain⟨v2,vs2,d2,ds2,p2,q2,rfl,rfl,rfl,h2,r2⟩:=trodAll_cons r1
 obtain⟨v3,vs3,d3,ds3,p3,q3,rfl,rfl,rfl,h3,r3⟩:=trodAll_cons r2
 obtain⟨rfl,rfl,rfl⟩:=trodAll_nil r3
 obtain rfl:args=#[v0,v1,v2,v3]:=by cases args;simp_all
 obtain⟨rfl,rfl⟩:=trodVars_none hV
 obtain⟨a0,b0,w0⟩:=Jf (k:=0) (t:=24) tok (by kernel_rfl) yH (rd_Mat) (zU (O0 ur 0 rfl rfl)) h0
 obtain⟨a1,b1,w1⟩:=Jf (k:=0) (t:=22) tok (by kernel_rfl) cg (rd_L cg aQ (Io)) (zU (O0 ur 1 rfl rfl)) h1
 obtain⟨a2,b2,w2⟩:=Jf (k:=0) (t:=22) tok (by kernel_rfl) cg (rd_L cg aQ (Io)) (zU (O0 ur 2 rfl rfl)) h2
 obtain⟨a3,b3,w3⟩:=Jf (k:=0) (t:=22) tok (by kernel_rfl) cg (rd_L cg aQ (Io)) (zU (O0 ur 3 rfl rfl)) h3
 refine (says_of (ub (Me w0.2.2 w2 w1 w3)) rfl fun j d u hd hu=>?_).mono fun e W' hs=>?_
 ·match j,hd,hu with
  |0,hd,hu=>cases hd;cases hu;exact b0
  |1,hd,hu=>cases hd;cases hu;exact b1
  |2,hd,hu=>cases hd;cases hu;exact b2
  |3,hd,hu=>cases hd;cases hu;exact b3
 ·obtain⟨rfl,hb⟩:=hs
  exact⟨_,rfl,SR laid rfl (by kernel_rfl) (by kernel_rfl) underlying4 hW' rfl hb⟩
theorem lifted(os:Os)(started:os.Started)(H:Type)(enc:TypeId×Value→H):
  ReturnsInHanded {} checked os 9 .any (Rows.simplexBalancesSpec.pre6 enc prog f9 Rows.simplexBalancesRow.domain false) (Rows.simplexBalancesSpec.post enc prog f9 false true false false):=by
 refine returnsInHanded_of_change_sized (C:=checked) own started (by kernel_rfl) func9
  (ChangeSpec.witness6 (enc:=enc) (C:=checked) false ⟨#[],#[.agg #[.int .i64 (0),.int .i64 (0),.slice none 0 0],.slice none 0 0,.slice none 0 0,.slice none 0 0],[]⟩ 8 (by kernel_rfl) (by kernel_rfl) (by kernel_rfl) (by kernel_rfl)) ?_
 intro W base args ds gs before ur hW _ _ _
 exact UB H enc W args ds gs before (fun j t v h1 h2=>.inr ⟨base,ur j t v h1 h2⟩) hW
theorem proved:Rows.SimplexBalancesSaid:=
 OpenClaim.holds_of_wide 9 f9 rfl rfl rfl rfl rfl rfl rfl ⟨rfl,rfl,rfl,rfl,rfl⟩ rfl rfl rfl rfl rfl (by kernel_rfl) func9 closed
  (bq (by kernel_rfl)) (by unfold Func.isWrapper;first|(rw[ah (by decide +kernel)];kernel_rfl)|(rw[ai (by decide +kernel)];exact⟨rfl,rfl⟩))
  (fun os started H enc _=>lifted os started H enc)
end simplexBalances
#print axioms simplexBalances.proved
end
end
end Go.Proofs.YtaedcknhkjpmlaaGreat
