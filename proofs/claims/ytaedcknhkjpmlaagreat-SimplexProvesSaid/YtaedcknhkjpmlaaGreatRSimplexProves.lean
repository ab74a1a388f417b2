/-
  SimplexProves: Solve has an answer for every small program of integers, and Check accepts it. Conditions: none.
-/
import Derived.Test.YtaedcknhkjpmlaaGreatP9
import Derived.Test.YtaedcknhkjpmlaaGreatRows
set_option linter.all false
set_option maxRecDepth 100000
namespace Go.Proofs.YtaedcknhkjpmlaaGreat
open Go.RowKit Go.IntKind Tryz Go.Proofs.Tryz
noncomputable section
section
open Go.ChangeShapes Go.WideShapes Go.ChangeAt Go.RowKit Go.ChangeMaps
def Ub(x:ap):Prop:=(True)∧(True)∧(∀a∈x.vW.toList,Wi .u32 a)
theorem Rc:Rd tbl 41 3 aq Ub:=by
 intro k xs h
 obtain⟨i,hi,hl,h⟩:=h
 rw[eY] at hi;cases hi
 obtain⟨j0,e0,l0,f0,j1,e1,l1,f1,j2,e2,l2,f2,h⟩:=h
 rw[ud] at e0;cases e0
 obtain⟨a0,h0,w0⟩:=(Rd.up (rd_B ud rfl) 1) _ _ f0
 rw[ud] at e1;cases e1
 obtain⟨a1,h1,w1⟩:=(Rd.up (rd_B ud rfl) 1) _ _ f1
 rw[cQ] at e2;cases e2
 obtain⟨a2,h2,w2⟩:=(rd_A cQ bO (rd_I bO rfl)) _ _ f2
 refine⟨⟨a0,a1,a2⟩,(il h0 (il h1 (il h2 h))).trans ?_,⟨w0,w1,w2⟩⟩
 first|rfl|(simp[aq];done)|(simp[aq];rfl)
def OE(x:ao):Prop:=(Ub x.vN)∧(Ub x.vD)
theorem Lv:Rd tbl 43 4 al OE:=by
 intro k xs h
 obtain⟨i,hi,hl,h⟩:=h
 rw[aT] at hi;cases hi
 obtain⟨j0,e0,l0,f0,j1,e1,l1,f1,h⟩:=h
 rw[eY] at e0;cases e0
 obtain⟨a0,h0,w0⟩:=(Rc) _ _ f0
 rw[eY] at e1;cases e1
 obtain⟨a1,h1,w1⟩:=(Rc) _ _ f1
 refine⟨⟨a0,a1⟩,(il h0 (il h1 h)).trans ?_,⟨w0,w1⟩⟩
 first|rfl|(simp[al];done)|(simp[al];rfl)
def W_Mat(x:fU):Prop:=(Wi .i64 x.vR)∧(Wi .i64 x.vC)∧(x.vV.length≤maxLen∧∀a∈x.vV,OE a)
theorem rd_Mat:Rd tbl 24 6 mJ W_Mat:=by
 intro k xs h
 obtain⟨i,hi,hl,h⟩:=h
 rw[xG] at hi;cases hi
 obtain⟨j0,e0,l0,f0,j1,e1,l1,f1,j2,e2,l2,f2,h⟩:=h
 rw[dU] at e0;cases e0
 obtain⟨a0,h0,w0⟩:=(Rd.up (rd_I dU rfl) 4) _ _ f0
 rw[dU] at e1;cases e1
 obtain⟨a1,h1,w1⟩:=(Rd.up (rd_I dU rfl) 4) _ _ f1
 rw[ct] at e2;cases e2
 obtain⟨a2,h2,w2⟩:=(rd_L ct aT (Lv)) _ _ f2
 refine⟨⟨a0,a1,a2⟩,(il h0 (il h1 (il h2 h))).trans ?_,⟨w0,w1,w2⟩⟩
 first|rfl|(simp[mJ];done)|(simp[mJ];rfl)
def P7(x:bm):Prop:=(W_Mat x.vA)∧(x.vB.length≤maxLen∧∀a∈x.vB,OE a)∧(x.vC.length≤maxLen∧∀a∈x.vC,OE a)
theorem Lw:Rd tbl 26 7 dY P7:=by
 intro k xs h
 obtain⟨i,hi,hl,h⟩:=h
 rw[uZ] at hi;cases hi
 obtain⟨j0,e0,l0,f0,j1,e1,l1,f1,j2,e2,l2,f2,h⟩:=h
 rw[xG] at e0;cases e0
 obtain⟨a0,h0,w0⟩:=(rd_Mat) _ _ f0
 rw[ct] at e1;cases e1
 obtain⟨a1,h1,w1⟩:=(Rd.up (rd_L ct aT (Lv)) 1) _ _ f1
 rw[ct] at e2;cases e2
 obtain⟨a2,h2,w2⟩:=(Rd.up (rd_L ct aT (Lv)) 1) _ _ f2
 refine⟨⟨a0,a1,a2⟩,(il h0 (il h1 (il h2 h))).trans ?_,⟨w0,w1,w2⟩⟩
 first|rfl|(simp[dY];done)|(simp[dY];rfl)
namespace simplexProves
theorem own:ownKnob prog.godebug=none:=by kernel_rfl
theorem laid:laidOutB prog=true:=by kernel_rfl
theorem Tu(H:Type)(enc:TypeId×Value→H)(W:World)(args:Array Value)(ds gs:List (DataW H))(before:List MemPlace)
  (wl:∀(j:Nat) t v,f6.params[j]? =some t→args[j]? =some v→Value.okWide prog W .any 0 t v∨∃base,Value.okWide prog W .any base t v)
  (hW:DataW.Whole enc prog f6.params.toList Rows.simplexProvesSpec.vars false W args.toList ds gs before):
  Calls prog 6 args W fun e W'=>∃v,e=.returned v∧Rows.simplexProvesSpec.post enc prog f6 false true false false W args v W':=by
 have hW':=hW
 obtain⟨p,q,hA0,hV,rfl,hfz,zV⟩:=hW
 have hA:DataW.TrodAll enc prog W 0 (fun _=>true) true f6.params.toList args.toList ds p:=hA0
 rw[params6] at hA wl
 obtain⟨v0,vs0,d0,sG,p0,q0,ve,rfl,rfl,h0,r0⟩:=trodAll_cons hA
 obtain⟨rfl,rfl,rfl⟩:=trodAll_nil r0
 obtain rfl:args=#[v0]:=by cases args;simp_all
 obtain⟨rfl,rfl⟩:=trodVars_none hV
 obtain⟨a0,b0,w0⟩:=arg_of (k:=0) (t:=26) tok (by kernel_rfl) uZ (Lw) (Io (hv_of wl 0 rfl rfl)) h0
 refine (says_of (vo (Qa w0.1.2.2 w0.2.1 w0.2.2)) rfl fun j d u hd hu=>?_).mono fun e W' hs=>?_
 ·match j,hd,hu with
  |0,hd,hu=>cases hd;cases hu;exact b0
 ·obtain⟨rfl,hb⟩:=hs
  exact⟨_,rfl,RK laid rfl (by kernel_rfl) (by kernel_rfl) underlying4 hW' rfl hb⟩
theorem lifted(os:Os)(started:os.Started)(H:Type)(enc:TypeId×Value→H):
  ReturnsInHanded {} checked os 6 .any (Rows.simplexProvesSpec.pre6 enc prog f6 Rows.simplexProvesRow.domain false) (Rows.simplexProvesSpec.post enc prog f6 false true false false):=by
 refine returnsInHanded_of_change_sized (C:=checked) own started (by kernel_rfl) func6
  (ChangeSpec.witness6 (enc:=enc) (C:=checked) false ⟨#[],#[.agg #[.int .i64 (0),.int .i64 (0),.slice none 0 0,.slice none 0 0,.slice none 0 0]],[]⟩ 8 (by kernel_rfl) (by kernel_rfl) (by kernel_rfl) (by kernel_rfl)) ?_
 intro W base args ds gs before wl hW _ _ _
 exact Tu H enc W args ds gs before (fun j t v h1 h2=>.inr ⟨base,wl j t v h1 h2⟩) hW
theorem proved:Rows.SimplexProvesSaid:=
 OpenClaim.holds_of_wide 6 f6 rfl rfl rfl rfl rfl rfl rfl ⟨rfl,rfl,rfl,rfl,rfl⟩ rfl rfl rfl rfl rfl (by kernel_rfl) func6 closed
  (bA (by kernel_rfl)) (by unfold Func.isWrapper;first|(rw[ai (by decide +kernel)];kernel_rfl)|(rw[ah (by decide +kernel)];exact⟨rfl,rfl⟩))
  (fun os started H enc _=>lifted os started H enc)
end simplexProves
#print axioms simplexProves.proved
end
end
end Go.Proofs.YtaedcknhkjpmlaaGreat
