/-
  Lemmas, part 8. Conditions: none.
-/
import Derived.Test.YtgfcnncojhkcoaaGreatX7
import Derived.Test.YtgfcnncojhkcoaaGreatRows
import Derived.ProofKit
import Derived.OpenShut
import Derived.ChangeSame
import Derived.Deep.Slices
import Derived.JoinedCond
import Derived.SizedLaws
import Derived.Deep.CondSized
set_option linter.all false
set_option maxRecDepth 100000
set_option maxHeartbeats 40000000
namespace Go.Proofs.YtgfcnncojhkcoaaGreat
open Go.RowKit Go.IntKind Tryz Go.Proofs.Tryz
noncomputable section
structure S_Reduced where
 vM:ap
 vP:List Int
 vBy:List aj
 vOdd:Bool
 vE:Int
 vRows:Int
 deriving Inhabited,DecidableEq
def c_Reduced:Cd S_Reduced:=⟨8,fun x=>aE.f x.vM++[slE (cI .i64) x.vP,slE ae x.vBy,.lit (.bool x.vOdd),.lit (.int .i64 x.vE),.lit (.int .i64 x.vRows)],fun x=>by simp[aE.h,show aE.sz=3 from rfl]⟩
def g_ref07_nonzero_l7(cQ:ap)(fj:Int):Int→Option (Int⊕(Int⊕Unit)):=fun be=>cnd (decide (be<cQ.vR)) (gd (0≤i64.wrap ((i64.wrap (be*cQ.vC))+fj)∧i64.wrap ((i64.wrap (be*cQ.vC))+fj)<((cQ.vV).length:Int)) (bnd (g_ref04_Sign ((cQ.vV)[(i64.wrap ((i64.wrap (be*cQ.vC))+fj)).toNat]!)) fun x4=>cnd (decide (x4≠(0:Int))) (some (.inr (.inl be))) (some (.inl (i64.wrap (be+(1:Int))))))) (some (.inr (.inr ())))
def g_ref07_nonzero(cQ:ap)(p_row:Int)(fj:Int):Option Int:=bnd (bf (g_ref07_nonzero_l7 cQ fj) p_row) fun y7=>match y7 with| .inl r=>some r| .inr ()=>some (-1:Int)
theorem w_ref07_nonzero {cQ:ap}{p_row:Int}{fj:Int}{r:Int}(h:g_ref07_nonzero cQ p_row fj=some r):aB prog 67 [dG aE cQ,dI .i64 p_row,dI .i64 fj] (dI .i64 r):=by
 refine bC (rs:=[.tmp 6]) (fun cx hx h0=>?_) func67
 unfold g_ref07_nonzero at h
 refine rs hx fun K hK=>?_
 refine s1 (d:=.pt 0 0) d8 ?_
 refine sa ?_
 refine .nil (hK _ _ (AW.seq (ra hx ?_)))
 refine AW.block ?_
 obtain⟨y,hy,h⟩:=ah h
 refine lp (S:=Int) (X:=Int⊕Unit) (fun be=>[(2,dI .i64 fj),(3,.pt 0 0),(7,dI .i64 be)]) (fun be=>⟨[(0,[dI .i64 cQ.vR,dI .i64 cQ.vC,dL ae cQ.vV])],[],1⟩) (PS (PR [.tmp 6] fun r=>dI .i64 r) (PE cx (.exit 0) (fun ()=>[]) fun ()=>⟨[],[],0⟩)) hy ?_ ?_ ?_
 exact wk h0 [0] (wR rfl (wR rfl (wR rfl wTn))) (vR rfl wVn) wLn
 clear hy h
 rintro be y h
 dsimp only[g_ref07_nonzero_l7] at h
 refine AW.seq (rs hx fun K hK=>?_)
 iterate 2 refine sa ?_
 refine s1 (aG aT) ?_
 refine sa ?_
 refine .nil (hK _ _ (cdh h rfl (fun cE h=>?_) (fun cE h=>?_)))
 refine AW.skip (AW.seq (AW.block (rs hx fun K hK=>?_)))
 refine sa ?_
 refine s1 (aG aF) ?_
 iterate 2 refine sa ?_
 refine s1 (aG aT) ?_
 iterate 3 refine sa ?_
 obtain⟨pg,h⟩:=az h
 have rz:(i64.wrap ((i64.wrap (be*cQ.vC))+fj)).toNat<(cQ.vV).length:=by omega
 refine s1 (ej pg aF ax) ?_
 refine s1 (d:=dG ae ((cQ.vV)[(i64.wrap ((i64.wrap (be*cQ.vC))+fj)).toNat]!)) (jI (c:=ae) (l:=cQ.vV) (n:=(i64.wrap ((i64.wrap (be*cQ.vC))+fj)).toNat) (o:=0) ax rz (eM _ _ rfl)) ?_
 refine scb h w_ref04_Sign fun x4 h=>?_
 refine sa ?_
 refine .nil (hK _ _ (cdh h rfl (fun bU h=>?_) (fun bU h=>?_)))
 refine ra hx ?_
 refine AW.ret ?_
 cases h
 refine PS.r ⟨by nofun,PS.l (PR.i ?_)⟩
 exact rv1
 refine AW.skip (rb hx ?_)
 cases h
 exact PS.l (pe0 h0 [0])
 refine AW.exit ?_
 try dsimp only
 try simp only[aO,reduceIte,Nat.reduceEqDiff,reduceCtorEq]
 cases h
 exact PS.r ⟨by nofun,PS.r (PE.i (wk h0 [] wTn wVn wLn))⟩
 rcases y with r|⟨⟩
 rintro ex tm' hp' ⟨rfl,hw⟩
 cases h
 exact hw
 rintro ex tm' hp' ⟨rfl,hw⟩
 try dsimp only
 try simp only[aO,reduceIte,Nat.reduceEqDiff,reduceCtorEq]
 refine AW.weak hw (ra hx ?_)
 refine AW.ret ?_
 cases h
 exact rv1
def g_ref07_eliminate_W_l11(cQ:ap)(p_row:Int)(x5:aj):Int×(List aj)→Option ((Int×(List aj))⊕((List aj))):=fun (d6,bP)=>cnd (decide (d6<cQ.vC)) (gd (0≤i64.wrap ((i64.wrap (p_row*cQ.vC))+d6)∧i64.wrap ((i64.wrap (p_row*cQ.vC))+d6)<((cQ.vV).length:Int)) (bnd (g_ref04_Div ((cQ.vV)[(i64.wrap ((i64.wrap (p_row*cQ.vC))+d6)).toNat]!) x5) fun fb=>gd (0≤i64.wrap ((i64.wrap (p_row*cQ.vC))+d6)∧i64.wrap ((i64.wrap (p_row*cQ.vC))+d6)<(((cQ.vV).length:Nat):Int)∧i64.wrap ((i64.wrap (p_row*cQ.vC))+d6)<((bP).length:Int)) (bnd (some ((bP).set ((i64.wrap ((i64.wrap (p_row*cQ.vC))+d6)).toNat) fb)) fun og=>some (.inl (i64.wrap (d6+(1:Int)),og))))) (some (.inr bP))
def g_ref07_eliminate_W_l46(cQ:ap)(p_row:Int)(rM:Int)(Au:aj):Int×(List aj)→Option ((Int×(List aj))⊕((List aj))):=fun (a46_0,a46_1)=>cnd (decide (a46_0<cQ.vC)) (gd (0≤i64.wrap ((i64.wrap (rM*cQ.vC))+a46_0)∧i64.wrap ((i64.wrap (rM*cQ.vC))+a46_0)<((cQ.vV).length:Int)) (gd (0≤i64.wrap ((i64.wrap (p_row*cQ.vC))+a46_0)∧i64.wrap ((i64.wrap (p_row*cQ.vC))+a46_0)<(((cQ.vV).length:Nat):Int)∧i64.wrap ((i64.wrap (p_row*cQ.vC))+a46_0)<((a46_1).length:Int)) (bnd (fZ Au ((a46_1)[(i64.wrap ((i64.wrap (p_row*cQ.vC))+a46_0)).toNat]!)) fun M1=>bnd (g_ref04_Sub ((cQ.vV)[(i64.wrap ((i64.wrap (rM*cQ.vC))+a46_0)).toNat]!) M1) fun Nd=>gd (0≤i64.wrap ((i64.wrap (rM*cQ.vC))+a46_0)∧i64.wrap ((i64.wrap (rM*cQ.vC))+a46_0)<(((cQ.vV).length:Nat):Int)∧i64.wrap ((i64.wrap (rM*cQ.vC))+a46_0)<((a46_1).length:Int)) (bnd (some ((a46_1).set ((i64.wrap ((i64.wrap (rM*cQ.vC))+a46_0)).toNat) Nd)) fun x38=>some (.inl (i64.wrap (a46_0+(1:Int)),x38)))))) (some (.inr a46_1))
def g_ref07_eliminate_W_l26(cQ:ap)(p_row:Int)(fj:Int):Int×(List aj)→Option ((Int×(List aj))⊕((List aj))):=fun (rM,a26_1)=>cnd (decide (rM<cQ.vR)) (bnd (S:=(List aj)) (gd (0≤i64.wrap ((i64.wrap (rM*cQ.vC))+fj)∧i64.wrap ((i64.wrap (rM*cQ.vC))+fj)<((cQ.vV).length:Int)) (bnd (some ((cQ.vV)[(i64.wrap ((i64.wrap (rM*cQ.vC))+fj)).toNat]!)) fun Au=>bnd (S:=Bool) (cnd (decide (rM=p_row)) (some (true)) (bnd (g_ref04_Sign Au) fun sO=>some (decide (sO=(0:Int))))) fun rK=>cnd rK (some (a26_1)) (bnd (bf (g_ref07_eliminate_W_l46 cQ p_row rM Au) ((0:Int),a26_1)) fun a46e4_0=>some (a46e4_0)))) fun sv=>some (.inl (i64.wrap (rM+(1:Int)),sv))) (some (.inr a26_1))
def g_ref07_eliminate_W(cQ:ap)(p_row:Int)(fj:Int):Option ap:=gd (0<(cQ.vV).length) (gd ((cQ.vV).length*136≤140737488355328) (gd (0≤i64.wrap ((i64.wrap (p_row*cQ.vC))+fj)∧i64.wrap ((i64.wrap (p_row*cQ.vC))+fj)<((cQ.vV).length:Int)) (bnd (some ((cQ.vV)[(i64.wrap ((i64.wrap (p_row*cQ.vC))+fj)).toNat]!)) fun x5=>bnd (bf (g_ref07_eliminate_W_l11 cQ p_row x5) ((0:Int),cQ.vV)) fun cJ=>bnd (bf (g_ref07_eliminate_W_l26 cQ p_row fj) ((0:Int),cJ)) fun a26e2_0=>gd ((cQ.vV).length=(a26e2_0).length) (some (⟨cQ.vR,cQ.vC,a26e2_0⟩:ap)))))
theorem w_ref07_eliminate_W {cQ:ap}{p_row:Int}{fj:Int}{r:ap}(h:g_ref07_eliminate_W cQ p_row fj=some r):aB prog 68 [dG aE cQ,dI .i64 p_row,dI .i64 fj] (dG aE r):=by
 refine bC (rs:=[.cell 6 24]) (fun cx hx h0=>?_) func68
 unfold g_ref07_eliminate_W at h
 refine rs hx fun K hK=>?_
 refine s1 (d:=.pt 0 0) d8 ?_
 refine s1 (d:=.pt 1 0) (bc aq) ?_
 refine .nil (hK _ _ (AW.seq ?_))
 obtain⟨G0,h⟩:=az h
 obtain⟨pg,h⟩:=az h
 refine jn (PE cx .normal (fun (_:Unit)=>[(1,dI .i64 p_row),(2,dI .i64 fj),(3,.pt 0 0),(6,.pt 1 0),(7,.pt 2 0)]) (fun (_:Unit)=>⟨[(0,[dI .i64 cQ.vR,dI .i64 cQ.vC,dL ae cQ.vV]),(1,[dI .i64 (0:Int),dI .i64 (0:Int),dN]),(2,[dI .i64 cQ.vR,dI .i64 cQ.vC,.gw 3 36 ((cQ.vV).length)]),(3,dC ((cW ae).f cQ.vV))],[],4⟩) ()) ?_ ?_
 refine dw (DW.split 4 9 (by decide) ?_ ?_)
 refine DW.split 7 9 (by decide) ?_ ?_
 refine dwg [] [0,1,2,3,4,5,6,7,8,9,10] hx (by kernel_rfl) (by kernel_rfl) (by kernel_rfl) fun K hK=>?_
 dsimp only[eJ,nE,nS,List.map]
 refine sa ?_
 refine s1 (aG aT) ?_
 refine sa ?_
 refine s1 (aG aT) ?_
 refine q1 (d:=dF ae ([]:List aj)) (litF0 tok aF ax) ?_
 refine sa ?_
 refine s1 (aG aF) ?_
 refine q1 (d:=.gw 2 36 ((cQ.vV).length)) (hp':=⟨[(2,dC ((cW ae).f cQ.vV)),(1,[dI .i64 (0:Int),dI .i64 (0:Int),dN]),(0,[dI .i64 cQ.vR,dI .i64 cQ.vC,dL ae cQ.vV])],[],3⟩) (sApN (c:=ae) (m:=cQ.vV) tok aF ax pg G0 (tA.l _ _) (.inr rfl)) ?_
 refine s1 (d:=.ag [dI .i64 cQ.vR,dI .i64 cQ.vC,.gw 2 36 ((cQ.vV).length)]) (bE aq) ?_
 refine s1 (d:=.pt 3 0) (bc aq) ?_
 refine s0 (bO (ds':=[dI .i64 cQ.vR,dI .i64 cQ.vC,.gw 2 36 ((cQ.vV).length)]) aq) ?_
 exact .nil (hK _ _ (pe0 h0 [0,1,3,2]))
 refine dwg [] [0,1,2,3,4,5,6,9,7,8,10] hx (by kernel_rfl) (by kernel_rfl) (by kernel_rfl) fun K hK=>?_
 dsimp only[eJ,nE,nS,List.map]
 refine sa ?_
 refine s1 (aG aT) ?_
 refine sa ?_
 refine s1 (aG aT) ?_
 refine q1 (d:=dF ae ([]:List aj)) (litF0 tok aF ax) ?_
 refine sa ?_
 refine s1 (aG aF) ?_
 refine s1 (d:=.pt 2 0) (bc aq) ?_
 refine q1 (d:=.gw 3 36 ((cQ.vV).length)) (hp':=⟨[(3,dC ((cW ae).f cQ.vV)),(2,[dI .i64 (0:Int),dI .i64 (0:Int),dN]),(1,[dI .i64 (0:Int),dI .i64 (0:Int),dN]),(0,[dI .i64 cQ.vR,dI .i64 cQ.vC,dL ae cQ.vV])],[],4⟩) (sApN (c:=ae) (m:=cQ.vV) tok aF ax pg G0 (tA.l _ _) (.inr rfl)) ?_
 refine s1 (d:=.ag [dI .i64 cQ.vR,dI .i64 cQ.vC,.gw 3 36 ((cQ.vV).length)]) (bE aq) ?_
 refine s0 (bO (ds':=[dI .i64 cQ.vR,dI .i64 cQ.vC,.gw 3 36 ((cQ.vV).length)]) aq) ?_
 exact .nil (hK _ _ (pe0 h0 [0,1,2,3]))
 refine dwg [] [0,1,2,3,5,6,9,4,7,8,10] hx (by kernel_rfl) (by kernel_rfl) (by kernel_rfl) fun K hK=>?_
 dsimp only[eJ,nE,nS,List.map]
 refine sa ?_
 refine s1 (aG aT) ?_
 refine sa ?_
 refine s1 (aG aT) ?_
 refine sa ?_
 refine s1 (aG aF) ?_
 refine s1 (d:=.pt 2 0) (bc aq) ?_
 refine q1 (d:=dF ae ([]:List aj)) (litF0 tok aF ax) ?_
 refine q1 (d:=.gw 3 36 ((cQ.vV).length)) (hp':=⟨[(3,dC ((cW ae).f cQ.vV)),(2,[dI .i64 (0:Int),dI .i64 (0:Int),dN]),(1,[dI .i64 (0:Int),dI .i64 (0:Int),dN]),(0,[dI .i64 cQ.vR,dI .i64 cQ.vC,dL ae cQ.vV])],[],4⟩) (sApN (c:=ae) (m:=cQ.vV) tok aF ax pg G0 (tA.l _ _) (.inr rfl)) ?_
 refine s1 (d:=.ag [dI .i64 cQ.vR,dI .i64 cQ.vC,.gw 3 36 ((cQ.vV).length)]) (bE aq) ?_
 refine s0 (bO (ds':=[dI .i64 cQ.vR,dI .i64 cQ.vC,.gw 3 36 ((cQ.vV).length)]) aq) ?_
 exact .nil (hK _ _ (pe0 h0 [0,1,2,3]))
 rintro ex tm' hp' ⟨rfl,hw⟩
 refine AW.weak hw (rs hx fun K hK=>?_)
 refine sa ?_
 refine s1 (aG aF) ?_
 iterate 2 refine sa ?_
 refine s1 (aG aT) ?_
 iterate 3 refine sa ?_
 obtain⟨Pb,h⟩:=az h
 have hn4:(i64.wrap ((i64.wrap (p_row*cQ.vC))+fj)).toNat<(cQ.vV).length:=by omega
 refine s1 (ej Pb aF ax) ?_
 refine s1 (d:=dG ae ((cQ.vV)[(i64.wrap ((i64.wrap (p_row*cQ.vC))+fj)).toNat]!)) (jI (c:=ae) (l:=cQ.vV) (n:=(i64.wrap ((i64.wrap (p_row*cQ.vC))+fj)).toNat) (o:=0) ax hn4 (eM _ _ rfl)) ?_
 refine s1 (bq (F:=ae.f cb) ax) ?_
 obtain⟨x5,FB,h⟩:=ah h
 replace FB:=cP FB
 refine s0 (kD (b':=(cQ.vV)[(i64.wrap ((i64.wrap (p_row*cQ.vC))+fj)).toNat]!) (ao.id _ _) ax FB) ?_
 refine .nil (hK _ _ (AW.seq (ra hx ?_)))
 refine AW.block ?_
 obtain⟨cJ,hy,h⟩:=ah h
 refine lp (S:=Int×(List aj)) (X:=(List aj)) (fun (d6,bP)=>[(1,dI .i64 p_row),(2,dI .i64 fj),(3,.pt 0 0),(6,.pt 1 0),(7,.pt 2 0),(8,.pt 3 0),(9,dI .i64 d6)]) (fun (d6,bP)=>⟨[(0,[dI .i64 cQ.vR,dI .i64 cQ.vC,dL ae cQ.vV]),(1,[dI .i64 (0:Int),dI .i64 (0:Int),dN]),(2,[dI .i64 cQ.vR,dI .i64 cQ.vC,.gw 4 36 ((cQ.vV).length)]),(3,dC (ae.f x5)),(4,dC ((cW ae).f bP))],[],5⟩) (PE cx (.exit 0) (fun cJ=>[(1,dI .i64 p_row),(2,dI .i64 fj),(3,.pt 0 0),(6,.pt 1 0),(7,.pt 2 0)]) fun cJ=>⟨[(0,[dI .i64 cQ.vR,dI .i64 cQ.vC,dL ae cQ.vV]),(1,[dI .i64 (0:Int),dI .i64 (0:Int),dN]),(2,[dI .i64 cQ.vR,dI .i64 cQ.vC,.gw 3 36 ((cQ.vV).length)]),(3,dC ((cW ae).f cJ))],[],4⟩) hy ?_ ?_ ?_
 exact wk h0 [0,1,2,4,3] (wR rfl (wR rfl (wR rfl (wR rfl (wR rfl (wR rfl (wR rfl wTn))))))) (vR rfl (vR rfl (vR rfl (vC rfl (vC rfl wVn))))) wLn
 clear hy h
 rintro⟨d6,bP⟩ y h
 dsimp only[g_ref07_eliminate_W_l11] at h
 refine AW.seq (rs hx fun K hK=>?_)
 iterate 2 refine sa ?_
 refine s1 (aG aT) ?_
 refine sa ?_
 refine .nil (hK _ _ (cdh h rfl (fun nh h=>?_) (fun nh h=>?_)))
 refine AW.skip (AW.seq (AW.block (rqd [112] hx fun K hK=>?_)))
 refine sa ?_
 refine s1 (aG aF) ?_
 iterate 2 refine sa ?_
 refine s1 (aG aT) ?_
 iterate 4 refine sa ?_
 refine s1 (aG aF) ?_
 iterate 2 refine sa ?_
 refine s1 (aG aT) ?_
 iterate 3 refine sa ?_
 obtain⟨FM,h⟩:=az h
 have FH:(i64.wrap ((i64.wrap (p_row*cQ.vC))+d6)).toNat<(cQ.vV).length:=by omega
 refine s1 (ej FM aF ax) ?_
 refine s1 (d:=dG ae ((cQ.vV)[(i64.wrap ((i64.wrap (p_row*cQ.vC))+d6)).toNat]!)) (jI (c:=ae) (l:=cQ.vV) (n:=(i64.wrap ((i64.wrap (p_row*cQ.vC))+d6)).toNat) (o:=0) ax FH (eM _ _ rfl)) ?_
 refine s1 (d:=dG ae x5) (aA (ao.id _ _) ax) ?_
 refine cqb h w_ref04_Div fun fb h=>?_
 obtain⟨JP,h⟩:=az h
 have JH:(i64.wrap ((i64.wrap (p_row*cQ.vC))+d6)).toNat<(bP).length:=by omega
 refine sG (sx ⟨JP.1,JP.2.1⟩ aF ax) ?_
 obtain⟨og,zW,h⟩:=ah h
 replace zW:=cP zW
 refine s0 (GH (b':=fb) (ao.seqW ae bP ((i64.wrap ((i64.wrap (p_row*cQ.vC))+d6)).toNat) JH) ax zW) ?_
 refine .nil (hK _ _ (rb hx ?_))
 cases h
 exact PS.l (pe0 h0 [0,1,2,3,4])
 refine AW.exit ?_
 try dsimp only
 try simp only[aO,reduceIte,Nat.reduceEqDiff,reduceCtorEq]
 cases h
 exact PS.r ⟨by nofun,PE.i (wk h0 [0,1,2,4] (wR rfl (wR rfl (wR rfl (wR rfl (wR rfl wTn))))) (vR rfl (vR rfl (vR rfl (vC rfl wVn)))) wLn)⟩
 rintro ex tm' hp' ⟨rfl,hw⟩
 try dsimp only
 try simp only[aO,reduceIte,Nat.reduceEqDiff,reduceCtorEq]
 refine AW.weak hw (AW.seq (ra hx ?_))
 refine AW.block ?_
 obtain⟨a26e2_0,hy,h⟩:=ah h
 refine lp (S:=Int×(List aj)) (X:=(List aj)) (fun (rM,a26_1)=>[(1,dI .i64 p_row),(2,dI .i64 fj),(3,.pt 0 0),(6,.pt 1 0),(7,.pt 2 0),(10,dI .i64 rM)]) (fun (rM,a26_1)=>⟨[(0,[dI .i64 cQ.vR,dI .i64 cQ.vC,dL ae cQ.vV]),(1,[dI .i64 (0:Int),dI .i64 (0:Int),dN]),(2,[dI .i64 cQ.vR,dI .i64 cQ.vC,.gw 3 36 ((cQ.vV).length)]),(3,dC ((cW ae).f a26_1))],[],4⟩) (PE cx (.exit 2) (fun a26e2_0=>[(6,.pt 0 0),(7,.pt 1 0)]) fun a26e2_0=>⟨[(0,[dI .i64 (0:Int),dI .i64 (0:Int),dN]),(1,[dI .i64 cQ.vR,dI .i64 cQ.vC,.gw 2 36 ((cQ.vV).length)]),(2,dC ((cW ae).f a26e2_0))],[],3⟩) hy ?_ ?_ ?_
 exact wk h0 [0,1,2,3] (wR rfl (wR rfl (wR rfl (wR rfl (wR rfl (wR rfl wTn)))))) (vR rfl (vR rfl (vR rfl (vC rfl wVn)))) wLn
 clear hy h
 rintro⟨rM,a26_1⟩ y h
 dsimp only[g_ref07_eliminate_W_l26] at h
 refine AW.seq (rs hx fun K hK=>?_)
 iterate 2 refine sa ?_
 refine s1 (aG aT) ?_
 refine sa ?_
 refine .nil (hK _ _ (cdh h rfl (fun oG h=>?_) (fun oG h=>?_)))
 refine AW.skip (AW.seq ?_)
 obtain⟨sv,hy,h⟩:=ah h
 refine jn ((PE cx .normal (fun sv=>[(1,dI .i64 p_row),(2,dI .i64 fj),(3,.pt 0 0),(6,.pt 1 0),(7,.pt 2 0),(10,dI .i64 rM)]) fun sv=>⟨[(0,[dI .i64 cQ.vR,dI .i64 cQ.vC,dL ae cQ.vV]),(1,[dI .i64 (0:Int),dI .i64 (0:Int),dN]),(2,[dI .i64 cQ.vR,dI .i64 cQ.vC,.gw 3 36 ((cQ.vV).length)]),(3,dC ((cW ae).f sv))],[],4⟩) sv) ?_ ?_
 replace h:=hy
 refine AW.block (rs hx fun K hK=>?_)
 refine sa ?_
 refine s1 (aG aF) ?_
 iterate 2 refine sa ?_
 refine s1 (aG aT) ?_
 iterate 3 refine sa ?_
 obtain⟨hc18,h⟩:=az h
 have hn19:(i64.wrap ((i64.wrap (rM*cQ.vC))+fj)).toNat<(cQ.vV).length:=by omega
 refine s1 (ej hc18 aF ax) ?_
 refine s1 (d:=dG ae ((cQ.vV)[(i64.wrap ((i64.wrap (rM*cQ.vC))+fj)).toNat]!)) (jI (c:=ae) (l:=cQ.vV) (n:=(i64.wrap ((i64.wrap (rM*cQ.vC))+fj)).toNat) (o:=0) ax hn19 (eM _ _ rfl)) ?_
 refine s1 (bq (F:=ae.f cb) ax) ?_
 obtain⟨Au,hx21,h⟩:=ah h
 replace hx21:=cP hx21
 refine s0 (kD (b':=(cQ.vV)[(i64.wrap ((i64.wrap (rM*cQ.vC))+fj)).toNat]!) (ao.id _ _) ax hx21) ?_
 refine .nil (hK _ _ ?_)
 iterate 2 refine AW.seq ?_
 obtain⟨rK,hy,h⟩:=ah h
 refine jn ((PE cx .normal (fun rK=>[(1,dI .i64 p_row),(2,dI .i64 fj),(3,.pt 0 0),(6,.pt 1 0),(7,.pt 2 0),(10,dI .i64 rM),(11,.pt 3 0),(82,dB rK)]) fun rK=>⟨[(0,[dI .i64 cQ.vR,dI .i64 cQ.vC,dL ae cQ.vV]),(1,[dI .i64 (0:Int),dI .i64 (0:Int),dN]),(2,[dI .i64 cQ.vR,dI .i64 cQ.vC,.gw 4 36 ((cQ.vV).length)]),(3,dC (ae.f Au)),(4,dC ((cW ae).f a26_1))],[],5⟩) rK) ?_ ?_
 replace h:=hy
 refine rq hx fun K hK=>?_
 iterate 4 refine sa ?_
 rcases aW (decide (rM=p_row)) with uK|uK
 replace h:=aY uK h
 iterate 3 refine aJ rfl rfl uK ?_
 refine s1 (am uK) ?_
 refine .nil (hK _ _ ?_)
 cases h
 exact pe0 h0 [0,1,2,4,3]
 replace h:=aZ uK h
 refine g1 (d:=dG ae Au) uK (aA (ao.id _ _) ax) ?_
 obtain⟨sO,Jy,h⟩:=ah h
 refine g1 uK (cj rfl (w_ref04_Sign Jy) (by simp only[bN,cl,cF,cZ,ck,cr];exact aM _ _) (lA (dT _ _) lAn) (.inl rfl)) ?_
 refine ga uK ?_
 refine s1 (au uK) ?_
 refine .nil (hK _ _ ?_)
 cases h
 exact pe0 h0 [0,1,2,4,3]
 rintro ex tm' hp' ⟨rfl,hw⟩
 refine AW.weak hw (cdh h rfl (fun hb26 h=>?_) (fun hb26 h=>?_))
 refine AW.exit ?_
 try dsimp only
 try simp only[aO,reduceIte,Nat.reduceEqDiff,reduceCtorEq]
 cases h
 exact pe0 h0 [0,1,2,4]
 refine AW.skip (ra hx ?_)
 refine AW.block ?_
 obtain⟨a46e4_0,hy,h⟩:=ah h
 refine lp (S:=Int×(List aj)) (X:=(List aj)) (fun (a46_0,a46_1)=>[(1,dI .i64 p_row),(2,dI .i64 fj),(3,.pt 0 0),(6,.pt 1 0),(7,.pt 2 0),(10,dI .i64 rM),(11,.pt 3 0),(12,dI .i64 a46_0)]) (fun (a46_0,a46_1)=>⟨[(0,[dI .i64 cQ.vR,dI .i64 cQ.vC,dL ae cQ.vV]),(1,[dI .i64 (0:Int),dI .i64 (0:Int),dN]),(2,[dI .i64 cQ.vR,dI .i64 cQ.vC,.gw 4 36 ((cQ.vV).length)]),(3,dC (ae.f Au)),(4,dC ((cW ae).f a46_1))],[],5⟩) (PE cx (.exit 4) (fun a46e4_0=>[(1,dI .i64 p_row),(2,dI .i64 fj),(3,.pt 0 0),(6,.pt 1 0),(7,.pt 2 0),(10,dI .i64 rM)]) fun a46e4_0=>⟨[(0,[dI .i64 cQ.vR,dI .i64 cQ.vC,dL ae cQ.vV]),(1,[dI .i64 (0:Int),dI .i64 (0:Int),dN]),(2,[dI .i64 cQ.vR,dI .i64 cQ.vC,.gw 3 36 ((cQ.vV).length)]),(3,dC ((cW ae).f a46e4_0))],[],4⟩) hy ?_ ?_ ?_
 exact wk h0 [0,1,2,3,4] (wR rfl (wR rfl (wR rfl (wR rfl (wR rfl (wR rfl (wR rfl (wR rfl wTn)))))))) (vR rfl (vR rfl (vR rfl (vC rfl (vC rfl wVn))))) wLn
 clear hy h
 rintro⟨a46_0,a46_1⟩ y h
 dsimp only[g_ref07_eliminate_W_l46] at h
 refine AW.seq (rs hx fun K hK=>?_)
 iterate 2 refine sa ?_
 refine s1 (aG aT) ?_
 refine sa ?_
 refine .nil (hK _ _ (cdh h rfl (fun hb27 h=>?_) (fun hb27 h=>?_)))
 refine AW.skip (AW.seq (AW.block (rqd [71,113] hx fun K hK=>?_)))
 refine sa ?_
 refine s1 (aG aF) ?_
 iterate 2 refine sa ?_
 refine s1 (aG aT) ?_
 iterate 4 refine sa ?_
 refine s1 (aG aF) ?_
 iterate 2 refine sa ?_
 refine s1 (aG aT) ?_
 iterate 3 refine sa ?_
 obtain⟨hc28,h⟩:=az h
 have hn29:(i64.wrap ((i64.wrap (rM*cQ.vC))+a46_0)).toNat<(cQ.vV).length:=by omega
 refine s1 (ej hc28 aF ax) ?_
 refine s1 (d:=dG ae ((cQ.vV)[(i64.wrap ((i64.wrap (rM*cQ.vC))+a46_0)).toNat]!)) (jI (c:=ae) (l:=cQ.vV) (n:=(i64.wrap ((i64.wrap (rM*cQ.vC))+a46_0)).toNat) (o:=0) ax hn29 (eM _ _ rfl)) ?_
 refine s1 (d:=dG ae Au) (aA (ao.id _ _) ax) ?_
 refine sa ?_
 refine s1 (aG aF) ?_
 iterate 2 refine sa ?_
 refine s1 (aG aT) ?_
 iterate 3 refine sa ?_
 obtain⟨hc30,h⟩:=az h
 have hn31:(i64.wrap ((i64.wrap (p_row*cQ.vC))+a46_0)).toNat<(a46_1).length:=by omega
 refine sG (sx ⟨hc30.1,hc30.2.1⟩ aF ax) ?_
 refine s1 (aA (ao.seqW ae a46_1 ((i64.wrap ((i64.wrap (p_row*cQ.vC))+a46_0)).toNat) hn31) ax) ?_
 refine cqb h rT fun M1 h=>?_
 refine cqb h w_ref04_Sub fun Nd h=>?_
 obtain⟨hc36,h⟩:=az h
 have hn37:(i64.wrap ((i64.wrap (rM*cQ.vC))+a46_0)).toNat<(a46_1).length:=by omega
 refine sG (sx ⟨hc36.1,hc36.2.1⟩ aF ax) ?_
 obtain⟨x38,hx39,h⟩:=ah h
 replace hx39:=cP hx39
 refine s0 (GH (b':=Nd) (ao.seqW ae a46_1 ((i64.wrap ((i64.wrap (rM*cQ.vC))+a46_0)).toNat) hn37) ax hx39) ?_
 refine .nil (hK _ _ (rb hx ?_))
 cases h
 exact PS.l (pe0 h0 [0,1,2,3,4])
 refine AW.exit ?_
 try dsimp only
 try simp only[aO,reduceIte,Nat.reduceEqDiff,reduceCtorEq]
 cases h
 exact PS.r ⟨by nofun,PE.i (wk h0 [0,1,2,4] (wR rfl (wR rfl (wR rfl (wR rfl (wR rfl (wR rfl wTn)))))) (vR rfl (vR rfl (vR rfl (vC rfl wVn)))) wLn)⟩
 rintro ex tm' hp' ⟨rfl,hw⟩
 try dsimp only
 try simp only[aO,reduceIte,Nat.reduceEqDiff,reduceCtorEq]
 cases h
 exact PE.i (Wk.trans hw (wk h0 [0,1,2,3] (wR rfl (wR rfl (wR rfl (wR rfl (wR rfl (wR rfl wTn)))))) (vR rfl (vR rfl (vR rfl (vC rfl wVn)))) wLn))
 rintro ex tm' hp' ⟨rfl,hw⟩
 refine AW.weak hw (rb hx ?_)
 cases h
 exact PS.l (pe0 h0 [0,1,2,3])
 refine AW.exit ?_
 try dsimp only
 try simp only[aO,reduceIte,Nat.reduceEqDiff,reduceCtorEq]
 cases h
 exact PS.r ⟨by nofun,PE.i (wk h0 [1,2,3] (wR rfl (wR rfl wTn)) (vR rfl (vR rfl (vC rfl wVn))) wLn)⟩
 rintro ex tm' hp' ⟨rfl,hw⟩
 try dsimp only
 try simp only[aO,reduceIte,Nat.reduceEqDiff,reduceCtorEq]
 refine AW.weak hw (rs hx fun K hK=>?_)
 refine s1 (d:=.ag [dI .i64 cQ.vR,dI .i64 cQ.vC,.gw 2 36 ((cQ.vV).length)]) (bb aq) ?_
 refine s0 (bO (ds':=[dI .i64 cQ.vR,dI .i64 cQ.vC,.gw 2 36 ((cQ.vV).length)]) aq) ?_
 refine .nil (hK _ _ ?_)
 obtain⟨hc43,h⟩:=az h
 refine fzAD ae (n:=(cQ.vV).length) 2 [(121,.ag [dI .i64 cQ.vR,dI .i64 cQ.vC,dL ae a26e2_0])] [(0,[dI .i64 cQ.vR,dI .i64 cQ.vC,dL ae a26e2_0]),(1,[dI .i64 cQ.vR,dI .i64 cQ.vC,dL ae a26e2_0])] hc43 ?_ (ftc rfl (.ag (.cons (.keep _) (.cons (.keep _) (.cons (.hitG) .nil)))) ftn) (fvc (by decide) rfl (.cons (.keep _) (.cons (.keep _) (.cons (.hitG) .nil))) (fvc (by decide) rfl (.cons (.keep _) (.cons (.keep _) (.cons (.hitG) .nil))) fvn))
 refine AW.ret ?_
 cases h
 exact dh.mk1 (bJ (es:=(aE.f (⟨cQ.vR,cQ.vC,a26e2_0⟩:ap)).map .e) rfl aq rfl rfl (ltb rfl) (leb rfl) rfl (.inr (.inr ⟨_,(al _),rfl,rfl⟩)))
def g_ref07_eliminate_D_l11(cQ:ap)(p_row:Int)(x4:aj):Unit→Option (Unit⊕Unit):=fun ()=>cnd (decide ((0:Int)<cQ.vC)) (gd (0≤i64.wrap ((i64.wrap (p_row*cQ.vC))+(0:Int))∧i64.wrap ((i64.wrap (p_row*cQ.vC))+(0:Int))<((cQ.vV).length:Int)) (bnd (g_ref04_Div ((cQ.vV)[(i64.wrap ((i64.wrap (p_row*cQ.vC))+(0:Int))).toNat]!) x4) fun x9=>gd (0≤i64.wrap ((i64.wrap (p_row*cQ.vC))+(0:Int))∧i64.wrap ((i64.wrap (p_row*cQ.vC))+(0:Int))<((([]:List aj)++cQ.vV).length:Int)) (none))) (some (.inr ()))
def g_ref07_eliminate_D_l46(cQ:ap)(p_row:Int)(rM:Int)(ny:aj):Unit→Option (Unit⊕Unit):=fun ()=>cnd (decide ((0:Int)<cQ.vC)) (gd (0≤i64.wrap ((i64.wrap (rM*cQ.vC))+(0:Int))∧i64.wrap ((i64.wrap (rM*cQ.vC))+(0:Int))<((cQ.vV).length:Int)) (gd (0≤i64.wrap ((i64.wrap (p_row*cQ.vC))+(0:Int))∧i64.wrap ((i64.wrap (p_row*cQ.vC))+(0:Int))<((([]:List aj)++cQ.vV).length:Int)) (bnd (fZ ny ((([]:List aj)++cQ.vV)[(i64.wrap ((i64.wrap (p_row*cQ.vC))+(0:Int))).toNat]!)) fun uN=>bnd (g_ref04_Sub ((cQ.vV)[(i64.wrap ((i64.wrap (rM*cQ.vC))+(0:Int))).toNat]!) uN) fun IU=>gd (0≤i64.wrap ((i64.wrap (rM*cQ.vC))+(0:Int))∧i64.wrap ((i64.wrap (rM*cQ.vC))+(0:Int))<((([]:List aj)++cQ.vV).length:Int)) (none)))) (some (.inr ()))
def g_ref07_eliminate_D_l26(cQ:ap)(p_row:Int)(fj:Int):Int→Option (Int⊕Unit):=fun rM=>cnd (decide (rM<cQ.vR)) (bnd (S:=Unit) (gd (0≤i64.wrap ((i64.wrap (rM*cQ.vC))+fj)∧i64.wrap ((i64.wrap (rM*cQ.vC))+fj)<((cQ.vV).length:Int)) (bnd (some ((cQ.vV)[(i64.wrap ((i64.wrap (rM*cQ.vC))+fj)).toNat]!)) fun ny=>bnd (S:=Bool) (cnd (decide (rM=p_row)) (some (true)) (bnd (g_ref04_Sign ny) fun Au=>some (decide (Au=(0:Int))))) fun rK=>cnd rK (some (())) (bnd (bf (g_ref07_eliminate_D_l46 cQ p_row rM ny) ()) fun ()=>some (())))) fun ()=>some (.inl (i64.wrap (rM+(1:Int))))) (some (.inr ()))
def g_ref07_eliminate_D(cQ:ap)(p_row:Int)(fj:Int):Option ap:=gd ((([]:List aj)++cQ.vV).length*136≤140737488355328) (gd (0≤i64.wrap ((i64.wrap (p_row*cQ.vC))+fj)∧i64.wrap ((i64.wrap (p_row*cQ.vC))+fj)<((cQ.vV).length:Int)) (bnd (some ((cQ.vV)[(i64.wrap ((i64.wrap (p_row*cQ.vC))+fj)).toNat]!)) fun x4=>bnd (bf (g_ref07_eliminate_D_l11 cQ p_row x4) ()) fun ()=>bnd (bf (g_ref07_eliminate_D_l26 cQ p_row fj) (0:Int)) fun ()=>some (⟨cQ.vR,cQ.vC,([]:List aj)++cQ.vV⟩:ap)))
theorem w_ref07_eliminate_D {cQ:ap}{p_row:Int}{fj:Int}{r:ap}(h:g_ref07_eliminate_D cQ p_row fj=some r):aB prog 68 [dG aE cQ,dI .i64 p_row,dI .i64 fj] (dG aE r):=by
 refine bC (rs:=[.cell 6 24]) (fun cx hx h0=>?_) func68
 unfold g_ref07_eliminate_D at h
 refine rs hx fun K hK=>?_
 refine s1 (d:=.pt 0 0) d8 ?_
 refine s1 (d:=.pt 1 0) (bc aq) ?_
 refine .nil (hK _ _ (AW.seq ?_))
 obtain⟨G0,h⟩:=az h
 refine jn (PE cx .normal (fun (_:Unit)=>[(1,dI .i64 p_row),(2,dI .i64 fj),(3,.pt 0 0),(6,.pt 1 0),(7,.pt 2 0)]) (fun (_:Unit)=>⟨[(0,[dI .i64 cQ.vR,dI .i64 cQ.vC,dL ae cQ.vV]),(1,[dI .i64 (0:Int),dI .i64 (0:Int),dN]),(2,[dI .i64 cQ.vR,dI .i64 cQ.vC,dL ae (([]:List aj)++cQ.vV)])],[],3⟩) ()) ?_ ?_
 refine dw (DW.split 4 9 (by decide) ?_ ?_)
 refine DW.split 7 9 (by decide) ?_ ?_
 refine dwg [] [0,1,2,3,4,5,6,7,8,9,10] hx (by kernel_rfl) (by kernel_rfl) (by kernel_rfl) fun K hK=>?_
 dsimp only[eJ,nE,nS,List.map]
 refine sa ?_
 refine s1 (aG aT) ?_
 refine sa ?_
 refine s1 (aG aT) ?_
 refine s1 (d:=dO 2 ae ([]:List aj)) (T_bsl0 aF ax) ?_
 refine sa ?_
 refine s1 (aG aF) ?_
 refine s1 (d:=dO 2 ae (([]:List aj)++cQ.vV)) (gc aF ax G0) ?_
 refine s2 (d2:=dG aE (⟨cQ.vR,cQ.vC,([]:List aj)++cQ.vV⟩:ap)) (bE (es:=[dI .i64 cQ.vR,dI .i64 cQ.vC,dO 2 ae (([]:List aj)++cQ.vV)]) aq) (eA (wc (co _) (wc (co _) (wc (A5 _) wcn)))) ?_
 refine s1 (d:=.pt 3 0) (bc aq) ?_
 refine s0 (bO (ds':=[dI .i64 cQ.vR,dI .i64 cQ.vC,dL ae (([]:List aj)++cQ.vV)]) aq) ?_
 exact .nil (hK _ _ (pe0 h0 [0,1,3]))
 refine dwg [] [0,1,2,3,4,5,6,9,7,8,10] hx (by kernel_rfl) (by kernel_rfl) (by kernel_rfl) fun K hK=>?_
 dsimp only[eJ,nE,nS,List.map]
 refine sa ?_
 refine s1 (aG aT) ?_
 refine sa ?_
 refine s1 (aG aT) ?_
 refine s1 (d:=dO 2 ae ([]:List aj)) (T_bsl0 aF ax) ?_
 refine sa ?_
 refine s1 (aG aF) ?_
 refine s1 (d:=.pt 3 0) (bc aq) ?_
 refine s1 (d:=dO 2 ae (([]:List aj)++cQ.vV)) (gc aF ax G0) ?_
 refine s2 (d2:=dG aE (⟨cQ.vR,cQ.vC,([]:List aj)++cQ.vV⟩:ap)) (bE (es:=[dI .i64 cQ.vR,dI .i64 cQ.vC,dO 2 ae (([]:List aj)++cQ.vV)]) aq) (eA (wc (co _) (wc (co _) (wc (A5 _) wcn)))) ?_
 refine s0 (bO (ds':=[dI .i64 cQ.vR,dI .i64 cQ.vC,dL ae (([]:List aj)++cQ.vV)]) aq) ?_
 exact .nil (hK _ _ (pe0 h0 [0,1,3]))
 refine dwg [] [0,1,2,3,5,6,9,4,7,8,10] hx (by kernel_rfl) (by kernel_rfl) (by kernel_rfl) fun K hK=>?_
 dsimp only[eJ,nE,nS,List.map]
 refine sa ?_
 refine s1 (aG aT) ?_
 refine sa ?_
 refine s1 (aG aT) ?_
 refine sa ?_
 refine s1 (aG aF) ?_
 refine s1 (d:=.pt 2 0) (bc aq) ?_
 refine s1 (d:=dO 3 ae ([]:List aj)) (T_bsl0 aF ax) ?_
 refine s1 (d:=dO 3 ae (([]:List aj)++cQ.vV)) (gc aF ax G0) ?_
 refine s2 (d2:=dG aE (⟨cQ.vR,cQ.vC,([]:List aj)++cQ.vV⟩:ap)) (bE (es:=[dI .i64 cQ.vR,dI .i64 cQ.vC,dO 3 ae (([]:List aj)++cQ.vV)]) aq) (eA (wc (co _) (wc (co _) (wc (A5 _) wcn)))) ?_
 refine s0 (bO (ds':=[dI .i64 cQ.vR,dI .i64 cQ.vC,dL ae (([]:List aj)++cQ.vV)]) aq) ?_
 exact .nil (hK _ _ (pe0 h0 [0,1,2]))
 rintro ex tm' hp' ⟨rfl,hw⟩
 refine AW.weak hw (rs hx fun K hK=>?_)
 refine sa ?_
 refine s1 (aG aF) ?_
 iterate 2 refine sa ?_
 refine s1 (aG aT) ?_
 iterate 3 refine sa ?_
 obtain⟨pg,h⟩:=az h
 have rz:(i64.wrap ((i64.wrap (p_row*cQ.vC))+fj)).toNat<(cQ.vV).length:=by omega
 refine s1 (ej pg aF ax) ?_
 refine s1 (d:=dG ae ((cQ.vV)[(i64.wrap ((i64.wrap (p_row*cQ.vC))+fj)).toNat]!)) (jI (c:=ae) (l:=cQ.vV) (n:=(i64.wrap ((i64.wrap (p_row*cQ.vC))+fj)).toNat) (o:=0) ax rz (eM _ _ rfl)) ?_
 refine s1 (bq (F:=ae.f cb) ax) ?_
 obtain⟨x4,pk,h⟩:=ah h
 replace pk:=cP pk
 refine s0 (kD (b':=(cQ.vV)[(i64.wrap ((i64.wrap (p_row*cQ.vC))+fj)).toNat]!) (ao.id _ _) ax pk) ?_
 refine .nil (hK _ _ (AW.seq (ra hx ?_)))
 refine AW.block ?_
 obtain⟨y,hy,h⟩:=ah h
 refine lp (S:=Unit) (X:=Unit) (fun ()=>[(1,dI .i64 p_row),(2,dI .i64 fj),(3,.pt 0 0),(6,.pt 1 0),(7,.pt 2 0),(8,.pt 3 0),(9,dI .i64 (0:Int))]) (fun ()=>⟨[(0,[dI .i64 cQ.vR,dI .i64 cQ.vC,dL ae cQ.vV]),(1,[dI .i64 (0:Int),dI .i64 (0:Int),dN]),(2,[dI .i64 cQ.vR,dI .i64 cQ.vC,dL ae (([]:List aj)++cQ.vV)]),(3,dC (ae.f x4))],[],4⟩) (PE cx (.exit 0) (fun ()=>[(1,dI .i64 p_row),(2,dI .i64 fj),(3,.pt 0 0),(6,.pt 1 0),(7,.pt 2 0)]) fun ()=>⟨[(0,[dI .i64 cQ.vR,dI .i64 cQ.vC,dL ae cQ.vV]),(1,[dI .i64 (0:Int),dI .i64 (0:Int),dN]),(2,[dI .i64 cQ.vR,dI .i64 cQ.vC,dL ae (([]:List aj)++cQ.vV)])],[],3⟩) hy ?_ ?_ ?_
 exact wk h0 [0,1,2,3] (wR rfl (wR rfl (wR rfl (wR rfl (wR rfl (wR rfl (wR rfl wTn))))))) (vR rfl (vR rfl (vR rfl (vC rfl wVn)))) wLn
 clear hy h
 rintro⟨⟩ y h
 dsimp only[g_ref07_eliminate_D_l11] at h
 refine AW.seq (rs hx fun K hK=>?_)
 iterate 2 refine sa ?_
 refine s1 (aG aT) ?_
 refine sa ?_
 refine .nil (hK _ _ (cdh h rfl (fun bU h=>?_) (fun bU h=>?_)))
 refine AW.skip (AW.seq (AW.block (rqd [112] hx fun K hK=>?_)))
 refine sa ?_
 refine s1 (aG aF) ?_
 iterate 2 refine sa ?_
 refine s1 (aG aT) ?_
 iterate 4 refine sa ?_
 refine s1 (aG aF) ?_
 iterate 2 refine sa ?_
 refine s1 (aG aT) ?_
 iterate 3 refine sa ?_
 obtain⟨Pa,h⟩:=az h
 have OQ:(i64.wrap ((i64.wrap (p_row*cQ.vC))+(0:Int))).toNat<(cQ.vV).length:=by omega
 refine s1 (ej Pa aF ax) ?_
 refine s1 (d:=dG ae ((cQ.vV)[(i64.wrap ((i64.wrap (p_row*cQ.vC))+(0:Int))).toNat]!)) (jI (c:=ae) (l:=cQ.vV) (n:=(i64.wrap ((i64.wrap (p_row*cQ.vC))+(0:Int))).toNat) (o:=0) ax OQ (eM _ _ rfl)) ?_
 refine s1 (d:=dG ae x4) (aA (ao.id _ _) ax) ?_
 refine cqb h w_ref04_Div fun x9 h=>?_
 obtain⟨vb,h⟩:=az h
 have zY:(i64.wrap ((i64.wrap (p_row*cQ.vC))+(0:Int))).toNat<(([]:List aj)++cQ.vV).length:=by omega
 refine s1 (ej vb aF ax) ?_
 cases h
 refine AW.exit ?_
 try dsimp only
 try simp only[aO,reduceIte,Nat.reduceEqDiff,reduceCtorEq]
 cases h
 exact PS.r ⟨by nofun,PE.i (wk h0 [0,1,2] (wR rfl (wR rfl (wR rfl (wR rfl (wR rfl wTn))))) (vR rfl (vR rfl (vR rfl wVn))) wLn)⟩
 cases y
 rintro ex tm' hp' ⟨rfl,hw⟩
 try dsimp only
 try simp only[aO,reduceIte,Nat.reduceEqDiff,reduceCtorEq]
 refine AW.weak hw (AW.seq (ra hx ?_))
 refine AW.block ?_
 obtain⟨y,hy,h⟩:=ah h
 refine lp (S:=Int) (X:=Unit) (fun rM=>[(1,dI .i64 p_row),(2,dI .i64 fj),(3,.pt 0 0),(6,.pt 1 0),(7,.pt 2 0),(10,dI .i64 rM)]) (fun rM=>⟨[(0,[dI .i64 cQ.vR,dI .i64 cQ.vC,dL ae cQ.vV]),(1,[dI .i64 (0:Int),dI .i64 (0:Int),dN]),(2,[dI .i64 cQ.vR,dI .i64 cQ.vC,dL ae (([]:List aj)++cQ.vV)])],[],3⟩) (PE cx (.exit 2) (fun ()=>[(6,.pt 0 0),(7,.pt 1 0)]) fun ()=>⟨[(0,[dI .i64 (0:Int),dI .i64 (0:Int),dN]),(1,[dI .i64 cQ.vR,dI .i64 cQ.vC,dL ae (([]:List aj)++cQ.vV)])],[],2⟩) hy ?_ ?_ ?_
 exact wk h0 [0,1,2] (wR rfl (wR rfl (wR rfl (wR rfl (wR rfl (wR rfl wTn)))))) (vR rfl (vR rfl (vR rfl wVn))) wLn
 clear hy h
 rintro rM y h
 dsimp only[g_ref07_eliminate_D_l26] at h
 refine AW.seq (rs hx fun K hK=>?_)
 iterate 2 refine sa ?_
 refine s1 (aG aT) ?_
 refine sa ?_
 refine .nil (hK _ _ (cdh h rfl (fun oH h=>?_) (fun oH h=>?_)))
 refine AW.skip (AW.seq ?_)
 obtain⟨y,hy,h⟩:=ah h
 refine jn ((PE cx .normal (fun ()=>[(1,dI .i64 p_row),(2,dI .i64 fj),(3,.pt 0 0),(6,.pt 1 0),(7,.pt 2 0),(10,dI .i64 rM)]) fun ()=>⟨[(0,[dI .i64 cQ.vR,dI .i64 cQ.vC,dL ae cQ.vV]),(1,[dI .i64 (0:Int),dI .i64 (0:Int),dN]),(2,[dI .i64 cQ.vR,dI .i64 cQ.vC,dL ae (([]:List aj)++cQ.vV)])],[],3⟩) y) ?_ ?_
 replace h:=hy
 refine AW.block (rs hx fun K hK=>?_)
 refine sa ?_
 refine s1 (aG aF) ?_
 iterate 2 refine sa ?_
 refine s1 (aG aT) ?_
 iterate 3 refine sa ?_
 obtain⟨tV,h⟩:=az h
 have tf:(i64.wrap ((i64.wrap (rM*cQ.vC))+fj)).toNat<(cQ.vV).length:=by omega
 refine s1 (ej tV aF ax) ?_
 refine s1 (d:=dG ae ((cQ.vV)[(i64.wrap ((i64.wrap (rM*cQ.vC))+fj)).toNat]!)) (jI (c:=ae) (l:=cQ.vV) (n:=(i64.wrap ((i64.wrap (rM*cQ.vC))+fj)).toNat) (o:=0) ax tf (eM _ _ rfl)) ?_
 refine s1 (bq (F:=ae.f cb) ax) ?_
 obtain⟨ny,xp,h⟩:=ah h
 replace xp:=cP xp
 refine s0 (kD (b':=(cQ.vV)[(i64.wrap ((i64.wrap (rM*cQ.vC))+fj)).toNat]!) (ao.id _ _) ax xp) ?_
 refine .nil (hK _ _ ?_)
 iterate 2 refine AW.seq ?_
 obtain⟨rK,hy,h⟩:=ah h
 refine jn ((PE cx .normal (fun rK=>[(1,dI .i64 p_row),(2,dI .i64 fj),(3,.pt 0 0),(6,.pt 1 0),(7,.pt 2 0),(10,dI .i64 rM),(11,.pt 3 0),(82,dB rK)]) fun rK=>⟨[(0,[dI .i64 cQ.vR,dI .i64 cQ.vC,dL ae cQ.vV]),(1,[dI .i64 (0:Int),dI .i64 (0:Int),dN]),(2,[dI .i64 cQ.vR,dI .i64 cQ.vC,dL ae (([]:List aj)++cQ.vV)]),(3,dC (ae.f ny))],[],4⟩) rK) ?_ ?_
 replace h:=hy
 refine rq hx fun K hK=>?_
 iterate 4 refine sa ?_
 rcases aW (decide (rM=p_row)) with Co|Co
 replace h:=aY Co h
 iterate 3 refine aJ rfl rfl Co ?_
 refine s1 (am Co) ?_
 refine .nil (hK _ _ ?_)
 cases h
 exact pe0 h0 [0,1,2,3]
 replace h:=aZ Co h
 refine g1 (d:=dG ae ny) Co (aA (ao.id _ _) ax) ?_
 obtain⟨Au,hx21,h⟩:=ah h
 refine g1 Co (cj rfl (w_ref04_Sign hx21) (by simp only[bN,cl,cF,cZ,ck,cr];exact aM _ _) (lA (dT _ _) lAn) (.inl rfl)) ?_
 refine ga Co ?_
 refine s1 (au Co) ?_
 refine .nil (hK _ _ ?_)
 cases h
 exact pe0 h0 [0,1,2,3]
 rintro ex tm' hp' ⟨rfl,hw⟩
 refine AW.weak hw (cdh h rfl (fun hb23 h=>?_) (fun hb23 h=>?_))
 refine AW.exit ?_
 try dsimp only
 try simp only[aO,reduceIte,Nat.reduceEqDiff,reduceCtorEq]
 cases h
 exact pe0 h0 [0,1,2]
 refine AW.skip (ra hx ?_)
 refine AW.block ?_
 obtain⟨y,hy,h⟩:=ah h
 refine lp (S:=Unit) (X:=Unit) (fun ()=>[(1,dI .i64 p_row),(2,dI .i64 fj),(3,.pt 0 0),(6,.pt 1 0),(7,.pt 2 0),(10,dI .i64 rM),(11,.pt 3 0),(12,dI .i64 (0:Int))]) (fun ()=>⟨[(0,[dI .i64 cQ.vR,dI .i64 cQ.vC,dL ae cQ.vV]),(1,[dI .i64 (0:Int),dI .i64 (0:Int),dN]),(2,[dI .i64 cQ.vR,dI .i64 cQ.vC,dL ae (([]:List aj)++cQ.vV)]),(3,dC (ae.f ny))],[],4⟩) (PE cx (.exit 4) (fun ()=>[(1,dI .i64 p_row),(2,dI .i64 fj),(3,.pt 0 0),(6,.pt 1 0),(7,.pt 2 0),(10,dI .i64 rM)]) fun ()=>⟨[(0,[dI .i64 cQ.vR,dI .i64 cQ.vC,dL ae cQ.vV]),(1,[dI .i64 (0:Int),dI .i64 (0:Int),dN]),(2,[dI .i64 cQ.vR,dI .i64 cQ.vC,dL ae (([]:List aj)++cQ.vV)])],[],3⟩) hy ?_ ?_ ?_
 exact wk h0 [0,1,2,3] (wR rfl (wR rfl (wR rfl (wR rfl (wR rfl (wR rfl (wR rfl (wR rfl wTn)))))))) (vR rfl (vR rfl (vR rfl (vC rfl wVn)))) wLn
 clear hy h
 rintro⟨⟩ y h
 dsimp only[g_ref07_eliminate_D_l46] at h
 refine AW.seq (rs hx fun K hK=>?_)
 iterate 2 refine sa ?_
 refine s1 (aG aT) ?_
 refine sa ?_
 refine .nil (hK _ _ (cdh h rfl (fun z4 h=>?_) (fun z4 h=>?_)))
 refine AW.skip (AW.seq (AW.block (rqd [71,113] hx fun K hK=>?_)))
 refine sa ?_
 refine s1 (aG aF) ?_
 iterate 2 refine sa ?_
 refine s1 (aG aT) ?_
 iterate 4 refine sa ?_
 refine s1 (aG aF) ?_
 iterate 2 refine sa ?_
 refine s1 (aG aT) ?_
 iterate 3 refine sa ?_
 obtain⟨hc25,h⟩:=az h
 have OR:(i64.wrap ((i64.wrap (rM*cQ.vC))+(0:Int))).toNat<(cQ.vV).length:=by omega
 refine s1 (ej hc25 aF ax) ?_
 refine s1 (d:=dG ae ((cQ.vV)[(i64.wrap ((i64.wrap (rM*cQ.vC))+(0:Int))).toNat]!)) (jI (c:=ae) (l:=cQ.vV) (n:=(i64.wrap ((i64.wrap (rM*cQ.vC))+(0:Int))).toNat) (o:=0) ax OR (eM _ _ rfl)) ?_
 refine s1 (d:=dG ae ny) (aA (ao.id _ _) ax) ?_
 refine sa ?_
 refine s1 (aG aF) ?_
 iterate 2 refine sa ?_
 refine s1 (aG aT) ?_
 iterate 3 refine sa ?_
 obtain⟨hc27,h⟩:=az h
 have hn28:(i64.wrap ((i64.wrap (p_row*cQ.vC))+(0:Int))).toNat<(([]:List aj)++cQ.vV).length:=by omega
 refine s1 (ej hc27 aF ax) ?_
 refine s1 (d:=dG ae ((([]:List aj)++cQ.vV)[(i64.wrap ((i64.wrap (p_row*cQ.vC))+(0:Int))).toNat]!)) (jI (c:=ae) (l:=([]:List aj)++cQ.vV) (n:=(i64.wrap ((i64.wrap (p_row*cQ.vC))+(0:Int))).toNat) (o:=0) ax hn28 (eM _ _ rfl)) ?_
 refine cqb h rT fun uN h=>?_
 refine cqb h w_ref04_Sub fun IU h=>?_
 obtain⟨hc33,h⟩:=az h
 have hn34:(i64.wrap ((i64.wrap (rM*cQ.vC))+(0:Int))).toNat<(([]:List aj)++cQ.vV).length:=by omega
 refine s1 (ej hc33 aF ax) ?_
 cases h
 refine AW.exit ?_
 try dsimp only
 try simp only[aO,reduceIte,Nat.reduceEqDiff,reduceCtorEq]
 cases h
 exact PS.r ⟨by nofun,PE.i (wk h0 [0,1,2] (wR rfl (wR rfl (wR rfl (wR rfl (wR rfl (wR rfl wTn)))))) (vR rfl (vR rfl (vR rfl wVn))) wLn)⟩
 cases y
 rintro ex tm' hp' ⟨rfl,hw⟩
 try dsimp only
 try simp only[aO,reduceIte,Nat.reduceEqDiff,reduceCtorEq]
 cases h
 exact PE.i (Wk.trans hw (wk h0 [0,1,2] (wR rfl (wR rfl (wR rfl (wR rfl (wR rfl (wR rfl wTn)))))) (vR rfl (vR rfl (vR rfl wVn))) wLn))
 cases y
 rintro ex tm' hp' ⟨rfl,hw⟩
 refine AW.weak hw (rb hx ?_)
 cases h
 exact PS.l (pe0 h0 [0,1,2])
 refine AW.exit ?_
 try dsimp only
 try simp only[aO,reduceIte,Nat.reduceEqDiff,reduceCtorEq]
 cases h
 exact PS.r ⟨by nofun,PE.i (wk h0 [1,2] (wR rfl (wR rfl wTn)) (vR rfl (vR rfl wVn)) wLn)⟩
 cases y
 rintro ex tm' hp' ⟨rfl,hw⟩
 try dsimp only
 try simp only[aO,reduceIte,Nat.reduceEqDiff,reduceCtorEq]
 refine AW.weak hw (rs hx fun K hK=>?_)
 refine s1 (d:=dG aE (⟨cQ.vR,cQ.vC,([]:List aj)++cQ.vV⟩:ap)) (bb aq) ?_
 refine s0 (bO (ds':=[dI .i64 cQ.vR,dI .i64 cQ.vC,dL ae (([]:List aj)++cQ.vV)]) aq) ?_
 refine .nil (hK _ _ (AW.ret ?_))
 cases h
 exact dh.mk1 (bJ (es:=(aE.f (⟨cQ.vR,cQ.vC,([]:List aj)++cQ.vV⟩:ap)).map .e) rfl aq rfl rfl (ltb rfl) (leb rfl) rfl (.inr (.inr ⟨_,(al _),rfl,rfl⟩)))
def g_ref07_eliminate(cQ:ap)(p_row:Int)(fj:Int):Option ap:=orO (g_ref07_eliminate_W cQ p_row fj) (g_ref07_eliminate_D cQ p_row fj)
theorem w_ref07_eliminate {cQ:ap}{p_row:Int}{fj:Int}{r:ap}(h:g_ref07_eliminate cQ p_row fj=some r):aB prog 68 [dG aE cQ,dI .i64 p_row,dI .i64 fj] (dG aE r):=(u9 h).elim w_ref07_eliminate_W w_ref07_eliminate_D
def g_ref07_eliminate_w_l11(cQ:ap)(p_row:Int)(x5:aj):Int×(List aj)→Option ((Int×(List aj))⊕((List aj))):=fun (d6,bP)=>cnd (decide (d6<cQ.vC)) (gd (0≤i64.wrap ((i64.wrap (p_row*cQ.vC))+d6)∧i64.wrap ((i64.wrap (p_row*cQ.vC))+d6)<((cQ.vV).length:Int)) (bnd (g_ref04_Div ((cQ.vV)[(i64.wrap ((i64.wrap (p_row*cQ.vC))+d6)).toNat]!) x5) fun fb=>gd (0≤i64.wrap ((i64.wrap (p_row*cQ.vC))+d6)∧i64.wrap ((i64.wrap (p_row*cQ.vC))+d6)<(((cQ.vV).length:Nat):Int)∧i64.wrap ((i64.wrap (p_row*cQ.vC))+d6)<((bP).length:Int)) (bnd (some ((bP).set ((i64.wrap ((i64.wrap (p_row*cQ.vC))+d6)).toNat) fb)) fun og=>some (.inl (i64.wrap (d6+(1:Int)),og))))) (some (.inr bP))
def g_ref07_eliminate_w_l46(cQ:ap)(p_row:Int)(rM:Int)(Au:aj):Int×(List aj)→Option ((Int×(List aj))⊕((List aj))):=fun (a46_0,a46_1)=>cnd (decide (a46_0<cQ.vC)) (gd (0≤i64.wrap ((i64.wrap (rM*cQ.vC))+a46_0)∧i64.wrap ((i64.wrap (rM*cQ.vC))+a46_0)<((cQ.vV).length:Int)) (gd (0≤i64.wrap ((i64.wrap (p_row*cQ.vC))+a46_0)∧i64.wrap ((i64.wrap (p_row*cQ.vC))+a46_0)<(((cQ.vV).length:Nat):Int)∧i64.wrap ((i64.wrap (p_row*cQ.vC))+a46_0)<((a46_1).length:Int)) (bnd (fZ Au ((a46_1)[(i64.wrap ((i64.wrap (p_row*cQ.vC))+a46_0)).toNat]!)) fun M1=>bnd (g_ref04_Sub ((cQ.vV)[(i64.wrap ((i64.wrap (rM*cQ.vC))+a46_0)).toNat]!) M1) fun Nd=>gd (0≤i64.wrap ((i64.wrap (rM*cQ.vC))+a46_0)∧i64.wrap ((i64.wrap (rM*cQ.vC))+a46_0)<(((cQ.vV).length:Nat):Int)∧i64.wrap ((i64.wrap (rM*cQ.vC))+a46_0)<((a46_1).length:Int)) (bnd (some ((a46_1).set ((i64.wrap ((i64.wrap (rM*cQ.vC))+a46_0)).toNat) Nd)) fun x38=>some (.inl (i64.wrap (a46_0+(1:Int)),x38)))))) (some (.inr a46_1))
def g_ref07_eliminate_w_l26(cQ:ap)(p_row:Int)(fj:Int):Int×(List aj)→Option ((Int×(List aj))⊕((List aj))):=fun (rM,a26_1)=>cnd (decide (rM<cQ.vR)) (bnd (S:=(List aj)) (gd (0≤i64.wrap ((i64.wrap (rM*cQ.vC))+fj)∧i64.wrap ((i64.wrap (rM*cQ.vC))+fj)<((cQ.vV).length:Int)) (bnd (some ((cQ.vV)[(i64.wrap ((i64.wrap (rM*cQ.vC))+fj)).toNat]!)) fun Au=>bnd (S:=Bool) (cnd (decide (rM=p_row)) (some (true)) (bnd (g_ref04_Sign Au) fun sO=>some (decide (sO=(0:Int))))) fun rK=>cnd rK (some (a26_1)) (bnd (bf (g_ref07_eliminate_w_l46 cQ p_row rM Au) ((0:Int),a26_1)) fun a46e4_0=>some (a46e4_0)))) fun sv=>some (.inl (i64.wrap (rM+(1:Int)),sv))) (some (.inr a26_1))
def g_ref07_eliminate_w(cQ:ap)(p_row:Int)(fj:Int):Option ap:=gd (0<(cQ.vV).length) (gd ((cQ.vV).length*136≤140737488355328) (gd (0≤i64.wrap ((i64.wrap (p_row*cQ.vC))+fj)∧i64.wrap ((i64.wrap (p_row*cQ.vC))+fj)<((cQ.vV).length:Int)) (bnd (some ((cQ.vV)[(i64.wrap ((i64.wrap (p_row*cQ.vC))+fj)).toNat]!)) fun x5=>bnd (bf (g_ref07_eliminate_w_l11 cQ p_row x5) ((0:Int),cQ.vV)) fun cJ=>bnd (bf (g_ref07_eliminate_w_l26 cQ p_row fj) ((0:Int),cJ)) fun a26e2_0=>gd ((cQ.vV).length=(a26e2_0).length) (some (⟨cQ.vR,cQ.vC,a26e2_0⟩:ap)))))
theorem w_ref07_eliminate_w {cQ:ap}{p_row:Int}{fj:Int}{r:ap}(h:g_ref07_eliminate_w cQ p_row fj=some r):HC prog 68 [dG aE cQ,dI .i64 p_row,dI .i64 fj] ⟨[],[],0⟩ (.ag [dI .i64 r.vR,dI .i64 r.vC,.gw 0 36 ((r.vV).length)]) (⟨[(0,dC ((cW ae).f r.vV))],[],1⟩):=by
 refine HC.ofX (rs:=[.cell 6 24]) tok func68 rfl rfl (dM rfl) rfl (fun cx hx h0=>?_)
 simp only[eC,Nat.reduceAdd,dA]
 unfold g_ref07_eliminate_w at h
 refine rs hx fun K hK=>?_
 refine s1 (d:=.pt 0 0) d8 ?_
 refine s1 (d:=.pt 1 0) (bc aq) ?_
 refine .nil (hK _ _ (AW.seq ?_))
 obtain⟨G0,h⟩:=az h
 obtain⟨pg,h⟩:=az h
 refine jn (PE cx .normal (fun (_:Unit)=>[(1,dI .i64 p_row),(2,dI .i64 fj),(3,.pt 0 0),(6,.pt 1 0),(7,.pt 2 0)]) (fun (_:Unit)=>⟨[(0,[dI .i64 cQ.vR,dI .i64 cQ.vC,dL ae cQ.vV]),(1,[dI .i64 (0:Int),dI .i64 (0:Int),dN]),(2,[dI .i64 cQ.vR,dI .i64 cQ.vC,.gw 3 36 ((cQ.vV).length)]),(3,dC ((cW ae).f cQ.vV))],[],4⟩) ()) ?_ ?_
 refine dw (DW.split 4 9 (by decide) ?_ ?_)
 refine DW.split 7 9 (by decide) ?_ ?_
 refine dwg [] [0,1,2,3,4,5,6,7,8,9,10] hx (by kernel_rfl) (by kernel_rfl) (by kernel_rfl) fun K hK=>?_
 dsimp only[eJ,nE,nS,List.map]
 refine sa ?_
 refine s1 (aG aT) ?_
 refine sa ?_
 refine s1 (aG aT) ?_
 refine q1 (d:=dF ae ([]:List aj)) (litF0 tok aF ax) ?_
 refine sa ?_
 refine s1 (aG aF) ?_
 refine q1 (d:=.gw 2 36 ((cQ.vV).length)) (hp':=⟨[(2,dC ((cW ae).f cQ.vV)),(1,[dI .i64 (0:Int),dI .i64 (0:Int),dN]),(0,[dI .i64 cQ.vR,dI .i64 cQ.vC,dL ae cQ.vV])],[],3⟩) (sApN (c:=ae) (m:=cQ.vV) tok aF ax pg G0 (tA.l _ _) (.inr rfl)) ?_
 refine s1 (d:=.ag [dI .i64 cQ.vR,dI .i64 cQ.vC,.gw 2 36 ((cQ.vV).length)]) (bE aq) ?_
 refine s1 (d:=.pt 3 0) (bc aq) ?_
 refine s0 (bO (ds':=[dI .i64 cQ.vR,dI .i64 cQ.vC,.gw 2 36 ((cQ.vV).length)]) aq) ?_
 exact .nil (hK _ _ (pe0 h0 [0,1,3,2]))
 refine dwg [] [0,1,2,3,4,5,6,9,7,8,10] hx (by kernel_rfl) (by kernel_rfl) (by kernel_rfl) fun K hK=>?_
 dsimp only[eJ,nE,nS,List.map]
 refine sa ?_
 refine s1 (aG aT) ?_
 refine sa ?_
 refine s1 (aG aT) ?_
 refine q1 (d:=dF ae ([]:List aj)) (litF0 tok aF ax) ?_
 refine sa ?_
 refine s1 (aG aF) ?_
 refine s1 (d:=.pt 2 0) (bc aq) ?_
 refine q1 (d:=.gw 3 36 ((cQ.vV).length)) (hp':=⟨[(3,dC ((cW ae).f cQ.vV)),(2,[dI .i64 (0:Int),dI .i64 (0:Int),dN]),(1,[dI .i64 (0:Int),dI .i64 (0:Int),dN]),(0,[dI .i64 cQ.vR,dI .i64 cQ.vC,dL ae cQ.vV])],[],4⟩) (sApN (c:=ae) (m:=cQ.vV) tok aF ax pg G0 (tA.l _ _) (.inr rfl)) ?_
 refine s1 (d:=.ag [dI .i64 cQ.vR,dI .i64 cQ.vC,.gw 3 36 ((cQ.vV).length)]) (bE aq) ?_
 refine s0 (bO (ds':=[dI .i64 cQ.vR,dI .i64 cQ.vC,.gw 3 36 ((cQ.vV).length)]) aq) ?_
 exact .nil (hK _ _ (pe0 h0 [0,1,2,3]))
 refine dwg [] [0,1,2,3,5,6,9,4,7,8,10] hx (by kernel_rfl) (by kernel_rfl) (by kernel_rfl) fun K hK=>?_
 dsimp only[eJ,nE,nS,List.map]
 refine sa ?_
 refine s1 (aG aT) ?_
 refine sa ?_
 refine s1 (aG aT) ?_
 refine sa ?_
 refine s1 (aG aF) ?_
 refine s1 (d:=.pt 2 0) (bc aq) ?_
 refine q1 (d:=dF ae ([]:List aj)) (litF0 tok aF ax) ?_
 refine q1 (d:=.gw 3 36 ((cQ.vV).length)) (hp':=⟨[(3,dC ((cW ae).f cQ.vV)),(2,[dI .i64 (0:Int),dI .i64 (0:Int),dN]),(1,[dI .i64 (0:Int),dI .i64 (0:Int),dN]),(0,[dI .i64 cQ.vR,dI .i64 cQ.vC,dL ae cQ.vV])],[],4⟩) (sApN (c:=ae) (m:=cQ.vV) tok aF ax pg G0 (tA.l _ _) (.inr rfl)) ?_
 refine s1 (d:=.ag [dI .i64 cQ.vR,dI .i64 cQ.vC,.gw 3 36 ((cQ.vV).length)]) (bE aq) ?_
 refine s0 (bO (ds':=[dI .i64 cQ.vR,dI .i64 cQ.vC,.gw 3 36 ((cQ.vV).length)]) aq) ?_
 exact .nil (hK _ _ (pe0 h0 [0,1,2,3]))
 rintro ex tm' hp' ⟨rfl,hw⟩
 refine AW.weak hw (rs hx fun K hK=>?_)
 refine sa ?_
 refine s1 (aG aF) ?_
 iterate 2 refine sa ?_
 refine s1 (aG aT) ?_
 iterate 3 refine sa ?_
 obtain⟨Pb,h⟩:=az h
 have hn4:(i64.wrap ((i64.wrap (p_row*cQ.vC))+fj)).toNat<(cQ.vV).length:=by omega
 refine s1 (ej Pb aF ax) ?_
 refine s1 (d:=dG ae ((cQ.vV)[(i64.wrap ((i64.wrap (p_row*cQ.vC))+fj)).toNat]!)) (jI (c:=ae) (l:=cQ.vV) (n:=(i64.wrap ((i64.wrap (p_row*cQ.vC))+fj)).toNat) (o:=0) ax hn4 (eM _ _ rfl)) ?_
 refine s1 (bq (F:=ae.f cb) ax) ?_
 obtain⟨x5,FB,h⟩:=ah h
 replace FB:=cP FB
 refine s0 (kD (b':=(cQ.vV)[(i64.wrap ((i64.wrap (p_row*cQ.vC))+fj)).toNat]!) (ao.id _ _) ax FB) ?_
 refine .nil (hK _ _ (AW.seq (ra hx ?_)))
 refine AW.block ?_
 obtain⟨cJ,hy,h⟩:=ah h
 refine lp (S:=Int×(List aj)) (X:=(List aj)) (fun (d6,bP)=>[(1,dI .i64 p_row),(2,dI .i64 fj),(3,.pt 0 0),(6,.pt 1 0),(7,.pt 2 0),(8,.pt 3 0),(9,dI .i64 d6)]) (fun (d6,bP)=>⟨[(0,[dI .i64 cQ.vR,dI .i64 cQ.vC,dL ae cQ.vV]),(1,[dI .i64 (0:Int),dI .i64 (0:Int),dN]),(2,[dI .i64 cQ.vR,dI .i64 cQ.vC,.gw 4 36 ((cQ.vV).length)]),(3,dC (ae.f x5)),(4,dC ((cW ae).f bP))],[],5⟩) (PE cx (.exit 0) (fun cJ=>[(1,dI .i64 p_row),(2,dI .i64 fj),(3,.pt 0 0),(6,.pt 1 0),(7,.pt 2 0)]) fun cJ=>⟨[(0,[dI .i64 cQ.vR,dI .i64 cQ.vC,dL ae cQ.vV]),(1,[dI .i64 (0:Int),dI .i64 (0:Int),dN]),(2,[dI .i64 cQ.vR,dI .i64 cQ.vC,.gw 3 36 ((cQ.vV).length)]),(3,dC ((cW ae).f cJ))],[],4⟩) hy ?_ ?_ ?_
 exact wk h0 [0,1,2,4,3] (wR rfl (wR rfl (wR rfl (wR rfl (wR rfl (wR rfl (wR rfl wTn))))))) (vR rfl (vR rfl (vR rfl (vC rfl (vC rfl wVn))))) wLn
 clear hy h
 rintro⟨d6,bP⟩ y h
 dsimp only[g_ref07_eliminate_w_l11] at h
 refine AW.seq (rs hx fun K hK=>?_)
 iterate 2 refine sa ?_
 refine s1 (aG aT) ?_
 refine sa ?_
 refine .nil (hK _ _ (cdh h rfl (fun nh h=>?_) (fun nh h=>?_)))
 refine AW.skip (AW.seq (AW.block (rqd [112] hx fun K hK=>?_)))
 refine sa ?_
 refine s1 (aG aF) ?_
 iterate 2 refine sa ?_
 refine s1 (aG aT) ?_
 iterate 4 refine sa ?_
 refine s1 (aG aF) ?_
 iterate 2 refine sa ?_
 refine s1 (aG aT) ?_
 iterate 3 refine sa ?_
 obtain⟨FM,h⟩:=az h
 have FH:(i64.wrap ((i64.wrap (p_row*cQ.vC))+d6)).toNat<(cQ.vV).length:=by omega
 refine s1 (ej FM aF ax) ?_
 refine s1 (d:=dG ae ((cQ.vV)[(i64.wrap ((i64.wrap (p_row*cQ.vC))+d6)).toNat]!)) (jI (c:=ae) (l:=cQ.vV) (n:=(i64.wrap ((i64.wrap (p_row*cQ.vC))+d6)).toNat) (o:=0) ax FH (eM _ _ rfl)) ?_
 refine s1 (d:=dG ae x5) (aA (ao.id _ _) ax) ?_
 refine cqb h w_ref04_Div fun fb h=>?_
 obtain⟨JP,h⟩:=az h
 have JH:(i64.wrap ((i64.wrap (p_row*cQ.vC))+d6)).toNat<(bP).length:=by omega
 refine sG (sx ⟨JP.1,JP.2.1⟩ aF ax) ?_
 obtain⟨og,zW,h⟩:=ah h
 replace zW:=cP zW
 refine s0 (GH (b':=fb) (ao.seqW ae bP ((i64.wrap ((i64.wrap (p_row*cQ.vC))+d6)).toNat) JH) ax zW) ?_
 refine .nil (hK _ _ (rb hx ?_))
 cases h
 exact PS.l (pe0 h0 [0,1,2,3,4])
 refine AW.exit ?_
 try dsimp only
 try simp only[aO,reduceIte,Nat.reduceEqDiff,reduceCtorEq]
 cases h
 exact PS.r ⟨by nofun,PE.i (wk h0 [0,1,2,4] (wR rfl (wR rfl (wR rfl (wR rfl (wR rfl wTn))))) (vR rfl (vR rfl (vR rfl (vC rfl wVn)))) wLn)⟩
 rintro ex tm' hp' ⟨rfl,hw⟩
 try dsimp only
 try simp only[aO,reduceIte,Nat.reduceEqDiff,reduceCtorEq]
 refine AW.weak hw (AW.seq (ra hx ?_))
 refine AW.block ?_
 obtain⟨a26e2_0,hy,h⟩:=ah h
 refine lp (S:=Int×(List aj)) (X:=(List aj)) (fun (rM,a26_1)=>[(1,dI .i64 p_row),(2,dI .i64 fj),(3,.pt 0 0),(6,.pt 1 0),(7,.pt 2 0),(10,dI .i64 rM)]) (fun (rM,a26_1)=>⟨[(0,[dI .i64 cQ.vR,dI .i64 cQ.vC,dL ae cQ.vV]),(1,[dI .i64 (0:Int),dI .i64 (0:Int),dN]),(2,[dI .i64 cQ.vR,dI .i64 cQ.vC,.gw 3 36 ((cQ.vV).length)]),(3,dC ((cW ae).f a26_1))],[],4⟩) (PE cx (.exit 2) (fun a26e2_0=>[(6,.pt 0 0),(7,.pt 1 0)]) fun a26e2_0=>⟨[(0,[dI .i64 (0:Int),dI .i64 (0:Int),dN]),(1,[dI .i64 cQ.vR,dI .i64 cQ.vC,.gw 2 36 ((cQ.vV).length)]),(2,dC ((cW ae).f a26e2_0))],[],3⟩) hy ?_ ?_ ?_
 exact wk h0 [0,1,2,3] (wR rfl (wR rfl (wR rfl (wR rfl (wR rfl (wR rfl wTn)))))) (vR rfl (vR rfl (vR rfl (vC rfl wVn)))) wLn
 clear hy h
 rintro⟨rM,a26_1⟩ y h
 dsimp only[g_ref07_eliminate_w_l26] at h
 refine AW.seq (rs hx fun K hK=>?_)
 iterate 2 refine sa ?_
 refine s1 (aG aT) ?_
 refine sa ?_
 refine .nil (hK _ _ (cdh h rfl (fun oG h=>?_) (fun oG h=>?_)))
 refine AW.skip (AW.seq ?_)
 obtain⟨sv,hy,h⟩:=ah h
 refine jn ((PE cx .normal (fun sv=>[(1,dI .i64 p_row),(2,dI .i64 fj),(3,.pt 0 0),(6,.pt 1 0),(7,.pt 2 0),(10,dI .i64 rM)]) fun sv=>⟨[(0,[dI .i64 cQ.vR,dI .i64 cQ.vC,dL ae cQ.vV]),(1,[dI .i64 (0:Int),dI .i64 (0:Int),dN]),(2,[dI .i64 cQ.vR,dI .i64 cQ.vC,.gw 3 36 ((cQ.vV).length)]),(3,dC ((cW ae).f sv))],[],4⟩) sv) ?_ ?_
 replace h:=hy
 refine AW.block (rs hx fun K hK=>?_)
 refine sa ?_
 refine s1 (aG aF) ?_
 iterate 2 refine sa ?_
 refine s1 (aG aT) ?_
 iterate 3 refine sa ?_
 obtain⟨hc18,h⟩:=az h
 have hn19:(i64.wrap ((i64.wrap (rM*cQ.vC))+fj)).toNat<(cQ.vV).length:=by omega
 refine s1 (ej hc18 aF ax) ?_
 refine s1 (d:=dG ae ((cQ.vV)[(i64.wrap ((i64.wrap (rM*cQ.vC))+fj)).toNat]!)) (jI (c:=ae) (l:=cQ.vV) (n:=(i64.wrap ((i64.wrap (rM*cQ.vC))+fj)).toNat) (o:=0) ax hn19 (eM _ _ rfl)) ?_
 refine s1 (bq (F:=ae.f cb) ax) ?_
 obtain⟨Au,hx21,h⟩:=ah h
 replace hx21:=cP hx21
 refine s0 (kD (b':=(cQ.vV)[(i64.wrap ((i64.wrap (rM*cQ.vC))+fj)).toNat]!) (ao.id _ _) ax hx21) ?_
 refine .nil (hK _ _ ?_)
 iterate 2 refine AW.seq ?_
 obtain⟨rK,hy,h⟩:=ah h
 refine jn ((PE cx .normal (fun rK=>[(1,dI .i64 p_row),(2,dI .i64 fj),(3,.pt 0 0),(6,.pt 1 0),(7,.pt 2 0),(10,dI .i64 rM),(11,.pt 3 0),(82,dB rK)]) fun rK=>⟨[(0,[dI .i64 cQ.vR,dI .i64 cQ.vC,dL ae cQ.vV]),(1,[dI .i64 (0:Int),dI .i64 (0:Int),dN]),(2,[dI .i64 cQ.vR,dI .i64 cQ.vC,.gw 4 36 ((cQ.vV).length)]),(3,dC (ae.f Au)),(4,dC ((cW ae).f a26_1))],[],5⟩) rK) ?_ ?_
 replace h:=hy
 refine rq hx fun K hK=>?_
 iterate 4 refine sa ?_
 rcases aW (decide (rM=p_row)) with uK|uK
 replace h:=aY uK h
 iterate 3 refine aJ rfl rfl uK ?_
 refine s1 (am uK) ?_
 refine .nil (hK _ _ ?_)
 cases h
 exact pe0 h0 [0,1,2,4,3]
 replace h:=aZ uK h
 refine g1 (d:=dG ae Au) uK (aA (ao.id _ _) ax) ?_
 obtain⟨sO,Jy,h⟩:=ah h
 refine g1 uK (cj rfl (w_ref04_Sign Jy) (by simp only[bN,cl,cF,cZ,ck,cr];exact aM _ _) (lA (dT _ _) lAn) (.inl rfl)) ?_
 refine ga uK ?_
 refine s1 (au uK) ?_
 refine .nil (hK _ _ ?_)
 cases h
 exact pe0 h0 [0,1,2,4,3]
 rintro ex tm' hp' ⟨rfl,hw⟩
 refine AW.weak hw (cdh h rfl (fun hb26 h=>?_) (fun hb26 h=>?_))
 refine AW.exit ?_
 try dsimp only
 try simp only[aO,reduceIte,Nat.reduceEqDiff,reduceCtorEq]
 cases h
 exact pe0 h0 [0,1,2,4]
 refine AW.skip (ra hx ?_)
 refine AW.block ?_
 obtain⟨a46e4_0,hy,h⟩:=ah h
 refine lp (S:=Int×(List aj)) (X:=(List aj)) (fun (a46_0,a46_1)=>[(1,dI .i64 p_row),(2,dI .i64 fj),(3,.pt 0 0),(6,.pt 1 0),(7,.pt 2 0),(10,dI .i64 rM),(11,.pt 3 0),(12,dI .i64 a46_0)]) (fun (a46_0,a46_1)=>⟨[(0,[dI .i64 cQ.vR,dI .i64 cQ.vC,dL ae cQ.vV]),(1,[dI .i64 (0:Int),dI .i64 (0:Int),dN]),(2,[dI .i64 cQ.vR,dI .i64 cQ.vC,.gw 4 36 ((cQ.vV).length)]),(3,dC (ae.f Au)),(4,dC ((cW ae).f a46_1))],[],5⟩) (PE cx (.exit 4) (fun a46e4_0=>[(1,dI .i64 p_row),(2,dI .i64 fj),(3,.pt 0 0),(6,.pt 1 0),(7,.pt 2 0),(10,dI .i64 rM)]) fun a46e4_0=>⟨[(0,[dI .i64 cQ.vR,dI .i64 cQ.vC,dL ae cQ.vV]),(1,[dI .i64 (0:Int),dI .i64 (0:Int),dN]),(2,[dI .i64 cQ.vR,dI .i64 cQ.vC,.gw 3 36 ((cQ.vV).length)]),(3,dC ((cW ae).f a46e4_0))],[],4⟩) hy ?_ ?_ ?_
 exact wk h0 [0,1,2,3,4] (wR rfl (wR rfl (wR rfl (wR rfl (wR rfl (wR rfl (wR rfl (wR rfl wTn)))))))) (vR rfl (vR rfl (vR rfl (vC rfl (vC rfl wVn))))) wLn
 clear hy h
 rintro⟨a46_0,a46_1⟩ y h
 dsimp only[g_ref07_eliminate_w_l46] at h
 refine AW.seq (rs hx fun K hK=>?_)
 iterate 2 refine sa ?_
 refine s1 (aG aT) ?_
 refine sa ?_
 refine .nil (hK _ _ (cdh h rfl (fun hb27 h=>?_) (fun hb27 h=>?_)))
 refine AW.skip (AW.seq (AW.block (rqd [71,113] hx fun K hK=>?_)))
 refine sa ?_
 refine s1 (aG aF) ?_
 iterate 2 refine sa ?_
 refine s1 (aG aT) ?_
 iterate 4 refine sa ?_
 refine s1 (aG aF) ?_
 iterate 2 refine sa ?_
 refine s1 (aG aT) ?_
 iterate 3 refine sa ?_
 obtain⟨hc28,h⟩:=az h
 have hn29:(i64.wrap ((i64.wrap (rM*cQ.vC))+a46_0)).toNat<(cQ.vV).length:=by omega
 refine s1 (ej hc28 aF ax) ?_
 refine s1 (d:=dG ae ((cQ.vV)[(i64.wrap ((i64.wrap (rM*cQ.vC))+a46_0)).toNat]!)) (jI (c:=ae) (l:=cQ.vV) (n:=(i64.wrap ((i64.wrap (rM*cQ.vC))+a46_0)).toNat) (o:=0) ax hn29 (eM _ _ rfl)) ?_
 refine s1 (d:=dG ae Au) (aA (ao.id _ _) ax) ?_
 refine sa ?_
 refine s1 (aG aF) ?_
 iterate 2 refine sa ?_
 refine s1 (aG aT) ?_
 iterate 3 refine sa ?_
 obtain⟨hc30,h⟩:=az h
 have hn31:(i64.wrap ((i64.wrap (p_row*cQ.vC))+a46_0)).toNat<(a46_1).length:=by omega
 refine sG (sx ⟨hc30.1,hc30.2.1⟩ aF ax) ?_
 refine s1 (aA (ao.seqW ae a46_1 ((i64.wrap ((i64.wrap (p_row*cQ.vC))+a46_0)).toNat) hn31) ax) ?_
 refine cqb h rT fun M1 h=>?_
 refine cqb h w_ref04_Sub fun Nd h=>?_
 obtain⟨hc36,h⟩:=az h
 have hn37:(i64.wrap ((i64.wrap (rM*cQ.vC))+a46_0)).toNat<(a46_1).length:=by omega
 refine sG (sx ⟨hc36.1,hc36.2.1⟩ aF ax) ?_
 obtain⟨x38,hx39,h⟩:=ah h
 replace hx39:=cP hx39
 refine s0 (GH (b':=Nd) (ao.seqW ae a46_1 ((i64.wrap ((i64.wrap (rM*cQ.vC))+a46_0)).toNat) hn37) ax hx39) ?_
 refine .nil (hK _ _ (rb hx ?_))
 cases h
 exact PS.l (pe0 h0 [0,1,2,3,4])
 refine AW.exit ?_
 try dsimp only
 try simp only[aO,reduceIte,Nat.reduceEqDiff,reduceCtorEq]
 cases h
 exact PS.r ⟨by nofun,PE.i (wk h0 [0,1,2,4] (wR rfl (wR rfl (wR rfl (wR rfl (wR rfl (wR rfl wTn)))))) (vR rfl (vR rfl (vR rfl (vC rfl wVn)))) wLn)⟩
 rintro ex tm' hp' ⟨rfl,hw⟩
 try dsimp only
 try simp only[aO,reduceIte,Nat.reduceEqDiff,reduceCtorEq]
 cases h
 exact PE.i (Wk.trans hw (wk h0 [0,1,2,3] (wR rfl (wR rfl (wR rfl (wR rfl (wR rfl (wR rfl wTn)))))) (vR rfl (vR rfl (vR rfl (vC rfl wVn)))) wLn))
 rintro ex tm' hp' ⟨rfl,hw⟩
 refine AW.weak hw (rb hx ?_)
 cases h
 exact PS.l (pe0 h0 [0,1,2,3])
 refine AW.exit ?_
 try dsimp only
 try simp only[aO,reduceIte,Nat.reduceEqDiff,reduceCtorEq]
 cases h
 exact PS.r ⟨by nofun,PE.i (wk h0 [1,2,3] (wR rfl (wR rfl wTn)) (vR rfl (vR rfl (vC rfl wVn))) wLn)⟩
 rintro ex tm' hp' ⟨rfl,hw⟩
 try dsimp only
 try simp only[aO,reduceIte,Nat.reduceEqDiff,reduceCtorEq]
 refine AW.weak hw (rs hx fun K hK=>?_)
 refine s1 (d:=.ag [dI .i64 cQ.vR,dI .i64 cQ.vC,.gw 2 36 ((cQ.vV).length)]) (bb aq) ?_
 refine s0 (bO (ds':=[dI .i64 cQ.vR,dI .i64 cQ.vC,.gw 2 36 ((cQ.vV).length)]) aq) ?_
 refine .nil (hK _ _ ?_)
 obtain⟨hc43,h⟩:=az h
 refine AW.ret ?_
 cases h
 exact⟨_,bJ (es:=[dI .i64 cQ.vR,dI .i64 cQ.vC,.gw 2 36 ((cQ.vV).length)]) rfl aq rfl rfl (ltb rfl) (leb rfl) rfl rfl,nr.varA (A:=[dI .i64 cQ.vR,dI .i64 cQ.vC]) (C:=[]) h0 (xs:=(cW ae).f a26e2_0) rfl hc43 (tA.l _ _) rfl rfl⟩
def g_ref07_Reduce_W_l42(cQ:ap)(a21_0:Int)(a21_7:List aj)(x9:Int):Int×(List aj)→Option ((Int×(List aj))⊕((List aj))):=fun (su,a42_1)=>cnd (decide (su<cQ.vC)) (gd (0≤i64.wrap ((i64.wrap (x9*cQ.vC))+su)∧i64.wrap ((i64.wrap (x9*cQ.vC))+su)<(((a21_7).length:Nat):Int)∧i64.wrap ((i64.wrap (x9*cQ.vC))+su)<((a42_1).length:Int)) (bnd (some ((a42_1)[(i64.wrap ((i64.wrap (x9*cQ.vC))+su)).toNat]!)) fun sQ=>gd (0≤i64.wrap ((i64.wrap (a21_0*cQ.vC))+su)∧i64.wrap ((i64.wrap (a21_0*cQ.vC))+su)<(((a21_7).length:Nat):Int)∧i64.wrap ((i64.wrap (a21_0*cQ.vC))+su)<((a42_1).length:Int)) (gd (0≤i64.wrap ((i64.wrap (x9*cQ.vC))+su)∧i64.wrap ((i64.wrap (x9*cQ.vC))+su)<(((a21_7).length:Nat):Int)∧i64.wrap ((i64.wrap (x9*cQ.vC))+su)<((a42_1).length:Int)) (bnd (some ((a42_1).set ((i64.wrap ((i64.wrap (x9*cQ.vC))+su)).toNat) ((a42_1)[(i64.wrap ((i64.wrap (a21_0*cQ.vC))+su)).toNat]!))) fun uP=>gd (0≤i64.wrap ((i64.wrap (a21_0*cQ.vC))+su)∧i64.wrap ((i64.wrap (a21_0*cQ.vC))+su)<(((a21_7).length:Nat):Int)∧i64.wrap ((i64.wrap (a21_0*cQ.vC))+su)<((uP).length:Int)) (bnd (some ((uP).set ((i64.wrap ((i64.wrap (a21_0*cQ.vC))+su)).toNat) sQ)) fun DF=>some (.inl (i64.wrap (su+(1:Int)),DF))))))) (some (.inr a42_1))
def g_ref07_Reduce_W_l21(cQ:ap):Int×Int×Int×Int×(List Int)×(List aj)×Bool×(List aj)→Option ((Int×Int×Int×Int×(List Int)×(List aj)×Bool×(List aj))⊕(S_Reduced⊕(Int×Int×(List Int)×(List aj)×Bool×(List aj)))):=fun (a21_0,a21_1,a21_2,a21_3,a21_4,a21_5,a21_6,a21_7)=>bnd (S:=Bool) (cnd (decide (a21_1<cQ.vC)) (some (decide (a21_0<cQ.vR))) (some (false))) fun a24_0=>cnd a24_0 (bnd (S:=(Int×Int×Int×(List Int)×(List aj)×Bool×(List aj))⊕S_Reduced) (bnd (g_ref07_nonzero (⟨a21_2,a21_3,a21_7⟩:ap) a21_0 a21_1) fun x9=>cnd (decide (x9<(0:Int))) (some (.inl (a21_0,a21_2,a21_3,a21_4,a21_5,a21_6,a21_7))) (bnd (bf (g_ref07_Reduce_W_l42 cQ a21_0 a21_7 x9) ((0:Int),a21_7)) fun a42e2_0=>gd (0≤i64.wrap ((i64.wrap (a21_0*cQ.vC))+a21_1)∧i64.wrap ((i64.wrap (a21_0*cQ.vC))+a21_1)<(((a21_7).length:Nat):Int)∧i64.wrap ((i64.wrap (a21_0*cQ.vC))+a21_1)<((a42e2_0).length:Int)) (gd ((a21_5++[(a42e2_0)[(i64.wrap ((i64.wrap (a21_0*cQ.vC))+a21_1)).toNat]!]).length*136≤140737488355328) (gd ((a21_7).length=(a42e2_0).length) (bnd (g_ref07_eliminate_w (⟨a21_2,a21_3,a42e2_0⟩:ap) a21_0 a21_1) fun M1=>bnd (mR M1.vV) fun Nd=>cnd (!Nd) (some (.inr (⟨(⟨(0:Int),(0:Int),([]:List aj)⟩:ap),([]:List Int),([]:List aj),false,(30:Int),(0:Int)⟩:S_Reduced))) (gd ((a21_4++[a21_1]).length*8≤140737488355328) (some (.inl (i64.wrap (a21_0+(1:Int)),M1.vR,M1.vC,a21_4++[a21_1],a21_5++[(a42e2_0)[(i64.wrap ((i64.wrap (a21_0*cQ.vC))+a21_1)).toNat]!],!(a21_6 == (decide (x9≠a21_0))),M1.vV))))))))) fun y38=>match y38 with| .inl (ez,gZ,a29_2,a29_3,a29_4,a29_5,a29_6)=>some (.inl (ez,i64.wrap (a21_1+(1:Int)),gZ,a29_2,a29_3,a29_4,a29_5,a29_6))| .inr r=>some (.inr (.inl r))) (some (.inr (.inr (a21_2,a21_3,a21_4,a21_5,a21_6,a21_7))))
def g_ref07_Reduce_W(cQ:ap):Option S_Reduced:=bnd (bY cQ) fun x1=>cnd (!x1) (some (⟨(⟨(0:Int),(0:Int),([]:List aj)⟩:ap),([]:List Int),([]:List aj),false,(1:Int),(0:Int)⟩:S_Reduced)) (gd (0<(cQ.vV).length) (gd ((cQ.vV).length*136≤140737488355328) (bnd (bf (g_ref07_Reduce_W_l21 cQ) ((0:Int),(0:Int),cQ.vR,cQ.vC,([]:List Int),([]:List aj),false,cQ.vV)) fun y39=>match y39 with| .inl r=>some r| .inr (a21e0_0,a21e0_1,a21e0_2,a21e0_3,a21e0_4,a21e0_5)=>some (⟨(⟨a21e0_0,a21e0_1,a21e0_5⟩:ap),a21e0_2,a21e0_3,a21e0_4,(0:Int),(0:Int)⟩:S_Reduced))))
theorem w_ref07_Reduce_W {cQ:ap}{r:S_Reduced}(h:g_ref07_Reduce_W cQ=some r):aB prog 18 [dG aE cQ] (dG c_Reduced r):=by
 refine bC (rs:=[.cell 2 45]) (fun cx hx h0=>?_) func18
 unfold g_ref07_Reduce_W at h
 refine rs hx fun K hK=>?_
 refine s1 (d:=.pt 0 0) d8 ?_
 refine s1 (d:=.pt 1 0) (bc tb_45) ?_
 refine .nil (hK _ _ (rs hx fun K hK=>?_))
 refine s1 (d:=dG aE cQ) (bb aq) ?_
 refine scb h cT fun x1 h=>?_
 refine sa ?_
 refine .nil (hK _ _ (AW.seq (ra hx ?_)))
 refine cdh h rfl (fun a8 h=>?_) (fun a8 h=>?_)
 refine rs hx fun K hK=>?_
 refine s1 (d:=.ag [dI .i64 (0:Int),dI .i64 (0:Int),dN,dN,dN,dB false,dI .i64 (1:Int),dI .i64 (0:Int)]) (bE tb_45) ?_
 refine s0 (bO (ds':=[dI .i64 (0:Int),dI .i64 (0:Int),dN,dN,dN,dB false,dI .i64 (1:Int),dI .i64 (0:Int)]) tb_45) ?_
 refine .nil (hK _ _ (AW.ret ?_))
 cases h
 exact dh.mk1 (bJ (es:=[dI .i64 (0:Int),dI .i64 (0:Int),dN,dN,dN,dB false,dI .i64 (1:Int),dI .i64 (0:Int)]) rfl tb_45 rfl rfl (ltb rfl) (leb rfl) rfl (.inr (.inr ⟨_,(eA (wc (co _) (wc (co _) (wc (nT rfl) (wc (nT rfl) (wc (nT rfl) (wc (co _) (wc (co _) (wc (co _) wcn))))))))),rfl,rfl⟩)))
 refine AW.skip (AW.seq ?_)
 obtain⟨Bv,h⟩:=az h
 obtain⟨Bu,h⟩:=az h
 refine jn (PE cx .normal (fun (_:Unit)=>[(1,.pt 0 0),(2,.pt 1 0),(4,.pt 2 0)]) (fun (_:Unit)=>⟨[(0,[dI .i64 cQ.vR,dI .i64 cQ.vC,dL ae cQ.vV]),(1,[dI .i64 (0:Int),dI .i64 (0:Int),dN,dN,dN,dB false,dI .i64 (0:Int),dI .i64 (0:Int)]),(2,[dI .i64 cQ.vR,dI .i64 cQ.vC,.gw 3 36 ((cQ.vV).length),dN,dN,dB false,dI .i64 (0:Int),dI .i64 (0:Int)]),(3,dC ((cW ae).f cQ.vV))],[],4⟩) ()) ?_ ?_
 refine dw (DW.split 4 10 (by decide) ?_ ?_)
 refine DW.split 7 10 (by decide) ?_ ?_
 refine dwg [] [0,1,2,3,4,5,6,7,8,9,10,11] hx (by kernel_rfl) (by kernel_rfl) (by kernel_rfl) fun K hK=>?_
 dsimp only[eJ,nE,nS,List.map]
 refine sa ?_
 refine s1 (aG aT) ?_
 refine sa ?_
 refine s1 (aG aT) ?_
 refine q1 (d:=dF ae ([]:List aj)) (litF0 tok aF ax) ?_
 refine sa ?_
 refine s1 (aG aF) ?_
 refine q1 (d:=.gw 2 36 ((cQ.vV).length)) (hp':=⟨[(2,dC ((cW ae).f cQ.vV)),(1,[dI .i64 (0:Int),dI .i64 (0:Int),dN,dN,dN,dB false,dI .i64 (0:Int),dI .i64 (0:Int)]),(0,[dI .i64 cQ.vR,dI .i64 cQ.vC,dL ae cQ.vV])],[],3⟩) (sApN (c:=ae) (m:=cQ.vV) tok aF ax Bu Bv (tA.l _ _) (.inr rfl)) ?_
 refine s1 (d:=.ag [dI .i64 cQ.vR,dI .i64 cQ.vC,.gw 2 36 ((cQ.vV).length)]) (bE aq) ?_
 refine s1 (d:=.ag [dI .i64 cQ.vR,dI .i64 cQ.vC,.gw 2 36 ((cQ.vV).length),dN,dN,dB false,dI .i64 (0:Int),dI .i64 (0:Int)]) (bE tb_45) ?_
 refine s1 (d:=.pt 3 0) (bc tb_45) ?_
 refine s0 (bO (ds':=[dI .i64 cQ.vR,dI .i64 cQ.vC,.gw 2 36 ((cQ.vV).length),dN,dN,dB false,dI .i64 (0:Int),dI .i64 (0:Int)]) tb_45) ?_
 exact .nil (hK _ _ (pe0 h0 [0,1,3,2]))
 refine dwg [] [0,1,2,3,4,5,6,10,7,8,9,11] hx (by kernel_rfl) (by kernel_rfl) (by kernel_rfl) fun K hK=>?_
 dsimp only[eJ,nE,nS,List.map]
 refine sa ?_
 refine s1 (aG aT) ?_
 refine sa ?_
 refine s1 (aG aT) ?_
 refine q1 (d:=dF ae ([]:List aj)) (litF0 tok aF ax) ?_
 refine sa ?_
 refine s1 (aG aF) ?_
 refine s1 (d:=.pt 2 0) (bc tb_45) ?_
 refine q1 (d:=.gw 3 36 ((cQ.vV).length)) (hp':=⟨[(3,dC ((cW ae).f cQ.vV)),(2,[dI .i64 (0:Int),dI .i64 (0:Int),dN,dN,dN,dB false,dI .i64 (0:Int),dI .i64 (0:Int)]),(1,[dI .i64 (0:Int),dI .i64 (0:Int),dN,dN,dN,dB false,dI .i64 (0:Int),dI .i64 (0:Int)]),(0,[dI .i64 cQ.vR,dI .i64 cQ.vC,dL ae cQ.vV])],[],4⟩) (sApN (c:=ae) (m:=cQ.vV) tok aF ax Bu Bv (tA.l _ _) (.inr rfl)) ?_
 refine s1 (d:=.ag [dI .i64 cQ.vR,dI .i64 cQ.vC,.gw 3 36 ((cQ.vV).length)]) (bE aq) ?_
 refine s1 (d:=.ag [dI .i64 cQ.vR,dI .i64 cQ.vC,.gw 3 36 ((cQ.vV).length),dN,dN,dB false,dI .i64 (0:Int),dI .i64 (0:Int)]) (bE tb_45) ?_
 refine s0 (bO (ds':=[dI .i64 cQ.vR,dI .i64 cQ.vC,.gw 3 36 ((cQ.vV).length),dN,dN,dB false,dI .i64 (0:Int),dI .i64 (0:Int)]) tb_45) ?_
 exact .nil (hK _ _ (pe0 h0 [0,1,2,3]))
 refine dwg [] [0,1,2,3,5,6,10,4,7,8,9,11] hx (by kernel_rfl) (by kernel_rfl) (by kernel_rfl) fun K hK=>?_
 dsimp only[eJ,nE,nS,List.map]
 refine sa ?_
 refine s1 (aG aT) ?_
 refine sa ?_
 refine s1 (aG aT) ?_
 refine sa ?_
 refine s1 (aG aF) ?_
 refine s1 (d:=.pt 2 0) (bc tb_45) ?_
 refine q1 (d:=dF ae ([]:List aj)) (litF0 tok aF ax) ?_
 refine q1 (d:=.gw 3 36 ((cQ.vV).length)) (hp':=⟨[(3,dC ((cW ae).f cQ.vV)),(2,[dI .i64 (0:Int),dI .i64 (0:Int),dN,dN,dN,dB false,dI .i64 (0:Int),dI .i64 (0:Int)]),(1,[dI .i64 (0:Int),dI .i64 (0:Int),dN,dN,dN,dB false,dI .i64 (0:Int),dI .i64 (0:Int)]),(0,[dI .i64 cQ.vR,dI .i64 cQ.vC,dL ae cQ.vV])],[],4⟩) (sApN (c:=ae) (m:=cQ.vV) tok aF ax Bu Bv (tA.l _ _) (.inr rfl)) ?_
 refine s1 (d:=.ag [dI .i64 cQ.vR,dI .i64 cQ.vC,.gw 3 36 ((cQ.vV).length)]) (bE aq) ?_
 refine s1 (d:=.ag [dI .i64 cQ.vR,dI .i64 cQ.vC,.gw 3 36 ((cQ.vV).length),dN,dN,dB false,dI .i64 (0:Int),dI .i64 (0:Int)]) (bE tb_45) ?_
 refine s0 (bO (ds':=[dI .i64 cQ.vR,dI .i64 cQ.vC,.gw 3 36 ((cQ.vV).length),dN,dN,dB false,dI .i64 (0:Int),dI .i64 (0:Int)]) tb_45) ?_
 exact .nil (hK _ _ (pe0 h0 [0,1,2,3]))
 rintro ex tm' hp' ⟨rfl,hw⟩
 refine AW.weak hw (ra hx ?_)
 refine AW.seq (ra hx ?_)
 refine AW.block ?_
 obtain⟨y,hy,h⟩:=ah h
 refine lp (S:=Int×Int×Int×Int×(List Int)×(List aj)×Bool×(List aj)) (X:=S_Reduced⊕(Int×Int×(List Int)×(List aj)×Bool×(List aj))) (fun (a21_0,a21_1,a21_2,a21_3,a21_4,a21_5,a21_6,a21_7)=>[(1,.pt 0 0),(2,.pt 1 0),(4,.pt 2 0),(5,dI .i64 a21_0),(6,dI .i64 a21_1)]) (fun (a21_0,a21_1,a21_2,a21_3,a21_4,a21_5,a21_6,a21_7)=>⟨[(0,[dI .i64 cQ.vR,dI .i64 cQ.vC,dL ae cQ.vV]),(1,[dI .i64 (0:Int),dI .i64 (0:Int),dN,dN,dN,dB false,dI .i64 (0:Int),dI .i64 (0:Int)]),(2,[dI .i64 a21_2,dI .i64 a21_3,.gw 3 36 ((a21_7).length),dO 4 (cI .i64) a21_4,dO 5 ae a21_5,dB a21_6,dI .i64 (0:Int),dI .i64 (0:Int)]),(3,dC ((cW ae).f a21_7))],[(4,(a21_4).length,1,3),(5,(a21_5).length,36,34)],6⟩) (PS (PR [.cell 2 45] fun r=>dG c_Reduced r) (PE cx (.exit 0) (fun (a21e0_0,a21e0_1,a21e0_2,a21e0_3,a21e0_4,a21e0_5)=>[(2,.pt 0 0),(4,.pt 1 0)]) fun (a21e0_0,a21e0_1,a21e0_2,a21e0_3,a21e0_4,a21e0_5)=>⟨[(0,[dI .i64 (0:Int),dI .i64 (0:Int),dN,dN,dN,dB false,dI .i64 (0:Int),dI .i64 (0:Int)]),(1,[dI .i64 a21e0_0,dI .i64 a21e0_1,.gw 2 36 ((a21e0_5).length),dO 3 (cI .i64) a21e0_2,dO 4 ae a21e0_3,dB a21e0_4,dI .i64 (0:Int),dI .i64 (0:Int)]),(2,dC ((cW ae).f a21e0_5))],[(3,(a21e0_2).length,1,3),(4,(a21e0_3).length,36,34)],5⟩)) hy ?_ ?_ ?_
 exact Wk.trans (Wk.nilOwn (ds':=[dI .i64 cQ.vR,dI .i64 cQ.vC,.gw 3 36 ((cQ.vV).length),dO 4 (cI .i64) ([]:List Int),dN,dB false,dI .i64 (0:Int),dI .i64 (0:Int)]) 2 3 3 1) (Wk.trans (Wk.nilOwn (ds':=[dI .i64 cQ.vR,dI .i64 cQ.vC,.gw 3 36 ((cQ.vV).length),dO 4 (cI .i64) ([]:List Int),dO 5 ae ([]:List aj),dB false,dI .i64 (0:Int),dI .i64 (0:Int)]) 2 4 34 36) (wk h0 [0,1,2,3,4,5] (wR rfl (wR rfl (wR rfl (wR rfl (wR rfl wTn))))) (vR rfl (vR rfl (vR rfl (vC rfl wVn)))) (wL rfl rfl (wL rfl rfl wLn))))
 clear hy h
 rintro⟨a21_0,a21_1,a21_2,a21_3,a21_4,a21_5,a21_6,a21_7⟩ y h
 dsimp only[g_ref07_Reduce_W_l21] at h
 iterate 2 refine AW.seq ?_
 obtain⟨a24_0,hy,h⟩:=ah h
 refine jn ((PE cx .normal (fun a24_0=>[(1,.pt 0 0),(2,.pt 1 0),(4,.pt 2 0),(5,dI .i64 a21_0),(6,dI .i64 a21_1),(35,dB a24_0)]) fun a24_0=>⟨[(0,[dI .i64 cQ.vR,dI .i64 cQ.vC,dL ae cQ.vV]),(1,[dI .i64 (0:Int),dI .i64 (0:Int),dN,dN,dN,dB false,dI .i64 (0:Int),dI .i64 (0:Int)]),(2,[dI .i64 a21_2,dI .i64 a21_3,.gw 3 36 ((a21_7).length),dO 4 (cI .i64) a21_4,dO 5 ae a21_5,dB a21_6,dI .i64 (0:Int),dI .i64 (0:Int)]),(3,dC ((cW ae).f a21_7))],[(4,(a21_4).length,1,3),(5,(a21_5).length,36,34)],6⟩) a24_0) ?_ ?_
 replace h:=hy
 refine rq hx fun K hK=>?_
 iterate 2 refine sa ?_
 refine s1 (aG aT) ?_
 iterate 2 refine sa ?_
 rcases aW (decide (a21_1<cQ.vC)) with bU|bU
 replace h:=aY bU h
 iterate 2 refine ga bU ?_
 refine g1 bU (aG aT) ?_
 refine ga bU ?_
 refine s1 (am bU) ?_
 refine .nil (hK _ _ ?_)
 cases h
 exact pe0 h0 [0,1,2,3,4,5]
 replace h:=aZ bU h
 iterate 4 refine aJ rfl rfl bU ?_
 refine s1 (au bU) ?_
 refine .nil (hK _ _ ?_)
 cases h
 exact pe0 h0 [0,1,2,3,4,5]
 rintro ex tm' hp' ⟨rfl,hw⟩
 refine AW.weak hw (cdh h rfl (fun py h=>?_) (fun py h=>?_))
 refine AW.skip (AW.seq ?_)
 obtain⟨y,hy,h⟩:=ah h
 refine jn ((PS (PE cx .normal (fun (ez,gZ,a29_2,a29_3,a29_4,a29_5,a29_6)=>[(1,.pt 0 0),(2,.pt 1 0),(4,.pt 2 0),(5,dI .i64 ez),(6,dI .i64 a21_1)]) fun (ez,gZ,a29_2,a29_3,a29_4,a29_5,a29_6)=>⟨[(0,[dI .i64 cQ.vR,dI .i64 cQ.vC,dL ae cQ.vV]),(1,[dI .i64 (0:Int),dI .i64 (0:Int),dN,dN,dN,dB false,dI .i64 (0:Int),dI .i64 (0:Int)]),(2,[dI .i64 gZ,dI .i64 a29_2,.gw 3 36 ((a29_6).length),dO 4 (cI .i64) a29_3,dO 5 ae a29_4,dB a29_5,dI .i64 (0:Int),dI .i64 (0:Int)]),(3,dC ((cW ae).f a29_6))],[(4,(a29_3).length,1,3),(5,(a29_4).length,36,34)],6⟩) (PR [.cell 2 45] fun r=>dG c_Reduced r)) y) ?_ ?_
 replace h:=hy
 refine AW.block (rs hx fun K hK=>?_)
 refine sa ?_
 refine s1 (d:=.ag [dI .i64 a21_2,dI .i64 a21_3,.gw 3 36 ((a21_7).length)]) (bb aq) ?_
 iterate 2 refine sa ?_
 obtain⟨x9,xq,h⟩:=ah h
 refine sF (w_ref07_nonzero xq) (ARs.cons (AR.ag (ARs.cons (AR.le (al _) rfl) (ARs.cons (AR.le (al _) rfl) (ARs.cons (AR.gwW (c:=ae) rfl rfl) ARs.nil)))) (ARs.cons (AR.le (al _) rfl) (ARs.cons (AR.le (al _) rfl) ARs.nil))) rfl ?_
 refine sa ?_
 refine .nil (hK _ _ (AW.seq (ra hx ?_)))
 refine cdh h rfl (fun FU h=>?_) (fun FU h=>?_)
 refine AW.exit ?_
 try dsimp only
 try simp only[aO,reduceIte,Nat.reduceEqDiff,reduceCtorEq]
 cases h
 exact PS.l (pe0 h0 [0,1,2,3,4,5])
 refine AW.skip (AW.seq (ra hx ?_))
 refine AW.block ?_
 obtain⟨a42e2_0,hy,h⟩:=ah h
 refine lp (S:=Int×(List aj)) (X:=(List aj)) (fun (su,a42_1)=>[(1,.pt 0 0),(2,.pt 1 0),(4,.pt 2 0),(5,dI .i64 a21_0),(6,dI .i64 a21_1),(7,dI .i64 x9),(8,dI .i64 su)]) (fun (su,a42_1)=>⟨[(0,[dI .i64 cQ.vR,dI .i64 cQ.vC,dL ae cQ.vV]),(1,[dI .i64 (0:Int),dI .i64 (0:Int),dN,dN,dN,dB false,dI .i64 (0:Int),dI .i64 (0:Int)]),(2,[dI .i64 a21_2,dI .i64 a21_3,.gw 3 36 ((a21_7).length),dO 4 (cI .i64) a21_4,dO 5 ae a21_5,dB a21_6,dI .i64 (0:Int),dI .i64 (0:Int)]),(3,dC ((cW ae).f a42_1))],[(4,(a21_4).length,1,3),(5,(a21_5).length,36,34)],6⟩) (PE cx (.exit 2) (fun a42e2_0=>[(1,.pt 0 0),(2,.pt 1 0),(4,.pt 2 0),(5,dI .i64 a21_0),(6,dI .i64 a21_1),(7,dI .i64 x9)]) fun a42e2_0=>⟨[(0,[dI .i64 cQ.vR,dI .i64 cQ.vC,dL ae cQ.vV]),(1,[dI .i64 (0:Int),dI .i64 (0:Int),dN,dN,dN,dB false,dI .i64 (0:Int),dI .i64 (0:Int)]),(2,[dI .i64 a21_2,dI .i64 a21_3,.gw 3 36 ((a21_7).length),dO 4 (cI .i64) a21_4,dO 5 ae a21_5,dB a21_6,dI .i64 (0:Int),dI .i64 (0:Int)]),(3,dC ((cW ae).f a42e2_0))],[(4,(a21_4).length,1,3),(5,(a21_5).length,36,34)],6⟩) hy ?_ ?_ ?_
 exact wk h0 [0,1,2,3,4,5] (wR rfl (wR rfl (wR rfl (wR rfl (wR rfl (wR rfl (wR rfl wTn))))))) (vR rfl (vR rfl (vR rfl (vC rfl wVn)))) (wL rfl rfl (wL rfl rfl wLn))
 clear hy h
 rintro⟨su,a42_1⟩ y h
 dsimp only[g_ref07_Reduce_W_l42] at h
 refine AW.seq (rs hx fun K hK=>?_)
 iterate 2 refine sa ?_
 refine s1 (aG aT) ?_
 refine sa ?_
 refine .nil (hK _ _ (cdh h rfl (fun mw h=>?_) (fun mw h=>?_)))
 refine AW.skip (AW.seq (AW.block (rs hx fun K hK=>?_)))
 iterate 2 refine sa ?_
 refine s1 (aG aF) ?_
 iterate 2 refine sa ?_
 refine s1 (aG aT) ?_
 iterate 3 refine sa ?_
 obtain⟨Ck,h⟩:=az h
 have FI:(i64.wrap ((i64.wrap (x9*cQ.vC))+su)).toNat<(a42_1).length:=by omega
 refine sG (sx ⟨Ck.1,Ck.2.1⟩ aF ax) ?_
 refine s1 (aA (ao.seqW ae a42_1 ((i64.wrap ((i64.wrap (x9*cQ.vC))+su)).toNat) FI) ax) ?_
 refine s1 (bq (F:=ae.f cb) ax) ?_
 obtain⟨sQ,hx16,h⟩:=ah h
 replace hx16:=cP hx16
 refine s0 (kD (b':=(a42_1)[(i64.wrap ((i64.wrap (x9*cQ.vC))+su)).toNat]!) (ao.id _ _) ax hx16) ?_
 refine .nil (hK _ _ (rsd [] hx fun K hK=>?_))
 iterate 2 refine sa ?_
 refine s1 (aG aF) ?_
 iterate 2 refine sa ?_
 refine s1 (aG aT) ?_
 iterate 5 refine sa ?_
 refine s1 (aG aF) ?_
 iterate 2 refine sa ?_
 refine s1 (aG aT) ?_
 iterate 3 refine sa ?_
 obtain⟨hc17,h⟩:=az h
 have hn18:(i64.wrap ((i64.wrap (a21_0*cQ.vC))+su)).toNat<(a42_1).length:=by omega
 refine sG (sx ⟨hc17.1,hc17.2.1⟩ aF ax) ?_
 refine s1 (aA (ao.seqW ae a42_1 ((i64.wrap ((i64.wrap (a21_0*cQ.vC))+su)).toNat) hn18) ax) ?_
 obtain⟨FN,h⟩:=az h
 have Ms:(i64.wrap ((i64.wrap (x9*cQ.vC))+su)).toNat<(a42_1).length:=by omega
 refine sG (sx ⟨FN.1,FN.2.1⟩ aF ax) ?_
 obtain⟨uP,Oz,h⟩:=ah h
 replace Oz:=cP Oz
 refine s0 (GH (b':=(a42_1)[(i64.wrap ((i64.wrap (a21_0*cQ.vC))+su)).toNat]!) (ao.seqW ae a42_1 ((i64.wrap ((i64.wrap (x9*cQ.vC))+su)).toNat) Ms) ax Oz) ?_
 refine .nil (hK _ _ (rq hx fun K hK=>?_))
 iterate 2 refine sa ?_
 refine s1 (aG aF) ?_
 iterate 2 refine sa ?_
 refine s1 (aG aT) ?_
 iterate 3 refine sa ?_
 refine s1 (d:=dG ae sQ) (aA (ao.id _ _) ax) ?_
 obtain⟨hc23,h⟩:=az h
 have hn24:(i64.wrap ((i64.wrap (a21_0*cQ.vC))+su)).toNat<(uP).length:=by omega
 refine sG (sx ⟨hc23.1,hc23.2.1⟩ aF ax) ?_
 obtain⟨DF,hx26,h⟩:=ah h
 replace hx26:=cP hx26
 refine s0 (GH (b':=sQ) (ao.seqW ae uP ((i64.wrap ((i64.wrap (a21_0*cQ.vC))+su)).toNat) hn24) ax hx26) ?_
 refine .nil (hK _ _ (rb hx ?_))
 cases h
 exact PS.l (pe0 h0 [0,1,2,3,4,5])
 refine AW.exit ?_
 try dsimp only
 try simp only[aO,reduceIte,Nat.reduceEqDiff,reduceCtorEq]
 cases h
 exact PS.r ⟨by nofun,PE.i (wk h0 [0,1,2,3,4,5] (wR rfl (wR rfl (wR rfl (wR rfl (wR rfl (wR rfl wTn)))))) (vR rfl (vR rfl (vR rfl (vC rfl wVn)))) (wL rfl rfl (wL rfl rfl wLn)))⟩
 rintro ex tm' hp' ⟨rfl,hw⟩
 try dsimp only
 try simp only[aO,reduceIte,Nat.reduceEqDiff,reduceCtorEq]
 refine AW.weak hw (rs hx fun K hK=>?_)
 refine sa ?_
 refine s1 (aG fF) ?_
 iterate 5 refine sa ?_
 refine s0 (bO (ds':=[dI .i64 a21_2,dI .i64 a21_3,.gw 3 36 ((a21_7).length),dO 4 (cI .i64) a21_4,dO 5 ae a21_5,dB (!(a21_6 == (decide (x9≠a21_0)))),dI .i64 (0:Int),dI .i64 (0:Int)]) fF) ?_
 refine .nil (hK _ _ (rsd [] hx fun K hK=>?_))
 refine sa ?_
 refine s1 (aG aF) ?_
 iterate 2 refine sa ?_
 refine s1 (aG aF) ?_
 iterate 2 refine sa ?_
 refine s1 (aG aT) ?_
 iterate 3 refine sa ?_
 obtain⟨hc28,h⟩:=az h
 have hn29:(i64.wrap ((i64.wrap (a21_0*cQ.vC))+a21_1)).toNat<(a42e2_0).length:=by omega
 refine sG (sx ⟨hc28.1,hc28.2.1⟩ aF ax) ?_
 refine s1 (aA (ao.seqW ae a42e2_0 ((i64.wrap ((i64.wrap (a21_0*cQ.vC))+a21_1)).toNat) hn29) ax) ?_
 refine s1 (iM ([(a42e2_0)[(i64.wrap ((i64.wrap (a21_0*cQ.vC))+a21_1)).toNat]!]:List aj) ae aF ax) ?_
 obtain⟨hc30,h⟩:=az h
 refine s1 (d:=dO 5 ae (a21_5++[(a42e2_0)[(i64.wrap ((i64.wrap (a21_0*cQ.vC))+a21_1)).toNat]!])) (gc aF ax hc30) ?_
 refine sa ?_
 refine s0 (bO (ds':=[dI .i64 a21_2,dI .i64 a21_3,.gw 3 36 ((a21_7).length),dO 4 (cI .i64) a21_4,dO 5 ae (a21_5++[(a42e2_0)[(i64.wrap ((i64.wrap (a21_0*cQ.vC))+a21_1)).toNat]!]),dB (!(a21_6 == (decide (x9≠a21_0)))),dI .i64 (0:Int),dI .i64 (0:Int)]) aF) ?_
 refine .nil (hK _ _ (rs hx fun K hK=>?_))
 refine sa ?_
 refine s1 (d:=.ag [dI .i64 a21_2,dI .i64 a21_3,.gw 3 36 ((a21_7).length)]) (bb aq) ?_
 iterate 2 refine sa ?_
 obtain⟨hc31,h⟩:=az h
 obtain⟨M1,hx33,h⟩:=ah h
 refine sC0 (d:=.ag [dI .i64 M1.vR,dI .i64 M1.vC,.gw 6 36 ((M1.vV).length)]) (hp':=⟨[(6,dC ((cW ae).f M1.vV)),(2,[dI .i64 a21_2,dI .i64 a21_3,.gw 3 36 ((a21_7).length),dO 4 (cI .i64) a21_4,dO 5 ae (a21_5++[(a42e2_0)[(i64.wrap ((i64.wrap (a21_0*cQ.vC))+a21_1)).toNat]!]),dB (!(a21_6 == (decide (x9≠a21_0)))),dI .i64 (0:Int),dI .i64 (0:Int)]),(2,[dI .i64 a21_2,dI .i64 a21_3,.gw 3 36 ((a21_7).length),dO 4 (cI .i64) a21_4,dO 5 ae a21_5,dB (!(a21_6 == (decide (x9≠a21_0)))),dI .i64 (0:Int),dI .i64 (0:Int)]),(0,[dI .i64 cQ.vR,dI .i64 cQ.vC,dL ae cQ.vV]),(1,[dI .i64 (0:Int),dI .i64 (0:Int),dN,dN,dN,dB false,dI .i64 (0:Int),dI .i64 (0:Int)]),(2,[dI .i64 a21_2,dI .i64 a21_3,.gw 3 36 ((a21_7).length),dO 4 (cI .i64) a21_4,dO 5 ae a21_5,dB a21_6,dI .i64 (0:Int),dI .i64 (0:Int)]),(3,dC ((cW ae).f a42e2_0))],[(5,(a21_5++[(a42e2_0)[(i64.wrap ((i64.wrap (a21_0*cQ.vC))+a21_1)).toNat]!]).length,36,34),(4,(a21_4).length,1,3),(5,(a21_5).length,36,34)],7⟩) (w_ref07_eliminate_w hx33) (ARs.cons (AR.ag (ARs.cons (AR.le (al _) rfl) (ARs.cons (AR.le (al _) rfl) (ARs.cons (AR.gwW (c:=ae) rfl hc31) ARs.nil)))) (ARs.cons (AR.le (al _) rfl) (ARs.cons (AR.le (al _) rfl) ARs.nil))) (tA.l _ _) ?_
 refine sa ?_
 refine s0 (bO (ds':=[dI .i64 M1.vR,dI .i64 M1.vC,.gw 6 36 ((M1.vV).length),dO 4 (cI .i64) a21_4,dO 5 ae (a21_5++[(a42e2_0)[(i64.wrap ((i64.wrap (a21_0*cQ.vC))+a21_1)).toNat]!]),dB (!(a21_6 == (decide (x9≠a21_0)))),dI .i64 (0:Int),dI .i64 (0:Int)]) aq) ?_
 refine .nil (hK _ _ (rs hx fun K hK=>?_))
 iterate 2 refine sa ?_
 refine s1 (aG aF) ?_
 obtain⟨Nd,hx35,h⟩:=ah h
 refine sF (xV hx35) (ARs.cons (AR.gwW (c:=ae) rfl rfl) ARs.nil) rfl ?_
 refine sa ?_
 refine .nil (hK _ _ (AW.seq (ra hx ?_)))
 refine cdh h rfl (fun hb36 h=>?_) (fun hb36 h=>?_)
 refine rs hx fun K hK=>?_
 refine s1 (d:=.ag [dI .i64 (0:Int),dI .i64 (0:Int),dN,dN,dN,dB false,dI .i64 (30:Int),dI .i64 (0:Int)]) (bE tb_45) ?_
 refine s0 (bO (ds':=[dI .i64 (0:Int),dI .i64 (0:Int),dN,dN,dN,dB false,dI .i64 (30:Int),dI .i64 (0:Int)]) tb_45) ?_
 refine .nil (hK _ _ (AW.ret ?_))
 cases h
 refine PS.r (PR.i ?_)
 exact dh.mk1 (bJ (es:=[dI .i64 (0:Int),dI .i64 (0:Int),dN,dN,dN,dB false,dI .i64 (30:Int),dI .i64 (0:Int)]) rfl tb_45 rfl rfl (ltb rfl) (leb rfl) rfl (.inr (.inr ⟨_,(eA (wc (co _) (wc (co _) (wc (nT rfl) (wc (nT rfl) (wc (nT rfl) (wc (co _) (wc (co _) (wc (co _) wcn))))))))),rfl,rfl⟩)))
 refine AW.skip (rs hx fun K hK=>?_)
 refine sa ?_
 refine s1 (aG cz) ?_
 refine sa ?_
 refine s1 (d:=dO 7 (cI .i64) [a21_1]) (iI cz aT) ?_
 obtain⟨hc37,h⟩:=az h
 refine s1 (d:=dO 4 (cI .i64) (a21_4++[a21_1])) (gc cz aT hc37) ?_
 refine sa ?_
 refine s0 (bO (ds':=[dI .i64 M1.vR,dI .i64 M1.vC,.gw 6 36 ((M1.vV).length),dO 4 (cI .i64) (a21_4++[a21_1]),dO 5 ae (a21_5++[(a42e2_0)[(i64.wrap ((i64.wrap (a21_0*cQ.vC))+a21_1)).toNat]!]),dB (!(a21_6 == (decide (x9≠a21_0)))),dI .i64 (0:Int),dI .i64 (0:Int)]) cz) ?_
 refine .nil (hK _ _ (rb hx ?_))
 cases h
 exact PS.l (pe0 h0 [0,1,2,6,4,5])
 rcases y with⟨ez,gZ,a29_2,a29_3,a29_4,a29_5,a29_6⟩|r
 rintro ex tm' hp' ⟨rfl,hw⟩
 refine AW.weak hw (rb hx ?_)
 cases h
 exact PS.l (pe0 h0 [0,1,2,3,4,5])
 rintro ex tm' hp' ⟨rfl,hw⟩
 cases h
 exact PS.r ⟨by nofun,PS.l (PR.i hw)⟩
 refine AW.exit ?_
 try dsimp only
 try simp only[aO,reduceIte,Nat.reduceEqDiff,reduceCtorEq]
 cases h
 exact PS.r ⟨by nofun,PS.r (PE.i (wk h0 [1,2,3,4,5] (wR rfl (wR rfl wTn)) (vR rfl (vR rfl (vC rfl wVn))) (wL rfl rfl (wL rfl rfl wLn))))⟩
 rcases y with r|⟨a21e0_0,a21e0_1,a21e0_2,a21e0_3,a21e0_4,a21e0_5⟩
 rintro ex tm' hp' ⟨rfl,hw⟩
 cases h
 exact hw
 rintro ex tm' hp' ⟨rfl,hw⟩
 try dsimp only
 try simp only[aO,reduceIte,Nat.reduceEqDiff,reduceCtorEq]
 refine AW.weak hw (rs hx fun K hK=>?_)
 refine s1 (d:=.ag [dI .i64 a21e0_0,dI .i64 a21e0_1,.gw 2 36 ((a21e0_5).length),dO 3 (cI .i64) a21e0_2,dO 4 ae a21e0_3,dB a21e0_4,dI .i64 (0:Int),dI .i64 (0:Int)]) (bb tb_45) ?_
 refine s0 (bO (ds':=[dI .i64 a21e0_0,dI .i64 a21e0_1,.gw 2 36 ((a21e0_5).length),dO 3 (cI .i64) a21e0_2,dO 4 ae a21e0_3,dB a21e0_4,dI .i64 (0:Int),dI .i64 (0:Int)]) tb_45) ?_
 refine .nil (hK _ _ (fzAD ae (n:=(a21e0_5).length) 2 [(138,.ag [dI .i64 a21e0_0,dI .i64 a21e0_1,dL ae a21e0_5,dO 3 (cI .i64) a21e0_2,dO 4 ae a21e0_3,dB a21e0_4,dI .i64 (0:Int),dI .i64 (0:Int)])] [(0,[dI .i64 a21e0_0,dI .i64 a21e0_1,dL ae a21e0_5,dO 3 (cI .i64) a21e0_2,dO 4 ae a21e0_3,dB a21e0_4,dI .i64 (0:Int),dI .i64 (0:Int)]),(1,[dI .i64 a21e0_0,dI .i64 a21e0_1,dL ae a21e0_5,dO 3 (cI .i64) a21e0_2,dO 4 ae a21e0_3,dB a21e0_4,dI .i64 (0:Int),dI .i64 (0:Int)])] rfl ?_ (ftc rfl (.ag (.cons (.keep _) (.cons (.keep _) (.cons (.hitG) (.cons (.keep _) (.cons (.keep _) (.cons (.keep _) (.cons (.keep _) (.cons (.keep _) .nil))))))))) ftn) (fvc (by decide) rfl (.cons (.keep _) (.cons (.keep _) (.cons (.hitG) (.cons (.keep _) (.cons (.keep _) (.cons (.keep _) (.cons (.keep _) (.cons (.keep _) .nil)))))))) (fvc (by decide) rfl (.cons (.keep _) (.cons (.keep _) (.cons (.hitG) (.cons (.keep _) (.cons (.keep _) (.cons (.keep _) (.cons (.keep _) (.cons (.keep _) .nil)))))))) fvn))))
 refine AW.ret ?_
 cases h
 exact dh.mk1 (bJ (es:=[dI .i64 a21e0_0,dI .i64 a21e0_1,dL ae a21e0_5,dO 3 (cI .i64) a21e0_2,dO 4 ae a21e0_3,dB a21e0_4,dI .i64 (0:Int),dI .i64 (0:Int)]) rfl tb_45 rfl rfl (ltb rfl) (leb rfl) rfl (.inr (.inr ⟨_,(eA (wc (co _) (wc (co _) (wc (co _) (wc (A5 _) (wc (A5 _) (wc (co _) (wc (co _) (wc (co _) wcn))))))))),rfl,rfl⟩)))
def g_ref07_Reduce_D_l42(cQ:ap)(a21_0:Int)(a21_2:ap)(x8:Int):Unit→Option (Unit⊕Unit):=fun ()=>cnd (decide ((0:Int)<cQ.vC)) (gd (0≤i64.wrap ((i64.wrap (x8*cQ.vC))+(0:Int))∧i64.wrap ((i64.wrap (x8*cQ.vC))+(0:Int))<((a21_2.vV).length:Int)) (bnd (some ((a21_2.vV)[(i64.wrap ((i64.wrap (x8*cQ.vC))+(0:Int))).toNat]!)) fun og=>gd (0≤i64.wrap ((i64.wrap (a21_0*cQ.vC))+(0:Int))∧i64.wrap ((i64.wrap (a21_0*cQ.vC))+(0:Int))<((a21_2.vV).length:Int)) (gd (0≤i64.wrap ((i64.wrap (x8*cQ.vC))+(0:Int))∧i64.wrap ((i64.wrap (x8*cQ.vC))+(0:Int))<((a21_2.vV).length:Int)) (none)))) (some (.inr ()))
def g_ref07_Reduce_D_l21(cQ:ap):Int×Int×ap×(List Int)×(List aj)×Bool→Option ((Int×Int×ap×(List Int)×(List aj)×Bool)⊕(S_Reduced⊕(ap×(List Int)×(List aj)×Bool))):=fun (a21_0,a21_1,a21_2,a21_3,a21_4,a21_5)=>bnd (S:=Bool) (cnd (decide (a21_1<cQ.vC)) (some (decide (a21_0<cQ.vR))) (some (false))) fun a24_0=>cnd a24_0 (bnd (S:=(Int×ap×(List Int)×(List aj)×Bool)⊕S_Reduced) (bnd (g_ref07_nonzero a21_2 a21_0 a21_1) fun x8=>cnd (decide (x8<(0:Int))) (some (.inl (a21_0,a21_2,a21_3,a21_4,a21_5))) (bnd (bf (g_ref07_Reduce_D_l42 cQ a21_0 a21_2 x8) ()) fun ()=>gd (0≤i64.wrap ((i64.wrap (a21_0*cQ.vC))+a21_1)∧i64.wrap ((i64.wrap (a21_0*cQ.vC))+a21_1)<((a21_2.vV).length:Int)) (gd ((a21_4++[(a21_2.vV)[(i64.wrap ((i64.wrap (a21_0*cQ.vC))+a21_1)).toNat]!]).length*136≤140737488355328) (bnd (g_ref07_eliminate a21_2 a21_0 a21_1) fun Dz=>bnd (mR Dz.vV) fun x26=>cnd (!x26) (some (.inr (⟨(⟨(0:Int),(0:Int),([]:List aj)⟩:ap),([]:List Int),([]:List aj),false,(30:Int),(0:Int)⟩:S_Reduced))) (gd ((a21_3++[a21_1]).length*8≤140737488355328) (some (.inl (i64.wrap (a21_0+(1:Int)),Dz,a21_3++[a21_1],a21_4++[(a21_2.vV)[(i64.wrap ((i64.wrap (a21_0*cQ.vC))+a21_1)).toNat]!],!(a21_5 == (decide (x8≠a21_0))))))))))) fun y30=>match y30 with| .inl (ez,gZ,a29_2,a29_3,a29_4)=>some (.inl (ez,i64.wrap (a21_1+(1:Int)),gZ,a29_2,a29_3,a29_4))| .inr r=>some (.inr (.inl r))) (some (.inr (.inr (a21_2,a21_3,a21_4,a21_5))))
def g_ref07_Reduce_D(cQ:ap):Option S_Reduced:=bnd (bY cQ) fun x1=>cnd (!x1) (some (⟨(⟨(0:Int),(0:Int),([]:List aj)⟩:ap),([]:List Int),([]:List aj),false,(1:Int),(0:Int)⟩:S_Reduced)) (gd ((([]:List aj)++cQ.vV).length*136≤140737488355328) (bnd (bf (g_ref07_Reduce_D_l21 cQ) ((0:Int),(0:Int),(⟨cQ.vR,cQ.vC,([]:List aj)++cQ.vV⟩:ap),([]:List Int),([]:List aj),false)) fun y31=>match y31 with| .inl r=>some r| .inr (a21e0_0,a21e0_1,a21e0_2,a21e0_3)=>some (⟨a21e0_0,a21e0_1,a21e0_2,a21e0_3,(0:Int),(0:Int)⟩:S_Reduced)))
theorem w_ref07_Reduce_D {cQ:ap}{r:S_Reduced}(h:g_ref07_Reduce_D cQ=some r):aB prog 18 [dG aE cQ] (dG c_Reduced r):=by
 refine bC (rs:=[.cell 2 45]) (fun cx hx h0=>?_) func18
 unfold g_ref07_Reduce_D at h
 refine rs hx fun K hK=>?_
 refine s1 (d:=.pt 0 0) d8 ?_
 refine s1 (d:=.pt 1 0) (bc tb_45) ?_
 refine .nil (hK _ _ (rs hx fun K hK=>?_))
 refine s1 (d:=dG aE cQ) (bb aq) ?_
 refine scb h cT fun x1 h=>?_
 refine sa ?_
 refine .nil (hK _ _ (AW.seq (ra hx ?_)))
 refine cdh h rfl (fun a8 h=>?_) (fun a8 h=>?_)
 refine rs hx fun K hK=>?_
 refine s1 (d:=.ag [dI .i64 (0:Int),dI .i64 (0:Int),dN,dN,dN,dB false,dI .i64 (1:Int),dI .i64 (0:Int)]) (bE tb_45) ?_
 refine s0 (bO (ds':=[dI .i64 (0:Int),dI .i64 (0:Int),dN,dN,dN,dB false,dI .i64 (1:Int),dI .i64 (0:Int)]) tb_45) ?_
 refine .nil (hK _ _ (AW.ret ?_))
 cases h
 exact dh.mk1 (bJ (es:=[dI .i64 (0:Int),dI .i64 (0:Int),dN,dN,dN,dB false,dI .i64 (1:Int),dI .i64 (0:Int)]) rfl tb_45 rfl rfl (ltb rfl) (leb rfl) rfl (.inr (.inr ⟨_,(eA (wc (co _) (wc (co _) (wc (nT rfl) (wc (nT rfl) (wc (nT rfl) (wc (co _) (wc (co _) (wc (co _) wcn))))))))),rfl,rfl⟩)))
 refine AW.skip (AW.seq ?_)
 obtain⟨Bv,h⟩:=az h
 refine jn (PE cx .normal (fun (_:Unit)=>[(1,.pt 0 0),(2,.pt 1 0),(4,.pt 2 0)]) (fun (_:Unit)=>⟨[(0,[dI .i64 cQ.vR,dI .i64 cQ.vC,dL ae cQ.vV]),(1,[dI .i64 (0:Int),dI .i64 (0:Int),dN,dN,dN,dB false,dI .i64 (0:Int),dI .i64 (0:Int)]),(2,[dI .i64 cQ.vR,dI .i64 cQ.vC,dL ae (([]:List aj)++cQ.vV),dN,dN,dB false,dI .i64 (0:Int),dI .i64 (0:Int)])],[],3⟩) ()) ?_ ?_
 refine dw (DW.split 4 10 (by decide) ?_ ?_)
 refine DW.split 7 10 (by decide) ?_ ?_
 refine dwg [] [0,1,2,3,4,5,6,7,8,9,10,11] hx (by kernel_rfl) (by kernel_rfl) (by kernel_rfl) fun K hK=>?_
 dsimp only[eJ,nE,nS,List.map]
 refine sa ?_
 refine s1 (aG aT) ?_
 refine sa ?_
 refine s1 (aG aT) ?_
 refine s1 (d:=dO 2 ae ([]:List aj)) (T_bsl0 aF ax) ?_
 refine sa ?_
 refine s1 (aG aF) ?_
 refine s1 (d:=dO 2 ae (([]:List aj)++cQ.vV)) (gc aF ax Bv) ?_
 refine s2 (d2:=dG aE (⟨cQ.vR,cQ.vC,([]:List aj)++cQ.vV⟩:ap)) (bE (es:=[dI .i64 cQ.vR,dI .i64 cQ.vC,dO 2 ae (([]:List aj)++cQ.vV)]) aq) (eA (wc (co _) (wc (co _) (wc (A5 _) wcn)))) ?_
 refine s1 (d:=.ag [dI .i64 cQ.vR,dI .i64 cQ.vC,dL ae (([]:List aj)++cQ.vV),dN,dN,dB false,dI .i64 (0:Int),dI .i64 (0:Int)]) (bE tb_45) ?_
 refine s1 (d:=.pt 3 0) (bc tb_45) ?_
 refine s0 (bO (ds':=[dI .i64 cQ.vR,dI .i64 cQ.vC,dL ae (([]:List aj)++cQ.vV),dN,dN,dB false,dI .i64 (0:Int),dI .i64 (0:Int)]) tb_45) ?_
 exact .nil (hK _ _ (pe0 h0 [0,1,3]))
 refine dwg [] [0,1,2,3,4,5,6,10,7,8,9,11] hx (by kernel_rfl) (by kernel_rfl) (by kernel_rfl) fun K hK=>?_
 dsimp only[eJ,nE,nS,List.map]
 refine sa ?_
 refine s1 (aG aT) ?_
 refine sa ?_
 refine s1 (aG aT) ?_
 refine s1 (d:=dO 2 ae ([]:List aj)) (T_bsl0 aF ax) ?_
 refine sa ?_
 refine s1 (aG aF) ?_
 refine s1 (d:=.pt 3 0) (bc tb_45) ?_
 refine s1 (d:=dO 2 ae (([]:List aj)++cQ.vV)) (gc aF ax Bv) ?_
 refine s2 (d2:=dG aE (⟨cQ.vR,cQ.vC,([]:List aj)++cQ.vV⟩:ap)) (bE (es:=[dI .i64 cQ.vR,dI .i64 cQ.vC,dO 2 ae (([]:List aj)++cQ.vV)]) aq) (eA (wc (co _) (wc (co _) (wc (A5 _) wcn)))) ?_
 refine s1 (d:=.ag [dI .i64 cQ.vR,dI .i64 cQ.vC,dL ae (([]:List aj)++cQ.vV),dN,dN,dB false,dI .i64 (0:Int),dI .i64 (0:Int)]) (bE tb_45) ?_
 refine s0 (bO (ds':=[dI .i64 cQ.vR,dI .i64 cQ.vC,dL ae (([]:List aj)++cQ.vV),dN,dN,dB false,dI .i64 (0:Int),dI .i64 (0:Int)]) tb_45) ?_
 exact .nil (hK _ _ (pe0 h0 [0,1,3]))
 refine dwg [] [0,1,2,3,5,6,10,4,7,8,9,11] hx (by kernel_rfl) (by kernel_rfl) (by kernel_rfl) fun K hK=>?_
 dsimp only[eJ,nE,nS,List.map]
 refine sa ?_
 refine s1 (aG aT) ?_
 refine sa ?_
 refine s1 (aG aT) ?_
 refine sa ?_
 refine s1 (aG aF) ?_
 refine s1 (d:=.pt 2 0) (bc tb_45) ?_
 refine s1 (d:=dO 3 ae ([]:List aj)) (T_bsl0 aF ax) ?_
 refine s1 (d:=dO 3 ae (([]:List aj)++cQ.vV)) (gc aF ax Bv) ?_
 refine s2 (d2:=dG aE (⟨cQ.vR,cQ.vC,([]:List aj)++cQ.vV⟩:ap)) (bE (es:=[dI .i64 cQ.vR,dI .i64 cQ.vC,dO 3 ae (([]:List aj)++cQ.vV)]) aq) (eA (wc (co _) (wc (co _) (wc (A5 _) wcn)))) ?_
 refine s1 (d:=.ag [dI .i64 cQ.vR,dI .i64 cQ.vC,dL ae (([]:List aj)++cQ.vV),dN,dN,dB false,dI .i64 (0:Int),dI .i64 (0:Int)]) (bE tb_45) ?_
 refine s0 (bO (ds':=[dI .i64 cQ.vR,dI .i64 cQ.vC,dL ae (([]:List aj)++cQ.vV),dN,dN,dB false,dI .i64 (0:Int),dI .i64 (0:Int)]) tb_45) ?_
 exact .nil (hK _ _ (pe0 h0 [0,1,2]))
 rintro ex tm' hp' ⟨rfl,hw⟩
 refine AW.weak hw (ra hx ?_)
 refine AW.seq (ra hx ?_)
 refine AW.block ?_
 obtain⟨y,hy,h⟩:=ah h
 refine lp (S:=Int×Int×ap×(List Int)×(List aj)×Bool) (X:=S_Reduced⊕(ap×(List Int)×(List aj)×Bool)) (fun (a21_0,a21_1,a21_2,a21_3,a21_4,a21_5)=>[(1,.pt 0 0),(2,.pt 1 0),(4,.pt 2 0),(5,dI .i64 a21_0),(6,dI .i64 a21_1)]) (fun (a21_0,a21_1,a21_2,a21_3,a21_4,a21_5)=>⟨[(0,[dI .i64 cQ.vR,dI .i64 cQ.vC,dL ae cQ.vV]),(1,[dI .i64 (0:Int),dI .i64 (0:Int),dN,dN,dN,dB false,dI .i64 (0:Int),dI .i64 (0:Int)]),(2,[dI .i64 a21_2.vR,dI .i64 a21_2.vC,dL ae a21_2.vV,dO 3 (cI .i64) a21_3,dO 4 ae a21_4,dB a21_5,dI .i64 (0:Int),dI .i64 (0:Int)])],[(3,(a21_3).length,1,3),(4,(a21_4).length,36,34)],5⟩) (PS (PR [.cell 2 45] fun r=>dG c_Reduced r) (PE cx (.exit 0) (fun (a21e0_0,a21e0_1,a21e0_2,a21e0_3)=>[(2,.pt 0 0),(4,.pt 1 0)]) fun (a21e0_0,a21e0_1,a21e0_2,a21e0_3)=>⟨[(0,[dI .i64 (0:Int),dI .i64 (0:Int),dN,dN,dN,dB false,dI .i64 (0:Int),dI .i64 (0:Int)]),(1,[dI .i64 a21e0_0.vR,dI .i64 a21e0_0.vC,dL ae a21e0_0.vV,dO 2 (cI .i64) a21e0_1,dO 3 ae a21e0_2,dB a21e0_3,dI .i64 (0:Int),dI .i64 (0:Int)])],[(2,(a21e0_1).length,1,3),(3,(a21e0_2).length,36,34)],4⟩)) hy ?_ ?_ ?_
 exact Wk.trans (Wk.nilOwn (ds':=[dI .i64 cQ.vR,dI .i64 cQ.vC,dL ae (([]:List aj)++cQ.vV),dO 3 (cI .i64) ([]:List Int),dN,dB false,dI .i64 (0:Int),dI .i64 (0:Int)]) 2 3 3 1) (Wk.trans (Wk.nilOwn (ds':=[dI .i64 cQ.vR,dI .i64 cQ.vC,dL ae (([]:List aj)++cQ.vV),dO 3 (cI .i64) ([]:List Int),dO 4 ae ([]:List aj),dB false,dI .i64 (0:Int),dI .i64 (0:Int)]) 2 4 34 36) (wk h0 [0,1,2,3,4] (wR rfl (wR rfl (wR rfl (wR rfl (wR rfl wTn))))) (vR rfl (vR rfl (vR rfl wVn))) (wL rfl rfl (wL rfl rfl wLn))))
 clear hy h
 rintro⟨a21_0,a21_1,a21_2,a21_3,a21_4,a21_5⟩ y h
 dsimp only[g_ref07_Reduce_D_l21] at h
 iterate 2 refine AW.seq ?_
 obtain⟨a24_0,hy,h⟩:=ah h
 refine jn ((PE cx .normal (fun a24_0=>[(1,.pt 0 0),(2,.pt 1 0),(4,.pt 2 0),(5,dI .i64 a21_0),(6,dI .i64 a21_1),(35,dB a24_0)]) fun a24_0=>⟨[(0,[dI .i64 cQ.vR,dI .i64 cQ.vC,dL ae cQ.vV]),(1,[dI .i64 (0:Int),dI .i64 (0:Int),dN,dN,dN,dB false,dI .i64 (0:Int),dI .i64 (0:Int)]),(2,[dI .i64 a21_2.vR,dI .i64 a21_2.vC,dL ae a21_2.vV,dO 3 (cI .i64) a21_3,dO 4 ae a21_4,dB a21_5,dI .i64 (0:Int),dI .i64 (0:Int)])],[(3,(a21_3).length,1,3),(4,(a21_4).length,36,34)],5⟩) a24_0) ?_ ?_
 replace h:=hy
 refine rq hx fun K hK=>?_
 iterate 2 refine sa ?_
 refine s1 (aG aT) ?_
 iterate 2 refine sa ?_
 rcases aW (decide (a21_1<cQ.vC)) with iO|iO
 replace h:=aY iO h
 iterate 2 refine ga iO ?_
 refine g1 iO (aG aT) ?_
 refine ga iO ?_
 refine s1 (am iO) ?_
 refine .nil (hK _ _ ?_)
 cases h
 exact pe0 h0 [0,1,2,3,4]
 replace h:=aZ iO h
 iterate 4 refine aJ rfl rfl iO ?_
 refine s1 (au iO) ?_
 refine .nil (hK _ _ ?_)
 cases h
 exact pe0 h0 [0,1,2,3,4]
 rintro ex tm' hp' ⟨rfl,hw⟩
 refine AW.weak hw (cdh h rfl (fun nh h=>?_) (fun nh h=>?_))
 refine AW.skip (AW.seq ?_)
 obtain⟨y,hy,h⟩:=ah h
 refine jn ((PS (PE cx .normal (fun (ez,gZ,a29_2,a29_3,a29_4)=>[(1,.pt 0 0),(2,.pt 1 0),(4,.pt 2 0),(5,dI .i64 ez),(6,dI .i64 a21_1)]) fun (ez,gZ,a29_2,a29_3,a29_4)=>⟨[(0,[dI .i64 cQ.vR,dI .i64 cQ.vC,dL ae cQ.vV]),(1,[dI .i64 (0:Int),dI .i64 (0:Int),dN,dN,dN,dB false,dI .i64 (0:Int),dI .i64 (0:Int)]),(2,[dI .i64 gZ.vR,dI .i64 gZ.vC,dL ae gZ.vV,dO 3 (cI .i64) a29_2,dO 4 ae a29_3,dB a29_4,dI .i64 (0:Int),dI .i64 (0:Int)])],[(3,(a29_2).length,1,3),(4,(a29_3).length,36,34)],5⟩) (PR [.cell 2 45] fun r=>dG c_Reduced r)) y) ?_ ?_
 replace h:=hy
 refine AW.block (rs hx fun K hK=>?_)
 refine sa ?_
 refine s1 (d:=dG aE a21_2) (bb aq) ?_
 iterate 2 refine sa ?_
 refine scb h w_ref07_nonzero fun x8 h=>?_
 refine sa ?_
 refine .nil (hK _ _ (AW.seq (ra hx ?_)))
 refine cdh h rfl (fun eH h=>?_) (fun eH h=>?_)
 refine AW.exit ?_
 try dsimp only
 try simp only[aO,reduceIte,Nat.reduceEqDiff,reduceCtorEq]
 cases h
 exact PS.l (pe0 h0 [0,1,2,3,4])
 refine AW.skip (AW.seq (ra hx ?_))
 refine AW.block ?_
 obtain⟨y,hy,h⟩:=ah h
 refine lp (S:=Unit) (X:=Unit) (fun ()=>[(1,.pt 0 0),(2,.pt 1 0),(4,.pt 2 0),(5,dI .i64 a21_0),(6,dI .i64 a21_1),(7,dI .i64 x8),(8,dI .i64 (0:Int))]) (fun ()=>⟨[(0,[dI .i64 cQ.vR,dI .i64 cQ.vC,dL ae cQ.vV]),(1,[dI .i64 (0:Int),dI .i64 (0:Int),dN,dN,dN,dB false,dI .i64 (0:Int),dI .i64 (0:Int)]),(2,[dI .i64 a21_2.vR,dI .i64 a21_2.vC,dL ae a21_2.vV,dO 3 (cI .i64) a21_3,dO 4 ae a21_4,dB a21_5,dI .i64 (0:Int),dI .i64 (0:Int)])],[(3,(a21_3).length,1,3),(4,(a21_4).length,36,34)],5⟩) (PE cx (.exit 2) (fun ()=>[(1,.pt 0 0),(2,.pt 1 0),(4,.pt 2 0),(5,dI .i64 a21_0),(6,dI .i64 a21_1),(7,dI .i64 x8)]) fun ()=>⟨[(0,[dI .i64 cQ.vR,dI .i64 cQ.vC,dL ae cQ.vV]),(1,[dI .i64 (0:Int),dI .i64 (0:Int),dN,dN,dN,dB false,dI .i64 (0:Int),dI .i64 (0:Int)]),(2,[dI .i64 a21_2.vR,dI .i64 a21_2.vC,dL ae a21_2.vV,dO 3 (cI .i64) a21_3,dO 4 ae a21_4,dB a21_5,dI .i64 (0:Int),dI .i64 (0:Int)])],[(3,(a21_3).length,1,3),(4,(a21_4).length,36,34)],5⟩) hy ?_ ?_ ?_
 exact wk h0 [0,1,2,3,4] (wR rfl (wR rfl (wR rfl (wR rfl (wR rfl (wR rfl (wR rfl wTn))))))) (vR rfl (vR rfl (vR rfl wVn))) (wL rfl rfl (wL rfl rfl wLn))
 clear hy h
 rintro⟨⟩ y h
 dsimp only[g_ref07_Reduce_D_l42] at h
 refine AW.seq (rs hx fun K hK=>?_)
 iterate 2 refine sa ?_
 refine s1 (aG aT) ?_
 refine sa ?_
 refine .nil (hK _ _ (cdh h rfl (fun FU h=>?_) (fun FU h=>?_)))
 refine AW.skip (AW.seq (AW.block (rs hx fun K hK=>?_)))
 iterate 2 refine sa ?_
 refine s1 (aG aF) ?_
 iterate 2 refine sa ?_
 refine s1 (aG aT) ?_
 iterate 3 refine sa ?_
 obtain⟨JP,h⟩:=az h
 have JH:(i64.wrap ((i64.wrap (x8*cQ.vC))+(0:Int))).toNat<(a21_2.vV).length:=by omega
 refine s1 (ej JP aF ax) ?_
 refine s1 (d:=dG ae ((a21_2.vV)[(i64.wrap ((i64.wrap (x8*cQ.vC))+(0:Int))).toNat]!)) (jI (c:=ae) (l:=a21_2.vV) (n:=(i64.wrap ((i64.wrap (x8*cQ.vC))+(0:Int))).toNat) (o:=0) ax JH (eM _ _ rfl)) ?_
 refine s1 (bq (F:=ae.f cb) ax) ?_
 obtain⟨og,zW,h⟩:=ah h
 replace zW:=cP zW
 refine s0 (kD (b':=(a21_2.vV)[(i64.wrap ((i64.wrap (x8*cQ.vC))+(0:Int))).toNat]!) (ao.id _ _) ax zW) ?_
 refine .nil (hK _ _ (rsd [] hx fun K hK=>?_))
 iterate 2 refine sa ?_
 refine s1 (aG aF) ?_
 iterate 2 refine sa ?_
 refine s1 (aG aT) ?_
 iterate 5 refine sa ?_
 refine s1 (aG aF) ?_
 iterate 2 refine sa ?_
 refine s1 (aG aT) ?_
 iterate 3 refine sa ?_
 obtain⟨D5,h⟩:=az h
 have JG:(i64.wrap ((i64.wrap (a21_0*cQ.vC))+(0:Int))).toNat<(a21_2.vV).length:=by omega
 refine s1 (ej D5 aF ax) ?_
 refine s1 (d:=dG ae ((a21_2.vV)[(i64.wrap ((i64.wrap (a21_0*cQ.vC))+(0:Int))).toNat]!)) (jI (c:=ae) (l:=a21_2.vV) (n:=(i64.wrap ((i64.wrap (a21_0*cQ.vC))+(0:Int))).toNat) (o:=0) ax JG (eM _ _ rfl)) ?_
 obtain⟨hc18,h⟩:=az h
 have hn19:(i64.wrap ((i64.wrap (x8*cQ.vC))+(0:Int))).toNat<(a21_2.vV).length:=by omega
 refine s1 (ej hc18 aF ax) ?_
 cases h
 refine AW.exit ?_
 try dsimp only
 try simp only[aO,reduceIte,Nat.reduceEqDiff,reduceCtorEq]
 cases h
 exact PS.r ⟨by nofun,PE.i (wk h0 [0,1,2,3,4] (wR rfl (wR rfl (wR rfl (wR rfl (wR rfl (wR rfl wTn)))))) (vR rfl (vR rfl (vR rfl wVn))) (wL rfl rfl (wL rfl rfl wLn)))⟩
 cases y
 rintro ex tm' hp' ⟨rfl,hw⟩
 try dsimp only
 try simp only[aO,reduceIte,Nat.reduceEqDiff,reduceCtorEq]
 refine AW.weak hw (rs hx fun K hK=>?_)
 refine sa ?_
 refine s1 (aG fF) ?_
 iterate 5 refine sa ?_
 refine s0 (bO (ds':=[dI .i64 a21_2.vR,dI .i64 a21_2.vC,dL ae a21_2.vV,dO 3 (cI .i64) a21_3,dO 4 ae a21_4,dB (!(a21_5 == (decide (x8≠a21_0)))),dI .i64 (0:Int),dI .i64 (0:Int)]) fF) ?_
 refine .nil (hK _ _ (rsd [] hx fun K hK=>?_))
 refine sa ?_
 refine s1 (aG aF) ?_
 iterate 2 refine sa ?_
 refine s1 (aG aF) ?_
 iterate 2 refine sa ?_
 refine s1 (aG aT) ?_
 iterate 3 refine sa ?_
 obtain⟨hc21,h⟩:=az h
 have hn22:(i64.wrap ((i64.wrap (a21_0*cQ.vC))+a21_1)).toNat<(a21_2.vV).length:=by omega
 refine s1 (ej hc21 aF ax) ?_
 refine s1 (d:=dG ae ((a21_2.vV)[(i64.wrap ((i64.wrap (a21_0*cQ.vC))+a21_1)).toNat]!)) (jI (c:=ae) (l:=a21_2.vV) (n:=(i64.wrap ((i64.wrap (a21_0*cQ.vC))+a21_1)).toNat) (o:=0) ax hn22 (eM _ _ rfl)) ?_
 refine s1 (iM ([(a21_2.vV)[(i64.wrap ((i64.wrap (a21_0*cQ.vC))+a21_1)).toNat]!]:List aj) ae aF ax) ?_
 obtain⟨hc23,h⟩:=az h
 refine s1 (d:=dO 4 ae (a21_4++[(a21_2.vV)[(i64.wrap ((i64.wrap (a21_0*cQ.vC))+a21_1)).toNat]!])) (gc aF ax hc23) ?_
 refine sa ?_
 refine s0 (bO (ds':=[dI .i64 a21_2.vR,dI .i64 a21_2.vC,dL ae a21_2.vV,dO 3 (cI .i64) a21_3,dO 4 ae (a21_4++[(a21_2.vV)[(i64.wrap ((i64.wrap (a21_0*cQ.vC))+a21_1)).toNat]!]),dB (!(a21_5 == (decide (x8≠a21_0)))),dI .i64 (0:Int),dI .i64 (0:Int)]) aF) ?_
 refine .nil (hK _ _ (rs hx fun K hK=>?_))
 refine sa ?_
 refine s1 (d:=dG aE a21_2) (bb aq) ?_
 iterate 2 refine sa ?_
 refine scb h w_ref07_eliminate fun Dz h=>?_
 refine sa ?_
 refine s0 (bO (ds':=[dI .i64 Dz.vR,dI .i64 Dz.vC,dL ae Dz.vV,dO 3 (cI .i64) a21_3,dO 4 ae (a21_4++[(a21_2.vV)[(i64.wrap ((i64.wrap (a21_0*cQ.vC))+a21_1)).toNat]!]),dB (!(a21_5 == (decide (x8≠a21_0)))),dI .i64 (0:Int),dI .i64 (0:Int)]) aq) ?_
 refine .nil (hK _ _ (rs hx fun K hK=>?_))
 iterate 2 refine sa ?_
 refine s1 (aG aF) ?_
 refine scb h xV fun x26 h=>?_
 refine sa ?_
 refine .nil (hK _ _ (AW.seq (ra hx ?_)))
 refine cdh h rfl (fun hb28 h=>?_) (fun hb28 h=>?_)
 refine rs hx fun K hK=>?_
 refine s1 (d:=.ag [dI .i64 (0:Int),dI .i64 (0:Int),dN,dN,dN,dB false,dI .i64 (30:Int),dI .i64 (0:Int)]) (bE tb_45) ?_
 refine s0 (bO (ds':=[dI .i64 (0:Int),dI .i64 (0:Int),dN,dN,dN,dB false,dI .i64 (30:Int),dI .i64 (0:Int)]) tb_45) ?_
 refine .nil (hK _ _ (AW.ret ?_))
 cases h
 refine PS.r (PR.i ?_)
 exact dh.mk1 (bJ (es:=[dI .i64 (0:Int),dI .i64 (0:Int),dN,dN,dN,dB false,dI .i64 (30:Int),dI .i64 (0:Int)]) rfl tb_45 rfl rfl (ltb rfl) (leb rfl) rfl (.inr (.inr ⟨_,(eA (wc (co _) (wc (co _) (wc (nT rfl) (wc (nT rfl) (wc (nT rfl) (wc (co _) (wc (co _) (wc (co _) wcn))))))))),rfl,rfl⟩)))
 refine AW.skip (rs hx fun K hK=>?_)
 refine sa ?_
 refine s1 (aG cz) ?_
 refine sa ?_
 refine s1 (d:=dO 5 (cI .i64) [a21_1]) (iI cz aT) ?_
 obtain⟨hc29,h⟩:=az h
 refine s1 (d:=dO 3 (cI .i64) (a21_3++[a21_1])) (gc cz aT hc29) ?_
 refine sa ?_
 refine s0 (bO (ds':=[dI .i64 Dz.vR,dI .i64 Dz.vC,dL ae Dz.vV,dO 3 (cI .i64) (a21_3++[a21_1]),dO 4 ae (a21_4++[(a21_2.vV)[(i64.wrap ((i64.wrap (a21_0*cQ.vC))+a21_1)).toNat]!]),dB (!(a21_5 == (decide (x8≠a21_0)))),dI .i64 (0:Int),dI .i64 (0:Int)]) cz) ?_
 refine .nil (hK _ _ (rb hx ?_))
 cases h
 exact PS.l (pe0 h0 [0,1,2,3,4])
 rcases y with⟨ez,gZ,a29_2,a29_3,a29_4⟩|r
 rintro ex tm' hp' ⟨rfl,hw⟩
 refine AW.weak hw (rb hx ?_)
 cases h
 exact PS.l (pe0 h0 [0,1,2,3,4])
 rintro ex tm' hp' ⟨rfl,hw⟩
 cases h
 exact PS.r ⟨by nofun,PS.l (PR.i hw)⟩
 refine AW.exit ?_
 try dsimp only
 try simp only[aO,reduceIte,Nat.reduceEqDiff,reduceCtorEq]
 cases h
 exact PS.r ⟨by nofun,PS.r (PE.i (wk h0 [1,2,3,4] (wR rfl (wR rfl wTn)) (vR rfl (vR rfl wVn)) (wL rfl rfl (wL rfl rfl wLn))))⟩
 rcases y with r|⟨a21e0_0,a21e0_1,a21e0_2,a21e0_3⟩
 rintro ex tm' hp' ⟨rfl,hw⟩
 cases h
 exact hw
 rintro ex tm' hp' ⟨rfl,hw⟩
 try dsimp only
 try simp only[aO,reduceIte,Nat.reduceEqDiff,reduceCtorEq]
 refine AW.weak hw (rs hx fun K hK=>?_)
 refine s1 (d:=.ag [dI .i64 a21e0_0.vR,dI .i64 a21e0_0.vC,dL ae a21e0_0.vV,dO 2 (cI .i64) a21e0_1,dO 3 ae a21e0_2,dB a21e0_3,dI .i64 (0:Int),dI .i64 (0:Int)]) (bb tb_45) ?_
 refine s0 (bO (ds':=[dI .i64 a21e0_0.vR,dI .i64 a21e0_0.vC,dL ae a21e0_0.vV,dO 2 (cI .i64) a21e0_1,dO 3 ae a21e0_2,dB a21e0_3,dI .i64 (0:Int),dI .i64 (0:Int)]) tb_45) ?_
 refine .nil (hK _ _ (AW.ret ?_))
 cases h
 exact dh.mk1 (bJ (es:=[dI .i64 a21e0_0.vR,dI .i64 a21e0_0.vC,dL ae a21e0_0.vV,dO 2 (cI .i64) a21e0_1,dO 3 ae a21e0_2,dB a21e0_3,dI .i64 (0:Int),dI .i64 (0:Int)]) rfl tb_45 rfl rfl (ltb rfl) (leb rfl) rfl (.inr (.inr ⟨_,(eA (wc (co _) (wc (co _) (wc (co _) (wc (A5 _) (wc (A5 _) (wc (co _) (wc (co _) (wc (co _) wcn))))))))),rfl,rfl⟩)))
def g_ref07_Reduce(cQ:ap):Option S_Reduced:=orO (g_ref07_Reduce_W cQ) (g_ref07_Reduce_D cQ)
theorem w_ref07_Reduce {cQ:ap}{r:S_Reduced}(h:g_ref07_Reduce cQ=some r):aB prog 18 [dG aE cQ] (dG c_Reduced r):=(u9 h).elim w_ref07_Reduce_W w_ref07_Reduce_D
structure S_List where
 vL:List aj
 vE:Int
 deriving Inhabited,DecidableEq
def c_List:Cd S_List:=⟨2,fun x=>[slE ae x.vL,.lit (.int .i64 x.vE)],fun _=>rfl⟩
def g_ref07_Solve_l55(aS:ap)(ii:S_Reduced):(List aj)×Int→Option (((List aj)×Int)⊕((List aj))):=fun (a55_0,a55_1)=>cnd (decide (a55_1<((ii.vP).length:Int))) (gd (0≤i64.wrap ((i64.wrap (a55_1*(i64.wrap (aS.vC+(1:Int)))))+aS.vC)∧i64.wrap ((i64.wrap (a55_1*(i64.wrap (aS.vC+(1:Int)))))+aS.vC)<((ii.vM.vV).length:Int)) (gd ((a55_0++[(ii.vM.vV)[(i64.wrap ((i64.wrap (a55_1*(i64.wrap (aS.vC+(1:Int)))))+aS.vC)).toNat]!]).length*136≤140737488355328) (some (.inl (a55_0++[(ii.vM.vV)[(i64.wrap ((i64.wrap (a55_1*(i64.wrap (aS.vC+(1:Int)))))+aS.vC)).toNat]!],i64.wrap (a55_1+(1:Int))))))) (some (.inr a55_0))
def g_ref07_Solve(aS:ap)(aU:List aj):Option S_List:=bnd (S:=Bool) (bnd (bY aS) fun x1=>cnd (!x1) (some (true)) (cnd (decide (((aU).length:Int)≠aS.vR)) (some (true)) (bnd (mR aU) fun x5=>some (!x5)))) fun a7=>cnd a7 (some (⟨([]:List aj),(1:Int)⟩:S_List)) (bnd (mB aS (⟨aS.vR,(1:Int),aU⟩:ap)) fun x9=>cnd (decide (x9.vE≠(0:Int))) (some (⟨([]:List aj),x9.vE⟩:S_List)) (bnd (g_ref07_Reduce x9.vM) fun ii=>cnd (decide (ii.vE≠(0:Int))) (some (⟨([]:List aj),ii.vE⟩:S_List)) (bnd (S:=Bool) (cnd (decide ((0:Int)<((ii.vP).length:Int))) (gd (0≤max (i64.wrap (((ii.vP).length:Int) - (1:Int))) (0:Int)∧max (i64.wrap (((ii.vP).length:Int) - (1:Int))) (0:Int)<((ii.vP).length:Int)) (some (decide (((ii.vP)[(max (i64.wrap (((ii.vP).length:Int) - (1:Int))) (0:Int)).toNat]!)=aS.vC)))) (some (false))) fun E2=>cnd E2 (some (⟨([]:List aj),(200:Int)⟩:S_List)) (cnd (decide (((ii.vP).length:Int)<aS.vC)) (some (⟨([]:List aj),(70:Int)⟩:S_List)) (bnd (bf (g_ref07_Solve_l55 aS ii) (([]:List aj),(0:Int))) fun a55e0_0=>some (⟨a55e0_0,(0:Int)⟩:S_List))))))
theorem w_ref07_Solve {aS:ap}{aU:List aj}{r:S_List}(h:g_ref07_Solve aS aU=some r):aB prog 30 [dG aE aS,dL ae aU] (dG c_List r):=by
 refine bC (rs:=[.cell 4 72]) (fun cx hx h0=>?_) func30
 unfold g_ref07_Solve at h
 refine rs hx fun K hK=>?_
 refine s1 (d:=.pt 0 0) d8 ?_
 refine s1 (d:=.pt 1 0) (bc tb_72) ?_
 refine .nil (hK _ _ ?_)
 iterate 2 refine AW.seq ?_
 obtain⟨a7,hy,h⟩:=ah h
 refine jn ((PE cx .normal (fun a7=>[(1,dL ae aU),(2,.pt 0 0),(4,.pt 1 0),(24,dB a7)]) fun a7=>⟨[(0,[dI .i64 aS.vR,dI .i64 aS.vC,dL ae aS.vV]),(1,[dN,dI .i64 (0:Int)])],[],2⟩) a7) ?_ ?_
 replace h:=hy
 refine rq hx fun K hK=>?_
 refine s1 (d:=dG aE aS) (bb aq) ?_
 refine scb h cT fun x1 h=>?_
 iterate 2 refine sa ?_
 rcases aW (!x1) with a8|a8
 replace h:=aY a8 h
 iterate 5 refine aJ rfl rfl a8 ?_
 refine s1 (am a8) ?_
 refine sa ?_
 iterate 3 refine aJ rfl rfl rfl ?_
 refine s1 (am rfl) ?_
 refine .nil (hK _ _ ?_)
 cases h
 exact pe0 h0 [0,1]
 replace h:=aZ a8 h
 iterate 3 refine ga a8 ?_
 refine g1 a8 (aG aT) ?_
 refine ga a8 ?_
 refine s1 (au a8) ?_
 refine sa ?_
 rcases aW (decide (((aU).length:Int)≠aS.vR)) with lz|lz
 replace h:=aY lz h
 iterate 3 refine aJ rfl rfl lz ?_
 refine s1 (am lz) ?_
 refine .nil (hK _ _ ?_)
 cases h
 exact pe0 h0 [0,1]
 replace h:=aZ lz h
 refine ga lz ?_
 obtain⟨x5,FB,h⟩:=ah h
 refine g1 lz (cj rfl (xV FB) rfl (lA (al _) lAn) (.inl rfl)) ?_
 refine ga lz ?_
 refine s1 (au lz) ?_
 refine .nil (hK _ _ ?_)
 cases h
 exact pe0 h0 [0,1]
 rintro ex tm' hp' ⟨rfl,hw⟩
 refine AW.weak hw (cdh h rfl (fun py h=>?_) (fun py h=>?_))
 refine rs hx fun K hK=>?_
 refine s1 (d:=.ag [dN,dI .i64 (1:Int)]) (bE tb_72) ?_
 refine s0 (bO (ds':=[dN,dI .i64 (1:Int)]) tb_72) ?_
 refine .nil (hK _ _ (AW.ret ?_))
 cases h
 exact dh.mk1 (bJ (es:=[dN,dI .i64 (1:Int)]) rfl tb_72 rfl rfl (ltb rfl) (leb rfl) rfl (.inr (.inr ⟨_,(eA (wc (nT rfl) (wc (co _) wcn))),rfl,rfl⟩)))
 refine AW.skip (rs hx fun K hK=>?_)
 refine s1 (d:=dG aE aS) (bb aq) ?_
 refine sa ?_
 refine s1 (aG aT) ?_
 refine sa ?_
 refine s1 (d:=dG aE (⟨aS.vR,(1:Int),aU⟩:ap)) (bE aq) ?_
 refine scb h BI fun x9 h=>?_
 refine s1 (d:=.pt 2 0) (bc bW) ?_
 refine s0 (bO (ds':=[dI .i64 x9.vM.vR,dI .i64 x9.vM.vC,dL ae x9.vM.vV,dI .i64 x9.vE]) bW) ?_
 refine .nil (hK _ _ (AW.seq (rs hx fun K hK=>?_)))
 refine sa ?_
 refine s1 (aG Hs) ?_
 refine sa ?_
 refine .nil (hK _ _ (cdh h rfl (fun FU h=>?_) (fun FU h=>?_)))
 refine rs hx fun K hK=>?_
 refine sa ?_
 refine s1 (aG Hs) ?_
 refine s1 (d:=.ag [dN,dI .i64 x9.vE]) (bE tb_72) ?_
 refine s0 (bO (ds':=[dN,dI .i64 x9.vE]) tb_72) ?_
 refine .nil (hK _ _ (AW.ret ?_))
 cases h
 exact dh.mk1 (bJ (es:=[dN,dI .i64 x9.vE]) rfl tb_72 rfl rfl (ltb rfl) (leb rfl) rfl (.inr (.inr ⟨_,(eA (wc (nT rfl) (wc (co _) wcn))),rfl,rfl⟩)))
 refine AW.skip (rs hx fun K hK=>?_)
 refine sa ?_
 refine s1 (d:=dG aE x9.vM) (bb aq) ?_
 refine scb h w_ref07_Reduce fun ii h=>?_
 refine s1 (d:=.pt 3 0) (bc tb_45) ?_
 refine s0 (bO (ds':=[dI .i64 ii.vM.vR,dI .i64 ii.vM.vC,dL ae ii.vM.vV,dL (cI .i64) ii.vP,dL ae ii.vBy,dB ii.vOdd,dI .i64 ii.vE,dI .i64 ii.vRows]) tb_45) ?_
 refine .nil (hK _ _ (AW.seq (rs hx fun K hK=>?_)))
 refine sa ?_
 refine s1 (aG Hs) ?_
 refine sa ?_
 refine .nil (hK _ _ (cdh h rfl (fun oH h=>?_) (fun oH h=>?_)))
 refine rs hx fun K hK=>?_
 refine sa ?_
 refine s1 (aG Hs) ?_
 refine s1 (d:=.ag [dN,dI .i64 ii.vE]) (bE tb_72) ?_
 refine s0 (bO (ds':=[dN,dI .i64 ii.vE]) tb_72) ?_
 refine .nil (hK _ _ (AW.ret ?_))
 cases h
 exact dh.mk1 (bJ (es:=[dN,dI .i64 ii.vE]) rfl tb_72 rfl rfl (ltb rfl) (leb rfl) rfl (.inr (.inr ⟨_,(eA (wc (nT rfl) (wc (co _) wcn))),rfl,rfl⟩)))
 refine AW.skip (rs hx fun K hK=>?_)
 refine sa ?_
 refine s1 (aG cz) ?_
 iterate 2 refine sa ?_
 refine .nil (hK _ _ ?_)
 iterate 2 refine AW.seq ?_
 obtain⟨E2,hy,h⟩:=ah h
 refine jn ((PE cx .normal (fun E2=>[(2,.pt 0 0),(4,.pt 1 0),(6,.pt 2 0),(7,dI .i64 ((ii.vP).length:Int)),(63,dB E2)]) fun E2=>⟨[(0,[dI .i64 aS.vR,dI .i64 aS.vC,dL ae aS.vV]),(1,[dN,dI .i64 (0:Int)]),(2,[dI .i64 ii.vM.vR,dI .i64 ii.vM.vC,dL ae ii.vM.vV,dL (cI .i64) ii.vP,dL ae ii.vBy,dB ii.vOdd,dI .i64 ii.vE,dI .i64 ii.vRows])],[],3⟩) E2) ?_ ?_
 replace h:=hy
 refine rqd [] hx fun K hK=>?_
 iterate 3 refine sa ?_
 rcases aW (decide ((0:Int)<((ii.vP).length:Int))) with sH|sH
 replace h:=aY sH h
 refine ga sH ?_
 refine g1 sH (aG cz) ?_
 iterate 2 refine ga sH ?_
 refine g1 (d:=dI .i64 (max (i64.wrap (((ii.vP).length:Int) - (1:Int))) (0:Int))) sH T_max ?_
 obtain⟨D5,h⟩:=az h
 have JG:(max (i64.wrap (((ii.vP).length:Int) - (1:Int))) (0:Int)).toNat<(ii.vP).length:=by omega
 refine g1 sH (ej D5 cz aT) ?_
 refine g1 sH (qv (c:=(cI .i64)) (l:=ii.vP) (n:=(max (i64.wrap (((ii.vP).length:Int) - (1:Int))) (0:Int)).toNat) (o:=0) aT JG) ?_
 refine ga sH ?_
 refine g1 sH (aG aT) ?_
 refine ga sH ?_
 refine s1 (am sH) ?_
 refine .nil (hK _ _ ?_)
 cases h
 exact pe0 h0 [0,1,3]
 replace h:=aZ sH h
 iterate 10 refine aJ rfl rfl sH ?_
 refine s1 (au sH) ?_
 refine .nil (hK _ _ ?_)
 cases h
 exact pe0 h0 [0,1,3]
 rintro ex tm' hp' ⟨rfl,hw⟩
 refine AW.weak hw (cdh h rfl (fun Co h=>?_) (fun Co h=>?_))
 refine rs hx fun K hK=>?_
 refine s1 (d:=.ag [dN,dI .i64 (200:Int)]) (bE tb_72) ?_
 refine s0 (bO (ds':=[dN,dI .i64 (200:Int)]) tb_72) ?_
 refine .nil (hK _ _ (AW.ret ?_))
 cases h
 exact dh.mk1 (bJ (es:=[dN,dI .i64 (200:Int)]) rfl tb_72 rfl rfl (ltb rfl) (leb rfl) rfl (.inr (.inr ⟨_,(eA (wc (nT rfl) (wc (co _) wcn))),rfl,rfl⟩)))
 refine AW.skip (AW.seq (rs hx fun K hK=>?_))
 iterate 2 refine sa ?_
 refine s1 (aG aT) ?_
 refine sa ?_
 refine .nil (hK _ _ (cdh h rfl (fun xt h=>?_) (fun xt h=>?_)))
 refine rs hx fun K hK=>?_
 refine s1 (d:=.ag [dN,dI .i64 (70:Int)]) (bE tb_72) ?_
 refine s0 (bO (ds':=[dN,dI .i64 (70:Int)]) tb_72) ?_
 refine .nil (hK _ _ (AW.ret ?_))
 cases h
 exact dh.mk1 (bJ (es:=[dN,dI .i64 (70:Int)]) rfl tb_72 rfl rfl (ltb rfl) (leb rfl) rfl (.inr (.inr ⟨_,(eA (wc (nT rfl) (wc (co _) wcn))),rfl,rfl⟩)))
 refine AW.skip (rs hx fun K hK=>?_)
 refine s1 (d:=dO 3 ae ([]:List aj)) (eZ aF ax) ?_
 refine .nil (hK _ _ (AW.seq (ra hx ?_)))
 refine AW.block ?_
 obtain⟨a55e0_0,hy,h⟩:=ah h
 refine lp (S:=(List aj)×Int) (X:=(List aj)) (fun (a55_0,a55_1)=>[(2,.pt 0 0),(4,.pt 1 0),(6,.pt 2 0),(7,dI .i64 ((ii.vP).length:Int)),(8,dO 3 ae a55_0),(9,dI .i64 a55_1)]) (fun (a55_0,a55_1)=>⟨[(0,[dI .i64 aS.vR,dI .i64 aS.vC,dL ae aS.vV]),(1,[dN,dI .i64 (0:Int)]),(2,[dI .i64 ii.vM.vR,dI .i64 ii.vM.vC,dL ae ii.vM.vV,dL (cI .i64) ii.vP,dL ae ii.vBy,dB ii.vOdd,dI .i64 ii.vE,dI .i64 ii.vRows])],[(3,(a55_0).length,36,34)],4⟩) (PE cx (.exit 0) (fun a55e0_0=>[(4,.pt 0 0),(8,dO 1 ae a55e0_0)]) fun a55e0_0=>⟨[(0,[dN,dI .i64 (0:Int)])],[(1,(a55e0_0).length,36,34)],2⟩) hy ?_ ?_ ?_
 exact wk h0 [0,1,2,3] (wR rfl (wR rfl (wR rfl (wR rfl (wR rfl (wR rfl wTn)))))) (vR rfl (vR rfl (vR rfl wVn))) (wL rfl rfl wLn)
 clear hy h
 rintro⟨a55_0,a55_1⟩ y h
 dsimp only[g_ref07_Solve_l55] at h
 refine AW.seq (ra hx ?_)
 refine cdh h rfl (fun FR h=>?_) (fun FR h=>?_)
 refine AW.skip (AW.seq (AW.block (rq hx fun K hK=>?_)))
 iterate 3 refine sa ?_
 refine s1 (aG aF) ?_
 iterate 2 refine sa ?_
 refine s1 (aG aT) ?_
 iterate 3 refine sa ?_
 refine s1 (aG aT) ?_
 refine sa ?_
 obtain⟨Cj,h⟩:=az h
 have hn23:(i64.wrap ((i64.wrap (a55_1*(i64.wrap (aS.vC+(1:Int)))))+aS.vC)).toNat<(ii.vM.vV).length:=by omega
 refine s1 (ej Cj aF ax) ?_
 refine s1 (d:=dG ae ((ii.vM.vV)[(i64.wrap ((i64.wrap (a55_1*(i64.wrap (aS.vC+(1:Int)))))+aS.vC)).toNat]!)) (jI (c:=ae) (l:=ii.vM.vV) (n:=(i64.wrap ((i64.wrap (a55_1*(i64.wrap (aS.vC+(1:Int)))))+aS.vC)).toNat) (o:=0) ax hn23 (eM _ _ rfl)) ?_
 refine s1 (qI ([(ii.vM.vV)[(i64.wrap ((i64.wrap (a55_1*(i64.wrap (aS.vC+(1:Int)))))+aS.vC)).toNat]!]:List aj) ae aF ax) ?_
 obtain⟨Pc,h⟩:=az h
 refine s1 (d:=dO 3 ae (a55_0++[(ii.vM.vV)[(i64.wrap ((i64.wrap (a55_1*(i64.wrap (aS.vC+(1:Int)))))+aS.vC)).toNat]!])) (gc aF ax Pc) ?_
 refine sa ?_
 refine .nil (hK _ _ (rb hx ?_))
 cases h
 exact PS.l (pe0 h0 [0,1,2,3])
 refine AW.exit ?_
 try dsimp only
 try simp only[aO,reduceIte,Nat.reduceEqDiff,reduceCtorEq]
 cases h
 exact PS.r ⟨by nofun,PE.i (wk h0 [1,3] (wR rfl (wR rfl wTn)) (vR rfl wVn) (wL rfl rfl wLn))⟩
 rintro ex tm' hp' ⟨rfl,hw⟩
 try dsimp only
 try simp only[aO,reduceIte,Nat.reduceEqDiff,reduceCtorEq]
 refine AW.weak hw (rs hx fun K hK=>?_)
 refine sa ?_
 refine s2 (d2:=dG c_List (⟨a55e0_0,(0:Int)⟩:S_List)) (bE (es:=[dO 1 ae a55e0_0,dI .i64 (0:Int)]) tb_72) (eA (wc (A5 _) (wc (co _) wcn))) ?_
 refine s0 (bO (ds':=[dL ae a55e0_0,dI .i64 (0:Int)]) tb_72) ?_
 refine .nil (hK _ _ (AW.ret ?_))
 cases h
 exact dh.mk1 (bJ (es:=(c_List.f (⟨a55e0_0,(0:Int)⟩:S_List)).map .e) rfl tb_72 rfl rfl (ltb rfl) (leb rfl) rfl (.inr (.inr ⟨_,(al _),rfl,rfl⟩)))
section
theorem chgF_old {V:List Nu}{o n:Nat}{h:List Nu→Nat→Nu}(ho:o+n≤V.length):∀j,j≤n→∀t,(t<o∨o+j≤t)→(Bf V o h j)[t]! =V[t]!
 |0,_,_,_=>rfl
 |j+1,hj,t,ht=>by
  unfold Bf
  rw[get_set (by rw[vf];omega),ifn_]
  exact chgF_old ho j (by omega) t (by omega)
theorem chgF_eq {V:List Nu}{o n:Nat}{h h':List Nu→Nat→Nu}(hh:∀j,j<n→h (Bf V o h' j) j=h' (Bf V o h' j) j):∀j,j≤n→Bf V o h j=Bf V o h' j
 |0,_=>rfl
 |j+1,hj=>by
  unfold Bf
  rw[chgF_eq hh j (by omega),hh j (by omega)]
def elimN(R C k r:Nat)(V:List Nu):List Nu:=mb C k r (Bf V (r*C) (fun U j=>HG U[r*C+j]! V[r*C+k]!) C) R
theorem stepN_elim {R C k i r:Nat}{V:List Nu}:yh R C k i r V=elimN R C k r (qh C V i r C):=rfl
def rowsX(C k r:Nat)(V U:List Nu):Nat→List Nu
 |0=>U
 |n+1=>if n≠r∧va V[n*C+k]!≠0 then Bf (rowsX C k r V U n) (n*C) (fun W j=>HF V[n*C+j]! (uG V[n*C+k]! W[r*C+j]!)) C else rowsX C k r V U n
theorem rowsX_len {C k r:Nat}{V U:List Nu}:∀n,(rowsX C k r V U n).length=U.length
 |0=>rfl
 |n+1=>by
  unfold rowsX
  split
  ·rw[vf,rowsX_len n]
  ·exact rowsX_len n
theorem rowsX_eq {R C k r:Nat}{V U:List Nu}(hU:U.length=R*C)(hk:k<C)(hr:r<R)(hV:∀a b,a<R→b<C→a≠r→U[a*C+b]! =V[a*C+b]!):∀n,n≤R→rowsX C k r V U n=mb C k r U n
 |0,_=>rfl
 |n+1,hn=>by
  unfold rowsX mb
  rw[rowsX_eq hU hk hr hV n (by omega)]
  by_cases e:n=r
  ·rw[aV (by intro h;exact h.1 e),aV (by intro h;exact h.1 e)]
  ·have g:∀b,b<C→(mb C k r U n)[n*C+b]! =V[n*C+b]! :=fun b hb=>by
    rw[rowsF_get hU hk hr n (by omega) n b (by omega) hb,ifn_,hV n b (by omega) hb e]
   rw[g k hk]
   by_cases hs:va V[n*C+k]!≠0
   ·rw[aQ ⟨e,hs⟩,aQ ⟨e,hs⟩]
    have hl:n*C+C≤R*C:=by have:(n+1)*C≤R*C:=c6 C hn;rwa[qu] at this
    refine chgF_eq (fun j hj=>?_) C (bI _)
    rw[chgF_old (n:=C) (by rw[vX,hU];exact hl) j (by omega) (n*C+j) (.inr (bI _)),g j hj]
   ·rw[aV (by intro h;exact hs h.2),aV (by intro h;exact hs h.2)]
section
variable {R C:Nat} {V:List Nu}
theorem Q_nonzero_l(hV:V.length=R*C)(M8:R*C≤1000000)(hR:R≤1000){k:Nat}(hk:k<C):∀n r:Nat,r+n=R→bf (g_ref07_nonzero_l7 (mS R C V) (k:Int)) (r:Int)=some ((Ea C k V n r).elim (.inr ()) fun i=>.inl (i:Int))
 |0,r,h=>by
  refine eF ?_
  unfold g_ref07_nonzero_l7
  dsimp only
  rw[bA _ _];rfl
 |n+1,r,h=>by
  have h5:=cK (show r<R by omega) hk
  have hb:g_ref07_nonzero_l7 (mS R C V) (k:Int) (r:Int)=if va V[r*C+k]!≠0 then some (.inr (.inl (r:Int))) else some (.inl ((r+1:Nat):Int)):=by
   unfold g_ref07_nonzero_l7
   dsimp only
   rw[bF _ _,wix,bH,aI,bh,uw,tSign]
   simp only[ab]
   rw[w64]
   by_cases hs:va V[r*C+k]!≠0
   ·rw[bF _ _ hs,aQ hs]
   ·rw[bA _ _ hs,aV hs];rfl
  unfold Ea
  by_cases hs:va V[r*C+k]!≠0
  ·rw[aQ hs] at hb
   rw[aQ hs,eF hb];rfl
  ·rw[aV hs] at hb
   rw[aV hs,lS hb]
   exact Q_nonzero_l hV M8 hR hk n (r+1) (by omega)
theorem Q_nonzero(hV:V.length=R*C)(M8:R*C≤1000000)(hR:R≤1000){k n r:Nat}(hk:k<C)(h:r+n=R):g_ref07_nonzero (mS R C V) (r:Int) (k:Int)=some ((Ea C k V n r).elim (-1) fun i=>(i:Int)):=by
 unfold g_ref07_nonzero
 rw[Q_nonzero_l hV M8 hR hk n r h]
 cases Ea C k V n r <;> rfl
theorem Q_swap(hV:V.length=R*C)(M8:R*C≤1000000){V0:List Nu}(hC:C≤1000){i r:Nat}(hi:i<R)(hr:r<R):bf (g_ref07_Reduce_W_l42 (mS R C V0) (r:Int) (V.map nv) (i:Int)) ((0:Int),V.map nv)=some ((qh C V i r C).map nv):=by
 have key:=eK (b:=g_ref07_Reduce_W_l42 (mS R C V0) (r:Int) (V.map nv) (i:Int)) (fun j=>((j:Int),(qh C V i r j).map nv)) 0 C ((qh C V i r C).map nv) (fH _) (fun j _ hj=>?_) ?_
 ·rw[show (((0:Nat):Int),(qh C V i r 0).map nv)=((0:Int),V.map nv) from rfl] at key
  exact key
 ·unfold g_ref07_Reduce_W_l42
  dsimp only
  have a:=cK hi hj
  have b:=cK hr hj
  have hl:(qh C V i r j).length=R*C:=by rw[vU,hV]
  rw[bF _ _,wix,wix,bH,bH,aI]
  simp only[ab]
  rw[aI,aI,bh,bh,uw,uw,←List.map_set]
  rw[aI ⟨by omega,by omega,by rw[bH,CK];omega⟩,←List.map_set,w64]
  rfl
 ·unfold g_ref07_Reduce_W_l42
  dsimp only
  rw[bA _ _]
theorem Q_elim(hV:V.length=R*C)(M8:R*C≤1000000)(hR:R≤1000)(hC:C≤1000){k r:Nat}(hk:k<C)(hr:r<R):g_ref07_eliminate_w (mS R C V) (r:Int) (k:Int)=some (mS R C (elimN R C k r V)):=by
 have h5:=cK hr hk
 have hrow:r*C+C≤R*C:=by have:(r+1)*C≤R*C:=c6 C hr;rwa[qu] at this
 unfold g_ref07_eliminate_w
 dsimp only
 rw[aI (by rw[bH];omega),aI (by rw[bH];omega),wix,aI ⟨by omega,by rw[bH];omega⟩,bh,uw]
 simp only[ab]
 have k1:=eK (b:=g_ref07_eliminate_w_l11 (mS R C V) (r:Int) (nv V[r*C+k]!)) (fun j=>((j:Int),(Bf V (r*C) (fun _ j=>HG V[r*C+j]! V[r*C+k]!) j).map nv)) 0 C ((Bf V (r*C) (fun _ j=>HG V[r*C+j]! V[r*C+k]!) C).map nv) (fH _) (fun j _ hj=>?_) ?_
 ·rw[show (((0:Nat):Int),(Bf V (r*C) (fun _ j=>HG V[r*C+j]! V[r*C+k]!) 0).map nv)=((0:Int),V.map nv) from rfl] at k1
  rw[k1]
  simp only[ab]
  have e1:Bf V (r*C) (fun _ j=>HG V[r*C+j]! V[r*C+k]!) C=Bf V (r*C) (fun U j=>HG U[r*C+j]! V[r*C+k]!) C:=chgF_eq (n:=C) (fun j hj=>by
   rw[chgF_old (n:=C) (by omega) j (by omega) _ (.inr (bI _))]) C (bI _)
  rw[e1]
  obtain⟨U,hUd⟩:∃U,U=Bf V (r*C) (fun U j=>HG U[r*C+j]! V[r*C+k]!) C:=⟨_,rfl⟩
  have hU:U.length=R*C:=by rw[hUd,vf,hV]
  have hold:∀a b,a<R→b<C→a≠r→U[a*C+b]! =V[a*C+b]! :=fun a b ha hb hn=>by
   rw[hUd]
   refine chgF_old (n:=C) (by omega) C (bI _) _ ?_
   rcases cc a r with h|h
   ·left
    have:(a+1)*C≤r*C:=c6 C h
    rw[qu] at this;omega
   ·right
    have:(r+1)*C≤a*C:=c6 C (by omega)
    rw[qu] at this;omega
  unfold elimN
  rw[←hUd,←rowsX_eq hU hk hr hold R (bI _)]
  have k2:=eK (b:=g_ref07_eliminate_w_l26 (mS R C V) (r:Int) (k:Int)) (fun n=>((n:Int),(rowsX C k r V U n).map nv)) 0 R ((rowsX C k r V U R).map nv) (fH _) (fun n _ hn=>?_) ?_
  ·rw[show (((0:Nat):Int),(rowsX C k r V U 0).map nv)=((0:Int),U.map nv) from rfl] at k2
   rw[k2]
   simp only[ab]
   rw[aI (by rw[bH,bH,rowsX_len];omega)]
  ·unfold g_ref07_eliminate_w_l26
   dsimp only
   have h6:=cK hn hk
   rw[bF _ _,wix,bH,aI,bh,uw]
   simp only[ab,tSign,kOr]
   rw[w64]
   conv=>rhs;unfold rowsX
   by_cases h:n≠r∧va V[n*C+k]!≠0
   ·rw[aQ h,show (decide ((n:Int)=(r:Int))||decide (va V[n*C+k]! =0))=false by
     rw[Bool.or_eq_false_iff,decide_eq_false_iff_not,decide_eq_false_iff_not]
     exact⟨fun e=>h.1 (by omega),h.2⟩,kF]
    have hl:n*C+C≤R*C:=by have:(n+1)*C≤R*C:=c6 C hn;rwa[qu] at this
    have hx:(rowsX C k r V U n).length=R*C:=by rw[rowsX_len,hU]
    have k3:=eK (b:=g_ref07_eliminate_w_l46 (mS R C V) (r:Int) (n:Int) (nv V[n*C+k]!)) (fun j=>((j:Int),(Bf (rowsX C k r V U n) (n*C) (fun W j=>HF V[n*C+j]! (uG V[n*C+k]! W[r*C+j]!)) j).map nv)) 0 C ((Bf (rowsX C k r V U n) (n*C) (fun W j=>HF V[n*C+j]! (uG V[n*C+k]! W[r*C+j]!)) C).map nv) (fH _) (fun j _ hj=>?_) ?_
    ·rw[show (((0:Nat):Int),(Bf (rowsX C k r V U n) (n*C) (fun W j=>HF V[n*C+j]! (uG V[n*C+k]! W[r*C+j]!)) 0).map nv)=((0:Int),(rowsX C k r V U n).map nv) from rfl] at k3
     rw[k3];rfl
    ·unfold g_ref07_eliminate_w_l46
     dsimp only
     have h7:=cK hn hj
     have h8:=cK hr hj
     have hc:(Bf (rowsX C k r V U n) (n*C) (fun W j=>HF V[n*C+j]! (uG V[n*C+k]! W[r*C+j]!)) j).length=R*C:=by rw[vf,hx]
     rw[bF _ _,wix,wix,bH,bH,aI,aI,bh,bh,uw,uw,tMul]
     simp only[ab,tSub]
     rw[aI,←List.map_set,w64]
     rfl
    ·unfold g_ref07_eliminate_w_l46
     dsimp only
     rw[bA _ _]
   ·rw[aV h,show (decide ((n:Int)=(r:Int))||decide (va V[n*C+k]! =0))=true by
     by_cases e:n=r
     ·simp[e]
     ·have:va V[n*C+k]! =0:=by
       rcases Int.decEq (va V[n*C+k]!) 0 with q|q
       ·exact absurd ⟨e,q⟩ h
       ·exact q
      rw[this];simp,kT]
    rfl
  ·unfold g_ref07_eliminate_w_l26
   dsimp only
   rw[bA _ _]
 ·unfold g_ref07_eliminate_w_l11
  dsimp only
  have h7:=cK hr hj
  have hc:(Bf V (r*C) (fun _ j=>HG V[r*C+j]! V[r*C+k]!) j).length=R*C:=by rw[vf,hV]
  rw[bF _ _,wix,bH,bH,aI,bh,uw,tDiv]
  simp only[ab]
  rw[aI,←List.map_set,w64]
  rfl
 ·unfold g_ref07_eliminate_w_l11
  dsimp only
  rw[bA _ _]
end
end
section
def byL(acc:List Pv):List aj:=acc.map fun p=>nv p.by'
def oddP(acc:List Pv):Bool:=acc.foldl (fun s p=>!(s == p.mov)) false
theorem oddP_snoc(acc:List Pv)(p:Pv):oddP (acc++[p])= !(oddP acc == p.mov):=by unfold oddP;rw[List.foldl_append];rfl
theorem byL_snoc(acc:List Pv)(p:Pv):byL (acc++[p])=byL acc++[nv p.by']:=by unfold byL;rw[nd];rfl
theorem colsL_snoc(acc:List Pv)(p:Pv):lM (acc++[p])=lM acc++[(p.col:Int)]:=by unfold lM;rw[nd];rfl
theorem colsL_len(acc:List Pv):(lM acc).length=acc.length:=by unfold lM;rw[bH]
theorem byL_len(acc:List Pv):(byL acc).length=acc.length:=by unfold byL;rw[bH]
abbrev rdZ(e:Int):S_Reduced:=⟨mZ,[],[],false,e,0⟩
def rdE(R C:Nat)(o:Option (List Nu×List Pv)):S_Reduced:=o.elim (rdZ 30) fun p=>⟨mS R C p.1,lM p.2,byL p.2,oddP p.2,0,0⟩
def redEnd(R C:Nat)(o:Option (List Nu×List Pv)):S_Reduced⊕(Int×Int×(List Int)×(List aj)×Bool×(List aj)):=o.elim (.inl (rdZ 30)) fun p=>.inr (R,C,lM p.2,byL p.2,oddP p.2,p.1.map nv)
section
variable {R C:Nat} {V:List Nu}
theorem Q_Reduce_l(M8:R*C≤1000000)(hR:R≤1000)(hC:C≤1000){V0:List Nu}:∀(n k r:Nat) (V:List Nu) (acc:List Pv),k+n=C→V.length=R*C→acc.length=r→r≤R→
  bf (g_ref07_Reduce_W_l21 (mS R C V0)) ((r:Int),(k:Int),(R:Int),(C:Int),lM acc,byL acc,oddP acc,V.map nv)=some (redEnd R C (oB R C n k r V acc))
 |0,k,r,V,acc,hk,hV,ha,hr=>by
  rw[Hz (.inl rfl)]
  refine eF ?_
  unfold g_ref07_Reduce_W_l21
  dsimp only
  rw[bA _ _];rfl
 |n+1,k,r,V,acc,hk,hV,ha,hr=>by
  by_cases cg:r<R
  ·unfold oB
   rw[aQ cg]
   have hkC:k<C:=by omega
   have hnz:=Q_nonzero hV M8 hR (k:=k) (n:=R - r) (r:=r) hkC (by omega)
   cases hf:Ea C k V (R - r) r with
   |none=>
    rw[hf] at hnz
    have hb:g_ref07_Reduce_W_l21 (mS R C V0) ((r:Int),(k:Int),(R:Int),(C:Int),lM acc,byL acc,oddP acc,V.map nv)=some (.inl ((r:Int),((k+1:Nat):Int),(R:Int),(C:Int),lM acc,byL acc,oddP acc,V.map nv)):=by
     unfold g_ref07_Reduce_W_l21
     dsimp only
     rw[bF _ _]
     simp only[ab]
     rw[bF _ _,hnz]
     simp only[ab,Option.elim]
     rw[bF _ _]
     simp only[ab]
     rw[w64];rfl
    rw[lS hb]
    exact Q_Reduce_l M8 hR hC n (k+1) r V acc (by omega) hV ha hr
   |some i=>
    rw[hf] at hnz
    obtain⟨h1,h2,_⟩:=fstN_some hf
    have hi:i<R:=by omega
    have hs:(qh C V i r C).length=R*C:=by rw[vU,hV]
    have D0:(yh R C k i r V).length=R*C:=by rw[Et,hV]
    have h5:=cK cg hkC
    have hb:g_ref07_Reduce_W_l21 (mS R C V0) ((r:Int),(k:Int),(R:Int),(C:Int),lM acc,byL acc,oddP acc,V.map nv)=if (yh R C k i r V).all cM then some (.inl (((r+1:Nat):Int),((k+1:Nat):Int),(R:Int),(C:Int),lM (acc++[⟨k,byN C k i r V,decide (i≠r)⟩]),byL (acc++[⟨k,byN C k i r V,decide (i≠r)⟩]),oddP (acc++[⟨k,byN C k i r V,decide (i≠r)⟩]),(yh R C k i r V).map nv)) else some (.inr (.inl (rdZ 30))):=by
     unfold g_ref07_Reduce_W_l21
     dsimp only
     rw[bF _ _]
     simp only[ab]
     rw[bF _ _,hnz]
     simp only[ab,Option.elim]
     rw[bA _ _,Q_swap hV M8 hC hi cg]
     simp only[ab]
     rw[wix,bH,bH,aI,bh,uw,aI (by rw[fg,byL_len];simp;omega),aI,Q_elim hs M8 hR hC hkC cg]
     simp only[ab]
     rw[←stepN_elim,Qs (by omega)]
     simp only[ab]
     cases hg:(yh R C k i r V).all cM with
     |false=>rfl
     |true=>
      rw[show (!true)=false from rfl,kF,aI (by rw[fg,colsL_len];simp;omega)]
      simp only[ab]
      rw[w64,w64,oddP_snoc,byL_snoc,colsL_snoc,aQ trivial]
      have:decide ((i:Int)≠(r:Int))=decide (i≠r):=by
       by_cases e:i=r
       ·simp[e]
       ·have:¬(i:Int)=r:=by omega
        simp[e,this]
      rw[this];rfl
    cases hg:(yh R C k i r V).all cM with
    |false=>
     rw[hg] at hb
     rw[eF hb]
     dsimp only
     rw[hg];rfl
    |true=>
     rw[hg] at hb
     rw[lS (show _=_ from hb)]
     dsimp only
     rw[hg,aQ rfl]
     exact Q_Reduce_l M8 hR hC n (k+1) (r+1) _ _ (by omega) D0 (by rw[fg,ha];rfl) cg
  ·rw[Hz (.inr cg)]
   refine eF ?_
   unfold g_ref07_Reduce_W_l21
   dsimp only
   rw[bF _ _]
   simp only[ab]
   rw[bA _ _];rfl
end
def reduceQ(R C:Int)(V:List Nu):S_Reduced:=if aX R C V=0 then rdE R.toNat C.toNat (sE R.toNat C.toNat V) else rdZ 1
theorem Q_Reduce {R C:Int}{V:List Nu}(hV:V.length≤1000000):g_ref07_Reduce (mS R C V)=some (reduceQ R C V):=by
 unfold g_ref07_Reduce g_ref07_Reduce_W g_ref07_Reduce_D reduceQ
 rw[qd hV]
 simp only[ab]
 by_cases h1:aX R C V=0
 ·rw[aQ h1]
  obtain⟨r,c,rfl,rfl,hm⟩:=cX.1 h1
  have h3:=hm.r
  have h4:=hm.c
  have hl:=hm.len
  have H3:=hm.rc
  rw[h1,show (!decide ((0:Int)=0))=false by simp,kF,kF]
  simp only[bh]
  rcases kN (r*c) with hz|hz
  ·have hnil:V=[]:=kL (by omega)
   subst hnil
   have qQ:sE r c []=some ([],[]):=by
    rcases Nat.mul_eq_zero.1 hz with h|h
    ·exact Hz (.inr (by omega))
    ·exact Hz (.inl h)
   rw[qQ]
   simp only[cl,pB]
   show orO none _=_
   show gd (([]:List aj).length*136≤140737488355328) _=_
   rw[aI (by simp),eF (x:=.inr (⟨(r:Int),(c:Int),[]⟩,[],[],false)) (by
    unfold g_ref07_Reduce_D_l21
    dsimp only
    rcases Nat.mul_eq_zero.1 hz with h|h
    ·by_cases hc:c=0
     ·rw[bA _ _];rfl
     ·rw[bF _ _]
      simp only[ab]
      rw[bA _ _]
    ·rw[bA _ _];rfl)]
   rfl
  ·rw[aI (by rw[bH];omega),aI (by rw[bH];omega)]
   have key:=Q_Reduce_l (R:=r) (C:=c) (by omega) (by omega) (by omega) (V0:=V) c 0 0 V [] (by omega) hl rfl (fH _)
   rw[show (((0:Nat):Int),((0:Nat):Int),(r:Int),(c:Int),lM [],byL [],oddP [],V.map nv)=((0:Int),(0:Int),(r:Int),(c:Int),([]:List Int),([]:List aj),false,V.map nv) from rfl] at key
   rw[key]
   simp only[ab]
   show orO (match redEnd r c (sE r c V) with| .inl r=>some r| .inr (a,b,c,d,e,f)=>some _) _=_
   cases sE r c V <;> rfl
 ·rw[aV h1,show (!decide (aX R C V=0))=true by simp[h1],kT];rfl
end
theorem redP_sort {R C:Nat}:∀{n k r:Nat} {V:List Nu} {acc:List Pv} {W:List Nu} {l:List Pv},(acc.map Pv.col).Pairwise (·<·)→(∀p∈acc,p.col<k)→oB R C n k r V acc=some (W,l)→(l.map Pv.col).Pairwise (·<·)∧∀p∈l,p.col<k+n
 |0,_,_,_,_,_,_,hs,hk,h=>by
  unfold oB at h
  injection h with h
  injection h with h1 h2
  rw[←h2];exact⟨hs,hk⟩
 |n+1,k,r,V,acc,W,l,hs,hk,h=>by
  unfold oB at h
  split at h
  ·split at h
   ·have:=redP_sort hs (fun p hp=>uB (hk p hp)) h
    exact⟨this.1,fun p hp=>by have:=this.2 p hp;omega⟩
   ·split at h
    ·have:=redP_sort (by
      rw[nd,List.pairwise_append]
      refine⟨hs,List.pairwise_singleton _ _,fun a ha b hb=>?_⟩
      obtain⟨p,hp,rfl⟩:=sn.1 ha
      rw[bN,cl,List.mem_singleton] at hb
      rw[hb];exact hk p hp) (fun p hp=>by
      rcases sJ.1 hp with hp|hp
      ·exact uB (hk p hp)
      ·rw[List.mem_singleton] at hp
       rw[hp];exact eR k) h
     exact⟨this.1,fun p hp=>by have:=this.2 p hp;omega⟩
    ·cases h
  ·injection h with h
   injection h with h1 h2
   rw[←h2];exact⟨hs,fun p hp=>by have:=hk p hp;omega⟩
theorem colN_lt {acc:List Pv}(hs:(acc.map Pv.col).Pairwise (·<·)){i j:Nat}(hij:i<j)(hj:j<acc.length):J5 acc i<J5 acc j:=by
 have:=List.pairwise_iff_getElem.1 hs i j (by rw[bH];omega) (by rw[bH];omega) hij
 rw[List.getElem_map,List.getElem_map] at this
 unfold J5
 rw[iR acc i (by omega),iR acc j hj]
 exact this
theorem colN_bd {acc:List Pv}{c:Nat}(hb:∀p∈acc,p.col<c){i:Nat}(hi:i<acc.length):J5 acc i<c:=by
 unfold J5
 rw[iR acc i hi]
 exact hb _ (EX hi)
theorem any_col {acc:List Pv}{c:Nat}:((lM acc).any fun x=>decide ((c:Int)=x))=true↔∃i,i<acc.length∧J5 acc i=c:=by
 rw[List.any_eq_true]
 constructor
 ·rintro⟨x,hx,h⟩
  unfold lM at hx
  obtain⟨p,hp,rfl⟩:=sn.1 hx
  obtain⟨i,hi,rfl⟩:=List.getElem_of_mem hp
  refine⟨i,hi,?_⟩
  have:=xz h
  unfold J5
  rw[iR acc i hi];omega
 ·rintro⟨i,hi,h⟩
  refine⟨(lM acc)[i]!,?_,?_⟩
  ·rw[iR (lM acc) i (by rw[colsL_len];exact hi)];exact EX _
  ·rw[MJ hi,h];exact iP rfl
theorem any_last {acc:List Pv}{c:Nat}(hs:(acc.map Pv.col).Pairwise (·<·))(hb:∀p∈acc,p.col<c+1):((lM acc).any fun x=>decide ((c:Int)=x))=(decide (0<acc.length)&&decide (J5 acc (acc.length - 1)=c)):=by
 rw[EU,any_col,cr,oX,oX]
 constructor
 ·rintro⟨i,hi,h⟩
  refine⟨by omega,?_⟩
  rcases cc i (acc.length - 1) with h2|h2
  ·have h3:=colN_lt hs h2 (by omega)
   have h4:=colN_bd hb (show acc.length - 1<acc.length by omega)
   omega
  ·rw[show acc.length - 1=i by omega];exact h
 ·rintro⟨h1,h2⟩
  exact⟨acc.length - 1,by omega,h2⟩
theorem red0_sort {R C:Nat}{V W:List Nu}{l:List Pv}(h:sE R C V=some (W,l)):(l.map Pv.col).Pairwise (·<·)∧∀p∈l,p.col<C:=by
 have:=redP_sort (acc:=[]) List.Pairwise.nil (fun p hp=>by cases hp) h
 exact⟨this.1,fun p hp=>by have:=this.2 p hp;omega⟩
abbrev lst(p:List aj×Int):S_List:=⟨p.1,p.2⟩
theorem Q_Solve {R C:Int}{A b:List Nu}(hA:A.length≤1000000)(hb:b.length≤1000000):g_ref07_Solve (mS R C A) (b.map nv)=some (lst (Hv R C A b)):=by
 unfold g_ref07_Solve Hv
 rw[qd hA,Qs hb]
 simp only[ab,kOr,bH]
 by_cases h0:aX R C A=0∧(b.length:Int)=R∧b.all cM=true
 ·rw[aQ h0]
  obtain⟨h1,h2,h5⟩:=h0
  obtain⟨r,c,rfl,rfl,hm⟩:=cX.1 h1
  have h3:=hm.r
  have h4:=hm.c
  have Mt:=bes1 hm (by omega) h5
  rw[h1,h5,show (!decide ((0:Int)=0)||(decide ((b.length:Int)≠(r:Int))||!true))=false by simp[h2],kF]
  rw[show (⟨(r:Int),(1:Int),b.map nv⟩:ap)=mS (r:Int) ((1:Nat):Int) b from rfl,Qw hA hb]
  by_cases hc:(200:Int)<(c:Int)+((1:Nat):Int)
  ·rw[LB hm Mt hc,aQ (show (200:Int)<(c:Int)+1 by omega)];rfl
  ·rw[LA hm Mt hc,aV (show ¬(200:Int)<(c:Int)+1 by omega)]
   simp only[ab,bh]
   have hmk:MV r (c+1) (mkM r (c+1) (uL c 1 A b)):=⟨h3,by omega,br,Fu.2 fun i k hi hk=>by
    unfold uL
    split
    ·rename_i h;exact hm.gd (cK hi h)
    ·exact Mt.gd (cK hi (by omega))⟩
   rw[bA _ _ (by simp),Q_Reduce (by rw[br];have:=hmk.rc;omega)]
   unfold reduceQ
   rw[aQ hmk.chk]
   simp only[ab,bh]
   cases qQ:sE r (c+1) (mkM r (c+1) (uL c 1 A b)) with
   |none=>rfl
   |some p=>
    obtain⟨U,acc⟩:=p
    have hU:=n5 br qQ
    have hle:acc.length≤r:=Fo qQ
    obtain⟨hs,hbd⟩:=red0_sort qQ
    have H3:r*(c+1)≤200*201:=iS h3 (by omega)
    rw[show rdE r (c+1) (some (U,acc))=⟨mS r ((c+1:Nat):Int) U,lM acc,byL acc,oddP acc,0,0⟩ from rfl]
    dsimp only
    rw[bA _ _ (by simp)]
    unfold solvR
    dsimp only
    rw[any_last hs hbd,colsL_len]
    by_cases hn:0<acc.length
    ·rw[bF _ _,w64,show max ((acc.length:Int) - 1) 0=((acc.length - 1:Nat):Int) by omega,aI,bh,MJ (by omega),iP hn,CO]
     simp only[ab]
     by_cases hlast:J5 acc (acc.length - 1)=c
     ·rw[iP (show ((J5 acc (acc.length - 1):Nat):Int)=c by omega),iP hlast];rfl
     ·rw[gX (show ¬((J5 acc (acc.length - 1):Nat):Int)=c by omega),gX hlast,kF]
      by_cases hl:acc.length<c
      ·rw[bF _ _,aV (by simp),aQ hl]
      ·rw[bA _ _,aV (by simp),aV hl]
       have key:=eK (b:=g_ref07_Solve_l55 (mS r c A) ⟨mS r ((c+1:Nat):Int) U,lM acc,byL acc,oddP acc,0,0⟩) (fun k=>(((List.range k).map fun i=>U[i*(c+1)+c]!).map nv,(k:Int))) 0 acc.length (((List.range acc.length).map fun i=>U[i*(c+1)+c]!).map nv) (fH _) (fun k _ hk=>?_) ?_
       ·rw[show (((List.range 0).map fun i=>U[i*(c+1)+c]!).map nv,((0:Nat):Int))=(([]:List aj),(0:Int)) from rfl] at key
        rw[key];rfl
       ·unfold g_ref07_Solve_l55
        dsimp only
        have h6:=cK (show k<r by omega) (show c<c+1 by omega)
        rw[colsL_len,bF _ _,w64 (n:=(c:Int)+1),show ((c:Int)+1)=((c+1:Nat):Int) by omega,wix,aI ⟨by omega,by rw[bH];omega⟩,bh,uw,aI (by simp;omega),w64,w7]
        simp
       ·unfold g_ref07_Solve_l55
        dsimp only
        rw[colsL_len,bA _ _]
    ·rw[bA _ _,gX hn]
     simp only[ab]
     have hz:acc.length=0:=by omega
     rw[kF,hz]
     by_cases hl:(0:Nat)<c
     ·rw[bF _ _,aV (by simp),aQ hl]
     ·rw[bA _ _,aV (by simp),aV hl,eF (x:=[]) (by
       unfold g_ref07_Solve_l55
       dsimp only
       rw[colsL_len,bA _ _])]
      rfl
 ·rw[aV h0]
  have e:(!decide (aX R C A=0)||(decide ((b.length:Int)≠R)||!b.all cM))=true:=by
   by_cases a:aX R C A=0
   ·by_cases d:(b.length:Int)=R
    ·by_cases e:b.all cM=true
     ·exact absurd ⟨a,d,e⟩ h0
     ·simp only[Bool.not_eq_true] at e;simp[e]
    ·simp[d]
   ·simp[a]
  rw[e,kT]
def nD(iJ:List Int):Int×(List aj)→Option ((Int×(List aj))⊕((List aj))):=fun (aL,a6)=>cnd (decide (aL<((iJ).length:Int))) (gd (0≤aL∧aL<((iJ).length:Int)) (bnd (fk ((iJ)[(aL).toNat]!)) fun x4=>gd ((a6++[x4]).length*136≤140737488355328) (some (.inl (i64.wrap (aL+(1:Int)),a6++[x4]))))) (some (.inr a6))
def gm(bL:Int)(bz:Int)(iJ:List Int):Option ap:=bnd (bf (nD iJ) ((0:Int),([]:List aj))) fun aD=>some (⟨bL,bz,aD⟩:ap)
theorem kU {bL:Int}{bz:Int}{iJ:List Int}{r:ap}(h:gm bL bz iJ=some r):aB prog 59 [dI .i64 bL,dI .i64 bz,dL (cI .i64) iJ] (dG aE r):=by
 refine bC (rs:=[.cell 6 24]) (fun cx hx h0=>?_) func59
 unfold gm at h
 refine rs hx fun K hK=>?_
 refine s1 (d:=.pt 0 0) (bc aq) ?_
 refine .nil (hK _ _ (rs hx fun K hK=>?_))
 iterate 2 refine sa ?_
 refine s1 (d:=.ag [dI .i64 bL,dI .i64 bz,dN]) (bE aq) ?_
 refine s1 (d:=.pt 1 0) (bc aq) ?_
 refine s0 (bO (ds':=[dI .i64 bL,dI .i64 bz,dN]) aq) ?_
 refine .nil (hK _ _ (AW.seq (ra hx ?_)))
 refine AW.block ?_
 obtain⟨aD,hy,h⟩:=ah h
 refine lp (S:=Int×(List aj)) (X:=(List aj)) (fun (aL,a6)=>[(6,.pt 0 0),(7,.pt 1 0),(13,dL (cI .i64) iJ),(14,dI .i64 ((iJ).length:Int)),(15,dI .i64 aL)]) (fun (aL,a6)=>⟨[(0,[dI .i64 (0:Int),dI .i64 (0:Int),dN]),(1,[dI .i64 bL,dI .i64 bz,dO 2 ae a6])],[(2,(a6).length,36,34)],3⟩) (PE cx (.exit 0) (fun aD=>[(6,.pt 0 0),(7,.pt 1 0)]) fun aD=>⟨[(0,[dI .i64 (0:Int),dI .i64 (0:Int),dN]),(1,[dI .i64 bL,dI .i64 bz,dO 2 ae aD])],[(2,(aD).length,36,34)],3⟩) hy ?_ ?_ ?_
 exact Wk.trans (Wk.nilOwn (ds':=[dI .i64 bL,dI .i64 bz,dO 2 ae ([]:List aj)]) 1 2 34 36) (wk h0 [0,1,2] (wR rfl (wR rfl (wR rfl (wR rfl (wR rfl wTn))))) (vR rfl (vR rfl wVn)) (wL rfl rfl wLn))
 clear hy h
 rintro⟨aL,a6⟩ y h
 dsimp only[nD] at h
 refine ra hx ?_
 refine AW.seq (cdh h rfl (fun cE h=>?_) (fun cE h=>?_))
 refine AW.skip (AW.seq (AW.block (rs hx fun K hK=>?_)))
 obtain⟨pg,h⟩:=az h
 have rz:(aL).toNat<(iJ).length:=by omega
 refine s1 (ej pg cz aT) ?_
 refine s1 (qv (c:=(cI .i64)) (l:=iJ) (n:=(aL).toNat) (o:=0) aT rz) ?_
 refine sa ?_
 refine .nil (hK _ _ (rqd [60] hx fun K hK=>?_))
 refine sa ?_
 refine s1 (aG aF) ?_
 refine sa ?_
 refine cqb h jA fun x4 h=>?_
 refine s1 (iM ([x4]:List aj) ae aF ax) ?_
 obtain⟨Mz,h⟩:=az h
 refine s1 (d:=dO 2 ae (a6++[x4])) (gc aF ax Mz) ?_
 refine sa ?_
 refine s0 (bO (ds':=[dI .i64 bL,dI .i64 bz,dO 2 ae (a6++[x4])]) aF) ?_
 refine .nil (hK _ _ (rb hx ?_))
 cases h
 exact PS.l (pe0 h0 [0,1,2])
 refine AW.exit ?_
 try dsimp only
 try simp only[aO,reduceIte,Nat.reduceEqDiff,reduceCtorEq]
 cases h
 exact PS.r ⟨by nofun,PE.i (wk h0 [0,1,2] (wR rfl (wR rfl wTn)) (vR rfl (vR rfl wVn)) (wL rfl rfl wLn))⟩
 rintro ex tm' hp' ⟨rfl,hw⟩
 try dsimp only
 try simp only[aO,reduceIte,Nat.reduceEqDiff,reduceCtorEq]
 refine AW.weak hw (rs hx fun K hK=>?_)
 refine s1 (d:=.ag [dI .i64 bL,dI .i64 bz,dO 2 ae aD]) (bb aq) ?_
 refine s0 (bO (ds':=[dI .i64 bL,dI .i64 bz,dO 2 ae aD]) aq) ?_
 refine .nil (hK _ _ (AW.ret ?_))
 cases h
 exact dh.mk1 (bJ (es:=[dI .i64 bL,dI .i64 bz,dO 2 ae aD]) rfl aq rfl rfl (ltb rfl) (leb rfl) rfl (.inr (.inr ⟨_,(eA (wc (co _) (wc (co _) (wc (A5 _) wcn)))),rfl,rfl⟩)))
def ic(iJ:List Int):Option (List aj):=bnd (gm (1:Int) ((iJ).length:Int) iJ) fun x1=>some x1.vV
theorem ox {iJ:List Int}{r:List aj}(h:ic iJ=some r):aB prog 36 [dL (cI .i64) iJ] (dL ae r):=by
 refine bC (rs:=[.tmp 2]) (fun cx hx h0=>?_) func36
 unfold ic at h
 refine rs hx fun K hK=>?_
 refine s1 (d:=dO 0 ae ([]:List aj)) (eZ aF ax) ?_
 refine .nil (hK _ _ (rs hx fun K hK=>?_))
 iterate 3 refine sa ?_
 refine scb h kU fun x1 h=>?_
 refine s1 (T_fldC aq aF) ?_
 refine sa ?_
 refine .nil (hK _ _ (AW.ret ?_))
 cases h
 exact rv1
def kq :Option Bool:=bnd (gm (2:Int) (2:Int) [(1:Int),(2:Int),(3:Int),(4:Int)]) fun x1=>bnd (i2 x1) fun x3=>bnd (m4 x1) fun x5=>bnd (gm (2:Int) (3:Int) [(0:Int),(2:Int),(4:Int),(0:Int),(1:Int),(2:Int)]) fun x7=>bnd (i2 x7) fun x9=>bnd (ic [(5:Int),(6:Int)]) fun qx=>bnd (iE x1 qx) fun lw=>bnd (gm (1:Int) (2:Int) [(1:Int),(1:Int)]) fun sQ=>bnd (ic [(2:Int)]) fun ny=>bnd (iE sQ ny) fun sP=>bnd (gm (2:Int) (1:Int) [(1:Int),(1:Int)]) fun uP=>bnd (ic [(1:Int),(2:Int)]) fun sO=>bnd (iE uP sO) fun DF=>bnd (gm (1:Int) (3:Int) [(1:Int),(2:Int),(3:Int)]) fun uC=>bnd (lZ uC) fun uN=>bnd (gm (2:Int) (2:Int) [(2:Int),(1:Int),(1:Int),(2:Int)]) fun IU=>bnd (gI IU) fun ze=>bnd (gm (2:Int) (2:Int) [(1:Int),(2:Int),(2:Int),(1:Int)]) fun M0=>bnd (gI M0) fun wz=>bnd (S:=Bool) (cnd (decide (x3.2.2≠(0:Int))) (some (true)) (cnd (decide (x5.2≠(0:Int))) (some (true)) (cnd (decide (x9.2.2≠(0:Int))) (some (true)) (cnd (decide (lw.2≠(0:Int))) (some (true)) (cnd (decide (sP.2≠(70:Int))) (some (true)) (cnd (decide (DF.2≠(200:Int))) (some (true)) (cnd (decide (uN.2≠(0:Int))) (some (true)) (cnd (decide (ze.2≠(0:Int))) (some (true)) (cnd (decide (wz.2≠(0:Int))) (some (true)) (cnd (decide (((uN.1).length:Int)≠(2:Int))) (some (true)) (cnd (decide (((lw.1).length:Int)≠(2:Int))) (some (true)) (cnd (decide (((x3.2.1).length:Int)≠(2:Int))) (some (true)) (some (decide (((x9.2.1).length:Int)≠(1:Int)))))))))))))))) fun cD=>cnd cD (some false) (bnd (S:=Bool) (bnd (fS (2:Int)) fun x53=>bnd (e7 x3.1 x53) fun x55=>cnd x55 (gd (0≤(0:Int)∧(0:Int)<((x3.2.1).length:Int)) (cnd (decide (((x3.2.1)[((0:Int)).toNat]!)=(0:Int))) (gd (0≤(1:Int)∧(1:Int)<((x3.2.1).length:Int)) (cnd (decide (((x3.2.1)[((1:Int)).toNat]!)=(1:Int))) (bnd (fk (-2:Int)) fun x64=>cnd (decide (x5.1=x64)) (bnd (gm (2:Int) (3:Int) [(0:Int),(1:Int),(2:Int),0,0,0]) fun x67=>bnd (e7 x9.1 x67) fun x69=>cnd x69 (gd (0≤(0:Int)∧(0:Int)<((x9.2.1).length:Int)) (bnd (some (decide (((x9.2.1)[((0:Int)).toNat]!)=(1:Int)))) fun x74=>some (x74))) (some (false))) (some (false))) (some (false)))) (some (false)))) (some (false))) fun nG=>bnd (S:=Bool) (cnd nG (gd (0≤(0:Int)∧(0:Int)<((lw.1).length:Int)) (bnd (fk (-4:Int)) fun x80=>cnd (decide ((lw.1)[((0:Int)).toNat]! =x80)) (gd (0≤(1:Int)∧(1:Int)<((lw.1).length:Int)) (bnd (oN (9:Int) (2:Int)) fun x85=>cnd (decide ((lw.1)[((1:Int)).toNat]! =x85)) (gd (0≤(0:Int)∧(0:Int)<((uN.1).length:Int)) (bnd (ic [(-2:Int),(1:Int),(0:Int)]) fun x90=>bnd (d9 ((uN.1)[((0:Int)).toNat]!) x90) fun x92=>cnd x92 (gd (0≤(1:Int)∧(1:Int)<((uN.1).length:Int)) (bnd (ic [(-3:Int),(0:Int),(1:Int)]) fun x97=>bnd (d9 ((uN.1)[((1:Int)).toNat]!) x97) fun x99=>cnd x99 (cnd ze.1 (some (!wz.1)) (some (false))) (some (false)))) (some (false)))) (some (false)))) (some (false)))) (some (false))) fun sv=>some sv)
theorem uZ  {r:Bool}(h:kq=some r):aB prog 12 [] (dB r):=by
 refine bC (rs:=[.tmp 0]) (fun cx hx h0=>?_) func12
 unfold kq at h
 refine ra hx ?_
 refine rs hx fun K hK=>?_
 refine s1 (d:=dO 0 (cI .i64) [(1:Int),(2:Int),(3:Int),(4:Int)]) (iI cz aT) ?_
 refine scb h kU fun x1 h=>?_
 refine s1 (d:=.pt 1 0) (bc aq) ?_
 refine s0 (bO (ds':=[dI .i64 x1.vR,dI .i64 x1.vC,dL ae x1.vV]) aq) ?_
 refine .nil (hK _ _ (rs hx fun K hK=>?_))
 refine s1 (d:=dG aE x1) (bb aq) ?_
 refine scb h uk fun x3 h=>?_
 iterate 4 refine sa ?_
 refine s1 (d:=.pt 2 0) (bc aq) ?_
 refine s0 (bO (ds':=[dI .i64 x3.1.vR,dI .i64 x3.1.vC,dL ae x3.1.vV]) aq) ?_
 iterate 2 refine sa ?_
 refine .nil (hK _ _ (rs hx fun K hK=>?_))
 refine s1 (d:=dG aE x1) (bb aq) ?_
 refine scb h yc fun x5 h=>?_
 iterate 3 refine sa ?_
 refine s1 (bq (F:=ae.f cb) ax) ?_
 refine s0 (aN (b':=x5.1) (ao.id _ _) ax) ?_
 refine sa ?_
 refine .nil (hK _ _ (rs hx fun K hK=>?_))
 refine s1 (d:=dO 4 (cI .i64) [(0:Int),(2:Int),(4:Int),(0:Int),(1:Int),(2:Int)]) (iI cz aT) ?_
 refine scb h kU fun x7 h=>?_
 refine scb h uk fun x9 h=>?_
 iterate 4 refine sa ?_
 refine s1 (d:=.pt 5 0) (bc aq) ?_
 refine s0 (bO (ds':=[dI .i64 x9.1.vR,dI .i64 x9.1.vC,dL ae x9.1.vV]) aq) ?_
 iterate 2 refine sa ?_
 refine .nil (hK _ _ (rsd [36,29] hx fun K hK=>?_))
 refine s1 (d:=dG aE x1) (bb aq) ?_
 refine s1 (Ao cz aT) ?_
 refine cqb h ox fun qx h=>?_
 refine cqb h q8 fun lw h=>?_
 iterate 5 refine sa ?_
 refine .nil (hK _ _ (rs hx fun K hK=>?_))
 refine s1 (d:=dO 6 (cI .i64) [(1:Int),(1:Int)]) (iI cz aT) ?_
 refine scb h kU fun sQ h=>?_
 refine s1 (d:=dO 7 (cI .i64) [(2:Int)]) (iI cz aT) ?_
 refine scb h ox fun ny h=>?_
 refine scb h q8 fun sP h=>?_
 iterate 5 refine sa ?_
 refine .nil (hK _ _ (rs hx fun K hK=>?_))
 refine s1 (d:=dO 8 (cI .i64) [(1:Int),(1:Int)]) (iI cz aT) ?_
 refine scb h kU fun uP h=>?_
 refine s1 (d:=dO 9 (cI .i64) [(1:Int),(2:Int)]) (iI cz aT) ?_
 refine scb h ox fun sO h=>?_
 refine scb h q8 fun DF h=>?_
 iterate 5 refine sa ?_
 refine .nil (hK _ _ (rs hx fun K hK=>?_))
 refine s1 (d:=dO 10 (cI .i64) [(1:Int),(2:Int),(3:Int)]) (iI cz aT) ?_
 refine scb h kU fun uC h=>?_
 refine scb h DR fun uN h=>?_
 iterate 5 refine sa ?_
 refine .nil (hK _ _ (rs hx fun K hK=>?_))
 refine s1 (d:=dO 11 (cI .i64) [(2:Int),(1:Int),(1:Int),(2:Int)]) (iI cz aT) ?_
 refine scb h kU fun IU h=>?_
 refine scb h rW fun ze h=>?_
 iterate 5 refine sa ?_
 refine .nil (hK _ _ (rs hx fun K hK=>?_))
 refine s1 (d:=dO 12 (cI .i64) [(1:Int),(2:Int),(2:Int),(1:Int)]) (iI cz aT) ?_
 refine scb h kU fun M0 h=>?_
 refine scb h rW fun wz h=>?_
 iterate 5 refine sa ?_
 refine .nil (hK _ _ ?_)
 iterate 2 refine AW.seq ?_
 obtain⟨cD,hy,h⟩:=ah h
 refine jn ((PE cx .normal (fun cD=>[(2,.pt 0 0),(3,dL (cI .i64) x3.2.1),(5,.pt 1 0),(7,.pt 2 0),(8,dL (cI .i64) x9.2.1),(10,dL ae lw.1),(16,dL (cL ae) uN.1),(18,dB ze.1),(20,dB wz.1),(137,dB cD)]) fun cD=>⟨[(0,[dI .i64 x3.1.vR,dI .i64 x3.1.vC,dL ae x3.1.vV]),(1,dC (ae.f x5.1)),(2,[dI .i64 x9.1.vR,dI .i64 x9.1.vC,dL ae x9.1.vV])],[],3⟩) cD) ?_ ?_
 replace h:=hy
 refine rq hx fun K hK=>?_
 iterate 3 refine sa ?_
 rcases aW (decide (x3.2.2≠(0:Int))) with FQ|FQ
 replace h:=aY FQ h
 iterate 2 refine aJ rfl rfl FQ ?_
 refine s1 (am FQ) ?_
 refine sa ?_
 iterate 2 refine aJ rfl rfl rfl ?_
 refine s1 (am rfl) ?_
 refine sa ?_
 iterate 2 refine aJ rfl rfl rfl ?_
 refine s1 (am rfl) ?_
 refine sa ?_
 iterate 2 refine aJ rfl rfl rfl ?_
 refine s1 (am rfl) ?_
 refine sa ?_
 iterate 2 refine aJ rfl rfl rfl ?_
 refine s1 (am rfl) ?_
 refine sa ?_
 iterate 2 refine aJ rfl rfl rfl ?_
 refine s1 (am rfl) ?_
 refine sa ?_
 iterate 2 refine aJ rfl rfl rfl ?_
 refine s1 (am rfl) ?_
 refine sa ?_
 iterate 2 refine aJ rfl rfl rfl ?_
 refine s1 (am rfl) ?_
 refine sa ?_
 iterate 3 refine aJ rfl rfl rfl ?_
 refine s1 (am rfl) ?_
 refine sa ?_
 iterate 3 refine aJ rfl rfl rfl ?_
 refine s1 (am rfl) ?_
 refine sa ?_
 iterate 3 refine aJ rfl rfl rfl ?_
 refine s1 (am rfl) ?_
 refine sa ?_
 iterate 3 refine aJ rfl rfl rfl ?_
 refine s1 (am rfl) ?_
 refine .nil (hK _ _ ?_)
 cases h
 exact pe0 h0 [2,3,5]
 replace h:=aZ FQ h
 iterate 2 refine ga FQ ?_
 refine s1 (au FQ) ?_
 refine sa ?_
 rcases aW (decide (x5.2≠(0:Int))) with JZ|JZ
 replace h:=aY JZ h
 iterate 2 refine aJ rfl rfl JZ ?_
 refine s1 (am JZ) ?_
 refine sa ?_
 iterate 2 refine aJ rfl rfl rfl ?_
 refine s1 (am rfl) ?_
 refine sa ?_
 iterate 2 refine aJ rfl rfl rfl ?_
 refine s1 (am rfl) ?_
 refine sa ?_
 iterate 2 refine aJ rfl rfl rfl ?_
 refine s1 (am rfl) ?_
 refine sa ?_
 iterate 2 refine aJ rfl rfl rfl ?_
 refine s1 (am rfl) ?_
 refine sa ?_
 iterate 2 refine aJ rfl rfl rfl ?_
 refine s1 (am rfl) ?_
 refine sa ?_
 iterate 2 refine aJ rfl rfl rfl ?_
 refine s1 (am rfl) ?_
 refine sa ?_
 iterate 3 refine aJ rfl rfl rfl ?_
 refine s1 (am rfl) ?_
 refine sa ?_
 iterate 3 refine aJ rfl rfl rfl ?_
 refine s1 (am rfl) ?_
 refine sa ?_
 iterate 3 refine aJ rfl rfl rfl ?_
 refine s1 (am rfl) ?_
 refine sa ?_
 iterate 3 refine aJ rfl rfl rfl ?_
 refine s1 (am rfl) ?_
 refine .nil (hK _ _ ?_)
 cases h
 exact pe0 h0 [2,3,5]
 replace h:=aZ JZ h
 iterate 2 refine ga JZ ?_
 refine s1 (au JZ) ?_
 refine sa ?_
 rcases aW (decide (x9.2.2≠(0:Int))) with tW|tW
 replace h:=aY tW h
 iterate 2 refine aJ rfl rfl tW ?_
 refine s1 (am tW) ?_
 refine sa ?_
 iterate 2 refine aJ rfl rfl rfl ?_
 refine s1 (am rfl) ?_
 refine sa ?_
 iterate 2 refine aJ rfl rfl rfl ?_
 refine s1 (am rfl) ?_
 refine sa ?_
 iterate 2 refine aJ rfl rfl rfl ?_
 refine s1 (am rfl) ?_
 refine sa ?_
 iterate 2 refine aJ rfl rfl rfl ?_
 refine s1 (am rfl) ?_
 refine sa ?_
 iterate 2 refine aJ rfl rfl rfl ?_
 refine s1 (am rfl) ?_
 refine sa ?_
 iterate 3 refine aJ rfl rfl rfl ?_
 refine s1 (am rfl) ?_
 refine sa ?_
 iterate 3 refine aJ rfl rfl rfl ?_
 refine s1 (am rfl) ?_
 refine sa ?_
 iterate 3 refine aJ rfl rfl rfl ?_
 refine s1 (am rfl) ?_
 refine sa ?_
 iterate 3 refine aJ rfl rfl rfl ?_
 refine s1 (am rfl) ?_
 refine .nil (hK _ _ ?_)
 cases h
 exact pe0 h0 [2,3,5]
 replace h:=aZ tW h
 iterate 2 refine ga tW ?_
 refine s1 (au tW) ?_
 refine sa ?_
 rcases aW (decide (lw.2≠(0:Int))) with JY|JY
 replace h:=aY JY h
 iterate 2 refine aJ rfl rfl JY ?_
 refine s1 (am JY) ?_
 refine sa ?_
 iterate 2 refine aJ rfl rfl rfl ?_
 refine s1 (am rfl) ?_
 refine sa ?_
 iterate 2 refine aJ rfl rfl rfl ?_
 refine s1 (am rfl) ?_
 refine sa ?_
 iterate 2 refine aJ rfl rfl rfl ?_
 refine s1 (am rfl) ?_
 refine sa ?_
 iterate 2 refine aJ rfl rfl rfl ?_
 refine s1 (am rfl) ?_
 refine sa ?_
 iterate 3 refine aJ rfl rfl rfl ?_
 refine s1 (am rfl) ?_
 refine sa ?_
 iterate 3 refine aJ rfl rfl rfl ?_
 refine s1 (am rfl) ?_
 refine sa ?_
 iterate 3 refine aJ rfl rfl rfl ?_
 refine s1 (am rfl) ?_
 refine sa ?_
 iterate 3 refine aJ rfl rfl rfl ?_
 refine s1 (am rfl) ?_
 refine .nil (hK _ _ ?_)
 cases h
 exact pe0 h0 [2,3,5]
 replace h:=aZ JY h
 iterate 2 refine ga JY ?_
 refine s1 (au JY) ?_
 refine sa ?_
 rcases aW (decide (sP.2≠(70:Int))) with FP|FP
 replace h:=aY FP h
 iterate 2 refine aJ rfl rfl FP ?_
 refine s1 (am FP) ?_
 refine sa ?_
 iterate 2 refine aJ rfl rfl rfl ?_
 refine s1 (am rfl) ?_
 refine sa ?_
 iterate 2 refine aJ rfl rfl rfl ?_
 refine s1 (am rfl) ?_
 refine sa ?_
 iterate 2 refine aJ rfl rfl rfl ?_
 refine s1 (am rfl) ?_
 refine sa ?_
 iterate 3 refine aJ rfl rfl rfl ?_
 refine s1 (am rfl) ?_
 refine sa ?_
 iterate 3 refine aJ rfl rfl rfl ?_
 refine s1 (am rfl) ?_
 refine sa ?_
 iterate 3 refine aJ rfl rfl rfl ?_
 refine s1 (am rfl) ?_
 refine sa ?_
 iterate 3 refine aJ rfl rfl rfl ?_
 refine s1 (am rfl) ?_
 refine .nil (hK _ _ ?_)
 cases h
 exact pe0 h0 [2,3,5]
 replace h:=aZ FP h
 iterate 2 refine ga FP ?_
 refine s1 (au FP) ?_
 refine sa ?_
 rcases aW (decide (DF.2≠(200:Int))) with JX|JX
 replace h:=aY JX h
 iterate 2 refine aJ rfl rfl JX ?_
 refine s1 (am JX) ?_
 refine sa ?_
 iterate 2 refine aJ rfl rfl rfl ?_
 refine s1 (am rfl) ?_
 refine sa ?_
 iterate 2 refine aJ rfl rfl rfl ?_
 refine s1 (am rfl) ?_
 refine sa ?_
 iterate 3 refine aJ rfl rfl rfl ?_
 refine s1 (am rfl) ?_
 refine sa ?_
 iterate 3 refine aJ rfl rfl rfl ?_
 refine s1 (am rfl) ?_
 refine sa ?_
 iterate 3 refine aJ rfl rfl rfl ?_
 refine s1 (am rfl) ?_
 refine sa ?_
 iterate 3 refine aJ rfl rfl rfl ?_
 refine s1 (am rfl) ?_
 refine .nil (hK _ _ ?_)
 cases h
 exact pe0 h0 [2,3,5]
 replace h:=aZ JX h
 iterate 2 refine ga JX ?_
 refine s1 (au JX) ?_
 refine sa ?_
 rcases aW (decide (uN.2≠(0:Int))) with JW|JW
 replace h:=aY JW h
 iterate 2 refine aJ rfl rfl JW ?_
 refine s1 (am JW) ?_
 refine sa ?_
 iterate 2 refine aJ rfl rfl rfl ?_
 refine s1 (am rfl) ?_
 refine sa ?_
 iterate 3 refine aJ rfl rfl rfl ?_
 refine s1 (am rfl) ?_
 refine sa ?_
 iterate 3 refine aJ rfl rfl rfl ?_
 refine s1 (am rfl) ?_
 refine sa ?_
 iterate 3 refine aJ rfl rfl rfl ?_
 refine s1 (am rfl) ?_
 refine sa ?_
 iterate 3 refine aJ rfl rfl rfl ?_
 refine s1 (am rfl) ?_
 refine .nil (hK _ _ ?_)
 cases h
 exact pe0 h0 [2,3,5]
 replace h:=aZ JW h
 iterate 2 refine ga JW ?_
 refine s1 (au JW) ?_
 refine sa ?_
 rcases aW (decide (ze.2≠(0:Int))) with JV|JV
 replace h:=aY JV h
 iterate 2 refine aJ rfl rfl JV ?_
 refine s1 (am JV) ?_
 refine sa ?_
 iterate 3 refine aJ rfl rfl rfl ?_
 refine s1 (am rfl) ?_
 refine sa ?_
 iterate 3 refine aJ rfl rfl rfl ?_
 refine s1 (am rfl) ?_
 refine sa ?_
 iterate 3 refine aJ rfl rfl rfl ?_
 refine s1 (am rfl) ?_
 refine sa ?_
 iterate 3 refine aJ rfl rfl rfl ?_
 refine s1 (am rfl) ?_
 refine .nil (hK _ _ ?_)
 cases h
 exact pe0 h0 [2,3,5]
 replace h:=aZ JV h
 iterate 2 refine ga JV ?_
 refine s1 (au JV) ?_
 refine sa ?_
 rcases aW (decide (wz.2≠(0:Int))) with JU|JU
 replace h:=aY JU h
 iterate 3 refine aJ rfl rfl JU ?_
 refine s1 (am JU) ?_
 refine sa ?_
 iterate 3 refine aJ rfl rfl rfl ?_
 refine s1 (am rfl) ?_
 refine sa ?_
 iterate 3 refine aJ rfl rfl rfl ?_
 refine s1 (am rfl) ?_
 refine sa ?_
 iterate 3 refine aJ rfl rfl rfl ?_
 refine s1 (am rfl) ?_
 refine .nil (hK _ _ ?_)
 cases h
 exact pe0 h0 [2,3,5]
 replace h:=aZ JU h
 iterate 3 refine ga JU ?_
 refine s1 (au JU) ?_
 refine sa ?_
 rcases aW (decide (((uN.1).length:Int)≠(2:Int))) with JT|JT
 replace h:=aY JT h
 iterate 3 refine aJ rfl rfl JT ?_
 refine s1 (am JT) ?_
 refine sa ?_
 iterate 3 refine aJ rfl rfl rfl ?_
 refine s1 (am rfl) ?_
 refine sa ?_
 iterate 3 refine aJ rfl rfl rfl ?_
 refine s1 (am rfl) ?_
 refine .nil (hK _ _ ?_)
 cases h
 exact pe0 h0 [2,3,5]
 replace h:=aZ JT h
 iterate 3 refine ga JT ?_
 refine s1 (au JT) ?_
 refine sa ?_
 rcases aW (decide (((lw.1).length:Int)≠(2:Int))) with JS|JS
 replace h:=aY JS h
 iterate 3 refine aJ rfl rfl JS ?_
 refine s1 (am JS) ?_
 refine sa ?_
 iterate 3 refine aJ rfl rfl rfl ?_
 refine s1 (am rfl) ?_
 refine .nil (hK _ _ ?_)
 cases h
 exact pe0 h0 [2,3,5]
 replace h:=aZ JS h
 iterate 3 refine ga JS ?_
 refine s1 (au JS) ?_
 refine sa ?_
 rcases aW (decide (((x3.2.1).length:Int)≠(2:Int))) with JR|JR
 replace h:=aY JR h
 iterate 3 refine aJ rfl rfl JR ?_
 refine s1 (am JR) ?_
 refine .nil (hK _ _ ?_)
 cases h
 exact pe0 h0 [2,3,5]
 replace h:=aZ JR h
 iterate 3 refine ga JR ?_
 refine s1 (au JR) ?_
 refine .nil (hK _ _ ?_)
 cases h
 exact pe0 h0 [2,3,5]
 rintro ex tm' hp' ⟨rfl,hw⟩
 refine AW.weak hw (cdh h rfl (fun hb52 h=>?_) (fun hb52 h=>?_))
 refine ra hx ?_
 refine AW.ret ?_
 cases h
 exact rv1
 refine AW.skip (AW.seq ?_)
 obtain⟨nG,hy,h⟩:=ah h
 refine jn ((PE cx .normal (fun nG=>[(10,dL ae lw.1),(16,dL (cL ae) uN.1),(18,dB ze.1),(20,dB wz.1),(22,dB nG)]) fun nG=>⟨[],[],0⟩) nG) ?_ ?_
 replace h:=hy
 refine rqd [43,14,60,59] hx fun K hK=>?_
 refine s1 (d:=dG aE x3.1) (bb aq) ?_
 refine cqb h rX fun x53 h=>?_
 refine cqb h oo fun x55 h=>?_
 refine sa ?_
 rcases aW x55 with D9|D9
 replace h:=aY D9 h
 refine ga D9 ?_
 obtain⟨hc58,h⟩:=az h
 have hn59:((0:Int)).toNat<(x3.2.1).length:=by omega
 refine g1 D9 (ej hc58 cz aT) ?_
 refine g1 D9 (qv (c:=(cI .i64)) (l:=x3.2.1) (n:=((0:Int)).toNat) (o:=0) aT hn59) ?_
 refine ga D9 ?_
 refine s1 (am D9) ?_
 refine sa ?_
 rcases aW (decide (((x3.2.1)[((0:Int)).toNat]!)=(0:Int))) with D8|D8
 replace h:=aY D8 h
 refine ga D8 ?_
 obtain⟨hc61,h⟩:=az h
 have hn62:((1:Int)).toNat<(x3.2.1).length:=by omega
 refine g1 D8 (ej hc61 cz aT) ?_
 refine g1 D8 (qv (c:=(cI .i64)) (l:=x3.2.1) (n:=((1:Int)).toNat) (o:=0) aT hn62) ?_
 refine ga D8 ?_
 refine s1 (am D8) ?_
 refine sa ?_
 rcases aW (decide (((x3.2.1)[((1:Int)).toNat]!)=(1:Int))) with FO|FO
 replace h:=aY FO h
 refine g1 (d:=dG ae x5.1) FO (aA (ao.id _ _) ax) ?_
 obtain⟨x64,hx65,h⟩:=ah h
 refine sqg tok rfl rfl FO (jA hx65) rfl (lA (al _) lAn) (.inl (eE _ _)) ?_
 refine g1 FO (xH tok 4 (by decide) qX ax) ?_
 refine s1 (am FO) ?_
 refine sa ?_
 rcases aW (decide (x5.1=x64)) with D7|D7
 replace h:=aY D7 h
 refine g1 (d:=dG aE x9.1) D7 (bb aq) ?_
 refine g1 D7 (Ao cz aT) ?_
 obtain⟨x67,hx68,h⟩:=ah h
 refine sqg tok rfl rfl D7 (kU hx68) rfl (lA (al _) (lA (al _) (lA (al _) lAn))) (.inl (eE _ _)) ?_
 obtain⟨x69,hx70,h⟩:=ah h
 refine sqg tok rfl rfl D7 (oo hx70) (by simp only[bN,cl,cF,cZ,ck,cr];exact⟨aM _ _,aM _ _⟩) (lA (al _) (lA (al _) lAn)) (.inl rfl) ?_
 refine s1 (am D7) ?_
 refine sa ?_
 rcases aW x69 with D6|D6
 replace h:=aY D6 h
 refine ga D6 ?_
 obtain⟨hc72,h⟩:=az h
 have hn73:((0:Int)).toNat<(x9.2.1).length:=by omega
 refine g1 D6 (ej hc72 cz aT) ?_
 refine g1 D6 (qv (c:=(cI .i64)) (l:=x9.2.1) (n:=((0:Int)).toNat) (o:=0) aT hn73) ?_
 refine ga D6 ?_
 refine s1 (am D6) ?_
 obtain⟨x74,hx75,h⟩:=ah h
 replace hx75:=cP hx75
 refine s2 (d2:=dB x74) l9 (gv (congrArg dB hx75)) ?_
 refine .nil (hK _ _ ?_)
 cases h
 exact pe0 h0 []
 replace h:=aZ D6 h
 iterate 4 refine aJ rfl rfl D6 ?_
 refine s1 (au D6) ?_
 refine sa ?_
 refine .nil (hK _ _ ?_)
 cases h
 exact pe0 h0 []
 replace h:=aZ D7 h
 iterate 4 refine aJ rfl rfl D7 ?_
 refine s1 (au D7) ?_
 refine sa ?_
 iterate 4 refine aJ rfl rfl rfl ?_
 refine s1 (au rfl) ?_
 refine sa ?_
 refine .nil (hK _ _ ?_)
 cases h
 exact pe0 h0 []
 replace h:=aZ FO h
 iterate 3 refine aJ rfl rfl FO ?_
 refine s1 (au FO) ?_
 refine sa ?_
 iterate 4 refine aJ rfl rfl rfl ?_
 refine s1 (au rfl) ?_
 refine sa ?_
 iterate 4 refine aJ rfl rfl rfl ?_
 refine s1 (au rfl) ?_
 refine sa ?_
 refine .nil (hK _ _ ?_)
 cases h
 exact pe0 h0 []
 replace h:=aZ D8 h
 iterate 4 refine aJ rfl rfl D8 ?_
 refine s1 (au D8) ?_
 refine sa ?_
 iterate 3 refine aJ rfl rfl rfl ?_
 refine s1 (au rfl) ?_
 refine sa ?_
 iterate 4 refine aJ rfl rfl rfl ?_
 refine s1 (au rfl) ?_
 refine sa ?_
 iterate 4 refine aJ rfl rfl rfl ?_
 refine s1 (au rfl) ?_
 refine sa ?_
 refine .nil (hK _ _ ?_)
 cases h
 exact pe0 h0 []
 replace h:=aZ D9 h
 iterate 4 refine aJ rfl rfl D9 ?_
 refine s1 (au D9) ?_
 refine sa ?_
 iterate 4 refine aJ rfl rfl rfl ?_
 refine s1 (au rfl) ?_
 refine sa ?_
 iterate 3 refine aJ rfl rfl rfl ?_
 refine s1 (au rfl) ?_
 refine sa ?_
 iterate 4 refine aJ rfl rfl rfl ?_
 refine s1 (au rfl) ?_
 refine sa ?_
 iterate 4 refine aJ rfl rfl rfl ?_
 refine s1 (au rfl) ?_
 refine sa ?_
 refine .nil (hK _ _ ?_)
 cases h
 exact pe0 h0 []
 rintro ex tm' hp' ⟨rfl,hw⟩
 refine AW.weak hw (AW.seq ?_)
 obtain⟨sv,hy,h⟩:=ah h
 refine jn ((PE cx .normal (fun sv=>[(0,dB sv)]) fun sv=>⟨[],[],0⟩) sv) ?_ ?_
 replace h:=hy
 refine rqd [60,61,36,27] hx fun K hK=>?_
 iterate 2 refine sa ?_
 rcases aW nG with Cm|Cm
 replace h:=aY Cm h
 refine ga Cm ?_
 obtain⟨hc78,h⟩:=az h
 have hn79:((0:Int)).toNat<(lw.1).length:=by omega
 refine g1 Cm (ej hc78 aF ax) ?_
 refine g1 (d:=dG ae ((lw.1)[((0:Int)).toNat]!)) Cm (jI (c:=ae) (l:=lw.1) (n:=((0:Int)).toNat) (o:=0) ax hn79 (eM _ _ rfl)) ?_
 obtain⟨x80,hx81,h⟩:=ah h
 refine sqg tok rfl rfl Cm (jA hx81) rfl (lA (al _) lAn) (.inl (eE _ _)) ?_
 refine g1 Cm (xH tok 4 (by decide) qX ax) ?_
 refine s1 (am Cm) ?_
 refine sa ?_
 rcases aW (decide ((lw.1)[((0:Int)).toNat]! =x80)) with Cl|Cl
 replace h:=aY Cl h
 refine ga Cl ?_
 obtain⟨hc83,h⟩:=az h
 have hn84:((1:Int)).toNat<(lw.1).length:=by omega
 refine g1 Cl (ej hc83 aF ax) ?_
 refine g1 (d:=dG ae ((lw.1)[((1:Int)).toNat]!)) Cl (jI (c:=ae) (l:=lw.1) (n:=((1:Int)).toNat) (o:=0) ax hn84 (eM _ _ rfl)) ?_
 obtain⟨x85,hx86,h⟩:=ah h
 refine sqg tok rfl rfl Cl (Fb hx86) rfl (lA (al _) (lA (al _) lAn)) (.inl (eE _ _)) ?_
 refine g1 Cl (xH tok 4 (by decide) qX ax) ?_
 refine s1 (am Cl) ?_
 refine sa ?_
 rcases aW (decide ((lw.1)[((1:Int)).toNat]! =x85)) with Ba|Ba
 replace h:=aY Ba h
 refine ga Ba ?_
 obtain⟨hc88,h⟩:=az h
 have hn89:((0:Int)).toNat<(uN.1).length:=by omega
 refine g1 Ba (ej hc88 nz aF) ?_
 refine g1 Ba (qv (c:=(cL ae)) (l:=uN.1) (n:=((0:Int)).toNat) (o:=0) aF hn89) ?_
 refine g1 Ba (Ao cz aT) ?_
 obtain⟨x90,hx91,h⟩:=ah h
 refine sqg tok rfl rfl Ba (ox hx91) rfl (lA (al _) lAn) (.inl rfl) ?_
 obtain⟨x92,hx93,h⟩:=ah h
 refine sqg tok rfl rfl Ba (pE hx93) rfl (lA (al _) (lA (al _) lAn)) (.inl rfl) ?_
 refine s1 (am Ba) ?_
 refine sa ?_
 rcases aW x92 with A9|A9
 replace h:=aY A9 h
 refine ga A9 ?_
 obtain⟨hc95,h⟩:=az h
 have hn96:((1:Int)).toNat<(uN.1).length:=by omega
 refine g1 A9 (ej hc95 nz aF) ?_
 refine g1 A9 (qv (c:=(cL ae)) (l:=uN.1) (n:=((1:Int)).toNat) (o:=0) aF hn96) ?_
 refine g1 A9 (Ao cz aT) ?_
 obtain⟨x97,hx98,h⟩:=ah h
 refine sqg tok rfl rfl A9 (ox hx98) rfl (lA (al _) lAn) (.inl rfl) ?_
 obtain⟨x99,hx100,h⟩:=ah h
 refine sqg tok rfl rfl A9 (pE hx100) rfl (lA (al _) (lA (al _) lAn)) (.inl rfl) ?_
 refine s1 (am A9) ?_
 refine sa ?_
 rcases aW x99 with Cq|Cq
 replace h:=aY Cq h
 refine ga Cq ?_
 refine s1 (am Cq) ?_
 refine sa ?_
 rcases aW ze.1 with Cp|Cp
 replace h:=aY Cp h
 iterate 2 refine ga Cp ?_
 refine s1 (am Cp) ?_
 refine sa ?_
 refine .nil (hK _ _ ?_)
 cases h
 exact pe0 h0 []
 replace h:=aZ Cp h
 iterate 2 refine aJ rfl rfl Cp ?_
 refine s1 (au Cp) ?_
 refine sa ?_
 refine .nil (hK _ _ ?_)
 cases h
 exact pe0 h0 []
 replace h:=aZ Cq h
 refine aJ rfl rfl Cq ?_
 refine s1 (au Cq) ?_
 refine sa ?_
 iterate 2 refine aJ rfl rfl rfl ?_
 refine s1 (au rfl) ?_
 refine sa ?_
 refine .nil (hK _ _ ?_)
 cases h
 exact pe0 h0 []
 replace h:=aZ A9 h
 iterate 6 refine aJ rfl rfl A9 ?_
 refine s1 (au A9) ?_
 refine sa ?_
 refine aJ rfl rfl rfl ?_
 refine s1 (au rfl) ?_
 refine sa ?_
 iterate 2 refine aJ rfl rfl rfl ?_
 refine s1 (au rfl) ?_
 refine sa ?_
 refine .nil (hK _ _ ?_)
 cases h
 exact pe0 h0 []
 replace h:=aZ Ba h
 iterate 6 refine aJ rfl rfl Ba ?_
 refine s1 (au Ba) ?_
 refine sa ?_
 iterate 6 refine aJ rfl rfl rfl ?_
 refine s1 (au rfl) ?_
 refine sa ?_
 refine aJ rfl rfl rfl ?_
 refine s1 (au rfl) ?_
 refine sa ?_
 iterate 2 refine aJ rfl rfl rfl ?_
 refine s1 (au rfl) ?_
 refine sa ?_
 refine .nil (hK _ _ ?_)
 cases h
 exact pe0 h0 []
 replace h:=aZ Cl h
 iterate 5 refine aJ rfl rfl Cl ?_
 refine s1 (au Cl) ?_
 refine sa ?_
 iterate 6 refine aJ rfl rfl rfl ?_
 refine s1 (au rfl) ?_
 refine sa ?_
 iterate 6 refine aJ rfl rfl rfl ?_
 refine s1 (au rfl) ?_
 refine sa ?_
 refine aJ rfl rfl rfl ?_
 refine s1 (au rfl) ?_
 refine sa ?_
 iterate 2 refine aJ rfl rfl rfl ?_
 refine s1 (au rfl) ?_
 refine sa ?_
 refine .nil (hK _ _ ?_)
 cases h
 exact pe0 h0 []
 replace h:=aZ Cm h
 iterate 5 refine aJ rfl rfl Cm ?_
 refine s1 (au Cm) ?_
 refine sa ?_
 iterate 5 refine aJ rfl rfl rfl ?_
 refine s1 (au rfl) ?_
 refine sa ?_
 iterate 6 refine aJ rfl rfl rfl ?_
 refine s1 (au rfl) ?_
 refine sa ?_
 iterate 6 refine aJ rfl rfl rfl ?_
 refine s1 (au rfl) ?_
 refine sa ?_
 refine aJ rfl rfl rfl ?_
 refine s1 (au rfl) ?_
 refine sa ?_
 iterate 2 refine aJ rfl rfl rfl ?_
 refine s1 (au rfl) ?_
 refine sa ?_
 refine .nil (hK _ _ ?_)
 cases h
 exact pe0 h0 []
 rintro ex tm' hp' ⟨rfl,hw⟩
 refine AW.weak hw (AW.ret ?_)
 cases h
 exact rv1
theorem PW {A k:Nat}(h:A<2 ^ (k+1))(hb:(dg 65536 A (k / 16) / 2 ^ (k % 16)) % 2=0):A<2 ^ k:=by
 have e1:(dg 65536 A (k / 16)).testBit (k % 16)=A.testBit k:=by
  unfold dg
  rw[show (65536:Nat) ^ (k / 16)=2 ^ (16*(k / 16)) by rw[Am],show (65536:Nat)=2 ^ 16 by decide,Nat.testBit_mod_two_pow,Nat.testBit_div_two_pow,iP (ey _ (by decide)),CO]
  congr 1;omega
 rw[Qe,Qe] at e1
 have h2:A / 2 ^ k % 2=0:=by
  rcases Nat.mod_two_eq_zero_or_one (A / 2 ^ k) with h3|h3
  ·exact h3
  ·rw[h3] at e1
   have:=xz (e1.trans (iP rfl))
   omega
 have h3:A / 2 ^ k<2:=by rw[pz (dP (by decide))];rw[fe] at h;omega
 have h4:A / 2 ^ k=0:=by
  generalize A / 2 ^ k=q at h2 h3
  omega
 rcases Nat.div_eq_zero_iff.1 h4 with h5|h5
 ·have:=dP (n:=k) (show 0<2 by decide);omega
 ·exact h5
theorem R_bit {A k:Nat}(hk:k≤100000):ql (dl A) (k:Int)=some (((dg 65536 A (k / 16) / 2 ^ (k % 16)) % 2:Nat):Int):=by
 unfold ql
 have e1:i64.wrap (Int.tdiv (k:Int) (16:Int))=((k / 16:Nat):Int):=by
  rw[Int.tdiv_eq_ediv_of_nonneg (by omega),w64];omega
 have e2:Int.tmod (k:Int) (16:Int)=((k % 16:Nat):Int):=by
  rw[Int.tmod_eq_emod_of_nonneg (by omega)];rfl
 rw[e1,e2,show dl A=dk (sz6 A) A from rfl,uj (fG A),ab,aI,zR _ _ _ (by have:k % 16<16:=ey _ (by decide);show k % 16≤64;omega)]
 generalize dg 65536 A (k / 16) / 2 ^ (k % 16)=q
 have e3:Int.tmod (q:Int) 2=((q % 2:Nat):Int):=by rw[Int.tmod_eq_emod_of_nonneg (by omega)];rfl
 rw[e3]
theorem R_Bits {z:Int}(hz:z.natAbs<LIM):∃n:Nat,e8 (enc z)=some (n:Int)∧z.natAbs<2 ^ n:=by
 have hsz:sz6 z.natAbs≤32:=qy (cm hz (by decide))
 have cg:=fG z.natAbs
 have hlen:=J3 z.natAbs
 obtain⟨x,hl,hx⟩:=wS (b:=mX (dl z.natAbs)) (fun s:Int=>0≤s∧s≤512∧z.natAbs<2 ^ s.toNat) (fun s=>s.toNat) (fun x=>0≤x∧x≤512∧z.natAbs<2 ^ x.toNat) (fun s ⟨h1,h2,h3⟩=>by
  unfold mX
  by_cases h0:0<s
  ·obtain⟨k,rfl⟩:∃k:Nat,s=(k:Int)+1:=⟨(s - 1).toNat,by omega⟩
   rw[bF _ _ h0,w64 (n:=(k:Int)+1 - 1),show (k:Int)+1 - 1=(k:Int) by omega,R_bit (by omega),ab]
   have e:((k:Int)+1).toNat=k+1:=by omega
   rw[e] at h3
   by_cases hb:(dg 65536 z.natAbs (k / 16) / 2 ^ (k % 16)) % 2=0
   ·refine .inl ⟨(k:Int),?_,⟨by omega,by omega,?_⟩,by omega⟩
    ·rw[det_];rfl
    ·rw[show ((k:Int)).toNat=k by omega];exact PW h3 hb
   ·refine .inr ⟨(k:Int)+1,?_,by omega,by omega,by rw[e];exact h3⟩
    rw[def_];rfl
  ·obtain rfl:s=0:=by omega
   exact .inr ⟨0,by rw[bA _ _ h0];rfl,by omega,by omega,h3⟩) (16*(sz6 z.natAbs:Int)) ⟨by omega,by omega,by
   rw[show (16*(sz6 z.natAbs:Int)).toNat=16*sz6 z.natAbs by omega,Am];exact cg⟩
 refine⟨x.toNat,?_,hx.2.2⟩
 unfold e8
 rw[fC,bD hz,ab,iw hz]
 rw[show (!true)=false from rfl,kF]
 simp only[ab]
 rw[hlen,w64,hl,ab]
 congr 1;omega
theorem IS {x:ay}(h:okI x):∃n:Int,e8 x=some n:=by
 cases hg:cV x with
 |true=>
  obtain⟨z,hz,rfl⟩:=rA h hg
  obtain⟨n,hn,_⟩:=R_Bits hz
  exact⟨n,hn⟩
 |false=>
  refine⟨0,?_⟩
  unfold e8
  rw[fC,hg];rfl
theorem LL {l:List Nu}(hl:l.length≤1000000):∃b,lW (l.map nv)=some b:=by
 obtain⟨fN,hN⟩:∃fN:Nat→Int,fN=fun i=>(e8 (nv l[i]!).vN).getD 0:=⟨_,rfl⟩
 obtain⟨fD,hD⟩:∃fD:Nat→Int,fD=fun i=>(e8 (nv l[i]!).vD).getD 0:=⟨_,rfl⟩
 unfold lW
 rw[Jq (b:=j3 (l.map nv)) (n:=l.length) hl (fun i=>!(decide (60<fN i)||decide (60<fD i))) (fun i hi=>by
  unfold j3
  rw[bH,bF _ _,aI,aI,bh,uw hi]
  obtain⟨n1,h1⟩:=IS (l[i]!).2.1
  obtain⟨n2,h2⟩:=IS (l[i]!).2.2
  have h1:e8 (nv l[i]!).vN=some n1:=h1
  have h2:e8 (nv l[i]!).vD=some n2:=h2
  have e1:fN i=n1:=by rw[hN];dsimp only;rw[h1];rfl
  have e2:fD i=n2:=by rw[hD];dsimp only;rw[h2];rfl
  rw[h1,h2,e1,e2]
  simp only[ab,kOr,Bool.not_not]) (by
  unfold j3
  rw[bH,bA _ _])]
 cases (List.range l.length).all fun i=>!(decide (60<fN i)||decide (60<fD i))
 ·exact⟨false,rfl⟩
 ·exact⟨true,rfl⟩
theorem LM {R C:Int}{V:List Nu}:∃b,lX (mS R C V)=some b∧(b=true→V.length≤60∧(aX R C V=0→R≤6∧C≤7)):=by
 unfold lX
 dsimp only
 rw[bH]
 by_cases h:(60:Int)<V.length
 ·rw[bF _ _ h];exact⟨false,rfl,fun h=>by cases h⟩
 ·rw[bA _ _ h,qd (by omega)]
  simp only[ab]
  by_cases hv:aX R C V=0
  ·rw[show (!decide (aX R C V=0))=false by simp[hv],kF]
   by_cases h1:R≤6
   ·by_cases h2:C≤7
    ·rw[bF _ _ h1,bF _ _ h2]
     obtain⟨b,hb⟩:=LL (l:=V) (by omega)
     rw[hb]
     exact⟨b,rfl,fun _=>⟨by omega,fun _=>⟨h1,h2⟩⟩⟩
    ·rw[bF _ _ h1,bA _ _ h2];exact⟨false,rfl,fun h=>by cases h⟩
   ·rw[bA _ _ h1];exact⟨false,rfl,fun h=>by cases h⟩
  ·rw[show (!decide (aX R C V=0))=true by simp[hv],kT]
   exact⟨true,rfl,fun _=>⟨by omega,fun h=>absurd h hv⟩⟩
theorem all_eqL {α:Type}[DecidableEq α][Inhabited α]{a b:List α}(h:a.length=b.length):(List.range a.length).all (fun i=>decide (a[i]! =b[i]!))=decide (a=b):=by
 rw[EU,eS,oX]
 constructor
 ·intro hh
  refine Gg h fun i h1 h2=>?_
  have:=xz (hh i (AO.2 h1))
  rwa[iR a i h1,iR b i h2] at this
 ·rintro rfl i _
  exact iP rfl
theorem Dk {a b:List aj}(ha:a.length≤1000000):d9 a b=some (decide (a=b)):=by
 unfold d9
 by_cases h:a.length=b.length
 ·rw[bA _ _,Jq (b:=gx a b) (n:=a.length) ha (fun i=>decide (a[i]! =b[i]!)) (fun i hi=>by
   unfold gx
   rw[bF _ _,aI,aI,bh]
   rw[show decide (¬a[i]! =b[i]!)= !decide (a[i]! =b[i]!) from dne _ _]) (by
   unfold gx
   rw[bA _ _])]
  rw[all_eqL h]
  cases decide (a=b) <;> rfl
 ·rw[bF _ _,gX (fun e=>h (by rw[e]))]
theorem Qt {a b:ap}(ha:a.vV.length≤1000000):e7 a b=some (decide (a=b)):=by
 unfold e7
 rw[Dk ha]
 obtain⟨R,C,V⟩:=a
 obtain⟨R',C',V'⟩:=b
 dsimp only
 by_cases h1:R=R'
 ·by_cases h2:C=C'
  ·rw[bF _ _ h1,bF _ _ h2]
   simp only[ab]
   rw[h1,h2]
   by_cases h3:V=V'
   ·rw[h3];simp
   ·rw[gX h3,gX (fun e=>h3 (by injection e))]
  ·rw[bF _ _ h1,bA _ _ h2,gX (fun e=>h2 (by injection e))];rfl
 ·rw[bA _ _ h1,gX (fun e=>h1 (by injection e))];rfl
theorem GN {r c:Int}{l:List Int}(hl:l.length≤1000)(h:∀i,i<l.length→-1000≤l[i]!∧l[i]!≤1000):gm r c l=some (mS r c (l.map nOf)):=by
 unfold gm
 have key:=eK (b:=nD l) (fun i:Nat=>((i:Int),((l.take i).map nOf).map nv)) 0 l.length ((l.map nOf).map nv) (fH _) (fun i _ hi=>?_) ?_
 ·have e:((((0:Nat):Int),((l.take 0).map nOf).map nv))=((0:Int),([]:List aj)):=by simp
  rw[e] at key
  rw[key];rfl
 ·unfold nD
  dsimp only
  have M3:l.take (i+1)=l.take i++[l[i]!]:=by rw[List.take_add_one,fI hi,iR l i hi];rfl
  obtain⟨h1,h2⟩:=h i hi
  rw[bF _ _,aI,bh,uOf,ab,aI (by simp;omega),w64,M3]
  simp only[nd,bN,cl]
  rfl
 ·unfold nD
  dsimp only
  rw[bA _ _,kO (bI _)]
theorem Dq {l:List Int}(hl:l.length≤1000)(h:∀i,i<l.length→-1000≤l[i]!∧l[i]!≤1000):ic l=some ((l.map nOf).map nv):=by
 unfold ic
 rw[GN hl h];rfl
def fr(a b:Int):Nu:=nuR (some (Rat.divInt a b))
theorem s1T:Bn 2 2 ([1,2,3,4].map nOf)=(mS 2 2 ([1,0,0,1].map nOf),[0,1],0):=by decide +kernel
theorem s2T:detP 2 2 ([1,2,3,4].map nOf)=(nv (nOf (-2)),0):=by decide +kernel
theorem s3T:Bn 2 3 ([0,2,4,0,1,2].map nOf)=(mS 2 3 ([0,1,2,0,0,0].map nOf),[1],0):=by decide +kernel
theorem s4T:Hv 2 2 ([1,2,3,4].map nOf) ([5,6].map nOf)=([nv (nOf (-4)),nv (fr 9 2)],0):=by decide +kernel
theorem s5T:Hv 1 2 ([1,1].map nOf) ([2].map nOf)=([],70):=by decide +kernel
theorem s6T:Hv 2 1 ([1,1].map nOf) ([1,2].map nOf)=([],200):=by decide +kernel
theorem s7T:K4 1 3 ([1,2,3].map nOf)=([[-2,1,0].map nOf,[-3,0,1].map nOf],0):=by decide +kernel
theorem s8T:K1 2 2 ([2,1,1,2].map nOf)=(true,0):=by decide +kernel
theorem s9T:K1 2 2 ([1,2,2,1].map nOf)=(false,0):=by decide +kernel
theorem sFrac:oN 9 2=some (nv (fr 9 2)):=by
 unfold oN
 rw[GR (by decide) (by decide),ab,GR (by decide) (by decide),ab,As (by decide) (by decide) (by decide),ab]
 rfl
theorem KY {a b:ap}(ha:a.vV.length≤1000000)(h:a=b):e7 a b=some true:=by rw[Qt ha,iP h]
theorem sList {a:List aj}(ha:a.length≤1000000):d9 a a=some true:=by rw[Dk ha,iP rfl]
theorem yY:kq=some true:=by
 have o1:=GN (r:=2) (c:=2) (l:=[1,2,3,4]) (by decide) (by decide)
 have o2:=GN (r:=2) (c:=3) (l:=[0,2,4,0,1,2]) (by decide) (by decide)
 have o3:=Dq (l:=[5,6]) (by decide) (by decide)
 have o4:=GN (r:=1) (c:=2) (l:=[1,1]) (by decide) (by decide)
 have o5:=Dq (l:=[2]) (by decide) (by decide)
 have o6:=GN (r:=2) (c:=1) (l:=[1,1]) (by decide) (by decide)
 have o7:=Dq (l:=[1,2]) (by decide) (by decide)
 have o8:=GN (r:=1) (c:=3) (l:=[1,2,3]) (by decide) (by decide)
 have o9:=GN (r:=2) (c:=2) (l:=[2,1,1,2]) (by decide) (by decide)
 have o10:=GN (r:=2) (c:=2) (l:=[1,2,2,1]) (by decide) (by decide)
 have o11:=GN (r:=2) (c:=3) (l:=[0,1,2,0,0,0]) (by decide) (by decide)
 have o12:=Dq (l:=[-2,1,0]) (by decide) (by decide)
 have o13:=Dq (l:=[-3,0,1]) (by decide) (by decide)
 have r1:=(IJ (R:=2) (C:=2) (V:=[1,2,3,4].map nOf) (by decide)).trans (congrArg some s1T)
 have r2:=(P_Det (R:=2) (C:=2) (V:=[1,2,3,4].map nOf) (by decide)).trans (congrArg some s2T)
 have r3:=(IJ (R:=2) (C:=3) (V:=[0,2,4,0,1,2].map nOf) (by decide)).trans (congrArg some s3T)
 have r4:=(GM (R:=2) (C:=2) (A:=[1,2,3,4].map nOf) (b:=[5,6].map nOf) (by decide) (by decide)).trans (congrArg some s4T)
 have r5:=(GM (R:=1) (C:=2) (A:=[1,1].map nOf) (b:=[2].map nOf) (by decide) (by decide)).trans (congrArg some s5T)
 have r6:=(GM (R:=2) (C:=1) (A:=[1,1].map nOf) (b:=[1,2].map nOf) (by decide) (by decide)).trans (congrArg some s6T)
 have r7:lZ (mS 1 3 ([1,2,3].map nOf))=some ([([-2,1,0].map nOf).map nv,([-3,0,1].map nOf).map nv],0):=(P_Null (R:=1) (C:=3) (V:=[1,2,3].map nOf) (by decide)).trans (by rw[s7T];rfl)
 have r8:=(Dn (R:=2) (C:=2) (V:=[2,1,1,2].map nOf) (by decide)).trans (congrArg some s8T)
 have r9:=(Dn (R:=2) (C:=2) (V:=[1,2,2,1].map nOf) (by decide)).trans (congrArg some s9T)
 have u1:=uOf (n:=-2) (by decide) (by decide)
 have u2:=uOf (n:=-4) (by decide) (by decide)
 have e1:e7 (mS 2 2 ([1,0,0,1].map nOf)) (idP 2)=some true:=KY (by decide) rfl
 have e2:e7 (mS 2 3 ([0,1,2,0,0,0].map nOf)) (mS 2 3 ([0,1,2,0,0,0].map nOf))=some true:=KY (by decide) rfl
 have e3:d9 (([-2,1,0].map nOf).map nv) (([-2,1,0].map nOf).map nv)=some true:=sList (by decide)
 have e4:d9 (([-3,0,1].map nOf).map nv) (([-3,0,1].map nOf).map nv)=some true:=sList (by decide)
 unfold kq
 rw[o1,ab,r1,ab,r2,ab,o2,ab,r3,ab,o3,ab,r4,ab,o4,ab,o5,ab,r5,ab,o6,ab,o7,ab,r6,ab,o8,ab,r7,ab,o9,ab,r8,ab,o10,ab,r9,ab]
 refine (congrArg (fun o=>bnd o _) (show _=some false from rfl)).trans ?_
 rw[ab,kF,xK,ab,o11,u1,u2,sFrac,o12,o13]
 refine (congrArg (fun o=>bnd o _) (show _=some true from ?_)).trans ?_
 ·refine (congrArg (fun o=>bnd o _) e1).trans ?_
  rw[ab,kT,aI (by decide)]
  refine (bF _ _ (by rfl)).trans ?_
  rw[aI (by decide)]
  refine (bF _ _ (by rfl)).trans ?_
  rw[ab]
  refine (bF _ _ (by rfl)).trans ?_
  rw[ab]
  refine (congrArg (fun o=>bnd o _) e2).trans ?_
  rfl
 ·rw[ab]
  refine (congrArg (fun o=>bnd o _) (show _=some true from ?_)).trans ?_
  ·rw[kT,aI (by decide),ab]
   refine (bF _ _ (by rfl)).trans ?_
   rw[aI (by decide),ab]
   refine (bF _ _ (by rfl)).trans ?_
   rw[aI (by decide),ab]
   refine (congrArg (fun o=>bnd o _) e3).trans ?_
   rw[ab,kT,aI (by decide),ab]
   refine (congrArg (fun o=>bnd o _) e4).trans ?_
   rfl
  ·rfl
theorem dotF_rv {C K:Nat}{A B:List Nu}{i k:Nat}:∀n,cM (In C K A B i k n)=true→rv (In C K A B i k n)=sumN (n+1) fun j=>rv A[i*C+j]! *rv B[j*K+k]!
 |0,h=>by
  unfold In at h ⊢
  obtain⟨h1,h2⟩:=good_mul h
  rw[nMul_rv h1 h2 h]
  show _=0+rv A[i*C+0]! *rv B[0*K+k]!
  rw[mi,gb,dA];grind
 |n+1,h=>by
  unfold In at h
  obtain⟨h1,h2⟩:=good_add h
  obtain⟨h3,h4⟩:=good_mul h2
  show rv (Jn _ _)=sumN (n+1) _+_
  rw[nAdd_rv h1 h2 h,dotF_rv n h1,nMul_rv h3 h4 h2]
theorem mulF_rv {C K:Nat}{A B:List Nu}{i k:Nat}(h:cM (BX C K A B i k)=true):rv (BX C K A B i k)=sumN C fun j=>rv A[i*C+j]! *rv B[j*K+k]! :=by
 unfold BX at h ⊢
 by_cases h0:C=0
 ·rw[aQ h0,h0,of0.2];rfl
 ·rw[aV h0] at h ⊢
  have:=dotF_rv _ h
  rw[this,show C - 1+1=C by omega]
theorem mulP_ok {R C R' C':Int}{A B:List Nu}(h:(Mi R C A R' C' B).2=0):∃r c k:Nat,R=r∧C=c∧R'=c∧C'=k∧MV r c A∧MV c k B∧(mkM r k (BX c k A B)).all cM=true∧Mi R C A R' C' B=(mS r k (mkM r k (BX c k A B)),0):=by
 unfold Mi at h ⊢
 by_cases h0:aX R C A=0∧aX R' C' B=0∧C=R'
 ·rw[aQ h0] at h ⊢
  obtain⟨h1,h2,rfl⟩:=h0
  obtain⟨r,c,rfl,rfl,hm⟩:=cX.1 h1
  obtain⟨r',c',hr,rfl,tU⟩:=cX.1 h2
  obtain rfl:c=r':=by omega
  rw[bh,bh,bh] at h ⊢
  refine⟨r,c,c',rfl,rfl,rfl,rfl,hm,tU,?_⟩
  unfold iQ at h ⊢
  cases hg:(mkM r c' (BX c c' A B)).all cM with
  |true=>exact⟨rfl,rfl⟩
  |false=>
   rw[hg] at h
   exact absurd h (by show ¬(30:Int)=0;decide)
 ·rw[aV h0] at h
  exact absurd h (by decide)
def colB(x:List Nu):Int×Int×List Nu:=if aX x.length 1 x=0 then ((x.length:Int),1,x) else (0,0,[])
theorem colP_eq(x:List Nu):PO x=mS (colB x).1 (colB x).2.1 (colB x).2.2:=by
 unfold PO B0 colB
 split <;> rfl
def mcP(R C:Int)(A x:List Nu):ap×Int:=Mi R C A (colB x).1 (colB x).2.1 (colB x).2.2
theorem P_MulCol {R C:Int}{A x:List Nu}(hA:A.length≤1000000)(hx:x.length≤1000000):oO (mS R C A) (PO x)=some (mcP R C A x):=by
 rw[colP_eq]
 refine P_Mul hA ?_
 unfold colB
 split
 ·exact hx
 ·exact fH _
theorem mcP_ok {R C:Int}{A x:List Nu}(h:(mcP R C A x).2=0)(hC:C≠0):∃r c:Nat,R=r∧C=c∧MV r c A∧x.length=c∧x.all cM=true∧(mkM r 1 (BX c 1 A x)).all cM=true∧mcP R C A x=(mS r ((1:Nat):Int) (mkM r 1 (BX c 1 A x)),0):=by
 unfold mcP colB at h ⊢
 by_cases h0:aX x.length 1 x=0
 ·rw[aQ h0] at h ⊢
  obtain⟨r,c,k,h1,h2,h3,h4,h5,h6,h7,h8⟩:=mulP_ok h
  obtain rfl:k=1:=by
   have:(1:Int)=(k:Int):=h4
   omega
  have h3:(x.length:Int)=(c:Int):=h3
  exact⟨r,c,h1,h2,h5,by omega,h6.good,h7,h8⟩
 ·rw[aV h0] at h
  obtain⟨r,c,k,h1,h2,h3,h4,h5,h6,h7,h8⟩:=mulP_ok h
  have h3:(0:Int)=(c:Int):=h3
  exact absurd (by omega) hC
def extV(c:Nat)(y:Nat→Rat)(t:Nat):Rat:=if t<c then y t else -1
theorem sum_ext {c:Nat}(f y:Nat→Rat):sumN (c+1) (fun k=>f k*extV c y k)=sumN c (fun k=>f k*y k) - f c:=by
 show sumN c _+f c*extV c y c=_
 rw[sumN_congr (g:=fun k=>f k*y k) fun t ht=>by unfold extV;rw[aQ ht]]
 unfold extV
 rw[ifn_]
 grind
theorem sol_bes {r c:Nat}{A b:List Nu}(hb:b.length=r)(y:Nat→Rat):SolM (toR (c+1) (mkM r (c+1) (uL c 1 A b))) r (c+1) (extV c y)↔∀i,i<r→sumN c (fun j=>rv A[i*c+j]! *y j)=rv b[i]! :=by
 have e:∀i,i<r→sumN (c+1) (fun k=>toR (c+1) (mkM r (c+1) (uL c 1 A b)) i k*extV c y k)=sumN c (fun j=>rv A[i*c+j]! *y j) - rv b[i]! :=fun i hi=>by
  rw[sum_ext]
  congr 1
  ·refine sumN_congr fun t ht=>?_
   unfold toR
   rw[tO hi (by omega)]
   unfold uL
   rw[aQ ht]
  ·unfold toR
   rw[tO hi (by omega)]
   unfold uL
   rw[ifn_,Nat.sub_self,uc,mi]
 constructor
 ·intro h i hi
  have:=h i hi
  rw[e i hi] at this
  grind
 ·intro h i hi
  rw[e i hi,h i hi]
  grind
theorem col_get {acc:List Pv}{j:Nat}(hj:j<acc.length):(acc.map (·.col))[j]! =J5 acc j:=by
 unfold J5
 rw[iR (acc.map (·.col)) j (by rw[bH];exact hj),iR acc j hj,List.getElem_map]
theorem sol_red {r c:Nat}{U:List Nu}{acc:List Pv}(h:IsR (toR (c+1) U) r (c+1) (acc.map (·.col)))(hl:acc.length=c)(hj:∀j,j<c→J5 acc j=j)(y:Nat→Rat):SolM (toR (c+1) U) r (c+1) (extV c y)↔∀i,i<c→y i=rv U[i*(c+1)+c]! :=by
 have hlen:(acc.map (·.col)).length=c:=by rw[bH,hl]
 have hle:=h.le
 rw[hlen] at hle
 have hp:∀i j,i<r→j<c→toR (c+1) U i j=if i=j then 1 else 0:=fun i j hi hjc=>by
  have:=h.piv i j hi (by omega)
  rw[col_get (by omega),hj j hjc] at this
  exact this
 have e1:∀i,i<c→sumN (c+1) (fun k=>toR (c+1) U i k*extV c y k)=y i - rv U[i*(c+1)+c]! :=fun i hi=>by
  rw[sum_ext,sumN_congr (g:=fun j=>(if i=j then 1 else 0)*y j) fun t ht=>by rw[hp i t (by omega) ht],sum_delta y hi]
  rfl
 have e2:∀i,c≤i→i<r→sumN (c+1) (fun k=>toR (c+1) U i k*extV c y k)=0:=fun i hi hi2=>by
  rw[sumN_congr (g:=fun _=>0) fun t ht=>by rw[h.z2 i t (by omega) hi2 ht];grind]
  exact sumN_zero _
 constructor
 ·intro hs i hi
  have:=hs i (by omega)
  rw[e1 i hi] at this
  grind
 ·intro hs i hi
  rcases cc i c with h2|h2
  ·rw[e1 i h2,hs i h2];grind
  ·exact e2 i h2 hi
theorem col_gap {acc:List Pv}(hs:(acc.map Pv.col).Pairwise (·<·))(i:Nat):∀d,i+d<acc.length→J5 acc i+d≤J5 acc (i+d)
 |0,_=>bI _
 |d+1,h=>by
  have h1:=col_gap hs i d (by omega)
  have h2:=colN_lt hs (show i+d<i+(d+1) by omega) h
  omega
theorem cols_full {acc:List Pv}{c:Nat}(hs:(acc.map Pv.col).Pairwise (·<·))(hb:∀p∈acc,p.col<c+1)(hn:¬((lM acc).any fun x=>decide ((c:Int)=x))=true)(hl:¬acc.length<c):acc.length=c∧∀j,j<c→J5 acc j=j:=by
 have cg:∀i,i<acc.length→J5 acc i<c:=fun i hi=>by
  have h1:=colN_bd hb hi
  have h2:J5 acc i≠c:=fun e=>hn (any_col.2 ⟨i,hi,e⟩)
  omega
 have h1:acc.length=c:=by
  rcases kN acc.length with h|h
  ·omega
  ·have h2:=col_gap hs 0 (acc.length - 1) (by omega)
   rw[dA] at h2
   have h3:=cg (acc.length - 1) (by omega)
   omega
 refine⟨h1,fun j hj=>?_⟩
 have h2:=col_gap hs 0 j (by omega)
 have h3:=col_gap hs j (c - 1 - j) (by omega)
 have h4:=cg (j+(c - 1 - j)) (by omega)
 rw[dA] at h2
 omega
theorem besMV {r c:Nat}{A b:List Nu}(hm:MV r c A)(hb:b.length=r)(hg:b.all cM=true):(mkM r (c+1) (uL c 1 A b)).all cM=true:=Fu.2 fun i k hi hk=>by
 have Mt:=bes1 hm hb hg
 unfold uL
 split
 ·rename_i h;exact hm.gd (cK hi h)
 ·exact Mt.gd (cK hi (by omega))
theorem solvP_ok {R C:Int}{A b:List Nu}(h:(Hv R C A b).2=0):∃(r c:Nat) (y:List Nu),R=r∧C=c∧MV r c A∧b.length=r∧b.all cM=true∧(Hv R C A b).1=y.map nv∧y.length=c∧∀i,i<r→sumN c (fun j=>rv A[i*c+j]! *rv y[j]!)=rv b[i]! :=by
 unfold Hv at h ⊢
 by_cases h0:aX R C A=0∧(b.length:Int)=R∧b.all cM=true
 ·rw[aQ h0] at h ⊢
  obtain⟨h1,h2,h5⟩:=h0
  obtain⟨r,c,rfl,rfl,hm⟩:=cX.1 h1
  rw[bh,bh] at h ⊢
  by_cases hc:(200:Int)<(c:Int)+1
  ·rw[aQ hc] at h;exact absurd h (by decide)
  ·rw[aV hc] at h ⊢
   cases qQ:sE r (c+1) (mkM r (c+1) (uL c 1 A b)) with
   |none=>rw[qQ] at h;exact absurd h (by show ¬(30:Int)=0;decide)
   |some p=>
    obtain⟨U,acc⟩:=p
    rw[qQ] at h
    unfold solvR at h ⊢
    dsimp only at h ⊢
    by_cases ha:((lM acc).any fun x=>decide ((c:Int)=x))=true
    ·rw[aQ ha] at h;exact absurd h (by show ¬(200:Int)=0;decide)
    ·rw[aV ha] at h ⊢
     by_cases hl:acc.length<c
     ·rw[aQ hl] at h;exact absurd h (by show ¬(70:Int)=0;decide)
     ·rw[aV hl]
      obtain⟨hs,hbd⟩:=red0_sort qQ
      obtain⟨q1,q2⟩:=cols_full hs hbd ha hl
      have hok:=redP_start br (besMV hm (by omega) h5) qQ
      refine⟨r,c,(List.range acc.length).map fun i=>U[i*(c+1)+c]!,rfl,rfl,hm,by omega,h5,rfl,by rw[bH,Gv,q1],?_⟩
      refine (sol_bes (by omega) fun j=>rv ((List.range acc.length).map fun i=>U[i*(c+1)+c]!)[j]!).1 ((hok.sol _).1 ((sol_red hok.red q1 q2 _).2 fun i hi=>?_))
      rw[iR _ i (by rw[bH,Gv];omega),List.getElem_map,List.getElem_range]
 ·rw[aV h0] at h;exact absurd h (by decide)
theorem solvP_back {r c:Nat}{A b x:List Nu}(hm:MV r c A)(hc:c≤100)(hb:b.length=r)(hg:b.all cM=true)(hx:x.length=c)(hgx:x.all cM=true)(hs:∀i,i<r→sumN c (fun j=>rv A[i*c+j]! *rv x[j]!)=rv b[i]!):(Hv r c A b).2=70∨(Hv r c A b).2=30∨((Hv r c A b).2=0∧(Hv r c A b).1=x.map nv):=by
 unfold Hv
 rw[aQ ⟨hm.chk,by omega,hg⟩,ifn_,bh,bh]
 cases qQ:sE r (c+1) (mkM r (c+1) (uL c 1 A b)) with
 |none=>exact .inr (.inl rfl)
 |some p=>
  obtain⟨U,acc⟩:=p
  unfold solvR
  dsimp only
  obtain⟨hso,hbd⟩:=red0_sort qQ
  have hok:=redP_start br (besMV hm hb hg) qQ
  have hsol:=(hok.sol _).2 ((sol_bes hb fun j=>rv x[j]!).2 hs)
  by_cases ha:((lM acc).any fun x=>decide ((c:Int)=x))=true
  ·exfalso
   obtain⟨j,hj,he⟩:=any_col.1 ha
   have h0:=piv_last hok.red (j:=j) (by rw[bH];exact hj) hsol fun t h1 h2=>by
    rw[col_get hj,he] at h1;omega
   rw[col_get hj,he] at h0
   unfold extV at h0
   rw[ifn_] at h0
   exact absurd h0 (by decide)
  ·rw[aV ha]
   by_cases hl:acc.length<c
   ·rw[aQ hl];exact .inl rfl
   ·rw[aV hl]
    obtain⟨q1,q2⟩:=cols_full hso hbd ha hl
    refine .inr (.inr ⟨rfl,?_⟩)
    have hy:=(sol_red hok.red q1 q2 _).1 hsol
    rw[nvl_eq]
    refine Gg (by rw[bH,Gv,q1,hx]) fun i h1 h2=>?_
    rw[List.getElem_map,List.getElem_range]
    have hi:i<c:=by omega
    have hle:=hok.red.le
    rw[bH,q1] at hle
    have e:=hy i hi
    rw[←iR x i h2]
    exact good_ext (good_at hok.good (by rw[hok.len];exact cK (by omega) (by omega))) (good_at hgx (by omega)) e.symm
section
open Go.ChangeShapes Go.WideShapes Go.ChangeAt Go.RowKit Go.Deep
section
variable {H:Type} {enc:TypeId×Value→H} {P:Program}
theorem DU {f:Func}{s:ChangeSpec}{apart fresh handsOn again:Bool}{W W':World}{args:Array Value}{v:Value}{ds gs:List (DataW H)}{before pa pv:List MemPlace}
  (hW:DataW.Whole enc P f.params.toList s.vars apart W args.toList ds gs before)
  (mQ:∀(b:Nat) (sp:Nat→Bool) (hd:Bool),DataW.TrodAll enc P W' b sp hd f.resultTypes.toList (v.resultList f.resultTypes.size) (s.fn H (ds++gs)).results [])
  (se:∀sp:Nat→Bool,(∀p∈before,sp p.block=true)→DataW.TrodAll enc P W' 0 sp true f.params.toList args.toList (s.fn H (ds++gs)).args pa)
  (Lc:∀sp:Nat→Bool,(∀p∈before,sp p.block=true)→DataW.TrodVars enc P W' sp s.vars (s.fn H (ds++gs)).vars pv)
  (OH:before=pa++pv) (hb:Below W.heap.size W W')
  (hok:∀(j:Nat) (t:TypeId) (r:Value),f.resultTypes[j]? =some t→(v.resultList f.resultTypes.size)[j]? =some r→Value.okWide P W' .any 0 t r):
  s.post enc P f apart fresh handsOn again W args v W':=by
 have cg:∀p∈before,p.block<W.heap.size:=fun p hp=>hW.lt p hp
 have hold:∀p∈before,(fun b=>decide (b<W.heap.size)) p.block=true:=fun p hp=>by simpa using cg p hp
 refine⟨ds,gs,before,[],pa,pv,hW,mQ _ _ _,se _ hold,Lc _ hold,World.keptBut_mono (fun p hp=>⟨hp,?_⟩) (hb.frame (·∈before)),fun _=>?_⟩
 ·rw[OH,sJ] at hp
  exact Or.inr hp
 ·obtain⟨_,_,_,_,_,hz,hn⟩:=hW
  refine⟨hok,_,_,([]++pa)++pv,⟨[]++pa,pv,trodAll_append (se _ (fun _ _=>rfl)) (mQ _ _ _),Lc _ (fun _ _=>rfl),rfl,?_,?_⟩,?_⟩
  ·intro b off hp
   have JL:MemPlace.cell b off∈before:=by rw[OH];simpa using hp
   rw[hb.frozen (cg _ JL)]
   exact hz b off JL
  ·intro ha
   have:=hn ha
   rw[OH] at this
   simpa using this
  ·intro p hp _
   rw[OH]
   simpa using hp
theorem DS(hl:laidOutB P=true){W W':World}(hb:Below W.heap.size W W'){sp:Nat→Bool}:∀(ts:List TypeId) (vs:List Value) (ds:List (DataW H)) (p:List MemPlace),
  (ts.all fun t=>P.readableRec t&&decide (t<P.types.size))=true→DataW.TrodAll enc P W 0 (fun _=>true) true ts vs ds p→(∀x∈p,x.block<W.heap.size)→(∀x∈p,sp x.block=true)→
  DataW.TrodAll enc P W' 0 sp true ts vs ds p:=by
 intro ts
 induction ts with
 |nil=>
  intro vs ds p _ h _ _
  cases vs with
  |nil=>cases ds with
   |nil=>exact h
   |cons d ds=>exact h.elim
  |cons v vs=>exact h.elim
 |cons t ts ih=>
  intro vs ds p hr h cg hs
  cases vs with
  |nil=>exact h.elim
  |cons v vs=>
   cases ds with
   |nil=>exact h.elim
   |cons d ds=>
    obtain⟨p1,q,h1,h2,rfl⟩:=h
    simp only[cF,cr,oX] at hr
    refine⟨p1,q,WideElems.Trod_stays hl hr.1.1 hr.1.2 h1 (fun x hx=>hb.same (cg x (by simp[hx]))) (fun x hx=>hs x (by simp[hx])),ih vs ds q hr.2 h2 (fun x hx=>cg x (by simp[hx])) (fun x hx=>hs x (by simp[hx])),rfl⟩
theorem On {f:Func}{s:ChangeSpec}{W W':World}{args:Array Value}{ds gs:List (DataW H)}{before:List MemPlace}{tb:TypeId}
  (hl:laidOutB P=true) (hv:s.vars=[]) (A6:(f.params.toList.all fun t=>P.readableRec t&&decide (t<P.types.size))=true)
  (mQ:f.resultTypes=#[tb]) (htb:P.underlying tb=some .bool)
  (hW:DataW.Whole enc P f.params.toList s.vars false W args.toList ds gs before)
  (O5:s.fn H (ds++gs)={results:=[.lit (.bool true)],args:=ds}) (hb:Below W.heap.size W W'):
  s.post enc P f false true false false W args (.bool true) W':=by
 have hW':=hW
 obtain⟨p,q,hA,hV,hpq,_,_⟩:=hW
 rw[hv] at hV
 have hq:q=[]:=by
  cases gs with
  |nil=>exact hV
  |cons g gs=>exact hV.elim
 subst hq
 rw[vo] at hpq
 subst hpq
 refine DU (pa:=before) (pv:=[]) hW' (fun b sp hd=>?_) (fun sp hsp=>?_) (fun sp _=>?_) (by simp) hb ?_
 ·rw[mQ,O5]
  exact trodAll_cons_mk (shut_bool htb _) trodAll_mk0
 ·rw[O5]
  exact DS hl hb _ _ _ _ A6 hA (fun x hx=>hW'.lt x hx) hsp
 ·rw[hv,O5];rfl
 ·exact ok_one mQ rfl (okWide_bool_mk htb _)
end
theorem HY {P:Program}{W:World}{params:Array TypeId}{args:Array Value}(h:∀(j:Nat) t v,params[j]? =some t→args[j]? =some v→Value.okWide P W .any 0 t v∨∃base,Value.okWide P W .any base t v)(j:Nat){t:TypeId}{v:Value}
  (h1:params[j]? =some t) (h2:args[j]? =some v):∃base,Value.okWide P W .any base t v:=by
 rcases h j t v h1 h2 with h|h
 ·exact⟨0,h⟩
 ·exact h
end
end
end Go.Proofs.YtgfcnncojhkcoaaGreat
