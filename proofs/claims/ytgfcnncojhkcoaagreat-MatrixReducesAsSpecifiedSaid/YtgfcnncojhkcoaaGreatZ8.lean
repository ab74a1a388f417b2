/-
  Lemmas, part 8. Conditions: none.
-/
import Derived.Test.YtgfcnncojhkcoaaGreatZ7
set_option linter.all false
set_option maxRecDepth 100000
set_option maxHeartbeats 4000000
namespace Go.Proofs.YtgfcnncojhkcoaaGreat
open Go.RowKit Go.IntKind Tryz
noncomputable section
structure b8 where
 vM:an
 vP:List Int
 vBy:List ai
 vOdd:Bool
 vE:Int
 vRows:Int
 deriving Inhabited,DecidableEq
def qL:Cd b8:=⟨8,fun x=>aH.f x.vM++[slE (cI .i64) x.vP,slE ae x.vBy,.lit (.bool x.vOdd),.lit (.int .i64 x.vE),.lit (.int .i64 x.vRows)],fun x=>by simp[aH.h,show aH.sz=3 from rfl]⟩
def gm(bq:an)(cR:Int):Int→Option (Int⊕(Int⊕Unit)):=fun aU=>cnd (decide (aU<bq.vR)) (gd (0≤i64.wrap ((i64.wrap (aU*bq.vC))+cR)∧i64.wrap ((i64.wrap (aU*bq.vC))+cR)<((bq.vV).length:Int)) (bnd (gA ((bq.vV)[(i64.wrap ((i64.wrap (aU*bq.vC))+cR)).toNat]!)) fun x4=>cnd (decide (x4≠(0:Int))) (some (.inr (.inl aU))) (some (.inl (i64.wrap (aU+(1:Int))))))) (some (.inr (.inr ())))
def jj(bq:an)(aM:Int)(cR:Int):Option Int:=bnd (aK (gm bq cR) aM) fun y7=>match y7 with| .inl r=>some r| .inr ()=>some (-1:Int)
theorem vB {bq:an}{aM:Int}{cR:Int}{r:Int}(h:jj bq aM cR=some r):ax prog 67 [dG aH bq,dI .i64 aM,dI .i64 cR] (dI .i64 r):=by
 refine bn (rs:=[.tmp 6]) (fun cx hx h0=>?_) func67
 unfold jj at h
 refine rs hx fun K hK=>?_
 refine s1 (d:=.pt 0 0) fC ?_
 refine nbr hK ?_
 refine AW.seq (ra hx ?_)
 refine AW.block ?_
 obtain⟨y,hy,h⟩:=ah h
 refine lp (S:=Int) (X:=Int⊕Unit) (fun aU=>[(2,dI .i64 cR),(3,.pt 0 0),(7,dI .i64 aU)]) (fun aU=>⟨[(0,[dI .i64 bq.vR,dI .i64 bq.vC,dL ae bq.vV])],[],1⟩) (PS (PR [.tmp 6] fun r=>dI .i64 r) (PE cx (.exit 0) (fun ()=>[]) fun ()=>⟨[],[],0⟩)) hy ?_ ?_ ?_
 exact wk0 h0 [0]
 clear hy h
 rintro aU y h
 dsimp only[gm] at h
 refine AW.seq (rar hx ?_)
 refine cdh h rfl (fun eF h=>?_) (fun eF h=>?_)
 refine AW.skip (AW.seq (AW.block (rs hx fun K hK=>?_)))
 iterate 8 refine sbr ?_
 obtain⟨rk,h⟩:=am h
 have xE:(i64.wrap ((i64.wrap (aU*bq.vC))+cR)).toNat<(bq.vV).length:=by omega
 refine sbr ?_
 refine s1 (d:=dG ae ((bq.vV)[(i64.wrap ((i64.wrap (aU*bq.vC))+cR)).toNat]!)) (gk (c:=ae) (l:=bq.vV) (n:=(i64.wrap ((i64.wrap (aU*bq.vC))+cR)).toNat) (o:=0) aC xE (cH _ _ rfl)) ?_
 refine scb h pq fun x4 h=>?_
 refine nbr hK ?_
 refine cdh h rfl (fun lZ h=>?_) (fun lZ h=>?_)
 refine ra hx ?_
 refine AW.ret ?_
 cases h
 refine PS.r ⟨by nofun,PS.l (PR.i ?_)⟩
 exact rv1
 refine AW.skip (rb hx ?_)
 exact pel h h0 [0]
 exact AW.exit (peq h h0 [])
 rcases y with r|⟨⟩
 rintro ex tm' hp' ⟨rfl,hw⟩
 cases h
 exact hw
 refine lwr ?_
 refine ra hx ?_
 exact AW.ret (rtv h)
def oX(bq:an)(aM:Int)(x5:ai):Int×(List ai)→Option ((Int×(List ai))⊕((List ai))):=fun (bo,bm)=>cnd (decide (bo<bq.vC)) (gd (0≤i64.wrap ((i64.wrap (aM*bq.vC))+bo)∧i64.wrap ((i64.wrap (aM*bq.vC))+bo)<((bq.vV).length:Int)) (bnd (lx ((bq.vV)[(i64.wrap ((i64.wrap (aM*bq.vC))+bo)).toNat]!) x5) fun iM=>gd (0≤i64.wrap ((i64.wrap (aM*bq.vC))+bo)∧i64.wrap ((i64.wrap (aM*bq.vC))+bo)<(((bq.vV).length:Nat):Int)∧i64.wrap ((i64.wrap (aM*bq.vC))+bo)<((bm).length:Int)) (bnd (some ((bm).set ((i64.wrap ((i64.wrap (aM*bq.vC))+bo)).toNat) iM)) fun nV=>some (.inl (i64.wrap (bo+(1:Int)),nV))))) (some (.inr bm))
def oV(bq:an)(aM:Int)(aY:Int)(ua:ai):Int×(List ai)→Option ((Int×(List ai))⊕((List ai))):=fun (bV,gj)=>cnd (decide (bV<bq.vC)) (gd (0≤i64.wrap ((i64.wrap (aY*bq.vC))+bV)∧i64.wrap ((i64.wrap (aY*bq.vC))+bV)<((bq.vV).length:Int)) (gd (0≤i64.wrap ((i64.wrap (aM*bq.vC))+bV)∧i64.wrap ((i64.wrap (aM*bq.vC))+bV)<(((bq.vV).length:Nat):Int)∧i64.wrap ((i64.wrap (aM*bq.vC))+bV)<((gj).length:Int)) (bnd (eh ua ((gj)[(i64.wrap ((i64.wrap (aM*bq.vC))+bV)).toNat]!)) fun zf=>bnd (lw ((bq.vV)[(i64.wrap ((i64.wrap (aY*bq.vC))+bV)).toNat]!) zf) fun Ij=>gd (0≤i64.wrap ((i64.wrap (aY*bq.vC))+bV)∧i64.wrap ((i64.wrap (aY*bq.vC))+bV)<(((bq.vV).length:Nat):Int)∧i64.wrap ((i64.wrap (aY*bq.vC))+bV)<((gj).length:Int)) (bnd (some ((gj).set ((i64.wrap ((i64.wrap (aY*bq.vC))+bV)).toNat) Ij)) fun x38=>some (.inl (i64.wrap (bV+(1:Int)),x38)))))) (some (.inr gj))
def oW(bq:an)(aM:Int)(cR:Int):Int×(List ai)→Option ((Int×(List ai))⊕((List ai))):=fun (aY,rB)=>cnd (decide (aY<bq.vR)) (bnd (S:=(List ai)) (gd (0≤i64.wrap ((i64.wrap (aY*bq.vC))+cR)∧i64.wrap ((i64.wrap (aY*bq.vC))+cR)<((bq.vV).length:Int)) (bnd (some ((bq.vV)[(i64.wrap ((i64.wrap (aY*bq.vC))+cR)).toNat]!)) fun ua=>bnd (S:=Bool) (cnd (decide (aY=aM)) (some (true)) (bnd (gA ua) fun xx=>some (decide (xx=(0:Int))))) fun gv=>cnd gv (some (rB)) (bnd (aK (oV bq aM aY ua) ((0:Int),rB)) fun qa=>some (qa)))) fun j9=>some (.inl (i64.wrap (aY+(1:Int)),j9))) (some (.inr rB))
def n3(bq:an)(aM:Int)(cR:Int):Option an:=gd (0<(bq.vV).length) (gd ((bq.vV).length*136≤140737488355328) (gd (0≤i64.wrap ((i64.wrap (aM*bq.vC))+cR)∧i64.wrap ((i64.wrap (aM*bq.vC))+cR)<((bq.vV).length:Int)) (bnd (some ((bq.vV)[(i64.wrap ((i64.wrap (aM*bq.vC))+cR)).toNat]!)) fun x5=>bnd (aK (oX bq aM x5) ((0:Int),bq.vV)) fun bw=>bnd (aK (oW bq aM cR) ((0:Int),bw)) fun i6=>gd ((bq.vV).length=(i6).length) (some (⟨bq.vR,bq.vC,i6⟩:an)))))
theorem xA {bq:an}{aM:Int}{cR:Int}{r:an}(h:n3 bq aM cR=some r):ax prog 68 [dG aH bq,dI .i64 aM,dI .i64 cR] (dG aH r):=by
 refine bn (rs:=[.cell 6 24]) (fun cx hx h0=>?_) func68
 unfold n3 at h
 refine rs hx fun K hK=>?_
 refine s1 (d:=.pt 0 0) fC ?_
 refine s1 (d:=.pt 1 0) (aO aq) ?_
 refine nl hK ?_
 refine AW.seq ?_
 obtain⟨zQ,h⟩:=am h
 obtain⟨rk,h⟩:=am h
 refine jn (PE cx .normal (fun (_:Unit)=>[(1,dI .i64 aM),(2,dI .i64 cR),(3,.pt 0 0),(6,.pt 1 0),(7,.pt 2 0)]) (fun (_:Unit)=>⟨[(0,[dI .i64 bq.vR,dI .i64 bq.vC,dL ae bq.vV]),(1,[dI .i64 (0:Int),dI .i64 (0:Int),dN]),(2,[dI .i64 bq.vR,dI .i64 bq.vC,.gw 3 36 ((bq.vV).length)]),(3,dC ((cW ae).f bq.vV))],[],4⟩) ()) ?_ ?_
 refine dw (DW.split 4 9 (by decide) ?_ ?_)
 refine DW.split 7 9 (by decide) ?_ ?_
 refine dwg [] [0,1,2,3,4,5,6,7,8,9,10] hx (by kernel_rfl) (by kernel_rfl) (by kernel_rfl) fun K hK=>?_
 dsimp only[dt,lf,li,List.map]
 iterate 4 refine sbr ?_
 refine q1 (d:=dF ae ([]:List ai)) (zL tok aF aC) ?_
 iterate 2 refine sbr ?_
 refine q1 (d:=.gw 2 36 ((bq.vV).length)) (hp':=⟨[(2,dC ((cW ae).f bq.vV)),(1,[dI .i64 (0:Int),dI .i64 (0:Int),dN]),(0,[dI .i64 bq.vR,dI .i64 bq.vC,dL ae bq.vV])],[],3⟩) (GH (c:=ae) (m:=bq.vV) tok aF aC rk zQ (qn.l _ _) (.inr rfl)) ?_
 refine s1 (d:=.ag [dI .i64 bq.vR,dI .i64 bq.vC,.gw 2 36 ((bq.vV).length)]) (aR aq) ?_
 refine s1 (d:=.pt 3 0) (aO aq) ?_
 refine s0 (bu (ds':=[dI .i64 bq.vR,dI .i64 bq.vC,.gw 2 36 ((bq.vV).length)]) aq) ?_
 exact .nil (hK _ _ (pe0 h0 [0,1,3,2]))
 refine dwg [] [0,1,2,3,4,5,6,9,7,8,10] hx (by kernel_rfl) (by kernel_rfl) (by kernel_rfl) fun K hK=>?_
 dsimp only[dt,lf,li,List.map]
 iterate 4 refine sbr ?_
 refine q1 (d:=dF ae ([]:List ai)) (zL tok aF aC) ?_
 iterate 2 refine sbr ?_
 refine s1 (d:=.pt 2 0) (aO aq) ?_
 refine q1 (d:=.gw 3 36 ((bq.vV).length)) (hp':=⟨[(3,dC ((cW ae).f bq.vV)),(2,[dI .i64 (0:Int),dI .i64 (0:Int),dN]),(1,[dI .i64 (0:Int),dI .i64 (0:Int),dN]),(0,[dI .i64 bq.vR,dI .i64 bq.vC,dL ae bq.vV])],[],4⟩) (GH (c:=ae) (m:=bq.vV) tok aF aC rk zQ (qn.l _ _) (.inr rfl)) ?_
 refine s1 (d:=.ag [dI .i64 bq.vR,dI .i64 bq.vC,.gw 3 36 ((bq.vV).length)]) (aR aq) ?_
 refine s0 (bu (ds':=[dI .i64 bq.vR,dI .i64 bq.vC,.gw 3 36 ((bq.vV).length)]) aq) ?_
 exact .nil (hK _ _ (pe0 h0 [0,1,2,3]))
 refine dwg [] [0,1,2,3,5,6,9,4,7,8,10] hx (by kernel_rfl) (by kernel_rfl) (by kernel_rfl) fun K hK=>?_
 dsimp only[dt,lf,li,List.map]
 iterate 6 refine sbr ?_
 refine s1 (d:=.pt 2 0) (aO aq) ?_
 refine q1 (d:=dF ae ([]:List ai)) (zL tok aF aC) ?_
 refine q1 (d:=.gw 3 36 ((bq.vV).length)) (hp':=⟨[(3,dC ((cW ae).f bq.vV)),(2,[dI .i64 (0:Int),dI .i64 (0:Int),dN]),(1,[dI .i64 (0:Int),dI .i64 (0:Int),dN]),(0,[dI .i64 bq.vR,dI .i64 bq.vC,dL ae bq.vV])],[],4⟩) (GH (c:=ae) (m:=bq.vV) tok aF aC rk zQ (qn.l _ _) (.inr rfl)) ?_
 refine s1 (d:=.ag [dI .i64 bq.vR,dI .i64 bq.vC,.gw 3 36 ((bq.vV).length)]) (aR aq) ?_
 refine s0 (bu (ds':=[dI .i64 bq.vR,dI .i64 bq.vC,.gw 3 36 ((bq.vV).length)]) aq) ?_
 exact .nil (hK _ _ (pe0 h0 [0,1,2,3]))
 refine lw0 ?_
 refine rs hx fun K hK=>?_
 iterate 8 refine sbr ?_
 obtain⟨Ou,h⟩:=am h
 have hn4:(i64.wrap ((i64.wrap (aM*bq.vC))+cR)).toNat<(bq.vV).length:=by omega
 refine sbr ?_
 refine s1 (d:=dG ae ((bq.vV)[(i64.wrap ((i64.wrap (aM*bq.vC))+cR)).toNat]!)) (gk (c:=ae) (l:=bq.vV) (n:=(i64.wrap ((i64.wrap (aM*bq.vC))+cR)).toNat) (o:=0) aC hn4 (cH _ _ rfl)) ?_
 refine sbr ?_
 obtain⟨x5,Ce,h⟩:=ah h
 replace Ce:=d5 Ce
 refine s0 (fq (b':=(bq.vV)[(i64.wrap ((i64.wrap (aM*bq.vC))+cR)).toNat]!) (aX.id _ _) aC Ce) ?_
 refine nl hK ?_
 refine AW.seq (ra hx ?_)
 refine AW.block ?_
 obtain⟨bw,hy,h⟩:=ah h
 refine lp (S:=Int×(List ai)) (X:=(List ai)) (fun (bo,bm)=>[(1,dI .i64 aM),(2,dI .i64 cR),(3,.pt 0 0),(6,.pt 1 0),(7,.pt 2 0),(8,.pt 3 0),(9,dI .i64 bo)]) (fun (bo,bm)=>⟨[(0,[dI .i64 bq.vR,dI .i64 bq.vC,dL ae bq.vV]),(1,[dI .i64 (0:Int),dI .i64 (0:Int),dN]),(2,[dI .i64 bq.vR,dI .i64 bq.vC,.gw 4 36 ((bq.vV).length)]),(3,dC (ae.f x5)),(4,dC ((cW ae).f bm))],[],5⟩) (PE cx (.exit 0) (fun bw=>[(1,dI .i64 aM),(2,dI .i64 cR),(3,.pt 0 0),(6,.pt 1 0),(7,.pt 2 0)]) fun bw=>⟨[(0,[dI .i64 bq.vR,dI .i64 bq.vC,dL ae bq.vV]),(1,[dI .i64 (0:Int),dI .i64 (0:Int),dN]),(2,[dI .i64 bq.vR,dI .i64 bq.vC,.gw 3 36 ((bq.vV).length)]),(3,dC ((cW ae).f bw))],[],4⟩) hy ?_ ?_ ?_
 exact wk0 h0 [0,1,2,4,3]
 clear hy h
 rintro⟨bo,bm⟩ y h
 dsimp only[oX] at h
 refine AW.seq (rar hx ?_)
 refine cdh h rfl (fun tX h=>?_) (fun tX h=>?_)
 refine AW.skip (AW.seq (AW.block (rqd [112] hx fun K hK=>?_)))
 iterate 16 refine sbr ?_
 obtain⟨O4,h⟩:=am h
 have Ok:(i64.wrap ((i64.wrap (aM*bq.vC))+bo)).toNat<(bq.vV).length:=by omega
 refine sbr ?_
 refine s1 (d:=dG ae ((bq.vV)[(i64.wrap ((i64.wrap (aM*bq.vC))+bo)).toNat]!)) (gk (c:=ae) (l:=bq.vV) (n:=(i64.wrap ((i64.wrap (aM*bq.vC))+bo)).toNat) (o:=0) aC Ok (cH _ _ rfl)) ?_
 refine mbr ?_
 refine cqb h wg fun iM h=>?_
 obtain⟨Cl,h⟩:=am h
 have QP:(i64.wrap ((i64.wrap (aM*bq.vC))+bo)).toNat<(bm).length:=by omega
 refine sG (nr ⟨Cl.1,Cl.2.1⟩ aF aC) ?_
 obtain⟨nV,rJ,h⟩:=ah h
 replace rJ:=d5 rJ
 refine s0 (wX (b':=iM) (aX.seqW ae bm ((i64.wrap ((i64.wrap (aM*bq.vC))+bo)).toNat) QP) aC rJ) ?_
 refine nl hK ?_
 refine rb hx ?_
 exact pel h h0 [0,1,2,3,4]
 exact AW.exit (per h h0 [0,1,2,4])
 refine lw0 ?_
 refine AW.seq (ra hx ?_)
 refine AW.block ?_
 obtain⟨i6,hy,h⟩:=ah h
 refine lp (S:=Int×(List ai)) (X:=(List ai)) (fun (aY,rB)=>[(1,dI .i64 aM),(2,dI .i64 cR),(3,.pt 0 0),(6,.pt 1 0),(7,.pt 2 0),(10,dI .i64 aY)]) (fun (aY,rB)=>⟨[(0,[dI .i64 bq.vR,dI .i64 bq.vC,dL ae bq.vV]),(1,[dI .i64 (0:Int),dI .i64 (0:Int),dN]),(2,[dI .i64 bq.vR,dI .i64 bq.vC,.gw 3 36 ((bq.vV).length)]),(3,dC ((cW ae).f rB))],[],4⟩) (PE cx (.exit 2) (fun i6=>[(6,.pt 0 0),(7,.pt 1 0)]) fun i6=>⟨[(0,[dI .i64 (0:Int),dI .i64 (0:Int),dN]),(1,[dI .i64 bq.vR,dI .i64 bq.vC,.gw 2 36 ((bq.vV).length)]),(2,dC ((cW ae).f i6))],[],3⟩) hy ?_ ?_ ?_
 exact wk0 h0 [0,1,2,3]
 clear hy h
 rintro⟨aY,rB⟩ y h
 dsimp only[oW] at h
 refine AW.seq (rar hx ?_)
 refine cdh h rfl (fun yF h=>?_) (fun yF h=>?_)
 refine AW.skip (AW.seq ?_)
 obtain⟨j9,hy,h⟩:=ah h
 refine jn ((PE cx .normal (fun j9=>[(1,dI .i64 aM),(2,dI .i64 cR),(3,.pt 0 0),(6,.pt 1 0),(7,.pt 2 0),(10,dI .i64 aY)]) fun j9=>⟨[(0,[dI .i64 bq.vR,dI .i64 bq.vC,dL ae bq.vV]),(1,[dI .i64 (0:Int),dI .i64 (0:Int),dN]),(2,[dI .i64 bq.vR,dI .i64 bq.vC,.gw 3 36 ((bq.vV).length)]),(3,dC ((cW ae).f j9))],[],4⟩) j9) ?_ ?_
 replace h:=hy
 refine AW.block (rs hx fun K hK=>?_)
 iterate 8 refine sbr ?_
 obtain⟨hc18,h⟩:=am h
 have hn19:(i64.wrap ((i64.wrap (aY*bq.vC))+cR)).toNat<(bq.vV).length:=by omega
 refine sbr ?_
 refine s1 (d:=dG ae ((bq.vV)[(i64.wrap ((i64.wrap (aY*bq.vC))+cR)).toNat]!)) (gk (c:=ae) (l:=bq.vV) (n:=(i64.wrap ((i64.wrap (aY*bq.vC))+cR)).toNat) (o:=0) aC hn19 (cH _ _ rfl)) ?_
 refine sbr ?_
 obtain⟨ua,K4,h⟩:=ah h
 replace K4:=d5 K4
 refine s0 (fq (b':=(bq.vV)[(i64.wrap ((i64.wrap (aY*bq.vC))+cR)).toNat]!) (aX.id _ _) aC K4) ?_
 refine nl hK ?_
 iterate 2 refine AW.seq ?_
 obtain⟨gv,hy,h⟩:=ah h
 refine jn ((PE cx .normal (fun gv=>[(1,dI .i64 aM),(2,dI .i64 cR),(3,.pt 0 0),(6,.pt 1 0),(7,.pt 2 0),(10,dI .i64 aY),(11,.pt 3 0),(82,dB gv)]) fun gv=>⟨[(0,[dI .i64 bq.vR,dI .i64 bq.vC,dL ae bq.vV]),(1,[dI .i64 (0:Int),dI .i64 (0:Int),dN]),(2,[dI .i64 bq.vR,dI .i64 bq.vC,.gw 4 36 ((bq.vV).length)]),(3,dC (ae.f ua)),(4,dC ((cW ae).f rB))],[],5⟩) gv) ?_ ?_
 replace h:=hy
 refine rq hx fun K hK=>?_
 refine mbr ?_
 rcases bE h with⟨Hd,h⟩|⟨Hd,h⟩
 refine nbr hK ?_
 exact pe1 h h0 [0,1,2,4,3]
 refine gbr ?_
 refine gcb h pq fun xx h=>?_
 refine nbr hK ?_
 exact pe1 h h0 [0,1,2,4,3]
 refine lw0 ?_
 refine cdh h rfl (fun Lu h=>?_) (fun Lu h=>?_)
 refine AW.exit ?_
 try dsimp only
 try simp only[bP,reduceIte,Nat.reduceEqDiff,reduceCtorEq]
 exact pe1 h h0 [0,1,2,4]
 refine AW.skip (ra hx ?_)
 refine AW.block ?_
 obtain⟨qa,hy,h⟩:=ah h
 refine lp (S:=Int×(List ai)) (X:=(List ai)) (fun (bV,gj)=>[(1,dI .i64 aM),(2,dI .i64 cR),(3,.pt 0 0),(6,.pt 1 0),(7,.pt 2 0),(10,dI .i64 aY),(11,.pt 3 0),(12,dI .i64 bV)]) (fun (bV,gj)=>⟨[(0,[dI .i64 bq.vR,dI .i64 bq.vC,dL ae bq.vV]),(1,[dI .i64 (0:Int),dI .i64 (0:Int),dN]),(2,[dI .i64 bq.vR,dI .i64 bq.vC,.gw 4 36 ((bq.vV).length)]),(3,dC (ae.f ua)),(4,dC ((cW ae).f gj))],[],5⟩) (PE cx (.exit 4) (fun qa=>[(1,dI .i64 aM),(2,dI .i64 cR),(3,.pt 0 0),(6,.pt 1 0),(7,.pt 2 0),(10,dI .i64 aY)]) fun qa=>⟨[(0,[dI .i64 bq.vR,dI .i64 bq.vC,dL ae bq.vV]),(1,[dI .i64 (0:Int),dI .i64 (0:Int),dN]),(2,[dI .i64 bq.vR,dI .i64 bq.vC,.gw 3 36 ((bq.vV).length)]),(3,dC ((cW ae).f qa))],[],4⟩) hy ?_ ?_ ?_
 exact wk0 h0 [0,1,2,3,4]
 clear hy h
 rintro⟨bV,gj⟩ y h
 dsimp only[oV] at h
 refine AW.seq (rar hx ?_)
 refine cdh h rfl (fun xH h=>?_) (fun xH h=>?_)
 refine AW.skip (AW.seq (AW.block (rqd [71,113] hx fun K hK=>?_)))
 iterate 16 refine sbr ?_
 obtain⟨hc28,h⟩:=am h
 have QK:(i64.wrap ((i64.wrap (aY*bq.vC))+bV)).toNat<(bq.vV).length:=by omega
 refine sbr ?_
 refine s1 (d:=dG ae ((bq.vV)[(i64.wrap ((i64.wrap (aY*bq.vC))+bV)).toNat]!)) (gk (c:=ae) (l:=bq.vV) (n:=(i64.wrap ((i64.wrap (aY*bq.vC))+bV)).toNat) (o:=0) aC QK (cH _ _ rfl)) ?_
 iterate 9 refine sbr ?_
 obtain⟨Ll,h⟩:=am h
 have hn31:(i64.wrap ((i64.wrap (aM*bq.vC))+bV)).toNat<(gj).length:=by omega
 refine sG (nr ⟨Ll.1,Ll.2.1⟩ aF aC) ?_
 refine s1 (nq (aX.seqW ae gj ((i64.wrap ((i64.wrap (aM*bq.vC))+bV)).toNat) hn31) aC) ?_
 refine cqb h q7 fun zf h=>?_
 refine cqb h we fun Ij h=>?_
 obtain⟨Ot,h⟩:=am h
 have QJ:(i64.wrap ((i64.wrap (aY*bq.vC))+bV)).toNat<(gj).length:=by omega
 refine sG (nr ⟨Ot.1,Ot.2.1⟩ aF aC) ?_
 obtain⟨x38,K2,h⟩:=ah h
 replace K2:=d5 K2
 refine s0 (wX (b':=Ij) (aX.seqW ae gj ((i64.wrap ((i64.wrap (aY*bq.vC))+bV)).toNat) QJ) aC K2) ?_
 refine nl hK ?_
 refine rb hx ?_
 exact pel h h0 [0,1,2,3,4]
 exact AW.exit (per h h0 [0,1,2,4])
 rintro ex tm' hp' ⟨rfl,hw⟩
 try dsimp only
 try simp only[bP,reduceIte,Nat.reduceEqDiff,reduceCtorEq]
 cases h
 exact PE.i (Wk.trans hw (wk h0 [0,1,2,3] (wR rfl (wR rfl (wR rfl (wR rfl (wR rfl (wR rfl wTn)))))) (vR rfl (vR rfl (vR rfl (vC rfl wVn)))) wLn))
 refine lw0 ?_
 refine rb hx ?_
 exact pel h h0 [0,1,2,3]
 exact AW.exit (per h h0 [1,2,3])
 refine lw0 ?_
 refine rs hx fun K hK=>?_
 refine s1 (d:=.ag [dI .i64 bq.vR,dI .i64 bq.vC,.gw 2 36 ((bq.vV).length)]) (bp aq) ?_
 refine s0 (bu (ds':=[dI .i64 bq.vR,dI .i64 bq.vC,.gw 2 36 ((bq.vV).length)]) aq) ?_
 refine nl hK ?_
 obtain⟨hc43,h⟩:=am h
 refine fzAD ae (n:=(bq.vV).length) 2 [(121,.ag [dI .i64 bq.vR,dI .i64 bq.vC,dL ae i6])] [(0,[dI .i64 bq.vR,dI .i64 bq.vC,dL ae i6]),(1,[dI .i64 bq.vR,dI .i64 bq.vC,dL ae i6])] hc43 ?_ (ftc rfl (.ag (.cons (.keep _) (.cons (.keep _) (.cons (.hitG) .nil)))) ftn) (fvc (by decide) rfl (.cons (.keep _) (.cons (.keep _) (.cons (.hitG) .nil))) (fvc (by decide) rfl (.cons (.keep _) (.cons (.keep _) (.cons (.hitG) .nil))) fvn))
 refine AW.ret ?_
 cases h
 exact dm.mk1 (bN (es:=(aH.f (⟨bq.vR,bq.vC,i6⟩:an)).map .e) rfl aq rfl rfl (ltb rfl) (leb rfl) rfl (.inr (.inr ⟨_,(ao _),rfl,rfl⟩)))
def o0(bq:an)(aM:Int)(x4:ai):Unit→Option (Unit⊕Unit):=fun ()=>cnd (decide ((0:Int)<bq.vC)) (gd (0≤i64.wrap ((i64.wrap (aM*bq.vC))+(0:Int))∧i64.wrap ((i64.wrap (aM*bq.vC))+(0:Int))<((bq.vV).length:Int)) (bnd (lx ((bq.vV)[(i64.wrap ((i64.wrap (aM*bq.vC))+(0:Int))).toNat]!) x4) fun x9=>gd (0≤i64.wrap ((i64.wrap (aM*bq.vC))+(0:Int))∧i64.wrap ((i64.wrap (aM*bq.vC))+(0:Int))<((([]:List ai)++bq.vV).length:Int)) (none))) (some (.inr ()))
def oY(bq:an)(aM:Int)(aY:Int)(pk:ai):Unit→Option (Unit⊕Unit):=fun ()=>cnd (decide ((0:Int)<bq.vC)) (gd (0≤i64.wrap ((i64.wrap (aY*bq.vC))+(0:Int))∧i64.wrap ((i64.wrap (aY*bq.vC))+(0:Int))<((bq.vV).length:Int)) (gd (0≤i64.wrap ((i64.wrap (aM*bq.vC))+(0:Int))∧i64.wrap ((i64.wrap (aM*bq.vC))+(0:Int))<((([]:List ai)++bq.vV).length:Int)) (bnd (eh pk ((([]:List ai)++bq.vV)[(i64.wrap ((i64.wrap (aM*bq.vC))+(0:Int))).toNat]!)) fun uJ=>bnd (lw ((bq.vV)[(i64.wrap ((i64.wrap (aY*bq.vC))+(0:Int))).toNat]!) uJ) fun Gn=>gd (0≤i64.wrap ((i64.wrap (aY*bq.vC))+(0:Int))∧i64.wrap ((i64.wrap (aY*bq.vC))+(0:Int))<((([]:List ai)++bq.vV).length:Int)) (none)))) (some (.inr ()))
def oZ(bq:an)(aM:Int)(cR:Int):Int→Option (Int⊕Unit):=fun aY=>cnd (decide (aY<bq.vR)) (bnd (S:=Unit) (gd (0≤i64.wrap ((i64.wrap (aY*bq.vC))+cR)∧i64.wrap ((i64.wrap (aY*bq.vC))+cR)<((bq.vV).length:Int)) (bnd (some ((bq.vV)[(i64.wrap ((i64.wrap (aY*bq.vC))+cR)).toNat]!)) fun pk=>bnd (S:=Bool) (cnd (decide (aY=aM)) (some (true)) (bnd (gA pk) fun ua=>some (decide (ua=(0:Int))))) fun gv=>cnd gv (some (())) (bnd (aK (oY bq aM aY pk) ()) fun ()=>some (())))) fun ()=>some (.inl (i64.wrap (aY+(1:Int))))) (some (.inr ()))
def n4(bq:an)(aM:Int)(cR:Int):Option an:=gd ((([]:List ai)++bq.vV).length*136≤140737488355328) (gd (0≤i64.wrap ((i64.wrap (aM*bq.vC))+cR)∧i64.wrap ((i64.wrap (aM*bq.vC))+cR)<((bq.vV).length:Int)) (bnd (some ((bq.vV)[(i64.wrap ((i64.wrap (aM*bq.vC))+cR)).toNat]!)) fun x4=>bnd (aK (o0 bq aM x4) ()) fun ()=>bnd (aK (oZ bq aM cR) (0:Int)) fun ()=>some (⟨bq.vR,bq.vC,([]:List ai)++bq.vV⟩:an)))
theorem xB {bq:an}{aM:Int}{cR:Int}{r:an}(h:n4 bq aM cR=some r):ax prog 68 [dG aH bq,dI .i64 aM,dI .i64 cR] (dG aH r):=by
 refine bn (rs:=[.cell 6 24]) (fun cx hx h0=>?_) func68
 unfold n4 at h
 refine rs hx fun K hK=>?_
 refine s1 (d:=.pt 0 0) fC ?_
 refine s1 (d:=.pt 1 0) (aO aq) ?_
 refine nl hK ?_
 refine AW.seq ?_
 obtain⟨zQ,h⟩:=am h
 refine jn (PE cx .normal (fun (_:Unit)=>[(1,dI .i64 aM),(2,dI .i64 cR),(3,.pt 0 0),(6,.pt 1 0),(7,.pt 2 0)]) (fun (_:Unit)=>⟨[(0,[dI .i64 bq.vR,dI .i64 bq.vC,dL ae bq.vV]),(1,[dI .i64 (0:Int),dI .i64 (0:Int),dN]),(2,[dI .i64 bq.vR,dI .i64 bq.vC,dL ae (([]:List ai)++bq.vV)])],[],3⟩) ()) ?_ ?_
 refine dw (DW.split 4 9 (by decide) ?_ ?_)
 refine DW.split 7 9 (by decide) ?_ ?_
 refine dwg [] [0,1,2,3,4,5,6,7,8,9,10] hx (by kernel_rfl) (by kernel_rfl) (by kernel_rfl) fun K hK=>?_
 dsimp only[dt,lf,li,List.map]
 iterate 4 refine sbr ?_
 refine s1 (d:=dO 2 ae ([]:List ai)) (Bz aF aC) ?_
 iterate 2 refine sbr ?_
 refine s1 (d:=dO 2 ae (([]:List ai)++bq.vV)) (eD aF aC zQ) ?_
 refine s2 (d2:=dG aH (⟨bq.vR,bq.vC,([]:List ai)++bq.vV⟩:an)) (aR (es:=[dI .i64 bq.vR,dI .i64 bq.vC,dO 2 ae (([]:List ai)++bq.vV)]) aq) (et (wc (bI _) (wc (bI _) (wc (tT _) wcn)))) ?_
 refine s1 (d:=.pt 3 0) (aO aq) ?_
 refine s0 (bu (ds':=[dI .i64 bq.vR,dI .i64 bq.vC,dL ae (([]:List ai)++bq.vV)]) aq) ?_
 exact .nil (hK _ _ (pe0 h0 [0,1,3]))
 refine dwg [] [0,1,2,3,4,5,6,9,7,8,10] hx (by kernel_rfl) (by kernel_rfl) (by kernel_rfl) fun K hK=>?_
 dsimp only[dt,lf,li,List.map]
 iterate 4 refine sbr ?_
 refine s1 (d:=dO 2 ae ([]:List ai)) (Bz aF aC) ?_
 iterate 2 refine sbr ?_
 refine s1 (d:=.pt 3 0) (aO aq) ?_
 refine s1 (d:=dO 2 ae (([]:List ai)++bq.vV)) (eD aF aC zQ) ?_
 refine s2 (d2:=dG aH (⟨bq.vR,bq.vC,([]:List ai)++bq.vV⟩:an)) (aR (es:=[dI .i64 bq.vR,dI .i64 bq.vC,dO 2 ae (([]:List ai)++bq.vV)]) aq) (et (wc (bI _) (wc (bI _) (wc (tT _) wcn)))) ?_
 refine s0 (bu (ds':=[dI .i64 bq.vR,dI .i64 bq.vC,dL ae (([]:List ai)++bq.vV)]) aq) ?_
 exact .nil (hK _ _ (pe0 h0 [0,1,3]))
 refine dwg [] [0,1,2,3,5,6,9,4,7,8,10] hx (by kernel_rfl) (by kernel_rfl) (by kernel_rfl) fun K hK=>?_
 dsimp only[dt,lf,li,List.map]
 iterate 6 refine sbr ?_
 refine s1 (d:=.pt 2 0) (aO aq) ?_
 refine s1 (d:=dO 3 ae ([]:List ai)) (Bz aF aC) ?_
 refine s1 (d:=dO 3 ae (([]:List ai)++bq.vV)) (eD aF aC zQ) ?_
 refine s2 (d2:=dG aH (⟨bq.vR,bq.vC,([]:List ai)++bq.vV⟩:an)) (aR (es:=[dI .i64 bq.vR,dI .i64 bq.vC,dO 3 ae (([]:List ai)++bq.vV)]) aq) (et (wc (bI _) (wc (bI _) (wc (tT _) wcn)))) ?_
 refine s0 (bu (ds':=[dI .i64 bq.vR,dI .i64 bq.vC,dL ae (([]:List ai)++bq.vV)]) aq) ?_
 exact .nil (hK _ _ (pe0 h0 [0,1,2]))
 refine lw0 ?_
 refine rs hx fun K hK=>?_
 iterate 8 refine sbr ?_
 obtain⟨rk,h⟩:=am h
 have xE:(i64.wrap ((i64.wrap (aM*bq.vC))+cR)).toNat<(bq.vV).length:=by omega
 refine sbr ?_
 refine s1 (d:=dG ae ((bq.vV)[(i64.wrap ((i64.wrap (aM*bq.vC))+cR)).toNat]!)) (gk (c:=ae) (l:=bq.vV) (n:=(i64.wrap ((i64.wrap (aM*bq.vC))+cR)).toNat) (o:=0) aC xE (cH _ _ rfl)) ?_
 refine sbr ?_
 obtain⟨x4,Jq,h⟩:=ah h
 replace Jq:=d5 Jq
 refine s0 (fq (b':=(bq.vV)[(i64.wrap ((i64.wrap (aM*bq.vC))+cR)).toNat]!) (aX.id _ _) aC Jq) ?_
 refine nl hK ?_
 refine AW.seq (ra hx ?_)
 refine AW.block ?_
 obtain⟨y,hy,h⟩:=ah h
 refine lp (S:=Unit) (X:=Unit) (fun ()=>[(1,dI .i64 aM),(2,dI .i64 cR),(3,.pt 0 0),(6,.pt 1 0),(7,.pt 2 0),(8,.pt 3 0),(9,dI .i64 (0:Int))]) (fun ()=>⟨[(0,[dI .i64 bq.vR,dI .i64 bq.vC,dL ae bq.vV]),(1,[dI .i64 (0:Int),dI .i64 (0:Int),dN]),(2,[dI .i64 bq.vR,dI .i64 bq.vC,dL ae (([]:List ai)++bq.vV)]),(3,dC (ae.f x4))],[],4⟩) (PE cx (.exit 0) (fun ()=>[(1,dI .i64 aM),(2,dI .i64 cR),(3,.pt 0 0),(6,.pt 1 0),(7,.pt 2 0)]) fun ()=>⟨[(0,[dI .i64 bq.vR,dI .i64 bq.vC,dL ae bq.vV]),(1,[dI .i64 (0:Int),dI .i64 (0:Int),dN]),(2,[dI .i64 bq.vR,dI .i64 bq.vC,dL ae (([]:List ai)++bq.vV)])],[],3⟩) hy ?_ ?_ ?_
 exact wk0 h0 [0,1,2,3]
 clear hy h
 rintro⟨⟩ y h
 dsimp only[o0] at h
 refine AW.seq (rar hx ?_)
 refine cdh h rfl (fun lZ h=>?_) (fun lZ h=>?_)
 refine AW.skip (AW.seq (AW.block (rqd [112] hx fun K hK=>?_)))
 iterate 16 refine sbr ?_
 obtain⟨hc7,h⟩:=am h
 have hn8:(i64.wrap ((i64.wrap (aM*bq.vC))+(0:Int))).toNat<(bq.vV).length:=by omega
 refine sbr ?_
 refine s1 (d:=dG ae ((bq.vV)[(i64.wrap ((i64.wrap (aM*bq.vC))+(0:Int))).toNat]!)) (gk (c:=ae) (l:=bq.vV) (n:=(i64.wrap ((i64.wrap (aM*bq.vC))+(0:Int))).toNat) (o:=0) aC hn8 (cH _ _ rfl)) ?_
 refine mbr ?_
 refine cqb h wg fun x9 h=>?_
 obtain⟨Jy,h⟩:=am h
 refine sbr ?_
 cases h
 exact AW.exit (per h h0 [0,1,2])
 cases y
 refine lw0 ?_
 refine AW.seq (ra hx ?_)
 refine AW.block ?_
 obtain⟨y,hy,h⟩:=ah h
 refine lp (S:=Int) (X:=Unit) (fun aY=>[(1,dI .i64 aM),(2,dI .i64 cR),(3,.pt 0 0),(6,.pt 1 0),(7,.pt 2 0),(10,dI .i64 aY)]) (fun aY=>⟨[(0,[dI .i64 bq.vR,dI .i64 bq.vC,dL ae bq.vV]),(1,[dI .i64 (0:Int),dI .i64 (0:Int),dN]),(2,[dI .i64 bq.vR,dI .i64 bq.vC,dL ae (([]:List ai)++bq.vV)])],[],3⟩) (PE cx (.exit 2) (fun ()=>[(6,.pt 0 0),(7,.pt 1 0)]) fun ()=>⟨[(0,[dI .i64 (0:Int),dI .i64 (0:Int),dN]),(1,[dI .i64 bq.vR,dI .i64 bq.vC,dL ae (([]:List ai)++bq.vV)])],[],2⟩) hy ?_ ?_ ?_
 exact wk0 h0 [0,1,2]
 clear hy h
 rintro aY y h
 dsimp only[oZ] at h
 refine AW.seq (rar hx ?_)
 refine cdh h rfl (fun u7 h=>?_) (fun u7 h=>?_)
 refine AW.skip (AW.seq ?_)
 obtain⟨y,hy,h⟩:=ah h
 refine jn ((PE cx .normal (fun ()=>[(1,dI .i64 aM),(2,dI .i64 cR),(3,.pt 0 0),(6,.pt 1 0),(7,.pt 2 0),(10,dI .i64 aY)]) fun ()=>⟨[(0,[dI .i64 bq.vR,dI .i64 bq.vC,dL ae bq.vV]),(1,[dI .i64 (0:Int),dI .i64 (0:Int),dN]),(2,[dI .i64 bq.vR,dI .i64 bq.vC,dL ae (([]:List ai)++bq.vV)])],[],3⟩) y) ?_ ?_
 replace h:=hy
 refine AW.block (rs hx fun K hK=>?_)
 iterate 8 refine sbr ?_
 obtain⟨Oy,h⟩:=am h
 have E8:(i64.wrap ((i64.wrap (aY*bq.vC))+cR)).toNat<(bq.vV).length:=by omega
 refine sbr ?_
 refine s1 (d:=dG ae ((bq.vV)[(i64.wrap ((i64.wrap (aY*bq.vC))+cR)).toNat]!)) (gk (c:=ae) (l:=bq.vV) (n:=(i64.wrap ((i64.wrap (aY*bq.vC))+cR)).toNat) (o:=0) aC E8 (cH _ _ rfl)) ?_
 refine sbr ?_
 obtain⟨pk,yC,h⟩:=ah h
 replace yC:=d5 yC
 refine s0 (fq (b':=(bq.vV)[(i64.wrap ((i64.wrap (aY*bq.vC))+cR)).toNat]!) (aX.id _ _) aC yC) ?_
 refine nl hK ?_
 iterate 2 refine AW.seq ?_
 obtain⟨gv,hy,h⟩:=ah h
 refine jn ((PE cx .normal (fun gv=>[(1,dI .i64 aM),(2,dI .i64 cR),(3,.pt 0 0),(6,.pt 1 0),(7,.pt 2 0),(10,dI .i64 aY),(11,.pt 3 0),(82,dB gv)]) fun gv=>⟨[(0,[dI .i64 bq.vR,dI .i64 bq.vC,dL ae bq.vV]),(1,[dI .i64 (0:Int),dI .i64 (0:Int),dN]),(2,[dI .i64 bq.vR,dI .i64 bq.vC,dL ae (([]:List ai)++bq.vV)]),(3,dC (ae.f pk))],[],4⟩) gv) ?_ ?_
 replace h:=hy
 refine rq hx fun K hK=>?_
 refine mbr ?_
 rcases bE h with⟨Hf,h⟩|⟨Hf,h⟩
 refine nbr hK ?_
 exact pe1 h h0 [0,1,2,3]
 refine gbr ?_
 refine gcb h pq fun ua h=>?_
 refine nbr hK ?_
 exact pe1 h h0 [0,1,2,3]
 refine lw0 ?_
 refine cdh h rfl (fun Rh h=>?_) (fun Rh h=>?_)
 refine AW.exit ?_
 try dsimp only
 try simp only[bP,reduceIte,Nat.reduceEqDiff,reduceCtorEq]
 exact pe1 h h0 [0,1,2]
 refine AW.skip (ra hx ?_)
 refine AW.block ?_
 obtain⟨y,hy,h⟩:=ah h
 refine lp (S:=Unit) (X:=Unit) (fun ()=>[(1,dI .i64 aM),(2,dI .i64 cR),(3,.pt 0 0),(6,.pt 1 0),(7,.pt 2 0),(10,dI .i64 aY),(11,.pt 3 0),(12,dI .i64 (0:Int))]) (fun ()=>⟨[(0,[dI .i64 bq.vR,dI .i64 bq.vC,dL ae bq.vV]),(1,[dI .i64 (0:Int),dI .i64 (0:Int),dN]),(2,[dI .i64 bq.vR,dI .i64 bq.vC,dL ae (([]:List ai)++bq.vV)]),(3,dC (ae.f pk))],[],4⟩) (PE cx (.exit 4) (fun ()=>[(1,dI .i64 aM),(2,dI .i64 cR),(3,.pt 0 0),(6,.pt 1 0),(7,.pt 2 0),(10,dI .i64 aY)]) fun ()=>⟨[(0,[dI .i64 bq.vR,dI .i64 bq.vC,dL ae bq.vV]),(1,[dI .i64 (0:Int),dI .i64 (0:Int),dN]),(2,[dI .i64 bq.vR,dI .i64 bq.vC,dL ae (([]:List ai)++bq.vV)])],[],3⟩) hy ?_ ?_ ?_
 exact wk0 h0 [0,1,2,3]
 clear hy h
 rintro⟨⟩ y h
 dsimp only[oY] at h
 refine AW.seq (rar hx ?_)
 refine cdh h rfl (fun tY h=>?_) (fun tY h=>?_)
 refine AW.skip (AW.seq (AW.block (rqd [71,113] hx fun K hK=>?_)))
 iterate 16 refine sbr ?_
 obtain⟨hc25,h⟩:=am h
 have Lc:(i64.wrap ((i64.wrap (aY*bq.vC))+(0:Int))).toNat<(bq.vV).length:=by omega
 refine sbr ?_
 refine s1 (d:=dG ae ((bq.vV)[(i64.wrap ((i64.wrap (aY*bq.vC))+(0:Int))).toNat]!)) (gk (c:=ae) (l:=bq.vV) (n:=(i64.wrap ((i64.wrap (aY*bq.vC))+(0:Int))).toNat) (o:=0) aC Lc (cH _ _ rfl)) ?_
 iterate 9 refine sbr ?_
 obtain⟨hc27,h⟩:=am h
 have hn28:(i64.wrap ((i64.wrap (aM*bq.vC))+(0:Int))).toNat<(([]:List ai)++bq.vV).length:=by omega
 refine sbr ?_
 refine s1 (d:=dG ae ((([]:List ai)++bq.vV)[(i64.wrap ((i64.wrap (aM*bq.vC))+(0:Int))).toNat]!)) (gk (c:=ae) (l:=([]:List ai)++bq.vV) (n:=(i64.wrap ((i64.wrap (aM*bq.vC))+(0:Int))).toNat) (o:=0) aC hn28 (cH _ _ rfl)) ?_
 refine cqb h q7 fun uJ h=>?_
 refine cqb h we fun Gn h=>?_
 obtain⟨Rf,h⟩:=am h
 refine sbr ?_
 cases h
 exact AW.exit (per h h0 [0,1,2])
 cases y
 rintro ex tm' hp' ⟨rfl,hw⟩
 try dsimp only
 try simp only[bP,reduceIte,Nat.reduceEqDiff,reduceCtorEq]
 cases h
 exact PE.i (Wk.trans hw (wk h0 [0,1,2] (wR rfl (wR rfl (wR rfl (wR rfl (wR rfl (wR rfl wTn)))))) (vR rfl (vR rfl (vR rfl wVn))) wLn))
 cases y
 refine lw0 ?_
 refine rb hx ?_
 exact pel h h0 [0,1,2]
 exact AW.exit (per h h0 [1,2])
 cases y
 refine lw0 ?_
 refine rs hx fun K hK=>?_
 refine s1 (d:=dG aH (⟨bq.vR,bq.vC,([]:List ai)++bq.vV⟩:an)) (bp aq) ?_
 refine s0 (bu (ds':=[dI .i64 bq.vR,dI .i64 bq.vC,dL ae (([]:List ai)++bq.vV)]) aq) ?_
 refine nl hK ?_
 refine AW.ret ?_
 cases h
 exact dm.mk1 (bN (es:=(aH.f (⟨bq.vR,bq.vC,([]:List ai)++bq.vV⟩:an)).map .e) rfl aq rfl rfl (ltb rfl) (leb rfl) rfl (.inr (.inr ⟨_,(ao _),rfl,rfl⟩)))
def tB(bq:an)(aM:Int)(cR:Int):Option an:=orO (n3 bq aM cR) (n4 bq aM cR)
theorem zm {bq:an}{aM:Int}{cR:Int}{r:an}(h:tB bq aM cR=some r):ax prog 68 [dG aH bq,dI .i64 aM,dI .i64 cR] (dG aH r):=(zF h).elim xA xB
def ff(bq:an)(aM:Int)(x5:ai):Int×(List ai)→Option ((Int×(List ai))⊕((List ai))):=fun (bo,bm)=>cnd (decide (bo<bq.vC)) (gd (0≤i64.wrap ((i64.wrap (aM*bq.vC))+bo)∧i64.wrap ((i64.wrap (aM*bq.vC))+bo)<((bq.vV).length:Int)) (bnd (lx ((bq.vV)[(i64.wrap ((i64.wrap (aM*bq.vC))+bo)).toNat]!) x5) fun iM=>gd (0≤i64.wrap ((i64.wrap (aM*bq.vC))+bo)∧i64.wrap ((i64.wrap (aM*bq.vC))+bo)<(((bq.vV).length:Nat):Int)∧i64.wrap ((i64.wrap (aM*bq.vC))+bo)<((bm).length:Int)) (bnd (some ((bm).set ((i64.wrap ((i64.wrap (aM*bq.vC))+bo)).toNat) iM)) fun nV=>some (.inl (i64.wrap (bo+(1:Int)),nV))))) (some (.inr bm))
def fc(bq:an)(aM:Int)(aY:Int)(ua:ai):Int×(List ai)→Option ((Int×(List ai))⊕((List ai))):=fun (bV,gj)=>cnd (decide (bV<bq.vC)) (gd (0≤i64.wrap ((i64.wrap (aY*bq.vC))+bV)∧i64.wrap ((i64.wrap (aY*bq.vC))+bV)<((bq.vV).length:Int)) (gd (0≤i64.wrap ((i64.wrap (aM*bq.vC))+bV)∧i64.wrap ((i64.wrap (aM*bq.vC))+bV)<(((bq.vV).length:Nat):Int)∧i64.wrap ((i64.wrap (aM*bq.vC))+bV)<((gj).length:Int)) (bnd (eh ua ((gj)[(i64.wrap ((i64.wrap (aM*bq.vC))+bV)).toNat]!)) fun zf=>bnd (lw ((bq.vV)[(i64.wrap ((i64.wrap (aY*bq.vC))+bV)).toNat]!) zf) fun Ij=>gd (0≤i64.wrap ((i64.wrap (aY*bq.vC))+bV)∧i64.wrap ((i64.wrap (aY*bq.vC))+bV)<(((bq.vV).length:Nat):Int)∧i64.wrap ((i64.wrap (aY*bq.vC))+bV)<((gj).length:Int)) (bnd (some ((gj).set ((i64.wrap ((i64.wrap (aY*bq.vC))+bV)).toNat) Ij)) fun x38=>some (.inl (i64.wrap (bV+(1:Int)),x38)))))) (some (.inr gj))
def fe(bq:an)(aM:Int)(cR:Int):Int×(List ai)→Option ((Int×(List ai))⊕((List ai))):=fun (aY,rB)=>cnd (decide (aY<bq.vR)) (bnd (S:=(List ai)) (gd (0≤i64.wrap ((i64.wrap (aY*bq.vC))+cR)∧i64.wrap ((i64.wrap (aY*bq.vC))+cR)<((bq.vV).length:Int)) (bnd (some ((bq.vV)[(i64.wrap ((i64.wrap (aY*bq.vC))+cR)).toNat]!)) fun ua=>bnd (S:=Bool) (cnd (decide (aY=aM)) (some (true)) (bnd (gA ua) fun xx=>some (decide (xx=(0:Int))))) fun gv=>cnd gv (some (rB)) (bnd (aK (fc bq aM aY ua) ((0:Int),rB)) fun qa=>some (qa)))) fun j9=>some (.inl (i64.wrap (aY+(1:Int)),j9))) (some (.inr rB))
def g9(bq:an)(aM:Int)(cR:Int):Option an:=gd (0<(bq.vV).length) (gd ((bq.vV).length*136≤140737488355328) (gd (0≤i64.wrap ((i64.wrap (aM*bq.vC))+cR)∧i64.wrap ((i64.wrap (aM*bq.vC))+cR)<((bq.vV).length:Int)) (bnd (some ((bq.vV)[(i64.wrap ((i64.wrap (aM*bq.vC))+cR)).toNat]!)) fun x5=>bnd (aK (ff bq aM x5) ((0:Int),bq.vV)) fun bw=>bnd (aK (fe bq aM cR) ((0:Int),bw)) fun i6=>gd ((bq.vV).length=(i6).length) (some (⟨bq.vR,bq.vC,i6⟩:an)))))
theorem xz {bq:an}{aM:Int}{cR:Int}{r:an}(h:g9 bq aM cR=some r):HC prog 68 [dG aH bq,dI .i64 aM,dI .i64 cR] ⟨[],[],0⟩ (.ag [dI .i64 r.vR,dI .i64 r.vC,.gw 0 36 ((r.vV).length)]) (⟨[(0,dC ((cW ae).f r.vV))],[],1⟩):=by
 refine HC.ofX (rs:=[.cell 6 24]) tok func68 rfl rfl (b7 rfl) rfl (fun cx hx h0=>?_)
 simp only[fj,Nat.reduceAdd,bB]
 unfold g9 at h
 refine rs hx fun K hK=>?_
 refine s1 (d:=.pt 0 0) fC ?_
 refine s1 (d:=.pt 1 0) (aO aq) ?_
 refine nl hK ?_
 refine AW.seq ?_
 obtain⟨zQ,h⟩:=am h
 obtain⟨rk,h⟩:=am h
 refine jn (PE cx .normal (fun (_:Unit)=>[(1,dI .i64 aM),(2,dI .i64 cR),(3,.pt 0 0),(6,.pt 1 0),(7,.pt 2 0)]) (fun (_:Unit)=>⟨[(0,[dI .i64 bq.vR,dI .i64 bq.vC,dL ae bq.vV]),(1,[dI .i64 (0:Int),dI .i64 (0:Int),dN]),(2,[dI .i64 bq.vR,dI .i64 bq.vC,.gw 3 36 ((bq.vV).length)]),(3,dC ((cW ae).f bq.vV))],[],4⟩) ()) ?_ ?_
 refine dw (DW.split 4 9 (by decide) ?_ ?_)
 refine DW.split 7 9 (by decide) ?_ ?_
 refine dwg [] [0,1,2,3,4,5,6,7,8,9,10] hx (by kernel_rfl) (by kernel_rfl) (by kernel_rfl) fun K hK=>?_
 dsimp only[dt,lf,li,List.map]
 iterate 4 refine sbr ?_
 refine q1 (d:=dF ae ([]:List ai)) (zL tok aF aC) ?_
 iterate 2 refine sbr ?_
 refine q1 (d:=.gw 2 36 ((bq.vV).length)) (hp':=⟨[(2,dC ((cW ae).f bq.vV)),(1,[dI .i64 (0:Int),dI .i64 (0:Int),dN]),(0,[dI .i64 bq.vR,dI .i64 bq.vC,dL ae bq.vV])],[],3⟩) (GH (c:=ae) (m:=bq.vV) tok aF aC rk zQ (qn.l _ _) (.inr rfl)) ?_
 refine s1 (d:=.ag [dI .i64 bq.vR,dI .i64 bq.vC,.gw 2 36 ((bq.vV).length)]) (aR aq) ?_
 refine s1 (d:=.pt 3 0) (aO aq) ?_
 refine s0 (bu (ds':=[dI .i64 bq.vR,dI .i64 bq.vC,.gw 2 36 ((bq.vV).length)]) aq) ?_
 exact .nil (hK _ _ (pe0 h0 [0,1,3,2]))
 refine dwg [] [0,1,2,3,4,5,6,9,7,8,10] hx (by kernel_rfl) (by kernel_rfl) (by kernel_rfl) fun K hK=>?_
 dsimp only[dt,lf,li,List.map]
 iterate 4 refine sbr ?_
 refine q1 (d:=dF ae ([]:List ai)) (zL tok aF aC) ?_
 iterate 2 refine sbr ?_
 refine s1 (d:=.pt 2 0) (aO aq) ?_
 refine q1 (d:=.gw 3 36 ((bq.vV).length)) (hp':=⟨[(3,dC ((cW ae).f bq.vV)),(2,[dI .i64 (0:Int),dI .i64 (0:Int),dN]),(1,[dI .i64 (0:Int),dI .i64 (0:Int),dN]),(0,[dI .i64 bq.vR,dI .i64 bq.vC,dL ae bq.vV])],[],4⟩) (GH (c:=ae) (m:=bq.vV) tok aF aC rk zQ (qn.l _ _) (.inr rfl)) ?_
 refine s1 (d:=.ag [dI .i64 bq.vR,dI .i64 bq.vC,.gw 3 36 ((bq.vV).length)]) (aR aq) ?_
 refine s0 (bu (ds':=[dI .i64 bq.vR,dI .i64 bq.vC,.gw 3 36 ((bq.vV).length)]) aq) ?_
 exact .nil (hK _ _ (pe0 h0 [0,1,2,3]))
 refine dwg [] [0,1,2,3,5,6,9,4,7,8,10] hx (by kernel_rfl) (by kernel_rfl) (by kernel_rfl) fun K hK=>?_
 dsimp only[dt,lf,li,List.map]
 iterate 6 refine sbr ?_
 refine s1 (d:=.pt 2 0) (aO aq) ?_
 refine q1 (d:=dF ae ([]:List ai)) (zL tok aF aC) ?_
 refine q1 (d:=.gw 3 36 ((bq.vV).length)) (hp':=⟨[(3,dC ((cW ae).f bq.vV)),(2,[dI .i64 (0:Int),dI .i64 (0:Int),dN]),(1,[dI .i64 (0:Int),dI .i64 (0:Int),dN]),(0,[dI .i64 bq.vR,dI .i64 bq.vC,dL ae bq.vV])],[],4⟩) (GH (c:=ae) (m:=bq.vV) tok aF aC rk zQ (qn.l _ _) (.inr rfl)) ?_
 refine s1 (d:=.ag [dI .i64 bq.vR,dI .i64 bq.vC,.gw 3 36 ((bq.vV).length)]) (aR aq) ?_
 refine s0 (bu (ds':=[dI .i64 bq.vR,dI .i64 bq.vC,.gw 3 36 ((bq.vV).length)]) aq) ?_
 exact .nil (hK _ _ (pe0 h0 [0,1,2,3]))
 refine lw0 ?_
 refine rs hx fun K hK=>?_
 iterate 8 refine sbr ?_
 obtain⟨Ou,h⟩:=am h
 have hn4:(i64.wrap ((i64.wrap (aM*bq.vC))+cR)).toNat<(bq.vV).length:=by omega
 refine sbr ?_
 refine s1 (d:=dG ae ((bq.vV)[(i64.wrap ((i64.wrap (aM*bq.vC))+cR)).toNat]!)) (gk (c:=ae) (l:=bq.vV) (n:=(i64.wrap ((i64.wrap (aM*bq.vC))+cR)).toNat) (o:=0) aC hn4 (cH _ _ rfl)) ?_
 refine sbr ?_
 obtain⟨x5,Ce,h⟩:=ah h
 replace Ce:=d5 Ce
 refine s0 (fq (b':=(bq.vV)[(i64.wrap ((i64.wrap (aM*bq.vC))+cR)).toNat]!) (aX.id _ _) aC Ce) ?_
 refine nl hK ?_
 refine AW.seq (ra hx ?_)
 refine AW.block ?_
 obtain⟨bw,hy,h⟩:=ah h
 refine lp (S:=Int×(List ai)) (X:=(List ai)) (fun (bo,bm)=>[(1,dI .i64 aM),(2,dI .i64 cR),(3,.pt 0 0),(6,.pt 1 0),(7,.pt 2 0),(8,.pt 3 0),(9,dI .i64 bo)]) (fun (bo,bm)=>⟨[(0,[dI .i64 bq.vR,dI .i64 bq.vC,dL ae bq.vV]),(1,[dI .i64 (0:Int),dI .i64 (0:Int),dN]),(2,[dI .i64 bq.vR,dI .i64 bq.vC,.gw 4 36 ((bq.vV).length)]),(3,dC (ae.f x5)),(4,dC ((cW ae).f bm))],[],5⟩) (PE cx (.exit 0) (fun bw=>[(1,dI .i64 aM),(2,dI .i64 cR),(3,.pt 0 0),(6,.pt 1 0),(7,.pt 2 0)]) fun bw=>⟨[(0,[dI .i64 bq.vR,dI .i64 bq.vC,dL ae bq.vV]),(1,[dI .i64 (0:Int),dI .i64 (0:Int),dN]),(2,[dI .i64 bq.vR,dI .i64 bq.vC,.gw 3 36 ((bq.vV).length)]),(3,dC ((cW ae).f bw))],[],4⟩) hy ?_ ?_ ?_
 exact wk0 h0 [0,1,2,4,3]
 clear hy h
 rintro⟨bo,bm⟩ y h
 dsimp only[ff] at h
 refine AW.seq (rar hx ?_)
 refine cdh h rfl (fun tX h=>?_) (fun tX h=>?_)
 refine AW.skip (AW.seq (AW.block (rqd [112] hx fun K hK=>?_)))
 iterate 16 refine sbr ?_
 obtain⟨O4,h⟩:=am h
 have Ok:(i64.wrap ((i64.wrap (aM*bq.vC))+bo)).toNat<(bq.vV).length:=by omega
 refine sbr ?_
 refine s1 (d:=dG ae ((bq.vV)[(i64.wrap ((i64.wrap (aM*bq.vC))+bo)).toNat]!)) (gk (c:=ae) (l:=bq.vV) (n:=(i64.wrap ((i64.wrap (aM*bq.vC))+bo)).toNat) (o:=0) aC Ok (cH _ _ rfl)) ?_
 refine mbr ?_
 refine cqb h wg fun iM h=>?_
 obtain⟨Cl,h⟩:=am h
 have QP:(i64.wrap ((i64.wrap (aM*bq.vC))+bo)).toNat<(bm).length:=by omega
 refine sG (nr ⟨Cl.1,Cl.2.1⟩ aF aC) ?_
 obtain⟨nV,rJ,h⟩:=ah h
 replace rJ:=d5 rJ
 refine s0 (wX (b':=iM) (aX.seqW ae bm ((i64.wrap ((i64.wrap (aM*bq.vC))+bo)).toNat) QP) aC rJ) ?_
 refine nl hK ?_
 refine rb hx ?_
 exact pel h h0 [0,1,2,3,4]
 exact AW.exit (per h h0 [0,1,2,4])
 refine lw0 ?_
 refine AW.seq (ra hx ?_)
 refine AW.block ?_
 obtain⟨i6,hy,h⟩:=ah h
 refine lp (S:=Int×(List ai)) (X:=(List ai)) (fun (aY,rB)=>[(1,dI .i64 aM),(2,dI .i64 cR),(3,.pt 0 0),(6,.pt 1 0),(7,.pt 2 0),(10,dI .i64 aY)]) (fun (aY,rB)=>⟨[(0,[dI .i64 bq.vR,dI .i64 bq.vC,dL ae bq.vV]),(1,[dI .i64 (0:Int),dI .i64 (0:Int),dN]),(2,[dI .i64 bq.vR,dI .i64 bq.vC,.gw 3 36 ((bq.vV).length)]),(3,dC ((cW ae).f rB))],[],4⟩) (PE cx (.exit 2) (fun i6=>[(6,.pt 0 0),(7,.pt 1 0)]) fun i6=>⟨[(0,[dI .i64 (0:Int),dI .i64 (0:Int),dN]),(1,[dI .i64 bq.vR,dI .i64 bq.vC,.gw 2 36 ((bq.vV).length)]),(2,dC ((cW ae).f i6))],[],3⟩) hy ?_ ?_ ?_
 exact wk0 h0 [0,1,2,3]
 clear hy h
 rintro⟨aY,rB⟩ y h
 dsimp only[fe] at h
 refine AW.seq (rar hx ?_)
 refine cdh h rfl (fun yF h=>?_) (fun yF h=>?_)
 refine AW.skip (AW.seq ?_)
 obtain⟨j9,hy,h⟩:=ah h
 refine jn ((PE cx .normal (fun j9=>[(1,dI .i64 aM),(2,dI .i64 cR),(3,.pt 0 0),(6,.pt 1 0),(7,.pt 2 0),(10,dI .i64 aY)]) fun j9=>⟨[(0,[dI .i64 bq.vR,dI .i64 bq.vC,dL ae bq.vV]),(1,[dI .i64 (0:Int),dI .i64 (0:Int),dN]),(2,[dI .i64 bq.vR,dI .i64 bq.vC,.gw 3 36 ((bq.vV).length)]),(3,dC ((cW ae).f j9))],[],4⟩) j9) ?_ ?_
 replace h:=hy
 refine AW.block (rs hx fun K hK=>?_)
 iterate 8 refine sbr ?_
 obtain⟨hc18,h⟩:=am h
 have hn19:(i64.wrap ((i64.wrap (aY*bq.vC))+cR)).toNat<(bq.vV).length:=by omega
 refine sbr ?_
 refine s1 (d:=dG ae ((bq.vV)[(i64.wrap ((i64.wrap (aY*bq.vC))+cR)).toNat]!)) (gk (c:=ae) (l:=bq.vV) (n:=(i64.wrap ((i64.wrap (aY*bq.vC))+cR)).toNat) (o:=0) aC hn19 (cH _ _ rfl)) ?_
 refine sbr ?_
 obtain⟨ua,K4,h⟩:=ah h
 replace K4:=d5 K4
 refine s0 (fq (b':=(bq.vV)[(i64.wrap ((i64.wrap (aY*bq.vC))+cR)).toNat]!) (aX.id _ _) aC K4) ?_
 refine nl hK ?_
 iterate 2 refine AW.seq ?_
 obtain⟨gv,hy,h⟩:=ah h
 refine jn ((PE cx .normal (fun gv=>[(1,dI .i64 aM),(2,dI .i64 cR),(3,.pt 0 0),(6,.pt 1 0),(7,.pt 2 0),(10,dI .i64 aY),(11,.pt 3 0),(82,dB gv)]) fun gv=>⟨[(0,[dI .i64 bq.vR,dI .i64 bq.vC,dL ae bq.vV]),(1,[dI .i64 (0:Int),dI .i64 (0:Int),dN]),(2,[dI .i64 bq.vR,dI .i64 bq.vC,.gw 4 36 ((bq.vV).length)]),(3,dC (ae.f ua)),(4,dC ((cW ae).f rB))],[],5⟩) gv) ?_ ?_
 replace h:=hy
 refine rq hx fun K hK=>?_
 refine mbr ?_
 rcases bE h with⟨Hd,h⟩|⟨Hd,h⟩
 refine nbr hK ?_
 exact pe1 h h0 [0,1,2,4,3]
 refine gbr ?_
 refine gcb h pq fun xx h=>?_
 refine nbr hK ?_
 exact pe1 h h0 [0,1,2,4,3]
 refine lw0 ?_
 refine cdh h rfl (fun Lu h=>?_) (fun Lu h=>?_)
 refine AW.exit ?_
 try dsimp only
 try simp only[bP,reduceIte,Nat.reduceEqDiff,reduceCtorEq]
 exact pe1 h h0 [0,1,2,4]
 refine AW.skip (ra hx ?_)
 refine AW.block ?_
 obtain⟨qa,hy,h⟩:=ah h
 refine lp (S:=Int×(List ai)) (X:=(List ai)) (fun (bV,gj)=>[(1,dI .i64 aM),(2,dI .i64 cR),(3,.pt 0 0),(6,.pt 1 0),(7,.pt 2 0),(10,dI .i64 aY),(11,.pt 3 0),(12,dI .i64 bV)]) (fun (bV,gj)=>⟨[(0,[dI .i64 bq.vR,dI .i64 bq.vC,dL ae bq.vV]),(1,[dI .i64 (0:Int),dI .i64 (0:Int),dN]),(2,[dI .i64 bq.vR,dI .i64 bq.vC,.gw 4 36 ((bq.vV).length)]),(3,dC (ae.f ua)),(4,dC ((cW ae).f gj))],[],5⟩) (PE cx (.exit 4) (fun qa=>[(1,dI .i64 aM),(2,dI .i64 cR),(3,.pt 0 0),(6,.pt 1 0),(7,.pt 2 0),(10,dI .i64 aY)]) fun qa=>⟨[(0,[dI .i64 bq.vR,dI .i64 bq.vC,dL ae bq.vV]),(1,[dI .i64 (0:Int),dI .i64 (0:Int),dN]),(2,[dI .i64 bq.vR,dI .i64 bq.vC,.gw 3 36 ((bq.vV).length)]),(3,dC ((cW ae).f qa))],[],4⟩) hy ?_ ?_ ?_
 exact wk0 h0 [0,1,2,3,4]
 clear hy h
 rintro⟨bV,gj⟩ y h
 dsimp only[fc] at h
 refine AW.seq (rar hx ?_)
 refine cdh h rfl (fun xH h=>?_) (fun xH h=>?_)
 refine AW.skip (AW.seq (AW.block (rqd [71,113] hx fun K hK=>?_)))
 iterate 16 refine sbr ?_
 obtain⟨hc28,h⟩:=am h
 have QK:(i64.wrap ((i64.wrap (aY*bq.vC))+bV)).toNat<(bq.vV).length:=by omega
 refine sbr ?_
 refine s1 (d:=dG ae ((bq.vV)[(i64.wrap ((i64.wrap (aY*bq.vC))+bV)).toNat]!)) (gk (c:=ae) (l:=bq.vV) (n:=(i64.wrap ((i64.wrap (aY*bq.vC))+bV)).toNat) (o:=0) aC QK (cH _ _ rfl)) ?_
 iterate 9 refine sbr ?_
 obtain⟨Ll,h⟩:=am h
 have hn31:(i64.wrap ((i64.wrap (aM*bq.vC))+bV)).toNat<(gj).length:=by omega
 refine sG (nr ⟨Ll.1,Ll.2.1⟩ aF aC) ?_
 refine s1 (nq (aX.seqW ae gj ((i64.wrap ((i64.wrap (aM*bq.vC))+bV)).toNat) hn31) aC) ?_
 refine cqb h q7 fun zf h=>?_
 refine cqb h we fun Ij h=>?_
 obtain⟨Ot,h⟩:=am h
 have QJ:(i64.wrap ((i64.wrap (aY*bq.vC))+bV)).toNat<(gj).length:=by omega
 refine sG (nr ⟨Ot.1,Ot.2.1⟩ aF aC) ?_
 obtain⟨x38,K2,h⟩:=ah h
 replace K2:=d5 K2
 refine s0 (wX (b':=Ij) (aX.seqW ae gj ((i64.wrap ((i64.wrap (aY*bq.vC))+bV)).toNat) QJ) aC K2) ?_
 refine nl hK ?_
 refine rb hx ?_
 exact pel h h0 [0,1,2,3,4]
 exact AW.exit (per h h0 [0,1,2,4])
 rintro ex tm' hp' ⟨rfl,hw⟩
 try dsimp only
 try simp only[bP,reduceIte,Nat.reduceEqDiff,reduceCtorEq]
 cases h
 exact PE.i (Wk.trans hw (wk h0 [0,1,2,3] (wR rfl (wR rfl (wR rfl (wR rfl (wR rfl (wR rfl wTn)))))) (vR rfl (vR rfl (vR rfl (vC rfl wVn)))) wLn))
 refine lw0 ?_
 refine rb hx ?_
 exact pel h h0 [0,1,2,3]
 exact AW.exit (per h h0 [1,2,3])
 refine lw0 ?_
 refine rs hx fun K hK=>?_
 refine s1 (d:=.ag [dI .i64 bq.vR,dI .i64 bq.vC,.gw 2 36 ((bq.vV).length)]) (bp aq) ?_
 refine s0 (bu (ds':=[dI .i64 bq.vR,dI .i64 bq.vC,.gw 2 36 ((bq.vV).length)]) aq) ?_
 refine nl hK ?_
 obtain⟨hc43,h⟩:=am h
 refine AW.ret ?_
 cases h
 exact⟨_,bN (es:=[dI .i64 bq.vR,dI .i64 bq.vC,.gw 2 36 ((bq.vV).length)]) rfl aq rfl rfl (ltb rfl) (leb rfl) rfl rfl,qg.varA (A:=[dI .i64 bq.vR,dI .i64 bq.vC]) (C:=[]) h0 (xs:=(cW ae).f i6) rfl hc43 (qn.l _ _) rfl rfl⟩
def fg(bq:an)(aQ:Int)(ka:List ai)(x9:Int):Int×(List ai)→Option ((Int×(List ai))⊕((List ai))):=fun (fQ,qc)=>cnd (decide (fQ<bq.vC)) (gd (0≤i64.wrap ((i64.wrap (x9*bq.vC))+fQ)∧i64.wrap ((i64.wrap (x9*bq.vC))+fQ)<(((ka).length:Nat):Int)∧i64.wrap ((i64.wrap (x9*bq.vC))+fQ)<((qc).length:Int)) (bnd (some ((qc)[(i64.wrap ((i64.wrap (x9*bq.vC))+fQ)).toNat]!)) fun uL=>gd (0≤i64.wrap ((i64.wrap (aQ*bq.vC))+fQ)∧i64.wrap ((i64.wrap (aQ*bq.vC))+fQ)<(((ka).length:Nat):Int)∧i64.wrap ((i64.wrap (aQ*bq.vC))+fQ)<((qc).length:Int)) (gd (0≤i64.wrap ((i64.wrap (x9*bq.vC))+fQ)∧i64.wrap ((i64.wrap (x9*bq.vC))+fQ)<(((ka).length:Nat):Int)∧i64.wrap ((i64.wrap (x9*bq.vC))+fQ)<((qc).length:Int)) (bnd (some ((qc).set ((i64.wrap ((i64.wrap (x9*bq.vC))+fQ)).toNat) ((qc)[(i64.wrap ((i64.wrap (aQ*bq.vC))+fQ)).toNat]!))) fun te=>gd (0≤i64.wrap ((i64.wrap (aQ*bq.vC))+fQ)∧i64.wrap ((i64.wrap (aQ*bq.vC))+fQ)<(((ka).length:Nat):Int)∧i64.wrap ((i64.wrap (aQ*bq.vC))+fQ)<((te).length:Int)) (bnd (some ((te).set ((i64.wrap ((i64.wrap (aQ*bq.vC))+fQ)).toNat) uL)) fun Am=>some (.inl (i64.wrap (fQ+(1:Int)),Am))))))) (some (.inr qc))
def cM(bq:an):Int×Int×Int×Int×(List Int)×(List ai)×Bool×(List ai)→Option ((Int×Int×Int×Int×(List Int)×(List ai)×Bool×(List ai))⊕(b8⊕(Int×Int×(List Int)×(List ai)×Bool×(List ai)))):=fun (aQ,bx,cZ,fR,eJ,fB,rC,ka)=>bnd (S:=Bool) (cnd (decide (bx<bq.vC)) (some (decide (aQ<bq.vR))) (some (false))) fun uD=>cnd uD (bnd (S:=(Int×Int×Int×(List Int)×(List ai)×Bool×(List ai))⊕b8) (bnd (jj (⟨cZ,fR,ka⟩:an) aQ bx) fun x9=>cnd (decide (x9<(0:Int))) (some (.inl (aQ,cZ,fR,eJ,fB,rC,ka))) (bnd (aK (fg bq aQ ka x9) ((0:Int),ka)) fun iy=>gd (0≤i64.wrap ((i64.wrap (aQ*bq.vC))+bx)∧i64.wrap ((i64.wrap (aQ*bq.vC))+bx)<(((ka).length:Nat):Int)∧i64.wrap ((i64.wrap (aQ*bq.vC))+bx)<((iy).length:Int)) (gd ((fB++[(iy)[(i64.wrap ((i64.wrap (aQ*bq.vC))+bx)).toNat]!]).length*136≤140737488355328) (gd ((ka).length=(iy).length) (bnd (g9 (⟨cZ,fR,iy⟩:an) aQ bx) fun zf=>bnd (jC zf.vV) fun Ij=>cnd (!Ij) (some (.inr (⟨(⟨(0:Int),(0:Int),([]:List ai)⟩:an),([]:List Int),([]:List ai),false,(30:Int),(0:Int)⟩:b8))) (gd ((eJ++[bx]).length*8≤140737488355328) (some (.inl (i64.wrap (aQ+(1:Int)),zf.vR,zf.vC,eJ++[bx],fB++[(iy)[(i64.wrap ((i64.wrap (aQ*bq.vC))+bx)).toNat]!],!(rC == (decide (x9≠aQ))),zf.vV))))))))) fun y38=>match y38 with| .inl (cF,eO,vT,uC,vS,Kf,Gg)=>some (.inl (cF,i64.wrap (bx+(1:Int)),eO,vT,uC,vS,Kf,Gg))| .inr r=>some (.inr (.inl r))) (some (.inr (.inr (cZ,fR,eJ,fB,rC,ka))))
def nG(bq:an):Option b8:=bnd (cz bq) fun x1=>cnd (!x1) (some (⟨(⟨(0:Int),(0:Int),([]:List ai)⟩:an),([]:List Int),([]:List ai),false,(1:Int),(0:Int)⟩:b8)) (gd (0<(bq.vV).length) (gd ((bq.vV).length*136≤140737488355328) (bnd (aK (cM bq) ((0:Int),(0:Int),bq.vR,bq.vC,([]:List Int),([]:List ai),false,bq.vV)) fun y39=>match y39 with| .inl r=>some r| .inr (eA,gC,ge,gB,qe,nS)=>some (⟨(⟨eA,gC,nS⟩:an),ge,gB,qe,(0:Int),(0:Int)⟩:b8))))
theorem Ar {bq:an}{r:b8}(h:nG bq=some r):ax prog 18 [dG aH bq] (dG qL r):=by
 refine bn (rs:=[.cell 2 45]) (fun cx hx h0=>?_) func18
 unfold nG at h
 refine rs hx fun K hK=>?_
 refine s1 (d:=.pt 0 0) fC ?_
 refine s1 (d:=.pt 1 0) (aO eb) ?_
 refine nl hK ?_
 refine rs hx fun K hK=>?_
 refine s1 (d:=dG aH bq) (bp aq) ?_
 refine scb h iA fun x1 h=>?_
 refine nbr hK ?_
 refine AW.seq (ra hx ?_)
 refine cdh h rfl (fun cj h=>?_) (fun cj h=>?_)
 refine rs hx fun K hK=>?_
 refine s1 (d:=.ag [dI .i64 (0:Int),dI .i64 (0:Int),dN,dN,dN,dB false,dI .i64 (1:Int),dI .i64 (0:Int)]) (aR eb) ?_
 refine s0 (bu (ds':=[dI .i64 (0:Int),dI .i64 (0:Int),dN,dN,dN,dB false,dI .i64 (1:Int),dI .i64 (0:Int)]) eb) ?_
 refine nl hK ?_
 refine AW.ret ?_
 cases h
 exact dm.mk1 (bN (es:=[dI .i64 (0:Int),dI .i64 (0:Int),dN,dN,dN,dB false,dI .i64 (1:Int),dI .i64 (0:Int)]) rfl eb rfl rfl (ltb rfl) (leb rfl) rfl (.inr (.inr ⟨_,(et (wc (bI _) (wc (bI _) (wc (mW rfl) (wc (mW rfl) (wc (mW rfl) (wc (bI _) (wc (bI _) (wc (bI _) wcn))))))))),rfl,rfl⟩)))
 refine AW.skip (AW.seq ?_)
 obtain⟨Ck,h⟩:=am h
 obtain⟨FQ,h⟩:=am h
 refine jn (PE cx .normal (fun (_:Unit)=>[(1,.pt 0 0),(2,.pt 1 0),(4,.pt 2 0)]) (fun (_:Unit)=>⟨[(0,[dI .i64 bq.vR,dI .i64 bq.vC,dL ae bq.vV]),(1,[dI .i64 (0:Int),dI .i64 (0:Int),dN,dN,dN,dB false,dI .i64 (0:Int),dI .i64 (0:Int)]),(2,[dI .i64 bq.vR,dI .i64 bq.vC,.gw 3 36 ((bq.vV).length),dN,dN,dB false,dI .i64 (0:Int),dI .i64 (0:Int)]),(3,dC ((cW ae).f bq.vV))],[],4⟩) ()) ?_ ?_
 refine dw (DW.split 4 10 (by decide) ?_ ?_)
 refine DW.split 7 10 (by decide) ?_ ?_
 refine dwg [] [0,1,2,3,4,5,6,7,8,9,10,11] hx (by kernel_rfl) (by kernel_rfl) (by kernel_rfl) fun K hK=>?_
 dsimp only[dt,lf,li,List.map]
 iterate 4 refine sbr ?_
 refine q1 (d:=dF ae ([]:List ai)) (zL tok aF aC) ?_
 iterate 2 refine sbr ?_
 refine q1 (d:=.gw 2 36 ((bq.vV).length)) (hp':=⟨[(2,dC ((cW ae).f bq.vV)),(1,[dI .i64 (0:Int),dI .i64 (0:Int),dN,dN,dN,dB false,dI .i64 (0:Int),dI .i64 (0:Int)]),(0,[dI .i64 bq.vR,dI .i64 bq.vC,dL ae bq.vV])],[],3⟩) (GH (c:=ae) (m:=bq.vV) tok aF aC FQ Ck (qn.l _ _) (.inr rfl)) ?_
 refine s1 (d:=.ag [dI .i64 bq.vR,dI .i64 bq.vC,.gw 2 36 ((bq.vV).length)]) (aR aq) ?_
 refine s1 (d:=.ag [dI .i64 bq.vR,dI .i64 bq.vC,.gw 2 36 ((bq.vV).length),dN,dN,dB false,dI .i64 (0:Int),dI .i64 (0:Int)]) (aR eb) ?_
 refine s1 (d:=.pt 3 0) (aO eb) ?_
 refine s0 (bu (ds':=[dI .i64 bq.vR,dI .i64 bq.vC,.gw 2 36 ((bq.vV).length),dN,dN,dB false,dI .i64 (0:Int),dI .i64 (0:Int)]) eb) ?_
 exact .nil (hK _ _ (pe0 h0 [0,1,3,2]))
 refine dwg [] [0,1,2,3,4,5,6,10,7,8,9,11] hx (by kernel_rfl) (by kernel_rfl) (by kernel_rfl) fun K hK=>?_
 dsimp only[dt,lf,li,List.map]
 iterate 4 refine sbr ?_
 refine q1 (d:=dF ae ([]:List ai)) (zL tok aF aC) ?_
 iterate 2 refine sbr ?_
 refine s1 (d:=.pt 2 0) (aO eb) ?_
 refine q1 (d:=.gw 3 36 ((bq.vV).length)) (hp':=⟨[(3,dC ((cW ae).f bq.vV)),(2,[dI .i64 (0:Int),dI .i64 (0:Int),dN,dN,dN,dB false,dI .i64 (0:Int),dI .i64 (0:Int)]),(1,[dI .i64 (0:Int),dI .i64 (0:Int),dN,dN,dN,dB false,dI .i64 (0:Int),dI .i64 (0:Int)]),(0,[dI .i64 bq.vR,dI .i64 bq.vC,dL ae bq.vV])],[],4⟩) (GH (c:=ae) (m:=bq.vV) tok aF aC FQ Ck (qn.l _ _) (.inr rfl)) ?_
 refine s1 (d:=.ag [dI .i64 bq.vR,dI .i64 bq.vC,.gw 3 36 ((bq.vV).length)]) (aR aq) ?_
 refine s1 (d:=.ag [dI .i64 bq.vR,dI .i64 bq.vC,.gw 3 36 ((bq.vV).length),dN,dN,dB false,dI .i64 (0:Int),dI .i64 (0:Int)]) (aR eb) ?_
 refine s0 (bu (ds':=[dI .i64 bq.vR,dI .i64 bq.vC,.gw 3 36 ((bq.vV).length),dN,dN,dB false,dI .i64 (0:Int),dI .i64 (0:Int)]) eb) ?_
 exact .nil (hK _ _ (pe0 h0 [0,1,2,3]))
 refine dwg [] [0,1,2,3,5,6,10,4,7,8,9,11] hx (by kernel_rfl) (by kernel_rfl) (by kernel_rfl) fun K hK=>?_
 dsimp only[dt,lf,li,List.map]
 iterate 6 refine sbr ?_
 refine s1 (d:=.pt 2 0) (aO eb) ?_
 refine q1 (d:=dF ae ([]:List ai)) (zL tok aF aC) ?_
 refine q1 (d:=.gw 3 36 ((bq.vV).length)) (hp':=⟨[(3,dC ((cW ae).f bq.vV)),(2,[dI .i64 (0:Int),dI .i64 (0:Int),dN,dN,dN,dB false,dI .i64 (0:Int),dI .i64 (0:Int)]),(1,[dI .i64 (0:Int),dI .i64 (0:Int),dN,dN,dN,dB false,dI .i64 (0:Int),dI .i64 (0:Int)]),(0,[dI .i64 bq.vR,dI .i64 bq.vC,dL ae bq.vV])],[],4⟩) (GH (c:=ae) (m:=bq.vV) tok aF aC FQ Ck (qn.l _ _) (.inr rfl)) ?_
 refine s1 (d:=.ag [dI .i64 bq.vR,dI .i64 bq.vC,.gw 3 36 ((bq.vV).length)]) (aR aq) ?_
 refine s1 (d:=.ag [dI .i64 bq.vR,dI .i64 bq.vC,.gw 3 36 ((bq.vV).length),dN,dN,dB false,dI .i64 (0:Int),dI .i64 (0:Int)]) (aR eb) ?_
 refine s0 (bu (ds':=[dI .i64 bq.vR,dI .i64 bq.vC,.gw 3 36 ((bq.vV).length),dN,dN,dB false,dI .i64 (0:Int),dI .i64 (0:Int)]) eb) ?_
 exact .nil (hK _ _ (pe0 h0 [0,1,2,3]))
 refine lw0 ?_
 refine ra hx ?_
 refine AW.seq (ra hx ?_)
 refine AW.block ?_
 obtain⟨y,hy,h⟩:=ah h
 refine lp (S:=Int×Int×Int×Int×(List Int)×(List ai)×Bool×(List ai)) (X:=b8⊕(Int×Int×(List Int)×(List ai)×Bool×(List ai))) (fun (aQ,bx,cZ,fR,eJ,fB,rC,ka)=>[(1,.pt 0 0),(2,.pt 1 0),(4,.pt 2 0),(5,dI .i64 aQ),(6,dI .i64 bx)]) (fun (aQ,bx,cZ,fR,eJ,fB,rC,ka)=>⟨[(0,[dI .i64 bq.vR,dI .i64 bq.vC,dL ae bq.vV]),(1,[dI .i64 (0:Int),dI .i64 (0:Int),dN,dN,dN,dB false,dI .i64 (0:Int),dI .i64 (0:Int)]),(2,[dI .i64 cZ,dI .i64 fR,.gw 3 36 ((ka).length),dO 4 (cI .i64) eJ,dO 5 ae fB,dB rC,dI .i64 (0:Int),dI .i64 (0:Int)]),(3,dC ((cW ae).f ka))],[(4,(eJ).length,1,3),(5,(fB).length,36,34)],6⟩) (PS (PR [.cell 2 45] fun r=>dG qL r) (PE cx (.exit 0) (fun (eA,gC,ge,gB,qe,nS)=>[(2,.pt 0 0),(4,.pt 1 0)]) fun (eA,gC,ge,gB,qe,nS)=>⟨[(0,[dI .i64 (0:Int),dI .i64 (0:Int),dN,dN,dN,dB false,dI .i64 (0:Int),dI .i64 (0:Int)]),(1,[dI .i64 eA,dI .i64 gC,.gw 2 36 ((nS).length),dO 3 (cI .i64) ge,dO 4 ae gB,dB qe,dI .i64 (0:Int),dI .i64 (0:Int)]),(2,dC ((cW ae).f nS))],[(3,(ge).length,1,3),(4,(gB).length,36,34)],5⟩)) hy ?_ ?_ ?_
 exact Wk.trans (Wk.nilOwn (ds':=[dI .i64 bq.vR,dI .i64 bq.vC,.gw 3 36 ((bq.vV).length),dO 4 (cI .i64) ([]:List Int),dN,dB false,dI .i64 (0:Int),dI .i64 (0:Int)]) 2 3 3 1) (Wk.trans (Wk.nilOwn (ds':=[dI .i64 bq.vR,dI .i64 bq.vC,.gw 3 36 ((bq.vV).length),dO 4 (cI .i64) ([]:List Int),dO 5 ae ([]:List ai),dB false,dI .i64 (0:Int),dI .i64 (0:Int)]) 2 4 34 36) (wk h0 [0,1,2,3,4,5] (wR rfl (wR rfl (wR rfl (wR rfl (wR rfl wTn))))) (vR rfl (vR rfl (vR rfl (vC rfl wVn)))) (wL rfl rfl (wL rfl rfl wLn))))
 clear hy h
 rintro⟨aQ,bx,cZ,fR,eJ,fB,rC,ka⟩ y h
 dsimp only[cM] at h
 iterate 2 refine AW.seq ?_
 obtain⟨uD,hy,h⟩:=ah h
 refine jn ((PE cx .normal (fun uD=>[(1,.pt 0 0),(2,.pt 1 0),(4,.pt 2 0),(5,dI .i64 aQ),(6,dI .i64 bx),(35,dB uD)]) fun uD=>⟨[(0,[dI .i64 bq.vR,dI .i64 bq.vC,dL ae bq.vV]),(1,[dI .i64 (0:Int),dI .i64 (0:Int),dN,dN,dN,dB false,dI .i64 (0:Int),dI .i64 (0:Int)]),(2,[dI .i64 cZ,dI .i64 fR,.gw 3 36 ((ka).length),dO 4 (cI .i64) eJ,dO 5 ae fB,dB rC,dI .i64 (0:Int),dI .i64 (0:Int)]),(3,dC ((cW ae).f ka))],[(4,(eJ).length,1,3),(5,(fB).length,36,34)],6⟩) uD) ?_ ?_
 replace h:=hy
 refine rq hx fun K hK=>?_
 refine mbr ?_
 rcases bE h with⟨lZ,h⟩|⟨lZ,h⟩
 refine nbr hK ?_
 exact pe1 h h0 [0,1,2,3,4,5]
 refine nbr hK ?_
 exact pe1 h h0 [0,1,2,3,4,5]
 refine lw0 ?_
 refine cdh h rfl (fun Bd h=>?_) (fun Bd h=>?_)
 refine AW.skip (AW.seq ?_)
 obtain⟨y,hy,h⟩:=ah h
 refine jn ((PS (PE cx .normal (fun (cF,eO,vT,uC,vS,Kf,Gg)=>[(1,.pt 0 0),(2,.pt 1 0),(4,.pt 2 0),(5,dI .i64 cF),(6,dI .i64 bx)]) fun (cF,eO,vT,uC,vS,Kf,Gg)=>⟨[(0,[dI .i64 bq.vR,dI .i64 bq.vC,dL ae bq.vV]),(1,[dI .i64 (0:Int),dI .i64 (0:Int),dN,dN,dN,dB false,dI .i64 (0:Int),dI .i64 (0:Int)]),(2,[dI .i64 eO,dI .i64 vT,.gw 3 36 ((Gg).length),dO 4 (cI .i64) uC,dO 5 ae vS,dB Kf,dI .i64 (0:Int),dI .i64 (0:Int)]),(3,dC ((cW ae).f Gg))],[(4,(uC).length,1,3),(5,(vS).length,36,34)],6⟩) (PR [.cell 2 45] fun r=>dG qL r)) y) ?_ ?_
 replace h:=hy
 refine AW.block (rs hx fun K hK=>?_)
 refine sa ?_
 refine s1 (d:=.ag [dI .i64 cZ,dI .i64 fR,.gw 3 36 ((ka).length)]) (bp aq) ?_
 iterate 2 refine sa ?_
 obtain⟨x9,GY,h⟩:=ah h
 refine sF (vB GY) (ARs.cons (AR.ag (ARs.cons (AR.le (ao _) rfl) (ARs.cons (AR.le (ao _) rfl) (ARs.cons (AR.gwW (c:=ae) rfl rfl) ARs.nil)))) (ARs.cons (AR.le (ao _) rfl) (ARs.cons (AR.le (ao _) rfl) ARs.nil))) rfl ?_
 refine nbr hK ?_
 refine AW.seq (ra hx ?_)
 refine cdh h rfl (fun Hh h=>?_) (fun Hh h=>?_)
 refine AW.exit ?_
 try dsimp only
 try simp only[bP,reduceIte,Nat.reduceEqDiff,reduceCtorEq]
 exact pel h h0 [0,1,2,3,4,5]
 refine AW.skip (AW.seq (ra hx ?_))
 refine AW.block ?_
 obtain⟨iy,hy,h⟩:=ah h
 refine lp (S:=Int×(List ai)) (X:=(List ai)) (fun (fQ,qc)=>[(1,.pt 0 0),(2,.pt 1 0),(4,.pt 2 0),(5,dI .i64 aQ),(6,dI .i64 bx),(7,dI .i64 x9),(8,dI .i64 fQ)]) (fun (fQ,qc)=>⟨[(0,[dI .i64 bq.vR,dI .i64 bq.vC,dL ae bq.vV]),(1,[dI .i64 (0:Int),dI .i64 (0:Int),dN,dN,dN,dB false,dI .i64 (0:Int),dI .i64 (0:Int)]),(2,[dI .i64 cZ,dI .i64 fR,.gw 3 36 ((ka).length),dO 4 (cI .i64) eJ,dO 5 ae fB,dB rC,dI .i64 (0:Int),dI .i64 (0:Int)]),(3,dC ((cW ae).f qc))],[(4,(eJ).length,1,3),(5,(fB).length,36,34)],6⟩) (PE cx (.exit 2) (fun iy=>[(1,.pt 0 0),(2,.pt 1 0),(4,.pt 2 0),(5,dI .i64 aQ),(6,dI .i64 bx),(7,dI .i64 x9)]) fun iy=>⟨[(0,[dI .i64 bq.vR,dI .i64 bq.vC,dL ae bq.vV]),(1,[dI .i64 (0:Int),dI .i64 (0:Int),dN,dN,dN,dB false,dI .i64 (0:Int),dI .i64 (0:Int)]),(2,[dI .i64 cZ,dI .i64 fR,.gw 3 36 ((ka).length),dO 4 (cI .i64) eJ,dO 5 ae fB,dB rC,dI .i64 (0:Int),dI .i64 (0:Int)]),(3,dC ((cW ae).f iy))],[(4,(eJ).length,1,3),(5,(fB).length,36,34)],6⟩) hy ?_ ?_ ?_
 exact wk0 h0 [0,1,2,3,4,5]
 clear hy h
 rintro⟨fQ,qc⟩ y h
 dsimp only[fg] at h
 refine AW.seq (rar hx ?_)
 refine cdh h rfl (fun wB h=>?_) (fun wB h=>?_)
 refine AW.skip (AW.seq (AW.block (rs hx fun K hK=>?_)))
 iterate 9 refine sbr ?_
 obtain⟨Ln,h⟩:=am h
 have hn14:(i64.wrap ((i64.wrap (x9*bq.vC))+fQ)).toNat<(qc).length:=by omega
 refine sG (nr ⟨Ln.1,Ln.2.1⟩ aF aC) ?_
 refine s1 (nq (aX.seqW ae qc ((i64.wrap ((i64.wrap (x9*bq.vC))+fQ)).toNat) hn14) aC) ?_
 refine sbr ?_
 obtain⟨uL,K5,h⟩:=ah h
 replace K5:=d5 K5
 refine s0 (fq (b':=(qc)[(i64.wrap ((i64.wrap (x9*bq.vC))+fQ)).toNat]!) (aX.id _ _) aC K5) ?_
 refine nl hK ?_
 refine rsd [] hx fun K hK=>?_
 iterate 18 refine sbr ?_
 obtain⟨Ow,h⟩:=am h
 have QN:(i64.wrap ((i64.wrap (aQ*bq.vC))+fQ)).toNat<(qc).length:=by omega
 refine sG (nr ⟨Ow.1,Ow.2.1⟩ aF aC) ?_
 refine s1 (nq (aX.seqW ae qc ((i64.wrap ((i64.wrap (aQ*bq.vC))+fQ)).toNat) QN) aC) ?_
 obtain⟨Lm,h⟩:=am h
 have Ld:(i64.wrap ((i64.wrap (x9*bq.vC))+fQ)).toNat<(qc).length:=by omega
 refine sG (nr ⟨Lm.1,Lm.2.1⟩ aF aC) ?_
 obtain⟨te,GX,h⟩:=ah h
 replace GX:=d5 GX
 refine s0 (wX (b':=(qc)[(i64.wrap ((i64.wrap (aQ*bq.vC))+fQ)).toNat]!) (aX.seqW ae qc ((i64.wrap ((i64.wrap (x9*bq.vC))+fQ)).toNat) Ld) aC GX) ?_
 refine nl hK ?_
 refine rq hx fun K hK=>?_
 iterate 10 refine sbr ?_
 obtain⟨Fd,h⟩:=am h
 have QM:(i64.wrap ((i64.wrap (aQ*bq.vC))+fQ)).toNat<(te).length:=by omega
 refine sG (nr ⟨Fd.1,Fd.2.1⟩ aF aC) ?_
 obtain⟨Am,Qo,h⟩:=ah h
 replace Qo:=d5 Qo
 refine s0 (wX (b':=uL) (aX.seqW ae te ((i64.wrap ((i64.wrap (aQ*bq.vC))+fQ)).toNat) QM) aC Qo) ?_
 refine nl hK ?_
 refine rb hx ?_
 exact pel h h0 [0,1,2,3,4,5]
 exact AW.exit (per h h0 [0,1,2,3,4,5])
 refine lw0 ?_
 refine rs hx fun K hK=>?_
 iterate 7 refine sbr ?_
 refine s0 (bu (ds':=[dI .i64 cZ,dI .i64 fR,.gw 3 36 ((ka).length),dO 4 (cI .i64) eJ,dO 5 ae fB,dB (!(rC == (decide (x9≠aQ)))),dI .i64 (0:Int),dI .i64 (0:Int)]) sD) ?_
 refine nl hK ?_
 refine rsd [] hx fun K hK=>?_
 iterate 11 refine sbr ?_
 obtain⟨hc28,h⟩:=am h
 have QK:(i64.wrap ((i64.wrap (aQ*bq.vC))+bx)).toNat<(iy).length:=by omega
 refine sG (nr ⟨hc28.1,hc28.2.1⟩ aF aC) ?_
 refine s1 (nq (aX.seqW ae iy ((i64.wrap ((i64.wrap (aQ*bq.vC))+bx)).toNat) QK) aC) ?_
 refine s1 (mM ([(iy)[(i64.wrap ((i64.wrap (aQ*bq.vC))+bx)).toNat]!]:List ai) ae aF aC) ?_
 obtain⟨Ll,h⟩:=am h
 refine s1 (d:=dO 5 ae (fB++[(iy)[(i64.wrap ((i64.wrap (aQ*bq.vC))+bx)).toNat]!])) (eD aF aC Ll) ?_
 refine sa ?_
 refine s0 (bu (ds':=[dI .i64 cZ,dI .i64 fR,.gw 3 36 ((ka).length),dO 4 (cI .i64) eJ,dO 5 ae (fB++[(iy)[(i64.wrap ((i64.wrap (aQ*bq.vC))+bx)).toNat]!]),dB (!(rC == (decide (x9≠aQ)))),dI .i64 (0:Int),dI .i64 (0:Int)]) aF) ?_
 refine nl hK ?_
 refine rs hx fun K hK=>?_
 refine sa ?_
 refine s1 (d:=.ag [dI .i64 cZ,dI .i64 fR,.gw 3 36 ((ka).length)]) (bp aq) ?_
 iterate 2 refine sa ?_
 obtain⟨hc31,h⟩:=am h
 obtain⟨zf,hx33,h⟩:=ah h
 refine sC0 (d:=.ag [dI .i64 zf.vR,dI .i64 zf.vC,.gw 6 36 ((zf.vV).length)]) (hp':=⟨[(6,dC ((cW ae).f zf.vV)),(2,[dI .i64 cZ,dI .i64 fR,.gw 3 36 ((ka).length),dO 4 (cI .i64) eJ,dO 5 ae (fB++[(iy)[(i64.wrap ((i64.wrap (aQ*bq.vC))+bx)).toNat]!]),dB (!(rC == (decide (x9≠aQ)))),dI .i64 (0:Int),dI .i64 (0:Int)]),(2,[dI .i64 cZ,dI .i64 fR,.gw 3 36 ((ka).length),dO 4 (cI .i64) eJ,dO 5 ae fB,dB (!(rC == (decide (x9≠aQ)))),dI .i64 (0:Int),dI .i64 (0:Int)]),(0,[dI .i64 bq.vR,dI .i64 bq.vC,dL ae bq.vV]),(1,[dI .i64 (0:Int),dI .i64 (0:Int),dN,dN,dN,dB false,dI .i64 (0:Int),dI .i64 (0:Int)]),(2,[dI .i64 cZ,dI .i64 fR,.gw 3 36 ((ka).length),dO 4 (cI .i64) eJ,dO 5 ae fB,dB rC,dI .i64 (0:Int),dI .i64 (0:Int)]),(3,dC ((cW ae).f iy))],[(5,(fB++[(iy)[(i64.wrap ((i64.wrap (aQ*bq.vC))+bx)).toNat]!]).length,36,34),(4,(eJ).length,1,3),(5,(fB).length,36,34)],7⟩) (xz hx33) (ARs.cons (AR.ag (ARs.cons (AR.le (ao _) rfl) (ARs.cons (AR.le (ao _) rfl) (ARs.cons (AR.gwW (c:=ae) rfl hc31) ARs.nil)))) (ARs.cons (AR.le (ao _) rfl) (ARs.cons (AR.le (ao _) rfl) ARs.nil))) (qn.l _ _) ?_
 refine sa ?_
 refine s0 (bu (ds':=[dI .i64 zf.vR,dI .i64 zf.vC,.gw 6 36 ((zf.vV).length),dO 4 (cI .i64) eJ,dO 5 ae (fB++[(iy)[(i64.wrap ((i64.wrap (aQ*bq.vC))+bx)).toNat]!]),dB (!(rC == (decide (x9≠aQ)))),dI .i64 (0:Int),dI .i64 (0:Int)]) aq) ?_
 refine nl hK ?_
 refine rs hx fun K hK=>?_
 iterate 3 refine sbr ?_
 obtain⟨Ij,hx35,h⟩:=ah h
 refine sF (uO hx35) (ARs.cons (AR.gwW (c:=ae) rfl rfl) ARs.nil) rfl ?_
 refine nbr hK ?_
 refine AW.seq (ra hx ?_)
 refine cdh h rfl (fun hb36 h=>?_) (fun hb36 h=>?_)
 refine rs hx fun K hK=>?_
 refine s1 (d:=.ag [dI .i64 (0:Int),dI .i64 (0:Int),dN,dN,dN,dB false,dI .i64 (30:Int),dI .i64 (0:Int)]) (aR eb) ?_
 refine s0 (bu (ds':=[dI .i64 (0:Int),dI .i64 (0:Int),dN,dN,dN,dB false,dI .i64 (30:Int),dI .i64 (0:Int)]) eb) ?_
 refine nl hK ?_
 refine AW.ret ?_
 cases h
 refine PS.r (PR.i ?_)
 exact dm.mk1 (bN (es:=[dI .i64 (0:Int),dI .i64 (0:Int),dN,dN,dN,dB false,dI .i64 (30:Int),dI .i64 (0:Int)]) rfl eb rfl rfl (ltb rfl) (leb rfl) rfl (.inr (.inr ⟨_,(et (wc (bI _) (wc (bI _) (wc (mW rfl) (wc (mW rfl) (wc (mW rfl) (wc (bI _) (wc (bI _) (wc (bI _) wcn))))))))),rfl,rfl⟩)))
 refine AW.skip (rs hx fun K hK=>?_)
 iterate 3 refine sbr ?_
 refine s1 (d:=dO 7 (cI .i64) [bx]) (jc b9 bh) ?_
 obtain⟨hc37,h⟩:=am h
 refine s1 (d:=dO 4 (cI .i64) (eJ++[bx])) (eD b9 bh hc37) ?_
 refine sa ?_
 refine s0 (bu (ds':=[dI .i64 zf.vR,dI .i64 zf.vC,.gw 6 36 ((zf.vV).length),dO 4 (cI .i64) (eJ++[bx]),dO 5 ae (fB++[(iy)[(i64.wrap ((i64.wrap (aQ*bq.vC))+bx)).toNat]!]),dB (!(rC == (decide (x9≠aQ)))),dI .i64 (0:Int),dI .i64 (0:Int)]) b9) ?_
 refine nl hK ?_
 refine rb hx ?_
 exact pel h h0 [0,1,2,6,4,5]
 rcases y with⟨cF,eO,vT,uC,vS,Kf,Gg⟩|r
 rintro ex tm' hp' ⟨rfl,hw⟩
 refine AW.weak hw (rb hx ?_)
 exact pel h h0 [0,1,2,3,4,5]
 rintro ex tm' hp' ⟨rfl,hw⟩
 cases h
 exact PS.r ⟨by nofun,PS.l (PR.i hw)⟩
 exact AW.exit (peq h h0 [1,2,3,4,5])
 rcases y with r|⟨eA,gC,ge,gB,qe,nS⟩
 rintro ex tm' hp' ⟨rfl,hw⟩
 cases h
 exact hw
 refine lwr ?_
 refine rs hx fun K hK=>?_
 refine s1 (d:=.ag [dI .i64 eA,dI .i64 gC,.gw 2 36 ((nS).length),dO 3 (cI .i64) ge,dO 4 ae gB,dB qe,dI .i64 (0:Int),dI .i64 (0:Int)]) (bp eb) ?_
 refine s0 (bu (ds':=[dI .i64 eA,dI .i64 gC,.gw 2 36 ((nS).length),dO 3 (cI .i64) ge,dO 4 ae gB,dB qe,dI .i64 (0:Int),dI .i64 (0:Int)]) eb) ?_
 refine nl hK ?_
 refine fzAD ae (n:=(nS).length) 2 [(138,.ag [dI .i64 eA,dI .i64 gC,dL ae nS,dO 3 (cI .i64) ge,dO 4 ae gB,dB qe,dI .i64 (0:Int),dI .i64 (0:Int)])] [(0,[dI .i64 eA,dI .i64 gC,dL ae nS,dO 3 (cI .i64) ge,dO 4 ae gB,dB qe,dI .i64 (0:Int),dI .i64 (0:Int)]),(1,[dI .i64 eA,dI .i64 gC,dL ae nS,dO 3 (cI .i64) ge,dO 4 ae gB,dB qe,dI .i64 (0:Int),dI .i64 (0:Int)])] rfl ?_ (ftc rfl (.ag (.cons (.keep _) (.cons (.keep _) (.cons (.hitG) (.cons (.keep _) (.cons (.keep _) (.cons (.keep _) (.cons (.keep _) (.cons (.keep _) .nil))))))))) ftn) (fvc (by decide) rfl (.cons (.keep _) (.cons (.keep _) (.cons (.hitG) (.cons (.keep _) (.cons (.keep _) (.cons (.keep _) (.cons (.keep _) (.cons (.keep _) .nil)))))))) (fvc (by decide) rfl (.cons (.keep _) (.cons (.keep _) (.cons (.hitG) (.cons (.keep _) (.cons (.keep _) (.cons (.keep _) (.cons (.keep _) (.cons (.keep _) .nil)))))))) fvn))
 refine AW.ret ?_
 cases h
 exact dm.mk1 (bN (es:=[dI .i64 eA,dI .i64 gC,dL ae nS,dO 3 (cI .i64) ge,dO 4 ae gB,dB qe,dI .i64 (0:Int),dI .i64 (0:Int)]) rfl eb rfl rfl (ltb rfl) (leb rfl) rfl (.inr (.inr ⟨_,(et (wc (bI _) (wc (bI _) (wc (bI _) (wc (tT _) (wc (tT _) (wc (bI _) (wc (bI _) (wc (bI _) wcn))))))))),rfl,rfl⟩)))
def rm(bq:an)(aQ:Int)(cZ:an)(x8:Int):Unit→Option (Unit⊕Unit):=fun ()=>cnd (decide ((0:Int)<bq.vC)) (gd (0≤i64.wrap ((i64.wrap (x8*bq.vC))+(0:Int))∧i64.wrap ((i64.wrap (x8*bq.vC))+(0:Int))<((cZ.vV).length:Int)) (bnd (some ((cZ.vV)[(i64.wrap ((i64.wrap (x8*bq.vC))+(0:Int))).toNat]!)) fun nV=>gd (0≤i64.wrap ((i64.wrap (aQ*bq.vC))+(0:Int))∧i64.wrap ((i64.wrap (aQ*bq.vC))+(0:Int))<((cZ.vV).length:Int)) (gd (0≤i64.wrap ((i64.wrap (x8*bq.vC))+(0:Int))∧i64.wrap ((i64.wrap (x8*bq.vC))+(0:Int))<((cZ.vV).length:Int)) (none)))) (some (.inr ()))
def m4(bq:an):Int×Int×an×(List Int)×(List ai)×Bool→Option ((Int×Int×an×(List Int)×(List ai)×Bool)⊕(b8⊕(an×(List Int)×(List ai)×Bool))):=fun (aQ,bx,cZ,fR,eJ,fB)=>bnd (S:=Bool) (cnd (decide (bx<bq.vC)) (some (decide (aQ<bq.vR))) (some (false))) fun uD=>cnd uD (bnd (S:=(Int×an×(List Int)×(List ai)×Bool)⊕b8) (bnd (jj cZ aQ bx) fun x8=>cnd (decide (x8<(0:Int))) (some (.inl (aQ,cZ,fR,eJ,fB))) (bnd (aK (rm bq aQ cZ x8) ()) fun ()=>gd (0≤i64.wrap ((i64.wrap (aQ*bq.vC))+bx)∧i64.wrap ((i64.wrap (aQ*bq.vC))+bx)<((cZ.vV).length:Int)) (gd ((eJ++[(cZ.vV)[(i64.wrap ((i64.wrap (aQ*bq.vC))+bx)).toNat]!]).length*136≤140737488355328) (bnd (tB cZ aQ bx) fun zg=>bnd (jC zg.vV) fun O8=>cnd (!O8) (some (.inr (⟨(⟨(0:Int),(0:Int),([]:List ai)⟩:an),([]:List Int),([]:List ai),false,(30:Int),(0:Int)⟩:b8))) (gd ((fR++[bx]).length*8≤140737488355328) (some (.inl (i64.wrap (aQ+(1:Int)),zg,fR++[bx],eJ++[(cZ.vV)[(i64.wrap ((i64.wrap (aQ*bq.vC))+bx)).toNat]!],!(fB == (decide (x8≠aQ))))))))))) fun y30=>match y30 with| .inl (cF,eO,vT,uC,vS)=>some (.inl (cF,i64.wrap (bx+(1:Int)),eO,vT,uC,vS))| .inr r=>some (.inr (.inl r))) (some (.inr (.inr (cZ,fR,eJ,fB))))
def nH(bq:an):Option b8:=bnd (cz bq) fun x1=>cnd (!x1) (some (⟨(⟨(0:Int),(0:Int),([]:List ai)⟩:an),([]:List Int),([]:List ai),false,(1:Int),(0:Int)⟩:b8)) (gd ((([]:List ai)++bq.vV).length*136≤140737488355328) (bnd (aK (m4 bq) ((0:Int),(0:Int),(⟨bq.vR,bq.vC,([]:List ai)++bq.vV⟩:an),([]:List Int),([]:List ai),false)) fun y31=>match y31 with| .inl r=>some r| .inr (eA,gC,ge,gB)=>some (⟨eA,gC,ge,gB,(0:Int),(0:Int)⟩:b8)))
theorem As {bq:an}{r:b8}(h:nH bq=some r):ax prog 18 [dG aH bq] (dG qL r):=by
 refine bn (rs:=[.cell 2 45]) (fun cx hx h0=>?_) func18
 unfold nH at h
 refine rs hx fun K hK=>?_
 refine s1 (d:=.pt 0 0) fC ?_
 refine s1 (d:=.pt 1 0) (aO eb) ?_
 refine nl hK ?_
 refine rs hx fun K hK=>?_
 refine s1 (d:=dG aH bq) (bp aq) ?_
 refine scb h iA fun x1 h=>?_
 refine nbr hK ?_
 refine AW.seq (ra hx ?_)
 refine cdh h rfl (fun cj h=>?_) (fun cj h=>?_)
 refine rs hx fun K hK=>?_
 refine s1 (d:=.ag [dI .i64 (0:Int),dI .i64 (0:Int),dN,dN,dN,dB false,dI .i64 (1:Int),dI .i64 (0:Int)]) (aR eb) ?_
 refine s0 (bu (ds':=[dI .i64 (0:Int),dI .i64 (0:Int),dN,dN,dN,dB false,dI .i64 (1:Int),dI .i64 (0:Int)]) eb) ?_
 refine nl hK ?_
 refine AW.ret ?_
 cases h
 exact dm.mk1 (bN (es:=[dI .i64 (0:Int),dI .i64 (0:Int),dN,dN,dN,dB false,dI .i64 (1:Int),dI .i64 (0:Int)]) rfl eb rfl rfl (ltb rfl) (leb rfl) rfl (.inr (.inr ⟨_,(et (wc (bI _) (wc (bI _) (wc (mW rfl) (wc (mW rfl) (wc (mW rfl) (wc (bI _) (wc (bI _) (wc (bI _) wcn))))))))),rfl,rfl⟩)))
 refine AW.skip (AW.seq ?_)
 obtain⟨Ck,h⟩:=am h
 refine jn (PE cx .normal (fun (_:Unit)=>[(1,.pt 0 0),(2,.pt 1 0),(4,.pt 2 0)]) (fun (_:Unit)=>⟨[(0,[dI .i64 bq.vR,dI .i64 bq.vC,dL ae bq.vV]),(1,[dI .i64 (0:Int),dI .i64 (0:Int),dN,dN,dN,dB false,dI .i64 (0:Int),dI .i64 (0:Int)]),(2,[dI .i64 bq.vR,dI .i64 bq.vC,dL ae (([]:List ai)++bq.vV),dN,dN,dB false,dI .i64 (0:Int),dI .i64 (0:Int)])],[],3⟩) ()) ?_ ?_
 refine dw (DW.split 4 10 (by decide) ?_ ?_)
 refine DW.split 7 10 (by decide) ?_ ?_
 refine dwg [] [0,1,2,3,4,5,6,7,8,9,10,11] hx (by kernel_rfl) (by kernel_rfl) (by kernel_rfl) fun K hK=>?_
 dsimp only[dt,lf,li,List.map]
 iterate 4 refine sbr ?_
 refine s1 (d:=dO 2 ae ([]:List ai)) (Bz aF aC) ?_
 iterate 2 refine sbr ?_
 refine s1 (d:=dO 2 ae (([]:List ai)++bq.vV)) (eD aF aC Ck) ?_
 refine s2 (d2:=dG aH (⟨bq.vR,bq.vC,([]:List ai)++bq.vV⟩:an)) (aR (es:=[dI .i64 bq.vR,dI .i64 bq.vC,dO 2 ae (([]:List ai)++bq.vV)]) aq) (et (wc (bI _) (wc (bI _) (wc (tT _) wcn)))) ?_
 refine s1 (d:=.ag [dI .i64 bq.vR,dI .i64 bq.vC,dL ae (([]:List ai)++bq.vV),dN,dN,dB false,dI .i64 (0:Int),dI .i64 (0:Int)]) (aR eb) ?_
 refine s1 (d:=.pt 3 0) (aO eb) ?_
 refine s0 (bu (ds':=[dI .i64 bq.vR,dI .i64 bq.vC,dL ae (([]:List ai)++bq.vV),dN,dN,dB false,dI .i64 (0:Int),dI .i64 (0:Int)]) eb) ?_
 exact .nil (hK _ _ (pe0 h0 [0,1,3]))
 refine dwg [] [0,1,2,3,4,5,6,10,7,8,9,11] hx (by kernel_rfl) (by kernel_rfl) (by kernel_rfl) fun K hK=>?_
 dsimp only[dt,lf,li,List.map]
 iterate 4 refine sbr ?_
 refine s1 (d:=dO 2 ae ([]:List ai)) (Bz aF aC) ?_
 iterate 2 refine sbr ?_
 refine s1 (d:=.pt 3 0) (aO eb) ?_
 refine s1 (d:=dO 2 ae (([]:List ai)++bq.vV)) (eD aF aC Ck) ?_
 refine s2 (d2:=dG aH (⟨bq.vR,bq.vC,([]:List ai)++bq.vV⟩:an)) (aR (es:=[dI .i64 bq.vR,dI .i64 bq.vC,dO 2 ae (([]:List ai)++bq.vV)]) aq) (et (wc (bI _) (wc (bI _) (wc (tT _) wcn)))) ?_
 refine s1 (d:=.ag [dI .i64 bq.vR,dI .i64 bq.vC,dL ae (([]:List ai)++bq.vV),dN,dN,dB false,dI .i64 (0:Int),dI .i64 (0:Int)]) (aR eb) ?_
 refine s0 (bu (ds':=[dI .i64 bq.vR,dI .i64 bq.vC,dL ae (([]:List ai)++bq.vV),dN,dN,dB false,dI .i64 (0:Int),dI .i64 (0:Int)]) eb) ?_
 exact .nil (hK _ _ (pe0 h0 [0,1,3]))
 refine dwg [] [0,1,2,3,5,6,10,4,7,8,9,11] hx (by kernel_rfl) (by kernel_rfl) (by kernel_rfl) fun K hK=>?_
 dsimp only[dt,lf,li,List.map]
 iterate 6 refine sbr ?_
 refine s1 (d:=.pt 2 0) (aO eb) ?_
 refine s1 (d:=dO 3 ae ([]:List ai)) (Bz aF aC) ?_
 refine s1 (d:=dO 3 ae (([]:List ai)++bq.vV)) (eD aF aC Ck) ?_
 refine s2 (d2:=dG aH (⟨bq.vR,bq.vC,([]:List ai)++bq.vV⟩:an)) (aR (es:=[dI .i64 bq.vR,dI .i64 bq.vC,dO 3 ae (([]:List ai)++bq.vV)]) aq) (et (wc (bI _) (wc (bI _) (wc (tT _) wcn)))) ?_
 refine s1 (d:=.ag [dI .i64 bq.vR,dI .i64 bq.vC,dL ae (([]:List ai)++bq.vV),dN,dN,dB false,dI .i64 (0:Int),dI .i64 (0:Int)]) (aR eb) ?_
 refine s0 (bu (ds':=[dI .i64 bq.vR,dI .i64 bq.vC,dL ae (([]:List ai)++bq.vV),dN,dN,dB false,dI .i64 (0:Int),dI .i64 (0:Int)]) eb) ?_
 exact .nil (hK _ _ (pe0 h0 [0,1,2]))
 refine lw0 ?_
 refine ra hx ?_
 refine AW.seq (ra hx ?_)
 refine AW.block ?_
 obtain⟨y,hy,h⟩:=ah h
 refine lp (S:=Int×Int×an×(List Int)×(List ai)×Bool) (X:=b8⊕(an×(List Int)×(List ai)×Bool)) (fun (aQ,bx,cZ,fR,eJ,fB)=>[(1,.pt 0 0),(2,.pt 1 0),(4,.pt 2 0),(5,dI .i64 aQ),(6,dI .i64 bx)]) (fun (aQ,bx,cZ,fR,eJ,fB)=>⟨[(0,[dI .i64 bq.vR,dI .i64 bq.vC,dL ae bq.vV]),(1,[dI .i64 (0:Int),dI .i64 (0:Int),dN,dN,dN,dB false,dI .i64 (0:Int),dI .i64 (0:Int)]),(2,[dI .i64 cZ.vR,dI .i64 cZ.vC,dL ae cZ.vV,dO 3 (cI .i64) fR,dO 4 ae eJ,dB fB,dI .i64 (0:Int),dI .i64 (0:Int)])],[(3,(fR).length,1,3),(4,(eJ).length,36,34)],5⟩) (PS (PR [.cell 2 45] fun r=>dG qL r) (PE cx (.exit 0) (fun (eA,gC,ge,gB)=>[(2,.pt 0 0),(4,.pt 1 0)]) fun (eA,gC,ge,gB)=>⟨[(0,[dI .i64 (0:Int),dI .i64 (0:Int),dN,dN,dN,dB false,dI .i64 (0:Int),dI .i64 (0:Int)]),(1,[dI .i64 eA.vR,dI .i64 eA.vC,dL ae eA.vV,dO 2 (cI .i64) gC,dO 3 ae ge,dB gB,dI .i64 (0:Int),dI .i64 (0:Int)])],[(2,(gC).length,1,3),(3,(ge).length,36,34)],4⟩)) hy ?_ ?_ ?_
 exact Wk.trans (Wk.nilOwn (ds':=[dI .i64 bq.vR,dI .i64 bq.vC,dL ae (([]:List ai)++bq.vV),dO 3 (cI .i64) ([]:List Int),dN,dB false,dI .i64 (0:Int),dI .i64 (0:Int)]) 2 3 3 1) (Wk.trans (Wk.nilOwn (ds':=[dI .i64 bq.vR,dI .i64 bq.vC,dL ae (([]:List ai)++bq.vV),dO 3 (cI .i64) ([]:List Int),dO 4 ae ([]:List ai),dB false,dI .i64 (0:Int),dI .i64 (0:Int)]) 2 4 34 36) (wk h0 [0,1,2,3,4] (wR rfl (wR rfl (wR rfl (wR rfl (wR rfl wTn))))) (vR rfl (vR rfl (vR rfl wVn))) (wL rfl rfl (wL rfl rfl wLn))))
 clear hy h
 rintro⟨aQ,bx,cZ,fR,eJ,fB⟩ y h
 dsimp only[m4] at h
 iterate 2 refine AW.seq ?_
 obtain⟨uD,hy,h⟩:=ah h
 refine jn ((PE cx .normal (fun uD=>[(1,.pt 0 0),(2,.pt 1 0),(4,.pt 2 0),(5,dI .i64 aQ),(6,dI .i64 bx),(35,dB uD)]) fun uD=>⟨[(0,[dI .i64 bq.vR,dI .i64 bq.vC,dL ae bq.vV]),(1,[dI .i64 (0:Int),dI .i64 (0:Int),dN,dN,dN,dB false,dI .i64 (0:Int),dI .i64 (0:Int)]),(2,[dI .i64 cZ.vR,dI .i64 cZ.vC,dL ae cZ.vV,dO 3 (cI .i64) fR,dO 4 ae eJ,dB fB,dI .i64 (0:Int),dI .i64 (0:Int)])],[(3,(fR).length,1,3),(4,(eJ).length,36,34)],5⟩) uD) ?_ ?_
 replace h:=hy
 refine rq hx fun K hK=>?_
 refine mbr ?_
 rcases bE h with⟨pI,h⟩|⟨pI,h⟩
 refine nbr hK ?_
 exact pe1 h h0 [0,1,2,3,4]
 refine nbr hK ?_
 exact pe1 h h0 [0,1,2,3,4]
 refine lw0 ?_
 refine cdh h rfl (fun tX h=>?_) (fun tX h=>?_)
 refine AW.skip (AW.seq ?_)
 obtain⟨y,hy,h⟩:=ah h
 refine jn ((PS (PE cx .normal (fun (cF,eO,vT,uC,vS)=>[(1,.pt 0 0),(2,.pt 1 0),(4,.pt 2 0),(5,dI .i64 cF),(6,dI .i64 bx)]) fun (cF,eO,vT,uC,vS)=>⟨[(0,[dI .i64 bq.vR,dI .i64 bq.vC,dL ae bq.vV]),(1,[dI .i64 (0:Int),dI .i64 (0:Int),dN,dN,dN,dB false,dI .i64 (0:Int),dI .i64 (0:Int)]),(2,[dI .i64 eO.vR,dI .i64 eO.vC,dL ae eO.vV,dO 3 (cI .i64) vT,dO 4 ae uC,dB vS,dI .i64 (0:Int),dI .i64 (0:Int)])],[(3,(vT).length,1,3),(4,(uC).length,36,34)],5⟩) (PR [.cell 2 45] fun r=>dG qL r)) y) ?_ ?_
 replace h:=hy
 refine AW.block (rs hx fun K hK=>?_)
 refine sa ?_
 refine s1 (d:=dG aH cZ) (bp aq) ?_
 refine mbr ?_
 refine scb h vB fun x8 h=>?_
 refine nbr hK ?_
 refine AW.seq (ra hx ?_)
 refine cdh h rfl (fun jw h=>?_) (fun jw h=>?_)
 refine AW.exit ?_
 try dsimp only
 try simp only[bP,reduceIte,Nat.reduceEqDiff,reduceCtorEq]
 exact pel h h0 [0,1,2,3,4]
 refine AW.skip (AW.seq (ra hx ?_))
 refine AW.block ?_
 obtain⟨y,hy,h⟩:=ah h
 refine lp (S:=Unit) (X:=Unit) (fun ()=>[(1,.pt 0 0),(2,.pt 1 0),(4,.pt 2 0),(5,dI .i64 aQ),(6,dI .i64 bx),(7,dI .i64 x8),(8,dI .i64 (0:Int))]) (fun ()=>⟨[(0,[dI .i64 bq.vR,dI .i64 bq.vC,dL ae bq.vV]),(1,[dI .i64 (0:Int),dI .i64 (0:Int),dN,dN,dN,dB false,dI .i64 (0:Int),dI .i64 (0:Int)]),(2,[dI .i64 cZ.vR,dI .i64 cZ.vC,dL ae cZ.vV,dO 3 (cI .i64) fR,dO 4 ae eJ,dB fB,dI .i64 (0:Int),dI .i64 (0:Int)])],[(3,(fR).length,1,3),(4,(eJ).length,36,34)],5⟩) (PE cx (.exit 2) (fun ()=>[(1,.pt 0 0),(2,.pt 1 0),(4,.pt 2 0),(5,dI .i64 aQ),(6,dI .i64 bx),(7,dI .i64 x8)]) fun ()=>⟨[(0,[dI .i64 bq.vR,dI .i64 bq.vC,dL ae bq.vV]),(1,[dI .i64 (0:Int),dI .i64 (0:Int),dN,dN,dN,dB false,dI .i64 (0:Int),dI .i64 (0:Int)]),(2,[dI .i64 cZ.vR,dI .i64 cZ.vC,dL ae cZ.vV,dO 3 (cI .i64) fR,dO 4 ae eJ,dB fB,dI .i64 (0:Int),dI .i64 (0:Int)])],[(3,(fR).length,1,3),(4,(eJ).length,36,34)],5⟩) hy ?_ ?_ ?_
 exact wk0 h0 [0,1,2,3,4]
 clear hy h
 rintro⟨⟩ y h
 dsimp only[rm] at h
 refine AW.seq (rar hx ?_)
 refine cdh h rfl (fun Hh h=>?_) (fun Hh h=>?_)
 refine AW.skip (AW.seq (AW.block (rs hx fun K hK=>?_)))
 iterate 9 refine sbr ?_
 obtain⟨Cl,h⟩:=am h
 have QP:(i64.wrap ((i64.wrap (x8*bq.vC))+(0:Int))).toNat<(cZ.vV).length:=by omega
 refine sbr ?_
 refine s1 (d:=dG ae ((cZ.vV)[(i64.wrap ((i64.wrap (x8*bq.vC))+(0:Int))).toNat]!)) (gk (c:=ae) (l:=cZ.vV) (n:=(i64.wrap ((i64.wrap (x8*bq.vC))+(0:Int))).toNat) (o:=0) aC QP (cH _ _ rfl)) ?_
 refine sbr ?_
 obtain⟨nV,rJ,h⟩:=ah h
 replace rJ:=d5 rJ
 refine s0 (fq (b':=(cZ.vV)[(i64.wrap ((i64.wrap (x8*bq.vC))+(0:Int))).toNat]!) (aX.id _ _) aC rJ) ?_
 refine nl hK ?_
 refine rsd [] hx fun K hK=>?_
 iterate 18 refine sbr ?_
 obtain⟨Ox,h⟩:=am h
 have QO:(i64.wrap ((i64.wrap (aQ*bq.vC))+(0:Int))).toNat<(cZ.vV).length:=by omega
 refine sbr ?_
 refine s1 (d:=dG ae ((cZ.vV)[(i64.wrap ((i64.wrap (aQ*bq.vC))+(0:Int))).toNat]!)) (gk (c:=ae) (l:=cZ.vV) (n:=(i64.wrap ((i64.wrap (aQ*bq.vC))+(0:Int))).toNat) (o:=0) aC QO (cH _ _ rfl)) ?_
 obtain⟨hc18,h⟩:=am h
 refine sbr ?_
 cases h
 exact AW.exit (per h h0 [0,1,2,3,4])
 cases y
 refine lw0 ?_
 refine rs hx fun K hK=>?_
 iterate 7 refine sbr ?_
 refine s0 (bu (ds':=[dI .i64 cZ.vR,dI .i64 cZ.vC,dL ae cZ.vV,dO 3 (cI .i64) fR,dO 4 ae eJ,dB (!(fB == (decide (x8≠aQ)))),dI .i64 (0:Int),dI .i64 (0:Int)]) sD) ?_
 refine nl hK ?_
 refine rsd [] hx fun K hK=>?_
 iterate 11 refine sbr ?_
 obtain⟨hc21,h⟩:=am h
 have hn22:(i64.wrap ((i64.wrap (aQ*bq.vC))+bx)).toNat<(cZ.vV).length:=by omega
 refine sbr ?_
 refine s1 (d:=dG ae ((cZ.vV)[(i64.wrap ((i64.wrap (aQ*bq.vC))+bx)).toNat]!)) (gk (c:=ae) (l:=cZ.vV) (n:=(i64.wrap ((i64.wrap (aQ*bq.vC))+bx)).toNat) (o:=0) aC hn22 (cH _ _ rfl)) ?_
 refine s1 (mM ([(cZ.vV)[(i64.wrap ((i64.wrap (aQ*bq.vC))+bx)).toNat]!]:List ai) ae aF aC) ?_
 obtain⟨Fd,h⟩:=am h
 refine s1 (d:=dO 4 ae (eJ++[(cZ.vV)[(i64.wrap ((i64.wrap (aQ*bq.vC))+bx)).toNat]!])) (eD aF aC Fd) ?_
 refine sa ?_
 refine s0 (bu (ds':=[dI .i64 cZ.vR,dI .i64 cZ.vC,dL ae cZ.vV,dO 3 (cI .i64) fR,dO 4 ae (eJ++[(cZ.vV)[(i64.wrap ((i64.wrap (aQ*bq.vC))+bx)).toNat]!]),dB (!(fB == (decide (x8≠aQ)))),dI .i64 (0:Int),dI .i64 (0:Int)]) aF) ?_
 refine nl hK ?_
 refine rs hx fun K hK=>?_
 refine sa ?_
 refine s1 (d:=dG aH cZ) (bp aq) ?_
 refine mbr ?_
 refine scb h zm fun zg h=>?_
 refine sa ?_
 refine s0 (bu (ds':=[dI .i64 zg.vR,dI .i64 zg.vC,dL ae zg.vV,dO 3 (cI .i64) fR,dO 4 ae (eJ++[(cZ.vV)[(i64.wrap ((i64.wrap (aQ*bq.vC))+bx)).toNat]!]),dB (!(fB == (decide (x8≠aQ)))),dI .i64 (0:Int),dI .i64 (0:Int)]) aq) ?_
 refine nl hK ?_
 refine rs hx fun K hK=>?_
 refine mbr ?_
 refine scb h uO fun O8 h=>?_
 refine nbr hK ?_
 refine AW.seq (ra hx ?_)
 refine cdh h rfl (fun hb28 h=>?_) (fun hb28 h=>?_)
 refine rs hx fun K hK=>?_
 refine s1 (d:=.ag [dI .i64 (0:Int),dI .i64 (0:Int),dN,dN,dN,dB false,dI .i64 (30:Int),dI .i64 (0:Int)]) (aR eb) ?_
 refine s0 (bu (ds':=[dI .i64 (0:Int),dI .i64 (0:Int),dN,dN,dN,dB false,dI .i64 (30:Int),dI .i64 (0:Int)]) eb) ?_
 refine nl hK ?_
 refine AW.ret ?_
 cases h
 refine PS.r (PR.i ?_)
 exact dm.mk1 (bN (es:=[dI .i64 (0:Int),dI .i64 (0:Int),dN,dN,dN,dB false,dI .i64 (30:Int),dI .i64 (0:Int)]) rfl eb rfl rfl (ltb rfl) (leb rfl) rfl (.inr (.inr ⟨_,(et (wc (bI _) (wc (bI _) (wc (mW rfl) (wc (mW rfl) (wc (mW rfl) (wc (bI _) (wc (bI _) (wc (bI _) wcn))))))))),rfl,rfl⟩)))
 refine AW.skip (rs hx fun K hK=>?_)
 iterate 3 refine sbr ?_
 refine s1 (d:=dO 5 (cI .i64) [bx]) (jc b9 bh) ?_
 obtain⟨hc29,h⟩:=am h
 refine s1 (d:=dO 3 (cI .i64) (fR++[bx])) (eD b9 bh hc29) ?_
 refine sa ?_
 refine s0 (bu (ds':=[dI .i64 zg.vR,dI .i64 zg.vC,dL ae zg.vV,dO 3 (cI .i64) (fR++[bx]),dO 4 ae (eJ++[(cZ.vV)[(i64.wrap ((i64.wrap (aQ*bq.vC))+bx)).toNat]!]),dB (!(fB == (decide (x8≠aQ)))),dI .i64 (0:Int),dI .i64 (0:Int)]) b9) ?_
 refine nl hK ?_
 refine rb hx ?_
 exact pel h h0 [0,1,2,3,4]
 rcases y with⟨cF,eO,vT,uC,vS⟩|r
 rintro ex tm' hp' ⟨rfl,hw⟩
 refine AW.weak hw (rb hx ?_)
 exact pel h h0 [0,1,2,3,4]
 rintro ex tm' hp' ⟨rfl,hw⟩
 cases h
 exact PS.r ⟨by nofun,PS.l (PR.i hw)⟩
 exact AW.exit (peq h h0 [1,2,3,4])
 rcases y with r|⟨eA,gC,ge,gB⟩
 rintro ex tm' hp' ⟨rfl,hw⟩
 cases h
 exact hw
 refine lwr ?_
 refine rs hx fun K hK=>?_
 refine s1 (d:=.ag [dI .i64 eA.vR,dI .i64 eA.vC,dL ae eA.vV,dO 2 (cI .i64) gC,dO 3 ae ge,dB gB,dI .i64 (0:Int),dI .i64 (0:Int)]) (bp eb) ?_
 refine s0 (bu (ds':=[dI .i64 eA.vR,dI .i64 eA.vC,dL ae eA.vV,dO 2 (cI .i64) gC,dO 3 ae ge,dB gB,dI .i64 (0:Int),dI .i64 (0:Int)]) eb) ?_
 refine nl hK ?_
 refine AW.ret ?_
 cases h
 exact dm.mk1 (bN (es:=[dI .i64 eA.vR,dI .i64 eA.vC,dL ae eA.vV,dO 2 (cI .i64) gC,dO 3 ae ge,dB gB,dI .i64 (0:Int),dI .i64 (0:Int)]) rfl eb rfl rfl (ltb rfl) (leb rfl) rfl (.inr (.inr ⟨_,(et (wc (bI _) (wc (bI _) (wc (bI _) (wc (tT _) (wc (tT _) (wc (bI _) (wc (bI _) (wc (bI _) wcn))))))))),rfl,rfl⟩)))
def gF(bq:an):Option b8:=orO (nG bq) (nH bq)
theorem mR {bq:an}{r:b8}(h:gF bq=some r):ax prog 18 [dG aH bq] (dG qL r):=(zF h).elim Ar As
structure cf where
 vX:ai
 vE:Int
 deriving Inhabited,DecidableEq
def eS:Cd cf:=⟨37,fun x=>ae.f x.vX++[.lit (.int .i64 x.vE)],fun x=>by simp[ae.h,show ae.sz=36 from rfl]⟩
theorem se(x:cf):aX (eS.f x) ae 0 x.vX (fun y=>eS.f (⟨y,x.vE⟩:cf)):=
 aX.of ([]) (((cI .i64)).f x.vE) (by first|rfl|(simp[(cI .i64).h,ae.h];first|rfl|done)) (by first|rfl|simp[eS,cI,cB,cS,cL,fy]) (fun y=>by first|rfl|simp[eS,cI,cB,cS,cL,fy])
theorem nD(x:cf):aX (eS.f x) (cI .i64) 36 x.vE (fun y=>eS.f (⟨x.vX,y⟩:cf)):=
 aX.of ((ae).f x.vX) ([]) (by first|rfl|(simp[(cI .i64).h,ae.h];first|rfl|done)) (by first|rfl|simp[eS,cI,cB,cS,cL,fy]) (fun y=>by first|rfl|simp[eS,cI,cB,cS,cL,fy])
structure jU where
 vL:List (List ai)
 vE:Int
 deriving Inhabited,DecidableEq
def vh:Cd jU:=⟨2,fun x=>[slE (cL ae) x.vL,.lit (.int .i64 x.vE)],fun _=>rfl⟩
structure gc where
 vIs:Bool
 vE:Int
 deriving Inhabited,DecidableEq
def pR:Cd gc:=⟨2,fun x=>[.lit (.bool x.vIs),.lit (.int .i64 x.vE)],fun _=>rfl⟩
def l9(x8:b8):Int×ai→Option ((Int×ai)⊕ai):=fun (f9,Gc)=>cnd (decide (f9<((x8.vBy).length:Int))) (gd (0≤f9∧f9<((x8.vBy).length:Int)) (bnd (eh Gc ((x8.vBy)[(f9).toNat]!)) fun Am=>some (.inl (i64.wrap (f9+(1:Int)),Am)))) (some (.inr Gc))
def pb(bq:an):Option cf:=bnd (S:=Bool) (bnd (cz bq) fun x1=>cnd (!x1) (some (true)) (some (decide (bq.vR≠bq.vC)))) fun a8=>cnd a8 (bnd (some ((⟨(⟨(⟨false,false,(cQ)⟩:ap),(⟨false,false,(cQ)⟩:ap)⟩:ai),(1:Int)⟩:cf))) fun x6=>some x6) (bnd (gF bq) fun x8=>cnd (decide (x8.vE≠(0:Int))) (bnd (some ((⟨(⟨(⟨false,false,(cQ)⟩:ap),(⟨false,false,(cQ)⟩:ap)⟩:ai),x8.vE⟩:cf))) fun fU=>some fU) (cnd (decide (((x8.vP).length:Int)<bq.vR)) (bnd (e8 (0:Int)) fun nV=>some (⟨nV,(0:Int)⟩:cf)) (bnd (e8 (1:Int)) fun qo=>bnd (S:=ai) (cnd x8.vOdd (bnd (e8 (-1:Int)) fun uK=>some (uK)) (some (qo))) fun e7=>bnd (aK (l9 x8) ((0:Int),e7)) fun tN=>bnd (ct tN) fun Ik=>cnd (!Ik) (bnd (some ((⟨(⟨(⟨false,false,(cQ)⟩:ap),(⟨false,false,(cQ)⟩:ap)⟩:ai),(30:Int)⟩:cf))) fun Gn=>some Gn) (some (⟨tN,(0:Int)⟩:cf)))))
theorem BG {bq:an}{r:cf}(h:pb bq=some r):ax prog 19 [dG aH bq] (dG eS r):=by
 refine bn (rs:=[.cell 2 48]) (fun cx hx h0=>?_) func19
 unfold pb at h
 refine rs hx fun K hK=>?_
 refine s1 (d:=.pt 0 0) fC ?_
 refine s1 (lB (F:=eS.f (⟨co,(0:Int)⟩:cf)) tr) ?_
 refine nl hK ?_
 iterate 2 refine AW.seq ?_
 obtain⟨a8,hy,h⟩:=ah h
 refine jn ((PE cx .normal (fun a8=>[(1,.pt 0 0),(2,.pt 1 0),(15,dB a8)]) fun a8=>⟨[(0,[dI .i64 bq.vR,dI .i64 bq.vC,dL ae bq.vV]),(1,dC (eS.f (⟨co,(0:Int)⟩:cf)))],[],2⟩) a8) ?_ ?_
 replace h:=hy
 refine rq hx fun K hK=>?_
 refine s1 (d:=dG aH bq) (bp aq) ?_
 refine scb h iA fun x1 h=>?_
 refine mbr ?_
 rcases bE h with⟨cj,h⟩|⟨cj,h⟩
 refine nbr hK ?_
 exact pe1 h h0 [0,1]
 refine nbr hK ?_
 exact pe1 h h0 [0,1]
 refine lw0 ?_
 refine cdh h rfl (fun pI h=>?_) (fun pI h=>?_)
 refine rs hx fun K hK=>?_
 refine s1 (d:=dG eS (⟨co,(1:Int)⟩:cf)) (eT (FL.cons (y:=(1:Int)) (nD (⟨co,(0:Int)⟩:cf)) rfl rfl (FL.nil _)) tr) ?_
 obtain⟨x6,tV,h⟩:=ah h
 replace tV:=d5 tV
 refine s0 (fq (b':=(⟨co,(1:Int)⟩:cf)) (aX.id _ _) tr tV) ?_
 refine nl hK ?_
 exact AW.ret (rtv h)
 refine AW.skip (rs hx fun K hK=>?_)
 refine s1 (d:=dG aH bq) (bp aq) ?_
 refine scb h mR fun x8 h=>?_
 refine s1 (d:=.pt 2 0) (aO eb) ?_
 refine s0 (bu (ds':=[dI .i64 x8.vM.vR,dI .i64 x8.vM.vC,dL ae x8.vM.vV,dL (cI .i64) x8.vP,dL ae x8.vBy,dB x8.vOdd,dI .i64 x8.vE,dI .i64 x8.vRows]) eb) ?_
 refine nl hK ?_
 refine AW.seq (rar hx ?_)
 refine cdh h rfl (fun jw h=>?_) (fun jw h=>?_)
 refine rs hx fun K hK=>?_
 iterate 2 refine sbr ?_
 refine s1 (d:=dG eS (⟨co,x8.vE⟩:cf)) (eT (FL.cons (y:=x8.vE) (nD (⟨co,(0:Int)⟩:cf)) rfl rfl (FL.nil _)) tr) ?_
 obtain⟨fU,Dm,h⟩:=ah h
 replace Dm:=d5 Dm
 refine s0 (fq (b':=(⟨co,x8.vE⟩:cf)) (aX.id _ _) tr Dm) ?_
 refine nl hK ?_
 exact AW.ret (rtv h)
 refine AW.skip (AW.seq (rar hx ?_))
 refine cdh h rfl (fun Co h=>?_) (fun Co h=>?_)
 refine rs hx fun K hK=>?_
 refine scb h lE fun nV h=>?_
 refine s1 (d:=dG eS (⟨nV,(0:Int)⟩:cf)) (eT (FL.cons (y:=nV) (se (⟨co,(0:Int)⟩:cf)) rfl rfl (FL.nil _)) tr) ?_
 refine nbr hK ?_
 exact AW.ret (rtv h)
 refine AW.skip (rs hx fun K hK=>?_)
 refine scb h lE fun qo h=>?_
 refine nbr hK ?_
 refine AW.seq ?_
 obtain⟨e7,hy,h⟩:=ah h
 refine jn ((PE cx .normal (fun e7=>[(2,.pt 0 0),(3,.pt 1 0),(4,.pt 2 0)]) fun e7=>⟨[(0,dC (eS.f (⟨co,(0:Int)⟩:cf))),(1,[dI .i64 x8.vM.vR,dI .i64 x8.vM.vC,dL ae x8.vM.vV,dL (cI .i64) x8.vP,dL ae x8.vBy,dB x8.vOdd,dI .i64 x8.vE,dI .i64 x8.vRows]),(2,dC (ae.f e7))],[],3⟩) e7) ?_ ?_
 replace h:=hy
 refine rar hx ?_
 refine cdh h rfl (fun Lv h=>?_) (fun Lv h=>?_)
 refine rq hx fun K hK=>?_
 refine scb h lE fun uK h=>?_
 refine nbr hK ?_
 exact pe1 h h0 [1,2,3]
 exact AW.skip (pe1 h h0 [1,2,3])
 refine lw0 ?_
 refine AW.seq (ra hx ?_)
 refine AW.block ?_
 obtain⟨tN,hy,h⟩:=ah h
 refine lp (S:=Int×ai) (X:=ai) (fun (f9,Gc)=>[(2,.pt 0 0),(3,.pt 1 0),(4,.pt 2 0),(5,dI .i64 f9)]) (fun (f9,Gc)=>⟨[(0,dC (eS.f (⟨co,(0:Int)⟩:cf))),(1,[dI .i64 x8.vM.vR,dI .i64 x8.vM.vC,dL ae x8.vM.vV,dL (cI .i64) x8.vP,dL ae x8.vBy,dB x8.vOdd,dI .i64 x8.vE,dI .i64 x8.vRows]),(2,dC (ae.f Gc))],[],3⟩) (PE cx (.exit 0) (fun tN=>[(2,.pt 0 0),(4,.pt 1 0)]) fun tN=>⟨[(0,dC (eS.f (⟨co,(0:Int)⟩:cf))),(1,dC (ae.f tN))],[],2⟩) hy ?_ ?_ ?_
 exact wk0 h0 [0,1,2]
 clear hy h
 rintro⟨f9,Gc⟩ y h
 dsimp only[l9] at h
 refine AW.seq (rar hx ?_)
 refine cdh h rfl (fun Hd h=>?_) (fun Hd h=>?_)
 refine AW.skip (AW.seq (AW.block (rqd [71] hx fun K hK=>?_)))
 iterate 4 refine sbr ?_
 obtain⟨Fd,h⟩:=am h
 have QM:(f9).toNat<(x8.vBy).length:=by omega
 refine sbr ?_
 refine s1 (d:=dG ae ((x8.vBy)[(f9).toNat]!)) (gk (c:=ae) (l:=x8.vBy) (n:=(f9).toNat) (o:=0) aC QM (cH _ _ rfl)) ?_
 refine cqb h q7 fun Am h=>?_
 refine nbr hK ?_
 refine rb hx ?_
 exact pel h h0 [0,1,2]
 exact AW.exit (per h h0 [0,2])
 refine lw0 ?_
 refine AW.seq (rs hx fun K hK=>?_)
 refine mbr ?_
 refine scb h il fun Ik h=>?_
 refine nbr hK ?_
 refine cdh h rfl (fun xG h=>?_) (fun xG h=>?_)
 refine rs hx fun K hK=>?_
 refine s1 (d:=dG eS (⟨co,(30:Int)⟩:cf)) (eT (FL.cons (y:=(30:Int)) (nD (⟨co,(0:Int)⟩:cf)) rfl rfl (FL.nil _)) tr) ?_
 obtain⟨Gn,hx32,h⟩:=ah h
 replace hx32:=d5 hx32
 refine s0 (fq (b':=(⟨co,(30:Int)⟩:cf)) (aX.id _ _) tr hx32) ?_
 refine nl hK ?_
 exact AW.ret (rtv h)
 refine AW.skip (rs hx fun K hK=>?_)
 refine sbr ?_
 refine s1 (d:=dG eS (⟨tN,(0:Int)⟩:cf)) (eT (FL.cons (y:=tN) (se (⟨co,(0:Int)⟩:cf)) rfl rfl (FL.nil _)) tr) ?_
 refine nbr hK ?_
 exact AW.ret (rtv h)
def ia(fU:b8):Int→Option (Int⊕(dx⊕Unit)):=fun j8=>cnd (decide (j8<((fU.vP).length:Int))) (gd (0≤j8∧j8<((fU.vP).length:Int)) (cnd (decide (((fU.vP)[(j8).toNat]!)≠j8)) (some (.inr (.inl (⟨(⟨(0:Int),(0:Int),([]:List ai)⟩:an),(70:Int)⟩:dx)))) (some (.inl (i64.wrap (j8+(1:Int))))))) (some (.inr (.inr ())))
def fT(bq:an)(fU:b8):Int×(List ai)→Option ((Int×(List ai))⊕((List ai))):=fun (pg,yl)=>cnd (decide (pg<bq.vR)) (gd (0≤i64.wrap ((i64.wrap ((i64.wrap (pg*(2:Int)))*bq.vR))+bq.vR)∧i64.wrap ((i64.wrap ((i64.wrap (pg*(2:Int)))*bq.vR))+bq.vR)≤i64.wrap ((i64.wrap ((i64.wrap (pg+(1:Int)))*(2:Int)))*bq.vR)∧i64.wrap ((i64.wrap ((i64.wrap (pg+(1:Int)))*(2:Int)))*bq.vR)≤((fU.vM.vV).length:Int)) (gd ((yl++(nA fU.vM.vV (i64.wrap ((i64.wrap ((i64.wrap (pg*(2:Int)))*bq.vR))+bq.vR)) (i64.wrap ((i64.wrap ((i64.wrap (pg+(1:Int)))*(2:Int)))*bq.vR)))).length*136≤140737488355328) (some (.inl (i64.wrap (pg+(1:Int)),yl++(nA fU.vM.vV (i64.wrap ((i64.wrap ((i64.wrap (pg*(2:Int)))*bq.vR))+bq.vR)) (i64.wrap ((i64.wrap ((i64.wrap (pg+(1:Int)))*(2:Int)))*bq.vR)))))))) (some (.inr yl))
def l8(bq:an):Option dx:=bnd (S:=Bool) (bnd (cz bq) fun x1=>cnd (!x1) (some (true)) (some (decide (bq.vR≠bq.vC)))) fun a8=>cnd a8 (some (⟨(⟨(0:Int),(0:Int),([]:List ai)⟩:an),(1:Int)⟩:dx)) (bnd (nI bq.vR) fun x6=>bnd (m5 bq x6) fun x8=>cnd (decide (x8.vE≠(0:Int))) (some (⟨(⟨(0:Int),(0:Int),([]:List ai)⟩:an),x8.vE⟩:dx)) (bnd (gF x8.vM) fun fU=>cnd (decide (fU.vE≠(0:Int))) (some (⟨(⟨(0:Int),(0:Int),([]:List ai)⟩:an),fU.vE⟩:dx)) (bnd (aK (ia fU) (0:Int)) fun y18=>match y18 with| .inl r=>some r| .inr ()=>bnd (aK (fT bq fU) ((0:Int),([]:List ai))) fun p8=>some (⟨(⟨bq.vR,bq.vR,p8⟩:an),(0:Int)⟩:dx))))
theorem Ca {bq:an}{r:dx}(h:l8 bq=some r):ax prog 26 [dG aH bq] (dG tG r):=by
 refine bn (rs:=[.cell 2 65]) (fun cx hx h0=>?_) func26
 unfold l8 at h
 refine rs hx fun K hK=>?_
 refine s1 (d:=.pt 0 0) fC ?_
 refine s1 (d:=.pt 1 0) (aO jr) ?_
 refine nl hK ?_
 iterate 2 refine AW.seq ?_
 obtain⟨a8,hy,h⟩:=ah h
 refine jn ((PE cx .normal (fun a8=>[(1,.pt 0 0),(2,.pt 1 0),(17,dB a8)]) fun a8=>⟨[(0,[dI .i64 bq.vR,dI .i64 bq.vC,dL ae bq.vV]),(1,[dI .i64 (0:Int),dI .i64 (0:Int),dN,dI .i64 (0:Int)])],[],2⟩) a8) ?_ ?_
 replace h:=hy
 refine rq hx fun K hK=>?_
 refine s1 (d:=dG aH bq) (bp aq) ?_
 refine scb h iA fun x1 h=>?_
 refine mbr ?_
 rcases bE h with⟨cj,h⟩|⟨cj,h⟩
 refine nbr hK ?_
 exact pe1 h h0 [0,1]
 refine nbr hK ?_
 exact pe1 h h0 [0,1]
 refine lw0 ?_
 refine cdh h rfl (fun pI h=>?_) (fun pI h=>?_)
 refine rs hx fun K hK=>?_
 refine s1 (d:=.ag [dI .i64 (0:Int),dI .i64 (0:Int),dN,dI .i64 (1:Int)]) (aR jr) ?_
 refine s0 (bu (ds':=[dI .i64 (0:Int),dI .i64 (0:Int),dN,dI .i64 (1:Int)]) jr) ?_
 refine nl hK ?_
 refine AW.ret ?_
 cases h
 exact dm.mk1 (bN (es:=[dI .i64 (0:Int),dI .i64 (0:Int),dN,dI .i64 (1:Int)]) rfl jr rfl rfl (ltb rfl) (leb rfl) rfl (.inr (.inr ⟨_,(et (wc (bI _) (wc (bI _) (wc (mW rfl) (wc (bI _) wcn))))),rfl,rfl⟩)))
 refine AW.skip (rsd [49,56] hx fun K hK=>?_)
 refine s1 (d:=dG aH bq) (bp aq) ?_
 refine mbr ?_
 refine cqb h Au fun x6 h=>?_
 refine cqb h CR fun x8 h=>?_
 refine s1 (d:=.pt 2 0) (aO jr) ?_
 refine s0 (bu (ds':=[dI .i64 x8.vM.vR,dI .i64 x8.vM.vC,dL ae x8.vM.vV,dI .i64 x8.vE]) jr) ?_
 refine nl hK ?_
 refine AW.seq (rar hx ?_)
 refine cdh h rfl (fun jw h=>?_) (fun jw h=>?_)
 refine rs hx fun K hK=>?_
 iterate 2 refine sbr ?_
 refine s1 (d:=.ag [dI .i64 (0:Int),dI .i64 (0:Int),dN,dI .i64 x8.vE]) (aR jr) ?_
 refine s0 (bu (ds':=[dI .i64 (0:Int),dI .i64 (0:Int),dN,dI .i64 x8.vE]) jr) ?_
 refine nl hK ?_
 refine AW.ret ?_
 cases h
 exact dm.mk1 (bN (es:=[dI .i64 (0:Int),dI .i64 (0:Int),dN,dI .i64 x8.vE]) rfl jr rfl rfl (ltb rfl) (leb rfl) rfl (.inr (.inr ⟨_,(et (wc (bI _) (wc (bI _) (wc (mW rfl) (wc (bI _) wcn))))),rfl,rfl⟩)))
 refine AW.skip (rs hx fun K hK=>?_)
 refine sa ?_
 refine s1 (d:=dG aH x8.vM) (bp aq) ?_
 refine scb h mR fun fU h=>?_
 refine s1 (d:=.pt 3 0) (aO eb) ?_
 refine s0 (bu (ds':=[dI .i64 fU.vM.vR,dI .i64 fU.vM.vC,dL ae fU.vM.vV,dL (cI .i64) fU.vP,dL ae fU.vBy,dB fU.vOdd,dI .i64 fU.vE,dI .i64 fU.vRows]) eb) ?_
 refine nl hK ?_
 refine AW.seq (rar hx ?_)
 refine cdh h rfl (fun Co h=>?_) (fun Co h=>?_)
 refine rs hx fun K hK=>?_
 iterate 2 refine sbr ?_
 refine s1 (d:=.ag [dI .i64 (0:Int),dI .i64 (0:Int),dN,dI .i64 fU.vE]) (aR jr) ?_
 refine s0 (bu (ds':=[dI .i64 (0:Int),dI .i64 (0:Int),dN,dI .i64 fU.vE]) jr) ?_
 refine nl hK ?_
 refine AW.ret ?_
 cases h
 exact dm.mk1 (bN (es:=[dI .i64 (0:Int),dI .i64 (0:Int),dN,dI .i64 fU.vE]) rfl jr rfl rfl (ltb rfl) (leb rfl) rfl (.inr (.inr ⟨_,(et (wc (bI _) (wc (bI _) (wc (mW rfl) (wc (bI _) wcn))))),rfl,rfl⟩)))
 refine AW.skip (AW.seq (ra hx ?_))
 refine AW.block ?_
 obtain⟨y,hy,h⟩:=ah h
 refine lp (S:=Int) (X:=dx⊕Unit) (fun j8=>[(1,.pt 0 0),(2,.pt 1 0),(4,.pt 2 0),(5,dI .i64 j8)]) (fun j8=>⟨[(0,[dI .i64 bq.vR,dI .i64 bq.vC,dL ae bq.vV]),(1,[dI .i64 (0:Int),dI .i64 (0:Int),dN,dI .i64 (0:Int)]),(2,[dI .i64 fU.vM.vR,dI .i64 fU.vM.vC,dL ae fU.vM.vV,dL (cI .i64) fU.vP,dL ae fU.vBy,dB fU.vOdd,dI .i64 fU.vE,dI .i64 fU.vRows])],[],3⟩) (PS (PR [.cell 2 65] fun r=>dG tG r) (PE cx (.exit 0) (fun ()=>[(1,.pt 0 0),(2,.pt 1 0),(4,.pt 2 0)]) fun ()=>⟨[(0,[dI .i64 bq.vR,dI .i64 bq.vC,dL ae bq.vV]),(1,[dI .i64 (0:Int),dI .i64 (0:Int),dN,dI .i64 (0:Int)]),(2,[dI .i64 fU.vM.vR,dI .i64 fU.vM.vC,dL ae fU.vM.vV,dL (cI .i64) fU.vP,dL ae fU.vBy,dB fU.vOdd,dI .i64 fU.vE,dI .i64 fU.vRows])],[],3⟩)) hy ?_ ?_ ?_
 exact wk0 h0 [0,1,3]
 clear hy h
 rintro j8 y h
 dsimp only[ia] at h
 refine AW.seq (rar hx ?_)
 refine cdh h rfl (fun u7 h=>?_) (fun u7 h=>?_)
 refine AW.skip (AW.seq (AW.block (rs hx fun K hK=>?_)))
 iterate 3 refine sbr ?_
 obtain⟨Oy,h⟩:=am h
 have E8:(j8).toNat<(fU.vP).length:=by omega
 refine sbr ?_
 refine s1 (mh (c:=(cI .i64)) (l:=fU.vP) (n:=(j8).toNat) (o:=0) bh E8) ?_
 refine nbr hK ?_
 refine cdh h rfl (fun yF h=>?_) (fun yF h=>?_)
 refine rs hx fun K hK=>?_
 refine s1 (d:=.ag [dI .i64 (0:Int),dI .i64 (0:Int),dN,dI .i64 (70:Int)]) (aR jr) ?_
 refine s0 (bu (ds':=[dI .i64 (0:Int),dI .i64 (0:Int),dN,dI .i64 (70:Int)]) jr) ?_
 refine nl hK ?_
 refine AW.ret ?_
 cases h
 refine PS.r ⟨by nofun,PS.l (PR.i ?_)⟩
 exact dm.mk1 (bN (es:=[dI .i64 (0:Int),dI .i64 (0:Int),dN,dI .i64 (70:Int)]) rfl jr rfl rfl (ltb rfl) (leb rfl) rfl (.inr (.inr ⟨_,(et (wc (bI _) (wc (bI _) (wc (mW rfl) (wc (bI _) wcn))))),rfl,rfl⟩)))
 refine AW.skip (rb hx ?_)
 exact pel h h0 [0,1,2]
 exact AW.exit (peq h h0 [0,1,2])
 rcases y with r|⟨⟩
 rintro ex tm' hp' ⟨rfl,hw⟩
 cases h
 exact hw
 refine lwr ?_
 refine rs hx fun K hK=>?_
 iterate 4 refine sbr ?_
 refine s1 (d:=.ag [dI .i64 bq.vR,dI .i64 bq.vR,dN]) (aR aq) ?_
 refine s1 (d:=.pt 3 0) (aO aq) ?_
 refine s0 (bu (ds':=[dI .i64 bq.vR,dI .i64 bq.vR,dN]) aq) ?_
 refine nl hK ?_
 refine AW.seq (ra hx ?_)
 refine AW.block ?_
 obtain⟨p8,hy,h⟩:=ah h
 refine lp (S:=Int×(List ai)) (X:=(List ai)) (fun (pg,yl)=>[(1,.pt 0 0),(2,.pt 1 0),(4,.pt 2 0),(6,.pt 3 0),(7,dI .i64 pg)]) (fun (pg,yl)=>⟨[(0,[dI .i64 bq.vR,dI .i64 bq.vC,dL ae bq.vV]),(1,[dI .i64 (0:Int),dI .i64 (0:Int),dN,dI .i64 (0:Int)]),(2,[dI .i64 fU.vM.vR,dI .i64 fU.vM.vC,dL ae fU.vM.vV,dL (cI .i64) fU.vP,dL ae fU.vBy,dB fU.vOdd,dI .i64 fU.vE,dI .i64 fU.vRows]),(3,[dI .i64 bq.vR,dI .i64 bq.vR,dO 4 ae yl])],[(4,(yl).length,36,34)],5⟩) (PE cx (.exit 2) (fun p8=>[(2,.pt 0 0),(6,.pt 1 0)]) fun p8=>⟨[(0,[dI .i64 (0:Int),dI .i64 (0:Int),dN,dI .i64 (0:Int)]),(1,[dI .i64 bq.vR,dI .i64 bq.vR,dO 2 ae p8])],[(2,(p8).length,36,34)],3⟩) hy ?_ ?_ ?_
 exact Wk.trans (Wk.nilOwn (ds':=[dI .i64 bq.vR,dI .i64 bq.vR,dO 4 ae ([]:List ai)]) 3 2 34 36) (wk h0 [0,1,2,3,4] (wR rfl (wR rfl (wR rfl (wR rfl (wR rfl wTn))))) (vR rfl (vR rfl (vR rfl (vR rfl wVn)))) (wL rfl rfl wLn))
 clear hy h
 rintro⟨pg,yl⟩ y h
 dsimp only[fT] at h
 refine AW.seq (rar hx ?_)
 refine cdh h rfl (fun Hf h=>?_) (fun Hf h=>?_)
 refine AW.skip (AW.seq (AW.block (rqd [] hx fun K hK=>?_)))
 iterate 19 refine sbr ?_
 obtain⟨Ov,h⟩:=am h
 refine s1 (Sj (c:=ae) (l:=fU.vM.vV) (a:=i64.wrap ((i64.wrap ((i64.wrap (pg*(2:Int)))*bq.vR))+bq.vR)) (b:=i64.wrap ((i64.wrap ((i64.wrap (pg+(1:Int)))*(2:Int)))*bq.vR)) Ov aF aC) ?_
 obtain⟨hc21,h⟩:=am h
 refine s1 (d:=dO 4 ae (yl++(nA fU.vM.vV (i64.wrap ((i64.wrap ((i64.wrap (pg*(2:Int)))*bq.vR))+bq.vR)) (i64.wrap ((i64.wrap ((i64.wrap (pg+(1:Int)))*(2:Int)))*bq.vR))))) (eD aF aC hc21) ?_
 refine sa ?_
 refine s0 (bu (ds':=[dI .i64 bq.vR,dI .i64 bq.vR,dO 4 ae (yl++(nA fU.vM.vV (i64.wrap ((i64.wrap ((i64.wrap (pg*(2:Int)))*bq.vR))+bq.vR)) (i64.wrap ((i64.wrap ((i64.wrap (pg+(1:Int)))*(2:Int)))*bq.vR))))]) aF) ?_
 refine nl hK ?_
 refine rb hx ?_
 exact pel h h0 [0,1,2,3,4]
 exact AW.exit (per h h0 [1,3,4])
 refine lw0 ?_
 refine rs hx fun K hK=>?_
 refine s1 (d:=.ag [dI .i64 bq.vR,dI .i64 bq.vR,dO 2 ae p8]) (bp aq) ?_
 refine s2 (d2:=dG tG (⟨(⟨bq.vR,bq.vR,p8⟩:an),(0:Int)⟩:dx)) (aR (es:=[dI .i64 bq.vR,dI .i64 bq.vR,dO 2 ae p8,dI .i64 (0:Int)]) jr) (et (wc (bI _) (wc (bI _) (wc (tT _) (wc (bI _) wcn))))) ?_
 refine s0 (bu (ds':=[dI .i64 bq.vR,dI .i64 bq.vR,dL ae p8,dI .i64 (0:Int)]) jr) ?_
 refine nl hK ?_
 refine AW.ret ?_
 cases h
 exact dm.mk1 (bN (es:=(tG.f (⟨(⟨bq.vR,bq.vR,p8⟩:an),(0:Int)⟩:dx)).map .e) rfl jr rfl rfl (ltb rfl) (leb rfl) rfl (.inr (.inr ⟨_,(ao _),rfl,rfl⟩)))
def iR(bq:an)(x1:b8)(bx:Int)(cZ:Int)(iM:an):Int×(List ai)→Option ((Int×(List ai))⊕((List ai))):=fun (bV,gj)=>cnd (decide (bV<bx)) (gd (0≤bV∧bV<((x1.vP).length:Int)) (gd (0≤i64.wrap ((i64.wrap (bV*bq.vC))+cZ)∧i64.wrap ((i64.wrap (bV*bq.vC))+cZ)<((x1.vM.vV).length:Int)) (bnd (m7 ((x1.vM.vV)[(i64.wrap ((i64.wrap (bV*bq.vC))+cZ)).toNat]!)) fun te=>gd (0≤(x1.vP)[(bV).toNat]!∧(x1.vP)[(bV).toNat]! <(((iM.vV).length:Nat):Int)∧(x1.vP)[(bV).toNat]! <((gj).length:Int)) (some (.inl (i64.wrap (bV+(1:Int)),(gj).set (((x1.vP)[(bV).toNat]!).toNat) te)))))) (some (.inr gj))
def iS(bq:an)(x1:b8):(List (List ai))×Int×Int→Option (((List (List ai))×Int×Int)⊕((List (List ai)))):=fun (aQ,bx,cZ)=>cnd (decide (cZ<bq.vC)) (bnd (S:=(List (List ai))×Int) (bnd (S:=Bool) (cnd (decide (bx<((x1.vP).length:Int))) (gd (0≤min bx (i64.wrap (((x1.vP).length:Int) - (1:Int)))∧min bx (i64.wrap (((x1.vP).length:Int) - (1:Int)))<((x1.vP).length:Int)) (some (decide (((x1.vP)[(min bx (i64.wrap (((x1.vP).length:Int) - (1:Int)))).toNat]!)=cZ)))) (some (false))) fun e7=>cnd e7 (some ((aQ,i64.wrap (bx+(1:Int))))) (bnd (fF (1:Int) bq.vC) fun iM=>bnd (e8 (1:Int)) fun jW=>gd (0≤cZ∧cZ<(((iM.vV).length:Nat):Int)∧cZ<((iM.vV).length:Int)) (bnd (aK (iR bq x1 bx cZ iM) ((0:Int),(iM.vV).set ((cZ).toNat) jW)) fun qb=>gd ((iM.vV).length=(qb).length) (gd ((aQ++[qb]).length*24≤140737488355328) (some ((aQ++[qb],bx))))))) fun (cF,eO)=>some (.inl (cF,eO,i64.wrap (cZ+(1:Int))))) (some (.inr aQ))
def pM(bq:an):Option jU:=bnd (gF bq) fun x1=>cnd (decide (x1.vE≠(0:Int))) (some (⟨([]:List (List ai)),x1.vE⟩:jU)) (bnd (aK (iS bq x1) (([]:List (List ai)),(0:Int),(0:Int))) fun eA=>some (⟨eA,(0:Int)⟩:jU))
theorem CP {bq:an}{r:jU}(h:pM bq=some r):ax prog 22 [dG aH bq] (dG vh r):=by
 refine bn (rs:=[.cell 2 56]) (fun cx hx h0=>?_) func22
 unfold pM at h
 refine rs hx fun K hK=>?_
 refine s1 (d:=.pt 0 0) fC ?_
 refine s1 (d:=.pt 1 0) (aO ri) ?_
 refine nl hK ?_
 refine rs hx fun K hK=>?_
 refine s1 (d:=dG aH bq) (bp aq) ?_
 refine scb h mR fun x1 h=>?_
 refine s1 (d:=.pt 2 0) (aO eb) ?_
 refine s0 (bu (ds':=[dI .i64 x1.vM.vR,dI .i64 x1.vM.vC,dL ae x1.vM.vV,dL (cI .i64) x1.vP,dL ae x1.vBy,dB x1.vOdd,dI .i64 x1.vE,dI .i64 x1.vRows]) eb) ?_
 refine nl hK ?_
 refine AW.seq (rar hx ?_)
 refine cdh h rfl (fun cj h=>?_) (fun cj h=>?_)
 refine rs hx fun K hK=>?_
 iterate 2 refine sbr ?_
 refine s1 (d:=.ag [dN,dI .i64 x1.vE]) (aR ri) ?_
 refine s0 (bu (ds':=[dN,dI .i64 x1.vE]) ri) ?_
 refine nl hK ?_
 refine AW.ret ?_
 cases h
 exact dm.mk1 (bN (es:=[dN,dI .i64 x1.vE]) rfl ri rfl rfl (ltb rfl) (leb rfl) rfl (.inr (.inr ⟨_,(et (wc (mW rfl) (wc (bI _) wcn))),rfl,rfl⟩)))
 refine AW.skip (rs hx fun K hK=>?_)
 refine s1 (d:=dO 3 (cL ae) ([]:List (List ai))) (eC js aF) ?_
 refine nl hK ?_
 refine ra hx ?_
 refine AW.seq (ra hx ?_)
 refine AW.block ?_
 obtain⟨eA,hy,h⟩:=ah h
 refine lp (S:=(List (List ai))×Int×Int) (X:=(List (List ai))) (fun (aQ,bx,cZ)=>[(1,.pt 0 0),(2,.pt 1 0),(3,.pt 2 0),(4,dO 3 (cL ae) aQ),(5,dI .i64 bx),(6,dI .i64 cZ)]) (fun (aQ,bx,cZ)=>⟨[(0,[dI .i64 bq.vR,dI .i64 bq.vC,dL ae bq.vV]),(1,[dN,dI .i64 (0:Int)]),(2,[dI .i64 x1.vM.vR,dI .i64 x1.vM.vC,dL ae x1.vM.vV,dL (cI .i64) x1.vP,dL ae x1.vBy,dB x1.vOdd,dI .i64 x1.vE,dI .i64 x1.vRows])],[(3,(aQ).length,1,22)],4⟩) (PE cx (.exit 0) (fun eA=>[(2,.pt 0 0),(4,dO 1 (cL ae) eA)]) fun eA=>⟨[(0,[dN,dI .i64 (0:Int)])],[(1,(eA).length,1,22)],2⟩) hy ?_ ?_ ?_
 exact wk0 h0 [0,1,2,3]
 clear hy h
 rintro⟨aQ,bx,cZ⟩ y h
 dsimp only[iS] at h
 refine AW.seq (rar hx ?_)
 refine cdh h rfl (fun yE h=>?_) (fun yE h=>?_)
 refine AW.skip (AW.seq ?_)
 obtain⟨y,hy,h⟩:=ah h
 refine jn ((PE cx .normal (fun (cF,eO)=>[(1,.pt 0 0),(2,.pt 1 0),(3,.pt 2 0),(4,dO 3 (cL ae) cF),(5,dI .i64 eO),(6,dI .i64 cZ)]) fun (cF,eO)=>⟨[(0,[dI .i64 bq.vR,dI .i64 bq.vC,dL ae bq.vV]),(1,[dN,dI .i64 (0:Int)]),(2,[dI .i64 x1.vM.vR,dI .i64 x1.vM.vC,dL ae x1.vM.vV,dL (cI .i64) x1.vP,dL ae x1.vBy,dB x1.vOdd,dI .i64 x1.vE,dI .i64 x1.vRows])],[(3,(cF).length,1,22)],4⟩) y) ?_ ?_
 replace h:=hy
 refine AW.block ?_
 iterate 2 refine AW.seq ?_
 obtain⟨e7,hy,h⟩:=ah h
 refine jn ((PE cx .normal (fun e7=>[(1,.pt 0 0),(2,.pt 1 0),(3,.pt 2 0),(4,dO 3 (cL ae) aQ),(5,dI .i64 bx),(6,dI .i64 cZ),(41,dB e7)]) fun e7=>⟨[(0,[dI .i64 bq.vR,dI .i64 bq.vC,dL ae bq.vV]),(1,[dN,dI .i64 (0:Int)]),(2,[dI .i64 x1.vM.vR,dI .i64 x1.vM.vC,dL ae x1.vM.vV,dL (cI .i64) x1.vP,dL ae x1.vBy,dB x1.vOdd,dI .i64 x1.vE,dI .i64 x1.vRows])],[(3,(aQ).length,1,22)],4⟩) e7) ?_ ?_
 replace h:=hy
 refine rq hx fun K hK=>?_
 refine mbr ?_
 rcases bE h with⟨pI,h⟩|⟨pI,h⟩
 refine ga pI ?_
 refine gbr ?_
 iterate 2 refine ga pI ?_
 refine gbr ?_
 iterate 2 refine ga pI ?_
 refine g1 (d:=dI .i64 (min bx (i64.wrap (((x1.vP).length:Int) - (1:Int))))) pI Nv ?_
 obtain⟨Re,h⟩:=am h
 have hn7:(min bx (i64.wrap (((x1.vP).length:Int) - (1:Int)))).toNat<(x1.vP).length:=by omega
 refine gbr ?_
 refine g1 pI (mh (c:=(cI .i64)) (l:=x1.vP) (n:=(min bx (i64.wrap (((x1.vP).length:Int) - (1:Int)))).toNat) (o:=0) bh hn7) ?_
 refine nbr hK ?_
 exact pe1 h h0 [0,1,2,3]
 refine nbr hK ?_
 exact pe1 h h0 [0,1,2,3]
 refine lw0 ?_
 refine cdh h rfl (fun G6 h=>?_) (fun G6 h=>?_)
 refine ra hx ?_
 refine AW.exit ?_
 try dsimp only
 try simp only[bP,reduceIte,Nat.reduceEqDiff,reduceCtorEq]
 exact pe1 h h0 [0,1,2,3]
 refine AW.skip (rs hx fun K hK=>?_)
 iterate 2 refine sbr ?_
 obtain⟨iM,Cg,h⟩:=ah h
 refine sC0 (d:=.ag [dI .i64 iM.vR,dI .i64 iM.vC,.gw 4 36 ((iM.vV).length)]) (hp':=⟨[(4,dC ((cW ae).f iM.vV)),(0,[dI .i64 bq.vR,dI .i64 bq.vC,dL ae bq.vV]),(1,[dN,dI .i64 (0:Int)]),(2,[dI .i64 x1.vM.vR,dI .i64 x1.vM.vC,dL ae x1.vM.vV,dL (cI .i64) x1.vP,dL ae x1.vBy,dB x1.vOdd,dI .i64 x1.vE,dI .i64 x1.vRows])],[(3,(aQ).length,1,22)],5⟩) (wb Cg) (ARs.cons (AR.le (ao _) rfl) (ARs.cons (AR.le (ao _) rfl) ARs.nil)) (qn.l _ _) ?_
 refine s1 (Mc aq aF) ?_
 refine nbr hK ?_
 refine rs hx fun K hK=>?_
 refine mbr ?_
 refine scb h lE fun jW h=>?_
 obtain⟨G4,h⟩:=am h
 have hn15:(cZ).toNat<(iM.vV).length:=by omega
 refine sG (nr ⟨G4.1,G4.2.1⟩ aF aC) ?_
 refine s0 (ig (b':=jW) (aX.seqW ae iM.vV ((cZ).toNat) hn15) aC) ?_
 refine nl hK ?_
 refine AW.seq (ra hx ?_)
 refine AW.block ?_
 obtain⟨qb,hy,h⟩:=ah h
 refine lp (S:=Int×(List ai)) (X:=(List ai)) (fun (bV,gj)=>[(1,.pt 0 0),(2,.pt 1 0),(3,.pt 2 0),(4,dO 3 (cL ae) aQ),(5,dI .i64 bx),(6,dI .i64 cZ),(7,.gw 4 36 ((iM.vV).length)),(8,dI .i64 bV)]) (fun (bV,gj)=>⟨[(0,[dI .i64 bq.vR,dI .i64 bq.vC,dL ae bq.vV]),(1,[dN,dI .i64 (0:Int)]),(2,[dI .i64 x1.vM.vR,dI .i64 x1.vM.vC,dL ae x1.vM.vV,dL (cI .i64) x1.vP,dL ae x1.vBy,dB x1.vOdd,dI .i64 x1.vE,dI .i64 x1.vRows]),(4,dC ((cW ae).f gj))],[(3,(aQ).length,1,22)],5⟩) (PE cx (.exit 2) (fun qb=>[(1,.pt 0 0),(2,.pt 1 0),(3,.pt 2 0),(4,dO 3 (cL ae) aQ),(5,dI .i64 bx),(6,dI .i64 cZ),(7,.gw 4 36 ((iM.vV).length))]) fun qb=>⟨[(0,[dI .i64 bq.vR,dI .i64 bq.vC,dL ae bq.vV]),(1,[dN,dI .i64 (0:Int)]),(2,[dI .i64 x1.vM.vR,dI .i64 x1.vM.vC,dL ae x1.vM.vV,dL (cI .i64) x1.vP,dL ae x1.vBy,dB x1.vOdd,dI .i64 x1.vE,dI .i64 x1.vRows]),(4,dC ((cW ae).f qb))],[(3,(aQ).length,1,22)],5⟩) hy ?_ ?_ ?_
 exact wk0 h0 [0,1,2,3,4]
 clear hy h
 rintro⟨bV,gj⟩ y h
 dsimp only[iR] at h
 refine AW.seq (ra hx ?_)
 refine cdh h rfl (fun DB h=>?_) (fun DB h=>?_)
 refine AW.skip (AW.seq (AW.block (rqd [79] hx fun K hK=>?_)))
 iterate 4 refine sbr ?_
 obtain⟨Ow,h⟩:=am h
 have QN:(bV).toNat<(x1.vP).length:=by omega
 refine sbr ?_
 refine s1 (mh (c:=(cI .i64)) (l:=x1.vP) (n:=(bV).toNat) (o:=0) bh QN) ?_
 iterate 9 refine sbr ?_
 obtain⟨Lm,h⟩:=am h
 have Ld:(i64.wrap ((i64.wrap (bV*bq.vC))+cZ)).toNat<(x1.vM.vV).length:=by omega
 refine sbr ?_
 refine s1 (d:=dG ae ((x1.vM.vV)[(i64.wrap ((i64.wrap (bV*bq.vC))+cZ)).toNat]!)) (gk (c:=ae) (l:=x1.vM.vV) (n:=(i64.wrap ((i64.wrap (bV*bq.vC))+cZ)).toNat) (o:=0) aC Ld (cH _ _ rfl)) ?_
 refine cqb h BH fun te h=>?_
 obtain⟨Fd,h⟩:=am h
 have QM:((x1.vP)[(bV).toNat]!).toNat<(gj).length:=by omega
 refine sG (nr ⟨Fd.1,Fd.2.1⟩ aF aC) ?_
 refine s0 (ig (b':=te) (aX.seqW ae gj (((x1.vP)[(bV).toNat]!).toNat) QM) aC) ?_
 refine nl hK ?_
 refine rb hx ?_
 exact pel h h0 [0,1,2,3,4]
 exact AW.exit (per h h0 [0,1,2,3,4])
 refine lw0 ?_
 refine rq hx fun K hK=>?_
 iterate 2 refine sa ?_
 obtain⟨hc26,h⟩:=am h
 refine fzOD ae (n:=(iM.vV).length) 4 [(7,dL ae qb),(77,dL ae qb)] [] hc26 ?_ (ftc rfl (.c .hitG) (ftc rfl (.c .hitG) ftn)) fvn
 refine s1 (d:=dO 5 (cL ae) [qb]) (jc js aF) ?_
 obtain⟨hc27,h⟩:=am h
 refine s1 (d:=dO 3 (cL ae) (aQ++[qb])) (eD js aF hc27) ?_
 refine nbr hK ?_
 exact pe1 h h0 [0,1,2,3]
 obtain⟨cF,eO⟩:=y
 refine lw0 ?_
 refine rb hx ?_
 exact pel h h0 [0,1,2,3]
 exact AW.exit (per h h0 [1,3])
 refine lw0 ?_
 refine rs hx fun K hK=>?_
 refine sa ?_
 refine s2 (d2:=dG vh (⟨eA,(0:Int)⟩:jU)) (aR (es:=[dO 1 (cL ae) eA,dI .i64 (0:Int)]) ri) (et (wc (tT _) (wc (bI _) wcn))) ?_
 refine s0 (bu (ds':=[dL (cL ae) eA,dI .i64 (0:Int)]) ri) ?_
 refine nl hK ?_
 refine AW.ret ?_
 cases h
 exact dm.mk1 (bN (es:=(vh.f (⟨eA,(0:Int)⟩:jU)).map .e) rfl ri rfl rfl (ltb rfl) (leb rfl) rfl (.inr (.inr ⟨_,(ao _),rfl,rfl⟩)))
def sR(bq:an)(x1:b8):Int→Option (Int⊕Unit):=fun aQ=>cnd (decide (aQ<bq.vC)) (bnd (S:=Bool) (cnd (decide (aQ<((x1.vP).length:Int))) (gd (0≤min aQ (i64.wrap (((x1.vP).length:Int) - (1:Int)))∧min aQ (i64.wrap (((x1.vP).length:Int) - (1:Int)))<((x1.vP).length:Int)) (some (decide (((x1.vP)[(min aQ (i64.wrap (((x1.vP).length:Int) - (1:Int)))).toNat]!)=aQ)))) (some (false))) fun e7=>cnd e7 (some (.inl (i64.wrap (aQ+(1:Int))))) (bnd (lN (1:Int) bq.vC) fun iM=>bnd (e8 (1:Int)) fun jW=>gd (0≤aQ∧aQ<((iM.vV).length:Int)) (none))) (some (.inr ()))
def sS(bq:an):Option jU:=bnd (gF bq) fun x1=>cnd (decide (x1.vE≠(0:Int))) (some (⟨([]:List (List ai)),x1.vE⟩:jU)) (bnd (aK (sR bq x1) (0:Int)) fun ()=>some (⟨([]:List (List ai)),(0:Int)⟩:jU))
theorem CQ {bq:an}{r:jU}(h:sS bq=some r):ax prog 22 [dG aH bq] (dG vh r):=by
 refine bn (rs:=[.cell 2 56]) (fun cx hx h0=>?_) func22
 unfold sS at h
 refine rs hx fun K hK=>?_
 refine s1 (d:=.pt 0 0) fC ?_
 refine s1 (d:=.pt 1 0) (aO ri) ?_
 refine nl hK ?_
 refine rs hx fun K hK=>?_
 refine s1 (d:=dG aH bq) (bp aq) ?_
 refine scb h mR fun x1 h=>?_
 refine s1 (d:=.pt 2 0) (aO eb) ?_
 refine s0 (bu (ds':=[dI .i64 x1.vM.vR,dI .i64 x1.vM.vC,dL ae x1.vM.vV,dL (cI .i64) x1.vP,dL ae x1.vBy,dB x1.vOdd,dI .i64 x1.vE,dI .i64 x1.vRows]) eb) ?_
 refine nl hK ?_
 refine AW.seq (rar hx ?_)
 refine cdh h rfl (fun cj h=>?_) (fun cj h=>?_)
 refine rs hx fun K hK=>?_
 iterate 2 refine sbr ?_
 refine s1 (d:=.ag [dN,dI .i64 x1.vE]) (aR ri) ?_
 refine s0 (bu (ds':=[dN,dI .i64 x1.vE]) ri) ?_
 refine nl hK ?_
 refine AW.ret ?_
 cases h
 exact dm.mk1 (bN (es:=[dN,dI .i64 x1.vE]) rfl ri rfl rfl (ltb rfl) (leb rfl) rfl (.inr (.inr ⟨_,(et (wc (mW rfl) (wc (bI _) wcn))),rfl,rfl⟩)))
 refine AW.skip (rs hx fun K hK=>?_)
 refine s1 (d:=dO 3 (cL ae) ([]:List (List ai))) (eC js aF) ?_
 refine nl hK ?_
 refine ra hx ?_
 refine AW.seq (ra hx ?_)
 refine AW.block ?_
 obtain⟨y,hy,h⟩:=ah h
 refine lp (S:=Int) (X:=Unit) (fun aQ=>[(1,.pt 0 0),(2,.pt 1 0),(3,.pt 2 0),(4,dO 3 (cL ae) ([]:List (List ai))),(5,dI .i64 aQ),(6,dI .i64 aQ)]) (fun aQ=>⟨[(0,[dI .i64 bq.vR,dI .i64 bq.vC,dL ae bq.vV]),(1,[dN,dI .i64 (0:Int)]),(2,[dI .i64 x1.vM.vR,dI .i64 x1.vM.vC,dL ae x1.vM.vV,dL (cI .i64) x1.vP,dL ae x1.vBy,dB x1.vOdd,dI .i64 x1.vE,dI .i64 x1.vRows])],[(3,(([]:List (List ai))).length,1,22)],4⟩) (PE cx (.exit 0) (fun ()=>[(2,.pt 0 0),(4,dO 1 (cL ae) ([]:List (List ai)))]) fun ()=>⟨[(0,[dN,dI .i64 (0:Int)])],[(1,(([]:List (List ai))).length,1,22)],2⟩) hy ?_ ?_ ?_
 exact wk0 h0 [0,1,2,3]
 clear hy h
 rintro aQ y h
 dsimp only[sR] at h
 refine AW.seq (rar hx ?_)
 refine cdh h rfl (fun yE h=>?_) (fun yE h=>?_)
 refine AW.skip (AW.seq (AW.block ?_))
 iterate 2 refine AW.seq ?_
 obtain⟨e7,hy,h⟩:=ah h
 refine jn ((PE cx .normal (fun e7=>[(1,.pt 0 0),(2,.pt 1 0),(3,.pt 2 0),(4,dO 3 (cL ae) ([]:List (List ai))),(5,dI .i64 aQ),(6,dI .i64 aQ),(41,dB e7)]) fun e7=>⟨[(0,[dI .i64 bq.vR,dI .i64 bq.vC,dL ae bq.vV]),(1,[dN,dI .i64 (0:Int)]),(2,[dI .i64 x1.vM.vR,dI .i64 x1.vM.vC,dL ae x1.vM.vV,dL (cI .i64) x1.vP,dL ae x1.vBy,dB x1.vOdd,dI .i64 x1.vE,dI .i64 x1.vRows])],[(3,(([]:List (List ai))).length,1,22)],4⟩) e7) ?_ ?_
 replace h:=hy
 refine rq hx fun K hK=>?_
 refine mbr ?_
 rcases bE h with⟨pI,h⟩|⟨pI,h⟩
 refine ga pI ?_
 refine gbr ?_
 iterate 2 refine ga pI ?_
 refine gbr ?_
 iterate 2 refine ga pI ?_
 refine g1 (d:=dI .i64 (min aQ (i64.wrap (((x1.vP).length:Int) - (1:Int))))) pI Nv ?_
 obtain⟨Re,h⟩:=am h
 have hn7:(min aQ (i64.wrap (((x1.vP).length:Int) - (1:Int)))).toNat<(x1.vP).length:=by omega
 refine gbr ?_
 refine g1 pI (mh (c:=(cI .i64)) (l:=x1.vP) (n:=(min aQ (i64.wrap (((x1.vP).length:Int) - (1:Int)))).toNat) (o:=0) bh hn7) ?_
 refine nbr hK ?_
 exact pe1 h h0 [0,1,2,3]
 refine nbr hK ?_
 exact pe1 h h0 [0,1,2,3]
 refine lw0 ?_
 refine cdh h rfl (fun G6 h=>?_) (fun G6 h=>?_)
 refine ra hx ?_
 refine AW.exit ?_
 try dsimp only
 try simp only[bP,reduceIte,Nat.reduceEqDiff,reduceCtorEq]
 refine rb hx ?_
 exact pel h h0 [0,1,2,3]
 refine AW.skip (rs hx fun K hK=>?_)
 refine mbr ?_
 refine scb h zk fun iM h=>?_
 refine s1 (Mc aq aF) ?_
 refine nbr hK ?_
 refine rs hx fun K hK=>?_
 refine mbr ?_
 refine scb h lE fun jW h=>?_
 obtain⟨G4,h⟩:=am h
 refine sbr ?_
 cases h
 exact AW.exit (per h h0 [1,3])
 cases y
 refine lw0 ?_
 refine rs hx fun K hK=>?_
 refine sa ?_
 refine s2 (d2:=dG vh (⟨([]:List (List ai)),(0:Int)⟩:jU)) (aR (es:=[dO 1 (cL ae) ([]:List (List ai)),dI .i64 (0:Int)]) ri) (et (wc (tT _) (wc (bI _) wcn))) ?_
 refine s0 (bu (ds':=[dL (cL ae) ([]:List (List ai)),dI .i64 (0:Int)]) ri) ?_
 refine nl hK ?_
 refine AW.ret ?_
 cases h
 exact dm.mk1 (bN (es:=(vh.f (⟨([]:List (List ai)),(0:Int)⟩:jU)).map .e) rfl ri rfl rfl (ltb rfl) (leb rfl) rfl (.inr (.inr ⟨_,(ao _),rfl,rfl⟩)))
def si(bq:an):Option jU:=orO (pM bq) (sS bq)
theorem Gs {bq:an}{r:jU}(h:si bq=some r):ax prog 22 [dG aH bq] (dG vh r):=(zF h).elim CP CQ
def gG(bq:an)(bk:Int):Int→Option (Int⊕(gc⊕Unit)):=fun iG=>cnd (decide (iG<bk)) (gd (0≤i64.wrap ((i64.wrap (bk*bq.vC))+iG)∧i64.wrap ((i64.wrap (bk*bq.vC))+iG)<((bq.vV).length:Int)) (gd (0≤i64.wrap ((i64.wrap (iG*bq.vC))+bk)∧i64.wrap ((i64.wrap (iG*bq.vC))+bk)<((bq.vV).length:Int)) (cnd (decide (¬((bq.vV)[(i64.wrap ((i64.wrap (bk*bq.vC))+iG)).toNat]! =(bq.vV)[(i64.wrap ((i64.wrap (iG*bq.vC))+bk)).toNat]!))) (some (.inr (.inl (⟨false,(0:Int)⟩:gc)))) (some (.inl (i64.wrap (iG+(1:Int)))))))) (some (.inr (.inr ())))
def gH(bq:an):Int→Option (Int⊕(gc⊕Unit)):=fun bk=>cnd (decide (bk<bq.vR)) (bnd (aK (gG bq bk) (0:Int)) fun y13=>match y13 with| .inl r=>some (.inr (.inl r))| .inr ()=>some (.inl (i64.wrap (bk+(1:Int))))) (some (.inr (.inr ())))
def eg(bq:an):Int→Option (Int⊕(gc⊕Unit)):=fun Ej=>cnd (decide (Ej≤bq.vR)) (bnd (oh bq Ej) fun qo=>bnd (pb qo) fun lh=>cnd (decide (lh.vE≠(0:Int))) (some (.inr (.inl (⟨false,lh.vE⟩:gc)))) (bnd (gA lh.vX) fun te=>cnd (decide (te≤(0:Int))) (some (.inr (.inl (⟨false,(0:Int)⟩:gc)))) (some (.inl (i64.wrap (Ej+(1:Int))))))) (some (.inr (.inr ())))
def kG(bq:an):Option gc:=bnd (S:=Bool) (bnd (cz bq) fun x1=>cnd (!x1) (some (true)) (some (decide (bq.vR≠bq.vC)))) fun a8=>cnd a8 (some (⟨false,(1:Int)⟩:gc)) (bnd (aK (gH bq) (0:Int)) fun y14=>match y14 with| .inl r=>some r| .inr ()=>bnd (aK (eg bq) (1:Int)) fun y24=>match y24 with| .inl r=>some r| .inr ()=>some (⟨true,(0:Int)⟩:gc))
theorem At {bq:an}{r:gc}(h:kG bq=some r):ax prog 24 [dG aH bq] (dG pR r):=by
 refine bn (rs:=[.cell 2 61]) (fun cx hx h0=>?_) func24
 unfold kG at h
 refine rs hx fun K hK=>?_
 refine s1 (d:=.pt 0 0) fC ?_
 refine s1 (d:=.pt 1 0) (aO pD) ?_
 refine nl hK ?_
 iterate 2 refine AW.seq ?_
 obtain⟨a8,hy,h⟩:=ah h
 refine jn ((PE cx .normal (fun a8=>[(1,.pt 0 0),(2,.pt 1 0),(16,dB a8)]) fun a8=>⟨[(0,[dI .i64 bq.vR,dI .i64 bq.vC,dL ae bq.vV]),(1,[dB false,dI .i64 (0:Int)])],[],2⟩) a8) ?_ ?_
 replace h:=hy
 refine rq hx fun K hK=>?_
 refine s1 (d:=dG aH bq) (bp aq) ?_
 refine scb h iA fun x1 h=>?_
 iterate 2 refine sa ?_
 rcases ee (!x1) with cj|cj
 replace h:=ek cj h
 iterate 5 refine aT rfl rfl cj ?_
 refine s1 (au cj) ?_
 refine nl hK ?_
 cases h
 exact pe0 h0 [0,1]
 replace h:=eo cj h
 refine ga cj ?_
 refine g1 cj (bK bh) ?_
 refine ga cj ?_
 refine g1 cj (bK bh) ?_
 refine ga cj ?_
 refine s1 (aN cj) ?_
 refine nl hK ?_
 cases h
 exact pe0 h0 [0,1]
 rintro ex tm' hp' ⟨rfl,hw⟩
 refine AW.weak hw (cdh h rfl (fun pI h=>?_) (fun pI h=>?_))
 refine rs hx fun K hK=>?_
 refine s1 (d:=dG pR (⟨false,(1:Int)⟩:gc)) (aR pD) ?_
 refine s0 (bu (ds':=[dB false,dI .i64 (1:Int)]) pD) ?_
 refine nl hK ?_
 refine AW.ret ?_
 cases h
 exact dm.mk1 (bN (es:=(pR.f (⟨false,(1:Int)⟩:gc)).map .e) rfl pD rfl rfl (ltb rfl) (leb rfl) rfl (.inr (.inr ⟨_,(ao _),rfl,rfl⟩)))
 refine AW.skip (AW.seq (ra hx ?_))
 refine AW.block ?_
 obtain⟨y,hy,h⟩:=ah h
 refine lp (S:=Int) (X:=gc⊕Unit) (fun bk=>[(1,.pt 0 0),(2,.pt 1 0),(3,dI .i64 bk)]) (fun bk=>⟨[(0,[dI .i64 bq.vR,dI .i64 bq.vC,dL ae bq.vV]),(1,[dB false,dI .i64 (0:Int)])],[],2⟩) (PS (PR [.cell 2 61] fun r=>dG pR r) (PE cx (.exit 0) (fun ()=>[(1,.pt 0 0),(2,.pt 1 0)]) fun ()=>⟨[(0,[dI .i64 bq.vR,dI .i64 bq.vC,dL ae bq.vV]),(1,[dB false,dI .i64 (0:Int)])],[],2⟩)) hy ?_ ?_ ?_
 exact wk h0 [0,1] (wR rfl (wR rfl (wR rfl wTn))) (vR rfl (vR rfl wVn)) wLn
 clear hy h
 rintro bk y h
 dsimp only[gH] at h
 refine AW.seq (rs hx fun K hK=>?_)
 iterate 2 refine sa ?_
 refine s1 (bK bh) ?_
 refine sa ?_
 refine nl hK ?_
 refine cdh h rfl (fun lZ h=>?_) (fun lZ h=>?_)
 refine AW.skip (AW.seq (AW.block (ra hx ?_)))
 refine AW.block ?_
 obtain⟨y,hy,h⟩:=ah h
 refine lp (S:=Int) (X:=gc⊕Unit) (fun iG=>[(1,.pt 0 0),(2,.pt 1 0),(3,dI .i64 bk),(4,dI .i64 iG)]) (fun iG=>⟨[(0,[dI .i64 bq.vR,dI .i64 bq.vC,dL ae bq.vV]),(1,[dB false,dI .i64 (0:Int)])],[],2⟩) (PS (PR [.cell 2 61] fun r=>dG pR r) (PE cx (.exit 2) (fun ()=>[(1,.pt 0 0),(2,.pt 1 0),(3,dI .i64 bk)]) fun ()=>⟨[(0,[dI .i64 bq.vR,dI .i64 bq.vC,dL ae bq.vV]),(1,[dB false,dI .i64 (0:Int)])],[],2⟩)) hy ?_ ?_ ?_
 exact wk h0 [0,1] (wR rfl (wR rfl (wR rfl (wR rfl wTn)))) (vR rfl (vR rfl wVn)) wLn
 clear hy h
 rintro iG y h
 dsimp only[gG] at h
 refine AW.seq (ra hx ?_)
 refine cdh h rfl (fun tX h=>?_) (fun tX h=>?_)
 refine AW.skip (AW.seq (AW.block (rsd [] hx fun K hK=>?_)))
 refine sa ?_
 refine s1 (bK aF) ?_
 iterate 2 refine sa ?_
 refine s1 (bK bh) ?_
 iterate 3 refine sa ?_
 obtain⟨O4,h⟩:=am h
 have Ok:(i64.wrap ((i64.wrap (bk*bq.vC))+iG)).toNat<(bq.vV).length:=by omega
 refine s1 (mL O4 aF aC) ?_
 refine s1 (d:=dG ae ((bq.vV)[(i64.wrap ((i64.wrap (bk*bq.vC))+iG)).toNat]!)) (gk (c:=ae) (l:=bq.vV) (n:=(i64.wrap ((i64.wrap (bk*bq.vC))+iG)).toNat) (o:=0) aC Ok (cH _ _ rfl)) ?_
 refine sa ?_
 refine s1 (bK aF) ?_
 iterate 2 refine sa ?_
 refine s1 (bK bh) ?_
 iterate 3 refine sa ?_
 obtain⟨G5,h⟩:=am h
 have QQ:(i64.wrap ((i64.wrap (iG*bq.vC))+bk)).toNat<(bq.vV).length:=by omega
 refine s1 (mL G5 aF aC) ?_
 refine s1 (d:=dG ae ((bq.vV)[(i64.wrap ((i64.wrap (iG*bq.vC))+bk)).toNat]!)) (gk (c:=ae) (l:=bq.vV) (n:=(i64.wrap ((i64.wrap (iG*bq.vC))+bk)).toNat) (o:=0) aC QQ (cH _ _ rfl)) ?_
 refine s1 (wY tok 4 (by decide) qK aC) ?_
 refine nl hK ?_
 refine cdh h rfl (fun wB h=>?_) (fun wB h=>?_)
 refine rs hx fun K hK=>?_
 refine s1 (d:=dG pR (⟨false,(0:Int)⟩:gc)) (aR pD) ?_
 refine s0 (bu (ds':=[dB false,dI .i64 (0:Int)]) pD) ?_
 refine nl hK ?_
 refine AW.ret ?_
 cases h
 refine PS.r ⟨by nofun,PS.l (PR.i ?_)⟩
 exact dm.mk1 (bN (es:=(pR.f (⟨false,(0:Int)⟩:gc)).map .e) rfl pD rfl rfl (ltb rfl) (leb rfl) rfl (.inr (.inr ⟨_,(ao _),rfl,rfl⟩)))
 refine AW.skip (rb hx ?_)
 cases h
 exact PS.l (pe0 h0 [0,1])
 refine AW.exit ?_
 try dsimp only
 try simp only[bP,reduceIte,Nat.reduceEqDiff,reduceCtorEq]
 cases h
 exact PS.r ⟨by nofun,PS.r (PE.i (wk h0 [0,1] (wR rfl (wR rfl (wR rfl wTn))) (vR rfl (vR rfl wVn)) wLn))⟩
 rcases y with r|⟨⟩
 rintro ex tm' hp' ⟨rfl,hw⟩
 cases h
 exact PS.r ⟨by nofun,PS.l (PR.i hw)⟩
 rintro ex tm' hp' ⟨rfl,hw⟩
 try dsimp only
 try simp only[bP,reduceIte,Nat.reduceEqDiff,reduceCtorEq]
 refine AW.weak hw (rb hx ?_)
 cases h
 exact PS.l (pe0 h0 [0,1])
 refine AW.exit ?_
 try dsimp only
 try simp only[bP,reduceIte,Nat.reduceEqDiff,reduceCtorEq]
 cases h
 exact PS.r ⟨by nofun,PS.r (PE.i (wk h0 [0,1] (wR rfl (wR rfl wTn)) (vR rfl (vR rfl wVn)) wLn))⟩
 rcases y with r|⟨⟩
 rintro ex tm' hp' ⟨rfl,hw⟩
 cases h
 exact hw
 rintro ex tm' hp' ⟨rfl,hw⟩
 try dsimp only
 try simp only[bP,reduceIte,Nat.reduceEqDiff,reduceCtorEq]
 refine AW.weak hw (AW.seq (ra hx ?_))
 refine AW.block ?_
 obtain⟨y,hy,h⟩:=ah h
 refine lp (S:=Int) (X:=gc⊕Unit) (fun Ej=>[(1,.pt 0 0),(2,.pt 1 0),(5,dI .i64 Ej)]) (fun Ej=>⟨[(0,[dI .i64 bq.vR,dI .i64 bq.vC,dL ae bq.vV]),(1,[dB false,dI .i64 (0:Int)])],[],2⟩) (PS (PR [.cell 2 61] fun r=>dG pR r) (PE cx (.exit 4) (fun ()=>[(2,.pt 0 0)]) fun ()=>⟨[(0,[dB false,dI .i64 (0:Int)])],[],1⟩)) hy ?_ ?_ ?_
 exact wk h0 [0,1] (wR rfl (wR rfl (wR rfl wTn))) (vR rfl (vR rfl wVn)) wLn
 clear hy h
 rintro Ej y h
 dsimp only[eg] at h
 refine AW.seq (rs hx fun K hK=>?_)
 iterate 2 refine sa ?_
 refine s1 (bK bh) ?_
 refine sa ?_
 refine nl hK ?_
 refine cdh h rfl (fun Hg h=>?_) (fun Hg h=>?_)
 refine AW.skip (AW.seq (AW.block (rs hx fun K hK=>?_)))
 refine s1 (d:=dG aH bq) (bp aq) ?_
 refine sa ?_
 refine scb h EU fun qo h=>?_
 refine scb h BG fun lh h=>?_
 refine s1 (lB (F:=eS.f (⟨co,(0:Int)⟩:cf)) tr) ?_
 refine s0 (ig (b':=lh) (aX.id _ _) tr) ?_
 refine nl hK ?_
 refine AW.seq (rs hx fun K hK=>?_)
 refine sa ?_
 refine s1 (qU (nD lh) wq) ?_
 refine sa ?_
 refine nl hK ?_
 refine cdh h rfl (fun wA h=>?_) (fun wA h=>?_)
 refine rs hx fun K hK=>?_
 refine sa ?_
 refine s1 (qU (nD lh) wq) ?_
 refine s1 (d:=dG pR (⟨false,lh.vE⟩:gc)) (aR pD) ?_
 refine s0 (bu (ds':=[dB false,dI .i64 lh.vE]) pD) ?_
 refine nl hK ?_
 refine AW.ret ?_
 cases h
 refine PS.r ⟨by nofun,PS.l (PR.i ?_)⟩
 exact dm.mk1 (bN (es:=(pR.f (⟨false,lh.vE⟩:gc)).map .e) rfl pD rfl rfl (ltb rfl) (leb rfl) rfl (.inr (.inr ⟨_,(ao _),rfl,rfl⟩)))
 refine AW.skip (rs hx fun K hK=>?_)
 refine sa ?_
 refine s1 (nq (se lh) aC) ?_
 refine scb h pq fun te h=>?_
 refine sa ?_
 refine nl hK ?_
 refine cdh h rfl (fun Rh h=>?_) (fun Rh h=>?_)
 refine rs hx fun K hK=>?_
 refine s1 (d:=dG pR (⟨false,(0:Int)⟩:gc)) (aR pD) ?_
 refine s0 (bu (ds':=[dB false,dI .i64 (0:Int)]) pD) ?_
 refine nl hK ?_
 refine AW.ret ?_
 cases h
 refine PS.r ⟨by nofun,PS.l (PR.i ?_)⟩
 exact dm.mk1 (bN (es:=(pR.f (⟨false,(0:Int)⟩:gc)).map .e) rfl pD rfl rfl (ltb rfl) (leb rfl) rfl (.inr (.inr ⟨_,(ao _),rfl,rfl⟩)))
 refine AW.skip (rb hx ?_)
 cases h
 exact PS.l (pe0 h0 [0,1])
 refine AW.exit ?_
 try dsimp only
 try simp only[bP,reduceIte,Nat.reduceEqDiff,reduceCtorEq]
 cases h
 exact PS.r ⟨by nofun,PS.r (PE.i (wk h0 [1] (wR rfl wTn) (vR rfl wVn) wLn))⟩
 rcases y with r|⟨⟩
 rintro ex tm' hp' ⟨rfl,hw⟩
 cases h
 exact hw
 rintro ex tm' hp' ⟨rfl,hw⟩
 try dsimp only
 try simp only[bP,reduceIte,Nat.reduceEqDiff,reduceCtorEq]
 refine AW.weak hw (rs hx fun K hK=>?_)
 refine s1 (d:=dG pR (⟨true,(0:Int)⟩:gc)) (aR pD) ?_
 refine s0 (bu (ds':=[dB true,dI .i64 (0:Int)]) pD) ?_
 refine nl hK ?_
 refine AW.ret ?_
 cases h
 exact dm.mk1 (bN (es:=(pR.f (⟨true,(0:Int)⟩:gc)).map .e) rfl pD rfl rfl (ltb rfl) (leb rfl) rfl (.inr (.inr ⟨_,(ao _),rfl,rfl⟩)))
section
theorem zW {V:List Nu}{o n:Nat}{h:List Nu→Nat→Nu}(ho:o+n≤V.length):∀j,j≤n→∀t,(t<o∨o+j≤t)→(ng V o h j)[t]! =V[t]!
 |0,_,_,_=>rfl
 |j+1,hj,t,ht=>by
  unfold ng
  rw[M0 (by rw[nf];omega),ifn_]
  exact zW ho j (by omega) t (by omega)
theorem Hr {V:List Nu}{o n:Nat}{h h':List Nu→Nat→Nu}(hh:∀j,j<n→h (ng V o h' j) j=h' (ng V o h' j) j):∀j,j≤n→ng V o h j=ng V o h' j
 |0,_=>rfl
 |j+1,hj=>by
  unfold ng
  rw[Hr hh j (by omega),hh j (by omega)]
def Ry(R C k r:Nat)(V:List Nu):List Nu:=g6 C k r (ng V (r*C) (fun U j=>wv U[r*C+j]! V[r*C+k]!) C) R
theorem KJ {R C k i r:Nat}{V:List Nu}:sE R C k i r V=Ry R C k r (mA C V i r C):=rfl
def rS(C k r:Nat)(V U:List Nu):Nat→List Nu
 |0=>U
 |n+1=>if n≠r∧i9 V[n*C+k]!≠0 then ng (rS C k r V U n) (n*C) (fun W j=>yz V[n*C+j]! (sJ V[n*C+k]! W[r*C+j]!)) C else rS C k r V U n
theorem w9 {C k r:Nat}{V U:List Nu}:∀n,(rS C k r V U n).length=U.length
 |0=>rfl
 |n+1=>by
  unfold rS
  split
  ·rw[nf,w9 n]
  ·exact w9 n
theorem IV {R C k r:Nat}{V U:List Nu}(hU:U.length=R*C)(hk:k<C)(hr:r<R)(hV:∀a b,a<R→b<C→a≠r→U[a*C+b]! =V[a*C+b]!):∀n,n≤R→rS C k r V U n=g6 C k r U n
 |0,_=>rfl
 |n+1,hn=>by
  unfold rS g6
  rw[IV hU hk hr hV n (by omega)]
  by_cases e:n=r
  ·rw[aA (by intro h;exact h.1 e),aA (by intro h;exact h.1 e)]
  ·have g:∀b,b<C→(g6 C k r U n)[n*C+b]! =V[n*C+b]! :=fun b hb=>by
    rw[FA hU hk hr n (by omega) n b (by omega) hb,ifn_,hV n b (by omega) hb e]
   rw[g k hk]
   by_cases hs:i9 V[n*C+k]!≠0
   ·rw[ar ⟨e,hs⟩,ar ⟨e,hs⟩]
    have hl:n*C+C≤R*C:=by have:(n+1)*C≤R*C:=bJ C hn;rwa[jS] at this
    refine Hr (fun j hj=>?_) C (aD _)
    rw[zW (n:=C) (by rw[su,hU];exact hl) j (by omega) (n*C+j) (.inr (aD _)),g j hj]
   ·rw[aA (by intro h;exact hs h.2),aA (by intro h;exact hs h.2)]
section
variable {R C:Nat} {V:List Nu}
theorem B7(hV:V.length=R*C)(CE:R*C≤1000000)(hR:R≤1000){k:Nat}(hk:k<C):∀n r:Nat,r+n=R→aK (gm (mS R C V) (k:Int)) (r:Int)=some ((wC C k V n r).elim (.inr ()) fun i=>.inl (i:Int))
 |0,r,h=>by
  refine cU ?_
  unfold gm
  dsimp only
  rw[a7 _ _];rfl
 |n+1,r,h=>by
  have h5:=bj (show r<R by omega) hk
  have hb:gm (mS R C V) (k:Int) (r:Int)=if i9 V[r*C+k]!≠0 then some (.inr (.inl (r:Int))) else some (.inl ((r+1:Nat):Int)):=by
   unfold gm
   dsimp only
   rw[bb _ _,wix,bW,aB,aJ,oO,Pm]
   simp only[ab]
   rw[w64]
   by_cases hs:i9 V[r*C+k]!≠0
   ·rw[bb _ _ hs,ar hs]
   ·rw[a7 _ _ hs,aA hs];rfl
  unfold wC
  by_cases hs:i9 V[r*C+k]!≠0
  ·rw[ar hs] at hb
   rw[ar hs,cU hb];rfl
  ·rw[aA hs] at hb
   rw[aA hs,gR hb]
   exact B7 hV CE hR hk n (r+1) (by omega)
theorem OQ(hV:V.length=R*C)(CE:R*C≤1000000)(hR:R≤1000){k n r:Nat}(hk:k<C)(h:r+n=R):jj (mS R C V) (r:Int) (k:Int)=some ((wC C k V n r).elim (-1) fun i=>(i:Int)):=by
 unfold jj
 rw[B7 hV CE hR hk n r h]
 cases wC C k V n r <;> rfl
theorem Q_swap(hV:V.length=R*C)(CE:R*C≤1000000){V0:List Nu}(hC:C≤1000){i r:Nat}(hi:i<R)(hr:r<R):aK (fg (mS R C V0) (r:Int) (V.map nv) (i:Int)) ((0:Int),V.map nv)=some ((mA C V i r C).map nv):=by
 have key:=db (b:=fg (mS R C V0) (r:Int) (V.map nv) (i:Int)) (fun j=>((j:Int),(mA C V i r j).map nv)) 0 C ((mA C V i r C).map nv) (bY _) (fun j _ hj=>?_) ?_
 ·rw[show (((0:Nat):Int),(mA C V i r 0).map nv)=((0:Int),V.map nv) from rfl] at key
  exact key
 ·unfold fg
  dsimp only
  have a:=bj hi hj
  have b:=bj hr hj
  have hl:(mA C V i r j).length=R*C:=by rw[ss,hV]
  rw[bb _ _,wix,wix,bW,bW,aB]
  simp only[ab]
  rw[aB,aB,aJ,aJ,oO,oO,←z6]
  rw[aB ⟨by omega,by omega,by rw[bW,BY];omega⟩,←z6,w64]
  rfl
 ·unfold fg
  dsimp only
  rw[a7 _ _]
theorem Q_elim(hV:V.length=R*C)(CE:R*C≤1000000)(hR:R≤1000)(hC:C≤1000){k r:Nat}(hk:k<C)(hr:r<R):g9 (mS R C V) (r:Int) (k:Int)=some (mS R C (Ry R C k r V)):=by
 have h5:=bj hr hk
 have hrow:r*C+C≤R*C:=by have:(r+1)*C≤R*C:=bJ C hr;rwa[jS] at this
 unfold g9
 dsimp only
 rw[aB (by rw[bW];omega),aB (by rw[bW];omega),wix,aB ⟨by omega,by rw[bW];omega⟩,aJ,oO]
 simp only[ab]
 have k1:=db (b:=ff (mS R C V) (r:Int) (nv V[r*C+k]!)) (fun j=>((j:Int),(ng V (r*C) (fun _ j=>wv V[r*C+j]! V[r*C+k]!) j).map nv)) 0 C ((ng V (r*C) (fun _ j=>wv V[r*C+j]! V[r*C+k]!) C).map nv) (bY _) (fun j _ hj=>?_) ?_
 ·rw[show (((0:Nat):Int),(ng V (r*C) (fun _ j=>wv V[r*C+j]! V[r*C+k]!) 0).map nv)=((0:Int),V.map nv) from rfl] at k1
  rw[k1]
  simp only[ab]
  have e1:ng V (r*C) (fun _ j=>wv V[r*C+j]! V[r*C+k]!) C=ng V (r*C) (fun U j=>wv U[r*C+j]! V[r*C+k]!) C:=Hr (n:=C) (fun j hj=>by
   rw[zW (n:=C) (by omega) j (by omega) _ (.inr (aD _))]) C (aD _)
  rw[e1]
  obtain⟨U,hUd⟩:∃U,U=ng V (r*C) (fun U j=>wv U[r*C+j]! V[r*C+k]!) C:=⟨_,rfl⟩
  have hU:U.length=R*C:=by rw[hUd,nf,hV]
  have hold:∀a b,a<R→b<C→a≠r→U[a*C+b]! =V[a*C+b]! :=fun a b ha hb hn=>by
   rw[hUd]
   refine zW (n:=C) (by omega) C (aD _) _ ?_
   rcases bt a r with h|h
   ·left
    have:(a+1)*C≤r*C:=bJ C h
    rw[jS] at this;omega
   ·right
    have:(r+1)*C≤a*C:=bJ C (by omega)
    rw[jS] at this;omega
  unfold Ry
  rw[←hUd,←IV hU hk hr hold R (aD _)]
  have k2:=db (b:=fe (mS R C V) (r:Int) (k:Int)) (fun n=>((n:Int),(rS C k r V U n).map nv)) 0 R ((rS C k r V U R).map nv) (bY _) (fun n _ hn=>?_) ?_
  ·rw[show (((0:Nat):Int),(rS C k r V U 0).map nv)=((0:Int),U.map nv) from rfl] at k2
   rw[k2]
   simp only[ab]
   rw[aB (by rw[bW,bW,w9];omega)]
  ·unfold fe
   dsimp only
   have h6:=bj hn hk
   rw[bb _ _,wix,bW,aB,aJ,oO]
   simp only[ab,Pm,kOr]
   rw[w64]
   conv=>rhs;unfold rS
   by_cases h:n≠r∧i9 V[n*C+k]!≠0
   ·rw[ar h,show (decide ((n:Int)=(r:Int))||decide (i9 V[n*C+k]! =0))=false by
     rw[Bool.or_eq_false_iff,LL,LL]
     exact⟨fun e=>h.1 (by omega),h.2⟩,kF]
    have hl:n*C+C≤R*C:=by have:(n+1)*C≤R*C:=bJ C hn;rwa[jS] at this
    have hx:(rS C k r V U n).length=R*C:=by rw[w9,hU]
    have k3:=db (b:=fc (mS R C V) (r:Int) (n:Int) (nv V[n*C+k]!)) (fun j=>((j:Int),(ng (rS C k r V U n) (n*C) (fun W j=>yz V[n*C+j]! (sJ V[n*C+k]! W[r*C+j]!)) j).map nv)) 0 C ((ng (rS C k r V U n) (n*C) (fun W j=>yz V[n*C+j]! (sJ V[n*C+k]! W[r*C+j]!)) C).map nv) (bY _) (fun j _ hj=>?_) ?_
    ·rw[show (((0:Nat):Int),(ng (rS C k r V U n) (n*C) (fun W j=>yz V[n*C+j]! (sJ V[n*C+k]! W[r*C+j]!)) 0).map nv)=((0:Int),(rS C k r V U n).map nv) from rfl] at k3
     rw[k3];rfl
    ·unfold fc
     dsimp only
     have h7:=bj hn hj
     have h8:=bj hr hj
     have hc:(ng (rS C k r V U n) (n*C) (fun W j=>yz V[n*C+j]! (sJ V[n*C+k]! W[r*C+j]!)) j).length=R*C:=by rw[nf,hx]
     rw[bb _ _,wix,wix,bW,bW,aB,aB,aJ,aJ,oO,oO,tMul]
     simp only[ab,tSub]
     rw[aB,←z6,w64]
     rfl
    ·unfold fc
     dsimp only
     rw[a7 _ _]
   ·rw[aA h,show (decide ((n:Int)=(r:Int))||decide (i9 V[n*C+k]! =0))=true by
     by_cases e:n=r
     ·simp[e]
     ·have:i9 V[n*C+k]! =0:=by
       rcases Int.decEq (i9 V[n*C+k]!) 0 with q|q
       ·exact absurd ⟨e,q⟩ h
       ·exact q
      rw[this];simp,kT]
    rfl
  ·unfold fe
   dsimp only
   rw[a7 _ _]
 ·unfold ff
  dsimp only
  have h7:=bj hr hj
  have hc:(ng V (r*C) (fun _ j=>wv V[r*C+j]! V[r*C+k]!) j).length=R*C:=by rw[nf,hV]
  rw[bb _ _,wix,bW,bW,aB,aJ,oO,tDiv]
  simp only[ab]
  rw[aB,←z6,w64]
  rfl
 ·unfold ff
  dsimp only
  rw[a7 _ _]
end
end
section
def byL(acc:List Pv):List ai:=acc.map fun p=>nv p.by'
def sI(acc:List Pv):Bool:=acc.foldl (fun s p=>!(s == p.mov)) false
theorem N7(acc:List Pv)(p:Pv):sI (acc++[p])= !(sI acc == p.mov):=by unfold sI;rw[Nq];rfl
theorem RQ(acc:List Pv)(p:Pv):byL (acc++[p])=byL acc++[nv p.by']:=by unfold byL;rw[jR];rfl
theorem LB(acc:List Pv)(p:Pv):cP (acc++[p])=cP acc++[(p.col:Int)]:=by unfold cP;rw[jR];rfl
theorem pe(acc:List Pv):(cP acc).length=acc.length:=by unfold cP;rw[bW]
theorem Hs(acc:List Pv):(byL acc).length=acc.length:=by unfold byL;rw[bW]
abbrev rdZ(e:Int):b8:=⟨mZ,[],[],false,e,0⟩
def rdE(R C:Nat)(o:Option (List Nu×List Pv)):b8:=o.elim (rdZ 30) fun p=>⟨mS R C p.1,cP p.2,byL p.2,sI p.2,0,0⟩
def PH(R C:Nat)(o:Option (List Nu×List Pv)):b8⊕(Int×Int×(List Int)×(List ai)×Bool×(List ai)):=o.elim (.inl (rdZ 30)) fun p=>.inr (R,C,cP p.2,byL p.2,sI p.2,p.1.map nv)
section
variable {R C:Nat} {V:List Nu}
theorem yW(CE:R*C≤1000000)(hR:R≤1000)(hC:C≤1000){V0:List Nu}:∀(n k r:Nat) (V:List Nu) (acc:List Pv),k+n=C→V.length=R*C→acc.length=r→r≤R→
  aK (cM (mS R C V0)) ((r:Int),(k:Int),(R:Int),(C:Int),cP acc,byL acc,sI acc,V.map nv)=some (PH R C (ms R C n k r V acc))
 |0,k,r,V,acc,hk,hV,ha,hr=>by
  rw[ul (.inl rfl)]
  refine cU ?_
  unfold cM
  dsimp only
  rw[a7 _ _];rfl
 |n+1,k,r,V,acc,hk,hV,ha,hr=>by
  by_cases bG:r<R
  ·unfold ms
   rw[ar bG]
   have hkC:k<C:=by omega
   have hnz:=OQ hV CE hR (k:=k) (n:=R - r) (r:=r) hkC (by omega)
   cases hf:wC C k V (R - r) r with
   |none=>
    rw[hf] at hnz
    have hb:cM (mS R C V0) ((r:Int),(k:Int),(R:Int),(C:Int),cP acc,byL acc,sI acc,V.map nv)=some (.inl ((r:Int),((k+1:Nat):Int),(R:Int),(C:Int),cP acc,byL acc,sI acc,V.map nv)):=by
     unfold cM
     dsimp only
     rw[bb _ _]
     simp only[ab]
     rw[bb _ _,hnz]
     simp only[ab,Option.elim]
     rw[bb _ _]
     simp only[ab]
     rw[w64];rfl
    rw[gR hb]
    exact yW CE hR hC n (k+1) r V acc (by omega) hV ha hr
   |some i=>
    rw[hf] at hnz
    obtain⟨h1,h2,_⟩:=FT hf
    have hi:i<R:=by omega
    have hs:(mA C V i r C).length=R*C:=by rw[ss,hV]
    have Dp:(sE R C k i r V).length=R*C:=by rw[AJ,hV]
    have h5:=bj bG hkC
    have hb:cM (mS R C V0) ((r:Int),(k:Int),(R:Int),(C:Int),cP acc,byL acc,sI acc,V.map nv)=if (sE R C k i r V).all ck then some (.inl (((r+1:Nat):Int),((k+1:Nat):Int),(R:Int),(C:Int),cP (acc++[⟨k,byN C k i r V,decide (i≠r)⟩]),byL (acc++[⟨k,byN C k i r V,decide (i≠r)⟩]),sI (acc++[⟨k,byN C k i r V,decide (i≠r)⟩]),(sE R C k i r V).map nv)) else some (.inr (.inl (rdZ 30))):=by
     unfold cM
     dsimp only
     rw[bb _ _]
     simp only[ab]
     rw[bb _ _,hnz]
     simp only[ab,Option.elim]
     rw[a7 _ _,Q_swap hV CE hC hi bG]
     simp only[ab]
     rw[wix,bW,bW,aB,aJ,oO,aB (by rw[eI,Hs];simp;omega),aB,Q_elim hs CE hR hC hkC bG]
     simp only[ab]
     rw[←KJ,Mi (by omega)]
     simp only[ab]
     cases hg:(sE R C k i r V).all ck with
     |false=>rfl
     |true=>
      rw[show (!true)=false from rfl,kF,aB (by rw[eI,pe];simp;omega)]
      simp only[ab]
      rw[w64,w64,N7,RQ,LB,ar trivial]
      have:decide ((i:Int)≠(r:Int))=decide (i≠r):=by
       by_cases e:i=r
       ·simp[e]
       ·have:¬(i:Int)=r:=by omega
        simp[e,this]
      rw[this];rfl
    cases hg:(sE R C k i r V).all ck with
    |false=>
     rw[hg] at hb
     rw[cU hb]
     dsimp only
     rw[hg];rfl
    |true=>
     rw[hg] at hb
     rw[gR (show _=_ from hb)]
     dsimp only
     rw[hg,ar rfl]
     exact yW CE hR hC n (k+1) (r+1) _ _ (by omega) Dp (by rw[eI,ha];rfl) bG
  ·rw[ul (.inr bG)]
   refine cU ?_
   unfold cM
   dsimp only
   rw[bb _ _]
   simp only[ab]
   rw[a7 _ _];rfl
end
def nB(R C:Int)(V:List Nu):b8:=if aP R C V=0 then rdE R.toNat C.toNat (mu R.toNat C.toNat V) else rdZ 1
theorem Ah {R C:Int}{V:List Nu}(hV:V.length≤1000000):gF (mS R C V)=some (nB R C V):=by
 unfold gF nG nH nB
 rw[sr hV]
 simp only[ab]
 by_cases h1:aP R C V=0
 ·rw[ar h1]
  obtain⟨r,c,rfl,rfl,hm⟩:=dA.1 h1
  have h3:=hm.r
  have h4:=hm.c
  have hl:=hm.len
  have MS:=hm.rc
  rw[h1,show (!decide ((0:Int)=0))=false by simp,kF,kF]
  simp only[aJ]
  rcases mJ (r*c) with hz|hz
  ·have hnil:V=[]:=kY (by omega)
   subst hnil
   have ku:mu r c []=some ([],[]):=by
    rcases Nat.mul_eq_zero.1 hz with h|h
    ·exact ul (.inr (by omega))
    ·exact ul (.inl h)
   rw[ku]
   simp only[i2,qw]
   show orO none _=_
   show gd (([]:List ai).length*136≤140737488355328) _=_
   rw[aB (by simp),cU (x:=.inr (⟨(r:Int),(c:Int),[]⟩,[],[],false)) (by
    unfold m4
    dsimp only
    rcases Nat.mul_eq_zero.1 hz with h|h
    ·by_cases hc:c=0
     ·rw[a7 _ _];rfl
     ·rw[bb _ _]
      simp only[ab]
      rw[a7 _ _]
    ·rw[a7 _ _];rfl)]
   rfl
  ·rw[aB (by rw[bW];omega),aB (by rw[bW];omega)]
   have key:=yW (R:=r) (C:=c) (by omega) (by omega) (by omega) (V0:=V) c 0 0 V [] (by omega) hl rfl (bY _)
   rw[show (((0:Nat):Int),((0:Nat):Int),(r:Int),(c:Int),cP [],byL [],sI [],V.map nv)=((0:Int),(0:Int),(r:Int),(c:Int),([]:List Int),([]:List ai),false,V.map nv) from rfl] at key
   rw[key]
   simp only[ab]
   show orO (match PH r c (mu r c V) with| .inl r=>some r| .inr (a,b,c,d,e,f)=>some _) _=_
   cases mu r c V <;> rfl
 ·rw[aA h1,show (!decide (aP R C V=0))=true by simp[h1],kT];rfl
theorem sgn_odd(acc:List Pv):mO acc=if sI acc then -1 else 1:=by
 have key:∀(l:List Pv) (s:Int) (b:Bool),s=(if b then -1 else 1)→l.foldl (fun s p=>if p.mov then -s else s) s=if l.foldl (fun s p=>!(s == p.mov)) b then -1 else 1:=by
  intro l
  induction l with
  |nil=>intro s b h;exact h
  |cons p l ih=>
   intro s b h
   rw[J9,J9]
   refine ih _ _ ?_
   rw[h]
   cases b <;> cases p.mov <;> rfl
 exact key acc 1 false rfl
abbrev num(p:ai×Int):cf:=⟨p.1,p.2⟩
theorem byL_get {acc:List Pv}{k:Nat}(hk:k<acc.length):(byL acc)[k]! =nv acc[k].by':=by
 unfold byL
 rw[DX,fO,i8 hk];rfl
theorem Q_Det {R C:Int}{V:List Nu}(hV:V.length≤1000000):pb (mS R C V)=some (num (JS R C V)):=by
 unfold pb JS
 rw[sr hV]
 simp only[ab,kOr]
 by_cases h0:aP R C V=0∧R=C
 ·rw[ar h0]
  obtain⟨h1,rfl⟩:=h0
  obtain⟨r,c,rfl,hc,hm⟩:=dA.1 h1
  obtain rfl:r=c:=by omega
  have h3:=hm.r
  rw[h1,show (!decide ((0:Int)=0)||decide ((r:Int)≠r))=false by simp,kF,Ah hV]
  unfold nB
  rw[ar h1]
  simp only[ab,aJ]
  cases ku:mu r r V with
  |none=>rfl
  |some p=>
   obtain⟨U,acc⟩:=p
   have hle:acc.length≤r:=uW ku
   rw[show rdE r r (some (U,acc))=⟨mS r r U,cP acc,byL acc,sI acc,0,0⟩ from rfl]
   dsimp only
   rw[a7 _ _ (by simp),pe]
   unfold RE
   by_cases hl:acc.length<r
   ·rw[bb _ _,tOf]
    dsimp only
    rw[ar hl];rfl
   ·rw[a7 _ _,tOf]
    dsimp only
    rw[aA hl]
    simp only[ab]
    rw[tOf]
    have hs:(cnd (sI acc) (bnd (some (nv (nOf (-1)))) fun uK=>some uK) (some (nv (nOf 1))))=some (nv (nOf (mO acc))):=by
     rw[sgn_odd]
     cases sI acc <;> rfl
    rw[hs]
    simp only[ab]
    have k2:=db (b:=l9 ⟨mS r r U,cP acc,byL acc,sI acc,0,0⟩) (fun k=>((k:Int),nv (pE (mO acc) (acc.take k)))) 0 acc.length (nv (pE (mO acc) acc)) (bY _) (fun k _ hk=>?_) ?_
    ·rw[show (((0:Nat):Int),nv (pE (mO acc) (acc.take 0)))=((0:Int),nv (nOf (mO acc))) from rfl] at k2
     rw[k2]
     simp only[ab,tGood]
     cases ck (pE (mO acc) acc) <;> rfl
    ·unfold l9
     dsimp only
     rw[Hs,bb _ _,aB,aJ,byL_get hk,tMul]
     simp only[ab]
     rw[w64]
     have:pE (mO acc) (acc.take (k+1))=sJ (pE (mO acc) (acc.take k)) (acc[k]).by':=by
      unfold pE
      rw[Ns,i8 hk,Nq];rfl
     rw[this];rfl
    ·unfold l9
     dsimp only
     rw[Hs,a7 _ _,Nr]
 ·rw[aA h0]
  have e:(!decide (aP R C V=0)||decide (R≠C))=true:=by
   by_cases a:aP R C V=0
   ·by_cases b:R=C
    ·exact absurd ⟨a,b⟩ h0
    ·simp[b]
   ·simp[a]
  rw[e,kT]
end
theorem AM {R C:Nat}:∀{n k r:Nat} {V:List Nu} {acc:List Pv} {W:List Nu} {l:List Pv},(acc.map Pv.col).Pairwise (·<·)→(∀p∈acc,p.col<k)→ms R C n k r V acc=some (W,l)→(l.map Pv.col).Pairwise (·<·)∧∀p∈l,p.col<k+n
 |0,_,_,_,_,_,_,hs,hk,h=>by
  unfold ms at h
  injection h with h
  injection h with h1 h2
  rw[←h2];exact⟨hs,hk⟩
 |n+1,k,r,V,acc,W,l,hs,hk,h=>by
  unfold ms at h
  split at h
  ·split at h
   ·have:=AM hs (fun p hp=>pZ (hk p hp)) h
    exact⟨this.1,fun p hp=>by have:=this.2 p hp;omega⟩
   ·split at h
    ·have:=AM (by
      rw[jR,List.pairwise_append]
      refine⟨hs,List.pairwise_singleton _ _,fun a ha b hb=>?_⟩
      obtain⟨p,hp,rfl⟩:=mw.1 ha
      rw[fx,i2,HG] at hb
      rw[hb];exact hk p hp) (fun p hp=>by
      rcases s5.1 hp with hp|hp
      ·exact pZ (hk p hp)
      ·rw[HG] at hp
       rw[hp];exact cp k) h
     exact⟨this.1,fun p hp=>by have:=this.2 p hp;omega⟩
    ·cases h
  ·injection h with h
   injection h with h1 h2
   rw[←h2];exact⟨hs,fun p hp=>by have:=hk p hp;omega⟩
theorem AO {R C:Nat}:∀{n k r:Nat} {V:List Nu} {acc:List Pv} {W:List Nu} {l:List Pv},V.all ck=true→ms R C n k r V acc=some (W,l)→W.all ck=true
 |0,_,_,_,_,_,_,hg,h=>by
  unfold ms at h
  injection h with h
  injection h with h1 h2
  rw[←h1];exact hg
 |n+1,k,r,V,acc,W,l,hg,h=>by
  unfold ms at h
  split at h
  ·split at h
   ·exact AO hg h
   ·split at h
    ·rename_i hq
     exact AO hq h
    ·cases h
  ·injection h with h
   injection h with h1 h2
   rw[←h1];exact hg
theorem Hq {acc:List Pv}(hs:(acc.map Pv.col).Pairwise (·<·)){i j:Nat}(hij:i<j)(hj:j<acc.length):pP acc i<pP acc j:=by
 have:=LT.1 hs i j (by rw[bW];omega) (by rw[bW];omega) hij
 rw[HF,HF] at this
 unfold pP
 rw[f7 acc i (by omega),f7 acc j hj]
 exact this
theorem any_col {acc:List Pv}{c:Nat}:((cP acc).any fun x=>decide ((c:Int)=x))=true↔∃i,i<acc.length∧pP acc i=c:=by
 rw[LK]
 constructor
 ·rintro⟨x,hx,h⟩
  unfold cP at hx
  obtain⟨p,hp,rfl⟩:=mw.1 hx
  obtain⟨i,hi,rfl⟩:=List.getElem_of_mem hp
  refine⟨i,hi,?_⟩
  have:=n8 h
  unfold pP
  rw[f7 acc i hi];omega
 ·rintro⟨i,hi,h⟩
  refine⟨(cP acc)[i]!,?_,?_⟩
  ·rw[f7 (cP acc) i (by rw[pe];exact hi)];exact B0 _
  ·rw[ux hi,h];exact d6 rfl
theorem NW {R C:Nat}{V W:List Nu}{l:List Pv}(h:mu R C V=some (W,l)):(l.map Pv.col).Pairwise (·<·)∧∀p∈l,p.col<C:=by
 have:=AM (acc:=[]) List.Pairwise.nil (fun p hp=>by cases hp) h
 exact⟨this.1,fun p hp=>by have:=this.2 p hp;omega⟩
theorem Qj {n:Nat}{U:List Nu}(hU:U.length=n*(n+n)){i:Nat}(hi:i<n):(U.drop (i*(n+n)+n)).take n=(List.range n).map (Di n U i):=by
 apply vo
 intro t
 have hrow:i*(n+n)+(n+n)≤n*(n+n):=by have:(i+1)*(n+n)≤n*(n+n):=bJ _ hi;rwa[jS] at this
 rw[ez]
 split
 ·rename_i ht
  rw[lX,fO,wM ht]
  show _=some (Di n U i t)
  unfold Di
  rw[f7 U _ (by omega),i8 (by omega)]
  congr 2;omega
 ·rename_i ht
  rw[fa (by rw[bW,BZ];omega)]
theorem SI {n:Nat}{U:List Nu}(hU:U.length=n*(n+n))(hg:U.all ck=true):mD n n (mkM n n (Di n U))=(mS n n (mkM n n (Di n U)),0):=u4 fun i k hi hk=>MZ hg (by rw[hU];exact bj hi (by omega))
theorem J2 {n:Nat}{A:List Nu}(hm:MV n n A):(mkM n (n+n) (tf n n A (mkM n n idF))).all ck=true:=CA.2 fun i k hi hk=>by
 have h1:=Ql hm.r
 unfold tf
 split
 ·rename_i h;exact hm.gd (bj hi h)
 ·exact h1.gd (bj hi (by omega))
theorem OR {R C:Int}{A:List Nu}(hA:A.length≤1000000):l8 (mS R C A)=some (fnd (KY R C A)):=by
 unfold l8 KY
 rw[sr hA]
 simp only[ab,kOr]
 by_cases h0:aP R C A=0∧R=C
 ·rw[ar h0]
  obtain⟨h1,rfl⟩:=h0
  obtain⟨n,c,rfl,hc,hm⟩:=dA.1 h1
  obtain rfl:n=c:=by omega
  have h3:=hm.r
  rw[h1,show (!decide ((0:Int)=0)||decide ((n:Int)≠n))=false by simp,kF,Mk]
  simp only[ab]
  rw[MO h3,SG hA (by rw[bL];have:=hm.rc;omega)]
  have hi:=Ql h3
  by_cases hb:(200:Int)<(n:Int)+(n:Int)
  ·rw[Hw hm hi hb,ar hb];rfl
  ·rw[Hv hm hi hb,aA hb]
   simp only[ab,aJ]
   have hmk:MV n (n+n) (mkM n (n+n) (tf n n A (mkM n n idF))):=⟨h3,by omega,bL,J2 hm⟩
   rw[a7 _ _ (by simp),Ah (by rw[bL];have:=hmk.rc;omega)]
   unfold nB
   rw[ar hmk.chk]
   simp only[ab,aJ]
   cases ku:mu n (n+n) (mkM n (n+n) (tf n n A (mkM n n idF))) with
   |none=>rfl
   |some p=>
    obtain⟨U,acc⟩:=p
    have hU:=jt bL ku
    have hle:acc.length≤n:=uW ku
    have hg:=AO (J2 hm) ku
    have MS:n*(n+n)≤200*200:=ja h3 (by omega)
    have hnn:n*n≤200*200:=ja h3 h3
    rw[show rdE n (n+n) (some (U,acc))=⟨mS n ((n+n:Nat):Int) U,cP acc,byL acc,sI acc,0,0⟩ from rfl]
    dsimp only
    rw[a7 _ _ (by simp)]
    rw[A4 (b:=ia ⟨mS n ((n+n:Nat):Int) U,cP acc,byL acc,sI acc,0,0⟩) (n:=acc.length) (by omega) (fun i=>decide ((((acc.map pvS)[i]!).vcol:Int)=i)) (⟨mZ,70⟩:dx) (fun i Q1=>?_) ?_]
    ·unfold invR
     dsimp only
     show bnd (some (if JR acc then _ else _)) _=_
     cases hd:JR acc with
     |false=>rfl
     |true=>
      show bnd (aK (fT (mS n n A) ⟨mS n ((n+n:Nat):Int) U,cP acc,byL acc,sI acc,0,0⟩) ((0:Int),([]:List ai))) _=_
      have key:=db (b:=fT (mS n n A) ⟨mS n ((n+n:Nat):Int) U,cP acc,byL acc,sI acc,0,0⟩) (fun i=>((i:Int),(mkM i n (Di n U)).map nv)) 0 n ((mkM n n (Di n U)).map nv) (bY _) (fun i _ hi3=>?_) ?_
      ·rw[show (((0:Nat):Int),(mkM 0 n (Di n U)).map nv)=((0:Int),([]:List ai)) from rfl] at key
       rw[key,SI hU hg];rfl
      ·unfold fT
       dsimp only
       have hrow:i*(n+n)+(n+n)≤n*(n+n):=by have:(i+1)*(n+n)≤n*(n+n):=bJ _ hi3;rwa[jS] at this
       have e1:i*2*n=i*(n+n):=by rw[i1,Nat.two_mul]
       have e2:(i+1)*2*n=i*(n+n)+(n+n):=by rw[i1,Nat.two_mul,jS]
       have w1:i64.wrap (i64.wrap (i64.wrap ((i:Int)*2)*(n:Int))+(n:Int))=((i*(n+n)+n:Nat):Int):=by
        rw[w64 (n:=(i:Int)*2),show ((i:Int)*2)=((i*2:Nat):Int) by omega,Na,e1]
        generalize i*(n+n)=q at*
        rw[w64 (n:=(q:Int)),w64];omega
       have w2:i64.wrap (i64.wrap (i64.wrap ((i:Int)+1)*2)*(n:Int))=((i*(n+n)+(n+n):Nat):Int):=by
        rw[w64 (n:=(i:Int)+1),w64 (n:=((i:Int)+1)*2),show (((i:Int)+1)*2)=(((i+1)*2:Nat):Int) by omega,Na,e2]
        generalize i*(n+n)=q at*
        rw[w64]
       have Qs:nA (U.map nv) ((i*(n+n)+n:Nat):Int) ((i*(n+n)+(n+n):Nat):Int)=((List.range n).map (Di n U i)).map nv:=by
        unfold nA
        rw[aJ,←Qj hU hi3,←yj,←wH]
        congr 2;omega
       have h9:(i+1)*n≤n*n:=bJ _ hi3
       have DE:(i+1)*n=i*n+n:=jS ..
       rw[bb _ _,w1,w2,aB ⟨by omega,by omega,by rw[bW];omega⟩,Qs,←jR,←uo,aB (by rw[bW,bL];omega),w64]
       rfl
      ·unfold fT
       dsimp only
       rw[a7 _ _]
    ·unfold ia
     dsimp only
     rw[pe,a7 _ _]
    ·unfold ia
     dsimp only
     have e3:(((acc.map pvS)[i]!).vcol:Int)=((pP acc i:Nat):Int):=by rw[Lw Q1];unfold pP;rw[f7 acc i Q1];rfl
     rw[pe,bb _ _,aB,aJ,ux Q1,dne,e3]
 ·rw[aA h0]
  have e:(!decide (aP R C A=0)||decide (R≠C))=true:=by
   by_cases a:aP R C A=0
   ·by_cases b:R=C
    ·exact absurd ⟨a,b⟩ h0
    ·simp[b]
   ·simp[a]
  rw[e,kT]
def nF(acc:List Pv):Nat→Nat
 |0=>0
 |k+1=>if nF acc k<acc.length∧pP acc (nF acc k)=k then nF acc k+1 else nF acc k
theorem nF_le {acc:List Pv}:∀k,nF acc k≤acc.length
 |0=>bY _
 |k+1=>by
  unfold nF
  have:=nF_le (acc:=acc) k
  split <;> omega
theorem C9 {acc:List Pv}(hs:(acc.map Pv.col).Pairwise (·<·)):∀k i,i<acc.length→(pP acc i<k↔i<nF acc k)
 |0,i,hi=>by unfold nF;omega
 |k+1,i,hi=>by
  have ih:=C9 hs k
  unfold nF
  by_cases h:nF acc k<acc.length∧pP acc (nF acc k)=k
  ·rw[ar h]
   have h1:=ih i hi
   rcases yP i (nF acc k) with h2|h2|h2
   ·have:=h1.2 h2;omega
   ·rw[h2];omega
   ·have:=Hq hs h2 hi
    omega
  ·rw[aA h]
   have h1:=ih i hi
   constructor
   ·intro h2
    rcases bt (pP acc i) k with h3|h3
    ·exact h1.1 h3
    ·exfalso
     have h4:¬i<nF acc k:=fun h5=>by have:=h1.2 h5;omega
     rcases bt (nF acc k) i with h5|h5
     ·have h6:=Hq hs h5 hi
      have h7:=(ih (nF acc k) (by omega))
      have h8:¬pP acc (nF acc k)<k:=fun h9=>by have:=h7.1 h9;omega
      omega
     ·have:nF acc k=i:=by omega
      exact h ⟨by omega,by rw[this];omega⟩
   ·intro h2
    have:=h1.2 h2;omega
theorem nF_any {acc:List Pv}(hs:(acc.map Pv.col).Pairwise (·<·))(k:Nat):((cP acc).any fun x=>decide ((k:Int)=x))=decide (nF acc k<acc.length∧pP acc (nF acc k)=k):=by
 rw[Ee,any_col,oK]
 constructor
 ·rintro⟨i,hi,h⟩
  have h1:=C9 hs k i hi
  have h2:¬i<nF acc k:=fun h5=>by have:=h1.2 h5;omega
  rcases bt (nF acc k) i with h5|h5
  ·have h6:=Hq hs h5 hi
   have h7:=(C9 hs k (nF acc k) (by omega))
   have:nF acc k<nF acc k:=h7.1 (by omega)
   omega
  ·have:nF acc k=i:=by omega
   rw[this];exact⟨hi,h⟩
 ·rintro⟨h1,h2⟩
  exact⟨_,h1,h2⟩
theorem C6 {C:Nat}{U:List Nu}{acc:List Pv}(hs:(acc.map Pv.col).Pairwise (·<·)){k:Nat}:∀m,nF acc k≤m→m≤acc.length→ju C U acc k m=ju C U acc k (nF acc k)
 |0,h,_=>by rw[show nF acc k=0 by omega]
 |m+1,h,h2=>by
  rcases bt (nF acc k) (m+1) with h3|h3
  ·have h4:=C9 hs k m (by omega)
   rw[show ju C U acc k (m+1)=if pP acc m<k then (ju C U acc k m).set (pP acc m) (I7 U[m*C+k]!) else ju C U acc k m from rfl,aA (fun h5=>by have:=h4.1 h5;omega)]
   exact C6 hs m (by omega) (by omega)
  ·rw[show m+1=nF acc k by omega]
abbrev bas(p:List (List Nu)×Int):jU:=⟨p.1.map (List.map nv),p.2⟩
theorem Q_Null {R C:Int}{V:List Nu}(hV:V.length≤1000000):si (mS R C V)=some (bas (xT R C V)):=by
 unfold si pM xT
 have hr:=Ah (R:=R) (C:=C) hV
 unfold nB at hr
 by_cases h1:aP R C V=0
 ·rw[ar h1]
  rw[ar h1] at hr
  obtain⟨r,c,rfl,rfl,hm⟩:=dA.1 h1
  have h3:=hm.r
  have h4:=hm.c
  have h5:=hm.rc
  rw[aJ,aJ] at hr
  rw[aJ,aJ]
  cases ku:mu r c V with
  |none=>rw[ku] at hr;rw[hr];rfl
  |some p=>
   obtain⟨U,acc⟩:=p
   rw[ku] at hr
   rw[hr]
   simp only[ab]
   have hU:=jt hm.len ku
   have hle:acc.length≤r:=uW ku
   obtain⟨hs,hbd⟩:=NW ku
   rw[show rdE r c (some (U,acc))=⟨mS r c U,cP acc,byL acc,sI acc,0,0⟩ from rfl]
   dsimp only
   rw[a7 _ _ (by simp)]
   have key:=db (b:=iS (mS r c V) ⟨mS r c U,cP acc,byL acc,sI acc,0,0⟩) (fun k=>(((rU k acc).map fun j=>ju c U acc j acc.length).map (List.map nv),((nF acc k:Nat):Int),(k:Int))) 0 c (((rU c acc).map fun j=>ju c U acc j acc.length).map (List.map nv)) (bY _) (fun k _ hk=>?_) ?_
   ·rw[show (((rU 0 acc).map fun j=>ju c U acc j acc.length).map (List.map nv),((nF acc 0:Nat):Int),((0:Nat):Int))=(([]:List (List ai)),(0:Int),(0:Int)) from rfl] at key
    rw[key];rfl
   ·unfold iS
    dsimp only
    have hkl:(rU k acc).length≤k:=by unfold rU;exact cw (F6 _ _) (by rw[BZ];omega)
    have zd:=nF_le (acc:=acc) k
    have yb:(cnd (decide (((nF acc k:Nat):Int)<((cP acc).length:Int))) (gd (0≤min ((nF acc k:Nat):Int) (i64.wrap (((cP acc).length:Int) - (1:Int)))∧min ((nF acc k:Nat):Int) (i64.wrap (((cP acc).length:Int) - (1:Int)))<((cP acc).length:Int)) (some (decide (((cP acc)[(min ((nF acc k:Nat):Int) (i64.wrap (((cP acc).length:Int) - (1:Int)))).toNat]!)=(k:Int))))) (some (false)))=some (decide (nF acc k<acc.length∧pP acc (nF acc k)=k)):=by
     rw[pe]
     by_cases hn:nF acc k<acc.length
     ·rw[bb _ _,w64,show min ((nF acc k:Nat):Int) ((acc.length:Int) - 1)=((nF acc k:Nat):Int) by omega,aB,aJ,ux hn]
      by_cases he:pP acc (nF acc k)=k
      ·rw[d6 (show ((pP acc (nF acc k):Nat):Int)=k by omega),d6 ⟨hn,he⟩]
      ·rw[f8 (show ¬((pP acc (nF acc k):Nat):Int)=k by omega),f8 (fun h=>he h.2)]
     ·rw[a7 _ _,f8 (fun h=>hn h.1)]
    rw[bb _ _,yb,C7,nF_any hs]
    simp only[ab]
    by_cases hp:nF acc k<acc.length∧pP acc (nF acc k)=k
    ·rw[bb _ _ hp,d6 hp,ar rfl,vQ]
     simp only[ab]
     rw[w64,w64,show nF acc (k+1)=nF acc k+1 from ar hp]
     rfl
    ·rw[a7 _ _ hp,f8 hp,aA (by simp),show ((1:Int))=((1:Nat):Int) from rfl,Ex (by omega) (by omega) (by omega)]
     simp only[ab]
     rw[show (((1:Nat):Int))=(1:Int) from rfl,tOf,Jb,d8]
     simp only[ab]
     rw[bW,Bm,aB,aJ,←z6]
     have inner:=db (b:=iR (mS r c V) ⟨mS r c U,cP acc,byL acc,sI acc,0,0⟩ ((nF acc k:Nat):Int) (k:Int) (mS (1:Int) (c:Int) (List.replicate c (nOf 0)))) (fun n=>((n:Int),(ju c U acc k n).map nv)) 0 (nF acc k) ((ju c U acc k (nF acc k)).map nv) (bY _) (fun n _ hn=>?_) ?_
     ·rw[show (((0:Nat):Int),(ju c U acc k 0).map nv)=((0:Int),((List.replicate c (nOf 0)).set k (nOf 1)).map nv) from rfl] at inner
      rw[inner]
      simp only[ab]
      rw[aB (by simp[qC]),aB (by simp;omega),w64,show nF acc (k+1)=nF acc k from aA hp]
      rw[←C6 hs acc.length zd (aD _),jR,jR];rfl
     ·unfold iR
      dsimp only
      have zQ:=(C9 hs k n (by omega)).2 hn
      have h6:=bj (show n<r by omega) hk
      rw[bb _ _,pe,aB,aJ,ux (show n<acc.length by omega),wix,aB ⟨by omega,by rw[bW];omega⟩,aJ,oO,tNeg]
      simp only[ab]
      rw[aB ⟨by omega,by rw[bW,Bm];omega,by rw[bW,qC];omega⟩,aJ,←z6,w64]
      rw[show ju c U acc k (n+1)=if pP acc n<k then (ju c U acc k n).set (pP acc n) (I7 U[n*c+k]!) else ju c U acc k n from rfl,ar zQ]
      rfl
     ·unfold iR
      dsimp only
      rw[a7 _ _]
   ·unfold iS
    dsimp only
    rw[a7 _ _]
 ·rw[aA h1] at hr
  rw[aA h1,hr];rfl
abbrev flg(p:Bool×Int):gc:=⟨p.1,p.2⟩
theorem Qb {n j i:Nat}{V:List Nu}(hV:V.length=n*n)(hi:i<n)(hj:j≤n):(V.drop (i*n)).take j=(List.range j).map (lr n V i):=by
 have hrow:i*n+n≤n*n:=by have:(i+1)*n≤n*n:=bJ _ hi;rwa[jS] at this
 apply vo
 intro t
 rw[ez]
 split
 ·rename_i ht
  rw[lX,fO,wM ht]
  show _=some (lr n V i t)
  unfold lr
  rw[f7 V _ (by omega),i8 (by omega)]
 ·rename_i ht
  rw[fa (by rw[bW,BZ];omega)]
theorem Q_first {n j:Nat}{V:List Nu}(hm:MV n n V)(hj:j≤n):oh (mS n n V) (j:Int)=some (mS j j (mkM j j (lr n V))):=by
 have h3:=hm.r
 have h5:=hm.rc
 have hl:=hm.len
 have hjj:j*j≤n*n:=ja hj hj
 unfold oh
 have key:=db (b:=kD (mS n n V) (j:Int)) (fun i=>((i:Int),(mkM i j (lr n V)).map nv)) 0 j ((mkM j j (lr n V)).map nv) (bY _) (fun i _ hi=>?_) ?_
 ·rw[show (((0:Nat):Int),(mkM 0 j (lr n V)).map nv)=((0:Int),([]:List ai)) from rfl] at key
  rw[key];rfl
 ·unfold kD
  dsimp only
  have hrow:i*n+n≤n*n:=by have:(i+1)*n≤n*n:=bJ _ (show i<n by omega);rwa[jS] at this
  have h9:(i+1)*j≤j*j:=bJ _ hi
  have DE:(i+1)*j=i*j+j:=jS ..
  have Qs:nA (V.map nv) ((i*n:Nat):Int) ((i*n+j:Nat):Int)=((List.range j).map (lr n V i)).map nv:=by
   unfold nA
   rw[aJ,←Qb hl (show i<n by omega) hj,←yj,←wH]
   congr 2;omega
  rw[bb _ _,wix,wim,aB ⟨by omega,by omega,by rw[bW];omega⟩,Qs,←jR,←uo,aB (by rw[bW,bL];omega),w64]
  rfl
 ·unfold kD
  dsimp only
  rw[a7 _ _]
theorem Mj {R C:Int}{V:List Nu}(hV:V.length≤1000000):kG (mS R C V)=some (flg (C4 R C V)):=by
 unfold kG C4
 rw[sr hV]
 simp only[ab,kOr]
 by_cases h0:aP R C V=0∧R=C
 ·rw[ar h0]
  obtain⟨h1,rfl⟩:=h0
  obtain⟨n,c,rfl,hc,hm⟩:=dA.1 h1
  obtain rfl:n=c:=by omega
  have h3:=hm.r
  have h5:=hm.rc
  have hl:=hm.len
  rw[h1,show (!decide ((0:Int)=0)||decide ((n:Int)≠n))=false by simp,kF,aJ]
  rw[A4 (b:=gH (mS n n V)) (n:=n) (by omega) (fun i=>(List.range i).all fun k=>decide (V[i*n+k]! =V[k*n+i]!)) (⟨false,0⟩:gc) (fun i hi=>?_) ?_]
  ·show bnd (some (if Pq n V then _ else _)) _=_
   cases hs:Pq n V with
   |false=>rfl
   |true=>
    show bnd (aK (eg (mS n n V)) (1:Int)) _=some (flg (E4 n V n 1))
    have key:∀m j:Nat,j+m=n+1→∃z,aK (eg (mS n n V)) (j:Int)=some z∧((z=.inr ()∧E4 n V m j=(true,0))∨z=.inl (flg (E4 n V m j))):=by
     intro m
     induction m with
     |zero=>
      intro j hj
      refine⟨.inr (),cU ?_,.inl ⟨rfl,rfl⟩⟩
      unfold eg
      dsimp only
      rw[a7 _ _]
     |succ m ih=>
      intro j hj
      have hb:eg (mS n n V) (j:Int)=if (vc j (mu j j (mkM j j (lr n V)))).2≠0∨i9 (vc j (mu j j (mkM j j (lr n V)))).1≤0 then some (.inr (.inl (⟨false,(vc j (mu j j (mkM j j (lr n V)))).2⟩:gc))) else some (.inl ((j+1:Nat):Int)):=by
       unfold eg
       dsimp only
       have hld:=MN hm (show j≤n by omega)
       rw[bb _ _,Q_first hm (by omega)]
       simp only[ab]
       rw[Q_Det (by rw[bL];have:=hld.rc;omega)]
       unfold JS
       rw[ar ⟨hld.chk,rfl⟩,aJ,Nf]
       simp only[ab]
       generalize vc j (mu j j (mkM j j (lr n V)))=d
       by_cases hd:d.2=0
       ·rw[a7 _ _ (by simpa using hd),ar hd,Pm]
        simp only[ab]
        by_cases FM:i9 d.1≤0
        ·rw[bb _ _ FM,ar (.inr FM),hd]
        ·rw[a7 _ _ FM,aA (by intro h;rcases h with h|h;exact h hd;exact FM h),w64];rfl
       ·rw[bb _ _ hd,ar (.inl hd)]
      unfold E4
      by_cases hd:(vc j (mu j j (mkM j j (lr n V)))).2≠0∨i9 (vc j (mu j j (mkM j j (lr n V)))).1≤0
      ·rw[ar hd] at hb
       rw[ar hd]
       exact⟨_,cU hb,.inr rfl⟩
      ·rw[aA hd] at hb
       rw[aA hd,gR hb]
       exact ih (j+1) (by omega)
    obtain⟨z,hz,h6⟩:=key n 1 (by omega)
    rw[show (((1:Nat):Int))=1 from rfl] at hz
    rw[hz]
    rcases h6 with⟨rfl,h6⟩|rfl
    ·rw[h6];rfl
    ·rfl
  ·unfold gH
   dsimp only
   rw[a7 _ _]
  ·unfold gH
   dsimp only
   rw[bb _ _,A4 (b:=gG (mS n n V) (i:Int)) (n:=i) (by omega) (fun k=>decide (V[i*n+k]! =V[k*n+i]!)) (⟨false,0⟩:gc) (fun k hk=>?_) ?_]
   ·simp only[ab]
    cases (List.range i).all fun k=>decide (V[i*n+k]! =V[k*n+i]!) <;> rfl
   ·unfold gG
    try dsimp only
    rw[a7 _ _]
   ·unfold gG
    try dsimp only
    have a:=bj hi (show k<n by omega)
    have b:=bj (show k<n by omega) hi
    rw[bb _ _,wix,wix,aB ⟨by omega,by rw[bW];omega⟩,aB ⟨by omega,by rw[bW];omega⟩,aJ,aJ,oO,oO]
    simp only[nv_eq]
    have:decide (¬V[i*n+k]! =V[k*n+i]!)= !decide (V[i*n+k]! =V[k*n+i]!):=dne _ _
    rw[this]
 ·rw[aA h0]
  have e:(!decide (aP R C V=0)||decide (R≠C))=true:=by
   by_cases a:aP R C V=0
   ·by_cases b:R=C
    ·exact absurd ⟨a,b⟩ h0
    ·simp[b]
   ·simp[a]
  rw[e,kT]
end
end Go.Proofs.YtgfcnncojhkcoaaGreat
