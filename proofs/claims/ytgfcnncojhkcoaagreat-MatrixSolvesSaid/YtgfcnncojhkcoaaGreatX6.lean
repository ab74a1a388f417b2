/-
  Lemmas, part 6. Conditions: none.
-/
import Derived.Test.YtgfcnncojhkcoaaGreatX5
import Derived.RangeFuncNested
import Derived.RangeFuncLeaves
set_option linter.all false
set_option maxRecDepth 100000
set_option maxHeartbeats 4000000
namespace Go.Proofs.YtgfcnncojhkcoaaGreat
open Go.RowKit Go.IntKind Tryz
noncomputable section
structure bp where
 vM:ap
 vE:Int
 deriving Inhabited,DecidableEq
def dX:Cd bp:=⟨4,fun x=>aE.f x.vM++[.lit (.int .i64 x.vE)],fun x=>by simp[aE.h,show aE.sz=3 from rfl]⟩
def lG(gQ:List aj):Int→Option (Int⊕(Bool⊕Unit)):=fun be=>cnd (decide (be<((gQ).length:Int))) (gd (0≤be∧be<((gQ).length:Int)) (bnd (dp ((gQ)[(be).toNat]!)) fun x4=>cnd (!x4) (some (.inr (.inl false))) (some (.inl (i64.wrap (be+(1:Int))))))) (some (.inr (.inr ())))
def mR(gQ:List aj):Option Bool:=bnd (bf (lG gQ) (0:Int)) fun y7=>match y7 with| .inl r=>some r| .inr ()=>some true
theorem xV {gQ:List aj}{r:Bool}(h:mR gQ=some r):aB prog 69 [dL ae gQ] (dB r):=by
 refine bC (rs:=[.tmp 2]) (fun cx hx h0=>?_) func69
 unfold mR at h
 refine ra hx ?_
 refine AW.seq (ra hx ?_)
 refine AW.block ?_
 obtain⟨y,hy,h⟩:=ah h
 refine lp (S:=Int) (X:=Bool⊕Unit) (fun be=>[(0,dL ae gQ),(3,dI .i64 be)]) (fun be=>⟨[],[],0⟩) (PS (PR [.tmp 2] fun r=>dB r) (PE cx (.exit 0) (fun ()=>[]) fun ()=>⟨[],[],0⟩)) hy ?_ ?_ ?_
 exact wk h0 [] (wR rfl (wR rfl wTn)) wVn wLn
 clear hy h
 rintro be y h
 dsimp only[lG] at h
 refine AW.seq (ra hx ?_)
 refine cdh h rfl (fun cE h=>?_) (fun cE h=>?_)
 refine AW.skip (AW.seq (AW.block (rs hx fun K hK=>?_)))
 iterate 2 refine sa ?_
 obtain⟨pg,h⟩:=az h
 have rz:(be).toNat<(gQ).length:=by omega
 refine s1 (ej pg aF ax) ?_
 refine s1 (d:=dG ae ((gQ)[(be).toNat]!)) (jI (c:=ae) (l:=gQ) (n:=(be).toNat) (o:=0) ax rz (eM _ _ rfl)) ?_
 refine scb h kQ fun x4 h=>?_
 refine sa ?_
 refine .nil (hK _ _ (ra hx ?_))
 refine cdh h rfl (fun bU h=>?_) (fun bU h=>?_)
 refine ra hx ?_
 refine AW.ret ?_
 cases h
 refine PS.r ⟨by nofun,PS.l (PR.i ?_)⟩
 exact rv1
 refine AW.skip (rb hx ?_)
 cases h
 exact PS.l (pe0 h0 [])
 refine AW.exit ?_
 try dsimp only
 try simp only[aO,reduceIte,Nat.reduceEqDiff,reduceCtorEq]
 cases h
 exact PS.r ⟨by nofun,PS.r (PE.i (wk h0 [] wTn wVn wLn))⟩
 rcases y with r|⟨⟩
 rintro ex tm' hp' ⟨rfl,hw⟩
 cases h
 exact hw
 rintro ex tm' hp' ⟨rfl,hw⟩
 try dsimp only
 try simp only[aO,reduceIte,Nat.reduceEqDiff,reduceCtorEq]
 refine AW.weak hw (ra hx ?_)
 refine AW.ret ?_
 cases h
 exact rv1
def jD(cQ:ap):Option Int:=bnd (S:=Bool) (cnd (decide (cQ.vR<(0:Int))) (some (true)) (cnd (decide ((200:Int)<cQ.vR)) (some (true)) (cnd (decide (cQ.vC<(0:Int))) (some (true)) (some (decide ((200:Int)<cQ.vC)))))) fun a7=>cnd a7 (some (2:Int)) (bnd (S:=Bool) (cnd (decide (((cQ.vV).length:Int)≠(i64.wrap (cQ.vR*cQ.vC)))) (some (true)) (bnd (mR cQ.vV) fun x7=>some (!x7))) fun kC=>cnd kC (some (1:Int)) (some (0:Int)))
theorem sD {cQ:ap}{r:Int}(h:jD cQ=some r):aB prog 46 [dG aE cQ] (dI .i64 r):=by
 refine bC (rs:=[.tmp 2]) (fun cx hx h0=>?_) func46
 unfold jD at h
 refine rs hx fun K hK=>?_
 refine s1 (d:=.pt 0 0) d8 ?_
 refine sa ?_
 refine .nil (hK _ _ ?_)
 iterate 2 refine AW.seq ?_
 obtain⟨a7,hy,h⟩:=ah h
 refine jn ((PE cx .normal (fun a7=>[(1,.pt 0 0),(20,dB a7)]) fun a7=>⟨[(0,[dI .i64 cQ.vR,dI .i64 cQ.vC,dL ae cQ.vV])],[],1⟩) a7) ?_ ?_
 replace h:=hy
 refine rq hx fun K hK=>?_
 refine sa ?_
 refine s1 (aG aT) ?_
 iterate 2 refine sa ?_
 rcases aW (decide (cQ.vR<(0:Int))) with cE|cE
 replace h:=aY cE h
 iterate 3 refine aJ rfl rfl cE ?_
 refine s1 (am cE) ?_
 refine sa ?_
 iterate 3 refine aJ rfl rfl rfl ?_
 refine s1 (am rfl) ?_
 refine sa ?_
 iterate 3 refine aJ rfl rfl rfl ?_
 refine s1 (am rfl) ?_
 refine .nil (hK _ _ ?_)
 cases h
 exact pe0 h0 [0]
 replace h:=aZ cE h
 refine ga cE ?_
 refine g1 cE (aG aT) ?_
 refine ga cE ?_
 refine s1 (au cE) ?_
 refine sa ?_
 rcases aW (decide ((200:Int)<cQ.vR)) with mm|mm
 replace h:=aY mm h
 iterate 3 refine aJ rfl rfl mm ?_
 refine s1 (am mm) ?_
 refine sa ?_
 iterate 3 refine aJ rfl rfl rfl ?_
 refine s1 (am rfl) ?_
 refine .nil (hK _ _ ?_)
 cases h
 exact pe0 h0 [0]
 replace h:=aZ mm h
 refine ga mm ?_
 refine g1 mm (aG aT) ?_
 refine ga mm ?_
 refine s1 (au mm) ?_
 refine sa ?_
 rcases aW (decide (cQ.vC<(0:Int))) with a8|a8
 replace h:=aY a8 h
 iterate 3 refine aJ rfl rfl a8 ?_
 refine s1 (am a8) ?_
 refine .nil (hK _ _ ?_)
 cases h
 exact pe0 h0 [0]
 replace h:=aZ a8 h
 refine ga a8 ?_
 refine g1 a8 (aG aT) ?_
 refine ga a8 ?_
 refine s1 (au a8) ?_
 refine .nil (hK _ _ ?_)
 cases h
 exact pe0 h0 [0]
 rintro ex tm' hp' ⟨rfl,hw⟩
 refine AW.weak hw (cdh h rfl (fun iO h=>?_) (fun iO h=>?_))
 refine ra hx ?_
 refine AW.ret ?_
 cases h
 exact rv1
 refine AW.skip ?_
 iterate 2 refine AW.seq ?_
 obtain⟨kC,hy,h⟩:=ah h
 refine jn ((PE cx .normal (fun kC=>[(35,dB kC)]) fun kC=>⟨[],[],0⟩) kC) ?_ ?_
 replace h:=hy
 refine rq hx fun K hK=>?_
 refine sa ?_
 refine s1 (aG aF) ?_
 iterate 2 refine sa ?_
 refine s1 (aG aT) ?_
 refine sa ?_
 refine s1 (aG aT) ?_
 iterate 3 refine sa ?_
 rcases aW (decide (((cQ.vV).length:Int)≠(i64.wrap (cQ.vR*cQ.vC)))) with bU|bU
 replace h:=aY bU h
 iterate 4 refine aJ rfl rfl bU ?_
 refine s1 (am bU) ?_
 refine .nil (hK _ _ ?_)
 cases h
 exact pe0 h0 []
 replace h:=aZ bU h
 refine ga bU ?_
 refine g1 bU (aG aF) ?_
 obtain⟨x7,xn,h⟩:=ah h
 refine g1 bU (cj rfl (xV xn) rfl (lA (al _) lAn) (.inl rfl)) ?_
 refine ga bU ?_
 refine s1 (au bU) ?_
 refine .nil (hK _ _ ?_)
 cases h
 exact pe0 h0 []
 rintro ex tm' hp' ⟨rfl,hw⟩
 refine AW.weak hw (cdh h rfl (fun eH h=>?_) (fun eH h=>?_))
 refine ra hx ?_
 refine AW.ret ?_
 cases h
 exact rv1
 refine AW.skip (ra hx ?_)
 refine AW.ret ?_
 cases h
 exact rv1
def bY(cQ:ap):Option Bool:=bnd (jD cQ) fun x1=>some (decide (x1=(0:Int)))
theorem cT {cQ:ap}{r:Bool}(h:bY cQ=some r):aB prog 57 [dG aE cQ] (dB r):=by
 refine bC (rs:=[.tmp 2]) (fun cx hx h0=>?_) func57
 unfold bY at h
 refine rs hx fun K hK=>?_
 refine s1 (d:=.pt 0 0) d8 ?_
 refine sa ?_
 refine .nil (hK _ _ (rs hx fun K hK=>?_))
 refine s1 (d:=dG aE cQ) (bb aq) ?_
 refine scb h sD fun x1 h=>?_
 iterate 2 refine sa ?_
 refine .nil (hK _ _ (AW.ret ?_))
 cases h
 exact rv1
def fY(bL:Int)(bz:Int):Int×(List aj)→Option ((Int×(List aj))⊕((List aj))):=fun (aL,a6)=>cnd (decide (aL<(i64.wrap (bL*bz)))) (bnd (jE (0:Int)) fun x2=>gd ((a6++[x2]).length*136≤140737488355328) (some (.inl (i64.wrap (aL+(1:Int)),a6++[x2])))) (some (.inr a6))
def ib(bL:Int)(bz:Int):Option ap:=bnd (bf (fY bL bz) ((0:Int),([]:List aj))) fun aD=>some (⟨bL,bz,aD⟩:ap)
def mf(bL:Int)(bz:Int):Int×(List aj)→Option ((Int×(List aj))⊕((List aj))):=fun (aL,a6)=>cnd (decide (aL<(i64.wrap (bL*bz)))) (bnd (jE (0:Int)) fun x2=>gd ((a6++[x2]).length*136≤140737488355328) (some (.inl (i64.wrap (aL+(1:Int)),a6++[x2])))) (some (.inr a6))
def et(bL:Int)(bz:Int):Option ap:=bnd (bf (mf bL bz) ((0:Int),([]:List aj))) fun aD=>gd (0<(aD).length) (some (⟨bL,bz,aD⟩:ap))
def fK(cQ:ap):Option bp:=bnd (mR cQ.vV) fun x1=>cnd (!x1) (some (⟨(⟨(0:Int),(0:Int),([]:List aj)⟩:ap),(30:Int)⟩:bp)) (some (⟨cQ,(0:Int)⟩:bp))
def lH(aS:ap)(gq:Int)(aU:ap)(fj:Int):Int×aj→Option ((Int×aj)⊕aj):=fun (aK,d5)=>cnd (decide (aK<aS.vC)) (gd (0≤i64.wrap ((i64.wrap (gq*aS.vC))+aK)∧i64.wrap ((i64.wrap (gq*aS.vC))+aK)<((aS.vV).length:Int)) (gd (0≤i64.wrap ((i64.wrap (aK*aU.vC))+fj)∧i64.wrap ((i64.wrap (aK*aU.vC))+fj)<((aU.vV).length:Int)) (bnd (fZ ((aS.vV)[(i64.wrap ((i64.wrap (gq*aS.vC))+aK)).toNat]!) ((aU.vV)[(i64.wrap ((i64.wrap (aK*aU.vC))+fj)).toNat]!)) fun sQ=>bnd (gy d5 sQ) fun ny=>some (.inl (i64.wrap (aK+(1:Int)),ny))))) (some (.inr d5))
def n9(aS:ap)(gq:Int)(aU:ap)(fj:Int):Option aj:=cnd (decide (aS.vC=(0:Int))) (bnd (jE (0:Int)) fun x2=>some x2) (gd (0≤i64.wrap (gq*aS.vC)∧i64.wrap (gq*aS.vC)<((aS.vV).length:Int)) (gd (0≤fj∧fj<((aU.vV).length:Int)) (bnd (fZ ((aS.vV)[(i64.wrap (gq*aS.vC)).toNat]!) ((aU.vV)[(fj).toNat]!)) fun x8=>bnd (bf (lH aS gq aU fj) ((1:Int),x8)) fun bw=>some bw)))
def jc(aS:ap)(aU:ap)(x9:ap)(aK:Int):Int×(List aj)→Option ((Int×(List aj))⊕((List aj))):=fun (ez,gZ)=>cnd (decide (ez<aU.vC)) (bnd (n9 aS aK aU ez) fun lw=>gd (0≤i64.wrap ((i64.wrap (aK*aU.vC))+ez)∧i64.wrap ((i64.wrap (aK*aU.vC))+ez)<(((x9.vV).length:Nat):Int)∧i64.wrap ((i64.wrap (aK*aU.vC))+ez)<((gZ).length:Int)) (bnd (some ((gZ).set ((i64.wrap ((i64.wrap (aK*aU.vC))+ez)).toNat) lw)) fun ny=>some (.inl (i64.wrap (ez+(1:Int)),ny)))) (some (.inr gZ))
def jd(aS:ap)(aU:ap)(x9:ap):Int×(List aj)→Option ((Int×(List aj))⊕((List aj))):=fun (aK,d5)=>cnd (decide (aK<aS.vR)) (bnd (bf (jc aS aU x9 aK) ((0:Int),d5)) fun yT=>some (.inl (i64.wrap (aK+(1:Int)),yT))) (some (.inr d5))
def p7(aS:ap)(aU:ap):Option bp:=bnd (S:=Bool) (bnd (bY aS) fun x1=>cnd (!x1) (some (true)) (bnd (bY aU) fun x4=>cnd (!x4) (some (true)) (some (decide (aS.vC≠aU.vR))))) fun a7=>cnd a7 (some (⟨(⟨(0:Int),(0:Int),([]:List aj)⟩:ap),(1:Int)⟩:bp)) (bnd (et aS.vR aU.vC) fun x9=>bnd (bf (jd aS aU x9) ((0:Int),x9.vV)) fun bw=>gd ((x9.vV).length=(bw).length) (bnd (fK (⟨x9.vR,x9.vC,bw⟩:ap)) fun rQ=>some rQ))
def oL(aS:ap)(aU:ap)(x9:ap)(aK:Int):Unit→Option (Unit⊕Unit):=fun ()=>cnd (decide ((0:Int)<aU.vC)) (bnd (n9 aS aK aU (0:Int)) fun lw=>gd (0≤i64.wrap ((i64.wrap (aK*aU.vC))+(0:Int))∧i64.wrap ((i64.wrap (aK*aU.vC))+(0:Int))<((x9.vV).length:Int)) (none)) (some (.inr ()))
def je(aS:ap)(aU:ap)(x9:ap):Int→Option (Int⊕Unit):=fun aK=>cnd (decide (aK<aS.vR)) (bnd (bf (oL aS aU x9 aK) ()) fun ()=>some (.inl (i64.wrap (aK+(1:Int))))) (some (.inr ()))
def p8(aS:ap)(aU:ap):Option bp:=bnd (S:=Bool) (bnd (bY aS) fun x1=>cnd (!x1) (some (true)) (bnd (bY aU) fun x4=>cnd (!x4) (some (true)) (some (decide (aS.vC≠aU.vR))))) fun a7=>cnd a7 (some (⟨(⟨(0:Int),(0:Int),([]:List aj)⟩:ap),(1:Int)⟩:bp)) (bnd (ib aS.vR aU.vC) fun x9=>bnd (bf (je aS aU x9) (0:Int)) fun ()=>bnd (fK x9) fun sP=>some sP)
def sf(aS:ap)(aU:ap):Option bp:=orO (p7 aS aU) (p8 aS aU)
def iy(aS:ap)(aU:ap):Int×(List aj)→Option ((Int×(List aj))⊕((List aj))):=fun (cD,iT)=>cnd (decide (cD<aS.vR)) (gd (0≤i64.wrap (cD*aS.vC)∧i64.wrap (cD*aS.vC)≤i64.wrap ((i64.wrap (cD+(1:Int)))*aS.vC)∧i64.wrap ((i64.wrap (cD+(1:Int)))*aS.vC)≤((aS.vV).length:Int)) (gd ((iT++(rR aS.vV (i64.wrap (cD*aS.vC)) (i64.wrap ((i64.wrap (cD+(1:Int)))*aS.vC)))).length*136≤140737488355328) (gd (0≤i64.wrap (cD*aU.vC)∧i64.wrap (cD*aU.vC)≤i64.wrap ((i64.wrap (cD+(1:Int)))*aU.vC)∧i64.wrap ((i64.wrap (cD+(1:Int)))*aU.vC)≤((aU.vV).length:Int)) (gd (((iT++(rR aS.vV (i64.wrap (cD*aS.vC)) (i64.wrap ((i64.wrap (cD+(1:Int)))*aS.vC))))++(rR aU.vV (i64.wrap (cD*aU.vC)) (i64.wrap ((i64.wrap (cD+(1:Int)))*aU.vC)))).length*136≤140737488355328) (some (.inl (i64.wrap (cD+(1:Int)),(iT++(rR aS.vV (i64.wrap (cD*aS.vC)) (i64.wrap ((i64.wrap (cD+(1:Int)))*aS.vC))))++(rR aU.vV (i64.wrap (cD*aU.vC)) (i64.wrap ((i64.wrap (cD+(1:Int)))*aU.vC)))))))))) (some (.inr iT))
def mB(aS:ap)(aU:ap):Option bp:=bnd (S:=Bool) (bnd (bY aS) fun x1=>cnd (!x1) (some (true)) (bnd (bY aU) fun x4=>cnd (!x4) (some (true)) (some (decide (aS.vR≠aU.vR))))) fun a7=>cnd a7 (some (⟨(⟨(0:Int),(0:Int),([]:List aj)⟩:ap),(1:Int)⟩:bp)) (cnd (decide ((200:Int)<(i64.wrap (aS.vC+aU.vC)))) (some (⟨(⟨(0:Int),(0:Int),([]:List aj)⟩:ap),(2:Int)⟩:bp)) (bnd (bf (iy aS aU) ((0:Int),([]:List aj))) fun pe=>some (⟨(⟨aS.vR,i64.wrap (aS.vC+aU.vC),pe⟩:ap),(0:Int)⟩:bp)))
theorem BI {aS:ap}{aU:ap}{r:bp}(h:mB aS aU=some r):aB prog 56 [dG aE aS,dG aE aU] (dG dX r):=by
 refine bC (rs:=[.cell 4 65]) (fun cx hx h0=>?_) func56
 unfold mB at h
 refine rs hx fun K hK=>?_
 refine s1 (d:=.pt 0 0) d8 ?_
 refine s1 (d:=.pt 1 0) d8 ?_
 refine s1 (d:=.pt 2 0) (bc bW) ?_
 refine .nil (hK _ _ ?_)
 iterate 2 refine AW.seq ?_
 obtain⟨a7,hy,h⟩:=ah h
 refine jn ((PE cx .normal (fun a7=>[(2,.pt 0 0),(3,.pt 1 0),(4,.pt 2 0),(21,dB a7)]) fun a7=>⟨[(0,[dI .i64 aS.vR,dI .i64 aS.vC,dL ae aS.vV]),(1,[dI .i64 aU.vR,dI .i64 aU.vC,dL ae aU.vV]),(2,[dI .i64 (0:Int),dI .i64 (0:Int),dN,dI .i64 (0:Int)])],[],3⟩) a7) ?_ ?_
 replace h:=hy
 refine rq hx fun K hK=>?_
 refine s1 (d:=dG aE aS) (bb aq) ?_
 refine scb h cT fun x1 h=>?_
 iterate 2 refine sa ?_
 rcases aW (!x1) with a8|a8
 replace h:=aY a8 h
 iterate 3 refine aJ rfl rfl a8 ?_
 refine s1 (am a8) ?_
 refine sa ?_
 iterate 5 refine aJ rfl rfl rfl ?_
 refine s1 (am rfl) ?_
 refine .nil (hK _ _ ?_)
 cases h
 exact pe0 h0 [0,1,2]
 replace h:=aZ a8 h
 refine g1 (d:=dG aE aU) a8 (bb aq) ?_
 obtain⟨x4,pk,h⟩:=ah h
 refine g1 a8 (cj rfl (cT pk) (by simp only[bN,cl,cF,cZ,ck,cr];exact aM _ _) (lA (al _) lAn) (.inl rfl)) ?_
 refine ga a8 ?_
 refine s1 (au a8) ?_
 refine sa ?_
 rcases aW (!x4) with bU|bU
 replace h:=aY bU h
 iterate 5 refine aJ rfl rfl bU ?_
 refine s1 (am bU) ?_
 refine .nil (hK _ _ ?_)
 cases h
 exact pe0 h0 [0,1,2]
 replace h:=aZ bU h
 refine ga bU ?_
 refine g1 bU (aG aT) ?_
 refine ga bU ?_
 refine g1 bU (aG aT) ?_
 refine ga bU ?_
 refine s1 (au bU) ?_
 refine .nil (hK _ _ ?_)
 cases h
 exact pe0 h0 [0,1,2]
 rintro ex tm' hp' ⟨rfl,hw⟩
 refine AW.weak hw (cdh h rfl (fun py h=>?_) (fun py h=>?_))
 refine rs hx fun K hK=>?_
 refine s1 (d:=.ag [dI .i64 (0:Int),dI .i64 (0:Int),dN,dI .i64 (1:Int)]) (bE bW) ?_
 refine s0 (bO (ds':=[dI .i64 (0:Int),dI .i64 (0:Int),dN,dI .i64 (1:Int)]) bW) ?_
 refine .nil (hK _ _ (AW.ret ?_))
 cases h
 exact dh.mk1 (bJ (es:=[dI .i64 (0:Int),dI .i64 (0:Int),dN,dI .i64 (1:Int)]) rfl bW rfl rfl (ltb rfl) (leb rfl) rfl (.inr (.inr ⟨_,(eA (wc (co _) (wc (co _) (wc (nT rfl) (wc (co _) wcn))))),rfl,rfl⟩)))
 refine AW.skip (AW.seq (rs hx fun K hK=>?_))
 refine sa ?_
 refine s1 (aG aT) ?_
 refine sa ?_
 refine s1 (aG aT) ?_
 iterate 2 refine sa ?_
 refine .nil (hK _ _ (cdh h rfl (fun v9 h=>?_) (fun v9 h=>?_)))
 refine rs hx fun K hK=>?_
 refine s1 (d:=.ag [dI .i64 (0:Int),dI .i64 (0:Int),dN,dI .i64 (2:Int)]) (bE bW) ?_
 refine s0 (bO (ds':=[dI .i64 (0:Int),dI .i64 (0:Int),dN,dI .i64 (2:Int)]) bW) ?_
 refine .nil (hK _ _ (AW.ret ?_))
 cases h
 exact dh.mk1 (bJ (es:=[dI .i64 (0:Int),dI .i64 (0:Int),dN,dI .i64 (2:Int)]) rfl bW rfl rfl (ltb rfl) (leb rfl) rfl (.inr (.inr ⟨_,(eA (wc (co _) (wc (co _) (wc (nT rfl) (wc (co _) wcn))))),rfl,rfl⟩)))
 refine AW.skip (rs hx fun K hK=>?_)
 refine sa ?_
 refine s1 (aG aT) ?_
 refine sa ?_
 refine s1 (aG aT) ?_
 refine sa ?_
 refine s1 (aG aT) ?_
 refine sa ?_
 refine s1 (d:=.ag [dI .i64 aS.vR,dI .i64 (i64.wrap (aS.vC+aU.vC)),dN]) (bE aq) ?_
 refine s1 (d:=.pt 3 0) (bc aq) ?_
 refine s0 (bO (ds':=[dI .i64 aS.vR,dI .i64 (i64.wrap (aS.vC+aU.vC)),dN]) aq) ?_
 refine .nil (hK _ _ (AW.seq (ra hx ?_)))
 refine AW.block ?_
 obtain⟨pe,hy,h⟩:=ah h
 refine lp (S:=Int×(List aj)) (X:=(List aj)) (fun (cD,iT)=>[(2,.pt 0 0),(3,.pt 1 0),(4,.pt 2 0),(5,.pt 3 0),(6,dI .i64 cD)]) (fun (cD,iT)=>⟨[(0,[dI .i64 aS.vR,dI .i64 aS.vC,dL ae aS.vV]),(1,[dI .i64 aU.vR,dI .i64 aU.vC,dL ae aU.vV]),(2,[dI .i64 (0:Int),dI .i64 (0:Int),dN,dI .i64 (0:Int)]),(3,[dI .i64 aS.vR,dI .i64 (i64.wrap (aS.vC+aU.vC)),dO 4 ae iT])],[(4,(iT).length,36,34)],5⟩) (PE cx (.exit 0) (fun pe=>[(4,.pt 0 0),(5,.pt 1 0)]) fun pe=>⟨[(0,[dI .i64 (0:Int),dI .i64 (0:Int),dN,dI .i64 (0:Int)]),(1,[dI .i64 aS.vR,dI .i64 (i64.wrap (aS.vC+aU.vC)),dO 2 ae pe])],[(2,(pe).length,36,34)],3⟩) hy ?_ ?_ ?_
 exact Wk.trans (Wk.nilOwn (ds':=[dI .i64 aS.vR,dI .i64 (i64.wrap (aS.vC+aU.vC)),dO 4 ae ([]:List aj)]) 3 2 34 36) (wk h0 [0,1,2,3,4] (wR rfl (wR rfl (wR rfl (wR rfl (wR rfl wTn))))) (vR rfl (vR rfl (vR rfl (vR rfl wVn)))) (wL rfl rfl wLn))
 clear hy h
 rintro⟨cD,iT⟩ y h
 dsimp only[iy] at h
 refine AW.seq (rs hx fun K hK=>?_)
 iterate 2 refine sa ?_
 refine s1 (aG aT) ?_
 refine sa ?_
 refine .nil (hK _ _ (cdh h rfl (fun eH h=>?_) (fun eH h=>?_)))
 refine AW.skip (AW.seq (AW.block (rsd [] hx fun K hK=>?_)))
 refine sa ?_
 refine s1 (aG aF) ?_
 refine sa ?_
 refine s1 (aG aF) ?_
 iterate 2 refine sa ?_
 refine s1 (aG aT) ?_
 iterate 4 refine sa ?_
 refine s1 (aG aT) ?_
 refine sa ?_
 obtain⟨vb,h⟩:=az h
 refine s1 (T_sl (c:=ae) (l:=aS.vV) (a:=i64.wrap (cD*aS.vC)) (b:=i64.wrap ((i64.wrap (cD+(1:Int)))*aS.vC)) vb aF ax) ?_
 obtain⟨JP,h⟩:=az h
 refine s1 (d:=dO 4 ae (iT++(rR aS.vV (i64.wrap (cD*aS.vC)) (i64.wrap ((i64.wrap (cD+(1:Int)))*aS.vC))))) (gc aF ax JP) ?_
 refine sa ?_
 refine s0 (bO (ds':=[dI .i64 aS.vR,dI .i64 (i64.wrap (aS.vC+aU.vC)),dO 4 ae (iT++(rR aS.vV (i64.wrap (cD*aS.vC)) (i64.wrap ((i64.wrap (cD+(1:Int)))*aS.vC))))]) aF) ?_
 refine .nil (hK _ _ (rqd [] hx fun K hK=>?_))
 refine sa ?_
 refine s1 (aG aF) ?_
 refine sa ?_
 refine s1 (aG aF) ?_
 iterate 2 refine sa ?_
 refine s1 (aG aT) ?_
 iterate 4 refine sa ?_
 refine s1 (aG aT) ?_
 refine sa ?_
 obtain⟨Ck,h⟩:=az h
 refine s1 (T_sl (c:=ae) (l:=aU.vV) (a:=i64.wrap (cD*aU.vC)) (b:=i64.wrap ((i64.wrap (cD+(1:Int)))*aU.vC)) Ck aF ax) ?_
 obtain⟨JO,h⟩:=az h
 refine s1 (d:=dO 4 ae ((iT++(rR aS.vV (i64.wrap (cD*aS.vC)) (i64.wrap ((i64.wrap (cD+(1:Int)))*aS.vC))))++(rR aU.vV (i64.wrap (cD*aU.vC)) (i64.wrap ((i64.wrap (cD+(1:Int)))*aU.vC))))) (gc aF ax JO) ?_
 refine sa ?_
 refine s0 (bO (ds':=[dI .i64 aS.vR,dI .i64 (i64.wrap (aS.vC+aU.vC)),dO 4 ae ((iT++(rR aS.vV (i64.wrap (cD*aS.vC)) (i64.wrap ((i64.wrap (cD+(1:Int)))*aS.vC))))++(rR aU.vV (i64.wrap (cD*aU.vC)) (i64.wrap ((i64.wrap (cD+(1:Int)))*aU.vC))))]) aF) ?_
 refine .nil (hK _ _ (rb hx ?_))
 cases h
 exact PS.l (pe0 h0 [0,1,2,3,4])
 refine AW.exit ?_
 try dsimp only
 try simp only[aO,reduceIte,Nat.reduceEqDiff,reduceCtorEq]
 cases h
 exact PS.r ⟨by nofun,PE.i (wk h0 [2,3,4] (wR rfl (wR rfl wTn)) (vR rfl (vR rfl wVn)) (wL rfl rfl wLn))⟩
 rintro ex tm' hp' ⟨rfl,hw⟩
 try dsimp only
 try simp only[aO,reduceIte,Nat.reduceEqDiff,reduceCtorEq]
 refine AW.weak hw (rs hx fun K hK=>?_)
 refine s1 (d:=.ag [dI .i64 aS.vR,dI .i64 (i64.wrap (aS.vC+aU.vC)),dO 2 ae pe]) (bb aq) ?_
 refine s2 (d2:=dG dX (⟨(⟨aS.vR,i64.wrap (aS.vC+aU.vC),pe⟩:ap),(0:Int)⟩:bp)) (bE (es:=[dI .i64 aS.vR,dI .i64 (i64.wrap (aS.vC+aU.vC)),dO 2 ae pe,dI .i64 (0:Int)]) bW) (eA (wc (co _) (wc (co _) (wc (A5 _) (wc (co _) wcn))))) ?_
 refine s0 (bO (ds':=[dI .i64 aS.vR,dI .i64 (i64.wrap (aS.vC+aU.vC)),dL ae pe,dI .i64 (0:Int)]) bW) ?_
 refine .nil (hK _ _ (AW.ret ?_))
 cases h
 exact dh.mk1 (bJ (es:=(dX.f (⟨(⟨aS.vR,i64.wrap (aS.vC+aU.vC),pe⟩:ap),(0:Int)⟩:bp)).map .e) rfl bW rfl rfl (ltb rfl) (leb rfl) rfl (.inr (.inr ⟨_,(al _),rfl,rfl⟩)))
def e7(aS:ap)(aU:ap):Option Bool:=bnd (S:=Bool) (cnd (decide (aS.vR=aU.vR)) (cnd (decide (aS.vC=aU.vC)) (bnd (d9 aS.vV aU.vV) fun x3=>some (x3)) (some (false))) (some (false))) fun gF=>some gF
theorem oo {aS:ap}{aU:ap}{r:Bool}(h:e7 aS aU=some r):aB prog 14 [dG aE aS,dG aE aU] (dB r):=by
 refine bC (rs:=[.tmp 4]) (fun cx hx h0=>?_) func14
 unfold e7 at h
 refine rs hx fun K hK=>?_
 refine s1 (d:=.pt 0 0) d8 ?_
 refine s1 (d:=.pt 1 0) d8 ?_
 refine sa ?_
 refine .nil (hK _ _ (AW.seq ?_))
 obtain⟨gF,hy,h⟩:=ah h
 refine jn ((PE cx .normal (fun gF=>[(4,dB gF)]) fun gF=>⟨[],[],0⟩) gF) ?_ ?_
 replace h:=hy
 refine rq hx fun K hK=>?_
 refine sa ?_
 refine s1 (aG aT) ?_
 refine sa ?_
 refine s1 (aG aT) ?_
 iterate 2 refine sa ?_
 rcases aW (decide (aS.vR=aU.vR)) with cE|cE
 replace h:=aY cE h
 refine ga cE ?_
 refine g1 cE (aG aT) ?_
 refine ga cE ?_
 refine g1 cE (aG aT) ?_
 refine ga cE ?_
 refine s1 (am cE) ?_
 refine sa ?_
 rcases aW (decide (aS.vC=aU.vC)) with mm|mm
 replace h:=aY mm h
 refine ga mm ?_
 refine g1 mm (aG aF) ?_
 refine ga mm ?_
 refine g1 mm (aG aF) ?_
 obtain⟨x3,xQ,h⟩:=ah h
 refine g1 mm (cj rfl (pE xQ) rfl (lA (al _) (lA (al _) lAn)) (.inl rfl)) ?_
 refine s1 (am mm) ?_
 refine sa ?_
 refine .nil (hK _ _ ?_)
 cases h
 exact pe0 h0 []
 replace h:=aZ mm h
 iterate 5 refine aJ rfl rfl mm ?_
 refine s1 (au mm) ?_
 refine sa ?_
 refine .nil (hK _ _ ?_)
 cases h
 exact pe0 h0 []
 replace h:=aZ cE h
 iterate 5 refine aJ rfl rfl cE ?_
 refine s1 (au cE) ?_
 refine sa ?_
 iterate 5 refine aJ rfl rfl rfl ?_
 refine s1 (au rfl) ?_
 refine sa ?_
 refine .nil (hK _ _ ?_)
 cases h
 exact pe0 h0 []
 rintro ex tm' hp' ⟨rfl,hw⟩
 refine AW.weak hw (AW.ret ?_)
 cases h
 exact rv1
def j3(gQ:List aj):Int→Option (Int⊕(Bool⊕Unit)):=fun be=>cnd (decide (be<((gQ).length:Int))) (bnd (S:=Bool) (gd (0≤be∧be<((gQ).length:Int)) (bnd (e8 ((gQ)[(be).toNat]!.vN)) fun x4=>cnd (decide ((60:Int)<x4)) (some (true)) (gd (0≤be∧be<((gQ).length:Int)) (bnd (e8 ((gQ)[(be).toNat]!.vD)) fun x9=>some (decide ((60:Int)<x9)))))) fun aK=>cnd aK (some (.inr (.inl false))) (some (.inl (i64.wrap (be+(1:Int)))))) (some (.inr (.inr ())))
def lW(gQ:List aj):Option Bool:=bnd (bf (j3 gQ) (0:Int)) fun y13=>match y13 with| .inl r=>some r| .inr ()=>some true
theorem wH {gQ:List aj}{r:Bool}(h:lW gQ=some r):aB prog 28 [dL ae gQ] (dB r):=by
 refine bC (rs:=[.tmp 2]) (fun cx hx h0=>?_) func28
 unfold lW at h
 refine ra hx ?_
 refine AW.seq (ra hx ?_)
 refine AW.block ?_
 obtain⟨y,hy,h⟩:=ah h
 refine lp (S:=Int) (X:=Bool⊕Unit) (fun be=>[(0,dL ae gQ),(3,dI .i64 be)]) (fun be=>⟨[],[],0⟩) (PS (PR [.tmp 2] fun r=>dB r) (PE cx (.exit 0) (fun ()=>[]) fun ()=>⟨[],[],0⟩)) hy ?_ ?_ ?_
 exact wk h0 [] (wR rfl (wR rfl wTn)) wVn wLn
 clear hy h
 rintro be y h
 dsimp only[j3] at h
 refine AW.seq (ra hx ?_)
 refine cdh h rfl (fun cE h=>?_) (fun cE h=>?_)
 refine AW.skip (AW.seq (AW.block (AW.seq ?_)))
 obtain⟨aK,hy,h⟩:=ah h
 refine jn ((PE cx .normal (fun aK=>[(0,dL ae gQ),(3,dI .i64 be),(25,dB aK)]) fun aK=>⟨[],[],0⟩) aK) ?_ ?_
 replace h:=hy
 refine rq hx fun K hK=>?_
 iterate 2 refine sa ?_
 obtain⟨pg,h⟩:=az h
 have rz:(be).toNat<(gQ).length:=by omega
 refine s1 (ej pg aF ax) ?_
 refine sa ?_
 refine s1 (d:=dG an ((gQ)[(be).toNat]!.vN)) (jI (c:=ae) (l:=gQ) (n:=(be).toNat) (o:=0) qza0 rz (by first|exact rfl|exact pG0 _ _ _ rfl|exact pG1 _ _ _ _ rfl rfl)) ?_
 refine scb h ya fun x4 h=>?_
 iterate 2 refine sa ?_
 rcases aW (decide ((60:Int)<x4)) with bU|bU
 replace h:=aY bU h
 iterate 7 refine aJ rfl rfl bU ?_
 refine s1 (am bU) ?_
 refine .nil (hK _ _ ?_)
 cases h
 exact pe0 h0 []
 replace h:=aZ bU h
 iterate 2 refine ga bU ?_
 obtain⟨Pa,h⟩:=az h
 have OQ:(be).toNat<(gQ).length:=by omega
 refine g1 bU (ej Pa aF ax) ?_
 refine ga bU ?_
 refine g1 (d:=dG an ((gQ)[(be).toNat]!.vD)) bU (jI (c:=ae) (l:=gQ) (n:=(be).toNat) (o:=18) qza0 OQ (by first|exact rfl|exact pG0 _ _ _ rfl|exact pG1 _ _ _ _ rfl rfl)) ?_
 obtain⟨x9,xq,h⟩:=ah h
 refine g1 bU (cj rfl (ya xq) (by simp only[bN,cl,cF,cZ,ck,cr];exact aM _ _) (lA (dT _ _) lAn) (.inl rfl)) ?_
 refine ga bU ?_
 refine s1 (au bU) ?_
 refine .nil (hK _ _ ?_)
 cases h
 exact pe0 h0 []
 rintro ex tm' hp' ⟨rfl,hw⟩
 refine AW.weak hw (cdh h rfl (fun mw h=>?_) (fun mw h=>?_))
 refine ra hx ?_
 refine AW.ret ?_
 cases h
 refine PS.r ⟨by nofun,PS.l (PR.i ?_)⟩
 exact rv1
 refine AW.skip (rb hx ?_)
 cases h
 exact PS.l (pe0 h0 [])
 refine AW.exit ?_
 try dsimp only
 try simp only[aO,reduceIte,Nat.reduceEqDiff,reduceCtorEq]
 cases h
 exact PS.r ⟨by nofun,PS.r (PE.i (wk h0 [] wTn wVn wLn))⟩
 rcases y with r|⟨⟩
 rintro ex tm' hp' ⟨rfl,hw⟩
 cases h
 exact hw
 rintro ex tm' hp' ⟨rfl,hw⟩
 try dsimp only
 try simp only[aO,reduceIte,Nat.reduceEqDiff,reduceCtorEq]
 refine AW.weak hw (ra hx ?_)
 refine AW.ret ?_
 cases h
 exact rv1
def lX(cQ:ap):Option Bool:=cnd (decide ((60:Int)<((cQ.vV).length:Int))) (some false) (bnd (bY cQ) fun x2=>cnd (!x2) (some true) (bnd (S:=Bool) (cnd (decide (cQ.vR≤(6:Int))) (cnd (decide (cQ.vC≤(7:Int))) (bnd (lW cQ.vV) fun x7=>some (x7)) (some (false))) (some (false))) fun od=>some od))
theorem wI {cQ:ap}{r:Bool}(h:lX cQ=some r):aB prog 10 [dG aE cQ] (dB r):=by
 refine bC (rs:=[.tmp 2]) (fun cx hx h0=>?_) func10
 unfold lX at h
 refine rs hx fun K hK=>?_
 refine s1 (d:=.pt 0 0) d8 ?_
 refine sa ?_
 refine .nil (hK _ _ (AW.seq (rs hx fun K hK=>?_)))
 refine sa ?_
 refine s1 (aG aF) ?_
 iterate 2 refine sa ?_
 refine .nil (hK _ _ (cdh h rfl (fun cE h=>?_) (fun cE h=>?_)))
 refine ra hx ?_
 refine AW.ret ?_
 cases h
 exact rv1
 refine AW.skip (AW.seq (rs hx fun K hK=>?_))
 refine s1 (d:=dG aE cQ) (bb aq) ?_
 refine scb h cT fun x2 h=>?_
 refine sa ?_
 refine .nil (hK _ _ (cdh h rfl (fun lz h=>?_) (fun lz h=>?_)))
 refine ra hx ?_
 refine AW.ret ?_
 cases h
 exact rv1
 refine AW.skip (AW.seq ?_)
 obtain⟨od,hy,h⟩:=ah h
 refine jn ((PE cx .normal (fun od=>[(2,dB od)]) fun od=>⟨[],[],0⟩) od) ?_ ?_
 replace h:=hy
 refine rq hx fun K hK=>?_
 refine sa ?_
 refine s1 (aG aT) ?_
 iterate 2 refine sa ?_
 rcases aW (decide (cQ.vR≤(6:Int))) with iO|iO
 replace h:=aY iO h
 refine ga iO ?_
 refine g1 iO (aG aT) ?_
 refine ga iO ?_
 refine s1 (am iO) ?_
 refine sa ?_
 rcases aW (decide (cQ.vC≤(7:Int))) with bU|bU
 replace h:=aY bU h
 refine ga bU ?_
 refine g1 bU (aG aF) ?_
 obtain⟨x7,xn,h⟩:=ah h
 refine g1 bU (cj rfl (wH xn) rfl (lA (al _) lAn) (.inl rfl)) ?_
 refine s1 (am bU) ?_
 refine sa ?_
 refine .nil (hK _ _ ?_)
 cases h
 exact pe0 h0 []
 replace h:=aZ bU h
 iterate 3 refine aJ rfl rfl bU ?_
 refine s1 (au bU) ?_
 refine sa ?_
 refine .nil (hK _ _ ?_)
 cases h
 exact pe0 h0 []
 replace h:=aZ iO h
 iterate 3 refine aJ rfl rfl iO ?_
 refine s1 (au iO) ?_
 refine sa ?_
 iterate 3 refine aJ rfl rfl rfl ?_
 refine s1 (au rfl) ?_
 refine sa ?_
 refine .nil (hK _ _ ?_)
 cases h
 exact pe0 h0 []
 rintro ex tm' hp' ⟨rfl,hw⟩
 refine AW.weak hw (AW.ret ?_)
 cases h
 exact rv1
structure nN where
 vcol:Int
 vby:aj
 vmoved:Bool
 deriving Inhabited,DecidableEq
def cv:Cd nN:=⟨38,fun x=>[.lit (.int .i64 x.vcol)]++ae.f x.vby++[.lit (.bool x.vmoved)],fun x=>by simp[ae.h,show ae.sz=36 from rfl]⟩
theorem DX(x:nN):ao (cv.f x) (cI .i64) 0 x.vcol (fun y=>cv.f (⟨y,x.vby,x.vmoved⟩:nN)):=
 ao.of ([]) ((ae).f x.vby++(cB).f x.vmoved) (by first|rfl|(simp[(cI .i64).h,cB.h,ae.h];first|rfl|done)) (by first|rfl|simp[cv,cI,cB,cS,cL,gr]) (fun y=>by first|rfl|simp[cv,cI,cB,cS,cL,gr])
theorem Fx(x:nN):ao (cv.f x) ae 1 x.vby (fun y=>cv.f (⟨x.vcol,y,x.vmoved⟩:nN)):=
 ao.of (((cI .i64)).f x.vcol) ((cB).f x.vmoved) (by first|rfl|(simp[(cI .i64).h,cB.h,ae.h];first|rfl|done)) (by first|rfl|simp[cv,cI,cB,cS,cL,gr]) (fun y=>by first|rfl|simp[cv,cI,cB,cS,cL,gr])
theorem A4(x:nN):ao (cv.f x) cB 37 x.vmoved (fun y=>cv.f (⟨x.vcol,x.vby,y⟩:nN)):=
 ao.of (((cI .i64)).f x.vcol++(ae).f x.vby) ([]) (by first|rfl|(simp[(cI .i64).h,cB.h,ae.h];first|rfl|done)) (by first|rfl|simp[cv,cI,cB,cS,cL,gr]) (fun y=>by first|rfl|simp[cv,cI,cB,cS,cL,gr])
structure ee where
 vm:ap
 vl:List nN
 deriving Inhabited,DecidableEq
def qZ:Cd ee:=⟨4,fun x=>aE.f x.vm++[slE cv x.vl],fun x=>by simp[aE.h,show aE.sz=3 from rfl]⟩
section
section
variable {vs uE oy:List (Nat×List D)} {lv DA:List (Nat×Nat×Nat×TypeId)} {N M n2 k:Nat}
theorem fW.up(hok:fW ⟨vs,lv,N⟩)(h:N≤M):fW ⟨vs,lv,M⟩:=
 ⟨fun j es hj=>by obtain⟨h1,h2⟩:=hok.var j es hj;exact⟨cm h1 h,eS.2 fun d hd=>D.idsC_le h (eS.1 h2 d hd)⟩,fun id e hi=>cm (hok.tok id e hi) h⟩
theorem fW.consM {ds:List D}(hok:fW ⟨vs,lv,M⟩)(hk:k<M)(hd:ds.all (D.idsC M)=true):fW ⟨(k,ds)::vs,lv,M⟩:=hok.cons (bI M) hk hd
theorem wk1 {x:Cx}{tm tm':List (Nat×D)}{vs0:List (Nat×List D)}{lv0:List (Nat×Nat×Nat×TypeId)}{N0 n':Nat}(h0:x.hp0=⟨vs0,lv0,N0⟩)(hN:N0≤n':=by omega)(hn:n'≤n2:=by omega)(hok:fW ⟨oy,lv,n'⟩:=by (repeat (first|assumption|refine fW.consM ?_ (by omega) (by (first|exact pM _|exact lineD_ids (by omega)|exact dicC_ids (by omega) (by omega)|assumption|exact rfl|(simp only[cF,cZ,ck];exact det_)))|exact fW.up (by assumption) (by omega))))
  (hv:∀j ds,oy.lookup j=some ds→uE.lookup j=some ds:=by (intro j ds h;(repeat (rcases eG h with⟨rfl,rfl⟩|⟨hj,h⟩;·(repeat (first|exact ak|assumption|refine ar (by first|assumption|exact nY (by assumption)|omega) ?_))));have hjN:=fW.lt (by assumption) h;(repeat (first|exact ak|assumption|refine ar (by first|assumption|exact nY (by assumption)|omega) ?_)))) (ht:pX n' tm tm':=by (repeat (first|exact pX.nil|refine pX.cons ?_ (by exact rfl) (by (first|exact rfl|assumption|exact det_|exact eS.2 (fun k hk=>iP (by simp only[nb,EW,or_false] at hk;omega))))))):Wk x tm ⟨uE,lv,n2⟩ tm' ⟨oy,lv,n'⟩:=wkS (by rw[h0];exact hN) hn hok hv ht
theorem rt1 {x:Cx}{tm:List (Nat×D)}{q:Nat}{d:D}(h0:x.hp0=⟨vs,lv,N⟩)(hok:fW ⟨oy,lv,N⟩:=by (repeat (first|assumption|refine fW.consM ?_ (by omega) (by (first|exact pM _|exact lineD_ids (by omega)|exact dicC_ids (by omega) (by omega)|assumption|exact rfl|(simp only[cF,cZ,ck];exact det_)))|exact fW.up (by assumption) (by omega))))(hN:N≤n2:=by omega)(hv:∀j ds,oy.lookup j=some ds→uE.lookup j=some ds:=by (intro j ds h;(repeat (rcases eG h with⟨rfl,rfl⟩|⟨hj,h⟩;·(repeat (first|exact ak|assumption|refine ar (by first|assumption|exact nY (by assumption)|omega) ?_))));have hjN:=fW.lt (by assumption) h;(repeat (first|exact ak|assumption|refine ar (by first|assumption|exact nY (by assumption)|omega) ?_))))(hq:tm.lookup q=some d:=by exact rfl)(hd:d.idsB N=true:=by (first|exact rfl|assumption|exact det_|exact eS.2 (fun k hk=>iP (by simp only[nb,EW,or_false] at hk;omega)))):
  ∃tm',Wk x tm ⟨uE,lv,n2⟩ tm' ⟨oy,lv,N⟩∧xI tbl [.tmp q] tm' ⟨oy,lv,N⟩ d:=
 ⟨[(q,d)],wkS (by rw[h0];exact bI N) hN hok hv (pX.nil.cons hq hd),⟨d,ak,rfl⟩⟩
end
section
variable {md:Md} {ops:Array Oper} {K:List (Nat×D)→Hp→Prop} {os:List Oper} {tm:List (Nat×D)} {hp hp':Hp} {t s:Tmp} {op:Op} {ty:TypeId} {pos:String} {af:Array Edge} {d:D} {j k o n i:Nat} {want c:Bool} {F F2:List D} {F':List D→List D} {a b:Nu} {x y:Operand}
theorem gn(hw:c= !want)(h2:bT prog tbl md ops K os ((t,.tu [])::tm) hp)(hj:(ops[j]?).bind (·.dst)=some s:=by exact rfl)(hc:tm.lookup s=some (.e (.lit (.bool c))):=by exact rfl):bT prog tbl md ops K (⟨some t,op,ty,pos,af,some (j,want)⟩::os) tm hp:=aJ hj hc hw h2
theorem l1(L:Pt F o (dC (bo.f a)) F')(h2:bT prog tbl md ops K os ((t,dG bo a)::tm) hp)(hx:evD tm x=.pt k o:=by exact rfl)(hv:hp.vars.lookup k=some F:=by (repeat (first|exact ak|assumption|refine ar (by first|assumption|exact nY (by assumption)|omega) ?_)))(hk:k<hp.next:=by (first|omega|(dsimp only;omega)))(hn:md.nc tbl (.load 34 x)=true:=by exact rfl):bT prog tbl md ops K (⟨some t,.load 34 x,ty,pos,af,none⟩::os) tm hp:=s1 (ldN L hv hk hx) h2 hn
theorem t1 {vs:List (Nat×List D)}{lv:List (Nat×Nat×Nat×TypeId)}{N:Nat}(L:Pt F o (dC (bo.f a)) F')(h3:F' (dC (bo.f b))=F2)(h2:bT prog tbl md ops K os tm ⟨(k,F2)::vs,lv,N⟩)(hx:evD tm x=.pt k o:=by exact rfl)(hv:vs.lookup k=some F:=by (repeat (first|exact ak|assumption|refine ar (by first|assumption|exact nY (by assumption)|omega) ?_)))(hy:evD tm y=dG bo b:=by exact rfl)(hn:md.nc tbl (.store 34 x y)=true:=by exact rfl):bT prog tbl md ops K (⟨none,.store 34 x y,ty,pos,af,none⟩::os) tm ⟨vs,lv,N⟩:=s0 (stN L hv h3 hx hy rfl) h2 hn
theorem l1g(L:Pt F o (dC (bo.f a)) F')(hw:c=want)(h2:bT prog tbl md ops K os ((t,dG bo a)::tm) hp)(hx:evD tm x=.pt k o:=by exact rfl)(hv:hp.vars.lookup k=some F:=by (repeat (first|exact ak|assumption|refine ar (by first|assumption|exact nY (by assumption)|omega) ?_)))(hk:k<hp.next:=by (first|omega|(dsimp only;omega)))(hj:(ops[j]?).bind (·.dst)=some s:=by exact rfl)(hc:tm.lookup s=some (.e (.lit (.bool c))):=by exact rfl)(hn:md.nc tbl (.load 34 x)=true:=by exact rfl):bT prog tbl md ops K (⟨some t,.load 34 x,ty,pos,af,some (j,want)⟩::os) tm hp:=g1 hw (ldN L hv hk hx) h2 hj hc hn
theorem cqg {f:FuncId}{la:List Operand}{ts:Array TypeId}{ds:List D}{r:D}(hc:aB prog f ds r)(hw:c=want)(h2:bT prog tbl md ops K os ((t,r)::tm) hp)(hj:(ops[j]?).bind (·.dst)=some s:=by exact rfl)(hg:tm.lookup s=some (.e (.lit (.bool c))):=by exact rfl)(hp1:((la.map (evD tm)).map D.ex).all D.pure=true:=by repeat (first|exact pn|refine pA (aM _ _) ?_|refine pA rfl ?_))(hl:leL ((la.map (evD tm)).map D.ex) ds:=by repeat (first|exact lAn|refine lC (dT _ _) ?_|refine lC (al _) ?_))(hr:r.pure=true∨∃ds,r=.tu ds:=by (first|exact .inl (eE _ _)|exact .inl rfl|exact .inr ⟨_,rfl⟩)):
  bT prog tbl md ops K (⟨some t,.call ⟨.value (.func f),la.toArray,ts⟩,ty,pos,af,some (j,want)⟩::os) tm hp:=sqg tok hj hg hw hc hp1 hl hr h2
theorem n1 {vs:List (Nat×List D)}{lv:List (Nat×Nat×Nat×TypeId)}{N:Nat}(h2:bT prog tbl md ops K os ((t,.pt N 0)::tm) ⟨(N,dC zN)::vs,lv,N+1⟩)(hn:md.nc tbl (.alloc 34)=true:=by exact rfl):bT prog tbl md ops K (⟨some t,.alloc 34,ty,pos,af,none⟩::os) tm ⟨vs,lv,N⟩:=s1 T_alN h2 hn
theorem z1 {vs:List (Nat×List D)}{lv:List (Nat×Nat×Nat×TypeId)}{N:Nat}(h2:bT prog tbl md ops K os tm ⟨(k,(dC (bo.f b)))::vs,lv,N⟩)(hx:evD tm x=.pt k 0:=by exact rfl)(hv:vs.lookup k=some (dC zN):=by (repeat (first|exact ak|assumption|refine ar (by first|assumption|exact nY (by assumption)|omega) ?_)))(hy:evD tm y=dG bo b:=by exact rfl)(hn:md.nc tbl (.store 34 x y)=true:=by exact rfl):bT prog tbl md ops K (⟨none,.store 34 x y,ty,pos,af,none⟩::os) tm ⟨vs,lv,N⟩:=s0 (stZ hv hx hy rfl) h2 hn
theorem c1 {tt:TypeId}{ti:TyE}(L:Pt F o [d] F')(h2:bT prog tbl md ops K os ((t,d)::tm) hp)(hx:evD tm x=.pt k o:=by exact rfl)(hv:hp.vars.lookup k=some F:=by (repeat (first|exact ak|assumption|refine ar (by first|assumption|exact nY (by assumption)|omega) ?_)))(hk:k<hp.next:=by (first|omega|(dsimp only;omega)))(ht:tbl tt=some ti:=by exact tbI)(hg:ti.ty.agg=false:=by exact rfl)(hn:md.nc tbl (.load tt x)=true:=by exact rfl):bT prog tbl md ops K (⟨some t,.load tt x,ty,pos,af,none⟩::os) tm hp:=s1 (T_ld1 L hv hk ht hg hx) h2 hn
theorem c1g {tt:TypeId}{ti:TyE}(L:Pt F o [d] F')(hw:c=want)(h2:bT prog tbl md ops K os ((t,d)::tm) hp)(hx:evD tm x=.pt k o:=by exact rfl)(hv:hp.vars.lookup k=some F:=by (repeat (first|exact ak|assumption|refine ar (by first|assumption|exact nY (by assumption)|omega) ?_)))(hk:k<hp.next:=by (first|omega|(dsimp only;omega)))(ht:tbl tt=some ti:=by exact tbI)(hg:ti.ty.agg=false:=by exact rfl)(hj:(ops[j]?).bind (·.dst)=some s:=by exact rfl)(hc:tm.lookup s=some (.e (.lit (.bool c))):=by exact rfl)(hn:md.nc tbl (.load tt x)=true:=by exact rfl):bT prog tbl md ops K (⟨some t,.load tt x,ty,pos,af,some (j,want)⟩::os) tm hp:=g1 hw (T_ld1 L hv hk ht hg hx) h2 hj hc hn
theorem p1 {tt:TypeId}{ti:TyE}{bs:List D}(L:Pt F o bs F')(hz:bs.length=ti.size)(h2:bT prog tbl md ops K os ((t,.ag bs)::tm) hp)(hx:evD tm x=.pt k o:=by exact rfl)(hv:hp.vars.lookup k=some F:=by (repeat (first|exact ak|assumption|refine ar (by first|assumption|exact nY (by assumption)|omega) ?_)))(hk:k<hp.next:=by (first|omega|(dsimp only;omega)))(ht:tbl tt=some ti:=by exact tbI)(hg:ti.ty.agg=true:=by exact rfl)(hn:md.nc tbl (.load tt x)=true:=by exact rfl):bT prog tbl md ops K (⟨some t,.load tt x,ty,pos,af,none⟩::os) tm hp:=s1 (T_ldP L hv hk ht hz hg hx) h2 hn
theorem v1 {vs:List (Nat×List D)}{lv:List (Nat×Nat×Nat×TypeId)}{N:Nat}{tt:TypeId}{ti:TyE}{bs ys:List D}(L:Pt F o bs F')(hz:bs.length=ti.size)(hl:ys.length=bs.length)(h3:F' ys=F2)(h2:bT prog tbl md ops K os tm ⟨(k,F2)::vs,lv,N⟩)(hx:evD tm x=.pt k o:=by exact rfl)(hv:vs.lookup k=some F:=by (repeat (first|exact ak|assumption|refine ar (by first|assumption|exact nY (by assumption)|omega) ?_)))(hyc:(evD tm y).cells=some ys:=by exact rfl)(ht:tbl tt=some ti:=by exact tbI)(hn:md.nc tbl (.store tt x y)=true:=by exact rfl):bT prog tbl md ops K (⟨none,.store tt x y,ty,pos,af,none⟩::os) tm ⟨vs,lv,N⟩:=s0 (Qk L hv hyc ht hz hl h3 hx rfl) h2 hn
theorem a1 {vs:List (Nat×List D)}{lv:List (Nat×Nat×Nat×TypeId)}{N:Nat}{tt:TypeId}{ti:TyE}{F:List E}(ht:tbl tt=some ti)(h2:bT prog tbl md ops K os ((t,.pt N 0)::tm) ⟨(N,dC F)::vs,lv,N+1⟩)(hz:ti.zero.map E.lit=F:=by kernel_rfl)(hn:md.nc tbl (.alloc tt)=true:=by exact rfl):bT prog tbl md ops K (⟨some t,.alloc tt,ty,pos,af,none⟩::os) tm ⟨vs,lv,N⟩:=s1 (bq ht hz) h2 hn
end
end
section
section
variable {vs:List (Nat×List D)} {lv:List (Nat×Nat×Nat×TypeId)} {N kd R G w:Nat} {C:Nat→Nat}
theorem Pt.all {F:List D}:Pt F 0 F id:=Pt.of [] [] rfl (by simp) fun y=>by simp
end
end
def Jv(p:Nu→Bool)(l:List Nu):Int:=match l.findIdx? p with
 |some i=>i
 |none=>-1
theorem Ow {p:Nu→Bool}{l:List Nu}{i:Nat}(hi:i<l.length)(h:p l[i]! =true)(JI:∀j,j<i→p l[j]! =false):Jv p l=i:=by
 have:l.findIdx? p=some i:=by
  rw[al_33]
  refine⟨hi,by rw[iR l i hi] at h;exact h,fun j hj=>?_⟩
  have:=JI j hj
  rw[iR l j (by omega)] at this
  simp[this]
 unfold Jv;rw[this]
theorem Ml {p:Nu→Bool}{l:List Nu}(JI:∀j,j<l.length→p l[j]! =false):Jv p l=-1:=by
 have:l.findIdx? p=none:=by
  rw[List.findIdx?_eq_none_iff]
  intro x hx
  obtain⟨j,hj,rfl⟩:=List.mem_iff_getElem.1 hx
  have:=JI j hj
  rwa[iR l j hj] at this
 unfold Jv;rw[this]
theorem Nn {f:FuncId}{p:Nu→Bool}(hf:∀x:Nu,aB prog f [dG bo x] (dB (p x))){l:List Nu}(hl:l.length≤1000000):aB prog 135 [.e (slE bo l),.e (.lit (.func (.func f) #[] #[]))] (dI .i64 (Jv p l)):=by
 refine bC (rs:=[.tmp 4]) (fun cx hx h0=>?_) func135
 refine ra hx ?_
 refine AW.seq (ra hx ?_)
 refine AW.block (AW.loopW (fun i:Nat=>[(0,.e (slE bo l)),(1,.e (.lit (.func (.func f) #[] #[]))),(7,dI .i64 (l.length:Nat)),(8,dI .i64 (i:Nat))]) (fun _=>⟨[],[],0⟩) (fun i=>i≤l.length∧∀j,j<i→p l[j]! =false) (fun i=>l.length - i) 0 ?_ ⟨fH _,fun j h=>absurd h (vk _)⟩ ?_)
 ·exact wk h0 [] (wR rfl (wR rfl (wR rfl (wR rfl wTn)))) wVn wLn
 ·rintro i ⟨hi,JI⟩
  refine ra hx ?_
  refine AW.seq (AW.condS rfl (fun hb=>?_) (fun hb=>?_))
  ·have Mw:i<l.length:=by have:=xz hb;omega
   refine AW.skip (AW.seq (AW.block (ra hx ?_)))
   refine rs hx fun K hK=>?_
   iterate 3 refine sa ?_
   have pg:0≤(i:Int)∧(i:Int)<((l.length:Nat):Int):=by omega
   refine s1 (ej pg aF ax) ?_
   refine s1 (d:=dG bo l[i]!) (jI (c:=bo) (l:=l) (n:=i) (o:=0) ax Mw (eM _ _ rfl)) ?_
   refine sc (hf _) ?_
   refine .nil (hK _ _ (AW.condS rfl (fun hb=>?_) (fun hb=>?_)))
   ·refine ra hx ?_
    refine AW.ret ?_
    rw[Ow Mw hb JI]
    exact rv1
   ·refine AW.skip (rq hx fun K hK=>?_)
    iterate 2 refine sa ?_
    refine .nil (hK _ _ ?_)
    rw[oF]
    refine⟨i+1,wk h0 [] (wR rfl (wR rfl (wR rfl (wR rfl wTn)))) wVn wLn,⟨Mw,fun j hj=>?_⟩,by omega⟩
    rcases cc j i with h1|h1
    ·exact JI j h1
    ·obtain rfl:j=i:=by omega
     exact hb
  ·refine AW.exit ?_
   have Mw:i=l.length:=by have:=Bh hb;omega
   refine ra hx ?_
   refine AW.ret ?_
   rw[Ml fun j hj=>JI j (by omega)]
   exact rv1
section
section
variable {vs:List (Nat×List D)} {lv:List (Nat×Nat×Nat×TypeId)} {N kd R G w m nn:Nat} {C:Nat→Nat}
theorem lit_Nu(l:List Nu):(l.flatMap bo.f).all E.isLit=true:=by
 rw[eS]
 intro x hx
 obtain⟨a,_,ha⟩:=List.mem_flatMap.1 hx
 have h2:∀y,y∈an.f a.1.vN∨y∈an.f a.1.vD→y.isLit=true:=by
  have h3:∀z:ay,∀y∈an.f z,y.isLit=true:=fun z y hy=>by
   rcases sJ.1 (show y∈[E.lit (.bool z.vBad),.lit (.bool z.vNeg)]++al_cV.f z.vW from hy) with h|h
   ·simp at h;rcases h with rfl|rfl <;> rfl
   ·obtain⟨n,_,hn⟩:=List.mem_flatMap.1 (show y∈z.vW.toList.flatMap (cI .u32).f from h)
    rw[List.mem_singleton.1 hn];rfl
  rintro y (h|h)
  ·exact h3 _ y h
  ·exact h3 _ y h
 exact h2 x (sJ.1 (show x∈an.f a.1.vN++an.f a.1.vD from ha))
end
end
section
theorem HC.weak {P:Program}{f:FuncId}{ds:List D}{hp:Hp}{d:D}{vars vars':List (Nat×List D)}{lv lv':List (Nat×Nat×Nat×TypeId)}{n n':Nat}(hc:HC P f ds hp d ⟨vars,lv,n⟩)(h0:hp.next≤n')
  (h:fW hp→fW ⟨vars',lv',n'⟩∧(∀j ds,vars'.lookup j=some ds→vars.lookup j=some ds)∧(∀j y,lv'.lookup j=some y→lv.lookup j=some y)∧d.idsB n'=true):HC P f ds hp d ⟨vars',lv',n'⟩:=by
 refine⟨hc.1,fun B g w vs hr hsz dK=>(hc.2 B g w vs hr hsz dK).mono ?_⟩
 obtain⟨hok,hv,hl,hd⟩:=h hr.ok
 rintro e w' ⟨v,g',rfl,qw,hM,hrd,hb,hF⟩
 have fX:∀id y,lv'.lookup id=some y→lv.lookup id=some y:=hl
 refine⟨v,g',rfl,⟨fun k ds hk=>?_,fun k k' a b hk uJ he=>qw.inj k k' a b (hv k a hk) (hv k' b uJ) he,fun id m e hi=>?_,fun id zU t t' b hi AG=>qw.tinj id zU t t' b (fX _ _ hi) (fX _ _ AG),qw.base,qw.fits⟩,
  ⟨hM.size,hM.cell,hM.forb,h0,hM.μ,fun id hid m e OY=>hM.live id hid m e (fX id _ OY),fun b hb hf=>⟨(hM.fr b hb hf).1,(hM.fr b hb hf).2.1,fun k ds hk=>(hM.fr b hb hf).2.2.1 k ds (hv k ds hk),fun id t hi=>(hM.fr b hb hf).2.2.2 id t (fX id _ hi)⟩,hM.szs⟩,HV hrd hd rfl fX,hb,hF⟩
 ·obtain⟨_,h3,h4,cs,ty,h5,h6,h7⟩:=qw.var k ds (hv k ds hk)
  obtain⟨h1,h2⟩:=hok.var k ds hk
  exact⟨h1,h3,h4,cs,ty,h5,h6,fun j u hu=>⟨(h7 j u hu).1,fun d hd=>i6 ((h7 j u hu).2 d hd) (eS.1 h2 d (cy hd)) rfl fX⟩⟩
 ·obtain⟨_,us,h2,h3,h4⟩:=qw.tok id m e (fX _ _ hi)
  exact⟨hok.tok id _ hi,us,h2,h3,fun b hb=>⟨(h4 b hb).1,fun k ds hk=>(h4 b hb).2 k ds (hv k ds hk)⟩⟩
theorem resV {q:Nat}{tt:TypeId}{ti:TyE}{k:Nat}{F:List D}{vs:List (Nat×List D)}{lv:List (Nat×Nat×Nat×TypeId)}{N:Nat}{tm:List (Nat×D)}{k2:D→Prop}(ht:tbl tt=some ti)(hl:tm.lookup q=some (.pt k 0))(hv:vs.lookup k=some F)(hk:k<N)(hz:F.length=ti.size)(hg:ti.ty.agg=true)(h:k2 (.ag F)):qA tbl tm ⟨vs,lv,N⟩ (.cell q tt) k2:=by
 refine⟨.pt k 0,hl,⟨_,ht⟩,?_⟩
 rw[oE,ht]
 simp only[hv,hg]
 refine⟨hk,by omega,?_⟩
 rw[nZ,kO (by omega)]
 exact h
theorem HC.forget {P:Program}{f:FuncId}{ds:List D}{d:D}{vs vars:List (Nat×List D)}{lv:List (Nat×Nat×Nat×TypeId)}{N n:Nat}(hc:HC P f ds ⟨vs,lv,N⟩ d ⟨vars,lv,n⟩)(hv:∀j ds,j<N→vs.lookup j=some ds→vars.lookup j=some ds)(hd:d.idsB N=true):HC P f ds ⟨vs,lv,N⟩ d ⟨vs,lv,N⟩:=
 hc.weak (bI N) fun hok=>⟨hok,fun j ds h=>hv j ds (hok.lt h) h,fun _ _ h=>h,hd⟩
section
variable {vs:List (Nat×List D)} {lv:List (Nat×Nat×Nat×TypeId)} {N w i ks s:Nat} {C:Nat→Nat}
theorem rtN1 {x:Cx}{tm:List (Nat×D)}{oy uE:List (Nat×List D)}{vs0:List (Nat×List D)}{lv0:List (Nat×Nat×Nat×TypeId)}{N0 M n2 q k:Nat}{a:Nu}(h0:x.hp0=⟨vs0,lv0,N0⟩)(hM:N0≤M)(hok:fW ⟨oy,lv,M⟩)(hN:M≤n2)(hv:∀j ds,oy.lookup j=some ds→uE.lookup j=some ds)(hk:oy.lookup k=some (dC (bo.f a)))(hq:tm.lookup q=some (.pt k 0)):
  ∃tm',Wk x tm ⟨uE,lv,n2⟩ tm' ⟨oy,lv,M⟩∧xI tbl [.cell q 34] tm' ⟨oy,lv,M⟩ (dG bo a):=
 ⟨[(q,.pt k 0)],wkS (by rw[h0];exact hM) hN hok hv (pX.nil.cons hq (iP (hok.lt hk))),resV ax ak hk (hok.lt hk) (rt a) rfl rfl⟩
end
end
section
section
variable {x:Cx} {tm tm':List (Nat×D)} {hp:Hp}
theorem Wk.perm {vars':List (Nat×List D)}{qM:List (Nat×Nat×Nat×TypeId)}{m:Nat}(σ:Nat→Nat)(h0:x.hp0.next≤m)(cg:∀i,i<x.hp0.next→σ i=i)(hinj:∀i j,i<m→j<m→σ i=σ j→i=j)
  (ht:∀p∈tm',tm.lookup p.1=some (p.2.ren σ)∧p.2.idsB m=true∧p.2.noOs=true)
  (hv:∀k ds,vars'.lookup k=some ds→k<m∧hp.vars.lookup (σ k)=some (ds.map (D.renC σ))∧ds.all (D.idsC m)=true∧ds.all D.noO=true)
  (hl:∀k y,qM.lookup k=some y→k<m∧hp.live.lookup (σ k)=some y):Wk x tm hp tm' ⟨vars',qM,m⟩:=by
 intro a w ⟨g,hr,iK,hsz,sS,hB,hF,hM⟩
 have fX:∀id y,(⟨vars',qM,m⟩:Hp).live.lookup id=some y→hp.live.lookup (σ id)=some y:=fun id y h=>(hl _ _ h).2
 refine⟨⟨fun i=>g.μ (σ i),fun i=>g.τ (σ i),g.F⟩,⟨fun k ds hk=>?_,fun k k' ds ds' hk uJ he=>?_,fun id n e hi=>?_,fun id zU t t' b hi AG hb qS=>?_,hr.base,hr.fits⟩,fun t d h=>?_,hsz,sS,hB,hF,
  ⟨hM.size,hM.cell,hM.forb,h0,fun k hk=>by show g.μ _=_;rw[cg k hk];exact hM.μ k hk,fun id hid n e OY=>?_,fun b hb hf=>⟨(hM.fr b hb hf).1,(hM.fr b hb hf).2.1,fun k ds hk=>(hM.fr b hb hf).2.2.1 _ _ (hv _ _ hk).2.1,fun id t hi=>(hM.fr b hb hf).2.2.2 _ t (fX id _ hi)⟩,hM.szs⟩⟩
 ·obtain⟨h1,h2,h3,h4⟩:=hv _ _ hk
  obtain⟨_,h5,h6,cs,ty,h7,h8,h9⟩:=hr.var _ _ h2
  refine⟨h1,h5,h6,cs,ty,h7,by simpa using h8,fun j u hu=>⟨fun h=>(h9 j u hu).1 (by simpa using h),fun d hd=>?_⟩⟩
  exact jT ((h9 j u hu).2 (d.renC _) (by rw[dZ,hd];rfl)) (eS.1 h3 d (cy hd)) (eS.1 h4 d (cy hd)) rfl (fun _=>rfl) (fun _=>rfl) rfl fX
 ·obtain⟨h1,h2,_⟩:=hv _ _ hk
  obtain⟨tC,tX,_⟩:=hv _ _ uJ
  exact hinj _ _ h1 tC (hr.inj _ _ _ _ h2 tX he)
 ·obtain⟨h1,h2⟩:=hl _ _ hi
  obtain⟨_,us,h3,h4,h5⟩:=hr.tok _ n e h2
  exact⟨h1,us,h3,h4,fun b hb=>⟨(h5 b hb).1,fun k ds hk=>(h5 b hb).2 _ _ (hv _ _ hk).2.1⟩⟩
 ·obtain⟨h1,h2⟩:=hl _ _ hi
  obtain⟨tC,tX⟩:=hl _ _ AG
  exact hinj _ _ h1 tC (hr.tinj _ _ _ _ b h2 tX hb qS)
 ·obtain⟨h1,h2,h3⟩:=ht _ (cU h)
  exact Fm (iK t _ h1) h2 h3 rfl (fun _=>rfl) (fun _=>rfl) rfl fX
 ·obtain⟨m0,h1,h2,h3⟩:=hM.live id hid n e (by rw[←cg id hid];exact fX id _ OY)
  exact⟨m0,h1,h2,fun h=>by show g.τ _=_;rw[cg id hid];exact h3 h⟩
theorem NE {σ:Nat→Nat}{n:Nat}(hσ:∀i,i<n→σ i=i){d:D}(hd:d.idsC n=true)(hn:d.noO=true):d.renC σ=d:=by
 cases d with
 |own id z n xs=>simp only[D.idsC,oX] at hd;simp only[D.renC,hσ id hd]
 |pt k o=>simp only[D.idsC,oX] at hd;simp only[D.renC,hσ k hd]
 |ow k o z n=>simp only[D.idsC,oX] at hd;simp only[D.renC,hσ k hd]
 |gw k z n=>simp only[D.idsC,oX] at hd;simp only[D.renC,hσ k hd]
 |fn f ks=>
  simp only[D.idsC,eS,oX] at hd
  simp only[D.renC]
  congr 1
  exact (oY fun k hk=>hσ k (hd k hk)).trans (CM _)
 |opt b d=>cases hn
 |_=>rfl
theorem K7 {σ:Nat→Nat}{n:Nat}(hσ:∀i,i<n→σ i=i){ds:List D}(hd:ds.all (D.idsC n)=true)(hn:ds.all D.noO=true):ds.map (D.renC σ)=ds:=
 (oY fun d h=>NE hσ (eS.1 hd d h) (eS.1 hn d h)).trans (CM _)
end
def TmR(σ:Nat→Nat)(m:Nat)(tm tm':List (Nat×D)):Prop:=∀p∈tm',tm.lookup p.1=some (p.2.ren σ)∧p.2.idsB m=true∧p.2.noOs=true
theorem TmR.nil {σ:Nat→Nat}{m:Nat}{tm:List (Nat×D)}:TmR σ m tm []:=fun p hp=>absurd hp (EW)
theorem TmR.cons {σ:Nat→Nat}{m t:Nat}{d:D}{tm tm':List (Nat×D)}(h2:TmR σ m tm tm')(h:tm.lookup t=some (d.ren σ))(hi:d.idsB m=true)(hn:d.noOs=true:=by exact rfl):TmR σ m tm ((t,d)::tm'):=fun p hp=>by
 rcases nb.1 hp with rfl|hp
 ·exact⟨h,hi,hn⟩
 ·exact h2 p hp
end
section
theorem AR.tu {hp:Hp}{ds es:List D}(h:ARs hp ds es):AR hp (.tu ds) (.tu es):=by
 intro B g w v hr hd
 obtain⟨h1,h2⟩:=h.get
 cases hd with
 |tu _ cs hl zd=>
  refine aR.tu es cs (by omega) fun j e u hj hu=>?_
  obtain⟨d,h3,h4⟩:=h2 j e hj
  exact h4 B g w u hr (zd j d u h3 hu)
def mkNu(x:aj)(h:okR x):Nu:=⟨x,h⟩
open Classical in
def uF(x:aj):Nu:=if h:okR x then mkNu x h else default
theorem Br {x:aj}(h:okR x):nv (uF x)=x:=by unfold uF;rw[dif_pos h];rfl
theorem nuOf_nv(x:Nu):uF (nv x)=x:=by unfold uF;rw[dif_pos (show okR (nv x) from x.2)];rfl
def okL(l:List aj):Prop:=∀x∈l,okR x
theorem HK {l:List aj}(h:okL l):(l.map uF).map nv=l:=by
 rw[qza3]
 exact (oY fun x hx=>Br (h x hx)).trans (CM _)
theorem okL_nv(l:List Nu):okL (l.map nv):=fun x hx=>by
 obtain⟨a,_,rfl⟩:=sn.1 hx
 exact a.2
theorem map_nv(l:List Nu):(l.map nv).map uF=l:=by
 rw[qza3]
 exact (oY fun x _=>nuOf_nv x).trans (CM _)
theorem AR.dn {hp:Hp}{e:E}(h:(D.e e).pure=true):AR hp (.e e) (.e e):=AR.data (d:=.e e) h
end
theorem pm:El prog 22 34 (.agg #[.bool false,.bool false,ai,ai,ai,ai,ai,ai,ai,ai,ai,ai,ai,ai,ai,ai,ai,ai,.bool false,.bool false,ai,ai,ai,ai,ai,ai,ai,ai,ai,ai,ai,ai,ai,ai,ai,ai]) 36 136:=⟨underlying22,info_parts (by kernel_rfl),rfl,by decide⟩
theorem ph(n:Nat)(us:List Value)(v:Value)(w:World)(hl:Sl w v 36 n us)(h1:∀u∈us,u.oneCell'=true)(hn:n≤1000000):
  Calls prog 97 #[v] w fun e w'=>∃q,e=.returned q∧w'.ownsRow w.heap.size 34 36 q n us∧Below w.heap.size w w':=by
 obtain⟨A,c,rfl,pf,oh,hr⟩:=id hl
 cases A with
 |none=>
  obtain rfl:n=0:=by
   rcases kN n with h|h
   ·exact h
   ·obtain⟨_,h,_⟩:=hr.2 h;cases h
  obtain rfl:us=[]:=kL (by simpa using hr.1)
  have he:(binOp .eql 22 (.slice none 0 c) (.slice none 0 0)).run prog w=.ok (.bool true) w:=by kernel_rfl
  go_enter func97,ntmps97
  go_wp2_with fail
  go_ret
  exact⟨_,rfl,⟨rfl,.inl ⟨rfl,rfl⟩⟩,Below.refl _ _⟩
 |some ad=>
  have he:(binOp .eql 22 (.slice (some ad) n c) (.slice none 0 0)).run prog w=.ok (.bool false) w:=by kernel_rfl
  go_enter func97,ntmps97
  have hown0:=own_mtG w 34 w.heap.size 36 (bI _)
  have Id:=(Below.refl w.heap.size w).alloc (bI _) (.cells #[] 34)
  have A7:=hl.below Id
  have HL:=Lib.hid A7
  have H1:=Lib.hid h1
  clear hl hr A7 h1
  go_wp2_with (at_builtin;refine xT _ rfl _ _ _ rfl pm w.heap.size _ _ _ rfl hown0 _ _ _ rfl HL.out H1.out (by omega) (by omega) (by simp) w w.heap.size Id (bI _) ?_)
  intro v' w' kE hb
  go_wp2_with fail
  go_ret
  refine⟨_,rfl,?_,hb⟩
  simpa using kE
theorem eo(n:Nat)(xs:List E)(hn:n≤1000000):aB prog 97 [.e (.sl 36 n xs)] (.own 34 36 n xs):=
 PT (by decide) ⟨_,func97,rfl,rfl⟩ (fun us v w h1 h2=>ph n us v w h1 h2 hn)
def gj(l:List aj):Option (List aj):=gd (l.length≤1000000) (some l)
theorem pD {l r:List aj}(h:gj l=some r):aB prog 97 [dL ae l] (.own 34 ae.sz r.length (r.flatMap ae.f)):=by
 obtain⟨hn,h⟩:=az h
 obtain rfl:=cP h
 exact eo _ _ hn
section
def FWd(ro:Option Nat):Fence:={Fence.wide with round:=ro}
section
variable {P:Program} {ro:Option Nat} {n:Nat}
theorem AM {f:FuncId}{args:Array Value}{w:World}{R:Ending→World→Prop}(h:Calls P f args w R):CallsIn (FWd ro) n P f args w R:=(callsIn_wide (n:=n)).2 h
theorem Jf {row:String}{args:Array Value}{w:World}{R:Value→World→Prop}(h:Rows P row args w R):RowsIn (FWd ro) n P row args w R:=fun c cs _=>by
 obtain⟨v,w',hr,hs⟩:=h c cs
 exact⟨v,w',hr,stepsIn_wide.2 hs⟩
theorem upon_in {o:Oper}{a:Act}{K:Act→World→Prop}{Q:Exit→Act→World→Prop}{r:Result Next}(h:o.upon P a K Q r):o.uponIn (FWd ro) n P a K Q r:=by
 cases r with
 |ok nx w'=>
  cases nx with
  |enter f args=>
   rw[Oper.upon_enter] at h
   rw[Oper.uponIn_enter]
   refine⟨fun hd=>(by cases hd),(AM h).mono ?_⟩
   intro e w'' hh
   cases e <;> exact hh
  |row r args=>
   rw[Oper.uponIn_row]
   exact⟨fun hd=>(by cases hd),Jf h⟩
  |value v=>exact h
  |skip=>exact h
  |«defer» d=>exact h
  |_=>exact h.elim
 |halt hx w'=>
  cases hx with
  |panic v=>exact h
  |_=>exact h.elim
def tN(ops:Array Oper):Bool:=ops.all fun o=>match o.op with
 | .defer _=>false
 |_=>true
theorem yn {ops:Array Oper}(h:tN ops=true){i:Nat}{o:Oper}(hi:ops[i]? =some o):∀c,o.op≠.defer c:=by
 unfold tN at h
 rw[Ko] at h
 have:=h o (Array.mem_of_getElem? hi)
 intro c hc
 rw[hc] at this
 cases this
theorem op_in {o:Oper}{a:Act}{w:World}{K:Act→World→Prop}{Q:Exit→Act→World→Prop}(hd:∀c,o.op≠.defer c)(h:o.wp P a w K Q):o.wpIn (FWd ro) n P a w K Q:=by
 refine⟨fun _ _=>trivial,?_⟩
 rw[Oper.semAt_eq _ _ _ hd]
 exact upon_in h
end
section
variable {P:Program} {tb:TypeId→Option TyE} {x:Cx} {tm tm':List (Nat×D)} {hp hp':Hp} {a:Act} {w w':World} {ro:Option Nat} {n:Nat}
theorem BC {ops:Array Oper}{K:List (Nat×D)→Hp→Prop}{Q:Exit→Act→World→Prop}(hN:ku x.N ops=true)(xR:tN ops=true)(tl:List Nat)(r2:List Oper)
  (hk:∀tm hp a w,K tm hp→RS x tm hp a w→wpOpsIn (FWd ro) n P ops Q tl a w)
  (rest:List Oper) (i:Nat) (tm:List (Nat×D)) (hp:Hp) (a:Act) (w:World) (hd:ops.toList.drop i=rest++r2) (h:bT P tb .seq ops K rest tm hp) (hr:RS x tm hp a w):wpOpsIn (FWd ro) n P ops Q (List.range' i rest.length++tl) a w:=by
 have step:∀{o:Oper} {os:List Oper} {i:Nat},ops.toList.drop i=o::os→ops[i]? =some o∧ops.toList.drop (i+1)=os:=by
  intro o os i hd
  refine⟨?_,by rw[←mM,hd];rfl⟩
  have:(ops.toList.drop i)[0]? =some o:=by rw[hd];rfl
  rw[mN] at this
  simpa using this
 induction h generalizing i a w with
 |nil h=>exact hk _ _ _ _ h hr
 |on d hp' hg h2 h1 ih=>
  obtain⟨ho,DD⟩:=step hd
  have yw:=fun t ht=>lj hN ho (t:=t) ht
  simp only[nk,yF,IB]
  unfold wpOpsIn
  rw[ho]
  dsimp only
  obtain⟨g,_,iK,_⟩:=id hr
  rw[hg.wanted iK,aQ rfl]
  exact op_in (yn xR ho) (hr.op h2.ok yw fun a' w' qw=>ih (i+1) a' w' DD qw)
 |off d hg hs h1 ih=>
  obtain⟨ho,DD⟩:=step hd
  have yw:=fun t ht=>lj hN ho (t:=t) ht
  simp only[nk,yF,IB]
  unfold wpOpsIn
  rw[ho]
  dsimp only
  obtain⟨g,_,iK,_⟩:=id hr
  rw[hg.wanted iK,aV (by simp)]
  exact⟨fun _ _=>trivial,ih (i+1) _ _ DD (hr.skip hs yw)⟩
 |sq _ d hp' hg h2 h1 ih=>
  obtain⟨ho,DD⟩:=step hd
  have yw:=fun t ht=>lj hN ho (t:=t) ht
  simp only[nk,yF,IB]
  unfold wpOpsIn
  rw[ho]
  dsimp only
  obtain⟨g,_,iK,_⟩:=id hr
  rw[hg.wanted iK,aQ rfl]
  exact op_in (yn xR ho) (hr.op h2 yw fun a' w' qw=>ih (i+1) a' w' DD qw)
 |wk _ hw h ih=>exact ih i a w hd (hw.rs hr)
def AV(P:Program)(ro:Option Nat)(x:Cx)(c:Code)(tm:List (Nat×D))(hp:Hp)(Q:Exit→Act→World→Prop):Prop:=∀a w,RS x tm hp a w→c.wpIn (FWd ro) 0 P Q a w
variable {Q:Exit→Act→World→Prop}
theorem AV.mono {c:Code}{Q':Exit→Act→World→Prop}(h:AV P ro x c tm hp Q)(hq:∀ex a w,Q ex a w→Q' ex a w):AV P ro x c tm hp Q':=fun a w hr=>wpIn_mono (h a w hr) hq
theorem BD {c:Code}:c.wpIn (FWd none) n P Q a w↔c.wp P Q a w:=wpIn_wide (n:=n)
theorem AV.aw {c:Code}{Q':Exit→List (Nat×D)→Hp→Prop}(h:AW P x c tm hp Q')(hq:∀ex tm' hp' a w,Q' ex tm' hp'→RS x tm' hp' a w→Q ex a w):AV P none x c tm hp Q:=
 fun a w hr=>BD.2 (wp_mono (h a w hr) fun ex a' w' ⟨tm',hp',h1,h2⟩=>hq ex tm' hp' a' w' h2 h1)
theorem AV.seq {c c':Code}(h:AV P ro x c tm hp (Exit.then (fun a w=>c'.wpIn (FWd ro) 0 P Q a w) Q)):AV P ro x (.seq c c') tm hp Q:=fun a w hr=>wpIn_seq (h a w hr)
theorem AV.seqA {c c':Code}(h:AW P x c tm hp fun ex tm' hp'=>match ex with| .normal=>AV P none x c' tm' hp' Q|ex=>∀a w,RS x tm' hp' a w→Q ex a w):AV P none x (.seq c c') tm hp Q:=by
 refine AV.seq (AV.aw h ?_)
 intro ex tm' hp' a w h1 hr
 cases ex with
 |normal=>exact h1 a w hr
 |_=>exact h1 a w hr
theorem AV.block {id:Nat}{c:Code}(h:AV P ro x c tm hp (Exit.inBlock id Q)):AV P ro x (.block id c) tm hp Q:=fun a w hr=>wpIn_block (h a w hr)
theorem AV.ret(h:∀a w,RS x tm hp a w→Q .ret a w):AV P ro x .ret tm hp Q:=fun a w hr=>wpIn_ret (h a w hr)
theorem AV.skip(h:∀a w,RS x tm hp a w→Q .normal a w):AV P ro x .skip tm hp Q:=fun a w hr=>wpIn_skip (h a w hr)
theorem AV.weak {c:Code}(hw:Wk x tm hp tm' hp')(h:AV P ro x c tm' hp' Q):AV P ro x c tm hp Q:=fun a w hr=>h a w (hw a w hr)
theorem AV.cond {c:Operand}{c1 c2:Code}{b:Bool}(hc:evD tm c=.e (.lit (.bool b)))(ht:b=true→AV P ro x c1 tm hp Q)(hf:b=false→AV P ro x c2 tm hp Q):AV P ro x (.cond c c1 c2) tm hp Q:=by
 intro a w hr
 obtain⟨g,_,iK,_⟩:=id hr
 have hv:=yz iK c
 rw[hc] at hv
 refine wpIn_cond (t:=b) hv.lit ?_
 cases b
 ·exact hf rfl a w hr
 ·exact ht rfl a w hr
theorem AV.region {id:Nat}{ops:Array Oper}(hN:ku x.N ops=true)(xR:tN ops=true)(h:∀K:List (Nat×D)→Hp→Prop,(∀tm hp,(∀a w,RS x tm hp a w→Q .normal a w)→K tm hp)→bT P tb .seq ops K ops.toList tm hp):AV P ro x (.region id ops false) tm hp Q:=by
 intro a w hr
 refine wpIn_region ?_
 have:=BC (ro:=ro) (n:=0) (Q:=Q) hN xR [] [] (fun tm hp a w hk hr=>by unfold wpOpsIn;exact hk a w hr) ops.toList 0 tm hp a w (by simp) (h _ fun _ _ h=>h) hr
 rwa[vo,eW,←EV] at this
theorem AV.loop {c:Code}(I:Nat→List (Nat×D)→Hp→Prop){n:Nat}{tm0:List (Nat×D)}{hp0:Hp}(hw:Wk x tm hp tm0 hp0)(h0:I n tm0 hp0)
  (round:∀n tm hp,I n tm hp→AV P none x c tm hp (Exit.then (fun a w=>∃m L4 cf,m<n∧RS x L4 cf a w∧I m L4 cf) Q)):AV P none x (.loop c) tm hp Q:=by
 intro a w hr
 refine BD.2 (wA (fun n a w=>∃tm hp,RS x tm hp a w∧I n tm hp) (n:=n) ⟨tm0,hp0,hw a w hr,h0⟩ (fun n a w ⟨tm,hp,hr,hI⟩=>wp_mono (BD.1 (round n tm hp hI a w hr)) ?_))
 intro ex a' w' h1
 cases ex with
 |normal=>
  obtain⟨m,L4,cf,h2,h3,h4⟩:=h1
  exact⟨m,h2,L4,cf,h3,h4⟩
 |_=>exact h1
theorem Hx {tc:Option Tmp}{ty ta:Tmp}{ts:Array TypeId}{tyid:TypeId}{pos:String}{af:Array Edge}{l:Nat}{gd:Option (Nat×Bool)}(hy:a.eval (.tmp ty)=.func (.yield l) #[] #[]){fn:FuncId}{tmps:Array Value}{assign body:Code}(hr:(Instr.yield l #[a.eval (.tmp ta)]).run P w=.ok (.round l fn tmps assign body) w):
  (execOp a.eval ⟨tc,.call ⟨.value (.tmp ty),#[.tmp ta],ts⟩,tyid,pos,af,gd⟩).run P w=.ok (.round l fn tmps assign body) w:=by
 have B6:a.tmps[ty]?.getD undef=.func (.yield l) #[] #[]:=by simpa[Act.eval,dy] using hy
 have JF:(Instr.yield l #[a.tmps[ta]?.getD undef]).run P w=.ok (.round l fn tmps assign body) w:=by simpa[Act.eval,dy] using hr
 simp[execOp,resolve,invoke,B6,JF,go_sem]
end
end
section
section
variable {B:Nat} {hp hp' hp1 cf:Hp} {g g' g1 g2:Gh} {w w' w1 w2:World} {l:Nat} {o o':Obj}
theorem tp(hl:w.heap[l]? =some o)(ho:o.isCells=false)(tB:o'.isCells=false)(p:Addr):(w.putObj l o').cell? p=w.cell? p:=by
 by_cases hp:p.block=l
 ·unfold World.cell?
  rw[hp,hl,World.putObj_heap_same (eI.1 hl).1]
  cases o <;> cases o' <;> first|rfl|(cases tB;done)|(cases ho;done)
 ·exact World.cell?_of_block (World.putObj_heap_other hp)
theorem s6(hl:w.heap[l]? =some o)(ho:o.isCells=false){b:Nat}{cs:Array Value}{ty:TypeId}{r:Nat×Nat}(hb:w.heap[b]? =some (.cells cs ty r)):b≠l:=by
 rintro rfl
 rw[hl] at hb
 injection hb with hb
 subst hb
 cases ho
theorem dE.putO {F:Addr→Prop}{x:E}{v:Value}(h:dE w F x v)(hl:w.heap[l]? =some o)(ho:o.isCells=false)(tB:o'.isCells=false):dE (w.putObj l o') F x v:=
 h.mono (by simp) (fun p _ _=>tp hl ho tB p) fun _ _ h=>h
theorem aR.putO {d:D}{v:Value}(h:aR hp g w d v)(hl:w.heap[l]? =some o)(ho:o.isCells=false)(tB:o'.isCells=false):aR hp g (w.putObj l o') d v:=by
 induction h with
 |e x v h=>exact .e x v (h.putO hl ho tB)
 |own id z n xs v h hid ht=>exact .own id z n xs v (h.putO hl ho tB) hid ht
 |fu z n xs A h=>exact .fu z n xs A (h.putO hl ho tB)
 |ag ds cs hl h1 _ ih=>exact .ag ds cs hl h1 ih
 |tu ds cs hl _ ih=>exact .tu ds cs hl ih
 |fp xs off ad hb hc=>
  refine .fp xs off ad (by simpa using hb) (fun j x hx=>?_)
  obtain⟨u,h1,h2,h3⟩:=hc j x hx
  exact⟨u,(tp hl ho tB _).trans h1,h2,h3.putO hl ho tB⟩
 |pt k off hk=>exact .pt k off hk
 |ow k off z n c hk h1 h2=>exact .ow k off z n c hk h1 h2
 |gw k z n c hk h1 h2 hs=>
  obtain⟨cs,ty,r,h3,h4⟩:=hs
  exact .gw k z n c hk h1 h2 ⟨cs,ty,r,(World.putObj_heap_other (s6 hl ho h3)).trans h3,h4⟩
 |fn f ks hk=>exact .fn f ks hk
 |opt b d v hi _ ih=>exact .opt b d v hi ih
 |top v=>exact .top v
theorem HR.putO(h:HR B hp g w)(hl:w.heap[l]? =some o)(ho:o.isCells=false)(tB:o'.isCells=false):HR B hp g (w.putObj l o'):=by
 refine⟨fun k ds hk=>?_,h.inj,fun id n e hi=>?_,h.tinj,by simpa using h.base,fun p hf=>by simpa using h.fits p hf⟩
 ·obtain⟨h1,h2,h3,cs,ty,h4,h5,h6⟩:=h.var k ds hk
  exact⟨h1,h2,h3,cs,ty,(World.putObj_heap_other (s6 hl ho h4)).trans h4,h5,fun j u hu=>⟨(h6 j u hu).1,fun d hd=>((h6 j u hu).2 d hd).putO hl ho tB⟩⟩
 ·obtain⟨h1,us,hz,h2,h3⟩:=h.tok id n e hi
  refine⟨h1,us,hz,⟨h2.1,?_⟩,h3⟩
  rcases h2.2 with h0|⟨b,cap,cur,hv,hB,hh,r⟩
  ·exact .inl h0
  ·exact .inr ⟨b,cap,cur,hv,hB,(World.putObj_heap_other (s6 hl ho hh)).trans hh,r⟩
theorem HR.free(h:HR B hp g w)(hl:w.heap[l]? =some o)(ho:o.isCells=false):IR hp g l:=by
 refine⟨fun k ds hk=>?_,fun id t hi he=>?_⟩
 ·obtain⟨_,_,_,cs,ty,h4,_⟩:=h.var k ds hk
  exact s6 hl ho h4
 ·obtain⟨h1,us,hz,h2,h3⟩:=h.tok id t.1 t.2 hi
  rcases h2.2 with⟨h0,_⟩|⟨b,cap,cur,hv,hB,hh,r⟩
  ·rw[h0] at he;cases he
  ·rw[hv] at he
   have:b=l:=by injection he
   exact s6 hl ho hh this
theorem bX.patch {o1:Obj}(m:bX hp1 g1 (w1.putObj l o1) cf g2 w2)(hl:w1.heap[l]? =some o)(ho:o.isCells=false)(ho1:o1.isCells=false)(hf:IR hp1 g1 l):bX hp1 g1 w1 cf g2 (w2.putObj l o):=by
 have cg:l<w1.heap.size:=(eI.1 hl).1
 have hs1:(w1.putObj l o1).heap.size=w1.heap.size:=by simp
 obtain⟨h2,h3,h4⟩:=m.fr l (by rw[hs1];exact cg) hf
 have h2:w2.heap[l]? =some o1:=h2.trans (World.putObj_heap_same cg)
 have hlt2:l<w2.heap.size:=(eI.1 h2).1
 refine⟨by have:=m.size;rw[hs1] at this;simpa using this,fun p hp hF=>?_,fun p hp hF=>m.forb p (by rw[hs1];exact hp) hF,m.next,m.μ,m.live,fun b hb hfb=>?_,fun b cs ty r hc=>?_⟩
 ·rw[tp h2 ho1 ho,m.cell p (by rw[hs1];exact hp) hF,tp hl ho ho1]
 ·obtain⟨h5,h6,h7⟩:=m.fr b (by rw[hs1];exact hb) hfb
  refine⟨?_,h6,h7⟩
  by_cases e:b=l
  ·subst e;rw[World.putObj_heap_same hlt2,hl]
  ·rw[World.putObj_heap_other e,h5,World.putObj_heap_other e]
 ·have e:b≠l:=s6 hl ho hc
  obtain⟨t4,h5,h6⟩:=m.szs b cs ty r ((World.putObj_heap_other e).trans hc)
  exact⟨t4,(World.putObj_heap_other e).trans h5,h6⟩
theorem bX.putNew(m:bX hp g w hp' g' w')(hn:w.heap.size≤l)(hl:w'.heap[l]? =some o)(ho:o.isCells=false)(tB:o'.isCells=false):bX hp g w hp' g' (w'.putObj l o'):=by
 refine⟨by simpa using m.size,fun p hp hF=>by rw[tp hl ho tB];exact m.cell p hp hF,m.forb,m.next,m.μ,m.live,fun b hb hfb=>?_,fun b cs ty r hc=>?_⟩
 ·obtain⟨h5,h6,h7⟩:=m.fr b hb hfb
  exact⟨(World.putObj_heap_other (by omega)).trans h5,h6,h7⟩
 ·obtain⟨t4,h5,h6⟩:=m.szs b cs ty r hc
  have:b<w.heap.size:=(eI.1 hc).1
  exact⟨t4,(World.putObj_heap_other (by omega)).trans h5,h6⟩
theorem t8 {w0:World}(h:Below B w0 w)(hl:B≤l):Below B w0 (w.putObj l o'):=
 ⟨h.os,h.tape,h.output,by simpa using h.size,fun k hk=>(World.putObj_heap_other (by omega)).trans (h.block k hk)⟩
end
structure xN(B:Nat)(hp:Hp)(g:Gh)(w:World)(hp':Hp)(g':Gh)(w':World):Prop where
 hr:HR B hp' g' w'
 mo:bX hp g w hp' g' w'
 bl:Below B w w'
 fo:∀p:Addr,p.block<B→g.F p→g'.F p
theorem xN.trans {B:Nat}{hp hp' cf:Hp}{g g' g2:Gh}{w w' w2:World}(h:xN B hp g w hp' g' w')(h':xN B hp' g' w' cf g2 w2):xN B hp g w cf g2 w2:=
 ⟨h'.hr,h.mo.trans h'.mo,h.bl.trans h'.bl,fun p hp hq=>h'.fo p hp (h.fo p hp hq)⟩
def EQ(r:Loop):Loop:={r with state:=.busy}
def ru(r:Loop):Loop:={r with state:=.done,pending:=some .ret}
def YOk(P:Program)(B l:Nat)(rec:Loop)(hpE:Hp)(gE:Gh)(wE:World)(hp:Hp)(d:D)(Y S:Hp→Prop):Prop:=
 ∀g W v,xN B hpE gE wE hp g W→aR hp g W d v→YieldAt Fence.wide 0 P l #[v] W fun e w'=>
  (e=.returned (.bool true)∧∃hp' g',xN B hp g W hp' g' w'∧Y hp')∨
  (e=.returned (.bool false)∧∃hp' g' W',w'=W'.putObj l (.loop (ru rec))∧W'.heap[l]? =some (.loop rec)∧xN B hp g W hp' g' W'∧S hp')
section
variable {P:Program} {tb:TypeId→Option TyE} {B l:Nat} {rec:Loop} {hpE hp:Hp} {gE:Gh} {wE:World} {d:D} {tm0:List (Nat×D)} {Y S:Hp→Prop}
theorem YOk.of {p:Tmp}(hlE:wE.heap[l]? =some (.loop rec))(hrE:HR B hpE gE wE)(D0:rec.state=.ready)(hpe:rec.pending=none)(hpar:rec.params=#[p])(hB:B≤l)(hp0:p<rec.tmps.size)
  (iK:∀t d,tm0.lookup t=some d→aR hpE gE wE d (rec.tmps.getD t undef))
  (has:∀x:Cx,x.N=rec.tmps.size→x.df=[]→x.hp0=hp→AV P (some l) x rec.assign ((p,d)::tm0) hp fun ex a w=>ex=.normal∧∃Es hp1,RS x Es hp1 a w∧
   ∀x:Cx,x.N=rec.tmps.size→x.df=[]→x.hp0=hp1→AV P (some l) x rec.body Es hp1 fun ex a w=>∃tm hp',RS x tm hp' a w∧match ex with| .normal=>Y hp'| .ret=>S hp'|_=>False):
  YOk P B l rec hpE gE wE hp d Y S:=by
 intro g W v hc hv
 have hfE:=hrE.free hlE rfl
 obtain⟨hl0,_,hf0⟩:=hc.mo.fr l (eI.1 hlE).1 hfE
 have hl:W.heap[l]? =some (.loop rec):=hl0.trans hlE
 refine⟨_,_,_,_,run_yield hl (by rw[hpar];rfl),roundIn_of_wpIn trivial ?_⟩
 rw[hpar]
 have B9:RS ⟨B,W,g.F,rec.tmps.size,hp,g,[]⟩ ((p,d)::tm0) hp {tmps:=((#[p]:Array Tmp).zip #[v]).foldl (fun tmps (t,a)=>tmps.setIfInBounds t a) rec.tmps,defers:=[]} W:=by
  refine⟨g,hc.hr,fun t d' ht=>?_,by simp,rfl,Below.refl _ _,fun _ _ h=>h,bX.refl _ _ _⟩
  have hz:(#[p]:Array Tmp).zip #[v]=#[(p,v)]:=by apply Array.ext';simp
  rw[hz]
  simp only[List.foldl_toArray',List.foldl_cons,List.foldl_nil,np,nk,List.length_nil,dA]
  by_cases e:t=p
  ·subst e
   have:some d=some d':=by rw[←ht];exact ak.symm
   injection this with this
   subst this
   simpa[dy,hp0] using hv
  ·have h0:=iK t d' (by rw[←ht];exact (aC e).symm)
   have:=h0.mono hc.mo
   simpa[dy,CR (fun h:p=t=>e h.symm)] using this
 refine wpIn_mono (has ⟨B,W,g.F,rec.tmps.size,hp,g,[]⟩ rfl rfl rfl _ _ B9) ?_
 rintro ex a1 w1 ⟨rfl,Es,hp1,⟨g1,OF,htm1,hsz1,hdf1,hB1,G1,hM1⟩,hbo⟩
 obtain⟨hl1',_,Li⟩:=hM1.fr l (eI.1 hl).1 hf0
 have EI:w1.heap[l]? =some (.loop rec):=hl1'.trans hl
 have hlt1:=(eI.1 EI).1
 refine⟨_,run_beginRound EI D0,?_⟩
 have hmid:RS ⟨B,w1.putObj l (.loop (EQ rec)),g.F,rec.tmps.size,hp1,g1,[]⟩ Es hp1 a1 (w1.putObj l (.loop (EQ rec))):=
  ⟨g1,OF.putO EI rfl rfl,fun t d ht=>(htm1 t d ht).putO EI rfl rfl,hsz1,hdf1,Below.refl _ _,G1,bX.refl _ _ _⟩
 refine wpIn_mono (hbo ⟨B,w1.putObj l (.loop (EQ rec)),g.F,rec.tmps.size,hp1,g1,[]⟩ rfl rfl rfl _ _ hmid) ?_
 rintro ex a2 w2 ⟨tm,cf,⟨g2,JF,_,_,_,hB2,hF2,hM2⟩,hq⟩
 obtain⟨hl2',_,hf2⟩:=hM2.fr l (by simpa using hlt1) Li
 have A7:w2.heap[l]? =some (.loop (EQ rec)):=hl2'.trans (World.putObj_heap_same hlt1)
 have hlt2:=(eI.1 A7).1
 have hbl:Below B w1 w2:=⟨hB2.os,hB2.tape,hB2.output,by simpa using hB2.size,fun k hk=>(hB2.block k hk).trans (World.putObj_heap_other (by omega))⟩
 have wX:xN B hp g W cf g2 (w2.putObj l (.loop rec)):=⟨JF.putO A7 rfl rfl,hM1.trans (hM2.patch EI rfl rfl Li),t8 (hB1.trans hbl) hB,hF2⟩
 cases ex with
 |normal=>
  refine⟨_,_,run_endRound none A7,.inl ⟨rfl,cf,g2,?_,hq⟩⟩
  have:({(EQ rec) with state:=if (none:Option Code).isNone then .ready else .done,pending:=none}:Loop)=rec:=by
   obtain⟨s,q,f1,f2,f3,f4,f5,f6⟩:=rec
   dsimp only at D0 hpe
   subst D0;subst hpe
   rfl
  rw[this];exact wX
 |ret=>
  refine⟨_,_,run_endRound (some .ret) A7,.inr ⟨rfl,cf,g2,w2.putObj l (.loop rec),?_,World.putObj_heap_same hlt2,wX,hq⟩⟩
  show w2.putObj l _=(w2.putObj l _).putObj l _
  unfold World.putObj
  dsimp only
  congr 1
  simp[ru,EQ]
 |_=>exact hq.elim
end
section
variable {P:Program} {tb:TypeId→Option TyE} {x:Cx} {tm Es:List (Nat×D)} {hp hp1:Hp} {Q:Exit→Act→World→Prop}
theorem AV.yield {id:Nat}{ops:Array Oper}{tc ty ta tn:Tmp}{ts:Array TypeId}{ty1 ty2 ty3:TypeId}{p1 p2:String}{a1 a2:Array Edge}{l:Nat}{rec:Loop}{hpE:Hp}{gE:Gh}{wE:World}(m:Nat)
  (OK:ops.toList=ops.toList.take m++[⟨some tc,.call ⟨.value (.tmp ty),#[.tmp ta],ts⟩,ty1,p1,a1,none⟩,⟨some tn,.unOp .not ty2 (.tmp tc),ty3,p2,a2,none⟩]) (hN:ku x.N ops=true) (xR:tN ops=true)
  (hx:x.hp0=hpE∧x.g0=gE∧x.w0=wE∧∀p:Addr,p.block<x.B→gE.F p→x.F0 p)
  (h1:∀K:List (Nat×D)→Hp→Prop,(∀Es hp1 d Y S,Es.lookup ty=some (.e (.lit (.func (.yield l) #[] #[])))→Es.lookup ta=some d→YOk P x.B l rec hpE gE wE hp1 d Y S→
    (∀cf a w,Y cf→RS x ((tn,.e (.lit (.bool false)))::(tc,.e (.lit (.bool true)))::Es) cf a w→Q .normal a w)→
    (∀cf g2 W' a,S cf→W'.heap[l]? =some (.loop rec)→xN x.B hpE gE wE cf g2 W'→a.defers=x.df→Q .ret a (W'.putObj l (.loop (ru rec))))→K Es hp1)→bT P tb .seq ops K (ops.toList.take m) tm hp):
  AV P none x (.seq (.region id ops false) (.cond (.tmp tn) .ret .skip)) tm hp Q:=by
 generalize ops.toList.take m=pre at OK h1
 intro a w hr
 refine wpIn_seq (wpIn_region ?_)
 have hlen:ops.size=pre.length+2:=by rw[←eW,OK];simp
 have Ch:ops[pre.length]? =some ⟨some tc,.call ⟨.value (.tmp ty),#[.tmp ta],ts⟩,ty1,p1,a1,none⟩:=by
  rw[←xA,OK,vq (bI _)];simp
 have Lh:ops[pre.length+1]? =some ⟨some tn,.unOp .not ty2 (.tmp tc),ty3,p2,a2,none⟩:=by
  rw[←xA,OK,vq (by omega),show pre.length+1 - pre.length=1 by omega];rfl
 have G0:tc<x.N:=lj hN Ch rfl
 have pg:tn<x.N:=lj hN Lh rfl
 rw[hlen,EV,show List.range' 0 (pre.length+2)=List.range' 0 pre.length++[pre.length,pre.length+1] from by
  rw[←List.range'_append_1];simp[List.range']]
 refine BC (K:=fun Es hp1=>∃d Y S,Es.lookup ty=some (.e (.lit (.func (.yield l) #[] #[])))∧Es.lookup ta=some d∧YOk P x.B l rec hpE gE wE hp1 d Y S∧
   (∀cf a w,Y cf→RS x ((tn,.e (.lit (.bool false)))::(tc,.e (.lit (.bool true)))::Es) cf a w→Q .normal a w)∧
   (∀cf g2 W' a,S cf→W'.heap[l]? =some (.loop rec)→xN x.B hpE gE wE cf g2 W'→a.defers=x.df→Q .ret a (W'.putObj l (.loop (ru rec))))) hN xR _ _ ?_ pre 0 tm hp a w (by rw[nZ];exact OK) (h1 _ fun Es hp1 d Y S q1 q2 q3 q4 q5=>⟨d,Y,S,q1,q2,q3,q4,q5⟩) hr
 rintro Es hp1 a w ⟨d,Y,S,hy,ha,hY,ht,hf⟩ ⟨g,hh,iK,hsz,sS,hB,hF,hM⟩
 -- the round
 unfold wpOpsIn
 rw[Ch]
 dsimp only
 rw[show Region.wanted (⟨some tc,.call ⟨.value (.tmp ty),#[.tmp ta],ts⟩,ty1,p1,a1,none⟩:Oper) (yielded ops a.tmps)=true from rfl,aQ rfl]
 have hye:a.eval (.tmp ty)=.func (.yield l) #[] #[]:=by
  have:=iK ty _ hy
  exact this.lit
 obtain⟨rfl,rfl,rfl,J0⟩:=hx
 obtain⟨fn,tmps,assign,body,cp,hR⟩:=hY g w (a.eval (.tmp ta)) ⟨hh,hM,hB,fun p hp hq=>hF p hp (J0 p hp hq)⟩ (iK ta d ha)
 refine⟨fun _ _=>trivial,?_⟩
 rw[Oper.semAt_eq _ _ _ (by intro c h;cases h),Hx hye cp]
 refine⟨fun h=>(by cases h),?_⟩
 have hR2:RoundIn (FWd none) 0 P l fn tmps assign body w _:=hR
 refine hR2.mono ?_
 intro e w' hq
 have ON:∀(b:Bool) (Q':Exit→Act→World→Prop),(∀aa,aa=(a.put (some tc) (.bool b)).put (some tn) (.bool (!b))→Q' .normal aa w')→wpOpsIn (FWd none) 0 P ops Q' [pre.length+1] (a.put (some tc) (.bool b)) w':=by
  intro b Q' hq
  unfold wpOpsIn
  rw[Lh]
  dsimp only
  rw[show Region.wanted (⟨some tn,.unOp .not ty2 (.tmp tc),ty3,p2,a2,none⟩:Oper) (yielded ops (a.put (some tc) (.bool b)).tmps)=true from rfl,aQ rfl]
  refine⟨fun _ _=>trivial,?_⟩
  rw[Oper.semAt_eq _ _ _ (by intro c h;cases h)]
  have he:(a.put (some tc) (.bool b)).eval (.tmp tc)=.bool b:=yl (by rw[hsz];exact G0)
  have hrun2:(execOp (a.put (some tc) (.bool b)).eval ⟨some tn,.unOp .not ty2 (.tmp tc),ty3,p2,a2,none⟩).run P w'=.ok (.value (.bool (!b))) w':=by
   have cg:tc<a.tmps.size:=by rw[hsz];exact G0
   simp[execOp,cg,Op.unary,go_sem]
  rw[hrun2]
  show wpOpsIn (FWd none) 0 P ops Q' [] _ w'
  unfold wpOpsIn
  exact hq _ rfl
 have AI:∀b:Bool,((a.put (some tc) (.bool b)).put (some tn) (.bool (!b))).eval (.tmp tn)=.bool (!b):=fun b=>yl (by rw[rl,hsz];exact pg)
 rcases hq with⟨rfl,cf,g2,hc,hq⟩|⟨rfl,cf,g2,W',rfl,hl,hc,hq⟩
 ·refine ON true _ ?_
  rintro aa rfl
  refine wpIn_cond_false (AI true) (wpIn_skip (ht cf _ _ hq ?_))
  refine⟨g2,hc.hr,Bq (dst:=some tn) (d:=.e (.lit (.bool false))) (v:=.bool (!true)) (Bq (dst:=some tc) (d:=.e (.lit (.bool true))) (v:=.bool true) (fun t d ht=>(iK t d ht).mono hc.mo) (.e _ _ (.lit (.bool true) rfl)) ?_) (.e _ _ (.lit (.bool false) rfl)) ?_,by rw[rl,rl,hsz],by rw[nQ,nQ,sS],hB.trans hc.bl,fun p h1 h2=>hc.fo p h1 (hF p h1 h2),hM.trans hc.mo⟩
  ·intro t e;cases e;rw[hsz];exact G0
  ·intro t e;cases e;rw[rl,hsz];exact pg
 ·refine ON false _ ?_
  rintro aa rfl
  refine wpIn_cond_true (AI false) (wpIn_ret (hf cf g2 W' _ hq hl ?_ (by rw[nQ,nQ,sS])))
  exact (xN.mk hh hM hB fun p hp hq=>hF p hp (J0 p hp hq)).trans hc
end
end
section
section
variable {P:Program} {tb:TypeId→Option TyE} {x:Cx} {tm Es:List (Nat×D)} {hp hp1:Hp} {Q:Exit→Act→World→Prop}
def Fq(g:Gh)(ks:List Nat):Array Value:=(ks.map fun k=>Value.pointer (some ⟨g.μ k,0,none⟩)).toArray
def KL(P:Program)(f:FuncId)(ks:List Nat)(B:Nat)(hp:Hp)(p:Tmp)(N:Nat)(MN bod:Code)(tm:List (Nat×D))(Y S:Hp→Prop):Prop:=
 ∀(g:Gh) (w:World) (l:Nat) (rec:Loop),HR B hp g w→w.heap[l]? =some (.loop rec)→B≤l→rec.state=.ready→rec.pending=none→rec.params=#[p]→rec.assign=MN→rec.body=bod→rec.tmps.size=N→(∀t d,tm.lookup t=some d→aR hp g w d (rec.tmps.getD t undef))→
  Calls P f (#[.func (.yield l) #[] #[]]++Fq g ks) w fun e w'=>∃v,e=.returned v∧∃hp' g' W',xN B hp g w hp' g' W'∧((w'=W'∧Y hp')∨(w'=W'.putObj l (.loop (ru rec))∧W'.heap[l]? =some (.loop rec)∧S hp'))
structure GS(x x':Cx)(D:Nat)(hp:Hp)(w:World):Prop where
 B:x'.B=x.B
 F0:x'.F0=x.F0
 N:x'.N=x.N
 df:x'.df={target:=.collected D,args:=#[]}::x.df
 hp0:x'.hp0=hp
 w0:x'.w0=w
 came:bX x.hp0 x.g0 x.w0 hp x'.g0 w
 below:Below x.B x.w0 w
 blk:w.heap[D]? =some (.deferred (some []))
 new:x.w0.heap.size≤D
 hr:HR x.B hp x'.g0 w
theorem AV.range {gop:Operand}{p:Tmp}{assign body:Code}{f:FuncId}{ks:List Nat}{Y S:Hp→Prop}(hg:evD tm gop=.fn f ks)(O5:KO P f)(hB:x.B≤x.w0.heap.size)
  (hit:KL P f ks x.B hp p x.N assign body tm Y S)
  (hn:∀x' D hp' a w,GS x x' D hp' w→RS x' tm hp' a w→Y hp'→Q .normal a w)
  (hs:∀x' D hp' a w,GS x x' D hp' w→RS x' tm hp' a w→S hp'→Q .ret a w):AV P none x (.rangeFunc gop #[p] assign body) tm hp Q:=by
 intro a w hr
 obtain⟨g,hh,iK,hsz,sS,hBl,hF,hM⟩:=id hr
 have hgv:=yz iK gop
 rw[hg] at hgv
 have hgv:a.eval gop=.func (.func f) #[] (Fq g ks):=by
  generalize a.eval gop=v at hgv
  cases hgv with
  |fn _ _ _=>rfl
 refine wpIn_rangeFunc ?_
 intro fn _
 obtain⟨rec,A6⟩:∃rec:Loop,rec={state:=.ready,pending:=none,fn,tmps:=a.tmps,params:=#[p],assign,body,defers:=w.heap.size}:=⟨_,rfl⟩
 obtain⟨W1,hW1⟩:∃W1,(w.alloc (.deferred (some []))).alloc (.loop rec)=W1:=⟨_,rfl⟩
 have hL1:W1.heap[w.heap.size+1]? =some (.loop rec):=by
  rw[←hW1];have:=World.alloc_heap_new (w.alloc (.deferred (some []))) (.loop rec);rwa[World.size_alloc] at this
 have hK1:W1.heap[w.heap.size]? =some (.deferred (some [])):=by
  rw[←hW1];exact (Below.heap_alloc _ _ _ (by simp)).trans (World.alloc_heap_new w _)
 have hold:∀b,b<w.heap.size→W1.heap[b]? =w.heap[b]? :=fun b hb=>by
  rw[←hW1];exact (Below.heap_alloc _ _ _ (by simp;omega)).trans (Below.heap_alloc _ _ _ hb)
 have hsW:w.heap.size≤W1.heap.size:=by rw[←hW1];simp;omega
 have h1:HR x.B hp g W1:=hh.keep hsW hold
 have m1:bX hp g w hp g W1:=bX.keep hp g hsW hold
 have b1:Below x.B w W1:=by
  rw[←hW1]
  exact ((Below.refl x.B w).alloc hh.base _).alloc (by have:=hh.base;simp;omega) _
 have hD1:IR hp g w.heap.size:=h1.free hK1 rfl
 refine⟨w.heap.size+1,[{target:=.collected w.heap.size,args:=#[]}],W1,{target:=.fn (.func f) (Fq g ks),args:=#[.func (.yield (w.heap.size+1)) #[] #[]]},W1,f,
  #[.func (.yield (w.heap.size+1)) #[] #[]]++Fq g ks,W1,?_,?_,fun _ _=>trivial,?_,fun h=>(by cases h),?_⟩
 ·rw[←hW1,A6];exact run_enterLoop_outer _ _ _ _ _
 ·simp only[resolve,hgv]
  simp[go_sem]
 ·obtain⟨fn',hf',hn',qS⟩:=O5
  have H5 : fn'.name ≠ "runtime.NumGoroutine" := by simpa using hn'
  have mm:¬fn'.body=none:=fun e=>by rw[e] at qS;cases qS
  simp[invoke,callFunc,hf',H5,mm,go_sem]
 ·have hc:=hit g W1 (w.heap.size+1) rec h1 hL1 (by have:=hh.base;omega) (by rw[A6]) (by rw[A6]) (by rw[A6]) (by rw[A6]) (by rw[A6]) (by rw[A6];exact hsz) (fun t d ht=>by rw[A6];exact (iK t d ht).mono m1)
  refine (AM (n:=0) hc).mono ?_
  rintro e w3 ⟨v,rfl,hp',g',W',wX,hq⟩
  obtain⟨D1,_,hfk⟩:=wX.mo.fr w.heap.size (eI.1 hK1).1 hD1
  have hkW:W'.heap[w.heap.size]? =some (.deferred (some [])):=D1.trans hK1
  -- what holds behind,whatever the record says
  have fin:∀(o':Obj),o'.isCells=false→W'.heap[w.heap.size+1]? =some (.loop rec)→
    GS x ⟨x.B,W'.putObj (w.heap.size+1) o',x.F0,x.N,hp',g',{target:=.collected w.heap.size,args:=#[]}::x.df⟩ w.heap.size hp' (W'.putObj (w.heap.size+1) o')∧
    RS ⟨x.B,W'.putObj (w.heap.size+1) o',x.F0,x.N,hp',g',{target:=.collected w.heap.size,args:=#[]}::x.df⟩ tm hp' {a with defers:=[{target:=.collected w.heap.size,args:=#[]}]++a.defers} (W'.putObj (w.heap.size+1) o'):=by
   intro o' tB hl
   have qw:=wX.hr.putO (o':=o') hl rfl tB
   refine⟨⟨rfl,rfl,rfl,rfl,rfl,rfl,?_,?_,?_,?_,qw⟩,g',qw,fun t d ht=>(((iK t d ht).mono m1).mono wX.mo).putO hl rfl tB,hsz,by simp[sS],Below.refl _ _,fun p h1 h2=>wX.fo p h1 (hF p h1 h2),bX.refl _ _ _⟩
   ·exact hM.trans ((m1.trans wX.mo).putNew (by omega) hl rfl tB)
   ·exact t8 (hBl.trans (b1.trans wX.bl)) (by have:=hh.base;omega)
   ·exact (World.putObj_heap_other (by omega)).trans hkW
   ·exact hM.size
  have hlW:W'.heap[w.heap.size+1]? =some (.loop rec):=(wX.mo.fr _ (eI.1 hL1).1 (h1.free hL1 rfl)).1.trans hL1
  rcases hq with⟨rfl,hY⟩|⟨rfl,_,hS⟩
  ·have he:=run_endLoop (P:=P) hlW (by rw[A6];simp)
   have hpn:rec.pending=none:=by rw[A6]
   refine⟨none,_,he.trans (congrArg (fun q=>Result.ok q _) hpn),?_⟩
   obtain⟨h5,h6⟩:=fin (.loop {rec with state:=.exhausted}) rfl hlW
   exact hn _ _ hp' _ _ h5 h6 hY
  ·have Mu:(W'.putObj (w.heap.size+1) (.loop (ru rec))).heap[w.heap.size+1]? =some (.loop (ru rec)):=World.putObj_heap_same (eI.1 hlW).1
   have he:=run_endLoop (P:=P) Mu (by simp[ru])
   refine⟨some .ret,_,he,?_⟩
   obtain⟨h5,h6⟩:=fin (.loop {(ru rec) with state:=.exhausted}) rfl hlW
   have hw:(W'.putObj (w.heap.size+1) (.loop (ru rec))).putObj (w.heap.size+1) (.loop {(ru rec) with state:=.exhausted})=W'.putObj (w.heap.size+1) (.loop {(ru rec) with state:=.exhausted}):=by
    unfold World.putObj
    dsimp only
    congr 1
    simp
   rw[hw]
   exact wpIn_ret (hs _ _ hp' _ _ h5 h6 hS)
theorem F9 {B:Nat}{w:World}{F:Addr→Prop}{N:Nat}{g:Gh}{ds:List D}{vs:Array Value}(hr:HR B hp g w)(hF:∀p:Addr,p.block<B→F p→g.F p)(hN:ds.length≤N)(hsz:vs.size=ds.length)(v7:∀(j:Nat) (d:D) (u:Value),ds[j]? =some d→vs[j]? =some u→aR hp g w d u):
  RS ⟨B,w,F,N,hp,g,[]⟩ (eC 0 ds) hp {tmps:=vs++Array.replicate (N - vs.size) undef,defers:=[]} w:=by
 refine⟨g,hr,fun t d ht=>?_,by simp;omega,rfl,Below.refl _ _,hF,bX.refl _ _ _⟩
 obtain⟨_,h2⟩:=oU ht
 have cg:t<ds.length:=by
  rw[CQ] at h2
  rcases cc t ds.length with hh|hh
  ·exact hh
  ·rw[fV hh] at h2;cases h2
 have hv:vs[t]? =some vs[t]:=mK (by omega)
 have:=v7 t d vs[t] (by simpa using h2) hv
 have he:(vs++Array.replicate (N - vs.size) undef).getD t undef=vs[t]:=by
  rw[dy,Ah (by omega),hv];rfl
 rw[he]
 exact this
def MY(x:Cx)(G:Cx→List (Nat×D)→Hp→Prop)(ex:Exit)(a:Act)(w:World):Prop:=
 (ex=.normal∨ex=.ret)∧∃x' D hp1 w1 tm cf,GS x x' D hp1 w1∧RS x' tm cf a w∧G {x with df:=x'.df} tm cf
theorem MY.leaves {fn:Func}{R:Ending→World→Prop}{G:Cx→List (Nat×D)→Hp→Prop}{ex:Exit}{a:Act}{w:World}(h:MY x G ex a w)(sS:x.df=[])
  (hk:∀x2 tm cf D w2,x2.B=x.B→x2.w0=x.w0→x2.F0=x.F0→x2.N=x.N→x2.hp0=x.hp0→x2.g0=x.g0→RS x2 tm cf a w→G x2 tm cf→w2=w.putObj D (.deferred none)→w.heap[D]? =some (.deferred (some []))→x.w0.heap.size≤D→∃v,(results fn a.tmps).run P w2=.ok v w2∧R (.returned v) w2):
  bodyPostM (FWd none) 0 P fn R ex a w:=by
 obtain⟨hex,x',D,hp1,w1,tm,cf,hb,hr,hG⟩:=h
 obtain⟨g,hh,iK,hsz,hdf2,hBl,hF,hM⟩:=hr
 rw[hb.hp0,hb.w0] at hM
 rw[hb.B] at hh hBl hF
 rw[hb.w0] at hBl
 have O4:=hb.hr.free hb.blk rfl
 obtain⟨hkD,_,_⟩:=hM.fr D (eI.1 hb.blk).1 O4
 have hkD:w.heap[D]? =some (.deferred (some [])):=hkD.trans hb.blk
 have JF:RS {x with df:=x'.df} tm cf a w:=⟨g,hh,iK,by rw[hsz,hb.N],hdf2,hb.below.trans hBl,fun p h1 h2=>hF p h1 (by rw[hb.F0];exact h2),hb.came.trans hM⟩
 have fin:LeavesInM (FWd none) 0 P fn a.tmps R a.defers .returning w:=by
  rw[hdf2,hb.df,sS]
  refine⟨by simp,.inl ⟨D,_,rfl,run_takeDeferred hkD,?_⟩⟩
  obtain⟨v,h1,h2⟩:=hk {x with df:=x'.df} tm cf D _ rfl rfl rfl rfl rfl rfl JF hG rfl hkD hb.new
  exact⟨v,h1,h2⟩
 rcases hex with rfl|rfl <;> exact fin
theorem HC.ofM (tok : TOk P tb) {f : FuncId} {fn : Func} {c : Code} {ds : List D} {hp hp' : Hp} {r : D} {rs : List ResultVar} (hf : P.funcs[f]? = some fn) (hb : fn.body = some c) (te : (fn.name == "runtime.NumGoroutine") = false) (hN : ds.length ≤ fn.ntmps) (hrs : fn.results.toList = rs)
  (h:∀x:Cx,x.N=fn.ntmps→x.hp0=hp→x.df=[]→fW hp→x.B≤x.w0.heap.size→AV P none x c (eC 0 ds) hp (MY x fun x2 tm cf=>∃tm',Wk x2 tm cf tm' hp'∧xI tb rs tm' hp' r)):HC P f ds hp r hp':=by
 subst hrs
 refine⟨⟨fn,hf,te,by rw[hb];rfl⟩,fun B g w vs hr hsz v7=>?_⟩
 refine (callsIn_wide (n:=0)).1 (callsIn_of_wp_marks (F:=FWd none) hf hb trivial (wpIn_mono (h ⟨B,w,g.F,fn.ntmps,hp,g,[]⟩ rfl rfl rfl hr.ok hr.base _ _ (F9 hr (fun _ _ h=>h) hN hsz v7)) ?_))
 intro ex a w' he
 refine he.leaves rfl ?_
 rintro x2 tm cf D w2 h1 h2 h3 h4 h5 h6 hrs ⟨tm',M2,JE⟩ rfl hD uI
 obtain⟨g',qw,iK,_,_,hB,hF,hM⟩:=M2 a w' hrs
 rw[h1] at qw hB hF
 rw[h2] at hB
 rw[h2,h5,h6] at hM
 rw[h3] at hF
 have uA:=hr.base
 obtain⟨v,cp,mQ⟩:=ug (x:=⟨B,w,g.F,fn.ntmps,hp,g,[]⟩) (g:=g') tok rfl JE (qw.putO (o':=.deferred none) hD rfl rfl) (fun t d ht=>(iK t d ht).putO hD rfl rfl)
 have uI:w.heap.size≤D:=uI
 exact⟨v,cp,v,g',rfl,qw.putO hD rfl rfl,hM.putNew uI hD rfl rfl,mQ,t8 hB (by omega),hF⟩
def RdOk(P:Program)(N:Nat)(p:Tmp)(MN bod:Code)(tm:List (Nat×D))(hp:Hp)(d:D)(Y S:Hp→Prop):Prop:=∀(l:Nat) (x:Cx),x.N=N→x.df=[]→x.hp0=hp→AV P (some l) x MN ((p,d)::tm) hp fun ex a w=>ex=.normal∧∃Es hp1,RS x Es hp1 a w∧
 ∀x:Cx,x.N=N→x.df=[]→x.hp0=hp1→AV P (some l) x bod Es hp1 fun ex a w=>∃tm hp',RS x tm hp' a w∧match ex with| .normal=>Y hp'| .ret=>S hp'|_=>False
theorem KL.of {f:FuncId}{fn:Func}{c:Code}{ks:List Nat}{B:Nat}{p:Tmp}{N:Nat}{MN bod:Code}{Y S:Hp→Prop}(hf:P.funcs[f]? =some fn)(hb:fn.body=some c)(hN:ks.length+1≤fn.ntmps)(mQ:fn.results=#[])(hpN:p<N)(Mv:∀k∈ks,k<hp.next)
  (h:∀(g:Gh) (w:World) (l:Nat) (rec:Loop) (x:Cx),x.B=B→x.hp0=hp→x.g0=g→x.w0=w→x.F0=g.F→x.N=fn.ntmps→x.df=[]→fW hp→(∀hp1 d Y' S',RdOk P N p MN bod tm hp1 d Y' S'→YOk P B l rec hp g w hp1 d Y' S')→
   AV P none x c (eC 0 (.e (.lit (.func (.yield l) #[] #[]))::ks.map fun k=>.pt k 0)) hp fun ex a w'=>((ex=.normal∨ex=.ret)∧∃tm' hp',RS x tm' hp' a w'∧Y hp')∨
    (ex=.ret∧a.defers=x.df∧∃hp' g' W',w'=W'.putObj l (.loop (ru rec))∧W'.heap[l]? =some (.loop rec)∧xN B hp g w hp' g' W'∧S hp')):KL P f ks B hp p N MN bod tm Y S:=by
 intro g w l rec hr hl hBl D0 hpe hpar hasg hbod hsz iK
 have hmk:∀hp1 d Y' S',RdOk P N p MN bod tm hp1 d Y' S'→YOk P B l rec hp g w hp1 d Y' S':=by
  intro hp1 d Y' S' hrd
  subst hasg hbod hsz
  exact YOk.of hl hr D0 hpe hpar hBl hpN iK (hrd l)
 have se:RS ⟨B,w,g.F,fn.ntmps,hp,g,[]⟩ (eC 0 (.e (.lit (.func (.yield l) #[] #[]))::ks.map fun k=>.pt k 0)) hp {tmps:=(#[Value.func (.yield l) #[] #[]]++Fq g ks)++Array.replicate (fn.ntmps - (#[Value.func (.yield l) #[] #[]]++Fq g ks).size) undef,defers:=[]} w:=by
  refine F9 hr (fun _ _ h=>h) (by simpa using hN) (by simp[Fq,qr]) fun j d u hd hu=>?_
  cases j with
  |zero=>
   have hu0:(#[Value.func (.yield l) #[] #[]]++Fq g ks)[0]? =some (Value.func (.yield l) #[] #[]):=by rw[Ah (by simp)];rfl
   rw[hu0] at hu
   injection hu with hu
   injection hd with hd
   subst hd;subst hu
   exact .e _ _ (.lit _ rfl)
  |succ j=>
   simp only[Kf,dZ] at hd
   rw[Array.getElem?_append_right (by simp)] at hu
   simp[Fq] at hu
   cases hk:ks[j]? with
   |none=>simp[hk] at hd
   |some k=>
    simp[hk] at hd hu
    subst hd;subst hu
    exact .pt k 0 (Mv k (cy hk))
 have hend:∀(a:Act) (w':World),(results fn a.tmps).run P w'=.ok (.tuple #[]) w':=fun a w'=>by
  unfold results
  rw[mQ,Sem.run_bind]
  simp
 refine (callsIn_wide (n:=0)).1 (callsIn_of_wp (F:=FWd none) hf hb trivial (wpIn_mono (h g w l rec ⟨B,w,g.F,fn.ntmps,hp,g,[]⟩ rfl rfl rfl rfl rfl rfl rfl hr.ok hmk _ _ se) ?_))
 rintro ex a w' (⟨hex,tm',hp',⟨g',h1,_,_,h4,h5,h6,h7⟩,hY⟩|⟨rfl,sS,hp',g',W',h1,h2,h3,hS⟩)
 ·have:bodyPost P fn (fun e w'=>∃v,e=.returned v∧∃hp' g' W',xN B hp g w hp' g' W'∧((w'=W'∧Y hp')∨(w'=W'.putObj l (.loop (ru rec))∧W'.heap[l]? =some (.loop rec)∧S hp'))) .ret a w':=
   ⟨h4,_,hend a w',_,rfl,hp',g',w',⟨h1,h7,h5,h6⟩,.inl ⟨rfl,hY⟩⟩
  rcases hex with rfl|rfl <;> exact this
 ·exact⟨sS,_,hend a w',_,rfl,hp',g',W',h3,.inr ⟨h1,h2,hS⟩⟩
end
end
section
theorem Pt.one(d:D):Pt [d] 0 [d] id:=Pt.of [] [] rfl rfl fun y=>by simp
section
variable {P:Program} {tb:TypeId→Option TyE} {md:Md} {dst:Option Tmp} {ty2:TypeId} {pos:String} {af:Array Edge} {gd:Option (Nat×Bool)} {ev:Operand→D} {hp:Hp} {x lo hi mx:Operand} {k off z n l h:Nat} {t e:TypeId} {ti j:TyE} {k1 k2 k3:IntKind}
theorem slW3(tok:TOk P tb)(hlh:l<h)(hhn:h≤n)(ht:tb t=some ti)(he:tb e=some j)(Cg:ev lo=dI k1 (l:Int))(IY:ev hi=dI k2 (h:Int))(hmx:ev mx=dI k3 (h:Int))(AD:ti.ty=.slice e:=by exact rfl)(hx:ev x=.ow k off z n:=by exact rfl)(hz:z=j.size:=by exact rfl):
  n0 P tb md ⟨dst,.slice t x (some lo) (some hi) (some mx),ty2,pos,af,gd⟩ ev hp (.ow k (off+l*z) z (h - l)) hp:=by
 subst hz
 refine (Snd.calm (dr:=md.dr) fun cf _=>.pure fun B g w a hr xP=>?_).q (by cases md <;> rfl)
 have h1:=xP x (by simp[Op.operands])
 have e1:=xP lo (by simp[Op.operands])
 have e2:=xP hi (by simp[Op.operands])
 have e3:=xP mx (by simp[Op.operands])
 rw[hx] at h1
 rw[Cg] at e1
 rw[IY] at e2
 rw[hmx] at e3
 have e1:=e1.lit
 have e2:=e2.lit
 have e3:=e3.lit
 have hs:=tok.run_sizeOf he w
 generalize hv:a.eval x=v at h1
 cases h1 with
 |ow _ _ _ _ c hk pf oh=>
  have hb:(Instr.sliceBounds true n c (some (Value.int k1 (l:Int))) (some (Value.int k2 (h:Int))) (some (Value.int k3 (h:Int)))).run P w=.ok (l,h,h) w:=by
   have q1:h≤c:=by omega
   have q2:l≤h:=by omega
   simp[Instr.sliceBounds,run_sliceBound,q1,q2]
  refine⟨.slice (some ⟨g.μ k,off+l*j.size,none⟩) (h - l) (h - l),?_,.ow _ _ _ _ _ hk (bI _) (by omega)⟩
  have px:¬h=l:=by omega
  have MC:(⟨g.μ k,off,none⟩:Addr).add (l*j.size)=⟨g.μ k,off+l*j.size,none⟩:=by unfold Addr.add;split <;> simp_all
  simp[execOp,Instr.sliceAt,Instr.slice,hv,e1,e2,e3,run_underlying (tok.slice ht AD),hb,hs,px,MC]
end
section
variable {ops:Array Oper} {K:List (Nat×D)→Hp→Prop} {os:List Oper} {tm:List (Nat×D)} {hp hp':Hp} {t:Tmp} {op:Op} {ty:TypeId} {pos:String} {af:Array Edge} {d:D}
theorem q1s(h:po prog ⟨some t,op,ty,pos,af,none⟩ (evD tm) hp d hp')(h2:bT prog tbl .seq ops K os ((t,d)::tm) hp'):bT prog tbl .seq ops K (⟨some t,op,ty,pos,af,none⟩::os) tm hp:=.sq rfl d hp' rfl h h2
end
section
variable {x:Cx} {Q:Exit→Act→World→Prop} {tm:List (Nat×D)} {hp:Hp}
theorem vrs {n id:Nat}{l:List Oper}{b:Code}(hx:x.N=n)(h:∀K:List (Nat×D)→Hp→Prop,(∀tm hp,AV prog none x b tm hp Q→K tm hp)→bT prog tbl .seq l.toArray K l tm hp)(hN:ku n l.toArray=true:=by kernel_rfl):AV prog none x (.seq (.region id l.toArray false) b) tm hp Q:=
 AV.seqA (rq hx (fun K hK=>h K fun tm hp hh=>hK _ _ hh) hN)
theorem vrsd {n id:Nat}{l:List Oper}{b:Code}(L:List FuncId)(hx:x.N=n)(h:∀K:List (Nat×D)→Hp→Prop,(∀tm hp,AV prog none x b tm hp Q→K tm hp)→bT prog tbl (.any L) l.toArray K l tm hp)(hN:ku n l.toArray=true:=by kernel_rfl)(qE:wO tbl L l.toArray=true:=by kernel_rfl):AV prog none x (.seq (.region id l.toArray true) b) tm hp Q:=
 AV.seqA (rqd L hx (fun K hK=>h K fun tm hp hh=>hK _ _ hh) hN qE)
theorem vrq {n id:Nat}{l:List Oper}(hx:x.N=n)(h:∀K:List (Nat×D)→Hp→Prop,(∀tm hp,(∀a w,RS x tm hp a w→Q .normal a w)→K tm hp)→bT prog tbl .seq l.toArray K l tm hp)(hN:ku n l.toArray=true:=by kernel_rfl):AV prog none x (.region id l.toArray false) tm hp Q:=
 AV.aw (Q':=fun ex tm' hp'=>ex=.normal∧∀a w,RS x tm' hp' a w→Q .normal a w) (rq hx (fun K hK=>h K fun tm hp hh=>hK _ _ ⟨rfl,hh⟩) hN) fun ex tm' hp' a w h1 hr=>by obtain⟨rfl,h1⟩:=h1;exact h1 a w hr
theorem vrr {n id:Nat}{ro:Option Nat}{l:List Oper}(hx:x.N=n)(h:∀K:List (Nat×D)→Hp→Prop,(∀tm hp,(∀a w,RS x tm hp a w→Q .normal a w)→K tm hp)→bT prog tbl .seq l.toArray K l tm hp)(hN:ku n l.toArray=true:=by kernel_rfl)(xR:tN l.toArray=true:=by kernel_rfl):AV prog ro x (.region id l.toArray false) tm hp Q:=
 AV.region (tb:=tbl) (by rw[hx];exact hN) xR h
theorem vrrs {n id:Nat}{ro:Option Nat}{l:List Oper}{b:Code}(hx:x.N=n)(h:∀K:List (Nat×D)→Hp→Prop,(∀tm hp,AV prog ro x b tm hp Q→K tm hp)→bT prog tbl .seq l.toArray K l tm hp)(hN:ku n l.toArray=true:=by kernel_rfl)(xR:tN l.toArray=true:=by kernel_rfl):AV prog ro x (.seq (.region id l.toArray false) b) tm hp Q:=
 AV.seq (vrr hx (fun K hK=>h K fun tm hp hh=>hK _ _ fun a w hr=>hh a w hr) hN xR)
end
section
variable {vs:List (Nat×List D)} {lv:List (Nat×Nat×Nat×TypeId)} {N C R kM:Nat}
def ix(kM n:Nat):D:=if n=0 then dL bo [] else .ow kM 0 36 n
theorem h_Chunk {dV:D}(hC:1≤C)(hC2:C≤1000000)(hV:dV.idsC N=true)(AJ:D.cells dV=some [dV]):
  HC prog 139 [dV,dI .i64 C] ⟨vs,lv,N⟩ (.fn 174 [N,N+1]) ⟨(N+1,[dI .i64 C])::(N,[dV])::vs,lv,N+1+1⟩:=by
 refine HC.of (rs:=[.tmp 4]) tok func139 rfl rfl (dM rfl) rfl (fun cx hx h0 hok=>?_)
 simp only[eC,Nat.reduceAdd,dA]
 have OM:fW ⟨(N,[dV])::vs,lv,N+1⟩:=hok.cons (gM _) (eR _) (by simpa using D.idsC_le (gM N) hV)
 have zX:fW ⟨(N+1,[dI .i64 C])::(N,[dV])::vs,lv,N+1+1⟩:=OM.cons (gM _) (eR _) rfl
 refine rs hx fun K hK=>?_
 refine s1 (d:=.pt N 0) (d8 (cs:=[dV]) (show D.cells (evD [(0,dV),(1,dI .i64 C)] (.tmp 0))=_ from AJ)) ?_
 refine s1 (d:=.pt (N+1) 0) (d8 (cs:=[dI .i64 C]) rfl) ?_
 refine sa ?_
 refine .nil (hK _ _ (AW.seq (rs hx fun K hK=>?_)))
 refine c1 (Pt.one _) ?_
 refine sa ?_
 refine .nil (hK _ _ (AW.condF rfl (def_) (AW.skip (rs hx fun K hK=>?_))))
 refine s1 (d:=.fn 174 [N,N+1]) vH ?_
 refine sa ?_
 exact .nil (hK _ _ (AW.ret (⟨[(4,.fn 174 [N,N+1])],wkS (by rw[h0];show N≤N+1+1;omega) (bI _) zX (fun j ds h=>h) (pX.cons pX.nil rfl (by simp[D.idsB,D.idsC];omega)),⟨_,ak,rfl⟩⟩)))
end
theorem Wk.tmS {x:Cx}{tm tm':List (Nat×D)}{hp:Hp}(h:∀t d,tm'.lookup t=some d→tm.lookup t=some d):Wk x tm hp tm' hp:=by
 rintro a w ⟨g,h1,h2,h3,h4,h5,h6,h7⟩
 exact⟨g,h1,fun t d ht=>h2 t d (h t d ht),h3,h4,h5,h6,h7⟩
theorem L5 {tm:List (Nat×D)}:∀t d,([]:List (Nat×D)).lookup t=some d→tm.lookup t=some d:=fun t d h=>by simp at h
theorem tin {tm tm':List (Nat×D)}{t:Nat}{d:D}(h2:∀t d,tm'.lookup t=some d→tm.lookup t=some d)(h:tm.lookup t=some d:=by exact rfl):∀t' d',((t,d)::tm').lookup t'=some d'→tm.lookup t'=some d':=fun t' d' ht=>by
 by_cases e:t'=t
 ·subst e
  have:some d=some d':=by rw[←ht];exact ak.symm
  rw[h,this]
 ·exact h2 t' d' (by rw[←ht];exact (aC e).symm)
theorem lenM {dr:Bool}{ty:TypeId}{ev:Operand→D}{hp:Hp}{kM n:Nat}{x:Operand}(hx:ev x=ix kM n):AVC prog tbl dr (.call ⟨.builtin .len,#[x],#[22]⟩) ty ev hp (Kq (dI .i64 (n:Nat)) hp):=by
 by_cases h:n=0
 ·subst h
  have hx:ev x=dL bo []:=hx
  exact T_len (n:=0) (xs:=[]) aF ax rfl (by rw[hx];rfl)
 ·have hx:ev x=.ow kM 0 36 n:=by rw[hx];exact aV h
  exact vI aF ax rfl hx
section
variable {hpE:Hp} {I:Nat→Hp→Prop} {ks kn kM R C B:Nat} {p:Tmp} {Nt:Nat} {MN bod:Code} {tm0:List (Nat×D)}
theorem Ot(hC:1≤C)(M8:R*C≤1000000)(hC2:C≤1000000)(Mv:ks<hpE.next)(AF:kn<hpE.next)(hpN:p<Nt)(h0:I 0 hpE)
  (hI:∀q hp,I q hp→hp.vars.lookup ks=some [ix kM (R*C)]∧hp.vars.lookup kn=some [dI .i64 C]∧ks<hp.next∧kn<hp.next)
  (hrd:∀q hp,q<R→I q hp→RdOk prog Nt p MN bod tm0 hp (.ow kM (q*C*36) 36 C) (I (q+1)) (fun _=>False)):
  KL prog 174 [ks,kn] B hpE p Nt MN bod tm0 (I R) (fun _=>False):=by
 refine KL.of func174 rfl (dM rfl) rfl hpN (by simp[Mv,AF]) (fun g w l rec x hB zc hg0 hw0 J0 hN sS hok hmk=>?_)
 simp only[bN,cl,eC,Nat.reduceAdd,dA]
 refine vrs hN fun K hK=>?_
 refine sa ?_
 refine .nil (hK _ _ (AV.block ?_))
 refine AV.loop (fun n tm hp=>∃q:Nat,q≤R∧n=R - q∧I q hp∧tm=[(0,.e (.lit (.func (.yield l) #[] #[]))),(1,.pt ks 0),(2,.pt kn 0),(4,dI .i64 (q*C:Nat))]) (tm0:=[(0,.e (.lit (.func (.yield l) #[] #[]))),(1,.pt ks 0),(2,.pt kn 0),(4,dI .i64 (0*C:Nat))]) (hp0:=hpE) (n:=R) ?_ ⟨0,fH _,rfl,h0,rfl⟩ ?_
 ·rw[gb]
  exact Wk.tmS (tin (tin (tin (tin L5))))
 ·rintro n tm hp ⟨q,hq,rfl,hIq,rfl⟩
  obtain⟨e1,e2,hk1,D1⟩:=hI q hp hIq
  have hqC:q*C≤R*C:=c6 C hq
  refine AV.seqA ?_
  refine rs hN fun K hK=>?_
  refine sa ?_
  refine c1 (Pt.one _) ?_
  refine s1 (d:=dI .i64 (R*C:Nat)) (lenM rfl) ?_
  refine sa ?_
  refine .nil (hK _ _ (AW.condS rfl (fun hb=>?_) (fun hb=>?_)))
  ·have cg:q<R:=by
    have:=xz hb
    rcases cc q R with h|h
    ·exact h
    ·have:R*C≤q*C:=c6 C h
     omega
   have hq1:(q+1)*C≤R*C:=c6 C cg
   rw[cO,fm] at hq1
   have hm:ix kM (R*C)=.ow kM 0 36 (R*C):=ifn_
   rw[hm] at e1
   refine AW.skip (AV.seq (AV.block ?_))
   refine vrsd [] hN fun K hK=>?_
   refine c1 (Pt.one _) ?_
   refine c1 (Pt.one _) ?_
   refine sa ?_
   refine q1 (slW (l:=((q*C:Nat):Int)) (h:=((R*C:Nat):Int)) tok ⟨by omega,by omega,by omega,by omega⟩ aF ax ⟨.i64,rfl⟩ rfl) ?_
   refine s1 (vI aF ax) ?_
   iterate 2 refine sa ?_
   refine .nil (hK _ _ ?_)
   rw[show min (C:Int) ((((R*C:Nat):Int) - ((q*C:Nat):Int)).toNat:Int)=(C:Int) by omega]
   refine AV.yield (tb:=tbl) (x:=x) (l:=l) (rec:=rec) (hpE:=hpE) (gE:=g) (wE:=w) 10 rfl (by rw[hN];kernel_rfl) (by kernel_rfl) ⟨zc,hg0,hw0,fun p _ hp=>by rw[J0];exact hp⟩ (fun K hK=>?_)
   refine sa ?_
   refine c1 (Pt.one _) ?_
   iterate 7 refine sa ?_
   rw[rS (show -9223372036854775808≤((q*C:Nat):Int)+(C:Int) by omega) (by omega)]
   refine q1 (slW3 (l:=q*C) (h:=q*C+C) tok (by omega) (by omega) aF ax rfl rfl rfl) ?_
   rw[show q*C+C - q*C=C by omega,dA]
   refine .nil (hK _ _ _ (I (q+1)) (fun _=>False) rfl rfl (by rw[hB];exact hmk _ _ _ _ (hrd q hp cg hIq)) ?_ ?_)
   ·intro cf a w hI2 hr
    obtain⟨e3,e4,hk3,hk4⟩:=hI (q+1) cf hI2
    show Code.wpIn (FWd none) 0 prog _ _ a w
    refine (vrq hN fun K hK=>?_) a w hr
    refine sa ?_
    refine c1 (Pt.one _) ?_
    iterate 2 refine sa ?_
    rw[rS (show -9223372036854775808≤((q*C:Nat):Int)+(C:Int) by omega) (by omega)]
    refine .nil (hK _ _ ?_)
    intro a w hr
    refine⟨R - (q+1),_,cf,by omega,?_,q+1,cg,rfl,hI2,rfl⟩
    have hc:((q*C:Nat):Int)+(C:Int)=(((q+1)*C:Nat):Int):=by rw[cO,fm];omega
    rw[hc] at hr
    exact Wk.tmS (tin (tin (tin (tin L5)))) a w hr
   ·rintro cf g2 W' a hS
    exact hS.elim
  ·refine AW.exit ?_
   intro a w hr
   have hqR:q=R:=by
    have:=Bh hb
    rcases cc q R with h|h
    ·have:(q+1)*C≤R*C:=c6 C h
     rw[cO,fm] at this
     omega
    ·omega
   subst hqR
   exact .inl ⟨.inl rfl,_,_,hr,hIq⟩
end
end
section
def jG(kM C n:Nat):List D:=(List.range n).map fun i=>.ow kM (i*C*36) 36 C
theorem xk(kM C n:Nat):jG kM C (n+1)=jG kM C n++[.ow kM (n*C*36) 36 C]:=by
 unfold jG;rw[w7,nd];rfl
theorem Ev(kM C n:Nat):(jG kM C n).length=n:=by unfold jG;simp
theorem sZ {kM C n N:Nat}(h:kM<N):(jG kM C n).all (D.idsC N)=true:=by
 unfold jG
 rw[eS]
 intro d hd
 obtain⟨i,_,rfl⟩:=sn.1 hd
 exact iP h
def yj(k n:Nat):D:=if n=0 then .e (.lit (.slice none 0 0)) else .gw k 1 n
theorem EO {l:List (Nat×List D)}{k j:Nat}(h:j≠k):(l.filter fun p=>!([k]:List Nat).contains p.1).lookup j=l.lookup j:=by
 induction l with
 |nil=>rfl
 |cons p l ih=>
  obtain⟨a,b⟩:=p
  by_cases e:a=k
  ·subst e
   rw[List.filter_cons_of_neg (by simp),ih,aC h]
  ·rw[List.filter_cons_of_pos (by simpa using e)]
   by_cases e2:j=a
   ·subst e2;rw[ak,ak]
   ·rw[aC e2,aC e2,ih]
def qL(k n:Nat):D:=if n=0 then .e (.sl 1 0 []) else .gw k 1 n
def sb(k kM C n:Nat)(vs:List (Nat×List D)):List (Nat×List D):=if n=0 then vs else (k,jG kM C n)::vs
section
variable {vs:List (Nat×List D)} {lv:List (Nat×Nat×Nat×TypeId)} {N C R kM ks kn:Nat}
def AsI(vs:List (Nat×List D))(lv:List (Nat×Nat×Nat×TypeId))(N kM C q:Nat)(hp:Hp):Prop:=
 ∃V N1 kR,hp=⟨V,lv,N1⟩∧fW hp∧N+2≤N1∧V.lookup N=some [yj kR q]∧(∀j ds,vs.lookup j=some ds→V.lookup j=some ds)∧(0<q→N+2≤kR∧kR<N1∧V.lookup kR=some (jG kM C q))
theorem Ib(hC:1≤C)(M8:R*C≤1000000)(hC2:C≤1000000)(hs:vs.lookup ks=some [ix kM (R*C)])(hn:vs.lookup kn=some [dI .i64 C])(hkM:kM<N)(yw:∀k ds,vs.lookup k=some ds→ds.all D.noO=true):
  HC prog 173 [.e (.lit (.slice none 0 0)),.fn 174 [ks,kn]] ⟨vs,lv,N⟩ (qL N R) ⟨sb N kM C R vs,lv,N+1⟩:=by
 refine HC.ofM (rs:=[.tmp 4]) tok func173 rfl rfl (dM rfl) rfl (fun x hN h0 sS hok hB=>?_)
 simp only[eC,Nat.reduceAdd,dA]
 have Mv:=hok.lt hs
 have AF:=hok.lt hn
 refine vrs hN fun K hK=>?_
 refine s1 (d:=.pt N 0) (d8 (cs:=[.e (.lit (.slice none 0 0))]) rfl) ?_
 refine s1 (d:=.own (N+1) 1 0 []) (eZ nz aF) ?_
 refine .nil (hK _ _ (AV.seq ?_))
 refine vrs hN fun K hK=>?_
 refine sa ?_
 refine .nil (hK _ _ (AV.block ?_))
 have OM:fW ⟨(N,[.e (.lit (.slice none 0 0))])::vs,(N+1,0,1,22)::lv,N+2⟩:=by
  refine⟨fun j es hj=>?_,fun id e hi=>?_⟩
  ·rcases eG hj with⟨e1,rfl⟩|⟨_,hj⟩
   ·exact⟨by rw[e1];show N<N+2;omega,rfl⟩
   ·obtain⟨h1,h2⟩:=hok.var j es hj
    exact⟨cm h1 (by show N≤N+2;omega),eS.2 fun d hd=>D.idsC_le (by show N≤N+2;omega) (eS.1 h2 d hd)⟩
  ·by_cases e1:id=N+1
   ·rw[e1];show N+1<N+2;omega
   ·have:=hok.tok id e (by rw[←hi];exact (aC e1).symm)
    have h2:id<N:=this
    show id<N+2;omega
 refine AV.range (f:=174) (ks:=[ks,kn]) (Y:=AsI vs ((N+1,0,1,22)::lv) N kM C R) (S:=fun _=>False) rfl ⟨_,func174,rfl,rfl⟩ hB
  (Ot (kM:=kM) (I:=AsI vs ((N+1,0,1,22)::lv) N kM C) hC M8 hC2 (by show ks<N+2;omega) (by show kn<N+2;omega) (by rw[hN];exact dM rfl) ?_ ?_ ?_) ?_ ?_
 ·exact⟨_,_,0,rfl,OM,bI _,ak,fun j ds h=>ar (hok.ne h (bI _)) h,fun h=>absurd h (by omega)⟩
 ·rintro q hp ⟨V,N1,kR,rfl,hokV,hN1,e1,v7,hR⟩
  exact⟨v7 _ _ hs,v7 _ _ hn,by show ks<N1;omega,by show kn<N1;omega⟩
 ·rintro q hp hq ⟨V,N1,kR,rfl,hokV,hN1,e1,v7,hR⟩ l y hy _ _
  refine vrr (hy.trans hN) (fun K hK=>?_)
  refine sa ?_
  refine .nil (hK _ _ fun a w hr=>⟨rfl,_,_,hr,fun y2 B6 _ h0y=>AV.block (vrr (B6.trans hN) (fun K hK=>?_))⟩)
  have hkN:N<N1:=by omega
  have ry:([.ow kM (q*C*36) 36 C]:List D).length=1:=rfl
  by_cases hq0:q=0
  ·have hd:yj kR q=.e (.lit (.slice none 0 0)):=by rw[hq0];rfl
   rw[hd] at e1
   refine c1 (Pt.one _) ?_
   refine sa ?_
   have DZ:D.cells (D.ow kM (q*C*36) 36 C)=some [.ow kM (q*C*36) 36 C]:=rfl
   refine q1s (d:=.gw N1 1 1) (hp':=⟨(N1,[D.ow kM (q*C*36) 36 C])::V,(N+1,0,1,22)::lv,N1+1⟩) (K9 (cs:=[.ow kM (q*C*36) 36 C]) tok nz aF DZ rfl) ?_
   refine q1 (d:=.gw (N1+1) 1 1) (hp':=⟨(N1+1,[D.ow kM (q*C*36) 36 C])::(N1,[D.ow kM (q*C*36) 36 C])::V,(N+1,0,1,22)::lv,N1+1+1⟩) (appN (ky:=N1) (news:=[.ow kM (q*C*36) 36 C]) tok nz aF ak rfl rfl rfl (by decide)) ?_
   refine v1 (k:=N) (F:=[yj kR q]) (ys:=[.gw (N1+1) 1 1]) (Pt.one _) rfl rfl rfl ?_ rfl (ar (show N≠N1+1 by omega) (ar (show N≠N1 by omega) (by rw[hd];exact e1)))
   refine .nil (hK _ _ ?_)
   intro a w hr
   refine⟨_,_,hr,?_⟩
   refine⟨_,_,N1+1,rfl,?_,by omega,?_,fun j ds hj=>?_,fun _=>⟨by omega,by omega,?_⟩⟩
   ·exact ((hokV.cons (M:=N1+1+1) (by omega) (show N1<N1+1+1 by omega) (by simp[D.idsC];omega)).consM (show N1+1<N1+1+1 by omega) (by simp[D.idsC];omega)).consM (show N<N1+1+1 by omega) (by simp[D.idsC])
   ·rw[show yj (N1+1) (q+1)=.gw (N1+1) 1 1 by rw[hq0];rfl];exact ak
   ·have h1:=hok.lt hj
    exact ar (by omega) (ar (by omega) (ar (by omega) (v7 j ds hj)))
   ·rw[xk,show jG kM C q=[] by rw[hq0];rfl]
    exact ar (by omega) ak
  ·have hqp:0<q:=by omega
   obtain⟨k1,k2,k3⟩:=hR hqp
   have hd:yj kR q=.gw kR 1 q:=aV hq0
   rw[hd] at e1
   have DZ:D.cells (D.ow kM (q*C*36) 36 C)=some [.ow kM (q*C*36) 36 C]:=rfl
   refine c1 (Pt.one _) ?_
   refine sa ?_
   refine q1s (d:=.gw N1 1 1) (hp':=⟨(N1,[D.ow kM (q*C*36) 36 C])::V,(N+1,0,1,22)::lv,N1+1⟩) (K9 (cs:=[.ow kM (q*C*36) 36 C]) tok nz aF DZ rfl) ?_
   refine q1s (d:=.gw (N1+1) 1 (q+1)) (hp':=⟨(N1+1,jG kM C q++[D.ow kM (q*C*36) 36 C])::((N1,[D.ow kM (q*C*36) 36 C])::V).filter (fun p=>!([kR]:List Nat).contains p.1),(N+1,0,1,22)::lv,N1+1+1⟩) (appR_ok (k:=kR) (n:=q) (ky:=N1) (ds:=jG kM C q) (news:=[.ow kM (q*C*36) 36 C]) tok nz aF (ar (show kR≠N1 by omega) k3) ak rfl rfl (by rw[Ev];exact (uc q).symm) rfl (by
    have:q*1≤R*C:=iS (oW hq) hC
    show (q+1)*24≤_;omega)) ?_
   refine v1 (k:=N) (F:=[yj kR q]) (ys:=[.gw (N1+1) 1 (q+1)]) (Pt.one _) rfl rfl rfl ?_ rfl (ar (show N≠N1+1 by omega) ((EO (show N≠kR by omega)).trans (ar (show N≠N1 by omega) (by rw[hd];exact e1))))
   refine .nil (hK _ _ ?_)
   intro a w hr
   refine⟨_,_,hr,?_⟩
   have hfil:fW ⟨((N1,[D.ow kM (q*C*36) 36 C])::V).filter fun p=>!([kR]:List Nat).contains p.1,(N+1,0,1,22)::lv,N1+1+1⟩:=by
    have h1:=hokV.cons (M:=N1+1+1) (by omega) (show N1<N1+1+1 by omega) (show ([D.ow kM (q*C*36) 36 C]).all (D.idsC (N1+1+1))=true by simp[D.idsC];omega)
    exact⟨fun j ds hj=>h1.var j ds (kH hj).2,h1.tok⟩
   refine⟨_,_,N1+1,rfl,?_,by omega,?_,fun j ds hj=>?_,fun _=>⟨by omega,by omega,?_⟩⟩
   ·refine (hfil.consM (show N1+1<N1+1+1 by omega) ?_).consM (show N<N1+1+1 by omega) (by simp[D.idsC])
    rw[←xk]
    exact sZ (by omega)
   ·rw[show yj (N1+1) (q+1)=.gw (N1+1) 1 (q+1) from ifn_];exact ak
   ·have h1:=hok.lt hj
    exact ar (by omega) (ar (by omega) ((EO (by omega)).trans (ar (by omega) (v7 j ds hj))))
   ·rw[xk]
    exact ar (by omega) ak
 ·rintro x' Db hp' a w hbh hrs ⟨V,N1,kR,rfl,hokV,hN1,e1,v7,hR⟩
  show Code.wpIn (FWd none) 0 prog _ _ a w
  refine (vrs (x:=x') (hbh.N.trans hN) fun K hK=>?_) a w hrs
  have hokL:∀id e,lv.lookup id=some e→id<N:=hok.tok
  by_cases I1:R=0
  ·have hd:yj kR R=.e (.lit (.slice none 0 0)):=by rw[I1];rfl
   rw[hd] at e1
   refine c1 (Pt.one _) ?_
   refine s1 (d:=.own N1 1 0 []) (hp':=⟨V,(N1,0,1,22)::(N+1,0,1,22)::lv,N1+1⟩) (eZ nz aF) ?_
   refine .nil (hK _ _ (AV.ret fun a w hr=>⟨.inr rfl,x',Db,_,_,_,_,hbh,hr,[(4,.e (.sl 1 0 []))],?_,⟨_,ak,aQ I1⟩⟩))
   unfold sb
   rw[aQ I1]
   refine wkS2 (by show x.hp0.next≤_;rw[h0];exact gM N) (by omega) (hok.up (gM N)) v7 (fun j y hj=>?_) (fun p hp=>?_)
   ·have:=hokL j y hj
    exact (aC (by omega)).trans ((aC (by omega)).trans hj)
   ·rw[List.mem_singleton] at hp
    subst hp
    exact⟨⟨_,ak,.inr rfl⟩,rfl⟩
  ·obtain⟨k1,k2,k3⟩:=hR (by omega)
   have hd:yj kR R=.gw kR 1 R:=aV I1
   rw[hd] at e1
   refine c1 (Pt.one _) ?_
   refine sa ?_
   refine .nil (hK _ _ (AV.ret fun a w hr=>⟨.inr rfl,x',Db,_,_,_,_,hbh,hr,[(4,.gw N 1 R)],?_,?_⟩))
   ·obtain⟨σ,hσ⟩:∃σ:Nat→Nat,σ=fun i=>if i=N then kR else i:=⟨_,rfl⟩
    have s1:σ N=kR:=by rw[hσ];exact aQ rfl
    have s2:∀i,i<N→σ i=i:=fun i hi=>by rw[hσ];exact ifn_
    refine Wk.perm σ (by show x.hp0.next≤_;rw[h0];exact gM N) (fun i hi=>s2 i (by have:i<x.hp0.next:=hi;rw[h0] at this;exact this)) (fun i j hi hj he=>?_) (TmR.cons TmR.nil ?_ ?_) (fun k ds hk=>?_) (fun k y hk=>?_)
    ·rcases cc i N with h1|h1 <;> rcases cc j N with h2|h2
     ·rw[s2 i h1,s2 j h2] at he;exact he
     ·rw[s2 i h1,show j=N by omega,s1] at he;omega
     ·rw[s2 j h2,show i=N by omega,s1] at he;omega
     ·omega
    ·show _=some (D.gw (σ N) 1 R)
     rw[s1];exact rfl
    ·exact iP (eR N)
    ·unfold sb at hk
     rw[aV I1] at hk
     rcases eG hk with⟨e,rfl⟩|⟨e,hk⟩
     ·rw[e]
      refine⟨eR N,?_,sZ (by omega),?_⟩
      ·rw[s1,K7 s2 (sZ hkM) (by unfold jG;rw[eS];intro d hd;obtain⟨i,_,rfl⟩:=sn.1 hd;rfl)]
       exact k3
      ·unfold jG;rw[eS];intro d hd;obtain⟨i,_,rfl⟩:=sn.1 hd;rfl
     ·have hkN:=hok.lt hk
      have h2:=(hok.var k ds hk).2
      refine⟨by omega,?_,eS.2 fun d hd=>D.idsC_le (gM N) (eS.1 h2 d hd),yw k ds hk⟩
      rw[s2 k hkN,K7 s2 h2 (yw k ds hk)]
      exact v7 k ds hk
    ·have hkN:=hokL k y hk
     refine⟨by omega,?_⟩
     rw[s2 k hkN]
     exact (aC (by omega)).trans hk
   ·exact⟨_,ak,aV I1⟩
 ·rintro x' D hp' a w _ _ hS
  exact hS.elim
end
end
section
section
variable {vs:List (Nat×List D)} {lv:List (Nat×Nat×Nat×TypeId)} {N C R kM ks kn:Nat}
theorem MD(hC:1≤C)(M8:R*C≤1000000)(hC2:C≤1000000)(hs:vs.lookup ks=some [ix kM (R*C)])(hn:vs.lookup kn=some [dI .i64 C])(hkM:kM<N)(yw:∀k ds,vs.lookup k=some ds→ds.all D.noO=true):
  HC prog 138 [.fn 174 [ks,kn]] ⟨vs,lv,N⟩ (qL (N+1) R) ⟨sb (N+1) kM C R vs,lv,N+1+1⟩:=by
 refine HC.of (rs:=[.tmp 2]) tok func138 rfl rfl (dM rfl) rfl (fun cx hx h0 hok=>?_)
 simp only[eC,Nat.reduceAdd,dA]
 have hap:=Ib (lv:=(N,0,1,22)::lv) (N:=N+1) hC M8 hC2 hs hn (by omega) yw
 have hokL:∀id e,lv.lookup id=some e→id<N:=hok.tok
 have hokH:fW ⟨sb (N+1) kM C R vs,lv,N+1+1⟩:=by
  unfold sb
  split
  ·exact hok.up (by omega)
  ·exact hok.cons (by omega) (by omega) (sZ (by omega))
 refine rs hx fun K hK=>?_
 refine s1 (d:=.own N 1 0 []) (hp':=⟨vs,(N,0,1,22)::lv,N+1⟩) (eZ nz aF) ?_
 refine .nil (hK _ _ ?_)
 have M2:∀tm,tm.lookup 2=some (qL (N+1) R)→∃tm',Wk cx tm ⟨sb (N+1) kM C R vs,(N,0,1,22)::lv,N+1+1⟩ tm' ⟨sb (N+1) kM C R vs,lv,N+1+1⟩∧xI tbl [.tmp 2] tm' ⟨sb (N+1) kM C R vs,lv,N+1+1⟩ (qL (N+1) R):=by
  intro tm ht
  refine⟨[(2,qL (N+1) R)],wkS2 (by rw[h0];show N≤_;omega) (bI _) hokH (fun j ds h=>h) (fun j y hj=>(aC (by have:=hokL j y hj;omega)).trans hj) (pX.cons pX.nil ht ?_),⟨_,ak,rfl⟩⟩
  unfold qL
  split
  ·rfl
  ·exact det_
 by_cases I1:R=0
 ·have hq:qL (N+1) R=.e (.sl 1 0 []):=aQ I1
  rw[hq] at hap M2 ⊢
  refine rs hx fun K hK=>?_
  refine sa ?_
  refine q1 (sHC hap rfl (.inl (by kernel_rfl))) ?_
  refine sa ?_
  exact .nil (hK _ _ (AW.ret (M2 _ rfl)))
 ·have hq:qL (N+1) R=.gw (N+1) 1 R:=aV I1
  rw[hq] at hap M2 ⊢
  refine rs hx fun K hK=>?_
  refine sa ?_
  refine q1 (sHC hap rfl (.inl (by kernel_rfl))) ?_
  refine sa ?_
  exact .nil (hK _ _ (AW.ret (M2 _ rfl)))
def mu(kM R C:Nat):List D:=[dI .i64 R,dI .i64 C,ix kM (R*C)]
theorem BZ {M:Nat}(h:kM<M)(n:Nat):(ix kM n).idsC M=true:=by
 unfold ix
 split
 ·rfl
 ·exact iP h
theorem Jo(kM n:Nat):D.cells (ix kM n)=some [ix kM n]:=by
 unfold ix
 split <;> rfl
theorem h_steps(hkM:kM<N):HC prog 108 [.ag (mu kM R C)] ⟨vs,lv,N⟩ (.fn 137 [N]) ⟨(N,mu kM R C)::vs,lv,N+1⟩:=by
 refine HC.of (rs:=[.tmp 2]) tok func108 rfl rfl (dM rfl) rfl (fun cx hx h0 hok=>?_)
 simp only[eC,Nat.reduceAdd,dA]
 have OM:fW ⟨(N,mu kM R C)::vs,lv,N+1⟩:=hok.cons (gM _) (eR _) (by unfold mu;simp only[cF,cZ,ck];simp only[BZ (show kM<N+1 by omega),ck];rfl)
 refine rs hx fun K hK=>?_
 refine s1 (d:=.pt N 0) (d8 (cs:=mu kM R C) rfl) ?_
 refine sa ?_
 refine .nil (hK _ _ (rs hx fun K hK=>?_))
 refine s1 (d:=.fn 137 [N]) vH ?_
 refine sa ?_
 exact .nil (hK _ _ (AW.ret (⟨[(2,.fn 137 [N])],wkS (by rw[h0];show N≤N+1;omega) (bI _) OM (fun j ds h=>h) (pX.cons pX.nil rfl (by simp[D.idsB,D.idsC])),⟨_,ak,rfl⟩⟩)))
end
section
variable {md:Md} {ops:Array Oper} {K:List (Nat×D)→Hp→Prop} {os:List Oper} {tm:List (Nat×D)} {hp:Hp} {t:Tmp} {ty:TypeId} {pos:String} {af:Array Edge} {k i j o n C:Nat} {x y:Operand}
theorem i1r(h:j<C)(h2:bT prog tbl md ops K os ((t,.pt k ((i*C+j)*36))::tm) hp)(hx:evD tm x=.ow k (i*C*36) 36 C:=by exact rfl)(hy:evD tm y=dI .i64 (j:Int):=by exact rfl)(hn:md.nc tbl (.indexAddr 22 x y)=true:=by exact rfl):bT prog tbl md ops K (⟨some t,.indexAddr 22 x y,ty,pos,af,none⟩::os) tm hp:=by
 have:=sx (P:=prog) (tb:=tbl) (dr:=md.dr) (ty:=ty) (ev:=evD tm) (hp:=hp) (x:=x) (y:=y) (v:=(j:Int)) (n:=C) (kn:=.i64) ⟨by omega,by omega⟩ aF ax rfl hx rfl hy
 rw[bh,show i*C*36+j*36=(i*C+j)*36 by rw[cO]] at this
 exact s1 this h2 hn
theorem wU(h:i<n)(h2:bT prog tbl md ops K os ((t,.pt k (o+i))::tm) hp)(hx:(evD tm x).toOw=.ow k o 1 n:=by exact rfl)(hy:(evD tm y).toOw=dI .i64 (i:Int):=by exact rfl)(hn:md.nc tbl (.indexAddr 52 x y)=true:=by exact rfl):bT prog tbl md ops K (⟨some t,.indexAddr 52 x y,ty,pos,af,none⟩::os) tm hp:=by
 have:=sx (P:=prog) (tb:=tbl) (dr:=md.dr) (ty:=ty) (ev:=fun x=>(evD tm x).toOw) (hp:=hp) (x:=x) (y:=y) (v:=(i:Int)) (n:=n) (kn:=.i64) ⟨by omega,by omega⟩ nz aF rfl hx rfl hy
 rw[bh,show o+i*1=o+i by omega] at this
 exact stG (d:=.pt k (o+i)) tok this h2 hn
end
theorem Pt.row {kM C n i:Nat}(h:i<n):Pt (jG kM C n) i [.ow kM (i*C*36) 36 C] (fun ys=>(jG kM C n).take i++ys++(jG kM C n).drop (i+1)):=by
 have hlen:=Ev kM C n
 have hg:(jG kM C n)[i]? =some (.ow kM (i*C*36) 36 C):=by unfold jG;rw[dZ,Gu h];rfl
 refine Pt.of ((jG kM C n).take i) ((jG kM C n).drop (i+1)) (by rw[ff,hlen];omega) ?_ fun y=>rfl
 conv=>lhs;rw[←rI i (jG kM C n)]
 rw[gr]
 congr 1
 rw[Kl (by rw[hlen];exact h)]
 have:=l8.1 hg
 obtain⟨_,h2⟩:=this
 rw[h2];rfl
section
variable {vs:List (Nat×List D)} {lv:List (Nat×Nat×Nat×TypeId)} {N C R kM kk kR k i:Nat} {V:List Nu}
theorem h_pred(hM:vs.lookup kM=some (dC ((cW bo).f V)))(OZ:vs.lookup kk=some [dI .i64 k])(hV:V.length=R*C)(hi:i<R)(hk:k<C):
  HC prog 141 [.ow kM (i*C*36) 36 C,.pt kk 0] ⟨vs,lv,N⟩ (dB (decide (va V[i*C+k]!≠0))) ⟨vs,lv,N⟩:=by
 refine HC.of (rs:=[.tmp 3]) tok func141 rfl rfl (dM rfl) rfl (fun cx hx h0 hok=>?_)
 simp only[eC,Nat.reduceAdd,dA]
 have hkM:=hok.lt hM
 have hkN:=hok.lt OZ
 have hpl:i*C+k<V.length:=by rw[hV];exact cK hi hk
 refine rs hx fun K hK=>?_
 refine sa ?_
 refine .nil (hK _ _ (rs hx fun K hK=>?_))
 refine sa ?_
 refine c1 (Pt.one _) ?_
 refine i1r (i:=i) (j:=k) hk ?_
 refine l1 (Pt.el V (i*C+k) hpl) ?_
 refine cq (Nm _) ?_
 refine sa ?_
 refine sa ?_
 exact .nil (hK _ _ (AW.ret (rt1 h0 (hv:=fun j ds h=>h))))
end
end
section
def F4(C k:Nat)(V:List Nu)(n r:Nat):Int:=match Ea C k V n r with
 |some i=>(i:Int) - (r:Int)
 |none=>-1
section
variable {vs:List (Nat×List D)} {lv:List (Nat×Nat×Nat×TypeId)} {N C R kM kk kR kr kp k r i:Nat} {V:List Nu}
theorem h_IdxF(hM:vs.lookup kM=some (dC ((cW bo).f V)))(OZ:vs.lookup kk=some [dI .i64 k])(hkR:vs.lookup kR=some (jG kM C R))(hV:V.length=R*C)(hk:k<C)(hr:r<R)(hR:R≤1000000):
  HC prog 140 [.ow kR r 1 (R - r),.fn 141 [kk]] ⟨vs,lv,N⟩ (dI .i64 (F4 C k V (R - r) r)) ⟨vs,lv,N⟩:=by
 refine HC.of (rs:=[.tmp 4]) tok func140 rfl rfl (dM rfl) rfl (fun cx hx h0 hok=>?_)
 simp only[eC,Nat.reduceAdd,dA]
 have hk1:=hok.lt hM
 have D1:=hok.lt OZ
 have hk3:=hok.lt hkR
 refine rs hx fun K hK=>?_
 refine sa ?_
 refine .nil (hK _ _ (AW.seq (rs hx fun K hK=>?_)))
 refine sa ?_
 refine s1 (d:=dI .i64 ((R - r:Nat):Int)) (vI nz aF) ?_
 refine sa ?_
 refine .nil (hK _ _ (AW.block (AW.loopW (fun i:Nat=>[(0,.ow kR r 1 (R - r)),(1,.fn 141 [kk]),(7,dI .i64 ((R - r:Nat):Int)),(8,dI .i64 (i:Nat))]) (fun _=>⟨vs,lv,N⟩) (fun i=>i≤R - r∧Ea C k V (R - r) r=Ea C k V (R - r - i) (r+i)) (fun i=>R - r - i) 0 ?_ ⟨fH _,rfl⟩ ?_)))
 ·exact wk1 h0 (hv:=fun j ds h=>h)
 ·rintro i ⟨hi,hf⟩
  refine rs hx fun K hK=>?_
  refine sa ?_
  refine .nil (hK _ _ (AW.seq (AW.condS rfl (fun hb=>?_) (fun hb=>?_))))
  ·have Mw:i<R - r:=by have:=xz hb;omega
   refine AW.skip (AW.seq (AW.block (rs hx fun K hK=>?_)))
   iterate 2 refine sa ?_
   refine .nil (hK _ _ (rs hx fun K hK=>?_))
   iterate 3 refine sa ?_
   refine wU (k:=kR) (o:=r) (i:=i) (n:=R - r) Mw ?_
   refine c1 (Pt.row (kM:=kM) (C:=C) (n:=R) (i:=r+i) (by omega)) ?_
   refine q1 (sHF (h_pred hM OZ hV (show r+i<R by omega) hk) rfl) ?_
   refine .nil (hK _ _ ?_)
   obtain⟨m,hm⟩:∃m,R - r - i=m+1:=⟨R - r - i - 1,by omega⟩
   rw[hm] at hf
   refine AW.condS rfl (fun hb=>?_) (fun hb=>?_)
   ·refine rs hx fun K hK=>?_
    iterate 2 refine sa ?_
    refine .nil (hK _ _ (AW.ret ?_))
    have he:F4 C k V (R - r) r=(i:Int):=by
     unfold F4
     rw[hf];unfold Ea
     rw[aQ (xz hb)]
     show ((r+i:Nat):Int) - (r:Int)=i
     omega
    rw[he]
    exact rt1 h0 (hv:=fun j ds h=>h)
   ·refine AW.skip (rq hx fun K hK=>?_)
    iterate 2 refine sa ?_
    refine .nil (hK _ _ ?_)
    rw[oF]
    refine⟨i+1,wk1 h0 (hv:=fun j ds h=>h),⟨Mw,?_⟩,by omega⟩
    rw[hf]
    conv=>lhs;unfold Ea
    rw[aV (Bh hb),show R - r - (i+1)=m by omega]
    rfl
  ·refine AW.exit ?_
   have Mw:i=R - r:=by have:=Bh hb;omega
   subst Mw
   refine rs hx fun K hK=>?_
   refine sa ?_
   refine .nil (hK _ _ (AW.ret ?_))
   have he:F4 C k V (R - r) r=-1:=by
    unfold F4
    rw[hf,Nat.sub_self];rfl
   rw[he]
   exact rt1 h0 (hv:=fun j ds h=>h)
theorem Ia {f:FuncId}{ks:List Nat}{h:List Nu→Nat→Nu}(hM:vs.lookup kM=some (dC ((cW bo).f V)))(Mv:∀j∈ks,j<N)(hV:V.length=R*C)(hi:i<R)(hC:C≤1000000)
  (hf:∀(U:List Nu) j,j<C→U.length=R*C→HC prog f ([dI .i64 j]++ks.map fun k=>.pt k 0) ⟨(kM,dC ((cW bo).f U))::vs,lv,N⟩ (dG bo (h U j)) ⟨(kM,dC ((cW bo).f U))::vs,lv,N⟩):
  HC prog 142 [.ow kM (i*C*36) 36 C,.fn f ks] ⟨vs,lv,N⟩ (.tu []) ⟨(kM,dC ((cW bo).f (Bf V (i*C) h C)))::vs,lv,N⟩:=by
 refine HC.of (rs:=[]) tok func142 rfl rfl (dM rfl) rfl (fun cx hx h0 hok=>?_)
 simp only[eC,Nat.reduceAdd,dA]
 have hk1:=hok.lt hM
 have Mp:∀U:List Nu,fW ⟨(kM,dC ((cW bo).f U))::vs,lv,N⟩:=fun U=>hok.consM hk1 (pM _)
 have O5:D.idsB N (.fn f ks)=true:=eS.2 fun k hk=>iP (Mv k hk)
 refine rs hx fun K hK=>?_
 refine sa ?_
 refine s1 (d:=dI .i64 (C:Nat)) (vI aF ax) ?_
 refine sa ?_
 refine .nil (hK _ _ (AW.block (AW.loopW (fun j:Nat=>[(0,.ow kM (i*C*36) 36 C),(1,.fn f ks),(6,dI .i64 (C:Nat)),(7,dI .i64 (j:Nat))]) (fun j=>⟨(kM,dC ((cW bo).f (Bf V (i*C) h j)))::vs,lv,N⟩) (fun j=>j≤C) (fun j=>C - j) 0 ?_ (fH _) ?_)))
 ·exact wk1 h0 (hok:=Mp _) (hv:=fun j ds h=>by
   rcases eG h with⟨rfl,rfl⟩|⟨hj,h⟩
   ·exact hM
   ·exact h)
 ·intro j hj
  refine rs hx fun K hK=>?_
  refine sa ?_
  refine .nil (hK _ _ (AW.seq (AW.condS rfl (fun hb=>?_) (fun hb=>?_))))
  ·have FK:j<C:=by have:=xz hb;omega
   have hlen:(Bf V (i*C) h j).length=R*C:=by rw[vf,hV]
   have hpl:i*C+j<(Bf V (i*C) h j).length:=by rw[hlen];exact cK hi FK
   refine AW.skip (AW.seq (AW.block (rs hx fun K hK=>?_)))
   iterate 2 refine sa ?_
   refine .nil (hK _ _ (rq hx fun K hK=>?_))
   iterate 4 refine sa ?_
   refine q1 (sHF (hf _ j FK hlen) rfl) ?_
   refine i1r (i:=i) (j:=j) FK ?_
   refine t1 (Pt.el _ (i*C+j) hpl) (Pt.el_set _ (i*C+j) hpl _) ?_
   refine .nil (hK _ _ (rq hx fun K hK=>?_))
   iterate 2 refine sa ?_
   refine .nil (hK _ _ ?_)
   rw[oF]
   refine⟨j+1,wk1 h0 (hok:=Mp _) (hv:=fun j' ds h=>by
    rcases eG h with⟨rfl,rfl⟩|⟨hj,h⟩
    ·exact ak
    ·exact ar hj (ar hj h)),FK,by omega⟩
  ·refine AW.exit ?_
   have FK:j=C:=by have:=Bh hb;omega
   subst FK
   exact⟨_,wkS (by rw[h0];exact bI N) (bI N) (Mp _) (fun j ds h=>h) pX.nil,rfl⟩
end
end
section
def pvD(p:Pv):List D:=[dI .i64 p.col]++dC (bo.f p.by')++[dB p.mov]
theorem Bp(p:Pv):(pvD p).length=38:=by unfold pvD;simp only[fg,rt];rfl
theorem pvD_by {p:Pv}:Pt (pvD p) (0+1) (dC (bo.f p.by')) (fun ys=>[dI .i64 p.col]++ys++[dB p.mov]):=Pt.of [dI .i64 p.col] [dB p.mov] rfl (by unfold pvD;simp only[gr]) fun y=>rfl
section
variable {vs:List (Nat×List D)} {lv:List (Nat×Nat×Nat×TypeId)} {N C R kM krs kR kr kp kl kx k r i j:Nat} {V:List Nu} {p:Pv} {b:Nu}
theorem h_by3(hM:vs.lookup kM=some (dC ((cW bo).f V)))(hrs:vs.lookup krs=some [.gw kR 1 R])(hkr:vs.lookup kr=some [dI .i64 r])(hkp:vs.lookup kp=some (pvD p))(hkR:vs.lookup kR=some (jG kM C R))(hV:V.length=R*C)(hj:j<C)(hr:r<R):
  HC prog 143 ([dI .i64 j]++[krs,kr,kp].map fun k=>.pt k 0) ⟨vs,lv,N⟩ (dG bo (HG V[r*C+j]! p.by')) ⟨vs,lv,N⟩:=by
 refine HC.forget (vars:=(N,dC (bo.f (HG V[r*C+j]! p.by')))::vs) (n:=N+1) ?_ (fun j ds hj h=>ar (by omega) h) (pM _)
 refine HC.of (rs:=[.cell 5 34]) tok func143 rfl rfl (dM rfl) rfl (fun cx hx h0 hok=>?_)
 simp only[eC,cl,bN,IB,pB,Nat.reduceAdd,dA]
 have h1:=hok.lt hM
 have h2:=hok.lt hrs
 have h3:=hok.lt hkr
 have h4:=hok.lt hkp
 have h5:=hok.lt hkR
 refine rs hx fun K hK=>?_
 refine n1 ?_
 refine .nil (hK _ _ (rsd [144] hx fun K hK=>?_))
 refine c1 (Pt.one _) ?_
 refine c1 (Pt.one _) ?_
 refine wU (k:=kR) (o:=0) (i:=r) (n:=R) hr ?_
 rw[dA]
 refine c1 (Pt.row (kM:=kM) (C:=C) (n:=R) (i:=r) hr) ?_
 refine sa ?_
 refine i1r (i:=r) (j:=j) hj ?_
 refine l1 (Pt.el V (r*C+j) (by rw[hV];exact cK hr hj)) ?_
 refine sa ?_
 refine l1 (pvD_by (p:=p)) ?_
 refine cq (w_Div _ _) ?_
 refine z1 ?_
 refine .nil (hK _ _ (AW.ret ?_))
 exact rtN1 h0 (by omega) (fW.consM (hok.up (by omega)) (by omega) (pM _)) (bI _) (fun j ds h=>by
  rcases eG h with⟨rfl,rfl⟩|⟨hj,h⟩
  ·exact ak
  ·have:=hok.lt h
   exact ar hj (ar hj h)) ak rfl
theorem h_by4(hM:vs.lookup kM=some (dC ((cW bo).f V)))(hkl:vs.lookup kl=some [.ow kM (i*C*36) 36 C])(hkx:vs.lookup kx=some (dC (bo.f b)))(hrs:vs.lookup krs=some [.gw kR 1 R])(hkr:vs.lookup kr=some [dI .i64 r])(hkR:vs.lookup kR=some (jG kM C R))(hV:V.length=R*C)(hj:j<C)(hr:r<R)(hi:i<R):
  HC prog 145 ([dI .i64 j]++[kl,kx,krs,kr].map fun k=>.pt k 0) ⟨vs,lv,N⟩ (dG bo (HF V[i*C+j]! (uG b V[r*C+j]!))) ⟨vs,lv,N⟩:=by
 refine HC.forget (vars:=(N,dC (bo.f (HF V[i*C+j]! (uG b V[r*C+j]!))))::vs) (n:=N+1) ?_ (fun j ds hj h=>ar (by omega) h) (pM _)
 refine HC.of (rs:=[.cell 6 34]) tok func145 rfl rfl (dM rfl) rfl (fun cx hx h0 hok=>?_)
 simp only[eC,cl,bN,IB,pB,Nat.reduceAdd,dA]
 have h1:=hok.lt hM
 have h2:=hok.lt hrs
 have h3:=hok.lt hkr
 have h4:=hok.lt hkl
 have h5:=hok.lt hkR
 have h6:=hok.lt hkx
 refine rs hx fun K hK=>?_
 refine n1 ?_
 refine .nil (hK _ _ (rsd [40,146] hx fun K hK=>?_))
 refine c1 (Pt.one _) ?_
 refine sa ?_
 refine i1r (i:=i) (j:=j) hj ?_
 refine l1 (Pt.el V (i*C+j) (by rw[hV];exact cK hi hj)) ?_
 refine l1 (Pt.idN b) ?_
 refine c1 (Pt.one _) ?_
 refine c1 (Pt.one _) ?_
 refine wU (k:=kR) (o:=0) (i:=r) (n:=R) hr ?_
 rw[dA]
 refine c1 (Pt.row (kM:=kM) (C:=C) (n:=R) (i:=r) hr) ?_
 refine sa ?_
 refine i1r (i:=r) (j:=j) hj ?_
 refine l1 (Pt.el V (r*C+j) (by rw[hV];exact cK hr hj)) ?_
 refine cq (w_Mul _ _) ?_
 refine cq (w_Sub _ _) ?_
 refine z1 ?_
 refine .nil (hK _ _ (AW.ret ?_))
 exact rtN1 h0 (by omega) (fW.consM (hok.up (by omega)) (by omega) (pM _)) (bI _) (fun j ds h=>by
  rcases eG h with⟨rfl,rfl⟩|⟨hj,h⟩
  ·exact ak
  ·have:=hok.lt h
   exact ar hj (ar hj h)) ak rfl
end
end
section
theorem T_bldPv {dr:Bool}{ty:TypeId}{ev:Operand→D}{hp:Hp}{x y z:Operand}{p:Pv}(hx:ev x=dI .i64 p.col:=by exact rfl)(hy:ev y=dG bo p.by':=by exact rfl)(hz:ev z=dB p.mov:=by exact rfl):AVC prog tbl dr (.build 102 #[(0,x),(1,y),(2,z)]) ty ev hp (Kq (.ag (pvD p)) hp):=by
 have h0:([(0,x),(1,y),(2,z)]:List (Nat×Operand)).map (fun p=>(p.1,ev p.2))=[(0,dI .i64 p.col),(1,dG bo p.by'),(2,dB p.mov)]:=by simp only[bN,cl,hx,hy,hz]
 rw[show (#[(0,x),(1,y),(2,z)]:Array (Nat×Operand))=([(0,x),(1,y),(2,z)]:List (Nat×Operand)).toArray from rfl,yD,h0,we,jS]
 have hp:kX [(0,dI .i64 p.col),(1,dG bo p.by'),(2,dB p.mov)]=some [(0,[dI .i64 p.col]),(1,dC (bo.f p.by')),(2,[dB p.mov])]:=rfl
 rw[hp]
 dsimp only
 refine⟨by decide,?_⟩
 have hz:∀zs:List D,zs.length=38→gJ (qB tbl [(0,3),(1,34),(37,4)]) zs [(0,[dI .i64 p.col]),(1,dC (bo.f p.by')),(2,[dB p.mov])]=some (pvD p):=fun zs hzs=>by
  have p0:qB tbl [(0,3),(1,34),(37,4)] 0=some (0,1):=rfl
  have p1:qB tbl [(0,3),(1,34),(37,4)] 1=some (1,36):=rfl
  have p2:qB tbl [(0,3),(1,34),(37,4)] 2=some (37,1):=rfl
  obtain⟨z0,zr,rfl⟩:∃z0 zr,zs=z0::zr:=by
   cases zs with
   |nil=>cases hzs
   |cons a b=>exact⟨a,b,rfl⟩
  have hzr:zr.length=37:=by simpa using hzs
  have hl:=rt p.by'
  simp only[gJ,p0,p1,p2,hl]
  rw[aV (by simp[hzr]),aV (by simp[hzr]),aV (by simp[hzr,hl])]
  unfold pvD
  have e1:(List.take 0 (z0::zr)++[dI IntKind.i64 (p.col:Int)]++List.drop (0+[dI IntKind.i64 (p.col:Int)].length) (z0::zr))=dI .i64 p.col::zr:=rfl
  rw[e1]
  have e2:List.take 1 (dI IntKind.i64 (p.col:Int)::zr)=[dI .i64 p.col]:=rfl
  have e3:List.drop (1+36) (dI IntKind.i64 (p.col:Int)::zr)=zr.drop 36:=rfl
  rw[e2,e3]
  have h37:([dI IntKind.i64 (p.col:Int)]++dC (bo.f p.by')).length=37:=by rw[fg,hl];rfl
  rw[AP (by rw[h37];exact bI _),kO (by rw[h37];exact bI _),CV (by rw[fg,h37,gY,hzr];exact bI _),vo]
 rw[hz _ (by rfl)]
 exact Kq.here _ _
section
variable {kM R C:Nat}
theorem mat_R:Pt (mu kM R C) (0+0) [dI .i64 R] (fun ys=>ys++[dI .i64 C,ix kM (R*C)]):=Pt.of [] [dI .i64 C,ix kM (R*C)] rfl rfl fun y=>rfl
theorem Oe:Pt (mu kM R C) (0+1) [dI .i64 C] (fun ys=>[dI .i64 R]++ys++[ix kM (R*C)]):=Pt.of [dI .i64 R] [ix kM (R*C)] rfl rfl fun y=>rfl
theorem mat_D:Pt (mu kM R C) (0+2) [ix kM (R*C)] (fun ys=>[dI .i64 R,dI .i64 C]++ys++[]):=Pt.of [dI .i64 R,dI .i64 C] [] rfl rfl fun y=>rfl
theorem Hy(k n:Nat):D.cells (qL k n)=some [qL k n]:=by unfold qL;split <;> rfl
theorem L8 {k n M:Nat}(h:k<M):D.idsC M (qL k n)=true:=by
 unfold qL
 split
 ·rfl
 ·exact iP h
end
structure Kept(W:List Nat)(hp hp':Hp):Prop where
 ok:fW hp'
 next:hp.next≤hp'.next
 vars:∀j ds,j∉W→hp.vars.lookup j=some ds→hp'.vars.lookup j=some ds
structure StH(E kM k0 R C r k kk:Nat)(V:List Nu)(hp:Hp):Prop where
 ok:fW hp
 nx:E+6≤kk
 kn:kk<hp.next
 len:V.length=R*C
 hM:0<R→0<C→hp.vars.lookup kM=some (dC ((cW bo).f V))
 h0:hp.vars.lookup k0=some (mu kM R C)
 hr:hp.vars.lookup (E+5)=some [dI .i64 r]
 hk:hp.vars.lookup kk=some [dI .i64 k]
 hrs:0<R→0<C→hp.vars.lookup (E+4)=some [.gw (E+3) 1 R]
 hR:0<R→0<C→hp.vars.lookup (E+3)=some (jG kM C R)
end
section
theorem Lm {C k:Nat}{V:List Nu}:∀{n r i:Nat},Ea C k V n r=some i→r≤i∧i<r+n
 |0,r,i,h=>by cases h
 |n+1,r,i,h=>by
  unfold Ea at h
  split at h
  ·injection h with h;omega
  ·have:=Lm h;omega
theorem Hz {R C n k r:Nat}{V:List Nu}{acc:List Pv}(h:n=0∨¬r<R):oB R C n k r V acc=some (V,acc):=by
 cases n with
 |zero=>rfl
 |succ n=>
  unfold oB
  rcases h with h|h
  ·cases h
  ·rw[aV h]
section
variable {I5:List (Nat×List D)} {Oi:List (Nat×Nat×Nat×TypeId)} {E B kM k0 k4 R C:Nat} {p:Tmp} {Nt:Nat} {MN bod:Code} {tm0:List (Nat×D)} {J:List Pv→Hp→Prop} {S:Hp→Prop} {V0:List Nu}
def TH(l E k0 kk:Nat):List (Nat×D):=[(0,.e (.lit (.func (.yield l) #[] #[]))),(1,.pt k0 0),(3,.pt (E+4) 0),(4,.pt (E+5) 0),(5,.pt kk 0)]
theorem Oq(hkM:kM<E)(hk0:k0<E)(hk4:k4<E)(h4M:k4≠kM)(h40:k4≠k0)(hM0:kM≠k0)
  (FV:V0.length=R*C) (M8:R*C≤1000000) (hR:R≤1000000) (hC:C≤1000000)
  (hM:0<R→0<C→I5.lookup kM=some (dC ((cW bo).f V0))) (h0:I5.lookup k0=some (mu kM R C))
  (yw:∀k ds,I5.lookup k=some ds→ds.all D.noO=true)
  (hpN:p<Nt) (hJ0:J [] ⟨I5,Oi,E⟩)
  (hJ:∀acc vs oy lv N N',J acc ⟨vs,lv,N⟩→N≤N'→E≤N→(∀j ds,j≠kM→j<E→vs.lookup j=some ds→oy.lookup j=some ds)→J acc ⟨oy,lv,N'⟩)
  (hrd:∀V acc pv hp,0<R→acc.length<C→V.length=R*C→fW hp→hp.vars.lookup kM=some (dC ((cW bo).f V))→J acc hp→RdOk prog Nt p MN bod tm0 hp (.ag (pvD pv)) (fun hp'=>V.all cM=true∧Kept [k4] hp hp'∧J (acc++[pv]) hp') (fun hp'=>V.all cM=false∧S hp')):
  KL prog 137 [k0] B ⟨I5,Oi,E⟩ p Nt MN bod tm0 (fun hp=>∃V acc,oB R C C 0 0 V0 []=some (V,acc)∧fW hp∧(0<R→0<C→hp.vars.lookup kM=some (dC ((cW bo).f V)))∧J acc hp) (fun hp=>oB R C C 0 0 V0 []=none∧S hp):=by
 refine KL.of func137 rfl (dM rfl) rfl hpN (by simp[hk0]) (fun g w l rec x hB zc hg0 hw0 J0 hN sS hok hmk=>?_)
 simp only[bN,cl,eC,Nat.reduceAdd,dA]
 obtain⟨R1,C1,hC1,hR1,hC1p,hC1le,hR1le⟩:∃R1 C1,C1=max 1 C∧R1*C1=R*C∧1≤C1∧C1≤1000000∧(0<C→C1=C∧R1=R):=by
  rcases kN C with h|h
  ·exact⟨0,max 1 C,rfl,by rw[h,gb,LI],LH _ _,by omega,fun h'=>by omega⟩
  ·exact⟨R,max 1 C,rfl,by rw[show max 1 C=C by omega],LH _ _,by omega,fun _=>⟨by omega,rfl⟩⟩
 have hmx:max (1:Int) (C:Int)=((C1:Nat):Int):=by omega
 refine vrs hN fun K hK=>?_
 refine sa ?_
 refine c1 mat_D ?_
 refine sa ?_
 refine c1 Oe ?_
 refine sa ?_
 rw[hmx]
 have hch:=h_Chunk (vs:=I5) (lv:=Oi) (N:=E) (dV:=ix kM (R*C)) hC1p hC1le (BZ hkM _) (Jo _ _)
 refine q1s (d:=.fn 174 [E,E+1]) (hp':=⟨(E+1,[dI .i64 C1])::(E,[ix kM (R*C)])::I5,Oi,E+1+1⟩) (Mf rfl hch rfl) ?_
 have hcol:=MD (vs:=(E+1,[dI .i64 C1])::(E,[ix kM (R*C)])::I5) (lv:=Oi) (N:=E+1+1) (R:=R1) (C:=C1) (kM:=kM) (ks:=E) (kn:=E+1) hC1p (by rw[hR1];exact M8) hC1le (by rw[hR1];exact ar (by omega) ak) ak (by omega) (fun k ds hk=>by
  rcases eG hk with⟨rfl,rfl⟩|⟨_,hk⟩
  ·rfl
  rcases eG hk with⟨rfl,rfl⟩|⟨_,hk⟩
  ·unfold ix;split <;> rfl
  ·exact yw k ds hk)
 refine q1s (d:=qL (E+3) R1) (hp':=⟨sb (E+3) kM C1 R1 ((E+1,[dI .i64 C1])::(E,[ix kM (R*C)])::I5),Oi,E+4⟩) (Mf rfl hcol rfl) ?_
 obtain⟨VR,hVR⟩:∃VR,VR=sb (E+3) kM C1 R1 ((E+1,[dI .i64 C1])::(E,[ix kM (R*C)])::I5):=⟨_,rfl⟩
 rw[←hVR]
 have hokC:fW ⟨(E+1,[dI .i64 C1])::(E,[ix kM (R*C)])::I5,Oi,E+4⟩:=((hok.up (M:=E+4) (by omega)).consM (by omega) (by simp[BZ (show kM<E+4 by omega)])).consM (by omega) (by rfl)
 have hokR:fW ⟨VR,Oi,E+4⟩:=by
  rw[hVR];unfold sb
  split
  ·exact hokC
  ·exact hokC.consM (by omega) (sZ (by omega))
 have hoR:∀j ds,j<E→I5.lookup j=some ds→VR.lookup j=some ds:=fun j ds hj h=>by
  rw[hVR];unfold sb
  split
  ·exact ar (by omega) (ar (by omega) h)
  ·exact ar (by omega) (ar (by omega) (ar (by omega) h))
 have hRR:0<R→0<C→qL (E+3) R1=.gw (E+3) 1 R∧VR.lookup (E+3)=some (jG kM C R):=fun h1 h2=>by
  obtain⟨e1,e2⟩:=hR1le h2
  subst e1 e2
  refine⟨ifn_,?_⟩
  rw[hVR];unfold sb
  rw[ifn_]
  exact ak
 refine a1 nz (hz:=rfl) ?_
 refine v1 (k:=E+4) (F:=[D.e (.lit (.slice none 0 0))]) (ys:=[qL (E+3) R1]) (Pt.one _) rfl rfl rfl ?_ rfl ak (Hy _ _)
 refine .nil (hK _ _ (vrs hN fun K hK=>?_))
 refine a1 aT (hz:=rfl) ?_
 refine v1 (k:=E+5) (ys:=[dI .i64 0]) (Pt.one _) rfl rfl rfl ?_ rfl ak rfl
 refine .nil (hK _ _ (vrs hN fun K hK=>?_))
 refine a1 aT (hz:=rfl) ?_
 refine v1 (k:=E+6) (ys:=[dI .i64 0]) (Pt.one _) rfl rfl rfl ?_ rfl ak rfl
 refine .nil (hK _ _ (AV.block ?_))
 refine AV.loop (fun n tm hp=>∃k r V acc kk,n=C - k∧k≤C∧tm=TH l E k0 kk∧StH E kM k0 R C r k kk V hp∧J acc hp∧acc.length≤k∧oB R C C 0 0 V0 []=oB R C (C - k) k r V acc) (n:=C) (Wk.tmS (tm':=TH l E k0 (E+6)) (tin (tin (tin (tin (tin L5)))))) ?_ ?_
 ·refine⟨0,0,V0,[],E+6,rfl,fH _,rfl,⟨?_,bI _,eR _,FV,fun h1 h2=>?_,?_,?_,?_,fun h1 h2=>?_,fun h1 h2=>?_⟩,?_,bI _,rfl⟩
  ·exact (((((hokR.up (M:=E+7) (by omega)).consM (by omega) (by rfl)).consM (by omega) (by simp[L8 (show E+3<E+7 by omega)])).consM (by omega) (by rfl)).consM (by omega) (by rfl)).consM (by omega) (by rfl) |>.consM (by omega) (by rfl)
  ·exact ar (by omega) (ar (by omega) (ar (by omega) (ar (by omega) (ar (by omega) (ar (by omega) (hoR _ _ hkM (hM h1 h2)))))))
  ·exact ar (by omega) (ar (by omega) (ar (by omega) (ar (by omega) (ar (by omega) (ar (by omega) (hoR _ _ hk0 h0))))))
  ·exact ar (by omega) (ar (by omega) ak)
  ·exact ak
  ·rw[←(hRR h1 h2).1]
   exact ar (by omega) (ar (by omega) (ar (by omega) (ar (by omega) ak)))
  ·exact ar (by omega) (ar (by omega) (ar (by omega) (ar (by omega) (ar (by omega) (ar (by omega) (hRR h1 h2).2)))))
  ·refine hJ [] I5 _ Oi E _ hJ0 (by omega) (bI _) fun j ds _ hj h=>?_
   exact ar (by omega) (ar (by omega) (ar (by omega) (ar (by omega) (ar (by omega) (ar (by omega) (hoR _ _ hj h))))))
 ·rintro n tm hp ⟨k,r,V,acc,kk,rfl,hkC,rfl,⟨Mq,sR,hkkN,hlen,OA,hv0,hvr,hvk,Jz,hvR⟩,hJa,hal,qQ⟩
  obtain⟨vs,lv,N⟩:=hp
  dsimp only at hkkN OA hv0 hvr hvk Jz hvR
  refine AV.seqA ?_
  refine rs hN fun K hK=>?_
  refine c1 (Pt.one _) ?_
  refine sa ?_
  refine c1 Oe ?_
  iterate 2 refine sa ?_
  rcases aW (decide ((k:Int)<(C:Int))) with hb|hb
  ·refine c1g (Pt.one _) hb ?_
   refine ga hb ?_
   refine c1g mat_R hb ?_
   refine ga hb ?_
   refine s1 (am hb) ?_
   refine .nil (hK _ _ ?_)
   have JK:k<C:=by have:=xz hb;omega
   refine AW.condS rfl (fun mm=>?_) (fun mm=>?_)
   ·have FG:r<R:=by have:=xz mm;omega
    have Jz:=Jz (by omega) (by omega)
    have hvR:=hvR (by omega) (by omega)
    have OA:=OA (by omega) (by omega)
    refine AW.skip ?_
    have hkM2:kM≠kk:=by omega
    have hkMN:kM<N:=by omega
    refine AV.seq (AV.mono (Q:=fun ex a w'=>(ex=.normal∧∃r' V' MT hp',RS x (TH l E k0 kk) hp' a w'∧StH E kM k0 R C r' k kk V' hp'∧J MT hp'∧MT.length≤k+1∧oB R C C 0 0 V0 []=oB R C (C - (k+1)) (k+1) r' V' MT)∨
     (ex=.ret∧a.defers=x.df∧∃hp' g' W',w'=W'.putObj l (.loop (ru rec))∧W'.heap[l]? =some (.loop rec)∧xN B ⟨I5,Oi,E⟩ g w hp' g' W'∧oB R C C 0 0 V0 []=none∧S hp')) (AV.block ?_) ?_)
    ·refine vrsd [140] hN fun K hK=>?_
     refine c1 (Pt.one _) ?_
     refine c1 (Pt.one _) ?_
     refine c1 (Pt.one _) ?_
     refine q1 (n0.toOw (slW (l:=(r:Int)) (h:=(R:Int)) (n:=R) (k:=E+3) (off:=0) (z:=1) tok ⟨by omega,by omega,by omega,by omega⟩ nz aF ⟨.i64,rfl⟩ rfl)) ?_
     rw[show 0+((r:Nat):Int).toNat*1=r by omega,show (((R:Nat):Int) - ((r:Nat):Int)).toNat=R - r by omega]
     refine s1 (d:=.fn 141 [kk]) vH ?_
     refine q1 (sHCf (h_IdxF (kM:=kM) (kk:=kk) (kR:=E+3) (k:=k) (r:=r) (V:=V) OA hvk hvR hlen JK FG hR) rfl (Fr.refl _) (hv:=by kernel_rfl)) ?_
     iterate 2 refine sa ?_
     refine .nil (hK _ _ (AV.seqA ?_))
     refine rs hN fun K hK=>?_
     refine sa ?_
     refine c1 (Pt.one _) ?_
     refine sa ?_
     refine .nil (hK _ _ ?_)
     obtain⟨m,hm⟩:∃m,C - k=m+1:=⟨C - k - 1,by omega⟩
     have Mt:C - (k+1)=m:=by omega
     rcases hf:Ea C k V (R - r) r with _|i
     ·have hv:F4 C k V (R - r) r=-1:=by unfold F4;rw[hf]
      rw[hv,rS (by omega) (by omega)]
      refine AW.condT rfl (det_) (AW.exit ?_)
      intro a w hr
      refine .inl ⟨rfl,r,V,acc,_,Wk.tmS (tin (tin (tin (tin (tin L5))))) a w hr,⟨Mq,sR,hkkN,hlen,fun _ _=>OA,hv0,hvr,hvk,fun _ _=>Jz,fun _ _=>hvR⟩,hJa,by omega,?_⟩
      rw[qQ,hm,Mt]
      conv=>lhs;unfold oB
      rw[aQ FG,hf]
     ·obtain⟨hri,hiR⟩:=Lm hf
      have hiR:i<R:=by omega
      have hv:F4 C k V (R - r) r=(i:Int) - (r:Int):=by unfold F4;rw[hf]
      rw[hv,show (r:Int)+((i:Int) - (r:Int))=(i:Int) by omega,rS (by omega) (by omega)]
      refine AW.condF rfl (def_) (AW.skip (AV.seqA ?_))
      refine rs hN fun K hK=>?_
      refine sa ?_
      refine c1 Oe ?_
      refine sa ?_
      refine .nil (hK _ _ (AW.block ?_))
      have Mp:∀U:List Nu,fW ⟨(kM,dC ((cW bo).f U))::vs,lv,N⟩:=fun U=>Mq.consM hkMN (pM _)
      refine AW.loopW (fun j:Nat=>[(0,.e (.lit (.func (.yield l) #[] #[]))),(1,.pt k0 0),(3,.pt (E+4) 0),(4,.pt (E+5) 0),(5,.pt kk 0),(6,dI .i64 (i:Nat)),(43,dI .i64 (C:Nat)),(44,dI .i64 (j:Nat))]) (fun j=>⟨(kM,dC ((cW bo).f (qh C V i r j)))::vs,lv,N⟩) (fun j=>j≤C) (fun j=>C - j) 0 ?_ (fH _) ?_
      ·exact wk1 zc (hok:=Mp _) (hv:=fun j ds h=>by
        rcases eG h with⟨rfl,rfl⟩|⟨hj,h⟩
        ·exact OA
        ·exact h)
      ·intro j hj
       refine rs hN fun K hK=>?_
       refine sa ?_
       refine .nil (hK _ _ (AW.seq (AW.condS rfl (fun a8=>?_) (fun a8=>?_))))
       ·have FK:j<C:=by have:=xz a8;omega
        have hlU:(qh C V i r j).length=R*C:=by rw[vU,hlen]
        have hp1:i*C+j<(qh C V i r j).length:=by rw[hlU];exact cK hiR FK
        have cf:r*C+j<(qh C V i r j).length:=by rw[hlU];exact cK FG FK
        have hp3:r*C+j<((qh C V i r j).set (i*C+j) (qh C V i r j)[r*C+j]!).length:=by rw[CK];exact cf
        refine AW.skip (AW.seq (AW.block (rs hN fun K hK=>?_)))
        iterate 2 refine sa ?_
        refine .nil (hK _ _ (rqd [] hN fun K hK=>?_))
        refine c1 (Pt.one _) ?_
        refine sa ?_
        refine wU (k:=E+3) (o:=0) (i:=i) (n:=R) hiR ?_
        rw[dA]
        refine c1 (Pt.row (kM:=kM) (C:=C) (n:=R) (i:=i) hiR) ?_
        refine sa ?_
        refine c1 (Pt.one _) ?_
        refine c1 (Pt.one _) ?_
        refine wU (k:=E+3) (o:=0) (i:=r) (n:=R) FG ?_
        rw[dA]
        refine c1 (Pt.row (kM:=kM) (C:=C) (n:=R) (i:=r) FG) ?_
        refine sa ?_
        refine c1 (Pt.one _) ?_
        refine c1 (Pt.one _) ?_
        refine wU (k:=E+3) (o:=0) (i:=r) (n:=R) FG ?_
        rw[dA]
        refine c1 (Pt.row (kM:=kM) (C:=C) (n:=R) (i:=r) FG) ?_
        refine sa ?_
        refine i1r (i:=r) (j:=j) FK ?_
        refine l1 (Pt.el _ (r*C+j) cf) ?_
        refine c1 (Pt.one _) ?_
        refine sa ?_
        refine wU (k:=E+3) (o:=0) (i:=i) (n:=R) hiR ?_
        rw[dA]
        refine c1 (Pt.row (kM:=kM) (C:=C) (n:=R) (i:=i) hiR) ?_
        refine sa ?_
        refine i1r (i:=i) (j:=j) FK ?_
        refine l1 (Pt.el _ (i*C+j) hp1) ?_
        refine i1r (i:=i) (j:=j) FK ?_
        refine t1 (Pt.el _ (i*C+j) hp1) (Pt.el_set _ (i*C+j) hp1 _) ?_
        refine i1r (i:=r) (j:=j) FK ?_
        refine t1 (Pt.el _ (r*C+j) hp3) (Pt.el_set _ (r*C+j) hp3 _) ?_
        refine .nil (hK _ _ (rq hN fun K hK=>?_))
        iterate 2 refine sa ?_
        refine .nil (hK _ _ ?_)
        rw[oF]
        refine⟨j+1,wk1 zc (hok:=Mp _) (hv:=fun j' ds h=>by
         rcases eG h with⟨rfl,rfl⟩|⟨hj,h⟩
         ·exact ak
         ·exact ar hj (ar hj (ar hj h))),FK,by omega⟩
       ·refine AW.exit ?_
        have FK:j=C:=by have:=Bh a8;omega
        rw[FK]
        clear a8 hj FK
        have EI:(qh C V i r C).length=R*C:=by rw[vU,hlen]
        have hp1:r*C+k<(qh C V i r C).length:=by rw[EI];exact cK FG JK
        refine vrsd [] hN fun K hK=>?_
        refine c1 (Pt.one _) ?_
        refine c1 (Pt.one _) ?_
        refine c1 (Pt.one _) ?_
        refine wU (k:=E+3) (o:=0) (i:=r) (n:=R) FG ?_
        rw[dA]
        refine c1 (Pt.row (kM:=kM) (C:=C) (n:=R) (i:=r) FG) ?_
        refine c1 (Pt.one _) ?_
        refine i1r (i:=r) (j:=k) JK ?_
        refine l1 (Pt.el _ (r*C+k) hp1) ?_
        refine sa ?_
        refine c1 (Pt.one _) ?_
        refine sa ?_
        obtain⟨pv,hpv⟩:∃pv:Pv,pv=⟨k,byN C k i r V,decide (i≠r)⟩:=⟨_,rfl⟩
        refine s1 (d:=.ag (pvD pv)) (T_bldPv (p:=pv) (by rw[hpv];rfl) (by rw[hpv];rfl) (by rw[hpv];exact congrArg (fun b=>dB b) (mJ.2 (by omega)))) ?_
        refine a1 jS (hz:=rfl) ?_
        refine v1 (k:=N) (ys:=pvD pv) (F2:=pvD pv) Pt.all (by exact rfl) (by exact Bp pv) rfl ?_ rfl ak rfl (ht:=jS)
        refine .nil (hK _ _ (vrs hN fun K hK=>?_))
        refine s1 (d:=.e (.lit (.func (.func 142) #[] #[]))) IF ?_
        refine .nil (hK _ _ (vrs hN fun K hK=>?_))
        refine sa ?_
        refine c1 (Pt.one _) ?_
        refine c1 (Pt.one _) ?_
        refine wU (k:=E+3) (o:=0) (i:=r) (n:=R) FG ?_
        rw[dA]
        refine c1 (Pt.row (kM:=kM) (C:=C) (n:=R) (i:=r) FG) ?_
        refine s1 (d:=.fn 143 [E+4,E+5,N]) vH ?_
        refine q1 (sHC (Ia (kM:=kM) (i:=r) (V:=qh C V i r C) (R:=R) (h:=fun U j=>HG U[r*C+j]! pv.by') (ar (by omega) (ar (by omega) ak)) (fun j hj=>by simp at hj;rcases hj with rfl|rfl|rfl <;> omega) EI FG hC (fun U j hj hU=>h_by3 (kM:=kM) (krs:=E+4) (kr:=E+5) (kp:=N) (kR:=E+3) (p:=pv) ak (ar (by omega) (ar (by omega) (ar (by omega) (ar (by omega) Jz)))) (ar (by omega) (ar (by omega) (ar (by omega) (ar (by omega) hvr)))) (ar (by omega) ak) (ar (by omega) (ar (by omega) (ar (by omega) (ar (by omega) hvR)))) hU hj FG)) rfl (.inl (by kernel_rfl))) ?_
        refine .nil (hK _ _ ?_)
        obtain⟨U2,hU2⟩:∃U2,U2=Bf (qh C V i r C) (r*C) (fun U j=>HG U[r*C+j]! pv.by') C:=⟨_,rfl⟩
        rw[←hU2]
        have A7:U2.length=R*C:=by rw[hU2,vf,EI]
        have hstep:mb C k r U2 R=yh R C k i r V:=by rw[hU2,hpv];rfl
        have zX:∀U:List Nu,fW ⟨(kM,dC ((cW bo).f U))::(N,pvD pv)::vs,lv,N+1⟩:=fun U=>((Mq.up (M:=N+1) (gM _)).consM (eR _) (by unfold pvD;rw[yI,yI,pM];rfl)).consM (by omega) (pM _)
        refine AV.weak (hp':=⟨(kM,dC ((cW bo).f U2))::(N,pvD pv)::vs,lv,N+1⟩) (tm':=[(0,.e (.lit (.func (.yield l) #[] #[]))),(1,.pt k0 0),(3,.pt (E+4) 0),(4,.pt (E+5) 0),(5,.pt kk 0),(8,.pt N 0),(9,.e (.lit (.func (.func 142) #[] #[])))]) (wk1 zc (hok:=zX _) (hv:=fun j ds h=>by
         rcases eG h with⟨rfl,rfl⟩|⟨hj,h⟩
         ·exact ak
         rcases eG h with⟨rfl,rfl⟩|⟨GW,h⟩
         ·exact ar hj ak
         ·exact ar hj (ar GW (ar GW (ar hj h))))) ?_
        have g1:∀U:List Nu,((kM,dC ((cW bo).f U))::(N,pvD pv)::vs).lookup (E+4)=some [.gw (E+3) 1 R]:=fun U=>ar (by omega) (ar (by omega) Jz)
        have g2:∀U:List Nu,((kM,dC ((cW bo).f U))::(N,pvD pv)::vs).lookup (E+5)=some [dI .i64 r]:=fun U=>ar (by omega) (ar (by omega) hvr)
        have g3:∀U:List Nu,((kM,dC ((cW bo).f U))::(N,pvD pv)::vs).lookup (E+3)=some (jG kM C R):=fun U=>ar (by omega) (ar (by omega) hvR)
        have g4:∀U:List Nu,((kM,dC ((cW bo).f U))::(N,pvD pv)::vs).lookup kk=some [dI .i64 k]:=fun U=>ar (by omega) (ar (by omega) hvk)
        refine AV.seqA ?_
        refine rs hN fun K hK=>?_
        refine c1 (Pt.one _) ?_ (hv:=g1 _)
        refine stG (d:=dI .i64 (R:Nat)) tok (vI (k:=E+3) (off:=0) (z:=1) nz aF rfl rfl) ?_
        refine sa ?_
        refine .nil (hK _ _ (AW.block (AW.loopW (fun n:Nat=>[(0,.e (.lit (.func (.yield l) #[] #[]))),(1,.pt k0 0),(3,.pt (E+4) 0),(4,.pt (E+5) 0),(5,.pt kk 0),(8,.pt N 0),(9,.e (.lit (.func (.func 142) #[] #[]))),(93,.gw (E+3) 1 R),(94,dI .i64 (R:Nat)),(95,dI .i64 (n:Nat))]) (fun n=>⟨(kM,dC ((cW bo).f (mb C k r U2 n)))::(N,pvD pv)::vs,lv,N+1⟩) (fun n=>n≤R) (fun n=>R - n) 0 ?_ (fH _) ?_)))
        ·exact wk1 zc (hok:=zX _) (hv:=fun j ds h=>h)
        ·intro n hn
         refine rs hN fun K hK=>?_
         refine sa ?_
         refine .nil (hK _ _ (AW.seq (AW.condS rfl (fun a8=>?_) (fun a8=>?_))))
         ·have OP:n<R:=by have:=xz a8;omega
          have Mu:(mb C k r U2 n).length=R*C:=by rw[vX,A7]
          have hp3:n*C+k<(mb C k r U2 n).length:=by rw[Mu];exact cK OP JK
          refine AW.skip (AW.seq (AW.block (rs hN fun K hK=>?_)))
          refine sa ?_
          refine wU (k:=E+3) (o:=0) (i:=n) (n:=R) OP ?_
          rw[dA]
          refine c1 (Pt.row (kM:=kM) (C:=C) (n:=R) (i:=n) OP) ?_ (hv:=g3 _)
          refine a1 aF (hz:=rfl) ?_
          refine sa ?_
          refine v1 (k:=N+1) (F:=[D.e (.lit (.slice none 0 0))]) (ys:=[.ow kM (n*C*36) 36 C]) (Pt.one _) rfl rfl rfl ?_ rfl ak rfl
          refine .nil (hK _ _ (rs hN fun K hK=>?_))
          refine c1 (Pt.one _) ?_
          refine c1 (Pt.one _) ?_ (hv:=ar (by omega) (ar (by omega) (g4 _)))
          refine i1r (i:=n) (j:=k) JK ?_
          refine l1 (Pt.el _ (n*C+k) hp3) ?_
          refine n1 ?_
          refine z1 ?_
          refine .nil (hK _ _ (rs hN fun K hK=>?_))
          refine sa ?_
          refine c1 (Pt.one _) ?_ (hv:=ar (by omega) (ar (by omega) (ar (by omega) (ar (by omega) (g2 _)))))
          iterate 2 refine sa ?_
          have hvT:∀(U:List Nu) (a b c d e:List D) j ds,((kM,dC ((cW bo).f U))::(N,pvD pv)::vs).lookup j=some ds→((kM,dC ((cW bo).f U))::(N+1+1,a)::(N+1+1,b)::(N+1,c)::(N+1,d)::(kM,e)::(N,pvD pv)::vs).lookup j=some ds:=fun U a b c d e j ds h=>by
           rcases eG h with⟨rfl,rfl⟩|⟨hj,h⟩
           ·exact ak
           have hjN:j<N+1:=by
            rcases eG h with⟨rfl,_⟩|⟨_,h⟩
            ·omega
            ·exact uB (Mq.lt h)
           exact ar hj (ar (by omega) (ar (by omega) (ar (by omega) (ar (by omega) (ar hj h)))))
          have hvF:∀(U:List Nu) (a b c d:List D) j ds,((kM,dC ((cW bo).f U))::(N,pvD pv)::vs).lookup j=some ds→((N+1+1,a)::(N+1+1,b)::(N+1,c)::(N+1,d)::(kM,dC ((cW bo).f U))::(N,pvD pv)::vs).lookup j=some ds:=fun U a b c d j ds h=>by
           have hjN:j<N+1:=(zX U).lt h
           exact ar (by omega) (ar (by omega) (ar (by omega) (ar (by omega) h)))
          rcases aW (decide ((n:Int)≠(r:Int))) with lz|lz
          ·have hnr:n≠r:=by have:=xz lz;omega
           refine l1g (Pt.idN _) lz ?_
           refine cqg (Nm _) lz ?_
           refine ga lz ?_
           refine s1 (am lz) ?_
           refine .nil (hK _ _ (AW.condS rfl (fun iO=>?_) (fun iO=>?_)))
           ·have e:mb C k r U2 (n+1)=Bf (mb C k r U2 n) (n*C) (fun U j=>HF U[n*C+j]! (uG (mb C k r U2 n)[n*C+k]! U[r*C+j]!)) C:=by
             conv=>lhs;unfold mb
             rw[aQ ⟨hnr,xz iO⟩]
            refine rq hN fun K hK=>?_
            refine sa ?_
            refine c1 (Pt.one _) ?_ (hv:=ar (by omega) (ar (by omega) ak))
            refine s1 (d:=.fn 145 [N+1,N+1+1,E+4,E+5]) vH ?_
            refine q1 (sHC (Ia (kM:=kM) (i:=n) (V:=mb C k r U2 n) (R:=R) (h:=fun U j=>HF U[n*C+j]! (uG (mb C k r U2 n)[n*C+k]! U[r*C+j]!)) (ar (by omega) (ar (by omega) (ar (by omega) (ar (by omega) ak)))) (fun j hj=>by simp at hj;rcases hj with rfl|rfl|rfl|rfl <;> omega) Mu OP hC (fun U j hj hU=>h_by4 (kM:=kM) (kl:=N+1) (kx:=N+1+1) (krs:=E+4) (kr:=E+5) (kR:=E+3) (i:=n) (b:=(mb C k r U2 n)[n*C+k]!) ak (ar (by omega) (ar (by omega) (ar (by omega) ak))) (ar (by omega) ak) (ar (by omega) (ar (by omega) (ar (by omega) (ar (by omega) (ar (by omega) (g1 _)))))) (ar (by omega) (ar (by omega) (ar (by omega) (ar (by omega) (ar (by omega) (g2 _)))))) (ar (by omega) (ar (by omega) (ar (by omega) (ar (by omega) (ar (by omega) (g3 _)))))) hU hj FG OP)) rfl (.inl (by kernel_rfl))) ?_
            refine .nil (hK _ _ (rq hN fun K hK=>?_))
            iterate 2 refine sa ?_
            refine .nil (hK _ _ ?_)
            rw[oF]
            refine⟨n+1,?_,OP,by omega⟩
            dsimp only
            rw[e]
            exact wk1 zc (hok:=zX _) (hv:=fun j ds h=>hvT _ _ _ _ _ _ j ds h)
           ·have e:mb C k r U2 (n+1)=mb C k r U2 n:=by
             conv=>lhs;unfold mb
             rw[aV fun h=>Bh iO h.2]
            refine AW.skip (rq hN fun K hK=>?_)
            iterate 2 refine sa ?_
            refine .nil (hK _ _ ?_)
            rw[oF]
            refine⟨n+1,?_,OP,by omega⟩
            dsimp only
            rw[e]
            exact wk1 zc (hok:=zX _) (hv:=fun j ds h=>hvF _ _ _ _ _ j ds h)
          ·have e:mb C k r U2 (n+1)=mb C k r U2 n:=by
            conv=>lhs;unfold mb
            rw[aV fun h=>by have:=Bh lz;omega]
           iterate 3 refine gn lz ?_
           refine s1 (au lz) ?_
           refine .nil (hK _ _ (AW.condF rfl rfl (AW.skip (rq hN fun K hK=>?_))))
           iterate 2 refine sa ?_
           refine .nil (hK _ _ ?_)
           rw[oF]
           refine⟨n+1,?_,OP,by omega⟩
           dsimp only
           rw[e]
           exact wk1 zc (hok:=zX _) (hv:=fun j ds h=>hvF _ _ _ _ _ j ds h)
         ·refine AW.exit ?_
          have OP:n=R:=by have:=Bh a8;omega
          rw[OP,hstep]
          clear a8 hn OP
          have hls:(yh R C k i r V).length=R*C:=by rw[Et,hlen]
          refine AV.seq ?_
          refine AV.yield (tb:=tbl) (x:=x) (l:=l) (rec:=rec) (hpE:=⟨I5,Oi,E⟩) (gE:=g) (wE:=w) 2 rfl (by rw[hN];kernel_rfl) (by kernel_rfl) ⟨zc,hg0,hw0,fun p _ hp=>by rw[J0];exact hp⟩ (fun K hK=>?_)
          refine sa ?_
          refine p1 (Pt.all (F:=pvD pv)) (Bp pv) ?_
          have hJ2:=hJ acc vs ((kM,dC ((cW bo).f (yh R C k i r V)))::(N,pvD pv)::vs) lv N (N+1) hJa (gM _) (by omega) (fun j ds hj hjE h=>ar hj (ar (by omega) h))
          refine .nil (hK _ _ _ _ _ rfl rfl (by rw[hB];exact hmk _ _ _ _ (hrd (yh R C k i r V) acc pv _ (by omega) (by omega) hls (zX _) ak hJ2)) ?_ ?_)
          ·rintro⟨v2,l2,N2⟩ a w ⟨hgd,⟨hok3,rz,hv3⟩,hJ3⟩ hr
           dsimp only at rz hv3
           show Code.wpIn (FWd none) 0 prog _ _ a w
           have kp:∀j ds,j≠k4→j≠kM→j<N→vs.lookup j=some ds→v2.lookup j=some ds:=fun j ds h1 h2 h3 h=>hv3 j ds (by simpa using h1) (ar h2 (ar (by omega) h))
           have q5:v2.lookup (E+5)=some [dI .i64 r]:=kp _ _ (by omega) (by omega) (by omega) hvr
           refine (vrq hN fun K hK=>?_) a w hr
           refine c1 (Pt.one _) ?_
           refine sa ?_
           rw[oF]
           refine v1 (k:=E+5) (F:=[dI .i64 r]) (ys:=[dI .i64 ((r+1:Nat):Int)]) (Pt.one _) rfl rfl rfl ?_ rfl q5 rfl
           refine .nil (hK _ _ ?_)
           intro a w hr
           refine .inl ⟨rfl,r+1,yh R C k i r V,acc++[pv],_,Wk.tmS (tin (tin (tin (tin (tin L5))))) a w hr,⟨hok3.consM (by omega) rfl,sR,by show kk<N2;omega,hls,fun _ _=>?_,?_,ak,?_,fun _ _=>?_,fun _ _=>?_⟩,?_,by rw[fg];exact Nat.succ_le_succ hal,?_⟩
           ·exact ar (by omega) (hv3 _ _ (by simpa using fun e=>h4M e.symm) ak)
           ·exact ar (by omega) (kp _ _ (fun e=>h40 e.symm) (fun e=>hM0 e.symm) (by omega) hv0)
           ·exact ar (by omega) (kp _ _ (by omega) (by omega) (by omega) hvk)
           ·exact ar (by omega) (kp _ _ (by omega) (by omega) (by omega) Jz)
           ·exact ar (by omega) (kp _ _ (by omega) (by omega) (by omega) hvR)
           ·exact hJ (acc++[pv]) v2 _ l2 N2 N2 hJ3 (bI _) (by omega) (fun j ds _ hjE h=>ar (by omega) h)
           ·rw[qQ,hm,Mt]
            conv=>lhs;unfold oB
            rw[aQ FG,hf]
            dsimp only
            rw[aQ hgd,hpv]
          ·rintro cf g2 W' a ⟨hgd,hS2⟩ A7 pg H7
           rw[hB] at pg
           refine .inr ⟨rfl,H7,cf,g2,W',rfl,A7,pg,?_,hS2⟩
           rw[qQ,hm]
           conv=>lhs;unfold oB
           rw[aQ FG,hf]
           dsimp only
           rw[aV (by rw[hgd];simp)]
    ·rintro ex a w' (⟨rfl,r',V',MT,⟨oy,lv',N'⟩,hr,⟨hok',hnx',hkn',hlen',hvM',hv0',hvr',hvk',hvrs',hvR'⟩,hJ',hal',hred'⟩|⟨rfl,hd,hp',g',W',rfl,hl,hc,hn,hS'⟩)
     ·show Code.wpIn (FWd none) 0 prog _ _ a w'
      dsimp only at hkn' hvM' hv0' hvr' hvk' hvrs' hvR'
      refine (?_:AV prog none x _ (TH l E k0 kk) ⟨oy,lv',N'⟩ _) a w' hr
      refine AV.seqA ?_
      refine rs hN fun K hK=>?_
      refine c1 (Pt.one _) ?_
      refine .nil (hK _ _ (rq hN fun K hK=>?_))
      refine a1 aT (hz:=rfl) ?_
      refine v1 (k:=N') (F:=[dI .i64 0]) (ys:=[dI .i64 (k:Int)]) (Pt.one _) rfl rfl rfl ?_ rfl ak rfl
      refine .nil (hK _ _ (vrq hN fun K hK=>?_))
      refine c1 (Pt.one _) ?_
      refine sa ?_
      rw[oF]
      refine v1 (k:=N') (F:=[dI .i64 (k:Int)]) (ys:=[dI .i64 ((k+1:Nat):Int)]) (Pt.one _) rfl rfl rfl ?_ rfl ak rfl
      refine .nil (hK _ _ ?_)
      intro a w hr
      refine⟨C - (k+1),_,_,by omega,Wk.tmS (tm':=TH l E k0 N') (tin (tin (tin (tin (tin L5))))) a w hr,k+1,r',V',MT,N',rfl,JK,rfl,⟨?_,by omega,eR _,hlen',fun h1 h2=>?_,?_,?_,ak,fun h1 h2=>?_,fun h1 h2=>?_⟩,?_,hal',hred'⟩
      ·exact ((hok'.up (M:=N'+1) (gM _)).consM (eR _) rfl).consM (eR _) rfl |>.consM (eR _) rfl
      ·exact ar (by omega) (ar (by omega) (ar (by omega) (hvM' h1 h2)))
      ·exact ar (by omega) (ar (by omega) (ar (by omega) hv0'))
      ·exact ar (by omega) (ar (by omega) (ar (by omega) hvr'))
      ·exact ar (by omega) (ar (by omega) (ar (by omega) (hvrs' h1 h2)))
      ·exact ar (by omega) (ar (by omega) (ar (by omega) (hvR' h1 h2)))
      ·exact hJ MT oy _ lv' N' (N'+1) hJ' (gM _) (by omega) (fun j ds _ hjE h=>ar (by omega) (ar (by omega) (ar (by omega) h)))
     ·exact .inr ⟨rfl,hd,hp',g',W',rfl,hl,hc,hn,hS'⟩
   ·refine AW.exit ?_
    intro a w hr
    have FG:¬r<R:=by have:=Bh mm;omega
    exact .inl ⟨.inl rfl,_,_,hr,V,acc,qQ.trans (Hz (.inr FG)),Mq,OA,hJa⟩
  ·iterate 4 refine gn hb ?_
   refine s1 (au hb) ?_
   refine .nil (hK _ _ (AW.condF rfl rfl (AW.exit ?_)))
   intro a w hr
   have JK:¬k<C:=by have:=Bh hb;omega
   exact .inl ⟨.inl rfl,_,_,hr,V,acc,qQ.trans (Hz (.inl (by omega))),Mq,OA,hJa⟩
end
end
theorem Nl(x:Nu):aB prog 103 [dG bo x] (dB (!cM x)):=by
 refine bC (rs:=[.tmp 2]) (fun cx hx h0=>?_) func103
 refine ra hx ?_
 refine rs hx fun K hK=>?_
 refine s1 (d:=dG bo x) (aA (ao.id _ _) ax) ?_
 refine sc (w_Good x) ?_
 iterate 2 refine sa ?_
 exact .nil (hK _ _ (AW.ret (rv1)))
theorem idxP_ge {p:Nu→Bool}{l:List Nu}:decide (0≤Jv p l)=l.any p:=by
 unfold Jv
 cases h:l.findIdx? p with
 |none=>
  rw[List.findIdx?_eq_none_iff] at h
  have:l.any p=false:=by
   rw[List.any_eq_false]
   intro x hx
   rw[h x hx];simp
  rw[this];rfl
 |some i=>
  obtain⟨hi,h1,_⟩:=al_33.1 h
  have:l.any p=true:=List.any_eq_true.2 ⟨l[i],EX hi,h1⟩
  rw[this]
  exact iP (show (0:Int)≤(i:Int) by omega)
theorem Hi {f:FuncId}{p:Nu→Bool}(hf:∀x:Nu,aB prog f [dG bo x] (dB (p x))){l:List Nu}(hl:l.length≤1000000):aB prog 102 [.e (slE bo l),.e (.lit (.func (.func f) #[] #[]))] (dB (l.any p)):=by
 refine bC (rs:=[.tmp 4]) (fun cx hx h0=>?_) func102
 refine ra hx ?_
 refine rs hx fun K hK=>?_
 iterate 2 refine sa ?_
 refine sc (Nn hf hl) ?_
 iterate 2 refine sa ?_
 refine .nil (hK _ _ (AW.ret ?_))
 rw[idxP_ge]
 exact rv1
theorem MP(l:List Nu):(!l.any fun x=>!cM x)=l.all cM:=by
 induction l with
 |nil=>rfl
 |cons a l ih=>rw[List.any_cons,cF,Bool.not_or,Bool.not_not,ih]
theorem w_mgood {l:List Nu}(hl:l.length≤1000000):aB prog 58 [.e (slE bo l)] (dB (l.all cM)):=by
 refine bC (rs:=[.tmp 2]) (fun cx hx h0=>?_) func58
 refine ra hx ?_
 refine rs hx fun K hK=>?_
 refine sa ?_
 refine sc (Hi Nl hl) ?_
 iterate 2 refine sa ?_
 refine .nil (hK _ _ (AW.ret ?_))
 rw[MP]
 exact rv1
theorem AR.own {hp:Hp}{id z n:Nat}{xs:List E}:AR hp (.own id z n xs) (.e (.sl z n xs)):=by
 intro B g w v hr hd
 cases hd with
 |own _ _ _ _ _ h hid ht=>exact .e _ _ (h.less fun p hp=>hp.1)
theorem aB.ofMA {P : Program} {tb : TypeId → Option TyE} (tok : TOk P tb) {f : FuncId} {fn : Func} {c : Code} {ds es : List D} {rs : List ResultVar} (hf : P.funcs[f]? = some fn) (hb : fn.body = some c) (te : (fn.name == "runtime.NumGoroutine") = false) (hN : ds.length ≤ fn.ntmps) (hrs : fn.results.toList = rs)
  (h:∀x:Cx,x.N=fn.ntmps→x.hp0=⟨[],[],0⟩→x.df=[]→x.B≤x.w0.heap.size→AV P none x c (eC 0 ds) ⟨[],[],0⟩ (MY x fun _ tm cf=>∃d,xI tb rs tm cf d∧AR cf d (.tu es))):aB P f ds (.tu es):=by
 subst hrs
 refine⟨⟨fn,hf,te,by rw[hb];rfl⟩,fun w F vs hF hsz v7=>?_⟩
 have hr:HR w.heap.size ⟨[],[],0⟩ ⟨fun _=>0,fun _=>default,F⟩ w:=⟨fun k ds h=>by simp at h,fun _ _ _ _ h=>by simp at h,fun _ _ _ h=>by simp at h,fun _ _ _ _ _ h=>by simp at h,bI _,hF⟩
 refine (callsIn_wide (n:=0)).1 (callsIn_of_wp_marks (F:=FWd none) hf hb trivial (wpIn_mono (h ⟨w.heap.size,w,F,fn.ntmps,⟨[],[],0⟩,⟨fun _=>0,fun _=>default,F⟩,[]⟩ rfl rfl rfl (bI _) _ _ (F9 hr (fun _ _ h=>h) hN hsz v7)) ?_))
 intro ex a w' he
 refine he.leaves rfl ?_
 rintro x2 tm cf D w2 h1 h2 h3 h4 h5 h6 ⟨g',qw,iK,IX,DD,hB,hF',hM⟩ ⟨d,JE,har⟩ rfl hD uI
 have uI:w.heap.size≤D:=uI
 rw[h1] at qw hB hF'
 rw[h2] at hB
 rw[h3] at hF'
 have JF:=qw.putO (o':=.deferred none) hD rfl rfl
 obtain⟨v,cp,mQ⟩:=ug (x:=⟨w.heap.size,w,F,fn.ntmps,⟨[],[],0⟩,⟨fun _=>0,fun _=>default,F⟩,[]⟩) (g:=g') tok rfl JE JF (fun t d ht=>(iK t d ht).putO hD rfl rfl)
 refine⟨v,cp,v,rfl,(har _ g' _ v JF mQ).less fun p hp=>⟨hF' p (hF p hp) hp,fun k ds hk he=>?_⟩,t8 hB uI⟩
 have h7:=(JF.var k ds hk).2.1
 have h8:=hF p hp
 dsimp only at h7
 omega
section
theorem bX.up1 {vs:List (Nat×List D)}{lv:List (Nat×Nat×Nat×TypeId)}{N:Nat}{g:Gh}{w:World}:bX ⟨vs,lv,N⟩ g w ⟨vs,lv,N+1⟩ g w:=
 ⟨bI _,fun _ _ _=>rfl,fun _ _ h=>h,gM N,fun _ _=>rfl,fun _ _ m _ h=>⟨m,h,bI _,fun _=>rfl⟩,fun _ _ h=>⟨rfl,fun _ _ h=>h,h⟩,fun _=>.same fun _=>rfl⟩
theorem HR.up1 {vs:List (Nat×List D)}{lv:List (Nat×Nat×Nat×TypeId)}{N B:Nat}{g:Gh}{w:World}(hr:HR B ⟨vs,lv,N⟩ g w):HR B ⟨vs,lv,N+1⟩ g w:=by
 refine⟨fun k ds h=>?_,hr.inj,fun id n e h=>?_,hr.tinj,hr.base,hr.fits⟩
 ·obtain⟨a,b,c,cs,ty,d,e,f⟩:=hr.var k ds h
  exact⟨uB a,b,c,cs,ty,d,e,fun j u hu=>⟨(f j u hu).1,fun d hd=>((f j u hu).2 d hd).mono bX.up1⟩⟩
 ·obtain⟨a,b⟩:=hr.tok id n e h
  exact⟨uB a,b⟩
theorem HC.gwOw {P:Program}{f:FuncId}{ds:List D}{hp hp':Hp}{k z n:Nat}(h:HC P f ds hp (.gw k z n) hp'):HC P f ds hp (.ow k 0 z n) hp':=by
 refine⟨h.1,fun B g w vs hr hsz dK=>(h.2 B g w vs hr hsz dK).mono ?_⟩
 rintro e w' ⟨v,g',rfl,h1,h2,h3,h4,h5⟩
 refine⟨v,g',rfl,h1,h2,?_,h4,h5⟩
 cases h3 with
 |gw _ _ _ c hk pf oh hs=>exact .ow k 0 z n c hk pf oh
section
variable {vs:List (Nat×List D)} {lv:List (Nat×Nat×Nat×TypeId)} {N:Nat}
theorem Pf {V:List Nu}(hl:V.length≤1000000):HC prog 97 [.e (slE bo V)] ⟨vs,lv,N⟩ (ix N V.length) ⟨if V.length=0 then vs else (N,dC ((cW bo).f V))::vs,lv,N+1⟩:=by
 by_cases h0:V.length=0
 ·obtain rfl:V=[]:=kL h0
  refine⟨(eo 0 [] (by decide)).1,fun B g w us hr hsz dK=>(Ac (hp:=⟨vs,lv,N⟩) (ds:=[.e (slE bo [])]) (eo 0 [] (by decide)) ⟨AR.dn rfl,trivial⟩ hr hsz dK).mono ?_⟩
  rintro e w' ⟨v,rfl,⟨_,_,hE⟩,hb⟩
  have hE2:dE w' g.F (.sl 36 0 []) v:=by
   cases hE with
   |sl _ _ _ A c cs hl hz pf oh hA h1 h2=>exact .sl _ _ _ A c cs hl hz pf oh hA (fun ad ha i e hi=>by simp at hi) (fun i e hi=>by simp at hi)
  exact⟨v,g,rfl,(hr.keep hb.size hb.block).up1,(bX.keep _ g hb.size hb.block).trans bX.up1,.e _ _ hE2,hb.mono hr.base,fun _ _ h=>h⟩
 ·have h:=HC.adopt (hp:=⟨vs,lv,N⟩) (ds:=[.e (slE bo V)]) (eo V.length (V.flatMap bo.f) hl) ⟨AR.dn rfl,trivial⟩ (by omega) (lit_Nu V)
  have h2:=h.gwOw
  rw[show ix N V.length=.ow N 0 36 V.length from aV h0,aV h0]
  exact h2
end
def xx:Cd Pv:=⟨38,fun p=>[.lit (.int .i64 p.col)]++bo.f p.by'++[.lit (.bool p.mov)],fun p=>by simp[bo.h p.by'];rfl⟩
theorem pvD_c(p:Pv):D.ag (pvD p)=dG xx p:=by
 show D.ag (pvD p)=D.ag (([E.lit (.int .i64 p.col)]++bo.f p.by'++[E.lit (.bool p.mov)]).map .e)
 rw[nd,nd]
 rfl
def redE(R C:Nat):Option (List Nu×List Pv)→List D
 |some (U,acc)=>[.ag [dI .i64 R,dI .i64 C,.e (slE bo U),.e (slE xx acc)],dI .i64 0]
 |none=>[.ag [dI .i64 0,dI .i64 0,.e (slE bo []),.e (slE xx [])],dI .i64 30]
def PvO(acc:List Pv)(d:D)(hp:Hp):Prop:=(acc=[]∧d=dN)∨∃tk,tk<hp.next∧d=dO tk xx acc∧hp.live.lookup tk=some (acc.length,38,102)
def redJ(kM k4 R C:Nat)(acc:List Pv)(hp:Hp):Prop:=6≤hp.next∧hp.vars.lookup 1=some [dI .i64 0,dI .i64 0,dN,dN]∧hp.vars.lookup 2=some [dI .i64 0]∧∃d,hp.vars.lookup k4=some (mu kM R C++[d])∧PvO acc d hp
def redS(hp:Hp):Prop:=6≤hp.next∧hp.vars.lookup 1=some [dI .i64 0,dI .i64 0,dN,dN]∧hp.vars.lookup 2=some [dI .i64 30]
section
variable {kM R C:Nat}
theorem red_m {d:D}:Pt (mu kM R C++[d]) (0+0) (mu kM R C) (fun ys=>ys++[d]):=Pt.of [] [d] rfl rfl fun y=>rfl
theorem red_D {d:D}:Pt (mu kM R C++[d]) (0+0+2) [ix kM (R*C)] (fun ys=>[dI .i64 R,dI .i64 C]++ys++[d]):=Pt.of [dI .i64 R,dI .i64 C] [d] rfl rfl fun y=>rfl
theorem red_l {d:D}:Pt (mu kM R C++[d]) (0+3) [d] (fun ys=>mu kM R C++ys):=Pt.of (mu kM R C) [] rfl (by simp) fun y=>by simp
theorem Of {d:D}:Pt [dI .i64 R,dI .i64 C,d] (0+0) [dI .i64 R] (fun ys=>ys++[dI .i64 C,d]):=Pt.of [] _ rfl rfl fun y=>rfl
theorem Oh {d:D}:Pt [dI .i64 R,dI .i64 C,d] (0+1) [dI .i64 C] (fun ys=>[dI .i64 R]++ys++[d]):=Pt.of [dI .i64 R] [d] rfl rfl fun y=>rfl
theorem Og {d:D}:Pt [dI .i64 R,dI .i64 C,d] (0+2) [d] (fun ys=>[dI .i64 R,dI .i64 C]++ys++[]):=Pt.of [dI .i64 R,dI .i64 C] [] rfl rfl fun y=>rfl
end
end
section
def restC:Code:=match (f63).body with
 |some (.seq _ (.seq _ c))=>c
 |_=>.skip
theorem RS.wk {x:Cx}{tm tm':List (Nat×D)}{hp hp':Hp}{a:Act}{w:World}(hr:RS x tm hp a w)(hw:Wk x tm hp tm' hp'):RS x tm' hp' a w:=hw a w hr
theorem redJ_up {kM k4 R C:Nat}{acc:List Pv}{vs oy:List (Nat×List D)}{lv:List (Nat×Nat×Nat×TypeId)}{N N':Nat}(hM:kM=3∨kM=4)(h4:k4=3∨k4=4)(px:k4≠kM)(h:redJ kM k4 R C acc ⟨vs,lv,N⟩)(hN:N≤N')(hv:∀j ds,j≠kM→j<6→vs.lookup j=some ds→oy.lookup j=some ds):redJ kM k4 R C acc ⟨oy,lv,N'⟩:=by
 obtain⟨h0,h1,h2,d,h3,h5⟩:=h
 refine⟨da h0 hN,hv _ _ (by omega) (by omega) h1,hv _ _ (by omega) (by omega) h2,d,hv _ _ px (by omega) h3,?_⟩
 rcases h5 with h5|⟨tk,a,b,c⟩
 ·exact .inl h5
 ·exact .inr ⟨tk,cm a hN,b,c⟩
theorem n5 {R C:Nat}:∀{n k r:Nat} {V:List Nu} {acc:List Pv} {W:List Nu} {l:List Pv},V.length=R*C→oB R C n k r V acc=some (W,l)→W.length=R*C
 |0,_,_,_,_,_,_,hV,h=>by
  unfold oB at h
  injection h with h
  injection h with h1 h2
  rw[←h1];exact hV
 |n+1,k,r,V,acc,W,l,hV,h=>by
  unfold oB at h
  split at h
  ·split at h
   ·exact n5 hV h
   ·split at h
    ·exact n5 (by rw[Et];exact hV) h
    ·cases h
  ·injection h with h
   injection h with h1 h2
   rw[←h1];exact hV
section
variable {R C kM k4:Nat} {V:List Nu} {x:Cx} {vs:List (Nat×List D)}
theorem Az(hM:kM=3∨kM=4)(h4:k4=3∨k4=4)(px:k4≠kM)(hN:x.N=(f63).ntmps)(h0:x.hp0=⟨[],[],0⟩)(sS:x.df=[])(hB:x.B≤x.w0.heap.size)(hok:fW ⟨vs,[],5⟩)
  (hV:V.length=R*C) (M8:R*C≤1000000) (hR:R≤1000000) (hC:C≤1000000)
  (EI:vs.lookup 1=some [dI .i64 0,dI .i64 0,dN,dN]) (A7:vs.lookup 2=some [dI .i64 0]) (hl4:vs.lookup k4=some (mu kM R C++[dN])) (hlM:0<R→0<C→vs.lookup kM=some (dC ((cW bo).f V)))
  (yw:∀k ds,vs.lookup k=some ds→ds.all D.noO=true):
  AV prog none x restC [(2,.pt 1 0),(3,.pt 2 0),(4,.pt k4 0)] ⟨vs,[],5⟩ (MY x fun _ tm cf=>∃d,xI tbl [.cell 2 97,.cell 3 26] tm cf d∧AR cf d (.tu (redE R C (oB R C C 0 0 V [])))):=by
 have hkM6:kM<5:=by omega
 have hk46:k4<5:=by omega
 refine AV.seq ?_
 refine vrs hN fun K hK=>?_
 refine sa ?_
 refine p1 red_m rfl ?_
 refine q1s (d:=.fn 137 [5]) (hp':=⟨(5,mu kM R C)::vs,[],6⟩) (Mf rfl (h_steps (kM:=kM) (R:=R) (C:=C) hkM6) rfl) ?_
 refine .nil (hK _ _ (AV.block ?_))
 have hl5:∀j ds,vs.lookup j=some ds→((5,mu kM R C)::vs).lookup j=some ds:=fun j ds h=>ar (hok.ne h (bI _)) h
 refine AV.range (f:=137) (ks:=[5]) rfl ⟨_,func137,rfl,rfl⟩ hB
  (Oq (kM:=kM) (k0:=5) (k4:=k4) (E:=6) (R:=R) (C:=C) (V0:=V) (J:=redJ kM k4 R C) (S:=redS) (by omega) (by omega) (by omega) px (by omega) (by omega) hV M8 hR hC (fun h1 h2=>hl5 _ _ (hlM h1 h2)) ak (fun k ds h=>?_) (by rw[hN];exact dM rfl) ?_ ?_ ?_) ?_ ?_
 ·rcases eG h with⟨rfl,rfl⟩|⟨_,h⟩
  ·unfold mu ix;split <;> rfl
  ·exact yw k ds h
 ·exact⟨bI _,hl5 _ _ EI,hl5 _ _ A7,dN,hl5 _ _ hl4,.inl ⟨rfl,rfl⟩⟩
 ·exact fun acc vs oy lv N N' h hN _ hv=>redJ_up hM h4 px h hN hv
 ·rintro V' acc pv ⟨v1',lv,N⟩ I1 wy hV' hokp OA ⟨hN6,O0,GW,d,hj4,hpo⟩ l y hy _ hy0
  dsimp only at hN6 O0 GW hj4 OA
  have hk4N:k4<N:=by omega
  have hmD:ix kM (R*C)=.ow kM 0 36 (R*C):=aV (Nat.ne_of_gt (sr I1 (by omega)))
  refine vrr (hy.trans hN) (fun K hK=>?_)
  refine a1 jS (hz:=rfl) ?_
  refine v1 (k:=N) (ys:=pvD pv) (F2:=pvD pv) Pt.all (by exact rfl) (by exact Bp pv) rfl ?_ rfl ak rfl (ht:=jS)
  have hokN:fW ⟨(N,pvD pv)::v1',lv,N+1⟩:=(hokp.up (M:=N+1) (gM _)).consM (eR _) (by unfold pvD;rw[yI,yI,pM];rfl)
  refine .nil (hK _ _ fun a w hr=>⟨rfl,[(2,.pt 1 0),(3,.pt 2 0),(4,.pt k4 0),(5,.pt N 0)],⟨(N,pvD pv)::v1',lv,N+1⟩,RS.wk hr (wk1 hy0 (hok:=hokN) (hv:=fun j ds h=>by
   rcases eG h with⟨rfl,rfl⟩|⟨hj,h⟩
   ·exact ak
   ·exact ar hj (ar hj h))),fun y2 B6 _ h0y=>?_⟩)
  have B6:=B6.trans hN
  refine AV.block ?_
  refine AV.seq ?_
  refine vrrs B6 fun K hK=>?_
  iterate 2 refine sa ?_
  refine c1 red_D ?_ (hv:=ar (by omega) hj4)
  have hgd:=HC.frz (hp:=⟨(N,pvD pv)::v1',lv,N+1⟩) (ds:=[ix kM (R*C)]) (w_mgood (l:=V') (by rw[hV'];exact M8)) ⟨by rw[hmD];exact AR.list (ar (by omega) OA) hV',trivial⟩ rfl
  refine q1s (Mf rfl hgd rfl) ?_
  refine sa ?_
  refine .nil (hK _ _ (AV.cond rfl (fun hb=>?_) (fun hb=>?_)))
  ·have hbad:V'.all cM=false:=by simpa using hb
   refine vrrs B6 fun K hK=>?_
   refine s1 (d:=.ag [dI .i64 0,dI .i64 0,dN,dN]) (bE (ps:=[]) ly) ?_
   refine v1 (k:=1) (F:=[dI .i64 0,dI .i64 0,dN,dN]) (ys:=[dI .i64 0,dI .i64 0,dN,dN]) Pt.all (by exact rfl) (by exact rfl) rfl ?_ rfl (ar (by omega) O0) rfl (ht:=ly)
   refine v1 (k:=2) (F:=[dI .i64 0]) (ys:=[dI .i64 30]) (Pt.one _) rfl rfl rfl ?_ rfl (ar (by omega) (ar (by omega) GW)) rfl
   refine .nil (hK _ _ (AV.ret fun a w hr=>⟨_,_,hr,hbad,by show 6≤N+1;omega,ar (by omega) ak,ak⟩))
  ·have hgood:V'.all cM=true:=by simpa using hb
   have key:∃uE DA N2 tk,(∀tm,Wk y2 tm ⟨(N,pvD pv)::v1',lv,N+1⟩ tm ⟨uE,DA,N2⟩)∧fW ⟨uE,DA,N2⟩∧N+1≤N2∧tk<N2∧uE.lookup k4=some (mu kM R C++[dO tk xx acc])∧DA.lookup tk=some (acc.length,38,102)∧∀j ds,j≠k4→((N,pvD pv)::v1').lookup j=some ds→uE.lookup j=some ds:=by
    rcases hpo with⟨rfl,rfl⟩|⟨tk,M3,rfl,OX⟩
    ·refine⟨_,_,_,N+1,fun tm=>Wk.nilOwn k4 3 102 38 (hk:=ar (by omega) hj4) (hj:=rfl) (hd:=rfl),?_,gM _,eR _,ak,ak,fun j ds hj h=>ar hj h⟩
     have h1:=hokN.up (M:=N+1+1) (gM _)
     refine⟨fun j es hj=>?_,fun id e hi=>?_⟩
     ·rcases eG hj with⟨e1,rfl⟩|⟨_,hj⟩
      ·refine⟨by rw[e1];show k4<N+1+1;omega,?_⟩
       unfold mu ix
       split <;> simp[D.idsC,dI] <;> omega
      ·exact h1.var j es hj
     ·by_cases e1:id=N+1
      ·rw[e1];show N+1<N+1+1;omega
      ·exact h1.tok id e (by rw[←hi];exact (aC e1).symm)
    ·exact⟨_,_,_,tk,fun tm=>Wk.refl _ _ _,hokN,bI _,uB M3,ar (by omega) hj4,OX,fun j ds hj h=>h⟩
   obtain⟨uE,DA,N2,tk,hw,zX,hN2,M3,hd4,OX,hkp⟩:=key
   refine AV.skip fun a w hr=>?_
   show Code.wpIn (FWd (some l)) 0 prog _ _ a w
   refine (AV.weak (hw _) ?_:AV prog (some l) y2 _ _ ⟨(N,pvD pv)::v1',lv,N+1⟩ _) a w hr
   refine vrr B6 (fun K hK=>?_)
   refine sa ?_
   refine c1 red_l ?_ (hv:=hd4)
   refine p1 (Pt.all (F:=pvD pv)) (Bp pv) ?_ (hv:=hkp _ _ (by omega) ak)
   rw[pvD_c]
   refine s1 (d:=dO N2 xx [pv]) (hp':=⟨uE,(N2,1,38,102)::DA,N2+1⟩) (qI ([pv]:List Pv) xx um jS) ?_
   have hal:(acc++[pv]).length≤1000000:=by rw[fg];show acc.length+1≤1000000;omega
   refine s1 (d:=dO tk xx (acc++[pv])) (hp':=⟨uE,(tk,(acc++[pv]).length,38,102)::(N2,1,38,102)::DA,N2+1⟩) (gc (l:=acc) (l':=[pv]) (c:=xx) (id:=tk) um jS (da (c6 _ hal) (by decide)) (hl:=(aC (by omega)).trans OX)) ?_
   refine sa ?_
   refine v1 (k:=k4) (F:=mu kM R C++[dO tk xx acc]) (ys:=[dO tk xx (acc++[pv])]) (F2:=mu kM R C++[dO tk xx (acc++[pv])]) red_l rfl rfl rfl ?_ rfl hd4 rfl
   refine .nil (hK _ _ fun a w hr=>⟨_,_,hr,hgood,⟨?_,?_,?_⟩,?_⟩)
   ·have h1:=(zX.up (M:=N2+1) (gM _)).consM (k:=k4) (ds:=mu kM R C++[dO tk xx (acc++[pv])]) (by omega) (by unfold mu ix;split <;> simp[D.idsC,dI,dO] <;> omega)
    refine⟨fun j es hj=>h1.var j es hj,fun id e hi=>?_⟩
    by_cases e1:id=tk
    ·rw[e1];show tk<N2+1;omega
    ·by_cases e2:id=N2
     ·rw[e2];show N2<N2+1;omega
     ·exact h1.tok id e (by rw[←hi];exact ((aC e1).trans (aC e2)).symm)
   ·show N≤N2+1;omega
   ·intro j ds hj h
    have hj4':j≠k4:=by simpa using hj
    exact ar hj4' (hkp j ds hj4' (ar (hokp.ne h (bI _)) h))
   ·refine⟨by show 6≤N2+1;omega,ar (by omega) (hkp _ _ (by omega) (ar (by omega) O0)),ar (by omega) (hkp _ _ (by omega) (ar (by omega) GW)),_,ak,.inr ⟨tk,by show tk<N2+1;omega,rfl,ak⟩⟩
 ·rintro x' Db ⟨v1',lv,N⟩ a w hbh hrs ⟨V',acc,qQ,hok',hM',hN6,O0,GW,d,hj4,hpo⟩
  dsimp only at hN6 O0 GW hj4 hM'
  have hlen:V'.length=R*C:=n5 hV qQ
  show Code.wpIn (FWd none) 0 prog _ _ a w
  refine (vrs (x:=x') (hbh.N.trans hN) fun K hK=>?_) a w hrs
  refine p1 (Pt.all (F:=mu kM R C++[d])) (by exact rfl) ?_ (hv:=hj4) (ht:=ly)
  refine v1 (k:=1) (F:=[dI .i64 0,dI .i64 0,dN,dN]) (ys:=mu kM R C++[d]) Pt.all (by exact rfl) (by exact rfl) rfl ?_ rfl O0 rfl (ht:=ly)
  refine v1 (k:=2) (F:=[dI .i64 0]) (ys:=[dI .i64 0]) (Pt.one _) rfl rfl rfl ?_ rfl (ar (by omega) GW) rfl
  refine .nil (hK _ _ (AV.ret fun a w hr=>⟨.inr rfl,x',Db,_,_,_,_,hbh,hr,_,resV ly rfl (ar (by omega) ak) (by show 1<N;omega) rfl rfl (ND rfl Hs rfl ak (by show 2<N;omega) rfl rfl),?_⟩))
  rw[qQ]
  refine AR.tu ⟨AR.ag ⟨AR.dn rfl,AR.dn rfl,?_,?_,trivial⟩,AR.dn rfl,trivial⟩
  ·show AR _ (ix kM (R*C)) (.e (slE bo V'))
   unfold ix
   by_cases h0:R*C=0
   ·rw[aQ h0]
    have:V'=[]:=kL (by omega)
    subst this
    exact AR.dn rfl
   ·rw[aV h0]
    have hRp:0<R:=yH fun e=>h0 (by rw[e,gb])
    have hCp:0<C:=yH fun e=>h0 (by rw[e,LI])
    exact AR.list (ar (by omega) (ar (by omega) (hM' hRp hCp))) hlen
  ·rcases hpo with⟨rfl,rfl⟩|⟨tk,_,rfl,_⟩
   ·exact AR.le (Jt (ltb rfl)) rfl
   ·exact AR.own
 ·rintro x' Db ⟨v1',lv,N⟩ a w hbh hrs ⟨qQ,hN6,O0,GW⟩
  dsimp only at hN6 O0 GW
  show MY x (fun _ tm cf=>∃d,xI tbl [.cell 2 97,.cell 3 26] tm cf d∧AR cf d (.tu (redE R C (oB R C C 0 0 V [])))) .ret a w
  refine⟨.inr rfl,x',Db,_,_,_,_,hbh,hrs,_,resV ly rfl O0 (by show 1<N;omega) rfl rfl (ND rfl Hs rfl GW (by show 2<N;omega) rfl rfl),?_⟩
  rw[qQ]
  exact AR.tu ⟨AR.ag ⟨AR.dn rfl,AR.dn rfl,AR.le (Jt (ltb rfl)) rfl,AR.le (Jt (ltb rfl)) rfl,trivial⟩,AR.dn rfl,trivial⟩
end
end
section
theorem Wk.tms {x:Cx}{tm tm':List (Nat×D)}{hp:Hp}(hs:∀p∈tm',tm.lookup p.1=some p.2):Wk x tm hp tm' hp:=by
 rintro a w ⟨g,hh,iK,h1⟩
 exact⟨g,hh,fun t d h=>iK t d (hs _ (xl h)),h1⟩
def CA(V:List Nu)(N:Nat)(vs:List (Nat×List D)):List (Nat×List D):=if V.length=0 then vs else (N,dC ((cW bo).f V))::vs
section
variable {md:Md} {ops:Array Oper} {K:List (Nat×D)→Hp→Prop} {os:List Oper} {tm:List (Nat×D)} {hp hp':Hp} {t s:Tmp} {ty:TypeId} {pos:String} {af:Array Edge} {vs:List (Nat×List D)} {lv:List (Nat×Nat×Nat×TypeId)} {N n R C:Nat} {V:List Nu}
theorem qY {j:Nat}(h:j≠N):(CA V N vs).lookup j=vs.lookup j:=by
 unfold CA
 split
 ·rfl
 ·exact aC h
theorem Lw(hok:fW ⟨vs,lv,N⟩):fW ⟨CA V N vs,lv,N+1⟩:=by
 unfold CA
 split
 ·exact hok.up (gM N)
 ·exact (hok.up (gM N)).consM (eR N) (pM _)
theorem Lx(yw:∀k ds,vs.lookup k=some ds→ds.all D.noO=true):∀k ds,(CA V N vs).lookup k=some ds→ds.all D.noO=true:=by
 intro k ds h
 unfold CA at h
 split at h
 ·exact yw k ds h
 ·rcases eG h with⟨rfl,rfl⟩|⟨_,h⟩
  ·rw[eS]
   intro d hd
   obtain⟨e,_,rfl⟩:=sn.1 hd
   rfl
  ·exact yw k ds h
theorem NC {x:Operand}{ts:Array TypeId}(hl:V.length≤1000000)(hn:V.length=n)(h2:bT prog tbl md ops K os ((t,ix N n)::tm) ⟨CA V N vs,lv,N+1⟩)(hx:evD tm x=.e (slE bo V):=by exact rfl)(pf:md.nc tbl (.call ⟨.value (.func 97),[x].toArray,ts⟩)=true:=by exact rfl):
  bT prog tbl md ops K (⟨some t,.call ⟨.value (.func 97),[x].toArray,ts⟩,ty,pos,af,none⟩::os) tm ⟨vs,lv,N⟩:=by
 subst hn
 refine Hu rfl (sHC (Pf (vs:=vs) (lv:=lv) (N:=N) hl) (by show [evD tm x]=_;rw[hx]) (.inr ⟨gM _,fun j hj=>?_⟩) rfl pf) h2
 exact qY (V:=V) (Nat.ne_of_lt hj)
end
section
variable {R C:Nat} {V:List Nu}
theorem Nk(hV:V.length=R*C)(M8:R*C≤1000000)(hR:R≤1000000)(hC:C≤1000000):aB prog 63 [.ag [dI .i64 R,dI .i64 C,.e (slE bo V)]] (.tu (redE R C (oB R C C 0 0 V []))):=by
 refine aB.ofMA tok func63 rfl rfl (dM rfl) rfl (fun x hN h0 sS hB=>?_)
 simp only[eC,Nat.reduceAdd,dA]
 obtain⟨V0,FV⟩:∃V0:List (Nat×List D),V0=[(2,[dI .i64 0]),(1,[dI .i64 0,dI .i64 0,dN,dN]),(0,[dI .i64 R,dI .i64 C,.e (slE bo V)])]:=⟨_,rfl⟩
 refine vrs hN fun K hK=>?_
 refine s1 (d:=.pt 0 0) (hp':=⟨[(0,[dI .i64 R,dI .i64 C,.e (slE bo V)])],[],1⟩) d8 ?_
 refine a1 ly (hz:=rfl) ?_
 refine a1 Hs (hz:=rfl) ?_
 refine .nil (hK _ _ ?_)
 have hok0:fW ⟨V0,[],3⟩:=by
  rw[FV]
  exact (((fW.nil.up (M:=3) (fH _)).consM (by decide) rfl).consM (by decide) rfl).consM (by decide) rfl
 have hno0:∀k ds,V0.lookup k=some ds→ds.all D.noO=true:=by
  intro k ds h
  rw[FV] at h
  rcases eG h with⟨_,rfl⟩|⟨_,h⟩
  ·rfl
  ·rcases eG h with⟨_,rfl⟩|⟨_,h⟩
   ·rfl
   ·rcases eG h with⟨_,rfl⟩|⟨_,h⟩
    ·rfl
    ·cases h
 have l1:V0.lookup 1=some [dI .i64 0,dI .i64 0,dN,dN]:=by rw[FV];rfl
 have l2:V0.lookup 2=some [dI .i64 0]:=by rw[FV];rfl
 have l0:V0.lookup 0=some [dI .i64 R,dI .i64 C,.e (slE bo V)]:=by rw[FV];rfl
 have hVl:V.length≤1000000:=by omega
 have HJ:∀{kM M:Nat},kM<M→(mu kM R C++[dN]).all (D.idsC M)=true:=fun {kM M} h=>by
  unfold mu ix;split <;> simp[D.idsC,dI] <;> omega
 have K6:∀{kM:Nat},(mu kM R C++[dN]).all D.noO=true:=fun {kM}=>by
  unfold mu ix;split <;> rfl
 have hMl:∀N,0<R→0<C→(CA V N V0).lookup N=some (dC ((cW bo).f V)):=fun N h1 h2=>by
  have:0<R*C:=sr h1 h2
  unfold CA
  rw[ifn_]
  exact ak
 have hcM:∀k,(ix k (R*C)).cells=some [ix k (R*C)]:=fun k=>by unfold ix;split <;> rfl
 have hpt:∀k,kX [(0,dI .i64 R),(1,dI .i64 C),(2,ix k (R*C))]=some [(0,[dI .i64 R]),(1,[dI .i64 C]),(2,[ix k (R*C)])]:=fun k=>by
  simp only[kX,hcM]
  rfl
 show AV prog none x _ [(3,.pt 2 0),(2,.pt 1 0),(1,.pt 0 0),(0,.ag [dI .i64 R,dI .i64 C,.e (slE bo V)])] ⟨[(2,[dI .i64 0]),(1,[dI .i64 0,dI .i64 0,dN,dN]),(0,[dI .i64 R,dI .i64 C,.e (slE bo V)])],[],3⟩ _
 rw[←FV]
 refine AV.seqA (dw (DW.split 6 9 (by decide) ?_ ?_))
 ·refine dwg [] [0,1,2,3,4,5,6,7,8,9,10] hN (by kernel_rfl) (by kernel_rfl) (by kernel_rfl) fun K hK=>?_
  dsimp only[eJ,nE,nS,List.map]
  refine sa ?_
  refine c1 Of ?_ (hv:=l0)
  refine sa ?_
  refine c1 Oh ?_ (hv:=l0)
  refine sa ?_
  refine c1 Og ?_ (hv:=l0)
  refine NC hVl hV ?_
  refine s1 (d:=.ag [dI .i64 R,dI .i64 C,ix 3 (R*C)]) (bE (qs:=[(0,[dI .i64 R]),(1,[dI .i64 C]),(2,[ix 3 (R*C)])]) aq (hp1:=hpt 3)) ?_
  refine s1 (d:=.ag [dI .i64 R,dI .i64 C,ix 3 (R*C),dN]) (bE ly) ?_
  refine a1 ly (hz:=rfl) ?_
  refine v1 (k:=4) (F:=[dI .i64 0,dI .i64 0,dN,dN]) (ys:=mu 3 R C++[dN]) Pt.all (by exact rfl) (by exact rfl) rfl ?_ rfl ak rfl (ht:=ly)
  refine .nil (hK _ _ ?_)
  have h1:=(Lw (V:=V) hok0).up (M:=5) (by decide)
  refine AV.weak (Wk.tms ?_) (Az (kM:=3) (k4:=4) (.inl rfl) (.inr rfl) (by decide) hN h0 sS hB ((h1.consM (k:=4) (ds:=[dI .i64 0,dI .i64 0,dN,dN]) (by decide) rfl).consM (k:=4) (by decide) (HJ (by decide))) hV M8 hR hC (ar (by decide) (ar (by decide) ((qY (by decide)).trans l1))) (ar (by decide) (ar (by decide) ((qY (by decide)).trans l2))) ak (fun a b=>ar (by decide) (ar (by decide) (hMl 3 a b))) (fun k ds h=>?_))
  ·intro p hp
   simp only[nb,EW,or_false] at hp
   rcases hp with rfl|rfl|rfl <;> rfl
  ·rcases eG h with⟨_,rfl⟩|⟨_,h⟩
   ·exact K6
   ·rcases eG h with⟨_,rfl⟩|⟨_,h⟩
    ·rfl
    ·exact Lx hno0 k ds h
 ·refine dwg [] [0,1,2,3,4,5,9,6,7,8,10] hN (by kernel_rfl) (by kernel_rfl) (by kernel_rfl) fun K hK=>?_
  dsimp only[eJ,nE,nS,List.map]
  refine sa ?_
  refine c1 Of ?_ (hv:=l0)
  refine sa ?_
  refine c1 Oh ?_ (hv:=l0)
  refine sa ?_
  refine c1 Og ?_ (hv:=l0)
  refine a1 ly (hz:=rfl) ?_
  refine NC hVl hV ?_
  refine s1 (d:=.ag [dI .i64 R,dI .i64 C,ix 4 (R*C)]) (bE (qs:=[(0,[dI .i64 R]),(1,[dI .i64 C]),(2,[ix 4 (R*C)])]) aq (hp1:=hpt 4)) ?_
  refine s1 (d:=.ag [dI .i64 R,dI .i64 C,ix 4 (R*C),dN]) (bE ly) ?_
  have l3:(CA V 4 ((3,[dI .i64 0,dI .i64 0,dN,dN])::V0)).lookup 3=some [dI .i64 0,dI .i64 0,dN,dN]:=(qY (by decide)).trans ak
  refine v1 (k:=3) (F:=[dI .i64 0,dI .i64 0,dN,dN]) (ys:=mu 4 R C++[dN]) Pt.all (by exact rfl) (by exact rfl) rfl ?_ rfl l3 rfl (ht:=ly)
  refine .nil (hK _ _ ?_)
  have h1:=Lw (V:=V) ((hok0.up (M:=4) (by decide)).consM (k:=3) (ds:=[dI .i64 0,dI .i64 0,dN,dN]) (by decide) rfl)
  refine AV.weak (Wk.tms ?_) (Az (kM:=4) (k4:=3) (.inr rfl) (.inl rfl) (by decide) hN h0 sS hB (h1.consM (k:=3) (by decide) (HJ (by decide))) hV M8 hR hC (ar (by decide) ((qY (by decide)).trans (ar (by decide) l1))) (ar (by decide) ((qY (by decide)).trans (ar (by decide) l2))) ak (fun a b=>ar (by decide) ?_) (fun k ds h=>?_))
  ·intro p hp
   simp only[nb,EW,or_false] at hp
   rcases hp with rfl|rfl|rfl <;> rfl
  ·have:0<R*C:=sr a b
   unfold CA
   rw[ifn_]
   exact ak
  ·rcases eG h with⟨_,rfl⟩|⟨_,h⟩
   ·exact K6
   ·refine Lx (fun k ds h=>?_) k ds h
    rcases eG h with⟨_,rfl⟩|⟨_,h⟩
    ·rfl
    ·exact hno0 k ds h
end
end
section
def pvS(p:Pv):nN:=⟨p.col,nv p.by',p.mov⟩
theorem slE_Pv(l:List Pv):slE xx l=slE cv (l.map pvS):=by
 unfold slE
 rw[bH,Qc]
 rfl
def AA(R C:Int)(o:Option (List Nu×List Pv)):ee×Int:=match o with
 |some (U,acc)=>(⟨⟨R,C,U.map nv⟩,acc.map pvS⟩,0)
 |none=>(⟨⟨0,0,[]⟩,[]⟩,30)
structure MatP(m:ap):Prop where
 r0:0≤m.vR
 c0:0≤m.vC
 r1:m.vR≤1000000
 c1:m.vC≤1000000
 rc:m.vR.toNat*m.vC.toNat≤1000000
 len:m.vV.length=m.vR.toNat*m.vC.toNat
 ok:okL m.vV
open Classical in
def e9(m:ap):Option (ee×Int):=
 if MatP m then some (AA m.vR m.vC (oB m.vR.toNat m.vC.toNat m.vC.toNat 0 0 (m.vV.map uF) [])) else none
theorem nI {cQ:ap}{r:ee×Int}(h:e9 cQ=some r):aB prog 63 [dG aE cQ] (.tu [dG qZ r.1,dI .i64 r.2]):=by
 unfold e9 at h
 split at h
 ·rename_i hp
  obtain rfl:=cP h
  obtain⟨h1,h2,h3,h4,h5,h6,h7⟩:=hp
  have hV:(cQ.vV.map uF).length=cQ.vR.toNat*cQ.vC.toNat:=by rw[bH];exact h6
  have hw:=Nk hV h5 (by omega) (by omega)
  have e1:(.ag [dI .i64 (cQ.vR.toNat:Int),dI .i64 (cQ.vC.toNat:Int),.e (slE bo (cQ.vV.map uF))]:D)=dG aE cQ:=by
   rw[Jb,HK h7,IA h1,IA h2]
   rfl
  rw[e1] at hw
  have e2:∀o:Option (List Nu×List Pv),redE cQ.vR.toNat cQ.vC.toNat o=[dG qZ (AA cQ.vR cQ.vC o).1,dI .i64 (AA cQ.vR cQ.vC o).2]:=by
   intro o
   match o with
   |some (U,acc)=>
    show [D.ag [dI .i64 (cQ.vR.toNat:Int),dI .i64 (cQ.vC.toNat:Int),.e (slE bo U),.e (slE xx acc)],dI .i64 0]=_
    rw[Jb,slE_Pv,IA h1,IA h2]
    rfl
   |none=>rfl
  rw[e2] at hw
  exact hw
 ·cases h
open Classical in
def gT(l:List aj)(n:Int):Option (List aj):=match l with
 |[a]=>if okR a∧0≤n∧n≤1000000 then some (List.replicate n.toNat a) else none
 |_=>none
theorem wt {l r:List aj}{n:Int}(h:gT l n=some r):HC prog 77 [dL ae l,dI .i64 n] ⟨[],[],0⟩ (.ow 1 0 36 r.length) ⟨[(1,dC ((cW ae).f r))],[],1+1⟩:=by
 unfold gT at h
 split at h
 ·rename_i a
  split at h
  ·rename_i hp
   obtain rfl:=cP h
   obtain⟨h1,h2,h3⟩:=hp
   have hw:=Pg (vs:=[]) (lv:=[]) (N:=0) (a:=uF a) (n:=n.toNat) (by omega)
   have e1:slE bo [uF a]=slE ae [a]:=by rw[Jb];show slE ae [nv (uF a)]=_;rw[Br h1]
   have e2:(cW bo).f (List.replicate n.toNat (uF a))=(cW ae).f (List.replicate n.toNat a):=by
    show (List.replicate n.toNat (uF a)).flatMap bo.f=(List.replicate n.toNat a).flatMap ae.f
    rw[show bo.f=fun x=>ae.f (nv x) from rfl]
    rw[←Qc,LG,Br h1]
   rw[e1,e2,IA h2] at hw
   rw[vh]
   exact hw
  ·cases h
 ·cases h
end
section
theorem uAdd(x y:Nu):gz (nv x) (nv y)=some (nv (Jn x y)):=by rw[HH];exact QN x.2 y.2
theorem uMul(x y:Nu):eO (nv x) (nv y)=some (nv (uG x y)):=by rw[BW];exact KM x.2 y.2
theorem uNeg(x:Nu):mF (nv x)=some (nv (N8 x)):=by rw[N7];exact QM x.2
theorem Nr(x:Nu):cu (nv x)=some (cM x):=by rw[v6];exact mj x.2
theorem uSign(x:Nu):mY (nv x)=some (va x):=by rw[Ez];exact QK x.2
theorem uOf {n:Int}(h1:-9223372036854775808≤n:=by omega)(h2:n≤9223372036854775807:=by omega):fk n=some (nv (nOf n)):=G_rOf h1 h2
theorem tAdd(x y:Nu):gy (nv x) (nv y)=some (nv (Jn x y)):=by rw[HH];exact R_oadd x.2 y.2
theorem tMul(x y:Nu):fZ (nv x) (nv y)=some (nv (uG x y)):=by rw[BW];exact R_omul x.2 y.2
theorem tSub(x y:Nu):g_ref04_Sub (nv x) (nv y)=some (nv (HF x y)):=by rw[N6];exact R_osub x.2 y.2
theorem tDiv(x y:Nu):g_ref04_Div (nv x) (nv y)=some (nv (HG x y)):=by rw[N9];exact R_odiv x.2 y.2
theorem tGood(x:Nu):dp (nv x)=some (cM x):=by rw[v6];exact pY x.2
theorem tSign(x:Nu):g_ref04_Sign (nv x)=some (va x):=by rw[Ez];exact R_osgn x.2
theorem tOf {n:Int}(h1:-9223372036854775808≤n:=by omega)(h2:n≤9223372036854775807:=by omega):jE n=some (nv (nOf n)):=R_Of h1 h2
theorem uw {l:List Nu}{i:Nat}(h:i<l.length:=by omega):(l.map nv)[i]! =nv l[i]! :=by
 rw[yG,yG,dZ,fI h];rfl
theorem nv_eq {x y:Nu}:nv x=nv y↔x=y:=⟨fun h=>Subtype.ext h,fun h=>by rw[h]⟩
theorem nvl_eq {l m:List Nu}:l.map nv=m.map nv↔l=m:=⟨fun h=>List.map_inj_right (fun _ _ h=>nv_eq.1 h) |>.1 h,fun h=>by rw[h]⟩
section
variable {R:Type}
theorem kOr(b x:Bool):cnd b (some true) (some x)=some (b||x):=by cases b <;> rfl
theorem kF(x y:Option R):cnd false x y=y:=rfl
theorem kT(x y:Option R):cnd true x y=x:=rfl
theorem w64 {n:Int}(h1:-9223372036854775808≤n:=by omega)(h2:n≤9223372036854775807:=by omega):i64.wrap n=n:=LZ ⟨h1,h2⟩
theorem Jq {n:Nat}(hn:n≤1000000)(ok:Nat→Bool){b:Int→Option (Int⊕(Bool⊕Unit))}(h:∀i:Nat,i<n→b i=cnd (!ok i) (some (.inr (.inl false))) (some (.inl (i64.wrap ((i:Int)+(1:Int))))))(he:b n=some (.inr (.inr ()))):
  bf b (0:Int)=some (if (List.range n).all ok then .inr () else .inl false):=by
 have key:∀m i:Nat,i+m=n→bf b (i:Int)=some (if (List.range' i m).all ok then .inr () else .inl false):=by
  intro m
  induction m with
  |zero=>
       intro i hi;obtain rfl:i=n:=by omega
       exact eF he
  |succ m ih=>
   intro i hi
   have hb:=h i (by omega)
   rw[yF,cF]
   cases hk:ok i with
   |false=>
    rw[hk] at hb
    rw[eF (by rw[hb];rfl)];rfl
   |true=>
    rw[hk,w64] at hb
    rw[lS (by rw[hb];rfl)]
    exact ih (i+1) (by omega)
 rw[show ((0:Int))=((0:Nat):Int) from rfl,key n 0 (by omega),EV]
theorem Bt {n:Nat}(hn:n≤1000000)(ok:Nat→Bool){b:Int→Option (Int⊕(Int⊕Unit))}(h:∀i:Nat,i<n→b i=cnd (ok i) (some (.inr (.inl (i:Int)))) (some (.inl (i64.wrap ((i:Int)+(1:Int))))))(he:b n=some (.inr (.inr ()))):
  (bf b (0:Int)=some (.inr ())∧(List.range n).any ok=false)∨∃j:Nat,bf b (0:Int)=some (.inl (j:Int))∧(List.range n).any ok=true:=by
 have key:∀m i:Nat,i+m=n→(bf b (i:Int)=some (.inr ())∧(List.range' i m).any ok=false)∨∃j:Nat,bf b (i:Int)=some (.inl (j:Int))∧(List.range' i m).any ok=true:=by
  intro m
  induction m with
  |zero=>
       intro i hi;obtain rfl:i=n:=by omega
       exact .inl ⟨eF he,rfl⟩
  |succ m ih=>
   intro i hi
   have hb:=h i (by omega)
   rw[yF,List.any_cons]
   cases hk:ok i with
   |true=>
    rw[hk] at hb
    exact .inr ⟨i,eF (by rw[hb];rfl),rfl⟩
   |false=>
    rw[hk,w64] at hb
    rw[lS (show b (i:Int)=some (.inl (((i+1:Nat):Int))) by rw[hb];rfl)]
    exact ih (i+1) (by omega)
 rw[EV]
 exact key n 0 (by omega)
end
theorem LF {α:Type}[Inhabited α](l:List α)(p:α→Bool):(List.range l.length).all (fun i=>p l[i]!)=l.all p:=by
 rw[EU,eS,eS]
 constructor
 ·intro h x hx
  obtain⟨i,hi,rfl⟩:=List.getElem_of_mem hx
  have:=h i (AO.2 hi)
  rwa[yG,fI hi] at this
 ·intro h i hi
  have hi:=AO.1 hi
  rw[yG,fI hi]
  exact h _ (EX hi)
theorem LE {α:Type}[Inhabited α](l:List α)(p:α→Bool):(List.range l.length).any (fun i=>p l[i]!)=l.any p:=by
 have:=LF l (fun x=>!p x)
 rw[←Bool.not_inj_iff,←Qb,←Qb] at this
 simpa using this
theorem qP {C:Nat}(hC:C≤1000000){b:Int×List aj→Option ((Int×List aj)⊕List aj)}(f:Nat→Nu)(acc:List Nu)(hl:acc.length+C≤1000000)
  (h:∀k:Nat,k<C→∀l:List aj,b ((k:Int),l)=gd ((l++[nv (f k)]).length*136≤140737488355328) (some (.inl (i64.wrap ((k:Int)+(1:Int)),l++[nv (f k)]))))
  (he:∀l,b ((C:Int),l)=some (.inr l)):bf b ((0:Int),acc.map nv)=some ((acc++(List.range C).map f).map nv):=by
 have:=eK (b:=b) (fun k=>((k:Int),(acc++(List.range k).map f).map nv)) 0 C ((acc++(List.range C).map f).map nv) (fH _) (fun k _ hk=>?_) (he _)
 ·simpa using this
 ·rw[h k hk,aI (by simp;omega),w64,w7]
  simp
theorem qi {R C:Nat}(hR:R≤1000000){b:Int×List aj→Option ((Int×List aj)⊕List aj)}(f:Nat→Nat→Nu)(hl:R*C≤1000000)
  (h:∀i:Nat,i<R→∀acc:List Nu,acc.length+C≤1000000→b ((i:Int),acc.map nv)=some (.inl (i64.wrap ((i:Int)+(1:Int)),(acc++(List.range C).map (f i)).map nv)))
  (he:∀l,b ((R:Int),l)=some (.inr l)):bf b ((0:Int),([]:List aj))=some ((mkM R C f).map nv):=by
 have:=eK (b:=b) (fun i=>((i:Int),(mkM i C f).map nv)) 0 R ((mkM R C f).map nv) (fH _) (fun i _ hi=>?_) (he _)
 ·simpa[mkM] using this
 ·have:(i+1)*C≤R*C:=c6 _ hi
  rw[h i hi _ (by rw[br];rw[qu] at this;omega),w64,←yp]
  rfl
end
end
end Go.Proofs.YtgfcnncojhkcoaaGreat
