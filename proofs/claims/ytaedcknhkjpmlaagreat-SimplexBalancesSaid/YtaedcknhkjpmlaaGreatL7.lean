/-
Lemmas. Conditions: none.
-/
import Derived.Test.YtaedcknhkjpmlaaGreatL6
set_option linter.all false
set_option maxRecDepth 100000
set_option maxHeartbeats 8000000
namespace Go.Proofs.YtaedcknhkjpmlaaGreat
open Go.RowKit Go.IntKind Tryz
noncomputable section
structure eZ where
 vR:Int
 vC:Int
 vV:List am
 deriving Inhabited,DecidableEq
def mh:Cd eZ:=⟨3,fun x=>[.lit (.int .i64 x.vR),.lit (.int .i64 x.vC),slE aj x.vV],fun _=>rfl⟩
structure aX where
 vA:eZ
 vB:List am
 vC:List am
 deriving Inhabited,DecidableEq
def eC:Cd aX:=⟨5,fun x=>mh.f x.vA++[slE aj x.vB,slE aj x.vC],fun x=>by simp[mh.h,show mh.sz=3 from rfl]⟩
structure ci where
 vKind:Int
 vX:List am
 vY:List am
 vRay:List am
 deriving Inhabited,DecidableEq
def jL:Cd ci:=⟨4,fun x=>[.lit (.int .i64 x.vKind),slE aj x.vX,slE aj x.vY,slE aj x.vRay],fun _=>rfl⟩
def f7(aG:eZ)(j6:Int):Option Bool:=bnd (S:=Bool) (cnd (decide ((0:Int)≤aG.vR)) (cnd (decide ((0:Int)≤aG.vC)) (cnd (decide (aG.vR≤j6)) (cnd (decide (aG.vC≤(2000:Int))) (cnd (decide (((aG.vV).length:Int)=(i64.wrap (aG.vR*aG.vC)))) (bnd (c6 aG.vV) fun x6=>some (x6)) (some (false))) (some (false))) (some (false))) (some (false))) (some (false))) fun bn=>some bn
theorem rX {aG:eZ}{j6:Int}{r:Bool}(h:f7 aG j6=some r):ar prog 61 [dG mh aG,dI .i64 j6] (dB r):=by
 refine bk (rs:=[.tmp 4]) (fun cx hx h0=>?_) func61
 unfold f7 at h
 refine rs hx fun K hK=>?_
 refine s1 (d:=.pt 0 0) fQ ?_
 refine nbr hK ?_
 refine AW.seq ?_
 obtain⟨bn,hy,h⟩:=ae h
 refine jn ((PE cx .normal (fun bn=>[(4,dB bn)]) fun bn=>⟨[],[],0⟩) bn) ?_ ?_
 replace h:=hy
 refine rq hx fun K hK=>?_
 refine mbr ?_
 rcases aE h with⟨fT,h⟩|⟨fT,h⟩
 refine mbr ?_
 rcases aE h with⟨xf,h⟩|⟨xf,h⟩
 refine mbr ?_
 rcases aE h with⟨fI,h⟩|⟨fI,h⟩
 refine mbr ?_
 rcases aE h with⟨Gm,h⟩|⟨Gm,h⟩
 refine mbr ?_
 rcases aE h with⟨su,h⟩|⟨su,h⟩
 refine ga su ?_
 refine gbr ?_
 refine gcb h fY fun x6 h=>?_
 refine nbr hK ?_
 exact pe1 h h0 []
 refine nbr hK ?_
 exact pe1 h h0 []
 refine nbr hK ?_
 exact pe1 h h0 []
 refine nbr hK ?_
 exact pe1 h h0 []
 refine nbr hK ?_
 exact pe1 h h0 []
 refine nbr hK ?_
 exact pe1 h h0 []
 refine lw0 ?_
 exact AW.ret (rtv h)
def g7(nt:aX):Option Bool:=bnd (S:=Bool) (bnd (f7 nt.vA (2000:Int)) fun x1=>cnd x1 (cnd (decide (((nt.vB).length:Int)=nt.vA.vR)) (cnd (decide (((nt.vC).length:Int)=nt.vA.vC)) (bnd (c6 nt.vB) fun x6=>cnd x6 (bnd (c6 nt.vC) fun x9=>some (x9)) (some (false))) (some (false))) (some (false))) (some (false))) fun bn=>some bn
theorem qX {nt:aX}{r:Bool}(h:g7 nt=some r):ar prog 15 [dG eC nt] (dB r):=by
 refine bk (rs:=[.tmp 2]) (fun cx hx h0=>?_) func15
 unfold g7 at h
 refine rs hx fun K hK=>?_
 refine s1 (d:=.pt 0 0) fQ ?_
 refine nbr hK ?_
 refine AW.seq ?_
 obtain⟨bn,hy,h⟩:=ae h
 refine jn ((PE cx .normal (fun bn=>[(2,dB bn)]) fun bn=>⟨[],[],0⟩) bn) ?_ ?_
 replace h:=hy
 refine rq hx fun K hK=>?_
 refine sa ?_
 refine s1 (d:=dG mh nt.vA) (T_ldA yH) ?_
 refine scb h rX fun x1 h=>?_
 refine sa ?_
 rcases aE h with⟨fI,h⟩|⟨fI,h⟩
 refine mbr ?_
 rcases aE h with⟨Gm,h⟩|⟨Gm,h⟩
 refine mbr ?_
 rcases aE h with⟨su,h⟩|⟨su,h⟩
 refine ga su ?_
 refine gbr ?_
 refine gcb h fY fun x6 h=>?_
 refine mbr ?_
 rcases aE h with⟨uw,h⟩|⟨uw,h⟩
 refine ga uw ?_
 refine gbr ?_
 refine gcb h fY fun x9 h=>?_
 refine nbr hK ?_
 exact pe1 h h0 []
 refine nbr hK ?_
 exact pe1 h h0 []
 refine nbr hK ?_
 exact pe1 h h0 []
 refine nbr hK ?_
 exact pe1 h h0 []
 refine nbr hK ?_
 exact pe1 h h0 []
 refine lw0 ?_
 exact AW.ret (rtv h)
def ig(oM:List am)(aK:List am):Int×am→Option ((Int×am)⊕am):=fun (aY,uN)=>cnd (decide (aY<((oM).length:Int))) (gd (0≤aY∧aY<((oM).length:Int)) (gd (0≤aY∧aY<((aK).length:Int)) (bnd (iy ((oM)[(aY).toNat]!) ((aK)[(aY).toNat]!)) fun ta=>bnd (iz uN ta) fun qW=>some (.inl (i64.wrap (aY+(1:Int)),qW))))) (some (.inr uN))
def b8(oM:List am)(aK:List am):Option am:=cnd (decide (((oM).length:Int)≠((aK).length:Int))) (bnd (fe) fun x2=>some x2) (bnd (qc (0:Int)) fun x4=>bnd (bt (ig oM aK) ((0:Int),x4)) fun jN=>some jN)
theorem dH {oM:List am}{aK:List am}{r:am}(h:b8 oM aK=some r):ar prog 17 [dL aj oM,dL aj aK] (dG aj r):=by
 refine bk (rs:=[.cell 4 43]) (fun cx hx h0=>?_) func17
 unfold b8 at h
 refine rar hx ?_
 refine AW.seq (ra hx ?_)
 refine cdh h rfl (fun fT h=>?_) (fun fT h=>?_)
 refine rs hx fun K hK=>?_
 refine scb h kT fun x2 h=>?_
 refine nbr hK ?_
 exact AW.ret (rtv h)
 refine AW.skip (rs hx fun K hK=>?_)
 refine scb h D3 fun x4 h=>?_
 refine nbr hK ?_
 refine AW.seq (ra hx ?_)
 refine AW.block ?_
 obtain⟨jN,hy,h⟩:=ae h
 refine lp (S:=Int×am) (X:=am) (fun (aY,uN)=>[(0,dL aj oM),(1,dL aj aK),(4,.pt 0 0),(5,.pt 1 0),(15,dI .i64 ((oM).length:Int)),(16,dI .i64 aY)]) (fun (aY,uN)=>⟨[(0,dC (aj.f kI)),(1,dC (aj.f uN))],[],2⟩) (PE cx (.exit 0) (fun jN=>[(4,.pt 0 0),(5,.pt 1 0)]) fun jN=>⟨[(0,dC (aj.f kI)),(1,dC (aj.f jN))],[],2⟩) hy ?_ ?_ ?_
 exact wk0 h0 [0,1]
 clear hy h
 rintro⟨aY,uN⟩ y h
 dsimp only[ig] at h
 refine ra hx ?_
 refine AW.seq (cdh h rfl (fun qV h=>?_) (fun qV h=>?_))
 refine AW.skip (AW.seq (AW.block (ra hx ?_)))
 refine rqd [29,66] hx fun K hK=>?_
 iterate 3 refine sbr ?_
 obtain⟨hc7,h⟩:=aA h
 have Rv:(aY).toNat<(oM).length:=by omega
 refine sbr ?_
 refine s1 (d:=dG aj ((oM)[(aY).toNat]!)) (i8 (c:=aj) (l:=oM) (n:=(aY).toNat) (o:=0) aQ Rv (eS _ _ rfl)) ?_
 iterate 2 refine sa ?_
 obtain⟨hc9,h⟩:=aA h
 have Tv:(aY).toNat<(aK).length:=by omega
 refine sbr ?_
 refine s1 (d:=dG aj ((aK)[(aY).toNat]!)) (i8 (c:=aj) (l:=aK) (n:=(aY).toNat) (o:=0) aQ Tv (eS _ _ rfl)) ?_
 refine cqb h wV fun ta h=>?_
 refine cqb h wW fun qW h=>?_
 refine nbr hK ?_
 refine rb hx ?_
 exact pel h h0 [0,1]
 exact AW.exit (per h h0 [0,1])
 refine lw0 ?_
 refine rar hx ?_
 exact AW.ret (rtv h)
def fE(aK:am):Option Bool:=bnd (S:=Bool) (bnd (aS aK) fun x1=>cnd (!x1) (some (true)) (bnd (im aK) fun x4=>some (decide (x4<(0:Int))))) fun bn=>some bn
theorem uS {aK:am}{r:Bool}(h:fE aK=some r):ar prog 139 [dG aj aK] (dB r):=by
 refine bk (rs:=[.tmp 2]) (fun cx hx h0=>?_) func139
 unfold fE at h
 refine ra hx ?_
 refine AW.seq ?_
 obtain⟨bn,hy,h⟩:=ae h
 refine jn ((PE cx .normal (fun bn=>[(2,dB bn)]) fun bn=>⟨[],[],0⟩) bn) ?_ ?_
 replace h:=hy
 refine rq hx fun K hK=>?_
 refine mbr ?_
 refine scb h bQ fun x1 h=>?_
 refine mbr ?_
 rcases aE h with⟨fI,h⟩|⟨fI,h⟩
 refine nbr hK ?_
 exact pe1 h h0 []
 refine gbr ?_
 refine gcb h oO fun x4 h=>?_
 refine nbr hK ?_
 exact pe1 h h0 []
 refine lw0 ?_
 exact AW.ret (rtv h)
def aN(wz:List am):Int→Option (Int⊕(Int⊕Unit)):=fun aD=>cnd (decide (aD<((wz).length:Int))) (gd (0≤aD∧aD<((wz).length:Int)) (bnd (fE ((wz)[(aD).toNat]!)) fun x4=>cnd x4 (some (.inr (.inl aD))) (some (.inl (i64.wrap (aD+(1:Int))))))) (some (.inr (.inr ())))
def bj(wz:List am):Option Int:=bnd (bt (aN wz) (0:Int)) fun y7=>match y7 with| .inl r=>some r| .inr ()=>some (-1:Int)
theorem gO {wz:List am}{r:Int}(h:bj wz=some r):ar prog 106 [dL aj wz,.e (.lit (.func (.func 139) #[] #[]))] (dI .i64 r):=by
 refine bk (rs:=[.tmp 4]) (fun cx hx h0=>?_) func106
 unfold bj at h
 refine ra hx ?_
 refine AW.seq (ra hx ?_)
 refine AW.block ?_
 obtain⟨y,hy,h⟩:=ae h
 refine lp (S:=Int) (X:=Int⊕Unit) (fun aD=>[(0,dL aj wz),(1,.e (.lit (.func (.func 139) #[] #[]))),(7,dI .i64 ((wz).length:Int)),(8,dI .i64 aD)]) (fun aD=>⟨[],[],0⟩) (PS (PR [.tmp 4] fun r=>dI .i64 r) (PE cx (.exit 0) (fun ()=>[]) fun ()=>⟨[],[],0⟩)) hy ?_ ?_ ?_
 exact wk0 h0 []
 clear hy h
 rintro aD y h
 dsimp only[aN] at h
 refine ra hx ?_
 refine AW.seq (cdh h rfl (fun fT h=>?_) (fun fT h=>?_))
 refine AW.skip (AW.seq (AW.block (ra hx ?_)))
 refine rs hx fun K hK=>?_
 iterate 3 refine sa ?_
 obtain⟨rA,h⟩:=aA h
 have yv:(aD).toNat<(wz).length:=by omega
 refine sbr ?_
 refine s1 (d:=dG aj ((wz)[(aD).toNat]!)) (i8 (c:=aj) (l:=wz) (n:=(aD).toNat) (o:=0) aQ yv (eS _ _ rfl)) ?_
 refine scb h uS fun x4 h=>?_
 refine nl hK ?_
 refine cdh h rfl (fun qV h=>?_) (fun qV h=>?_)
 refine ra hx ?_
 refine AW.ret ?_
 cases h
 refine PS.r ⟨by nofun,PS.l (PR.i ?_)⟩
 exact rv1
 refine AW.skip (rb hx ?_)
 exact pel h h0 []
 exact AW.exit (peq h h0 [])
 rcases y with r|⟨⟩
 rintro ex tm' hp' ⟨rfl,hw⟩
 cases h
 exact hw
 refine lwr ?_
 refine ra hx ?_
 exact AW.ret (rtv h)
def aO(wz:List am):Option Bool:=bnd (bj wz) fun x1=>some (decide ((0:Int)≤x1))
theorem fX {wz:List am}{r:Bool}(h:aO wz=some r):ar prog 119 [dL aj wz,.e (.lit (.func (.func 139) #[] #[]))] (dB r):=by
 refine bk (rs:=[.tmp 4]) (fun cx hx h0=>?_) func119
 unfold aO at h
 refine ra hx ?_
 refine rs hx fun K hK=>?_
 refine mbr ?_
 refine scb h gO fun x1 h=>?_
 refine nbr hK ?_
 exact AW.ret (rtv h)
def ep(eE:List am)(db:Int):Option Bool:=bnd (S:=Bool) (cnd (decide (((eE).length:Int)=db)) (bnd (aO eE) fun x2=>some (!x2)) (some (false))) fun bn=>some bn
theorem mq {eE:List am}{db:Int}{r:Bool}(h:ep eE db=some r):ar prog 80 [dL aj eE,dI .i64 db] (dB r):=by
 refine bk (rs:=[.tmp 4]) (fun cx hx h0=>?_) func80
 unfold ep at h
 refine ra hx ?_
 refine AW.seq ?_
 obtain⟨bn,hy,h⟩:=ae h
 refine jn ((PE cx .normal (fun bn=>[(4,dB bn)]) fun bn=>⟨[],[],0⟩) bn) ?_ ?_
 replace h:=hy
 refine rq hx fun K hK=>?_
 refine mbr ?_
 rcases aE h with⟨fT,h⟩|⟨fT,h⟩
 refine ga fT ?_
 refine gcb h fX fun x2 h=>?_
 refine nbr hK ?_
 exact pe1 h h0 []
 refine nbr hK ?_
 exact pe1 h h0 []
 refine lw0 ?_
 exact AW.ret (rtv h)
def f6(aG:eZ)(aP:List am):Option Bool:=bnd (S:=Bool) (bnd (f7 aG (1000:Int)) fun x1=>cnd x1 (cnd (decide (((aP).length:Int)=aG.vR)) (bnd (c6 aP) fun x5=>some (x5)) (some (false))) (some (false))) fun bn=>some bn
theorem rW {aG:eZ}{aP:List am}{r:Bool}(h:f6 aG aP=some r):ar prog 73 [dG mh aG,dL aj aP] (dB r):=by
 refine bk (rs:=[.tmp 4]) (fun cx hx h0=>?_) func73
 unfold f6 at h
 refine rs hx fun K hK=>?_
 refine s1 (d:=.pt 0 0) fQ ?_
 refine nbr hK ?_
 refine AW.seq ?_
 obtain⟨bn,hy,h⟩:=ae h
 refine jn ((PE cx .normal (fun bn=>[(4,dB bn)]) fun bn=>⟨[],[],0⟩) bn) ?_ ?_
 replace h:=hy
 refine rq hx fun K hK=>?_
 refine s1 (d:=dG mh aG) (T_ldA yH) ?_
 refine scb h rX fun x1 h=>?_
 refine sa ?_
 rcases aE h with⟨fI,h⟩|⟨fI,h⟩
 refine mbr ?_
 rcases aE h with⟨Gm,h⟩|⟨Gm,h⟩
 refine ga Gm ?_
 refine gcb h fY fun x5 h=>?_
 refine nbr hK ?_
 exact pe1 h h0 []
 refine nbr hK ?_
 exact pe1 h h0 []
 refine nbr hK ?_
 exact pe1 h h0 []
 refine lw0 ?_
 exact AW.ret (rtv h)
def ji(aG:eZ)(Ej:Int):Option (List am):=gd (0≤i64.wrap (Ej*aG.vC)∧i64.wrap (Ej*aG.vC)≤i64.wrap ((i64.wrap (Ej+(1:Int)))*aG.vC)∧i64.wrap ((i64.wrap (Ej+(1:Int)))*aG.vC)≤((aG.vV).length:Int)) (some (zy aG.vV (i64.wrap (Ej*aG.vC)) (i64.wrap ((i64.wrap (Ej+(1:Int)))*aG.vC))))
theorem v9 {aG:eZ}{Ej:Int}{r:List am}(h:ji aG Ej=some r):ar prog 82 [dG mh aG,dI .i64 Ej] (dL aj r):=by
 refine bk (rs:=[.tmp 4]) (fun cx hx h0=>?_) func82
 unfold ji at h
 refine rs hx fun K hK=>?_
 refine s1 (d:=.pt 0 0) fQ ?_
 refine s1 (d:=dO 1 aj ([]:List am)) (gi cg aQ) ?_
 refine nl hK ?_
 refine rs hx fun K hK=>?_
 iterate 11 refine sbr ?_
 obtain⟨Mn,h⟩:=aA h
 refine s1 (T_sl (c:=aj) (l:=aG.vV) (a:=i64.wrap (Ej*aG.vC)) (b:=i64.wrap ((i64.wrap (Ej+(1:Int)))*aG.vC)) Mn cg aQ) ?_
 refine nbr hK ?_
 exact AW.ret (rtv h)
def p9(oM:Int):Option Bool:=some (decide (oM≤(0:Int)))
theorem Bt {oM:Int}{r:Bool}(h:p9 oM=some r):ar prog 132 [dI .i64 oM] (dB r):=by
 refine bk (rs:=[.tmp 2]) (fun cx hx h0=>?_) func132
 unfold p9 at h
 iterate 2 refine ra hx ?_
 exact AW.ret (rtv h)
def bA(aG:eZ)(aK:List am)(co:List am):Int→Option (Int⊕(Bool⊕Unit)):=fun aD=>cnd (decide (aD<((co).length:Int))) (gd (0≤aD∧aD<((co).length:Int)) (bnd (ji aG aD) fun x4=>bnd (b8 x4 aK) fun x6=>bnd (S:=Bool) (bnd (aS x6) fun x8=>cnd (!x8) (some (true)) (bnd (fL x6 ((co)[(aD).toNat]!)) fun ta=>bnd (p9 ta) fun qW=>some (!qW))) fun nk=>cnd nk (some (.inr (.inl false))) (some (.inl (i64.wrap (aD+(1:Int))))))) (some (.inr (.inr ())))
def bf(aG:eZ)(aK:List am)(co:List am):Option Bool:=bnd (bt (bA aG aK co) (0:Int)) fun y17=>match y17 with| .inl r=>some r| .inr ()=>some true
theorem jq {aG:eZ}{aK:List am}{co:List am}{r:Bool}(h:bf aG aK co=some r):ar prog 81 [.e (.lit (.func (.func 82) #[] #[])),dG mh aG,dL aj aK,dL aj co,.e (.lit (.func (.func 132) #[] #[]))] (dB r):=by
 refine bk (rs:=[.tmp 10]) (fun cx hx h0=>?_) func81
 unfold bf at h
 refine rs hx fun K hK=>?_
 refine s1 (d:=.pt 0 0) fQ ?_
 refine nbr hK ?_
 refine AW.seq (ra hx ?_)
 refine AW.block ?_
 obtain⟨y,hy,h⟩:=ae h
 refine lp (S:=Int) (X:=Bool⊕Unit) (fun aD=>[(0,.e (.lit (.func (.func 82) #[] #[]))),(2,dL aj aK),(4,.e (.lit (.func (.func 132) #[] #[]))),(6,.pt 0 0),(14,dL aj co),(15,dI .i64 ((co).length:Int)),(16,dI .i64 aD)]) (fun aD=>⟨[(0,[dI .i64 aG.vR,dI .i64 aG.vC,dL aj aG.vV])],[],1⟩) (PS (PR [.tmp 10] fun r=>dB r) (PE cx (.exit 0) (fun ()=>[]) fun ()=>⟨[],[],0⟩)) hy ?_ ?_ ?_
 exact wk0 h0 [0]
 clear hy h
 rintro aD y h
 dsimp only[bA] at h
 refine ra hx ?_
 refine AW.seq (cdh h rfl (fun fT h=>?_) (fun fT h=>?_))
 refine AW.skip (AW.seq (AW.block (rs hx fun K hK=>?_)))
 refine sa ?_
 obtain⟨rA,h⟩:=aA h
 have yv:(aD).toNat<(co).length:=by omega
 refine sbr ?_
 refine s1 (d:=dG aj ((co)[(aD).toNat]!)) (i8 (c:=aj) (l:=co) (n:=(aD).toNat) (o:=0) aQ yv (eS _ _ rfl)) ?_
 refine nbr hK ?_
 refine rs hx fun K hK=>?_
 refine sa ?_
 refine s1 (d:=dG mh aG) (T_ldA yH) ?_
 refine sa ?_
 refine scb h v9 fun x4 h=>?_
 refine sa ?_
 refine scb h dH fun x6 h=>?_
 refine nbr hK ?_
 refine AW.seq ?_
 obtain⟨nk,hy,h⟩:=ae h
 refine jn ((PE cx .normal (fun nk=>[(0,.e (.lit (.func (.func 82) #[] #[]))),(2,dL aj aK),(4,.e (.lit (.func (.func 132) #[] #[]))),(6,.pt 0 0),(14,dL aj co),(15,dI .i64 ((co).length:Int)),(16,dI .i64 aD),(37,dB nk)]) fun nk=>⟨[(0,[dI .i64 aG.vR,dI .i64 aG.vC,dL aj aG.vV])],[],1⟩) nk) ?_ ?_
 replace h:=hy
 refine rq hx fun K hK=>?_
 refine mbr ?_
 refine scb h bQ fun x8 h=>?_
 refine mbr ?_
 rcases aE h with⟨n0,h⟩|⟨n0,h⟩
 refine nbr hK ?_
 exact pe1 h h0 [0]
 refine ga n0 ?_
 iterate 2 refine gbr ?_
 refine gcb h mr fun ta h=>?_
 refine gcb h Bt fun qW h=>?_
 refine nbr hK ?_
 exact pe1 h h0 [0]
 refine lw0 ?_
 refine cdh h rfl (fun tS h=>?_) (fun tS h=>?_)
 refine ra hx ?_
 refine AW.ret ?_
 cases h
 refine PS.r ⟨by nofun,PS.l (PR.i ?_)⟩
 exact rv1
 refine AW.skip (rb hx ?_)
 exact pel h h0 [0]
 exact AW.exit (peq h h0 [])
 rcases y with r|⟨⟩
 rintro ex tm' hp' ⟨rfl,hw⟩
 cases h
 exact hw
 refine lwr ?_
 refine ra hx ?_
 exact AW.ret (rtv h)
def dY(aK:List am)(aP:List am)(pB:aX):Option Bool:=bnd (S:=Bool) (bnd (ep aK pB.vA.vC) fun x1=>cnd x1 (bnd (bf pB.vA aK aP) fun x4=>some (x4)) (some (false))) fun bn=>some bn
theorem lW {aK:List am}{aP:List am}{pB:aX}{r:Bool}(h:dY aK aP pB=some r):HC prog 131 [dL aj aK,dL aj aP,.pt 0 0] ⟨[(0,[dI .i64 pB.vA.vR,dI .i64 pB.vA.vC,dL aj pB.vA.vV,dL aj pB.vB,dL aj pB.vC])],[],1⟩ (dB r) ⟨[(0,[dI .i64 pB.vA.vR,dI .i64 pB.vA.vC,dL aj pB.vA.vV,dL aj pB.vB,dL aj pB.vC])],[],1⟩:=by
 refine HC.of (rs:=[.tmp 5]) tok func131 rfl rfl (bb rfl) rfl (fun cx hx h1 hok=>?_)
 have h0:cx.hp0.next=1:=by rw[h1]
 simp only[fP,Nat.reduceAdd,bw]
 unfold dY at h
 refine ra hx ?_
 refine AW.seq ?_
 obtain⟨bn,hy,h⟩:=ae h
 refine jn ((PE cx .normal (fun bn=>[(5,dB bn)]) fun bn=>⟨[(0,[dI .i64 pB.vA.vR,dI .i64 pB.vA.vC,dL aj pB.vA.vV,dL aj pB.vB,dL aj pB.vC])],[],1⟩) bn) ?_ ?_
 replace h:=hy
 refine rq hx fun K hK=>?_
 refine mbr ?_
 refine scb h mq fun x1 h=>?_
 refine sa ?_
 rcases aE h with⟨fI,h⟩|⟨fI,h⟩
 refine ga fI ?_
 refine g1 (d:=dG mh pB.vA) fI (T_ldA yH) ?_
 iterate 2 refine ga fI ?_
 refine gcb h jq fun x4 h=>?_
 refine nbr hK ?_
 cases h
 exact PE.i (wkN h0 [] (wR rfl wTn) (vR rfl wVn) wLn)
 refine nbr hK ?_
 cases h
 exact PE.i (wkN h0 [] (wR rfl wTn) (vR rfl wVn) wLn)
 refine lw0 ?_
 refine AW.ret ?_
 cases h
 exact rH1 (wkN h0 [] (wR rfl wTn) (vR rfl wVn) wLn)
def fU(aG:eZ)(wg:Int):(List am)×Int→Option (((List am)×Int)⊕((List am))):=fun (aU,bu)=>cnd (decide (bu<aG.vR)) (gd (0≤i64.wrap ((i64.wrap (bu*aG.vC))+wg)∧i64.wrap ((i64.wrap (bu*aG.vC))+wg)<((aG.vV).length:Int)) (gd ((aU++[(aG.vV)[(i64.wrap ((i64.wrap (bu*aG.vC))+wg)).toNat]!]).length*136≤140737488355328) (some (.inl (aU++[(aG.vV)[(i64.wrap ((i64.wrap (bu*aG.vC))+wg)).toNat]!],i64.wrap (bu+(1:Int))))))) (some (.inr aU))
def iM(aG:eZ)(wg:Int):Option (List am):=bnd (bt (fU aG wg) (([]:List am),(0:Int))) fun bh=>some bh
theorem zk {aG:eZ}{wg:Int}{r:List am}(h:iM aG wg=some r):ar prog 84 [dG mh aG,dI .i64 wg] (.own 43 aj.sz r.length (r.flatMap aj.f)):=by
 refine bk (rs:=[.tmp 4]) (fun cx hx h0=>?_) func84
 unfold iM at h
 refine rs hx fun K hK=>?_
 refine s1 (d:=.pt 0 0) fQ ?_
 refine s1 (d:=dO 1 aj ([]:List am)) (gi cg aQ) ?_
 refine nl hK ?_
 refine rs hx fun K hK=>?_
 refine s1 (d:=dO 2 aj ([]:List am)) (gi cg aQ) ?_
 refine nl hK ?_
 refine AW.seq (rar hx ?_)
 refine AW.block ?_
 obtain⟨bh,hy,h⟩:=ae h
 refine lp (S:=(List am)×Int) (X:=(List am)) (fun (aU,bu)=>[(1,dI .i64 wg),(2,.pt 0 0),(5,dO 1 aj aU),(8,dI .i64 aG.vR),(9,dI .i64 bu)]) (fun (aU,bu)=>⟨[(0,[dI .i64 aG.vR,dI .i64 aG.vC,dL aj aG.vV])],[(1,(aU).length,36,43)],2⟩) (PE cx (.exit 0) (fun bh=>[(5,dO 0 aj bh)]) fun bh=>⟨[],[(0,(bh).length,36,43)],1⟩) hy ?_ ?_ ?_
 exact wk0 h0 [0,2]
 clear hy h
 rintro⟨aU,bu⟩ y h
 dsimp only[fU] at h
 refine ra hx ?_
 refine AW.seq (cdh h rfl (fun fT h=>?_) (fun fT h=>?_))
 refine AW.skip (AW.seq (AW.block (ra hx ?_)))
 refine rq hx fun K hK=>?_
 iterate 9 refine sbr ?_
 obtain⟨rA,h⟩:=aA h
 have yv:(i64.wrap ((i64.wrap (bu*aG.vC))+wg)).toNat<(aG.vV).length:=by omega
 refine sbr ?_
 refine s1 (d:=dG aj ((aG.vV)[(i64.wrap ((i64.wrap (bu*aG.vC))+wg)).toNat]!)) (i8 (c:=aj) (l:=aG.vV) (n:=(i64.wrap ((i64.wrap (bu*aG.vC))+wg)).toNat) (o:=0) aQ yv (eS _ _ rfl)) ?_
 refine s1 (kP ([(aG.vV)[(i64.wrap ((i64.wrap (bu*aG.vC))+wg)).toNat]!]:List am) aj cg aQ) ?_
 obtain⟨Pf,h⟩:=aA h
 refine s1 (d:=dO 1 aj (aU++[(aG.vV)[(i64.wrap ((i64.wrap (bu*aG.vC))+wg)).toNat]!])) (qn cg aQ Pf) ?_
 refine nbr hK ?_
 refine rb hx ?_
 exact pel h h0 [0,1]
 exact AW.exit (per h h0 [1])
 refine lw0 ?_
 refine ra hx ?_
 refine AW.ret ?_
 cases h
 exact oL.own rfl rfl
def o5(oM:Int):Option Bool:=some (decide ((0:Int)≤oM))
theorem Aj {oM:Int}{r:Bool}(h:o5 oM=some r):ar prog 85 [dI .i64 oM] (dB r):=by
 refine bk (rs:=[.tmp 2]) (fun cx hx h0=>?_) func85
 unfold o5 at h
 iterate 2 refine ra hx ?_
 exact AW.ret (rtv h)
def bo(aG:eZ)(aK:List am)(co:List am):Int→Option (Int⊕(Bool⊕Unit)):=fun aD=>cnd (decide (aD<((co).length:Int))) (gd (0≤aD∧aD<((co).length:Int)) (bnd (iM aG aD) fun x4=>bnd (b8 x4 aK) fun x6=>bnd (S:=Bool) (bnd (aS x6) fun x8=>cnd (!x8) (some (true)) (bnd (fL x6 ((co)[(aD).toNat]!)) fun ta=>bnd (o5 ta) fun qW=>some (!qW))) fun nk=>cnd nk (some (.inr (.inl false))) (some (.inl (i64.wrap (aD+(1:Int))))))) (some (.inr (.inr ())))
def aM(aG:eZ)(aK:List am)(co:List am):Option Bool:=bnd (bt (bo aG aK co) (0:Int)) fun y17=>match y17 with| .inl r=>some r| .inr ()=>some true
theorem eb {aG:eZ}{aK:List am}{co:List am}{r:Bool}(h:aM aG aK co=some r):ar prog 81 [.e (.lit (.func (.func 84) #[] #[])),dG mh aG,dL aj aK,dL aj co,.e (.lit (.func (.func 85) #[] #[]))] (dB r):=by
 refine bk (rs:=[.tmp 10]) (fun cx hx h0=>?_) func81
 unfold aM at h
 refine rs hx fun K hK=>?_
 refine s1 (d:=.pt 0 0) fQ ?_
 refine nbr hK ?_
 refine AW.seq (ra hx ?_)
 refine AW.block ?_
 obtain⟨y,hy,h⟩:=ae h
 refine lp (S:=Int) (X:=Bool⊕Unit) (fun aD=>[(0,.e (.lit (.func (.func 84) #[] #[]))),(2,dL aj aK),(4,.e (.lit (.func (.func 85) #[] #[]))),(6,.pt 0 0),(14,dL aj co),(15,dI .i64 ((co).length:Int)),(16,dI .i64 aD)]) (fun aD=>⟨[(0,[dI .i64 aG.vR,dI .i64 aG.vC,dL aj aG.vV])],[],1⟩) (PS (PR [.tmp 10] fun r=>dB r) (PE cx (.exit 0) (fun ()=>[]) fun ()=>⟨[],[],0⟩)) hy ?_ ?_ ?_
 exact wk0 h0 [0]
 clear hy h
 rintro aD y h
 dsimp only[bo] at h
 refine ra hx ?_
 refine AW.seq (cdh h rfl (fun fT h=>?_) (fun fT h=>?_))
 refine AW.skip (AW.seq (AW.block (rs hx fun K hK=>?_)))
 refine sa ?_
 obtain⟨rA,h⟩:=aA h
 have yv:(aD).toNat<(co).length:=by omega
 refine sbr ?_
 refine s1 (d:=dG aj ((co)[(aD).toNat]!)) (i8 (c:=aj) (l:=co) (n:=(aD).toNat) (o:=0) aQ yv (eS _ _ rfl)) ?_
 refine nbr hK ?_
 refine rs hx fun K hK=>?_
 refine sa ?_
 refine s1 (d:=dG mh aG) (T_ldA yH) ?_
 refine sa ?_
 obtain⟨x4,QB,h⟩:=ae h
 refine s1 (iU rfl (zk QB) (by simp only[iX,l6,gh,io,eQ,bK];exact⟨cl _ _,rfl⟩) (lA (aw _) (lA (aw _) lAn))) ?_
 refine sa ?_
 refine scb h dH fun x6 h=>?_
 refine nbr hK ?_
 refine AW.seq ?_
 obtain⟨nk,hy,h⟩:=ae h
 refine jn ((PE cx .normal (fun nk=>[(0,.e (.lit (.func (.func 84) #[] #[]))),(2,dL aj aK),(4,.e (.lit (.func (.func 85) #[] #[]))),(6,.pt 0 0),(14,dL aj co),(15,dI .i64 ((co).length:Int)),(16,dI .i64 aD),(37,dB nk)]) fun nk=>⟨[(0,[dI .i64 aG.vR,dI .i64 aG.vC,dL aj aG.vV])],[],1⟩) nk) ?_ ?_
 replace h:=hy
 refine rq hx fun K hK=>?_
 refine mbr ?_
 refine scb h bQ fun x8 h=>?_
 refine mbr ?_
 rcases aE h with⟨n0,h⟩|⟨n0,h⟩
 refine nbr hK ?_
 exact pe1 h h0 [0]
 refine ga n0 ?_
 iterate 2 refine gbr ?_
 refine gcb h mr fun ta h=>?_
 refine gcb h Aj fun qW h=>?_
 refine nbr hK ?_
 exact pe1 h h0 [0]
 refine lw0 ?_
 refine cdh h rfl (fun tS h=>?_) (fun tS h=>?_)
 refine ra hx ?_
 refine AW.ret ?_
 cases h
 refine PS.r ⟨by nofun,PS.l (PR.i ?_)⟩
 exact rv1
 refine AW.skip (rb hx ?_)
 exact pel h h0 [0]
 exact AW.exit (peq h h0 [])
 rcases y with r|⟨⟩
 rintro ex tm' hp' ⟨rfl,hw⟩
 cases h
 exact hw
 refine lwr ?_
 refine ra hx ?_
 exact AW.ret (rtv h)
def eL(oM:List am)(pB:ci)(p_v1:aX):Option Bool:=bnd (S:=Bool) (bnd (ep pB.vY p_v1.vA.vR) fun x1=>cnd x1 (bnd (aM p_v1.vA pB.vY oM) fun x4=>some (x4)) (some (false))) fun bn=>some bn
theorem pE {oM:List am}{pB:ci}{p_v1:aX}{r:Bool}(h:eL oM pB p_v1=some r):HC prog 133 [dL aj oM,.pt 0 0,.pt 1 0] ⟨[(0,[dI .i64 pB.vKind,dL aj pB.vX,dL aj pB.vY,dL aj pB.vRay]),(1,[dI .i64 p_v1.vA.vR,dI .i64 p_v1.vA.vC,dL aj p_v1.vA.vV,dL aj p_v1.vB,dL aj p_v1.vC])],[],2⟩ (dB r) ⟨[(0,[dI .i64 pB.vKind,dL aj pB.vX,dL aj pB.vY,dL aj pB.vRay]),(1,[dI .i64 p_v1.vA.vR,dI .i64 p_v1.vA.vC,dL aj p_v1.vA.vV,dL aj p_v1.vB,dL aj p_v1.vC])],[],2⟩:=by
 refine HC.of (rs:=[.tmp 4]) tok func133 rfl rfl (bb rfl) rfl (fun cx hx h1 hok=>?_)
 have h0:cx.hp0.next=2:=by rw[h1]
 simp only[fP,Nat.reduceAdd,bw]
 unfold eL at h
 refine ra hx ?_
 refine AW.seq ?_
 obtain⟨bn,hy,h⟩:=ae h
 refine jn ((PE cx .normal (fun bn=>[(4,dB bn)]) fun bn=>⟨[(0,[dI .i64 pB.vKind,dL aj pB.vX,dL aj pB.vY,dL aj pB.vRay]),(1,[dI .i64 p_v1.vA.vR,dI .i64 p_v1.vA.vC,dL aj p_v1.vA.vV,dL aj p_v1.vB,dL aj p_v1.vC])],[],2⟩) bn) ?_ ?_
 replace h:=hy
 refine rq hx fun K hK=>?_
 refine mbr ?_
 refine scb h mq fun x1 h=>?_
 refine sa ?_
 rcases aE h with⟨fI,h⟩|⟨fI,h⟩
 refine ga fI ?_
 refine g1 (d:=dG mh p_v1.vA) fI (T_ldA yH) ?_
 refine ga fI ?_
 refine gbr ?_
 refine ga fI ?_
 refine gcb h eb fun x4 h=>?_
 refine nbr hK ?_
 cases h
 exact PE.i (wkN h0 [] (wR rfl wTn) (vR rfl (vR rfl wVn)) wLn)
 refine nbr hK ?_
 cases h
 exact PE.i (wkN h0 [] (wR rfl wTn) (vR rfl (vR rfl wVn)) wLn)
 refine lw0 ?_
 refine AW.ret ?_
 cases h
 exact rH1 (wkN h0 [] (wR rfl wTn) (vR rfl (vR rfl wVn)) wLn)
def f5(aK:am)(Is:Int):Option Bool:=bnd (S:=Bool) (bnd (aS aK) fun x1=>cnd x1 (bnd (im aK) fun x4=>some (decide (x4=Is))) (some (false))) fun bn=>some bn
theorem pQ {aK:am}{Is:Int}{r:Bool}(h:f5 aK Is=some r):ar prog 86 [dG aj aK,dI .i64 Is] (dB r):=by
 refine bk (rs:=[.tmp 4]) (fun cx hx h0=>?_) func86
 unfold f5 at h
 refine ra hx ?_
 refine AW.seq ?_
 obtain⟨bn,hy,h⟩:=ae h
 refine jn ((PE cx .normal (fun bn=>[(4,dB bn)]) fun bn=>⟨[],[],0⟩) bn) ?_ ?_
 replace h:=hy
 refine rq hx fun K hK=>?_
 refine mbr ?_
 refine scb h bQ fun x1 h=>?_
 refine sa ?_
 rcases aE h with⟨fI,h⟩|⟨fI,h⟩
 refine gbr ?_
 refine gcb h oO fun x4 h=>?_
 refine nbr hK ?_
 exact pe1 h h0 []
 refine nbr hK ?_
 exact pe1 h h0 []
 refine lw0 ?_
 exact AW.ret (rtv h)
def jE(nt:aX)(aG:ci):Option Bool:=cnd (decide (aG.vKind=(1:Int))) (bnd (S:=Bool) (cnd (decide ((0:Int)<((aG.vRay).length:Int))) (some (true)) (bnd (dY aG.vX nt.vB nt) fun x3=>cnd (!x3) (some (true)) (bnd (eL nt.vC (⟨aG.vKind,aG.vX,aG.vY,aG.vRay⟩:ci) nt) fun x6=>some (!x6)))) fun uO=>cnd uO (some false) (bnd (b8 nt.vC aG.vX) fun oG=>bnd (S:=Bool) (bnd (aS oG) fun nq=>cnd nq (bnd (b8 aG.vY nt.vB) fun J2=>some (decide (oG=J2))) (some (false))) fun kN=>some kN)) (cnd (decide (aG.vKind=(2:Int))) (bnd (S:=Bool) (cnd (decide ((i64.wrap (((aG.vX).length:Int)+((aG.vRay).length:Int)))=(0:Int))) (bnd (fJ nt.vA.vC) fun Br=>bnd (eL Br (⟨aG.vKind,aG.vX,aG.vY,aG.vRay⟩:ci) nt) fun Di=>cnd Di (bnd (b8 aG.vY nt.vB) fun JS=>bnd (f5 JS (-1:Int)) fun Bq=>some (Bq)) (some (false))) (some (false))) fun HT=>some HT) (cnd (decide (aG.vKind=(3:Int))) (bnd (S:=Bool) (cnd (decide (((aG.vY).length:Int)=(0:Int))) (bnd (dY aG.vX nt.vB nt) fun x32=>cnd x32 (bnd (fJ nt.vA.vR) fun Ad=>bnd (dY aG.vRay Ad nt) fun DV=>cnd DV (bnd (b8 nt.vC aG.vRay) fun x40=>bnd (f5 x40 (1:Int)) fun x42=>some (x42)) (some (false))) (some (false))) (some (false))) fun HQ=>some HQ) (some false)))
theorem Ah {nt:aX}{aG:ci}{r:Bool}(h:jE nt aG=some r):ar prog 71 [dG eC nt,dG jL aG] (dB r):=by
 refine bk (rs:=[.tmp 4]) (fun cx hx h0=>?_) func71
 unfold jE at h
 refine rs hx fun K hK=>?_
 refine s1 (d:=.pt 0 0) fQ ?_
 refine s1 (d:=.pt 1 0) fQ ?_
 refine nbr hK ?_
 refine rs hx fun K hK=>?_
 refine s1 FJ ?_
 refine nbr hK ?_
 refine rs hx fun K hK=>?_
 refine s1 FJ ?_
 refine nbr hK ?_
 refine AW.seq (rar hx ?_)
 refine AW.block (ra hx ?_)
 refine cdh h rfl (fun fT h=>?_) (fun fT h=>?_)
 iterate 2 refine AW.seq ?_
 obtain⟨uO,hy,h⟩:=ae h
 refine jn ((PE cx .normal (fun uO=>[(2,.pt 0 0),(3,.pt 1 0),(33,dB uO)]) fun uO=>⟨[(0,[dI .i64 nt.vA.vR,dI .i64 nt.vA.vC,dL aj nt.vA.vV,dL aj nt.vB,dL aj nt.vC]),(1,[dI .i64 aG.vKind,dL aj aG.vX,dL aj aG.vY,dL aj aG.vRay])],[],2⟩) uO) ?_ ?_
 replace h:=hy
 refine rq hx fun K hK=>?_
 refine mbr ?_
 rcases aE h with⟨xf,h⟩|⟨xf,h⟩
 refine nbr hK ?_
 exact pe1 h h0 [0,1]
 iterate 2 refine ga xf ?_
 refine gbr ?_
 refine ga xf ?_
 refine gbr ?_
 obtain⟨x3,S0,h⟩:=ae h
 refine g1 xf (xL [0] rfl (lW S0) (fA (aw _) (fA (aw _) (fA (aw _) fAn))) (vR rfl wVn) wLn) ?_
 refine mbr ?_
 rcases aE h with⟨su,h⟩|⟨su,h⟩
 refine nbr hK ?_
 exact pe1 h h0 [0,1]
 iterate 2 refine ga su ?_
 refine gbr ?_
 obtain⟨x6,wA,h⟩:=ae h
 refine g1 su (xL [1,0] rfl (pE wA) (fA (aw _) (fA (aw _) (fA (aw _) fAn))) (vR rfl (vR rfl wVn)) wLn) ?_
 refine nbr hK ?_
 exact pe1 h h0 [0,1]
 refine lw0 ?_
 refine cdh h rfl (fun K8 h=>?_) (fun K8 h=>?_)
 refine ra hx ?_
 exact AW.ret (rtv h)
 refine AW.skip (rs hx fun K hK=>?_)
 refine mbr ?_
 refine scb h dH fun oG h=>?_
 refine nbr hK ?_
 refine AW.seq ?_
 obtain⟨kN,hy,h⟩:=ae h
 refine jn ((PE cx .normal (fun kN=>[(4,dB kN)]) fun kN=>⟨[],[],0⟩) kN) ?_ ?_
 replace h:=hy
 refine rqd [92,17] hx fun K hK=>?_
 refine mbr ?_
 refine cqb h bQ fun nq h=>?_
 refine sa ?_
 rcases aE h with⟨tT,h⟩|⟨tT,h⟩
 refine gbr ?_
 refine ga tT ?_
 refine gbr ?_
 refine ga tT ?_
 refine gbr ?_
 obtain⟨J2,hx16,h⟩:=ae h
 refine sqg tok rfl rfl tT (dH hx16) rfl (lA (aw _) (lA (aw _) lAn)) (.inl (jS _ _)) ?_
 refine g1 tT (FK tok 4 (by decide) HA aQ) ?_
 refine nbr hK ?_
 exact pe1 h h0 []
 refine nbr hK ?_
 exact pe1 h h0 []
 refine lw0 ?_
 exact AW.ret (rtv h)
 refine ra hx ?_
 refine cdh h rfl (fun Nf h=>?_) (fun Nf h=>?_)
 refine AW.seq ?_
 obtain⟨HT,hy,h⟩:=ae h
 refine jn ((PE cx .normal (fun HT=>[(4,dB HT)]) fun HT=>⟨[],[],0⟩) HT) ?_ ?_
 replace h:=hy
 refine rq hx fun K hK=>?_
 refine mbr ?_
 rcases aE h with⟨IU,h⟩|⟨IU,h⟩
 iterate 3 refine ga IU ?_
 refine gbr ?_
 refine gcb h nS fun Br h=>?_
 obtain⟨Di,MY,h⟩:=ae h
 refine g1 IU (xL [1,0] rfl (pE MY) (fA (aw _) (fA (aw _) (fA (aw _) fAn))) (vR rfl (vR rfl wVn)) wLn) ?_
 refine mbr ?_
 rcases aE h with⟨TR,h⟩|⟨TR,h⟩
 refine ga TR ?_
 refine gbr ?_
 refine ga TR ?_
 refine gbr ?_
 refine gcb h dH fun JS h=>?_
 refine gcb h pQ fun Bq h=>?_
 refine nbr hK ?_
 exact pe1 h h0 []
 refine nbr hK ?_
 exact pe1 h h0 []
 refine nbr hK ?_
 exact pe1 h h0 []
 refine lw0 ?_
 exact AW.ret (rtv h)
 refine ra hx ?_
 refine cdh h rfl (fun TP h=>?_) (fun TP h=>?_)
 refine AW.seq ?_
 obtain⟨HQ,hy,h⟩:=ae h
 refine jn ((PE cx .normal (fun HQ=>[(4,dB HQ)]) fun HQ=>⟨[],[],0⟩) HQ) ?_ ?_
 replace h:=hy
 refine rqd [75,17,86] hx fun K hK=>?_
 refine mbr ?_
 rcases aE h with⟨QQ,h⟩|⟨QQ,h⟩
 iterate 2 refine ga QQ ?_
 refine gbr ?_
 refine ga QQ ?_
 refine gbr ?_
 obtain⟨x32,hx33,h⟩:=ae h
 refine g1 QQ (xL [0] rfl (lW hx33) (fA (aw _) (fA (aw _) (fA (aw _) fAn))) (vR rfl wVn) wLn) ?_
 refine mbr ?_
 rcases aE h with⟨TO,h⟩|⟨TO,h⟩
 iterate 2 refine ga TO ?_
 refine gbr ?_
 iterate 2 refine ga TO ?_
 refine gbr ?_
 obtain⟨Ad,hx36,h⟩:=ae h
 refine sqg tok rfl rfl TO (nS hx36) rfl (lA (aw _) lAn) (.inl rfl) ?_
 obtain⟨DV,hx38,h⟩:=ae h
 refine g1 TO (xL [0] rfl (lW hx38) (fA (aw _) (fA (aw _) (fA (aw _) fAn))) (vR rfl wVn) wLn) ?_
 refine mbr ?_
 rcases aE h with⟨TN,h⟩|⟨TN,h⟩
 refine ga TN ?_
 refine gbr ?_
 refine ga TN ?_
 refine gbr ?_
 obtain⟨x40,hx41,h⟩:=ae h
 refine sqg tok rfl rfl TN (dH hx41) rfl (lA (aw _) (lA (aw _) lAn)) (.inl (jS _ _)) ?_
 obtain⟨x42,hx43,h⟩:=ae h
 refine sqg tok rfl rfl TN (pQ hx43) (by simp only[iX,l6,gh,io,eQ,bK];exact⟨cl _ _,rfl⟩) (lA (nZ _ _) (lA (aw _) lAn)) (.inl rfl) ?_
 refine nbr hK ?_
 exact pe1 h h0 []
 refine nbr hK ?_
 exact pe1 h h0 []
 refine nbr hK ?_
 exact pe1 h h0 []
 refine nbr hK ?_
 exact pe1 h h0 []
 refine lw0 ?_
 exact AW.ret (rtv h)
 refine AW.skip (ra hx ?_)
 exact AW.ret (rtv h)
def jj(nt:aX)(aG:ci):Option Int:=bnd (g7 nt) fun x1=>cnd (!x1) (some (1:Int)) (bnd (jE nt aG) fun x4=>cnd (!x4) (some (250:Int)) (some (0:Int)))
theorem wa {nt:aX}{aG:ci}{r:Int}(h:jj nt aG=some r):ar prog 19 [dG eC nt,dG jL aG] (dI .i64 r):=by
 refine bk (rs:=[.tmp 4]) (fun cx hx h0=>?_) func19
 unfold jj at h
 refine rs hx fun K hK=>?_
 refine s1 (d:=.pt 0 0) fQ ?_
 refine s1 (d:=.pt 1 0) fQ ?_
 refine nbr hK ?_
 refine AW.seq (AW.block (rs hx fun K hK=>?_))
 refine s1 (d:=dG eC nt) (T_ldA rm) ?_
 refine scb h qX fun x1 h=>?_
 refine nbr hK ?_
 refine cdh h rfl (fun fI h=>?_) (fun fI h=>?_)
 refine ra hx ?_
 exact AW.ret (rtv h)
 refine rs hx fun K hK=>?_
 refine s1 (d:=dG eC nt) (T_ldA rm) ?_
 refine s1 (d:=dG jL aG) (T_ldA ms) ?_
 refine scb h Ah fun x4 h=>?_
 refine nbr hK ?_
 refine cdh h rfl (fun qV h=>?_) (fun qV h=>?_)
 refine ra hx ?_
 exact AW.ret (rtv h)
 refine AW.skip (ra hx ?_)
 exact AW.ret (rtv h)
def o4(oM:Int):Option Bool:=some (decide (oM=(0:Int)))
theorem Ai {oM:Int}{r:Bool}(h:o4 oM=some r):ar prog 83 [dI .i64 oM] (dB r):=by
 refine bk (rs:=[.tmp 2]) (fun cx hx h0=>?_) func83
 unfold o4 at h
 iterate 2 refine ra hx ?_
 exact AW.ret (rtv h)
def bx(aG:eZ)(aK:List am)(co:List am):Int→Option (Int⊕(Bool⊕Unit)):=fun aD=>cnd (decide (aD<((co).length:Int))) (gd (0≤aD∧aD<((co).length:Int)) (bnd (ji aG aD) fun x4=>bnd (b8 x4 aK) fun x6=>bnd (S:=Bool) (bnd (aS x6) fun x8=>cnd (!x8) (some (true)) (bnd (fL x6 ((co)[(aD).toNat]!)) fun ta=>bnd (o4 ta) fun qW=>some (!qW))) fun nk=>cnd nk (some (.inr (.inl false))) (some (.inl (i64.wrap (aD+(1:Int))))))) (some (.inr (.inr ())))
def be(aG:eZ)(aK:List am)(co:List am):Option Bool:=bnd (bt (bx aG aK co) (0:Int)) fun y17=>match y17 with| .inl r=>some r| .inr ()=>some true
theorem i9 {aG:eZ}{aK:List am}{co:List am}{r:Bool}(h:be aG aK co=some r):ar prog 81 [.e (.lit (.func (.func 82) #[] #[])),dG mh aG,dL aj aK,dL aj co,.e (.lit (.func (.func 83) #[] #[]))] (dB r):=by
 refine bk (rs:=[.tmp 10]) (fun cx hx h0=>?_) func81
 unfold be at h
 refine rs hx fun K hK=>?_
 refine s1 (d:=.pt 0 0) fQ ?_
 refine nbr hK ?_
 refine AW.seq (ra hx ?_)
 refine AW.block ?_
 obtain⟨y,hy,h⟩:=ae h
 refine lp (S:=Int) (X:=Bool⊕Unit) (fun aD=>[(0,.e (.lit (.func (.func 82) #[] #[]))),(2,dL aj aK),(4,.e (.lit (.func (.func 83) #[] #[]))),(6,.pt 0 0),(14,dL aj co),(15,dI .i64 ((co).length:Int)),(16,dI .i64 aD)]) (fun aD=>⟨[(0,[dI .i64 aG.vR,dI .i64 aG.vC,dL aj aG.vV])],[],1⟩) (PS (PR [.tmp 10] fun r=>dB r) (PE cx (.exit 0) (fun ()=>[]) fun ()=>⟨[],[],0⟩)) hy ?_ ?_ ?_
 exact wk0 h0 [0]
 clear hy h
 rintro aD y h
 dsimp only[bx] at h
 refine ra hx ?_
 refine AW.seq (cdh h rfl (fun fT h=>?_) (fun fT h=>?_))
 refine AW.skip (AW.seq (AW.block (rs hx fun K hK=>?_)))
 refine sa ?_
 obtain⟨rA,h⟩:=aA h
 have yv:(aD).toNat<(co).length:=by omega
 refine sbr ?_
 refine s1 (d:=dG aj ((co)[(aD).toNat]!)) (i8 (c:=aj) (l:=co) (n:=(aD).toNat) (o:=0) aQ yv (eS _ _ rfl)) ?_
 refine nbr hK ?_
 refine rs hx fun K hK=>?_
 refine sa ?_
 refine s1 (d:=dG mh aG) (T_ldA yH) ?_
 refine sa ?_
 refine scb h v9 fun x4 h=>?_
 refine sa ?_
 refine scb h dH fun x6 h=>?_
 refine nbr hK ?_
 refine AW.seq ?_
 obtain⟨nk,hy,h⟩:=ae h
 refine jn ((PE cx .normal (fun nk=>[(0,.e (.lit (.func (.func 82) #[] #[]))),(2,dL aj aK),(4,.e (.lit (.func (.func 83) #[] #[]))),(6,.pt 0 0),(14,dL aj co),(15,dI .i64 ((co).length:Int)),(16,dI .i64 aD),(37,dB nk)]) fun nk=>⟨[(0,[dI .i64 aG.vR,dI .i64 aG.vC,dL aj aG.vV])],[],1⟩) nk) ?_ ?_
 replace h:=hy
 refine rq hx fun K hK=>?_
 refine mbr ?_
 refine scb h bQ fun x8 h=>?_
 refine mbr ?_
 rcases aE h with⟨n0,h⟩|⟨n0,h⟩
 refine nbr hK ?_
 exact pe1 h h0 [0]
 refine ga n0 ?_
 iterate 2 refine gbr ?_
 refine gcb h mr fun ta h=>?_
 refine gcb h Ai fun qW h=>?_
 refine nbr hK ?_
 exact pe1 h h0 [0]
 refine lw0 ?_
 refine cdh h rfl (fun tS h=>?_) (fun tS h=>?_)
 refine ra hx ?_
 refine AW.ret ?_
 cases h
 refine PS.r ⟨by nofun,PS.l (PR.i ?_)⟩
 exact rv1
 refine AW.skip (rb hx ?_)
 exact pel h h0 [0]
 exact AW.exit (peq h h0 [])
 rcases y with r|⟨⟩
 rintro ex tm' hp' ⟨rfl,hw⟩
 cases h
 exact hw
 refine lwr ?_
 refine ra hx ?_
 exact AW.ret (rtv h)
def de(aG:eZ)(aP:List am)(aK:ci):Option Int:=bnd (f6 aG aP) fun x1=>cnd (!x1) (some (1:Int)) (bnd (S:=Bool) (cnd (decide (aK.vKind=(1:Int))) (cnd (decide ((i64.wrap (((aK.vY).length:Int)+((aK.vRay).length:Int)))=(0:Int))) (bnd (ep aK.vX aG.vC) fun x6=>cnd x6 (bnd (be aG aK.vX aP) fun x9=>some (x9)) (some (false))) (some (false))) (cnd (decide (aK.vKind=(2:Int))) (cnd (decide ((i64.wrap (((aK.vX).length:Int)+((aK.vRay).length:Int)))=(0:Int))) (cnd (decide (((aK.vY).length:Int)=aG.vR)) (bnd (c6 aK.vY) fun qB=>cnd qB (bnd (fJ aG.vC) fun oN=>bnd (aM aG aK.vY oN) fun ww=>cnd ww (bnd (b8 aK.vY aP) fun Di=>bnd (f5 Di (-1:Int)) fun yo=>some (yo)) (some (false))) (some (false))) (some (false))) (some (false))) (some (false)))) fun eF=>cnd (!eF) (some (250:Int)) (some (0:Int)))
theorem jr {aG:eZ}{aP:List am}{aK:ci}{r:Int}(h:de aG aP aK=some r):ar prog 23 [dG mh aG,dL aj aP,dG jL aK] (dI .i64 r):=by
 refine bk (rs:=[.tmp 6]) (fun cx hx h0=>?_) func23
 unfold de at h
 refine rs hx fun K hK=>?_
 refine s1 (d:=.pt 0 0) fQ ?_
 refine s1 (d:=.pt 1 0) fQ ?_
 refine nbr hK ?_
 refine AW.seq (rs hx fun K hK=>?_)
 refine s1 (d:=dG mh aG) (T_ldA yH) ?_
 refine sa ?_
 refine scb h rW fun x1 h=>?_
 refine nbr hK ?_
 refine cdh h rfl (fun fI h=>?_) (fun fI h=>?_)
 refine ra hx ?_
 exact AW.ret (rtv h)
 refine AW.skip (ra hx ?_)
 refine AW.seq ?_
 obtain⟨eF,hy,h⟩:=ae h
 refine jn ((PE cx .normal (fun eF=>[(7,dB eF)]) fun eF=>⟨[],[],0⟩) eF) ?_ ?_
 replace h:=hy
 refine rar hx ?_
 refine AW.block (ra hx ?_)
 refine cdh h rfl (fun Gm h=>?_) (fun Gm h=>?_)
 refine rq hx fun K hK=>?_
 refine mbr ?_
 rcases aE h with⟨su,h⟩|⟨su,h⟩
 refine ga su ?_
 refine gbr ?_
 refine ga su ?_
 refine gbr ?_
 refine gcb h mq fun x6 h=>?_
 refine mbr ?_
 rcases aE h with⟨uw,h⟩|⟨uw,h⟩
 refine g1 (d:=dG mh aG) uw (T_ldA yH) ?_
 refine ga uw ?_
 refine gbr ?_
 refine ga uw ?_
 refine gcb h i9 fun x9 h=>?_
 refine nbr hK ?_
 exact pe1 h h0 []
 refine nbr hK ?_
 exact pe1 h h0 []
 refine nbr hK ?_
 exact pe1 h h0 []
 refine ra hx ?_
 refine cdh h rfl (fun ux h=>?_) (fun ux h=>?_)
 refine rqd [62,75,81,17,86] hx fun K hK=>?_
 refine mbr ?_
 rcases aE h with⟨Cg,h⟩|⟨Cg,h⟩
 refine mbr ?_
 rcases aE h with⟨GR,h⟩|⟨GR,h⟩
 refine ga GR ?_
 refine gbr ?_
 obtain⟨qB,zJ,h⟩:=ae h
 refine sqg tok rfl rfl GR (fY zJ) rfl (lA (aw _) lAn) (.inl rfl) ?_
 refine mbr ?_
 rcases aE h with⟨tS,h⟩|⟨tS,h⟩
 refine g1 (d:=dG mh aG) tS (T_ldA yH) ?_
 refine ga tS ?_
 refine gbr ?_
 refine ga tS ?_
 refine gbr ?_
 obtain⟨oN,wB,h⟩:=ae h
 refine sqg tok rfl rfl tS (nS wB) rfl (lA (aw _) lAn) (.inl rfl) ?_
 obtain⟨ww,GL,h⟩:=ae h
 refine sqg tok rfl rfl tS (eb GL) (by simp only[iX,l6,gh,io,eQ,bK];exact⟨rfl,cl _ _,rfl,rfl,rfl⟩) (lA (aw _) (lA (aw _) (lA (aw _) (lA (aw _) (lA (aw _) lAn))))) (.inl rfl) ?_
 refine mbr ?_
 rcases aE h with⟨EQ,h⟩|⟨EQ,h⟩
 refine ga EQ ?_
 refine gbr ?_
 refine ga EQ ?_
 obtain⟨Di,MY,h⟩:=ae h
 refine sqg tok rfl rfl EQ (dH MY) rfl (lA (aw _) (lA (aw _) lAn)) (.inl (jS _ _)) ?_
 obtain⟨yo,S2,h⟩:=ae h
 refine sqg tok rfl rfl EQ (pQ S2) (by simp only[iX,l6,gh,io,eQ,bK];exact⟨cl _ _,rfl⟩) (lA (nZ _ _) (lA (aw _) lAn)) (.inl rfl) ?_
 refine nbr hK ?_
 exact pe1 h h0 []
 refine nbr hK ?_
 exact pe1 h h0 []
 refine nbr hK ?_
 exact pe1 h h0 []
 refine nbr hK ?_
 exact pe1 h h0 []
 refine nbr hK ?_
 exact pe1 h h0 []
 exact AW.skip (pe1 h h0 [])
 refine lw0 ?_
 refine AW.seq (ra hx ?_)
 refine cdh h rfl (fun TQ h=>?_) (fun TQ h=>?_)
 refine ra hx ?_
 exact AW.ret (rtv h)
 refine AW.skip (ra hx ?_)
 exact AW.ret (rtv h)
def Ll(l:List Int)(v:Int):Int:=match l.findIdx? fun b=>decide (b=v) with
 |some i=>i
 |none=>-1
def secG(rows:List Lin)(basic:List Int)(w:Nat)(c:List Nu):Nat→Lin
 |0=>⟨nOf 0,List.replicate w (nOf 0)⟩
 |k+1=>let g:=secG rows basic w c k
  if Ll basic ((k+1:Nat):Int)<0 then⟨g.k,g.c.set (k+1) (jw g.c[k+1]! c[k]!)⟩
  else⟨jw g.k (lX c[k]! rows[(Ll basic ((k+1:Nat):Int)).toNat]!.k),(List.range w).map fun t=>if t=0 then g.c[t]! else jw g.c[t]! (lX c[k]! rows[(Ll basic ((k+1:Nat):Int)).toNat]!.c[t]!)⟩
theorem find_eq(l:List Row)(v:Int):Ll (l.map Row.b) v=dJ l v:=by
 unfold Ll dJ
 rw[List.findIdx?_map]
 rfl
theorem rT(l:List Row)(v:Int):(dJ l v=-1∧∀j,j<l.length→l[j]!.b≠v)∨∃i,i<l.length∧dJ l v=(i:Int)∧l[i]!.b=v:=by
 unfold dJ
 cases h:l.findIdx? fun r=>decide (r.b=v) with
 |none=>
  refine .inl ⟨rfl,fun j hj=>?_⟩
  have:=vH.1 h l[j] (n7 hj)
  rw[bT l j hj]
  simpa using this
 |some i=>
  obtain⟨h1,h2,_⟩:=ph.1 h
  exact .inr ⟨i,h1,rfl,by rw[bT l i h1];exact bq h2⟩
theorem AK(l:List Row):∀n,j7 l n<n∨n=0∧j7 l n=0
 |0=>.inr ⟨rfl,rfl⟩
 |n+1=>by
  unfold j7
  rcases AK l n with h|h
  ·split <;> omega
  ·split <;> omega
theorem rI.fine {d:Dic}{w:Nat}{f:Nu}(hI:Inv d w)(hg:au f=true)(k:Nu)(c:List Nu)(hl:c.length=w)(hk:gl k c=true):gl k (c.set 0 f)=true:=by
 obtain⟨h1,h2⟩:=br.1 hk
 refine br.2 ⟨h1,fun i hi=>?_⟩
 rw[c7] at hi
 rw[eJ hi]
 split
 ·exact hg
 ·exact h2 i hi
theorem AH {α β:Type}[Inhabited α][Inhabited β]{l:List α}{f:α→β}{i:Nat}(hi:i<l.length):(l.map f)[i]! =f l[i]! :=by
 apply cZ;rw[dW,uz hi];rfl
theorem Inv.col {d:Dic}{w:Nat}(hI:Inv d w){x:Nu}(hx:au x=true)(h0:(∀j,j<d.rows.length→d.rows[j]!.b≠0)∨x=nOf 0){k:Nu}{c:List Nu}(hl:c.length=w)(hg:gl k c=true)(hz:∀j,j<d.rows.length→c[d.rows[j]!.b.toNat]! =nOf 0)(p:Int):Inv ⟨d.rows.map (uC x),k,c,d.n,p,d.most⟩ w:=by
 have fq:∀i,i<d.rows.length→(d.rows.map (uC x))[i]! =uC x d.rows[i]! :=fun i hi=>AH hi
 refine⟨⟨hl,fun i hi=>?_,hg,fun i hi=>?_⟩,fun i hi=>?_,fun i j hi hj e=>?_,fun j hj=>?_,fun i j hi hj=>?_⟩
 all_goals dsimp only at*
 all_goals rw[bg] at*
 ·rw[fq i hi];show (d.rows[i]!.c.set 0 x).length=w;rw[c7];exact hI.fine.lr i hi
 ·rw[fq i hi];exact rI.fine hI hx _ _ (hI.fine.lr i hi) (hI.fine.gr i hi)
 ·rw[fq i hi];exact hI.rng i hi
 ·rw[fq i hi,fq j hj] at e;exact hI.inj i j hi hj e
 ·rw[fq j hj];exact hz j hj
 ·rw[fq i hi,fq j hj]
  have hr:=hI.rng j hj
  have hlen:=hI.fine.lr i hi
  show (d.rows[i]!.c.set 0 x)[d.rows[j]!.b.toNat]! =nOf 0
  rw[eJ (by omega)]
  split
  ·rename_i h
   rcases h0 with h0|h0
   ·exact absurd (by omega) (h0 j hj)
   ·exact h0
  ·exact hI.zr i j hi hj
section
def Can(x:Nu):Prop:=nuR (cC x.1)=x
theorem Lw {x:Nu}(h:au x=true):Can x:=by unfold Can;rw[bF.1 h];exact (DM h).symm
theorem Jc(x y:Nu):Can (jw x y):=by unfold Can;rw[oW,oS (AD _ _)]
theorem Lv {x q y:Nu}(hx:Can x)(hq:au q=true)(h0:bE q=0)(hy:au y=true):jw x (lX q y)=x:=by
 rw[Hg hq ((At hq).1 h0) hy]
 rw[oW,show cC (nOf 0).1=some 0 from by have:=bF.1 of0.1;rw[of0.2] at this;exact this]
 have:Iy (cC x.1) (some 0)=cC x.1:=by
  cases h:cC x.1 with
  |none=>rfl
  |some p=>exact Hb (dQ.1 h).1
 rw[this];exact hx
theorem Vd {q xk lk:Nu}(hl:Can lk)(hq:au q=true)(hx:au xk=true):xG q xk lk=jw lk (lX q xk):=by
 unfold xG
 split
 ·rename_i h;exact (Lv hl hq h hx).symm
 ·rfl
theorem Ve {q:Nu}{xc lc:List Nu}{w:Nat}(hlc:lc.length=w)(Ce:xc.length=w)(hl:∀i,i<w→Can lc[i]!)(hq:au q=true)(hx:∀i,i<w→au xc[i]! =true):uI q xc (-1) lc=(List.range w).map fun t=>jw lc[t]! (lX q xc[t]!):=by
 unfold uI
 split
 ·rename_i h
  exact nK hlc fun i hi=>(Lv (hl i hi) hq h (hx i hi)).symm
 ·refine nK (by rw[qS,hlc]) fun i hi=>?_
  rw[DS _ _ _ _ i (by omega),ifp_]
theorem aim_eq {l:List Row}{lr:List Lin}{w:Nat}{c:List Nu}(TA:lr=l.map fun x=>⟨x.k,x.c⟩)(hlen:∀i,i<l.length→l[i]!.c.length=w)(hg:∀i,i<l.length→gl l[i]!.k l[i]!.c=true)(h0:∀i,i<l.length→l[i]!.c[0]! =nOf 0)(hw:0<w)(hc:∀i,i<c.length→au c[i]! =true):
  ∀k,k≤c.length→secG lr (l.map Row.b) w c k=⟨(gQ l w c k).1,(gQ l w c k).2⟩∧(gQ l w c k).2.length=w∧Can (gQ l w c k).1∧(∀i,i<w→Can (gQ l w c k).2[i]!)∧(gQ l w c k).2[0]! =nOf 0
 |0,_=>by
  refine⟨rfl,by simp[gQ],Lw of0.1,fun i hi=>?_,?_⟩
  ·have:(gQ l w c 0).2[i]! =nOf 0:=cZ (by simp[gQ,Jl,hi])
   rw[this];exact Lw of0.1
  ·exact cZ (by simp[gQ,Jl,hw])
 |k+1,hk=>by
  obtain⟨ih1,ih2,ih3,ih4,ih5⟩:=aim_eq TA hlen hg h0 hw hc k (by omega)
  unfold secG gQ
  rw[ih1,find_eq]
  dsimp only
  rcases rT l ((k+1:Nat):Int) with⟨h1,_⟩|⟨i,h1,h2,_⟩
  ·rw[h1,ifp_,ifn_]
   refine⟨rfl,by rw[c7];exact ih2,ih3,fun i hi=>?_,?_⟩
   ·dsimp only
    rw[eJ (by omega)]
    split
    ·exact Jc _ _
    ·exact ih4 i hi
   ·dsimp only
    rw[eJ (by omega),ifn_]
    exact ih5
  ·rw[h2,ifn_,ifp_,show ((i:Int)).toNat=i by omega]
   have IN:lr[i]! =⟨l[i]!.k,l[i]!.c⟩:=by rw[TA];exact AH h1
   obtain⟨g1,g2⟩:=br.1 (hg i h1)
   have hl:=hlen i h1
   have Pb:∀t,t<w→au l[i]!.c[t]! =true:=fun t ht=>g2 t (by omega)
   rw[IN,Vd ih3 (hc k (by omega)) g1,Ve ih2 hl ih4 (hc k (by omega)) Pb]
   have h00:jw (gQ l w c k).2[0]! (lX c[k]! l[i]!.c[0]!)=(gQ l w c k).2[0]! :=by
    rw[ih5,h0 i h1,zG (hc k (by omega)),xV of0.1]
   refine⟨?_,by simp,Jc _ _,fun t ht=>?_,?_⟩
   ·congr 1
    refine sR fun t _=>?_
    split
    ·rename_i e;subst e;exact h00.symm
    ·rfl
   ·rw[cZ (bS _ ht)];exact Jc _ _
   ·rw[cZ (bS _ hw),h00];exact ih5
theorem LO {l:List Row}{w:Nat}{c:List Nu}(hlen:∀i,i<l.length→l[i]!.c.length=w)(K0:∀i,i<l.length→0≤l[i]!.b∧l[i]!.b<w)(hz:∀i j,i<l.length→j<l.length→l[i]!.c[l[j]!.b.toNat]! =nOf 0)(hc:∀i,i<c.length→au c[i]! =true):
  ∀k,k≤c.length→(gQ l w c k).2.length=w∧∀j,j<l.length→(gQ l w c k).2[l[j]!.b.toNat]! =nOf 0
 |0,_=>⟨by simp[gQ],fun j hj=>by
   have:=K0 j hj
   exact cZ (by show (List.replicate w (nOf 0))[l[j]!.b.toNat]? =some (nOf 0);rw[Jl,ifp_])⟩
 |k+1,hk=>by
  obtain⟨ih0,ih⟩:=LO hlen K0 hz hc k (by omega)
  unfold gQ
  dsimp only
  rcases rT l ((k+1:Nat):Int) with⟨h1,h2⟩|⟨i,h1,h2,_⟩
  ·rw[h1,ifn_]
   refine⟨by rw[c7];exact ih0,fun j hj=>?_⟩
   have:=K0 j hj
   dsimp only
   rw[eJ (by omega),ai (fun e=>h2 j hj (by omega))]
   exact ih j hj
  ·rw[h2,ifp_,show ((i:Int)).toNat=i by omega]
   refine⟨by rw[uH];exact ih0,fun j hj=>?_⟩
   have hr:=K0 j hj
   dsimp only
   unfold uI
   split
   ·exact ih j hj
   ·rw[DS _ _ _ _ _ (by omega),ifp_,ih j hj,hz i j h1 hj,zG (hc k (by omega)),xV of0.1]
section
variable {m nn:Nat} {A B C:List Nu} {most:Int}
theorem jT:(aH m nn A B most).rows.length=m:=by simp[aH]
theorem e8 {i:Nat}(hi:i<m):(aH m nn A B most).rows[i]! =⟨B[i]!,(List.range (1+nn+m)).map (fun t=>if 1≤t∧t≤nn then eU A[i*nn+(t - 1)]! else nOf 0),((1+nn+i:Nat):Int)⟩:=cZ (bS _ hi)
theorem ju {x:Nu}{n i:Nat}(hi:i<n):(List.replicate n x)[i]! =x:=cZ (by simp[Jl,hi])
theorem Hz(hA:A.length=m*nn)(hB:B.length=m)(hgA:∀i,i<A.length→au A[i]! =true)(hgB:∀i,i<B.length→au B[i]! =true):Inv (aH m nn A B most) (1+nn+m):=by
 have hidx:∀i t,i<m→t<nn→i*nn+t<A.length:=fun i t hi ht=>by
  rw[hA]
  calc i*nn+t<i*nn+nn:=by omega
   _=(i+1)*nn:=by rw[bP];omega
   _≤m*nn:=cz _ hi
 refine⟨⟨by simp[aH],fun i hi=>?_,br.2 ⟨of0.1,fun i hi=>?_⟩,fun i hi=>?_⟩,fun i hi=>?_,fun i j hi hj e=>?_,fun j hj=>?_,fun i j hi hj=>?_⟩
 all_goals try rw[jT] at*
 ·rw[e8 hi];simp
 ·have wE:i<1+nn+m:=by simpa[aH] using hi
  have:(aH m nn A B most).gc[i]! =nOf 0:=ju wE
  rw[this];exact of0.1
 ·rw[e8 hi]
  refine br.2 ⟨hgB i (by omega),fun t ht=>?_⟩
  dsimp only at ht ⊢
  rw[bg,List.length_range] at ht
  rw[cZ (bS _ ht)]
  split
  ·rename_i h
   rw[ob];exact hgA _ (hidx i (t - 1) hi (by omega))
  ·exact of0.1
 ·rw[e8 hi];dsimp only;omega
 ·rw[e8 hi,e8 hj] at e;dsimp only at e;omega
 ·rw[e8 hj]
  exact ju (by dsimp only;omega)
 ·rw[e8 hi,e8 hj]
  dsimp only
  rw[cZ (bS _ (by omega)),ifn_]
theorem rS(i:Nat)(hi:i<m):(aH m nn A B most).rows[i]!.b=((1+nn+i:Nat):Int):=by rw[e8 hi]
end
end
section
section
variable {x:Cx} {tm tm':List (Nat×D)} {hp:Hp}
theorem Wk.perm {vars':List (Nat×List D)}{iJ:List (Nat×Nat×Nat×TypeId)}{m:Nat}(σ:Nat→Nat)(h0:x.hp0.next≤m)(bO:∀i,i<x.hp0.next→σ i=i)(uu:∀i j,i<m→j<m→σ i=σ j→i=j)
  (ht:∀p∈tm',tm.lookup p.1=some (p.2.ren σ)∧p.2.idsB m=true∧p.2.noOs=true)
  (hv:∀k ds,vars'.lookup k=some ds→k<m∧hp.vars.lookup (σ k)=some (ds.map (D.renC σ))∧ds.all (D.idsC m)=true∧ds.all D.noO=true)
  (hl:∀k y,iJ.lookup k=some y→k<m∧hp.live.lookup (σ k)=some y):Wk x tm hp tm' ⟨vars',iJ,m⟩:=by
 intro a w ⟨g,hr,nV,hsz,DH,hB,hF,hM⟩
 have dV:∀id y,(⟨vars',iJ,m⟩:Hp).live.lookup id=some y→hp.live.lookup (σ id)=some y:=fun id y h=>(hl _ _ h).2
 refine⟨⟨fun i=>g.μ (σ i),fun i=>g.τ (σ i),g.F⟩,⟨fun k ds hk=>?_,fun k k' ds ds' hk wD he=>?_,fun id n e hi=>?_,fun id Cb t t' b hi wE hb pC=>?_,hr.base,hr.fits⟩,fun t d h=>?_,hsz,DH,hB,hF,
  ⟨hM.size,hM.cell,hM.forb,h0,fun k hk=>by show g.μ _=_;rw[bO k hk];exact hM.μ k hk,fun id hid n e QK=>?_,fun b hb hf=>⟨(hM.fr b hb hf).1,(hM.fr b hb hf).2.1,fun k ds hk=>(hM.fr b hb hf).2.2.1 _ _ (hv _ _ hk).2.1,fun id t hi=>(hM.fr b hb hf).2.2.2 _ t (dV id _ hi)⟩,hM.szs⟩⟩
 ·obtain⟨h1,h2,h3,h4⟩:=hv _ _ hk
  obtain⟨_,h5,h6,cs,ty,h7,h8,h9⟩:=hr.var _ _ h2
  refine⟨h1,h5,h6,cs,ty,h7,by simpa using h8,fun j u hu=>⟨fun h=>(h9 j u hu).1 (by simpa using h),fun d hd=>?_⟩⟩
  exact j5 ((h9 j u hu).2 (d.renC _) (by rw[dW,hd];rfl)) (a7.1 h3 d (eg hd)) (a7.1 h4 d (eg hd)) rfl (fun _=>rfl) (fun _=>rfl) rfl dV
 ·obtain⟨h1,h2,_⟩:=hv _ _ hk
  obtain⟨rB,ro,_⟩:=hv _ _ wD
  exact uu _ _ h1 rB (hr.inj _ _ _ _ h2 ro he)
 ·obtain⟨h1,h2⟩:=hl _ _ hi
  obtain⟨_,us,h3,h4,h5⟩:=hr.tok _ n e h2
  exact⟨h1,us,h3,h4,fun b hb=>⟨(h5 b hb).1,fun k ds hk=>(h5 b hb).2 _ _ (hv _ _ hk).2.1⟩⟩
 ·obtain⟨h1,h2⟩:=hl _ _ hi
  obtain⟨rB,ro⟩:=hl _ _ wE
  exact uu _ _ h1 rB (hr.tinj _ _ _ _ b h2 ro hb pC)
 ·obtain⟨h1,h2,h3⟩:=ht _ (bG h)
  exact DB (nV t _ h1) h2 h3 rfl (fun _=>rfl) (fun _=>rfl) rfl dV
 ·obtain⟨m0,h1,h2,h3⟩:=hM.live id hid n e (by rw[←bO id hid];exact dV id _ QK)
  exact⟨m0,h1,h2,fun h=>by show g.τ _=_;rw[bO id hid];exact h3 h⟩
theorem Sh {σ:Nat→Nat}{n:Nat}(hσ:∀i,i<n→σ i=i){d:D}(hd:d.idsC n=true)(hn:d.noO=true):d.renC σ=d:=by
 cases d with
 |own id z n xs=>simp only[D.idsC,sH] at hd;simp only[D.renC,hσ id hd]
 |pt k o=>simp only[D.idsC,sH] at hd;simp only[D.renC,hσ k hd]
 |ow k o z n=>simp only[D.idsC,sH] at hd;simp only[D.renC,hσ k hd]
 |gw k z n=>simp only[D.idsC,sH] at hd;simp only[D.renC,hσ k hd]
 |fn f ks=>
  simp only[D.idsC,a7,sH] at hd
  simp only[D.renC]
  congr 1
  exact (sR fun k hk=>hσ k (hd k hk)).trans (Ff _)
 |opt b d=>cases hn
 |_=>rfl
theorem map_low {σ:Nat→Nat}{n:Nat}(hσ:∀i,i<n→σ i=i){ds:List D}(hd:ds.all (D.idsC n)=true)(hn:ds.all D.noO=true):ds.map (D.renC σ)=ds:=
 (sR fun d h=>Sh hσ (a7.1 hd d h) (a7.1 hn d h)).trans (Ff _)
end
def Lg(m nn:Nat)(A B:List Nu)(i:Nat):Row:=⟨B[i]!,(List.range (1+nn+m)).map (fun t=>if 1≤t∧t≤nn then eU A[i*nn+(t - 1)]! else nOf 0),((1+nn+i:Nat):Int)⟩
def mY(m nn:Nat)(A B:List Nu)(most:Int)(i:Nat):Dic:=⟨(List.range i).map (Lg m nn A B),nOf 0,List.replicate (1+nn+m) (nOf 0),nn,0,most⟩
theorem Lq(m nn:Nat)(A B:List Nu)(most:Int):mY m nn A B most m=aH m nn A B most:=rfl
theorem EY {m nn:Nat}{A B:List Nu}{most:Int}(h0:0≤most)(h1:most≤9223372036854775807){i:Nat}(hi:i≤m):cR (mY m nn A B most i) (1+nn+m) i:=by
 have hg:∀j,j<i→(mY m nn A B most i).rows[j]! =Lg m nn A B j:=fun j hj=>cZ (bS _ hj)
 refine⟨by simp[mY],by simp[mY],fun j hj=>?_,fun j hj=>?_,zX _,by show (0:Int)≤_;omega,h0,h1⟩
 ·rw[hg j hj];simp[Lg]
 ·rw[hg j hj];show 0≤((1+nn+j:Nat):Int)∧((1+nn+j:Nat):Int)<((1+nn+m:Nat):Int);omega
def Dt(m nn:Nat)(A:List Nu)(i k:Nat):List Nu:=(List.range (1+nn+m)).map fun t=>if 1≤t∧t≤k then eU A[i*nn+(t - 1)]! else nOf 0
theorem Ra(m nn:Nat)(A:List Nu)(i:Nat):Dt m nn A i 0=List.replicate (1+nn+m) (nOf 0):=by
 unfold Dt
 exact (nK (by simp) fun t ht=>by rw[ifn_];exact ju ht).symm
theorem Rb {m nn:Nat}{A:List Nu}{i k:Nat}(hk:k<nn):(Dt m nn A i k).set (1+k) (eU A[i*nn+k]!)=Dt m nn A i (k+1):=by
 unfold Dt
 refine nK (by simp) fun t ht=>?_
 rw[eJ (by simpa using ht),cZ (bS _ ht)]
 by_cases h:1+k=t
 ·rw[ah h,ifp_,show t - 1=k by omega]
 ·rw[ai h]
  by_cases h2:1≤t∧t≤k
  ·rw[ah h2,ifp_]
  ·rw[ai h2,ifn_]
theorem UA(m nn:Nat)(A:List Nu)(i k:Nat):(Dt m nn A i k).length=1+nn+m:=by simp[Dt]
def rV(i:Nat):Nat:=if i=0 then 0 else 6+8*i
def cV(j:Nat):Nat:=11+8*j
theorem yV(i:Nat):Dif i 2 (rV i) 6 cV:=by
 unfold rV cV
 refine⟨?_,by omega,?_,fun j hj=>⟨by omega,?_,by omega⟩,fun j k _ _ h=>by omega⟩
 ·split <;> omega
 ·split <;> omega
 ·split <;> omega
def prC(R Cc:Int)(A B C:List Nu):List D:=[dI .i64 R,dI .i64 Cc,.e (slE ax A),.e (slE ax B),.e (slE ax C)]
theorem tN {R Cc:Int}{A B C:List Nu}{t:Nat}{y:D}(h:(prC R Cc A B C)[t]? =some y):Pt (prC R Cc A B C) t [y] (fun ys=>(prC R Cc A B C).take t++ys++(prC R Cc A B C).drop (t+1)):=Pt.cell h
theorem BS(l:List E):(dC l).all D.noO=true:=by
 unfold dC
 rw[a7]
 intro d hd
 obtain⟨e,_,rfl⟩:=uF.1 hd
 rfl
theorem BR(a:Nu)(k w:Nat):(ba a k w).all D.noO=true:=by
 unfold ba
 rw[mi,BS]
 rfl
theorem Hf {C:Nat→Nat}{w:Nat}:∀(i:Nat) (l:List Row),(gj C w i l).all D.noO=true
 |_,[]=>rfl
 |i,r::l=>by
  unfold gj ja
  rw[mi,mi,BR,Hf (i+1) l]
  rfl
theorem ov_noO {kd R G w:Nat}{C:Nat→Nat}{d:Dic}{vs:List (Nat×List D)}(hb:∀p∈vs,p.2.all D.noO=true):∀k ds,(ov kd R G C w d vs).lookup k=some ds→ds.all D.noO=true:=by
 have hc:∀(i:Nat) (l:List Row),∀p∈cOv C i l,p.2.all D.noO=true:=by
  intro i l
  induction l generalizing i with
  |nil=>intro p hp;simp[cOv] at hp
  |cons r l ih=>
   intro p hp
   rcases kY.1 hp with rfl|hp
   ·exact BS _
   ·exact ih (i+1) p hp
 intro k ds h
 have hm:=bG h
 unfold ov at hm
 rcases kY.1 hm with e|hm
 ·injection e with e1 e2
  rw[e2]
  unfold nC
  rw[mi,mi,BR]
  cases d.rows <;> rfl
 rcases kY.1 hm with e|hm
 ·injection e with e1 e2
  rw[e2];exact BS _
 rcases wq.1 hm with hm|hm
 ·unfold rOv at hm
  split at hm
  ·simp at hm
  ·rw[ri] at hm
   injection hm with e1 e2
   rw[e2];exact Hf 0 _
 ·rcases wq.1 hm with hm|hm
  ·exact hc 0 _ _ hm
  ·exact hb _ hm
theorem Qj {σ:Nat→Nat}(a:Nu)(k w:Nat):(ba a k w).map (D.renC σ)=ba a (σ k) w:=by
 unfold ba dC
 rw[iZ,qQ]
 rfl
theorem MG {σ:Nat→Nat}(l:List E):(dC l).map (D.renC σ)=dC l:=by
 unfold dC
 rw[qQ]
 rfl
def TmR(σ:Nat→Nat)(m:Nat)(tm tm':List (Nat×D)):Prop:=∀p∈tm',tm.lookup p.1=some (p.2.ren σ)∧p.2.idsB m=true∧p.2.noOs=true
theorem TmR.nil {σ:Nat→Nat}{m:Nat}{tm:List (Nat×D)}:TmR σ m tm []:=fun p hp=>absurd hp (rj)
theorem TmR.cons {σ:Nat→Nat}{m t:Nat}{d:D}{tm tm':List (Nat×D)}(h2:TmR σ m tm tm')(h:tm.lookup t=some (d.ren σ))(hi:d.idsB m=true)(hn:d.noOs=true:=by exact rfl):TmR σ m tm ((t,d)::tm'):=fun p hp=>by
 rcases kY.1 hp with rfl|hp
 ·exact⟨h,hi,hn⟩
 ·exact h2 p hp
theorem Vx {dr:Bool}{ty:TypeId}{ev:Operand→D}{hp:Hp}{x y:Operand}{a:Nu}{k n:Nat}{b:Int}(hx:ev x=.ag (ba a k n):=by exact rfl)(hy:ev y=dI .i64 b:=by exact rfl):AVC prog tbl dr (.build 78 #[(0,x),(1,y)]) ty ev hp (Kq (.ag (ba a k n++[dI .i64 b])) hp):=by
 have h0:([(0,x),(1,y)]:List (Nat×Operand)).map (fun p=>(p.1,ev p.2))=[(0,.ag (ba a k n)),(1,dI .i64 b)]:=by simp only[iX,l6,hx,hy]
 rw[show (#[(0,x),(1,y)]:Array (Nat×Operand))=([(0,x),(1,y)]:List (Nat×Operand)).toArray from rfl,xr,h0,uD,ud]
 have hp:my [(0,.ag (ba a k n)),(1,dI .i64 b)]=some [(0,ba a k n),(1,[dI .i64 b])]:=rfl
 rw[hp]
 dsimp only
 refine⟨by decide,?_⟩
 have hz:∀zs:List D,zs.length=38→gp (oV tbl [(0,73),(37,3)]) zs [(0,ba a k n),(1,[dI .i64 b])]=some (ba a k n++[dI .i64 b]):=fun zs hzs=>by
  have p0:oV tbl [(0,73),(37,3)] 0=some (0,37):=rfl
  have p1:oV tbl [(0,73),(37,3)] 1=some (37,1):=rfl
  simp only[gp,p0,p1,bZ]
  rw[ai (by simp[hzs])]
  rw[ai (by simp[bZ,hzs])]
  rw[Fb,nR,bw,t0 (by rw[bZ];exact az _),ii (by rw[bZ];exact az _),Db (by simp[bZ,hzs]),tG]
 rw[hz _ (by rfl)]
 exact Kq.here _ _
theorem AW.joinE {P:Program}{x:Cx}{c c':Code}{tm:List (Nat×D)}{hp:Hp}{Q:Exit→List (Nat×D)→Hp→Prop}{α:Type}(T:α→List (Nat×D))(H:α→Hp)(I:α→Prop)(h1:AW P x c tm hp fun ex tm' hp'=>match ex with| .normal=>∃a,I a∧Wk x tm' hp' (T a) (H a)|ex=>Q ex tm' hp')(h2:∀a,I a→AW P x c' (T a) (H a) Q):AW P x (.seq c c') tm hp Q:=by
 refine AW.seq (AW.mono h1 fun ex tm' hp' h=>?_)
 cases ex with
 |normal=>
  obtain⟨a,ha,hw⟩:=h
  exact AW.weak hw (h2 a ha)
 |_=>exact h
theorem appRows {U:List (Nat×List D)}{lv:List (Nat×Nat×Nat×TypeId)}{N R ky w:Nat}{C:Nat→Nat}{l:List Row}{F1:List D}(hR:l≠[]→U.lookup R=some (gj C w 0 l))(hky:U.lookup ky=some F1)(hl:F1.length=38)(hb:l.length≤1000000):
  ∃W:List (Nat×List D),W.lookup N=some (gj C w 0 l++F1)∧(∀k ds,(l≠[]→k≠R)→k≠N→U.lookup k=some ds→W.lookup k=some ds)∧
   ∀{md:Md} {dst:Option Tmp} {ty:TypeId} {pos:String} {af:Array Edge} {gd:Option (Nat×Bool)} {ev:Operand→D} {x y:Operand},ev x=fm R l→ev y=.gw ky 38 1→nf prog tbl md ⟨dst,.call ⟨.builtin .append,#[x,y],#[71,71]⟩,ty,pos,af,gd⟩ ev ⟨U,lv,N⟩ (.gw N 38 (l.length+1)) ⟨W,lv,N+1⟩:=by
 cases l with
 |nil=>
  refine⟨(N,F1)::U,?_,fun k ds _ h2 h=>al h2 h,fun hx Qy=>?_⟩
  ·exact aa
  ·exact appN tok (hp:=⟨U,lv,N⟩) CM ud hky hx Qy hl (by decide)
 |cons r l=>
  refine⟨(N,gj C w 0 (r::l)++F1)::U.filter fun p=>!([R]:List Nat).contains p.1,aa,fun k ds h1 h2 h=>al h2 (xW (by simpa using h1 (by simp)) h),fun hx Qy=>?_⟩
  exact appR tok (hp:=⟨U,lv,N⟩) (k:=R) (n:=(r::l).length) (ds:=gj C w 0 (r::l)) CM ud (hR (by simp)) hky hx Qy (BJ _ _ _ _) hl (by show ((r::l).length+1)*168≤140737488355328;omega)
end
section
section
variable {d:Dic} {w at' s:Nat}
theorem Inv.pivotG(hI:Inv d w)(hat:at'<d.rows.length)(hs:s<w)(t6:∀j,j<d.rows.length→d.rows[j]!.b≠s)(h0:(dX d at' s).1=0):gW d w at' s∧(dX d at' s).2=gF d at' s:=by
 by_cases hp:d.most≤d.piv
 ·have:dX d at' s=(220,d):=by unfold dX;rw[ah hp]
  rw[this] at h0;cases h0
 obtain⟨h2,_,hok⟩:=BP d at' s hat hp
 obtain⟨g1,g2⟩:=hok.1 h0
 refine⟨⟨hI,hat,hs,t6,⟨?_,fun i hi=>?_,g1,fun i hi=>g2 i (by rwa[ej] at hi)⟩⟩,h2⟩
 ·show (g5 d.gk d.gc _ s).c.length=w
  rw[r8];exact hI.fine.lg
 ·rw[ej] at hi
  rw[jv hi]
  split
  ·rw[rZ];exact hI.fine.lr at' hat
  ·show (g5 d.rows[i]!.k d.rows[i]!.c _ s).c.length=w
   rw[r8];exact hI.fine.lr i hi
theorem Inv.improved(w:Nat):∀(f:Nat) (d:Dic),Inv d w→(ie f d).1.2=0→Inv (ie f d).2 w∧rI d (ie f d).2 w
 |0,d,hI,_=>⟨hI,rI.refl d w⟩
 |f+1,d,hI,h=>by
  unfold ie at h ⊢
  cases hs:kF d.gc with
  |none=>exact⟨hI,rI.refl d w⟩
  |some s=>
   obtain⟨h1,h2,_⟩:=qg hs
   rw[hI.fine.lg] at h1
   rw[hs] at h
   dsimp only at h ⊢
   cases hl:jy d.rows s default d.rows.length with
   |none=>rw[hl] at h;cases h
   |some p=>
    rw[hl] at h
    dsimp only at h ⊢
    by_cases hp:p.1<0
    ·rw[ah hp];exact⟨hI,rI.refl d w⟩
    ·rw[ai hp] at h ⊢
     rcases pZ hl with h3|⟨i,hi,h3,h4,_⟩
     ·omega
     rw[h3,show ((i:Int)).toNat=i by omega] at h ⊢
     by_cases h0:(dX d i s).1=0
     ·rw[ah h0] at h ⊢
      obtain⟨hG,h7⟩:=hI.pivotG hi h1 (hI.enter (by omega)) h0
      rw[h7] at h ⊢
      obtain⟨a1,a2⟩:=Inv.improved w f (gF d i s) hG.toInv h
      exact⟨a1,hG.same.trans a2⟩
     ·rw[ai h0] at h;exact absurd h h0
end
theorem R5 {m nn:Nat}{A B C:List Nu}{most:Int}(hA:A.length=m*nn)(hB:B.length=m)(hgA:∀i,i<A.length→au A[i]! =true)(hgB:∀i,i<B.length→au B[i]! =true):
  B.any (fun b=>decide (bE b<0))=true→∀q,dX (cv (aH m nn A B most)) (j7 (aH m nn A B most).rows (aH m nn A B most).rows.length) 0=q→q.1=0→(aV q.2).1.2=0→0≤dJ (aV q.2).2.rows 0→yK (aV q.2).2.rows[(dJ (aV q.2).2.rows 0).toNat]!.c≠none:=by
 intro hn
 have Gi:0<m:=by
  rcases sJ m with e|e
  ·rw[e] at hB
   rw[Jk.1 hB] at hn
   cases hn
  ·exact e
 have hI:=Hz (most:=most) hA hB hgA hgB
 have hlen:(aH m nn A B most).rows.length=m:=jT
 generalize hd:aH m nn A B most=d at hI hlen ⊢
 have h0:∀j,j<d.rows.length→d.rows[j]!.b≠0:=fun j hj=>by
  rw[←hd,rS j (by omega)];omega
 have hI1:Inv (cv d) (1+nn+m):=by
  refine hI.col of1.1 (.inl h0) (by rw[c7];exact hI.fine.lg) (rI.fine hI ofm1.1 _ _ hI.fine.lg hI.fine.gg) (fun j hj=>?_) d.piv
  have:=hI.rng j hj
  have:=h0 j hj
  have:=hI.fine.lg
  rw[eJ (by omega),ifn_]
  exact hI.zg j hj
 have bO:j7 d.rows d.rows.length<(cv d).rows.length:=by
  have:=AK d.rows d.rows.length
  show _<(d.rows.map _).length
  rw[bg];omega
 have hnb1:∀j,j<(cv d).rows.length→(cv d).rows[j]!.b≠((0:Nat):Int):=fun j hj=>by
  have CW:j<d.rows.length:=by simpa[cv] using hj
  show (d.rows.map (uC (nOf 1)))[j]!.b≠_
  rw[AH CW]
  exact h0 j CW
 rintro q rfl hp e hf Tr
 obtain⟨hG,h2⟩:=hI1.pivotG bO (show 0<1+nn+m by omega) hnb1 hp
 rw[h2] at e hf Tr
 generalize gF (cv d) (j7 d.rows d.rows.length) 0=d1 at hG e hf Tr h2
 have QZ:rI (cv d) (dX (cv d) (j7 d.rows d.rows.length) 0).2 (1+nn+m)∧Inv (dX (cv d) (j7 d.rows d.rows.length) 0).2 (1+nn+m):=by
  obtain⟨hG',ro⟩:=hI1.pivotG bO (show 0<1+nn+m by omega) hnb1 hp
  rw[ro]
  exact⟨hG'.same,hG'.toInv⟩
 rw[h2] at QZ
 obtain⟨a2,a4⟩:=Inv.improved (1+nn+m) _ d1 QZ.2 e
 have a2:Inv (aV d1).2 (1+nn+m):=a2
 have a4:rI d1 (aV d1).2 (1+nn+m):=a4
 rcases rT (aV d1).2.rows 0 with⟨h5,_⟩|⟨i,h5,h6,h7⟩
 ·omega
 rw[h6,show ((i:Int)).toNat=i by omega] at Tr
 have hz:∀t,t<1+nn+m→(aV d1).2.rows[i]!.c[t]! =nOf 0:=fun t ht=>by
  have hl:=a2.fine.lr i h5
  have hg:=(br.1 (a2.fine.gr i h5)).2 t (by omega)
  unfold yK at Tr
  have:=vH.1 Tr (aV d1).2.rows[i]!.c[t] (n7 (by omega))
  refine good0 hg ?_
  rw[bT _ t (by omega)]
  simpa using this
 have hcon:∀y,Sol (aV d1).2 (1+nn+m) y→y 0=rv (aV d1).2.rows[i]!.k:=fun y hy=>by
  have:=hy i h5
  rw[h7] at this
  have e2:bU (1+nn+m) (aV d1).2.rows[i]!.k (aV d1).2.rows[i]!.c y=rv (aV d1).2.rows[i]!.k:=by
   unfold bU
   rw[ay (g:=fun _=>0) fun t ht=>by rw[hz t ht,of0.2];grind,fa];grind
  rw[e2] at this
  exact this
 obtain⟨y0,hy0,hv0⟩:=hI1.pick fun _=>0
 obtain⟨y1,OY,hv1⟩:=hI1.pick fun _=>1
 have hh:=QZ.1.trans a4
 have e0:=hcon y0 ((hh.sol y0).2 hy0)
 have e1:=hcon y1 ((hh.sol y1).2 OY)
 rw[hv0 0 hnb1] at e0
 rw[hv1 0 hnb1] at e1
 rw[←e0] at e1
 exact absurd e1 (by decide)
end
section
def rh(m:Nat)(a:Ans):List D:=[dI .i64 a.kind,.e (slE ax a.x),if a.kind=2 then .gw (7+8*m) 36 a.y.length else .e (slE ax a.y),.e (slE ax a.ray)]
def GB(m:Nat)(r:Ans×Int×Int):Hp:=if r.1.kind=2 then⟨[(1,rh m r.1),(7+8*m,dC ((cW ax).f r.1.y))],[],8+8*m⟩ else⟨[(1,rh m r.1)],[],2⟩
def Mz(m:Nat)(r:Ans×Int×Int):D:=.tu [.ag (rh m r.1),dI .i64 r.2.1,dI .i64 r.2.2]
theorem rtS {cx:Cx}{tm:List (Nat×D)}{vs2:List (Nat×List D)}{n2 m:Nat}{r0 r:Ans×Int×Int}(h0:cx.hp0=⟨[],[],0⟩)(hr:r0=r)(h1:vs2.lookup 1=some (rh m r.1))(hk:r.1.kind=2→vs2.lookup (7+8*m)=some (dC ((cW ax).f r.1.y))∧8+8*m≤n2)(hn:2≤n2)(h4:tm.lookup 4=some (.pt 1 0):=by exact rfl)(h5:tm.lookup 5=some (dI .i64 r.2.1):=by exact rfl)(h6:tm.lookup 6=some (dI .i64 r.2.2):=by exact rfl):
  ∃tm',Wk cx tm ⟨vs2,[],n2⟩ tm' (GB m r0)∧t5 tbl [.cell 4 29,.tmp 5,.tmp 6] tm' (GB m r0) (Mz m r0):=by
 subst hr
 have key:∀(V:List (Nat×List D)) (M:Nat),cw ⟨V,[],M⟩→V.lookup 1=some (rh m r0.1)→1<M→t5 tbl [.cell 4 29,.tmp 5,.tmp 6] [(4,.pt 1 0),(5,dI .i64 r0.2.1),(6,dI .i64 r0.2.2)] ⟨V,[],M⟩ (Mz m r0):=fun V M hok hl hM=>
  resV tbI rfl hl hM rfl rfl ⟨_,rfl,_,rfl,rfl⟩
 unfold GB
 by_cases hq:r0.1.kind=2
 ·rw[ah hq]
  obtain⟨h7,h8⟩:=hk hq
  have EO:(rh m r0.1).all (D.idsC (8+8*m))=true:=by
   unfold rh
   rw[ah hq]
   simp only[gh,io,eQ,bK]
   exact⟨rfl,rfl,det_,rfl⟩
  have hok:cw ⟨[(1,rh m r0.1),(7+8*m,dC ((cW ax).f r0.1.y))],[],8+8*m⟩:=by
   refine⟨fun k ds h=>?_,fun id e h=>by simp at h⟩
   rcases cm h with⟨rfl,rfl⟩|⟨_,h⟩
   ·exact⟨show 1<8+8*m by omega,EO⟩
   ·rcases cm h with⟨rfl,rfl⟩|⟨_,h⟩
    ·exact⟨show 7+8*m<8+8*m by omega,eG _⟩
    ·simp at h
  refine⟨_,wkS (by rw[h0];exact cy _) h8 hok (fun j ds h=>?_) (((bI.nil.cons h6).cons h5).cons h4 (aB (show 1<8+8*m by omega))),key _ _ hok aa (by omega)⟩
  rcases cm h with⟨rfl,rfl⟩|⟨_,h⟩
  ·exact h1
  ·rcases cm h with⟨rfl,rfl⟩|⟨_,h⟩
   ·exact h7
   ·simp at h
 ·rw[ai hq]
  have EO:(rh m r0.1).all (D.idsC 2)=true:=by
   unfold rh
   rw[ai hq]
   rfl
  have hok:cw ⟨[(1,rh m r0.1)],[],2⟩:=by
   refine⟨fun k ds h=>?_,fun id e h=>by simp at h⟩
   rcases cm h with⟨rfl,rfl⟩|⟨_,h⟩
   ·exact⟨show 1<2 by decide,EO⟩
   ·simp at h
  refine⟨_,wkS (by rw[h0];exact cy _) hn hok (fun j ds h=>?_) (((bI.nil.cons h6).cons h5).cons h4 rfl),key _ _ hok aa (by decide)⟩
  rcases cm h with⟨rfl,rfl⟩|⟨_,h⟩
  ·exact h1
  ·simp at h
def l5:List E:=[.lit (.int .i64 0),.lit (.slice none 0 0),.lit (.slice none 0 0),.lit (.slice none 0 0)]
def dicZ(nn:Nat)(most:Int):List D:=[dN]++(dC zN++[dN])++[dI .i64 nn,dI .i64 0,dI .i64 most]
theorem Q9(nn:Nat)(most:Int):Pt (dicZ nn most) 1 (dC zN++[dN]) (fun ys=>[dN]++ys++[dI .i64 nn,dI .i64 0,dI .i64 most]):=Pt.of [dN] [dI .i64 nn,dI .i64 0,dI .i64 most] rfl rfl fun y=>rfl
theorem rx {a b:Nat}(h:a+b<9223372036854775807):i64.wrap ((a:Int)+(b:Int))=((a+b:Nat):Int):=by rw[eh (by omega) (by omega)];omega
section
variable {d:Dic} {w m nn:Nat} {c:List Nu}
theorem cR.improveP(h:cR d w m):cR (aV d).2 w m∧(aV d).2.most=d.most∧(aV d).2.n=d.n∧-1≤(aV d).1.1∧(aV d).1.1<w:=h.improve _
theorem cR.start(h:cR d w m):cR (cv d) w m:=by
 have h2:=h.colsI (nOf 1) (Nat.le_of_eq h.len)
 rw[ye] at h2
 exact⟨h2.len,(c7 ..).trans h2.lg,h2.lc,h2.b,h2.p0,h2.p1,h2.m0,h2.m1⟩
theorem Ug {l:List Row}{v:Int}(h:¬dJ l v<0):(dJ l v).toNat<l.length:=by
 unfold dJ at h ⊢
 cases QM:l.findIdx? fun r=>decide (r.b=v) with
 |none=>rw[QM] at h;exact absurd (show (-1:Int)<0 by decide) h
 |some a=>exact (ph.1 QM).1
theorem cR.begin(h:cR d w m)(hm:0<m)(hw:0<w):cR (jU d).2 w m∧(jU d).2.n=d.n:=by
 have hl:=h.len
 have mR:j7 d.rows d.rows.length<m:=by
  rcases AK d.rows d.rows.length with h|h <;> omega
 obtain⟨p1,_,p3,_⟩:=h.start.pivot mR hw
 have p3:_=d.n:=p3
 unfold jU
 dsimp only
 split
 ·exact⟨p1,p3⟩
 ·obtain⟨q1,_,q3,_⟩:=p1.improveP
  split
  ·exact⟨q1,q3.trans p3⟩
  ·split
   ·exact⟨q1,q3.trans p3⟩
   ·next hf=>
    have hfl:=Ug hf
    rw[q1.len] at hfl
    split
    ·exact⟨q1,q3.trans p3⟩
    ·next s hs=>
     have Gb:=(ph.1 hs).1
     rw[q1.lc _ hfl] at Gb
     obtain⟨r1,_,r3,_⟩:=q1.pivot hfl Gb
     exact⟨r1,r3.trans (q3.trans p3)⟩
theorem cR.aim(h:cR d w m)(c:List Nu):cR (mZ d c).2 w m∧(mZ d c).2.n=d.n:=by
 have h2:=h.colsI (nOf 0) (Nat.le_of_eq h.len)
 rw[ye] at h2
 exact⟨⟨h2.len,(xF ..).trans h.lg,h2.lc,h2.b,h2.p0,h2.p1,h2.m0,h2.m1⟩,rfl⟩
theorem endP_1(h:(mZ d c).1≠0):wH nn d c=(⟨0,[],[],[]⟩,0,(mZ d c).1):=by unfold wH;dsimp only;rw[ah h]
theorem endP_2(h:¬(mZ d c).1≠0)(h2:(aV (mZ d c).2).1.2≠0):wH nn d c=(⟨0,[],[],[]⟩,0,(aV (mZ d c).2).1.2):=by unfold wH;dsimp only;rw[ai h,ah h2]
theorem endP_3(h:¬(mZ d c).1≠0)(h2:¬(aV (mZ d c).2).1.2≠0)(h3:(aV (mZ d c).2).1.1<0):wH nn d c=(⟨1,cU (aV (mZ d c).2).2.rows nn Row.k fun _=>nOf 0,bY (aV (mZ d c).2).2 nn,[]⟩,(aV (mZ d c).2).2.piv,0):=by unfold wH;dsimp only;rw[ai h,ai h2,ah h3]
theorem endP_4(h:¬(mZ d c).1≠0)(h2:¬(aV (mZ d c).2).1.2≠0){s:Nat}(h3:(aV (mZ d c).2).1.1=(s:Int)):wH nn d c=(⟨3,cU (aV (mZ d c).2).2.rows nn Row.k fun _=>nOf 0,[],cU (aV (mZ d c).2).2.rows nn (fun r=>r.c[s]!) fun v=>nOf (if (v:Int)=(s:Int) then 1 else 0)⟩,(aV (mZ d c).2).2.piv,0):=by
 unfold wH
 dsimp only
 rw[ai h,ai h2,ifn_,h3,show ((s:Int)).toNat=s by omega]
 congr 2
 congr 1
 funext v
 split <;> rfl
end
section
variable {m nn:Nat} {A B C:List Nu} {most:Int}
theorem Rh {m:Nat}{a:Ans}(h:a.kind≠2):rh m a=[dI .i64 a.kind,.e (slE ax a.x),.e (slE ax a.y),.e (slE ax a.ray)]:=by unfold rh;rw[ai h]
theorem xu(m:Nat):D.le (.ag [dI .i64 0,dN,dN,dN]) (.ag (rh m ⟨0,[],[],[]⟩)):=by
 rw[Rh (by decide)]
 exact pI ⟨.inl rfl,.inr (.inr ⟨rfl,36,by decide,rfl⟩),.inr (.inr ⟨rfl,36,by decide,rfl⟩),.inr (.inr ⟨rfl,36,by decide,rfl⟩),trivial⟩
theorem Ph(hv:ar prog 15 [.ag (prC m nn A B C)] (dB true))(hm:m≤2000)(hn:nn≤2000)(hA:A.length=m*nn)(hB:B.length=m)(hC:C.length=nn)(hgA:∀i,i<A.length→au A[i]! =true)(hgB:∀i,i<B.length→au B[i]! =true)(hgC:∀i,i<C.length→au C[i]! =true)(h0:0≤most)(h1:most≤9223372036854775807):
  HC prog 12 [.ag (prC m nn A B C),dI .i64 most] ⟨[],[],0⟩ (Mz m (jR m nn A B C most)) (GB m (jR m nn A B C most)):=by
 refine HC.of (rs:=[.cell 4 29,.tmp 5,.tmp 6]) tok func12 rfl rfl (bb rfl) rfl (fun cx hx wn hok=>?_)
 simp only[fP,Nat.reduceAdd,bw]
 obtain⟨w,hw⟩:∃w,w=1+nn+m:=⟨_,rfl⟩
 refine rs hx fun K hK=>?_
 refine s1 (fQ (cs:=prC m nn A B C)) ?_
 refine a1 (F:=l5) tbI ?_
 iterate 2 refine sa ?_
 refine nl hK ?_
 refine AW.seq (rs hx fun K hK=>?_)
 refine p1 (Pt.all (F:=prC m nn A B C)) rfl ?_
 refine q1 (sHC (HC.frz (ds:=[.ag (prC m nn A B C)]) hv ⟨AR.data rfl,trivial⟩ rfl) rfl (.inr (Fr.refl _))) ?_
 iterate 2 refine sa ?_
 iterate 2 refine ga rfl ?_
 refine s1 (d:=dB (decide (most<0))) (mm rfl) ?_
 refine nl hK ?_
 refine AW.condF rfl (def_) (AW.skip ?_)
 -- r4 dictionary
 refine rs hx fun K hK=>?_
 iterate 2 refine sa ?_
 refine c1 (tN (t:=1) rfl) ?_
 refine sa ?_
 refine s1 (d:=.ag (dicZ nn most)) (da tbI) ?_
 refine s1 (fQ (cs:=dicZ nn most)) ?_
 refine sa ?_
 refine nl hK ?_
 refine rs hx fun K hK=>?_
 iterate 2 refine sa ?_
 refine c1 (tN (t:=1) rfl) ?_
 refine sa ?_
 rw[show i64.wrap ((1:Int)+(nn:Int))=((1+nn:Nat):Int) from rx (a:=1) (by omega)]
 iterate 2 refine sa ?_
 refine c1 (tN (t:=0) rfl) ?_
 refine sa ?_
 rw[rx (by omega),←hw]
 refine sa ?_
 refine nl hK ?_
 refine rs hx fun K hK=>?_
 iterate 2 refine sa ?_
 refine q1 (sHC (xZ (by omega)) rfl (.inr ⟨show 3≤7 by decide,fun j hj=>by have hj:j<3:=hj;exact (ao (by omega)).trans (ao (by omega))⟩)) ?_
 iterate 2 refine sa ?_
 refine v1 (ys:=ba (nOf 0) 6 w) (Q9 nn most) rfl ((bZ _ _ _).trans rfl) rfl ?_
 refine nl hK ?_
 refine rs hx fun K hK=>?_
 refine sa ?_
 refine nl hK ?_
 obtain⟨base,mc⟩:∃base:List (Nat×List D),base=[(1,dC l5),(0,prC m nn A B C)]:=⟨_,rfl⟩
 have fT:base.lookup 1=some (dC l5):=by rw[mc];exact aa
 have Mo:base.lookup 0=some (prC m nn A B C):=by rw[mc];rfl
 have Pg:∀j ds,base.lookup j=some ds→j=0∨j=1:=fun j ds h=>by
  rw[mc] at h
  rcases cm h with⟨h2,_⟩|⟨_,h⟩
  ·exact .inr h2
  ·rcases cm h with⟨h2,_⟩|⟨_,h⟩
   ·exact .inl h2
   ·simp at h
 have M6:∀M,2≤M→cw ⟨base,[],M⟩:=fun M hM=>by
  refine⟨fun j ds h=>?_,fun id e h=>by simp at h⟩
  rcases Pg j ds h with rfl|rfl
  ·rw[Mo] at h;injection h with h;subst h;exact⟨show 0<M by omega,rfl⟩
  ·rw[fT] at h;injection h with h;subst h;exact⟨show 1<M by omega,rfl⟩
 obtain⟨V0,Gp⟩:∃V0,V0=(2,[dN]++ba (nOf 0) 6 w++[dI .i64 nn,dI .i64 0,dI .i64 most])::(3,ba (nOf 0) 6 w)::(6,dC ((cW ax).f (List.replicate w (nOf 0))))::(2,dicZ nn most)::base:=⟨_,rfl⟩
 have hSI:∀i,i≤m→cR (mY m nn A B most i) w i:=fun i hi=>by rw[hw];exact EY h0 h1 hi
 have J0:DAt V0 2 (rV 0) 6 cV w (mY m nn A B most 0):=by
  rw[Gp]
  exact⟨aa,fun fS=>absurd rfl fS,by rw[hw];exact al (by decide) (al (by decide) aa),fun i r hr=>by simp[mY] at hr,(hSI 0 (cy _)).lg,(hSI 0 (cy _)).lC⟩
 have O4:∀k ds,k≠2→(0≠0→k≠rV 0)→k≠6→(∀j,j<0→k≠cV j)→base.lookup k=some ds→V0.lookup k=some ds:=fun k ds _ _ _ _ h=>by
  rw[Gp]
  rcases Pg k ds h with rfl|rfl
  ·exact al (by decide) (al (by decide) (al (by decide) (al (by decide) h)))
  ·exact al (by decide) (al (by decide) (al (by decide) (al (by decide) h)))
 rw[mc] at Gp
 rw[←Gp]
 rw[←mc] at Gp
 have hokI:∀i d2,cR d2 w i→cw ⟨ov 2 (rV i) 6 cV w d2 base,[],7+8*i⟩:=fun i d2 h2=>CQ (M6 _ (by omega)) (by omega) (by unfold rV;split <;> omega) (by omega) fun j hj=>by rw[h2.len] at hj;unfold cV;omega
 obtain⟨ng,hng⟩:∃ng:Nat→Bool,ng=fun i=>(B.take i).any fun b=>decide (bE b<0):=⟨_,rfl⟩
 refine AW.seq (rs hx fun K hK=>?_)
 refine sa ?_
 have hl00:V0.lookup 0=some (prC m nn A B C):=by rw[Gp];exact al (by decide) (al (by decide) (al (by decide) (al (by decide) Mo)))
 refine c1 (tN (t:=3) rfl) ?_
 iterate 2 refine sa ?_
 refine nl hK ?_
 rw[hB]
 refine AW.block (AW.loopW (fun i:Nat=>[(2,.pt 0 0),(4,.pt 1 0),(7,.pt 2 0),(8,dI .i64 w),(9,dB (ng i)),(48,.e (slE ax B)),(49,dI .i64 m),(50,dI .i64 i)]) (fun i=>⟨ov 2 (rV i) 6 cV w (mY m nn A B most i) base,[],7+8*i⟩) (fun i=>i≤m) (fun i=>m - i) 0 ?_ (cy _) ?_)
 ·exact wk1 wn (hok:=hokI 0 _ (hSI 0 (cy _))) (hv:=w9 (yV 0) (hSI 0 (cy _)) J0 O4) (ht:=by rw[hng];exact bI.cons (bI.cons (bI.cons (bI.cons (bI.cons (bI.cons (bI.cons (bI.cons bI.nil rfl rfl) rfl rfl) rfl rfl) rfl rfl) rfl rfl) rfl rfl) rfl rfl) rfl rfl)
 ·intro i hi
  have ya:=hSI i hi
  have DL:=ya.at (yV i) (vs:=base)
  have oK:=hokI i _ ya
  have ut:∀k ds,base.lookup k=some ds→(ov 2 (rV i) 6 cV w (mY m nn A B most i) base).lookup k=some ds:=fun k ds h=>by
   refine Em ya ?_ ?_ ?_ ?_ h
   ·rcases Pg k ds h with rfl|rfl <;> decide
   ·intro hi0
    unfold rV
    rw[ai hi0]
    rcases Pg k ds h with rfl|rfl <;> omega
   ·rcases Pg k ds h with rfl|rfl <;> decide
   ·intro j _
    unfold cV
    rcases Pg k ds h with rfl|rfl <;> omega
  obtain⟨V,hV⟩:∃V,V=ov 2 (rV i) 6 cV w (mY m nn A B most i) base:=⟨_,rfl⟩
  rw[←hV] at DL oK ut ⊢
  have hl0:=ut 0 _ Mo
  have hnoV:∀k ds,V.lookup k=some ds→ds.all D.noO=true:=by
   rw[hV]
   refine ov_noO fun p hp=>?_
   rw[mc] at hp
   rcases kY.1 hp with rfl|hp
   ·exact BS _
   ·rw[ri.1 hp];rfl
  have hl1:=ut 1 _ fT
  have yR:=DL.hd
  refine rs hx fun K hK=>?_
  refine sa ?_
  refine nl hK ?_
  refine AW.seq (AW.condS rfl (fun hb=>?_) (fun hb=>?_))
  ·have qv:i<m:=by have:=bq hb;omega
   obtain⟨n,QH⟩:∃n,n=7+8*i:=⟨_,rfl⟩
   rw[←QH] at oK ⊢
   have rA:0≤(i:Int)∧(i:Int)<((B.length:Nat):Int):=by omega
   refine AW.skip (AW.seq (AW.block (rs hx fun K hK=>?_)))
   refine sa ?_
   refine s1 (PN rA cg aQ) ?_
   refine s1 (d:=dG ax B[i]!) (i8 (c:=ax) (l:=B) (n:=i) (o:=0) aQ (by omega) (eS _ _ rfl)) ?_
   refine n1 ?_
   refine sa ?_
   refine z1 ?_
   refine nl hK ?_
   -- r4 row
   obtain⟨F0,Q2⟩:∃F0,F0=ba (nOf 0) (n+4) w++[dI .i64 (1+nn+i:Nat)]:=⟨_,rfl⟩
   have hFl:F0.length=38:=by rw[Q2,cJ,bZ];rfl
   have hFi:F0.all (D.idsC (n+6))=true:=by rw[Q2,mi,jc (by omega)];rfl
   obtain⟨Tm,hTm⟩:∃Tm:List (Nat×D),Tm=[(2,.pt 0 0),(4,.pt 1 0),(7,.pt 2 0),(8,dI .i64 w),(9,dB (ng i)),(48,.e (slE ax B)),(49,dI .i64 m),(50,dI .i64 i),(10,dI .i64 i),(11,.pt n 0),(12,.pt (n+5) 0)]:=⟨_,rfl⟩
   refine sj Tm ⟨(n+5,F0)::(n+4,dC ((cW ax).f (List.replicate w (nOf 0))))::(n,dC (ax.f B[i]!))::V,[],n+6⟩ ?_ ?_
   ·refine dw (DW.split 1 9 (by decide) ?_ ?_)
    ·refine dwg [] [0,1,2,3,4,5,6,7,8,9,10] hx (by kernel_rfl) (by kernel_rfl) (by kernel_rfl) fun K hK=>?_
     dsimp only[ek,m7,nA,List.map]
     refine sa ?_
     refine q1 (sHC (xZ (by omega)) rfl (.inr ⟨show n+1≤n+1+4 by omega,fun j hj=>by have hj:j<n+1:=hj;exact (ao (by omega)).trans (ao (by omega))⟩)) ?_
     iterate 2 refine sa ?_
     refine c1 (tN (t:=1) rfl) ?_
     refine sa ?_
     rw[show i64.wrap ((1:Int)+(nn:Int))=((1+nn:Nat):Int) from rx (a:=1) (by omega)]
     iterate 2 refine sa ?_
     rw[rx (by omega)]
     refine s1 Vx ?_
     rw[←Q2]
     refine a1 (F:=P1) ud ?_
     refine v1 (Pt.all (F:=dC P1)) rfl hFl rfl ?_
     refine .nil (hK _ _ ⟨rfl,?_⟩)
     rw[hTm]
     exact wk1 wn
    ·refine dwg [] [0,9,1,2,3,4,5,6,7,8,10] hx (by kernel_rfl) (by kernel_rfl) (by kernel_rfl) fun K hK=>?_
     dsimp only[ek,m7,nA,List.map]
     refine sa ?_
     refine a1 (F:=P1) ud ?_
     refine q1 (sHC (xZ (by omega)) rfl (.inr ⟨show n+2≤n+2+4 by omega,fun j hj=>by have hj:j<n+2:=hj;exact (ao (by omega)).trans (ao (by omega))⟩)) ?_
     iterate 2 refine sa ?_
     refine c1 (tN (t:=1) rfl) ?_
     refine sa ?_
     rw[show i64.wrap ((1:Int)+(nn:Int))=((1+nn:Nat):Int) from rx (a:=1) (by omega)]
     iterate 2 refine sa ?_
     rw[rx (by omega)]
     refine s1 Vx ?_
     refine v1 (ys:=ba (nOf 0) (n+5) w++[dI .i64 (1+nn+i:Nat)]) (Pt.all (F:=dC P1)) rfl (by rw[cJ,bZ];rfl) rfl ?_
     refine .nil (hK _ _ ⟨rfl,?_⟩)
     obtain⟨σ,hσ⟩:∃σ:Nat→Nat,σ=fun j=>if j=n+5 then n+1 else if j=n+4 then n+5 else if j=n+1 then n+4 else j:=⟨_,rfl⟩
     have s5:σ (n+5)=n+1:=by rw[hσ];exact ah rfl
     have s4:σ (n+4)=n+5:=by rw[hσ];show (if n+4=n+5 then _ else _)=_;rw[ifn_,ah rfl]
     have GC:∀j,j<n+1→σ j=j:=fun j hj=>by rw[hσ];show (if j=n+5 then _ else _)=_;rw[ifn_,ifn_,ifn_]
     have uu:∀a b,a<n+6→b<n+6→σ a=σ b→a=b:=fun a b _ _ h=>by
      rw[hσ] at h
      dsimp only at h
      repeat' split at h
      all_goals omega
     have Gg:2<n:=by omega
     rw[hTm]
     refine Wk.perm σ (by rw[wn];exact cy _) (fun j hj=>by rw[wn] at hj;exact absurd hj (rk _)) uu ?_ (fun k ds h=>?_) (fun k y h=>by simp at h)
     ·refine TmR.cons (TmR.cons (TmR.cons (TmR.cons (TmR.cons (TmR.cons (TmR.cons (TmR.cons (TmR.cons (TmR.cons (TmR.cons TmR.nil ?_ (aB (show n+5<n+6 by omega))) ?_ (aB (show n<n+6 by omega))) rfl rfl) rfl rfl) rfl rfl) rfl rfl) rfl rfl) rfl rfl) ?_ (aB (show 2<n+6 by omega))) ?_ (aB (show 1<n+6 by omega))) ?_ (aB (show 0<n+6 by omega))
      ·show _=some (D.pt (σ (n+5)) 0);rw[s5];rfl
      ·show _=some (D.pt (σ n) 0);rw[GC n (by omega)];rfl
      ·show _=some (D.pt (σ 2) 0);rw[GC 2 (by omega)];rfl
      ·show _=some (D.pt (σ 1) 0);rw[GC 1 (by omega)];rfl
      ·show _=some (D.pt (σ 0) 0);rw[GC 0 (by omega)];rfl
     ·rcases cm h with⟨rfl,rfl⟩|⟨k5,h⟩
      ·refine⟨by omega,?_,hFi,by rw[Q2,mi,BR];rfl⟩
       rw[s5,Q2,iZ,Qj,s4]
       exact aa
      rcases cm h with⟨rfl,rfl⟩|⟨k4,h⟩
      ·refine⟨by omega,?_,eG _,BS _⟩
       rw[s4,MG]
       exact al (by omega) (al (by omega) aa)
      rcases cm h with⟨rfl,rfl⟩|⟨kn,h⟩
      ·refine⟨by omega,?_,eG _,BS _⟩
       rw[GC k (by omega),MG]
       exact al (by omega) (al (by omega) (al (by omega) (al (by omega) aa)))
      ·have hk:=oK.lt h
       have hki:=(oK.var k ds h).2
       refine⟨by omega,?_,a7.2 fun d hd=>D.idsC_le (show n≤n+6 by omega) (a7.1 hki d hd),hnoV k ds h⟩
       rw[GC k (by omega),map_low (n:=n) (fun j hj=>GC j (by omega)) hki (hnoV k ds h)]
       exact al (by omega) (al (by omega) (al (by omega) (al (by omega) (al kn (al kn h)))))
   ·rw[hTm]
    obtain⟨F1,Hv⟩:∃F1,F1=ja cV w i (Lg m nn A B i):=⟨_,rfl⟩
    have hcV:cV i=n+4:=by unfold cV;omega
    have hF1e:F1=ba B[i]! (n+4) w++[dI .i64 (1+nn+i:Nat)]:=by rw[Hv];unfold ja;rw[hcV];rfl
    have hF1l:F1.length=38:=by rw[Hv];exact ug _ _ _ _
    have hF1i:F1.all (D.idsC (n+6))=true:=by rw[hF1e,mi,jc (by omega)];rfl
    have L0:Pt F0 (0+0+0) (dC (ax.f (nOf 0))) (fun ys=>ys++([.ow (n+4) 0 36 w]++[dI .i64 (1+nn+i:Nat)])):=Pt.of [] ([.ow (n+4) 0 36 w]++[dI .i64 (1+nn+i:Nat)]) rfl (by rw[Q2];unfold ba;simp only[dh,nR]) fun y=>rfl
    have L1:Pt F1 (0+0+36) [.ow (n+4) 0 36 w] (fun ys=>dC (ax.f B[i]!)++ys++[dI .i64 (1+nn+i:Nat)]):=Pt.of (dC (ax.f B[i]!)) [dI .i64 (1+nn+i:Nat)] (jb _) (by rw[hF1e];unfold ba;simp only[dh]) fun y=>rfl
    refine rs hx fun K hK=>?_
    refine l1 (Pt.idN _) ?_
    iterate 2 refine sa ?_
    refine t1 (b:=B[i]!) (F2:=F1) L0 (by rw[hF1e];unfold ba;simp only[dh]) ?_
    refine nl hK ?_
    refine AW.seq (rs hx fun K hK=>?_)
    iterate 2 refine sa ?_
    refine c1 (tN (t:=1) rfl) ?_
    refine sa ?_
    refine nl hK ?_
    rw[show List.replicate w (nOf 0)=Dt m nn A i 0 by rw[Ra,hw]]
    refine AW.block (AW.loopW (fun k:Nat=>[(2,.pt 0 0),(4,.pt 1 0),(7,.pt 2 0),(8,dI .i64 w),(9,dB (ng i)),(48,.e (slE ax B)),(49,dI .i64 m),(50,dI .i64 i),(10,dI .i64 i),(11,.pt n 0),(12,.pt (n+5) 0),(69,dI .i64 nn),(70,dI .i64 k)]) (fun k=>⟨(n+4,dC ((cW ax).f (Dt m nn A i k)))::(n+5,F1)::(n,dC (ax.f B[i]!))::V,[],n+6⟩) (fun k=>k≤nn) (fun k=>nn - k) 0 ?_ (cy _) ?_)
    ·exact wk1 wn
    ·intro k hk
     have t8:=UA m nn A i k
     refine rs hx fun K hK=>?_
     refine sa ?_
     refine nl hK ?_
     refine AW.seq (AW.condS rfl (fun hb=>?_) (fun hb=>?_))
     ·have xY:k<nn:=by have:=bq hb;omega
      have hmul:i*nn+nn≤m*nn:=by
       calc i*nn+nn=(i+1)*nn:=by rw[bP];omega
        _≤m*nn:=cz _ qv
      have hmn:m*nn≤2000*2000:=kL hm hn
      have hmi:i64.wrap ((i:Int)*(nn:Int))=((i*nn:Nat):Int):=by rw[←ir,eh (by omega) (by omega)]
      have hc3:0≤((i*nn+k:Nat):Int)∧((i*nn+k:Nat):Int)<((A.length:Nat):Int):=by omega
      refine AW.skip (AW.seq (AW.block (rs hx fun K hK=>?_)))
      iterate 2 refine sa ?_
      refine nl hK ?_
      refine rqd [42] hx fun K hK=>?_
      iterate 2 refine sa ?_
      refine c1 L1 ?_
      iterate 2 refine sa ?_
      rw[show i64.wrap ((1:Int)+(k:Int))=((1+k:Nat):Int) from rx (a:=1) (by omega)]
      iterate 2 refine sa ?_
      refine c1 (tN (t:=2) rfl) ?_
      iterate 3 refine sa ?_
      refine c1 (tN (t:=1) rfl) ?_
      refine sa ?_
      rw[hmi]
      iterate 2 refine sa ?_
      rw[rx (by omega)]
      refine s1 (PN hc3 cg aQ) ?_
      refine s1 (d:=dG ax A[i*nn+k]!) (i8 (c:=ax) (l:=A) (n:=i*nn+k) (o:=0) aQ (by omega) (eS _ _ rfl)) ?_
      refine cq (Kk _) ?_
      refine i1 (i:=1+k) (n:=w) (by omega) ?_
      refine t1 (Pt.el (Dt m nn A i k) (1+k) (by omega)) (Pt.el_set (Dt m nn A i k) (1+k) (by omega) _) ?_
      refine nl hK ?_
      rw[Rb xY]
      refine rq hx fun K hK=>?_
      iterate 2 refine sa ?_
      refine nl hK ?_
      rw[b7]
      exact⟨k+1,wk1 wn,xY,by omega⟩
     ·refine AW.exit ?_
      have xY:k=nn:=by have:=dK hb;omega
      subst xY
      have hcrow:Dt m k A i k=(Lg m k A B i).c:=rfl
      rw[hcrow]
      obtain⟨U,hU⟩:∃U,U=(n+4,dC ((cW ax).f (Lg m k A B i).c))::(n+5,F1)::(n,dC (ax.f B[i]!))::V:=⟨_,rfl⟩
      have hU5:U.lookup (n+5)=some F1:=by rw[hU];exact al (by omega) aa
      have hU4:U.lookup (n+4)=some (dC ((cW ax).f (Lg m k A B i).c)):=by rw[hU];exact aa
      have hUn:U.lookup n=some (dC (ax.f B[i]!)):=by rw[hU];exact al (by omega) (al (by omega) aa)
      have hUV:∀j ds,V.lookup j=some ds→U.lookup j=some ds:=fun j ds h=>by
       have:=oK.lt h
       rw[hU];exact al (by omega) (al (by omega) (al (by omega) h))
      rw[←hU]
      have hli:=ya.len
      have hU2:=hUV _ _ yR
      refine rsd [] hx fun K hK=>?_
      iterate 4 refine sa ?_
      refine c1 gM ?_
      refine p1 (Pt.all (F:=F1)) hF1l ?_
      refine q1 (litR tok CM ud rfl hF1l) ?_
      obtain⟨W,hW1,hWx,hap⟩:=appRows (U:=(n+6,F1)::U) (lv:=[]) (N:=n+7) (R:=rV i) (ky:=n+6) (w:=w) (C:=cV) (l:=(mY m k A B most i).rows) (fun fS=>al (by unfold rV;split <;> omega) (hUV _ _ (DL.hR fS))) aa hF1l (by omega)
      rw[hli] at hap
      refine q1 (hap rfl rfl) ?_
      have hW2:W.lookup 2=some (nC (rV i) 6 w (mY m k A B most i)):=hWx 2 _ (fun _=>by unfold rV;split <;> omega) (by omega) (al (by omega) hU2)
      iterate 2 refine sa ?_
      refine v1 (ys:=[.gw (n+7) 38 (i+1)]) (gM (R:=rV i) (G:=6) (w:=w) (d:=mY m k A B most i)) rfl rfl rfl ?_
      refine nl hK ?_
      have hrv:rV (i+1)=n+7:=by unfold rV;rw[ifn_];omega
      have Ta:(mY m k A B most (i+1)).rows=(mY m k A B most i).rows++[Lg m k A B i]:=by
       show (List.range (i+1)).map _=(List.range i).map _++_
       rw[wo,iZ];rfl
      have QZ:=hSI (i+1) qv
      have mR:∀j ds,j≠2→(i≠0→j≠rV i)→V.lookup j=some ds→((2,[D.gw (n+7) 38 (i+1)]++(ba (mY m k A B most i).gk 6 w++[dI .i64 (mY m k A B most i).n,dI .i64 (mY m k A B most i).piv,dI .i64 (mY m k A B most i).most]))::W).lookup j=some ds:=fun j ds h2 hr h=>by
       have hj:=oK.lt h
       exact al h2 (hWx j ds (fun fS=>hr (fun e=>fS (by subst e;rfl))) (by omega) (al (by omega) (hUV j ds h)))
      have hD1:DAt ((2,[D.gw (n+7) 38 (i+1)]++(ba (mY m k A B most i).gk 6 w++[dI .i64 (mY m k A B most i).n,dI .i64 (mY m k A B most i).piv,dI .i64 (mY m k A B most i).most]))::W) 2 (rV (i+1)) 6 cV w (mY m k A B most (i+1)):=by
       refine⟨?_,fun _=>?_,?_,fun j r hr=>?_,QZ.lg,QZ.lC⟩
       ·rw[aa]
        have:fm (rV (i+1)) (mY m k A B most (i+1)).rows=.gw (n+7) 38 (i+1):=by
         rw[qF (by rw[Ta];simp),hrv,QZ.len]
        unfold nC
        rw[this,dh]
        rfl
       ·rw[hrv,Ta,BK,hli,bw]
        refine al (by omega) (hW1.trans ?_)
        rw[Hv]
        unfold gj
        rw[show gj cV w (i+1) []=[] from rfl,tG]
       ·refine mR 6 _ (by decide) (fun h=>by unfold rV;rw[ai h];omega) ?_
        exact DL.hG
       ·have hj:j<i+1:=by have:=(fW.1 hr).1;rw[QZ.len] at this;exact this
        rw[Ta] at hr
        rcases d9 j i with h|h
        ·rw[za (by omega)] at hr
         exact mR (cV j) _ (by unfold cV;omega) (fun h=>by unfold cV rV;rw[ai h];omega) (DL.hC j r hr)
        ·obtain rfl:j=i:=by omega
         rw[qi (by omega),hli,zV] at hr
         injection hr with hr
         subst hr
         rw[hcV]
         exact al (by omega) (hWx (n+4) _ (fun _=>by unfold rV;split <;> omega) (by omega) (al (by omega) hU4))
      have hX11:((2,[D.gw (n+7) 38 (i+1)]++(ba (mY m k A B most i).gk 6 w++[dI .i64 (mY m k A B most i).n,dI .i64 (mY m k A B most i).piv,dI .i64 (mY m k A B most i).most]))::W).lookup n=some (dC (ax.f B[i]!)):=al (by omega) (hWx n _ (fun _=>by unfold rV;split <;> omega) (by omega) (al (by omega) hUn))
      have wF:=w9 (vs:=base) (yV (i+1)) QZ hD1 fun j ds h2 _ _ _ h=>mR j ds h2 (fun hi0=>by
       unfold rV
       rw[ai hi0]
       rcases Pg j ds h with rfl|rfl <;> omega) (ut j ds h)
      have AO:=hokI (i+1) _ QZ
      have hng1:ng (i+1)=(ng i||decide (bE B[i]! <0)):=by
       rw[hng]
       dsimp only
       rw[Bb,List.any_append,uz (show i<B.length by omega)]
       simp
      generalize (2,[D.gw (n+7) 38 (i+1)]++(ba (mY m k A B most i).gk 6 w++[dI .i64 (mY m k A B most i).n,dI .i64 (mY m k A B most i).piv,dI .i64 (mY m k A B most i).most]))::W=X at hX11 wF ⊢
      have Rv:n+8=7+8*(i+1):=by omega
      refine rq hx fun K hK=>?_
      iterate 2 refine sa ?_
      cases JY:ng i with
      |true=>
       rw[JY] at hng1
       iterate 3 refine gn rfl ?_
       refine s1 (d:=dB true) (pp rfl) ?_
       refine sa ?_
       refine nl hK ?_
       refine rq hx fun K hK=>?_
       iterate 2 refine sa ?_
       refine nl hK ?_
       rw[b7]
       refine⟨i+1,?_,qv,by omega⟩
       rw[show ng (i+1)=true from hng1]
       rw[←Rv] at AO ⊢
       exact wk1 wn (hok:=AO) (hv:=wF)
      |false=>
       rw[JY] at hng1
       refine l1g (Pt.idN B[i]!) rfl ?_
       refine cqg (zo _) rfl ?_
       refine ga rfl ?_
       refine s1 (d:=dB (decide (bE B[i]! <0))) (mm rfl) ?_
       refine sa ?_
       refine nl hK ?_
       refine rq hx fun K hK=>?_
       iterate 2 refine sa ?_
       refine nl hK ?_
       rw[b7]
       refine⟨i+1,?_,qv,by omega⟩
       rw[show ng (i+1)=decide (bE B[i]! <0) from hng1]
       rw[←Rv] at AO ⊢
       exact wk1 wn (hok:=AO) (hv:=wF)
  ·refine AW.exit ?_
   have qv:i=m:=by have:=dK hb;omega
   subst qv
   rw[Lq] at DL yR ya
   obtain⟨NN,hNN⟩:∃NN,NN=7+8*i:=⟨_,rfl⟩
   rw[←hNN] at oK ⊢
   have hngm:ng i=B.any fun b=>decide (bE b<0):=by
    rw[hng]
    dsimp only
    rw[ii (by omega)]
   rw[hngm]
   have AN:=R5 (C:=C) (most:=most) hA hB hgA hgB
   have DK:rV i<NN:=by unfold rV;split <;> omega
   have hw0:0<w:=by omega
   refine AW.joinE (α:=Dic×List (Nat×List D)) (fun _=>[(2,.pt 0 0),(4,.pt 1 0),(7,.pt 2 0)]) (fun a=>⟨a.2,[],NN⟩) (fun a=>DAt a.2 2 (rV i) 6 cV w a.1∧cR a.1 w i∧a.1.n=(nn:Int)∧a.2.lookup 0=some (prC i nn A B C)∧a.2.lookup 1=some (dC l5)∧cw ⟨a.2,[],NN⟩∧jR i nn A B C most=wH nn a.1 C) ?_ ?_
   ·refine rs hx fun K hK=>?_
    refine sa ?_
    refine nl hK ?_
    refine AW.condS rfl (fun nB=>?_) (fun nB=>?_)
    ·have Gi:0<i:=by
      rcases sJ i with e|e
      ·rw[e] at hB
       rw[Jk.1 hB] at nB
       cases nB
      ·exact e
     have hbg:=h_begin (lv:=[]) (N:=NN) DK DL (yV i) ya (by omega) (by omega) Gi hw0 (AN nB)
     have iF:jR i nn A B C most=(if (jU (aH i nn A B most)).1≠0 then (⟨0,[],[],[]⟩,0,(jU (aH i nn A B most)).1) else if bE (jU (aH i nn A B most)).2.gk<0 then (⟨2,[],bY (jU (aH i nn A B most)).2 nn,[]⟩,(jU (aH i nn A B most)).2.piv,0) else wH nn (jU (aH i nn A B most)).2 C):=by
      unfold jR
      dsimp only
      rw[ah nB]
     have hSb:=ya.begin Gi hw0
     obtain⟨VB,hVB⟩:∃VB,VB=ov 2 (rV i) 6 cV w (jU (aH i nn A B most)).2 V:=⟨_,rfl⟩
     have hokB:cw ⟨VB,[],NN⟩:=by rw[hVB];exact CQ oK (by omega) (by omega) (by omega) fun j hj=>by rw[hSb.1.len] at hj;unfold cV;omega
     have hDb:DAt VB 2 (rV i) 6 cV w (jU (aH i nn A B most)).2:=by rw[hVB];exact hSb.1.at (yV i)
     have hoB:∀k ds,k≤1→V.lookup k=some ds→VB.lookup k=some ds:=fun k ds hk h=>by
      rw[hVB]
      exact Em hSb.1 (by omega) (fun e=>by unfold rV;rw[ai e];omega) (by omega) (fun j _=>by unfold cV;omega) h
     have IX:=hoB 0 _ (by decide) hl0
     have T5:=hoB 1 _ (by decide) hl1
     rw[←hVB] at hbg
     have hBd:=hDb.hd
     clear hVB
     refine AW.seq (rs hx fun K hK=>?_)
     refine sa ?_
     refine q1 (sHC hbg rfl (.inl (by kernel_rfl))) ?_
     refine sa ?_
     refine nl hK ?_
     refine rs hx fun K hK=>?_
     iterate 2 refine sa ?_
     refine nl hK ?_
     refine AW.condS rfl (fun hb=>?_) (fun hb=>?_)
     ·rw[ah (by simpa using hb)] at iF
      refine rs hx fun K hK=>?_
      refine s2 (da tbI) (xu i) ?_
      refine sa ?_
      refine v1 (ys:=rh i ⟨0,[],[],[]⟩) (Pt.all (F:=dC l5)) rfl rfl rfl ?_
      iterate 2 refine sa ?_
      refine nl hK ?_
      exact AW.ret (rtS wn iF aa (fun e=>by cases e) (by omega))
     ·rw[ai (by simpa using hb)] at iF
      refine AW.skip (rs hx fun K hK=>?_)
      iterate 4 refine sa ?_
      refine l1 mJ.pk ?_
      refine cq (zo _) ?_
      refine sa ?_
      refine nl hK ?_
      refine AW.condS rfl (fun hb=>?_) (fun hb=>?_)
      ·rw[ah (bq hb)] at iF
       have JX:(bY (jU (aH i nn A B most)).2 nn).length=i:=by
        unfold bY
        rw[bg,fh,hSb.1.lg]
        omega
       have M5:=QU (lv:=[]) (N:=NN) hDb hSb.2 (by omega) (by omega) (by rw[JX];exact Gi)
       obtain⟨pr,hpr2⟩:∃pr,pr=bY (jU (aH i nn A B most)).2 nn:=⟨_,rfl⟩
       rw[←hpr2] at M5 JX iF
       obtain⟨F2,Pi⟩:∃F2,F2=rh i ⟨2,[],pr,[]⟩:=⟨_,rfl⟩
       have hle:D.le (.ag [dI .i64 2,dN,.gw NN 36 pr.length,dN]) (.ag F2):=by
        rw[Pi,hNN]
        exact pI ⟨.inl rfl,.inr (.inr ⟨rfl,36,by decide,rfl⟩),.inl rfl,.inr (.inr ⟨rfl,36,by decide,rfl⟩),trivial⟩
       have hF2i:F2.all (D.idsC (NN+1))=true:=by
        rw[Pi]
        unfold rh
        rw[ah rfl,←hNN]
        simp only[gh,io,eQ,bK]
        exact⟨rfl,rfl,aB (show NN<NN+1 by omega),rfl⟩
       have GT:F2.length=4:=by rw[Pi];rfl
       refine sj [(4,.pt 1 0),(5,dI .i64 (jU (aH i nn A B most)).2.piv),(6,dI .i64 0)] ⟨(1,F2)::(NN,dC ((cW ax).f pr))::VB,[],NN+1⟩ ?_ ?_
       ·refine dw (DW.split 1 6 (by decide) ?_ ?_)
        ·refine DW.split 6 7 (by decide) ?_ ?_
         ·refine dwg [] [0,1,2,3,4,5,6,7,8,9] hx (by kernel_rfl) (by kernel_rfl) (by kernel_rfl) fun K hK=>?_
          dsimp only[ek,m7,nA,List.map]
          refine sa ?_
          refine q1 (sHC M5 rfl (.inl (by kernel_rfl))) ?_
          refine s2 (da tbI) hle ?_
          refine sa ?_
          refine sa ?_
          refine sa ?_
          refine c1 o8 ?_
          refine v1 (ys:=F2) (Pt.all (F:=dC l5)) rfl GT rfl ?_
          refine sa ?_
          refine sa ?_
          refine .nil (hK _ _ ⟨rfl,wk1 wn⟩)
         ·refine dwg [] [0,1,2,7,3,4,5,6,8,9] hx (by kernel_rfl) (by kernel_rfl) (by kernel_rfl) fun K hK=>?_
          dsimp only[ek,m7,nA,List.map]
          refine sa ?_
          refine q1 (sHC M5 rfl (.inl (by kernel_rfl))) ?_
          refine s2 (da tbI) hle ?_
          refine v1 (ys:=F2) (Pt.all (F:=dC l5)) rfl GT rfl ?_
          refine sa ?_
          refine sa ?_
          refine sa ?_
          refine c1 o8 ?_
          refine sa ?_
          refine sa ?_
          refine .nil (hK _ _ ⟨rfl,wk1 wn⟩)
        ·refine dwg [] [3,4,5,6,0,1,2,7,8,9] hx (by kernel_rfl) (by kernel_rfl) (by kernel_rfl) fun K hK=>?_
         dsimp only[ek,m7,nA,List.map]
         refine sa ?_
         refine sa ?_
         refine sa ?_
         refine c1 o8 ?_
         refine sa ?_
         refine q1 (sHC M5 rfl (.inl (by kernel_rfl))) ?_
         refine s2 (da tbI) hle ?_
         refine v1 (ys:=F2) (Pt.all (F:=dC l5)) rfl GT rfl ?_
         refine sa ?_
         refine sa ?_
         refine .nil (hK _ _ ⟨rfl,wk1 wn⟩)
       ·exact AW.ret (rtS wn iF (by rw[←Pi];exact aa) (fun _=>⟨by rw[←hNN];exact al (by omega) aa,by omega⟩) (by omega))
      ·rw[ai (dK hb)] at iF
       exact AW.skip (⟨((jU (aH i nn A B most)).2,VB),⟨hDb,hSb.1,hSb.2,IX,T5,hokB,iF⟩,wk1 wn⟩)
    ·refine AW.skip ?_
     have iF:jR i nn A B C most=wH nn (aH i nn A B most) C:=by
      unfold jR
      dsimp only
      rw[ai (by rw[nB];simp)]
     exact⟨(aH i nn A B most,V),⟨DL,ya,rfl,hl0,hl1,oK,iF⟩,wk1 wn⟩
   ·rintro⟨d2,X⟩ ⟨hD2,hS2,Gg,Ga,Hn,hokX,iF⟩
    dsimp only at hD2 hS2 Gg Ga Hn hokX iF ⊢
    have haim:=h_aim (lv:=[]) (N:=NN) (c:=C) DK hD2 (yV i) hS2 (by omega) (by omega) hw0 (by omega)
    have hSA:=hS2.aim C
    have hfA:Dif i 2 (rV i) (NN+3) cV:=⟨(yV i).dR,by omega,by omega,fun j hj=>⟨((yV i).C1 j hj).1,((yV i).C1 j hj).2.1,by unfold cV;omega⟩,(yV i).C2⟩
    obtain⟨VA,hVA⟩:∃VA,VA=ov 2 (rV i) (NN+3) cV w (mZ d2 C).2 X:=⟨_,rfl⟩
    have GN:cw ⟨VA,[],NN+4⟩:=by rw[hVA];exact CQ (hokX.up (by omega)) (by omega) (by omega) (by omega) fun j hj=>by rw[hSA.1.len] at hj;unfold cV;omega
    have hDA:DAt VA 2 (rV i) (NN+3) cV w (mZ d2 C).2:=by rw[hVA];exact hSA.1.at hfA
    have hoA:∀{W:List (Nat×List D)} {e:Dic},cR e w i→∀k ds,k≤1→W.lookup k=some ds→(ov 2 (rV i) (NN+3) cV w e W).lookup k=some ds:=fun {W e} hSe k ds hk h=>
     Em hSe (by omega) (fun e=>by unfold rV;rw[ai e];omega) (by omega) (fun j _=>by unfold cV;omega) h
    have hA1:VA.lookup 1=some (dC l5):=by rw[hVA];exact hoA hSA.1 1 _ (by decide) Hn
    rw[←hVA] at haim
    clear hVA
    refine AW.seq (rs hx fun K hK=>?_)
    iterate 2 refine sa ?_
    refine c1 (tN (t:=4) rfl) ?_
    refine q1 (sHC haim rfl (.inl (by kernel_rfl))) ?_
    refine sa ?_
    refine nl hK ?_
    refine rs hx fun K hK=>?_
    iterate 2 refine sa ?_
    refine nl hK ?_
    refine AW.condS rfl (fun hb=>?_) (fun hb=>?_)
    ·have iF:=iF.trans (endP_1 (by simpa using hb))
     refine rs hx fun K hK=>?_
     refine s2 (da tbI) (xu i) ?_
     refine sa ?_
     refine v1 (ys:=rh i ⟨0,[],[],[]⟩) (Pt.all (F:=dC l5)) rfl rfl rfl ?_
     iterate 2 refine sa ?_
     refine nl hK ?_
     exact AW.ret (rtS wn iF aa (fun e=>by cases e) (by omega))
    have fT:¬(mZ d2 C).1≠0:=by simpa using hb
    clear hb
    refine AW.skip ?_
    have himp:=Ht (lv:=[]) (N:=NN+4) (show rV i<NN+4 by omega) hDA hfA hSA.1 (by omega) (by omega)
    have ER:=hSA.1.improveP
    obtain⟨VI,hVI⟩:∃VI,VI=ov 2 (rV i) (NN+3) cV w (aV (mZ d2 C).2).2 VA:=⟨_,rfl⟩
    have hokVI:cw ⟨VI,[],NN+4⟩:=by rw[hVI];exact CQ GN (by omega) (by omega) (by omega) fun j hj=>by rw[ER.1.len] at hj;unfold cV;omega
    have hDI:DAt VI 2 (rV i) (NN+3) cV w (aV (mZ d2 C).2).2:=by rw[hVI];exact ER.1.at hfA
    have hI1:VI.lookup 1=some (dC l5):=by rw[hVI];exact hoA ER.1 1 _ (by decide) hA1
    rw[←hVI] at himp
    clear hVI
    have xf:=fT
    have S8:jR i nn A B C most=wH nn d2 C:=iF
    have hnF:(aV (mZ d2 C).2).2.n=(nn:Int):=by rw[ER.2.2.1,hSA.2,Gg]
    have Pb:(aV (mZ d2 C).2).2.gc.length=w:=ER.1.lg
    obtain⟨hs1,Mk⟩:=ER.2.2.2
    obtain⟨q,hq⟩:∃q,q=aV (mZ d2 C).2:=⟨_,rfl⟩
    have hE2:=fun h2=>S8.trans (endP_2 fT h2)
    have hE3:=fun h2 h3=>S8.trans (endP_3 fT h2 h3)
    have hE4:=fun h2 (s:Nat) h3=>S8.trans (endP_4 (s:=s) fT h2 h3)
    rw[←hq] at himp ER hDI hnF Pb hs1 Mk hE2 hE3 hE4
    clear hq
    refine rs hx fun K hK=>?_
    refine sa ?_
    refine q1 (sHC himp rfl (.inl (by kernel_rfl))) ?_
    iterate 3 refine sa ?_
    refine a1 (F:=[.lit (.int .i64 0)]) tbI ?_
    refine v1 (F2:=[dI .i64 q.1.1]) (ys:=[dI .i64 q.1.1]) (Pt.all (F:=dC [.lit (.int .i64 0)])) rfl rfl rfl ?_
    refine sa ?_
    refine nl hK ?_
    obtain⟨W,hW⟩:∃W,W=(NN+4,[dI .i64 q.1.1])::(NN+4,dC [.lit (.int .i64 0)])::VI:=⟨_,rfl⟩
    have hWx:∀k ds,VI.lookup k=some ds→W.lookup k=some ds:=fun k ds h=>by
     have:=hokVI.lt h
     rw[hW];exact al (by omega) (al (by omega) h)
    have hWs:W.lookup (NN+4)=some [dI .i64 q.1.1]:=by rw[hW];exact aa
    have hokW:cw ⟨W,[],NN+5⟩:=by
     rw[hW]
     exact ((hokVI.up (by omega)).consM (by omega) (eG _)).consM (by omega) rfl
    have hDW:=hDI.up hWx
    have hW1:=hWx 1 _ hI1
    have hWd:=hDW.hd
    rw[←hW]
    clear hW
    refine AW.seq (rs hx fun K hK=>?_)
    iterate 2 refine sa ?_
    refine nl hK ?_
    refine AW.condS rfl (fun hb=>?_) (fun hb=>?_)
    ·have iF:=hE2 (by simpa using hb)
     refine rs hx fun K hK=>?_
     refine s2 (da tbI) (xu i) ?_
     refine sa ?_
     refine v1 (ys:=rh i ⟨0,[],[],[]⟩) (Pt.all (F:=dC l5)) rfl rfl rfl ?_
     iterate 2 refine sa ?_
     refine nl hK ?_
     exact AW.ret (rtS wn iF aa (fun e=>by cases e) (by omega))
    have fI:¬q.1.2≠0:=by simpa using hb
    clear hb
    refine AW.skip ?_
    have ur:=HC.conv (ds:=[.pt 2 0,.e (.lit (.func (.func 48) #[] #[])),.e (.lit (.func (.func 49) #[] #[]))]) (ds':=[.pt 2 0,.fn 48 [],.fn 49 []]) rfl (fun g w' j a b v ha hb hr=>by
      match j with
      |0=>injection ha with ha;injection hb with hb;subst ha hb;exact hr
      |1=>injection ha with ha;injection hb with hb;subst ha hb;exact OI hr
      |2=>injection ha with ha;injection hb with hb;subst ha hb;exact OI hr
      |j+3=>cases ha)
     (La (lv:=[]) (N:=NN+5) (fo:=48) (ft:=49) (ko:=[]) (kt:=[]) (of:=Row.k) (ot:=fun _=>0) hDW ER.1 (by omega) hnF (by omega) (fun k hk=>absurd hk rj) (fun k hk=>absurd hk rj) (fun _=>by omega) (fun V2 F9 M j _ _=>T1) (fun V2 F9 M v _=>T0 v))
    refine rs hx fun K hK=>?_
    refine sa ?_
    refine q1 (sHC ur rfl (.inl (by kernel_rfl))) ?_
    refine sa ?_
    refine nl hK ?_
    refine AW.seq (rs hx fun K hK=>?_)
    refine c1 (Pt.all (F:=[dI .i64 q.1.1])) ?_
    refine sa ?_
    refine nl hK ?_
    refine AW.condS rfl (fun hb=>?_) (fun hb=>?_)
    ·have iF:=hE3 fI (bq hb)
     have M5:=TV (lv:=[]) (N:=NN+5) (nn:=nn) hDW hnF (by omega) (by omega)
     obtain⟨F2,Pi⟩:∃F2,F2=rh i ⟨1,cU q.2.rows nn Row.k fun _=>nOf 0,bY q.2 nn,[]⟩:=⟨_,rfl⟩
     have hle:D.le (.ag [dI .i64 1,.e (slE ax (cU q.2.rows nn Row.k fun _=>nOf 0)),.e (slE ax (bY q.2 nn)),dN]) (.ag F2):=by
      rw[Pi]
      exact pI ⟨.inl rfl,.inl rfl,.inl rfl,.inr (.inr ⟨rfl,36,by decide,rfl⟩),trivial⟩
     have hF2i:F2.all (D.idsC (NN+5))=true:=by rw[Pi];rfl
     have GT:F2.length=4:=by rw[Pi];rfl
     refine sj [(4,.pt 1 0),(5,dI .i64 q.2.piv),(6,dI .i64 0)] ⟨(1,F2)::W,[],NN+5⟩ ?_ ?_
     ·refine dw (DW.split 2 7 (by decide) ?_ ?_)
      ·refine DW.split 7 8 (by decide) ?_ ?_
       ·refine dwg [] [0,1,2,3,4,5,6,7,8,9,10] hx (by kernel_rfl) (by kernel_rfl) (by kernel_rfl) fun K hK=>?_
        dsimp only[ek,m7,nA,List.map]
        refine sa ?_
        refine sa ?_
        refine q1 (sHC M5 rfl (.inl (by kernel_rfl))) ?_
        refine s2 (da tbI) hle ?_
        refine sa ?_
        refine sa ?_
        refine sa ?_
        refine c1 o8 ?_
        refine v1 (ys:=F2) (Pt.all (F:=dC l5)) rfl GT rfl ?_
        refine sa ?_
        refine sa ?_
        refine .nil (hK _ _ ⟨rfl,wk1 wn⟩)
       ·refine dwg [] [0,1,2,3,8,4,5,6,7,9,10] hx (by kernel_rfl) (by kernel_rfl) (by kernel_rfl) fun K hK=>?_
        dsimp only[ek,m7,nA,List.map]
        refine sa ?_
        refine sa ?_
        refine q1 (sHC M5 rfl (.inl (by kernel_rfl))) ?_
        refine s2 (da tbI) hle ?_
        refine v1 (ys:=F2) (Pt.all (F:=dC l5)) rfl GT rfl ?_
        refine sa ?_
        refine sa ?_
        refine sa ?_
        refine c1 o8 ?_
        refine sa ?_
        refine sa ?_
        refine .nil (hK _ _ ⟨rfl,wk1 wn⟩)
      ·refine dwg [] [4,5,6,7,0,1,2,3,8,9,10] hx (by kernel_rfl) (by kernel_rfl) (by kernel_rfl) fun K hK=>?_
       dsimp only[ek,m7,nA,List.map]
       refine sa ?_
       refine sa ?_
       refine sa ?_
       refine c1 o8 ?_
       refine sa ?_
       refine sa ?_
       refine q1 (sHC M5 rfl (.inl (by kernel_rfl))) ?_
       refine s2 (da tbI) hle ?_
       refine v1 (ys:=F2) (Pt.all (F:=dC l5)) rfl GT rfl ?_
       refine sa ?_
       refine sa ?_
       refine .nil (hK _ _ ⟨rfl,wk1 wn⟩)
     ·exact AW.ret (rtS wn iF (by rw[←Pi];exact aa) (fun e=>by cases e) (by omega))
    have wl:¬q.1.1<0:=dK hb
    clear hb
    obtain⟨s,hs⟩:∃s:Nat,q.1.1=(s:Int):=⟨q.1.1.toNat,by omega⟩
    have iF:=hE4 fI s hs
    rw[hs] at hWs
    have hsw:s<w:=by omega
    refine AW.skip ?_
    have hval2:=La (lv:=[]) (N:=NN+5) (fo:=50) (ft:=51) (ko:=[NN+4]) (kt:=[NN+4]) (of:=fun r=>r.c[s]!) (ot:=fun v=>if (v:Int)=(s:Int) then 1 else 0) hDW ER.1 (by omega) hnF (by omega) (fun k hk=>by rw[ri.1 hk];omega) (fun k hk=>by rw[ri.1 hk];omega) (fun v=>by split <;> omega)
     (fun V2 F9 M j GS hj=>TZ (GS _ _ hWs) (GS _ _ (hDW.hC j _ (uz (by rw[ER.1.len];exact hj)))) (hDW.lC j _ (uz (by rw[ER.1.len];exact hj))) hsw) (fun V2 F9 M v GS=>TY v (GS _ _ hWs))
    refine rs hx fun K hK=>?_
    refine sa ?_
    refine s1 FJ ?_
    refine s1 FJ ?_
    refine q1 (sHC hval2 rfl (.inl (by kernel_rfl))) ?_
    refine sa ?_
    refine nl hK ?_
    obtain⟨F2,Pi⟩:∃F2,F2=rh i ⟨3,cU q.2.rows nn Row.k fun _=>nOf 0,[],cU q.2.rows nn (fun r=>r.c[s]!) fun v=>nOf (if (v:Int)=(s:Int) then 1 else 0)⟩:=⟨_,rfl⟩
    have hle:D.le (.ag [dI .i64 3,.e (slE ax (cU q.2.rows nn Row.k fun _=>nOf 0)),dN,.e (slE ax (cU q.2.rows nn (fun r=>r.c[s]!) fun v=>nOf (if (v:Int)=(s:Int) then 1 else 0)))]) (.ag F2):=by
     rw[Pi]
     exact pI ⟨.inl rfl,.inl rfl,.inr (.inr ⟨rfl,36,by decide,rfl⟩),.inl rfl,trivial⟩
    have hF2i:F2.all (D.idsC (NN+5))=true:=by rw[Pi];rfl
    have GT:F2.length=4:=by rw[Pi];rfl
    refine sj [(4,.pt 1 0),(5,dI .i64 q.2.piv),(6,dI .i64 0)] ⟨(1,F2)::W,[],NN+5⟩ ?_ ?_
    ·refine dw (DW.split 6 7 (by decide) ?_ ?_)
     ·refine dwg [] [0,1,2,3,4,5,6,7,8,9] hx (by kernel_rfl) (by kernel_rfl) (by kernel_rfl) fun K hK=>?_
      dsimp only[ek,m7,nA,List.map]
      refine sa ?_
      refine sa ?_
      refine s2 (da tbI) hle ?_
      refine sa ?_
      refine sa ?_
      refine sa ?_
      refine c1 o8 ?_
      refine v1 (ys:=F2) (Pt.all (F:=dC l5)) rfl GT rfl ?_
      refine sa ?_
      refine sa ?_
      refine .nil (hK _ _ ⟨rfl,wk1 wn⟩)
     ·refine dwg [] [0,1,2,7,3,4,5,6,8,9] hx (by kernel_rfl) (by kernel_rfl) (by kernel_rfl) fun K hK=>?_
      dsimp only[ek,m7,nA,List.map]
      refine sa ?_
      refine sa ?_
      refine s2 (da tbI) hle ?_
      refine v1 (ys:=F2) (Pt.all (F:=dC l5)) rfl GT rfl ?_
      refine sa ?_
      refine sa ?_
      refine sa ?_
      refine c1 o8 ?_
      refine sa ?_
      refine sa ?_
      refine .nil (hK _ _ ⟨rfl,wk1 wn⟩)
    ·exact AW.ret (rtS wn iF (by rw[←Pi];exact aa) (fun e=>by cases e) (by omega))
end
end
section
theorem AR.tu {hp:Hp}{ds es:List D}(h:ARs hp ds es):AR hp (.tu ds) (.tu es):=by
 intro B g w v hr hd
 obtain⟨h1,h2⟩:=h.get
 cases hd with
 |tu _ cs hl M4=>
  refine aF.tu es cs (by omega) fun j e u hj hu=>?_
  obtain⟨d,h3,h4⟩:=h2 j e hj
  exact h4 B g w u hr (M4 j d u h3 hu)
theorem HC.toP {P:Program}{f:FuncId}{ds rs:List D}{d:D}{hp':Hp}(hc:HC P f ds ⟨[],[],0⟩ d hp')(ha:AR hp' d (.tu rs)):ar P f ds (.tu rs):=by
 refine⟨hc.1,fun w F vs hF hsz cY=>?_⟩
 have hr:HR w.heap.size ⟨[],[],0⟩ ⟨fun _=>0,fun _=>default,F⟩ w:=
  ⟨fun k ds h=>by simp at h,fun k k' a b h=>by simp at h,fun id n e h=>by simp at h,fun id Cb a b c h=>by simp at h,az _,hF⟩
 refine (hc.2 w.heap.size _ w vs hr hsz cY).mono ?_
 rintro e w' ⟨v,g',rfl,qu,_,hd,hb,hfx⟩
 refine⟨v,rfl,(ha _ g' w' v qu hd).less fun p hp=>⟨hfx p (hF p hp) hp,fun k ds hk he=>?_⟩,hb⟩
 have h1:=(qu.var k ds hk).2.1
 have h2:=hF p hp
 omega
def mkNu(x:am)(h:okR x):Nu:=⟨x,h⟩
open Classical in
def oI(x:am):Nu:=if h:okR x then mkNu x h else default
theorem nv_nuOf {x:am}(h:okR x):nv (oI x)=x:=by unfold oI;rw[dif_pos h];rfl
theorem nuOf_nv(x:Nu):oI (nv x)=x:=by unfold oI;rw[dif_pos (show okR (nv x) from x.2)];rfl
def okL(l:List am):Prop:=∀x∈l,okR x
theorem ui {l:List am}(h:okL l):(l.map oI).map nv=l:=by
 rw[qQ]
 exact (sR fun x hx=>nv_nuOf (h x hx)).trans (Ff _)
theorem Ep(l:List Nu):okL (l.map nv):=fun x hx=>by
 obtain⟨a,_,rfl⟩:=uF.1 hx
 exact a.2
theorem q8(l:List Nu):(l.map nv).map oI=l:=by
 rw[qQ]
 exact (sR fun x _=>nuOf_nv x).trans (Ff _)
structure VP(p:aX)(m nn:Nat):Prop where
 hr:p.vA.vR=m
 hc:p.vA.vC=nn
 hm:m≤2000
 hn:nn≤2000
 oA:okL p.vA.vV
 oB:okL p.vB
 oC:okL p.vC
 lA:p.vA.vV.length=m*nn
 lB:p.vB.length=m
 lC:p.vC.length=nn
 gA:∀i,i<(p.vA.vV.map oI).length→au (p.vA.vV.map oI)[i]! =true
 gB:∀i,i<(p.vB.map oI).length→au (p.vB.map oI)[i]! =true
 gC:∀i,i<(p.vC.map oI).length→au (p.vC.map oI)[i]! =true
def rG(r:Ans×Int×Int):ci×Int×Int:=(⟨r.1.kind,r.1.x.map nv,r.1.y.map nv,r.1.ray.map nv⟩,r.2.1,r.2.2)
open Classical in
def g8(nt:aX)(lq:Int):Option (ci×Int×Int):=
 bnd (g7 nt) fun v=>if v=true∧0≤lq then
  if VP nt nt.vA.vR.toNat nt.vA.vC.toNat∧lq≤9223372036854775807 then some (rG (jR nt.vA.vR.toNat nt.vA.vC.toNat (nt.vA.vV.map oI) (nt.vB.map oI) (nt.vC.map oI) lq)) else none
 else some (rG (⟨0,[],[],[]⟩,0,1))
theorem VP.cells {p:aX}{m nn:Nat}(h:VP p m nn):dG eC p=.ag (prC m nn (p.vA.vV.map oI) (p.vB.map oI) (p.vC.map oI)):=by
 unfold prC
 rw[lm,lm,lm,ui h.oA,ui h.oB,ui h.oC,←h.hr,←h.hc]
 rfl
theorem AR.dn {hp:Hp}{e:E}(h:(D.e e).pure=true):AR hp (.e e) (.e e):=AR.data (d:=.e e) h
theorem AR.same {hp:Hp}{d:D}(h:d.pure=true):AR hp d d:=by
 have h2:=AR.data (hp:=hp) (d:=d) (by rw[DC h];exact h)
 rwa[DC h] at h2
theorem U2(m:Nat)(r:Ans×Int×Int):AR (GB m r) (Mz m r) (.tu [dG jL (rG r).1,dI .i64 (rG r).2.1,dI .i64 (rG r).2.2]):=by
 have hA:AR (GB m r) (.ag (rh m r.1)) (dG jL (rG r).1):=by
  have e:dG jL (rG r).1=.ag [dI .i64 r.1.kind,.e (slE ax r.1.x),.e (slE ax r.1.y),.e (slE ax r.1.ray)]:=by
   rw[lm,lm,lm];rfl
  rw[e]
  refine AR.ag ⟨AR.dn rfl,AR.dn rfl,?_,AR.dn rfl,trivial⟩
  by_cases hk:r.1.kind=2
  ·rw[ah hk]
   refine AR.gw (F:=(cW ax).f r.1.y) ?_ (by decide) ?_
   ·unfold GB
    rw[ah hk]
    exact al (by omega) aa
   ·exact iB ax.f ax.h r.1.y
  ·rw[ai hk]
   exact AR.dn rfl
 exact AR.tu ⟨hA,AR.dn rfl,AR.dn rfl,trivial⟩
theorem TX {cs:List D}{v:Bool}{most:Int}(hlen:cs.length=5)(hpu:(D.ag cs).pure=true)(hv:ar prog 15 [.ag cs] (dB v))(hbad:¬(v=true∧0≤most)):
  HC prog 12 [.ag cs,dI .i64 most] ⟨[],[],0⟩ (Mz 0 (⟨0,[],[],[]⟩,0,1)) (GB 0 (⟨0,[],[],[]⟩,0,1)):=by
 refine HC.of (rs:=[.cell 4 29,.tmp 5,.tmp 6]) tok func12 rfl rfl (bb rfl) rfl (fun cx hx wn hok=>?_)
 simp only[fP,Nat.reduceAdd,bw]
 refine rs hx fun K hK=>?_
 refine s1 (fQ (cs:=cs)) ?_
 refine a1 (F:=l5) tbI ?_
 iterate 2 refine sa ?_
 refine nl hK ?_
 refine AW.seq (rs hx fun K hK=>?_)
 refine p1 (ht:=rm) (Pt.all (F:=cs)) hlen ?_
 refine q1 (sHC (HC.frz (ds:=[.ag cs]) hv ⟨AR.same hpu,trivial⟩ rfl) rfl (.inr (Fr.refl _))) ?_
 iterate 2 refine sa ?_
 cases v with
 |false=>
  iterate 2 refine gn rfl ?_
  refine s1 (d:=dB true) (pp rfl) ?_
  refine nl hK ?_
  refine AW.condT rfl rfl (rs hx fun K hK=>?_)
  refine s2 (da tbI) (xu 0) ?_
  refine v1 (ys:=rh 0 ⟨0,[],[],[]⟩) (Pt.all (F:=dC l5)) rfl rfl rfl ?_
  iterate 2 refine sa ?_
  refine nl hK ?_
  exact AW.ret (rtS wn rfl aa (fun e=>by cases e) (by omega))
 |true=>
  iterate 2 refine ga rfl ?_
  refine s1 (d:=dB (decide (most<0))) (mm rfl) ?_
  refine nl hK ?_
  refine AW.condT rfl (aB (by simp only[true_and] at hbad;omega)) (rs hx fun K hK=>?_)
  refine s2 (da tbI) (xu 0) ?_
  refine v1 (ys:=rh 0 ⟨0,[],[],[]⟩) (Pt.all (F:=dC l5)) rfl rfl rfl ?_
  iterate 2 refine sa ?_
  refine nl hK ?_
  exact AW.ret (rtS wn rfl aa (fun e=>by cases e) (by omega))
theorem qY {nt:aX}{lq:Int}{r:ci×Int×Int}(h:g8 nt lq=some r):ar prog 12 [dG eC nt,dI .i64 lq] (.tu [dG jL r.1,dI .i64 r.2.1,dI .i64 r.2.2]):=by
 unfold g8 at h
 obtain⟨v,hv,h⟩:=ae h
 have hv:=qX hv
 by_cases hg:v=true∧0≤lq
 ·rw[ah hg] at h
  by_cases hq:VP nt nt.vA.vR.toNat nt.vA.vC.toNat∧lq≤9223372036854775807
  ·rw[ah hq] at h
   have h:=bD h
   subst h
   obtain⟨hq,K4⟩:=hq
   rw[hg.1] at hv
   rw[hq.cells] at hv ⊢
   have h2:=Ph (most:=lq) hv hq.hm hq.hn (by rw[bg];exact hq.lA) (by rw[bg];exact hq.lB) (by rw[bg];exact hq.lC) hq.gA hq.gB hq.gC hg.2 K4
   exact HC.toP h2 (U2 _ _)
  ·rw[ai hq] at h;cases h
 ·rw[ai hg] at h
  have h:=bD h
  subst h
  have h2:=TX (cs:=dC (eC.f nt)) ((eH _).trans (eC.h nt)) (jS eC nt) hv hg
  exact HC.toP h2 (U2 _ _)
end
theorem pD:El prog 22 43 (.agg #[.bool false,.bool false,ak,ak,ak,ak,ak,ak,ak,ak,ak,ak,ak,ak,ak,ak,ak,ak,.bool false,.bool false,ak,ak,ak,ak,ak,ak,ak,ak,ak,ak,ak,ak,ak,ak,ak,ak]) 36 136:=⟨underlying22,info_parts (by kernel_rfl),rfl,by decide⟩
theorem px(n:Nat)(us:List Value)(v:Value)(w:World)(hl:Sl w v 36 n us)(h1:∀u∈us,u.oneCell'=true)(hn:n≤1000000):
  Calls prog 138 #[v] w fun e w'=>∃q,e=.returned q∧w'.ownsRow w.heap.size 43 36 q n us∧Below w.heap.size w w':=by
 obtain⟨A,c,rfl,qU,oY,hr⟩:=id hl
 cases A with
 |none=>
  obtain rfl:n=0:=by
   rcases sJ n with h|h
   ·exact h
   ·obtain⟨_,h,_⟩:=hr.2 h;cases h
  obtain rfl:us=[]:=s9 (by simpa using hr.1)
  have he:(binOp .eql 22 (.slice none 0 c) (.slice none 0 0)).run prog w=.ok (.bool true) w:=by kernel_rfl
  go_enter func138,ntmps138
  go_wp2_with fail
  go_ret
  exact⟨_,rfl,⟨rfl,.inl ⟨rfl,rfl⟩⟩,Below.refl _ _⟩
 |some ad=>
  have he:(binOp .eql 22 (.slice (some ad) n c) (.slice none 0 0)).run prog w=.ok (.bool false) w:=by kernel_rfl
  go_enter func138,ntmps138
  have hown0:=own_mtG w 43 w.heap.size 36 (az _)
  have IX:=(Below.refl w.heap.size w).alloc (az _) (.cells #[] 43)
  have Gj:=hl.below IX
  have HL:=Lib.hid Gj
  have H1:=Lib.hid h1
  clear hl hr Gj h1
  go_wp2_with (at_builtin;refine Af _ rfl _ _ _ rfl pD w.heap.size _ _ _ rfl hown0 _ _ _ rfl HL.out H1.out (by omega) (by omega) (by simp) w w.heap.size IX (az _) ?_)
  intro v' w' lZ hb
  go_wp2_with fail
  go_ret
  refine⟨_,rfl,?_,hb⟩
  simpa using lZ
theorem py(n:Nat)(xs:List E)(hn:n≤1000000):ar prog 138 [.e (.sl 36 n xs)] (.own 43 36 n xs):=
 UL (by decide) ⟨_,func138,rfl,rfl⟩ (fun us v w h1 h2=>px n us v w h1 h2 hn)
def f4(l:List am):Option (List am):=gd (l.length≤1000000) (some l)
theorem pP {l r:List am}(h:f4 l=some r):ar prog 138 [dL aj l] (.own 43 aj.sz r.length (r.flatMap aj.f)):=by
 obtain⟨hn,h⟩:=aA h
 obtain rfl:=bD h
 exact py _ _ hn
def fc(eE:List am):(List am)×Int→Option (((List am)×Int)⊕((List am))):=fun (aU,bu)=>cnd (decide (bu<((eE).length:Int))) (gd (0≤bu∧bu<((eE).length:Int)) (bnd (kX ((eE)[(bu).toNat]!)) fun x6=>gd ((aU++[x6]).length*136≤140737488355328) (some (.inl (aU++[x6],i64.wrap (bu+(1:Int))))))) (some (.inr aU))
def me(eE:List am):Option (List am):=bnd (f4 eE) fun x1=>bnd (bt (fc eE) (x1,(0:Int))) fun bh=>some bh
theorem Ag {eE:List am}{r:List am}(h:me eE=some r):ar prog 74 [dL aj eE] (.own 43 aj.sz r.length (r.flatMap aj.f)):=by
 refine bk (rs:=[.tmp 2]) (fun cx hx h0=>?_) func74
 unfold me at h
 refine rs hx fun K hK=>?_
 refine s1 (d:=dO 0 aj ([]:List am)) (gi cg aQ) ?_
 refine nl hK ?_
 refine rs hx fun K hK=>?_
 refine sa ?_
 obtain⟨x1,xX,h⟩:=ae h
 refine s1 (iU rfl (pP xX) rfl (lA (aw _) lAn)) ?_
 refine nbr hK ?_
 refine AW.seq (ra hx ?_)
 refine AW.block ?_
 obtain⟨bh,hy,h⟩:=ae h
 refine lp (S:=(List am)×Int) (X:=(List am)) (fun (aU,bu)=>[(3,dO 0 aj aU),(8,dL aj eE),(9,dI .i64 ((eE).length:Int)),(10,dI .i64 bu)]) (fun (aU,bu)=>⟨[],[(0,(aU).length,36,43)],1⟩) (PE cx (.exit 0) (fun bh=>[(3,dO 0 aj bh)]) fun bh=>⟨[],[(0,(bh).length,36,43)],1⟩) hy ?_ ?_ ?_
 exact wk0 h0 [1]
 clear hy h
 rintro⟨aU,bu⟩ y h
 dsimp only[fc] at h
 refine ra hx ?_
 refine AW.seq (cdh h rfl (fun fI h=>?_) (fun fI h=>?_))
 refine AW.skip (AW.seq (AW.block (rs hx fun K hK=>?_)))
 obtain⟨Pf,h⟩:=aA h
 have hn5:(bu).toNat<(eE).length:=by omega
 refine sbr ?_
 refine s1 (d:=dG aj ((eE)[(bu).toNat]!)) (i8 (c:=aj) (l:=eE) (n:=(bu).toNat) (o:=0) aQ hn5 (eS _ _ rfl)) ?_
 refine nbr hK ?_
 refine rq hx fun K hK=>?_
 refine mbr ?_
 refine scb h th fun x6 h=>?_
 refine s1 (kP ([x6]:List am) aj cg aQ) ?_
 obtain⟨hc8,h⟩:=aA h
 refine s1 (d:=dO 0 aj (aU++[x6])) (qn cg aQ hc8) ?_
 refine nbr hK ?_
 refine rb hx ?_
 exact pel h h0 [0]
 exact AW.exit (per h h0 [0])
 refine lw0 ?_
 refine ra hx ?_
 refine AW.ret ?_
 cases h
 exact oL.own rfl rfl
def D.ren2(ρ:Nat→Nat):D→D
 | .tu ds=>.tu (ds.map (D.ren ρ))
 |d=>d.ren ρ
def D.okF2:D→Bool
 | .tu ds=>ds.all D.okF
 |d=>d.okF
theorem fwdF2 {hp dp:Hp}{g g2:Gh}{w:World}{ρ:Nat→Nat}{d:D}{v:Value}(h:aF hp g w d v)(hn:d.okF2=true)(rP:∀i,i<hp.next→ρ i<dp.next)(hμ:∀i,i<hp.next→g2.μ (ρ i)=g.μ i)(hτ:∀i,i<hp.next→g2.τ (ρ i)=g.τ i)(hF:g2.F=g.F)
  (hl:∀id,id<hp.next→∀y,dp.live.lookup (ρ id)=some y→hp.live.lookup id=some y):aF dp g2 w (d.ren2 ρ) v:=by
 cases d with
 |tu ds=>cases h with
  |tu _ cs hlen hr=>
   refine .tu _ cs (by simpa using hlen) fun j d u h2 h3=>?_
   rw[dW] at h2
   obtain⟨d0,h4,rfl⟩:=yY.1 h2
   exact ET (hr j d0 u h4 h3) (a7.1 hn d0 (eg h4)) rP hμ hτ hF hl
 |ag ds=>exact ET h hn rP hμ hτ hF hl
 |e y=>exact ET h hn rP hμ hτ hF hl
 |own id z n xs=>exact ET h hn rP hμ hτ hF hl
 |fu z n xs=>exact ET h hn rP hμ hτ hF hl
 |fp xs off=>exact ET h hn rP hμ hτ hF hl
 |pt k off=>exact ET h hn rP hμ hτ hF hl
 |ow k off z n=>exact ET h hn rP hμ hτ hF hl
 |gw k z n=>exact ET h hn rP hμ hτ hF hl
 |fn f ks=>exact ET h hn rP hμ hτ hF hl
 |opt b d=>cases hn
 |top=>exact .top v
theorem HC.frame2 {P:Program}{f:FuncId}{Pr ds:List D}{r:D}{F7 oH vs:List (Nat×List D)}{F8 s8 lv:List (Nat×Nat×Nat×TypeId)}{m n' N:Nat}(h:HC P f Pr ⟨F7,F8,m⟩ r ⟨oH,s8,n'⟩)
  (os:List Nat) (hos:os.length=m) (AP:os.Nodup) (bO:∀o∈os,o<N) (ha:frA (fun i=>os.getD i 0) m ds Pr)
  (hv:∀k ds,F7.lookup k=some ds→k<m∧(∃tB,vs.lookup (os.getD k 0)=some tB∧zi tB (ds.map (D.renC fun i=>os.getD i 0)))∧ds.all (D.idsC m)=true∧ds.all D.noO=true)
  (hl:∀id y,F8.lookup id=some y→id<m∧lv.lookup (os.getD id 0)=some y)
  (hr:r.okF2=true) (hvo:∀p∈oH,p.2.all D.okC=true):
  HC P f ds ⟨vs,lv,N⟩ (r.ren2 (rn os m N)) ⟨frV (rn os m N) os oH vs,frL (rn os m N) os s8 lv,N+(n' - m)⟩:=by
 subst hos
 refine⟨h.1,fun B g w us hR hsz cY=>?_⟩
 have fq:∀i,i<os.length→os.getD i 0∈os:=fun i hi=>by
  rw[vG,cP hi];exact n7 hi
 have uu:∀i j,i<os.length→j<os.length→os.getD i 0=os.getD j 0→i=j:=fun i j hi hj he=>by
  rw[vG,vG,cP hi,cP hj] at he
  have hp:=NA.1 AP
  simp only[xv] at he
  rcases Fe i j with h3|h3|h3
  ·exact absurd he (hp _ _ hi hj h3)
  ·exact h3
  ·exact absurd he.symm (hp _ _ hj hi h3)
 have hS:=HR.ren (hpS:=⟨F7,F8,os.length⟩) hR (fun i=>os.getD i 0) (fun i j hi hj he=>uu i j hi hj he) hv hl
 have dV:∀id y,(⟨F7,F8,os.length⟩:Hp).live.lookup id=some y→(⟨vs,lv,N⟩:Hp).live.lookup (os.getD id 0)=some y:=fun id y h=>(hl _ _ h).2
 refine (h.2 B _ w us hS (by rw[hsz,I1 ha]) (fun j e u he hu=>?_)).mono ?_
 ·obtain⟨d,h1,h2,h3,h4⟩:=I2 ha he
  exact DB ((cY j d u h1 hu).le h2) h3 h4 rfl (fun _=>rfl) (fun _=>rfl) rfl dV
 rintro en w' ⟨v,g',rfl,Le,hM,qJ,hB,hF⟩
 -- r4 caller's ghosts
 let ρ:=rn os os.length N
 have tQ:∀i,i<os.length→ρ i=os.getD i 0:=fun i hi=>by show rn os os.length N i=_;unfold rn;simp[hi]
 have vg:∀i,os.length≤i→ρ i=N+(i - os.length):=fun i hi=>by show rn os os.length N i=_;unfold rn;rw[def_];rfl
 have Tq:∀i,i<os.length→os.getD i 0<N:=fun i hi=>bO _ (fq i hi)
 have hmn:os.length≤n':=hM.next
 have hρn:∀i,i<n'→ρ i<N+(n' - os.length):=fun i hi=>by
  by_cases h1:i<os.length
  ·rw[tQ i h1];have:=Tq i h1;omega
  ·rw[vg i (by omega)];omega
 have SY:∀i j,i<n'→j<n'→ρ i=ρ j→i=j:=fun i j hi hj he=>by
  by_cases h1:i<os.length <;> by_cases h2:j<os.length
  ·rw[tQ i h1,tQ j h2] at he;exact uu i j h1 h2 he
  ·rw[tQ i h1,vg j (by omega)] at he;have:=Tq i h1;omega
  ·rw[tQ j h2,vg i (by omega)] at he;have:=Tq j h2;omega
  ·rw[vg i (by omega),vg j (by omega)] at he;omega
 let g2:Gh:=⟨fun j=>if j<N then g.μ j else g'.μ (os.length+(j - N)),fun j=>if j<N then (if j∈os then g'.τ (os.idxOf j) else g.τ j) else g'.τ (os.length+(j - N)),g'.F⟩
 let dp:Hp:=⟨frV ρ os oH vs,frL ρ os s8 lv,N+(n' - os.length)⟩
 have GJ:∀j,j<N→g2.μ j=g.μ j:=fun j hj=>ah hj
 have MV:∀j,j<N→j∉os→g2.τ j=g.τ j:=fun j hj ho=>by
  show (if j<N then _ else _)=_
  rw[ah hj,ai ho]
 have GI:∀i,i<n'→g2.μ (ρ i)=g'.μ i:=fun i hi=>by
  by_cases h1:i<os.length
  ·rw[tQ i h1,GJ _ (Tq i h1)];exact (hM.μ i h1).symm
  ·rw[vg i (by omega)]
   show (if _ then _ else _)=_
   rw[ifn_,show os.length+(N+(i - os.length) - N)=i by omega]
 have IK:∀i,i<n'→g2.τ (ρ i)=g'.τ i:=fun i hi=>by
  by_cases h1:i<os.length
  ·rw[tQ i h1]
   show (if _ then (if _ then _ else _) else _)=_
   rw[ah (Tq i h1),ah (fq i h1)]
   have:os.idxOf (os.getD i 0)=i:=by
    have h2:os.idxOf (os.getD i 0)<os.length:=List.idxOf_lt_length_of_mem (fq i h1)
    refine uu _ _ h2 h1 ?_
    rw[vG (i:=os.idxOf _),cP h2]
    exact List.getElem_idxOf h2
   rw[this]
  ·rw[vg i (by omega)]
   show (if _ then _ else _)=_
   rw[ifn_,show os.length+(N+(i - os.length) - N)=i by omega]
 have um:∀k ds,dp.vars.lookup k=some ds→(∃i tB,ρ i=k∧i<n'∧oH.lookup i=some tB∧tB.map (D.renC ρ)=ds)∨(k∉os∧k<N∧vs.lookup k=some ds):=fun k ds hk=>by
  rcases sh hk with h1|h1
  ·obtain⟨i,a,h2,h3,h4⟩:=mz ρ (fun a:List D=>a.map (D.renC ρ)) h1
   exact .inl ⟨i,a,h2,(Le.var i a h3).1,h3,h4⟩
  ·obtain⟨h2,h3⟩:=jx h1
   exact .inr ⟨h2,(hR.var k ds h3).1,h3⟩
 have uo:∀k y,dp.live.lookup k=some y→(∃i,ρ i=k∧i<n'∧s8.lookup i=some y)∨(k∉os∧k<N∧lv.lookup k=some y):=fun k y hk=>by
  rcases sh hk with h1|h1
  ·obtain⟨i,a,h2,h3,h4⟩:=mz ρ (fun a:Nat×Nat×TypeId=>a) h1
   subst h4
   exact .inl ⟨i,h2,(Le.tok i a.1 a.2 h3).1,h3⟩
  ·obtain⟨h2,h3⟩:=jx h1
   exact .inr ⟨h2,(hR.tok k y.1 y.2 h3).1,h3⟩
 have hlρ:∀id,id<n'→∀y,dp.live.lookup (ρ id)=some y→s8.lookup id=some y:=fun id hid y hy=>by
  rcases uo _ _ hy with⟨i,h1,h2,h3⟩|⟨h1,h2,_⟩
  ·rw[←SY i id h2 hid h1];exact h3
  ·exfalso
   by_cases h4:id<os.length
   ·rw[tQ id h4] at h1;exact h1 (fq id h4)
   ·rw[vg id (by omega)] at h2;omega
 -- blocks of what was not in hand are free for r4 callee
 have AV:∀k ds,k∉os→vs.lookup k=some ds→g.μ k<w.heap.size∧Rp ⟨F7,F8,os.length⟩ ⟨fun i=>g.μ (os.getD i 0),fun i=>g.τ (os.getD i 0),g.F⟩ (g.μ k):=fun k ds ho hk=>by
  refine⟨hR.var_lt (k:=k) (ds:=ds) hk,fun i di hi=>?_,fun i t hi=>?_⟩
  ·obtain⟨h1,⟨_,h2,_⟩,_⟩:=hv i di hi
   exact fun e=>ho (by rw[←hR.inj _ _ _ _ h2 hk e];exact fq i h1)
  ·obtain⟨h1,h2⟩:=hl i t hi
   obtain⟨_,_,_,_,h3⟩:=hR.tok _ t.1 t.2 h2
   exact fun e=>(h3 _ e).2 k ds hk rfl
 have AX:∀k t b,k∉os→lv.lookup k=some t→(g.τ k).ownBlock=some b→b<w.heap.size∧Rp ⟨F7,F8,os.length⟩ ⟨fun i=>g.μ (os.getD i 0),fun i=>g.τ (os.getD i 0),g.F⟩ b:=fun k t b ho hk hb=>by
  obtain⟨_,_,_,h1,h2⟩:=hR.tok k t.1 t.2 hk
  refine⟨(h1.lt b hb).2,fun i di hi=>?_,fun i t' hi=>?_⟩
  ·obtain⟨h1,⟨_,h3,_⟩,_⟩:=hv i di hi
   exact (h2 b hb).2 _ _ h3
  ·obtain⟨h1,h3⟩:=hl i t' hi
   exact fun e=>ho (by rw[←hR.tinj _ _ _ _ b h3 hk e hb];exact fq i h1)
 have mo:cM ⟨vs,lv,N⟩ g w dp g2 w':=by
  refine⟨hM.size,hM.cell,hM.forb,tF _ _,fun k hk=>GJ k hk,fun id hid n e hy=>?_,fun b hb hf=>?_,hM.szs⟩
  ·rcases uo _ _ hy with⟨i,h1,h2,h3⟩|⟨h1,h2,h3⟩
   ·by_cases h4:i<os.length
    ·obtain⟨m0,h5,h6,h7⟩:=hM.live i h4 n e h3
     refine⟨m0,?_,h6,fun h=>?_⟩
     ·rw[←h1,tQ i h4];exact dV i _ h5
     ·rw[←h1,IK i h2,h7 h,tQ i h4]
    ·rw[←h1,vg i (by omega)] at hid
     have hid:N+(i - os.length)<N:=hid
     omega
   ·exact⟨n,h3,az _,fun _=>MV id h2 h1⟩
  ·obtain⟨h1,h2,h3⟩:=hM.fr b hb ⟨fun k ds hk=>by
    obtain⟨_,⟨_,h5,_⟩,_⟩:=hv k ds hk
    exact hf.1 _ _ h5,fun id t hi=>hf.2 _ _ (dV id t hi)⟩
   refine⟨h1,h2,fun k ds hk=>?_,fun id t hi=>?_⟩
   ·rcases um _ _ hk with⟨i,_,rfl,h5,h6,_⟩|⟨_,h5,h6⟩
    ·rw[GI i h5];exact h3.1 _ _ h6
    ·rw[GJ k h5];exact hf.1 _ _ h6
   ·rcases uo _ _ hi with⟨i,rfl,h5,h6⟩|⟨h4,h5,h6⟩
    ·rw[IK i h5];exact h3.2 _ _ h6
    ·rw[MV id h5 h4];exact hf.2 _ _ h6
 have fw:∀{d:D} {u:Value},d.okC=true→aF ⟨oH,s8,n'⟩ g' w' d u→aF dp g2 w' (d.renC ρ) u:=fun hd h=>Ds h hd hρn GI IK rfl hlρ
 refine⟨v,g2,rfl,⟨fun k ds hk=>?_,fun k k' ds ds' hk wD he=>?_,fun id n e hi=>?_,fun id Cb t t' b hi wE hb pC=>?_,Le.base,Le.fits⟩,mo,fwdF2 qJ hr hρn GI IK rfl hlρ,hB,hF⟩
 ·rcases um _ _ hk with⟨i,tB,rfl,h1,h2,rfl⟩|⟨h1,h2,h3⟩
  ·obtain⟨_,h4,h5,cs,ty,h6,h7,h8⟩:=Le.var i tB h2
   rw[GI i h1]
   refine⟨hρn i h1,h4,h5,cs,ty,h6,by simpa using h7,fun j u hu=>⟨fun h=>(h8 j u hu).1 (by simpa using h),fun d hd=>?_⟩⟩
   rw[dW] at hd
   obtain⟨d0,wK,rfl⟩:=yY.1 hd
   exact fw (a7.1 (hvo _ (bG h2)) d0 (eg wK)) ((h8 j u hu).2 d0 wK)
  ·obtain⟨h4,h5⟩:=AV k ds h1 h3
   obtain⟨h6,h7,_⟩:=hM.fr _ h4 h5
   obtain⟨_,h8,h9,cs,ty,yw,Dr,h12⟩:=hR.var k ds h3
   rw[GJ k h2]
   exact⟨bM h2 (tF _ _),h8,fun p hp=>h7 p hp (h9 p hp),cs,ty,h6.trans yw,Dr,fun j u hu=>⟨(h12 j u hu).1,fun d hd=>((h12 j u hu).2 d hd).mono mo⟩⟩
 ·rcases um _ _ hk with⟨i,tB,rfl,h1,h2,_⟩|⟨h1,h2,h3⟩ <;> rcases um _ _ wD with⟨i',ds0',rfl,rB,ro,_⟩|⟨rB,ro,Nl⟩
  ·rw[GI i h1,GI i' rB] at he
   rw[Le.inj _ _ _ _ h2 ro he]
  ·rw[GI i h1,GJ _ ro] at he
   obtain⟨h4,h5⟩:=AV _ _ rB Nl
   exact absurd he ((hM.fr _ h4 h5).2.2.1 _ _ h2)
  ·rw[GI i' rB,GJ _ h2] at he
   obtain⟨h4,h5⟩:=AV _ _ h1 h3
   exact absurd he.symm ((hM.fr _ h4 h5).2.2.1 _ _ ro)
  ·rw[GJ _ h2,GJ _ ro] at he
   exact hR.inj _ _ _ _ h3 Nl he
 ·rcases uo _ _ hi with⟨i,rfl,h1,h2⟩|⟨h1,h2,h3⟩
  ·obtain⟨_,wb,h4,h5,h6⟩:=Le.tok i n e h2
   rw[IK i h1]
   refine⟨hρn i h1,wb,h4,h5,fun b hb=>⟨(h6 b hb).1,fun k ds hk=>?_⟩⟩
   rcases um _ _ hk with⟨i',_,rfl,h7,h8,_⟩|⟨h7,h8,h9⟩
   ·rw[GI i' h7];exact (h6 b hb).2 _ _ h8
   ·rw[GJ k h8]
    obtain⟨yw,Dr⟩:=AV _ _ h7 h9
    intro e
    exact (hM.fr _ yw Dr).2.2.2 _ _ h2 (by rw[e];exact hb)
  ·obtain⟨_,wb,h4,h5,h6⟩:=hR.tok id n e h3
   rw[MV id h2 h1]
   refine⟨bM h2 (tF _ _),wb,h4,⟨h5.1,?_⟩,fun b hb=>?_⟩
   ·rcases h5.2 with h0|⟨b,cap,cur,wC,hB',hh,r⟩
    ·exact .inl h0
    ·obtain⟨yw,Dr⟩:=AX id _ b h1 h3 (by rw[wC];rfl)
     exact .inr ⟨b,cap,cur,wC,hB',(hM.fr _ yw Dr).1.trans hh,r⟩
   ·obtain⟨yw,Dr⟩:=AX id _ b h1 h3 hb
    obtain⟨h12,h13,h14⟩:=hM.fr _ yw Dr
    refine⟨fun p h7 h8=>h13 p h7 ((h6 b hb).1 p h7 h8),fun k ds hk=>?_⟩
    rcases um _ _ hk with⟨i',_,rfl,h7,h8,_⟩|⟨h7,h8,h9⟩
    ·rw[GI i' h7];exact h14.1 _ _ h8
    ·rw[GJ k h8];exact (h6 b hb).2 _ _ h9
 ·rcases uo _ _ hi with⟨i,rfl,h1,h2⟩|⟨h1,h2,h3⟩ <;> rcases uo _ _ wE with⟨i',rfl,rB,ro⟩|⟨rB,ro,Nl⟩
  ·rw[IK i h1] at hb
   rw[IK i' rB] at pC
   rw[Le.tinj _ _ _ _ b h2 ro hb pC]
  ·rw[IK i h1] at hb
   rw[MV _ ro rB] at pC
   obtain⟨yw,Dr⟩:=AX _ _ b rB Nl pC
   exact absurd hb ((hM.fr _ yw Dr).2.2.2 _ _ h2)
  ·rw[IK i' rB] at pC
   rw[MV _ h2 h1] at hb
   obtain⟨yw,Dr⟩:=AX _ _ b h1 h3 hb
   exact absurd pC ((hM.fr _ yw Dr).2.2.2 _ _ ro)
  ·rw[MV _ h2 h1] at hb
   rw[MV _ ro rB] at pC
   exact hR.tinj _ _ _ _ b h3 Nl hb pC
theorem HC.frame0 {P:Program}{f:FuncId}{ds:List D}{r:D}{oH vs:List (Nat×List D)}{lv:List (Nat×Nat×Nat×TypeId)}{n' N:Nat}(h:HC P f ds ⟨[],[],0⟩ r ⟨oH,[],n'⟩)
  (ha:frA (fun i=>([]:List Nat).getD i 0) 0 ds ds) (hr:r.okF2=true) (hvo:∀p∈oH,p.2.all D.okC=true):
  HC P f ds ⟨vs,lv,N⟩ (r.ren2 (fun i=>N+i)) ⟨oH.map (fun p=>(N+p.1,p.2.map (D.renC fun i=>N+i)))++vs,lv,N+n'⟩:=by
 have h1:=HC.frame2 (vs:=vs) (lv:=lv) (N:=N) h [] rfl List.nodup_nil (fun o ho=>absurd ho rj) ha (fun k ds hk=>by simp at hk) (fun id y hy=>by simp at hy) hr hvo
 have e:rn [] 0 N=fun i=>N+i:=by funext i;rfl
 have e1:frV (rn [] 0 N) [] oH vs=oH.map (fun p=>(N+p.1,p.2.map (D.renC fun i=>N+i)))++vs:=by
  unfold frV
  rw[e]
  congr 1
  exact List.filter_eq_self.2 fun _ _=>rfl
 have e2:frL (rn [] 0 N) [] [] lv=lv:=by
  unfold frL
  exact List.filter_eq_self.2 fun _ _=>rfl
 rw[e1,e2,e] at h1
 exact h1
section
theorem sliceG {P:Program}{tb:TypeId→Option TyE}(tok:TOk P tb){ev:Operand→D}{hp:Hp}{dst:Option Tmp}{ty:TypeId}{pos:String}{af:Array Edge}{gd:Option (Nat×Bool)}{t e:TypeId}{ti j:TyE}{x y z:Operand}{k n m:Nat}{kn kn':IntKind}(ht:tb t=some ti)(he:tb e=some j)(hx:ev x=.gw k j.size n)(hy:ev y=dI kn (m:Int))(hz:ev z=dI kn' (m:Int))(hm:m≤n)(yO:ti.ty=.slice e:=by exact rfl):
  nf P tb .seq ⟨dst,.slice t x none (some y) (some z),ty,pos,af,gd⟩ ev hp (.ow k 0 j.size m) hp:=by
 refine⟨.step fun B g w a hr yM=>?_,fun hq=>(by cases hq),fun _=>⟨az _,fun _ _=>rfl⟩,fun h=>by cases h⟩
 have h1:=yM x (by simp[Op.operands])
 have h2:=yM y (by simp[Op.operands])
 have h3:=yM z (by simp[Op.operands])
 rw[hx] at h1
 rw[hy] at h2
 rw[hz] at h3
 have h2:=h2.lit
 have h3:=h3.lit
 generalize hv:a.eval x=v at h1
 cases h1 with
 |gw _ _ _ c hk qU oY hs=>
  have hu:=tok.slice ht yO
  have hsz:=tok.run_sizeOf he w
  have hHc:m≤c:=by omega
  have hb:(Instr.sliceBounds true n c none (some (Value.int kn (m:Int))) (some (Value.int kn' (m:Int)))).run P w=.ok (0,m,m) w:=by
   simp[Instr.sliceBounds,run_sliceBound,hHc]
  have Rz:∀(ad:Addr),ad.spot=none→ad.off=0→(if m=0 then some ad else some (ad.add (0*j.size)))=some ad:=fun ad h4 h5=>by
   split
   ·rfl
   ·rw[gS];unfold Addr.add;simp
  refine⟨.slice (some ⟨g.μ k,0,none⟩) m m,g,w,?_,hr,cM.refl _ _ _,.ow k 0 j.size m m hk (az _) (by omega),Below.refl _ _,fun _ _ h=>h⟩
  have cf:(Instr.sliceAt t (a.eval x) none (some (a.eval y)) (some (a.eval z))).run P w=.ok (.slice (some ⟨g.μ k,0,none⟩) m m) w:=by
   rw[hv,h2,h3]
   simp[Instr.sliceAt,Instr.slice,run_underlying hu,hb,hsz,Addr.add]
  simp[execOp,cf]
theorem WkS.frz2 {tm:List (Nat×D)}{vs:List (Nat×List D)}{lv:List (Nat×Nat×Nat×TypeId)}{N t k z n:Nat}{F:List E}(hz:0<z)(ht:tm.lookup t=some (.ow k 0 z n))(hv:vs.lookup k=some (dC F))(hF:n*z≤F.length):
  WkS tm ⟨vs,lv,N⟩ ((t,.e (.sl z n (F.take (n*z))))::tm) ⟨vs.filter fun p=>!([k]:List Nat).contains p.1,lv,N⟩:=by
 intro B g w ρ hr nV
 obtain⟨h1,h2,h3,cs,ty,h4,h5,h6⟩:=hr.var k _ hv
 have look:∀{j:Nat} {ds:List D},(vs.filter fun p=>!([k]:List Nat).contains p.1).lookup j=some ds→j≠k∧vs.lookup j=some ds:=by
  intro j ds h
  obtain⟨a,b⟩:=jx h
  exact⟨by simpa using a,b⟩
 have fS:∀{j:Nat} {ds:List D},j≠k→vs.lookup j=some ds→g.μ j≠g.μ k:=fun hj hl e=>hj (hr.inj _ _ _ _ hl hv e)
 have mo:cM ⟨vs,lv,N⟩ g w ⟨vs.filter fun p=>!([k]:List Nat).contains p.1,lv,N⟩ ⟨g.μ,g.τ,fun p=>g.F p∧p.block≠g.μ k⟩ w:=by
  refine⟨az _,fun _ _ _=>rfl,fun _ _ h=>h.1,az _,fun _ _=>rfl,fun _ _ m _ h=>⟨m,h,az _,fun _=>rfl⟩,fun b hb hf=>⟨rfl,fun p hp hq=>⟨hq,?_⟩,fun j ds hj=>hf.1 j ds (look hj).2,hf.2⟩,fun _=>.same fun _=>rfl⟩
  rw[hp];exact fun e=>hf.1 k _ hv e.symm
 refine⟨⟨g.μ,g.τ,fun p=>g.F p∧p.block≠g.μ k⟩,⟨fun j ds hj=>?_,fun j j' ds ds' hj CW he=>hr.inj j j' ds ds' (look hj).2 (look CW).2 he,fun id m e hi=>?_,hr.tinj,hr.base,fun p hp=>hr.fits p hp.1⟩,mo,fun t' d hd=>?_,fun p hp hq=>⟨hq,?_⟩⟩
 ·obtain⟨a1,a2⟩:=look hj
  obtain⟨b1,b2,b3,xn,Mj,b4,b5,b6⟩:=hr.var j ds a2
  exact⟨b1,b2,fun p hp=>⟨b3 p hp,by rw[hp];exact fS a1 a2⟩,xn,Mj,b4,b5,fun i u hu=>⟨(b6 i u hu).1,fun d hd=>((b6 i u hu).2 d hd).mono mo⟩⟩
 ·obtain⟨b1,us,b2,b3,b4⟩:=hr.tok id m e hi
  exact⟨b1,us,b2,b3,fun b hb=>⟨fun p hp hq=>⟨(b4 b hb).1 p hp hq,by rw[hp];exact fun e=>(b4 b hb).2 k _ hv e.symm⟩,fun j ds hj=>(b4 b hb).2 j ds (look hj).2⟩⟩
 ·by_cases htt:t'=t
  ·subst htt
   have:some (D.e (.sl z n (F.take (n*z))))=some d:=by rw[←hd];exact aa.symm
   injection this with this
   subst this
   have cY:=nV t' _ ht
   generalize hq:ρ t'=u at cY
   cases cY with
   |ow _ _ _ _ c hk qU oY=>
    have pw:F.length≤cs.size:=by rw[eH] at h5;exact h5
    have fq:∀{i:Nat} {e:E},(F.take (n*z))[i]? =some e→F[i]? =some e:=fun {i e} h=>by
     rw[gU] at h
     split at h
     ·exact h
     ·cases h
    refine .e _ _ (.sl z n (F.take (n*z)) (some ⟨g.μ k,0,none⟩) c (fun i=>cs.getD i undef) (by rw[eu];omega) hz qU oY (fun _=>⟨_,rfl,(pl.1 h4).1⟩) (fun ad ha i e hi=>?_) (fun i e hi=>?_))
    ·have hi:=fq hi
     injection ha with ha
     subst ha
     have bO:i<cs.size:=bM (fW.1 hi).1 pw
     refine⟨?_,fun hf=>hf.2 (by rw[gD])⟩
     have e0:w.cell? (({block:=g.μ k,off:=0,spot:=none}:Addr).add i)=cs[0+i]? :=by
      by_cases h0:i=0
      ·subst h0;simp[World.cell?,Addr.add,h4]
      ·simp[World.cell?,Addr.add,h4,h0]
     rw[e0,bw]
     simp[e9,bO]
    ·have hi:=fq hi
     have bO:i<cs.size:=bM (fW.1 hi).1 pw
     have hu:=h6 i (cs.getD i undef) (by simp[e9,bO])
     have:=hu.2 (.e e) (by unfold dC;rw[dW,hi];rfl)
     cases this with
     |e _ _ h7=>exact dA.less h7 fun p hp=>hp.1
  ·exact (nV t' d (by rw[←hd];exact (ao htt).symm)).mono mo
 ·intro e
  omega
theorem uQ {c:List Nu}(h:c.length≤1000000):c6 (c.map nv)=some (c.all au):=by
 obtain⟨y,hy,ED⟩:=G_idx h
 unfold c6 aW
 rw[hy]
 by_cases h0:0≤y
 ·rw[ED.1 h0]
  simp[bnd,h0]
 ·have:c.all au=true:=by
   cases hc:c.all au with
   |true=>rfl
   |false=>exact absurd (ED.2 hc) h0
  rw[this]
  simp[bnd,h0]
theorem P7 {c:List Nu}(h:c.length≤1000000):ar prog 62 [.e (slE ax c)] (dB (c.all au)):=by
 rw[lm];exact fY (uQ h)
def fR(l:List Nu):List Nu:=l++l.map eU
theorem Rm {l:List Nu}(h:l.length≤1000000):me (l.map nv)=some ((fR l).map nv):=by
 have hlen:(l.map nv).length=l.length:=bg _
 unfold me f4
 rw[aC (by rw[hlen];exact h)]
 show bnd (bt (fc (l.map nv)) (l.map nv,(0:Int))) _=_
 have key:=uk (b:=fc (l.map nv)) (fun i:Nat=>((l++(l.take i).map eU).map nv,(i:Int))) 0 l.length ((fR l).map nv) (cy _) (fun i _ hi=>?_) ?_
 ·have e:((l++(l.take 0).map eU).map nv,((0:Nat):Int))=(l.map nv,(0:Int)):=by simp
  rw[e] at key
  rw[key]
  rfl
 ·unfold fc
  dsimp only
  have fq:(l.map nv)[((i:Nat):Int).toNat]! =nv l[i]:=by
   rw[show ((i:Nat):Int).toNat=i by omega,bT _ _ (by rw[hlen];exact hi),Fy]
  have nB:kX (nv l[i])=some (nv (eU l[i])):=by rw[xb];exact Of l[i].2
  have htk:l.take (i+1)=l.take i++[l[i]]:=by rw[Bb,cP hi];rfl
  rw[hlen,cH _ _,aC,fq,nB]
  show gd _ _=_
  rw[aC (by simp;omega),eh (by omega) (by omega),htk]
  simp only[iZ,dh,iX,l6]
  rfl
 ·unfold fc
  dsimp only
  rw[hlen,cr _ _,ii (az _)]
  rfl
theorem Ia {l:List Nu}(h:l.length≤1000000):ar prog 74 [.e (slE ax l)] (.e (slE ax (fR l))):=by
 rw[lm,lm]
 exact ar.toE (Ag (Rm h))
theorem J6 {n:Nat}(h:n≤1000000):ar prog 75 [dI .i64 n] (.e (slE ax (List.replicate n (nOf 0)))):=by
 rw[lm,Fx]
 refine nS ?_
 unfold fJ
 rw[ifp_]
 congr 2
def ylP(y:List Nu)(m:Nat):Nat→List Nu
 |0=>y
 |i+1=>(ylP y m i).set i (xa (ylP y m i)[i]! (ylP y m i)[m+i]!)
def vn(m nn:Nat)(A B:List Nu)(most:Int):Ans×Int×Int:=
 let r:=jR (m+m) nn (fR A) (fR B) (List.replicate nn (nOf 0)) most
 if r.2.2≠0∨r.1.kind≠2 then (⟨r.1.kind,r.1.x,[],r.1.ray⟩,r.2.1,r.2.2) else
 let y:=(List.range m).map fun i=>xa r.1.y[i]! r.1.y[m+i]!
 if y.all au then (⟨r.1.kind,r.1.x,y,r.1.ray⟩,r.2.1,0) else (⟨0,[],[],[]⟩,0,30)
section
variable {y:List Nu} {m:Nat}
theorem Ac:∀i,(ylP y m i).length=y.length
 |0=>rfl
 |i+1=>(c7 ..).trans (Ac i)
theorem Mr:∀i j,i≤j→(ylP y m i)[j]! =y[j]!
 |0,_,_=>rfl
 |i+1,j,h=>by
  unfold ylP
  rw[zW,Cq (by omega),←zW]
  exact Mr i j (by omega)
theorem RE(h:m+m≤y.length):∀i j,i≤m→j<i→(ylP y m i)[j]! =xa y[j]! y[m+j]!
 |0,_,_,h2=>by omega
 |i+1,j,h1,h2=>by
  have hl:i<(ylP y m i).length:=by rw[Ac];omega
  unfold ylP
  by_cases CX:i=j
  ·subst CX
   rw[zW,HJ hl,xv,Mr i i (az _),Mr i (m+i) (by omega)]
  ·rw[zW,Cq CX,←zW]
   exact RE h i j (by omega) (by omega)
theorem ylP_all(h:y.length=m+m):(ylP y m m).take m=(List.range m).map fun i=>xa y[i]! y[m+i]! :=by
 refine Fz (by rw[eu,Ac,bg,List.length_range];omega) fun j h1 h2=>?_
 have hj:j<m:=by simpa using h2
 rw[List.getElem_take,Fy,N4,←RE (y:=y) (by omega) m j (az _) hj,bT (ylP y m m) j (by rw[Ac];omega)]
end
theorem R6 {m nn:Nat}{A B C:List Nu}{most:Int}(hB:B.length=m)(h0:0≤most)(h1:most≤9223372036854775807)(hk:(jR m nn A B C most).1.kind=2):(jR m nn A B C most).1.y.length=m∧(jR m nn A B C most).1.x=[]∧(jR m nn A B C most).1.ray=[]∧(jR m nn A B C most).2.2=0:=by
 have K6:∀d,(wH nn d C).1.kind≠2:=fun d h=>by
  unfold wH at h
  dsimp only at h
  split at h
  ·cases h
  ·split at h
   ·cases h
   ·split at h <;> cases h
 unfold jR at hk ⊢
 dsimp only at hk ⊢
 split at hk
 ·next nB=>
  rw[ah nB]
  split at hk
  ·cases hk
  ·next hb=>
   rw[ai hb]
   split at hk
   ·next hg=>
    rw[ah hg]
    have hm:0<m:=by
     rcases sJ m with e|e
     ·rw[e] at hB
      rw[Jk.1 hB] at nB
      cases nB
     ·exact e
    have hS:=(EY (m:=m) (nn:=nn) (A:=A) (B:=B) h0 h1 (az m))
    rw[Lq] at hS
    have xf:=(hS.begin hm (by omega)).1.lg
    refine⟨?_,rfl,rfl,rfl⟩
    show (bY _ nn).length=m
    unfold bY
    rw[bg,fh,xf]
    omega
   ·exact absurd hk (K6 _)
 ·exact absurd hk (K6 _)
end
section
def zS(ky:Nat)(a:Ans):List D:=[dI .i64 a.kind,.e (slE ax a.x),if a.kind=2 then .gw ky 36 a.y.length else .e (slE ax a.y),.e (slE ax a.ray)]
def wy(ky:Nat)(a:Ans):List (Nat×List D):=if a.kind=2 then [(ky,dC ((cW ax).f a.y))] else []
theorem OC {ky N n2:Nat}{a:Ans}{vs:List (Nat×List D)}{lv:List (Nat×Nat×Nat×TypeId)}(h:N≤ky)(h2:N≤n2):Fr ⟨vs,lv,N⟩ ⟨wy ky a++vs,lv,n2⟩:=by
 refine⟨h2,fun j hj=>?_⟩
 have hj:j<N:=hj
 unfold wy
 split
 ·exact ao (by omega)
 ·rfl
theorem LG {ky n:Nat}{a:Ans}(h:ky<n):(zS ky a).all (D.idsC n)=true:=by
 unfold zS
 by_cases hk:a.kind=2
 ·rw[ah hk]
  simp only[gh,io,eQ,bK]
  exact⟨rfl,rfl,aB h,rfl⟩
 ·rw[ai hk]
  rfl
theorem solW_in {ky kx:Nat}{a:Ans}{x:List D}{vs:List (Nat×List D)}{j:Nat}{ds:List D}(hj:j≠kx)(h:(wy ky a++vs).lookup j=some ds):(wy ky a++(kx,x)::vs).lookup j=some ds:=by
 unfold wy at h ⊢
 by_cases hk:a.kind=2
 ·rw[ah hk] at h ⊢
  rcases cm h with⟨rfl,rfl⟩|⟨CV,h⟩
  ·exact aa
  ·exact al CV (al hj h)
 ·rw[ai hk] at h ⊢
  exact al hj h
theorem HC.weakT {P:Program}{f:FuncId}{ds rs:List D}{hp:Hp}{vars vars':List (Nat×List D)}{lv lv':List (Nat×Nat×Nat×TypeId)}{n n':Nat}(hc:HC P f ds hp (.tu rs) ⟨vars,lv,n⟩)(h0:hp.next≤n')
  (h:cw hp→cw ⟨vars',lv',n'⟩∧(∀j ds,vars'.lookup j=some ds→vars.lookup j=some ds)∧(∀j y,lv'.lookup j=some y→lv.lookup j=some y)∧rs.all (D.idsB n')=true):HC P f ds hp (.tu rs) ⟨vars',lv',n'⟩:=by
 refine⟨hc.1,fun B g w vs hr hsz cY=>(hc.2 B g w vs hr hsz cY).mono ?_⟩
 obtain⟨hok,hv,hl,hd⟩:=h hr.ok
 rintro e w' ⟨v,g',rfl,qu,hM,hrd,hb,hF⟩
 have dV:∀id y,lv'.lookup id=some y→lv.lookup id=some y:=hl
 refine⟨v,g',rfl,⟨fun k ds hk=>?_,fun k k' a b hk wD he=>qu.inj k k' a b (hv k a hk) (hv k' b wD) he,fun id m e hi=>?_,fun id Cb t t' b hi wE=>qu.tinj id Cb t t' b (dV _ _ hi) (dV _ _ wE),qu.base,qu.fits⟩,
  ⟨hM.size,hM.cell,hM.forb,h0,hM.μ,fun id hid m e QK=>hM.live id hid m e (dV id _ QK),fun b hb hf=>⟨(hM.fr b hb hf).1,(hM.fr b hb hf).2.1,fun k ds hk=>(hM.fr b hb hf).2.2.1 k ds (hv k ds hk),fun id t hi=>(hM.fr b hb hf).2.2.2 id t (dV id _ hi)⟩,hM.szs⟩,?_,hb,hF⟩
 ·obtain⟨_,h3,h4,cs,ty,h5,h6,h7⟩:=qu.var k ds (hv k ds hk)
  obtain⟨h1,h2⟩:=hok.var k ds hk
  exact⟨h1,h3,h4,cs,ty,h5,h6,fun j u hu=>⟨(h7 j u hu).1,fun d hd=>iK ((h7 j u hu).2 d hd) (a7.1 h2 d (eg hd)) rfl dV⟩⟩
 ·obtain⟨_,us,h2,h3,h4⟩:=qu.tok id m e (dV _ _ hi)
  exact⟨hok.tok id _ hi,us,h2,h3,fun b hb=>⟨(h4 b hb).1,fun k ds hk=>(h4 b hb).2 k ds (hv k ds hk)⟩⟩
 ·cases hrd with
  |tu _ cs Gj M4=>exact .tu rs cs Gj fun j d u h1 h2=>EC (M4 j d u h1 h2) (a7.1 hd d (eg h1)) rfl dV
theorem Lb {M:Nat}{r:Ans×Int×Int}{R Cc most:Int}{A B C:List Nu}{vs:List (Nat×List D)}{lv:List (Nat×Nat×Nat×TypeId)}{N:Nat}(hc:HC prog 12 [.ag (prC R Cc A B C),dI .i64 most] ⟨[],[],0⟩ (Mz M r) (GB M r)):
  HC prog 12 [.ag (prC R Cc A B C),dI .i64 most] ⟨vs,lv,N⟩ (.tu [.ag (zS (N+(7+8*M)) r.1),dI .i64 r.2.1,dI .i64 r.2.2]) ⟨wy (N+(7+8*M)) r.1++vs,lv,N+(8+8*M)⟩:=by
 unfold Mz GB at hc
 unfold zS wy
 unfold rh at hc
 by_cases hk:r.1.kind=2
 ·simp only[ah hk] at hc ⊢
  have h1:=HC.weakT (vars':=[(7+8*M,dC ((cW ax).f r.1.y))]) (lv':=[]) (n':=8+8*M) hc (cy _) fun _=>⟨⟨fun k ds h=>by
    rcases cm h with⟨rfl,rfl⟩|⟨_,h⟩
    ·exact⟨show 7+8*M<8+8*M by omega,eG _⟩
    ·simp at h,fun id e h=>by simp at h⟩,fun k ds h=>by
    rcases cm h with⟨rfl,rfl⟩|⟨_,h⟩
    ·exact al (by omega) aa
    ·simp at h,fun _ _ h=>h,by
    simp only[D.idsB,gh,io,eQ,bK]
    exact⟨⟨rfl,rfl,det_,rfl⟩,rfl,rfl⟩⟩
  have h2:=HC.frame0 (vs:=vs) (lv:=lv) (N:=N) h1 ⟨⟨aw _,rfl,rfl⟩,⟨aw _,rfl,rfl⟩,trivial⟩ rfl fun p hp=>by
   rw[ri.1 hp]
   exact a7.2 fun d hd=>by
    obtain⟨e,_,rfl⟩:=uF.1 hd
    rfl
  have e:(dC ((cW ax).f r.1.y)).map (D.renC fun i=>N+i)=dC ((cW ax).f r.1.y):=MG _
  simp only[iX,l6,e] at h2
  exact h2
 ·simp only[ai hk] at hc ⊢
  have h1:=HC.weakT (vars':=[]) (lv':=[]) (n':=8+8*M) hc (cy _) fun _=>⟨⟨fun k ds h=>by simp at h,fun id e h=>by simp at h⟩,fun k ds h=>by simp at h,fun _ _ h=>h,rfl⟩
  have h2:=HC.frame0 (vs:=vs) (lv:=lv) (N:=N) h1 ⟨⟨aw _,rfl,rfl⟩,⟨aw _,rfl,rfl⟩,trivial⟩ rfl fun p hp=>absurd hp rj
  exact h2
def sG(a:Ans):List D:=[dI .i64 a.kind,.e (slE ax a.x),.e (slE ax a.y),.e (slE ax a.ray)]
def maC(R Cc:Int)(A:List Nu):List D:=[dI .i64 R,dI .i64 Cc,.e (slE ax A)]
theorem se {R Cc:Int}{A:List Nu}{t:Nat}{y:D}(h:(maC R Cc A)[t]? =some y):Pt (maC R Cc A) t [y] (fun ys=>(maC R Cc A).take t++ys++(maC R Cc A).drop (t+1)):=Pt.cell h
theorem OX(a:Ans)(h:a.y=[]:=by exact rfl):D.le (.ag [dI .i64 a.kind,.e (slE ax a.x),dN,.e (slE ax a.ray)]) (.ag (sG a)):=by
 unfold sG
 rw[h]
 exact pI ⟨.inl rfl,.inl rfl,.inr (.inr ⟨rfl,36,by decide,rfl⟩),.inl rfl,trivial⟩
theorem IH:D.le (.ag [dI .i64 0,dN,dN,dN]) (.ag (sG ⟨0,[],[],[]⟩)):=pI ⟨.inl rfl,.inr (.inr ⟨rfl,36,by decide,rfl⟩),.inr (.inr ⟨rfl,36,by decide,rfl⟩),.inr (.inr ⟨rfl,36,by decide,rfl⟩),trivial⟩
def eqD(r:Ans×Int×Int):D:=.tu [.ag (sG r.1),dI .i64 r.2.1,dI .i64 r.2.2]
def eqH(r:Ans×Int×Int):Hp:=⟨[(1,sG r.1)],[],2⟩
theorem rtE {cx:Cx}{tm:List (Nat×D)}{vs2:List (Nat×List D)}{n2:Nat}{r0 r:Ans×Int×Int}(h0:cx.hp0=⟨[],[],0⟩)(hr:r0=r)(h1:vs2.lookup 1=some (sG r.1))(hn:2≤n2)(h6:tm.lookup 6=some (.pt 1 0):=by exact rfl)(h7:tm.lookup 7=some (dI .i64 r.2.1):=by exact rfl)(h8:tm.lookup 8=some (dI .i64 r.2.2):=by exact rfl):
  ∃tm',Wk cx tm ⟨vs2,[],n2⟩ tm' (eqH r0)∧t5 tbl [.cell 6 29,.tmp 7,.tmp 8] tm' (eqH r0) (eqD r0):=by
 subst hr
 have hok:cw ⟨[(1,sG r0.1)],[],2⟩:=by
  refine⟨fun k ds h=>?_,fun id e h=>by simp at h⟩
  rcases cm h with⟨rfl,rfl⟩|⟨_,h⟩
  ·exact⟨show 1<2 by decide,rfl⟩
  ·simp at h
 refine⟨_,wkS (by rw[h0];exact cy _) hn hok (fun j ds h=>?_) (((bI.nil.cons h8).cons h7).cons h6 rfl),resV tbI rfl aa (by decide) rfl rfl ⟨_,rfl,_,rfl,rfl⟩⟩
 rcases cm h with⟨rfl,rfl⟩|⟨_,h⟩
 ·exact h1
 ·simp at h
section
variable {m nn:Nat} {A B:List Nu} {most:Int}
theorem h_Equal(hv:ar prog 73 [.ag (maC m nn A),.e (slE ax B)] (dB true))(hvV:ar prog 15 [.ag (prC ((m+m:Nat):Int) nn (fR A) (fR B) (List.replicate nn (nOf 0)))] (dB true))(hm:m≤1000)(hn:nn≤2000)(hA:A.length=m*nn)(hB:B.length=m)(hgA:∀i,i<(fR A).length→au (fR A)[i]! =true)(hgB:∀i,i<(fR B).length→au (fR B)[i]! =true)(hA1:A.length≤1000000)(h0:0≤most)(h1:most≤9223372036854775807):
  HC prog 21 [.ag (maC m nn A),.e (slE ax B),dI .i64 most] ⟨[],[],0⟩ (eqD (vn m nn A B most)) (eqH (vn m nn A B most)):=by
 refine HC.of (rs:=[.cell 6 29,.tmp 7,.tmp 8]) tok func21 rfl rfl (bb rfl) rfl (fun cx hx wn hok=>?_)
 simp only[fP,Nat.reduceAdd,bw]
 have T5:B.length≤1000000:=by omega
 have hlA:(fR A).length=(m+m)*nn:=by unfold fR;rw[cJ,bg,hA,bP]
 have hlB:(fR B).length=m+m:=by unfold fR;rw[cJ,bg,hB]
 have hmm:i64.wrap ((2:Int)*(m:Int))=((m+m:Nat):Int):=by rw[eh (by omega) (by omega)];omega
 have hS:=Ph (m:=m+m) (nn:=nn) (C:=List.replicate nn (nOf 0)) (most:=most) hvV (by omega) hn hlA hlB (by simp) hgA hgB (fun i hi=>by
  rw[bT (List.replicate nn (nOf 0)) i hi,List.getElem_replicate];exact of0.1) h0 h1
 have zK:=R6 (m:=m+m) (nn:=nn) (A:=fR A) (B:=fR B) (C:=List.replicate nn (nOf 0)) (most:=most) hlB h0 h1
 have heq:vn m nn A B most=vn m nn A B most:=rfl
 conv at heq=>rhs;unfold vn
 dsimp only at heq
 obtain⟨r,hr⟩:∃r,r=jR (m+m) nn (fR A) (fR B) (List.replicate nn (nOf 0)) most:=⟨_,rfl⟩
 rw[←hr] at hS zK heq
 clear hr
 refine rs hx fun K hK=>?_
 refine s1 (fQ (cs:=maC m nn A)) ?_
 refine a1 (F:=l5) tbI ?_
 iterate 2 refine sa ?_
 refine nl hK ?_
 refine AW.seq (rs hx fun K hK=>?_)
 refine p1 (Pt.all (F:=maC m nn A)) rfl ?_
 refine sa ?_
 refine q1 (sHC (HC.frz (ds:=[.ag (maC m nn A),.e (slE ax B)]) hv ⟨AR.same rfl,AR.same rfl,trivial⟩ rfl) rfl (.inr (Fr.refl _))) ?_
 iterate 2 refine sa ?_
 iterate 2 refine ga rfl ?_
 refine s1 (d:=dB (decide (most<0))) (mm rfl) ?_
 refine nl hK ?_
 refine AW.condF rfl (def_) (AW.skip ?_)
 obtain⟨base,mc⟩:∃base:List (Nat×List D),base=[(1,dC l5),(0,maC m nn A)]:=⟨_,rfl⟩
 have fT:base.lookup 1=some (dC l5):=by rw[mc];exact aa
 have Mo:base.lookup 0=some (maC m nn A):=by rw[mc];rfl
 have Pg:∀j ds,base.lookup j=some ds→j<2∧ds.all (D.idsC 2)=true:=fun j ds h=>by
  rw[mc] at h
  rcases cm h with⟨rfl,rfl⟩|⟨_,h⟩
  ·exact⟨by omega,rfl⟩
  ·rcases cm h with⟨rfl,rfl⟩|⟨_,h⟩
   ·exact⟨by omega,rfl⟩
   ·simp at h
 have M6:∀n,2≤n→cw ⟨base,[],n⟩:=fun n hn=>⟨fun j ds h=>⟨show j<n by have:=(Pg j ds h).1;omega,a7.2 fun d hd=>D.idsC_le hn (a7.1 (Pg j ds h).2 d hd)⟩,fun id e h=>by simp at h⟩
 have hokY:∀ky n,2≤n→ky<n→cw ⟨wy ky r.1++base,[],n⟩:=fun ky n hn hky=>by
  unfold wy
  split
  ·exact (M6 n hn).consM hky (eG _)
  ·exact M6 n hn
 have hY:∀ky j ds,2≤ky→base.lookup j=some ds→(wy ky r.1++base).lookup j=some ds:=fun ky j ds hky h=>by
  have:=(Pg j ds h).1
  unfold wy
  split
  ·exact al (by omega) h
  ·exact h
 have hSA:=Lb (vs:=base) (lv:=[]) (N:=2) hS
 have hSB:=Lb (vs:=(2,dC l5)::base) (lv:=[]) (N:=3) hS
 have hS2:(wy (3+(7+8*(m+m))) r.1++(2,dC l5)::base).lookup 2=some (dC l5):=by
  unfold wy
  split
  ·exact al (by omega) aa
  ·exact aa
 have fin1:∀{tm:List (Nat×D)} {vs2:List (Nat×List D)} {n2:Nat} (kx ky:Nat),kx<11+8*(m+m)→ky<11+8*(m+m)→11+8*(m+m)≤n2→(∀j ds,((kx,zS ky r.1)::(wy ky r.1++base)).lookup j=some ds→vs2.lookup j=some ds)→tm.lookup 3=some (.pt 0 0)→tm.lookup 6=some (.pt 1 0)→tm.lookup 9=some (.pt kx 0)→tm.lookup 10=some (dI .i64 r.2.1)→tm.lookup 11=some (dI .i64 r.2.2)→
   Wk cx tm ⟨vs2,[],n2⟩ [(3,.pt 0 0),(6,.pt 1 0),(9,.pt kx 0),(10,dI .i64 r.2.1),(11,dI .i64 r.2.2)] ⟨(kx,zS ky r.1)::(wy ky r.1++base),[],11+8*(m+m)⟩:=fun kx ky hkx hky Gg hl a b c d e=>
  wkS (by rw[wn];exact cy _) Gg ((hokY ky _ (by omega) hky).consM hkx (LG hky)) hl (bI.cons (bI.cons (bI.cons (bI.cons (bI.cons bI.nil e rfl) d rfl) c (aB hkx)) b (det_)) a (det_))
 rw[←mc]
 refine AW.joinE (α:=Nat×Nat) (fun a=>[(3,.pt 0 0),(6,.pt 1 0),(9,.pt a.1 0),(10,dI .i64 r.2.1),(11,dI .i64 r.2.2)]) (fun a=>⟨(a.1,zS a.2 r.1)::(wy a.2 r.1++base),[],11+8*(m+m)⟩) (fun a=>2≤a.1∧2≤a.2∧a.1≠a.2∧a.1<11+8*(m+m)∧a.2<11+8*(m+m)) ?_ ?_
 ·refine dw (DW.split 16 21 (by decide) ?_ ?_)
  ·refine dwg [74,75] [0,1,2,3,4,5,6,7,8,9,10,11,12,13,14,15,16,17,18,19,20,21,22,23,24] hx (by kernel_rfl) (by kernel_rfl) (by kernel_rfl) fun K hK=>?_
   dsimp only[ek,m7,nA,List.map]
   refine sa ?_
   refine c1 (se (t:=0) rfl) ?_
   refine sa ?_
   rw[hmm]
   refine sa ?_
   refine c1 (se (t:=1) rfl) ?_
   refine sa ?_
   refine c1 (se (t:=2) rfl) ?_
   refine cq (Ia (l:=A) hA1) ?_
   refine s1 (d:=.ag (maC ((m+m:Nat):Int) nn (fR A))) (da yH) ?_
   refine sa ?_
   refine cq (Ia (l:=B) T5) ?_
   refine sa ?_
   refine c1 (se (t:=1) rfl) ?_
   refine cq (J6 (n:=nn) (by omega)) ?_
   refine s1 (d:=.ag (prC ((m+m:Nat):Int) nn (fR A) (fR B) (List.replicate nn (nOf 0)))) (da rm) ?_
   refine sa ?_
   refine q1 (sHC hSA rfl (.inr (OC (by omega) (by omega)))) ?_
   refine sa ?_
   refine sa ?_
   refine sa ?_
   refine sa ?_
   refine a1 (F:=l5) tbI ?_
   refine v1 (F2:=zS (2+(7+8*(m+m))) r.1) (ys:=zS (2+(7+8*(m+m))) r.1) (Pt.all (F:=dC l5)) rfl rfl rfl ?_
   refine sa ?_
   refine sa ?_
   refine .nil (hK _ _ ⟨(2+(8+8*(m+m)),2+(7+8*(m+m))),⟨by omega,by omega,by omega,by omega,by omega⟩,?_⟩)
   refine fin1 _ _ (by omega) (by omega) (by omega) (fun j ds h=>?_) rfl rfl rfl rfl rfl
   rcases cm h with⟨rfl,rfl⟩|⟨hj,h⟩
   ·exact aa
   ·exact al hj (al hj h)
  ·refine dwg [74,75] [0,1,2,3,4,5,6,7,8,9,10,11,12,13,14,15,21,16,17,18,19,20,22,23,24] hx (by kernel_rfl) (by kernel_rfl) (by kernel_rfl) fun K hK=>?_
   dsimp only[ek,m7,nA,List.map]
   refine sa ?_
   refine c1 (se (t:=0) rfl) ?_
   refine sa ?_
   rw[hmm]
   refine sa ?_
   refine c1 (se (t:=1) rfl) ?_
   refine sa ?_
   refine c1 (se (t:=2) rfl) ?_
   refine cq (Ia (l:=A) hA1) ?_
   refine s1 (d:=.ag (maC ((m+m:Nat):Int) nn (fR A))) (da yH) ?_
   refine sa ?_
   refine cq (Ia (l:=B) T5) ?_
   refine sa ?_
   refine c1 (se (t:=1) rfl) ?_
   refine cq (J6 (n:=nn) (by omega)) ?_
   refine s1 (d:=.ag (prC ((m+m:Nat):Int) nn (fR A) (fR B) (List.replicate nn (nOf 0)))) (da rm) ?_
   refine sa ?_
   refine a1 (F:=l5) tbI ?_
   refine q1 (sHC hSB rfl (.inr (OC (by omega) (by omega)))) ?_
   refine sa ?_
   refine sa ?_
   refine sa ?_
   refine sa ?_
   refine v1 (F2:=zS (3+(7+8*(m+m))) r.1) (ys:=zS (3+(7+8*(m+m))) r.1) (Pt.all (F:=dC l5)) rfl rfl rfl ?_
   refine sa ?_
   refine sa ?_
   refine .nil (hK _ _ ⟨(2,3+(7+8*(m+m))),⟨by omega,by omega,by omega,by omega,by omega⟩,?_⟩)
   refine fin1 _ _ (by omega) (by omega) (by omega) (fun j ds h=>?_) rfl rfl rfl rfl rfl
   rcases cm h with⟨rfl,rfl⟩|⟨hj,h⟩
   ·exact aa
   ·exact al hj (solW_in hj h)
 ·rintro⟨kx,ky⟩ ⟨xX,ED,hxy,Ce,QA⟩
  dsimp only at xX ED hxy Ce QA ⊢
  have hokY1:=hokY ky _ (show 2≤11+8*(m+m) by omega) QA
  have hY0:=hY ky 0 _ ED Mo
  have hY1:=hY ky 1 _ ED fT
  have hKi:=LG (a:=r.1) QA
  refine AW.seq (rs hx fun K hK=>?_)
  iterate 3 refine sa ?_
  by_cases he:r.2.2≠0
  ·have iF:=heq.trans (ah (.inl he))
   have hKf:∃z,zS ky r.1=[dI .i64 r.1.kind,.e (slE ax r.1.x),z,.e (slE ax r.1.ray)]:=⟨_,rfl⟩
   obtain⟨z,hz⟩:=hKf
   rw[hz]
   iterate 3 refine gn (aB he) ?_
   refine s1 (d:=dB true) (pp (aB he)) ?_
   refine nl hK ?_
   refine AW.condT rfl rfl (rs hx fun K hK=>?_)
   refine sa ?_
   refine v1 (F2:=[dI .i64 r.1.kind,.e (slE ax r.1.x),dN,.e (slE ax r.1.ray)]) (ys:=[dN]) (Pt.cell (F:=[dI .i64 r.1.kind,.e (slE ax r.1.x),z,.e (slE ax r.1.ray)]) (t:=2) rfl) rfl rfl rfl ?_
   refine nl hK ?_
   refine rs hx fun K hK=>?_
   refine s2 (Dg (Pt.all (F:=[dI .i64 r.1.kind,.e (slE ax r.1.x),dN,.e (slE ax r.1.ray)])) aa (show kx<11+8*(m+m) by omega) ms rfl rfl rfl) (OX ⟨r.1.kind,r.1.x,[],r.1.ray⟩) ?_
   iterate 2 refine sa ?_
   refine v1 (F2:=sG ⟨r.1.kind,r.1.x,[],r.1.ray⟩) (ys:=sG ⟨r.1.kind,r.1.x,[],r.1.ray⟩) (Pt.all (F:=dC l5)) rfl rfl rfl ?_
   iterate 2 refine sa ?_
   refine nl hK ?_
   exact AW.ret (rtE wn iF aa (by omega))
  ·refine ga (bm he) ?_
   refine c1g (Pt.cell (t:=0) rfl) (bm he) ?_
   refine ga (bm he) ?_
   refine s1 (d:=dB (decide (r.1.kind≠2))) (mm (bm he)) ?_
   refine nl hK ?_
   refine AW.condS rfl (fun hb=>?_) (fun hb=>?_)
   ·have iF:=heq.trans (ah (.inr (bq hb)))
    have hKf:∃z,zS ky r.1=[dI .i64 r.1.kind,.e (slE ax r.1.x),z,.e (slE ax r.1.ray)]:=⟨_,rfl⟩
    obtain⟨z,hz⟩:=hKf
    rw[hz]
    refine rs hx fun K hK=>?_
    refine sa ?_
    refine v1 (F2:=[dI .i64 r.1.kind,.e (slE ax r.1.x),dN,.e (slE ax r.1.ray)]) (ys:=[dN]) (Pt.cell (F:=[dI .i64 r.1.kind,.e (slE ax r.1.x),z,.e (slE ax r.1.ray)]) (t:=2) rfl) rfl rfl rfl ?_
    refine nl hK ?_
    refine rs hx fun K hK=>?_
    refine s2 (Dg (Pt.all (F:=[dI .i64 r.1.kind,.e (slE ax r.1.x),dN,.e (slE ax r.1.ray)])) aa (show kx<11+8*(m+m) by omega) ms rfl rfl rfl) (OX ⟨r.1.kind,r.1.x,[],r.1.ray⟩) ?_
    iterate 2 refine sa ?_
    refine v1 (F2:=sG ⟨r.1.kind,r.1.x,[],r.1.ray⟩) (ys:=sG ⟨r.1.kind,r.1.x,[],r.1.ray⟩) (Pt.all (F:=dC l5)) rfl rfl rfl ?_
    iterate 2 refine sa ?_
    refine nl hK ?_
    exact AW.ret (rtE wn iF aa (by omega))
   ·have hk:r.1.kind=2:=Decidable.not_not.1 (dK hb)
    have iF:=heq.trans (ai (by rintro (h|h);exact he h;exact h hk))
    obtain⟨hyl2,Ga,hray0,_⟩:=zK hk
    refine AW.skip ?_
    obtain⟨y,Qy⟩:∃y,y=r.1.y:=⟨_,rfl⟩
    obtain⟨KC,hKC⟩:∃KC,KC=[dI .i64 2,.e (slE ax []),.gw ky 36 (m+m),.e (slE ax [])]:=⟨_,rfl⟩
    have hKe:zS ky r.1=KC:=by unfold zS;rw[ah hk,hk,Ga,hray0,hyl2,hKC]
    have hWe:wy ky r.1++base=(ky,dC ((cW ax).f y))::base:=by unfold wy;rw[ah hk,Qy];rfl
    have rA:KC[2]? =some (.gw ky 36 (m+m)):=by rw[hKC];rfl
    have hKl:KC.length=4:=by rw[hKC];rfl
    rw[hKe] at hKi
    rw[hKe,hWe]
    rw[hk,Ga,hray0,←Qy] at iF
    rw[←Qy] at hyl2
    have hokB:=M6 (11+8*(m+m)) (by omega)
    refine rs hx fun K hK=>?_
    refine sa ?_
    refine c1 (Pt.cell rA) ?_
    refine sa ?_
    refine c1 (se (t:=0) rfl) ?_
    refine sa ?_
    refine c1 (se (t:=0) rfl) ?_
    refine q1 (sliceG tok cg aQ rfl rfl rfl (by omega)) ?_
    refine sa ?_
    refine nl hK ?_
    refine AW.seq (rs hx fun K hK=>?_)
    refine sa ?_
    refine s1 (CH (k:=ky) (off:=0) (z:=36) cg aQ rfl rfl) ?_
    refine sa ?_
    refine nl hK ?_
    refine AW.block (AW.loopW (fun i:Nat=>[(3,.pt 0 0),(6,.pt 1 0),(9,.pt kx 0),(10,dI .i64 r.2.1),(11,dI .i64 r.2.2),(12,.ow ky 0 36 m),(63,dI .i64 m),(64,dI .i64 i)]) (fun i=>⟨(ky,dC ((cW ax).f (ylP y m i)))::(kx,KC)::base,[],11+8*(m+m)⟩) (fun i=>i≤m) (fun i=>m - i) 0 ?_ (cy _) ?_)
    ·exact wk1 wn
    ·intro i hi
     have hyi:(ylP y m i).length=m+m:=by rw[Ac];exact hyl2
     refine rs hx fun K hK=>?_
     refine sa ?_
     refine nl hK ?_
     refine AW.seq (AW.condS rfl (fun hb=>?_) (fun hb=>?_))
     ·have qv:i<m:=by have:=bq hb;omega
      refine AW.skip (AW.seq (AW.block (rs hx fun K hK=>?_)))
      iterate 2 refine sa ?_
      refine nl hK ?_
      refine rqd [76] hx fun K hK=>?_
      iterate 4 refine sa ?_
      refine i1 (i:=i) (n:=m) qv ?_
      refine l1 (Pt.el (ylP y m i) i (by omega)) ?_
      refine sa ?_
      refine c1 (Pt.cell rA) ?_
      refine sa ?_
      refine c1 (se (t:=0) rfl) ?_
      iterate 2 refine sa ?_
      rw[rx (by omega)]
      refine stG (d:=.pt ky ((m+i)*36)) tok (iaN (k:=ky) (i:=m+i) (n:=m+m) (by omega) rfl rfl) ?_
      refine l1 (Pt.el (ylP y m i) (m+i) (by omega)) ?_
      refine cq (w_Sub _ _) ?_
      refine i1 (i:=i) (n:=m) qv ?_
      refine t1 (Pt.el (ylP y m i) i (by omega)) (Pt.el_set (ylP y m i) i (by omega) _) ?_
      refine nl hK ?_
      rw[show (ylP y m i).set i (xa (ylP y m i)[i]! (ylP y m i)[m+i]!)=ylP y m (i+1) from rfl]
      refine rq hx fun K hK=>?_
      iterate 2 refine sa ?_
      refine nl hK ?_
      rw[b7]
      exact⟨i+1,wk1 wn,qv,by omega⟩
     ·refine AW.exit ?_
      have qv:m=i:=by have:=dK hb;omega
      subst qv
      obtain⟨ys,Qz⟩:∃ys,ys=(List.range m).map fun i=>xa y[i]! y[m+i]! :=⟨_,rfl⟩
      rw[←Qz] at iF
      have hysl:ys.length=m:=by rw[Qz];simp
      have Gb:E.sl 36 m (((cW ax).f (ylP y m m)).take (m*36))=slE ax ys:=by
       have h2:=kE ax.f ax.h (ylP y m m) m
       rw[ylP_all hyl2,←Qz] at h2
       show E.sl 36 m (((ylP y m m).flatMap ax.f).take (m*36))=E.sl 36 ys.length (ys.flatMap ax.f)
       rw[hysl,←h2]
       rfl
      have hfl:(((ky,dC ((cW ax).f (ylP y m m)))::(kx,KC)::base).filter fun p=>!([ky]:List Nat).contains p.1)=(kx,KC)::base:=by
       rw[mc]
       have a1:¬kx=ky:=hxy
       have a2:¬1=ky:=by omega
       have a3:¬0=ky:=by omega
       simp[a1,a2,a3]
      have hfz:=WkS.frz2 (tm:=[(65,dB (decide ((m:Int)<(m:Int)))),(3,.pt 0 0),(6,.pt 1 0),(9,.pt kx 0),(10,dI .i64 r.2.1),(11,dI .i64 r.2.2),(12,.ow ky 0 36 m),(63,dI .i64 m),(64,dI .i64 m)]) (vs:=(ky,dC ((cW ax).f (ylP y m m)))::(kx,KC)::base) (lv:=[]) (N:=11+8*(m+m)) (t:=12) (k:=ky) (z:=36) (n:=m) (F:=(cW ax).f (ylP y m m)) (by decide) rfl aa (by
       have:((cW ax).f (ylP y m m)).length=(ylP y m m).length*36:=iB ax.f ax.h _
       rw[this,hyi];omega)
      rw[hfl,Gb] at hfz
      refine AW.weak (tm':=(12,.e (slE ax ys))::[(65,dB (decide ((m:Int)<(m:Int)))),(3,.pt 0 0),(6,.pt 1 0),(9,.pt kx 0),(10,dI .i64 r.2.1),(11,dI .i64 r.2.2),(12,.ow ky 0 36 m),(63,dI .i64 m),(64,dI .i64 m)]) (hp':=⟨(kx,KC)::base,[],11+8*(m+m)⟩) (fun _ _ hr=>hfz.rs hr) (AW.seq (rs hx fun K hK=>?_))
      refine sa ?_
      refine cq (P7 (c:=ys) (by omega)) ?_
      refine sa ?_
      refine nl hK ?_
      refine AW.condS rfl (fun hb=>?_) (fun hb=>?_)
      ·have iF:=iF.trans (ai (by simpa using hb))
       refine rs hx fun K hK=>?_
       refine s2 (da tbI) IH ?_
       refine v1 (F2:=sG ⟨0,[],[],[]⟩) (ys:=sG ⟨0,[],[],[]⟩) (Pt.all (F:=dC l5)) rfl rfl rfl ?_
       iterate 2 refine sa ?_
       refine nl hK ?_
       exact AW.ret (rtE wn iF aa (by omega))
      ·have iF:=iF.trans (ah (by simpa using hb))
       refine AW.skip (rs hx fun K hK=>?_)
       iterate 2 refine sa ?_
       refine v1 (F2:=sG ⟨2,[],ys,[]⟩) (ys:=[.e (slE ax ys)]) (Pt.cell rA) rfl rfl (by rw[hKC];rfl) ?_
       refine nl hK ?_
       refine rs hx fun K hK=>?_
       refine p1 (Pt.all (F:=sG ⟨2,[],ys,[]⟩)) rfl ?_
       refine sa ?_
       refine v1 (F2:=sG ⟨2,[],ys,[]⟩) (ys:=sG ⟨2,[],ys,[]⟩) (Pt.all (F:=dC l5)) rfl rfl rfl ?_
       iterate 2 refine sa ?_
       refine nl hK ?_
       exact AW.ret (rtE wn iF aa (by omega))
end
end
section
structure VS(a:eZ)(b:List am)(m nn:Nat):Prop where
 hr:a.vR=m
 hc:a.vC=nn
 hm:m≤1000
 hn:nn≤2000
 oA:okL a.vV
 oB:okL b
 lA:a.vV.length=m*nn
 lB:b.length=m
 l1:a.vV.length≤1000000
 gA:∀i,i<(fR (a.vV.map oI)).length→au (fR (a.vV.map oI))[i]! =true
 gB:∀i,i<(fR (b.map oI)).length→au (fR (b.map oI))[i]! =true
 v:g7 ⟨⟨((m+m:Nat):Int),nn,(fR (a.vV.map oI)).map nv⟩,(fR (b.map oI)).map nv,(List.replicate nn (nOf 0)).map nv⟩=some true
open Classical in
def g9(aG:eZ)(aP:List am)(lq:Int):Option (ci×Int×Int):=
 bnd (f6 aG aP) fun v=>if v=true∧0≤lq then
  if VS aG aP aG.vR.toNat aG.vC.toNat∧lq≤9223372036854775807 then some (rG (vn aG.vR.toNat aG.vC.toNat (aG.vV.map oI) (aP.map oI) lq)) else none
 else some (rG (⟨0,[],[],[]⟩,0,1))
theorem VS.cells {a:eZ}{b:List am}{m nn:Nat}(h:VS a b m nn):dG mh a=.ag (maC m nn (a.vV.map oI))∧dL aj b=.e (slE ax (b.map oI)):=by
 unfold maC
 rw[lm,lm,ui h.oA,ui h.oB,←h.hr,←h.hc]
 exact⟨rfl,rfl⟩
theorem UM(R Cc:Int)(A B C:List Nu):dG eC ⟨⟨R,Cc,A.map nv⟩,B.map nv,C.map nv⟩=.ag (prC R Cc A B C):=by
 unfold prC
 rw[lm,lm,lm]
 rfl
theorem ar_eq(r:Ans×Int×Int):AR (eqH r) (eqD r) (.tu [dG jL (rG r).1,dI .i64 (rG r).2.1,dI .i64 (rG r).2.2]):=by
 have e:dG jL (rG r).1=.ag (sG r.1):=by
  unfold sG
  rw[lm,lm,lm];rfl
 rw[e]
 exact AR.tu ⟨AR.same rfl,AR.dn rfl,AR.dn rfl,trivial⟩
theorem T2 {cs:List D}{b:E}{v:Bool}{most:Int}(hlen:cs.length=3)(hpu:(D.ag cs).pure=true)(hv:ar prog 73 [.ag cs,.e b] (dB v))(hbad:¬(v=true∧0≤most)):
  HC prog 21 [.ag cs,.e b,dI .i64 most] ⟨[],[],0⟩ (eqD (⟨0,[],[],[]⟩,0,1)) (eqH (⟨0,[],[],[]⟩,0,1)):=by
 refine HC.of (rs:=[.cell 6 29,.tmp 7,.tmp 8]) tok func21 rfl rfl (bb rfl) rfl (fun cx hx wn hok=>?_)
 simp only[fP,Nat.reduceAdd,bw]
 refine rs hx fun K hK=>?_
 refine s1 (fQ (cs:=cs)) ?_
 refine a1 (F:=l5) tbI ?_
 iterate 2 refine sa ?_
 refine nl hK ?_
 refine AW.seq (rs hx fun K hK=>?_)
 refine p1 (ht:=yH) (Pt.all (F:=cs)) hlen ?_
 refine sa ?_
 refine q1 (sHC (HC.frz (ds:=[.ag cs,.e b]) hv ⟨AR.same hpu,AR.same rfl,trivial⟩ rfl) rfl (.inr (Fr.refl _))) ?_
 iterate 2 refine sa ?_
 cases v with
 |false=>
  iterate 2 refine gn rfl ?_
  refine s1 (d:=dB true) (pp rfl) ?_
  refine nl hK ?_
  refine AW.condT rfl rfl (rs hx fun K hK=>?_)
  refine s2 (da tbI) IH ?_
  refine v1 (F2:=sG ⟨0,[],[],[]⟩) (ys:=sG ⟨0,[],[],[]⟩) (Pt.all (F:=dC l5)) rfl rfl rfl ?_
  iterate 2 refine sa ?_
  refine nl hK ?_
  exact AW.ret (rtE wn rfl aa (by omega))
 |true=>
  iterate 2 refine ga rfl ?_
  refine s1 (d:=dB (decide (most<0))) (mm rfl) ?_
  refine nl hK ?_
  refine AW.condT rfl (aB (by simp only[true_and] at hbad;omega)) (rs hx fun K hK=>?_)
  refine s2 (da tbI) IH ?_
  refine v1 (F2:=sG ⟨0,[],[],[]⟩) (ys:=sG ⟨0,[],[],[]⟩) (Pt.all (F:=dC l5)) rfl rfl rfl ?_
  iterate 2 refine sa ?_
  refine nl hK ?_
  exact AW.ret (rtE wn rfl aa (by omega))
theorem nT {aG:eZ}{aP:List am}{lq:Int}{r:ci×Int×Int}(h:g9 aG aP lq=some r):ar prog 21 [dG mh aG,dL aj aP,dI .i64 lq] (.tu [dG jL r.1,dI .i64 r.2.1,dI .i64 r.2.2]):=by
 unfold g9 at h
 obtain⟨v,hv,h⟩:=ae h
 have hv:=rW hv
 by_cases hg:v=true∧0≤lq
 ·rw[ah hg] at h
  by_cases hq:VS aG aP aG.vR.toNat aG.vC.toNat∧lq≤9223372036854775807
  ·rw[ah hq] at h
   have h:=bD h
   subst h
   obtain⟨hq,K4⟩:=hq
   have hV:=qX hq.v
   rw[UM] at hV
   rw[hg.1] at hv
   rw[hq.cells.1,hq.cells.2] at hv ⊢
   have h2:=h_Equal (most:=lq) hv hV hq.hm hq.hn (by rw[bg];exact hq.lA) (by rw[bg];exact hq.lB) hq.gA hq.gB (by rw[bg];exact hq.l1) hg.2 K4
   exact HC.toP h2 (ar_eq _)
  ·rw[ai hq] at h;cases h
 ·rw[ai hg] at h
  have h:=bD h
  subst h
  have h2:=T2 (cs:=dC (mh.f aG)) (b:=slE aj aP) ((eH _).trans (mh.h aG)) (jS mh aG) hv hg
  exact HC.toP h2 (ar_eq _)
end
end
end Go.Proofs.YtaedcknhkjpmlaaGreat
