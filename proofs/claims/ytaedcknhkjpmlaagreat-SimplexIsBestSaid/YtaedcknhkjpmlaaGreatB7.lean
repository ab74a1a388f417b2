/-
  Lemmas, part 7. Conditions: none.
-/
import Derived.Test.YtaedcknhkjpmlaaGreatB6
set_option linter.all false
set_option maxRecDepth 100000
set_option maxHeartbeats 8000000
namespace Go.Proofs.YtaedcknhkjpmlaaGreat
open Go.RowKit Go.IntKind Tryz
noncomputable section
structure fE where
 vR:Int
 vC:Int
 vV:List am
 deriving Inhabited,DecidableEq
def mu:Cd fE:=⟨3,fun x=>[.lit (.int .i64 x.vR),.lit (.int .i64 x.vC),slE ak x.vV],fun _=>rfl⟩
structure aU where
 vA:fE
 vB:List am
 vC:List am
 deriving Inhabited,DecidableEq
def dJ:Cd aU:=⟨5,fun x=>mu.f x.vA++[slE ak x.vB,slE ak x.vC],fun x=>by simp[mu.h,show mu.sz=3 from rfl]⟩
structure ct where
 vKind:Int
 vX:List am
 vY:List am
 vRay:List am
 deriving Inhabited,DecidableEq
def jC:Cd ct:=⟨4,fun x=>[.lit (.int .i64 x.vKind),slE ak x.vX,slE ak x.vY,slE ak x.vRay],fun _=>rfl⟩
def fX(aI:fE)(jW:Int):Option Bool:=bnd (S:=Bool) (cnd (decide ((0:Int)≤aI.vR)) (cnd (decide ((0:Int)≤aI.vC)) (cnd (decide (aI.vR≤jW)) (cnd (decide (aI.vC≤(2000:Int))) (cnd (decide (((aI.vV).length:Int)=(i64.wrap (aI.vR*aI.vC)))) (bnd (cX aI.vV) fun x6=>some (x6)) (some (false))) (some (false))) (some (false))) (some (false))) (some (false))) fun bi=>some bi
theorem rE {aI:fE}{jW:Int}{r:Bool}(h:fX aI jW=some r):aq prog 61 [dG mu aI,dI .i64 jW] (dB r):=by
 refine bh (rs:=[.tmp 4]) (fun cx hx h0=>?_) func61
 unfold fX at h
 refine rs hx fun K hK=>?_
 refine s1 (d:=.pt 0 0) fQ ?_
 refine nbr hK ?_
 refine AW.seq ?_
 obtain⟨bi,hy,h⟩:=ae h
 refine jn ((PE cx .normal (fun bi=>[(4,dB bi)]) fun bi=>⟨[],[],0⟩) bi) ?_ ?_
 replace h:=hy
 refine rq hx fun K hK=>?_
 refine mbr ?_
 rcases aE h with⟨fJ,h⟩|⟨fJ,h⟩
 refine mbr ?_
 rcases aE h with⟨wI,h⟩|⟨wI,h⟩
 refine mbr ?_
 rcases aE h with⟨fG,h⟩|⟨fG,h⟩
 refine mbr ?_
 rcases aE h with⟨FV,h⟩|⟨FV,h⟩
 refine mbr ?_
 rcases aE h with⟨rX,h⟩|⟨rX,h⟩
 refine ga rX ?_
 refine gbr ?_
 refine gcb h fS fun x6 h=>?_
 refine nbr hK ?_
 exact pe1 h h0 []
 refine nbr hK ?_
 exact pe1 h h0 []
 refine nbr hK ?_
 exact pe1 h h0 []
 refine nbr hK ?_
 exact pe1 h h0 []
 refine nbr hK ?_
 exact pe1 h h0 []
 refine nbr hK ?_
 exact pe1 h h0 []
 refine lw0 ?_
 exact AW.ret (rtv h)
def gV(mX:aU):Option Bool:=bnd (S:=Bool) (bnd (fX mX.vA (2000:Int)) fun x1=>cnd x1 (cnd (decide (((mX.vB).length:Int)=mX.vA.vR)) (cnd (decide (((mX.vC).length:Int)=mX.vA.vC)) (bnd (cX mX.vB) fun x6=>cnd x6 (bnd (cX mX.vC) fun x9=>some (x9)) (some (false))) (some (false))) (some (false))) (some (false))) fun bi=>some bi
theorem qB {mX:aU}{r:Bool}(h:gV mX=some r):aq prog 15 [dG dJ mX] (dB r):=by
 refine bh (rs:=[.tmp 2]) (fun cx hx h0=>?_) func15
 unfold gV at h
 refine rs hx fun K hK=>?_
 refine s1 (d:=.pt 0 0) fQ ?_
 refine nbr hK ?_
 refine AW.seq ?_
 obtain⟨bi,hy,h⟩:=ae h
 refine jn ((PE cx .normal (fun bi=>[(2,dB bi)]) fun bi=>⟨[],[],0⟩) bi) ?_ ?_
 replace h:=hy
 refine rq hx fun K hK=>?_
 refine sa ?_
 refine s1 (d:=dG mu mX.vA) (T_ldA ye) ?_
 refine scb h rE fun x1 h=>?_
 refine sa ?_
 rcases aE h with⟨fG,h⟩|⟨fG,h⟩
 refine mbr ?_
 rcases aE h with⟨FV,h⟩|⟨FV,h⟩
 refine mbr ?_
 rcases aE h with⟨rX,h⟩|⟨rX,h⟩
 refine ga rX ?_
 refine gbr ?_
 refine gcb h fS fun x6 h=>?_
 refine mbr ?_
 rcases aE h with⟨ua,h⟩|⟨ua,h⟩
 refine ga ua ?_
 refine gbr ?_
 refine gcb h fS fun x9 h=>?_
 refine nbr hK ?_
 exact pe1 h h0 []
 refine nbr hK ?_
 exact pe1 h h0 []
 refine nbr hK ?_
 exact pe1 h h0 []
 refine nbr hK ?_
 exact pe1 h h0 []
 refine nbr hK ?_
 exact pe1 h h0 []
 refine lw0 ?_
 exact AW.ret (rtv h)
def g8(oe:List am)(aM:List am):Int×am→Option ((Int×am)⊕am):=fun (aV,ur)=>cnd (decide (aV<((oe).length:Int))) (gd (0≤aV∧aV<((oe).length:Int)) (gd (0≤aV∧aV<((aM).length:Int)) (bnd (im ((oe)[(aV).toNat]!) ((aM)[(aV).toNat]!)) fun sJ=>bnd (io ur sJ) fun qA=>some (.inl (i64.wrap (aV+(1:Int)),qA))))) (some (.inr ur))
def bU(oe:List am)(aM:List am):Option am:=cnd (decide (((oe).length:Int)≠((aM).length:Int))) (bnd (eU) fun x2=>some x2) (bnd (pG (0:Int)) fun x4=>bnd (bq (g8 oe aM) ((0:Int),x4)) fun jE=>some jE)
theorem dh {oe:List am}{aM:List am}{r:am}(h:bU oe aM=some r):aq prog 17 [dL ak oe,dL ak aM] (dG ak r):=by
 refine bh (rs:=[.cell 4 43]) (fun cx hx h0=>?_) func17
 unfold bU at h
 refine rar hx ?_
 refine AW.seq (ra hx ?_)
 refine cdh h rfl (fun fJ h=>?_) (fun fJ h=>?_)
 refine rs hx fun K hK=>?_
 refine scb h kK fun x2 h=>?_
 refine nbr hK ?_
 exact AW.ret (rtv h)
 refine AW.skip (rs hx fun K hK=>?_)
 refine scb h DC fun x4 h=>?_
 refine nbr hK ?_
 refine AW.seq (ra hx ?_)
 refine AW.block ?_
 obtain⟨jE,hy,h⟩:=ae h
 refine lp (S:=Int×am) (X:=am) (fun (aV,ur)=>[(0,dL ak oe),(1,dL ak aM),(4,.pt 0 0),(5,.pt 1 0),(15,dI .i64 ((oe).length:Int)),(16,dI .i64 aV)]) (fun (aV,ur)=>⟨[(0,dC (ak.f kz)),(1,dC (ak.f ur))],[],2⟩) (PE cx (.exit 0) (fun jE=>[(4,.pt 0 0),(5,.pt 1 0)]) fun jE=>⟨[(0,dC (ak.f kz)),(1,dC (ak.f jE))],[],2⟩) hy ?_ ?_ ?_
 exact wk0 h0 [0,1]
 clear hy h
 rintro⟨aV,ur⟩ y h
 dsimp only[g8] at h
 refine ra hx ?_
 refine AW.seq (cdh h rfl (fun qP h=>?_) (fun qP h=>?_))
 refine AW.skip (AW.seq (AW.block (ra hx ?_)))
 refine rqd [29,66] hx fun K hK=>?_
 iterate 3 refine sbr ?_
 obtain⟨hc7,h⟩:=ay h
 have Rb:(aV).toNat<(oe).length:=by omega
 refine sbr ?_
 refine s1 (d:=dG ak ((oe)[(aV).toNat]!)) (jF (c:=ak) (l:=oe) (n:=(aV).toNat) (o:=0) aR Rb (eY _ _ rfl)) ?_
 iterate 2 refine sa ?_
 obtain⟨hc9,h⟩:=ay h
 have Td:(aV).toNat<(aM).length:=by omega
 refine sbr ?_
 refine s1 (d:=dG ak ((aM)[(aV).toNat]!)) (jF (c:=ak) (l:=aM) (n:=(aV).toNat) (o:=0) aR Td (eY _ _ rfl)) ?_
 refine cqb h wx fun sJ h=>?_
 refine cqb h wy fun qA h=>?_
 refine nbr hK ?_
 refine rb hx ?_
 exact pel h h0 [0,1]
 exact AW.exit (per h h0 [0,1])
 refine lw0 ?_
 refine rar hx ?_
 exact AW.ret (rtv h)
def ff(aM:am):Option Bool:=bnd (S:=Bool) (bnd (aO aM) fun x1=>cnd (!x1) (some (true)) (bnd (jy aM) fun x4=>some (decide (x4<(0:Int))))) fun bi=>some bi
theorem uz {aM:am}{r:Bool}(h:ff aM=some r):aq prog 139 [dG ak aM] (dB r):=by
 refine bh (rs:=[.tmp 2]) (fun cx hx h0=>?_) func139
 unfold ff at h
 refine ra hx ?_
 refine AW.seq ?_
 obtain⟨bi,hy,h⟩:=ae h
 refine jn ((PE cx .normal (fun bi=>[(2,dB bi)]) fun bi=>⟨[],[],0⟩) bi) ?_ ?_
 replace h:=hy
 refine rq hx fun K hK=>?_
 refine mbr ?_
 refine scb h bJ fun x1 h=>?_
 refine mbr ?_
 rcases aE h with⟨fG,h⟩|⟨fG,h⟩
 refine nbr hK ?_
 exact pe1 h h0 []
 refine gbr ?_
 refine gcb h qW fun x4 h=>?_
 refine nbr hK ?_
 exact pe1 h h0 []
 refine lw0 ?_
 exact AW.ret (rtv h)
def aK(v7:List am):Int→Option (Int⊕(Int⊕Unit)):=fun aC=>cnd (decide (aC<((v7).length:Int))) (gd (0≤aC∧aC<((v7).length:Int)) (bnd (ff ((v7)[(aC).toNat]!)) fun x4=>cnd x4 (some (.inr (.inl aC))) (some (.inl (i64.wrap (aC+(1:Int))))))) (some (.inr (.inr ())))
def bg(v7:List am):Option Int:=bnd (bq (aK v7) (0:Int)) fun y7=>match y7 with| .inl r=>some r| .inr ()=>some (-1:Int)
theorem gG {v7:List am}{r:Int}(h:bg v7=some r):aq prog 106 [dL ak v7,.e (.lit (.func (.func 139) #[] #[]))] (dI .i64 r):=by
 refine bh (rs:=[.tmp 4]) (fun cx hx h0=>?_) func106
 unfold bg at h
 refine ra hx ?_
 refine AW.seq (ra hx ?_)
 refine AW.block ?_
 obtain⟨y,hy,h⟩:=ae h
 refine lp (S:=Int) (X:=Int⊕Unit) (fun aC=>[(0,dL ak v7),(1,.e (.lit (.func (.func 139) #[] #[]))),(7,dI .i64 ((v7).length:Int)),(8,dI .i64 aC)]) (fun aC=>⟨[],[],0⟩) (PS (PR [.tmp 4] fun r=>dI .i64 r) (PE cx (.exit 0) (fun ()=>[]) fun ()=>⟨[],[],0⟩)) hy ?_ ?_ ?_
 exact wk0 h0 []
 clear hy h
 rintro aC y h
 dsimp only[aK] at h
 refine ra hx ?_
 refine AW.seq (cdh h rfl (fun fJ h=>?_) (fun fJ h=>?_))
 refine AW.skip (AW.seq (AW.block (ra hx ?_)))
 refine rs hx fun K hK=>?_
 iterate 3 refine sa ?_
 obtain⟨q8,h⟩:=ay h
 have xT:(aC).toNat<(v7).length:=by omega
 refine sbr ?_
 refine s1 (d:=dG ak ((v7)[(aC).toNat]!)) (jF (c:=ak) (l:=v7) (n:=(aC).toNat) (o:=0) aR xT (eY _ _ rfl)) ?_
 refine scb h uz fun x4 h=>?_
 refine nl hK ?_
 refine cdh h rfl (fun qP h=>?_) (fun qP h=>?_)
 refine ra hx ?_
 refine AW.ret ?_
 cases h
 refine PS.r ⟨by nofun,PS.l (PR.i ?_)⟩
 exact rv1
 refine AW.skip (rb hx ?_)
 exact pel h h0 []
 exact AW.exit (peq h h0 [])
 rcases y with r|⟨⟩
 rintro ex tm' hp' ⟨rfl,hw⟩
 cases h
 exact hw
 refine lwr ?_
 refine ra hx ?_
 exact AW.ret (rtv h)
def aL(v7:List am):Option Bool:=bnd (bg v7) fun x1=>some (decide ((0:Int)≤x1))
theorem fR {v7:List am}{r:Bool}(h:aL v7=some r):aq prog 119 [dL ak v7,.e (.lit (.func (.func 139) #[] #[]))] (dB r):=by
 refine bh (rs:=[.tmp 4]) (fun cx hx h0=>?_) func119
 unfold aL at h
 refine ra hx ?_
 refine rs hx fun K hK=>?_
 refine mbr ?_
 refine scb h gG fun x1 h=>?_
 refine nbr hK ?_
 exact AW.ret (rtv h)
def eb(er:List am)(c0:Int):Option Bool:=bnd (S:=Bool) (cnd (decide (((er).length:Int)=c0)) (bnd (aL er) fun x2=>some (!x2)) (some (false))) fun bi=>some bi
theorem ma {er:List am}{c0:Int}{r:Bool}(h:eb er c0=some r):aq prog 80 [dL ak er,dI .i64 c0] (dB r):=by
 refine bh (rs:=[.tmp 4]) (fun cx hx h0=>?_) func80
 unfold eb at h
 refine ra hx ?_
 refine AW.seq ?_
 obtain⟨bi,hy,h⟩:=ae h
 refine jn ((PE cx .normal (fun bi=>[(4,dB bi)]) fun bi=>⟨[],[],0⟩) bi) ?_ ?_
 replace h:=hy
 refine rq hx fun K hK=>?_
 refine mbr ?_
 rcases aE h with⟨fJ,h⟩|⟨fJ,h⟩
 refine ga fJ ?_
 refine gcb h fR fun x2 h=>?_
 refine nbr hK ?_
 exact pe1 h h0 []
 refine nbr hK ?_
 exact pe1 h h0 []
 refine lw0 ?_
 exact AW.ret (rtv h)
def fW(aI:fE)(aQ:List am):Option Bool:=bnd (S:=Bool) (bnd (fX aI (1000:Int)) fun x1=>cnd x1 (cnd (decide (((aQ).length:Int)=aI.vR)) (bnd (cX aQ) fun x5=>some (x5)) (some (false))) (some (false))) fun bi=>some bi
theorem rD {aI:fE}{aQ:List am}{r:Bool}(h:fW aI aQ=some r):aq prog 73 [dG mu aI,dL ak aQ] (dB r):=by
 refine bh (rs:=[.tmp 4]) (fun cx hx h0=>?_) func73
 unfold fW at h
 refine rs hx fun K hK=>?_
 refine s1 (d:=.pt 0 0) fQ ?_
 refine nbr hK ?_
 refine AW.seq ?_
 obtain⟨bi,hy,h⟩:=ae h
 refine jn ((PE cx .normal (fun bi=>[(4,dB bi)]) fun bi=>⟨[],[],0⟩) bi) ?_ ?_
 replace h:=hy
 refine rq hx fun K hK=>?_
 refine s1 (d:=dG mu aI) (T_ldA ye) ?_
 refine scb h rE fun x1 h=>?_
 refine sa ?_
 rcases aE h with⟨fG,h⟩|⟨fG,h⟩
 refine mbr ?_
 rcases aE h with⟨FV,h⟩|⟨FV,h⟩
 refine ga FV ?_
 refine gcb h fS fun x5 h=>?_
 refine nbr hK ?_
 exact pe1 h h0 []
 refine nbr hK ?_
 exact pe1 h h0 []
 refine nbr hK ?_
 exact pe1 h h0 []
 refine lw0 ?_
 exact AW.ret (rtv h)
def ja(aI:fE)(DS:Int):Option (List am):=gd (0≤i64.wrap (DS*aI.vC)∧i64.wrap (DS*aI.vC)≤i64.wrap ((i64.wrap (DS+(1:Int)))*aI.vC)∧i64.wrap ((i64.wrap (DS+(1:Int)))*aI.vC)≤((aI.vV).length:Int)) (some (yR aI.vV (i64.wrap (DS*aI.vC)) (i64.wrap ((i64.wrap (DS+(1:Int)))*aI.vC))))
theorem vq {aI:fE}{DS:Int}{r:List am}(h:ja aI DS=some r):aq prog 82 [dG mu aI,dI .i64 DS] (dL ak r):=by
 refine bh (rs:=[.tmp 4]) (fun cx hx h0=>?_) func82
 unfold ja at h
 refine rs hx fun K hK=>?_
 refine s1 (d:=.pt 0 0) fQ ?_
 refine s1 (d:=dO 1 ak ([]:List am)) (gF b9 aR) ?_
 refine nl hK ?_
 refine rs hx fun K hK=>?_
 iterate 11 refine sbr ?_
 obtain⟨LW,h⟩:=ay h
 refine s1 (T_sl (c:=ak) (l:=aI.vV) (a:=i64.wrap (DS*aI.vC)) (b:=i64.wrap ((i64.wrap (DS+(1:Int)))*aI.vC)) LW b9 aR) ?_
 refine nbr hK ?_
 exact AW.ret (rtv h)
def pE(oe:Int):Option Bool:=some (decide (oe≤(0:Int)))
theorem A0 {oe:Int}{r:Bool}(h:pE oe=some r):aq prog 132 [dI .i64 oe] (dB r):=by
 refine bh (rs:=[.tmp 2]) (fun cx hx h0=>?_) func132
 unfold pE at h
 iterate 2 refine ra hx ?_
 exact AW.ret (rtv h)
def bz(aI:fE)(aM:List am)(cf:List am):Int→Option (Int⊕(Bool⊕Unit)):=fun aC=>cnd (decide (aC<((cf).length:Int))) (gd (0≤aC∧aC<((cf).length:Int)) (bnd (ja aI aC) fun x4=>bnd (bU x4 aM) fun x6=>bnd (S:=Bool) (bnd (aO x6) fun x8=>cnd (!x8) (some (true)) (bnd (fx x6 ((cf)[(aC).toNat]!)) fun sJ=>bnd (pE sJ) fun qA=>some (!qA))) fun mT=>cnd mT (some (.inr (.inl false))) (some (.inl (i64.wrap (aC+(1:Int))))))) (some (.inr (.inr ())))
def bc(aI:fE)(aM:List am)(cf:List am):Option Bool:=bnd (bq (bz aI aM cf) (0:Int)) fun y17=>match y17 with| .inl r=>some r| .inr ()=>some true
theorem jg {aI:fE}{aM:List am}{cf:List am}{r:Bool}(h:bc aI aM cf=some r):aq prog 81 [.e (.lit (.func (.func 82) #[] #[])),dG mu aI,dL ak aM,dL ak cf,.e (.lit (.func (.func 132) #[] #[]))] (dB r):=by
 refine bh (rs:=[.tmp 10]) (fun cx hx h0=>?_) func81
 unfold bc at h
 refine rs hx fun K hK=>?_
 refine s1 (d:=.pt 0 0) fQ ?_
 refine nbr hK ?_
 refine AW.seq (ra hx ?_)
 refine AW.block ?_
 obtain⟨y,hy,h⟩:=ae h
 refine lp (S:=Int) (X:=Bool⊕Unit) (fun aC=>[(0,.e (.lit (.func (.func 82) #[] #[]))),(2,dL ak aM),(4,.e (.lit (.func (.func 132) #[] #[]))),(6,.pt 0 0),(14,dL ak cf),(15,dI .i64 ((cf).length:Int)),(16,dI .i64 aC)]) (fun aC=>⟨[(0,[dI .i64 aI.vR,dI .i64 aI.vC,dL ak aI.vV])],[],1⟩) (PS (PR [.tmp 10] fun r=>dB r) (PE cx (.exit 0) (fun ()=>[]) fun ()=>⟨[],[],0⟩)) hy ?_ ?_ ?_
 exact wk0 h0 [0]
 clear hy h
 rintro aC y h
 dsimp only[bz] at h
 refine ra hx ?_
 refine AW.seq (cdh h rfl (fun fJ h=>?_) (fun fJ h=>?_))
 refine AW.skip (AW.seq (AW.block (rs hx fun K hK=>?_)))
 refine sa ?_
 obtain⟨q8,h⟩:=ay h
 have xT:(aC).toNat<(cf).length:=by omega
 refine sbr ?_
 refine s1 (d:=dG ak ((cf)[(aC).toNat]!)) (jF (c:=ak) (l:=cf) (n:=(aC).toNat) (o:=0) aR xT (eY _ _ rfl)) ?_
 refine nbr hK ?_
 refine rs hx fun K hK=>?_
 refine sa ?_
 refine s1 (d:=dG mu aI) (T_ldA ye) ?_
 refine sa ?_
 refine scb h vq fun x4 h=>?_
 refine sa ?_
 refine scb h dh fun x6 h=>?_
 refine nbr hK ?_
 refine AW.seq ?_
 obtain⟨mT,hy,h⟩:=ae h
 refine jn ((PE cx .normal (fun mT=>[(0,.e (.lit (.func (.func 82) #[] #[]))),(2,dL ak aM),(4,.e (.lit (.func (.func 132) #[] #[]))),(6,.pt 0 0),(14,dL ak cf),(15,dI .i64 ((cf).length:Int)),(16,dI .i64 aC),(37,dB mT)]) fun mT=>⟨[(0,[dI .i64 aI.vR,dI .i64 aI.vC,dL ak aI.vV])],[],1⟩) mT) ?_ ?_
 replace h:=hy
 refine rq hx fun K hK=>?_
 refine mbr ?_
 refine scb h bJ fun x8 h=>?_
 refine mbr ?_
 rcases aE h with⟨nK,h⟩|⟨nK,h⟩
 refine nbr hK ?_
 exact pe1 h h0 [0]
 refine ga nK ?_
 iterate 2 refine gbr ?_
 refine gcb h mb fun sJ h=>?_
 refine gcb h A0 fun qA h=>?_
 refine nbr hK ?_
 exact pe1 h h0 [0]
 refine lw0 ?_
 refine cdh h rfl (fun tD h=>?_) (fun tD h=>?_)
 refine ra hx ?_
 refine AW.ret ?_
 cases h
 refine PS.r ⟨by nofun,PS.l (PR.i ?_)⟩
 exact rv1
 refine AW.skip (rb hx ?_)
 exact pel h h0 [0]
 exact AW.exit (peq h h0 [])
 rcases y with r|⟨⟩
 rintro ex tm' hp' ⟨rfl,hw⟩
 cases h
 exact hw
 refine lwr ?_
 refine ra hx ?_
 exact AW.ret (rtv h)
def dQ(aM:List am)(aQ:List am)(oY:aU):Option Bool:=bnd (S:=Bool) (bnd (eb aM oY.vA.vC) fun x1=>cnd x1 (bnd (bc oY.vA aM aQ) fun x4=>some (x4)) (some (false))) fun bi=>some bi
theorem lL {aM:List am}{aQ:List am}{oY:aU}{r:Bool}(h:dQ aM aQ oY=some r):HC prog 131 [dL ak aM,dL ak aQ,.pt 0 0] ⟨[(0,[dI .i64 oY.vA.vR,dI .i64 oY.vA.vC,dL ak oY.vA.vV,dL ak oY.vB,dL ak oY.vC])],[],1⟩ (dB r) ⟨[(0,[dI .i64 oY.vA.vR,dI .i64 oY.vA.vC,dL ak oY.vA.vV,dL ak oY.vB,dL ak oY.vC])],[],1⟩:=by
 refine HC.of (rs:=[.tmp 5]) tok func131 rfl rfl (a9 rfl) rfl (fun cx hx h1 hok=>?_)
 have h0:cx.hp0.next=1:=by rw[h1]
 simp only[fC,Nat.reduceAdd,br]
 unfold dQ at h
 refine ra hx ?_
 refine AW.seq ?_
 obtain⟨bi,hy,h⟩:=ae h
 refine jn ((PE cx .normal (fun bi=>[(5,dB bi)]) fun bi=>⟨[(0,[dI .i64 oY.vA.vR,dI .i64 oY.vA.vC,dL ak oY.vA.vV,dL ak oY.vB,dL ak oY.vC])],[],1⟩) bi) ?_ ?_
 replace h:=hy
 refine rq hx fun K hK=>?_
 refine mbr ?_
 refine scb h ma fun x1 h=>?_
 refine sa ?_
 rcases aE h with⟨fG,h⟩|⟨fG,h⟩
 refine ga fG ?_
 refine g1 (d:=dG mu oY.vA) fG (T_ldA ye) ?_
 iterate 2 refine ga fG ?_
 refine gcb h jg fun x4 h=>?_
 refine nbr hK ?_
 cases h
 exact PE.i (wkN h0 [] (wR rfl wTn) (vR rfl wVn) wLn)
 refine nbr hK ?_
 cases h
 exact PE.i (wkN h0 [] (wR rfl wTn) (vR rfl wVn) wLn)
 refine lw0 ?_
 refine AW.ret ?_
 cases h
 exact rH1 (wkN h0 [] (wR rfl wTn) (vR rfl wVn) wLn)
def fK(aI:fE)(vz:Int):(List am)×Int→Option (((List am)×Int)⊕((List am))):=fun (aP,bp)=>cnd (decide (bp<aI.vR)) (gd (0≤i64.wrap ((i64.wrap (bp*aI.vC))+vz)∧i64.wrap ((i64.wrap (bp*aI.vC))+vz)<((aI.vV).length:Int)) (gd ((aP++[(aI.vV)[(i64.wrap ((i64.wrap (bp*aI.vC))+vz)).toNat]!]).length*136≤140737488355328) (some (.inl (aP++[(aI.vV)[(i64.wrap ((i64.wrap (bp*aI.vC))+vz)).toNat]!],i64.wrap (bp+(1:Int))))))) (some (.inr aP))
def iE(aI:fE)(vz:Int):Option (List am):=bnd (bq (fK aI vz) (([]:List am),(0:Int))) fun be=>some be
theorem yH {aI:fE}{vz:Int}{r:List am}(h:iE aI vz=some r):aq prog 84 [dG mu aI,dI .i64 vz] (.own 43 ak.sz r.length (r.flatMap ak.f)):=by
 refine bh (rs:=[.tmp 4]) (fun cx hx h0=>?_) func84
 unfold iE at h
 refine rs hx fun K hK=>?_
 refine s1 (d:=.pt 0 0) fQ ?_
 refine s1 (d:=dO 1 ak ([]:List am)) (gF b9 aR) ?_
 refine nl hK ?_
 refine rs hx fun K hK=>?_
 refine s1 (d:=dO 2 ak ([]:List am)) (gF b9 aR) ?_
 refine nl hK ?_
 refine AW.seq (rar hx ?_)
 refine AW.block ?_
 obtain⟨be,hy,h⟩:=ae h
 refine lp (S:=(List am)×Int) (X:=(List am)) (fun (aP,bp)=>[(1,dI .i64 vz),(2,.pt 0 0),(5,dO 1 ak aP),(8,dI .i64 aI.vR),(9,dI .i64 bp)]) (fun (aP,bp)=>⟨[(0,[dI .i64 aI.vR,dI .i64 aI.vC,dL ak aI.vV])],[(1,(aP).length,36,43)],2⟩) (PE cx (.exit 0) (fun be=>[(5,dO 0 ak be)]) fun be=>⟨[],[(0,(be).length,36,43)],1⟩) hy ?_ ?_ ?_
 exact wk0 h0 [0,2]
 clear hy h
 rintro⟨aP,bp⟩ y h
 dsimp only[fK] at h
 refine ra hx ?_
 refine AW.seq (cdh h rfl (fun fJ h=>?_) (fun fJ h=>?_))
 refine AW.skip (AW.seq (AW.block (ra hx ?_)))
 refine rq hx fun K hK=>?_
 iterate 9 refine sbr ?_
 obtain⟨q8,h⟩:=ay h
 have xT:(i64.wrap ((i64.wrap (bp*aI.vC))+vz)).toNat<(aI.vV).length:=by omega
 refine sbr ?_
 refine s1 (d:=dG ak ((aI.vV)[(i64.wrap ((i64.wrap (bp*aI.vC))+vz)).toNat]!)) (jF (c:=ak) (l:=aI.vV) (n:=(i64.wrap ((i64.wrap (bp*aI.vC))+vz)).toNat) (o:=0) aR xT (eY _ _ rfl)) ?_
 refine s1 (lj ([(aI.vV)[(i64.wrap ((i64.wrap (bp*aI.vC))+vz)).toNat]!]:List am) ak b9 aR) ?_
 obtain⟨OU,h⟩:=ay h
 refine s1 (d:=dO 1 ak (aP++[(aI.vV)[(i64.wrap ((i64.wrap (bp*aI.vC))+vz)).toNat]!])) (qN b9 aR OU) ?_
 refine nbr hK ?_
 refine rb hx ?_
 exact pel h h0 [0,1]
 exact AW.exit (per h h0 [1])
 refine lw0 ?_
 refine ra hx ?_
 refine AW.ret ?_
 cases h
 exact od.own rfl rfl
def oE(oe:Int):Option Bool:=some (decide ((0:Int)≤oe))
theorem zO {oe:Int}{r:Bool}(h:oE oe=some r):aq prog 85 [dI .i64 oe] (dB r):=by
 refine bh (rs:=[.tmp 2]) (fun cx hx h0=>?_) func85
 unfold oE at h
 iterate 2 refine ra hx ?_
 exact AW.ret (rtv h)
def bj(aI:fE)(aM:List am)(cf:List am):Int→Option (Int⊕(Bool⊕Unit)):=fun aC=>cnd (decide (aC<((cf).length:Int))) (gd (0≤aC∧aC<((cf).length:Int)) (bnd (iE aI aC) fun x4=>bnd (bU x4 aM) fun x6=>bnd (S:=Bool) (bnd (aO x6) fun x8=>cnd (!x8) (some (true)) (bnd (fx x6 ((cf)[(aC).toNat]!)) fun sJ=>bnd (oE sJ) fun qA=>some (!qA))) fun mT=>cnd mT (some (.inr (.inl false))) (some (.inl (i64.wrap (aC+(1:Int))))))) (some (.inr (.inr ())))
def aJ(aI:fE)(aM:List am)(cf:List am):Option Bool:=bnd (bq (bj aI aM cf) (0:Int)) fun y17=>match y17 with| .inl r=>some r| .inr ()=>some true
theorem dY {aI:fE}{aM:List am}{cf:List am}{r:Bool}(h:aJ aI aM cf=some r):aq prog 81 [.e (.lit (.func (.func 84) #[] #[])),dG mu aI,dL ak aM,dL ak cf,.e (.lit (.func (.func 85) #[] #[]))] (dB r):=by
 refine bh (rs:=[.tmp 10]) (fun cx hx h0=>?_) func81
 unfold aJ at h
 refine rs hx fun K hK=>?_
 refine s1 (d:=.pt 0 0) fQ ?_
 refine nbr hK ?_
 refine AW.seq (ra hx ?_)
 refine AW.block ?_
 obtain⟨y,hy,h⟩:=ae h
 refine lp (S:=Int) (X:=Bool⊕Unit) (fun aC=>[(0,.e (.lit (.func (.func 84) #[] #[]))),(2,dL ak aM),(4,.e (.lit (.func (.func 85) #[] #[]))),(6,.pt 0 0),(14,dL ak cf),(15,dI .i64 ((cf).length:Int)),(16,dI .i64 aC)]) (fun aC=>⟨[(0,[dI .i64 aI.vR,dI .i64 aI.vC,dL ak aI.vV])],[],1⟩) (PS (PR [.tmp 10] fun r=>dB r) (PE cx (.exit 0) (fun ()=>[]) fun ()=>⟨[],[],0⟩)) hy ?_ ?_ ?_
 exact wk0 h0 [0]
 clear hy h
 rintro aC y h
 dsimp only[bj] at h
 refine ra hx ?_
 refine AW.seq (cdh h rfl (fun fJ h=>?_) (fun fJ h=>?_))
 refine AW.skip (AW.seq (AW.block (rs hx fun K hK=>?_)))
 refine sa ?_
 obtain⟨q8,h⟩:=ay h
 have xT:(aC).toNat<(cf).length:=by omega
 refine sbr ?_
 refine s1 (d:=dG ak ((cf)[(aC).toNat]!)) (jF (c:=ak) (l:=cf) (n:=(aC).toNat) (o:=0) aR xT (eY _ _ rfl)) ?_
 refine nbr hK ?_
 refine rs hx fun K hK=>?_
 refine sa ?_
 refine s1 (d:=dG mu aI) (T_ldA ye) ?_
 refine sa ?_
 obtain⟨x4,Qf,h⟩:=ae h
 refine s1 (iN rfl (yH Qf) (by simp only[iW,l8,f5,ic,eI,b8];exact⟨cm _ _,rfl⟩) (lA (au _) (lA (au _) lAn))) ?_
 refine sa ?_
 refine scb h dh fun x6 h=>?_
 refine nbr hK ?_
 refine AW.seq ?_
 obtain⟨mT,hy,h⟩:=ae h
 refine jn ((PE cx .normal (fun mT=>[(0,.e (.lit (.func (.func 84) #[] #[]))),(2,dL ak aM),(4,.e (.lit (.func (.func 85) #[] #[]))),(6,.pt 0 0),(14,dL ak cf),(15,dI .i64 ((cf).length:Int)),(16,dI .i64 aC),(37,dB mT)]) fun mT=>⟨[(0,[dI .i64 aI.vR,dI .i64 aI.vC,dL ak aI.vV])],[],1⟩) mT) ?_ ?_
 replace h:=hy
 refine rq hx fun K hK=>?_
 refine mbr ?_
 refine scb h bJ fun x8 h=>?_
 refine mbr ?_
 rcases aE h with⟨nK,h⟩|⟨nK,h⟩
 refine nbr hK ?_
 exact pe1 h h0 [0]
 refine ga nK ?_
 iterate 2 refine gbr ?_
 refine gcb h mb fun sJ h=>?_
 refine gcb h zO fun qA h=>?_
 refine nbr hK ?_
 exact pe1 h h0 [0]
 refine lw0 ?_
 refine cdh h rfl (fun tD h=>?_) (fun tD h=>?_)
 refine ra hx ?_
 refine AW.ret ?_
 cases h
 refine PS.r ⟨by nofun,PS.l (PR.i ?_)⟩
 exact rv1
 refine AW.skip (rb hx ?_)
 exact pel h h0 [0]
 exact AW.exit (peq h h0 [])
 rcases y with r|⟨⟩
 rintro ex tm' hp' ⟨rfl,hw⟩
 cases h
 exact hw
 refine lwr ?_
 refine ra hx ?_
 exact AW.ret (rtv h)
def eF(oe:List am)(oY:ct)(p_v1:aU):Option Bool:=bnd (S:=Bool) (bnd (eb oY.vY p_v1.vA.vR) fun x1=>cnd x1 (bnd (aJ p_v1.vA oY.vY oe) fun x4=>some (x4)) (some (false))) fun bi=>some bi
theorem o4 {oe:List am}{oY:ct}{p_v1:aU}{r:Bool}(h:eF oe oY p_v1=some r):HC prog 133 [dL ak oe,.pt 0 0,.pt 1 0] ⟨[(0,[dI .i64 oY.vKind,dL ak oY.vX,dL ak oY.vY,dL ak oY.vRay]),(1,[dI .i64 p_v1.vA.vR,dI .i64 p_v1.vA.vC,dL ak p_v1.vA.vV,dL ak p_v1.vB,dL ak p_v1.vC])],[],2⟩ (dB r) ⟨[(0,[dI .i64 oY.vKind,dL ak oY.vX,dL ak oY.vY,dL ak oY.vRay]),(1,[dI .i64 p_v1.vA.vR,dI .i64 p_v1.vA.vC,dL ak p_v1.vA.vV,dL ak p_v1.vB,dL ak p_v1.vC])],[],2⟩:=by
 refine HC.of (rs:=[.tmp 4]) tok func133 rfl rfl (a9 rfl) rfl (fun cx hx h1 hok=>?_)
 have h0:cx.hp0.next=2:=by rw[h1]
 simp only[fC,Nat.reduceAdd,br]
 unfold eF at h
 refine ra hx ?_
 refine AW.seq ?_
 obtain⟨bi,hy,h⟩:=ae h
 refine jn ((PE cx .normal (fun bi=>[(4,dB bi)]) fun bi=>⟨[(0,[dI .i64 oY.vKind,dL ak oY.vX,dL ak oY.vY,dL ak oY.vRay]),(1,[dI .i64 p_v1.vA.vR,dI .i64 p_v1.vA.vC,dL ak p_v1.vA.vV,dL ak p_v1.vB,dL ak p_v1.vC])],[],2⟩) bi) ?_ ?_
 replace h:=hy
 refine rq hx fun K hK=>?_
 refine mbr ?_
 refine scb h ma fun x1 h=>?_
 refine sa ?_
 rcases aE h with⟨fG,h⟩|⟨fG,h⟩
 refine ga fG ?_
 refine g1 (d:=dG mu p_v1.vA) fG (T_ldA ye) ?_
 refine ga fG ?_
 refine gbr ?_
 refine ga fG ?_
 refine gcb h dY fun x4 h=>?_
 refine nbr hK ?_
 cases h
 exact PE.i (wkN h0 [] (wR rfl wTn) (vR rfl (vR rfl wVn)) wLn)
 refine nbr hK ?_
 cases h
 exact PE.i (wkN h0 [] (wR rfl wTn) (vR rfl (vR rfl wVn)) wLn)
 refine lw0 ?_
 refine AW.ret ?_
 cases h
 exact rH1 (wkN h0 [] (wR rfl wTn) (vR rfl (vR rfl wVn)) wLn)
def fV(aM:am)(If:Int):Option Bool:=bnd (S:=Bool) (bnd (aO aM) fun x1=>cnd x1 (bnd (jy aM) fun x4=>some (decide (x4=If))) (some (false))) fun bi=>some bi
theorem ph {aM:am}{If:Int}{r:Bool}(h:fV aM If=some r):aq prog 86 [dG ak aM,dI .i64 If] (dB r):=by
 refine bh (rs:=[.tmp 4]) (fun cx hx h0=>?_) func86
 unfold fV at h
 refine ra hx ?_
 refine AW.seq ?_
 obtain⟨bi,hy,h⟩:=ae h
 refine jn ((PE cx .normal (fun bi=>[(4,dB bi)]) fun bi=>⟨[],[],0⟩) bi) ?_ ?_
 replace h:=hy
 refine rq hx fun K hK=>?_
 refine mbr ?_
 refine scb h bJ fun x1 h=>?_
 refine sa ?_
 rcases aE h with⟨fG,h⟩|⟨fG,h⟩
 refine gbr ?_
 refine gcb h qW fun x4 h=>?_
 refine nbr hK ?_
 exact pe1 h h0 []
 refine nbr hK ?_
 exact pe1 h h0 []
 refine lw0 ?_
 exact AW.ret (rtv h)
def jt(mX:aU)(aI:ct):Option Bool:=cnd (decide (aI.vKind=(1:Int))) (bnd (S:=Bool) (cnd (decide ((0:Int)<((aI.vRay).length:Int))) (some (true)) (bnd (dQ aI.vX mX.vB mX) fun x3=>cnd (!x3) (some (true)) (bnd (eF mX.vC (⟨aI.vKind,aI.vX,aI.vY,aI.vRay⟩:ct) mX) fun x6=>some (!x6)))) fun ut=>cnd ut (some false) (bnd (bU mX.vC aI.vX) fun n7=>bnd (S:=Bool) (bnd (aO n7) fun nC=>cnd nC (bnd (bU aI.vY mX.vB) fun JM=>some (decide (n7=JM))) (some (false))) fun kF=>some kF)) (cnd (decide (aI.vKind=(2:Int))) (bnd (S:=Bool) (cnd (decide ((i64.wrap (((aI.vX).length:Int)+((aI.vRay).length:Int)))=(0:Int))) (bnd (fm mX.vA.vC) fun C7=>bnd (eF C7 (⟨aI.vKind,aI.vX,aI.vY,aI.vRay⟩:ct) mX) fun CR=>cnd CR (bnd (bU aI.vY mX.vB) fun JE=>bnd (fV JE (-1:Int)) fun AV=>some (AV)) (some (false))) (some (false))) fun HB=>some HB) (cnd (decide (aI.vKind=(3:Int))) (bnd (S:=Bool) (cnd (decide (((aI.vY).length:Int)=(0:Int))) (bnd (dQ aI.vX mX.vB mX) fun x32=>cnd x32 (bnd (fm mX.vA.vR) fun zH=>bnd (dQ aI.vRay zH mX) fun GN=>cnd GN (bnd (bU mX.vC aI.vRay) fun x40=>bnd (fV x40 (1:Int)) fun x42=>some (x42)) (some (false))) (some (false))) (some (false))) fun Hz=>some Hz) (some false)))
theorem zL {mX:aU}{aI:ct}{r:Bool}(h:jt mX aI=some r):aq prog 71 [dG dJ mX,dG jC aI] (dB r):=by
 refine bh (rs:=[.tmp 4]) (fun cx hx h0=>?_) func71
 unfold jt at h
 refine rs hx fun K hK=>?_
 refine s1 (d:=.pt 0 0) fQ ?_
 refine s1 (d:=.pt 1 0) fQ ?_
 refine nbr hK ?_
 refine rs hx fun K hK=>?_
 refine s1 Fm ?_
 refine nbr hK ?_
 refine rs hx fun K hK=>?_
 refine s1 Fm ?_
 refine nbr hK ?_
 refine AW.seq (rar hx ?_)
 refine AW.block (ra hx ?_)
 refine cdh h rfl (fun fJ h=>?_) (fun fJ h=>?_)
 iterate 2 refine AW.seq ?_
 obtain⟨ut,hy,h⟩:=ae h
 refine jn ((PE cx .normal (fun ut=>[(2,.pt 0 0),(3,.pt 1 0),(33,dB ut)]) fun ut=>⟨[(0,[dI .i64 mX.vA.vR,dI .i64 mX.vA.vC,dL ak mX.vA.vV,dL ak mX.vB,dL ak mX.vC]),(1,[dI .i64 aI.vKind,dL ak aI.vX,dL ak aI.vY,dL ak aI.vRay])],[],2⟩) ut) ?_ ?_
 replace h:=hy
 refine rq hx fun K hK=>?_
 refine mbr ?_
 rcases aE h with⟨wI,h⟩|⟨wI,h⟩
 refine nbr hK ?_
 exact pe1 h h0 [0,1]
 iterate 2 refine ga wI ?_
 refine gbr ?_
 refine ga wI ?_
 refine gbr ?_
 obtain⟨x3,SK,h⟩:=ae h
 refine g1 wI (xl [0] rfl (lL SK) (fA (au _) (fA (au _) (fA (au _) fAn))) (vR rfl wVn) wLn) ?_
 refine mbr ?_
 rcases aE h with⟨rX,h⟩|⟨rX,h⟩
 refine nbr hK ?_
 exact pe1 h h0 [0,1]
 iterate 2 refine ga rX ?_
 refine gbr ?_
 obtain⟨x6,v8,h⟩:=ae h
 refine g1 rX (xl [1,0] rfl (o4 v8) (fA (au _) (fA (au _) (fA (au _) fAn))) (vR rfl (vR rfl wVn)) wLn) ?_
 refine nbr hK ?_
 exact pe1 h h0 [0,1]
 refine lw0 ?_
 refine cdh h rfl (fun KN h=>?_) (fun KN h=>?_)
 refine ra hx ?_
 exact AW.ret (rtv h)
 refine AW.skip (rs hx fun K hK=>?_)
 refine mbr ?_
 refine scb h dh fun n7 h=>?_
 refine nbr hK ?_
 refine AW.seq ?_
 obtain⟨kF,hy,h⟩:=ae h
 refine jn ((PE cx .normal (fun kF=>[(4,dB kF)]) fun kF=>⟨[],[],0⟩) kF) ?_ ?_
 replace h:=hy
 refine rqd [92,17] hx fun K hK=>?_
 refine mbr ?_
 refine cqb h bJ fun nC h=>?_
 refine sa ?_
 rcases aE h with⟨uO,h⟩|⟨uO,h⟩
 refine gbr ?_
 refine ga uO ?_
 refine gbr ?_
 refine ga uO ?_
 refine gbr ?_
 obtain⟨JM,hx16,h⟩:=ae h
 refine sqg tok rfl rfl uO (dh hx16) rfl (lA (au _) (lA (au _) lAn)) (.inl (jJ _ _)) ?_
 refine g1 uO (Fo tok 4 (by decide) Hm aR) ?_
 refine nbr hK ?_
 exact pe1 h h0 []
 refine nbr hK ?_
 exact pe1 h h0 []
 refine lw0 ?_
 exact AW.ret (rtv h)
 refine ra hx ?_
 refine cdh h rfl (fun MW h=>?_) (fun MW h=>?_)
 refine AW.seq ?_
 obtain⟨HB,hy,h⟩:=ae h
 refine jn ((PE cx .normal (fun HB=>[(4,dB HB)]) fun HB=>⟨[],[],0⟩) HB) ?_ ?_
 replace h:=hy
 refine rq hx fun K hK=>?_
 refine mbr ?_
 rcases aE h with⟨MV,h⟩|⟨MV,h⟩
 iterate 3 refine ga MV ?_
 refine gbr ?_
 refine gcb h nD fun C7 h=>?_
 obtain⟨CR,MG,h⟩:=ae h
 refine g1 MV (xl [1,0] rfl (o4 MG) (fA (au _) (fA (au _) (fA (au _) fAn))) (vR rfl (vR rfl wVn)) wLn) ?_
 refine mbr ?_
 rcases aE h with⟨Tz,h⟩|⟨Tz,h⟩
 refine ga Tz ?_
 refine gbr ?_
 refine ga Tz ?_
 refine gbr ?_
 refine gcb h dh fun JE h=>?_
 refine gcb h ph fun AV h=>?_
 refine nbr hK ?_
 exact pe1 h h0 []
 refine nbr hK ?_
 exact pe1 h h0 []
 refine nbr hK ?_
 exact pe1 h h0 []
 refine lw0 ?_
 exact AW.ret (rtv h)
 refine ra hx ?_
 refine cdh h rfl (fun Tw h=>?_) (fun Tw h=>?_)
 refine AW.seq ?_
 obtain⟨Hz,hy,h⟩:=ae h
 refine jn ((PE cx .normal (fun Hz=>[(4,dB Hz)]) fun Hz=>⟨[],[],0⟩) Hz) ?_ ?_
 replace h:=hy
 refine rqd [75,17,86] hx fun K hK=>?_
 refine mbr ?_
 rcases aE h with⟨Qs,h⟩|⟨Qs,h⟩
 iterate 2 refine ga Qs ?_
 refine gbr ?_
 refine ga Qs ?_
 refine gbr ?_
 obtain⟨x32,hx33,h⟩:=ae h
 refine g1 Qs (xl [0] rfl (lL hx33) (fA (au _) (fA (au _) (fA (au _) fAn))) (vR rfl wVn) wLn) ?_
 refine mbr ?_
 rcases aE h with⟨Tv,h⟩|⟨Tv,h⟩
 iterate 2 refine ga Tv ?_
 refine gbr ?_
 iterate 2 refine ga Tv ?_
 refine gbr ?_
 obtain⟨zH,hx36,h⟩:=ae h
 refine sqg tok rfl rfl Tv (nD hx36) rfl (lA (au _) lAn) (.inl rfl) ?_
 obtain⟨GN,hx38,h⟩:=ae h
 refine g1 Tv (xl [0] rfl (lL hx38) (fA (au _) (fA (au _) (fA (au _) fAn))) (vR rfl wVn) wLn) ?_
 refine mbr ?_
 rcases aE h with⟨Tu,h⟩|⟨Tu,h⟩
 refine ga Tu ?_
 refine gbr ?_
 refine ga Tu ?_
 refine gbr ?_
 obtain⟨x40,hx41,h⟩:=ae h
 refine sqg tok rfl rfl Tu (dh hx41) rfl (lA (au _) (lA (au _) lAn)) (.inl (jJ _ _)) ?_
 obtain⟨x42,hx43,h⟩:=ae h
 refine sqg tok rfl rfl Tu (ph hx43) (by simp only[iW,l8,f5,ic,eI,b8];exact⟨cm _ _,rfl⟩) (lA (nJ _ _) (lA (au _) lAn)) (.inl rfl) ?_
 refine nbr hK ?_
 exact pe1 h h0 []
 refine nbr hK ?_
 exact pe1 h h0 []
 refine nbr hK ?_
 exact pe1 h h0 []
 refine nbr hK ?_
 exact pe1 h h0 []
 refine lw0 ?_
 exact AW.ret (rtv h)
 refine AW.skip (ra hx ?_)
 exact AW.ret (rtv h)
def jb(mX:aU)(aI:ct):Option Int:=bnd (gV mX) fun x1=>cnd (!x1) (some (1:Int)) (bnd (jt mX aI) fun x4=>cnd (!x4) (some (250:Int)) (some (0:Int)))
theorem vt {mX:aU}{aI:ct}{r:Int}(h:jb mX aI=some r):aq prog 19 [dG dJ mX,dG jC aI] (dI .i64 r):=by
 refine bh (rs:=[.tmp 4]) (fun cx hx h0=>?_) func19
 unfold jb at h
 refine rs hx fun K hK=>?_
 refine s1 (d:=.pt 0 0) fQ ?_
 refine s1 (d:=.pt 1 0) fQ ?_
 refine nbr hK ?_
 refine AW.seq (AW.block (rs hx fun K hK=>?_))
 refine s1 (d:=dG dJ mX) (T_ldA rJ) ?_
 refine scb h qB fun x1 h=>?_
 refine nbr hK ?_
 refine cdh h rfl (fun fG h=>?_) (fun fG h=>?_)
 refine ra hx ?_
 exact AW.ret (rtv h)
 refine rs hx fun K hK=>?_
 refine s1 (d:=dG dJ mX) (T_ldA rJ) ?_
 refine s1 (d:=dG jC aI) (T_ldA o5) ?_
 refine scb h zL fun x4 h=>?_
 refine nbr hK ?_
 refine cdh h rfl (fun qP h=>?_) (fun qP h=>?_)
 refine ra hx ?_
 exact AW.ret (rtv h)
 refine AW.skip (ra hx ?_)
 exact AW.ret (rtv h)
def oD(oe:Int):Option Bool:=some (decide (oe=(0:Int)))
theorem zM {oe:Int}{r:Bool}(h:oD oe=some r):aq prog 83 [dI .i64 oe] (dB r):=by
 refine bh (rs:=[.tmp 2]) (fun cx hx h0=>?_) func83
 unfold oD at h
 iterate 2 refine ra hx ?_
 exact AW.ret (rtv h)
def bu(aI:fE)(aM:List am)(cf:List am):Int→Option (Int⊕(Bool⊕Unit)):=fun aC=>cnd (decide (aC<((cf).length:Int))) (gd (0≤aC∧aC<((cf).length:Int)) (bnd (ja aI aC) fun x4=>bnd (bU x4 aM) fun x6=>bnd (S:=Bool) (bnd (aO x6) fun x8=>cnd (!x8) (some (true)) (bnd (fx x6 ((cf)[(aC).toNat]!)) fun sJ=>bnd (oD sJ) fun qA=>some (!qA))) fun mT=>cnd mT (some (.inr (.inl false))) (some (.inl (i64.wrap (aC+(1:Int))))))) (some (.inr (.inr ())))
def a7(aI:fE)(aM:List am)(cf:List am):Option Bool:=bnd (bq (bu aI aM cf) (0:Int)) fun y17=>match y17 with| .inl r=>some r| .inr ()=>some true
theorem iR {aI:fE}{aM:List am}{cf:List am}{r:Bool}(h:a7 aI aM cf=some r):aq prog 81 [.e (.lit (.func (.func 82) #[] #[])),dG mu aI,dL ak aM,dL ak cf,.e (.lit (.func (.func 83) #[] #[]))] (dB r):=by
 refine bh (rs:=[.tmp 10]) (fun cx hx h0=>?_) func81
 unfold a7 at h
 refine rs hx fun K hK=>?_
 refine s1 (d:=.pt 0 0) fQ ?_
 refine nbr hK ?_
 refine AW.seq (ra hx ?_)
 refine AW.block ?_
 obtain⟨y,hy,h⟩:=ae h
 refine lp (S:=Int) (X:=Bool⊕Unit) (fun aC=>[(0,.e (.lit (.func (.func 82) #[] #[]))),(2,dL ak aM),(4,.e (.lit (.func (.func 83) #[] #[]))),(6,.pt 0 0),(14,dL ak cf),(15,dI .i64 ((cf).length:Int)),(16,dI .i64 aC)]) (fun aC=>⟨[(0,[dI .i64 aI.vR,dI .i64 aI.vC,dL ak aI.vV])],[],1⟩) (PS (PR [.tmp 10] fun r=>dB r) (PE cx (.exit 0) (fun ()=>[]) fun ()=>⟨[],[],0⟩)) hy ?_ ?_ ?_
 exact wk0 h0 [0]
 clear hy h
 rintro aC y h
 dsimp only[bu] at h
 refine ra hx ?_
 refine AW.seq (cdh h rfl (fun fJ h=>?_) (fun fJ h=>?_))
 refine AW.skip (AW.seq (AW.block (rs hx fun K hK=>?_)))
 refine sa ?_
 obtain⟨q8,h⟩:=ay h
 have xT:(aC).toNat<(cf).length:=by omega
 refine sbr ?_
 refine s1 (d:=dG ak ((cf)[(aC).toNat]!)) (jF (c:=ak) (l:=cf) (n:=(aC).toNat) (o:=0) aR xT (eY _ _ rfl)) ?_
 refine nbr hK ?_
 refine rs hx fun K hK=>?_
 refine sa ?_
 refine s1 (d:=dG mu aI) (T_ldA ye) ?_
 refine sa ?_
 refine scb h vq fun x4 h=>?_
 refine sa ?_
 refine scb h dh fun x6 h=>?_
 refine nbr hK ?_
 refine AW.seq ?_
 obtain⟨mT,hy,h⟩:=ae h
 refine jn ((PE cx .normal (fun mT=>[(0,.e (.lit (.func (.func 82) #[] #[]))),(2,dL ak aM),(4,.e (.lit (.func (.func 83) #[] #[]))),(6,.pt 0 0),(14,dL ak cf),(15,dI .i64 ((cf).length:Int)),(16,dI .i64 aC),(37,dB mT)]) fun mT=>⟨[(0,[dI .i64 aI.vR,dI .i64 aI.vC,dL ak aI.vV])],[],1⟩) mT) ?_ ?_
 replace h:=hy
 refine rq hx fun K hK=>?_
 refine mbr ?_
 refine scb h bJ fun x8 h=>?_
 refine mbr ?_
 rcases aE h with⟨nK,h⟩|⟨nK,h⟩
 refine nbr hK ?_
 exact pe1 h h0 [0]
 refine ga nK ?_
 iterate 2 refine gbr ?_
 refine gcb h mb fun sJ h=>?_
 refine gcb h zM fun qA h=>?_
 refine nbr hK ?_
 exact pe1 h h0 [0]
 refine lw0 ?_
 refine cdh h rfl (fun tD h=>?_) (fun tD h=>?_)
 refine ra hx ?_
 refine AW.ret ?_
 cases h
 refine PS.r ⟨by nofun,PS.l (PR.i ?_)⟩
 exact rv1
 refine AW.skip (rb hx ?_)
 exact pel h h0 [0]
 exact AW.exit (peq h h0 [])
 rcases y with r|⟨⟩
 rintro ex tm' hp' ⟨rfl,hw⟩
 cases h
 exact hw
 refine lwr ?_
 refine ra hx ?_
 exact AW.ret (rtv h)
def gu(aI:fE)(aQ:List am)(aM:ct):Option Int:=bnd (fW aI aQ) fun x1=>cnd (!x1) (some (1:Int)) (bnd (S:=Bool) (cnd (decide (aM.vKind=(1:Int))) (cnd (decide ((i64.wrap (((aM.vY).length:Int)+((aM.vRay).length:Int)))=(0:Int))) (bnd (eb aM.vX aI.vC) fun x6=>cnd x6 (bnd (a7 aI aM.vX aQ) fun x9=>some (x9)) (some (false))) (some (false))) (cnd (decide (aM.vKind=(2:Int))) (cnd (decide ((i64.wrap (((aM.vX).length:Int)+((aM.vRay).length:Int)))=(0:Int))) (cnd (decide (((aM.vY).length:Int)=aI.vR)) (bnd (cX aM.vY) fun qc=>cnd qc (bnd (fm aI.vC) fun o3=>bnd (aJ aI aM.vY o3) fun vU=>cnd vU (bnd (bU aM.vY aQ) fun CR=>bnd (fV CR (-1:Int)) fun AX=>some (AX)) (some (false))) (some (false))) (some (false))) (some (false))) (some (false)))) fun ey=>cnd (!ey) (some (250:Int)) (some (0:Int)))
theorem wr {aI:fE}{aQ:List am}{aM:ct}{r:Int}(h:gu aI aQ aM=some r):aq prog 23 [dG mu aI,dL ak aQ,dG jC aM] (dI .i64 r):=by
 refine bh (rs:=[.tmp 6]) (fun cx hx h0=>?_) func23
 unfold gu at h
 refine rs hx fun K hK=>?_
 refine s1 (d:=.pt 0 0) fQ ?_
 refine s1 (d:=.pt 1 0) fQ ?_
 refine nbr hK ?_
 refine AW.seq (rs hx fun K hK=>?_)
 refine s1 (d:=dG mu aI) (T_ldA ye) ?_
 refine sa ?_
 refine scb h rD fun x1 h=>?_
 refine nbr hK ?_
 refine cdh h rfl (fun fG h=>?_) (fun fG h=>?_)
 refine ra hx ?_
 exact AW.ret (rtv h)
 refine AW.skip (ra hx ?_)
 refine AW.seq ?_
 obtain⟨ey,hy,h⟩:=ae h
 refine jn ((PE cx .normal (fun ey=>[(7,dB ey)]) fun ey=>⟨[],[],0⟩) ey) ?_ ?_
 replace h:=hy
 refine rar hx ?_
 refine AW.block (ra hx ?_)
 refine cdh h rfl (fun FV h=>?_) (fun FV h=>?_)
 refine rq hx fun K hK=>?_
 refine mbr ?_
 rcases aE h with⟨rX,h⟩|⟨rX,h⟩
 refine ga rX ?_
 refine gbr ?_
 refine ga rX ?_
 refine gbr ?_
 refine gcb h ma fun x6 h=>?_
 refine mbr ?_
 rcases aE h with⟨ua,h⟩|⟨ua,h⟩
 refine g1 (d:=dG mu aI) ua (T_ldA ye) ?_
 refine ga ua ?_
 refine gbr ?_
 refine ga ua ?_
 refine gcb h iR fun x9 h=>?_
 refine nbr hK ?_
 exact pe1 h h0 []
 refine nbr hK ?_
 exact pe1 h h0 []
 refine nbr hK ?_
 exact pe1 h h0 []
 refine ra hx ?_
 refine cdh h rfl (fun wh h=>?_) (fun wh h=>?_)
 refine rqd [62,75,81,17,86] hx fun K hK=>?_
 refine mbr ?_
 rcases aE h with⟨BK,h⟩|⟨BK,h⟩
 refine mbr ?_
 rcases aE h with⟨GB,h⟩|⟨GB,h⟩
 refine ga GB ?_
 refine gbr ?_
 obtain⟨qc,zb,h⟩:=ae h
 refine sqg tok rfl rfl GB (fS zb) rfl (lA (au _) lAn) (.inl rfl) ?_
 refine mbr ?_
 rcases aE h with⟨tD,h⟩|⟨tD,h⟩
 refine g1 (d:=dG mu aI) tD (T_ldA ye) ?_
 refine ga tD ?_
 refine gbr ?_
 refine ga tD ?_
 refine gbr ?_
 obtain⟨o3,v9,h⟩:=ae h
 refine sqg tok rfl rfl tD (nD v9) rfl (lA (au _) lAn) (.inl rfl) ?_
 obtain⟨vU,Gv,h⟩:=ae h
 refine sqg tok rfl rfl tD (dY Gv) (by simp only[iW,l8,f5,ic,eI,b8];exact⟨rfl,cm _ _,rfl,rfl,rfl⟩) (lA (au _) (lA (au _) (lA (au _) (lA (au _) (lA (au _) lAn))))) (.inl rfl) ?_
 refine mbr ?_
 rcases aE h with⟨Er,h⟩|⟨Er,h⟩
 refine ga Er ?_
 refine gbr ?_
 refine ga Er ?_
 obtain⟨CR,MG,h⟩:=ae h
 refine sqg tok rfl rfl Er (dh MG) rfl (lA (au _) (lA (au _) lAn)) (.inl (jJ _ _)) ?_
 obtain⟨AX,SM,h⟩:=ae h
 refine sqg tok rfl rfl Er (ph SM) (by simp only[iW,l8,f5,ic,eI,b8];exact⟨cm _ _,rfl⟩) (lA (nJ _ _) (lA (au _) lAn)) (.inl rfl) ?_
 refine nbr hK ?_
 exact pe1 h h0 []
 refine nbr hK ?_
 exact pe1 h h0 []
 refine nbr hK ?_
 exact pe1 h h0 []
 refine nbr hK ?_
 exact pe1 h h0 []
 refine nbr hK ?_
 exact pe1 h h0 []
 exact AW.skip (pe1 h h0 [])
 refine lw0 ?_
 refine AW.seq (ra hx ?_)
 refine cdh h rfl (fun Tx h=>?_) (fun Tx h=>?_)
 refine ra hx ?_
 exact AW.ret (rtv h)
 refine AW.skip (ra hx ?_)
 exact AW.ret (rtv h)
def K0(l:List Int)(v:Int):Int:=match l.findIdx? fun b=>decide (b=v) with
 |some i=>i
 |none=>-1
def secG(rows:List Lin)(basic:List Int)(w:Nat)(c:List Nu):Nat→Lin
 |0=>⟨nOf 0,List.replicate w (nOf 0)⟩
 |k+1=>let g:=secG rows basic w c k
  if K0 basic ((k+1:Nat):Int)<0 then⟨g.k,g.c.set (k+1) (jK g.c[k+1]! c[k]!)⟩
  else⟨jK g.k (lM c[k]! rows[(K0 basic ((k+1:Nat):Int)).toNat]!.k),(List.range w).map fun t=>if t=0 then g.c[t]! else jK g.c[t]! (lM c[k]! rows[(K0 basic ((k+1:Nat):Int)).toNat]!.c[t]!)⟩
theorem find_eq(l:List Row)(v:Int):K0 (l.map Row.b) v=dm l v:=by
 unfold K0 dm
 rw[List.findIdx?_map]
 rfl
theorem rB(l:List Row)(v:Int):(dm l v=-1∧∀j,j<l.length→l[j]!.b≠v)∨∃i,i<l.length∧dm l v=(i:Int)∧l[i]!.b=v:=by
 unfold dm
 cases h:l.findIdx? fun r=>decide (r.b=v) with
 |none=>
  refine .inl ⟨rfl,fun j hj=>?_⟩
  have:=u7.1 h l[j] (nO hj)
  rw[bL l j hj]
  simpa using this
 |some i=>
  obtain⟨h1,h2,_⟩:=oO.1 h
  exact .inr ⟨i,h1,rfl,by rw[bL l i h1];exact bw h2⟩
theorem Ak(l:List Row):∀n,jX l n<n∨n=0∧jX l n=0
 |0=>.inr ⟨rfl,rfl⟩
 |n+1=>by
  unfold jX
  rcases Ak l n with h|h
  ·split <;> omega
  ·split <;> omega
theorem rk.fine {d:Dic}{w:Nat}{f:Nu}(hI:Inv d w)(hg:ar f=true)(k:Nu)(c:List Nu)(hl:c.length=w)(hk:f7 k c=true):f7 k (c.set 0 f)=true:=by
 obtain⟨h1,h2⟩:=bm.1 hk
 refine bm.2 ⟨h1,fun i hi=>?_⟩
 rw[cY] at hi
 rw[eD hi]
 split
 ·exact hg
 ·exact h2 i hi
theorem Ah {α β:Type}[Inhabited α][Inhabited β]{l:List α}{f:α→β}{i:Nat}(hi:i<l.length):(l.map f)[i]! =f l[i]! :=by
 apply c8;rw[dV,wi hi];rfl
theorem Inv.col {d:Dic}{w:Nat}(hI:Inv d w){x:Nu}(hx:ar x=true)(h0:(∀j,j<d.rows.length→d.rows[j]!.b≠0)∨x=nOf 0){k:Nu}{c:List Nu}(hl:c.length=w)(hg:f7 k c=true)(hz:∀j,j<d.rows.length→c[d.rows[j]!.b.toNat]! =nOf 0)(p:Int):Inv ⟨d.rows.map (ue x),k,c,d.n,p,d.most⟩ w:=by
 have fF:∀i,i<d.rows.length→(d.rows.map (ue x))[i]! =ue x d.rows[i]! :=fun i hi=>Ah hi
 refine⟨⟨hl,fun i hi=>?_,hg,fun i hi=>?_⟩,fun i hi=>?_,fun i j hi hj e=>?_,fun j hj=>?_,fun i j hi hj=>?_⟩
 all_goals dsimp only at*
 all_goals rw[bb] at*
 ·rw[fF i hi];show (d.rows[i]!.c.set 0 x).length=w;rw[cY];exact hI.fine.lr i hi
 ·rw[fF i hi];exact rk.fine hI hx _ _ (hI.fine.lr i hi) (hI.fine.gr i hi)
 ·rw[fF i hi];exact hI.rng i hi
 ·rw[fF i hi,fF j hj] at e;exact hI.inj i j hi hj e
 ·rw[fF j hj];exact hz j hj
 ·rw[fF i hi,fF j hj]
  have hr:=hI.rng j hj
  have hlen:=hI.fine.lr i hi
  show (d.rows[i]!.c.set 0 x)[d.rows[j]!.b.toNat]! =nOf 0
  rw[eD (by omega)]
  split
  ·rename_i h
   rcases h0 with h0|h0
   ·exact absurd (by omega) (h0 j hj)
   ·exact h0
  ·exact hI.zr i j hi hj
section
def Can(x:Nu):Prop:=nuR (b7 x.1)=x
theorem Lc {x:Nu}(h:ar x=true):Can x:=by unfold Can;rw[bo.1 h];exact (Dm h).symm
theorem IY(x y:Nu):Can (jK x y):=by unfold Can;rw[qi,pU (Ad _ _)]
theorem Lb {x q y:Nu}(hx:Can x)(hq:ar q=true)(h0:bD q=0)(hy:ar y=true):jK x (lM q y)=x:=by
 rw[G4 hq ((zZ hq).1 h0) hy]
 rw[qi,show b7 (nOf 0).1=some 0 from by have:=bo.1 of0.1;rw[of0.2] at this;exact this]
 have:Ik (b7 x.1) (some 0)=b7 x.1:=by
  cases h:b7 x.1 with
  |none=>rfl
  |some p=>exact GY (c6.1 h).1
 rw[this];exact hx
theorem UU {q xk lk:Nu}(hl:Can lk)(hq:ar q=true)(hx:ar xk=true):xf q xk lk=jK lk (lM q xk):=by
 unfold xf
 split
 ·rename_i h;exact (Lb hl hq h hx).symm
 ·rfl
theorem UV {q:Nu}{xc lc:List Nu}{w:Nat}(hlc:lc.length=w)(BI:xc.length=w)(hl:∀i,i<w→Can lc[i]!)(hq:ar q=true)(hx:∀i,i<w→ar xc[i]! =true):uk q xc (-1) lc=(List.range w).map fun t=>jK lc[t]! (lM q xc[t]!):=by
 unfold uk
 split
 ·rename_i h
  exact ni hlc fun i hi=>(Lb (hl i hi) hq h (hx i hi)).symm
 ·refine ni (by rw[qx,hlc]) fun i hi=>?_
  rw[Dt _ _ _ _ i (by omega),ai (by omega)]
theorem aim_eq {l:List Row}{lr:List Lin}{w:Nat}{c:List Nu}(Th:lr=l.map fun x=>⟨x.k,x.c⟩)(hlen:∀i,i<l.length→l[i]!.c.length=w)(hg:∀i,i<l.length→f7 l[i]!.k l[i]!.c=true)(h0:∀i,i<l.length→l[i]!.c[0]! =nOf 0)(hw:0<w)(hc:∀i,i<c.length→ar c[i]! =true):
  ∀k,k≤c.length→secG lr (l.map Row.b) w c k=⟨(gJ l w c k).1,(gJ l w c k).2⟩∧(gJ l w c k).2.length=w∧Can (gJ l w c k).1∧(∀i,i<w→Can (gJ l w c k).2[i]!)∧(gJ l w c k).2[0]! =nOf 0
 |0,_=>by
  refine⟨rfl,by simp[gJ],Lc of0.1,fun i hi=>?_,?_⟩
  ·have:(gJ l w c 0).2[i]! =nOf 0:=c8 (by simp[gJ,I5,hi])
   rw[this];exact Lc of0.1
  ·exact c8 (by simp[gJ,I5,hw])
 |k+1,hk=>by
  obtain⟨ih1,ih2,ih3,ih4,ih5⟩:=aim_eq Th hlen hg h0 hw hc k (by omega)
  unfold secG gJ
  rw[ih1,find_eq]
  dsimp only
  rcases rB l ((k+1:Nat):Int) with⟨h1,_⟩|⟨i,h1,h2,_⟩
  ·rw[h1,ai (by omega),ah (by omega)]
   refine⟨rfl,by rw[cY];exact ih2,ih3,fun i hi=>?_,?_⟩
   ·dsimp only
    rw[eD (by omega)]
    split
    ·exact IY _ _
    ·exact ih4 i hi
   ·dsimp only
    rw[eD (by omega),ah (by omega)]
    exact ih5
  ·rw[h2,ah (by omega),ai (by omega),show ((i:Int)).toNat=i by omega]
   have Iz:lr[i]! =⟨l[i]!.k,l[i]!.c⟩:=by rw[Th];exact Ah h1
   obtain⟨g1,g2⟩:=bm.1 (hg i h1)
   have hl:=hlen i h1
   have hgc:∀t,t<w→ar l[i]!.c[t]! =true:=fun t ht=>g2 t (by omega)
   rw[Iz,UU ih3 (hc k (by omega)) g1,UV ih2 hl ih4 (hc k (by omega)) hgc]
   have h00:jK (gJ l w c k).2[0]! (lM c[k]! l[i]!.c[0]!)=(gJ l w c k).2[0]! :=by
    rw[ih5,h0 i h1,yY (hc k (by omega)),xw of0.1]
   refine⟨?_,by simp,IY _ _,fun t ht=>?_,?_⟩
   ·congr 1
    refine sr fun t _=>?_
    split
    ·rename_i e;subst e;exact h00.symm
    ·rfl
   ·rw[c8 (bK _ ht)];exact IY _ _
   ·rw[c8 (bK _ hw),h00];exact ih5
theorem Lu {l:List Row}{w:Nat}{c:List Nu}(hlen:∀i,i<l.length→l[i]!.c.length=w)(KG:∀i,i<l.length→0≤l[i]!.b∧l[i]!.b<w)(hz:∀i j,i<l.length→j<l.length→l[i]!.c[l[j]!.b.toNat]! =nOf 0)(hc:∀i,i<c.length→ar c[i]! =true):
  ∀k,k≤c.length→(gJ l w c k).2.length=w∧∀j,j<l.length→(gJ l w c k).2[l[j]!.b.toNat]! =nOf 0
 |0,_=>⟨by simp[gJ],fun j hj=>by
   have:=KG j hj
   exact c8 (by show (List.replicate w (nOf 0))[l[j]!.b.toNat]? =some (nOf 0);rw[I5,ai (by omega)])⟩
 |k+1,hk=>by
  obtain⟨ih0,ih⟩:=Lu hlen KG hz hc k (by omega)
  unfold gJ
  dsimp only
  rcases rB l ((k+1:Nat):Int) with⟨h1,h2⟩|⟨i,h1,h2,_⟩
  ·rw[h1,ah (by omega)]
   refine⟨by rw[cY];exact ih0,fun j hj=>?_⟩
   have:=KG j hj
   dsimp only
   rw[eD (by omega),ah (fun e=>h2 j hj (by omega))]
   exact ih j hj
  ·rw[h2,ai (by omega),show ((i:Int)).toNat=i by omega]
   refine⟨by rw[uj];exact ih0,fun j hj=>?_⟩
   have hr:=KG j hj
   dsimp only
   unfold uk
   split
   ·exact ih j hj
   ·rw[Dt _ _ _ _ _ (by omega),ai (by omega),ih j hj,hz i j h1 hj,yY (hc k (by omega)),xw of0.1]
section
variable {m nn:Nat} {A B C:List Nu} {most:Int}
theorem jN:(aG m nn A B most).rows.length=m:=by simp[aG]
theorem eO {i:Nat}(hi:i<m):(aG m nn A B most).rows[i]! =⟨B[i]!,(List.range (1+nn+m)).map (fun t=>if 1≤t∧t≤nn then eZ A[i*nn+(t - 1)]! else nOf 0),((1+nn+i:Nat):Int)⟩:=c8 (bK _ hi)
theorem mE {x:Nu}{n i:Nat}(hi:i<n):(List.replicate n x)[i]! =x:=c8 (by simp[I5,hi])
theorem Hl(hA:A.length=m*nn)(hB:B.length=m)(hgA:∀i,i<A.length→ar A[i]! =true)(hgB:∀i,i<B.length→ar B[i]! =true):Inv (aG m nn A B most) (1+nn+m):=by
 have hidx:∀i t,i<m→t<nn→i*nn+t<A.length:=fun i t hi ht=>by
  rw[hA]
  calc i*nn+t<i*nn+nn:=by omega
   _=(i+1)*nn:=by rw[bX];omega
   _≤m*nn:=cK _ hi
 refine⟨⟨by simp[aG],fun i hi=>?_,bm.2 ⟨of0.1,fun i hi=>?_⟩,fun i hi=>?_⟩,fun i hi=>?_,fun i j hi hj e=>?_,fun j hj=>?_,fun i j hi hj=>?_⟩
 all_goals try rw[jN] at*
 ·rw[eO hi];simp
 ·have we:i<1+nn+m:=by simpa[aG] using hi
  have:(aG m nn A B most).gc[i]! =nOf 0:=mE we
  rw[this];exact of0.1
 ·rw[eO hi]
  refine bm.2 ⟨hgB i (by omega),fun t ht=>?_⟩
  dsimp only at ht ⊢
  rw[bb,List.length_range] at ht
  rw[c8 (bK _ ht)]
  split
  ·rename_i h
   rw[rp];exact hgA _ (hidx i (t - 1) hi (by omega))
  ·exact of0.1
 ·rw[eO hi];dsimp only;omega
 ·rw[eO hi,eO hj] at e;dsimp only at e;omega
 ·rw[eO hj]
  exact mE (by dsimp only;omega)
 ·rw[eO hi,eO hj]
  dsimp only
  rw[c8 (bK _ (by omega)),ah (by omega)]
theorem rA(i:Nat)(hi:i<m):(aG m nn A B most).rows[i]!.b=((1+nn+i:Nat):Int):=by rw[eO hi]
end
end
section
section
variable {x:Cx} {tm tm':List (Nat×D)} {hp:Hp}
theorem Wk.perm {vars':List (Nat×List D)}{iB:List (Nat×Nat×Nat×TypeId)}{m:Nat}(σ:Nat→Nat)(h0:x.hp0.next≤m)(bI:∀i,i<x.hp0.next→σ i=i)(t9:∀i j,i<m→j<m→σ i=σ j→i=j)
  (ht:∀p∈tm',tm.lookup p.1=some (p.2.ren σ)∧p.2.idsB m=true∧p.2.noOs=true)
  (hv:∀k ds,vars'.lookup k=some ds→k<m∧hp.vars.lookup (σ k)=some (ds.map (D.renC σ))∧ds.all (D.idsC m)=true∧ds.all D.noO=true)
  (hl:∀k y,iB.lookup k=some y→k<m∧hp.live.lookup (σ k)=some y):Wk x tm hp tm' ⟨vars',iB,m⟩:=by
 intro a w ⟨g,hr,nF,hsz,Dh,hB,hF,hM⟩
 have dM:∀id y,(⟨vars',iB,m⟩:Hp).live.lookup id=some y→hp.live.lookup (σ id)=some y:=fun id y h=>(hl _ _ h).2
 refine⟨⟨fun i=>g.μ (σ i),fun i=>g.τ (σ i),g.F⟩,⟨fun k ds hk=>?_,fun k k' ds ds' hk wd he=>?_,fun id n e hi=>?_,fun id BH t t' b hi we hb oZ=>?_,hr.base,hr.fits⟩,fun t d h=>?_,hsz,Dh,hB,hF,
  ⟨hM.size,hM.cell,hM.forb,h0,fun k hk=>by show g.μ _=_;rw[bI k hk];exact hM.μ k hk,fun id hid n e Qn=>?_,fun b hb hf=>⟨(hM.fr b hb hf).1,(hM.fr b hb hf).2.1,fun k ds hk=>(hM.fr b hb hf).2.2.1 _ _ (hv _ _ hk).2.1,fun id t hi=>(hM.fr b hb hf).2.2.2 _ t (dM id _ hi)⟩,hM.szs⟩⟩
 ·obtain⟨h1,h2,h3,h4⟩:=hv _ _ hk
  obtain⟨_,h5,h6,cs,ty,h7,h8,h9⟩:=hr.var _ _ h2
  refine⟨h1,h5,h6,cs,ty,h7,by simpa using h8,fun j u hu=>⟨fun h=>(h9 j u hu).1 (by simpa using h),fun d hd=>?_⟩⟩
  exact jV ((h9 j u hu).2 (d.renC _) (by rw[dV,hd];rfl)) (ba.1 h3 d (dZ hd)) (ba.1 h4 d (dZ hd)) rfl (fun _=>rfl) (fun _=>rfl) rfl dM
 ·obtain⟨h1,h2,_⟩:=hv _ _ hk
  obtain⟨q9,qQ,_⟩:=hv _ _ wd
  exact t9 _ _ h1 q9 (hr.inj _ _ _ _ h2 qQ he)
 ·obtain⟨h1,h2⟩:=hl _ _ hi
  obtain⟨_,us,h3,h4,h5⟩:=hr.tok _ n e h2
  exact⟨h1,us,h3,h4,fun b hb=>⟨(h5 b hb).1,fun k ds hk=>(h5 b hb).2 _ _ (hv _ _ hk).2.1⟩⟩
 ·obtain⟨h1,h2⟩:=hl _ _ hi
  obtain⟨q9,qQ⟩:=hl _ _ we
  exact t9 _ _ h1 q9 (hr.tinj _ _ _ _ b h2 qQ hb oZ)
 ·obtain⟨h1,h2,h3⟩:=ht _ (bE h)
  exact Db (nF t _ h1) h2 h3 rfl (fun _=>rfl) (fun _=>rfl) rfl dM
 ·obtain⟨m0,h1,h2,h3⟩:=hM.live id hid n e (by rw[←bI id hid];exact dM id _ Qn)
  exact⟨m0,h1,h2,fun h=>by show g.τ _=_;rw[bI id hid];exact h3 h⟩
theorem R0 {σ:Nat→Nat}{n:Nat}(hσ:∀i,i<n→σ i=i){d:D}(hd:d.idsC n=true)(hn:d.noO=true):d.renC σ=d:=by
 cases d with
 |own id z n xs=>simp only[D.idsC,r9] at hd;simp only[D.renC,hσ id hd]
 |pt k o=>simp only[D.idsC,r9] at hd;simp only[D.renC,hσ k hd]
 |ow k o z n=>simp only[D.idsC,r9] at hd;simp only[D.renC,hσ k hd]
 |gw k z n=>simp only[D.idsC,r9] at hd;simp only[D.renC,hσ k hd]
 |fn f ks=>
  simp only[D.idsC,ba,r9] at hd
  simp only[D.renC]
  congr 1
  exact (sr fun k hk=>hσ k (hd k hk)).trans (ET _)
 |opt b d=>cases hn
 |_=>rfl
theorem map_low {σ:Nat→Nat}{n:Nat}(hσ:∀i,i<n→σ i=i){ds:List D}(hd:ds.all (D.idsC n)=true)(hn:ds.all D.noO=true):ds.map (D.renC σ)=ds:=
 (sr fun d h=>R0 hσ (ba.1 hd d h) (ba.1 hn d h)).trans (ET _)
end
def KW(m nn:Nat)(A B:List Nu)(i:Nat):Row:=⟨B[i]!,(List.range (1+nn+m)).map (fun t=>if 1≤t∧t≤nn then eZ A[i*nn+(t - 1)]! else nOf 0),((1+nn+i:Nat):Int)⟩
def mM(m nn:Nat)(A B:List Nu)(most:Int)(i:Nat):Dic:=⟨(List.range i).map (KW m nn A B),nOf 0,List.replicate (1+nn+m) (nOf 0),nn,0,most⟩
theorem K5(m nn:Nat)(A B:List Nu)(most:Int):mM m nn A B most m=aG m nn A B most:=rfl
theorem EB {m nn:Nat}{A B:List Nu}{most:Int}(h0:0≤most)(h1:most≤9223372036854775807){i:Nat}(hi:i≤m):cM (mM m nn A B most i) (1+nn+m) i:=by
 have hg:∀j,j<i→(mM m nn A B most i).rows[j]! =KW m nn A B j:=fun j hj=>c8 (bK _ hj)
 refine⟨by simp[mM],by simp[mM],fun j hj=>?_,fun j hj=>?_,zt _,by show (0:Int)≤_;omega,h0,h1⟩
 ·rw[hg j hj];simp[KW]
 ·rw[hg j hj];show 0≤((1+nn+j:Nat):Int)∧((1+nn+j:Nat):Int)<((1+nn+m:Nat):Int);omega
def C3(m nn:Nat)(A:List Nu)(i k:Nat):List Nu:=(List.range (1+nn+m)).map fun t=>if 1≤t∧t≤k then eZ A[i*nn+(t - 1)]! else nOf 0
theorem QM(m nn:Nat)(A:List Nu)(i:Nat):C3 m nn A i 0=List.replicate (1+nn+m) (nOf 0):=by
 unfold C3
 exact (ni (by simp) fun t ht=>by rw[ah (by omega)];exact mE ht).symm
theorem QN {m nn:Nat}{A:List Nu}{i k:Nat}(hk:k<nn):(C3 m nn A i k).set (1+k) (eZ A[i*nn+k]!)=C3 m nn A i (k+1):=by
 unfold C3
 refine ni (by simp) fun t ht=>?_
 rw[eD (by simpa using ht),c8 (bK _ ht)]
 by_cases h:1+k=t
 ·rw[ai h,ai (by omega),show t - 1=k by omega]
 ·rw[ah h]
  by_cases h2:1≤t∧t≤k
  ·rw[ai h2,ai (by omega)]
  ·rw[ah h2,ah (by omega)]
theorem Uh(m nn:Nat)(A:List Nu)(i k:Nat):(C3 m nn A i k).length=1+nn+m:=by simp[C3]
def rV(i:Nat):Nat:=if i=0 then 0 else 6+8*i
def cV(j:Nat):Nat:=11+8*j
theorem yu(i:Nat):Dif i 2 (rV i) 6 cV:=by
 unfold rV cV
 refine⟨?_,by omega,?_,fun j hj=>⟨by omega,?_,by omega⟩,fun j k _ _ h=>by omega⟩
 ·split <;> omega
 ·split <;> omega
 ·split <;> omega
def prC(R Cc:Int)(A B C:List Nu):List D:=[dI .i64 R,dI .i64 Cc,.e (slE aw A),.e (slE aw B),.e (slE aw C)]
theorem tx {R Cc:Int}{A B C:List Nu}{t:Nat}{y:D}(h:(prC R Cc A B C)[t]? =some y):Pt (prC R Cc A B C) t [y] (fun ys=>(prC R Cc A B C).take t++ys++(prC R Cc A B C).drop (t+1)):=Pt.cell h
theorem Bs(l:List E):(dC l).all D.noO=true:=by
 unfold dC
 rw[ba]
 intro d hd
 obtain⟨e,_,rfl⟩:=uh.1 hd
 rfl
theorem Br(a:Nu)(k w:Nat):(aY a k w).all D.noO=true:=by
 unfold aY
 rw[lE,Bs]
 rfl
theorem G3 {C:Nat→Nat}{w:Nat}:∀(i:Nat) (l:List Row),(f6 C w i l).all D.noO=true
 |_,[]=>rfl
 |i,r::l=>by
  unfold f6 iS
  rw[lE,lE,Br,G3 (i+1) l]
  rfl
theorem ov_noO {kd R G w:Nat}{C:Nat→Nat}{d:Dic}{vs:List (Nat×List D)}(hb:∀p∈vs,p.2.all D.noO=true):∀k ds,(ov kd R G C w d vs).lookup k=some ds→ds.all D.noO=true:=by
 have hc:∀(i:Nat) (l:List Row),∀p∈cOv C i l,p.2.all D.noO=true:=by
  intro i l
  induction l generalizing i with
  |nil=>intro p hp;simp[cOv] at hp
  |cons r l ih=>
   intro p hp
   rcases kP.1 hp with rfl|hp
   ·exact Bs _
   ·exact ih (i+1) p hp
 intro k ds h
 have hm:=bE h
 unfold ov at hm
 rcases kP.1 hm with e|hm
 ·injection e with e1 e2
  rw[e2]
  unfold m4
  rw[lE,lE,Br]
  cases d.rows <;> rfl
 rcases kP.1 hm with e|hm
 ·injection e with e1 e2
  rw[e2];exact Bs _
 rcases vM.1 hm with hm|hm
 ·unfold rOv at hm
  split at hm
  ·simp at hm
  ·rw[qH] at hm
   injection hm with e1 e2
   rw[e2];exact G3 0 _
 ·rcases vM.1 hm with hm|hm
  ·exact hc 0 _ _ hm
  ·exact hb _ hm
theorem PX {σ:Nat→Nat}(a:Nu)(k w:Nat):(aY a k w).map (D.renC σ)=aY a (σ k) w:=by
 unfold aY dC
 rw[iP,qv]
 rfl
theorem Mm {σ:Nat→Nat}(l:List E):(dC l).map (D.renC σ)=dC l:=by
 unfold dC
 rw[qv]
 rfl
def TmR(σ:Nat→Nat)(m:Nat)(tm tm':List (Nat×D)):Prop:=∀p∈tm',tm.lookup p.1=some (p.2.ren σ)∧p.2.idsB m=true∧p.2.noOs=true
theorem TmR.nil {σ:Nat→Nat}{m:Nat}{tm:List (Nat×D)}:TmR σ m tm []:=fun p hp=>absurd hp (qI)
theorem TmR.cons {σ:Nat→Nat}{m t:Nat}{d:D}{tm tm':List (Nat×D)}(h2:TmR σ m tm tm')(h:tm.lookup t=some (d.ren σ))(hi:d.idsB m=true)(hn:d.noOs=true:=by exact rfl):TmR σ m tm ((t,d)::tm'):=fun p hp=>by
 rcases kP.1 hp with rfl|hp
 ·exact⟨h,hi,hn⟩
 ·exact h2 p hp
theorem Ve {dr:Bool}{ty:TypeId}{ev:Operand→D}{hp:Hp}{x y:Operand}{a:Nu}{k n:Nat}{b:Int}(hx:ev x=.ag (aY a k n):=by exact rfl)(hy:ev y=dI .i64 b:=by exact rfl):AVC prog tbl dr (.build 78 #[(0,x),(1,y)]) ty ev hp (Kq (.ag (aY a k n++[dI .i64 b])) hp):=by
 have h0:([(0,x),(1,y)]:List (Nat×Operand)).map (fun p=>(p.1,ev p.2))=[(0,.ag (aY a k n)),(1,dI .i64 b)]:=by simp only[iW,l8,hx,hy]
 rw[show (#[(0,x),(1,y)]:Array (Nat×Operand))=([(0,x),(1,y)]:List (Nat×Operand)).toArray from rfl,wV,h0,uf,tV]
 have hp:mf [(0,.ag (aY a k n)),(1,dI .i64 b)]=some [(0,aY a k n),(1,[dI .i64 b])]:=rfl
 rw[hp]
 dsimp only
 refine⟨by decide,?_⟩
 have hz:∀zs:List D,zs.length=38→f8 (oo tbl [(0,73),(37,3)]) zs [(0,aY a k n),(1,[dI .i64 b])]=some (aY a k n++[dI .i64 b]):=fun zs hzs=>by
  have p0:oo tbl [(0,73),(37,3)] 0=some (0,37):=rfl
  have p1:oo tbl [(0,73),(37,3)] 1=some (37,1):=rfl
  simp only[f8,p0,p1,bS]
  rw[ah (by simp[hzs])]
  rw[ah (by simp[bS,hzs])]
  rw[EP,nB,br,vg (by rw[bS];exact ax _),g9 (by rw[bS];exact ax _),CK (by simp[bS,hzs]),th]
 rw[hz _ (by rfl)]
 exact Kq.here _ _
theorem AW.joinE {P:Program}{x:Cx}{c c':Code}{tm:List (Nat×D)}{hp:Hp}{Q:Exit→List (Nat×D)→Hp→Prop}{α:Type}(T:α→List (Nat×D))(H:α→Hp)(I:α→Prop)(h1:AW P x c tm hp fun ex tm' hp'=>match ex with| .normal=>∃a,I a∧Wk x tm' hp' (T a) (H a)|ex=>Q ex tm' hp')(h2:∀a,I a→AW P x c' (T a) (H a) Q):AW P x (.seq c c') tm hp Q:=by
 refine AW.seq (AW.mono h1 fun ex tm' hp' h=>?_)
 cases ex with
 |normal=>
  obtain⟨a,ha,hw⟩:=h
  exact AW.weak hw (h2 a ha)
 |_=>exact h
theorem appRows {U:List (Nat×List D)}{lv:List (Nat×Nat×Nat×TypeId)}{N R ky w:Nat}{C:Nat→Nat}{l:List Row}{F1:List D}(hR:l≠[]→U.lookup R=some (f6 C w 0 l))(hky:U.lookup ky=some F1)(hl:F1.length=38)(hb:l.length≤1000000):
  ∃W:List (Nat×List D),W.lookup N=some (f6 C w 0 l++F1)∧(∀k ds,(l≠[]→k≠R)→k≠N→U.lookup k=some ds→W.lookup k=some ds)∧
   ∀{md:Md} {dst:Option Tmp} {ty:TypeId} {pos:String} {af:Array Edge} {gd:Option (Nat×Bool)} {ev:Operand→D} {x y:Operand},ev x=e9 R l→ev y=.gw ky 38 1→mR prog tbl md ⟨dst,.call ⟨.builtin .append,#[x,y],#[71,71]⟩,ty,pos,af,gd⟩ ev ⟨U,lv,N⟩ (.gw N 38 (l.length+1)) ⟨W,lv,N+1⟩:=by
 cases l with
 |nil=>
  refine⟨(N,F1)::U,?_,fun k ds _ h2 h=>al h2 h,fun hx SI=>?_⟩
  ·exact aa
  ·exact appN tok (hp:=⟨U,lv,N⟩) Ck tV hky hx SI hl (by decide)
 |cons r l=>
  refine⟨(N,f6 C w 0 (r::l)++F1)::U.filter fun p=>!([R]:List Nat).contains p.1,aa,fun k ds h1 h2 h=>al h2 (xx (by simpa using h1 (by simp)) h),fun hx SI=>?_⟩
  exact appR tok (hp:=⟨U,lv,N⟩) (k:=R) (n:=(r::l).length) (ds:=f6 C w 0 (r::l)) Ck tV (hR (by simp)) hky hx SI (Bj _ _ _ _) hl (by show ((r::l).length+1)*168≤140737488355328;omega)
end
section
section
variable {d:Dic} {w at' s:Nat}
theorem Inv.pivotG(hI:Inv d w)(hat:at'<d.rows.length)(hs:s<w)(tP:∀j,j<d.rows.length→d.rows[j]!.b≠s)(h0:(dP d at' s).1=0):gO d w at' s∧(dP d at' s).2=gp d at' s:=by
 by_cases hp:d.most≤d.piv
 ·have:dP d at' s=(220,d):=by unfold dP;rw[ai hp]
  rw[this] at h0;cases h0
 obtain⟨h2,_,hok⟩:=Bp d at' s hat hp
 obtain⟨g1,g2⟩:=hok.1 h0
 refine⟨⟨hI,hat,hs,tP,⟨?_,fun i hi=>?_,g1,fun i hi=>g2 i (by rwa[d7] at hi)⟩⟩,h2⟩
 ·show (gS d.gk d.gc _ s).c.length=w
  rw[rM];exact hI.fine.lg
 ·rw[d7] at hi
  rw[jj hi]
  split
  ·rw[rH];exact hI.fine.lr at' hat
  ·show (gS d.rows[i]!.k d.rows[i]!.c _ s).c.length=w
   rw[rM];exact hI.fine.lr i hi
theorem Inv.improved(w:Nat):∀(f:Nat) (d:Dic),Inv d w→(g7 f d).1.2=0→Inv (g7 f d).2 w∧rk d (g7 f d).2 w
 |0,d,hI,_=>⟨hI,rk.refl d w⟩
 |f+1,d,hI,h=>by
  unfold g7 at h ⊢
  cases hs:ku d.gc with
  |none=>exact⟨hI,rk.refl d w⟩
  |some s=>
   obtain⟨h1,h2,_⟩:=pJ hs
   rw[hI.fine.lg] at h1
   rw[hs] at h
   dsimp only at h ⊢
   cases hl:jm d.rows s default d.rows.length with
   |none=>rw[hl] at h;cases h
   |some p=>
    rw[hl] at h
    dsimp only at h ⊢
    by_cases hp:p.1<0
    ·rw[ai hp];exact⟨hI,rk.refl d w⟩
    ·rw[ah hp] at h ⊢
     rcases px hl with h3|⟨i,hi,h3,h4,_⟩
     ·omega
     rw[h3,show ((i:Int)).toNat=i by omega] at h ⊢
     by_cases h0:(dP d i s).1=0
     ·rw[ai h0] at h ⊢
      obtain⟨hG,h7⟩:=hI.pivotG hi h1 (hI.enter (by omega)) h0
      rw[h7] at h ⊢
      obtain⟨a1,a2⟩:=Inv.improved w f (gp d i s) hG.toInv h
      exact⟨a1,hG.same.trans a2⟩
     ·rw[ah h0] at h;exact absurd h h0
end
theorem RL {m nn:Nat}{A B C:List Nu}{most:Int}(hA:A.length=m*nn)(hB:B.length=m)(hgA:∀i,i<A.length→ar A[i]! =true)(hgB:∀i,i<B.length→ar B[i]! =true):
  B.any (fun b=>decide (bD b<0))=true→∀q,dP (co (aG m nn A B most)) (jX (aG m nn A B most).rows (aG m nn A B most).rows.length) 0=q→q.1=0→(aS q.2).1.2=0→0≤dm (aS q.2).2.rows 0→yh (aS q.2).2.rows[(dm (aS q.2).2.rows 0).toNat]!.c≠none:=by
 intro hn
 have FQ:0<m:=by
  rcases sd m with e|e
  ·rw[e] at hB
   rw[I4.1 hB] at hn
   cases hn
  ·exact e
 have hI:=Hl (most:=most) hA hB hgA hgB
 have hlen:(aG m nn A B most).rows.length=m:=jN
 generalize hd:aG m nn A B most=d at hI hlen ⊢
 have h0:∀j,j<d.rows.length→d.rows[j]!.b≠0:=fun j hj=>by
  rw[←hd,rA j (by omega)];omega
 have hI1:Inv (co d) (1+nn+m):=by
  refine hI.col of1.1 (.inl h0) (by rw[cY];exact hI.fine.lg) (rk.fine hI ofm1.1 _ _ hI.fine.lg hI.fine.gg) (fun j hj=>?_) d.piv
  have:=hI.rng j hj
  have:=h0 j hj
  have:=hI.fine.lg
  rw[eD (by omega),ah (by omega)]
  exact hI.zg j hj
 have bI:jX d.rows d.rows.length<(co d).rows.length:=by
  have:=Ak d.rows d.rows.length
  show _<(d.rows.map _).length
  rw[bb];omega
 have hnb1:∀j,j<(co d).rows.length→(co d).rows[j]!.b≠((0:Nat):Int):=fun j hj=>by
  have Cw:j<d.rows.length:=by simpa[co] using hj
  show (d.rows.map (ue (nOf 1)))[j]!.b≠_
  rw[Ah Cw]
  exact h0 j Cw
 rintro q rfl hp e hf S9
 obtain⟨hG,h2⟩:=hI1.pivotG bI (show 0<1+nn+m by omega) hnb1 hp
 rw[h2] at e hf S9
 generalize gp (co d) (jX d.rows d.rows.length) 0=d1 at hG e hf S9 h2
 have Qz:rk (co d) (dP (co d) (jX d.rows d.rows.length) 0).2 (1+nn+m)∧Inv (dP (co d) (jX d.rows d.rows.length) 0).2 (1+nn+m):=by
  obtain⟨hG',qQ⟩:=hI1.pivotG bI (show 0<1+nn+m by omega) hnb1 hp
  rw[qQ]
  exact⟨hG'.same,hG'.toInv⟩
 rw[h2] at Qz
 obtain⟨a2,a4⟩:=Inv.improved (1+nn+m) _ d1 Qz.2 e
 have a2:Inv (aS d1).2 (1+nn+m):=a2
 have a4:rk d1 (aS d1).2 (1+nn+m):=a4
 rcases rB (aS d1).2.rows 0 with⟨h5,_⟩|⟨i,h5,h6,h7⟩
 ·omega
 rw[h6,show ((i:Int)).toNat=i by omega] at S9
 have hz:∀t,t<1+nn+m→(aS d1).2.rows[i]!.c[t]! =nOf 0:=fun t ht=>by
  have hl:=a2.fine.lr i h5
  have hg:=(bm.1 (a2.fine.gr i h5)).2 t (by omega)
  unfold yh at S9
  have:=u7.1 S9 (aS d1).2.rows[i]!.c[t] (nO (by omega))
  refine good0 hg ?_
  rw[bL _ t (by omega)]
  simpa using this
 have hcon:∀y,Sol (aS d1).2 (1+nn+m) y→y 0=rv (aS d1).2.rows[i]!.k:=fun y hy=>by
  have:=hy i h5
  rw[h7] at this
  have e2:bM (1+nn+m) (aS d1).2.rows[i]!.k (aS d1).2.rows[i]!.c y=rv (aS d1).2.rows[i]!.k:=by
   unfold bM
   rw[az (g:=fun _=>0) fun t ht=>by rw[hz t ht,of0.2];grind,eR];grind
  rw[e2] at this
  exact this
 obtain⟨y0,hy0,hv0⟩:=hI1.pick fun _=>0
 obtain⟨y1,LS,hv1⟩:=hI1.pick fun _=>1
 have hh:=Qz.1.trans a4
 have e0:=hcon y0 ((hh.sol y0).2 hy0)
 have e1:=hcon y1 ((hh.sol y1).2 LS)
 rw[hv0 0 hnb1] at e0
 rw[hv1 0 hnb1] at e1
 rw[←e0] at e1
 exact absurd e1 (by decide)
end
section
def qG(m:Nat)(a:Ans):List D:=[dI .i64 a.kind,.e (slE aw a.x),if a.kind=2 then .gw (7+8*m) 36 a.y.length else .e (slE aw a.y),.e (slE aw a.ray)]
def Gk(m:Nat)(r:Ans×Int×Int):Hp:=if r.1.kind=2 then⟨[(1,qG m r.1),(7+8*m,dC ((cW aw).f r.1.y))],[],8+8*m⟩ else⟨[(1,qG m r.1)],[],2⟩
def Mf(m:Nat)(r:Ans×Int×Int):D:=.tu [.ag (qG m r.1),dI .i64 r.2.1,dI .i64 r.2.2]
theorem rtS {cx:Cx}{tm:List (Nat×D)}{vs2:List (Nat×List D)}{n2 m:Nat}{r0 r:Ans×Int×Int}(h0:cx.hp0=⟨[],[],0⟩)(hr:r0=r)(h1:vs2.lookup 1=some (qG m r.1))(hk:r.1.kind=2→vs2.lookup (7+8*m)=some (dC ((cW aw).f r.1.y))∧8+8*m≤n2)(hn:2≤n2)(h4:tm.lookup 4=some (.pt 1 0):=by exact rfl)(h5:tm.lookup 5=some (dI .i64 r.2.1):=by exact rfl)(h6:tm.lookup 6=some (dI .i64 r.2.2):=by exact rfl):
  ∃tm',Wk cx tm ⟨vs2,[],n2⟩ tm' (Gk m r0)∧tN tbl [.cell 4 29,.tmp 5,.tmp 6] tm' (Gk m r0) (Mf m r0):=by
 subst hr
 have key:∀(V:List (Nat×List D)) (M:Nat),cp ⟨V,[],M⟩→V.lookup 1=some (qG m r0.1)→1<M→tN tbl [.cell 4 29,.tmp 5,.tmp 6] [(4,.pt 1 0),(5,dI .i64 r0.2.1),(6,dI .i64 r0.2.2)] ⟨V,[],M⟩ (Mf m r0):=fun V M hok hl hM=>
  resV tbI rfl hl hM rfl rfl ⟨_,rfl,_,rfl,rfl⟩
 unfold Gk
 by_cases hq:r0.1.kind=2
 ·rw[ai hq]
  obtain⟨h7,h8⟩:=hk hq
  have Eo:(qG m r0.1).all (D.idsC (8+8*m))=true:=by
   unfold qG
   rw[ai hq]
   simp only[f5,ic,eI,b8]
   exact⟨rfl,rfl,aA (by omega),rfl⟩
  have hok:cp ⟨[(1,qG m r0.1),(7+8*m,dC ((cW aw).f r0.1.y))],[],8+8*m⟩:=by
   refine⟨fun k ds h=>?_,fun id e h=>by simp at h⟩
   rcases ce h with⟨rfl,rfl⟩|⟨_,h⟩
   ·exact⟨show 1<8+8*m by omega,Eo⟩
   ·rcases ce h with⟨rfl,rfl⟩|⟨_,h⟩
    ·exact⟨show 7+8*m<8+8*m by omega,ez _⟩
    ·simp at h
  refine⟨_,wkS (by rw[h0];exact cr _) h8 hok (fun j ds h=>?_) (((bF.nil.cons h6).cons h5).cons h4 (aA (show 1<8+8*m by omega))),key _ _ hok aa (by omega)⟩
  rcases ce h with⟨rfl,rfl⟩|⟨_,h⟩
  ·exact h1
  ·rcases ce h with⟨rfl,rfl⟩|⟨_,h⟩
   ·exact h7
   ·simp at h
 ·rw[ah hq]
  have Eo:(qG m r0.1).all (D.idsC 2)=true:=by
   unfold qG
   rw[ah hq]
   rfl
  have hok:cp ⟨[(1,qG m r0.1)],[],2⟩:=by
   refine⟨fun k ds h=>?_,fun id e h=>by simp at h⟩
   rcases ce h with⟨rfl,rfl⟩|⟨_,h⟩
   ·exact⟨show 1<2 by decide,Eo⟩
   ·simp at h
  refine⟨_,wkS (by rw[h0];exact cr _) hn hok (fun j ds h=>?_) (((bF.nil.cons h6).cons h5).cons h4 rfl),key _ _ hok aa (by decide)⟩
  rcases ce h with⟨rfl,rfl⟩|⟨_,h⟩
  ·exact h1
  ·simp at h
def lQ:List E:=[.lit (.int .i64 0),.lit (.slice none 0 0),.lit (.slice none 0 0),.lit (.slice none 0 0)]
def dicZ(nn:Nat)(most:Int):List D:=[dN]++(dC zN++[dN])++[dI .i64 nn,dI .i64 0,dI .i64 most]
theorem QK(nn:Nat)(most:Int):Pt (dicZ nn most) 1 (dC zN++[dN]) (fun ys=>[dN]++ys++[dI .i64 nn,dI .i64 0,dI .i64 most]):=Pt.of [dN] [dI .i64 nn,dI .i64 0,dI .i64 most] rfl rfl fun y=>rfl
theorem qY {a b:Nat}(h:a+b<9223372036854775807):i64.wrap ((a:Int)+(b:Int))=((a+b:Nat):Int):=by rw[d6 (by omega) (by omega)];omega
section
variable {d:Dic} {w m nn:Nat} {c:List Nu}
theorem cM.improveP(h:cM d w m):cM (aS d).2 w m∧(aS d).2.most=d.most∧(aS d).2.n=d.n∧-1≤(aS d).1.1∧(aS d).1.1<w:=h.improve _
theorem cM.start(h:cM d w m):cM (co d) w m:=by
 have h2:=h.colsI (nOf 1) (Nat.le_of_eq h.len)
 rw[xF] at h2
 exact⟨h2.len,(cY ..).trans h2.lg,h2.lc,h2.b,h2.p0,h2.p1,h2.m0,h2.m1⟩
theorem TY {l:List Row}{v:Int}(h:¬dm l v<0):(dm l v).toNat<l.length:=by
 unfold dm at h ⊢
 cases Qo:l.findIdx? fun r=>decide (r.b=v) with
 |none=>rw[Qo] at h;exact absurd (show (-1:Int)<0 by decide) h
 |some a=>exact (oO.1 Qo).1
theorem cM.begin(h:cM d w m)(hm:0<m)(hw:0<w):cM (jO d).2 w m∧(jO d).2.n=d.n:=by
 have hl:=h.len
 have mF:jX d.rows d.rows.length<m:=by
  rcases Ak d.rows d.rows.length with h|h <;> omega
 obtain⟨p1,_,p3,_⟩:=h.start.pivot mF hw
 have p3:_=d.n:=p3
 unfold jO
 dsimp only
 split
 ·exact⟨p1,p3⟩
 ·obtain⟨q1,_,q3,_⟩:=p1.improveP
  split
  ·exact⟨q1,q3.trans p3⟩
  ·split
   ·exact⟨q1,q3.trans p3⟩
   ·next hf=>
    have hfl:=TY hf
    rw[q1.len] at hfl
    split
    ·exact⟨q1,q3.trans p3⟩
    ·next s hs=>
     have FK:=(oO.1 hs).1
     rw[q1.lc _ hfl] at FK
     obtain⟨r1,_,r3,_⟩:=q1.pivot hfl FK
     exact⟨r1,r3.trans (q3.trans p3)⟩
theorem cM.aim(h:cM d w m)(c:List Nu):cM (mN d c).2 w m∧(mN d c).2.n=d.n:=by
 have h2:=h.colsI (nOf 0) (Nat.le_of_eq h.len)
 rw[xF] at h2
 exact⟨⟨h2.len,(xe ..).trans h.lg,h2.lc,h2.b,h2.p0,h2.p1,h2.m0,h2.m1⟩,rfl⟩
theorem endP_1(h:(mN d c).1≠0):wj nn d c=(⟨0,[],[],[]⟩,0,(mN d c).1):=by unfold wj;dsimp only;rw[ai h]
theorem endP_2(h:¬(mN d c).1≠0)(h2:(aS (mN d c).2).1.2≠0):wj nn d c=(⟨0,[],[],[]⟩,0,(aS (mN d c).2).1.2):=by unfold wj;dsimp only;rw[ah h,ai h2]
theorem endP_3(h:¬(mN d c).1≠0)(h2:¬(aS (mN d c).2).1.2≠0)(h3:(aS (mN d c).2).1.1<0):wj nn d c=(⟨1,cO (aS (mN d c).2).2.rows nn Row.k fun _=>nOf 0,bR (aS (mN d c).2).2 nn,[]⟩,(aS (mN d c).2).2.piv,0):=by unfold wj;dsimp only;rw[ah h,ah h2,ai h3]
theorem endP_4(h:¬(mN d c).1≠0)(h2:¬(aS (mN d c).2).1.2≠0){s:Nat}(h3:(aS (mN d c).2).1.1=(s:Int)):wj nn d c=(⟨3,cO (aS (mN d c).2).2.rows nn Row.k fun _=>nOf 0,[],cO (aS (mN d c).2).2.rows nn (fun r=>r.c[s]!) fun v=>nOf (if (v:Int)=(s:Int) then 1 else 0)⟩,(aS (mN d c).2).2.piv,0):=by
 unfold wj
 dsimp only
 rw[ah h,ah h2,ah (by omega),h3,show ((s:Int)).toNat=s by omega]
 congr 2
 congr 1
 funext v
 split <;> rfl
end
section
variable {m nn:Nat} {A B C:List Nu} {most:Int}
theorem QT {m:Nat}{a:Ans}(h:a.kind≠2):qG m a=[dI .i64 a.kind,.e (slE aw a.x),.e (slE aw a.y),.e (slE aw a.ray)]:=by unfold qG;rw[ah h]
theorem wX(m:Nat):D.le (.ag [dI .i64 0,dN,dN,dN]) (.ag (qG m ⟨0,[],[],[]⟩)):=by
 rw[QT (by decide)]
 exact qk ⟨.inl rfl,.inr (.inr ⟨rfl,36,by decide,rfl⟩),.inr (.inr ⟨rfl,36,by decide,rfl⟩),.inr (.inr ⟨rfl,36,by decide,rfl⟩),trivial⟩
theorem OX(hv:aq prog 15 [.ag (prC m nn A B C)] (dB true))(hm:m≤2000)(hn:nn≤2000)(hA:A.length=m*nn)(hB:B.length=m)(hC:C.length=nn)(hgA:∀i,i<A.length→ar A[i]! =true)(hgB:∀i,i<B.length→ar B[i]! =true)(hgC:∀i,i<C.length→ar C[i]! =true)(h0:0≤most)(h1:most≤9223372036854775807):
  HC prog 12 [.ag (prC m nn A B C),dI .i64 most] ⟨[],[],0⟩ (Mf m (iz m nn A B C most)) (Gk m (iz m nn A B C most)):=by
 refine HC.of (rs:=[.cell 4 29,.tmp 5,.tmp 6]) tok func12 rfl rfl (a9 rfl) rfl (fun cx hx vK hok=>?_)
 simp only[fC,Nat.reduceAdd,br]
 obtain⟨w,hw⟩:∃w,w=1+nn+m:=⟨_,rfl⟩
 refine rs hx fun K hK=>?_
 refine s1 (fQ (cs:=prC m nn A B C)) ?_
 refine a1 (F:=lQ) tbI ?_
 iterate 2 refine sa ?_
 refine nl hK ?_
 refine AW.seq (rs hx fun K hK=>?_)
 refine p1 (Pt.all (F:=prC m nn A B C)) rfl ?_
 refine q1 (sHC (HC.frz (ds:=[.ag (prC m nn A B C)]) hv ⟨AR.data rfl,trivial⟩ rfl) rfl (.inr (Fr.refl _))) ?_
 iterate 2 refine sa ?_
 iterate 2 refine ga rfl ?_
 refine s1 (d:=dB (decide (most<0))) (l6 rfl) ?_
 refine nl hK ?_
 refine AW.condF rfl (a8 (by omega)) (AW.skip ?_)
 -- rI dictionary
 refine rs hx fun K hK=>?_
 iterate 2 refine sa ?_
 refine c1 (tx (t:=1) rfl) ?_
 refine sa ?_
 refine s1 (d:=.ag (dicZ nn most)) (dE tbI) ?_
 refine s1 (fQ (cs:=dicZ nn most)) ?_
 refine sa ?_
 refine nl hK ?_
 refine rs hx fun K hK=>?_
 iterate 2 refine sa ?_
 refine c1 (tx (t:=1) rfl) ?_
 refine sa ?_
 rw[show i64.wrap ((1:Int)+(nn:Int))=((1+nn:Nat):Int) from qY (a:=1) (by omega)]
 iterate 2 refine sa ?_
 refine c1 (tx (t:=0) rfl) ?_
 refine sa ?_
 rw[qY (by omega),←hw]
 refine sa ?_
 refine nl hK ?_
 refine rs hx fun K hK=>?_
 iterate 2 refine sa ?_
 refine q1 (sHC (xA (by omega)) rfl (.inr ⟨show 3≤7 by decide,fun j hj=>by have hj:j<3:=hj;exact (an (by omega)).trans (an (by omega))⟩)) ?_
 iterate 2 refine sa ?_
 refine v1 (ys:=aY (nOf 0) 6 w) (QK nn most) rfl ((bS _ _ _).trans rfl) rfl ?_
 refine nl hK ?_
 refine rs hx fun K hK=>?_
 refine sa ?_
 refine nl hK ?_
 obtain⟨base,lX⟩:∃base:List (Nat×List D),base=[(1,dC lQ),(0,prC m nn A B C)]:=⟨_,rfl⟩
 have fJ:base.lookup 1=some (dC lQ):=by rw[lX];exact aa
 have OW:base.lookup 0=some (prC m nn A B C):=by rw[lX];rfl
 have OV:∀j ds,base.lookup j=some ds→j=0∨j=1:=fun j ds h=>by
  rw[lX] at h
  rcases ce h with⟨h2,_⟩|⟨_,h⟩
  ·exact .inr h2
  ·rcases ce h with⟨h2,_⟩|⟨_,h⟩
   ·exact .inl h2
   ·simp at h
 have MN:∀M,2≤M→cp ⟨base,[],M⟩:=fun M hM=>by
  refine⟨fun j ds h=>?_,fun id e h=>by simp at h⟩
  rcases OV j ds h with rfl|rfl
  ·rw[OW] at h;injection h with h;subst h;exact⟨show 0<M by omega,rfl⟩
  ·rw[fJ] at h;injection h with h;subst h;exact⟨show 1<M by omega,rfl⟩
 obtain⟨V0,FY⟩:∃V0,V0=(2,[dN]++aY (nOf 0) 6 w++[dI .i64 nn,dI .i64 0,dI .i64 most])::(3,aY (nOf 0) 6 w)::(6,dC ((cW aw).f (List.replicate w (nOf 0))))::(2,dicZ nn most)::base:=⟨_,rfl⟩
 have hSI:∀i,i≤m→cM (mM m nn A B most i) w i:=fun i hi=>by rw[hw];exact EB h0 h1 hi
 have JK:DAt V0 2 (rV 0) 6 cV w (mM m nn A B most 0):=by
  rw[FY]
  exact⟨aa,fun fI=>absurd rfl fI,by rw[hw];exact al (by decide) (al (by decide) aa),fun i r hr=>by simp[mM] at hr,(hSI 0 (cr _)).lg,(hSI 0 (cr _)).lC⟩
 have OK:∀k ds,k≠2→(0≠0→k≠rV 0)→k≠6→(∀j,j<0→k≠cV j)→base.lookup k=some ds→V0.lookup k=some ds:=fun k ds _ _ _ _ h=>by
  rw[FY]
  rcases OV k ds h with rfl|rfl
  ·exact al (by decide) (al (by decide) (al (by decide) (al (by decide) h)))
  ·exact al (by decide) (al (by decide) (al (by decide) (al (by decide) h)))
 rw[lX] at FY
 rw[←FY]
 rw[←lX] at FY
 have hokI:∀i d2,cM d2 w i→cp ⟨ov 2 (rV i) 6 cV w d2 base,[],7+8*i⟩:=fun i d2 h2=>Cq (MN _ (by omega)) (by omega) (by unfold rV;split <;> omega) (by omega) fun j hj=>by rw[h2.len] at hj;unfold cV;omega
 obtain⟨ng,hng⟩:∃ng:Nat→Bool,ng=fun i=>(B.take i).any fun b=>decide (bD b<0):=⟨_,rfl⟩
 refine AW.seq (rs hx fun K hK=>?_)
 refine sa ?_
 have hl00:V0.lookup 0=some (prC m nn A B C):=by rw[FY];exact al (by decide) (al (by decide) (al (by decide) (al (by decide) OW)))
 refine c1 (tx (t:=3) rfl) ?_
 iterate 2 refine sa ?_
 refine nl hK ?_
 rw[hB]
 refine AW.block (AW.loopW (fun i:Nat=>[(2,.pt 0 0),(4,.pt 1 0),(7,.pt 2 0),(8,dI .i64 w),(9,dB (ng i)),(48,.e (slE aw B)),(49,dI .i64 m),(50,dI .i64 i)]) (fun i=>⟨ov 2 (rV i) 6 cV w (mM m nn A B most i) base,[],7+8*i⟩) (fun i=>i≤m) (fun i=>m - i) 0 ?_ (cr _) ?_)
 ·exact wk1 vK (hok:=hokI 0 _ (hSI 0 (cr _))) (hv:=wF (yu 0) (hSI 0 (cr _)) JK OK) (ht:=by rw[hng];exact bF.cons (bF.cons (bF.cons (bF.cons (bF.cons (bF.cons (bF.cons (bF.cons bF.nil rfl rfl) rfl rfl) rfl rfl) rfl rfl) rfl rfl) rfl rfl) rfl rfl) rfl rfl)
 ·intro i hi
  have xB:=hSI i hi
  have Dl:=xB.at (yu i) (vs:=base)
  have ob:=hokI i _ xB
  have t8:∀k ds,base.lookup k=some ds→(ov 2 (rV i) 6 cV w (mM m nn A B most i) base).lookup k=some ds:=fun k ds h=>by
   refine DU xB ?_ ?_ ?_ ?_ h
   ·rcases OV k ds h with rfl|rfl <;> decide
   ·intro hi0
    unfold rV
    rw[ah hi0]
    rcases OV k ds h with rfl|rfl <;> omega
   ·rcases OV k ds h with rfl|rfl <;> decide
   ·intro j _
    unfold cV
    rcases OV k ds h with rfl|rfl <;> omega
  obtain⟨V,hV⟩:∃V,V=ov 2 (rV i) 6 cV w (mM m nn A B most i) base:=⟨_,rfl⟩
  rw[←hV] at Dl ob t8 ⊢
  have hl0:=t8 0 _ OW
  have hnoV:∀k ds,V.lookup k=some ds→ds.all D.noO=true:=by
   rw[hV]
   refine ov_noO fun p hp=>?_
   rw[lX] at hp
   rcases kP.1 hp with rfl|hp
   ·exact Bs _
   ·rw[qH.1 hp];rfl
  have hl1:=t8 1 _ fJ
  have yo:=Dl.hd
  refine rs hx fun K hK=>?_
  refine sa ?_
  refine nl hK ?_
  refine AW.seq (AW.condS rfl (fun hb=>?_) (fun hb=>?_))
  ·have pX:i<m:=by have:=bw hb;omega
   obtain⟨n,Qj⟩:∃n,n=7+8*i:=⟨_,rfl⟩
   rw[←Qj] at ob ⊢
   have q8:0≤(i:Int)∧(i:Int)<((B.length:Nat):Int):=by omega
   refine AW.skip (AW.seq (AW.block (rs hx fun K hK=>?_)))
   refine sa ?_
   refine s1 (Pp q8 b9 aR) ?_
   refine s1 (d:=dG aw B[i]!) (jF (c:=aw) (l:=B) (n:=i) (o:=0) aR (by omega) (eY _ _ rfl)) ?_
   refine n1 ?_
   refine sa ?_
   refine z1 ?_
   refine nl hK ?_
   -- rI row
   obtain⟨F0,QB⟩:∃F0,F0=aY (nOf 0) (n+4) w++[dI .i64 (1+nn+i:Nat)]:=⟨_,rfl⟩
   have hFl:F0.length=38:=by rw[QB,cD,bS];rfl
   have hFi:F0.all (D.idsC (n+6))=true:=by rw[QB,lE,iX (by omega)];rfl
   obtain⟨Tm,hTm⟩:∃Tm:List (Nat×D),Tm=[(2,.pt 0 0),(4,.pt 1 0),(7,.pt 2 0),(8,dI .i64 w),(9,dB (ng i)),(48,.e (slE aw B)),(49,dI .i64 m),(50,dI .i64 i),(10,dI .i64 i),(11,.pt n 0),(12,.pt (n+5) 0)]:=⟨_,rfl⟩
   refine sj Tm ⟨(n+5,F0)::(n+4,dC ((cW aw).f (List.replicate w (nOf 0))))::(n,dC (aw.f B[i]!))::V,[],n+6⟩ ?_ ?_
   ·refine dw (DW.split 1 9 (by decide) ?_ ?_)
    ·refine dwg [] [0,1,2,3,4,5,6,7,8,9,10] hx (by kernel_rfl) (by kernel_rfl) (by kernel_rfl) fun K hK=>?_
     dsimp only[d8,mP,mZ,List.map]
     refine sa ?_
     refine q1 (sHC (xA (by omega)) rfl (.inr ⟨show n+1≤n+1+4 by omega,fun j hj=>by have hj:j<n+1:=hj;exact (an (by omega)).trans (an (by omega))⟩)) ?_
     iterate 2 refine sa ?_
     refine c1 (tx (t:=1) rfl) ?_
     refine sa ?_
     rw[show i64.wrap ((1:Int)+(nn:Int))=((1+nn:Nat):Int) from qY (a:=1) (by omega)]
     iterate 2 refine sa ?_
     rw[qY (by omega)]
     refine s1 Ve ?_
     rw[←QB]
     refine a1 (F:=PG) tV ?_
     refine v1 (Pt.all (F:=dC PG)) rfl hFl rfl ?_
     refine .nil (hK _ _ ⟨rfl,?_⟩)
     rw[hTm]
     exact wk1 vK
    ·refine dwg [] [0,9,1,2,3,4,5,6,7,8,10] hx (by kernel_rfl) (by kernel_rfl) (by kernel_rfl) fun K hK=>?_
     dsimp only[d8,mP,mZ,List.map]
     refine sa ?_
     refine a1 (F:=PG) tV ?_
     refine q1 (sHC (xA (by omega)) rfl (.inr ⟨show n+2≤n+2+4 by omega,fun j hj=>by have hj:j<n+2:=hj;exact (an (by omega)).trans (an (by omega))⟩)) ?_
     iterate 2 refine sa ?_
     refine c1 (tx (t:=1) rfl) ?_
     refine sa ?_
     rw[show i64.wrap ((1:Int)+(nn:Int))=((1+nn:Nat):Int) from qY (a:=1) (by omega)]
     iterate 2 refine sa ?_
     rw[qY (by omega)]
     refine s1 Ve ?_
     refine v1 (ys:=aY (nOf 0) (n+5) w++[dI .i64 (1+nn+i:Nat)]) (Pt.all (F:=dC PG)) rfl (by rw[cD,bS];rfl) rfl ?_
     refine .nil (hK _ _ ⟨rfl,?_⟩)
     obtain⟨σ,hσ⟩:∃σ:Nat→Nat,σ=fun j=>if j=n+5 then n+1 else if j=n+4 then n+5 else if j=n+1 then n+4 else j:=⟨_,rfl⟩
     have s5:σ (n+5)=n+1:=by rw[hσ];exact ai rfl
     have s4:σ (n+4)=n+5:=by rw[hσ];show (if n+4=n+5 then _ else _)=_;rw[ah (by omega),ai rfl]
     have Gl:∀j,j<n+1→σ j=j:=fun j hj=>by rw[hσ];show (if j=n+5 then _ else _)=_;rw[ah (by omega),ah (by omega),ah (by omega)]
     have t9:∀a b,a<n+6→b<n+6→σ a=σ b→a=b:=fun a b _ _ h=>by
      rw[hσ] at h
      dsimp only at h
      repeat' split at h
      all_goals omega
     have FP:2<n:=by omega
     rw[hTm]
     refine Wk.perm σ (by rw[vK];exact cr _) (fun j hj=>by rw[vK] at hj;exact absurd hj (qK _)) t9 ?_ (fun k ds h=>?_) (fun k y h=>by simp at h)
     ·refine TmR.cons (TmR.cons (TmR.cons (TmR.cons (TmR.cons (TmR.cons (TmR.cons (TmR.cons (TmR.cons (TmR.cons (TmR.cons TmR.nil ?_ (aA (show n+5<n+6 by omega))) ?_ (aA (show n<n+6 by omega))) rfl rfl) rfl rfl) rfl rfl) rfl rfl) rfl rfl) rfl rfl) ?_ (aA (show 2<n+6 by omega))) ?_ (aA (show 1<n+6 by omega))) ?_ (aA (show 0<n+6 by omega))
      ·show _=some (D.pt (σ (n+5)) 0);rw[s5];rfl
      ·show _=some (D.pt (σ n) 0);rw[Gl n (by omega)];rfl
      ·show _=some (D.pt (σ 2) 0);rw[Gl 2 (by omega)];rfl
      ·show _=some (D.pt (σ 1) 0);rw[Gl 1 (by omega)];rfl
      ·show _=some (D.pt (σ 0) 0);rw[Gl 0 (by omega)];rfl
     ·rcases ce h with⟨rfl,rfl⟩|⟨k5,h⟩
      ·refine⟨by omega,?_,hFi,by rw[QB,lE,Br];rfl⟩
       rw[s5,QB,iP,PX,s4]
       exact aa
      rcases ce h with⟨rfl,rfl⟩|⟨k4,h⟩
      ·refine⟨by omega,?_,ez _,Bs _⟩
       rw[s4,Mm]
       exact al (by omega) (al (by omega) aa)
      rcases ce h with⟨rfl,rfl⟩|⟨kn,h⟩
      ·refine⟨by omega,?_,ez _,Bs _⟩
       rw[Gl k (by omega),Mm]
       exact al (by omega) (al (by omega) (al (by omega) (al (by omega) aa)))
      ·have hk:=ob.lt h
       have hki:=(ob.var k ds h).2
       refine⟨by omega,?_,ba.2 fun d hd=>D.idsC_le (show n≤n+6 by omega) (ba.1 hki d hd),hnoV k ds h⟩
       rw[Gl k (by omega),map_low (n:=n) (fun j hj=>Gl j (by omega)) hki (hnoV k ds h)]
       exact al (by omega) (al (by omega) (al (by omega) (al (by omega) (al kn (al kn h)))))
   ·rw[hTm]
    obtain⟨F1,Hi⟩:∃F1,F1=iS cV w i (KW m nn A B i):=⟨_,rfl⟩
    have hcV:cV i=n+4:=by unfold cV;omega
    have hF1e:F1=aY B[i]! (n+4) w++[dI .i64 (1+nn+i:Nat)]:=by rw[Hi];unfold iS;rw[hcV];rfl
    have hF1l:F1.length=38:=by rw[Hi];exact tY _ _ _ _
    have hF1i:F1.all (D.idsC (n+6))=true:=by rw[hF1e,lE,iX (by omega)];rfl
    have L0:Pt F0 (0+0+0) (dC (aw.f (nOf 0))) (fun ys=>ys++([.ow (n+4) 0 36 w]++[dI .i64 (1+nn+i:Nat)])):=Pt.of [] ([.ow (n+4) 0 36 w]++[dI .i64 (1+nn+i:Nat)]) rfl (by rw[QB];unfold aY;simp only[c5,nB]) fun y=>rfl
    have L1:Pt F1 (0+0+36) [.ow (n+4) 0 36 w] (fun ys=>dC (aw.f B[i]!)++ys++[dI .i64 (1+nn+i:Nat)]):=Pt.of (dC (aw.f B[i]!)) [dI .i64 (1+nn+i:Nat)] (iU _) (by rw[hF1e];unfold aY;simp only[c5]) fun y=>rfl
    refine rs hx fun K hK=>?_
    refine l1 (Pt.idN _) ?_
    iterate 2 refine sa ?_
    refine t1 (b:=B[i]!) (F2:=F1) L0 (by rw[hF1e];unfold aY;simp only[c5]) ?_
    refine nl hK ?_
    refine AW.seq (rs hx fun K hK=>?_)
    iterate 2 refine sa ?_
    refine c1 (tx (t:=1) rfl) ?_
    refine sa ?_
    refine nl hK ?_
    rw[show List.replicate w (nOf 0)=C3 m nn A i 0 by rw[QM,hw]]
    refine AW.block (AW.loopW (fun k:Nat=>[(2,.pt 0 0),(4,.pt 1 0),(7,.pt 2 0),(8,dI .i64 w),(9,dB (ng i)),(48,.e (slE aw B)),(49,dI .i64 m),(50,dI .i64 i),(10,dI .i64 i),(11,.pt n 0),(12,.pt (n+5) 0),(69,dI .i64 nn),(70,dI .i64 k)]) (fun k=>⟨(n+4,dC ((cW aw).f (C3 m nn A i k)))::(n+5,F1)::(n,dC (aw.f B[i]!))::V,[],n+6⟩) (fun k=>k≤nn) (fun k=>nn - k) 0 ?_ (cr _) ?_)
    ·exact wk1 vK
    ·intro k hk
     have ux:=Uh m nn A i k
     refine rs hx fun K hK=>?_
     refine sa ?_
     refine nl hK ?_
     refine AW.seq (AW.condS rfl (fun hb=>?_) (fun hb=>?_))
     ·have xz:k<nn:=by have:=bw hb;omega
      have hmul:i*nn+nn≤m*nn:=by
       calc i*nn+nn=(i+1)*nn:=by rw[bX];omega
        _≤m*nn:=cK _ pX
      have hmn:m*nn≤2000*2000:=kD hm hn
      have hmi:i64.wrap ((i:Int)*(nn:Int))=((i*nn:Nat):Int):=by rw[←ig,d6 (by omega) (by omega)]
      have hc3:0≤((i*nn+k:Nat):Int)∧((i*nn+k:Nat):Int)<((A.length:Nat):Int):=by omega
      refine AW.skip (AW.seq (AW.block (rs hx fun K hK=>?_)))
      iterate 2 refine sa ?_
      refine nl hK ?_
      refine rqd [42] hx fun K hK=>?_
      iterate 2 refine sa ?_
      refine c1 L1 ?_
      iterate 2 refine sa ?_
      rw[show i64.wrap ((1:Int)+(k:Int))=((1+k:Nat):Int) from qY (a:=1) (by omega)]
      iterate 2 refine sa ?_
      refine c1 (tx (t:=2) rfl) ?_
      iterate 3 refine sa ?_
      refine c1 (tx (t:=1) rfl) ?_
      refine sa ?_
      rw[hmi]
      iterate 2 refine sa ?_
      rw[qY (by omega)]
      refine s1 (Pp hc3 b9 aR) ?_
      refine s1 (d:=dG aw A[i*nn+k]!) (jF (c:=aw) (l:=A) (n:=i*nn+k) (o:=0) aR (by omega) (eY _ _ rfl)) ?_
      refine cq (J4 _) ?_
      refine i1 (i:=1+k) (n:=w) (by omega) ?_
      refine t1 (Pt.el (C3 m nn A i k) (1+k) (by omega)) (Pt.el_set (C3 m nn A i k) (1+k) (by omega) _) ?_
      refine nl hK ?_
      rw[QN xz]
      refine rq hx fun K hK=>?_
      iterate 2 refine sa ?_
      refine nl hK ?_
      rw[bT]
      exact⟨k+1,wk1 vK,xz,by omega⟩
     ·refine AW.exit ?_
      have xz:k=nn:=by have:=dp hb;omega
      subst xz
      have hcrow:C3 m k A i k=(KW m k A B i).c:=rfl
      rw[hcrow]
      obtain⟨U,hU⟩:∃U,U=(n+4,dC ((cW aw).f (KW m k A B i).c))::(n+5,F1)::(n,dC (aw.f B[i]!))::V:=⟨_,rfl⟩
      have hU5:U.lookup (n+5)=some F1:=by rw[hU];exact al (by omega) aa
      have hU4:U.lookup (n+4)=some (dC ((cW aw).f (KW m k A B i).c)):=by rw[hU];exact aa
      have hUn:U.lookup n=some (dC (aw.f B[i]!)):=by rw[hU];exact al (by omega) (al (by omega) aa)
      have hUV:∀j ds,V.lookup j=some ds→U.lookup j=some ds:=fun j ds h=>by
       have:=ob.lt h
       rw[hU];exact al (by omega) (al (by omega) (al (by omega) h))
      rw[←hU]
      have hli:=xB.len
      have hU2:=hUV _ _ yo
      refine rsd [] hx fun K hK=>?_
      iterate 4 refine sa ?_
      refine c1 gE ?_
      refine p1 (Pt.all (F:=F1)) hF1l ?_
      refine q1 (litR tok Ck tV rfl hF1l) ?_
      obtain⟨W,hW1,hWx,hap⟩:=appRows (U:=(n+6,F1)::U) (lv:=[]) (N:=n+7) (R:=rV i) (ky:=n+6) (w:=w) (C:=cV) (l:=(mM m k A B most i).rows) (fun fI=>al (by unfold rV;split <;> omega) (hUV _ _ (Dl.hR fI))) aa hF1l (by omega)
      rw[hli] at hap
      refine q1 (hap rfl rfl) ?_
      have hW2:W.lookup 2=some (m4 (rV i) 6 w (mM m k A B most i)):=hWx 2 _ (fun _=>by unfold rV;split <;> omega) (by omega) (al (by omega) hU2)
      iterate 2 refine sa ?_
      refine v1 (ys:=[.gw (n+7) 38 (i+1)]) (gE (R:=rV i) (G:=6) (w:=w) (d:=mM m k A B most i)) rfl rfl rfl ?_
      refine nl hK ?_
      have hrv:rV (i+1)=n+7:=by unfold rV;rw[ah (by omega)];omega
      have ST:(mM m k A B most (i+1)).rows=(mM m k A B most i).rows++[KW m k A B i]:=by
       show (List.range (i+1)).map _=(List.range i).map _++_
       rw[vL,iP];rfl
      have Qz:=hSI (i+1) pX
      have mF:∀j ds,j≠2→(i≠0→j≠rV i)→V.lookup j=some ds→((2,[D.gw (n+7) 38 (i+1)]++(aY (mM m k A B most i).gk 6 w++[dI .i64 (mM m k A B most i).n,dI .i64 (mM m k A B most i).piv,dI .i64 (mM m k A B most i).most]))::W).lookup j=some ds:=fun j ds h2 hr h=>by
       have hj:=ob.lt h
       exact al h2 (hWx j ds (fun fI=>hr (fun e=>fI (by subst e;rfl))) (by omega) (al (by omega) (hUV j ds h)))
      have hD1:DAt ((2,[D.gw (n+7) 38 (i+1)]++(aY (mM m k A B most i).gk 6 w++[dI .i64 (mM m k A B most i).n,dI .i64 (mM m k A B most i).piv,dI .i64 (mM m k A B most i).most]))::W) 2 (rV (i+1)) 6 cV w (mM m k A B most (i+1)):=by
       refine⟨?_,fun _=>?_,?_,fun j r hr=>?_,Qz.lg,Qz.lC⟩
       ·rw[aa]
        have:e9 (rV (i+1)) (mM m k A B most (i+1)).rows=.gw (n+7) 38 (i+1):=by
         rw[qg (by rw[ST];simp),hrv,Qz.len]
        unfold m4
        rw[this,c5]
        rfl
       ·rw[hrv,ST,Bk,hli,br]
        refine al (by omega) (hW1.trans ?_)
        rw[Hi]
        unfold f6
        rw[show f6 cV w (i+1) []=[] from rfl,th]
       ·refine mF 6 _ (by decide) (fun h=>by unfold rV;rw[ah h];omega) ?_
        exact Dl.hG
       ·have hj:j<i+1:=by have:=(fP.1 hr).1;rw[Qz.len] at this;exact this
        rw[ST] at hr
        rcases dX j i with h|h
        ·rw[AG (by omega)] at hr
         exact mF (cV j) _ (by unfold cV;omega) (fun h=>by unfold cV rV;rw[ah h];omega) (Dl.hC j r hr)
        ·obtain rfl:j=i:=by omega
         rw[qJ (by omega),hli,zq] at hr
         injection hr with hr
         subst hr
         rw[hcV]
         exact al (by omega) (hWx (n+4) _ (fun _=>by unfold rV;split <;> omega) (by omega) (al (by omega) hU4))
      have hX11:((2,[D.gw (n+7) 38 (i+1)]++(aY (mM m k A B most i).gk 6 w++[dI .i64 (mM m k A B most i).n,dI .i64 (mM m k A B most i).piv,dI .i64 (mM m k A B most i).most]))::W).lookup n=some (dC (aw.f B[i]!)):=al (by omega) (hWx n _ (fun _=>by unfold rV;split <;> omega) (by omega) (al (by omega) hUn))
      have wg:=wF (vs:=base) (yu (i+1)) Qz hD1 fun j ds h2 _ _ _ h=>mF j ds h2 (fun hi0=>by
       unfold rV
       rw[ah hi0]
       rcases OV j ds h with rfl|rfl <;> omega) (t8 j ds h)
      have Ao:=hokI (i+1) _ Qz
      have hng1:ng (i+1)=(ng i||decide (bD B[i]! <0)):=by
       rw[hng]
       dsimp only
       rw[AE,List.any_append,wi (show i<B.length by omega)]
       simp
      generalize (2,[D.gw (n+7) 38 (i+1)]++(aY (mM m k A B most i).gk 6 w++[dI .i64 (mM m k A B most i).n,dI .i64 (mM m k A B most i).piv,dI .i64 (mM m k A B most i).most]))::W=X at hX11 wg ⊢
      have Rb:n+8=7+8*(i+1):=by omega
      refine rq hx fun K hK=>?_
      iterate 2 refine sa ?_
      cases JI:ng i with
      |true=>
       rw[JI] at hng1
       iterate 3 refine gn rfl ?_
       refine s1 (d:=dB true) (oU rfl) ?_
       refine sa ?_
       refine nl hK ?_
       refine rq hx fun K hK=>?_
       iterate 2 refine sa ?_
       refine nl hK ?_
       rw[bT]
       refine⟨i+1,?_,pX,by omega⟩
       rw[show ng (i+1)=true from hng1]
       rw[←Rb] at Ao ⊢
       exact wk1 vK (hok:=Ao) (hv:=wg)
      |false=>
       rw[JI] at hng1
       refine l1g (Pt.idN B[i]!) rfl ?_
       refine cqg (yJ _) rfl ?_
       refine ga rfl ?_
       refine s1 (d:=dB (decide (bD B[i]! <0))) (l6 rfl) ?_
       refine sa ?_
       refine nl hK ?_
       refine rq hx fun K hK=>?_
       iterate 2 refine sa ?_
       refine nl hK ?_
       rw[bT]
       refine⟨i+1,?_,pX,by omega⟩
       rw[show ng (i+1)=decide (bD B[i]! <0) from hng1]
       rw[←Rb] at Ao ⊢
       exact wk1 vK (hok:=Ao) (hv:=wg)
  ·refine AW.exit ?_
   have pX:i=m:=by have:=dp hb;omega
   subst pX
   rw[K5] at Dl yo xB
   obtain⟨NN,hNN⟩:∃NN,NN=7+8*i:=⟨_,rfl⟩
   rw[←hNN] at ob ⊢
   have hngm:ng i=B.any fun b=>decide (bD b<0):=by
    rw[hng]
    dsimp only
    rw[g9 (by omega)]
   rw[hngm]
   have An:=RL (C:=C) (most:=most) hA hB hgA hgB
   have Dk:rV i<NN:=by unfold rV;split <;> omega
   have hw0:0<w:=by omega
   refine AW.joinE (α:=Dic×List (Nat×List D)) (fun _=>[(2,.pt 0 0),(4,.pt 1 0),(7,.pt 2 0)]) (fun a=>⟨a.2,[],NN⟩) (fun a=>DAt a.2 2 (rV i) 6 cV w a.1∧cM a.1 w i∧a.1.n=(nn:Int)∧a.2.lookup 0=some (prC i nn A B C)∧a.2.lookup 1=some (dC lQ)∧cp ⟨a.2,[],NN⟩∧iz i nn A B C most=wj nn a.1 C) ?_ ?_
   ·refine rs hx fun K hK=>?_
    refine sa ?_
    refine nl hK ?_
    refine AW.condS rfl (fun oc=>?_) (fun oc=>?_)
    ·have FQ:0<i:=by
      rcases sd i with e|e
      ·rw[e] at hB
       rw[I4.1 hB] at oc
       cases oc
      ·exact e
     have hbg:=h_begin (lv:=[]) (N:=NN) Dk Dl (yu i) xB (by omega) (by omega) FQ hw0 (An oc)
     have iv:iz i nn A B C most=(if (jO (aG i nn A B most)).1≠0 then (⟨0,[],[],[]⟩,0,(jO (aG i nn A B most)).1) else if bD (jO (aG i nn A B most)).2.gk<0 then (⟨2,[],bR (jO (aG i nn A B most)).2 nn,[]⟩,(jO (aG i nn A B most)).2.piv,0) else wj nn (jO (aG i nn A B most)).2 C):=by
      unfold iz
      dsimp only
      rw[ai oc]
     have hSb:=xB.begin FQ hw0
     obtain⟨VB,hVB⟩:∃VB,VB=ov 2 (rV i) 6 cV w (jO (aG i nn A B most)).2 V:=⟨_,rfl⟩
     have hokB:cp ⟨VB,[],NN⟩:=by rw[hVB];exact Cq ob (by omega) (by omega) (by omega) fun j hj=>by rw[hSb.1.len] at hj;unfold cV;omega
     have hDb:DAt VB 2 (rV i) 6 cV w (jO (aG i nn A B most)).2:=by rw[hVB];exact hSb.1.at (yu i)
     have hoB:∀k ds,k≤1→V.lookup k=some ds→VB.lookup k=some ds:=fun k ds hk h=>by
      rw[hVB]
      exact DU hSb.1 (by omega) (fun e=>by unfold rV;rw[ah e];omega) (by omega) (fun j _=>by unfold cV;omega) h
     have IH:=hoB 0 _ (by decide) hl0
     have TN:=hoB 1 _ (by decide) hl1
     rw[←hVB] at hbg
     have hBd:=hDb.hd
     clear hVB
     refine AW.seq (rs hx fun K hK=>?_)
     refine sa ?_
     refine q1 (sHC hbg rfl (.inl (by kernel_rfl))) ?_
     refine sa ?_
     refine nl hK ?_
     refine rs hx fun K hK=>?_
     iterate 2 refine sa ?_
     refine nl hK ?_
     refine AW.condS rfl (fun hb=>?_) (fun hb=>?_)
     ·rw[ai (by simpa using hb)] at iv
      refine rs hx fun K hK=>?_
      refine s2 (dE tbI) (wX i) ?_
      refine sa ?_
      refine v1 (ys:=qG i ⟨0,[],[],[]⟩) (Pt.all (F:=dC lQ)) rfl rfl rfl ?_
      iterate 2 refine sa ?_
      refine nl hK ?_
      exact AW.ret (rtS vK iv aa (fun e=>by cases e) (by omega))
     ·rw[ah (by simpa using hb)] at iv
      refine AW.skip (rs hx fun K hK=>?_)
      iterate 4 refine sa ?_
      refine l1 ms.pk ?_
      refine cq (yJ _) ?_
      refine sa ?_
      refine nl hK ?_
      refine AW.condS rfl (fun hb=>?_) (fun hb=>?_)
      ·rw[ai (bw hb)] at iv
       have JH:(bR (jO (aG i nn A B most)).2 nn).length=i:=by
        unfold bR
        rw[bb,fa,hSb.1.lg]
        omega
       have MM:=Qv (lv:=[]) (N:=NN) hDb hSb.2 (by omega) (by omega) (by rw[JH];exact FQ)
       obtain⟨pr,hpr2⟩:∃pr,pr=bR (jO (aG i nn A B most)).2 nn:=⟨_,rfl⟩
       rw[←hpr2] at MM JH iv
       obtain⟨F2,OY⟩:∃F2,F2=qG i ⟨2,[],pr,[]⟩:=⟨_,rfl⟩
       have hle:D.le (.ag [dI .i64 2,dN,.gw NN 36 pr.length,dN]) (.ag F2):=by
        rw[OY,hNN]
        exact qk ⟨.inl rfl,.inr (.inr ⟨rfl,36,by decide,rfl⟩),.inl rfl,.inr (.inr ⟨rfl,36,by decide,rfl⟩),trivial⟩
       have hF2i:F2.all (D.idsC (NN+1))=true:=by
        rw[OY]
        unfold qG
        rw[ai rfl,←hNN]
        simp only[f5,ic,eI,b8]
        exact⟨rfl,rfl,aA (show NN<NN+1 by omega),rfl⟩
       have GD:F2.length=4:=by rw[OY];rfl
       refine sj [(4,.pt 1 0),(5,dI .i64 (jO (aG i nn A B most)).2.piv),(6,dI .i64 0)] ⟨(1,F2)::(NN,dC ((cW aw).f pr))::VB,[],NN+1⟩ ?_ ?_
       ·refine dw (DW.split 1 6 (by decide) ?_ ?_)
        ·refine DW.split 6 7 (by decide) ?_ ?_
         ·refine dwg [] [0,1,2,3,4,5,6,7,8,9] hx (by kernel_rfl) (by kernel_rfl) (by kernel_rfl) fun K hK=>?_
          dsimp only[d8,mP,mZ,List.map]
          refine sa ?_
          refine q1 (sHC MM rfl (.inl (by kernel_rfl))) ?_
          refine s2 (dE tbI) hle ?_
          refine sa ?_
          refine sa ?_
          refine sa ?_
          refine c1 oH ?_
          refine v1 (ys:=F2) (Pt.all (F:=dC lQ)) rfl GD rfl ?_
          refine sa ?_
          refine sa ?_
          refine .nil (hK _ _ ⟨rfl,wk1 vK⟩)
         ·refine dwg [] [0,1,2,7,3,4,5,6,8,9] hx (by kernel_rfl) (by kernel_rfl) (by kernel_rfl) fun K hK=>?_
          dsimp only[d8,mP,mZ,List.map]
          refine sa ?_
          refine q1 (sHC MM rfl (.inl (by kernel_rfl))) ?_
          refine s2 (dE tbI) hle ?_
          refine v1 (ys:=F2) (Pt.all (F:=dC lQ)) rfl GD rfl ?_
          refine sa ?_
          refine sa ?_
          refine sa ?_
          refine c1 oH ?_
          refine sa ?_
          refine sa ?_
          refine .nil (hK _ _ ⟨rfl,wk1 vK⟩)
        ·refine dwg [] [3,4,5,6,0,1,2,7,8,9] hx (by kernel_rfl) (by kernel_rfl) (by kernel_rfl) fun K hK=>?_
         dsimp only[d8,mP,mZ,List.map]
         refine sa ?_
         refine sa ?_
         refine sa ?_
         refine c1 oH ?_
         refine sa ?_
         refine q1 (sHC MM rfl (.inl (by kernel_rfl))) ?_
         refine s2 (dE tbI) hle ?_
         refine v1 (ys:=F2) (Pt.all (F:=dC lQ)) rfl GD rfl ?_
         refine sa ?_
         refine sa ?_
         refine .nil (hK _ _ ⟨rfl,wk1 vK⟩)
       ·exact AW.ret (rtS vK iv (by rw[←OY];exact aa) (fun _=>⟨by rw[←hNN];exact al (by omega) aa,by omega⟩) (by omega))
      ·rw[ah (dp hb)] at iv
       exact AW.skip (⟨((jO (aG i nn A B most)).2,VB),⟨hDb,hSb.1,hSb.2,IH,TN,hokB,iv⟩,wk1 vK⟩)
    ·refine AW.skip ?_
     have iv:iz i nn A B C most=wj nn (aG i nn A B most) C:=by
      unfold iz
      dsimp only
      rw[ah (by rw[oc];simp)]
     exact⟨(aG i nn A B most,V),⟨Dl,xB,rfl,hl0,hl1,ob,iv⟩,wk1 vK⟩
   ·rintro⟨d2,X⟩ ⟨hD2,hS2,FP,FJ,Hb,hokX,iv⟩
    dsimp only at hD2 hS2 FP FJ Hb hokX iv ⊢
    have haim:=h_aim (lv:=[]) (N:=NN) (c:=C) Dk hD2 (yu i) hS2 (by omega) (by omega) hw0 (by omega)
    have hSA:=hS2.aim C
    have hfA:Dif i 2 (rV i) (NN+3) cV:=⟨(yu i).dR,by omega,by omega,fun j hj=>⟨((yu i).C1 j hj).1,((yu i).C1 j hj).2.1,by unfold cV;omega⟩,(yu i).C2⟩
    obtain⟨VA,hVA⟩:∃VA,VA=ov 2 (rV i) (NN+3) cV w (mN d2 C).2 X:=⟨_,rfl⟩
    have Gx:cp ⟨VA,[],NN+4⟩:=by rw[hVA];exact Cq (hokX.up (by omega)) (by omega) (by omega) (by omega) fun j hj=>by rw[hSA.1.len] at hj;unfold cV;omega
    have hDA:DAt VA 2 (rV i) (NN+3) cV w (mN d2 C).2:=by rw[hVA];exact hSA.1.at hfA
    have hoA:∀{W:List (Nat×List D)} {e:Dic},cM e w i→∀k ds,k≤1→W.lookup k=some ds→(ov 2 (rV i) (NN+3) cV w e W).lookup k=some ds:=fun {W e} hSe k ds hk h=>
     DU hSe (by omega) (fun e=>by unfold rV;rw[ah e];omega) (by omega) (fun j _=>by unfold cV;omega) h
    have hA1:VA.lookup 1=some (dC lQ):=by rw[hVA];exact hoA hSA.1 1 _ (by decide) Hb
    rw[←hVA] at haim
    clear hVA
    refine AW.seq (rs hx fun K hK=>?_)
    iterate 2 refine sa ?_
    refine c1 (tx (t:=4) rfl) ?_
    refine q1 (sHC haim rfl (.inl (by kernel_rfl))) ?_
    refine sa ?_
    refine nl hK ?_
    refine rs hx fun K hK=>?_
    iterate 2 refine sa ?_
    refine nl hK ?_
    refine AW.condS rfl (fun hb=>?_) (fun hb=>?_)
    ·have iv:=iv.trans (endP_1 (by simpa using hb))
     refine rs hx fun K hK=>?_
     refine s2 (dE tbI) (wX i) ?_
     refine sa ?_
     refine v1 (ys:=qG i ⟨0,[],[],[]⟩) (Pt.all (F:=dC lQ)) rfl rfl rfl ?_
     iterate 2 refine sa ?_
     refine nl hK ?_
     exact AW.ret (rtS vK iv aa (fun e=>by cases e) (by omega))
    have fJ:¬(mN d2 C).1≠0:=by simpa using hb
    clear hb
    refine AW.skip ?_
    have himp:=Hg (lv:=[]) (N:=NN+4) (show rV i<NN+4 by omega) hDA hfA hSA.1 (by omega) (by omega)
    have Es:=hSA.1.improveP
    obtain⟨VI,hVI⟩:∃VI,VI=ov 2 (rV i) (NN+3) cV w (aS (mN d2 C).2).2 VA:=⟨_,rfl⟩
    have hokVI:cp ⟨VI,[],NN+4⟩:=by rw[hVI];exact Cq Gx (by omega) (by omega) (by omega) fun j hj=>by rw[Es.1.len] at hj;unfold cV;omega
    have hDI:DAt VI 2 (rV i) (NN+3) cV w (aS (mN d2 C).2).2:=by rw[hVI];exact Es.1.at hfA
    have hI1:VI.lookup 1=some (dC lQ):=by rw[hVI];exact hoA Es.1 1 _ (by decide) hA1
    rw[←hVI] at himp
    clear hVI
    have wI:=fJ
    have SR:iz i nn A B C most=wj nn d2 C:=iv
    have hnF:(aS (mN d2 C).2).2.n=(nn:Int):=by rw[Es.2.2.1,hSA.2,FP]
    have hgc:(aS (mN d2 C).2).2.gc.length=w:=Es.1.lg
    obtain⟨hs1,LT⟩:=Es.2.2.2
    obtain⟨q,hq⟩:∃q,q=aS (mN d2 C).2:=⟨_,rfl⟩
    have hE2:=fun h2=>SR.trans (endP_2 fJ h2)
    have hE3:=fun h2 h3=>SR.trans (endP_3 fJ h2 h3)
    have hE4:=fun h2 (s:Nat) h3=>SR.trans (endP_4 (s:=s) fJ h2 h3)
    rw[←hq] at himp Es hDI hnF hgc hs1 LT hE2 hE3 hE4
    clear hq
    refine rs hx fun K hK=>?_
    refine sa ?_
    refine q1 (sHC himp rfl (.inl (by kernel_rfl))) ?_
    iterate 3 refine sa ?_
    refine a1 (F:=[.lit (.int .i64 0)]) tbI ?_
    refine v1 (F2:=[dI .i64 q.1.1]) (ys:=[dI .i64 q.1.1]) (Pt.all (F:=dC [.lit (.int .i64 0)])) rfl rfl rfl ?_
    refine sa ?_
    refine nl hK ?_
    obtain⟨W,hW⟩:∃W,W=(NN+4,[dI .i64 q.1.1])::(NN+4,dC [.lit (.int .i64 0)])::VI:=⟨_,rfl⟩
    have hWx:∀k ds,VI.lookup k=some ds→W.lookup k=some ds:=fun k ds h=>by
     have:=hokVI.lt h
     rw[hW];exact al (by omega) (al (by omega) h)
    have hWs:W.lookup (NN+4)=some [dI .i64 q.1.1]:=by rw[hW];exact aa
    have hokW:cp ⟨W,[],NN+5⟩:=by
     rw[hW]
     exact ((hokVI.up (by omega)).consM (by omega) (ez _)).consM (by omega) rfl
    have hDW:=hDI.up hWx
    have hW1:=hWx 1 _ hI1
    have hWd:=hDW.hd
    rw[←hW]
    clear hW
    refine AW.seq (rs hx fun K hK=>?_)
    iterate 2 refine sa ?_
    refine nl hK ?_
    refine AW.condS rfl (fun hb=>?_) (fun hb=>?_)
    ·have iv:=hE2 (by simpa using hb)
     refine rs hx fun K hK=>?_
     refine s2 (dE tbI) (wX i) ?_
     refine sa ?_
     refine v1 (ys:=qG i ⟨0,[],[],[]⟩) (Pt.all (F:=dC lQ)) rfl rfl rfl ?_
     iterate 2 refine sa ?_
     refine nl hK ?_
     exact AW.ret (rtS vK iv aa (fun e=>by cases e) (by omega))
    have fG:¬q.1.2≠0:=by simpa using hb
    clear hb
    refine AW.skip ?_
    have wa:=HC.conv (ds:=[.pt 2 0,.e (.lit (.func (.func 48) #[] #[])),.e (.lit (.func (.func 49) #[] #[]))]) (ds':=[.pt 2 0,.fn 48 [],.fn 49 []]) rfl (fun g w' j a b v ha hb hr=>by
      match j with
      |0=>injection ha with ha;injection hb with hb;subst ha hb;exact hr
      |1=>injection ha with ha;injection hb with hb;subst ha hb;exact Oo hr
      |2=>injection ha with ha;injection hb with hb;subst ha hb;exact Oo hr
      |j+3=>cases ha)
     (KP (lv:=[]) (N:=NN+5) (fo:=48) (ft:=49) (ko:=[]) (kt:=[]) (of:=Row.k) (ot:=fun _=>0) hDW Es.1 (by omega) hnF (by omega) (fun k hk=>absurd hk qI) (fun k hk=>absurd hk qI) (fun _=>by omega) (fun V2 FI M j _ _=>TJ) (fun V2 FI M v _=>TI v))
    refine rs hx fun K hK=>?_
    refine sa ?_
    refine q1 (sHC wa rfl (.inl (by kernel_rfl))) ?_
    refine sa ?_
    refine nl hK ?_
    refine AW.seq (rs hx fun K hK=>?_)
    refine c1 (Pt.all (F:=[dI .i64 q.1.1])) ?_
    refine sa ?_
    refine nl hK ?_
    refine AW.condS rfl (fun hb=>?_) (fun hb=>?_)
    ·have iv:=hE3 fG (bw hb)
     have MM:=TD (lv:=[]) (N:=NN+5) (nn:=nn) hDW hnF (by omega) (by omega)
     obtain⟨F2,OY⟩:∃F2,F2=qG i ⟨1,cO q.2.rows nn Row.k fun _=>nOf 0,bR q.2 nn,[]⟩:=⟨_,rfl⟩
     have hle:D.le (.ag [dI .i64 1,.e (slE aw (cO q.2.rows nn Row.k fun _=>nOf 0)),.e (slE aw (bR q.2 nn)),dN]) (.ag F2):=by
      rw[OY]
      exact qk ⟨.inl rfl,.inl rfl,.inl rfl,.inr (.inr ⟨rfl,36,by decide,rfl⟩),trivial⟩
     have hF2i:F2.all (D.idsC (NN+5))=true:=by rw[OY];rfl
     have GD:F2.length=4:=by rw[OY];rfl
     refine sj [(4,.pt 1 0),(5,dI .i64 q.2.piv),(6,dI .i64 0)] ⟨(1,F2)::W,[],NN+5⟩ ?_ ?_
     ·refine dw (DW.split 2 7 (by decide) ?_ ?_)
      ·refine DW.split 7 8 (by decide) ?_ ?_
       ·refine dwg [] [0,1,2,3,4,5,6,7,8,9,10] hx (by kernel_rfl) (by kernel_rfl) (by kernel_rfl) fun K hK=>?_
        dsimp only[d8,mP,mZ,List.map]
        refine sa ?_
        refine sa ?_
        refine q1 (sHC MM rfl (.inl (by kernel_rfl))) ?_
        refine s2 (dE tbI) hle ?_
        refine sa ?_
        refine sa ?_
        refine sa ?_
        refine c1 oH ?_
        refine v1 (ys:=F2) (Pt.all (F:=dC lQ)) rfl GD rfl ?_
        refine sa ?_
        refine sa ?_
        refine .nil (hK _ _ ⟨rfl,wk1 vK⟩)
       ·refine dwg [] [0,1,2,3,8,4,5,6,7,9,10] hx (by kernel_rfl) (by kernel_rfl) (by kernel_rfl) fun K hK=>?_
        dsimp only[d8,mP,mZ,List.map]
        refine sa ?_
        refine sa ?_
        refine q1 (sHC MM rfl (.inl (by kernel_rfl))) ?_
        refine s2 (dE tbI) hle ?_
        refine v1 (ys:=F2) (Pt.all (F:=dC lQ)) rfl GD rfl ?_
        refine sa ?_
        refine sa ?_
        refine sa ?_
        refine c1 oH ?_
        refine sa ?_
        refine sa ?_
        refine .nil (hK _ _ ⟨rfl,wk1 vK⟩)
      ·refine dwg [] [4,5,6,7,0,1,2,3,8,9,10] hx (by kernel_rfl) (by kernel_rfl) (by kernel_rfl) fun K hK=>?_
       dsimp only[d8,mP,mZ,List.map]
       refine sa ?_
       refine sa ?_
       refine sa ?_
       refine c1 oH ?_
       refine sa ?_
       refine sa ?_
       refine q1 (sHC MM rfl (.inl (by kernel_rfl))) ?_
       refine s2 (dE tbI) hle ?_
       refine v1 (ys:=F2) (Pt.all (F:=dC lQ)) rfl GD rfl ?_
       refine sa ?_
       refine sa ?_
       refine .nil (hK _ _ ⟨rfl,wk1 vK⟩)
     ·exact AW.ret (rtS vK iv (by rw[←OY];exact aa) (fun e=>by cases e) (by omega))
    have vI:¬q.1.1<0:=dp hb
    clear hb
    obtain⟨s,hs⟩:∃s:Nat,q.1.1=(s:Int):=⟨q.1.1.toNat,by omega⟩
    have iv:=hE4 fG s hs
    rw[hs] at hWs
    have hsw:s<w:=by omega
    refine AW.skip ?_
    have hval2:=KP (lv:=[]) (N:=NN+5) (fo:=50) (ft:=51) (ko:=[NN+4]) (kt:=[NN+4]) (of:=fun r=>r.c[s]!) (ot:=fun v=>if (v:Int)=(s:Int) then 1 else 0) hDW Es.1 (by omega) hnF (by omega) (fun k hk=>by rw[qH.1 hk];omega) (fun k hk=>by rw[qH.1 hk];omega) (fun v=>by split <;> omega)
     (fun V2 FI M j GC hj=>TH (GC _ _ hWs) (GC _ _ (hDW.hC j _ (wi (by rw[Es.1.len];exact hj)))) (hDW.lC j _ (wi (by rw[Es.1.len];exact hj))) hsw) (fun V2 FI M v GC=>TG v (GC _ _ hWs))
    refine rs hx fun K hK=>?_
    refine sa ?_
    refine s1 Fm ?_
    refine s1 Fm ?_
    refine q1 (sHC hval2 rfl (.inl (by kernel_rfl))) ?_
    refine sa ?_
    refine nl hK ?_
    obtain⟨F2,OY⟩:∃F2,F2=qG i ⟨3,cO q.2.rows nn Row.k fun _=>nOf 0,[],cO q.2.rows nn (fun r=>r.c[s]!) fun v=>nOf (if (v:Int)=(s:Int) then 1 else 0)⟩:=⟨_,rfl⟩
    have hle:D.le (.ag [dI .i64 3,.e (slE aw (cO q.2.rows nn Row.k fun _=>nOf 0)),dN,.e (slE aw (cO q.2.rows nn (fun r=>r.c[s]!) fun v=>nOf (if (v:Int)=(s:Int) then 1 else 0)))]) (.ag F2):=by
     rw[OY]
     exact qk ⟨.inl rfl,.inl rfl,.inr (.inr ⟨rfl,36,by decide,rfl⟩),.inl rfl,trivial⟩
    have hF2i:F2.all (D.idsC (NN+5))=true:=by rw[OY];rfl
    have GD:F2.length=4:=by rw[OY];rfl
    refine sj [(4,.pt 1 0),(5,dI .i64 q.2.piv),(6,dI .i64 0)] ⟨(1,F2)::W,[],NN+5⟩ ?_ ?_
    ·refine dw (DW.split 6 7 (by decide) ?_ ?_)
     ·refine dwg [] [0,1,2,3,4,5,6,7,8,9] hx (by kernel_rfl) (by kernel_rfl) (by kernel_rfl) fun K hK=>?_
      dsimp only[d8,mP,mZ,List.map]
      refine sa ?_
      refine sa ?_
      refine s2 (dE tbI) hle ?_
      refine sa ?_
      refine sa ?_
      refine sa ?_
      refine c1 oH ?_
      refine v1 (ys:=F2) (Pt.all (F:=dC lQ)) rfl GD rfl ?_
      refine sa ?_
      refine sa ?_
      refine .nil (hK _ _ ⟨rfl,wk1 vK⟩)
     ·refine dwg [] [0,1,2,7,3,4,5,6,8,9] hx (by kernel_rfl) (by kernel_rfl) (by kernel_rfl) fun K hK=>?_
      dsimp only[d8,mP,mZ,List.map]
      refine sa ?_
      refine sa ?_
      refine s2 (dE tbI) hle ?_
      refine v1 (ys:=F2) (Pt.all (F:=dC lQ)) rfl GD rfl ?_
      refine sa ?_
      refine sa ?_
      refine sa ?_
      refine c1 oH ?_
      refine sa ?_
      refine sa ?_
      refine .nil (hK _ _ ⟨rfl,wk1 vK⟩)
    ·exact AW.ret (rtS vK iv (by rw[←OY];exact aa) (fun e=>by cases e) (by omega))
end
end
section
theorem AR.tu {hp:Hp}{ds es:List D}(h:ARs hp ds es):AR hp (.tu ds) (.tu es):=by
 intro B g w v hr hd
 obtain⟨h1,h2⟩:=h.get
 cases hd with
 |tu _ cs hl ML=>
  refine aD.tu es cs (by omega) fun j e u hj hu=>?_
  obtain⟨d,h3,h4⟩:=h2 j e hj
  exact h4 B g w u hr (ML j d u h3 hu)
theorem HC.toP {P:Program}{f:FuncId}{ds rs:List D}{d:D}{hp':Hp}(hc:HC P f ds ⟨[],[],0⟩ d hp')(ha:AR hp' d (.tu rs)):aq P f ds (.tu rs):=by
 refine⟨hc.1,fun w F vs hF hsz cQ=>?_⟩
 have hr:HR w.heap.size ⟨[],[],0⟩ ⟨fun _=>0,fun _=>default,F⟩ w:=
  ⟨fun k ds h=>by simp at h,fun k k' a b h=>by simp at h,fun id n e h=>by simp at h,fun id BH a b c h=>by simp at h,ax _,hF⟩
 refine (hc.2 w.heap.size _ w vs hr hsz cQ).mono ?_
 rintro e w' ⟨v,g',rfl,pW,_,hd,hb,hfx⟩
 refine⟨v,rfl,(ha _ g' w' v pW hd).less fun p hp=>⟨hfx p (hF p hp) hp,fun k ds hk he=>?_⟩,hb⟩
 have h1:=(pW.var k ds hk).2.1
 have h2:=hF p hp
 omega
def mkNu(x:am)(h:okR x):Nu:=⟨x,h⟩
open Classical in
def n9(x:am):Nu:=if h:okR x then mkNu x h else default
theorem nv_nuOf {x:am}(h:okR x):nv (n9 x)=x:=by unfold n9;rw[dif_pos h];rfl
theorem nuOf_nv(x:Nu):n9 (nv x)=x:=by unfold n9;rw[dif_pos (show okR (nv x) from x.2)];rfl
def okL(l:List am):Prop:=∀x∈l,okR x
theorem tZ {l:List am}(h:okL l):(l.map n9).map nv=l:=by
 rw[qv]
 exact (sr fun x hx=>nv_nuOf (h x hx)).trans (ET _)
theorem DY(l:List Nu):okL (l.map nv):=fun x hx=>by
 obtain⟨a,_,rfl⟩:=uh.1 hx
 exact a.2
theorem qE(l:List Nu):(l.map nv).map n9=l:=by
 rw[qv]
 exact (sr fun x _=>nuOf_nv x).trans (ET _)
structure VP(p:aU)(m nn:Nat):Prop where
 hr:p.vA.vR=m
 hc:p.vA.vC=nn
 hm:m≤2000
 hn:nn≤2000
 oA:okL p.vA.vV
 oB:okL p.vB
 oC:okL p.vC
 lA:p.vA.vV.length=m*nn
 lB:p.vB.length=m
 lC:p.vC.length=nn
 gA:∀i,i<(p.vA.vV.map n9).length→ar (p.vA.vV.map n9)[i]! =true
 gB:∀i,i<(p.vB.map n9).length→ar (p.vB.map n9)[i]! =true
 gC:∀i,i<(p.vC.map n9).length→ar (p.vC.map n9)[i]! =true
def r7(r:Ans×Int×Int):ct×Int×Int:=(⟨r.1.kind,r.1.x.map nv,r.1.y.map nv,r.1.ray.map nv⟩,r.2.1,r.2.2)
open Classical in
def gW(mX:aU)(kV:Int):Option (ct×Int×Int):=
 bnd (gV mX) fun v=>if v=true∧0≤kV then
  if VP mX mX.vA.vR.toNat mX.vA.vC.toNat∧kV≤9223372036854775807 then some (r7 (iz mX.vA.vR.toNat mX.vA.vC.toNat (mX.vA.vV.map n9) (mX.vB.map n9) (mX.vC.map n9) kV)) else none
 else some (r7 (⟨0,[],[],[]⟩,0,1))
theorem VP.cells {p:aU}{m nn:Nat}(h:VP p m nn):dG dJ p=.ag (prC m nn (p.vA.vV.map n9) (p.vB.map n9) (p.vC.map n9)):=by
 unfold prC
 rw[kU,kU,kU,tZ h.oA,tZ h.oB,tZ h.oC,←h.hr,←h.hc]
 rfl
theorem AR.dn {hp:Hp}{e:E}(h:(D.e e).pure=true):AR hp (.e e) (.e e):=AR.data (d:=.e e) h
theorem AR.same {hp:Hp}{d:D}(h:d.pure=true):AR hp d d:=by
 have h2:=AR.data (hp:=hp) (d:=d) (by rw[Dc h];exact h)
 rwa[Dc h] at h2
theorem UJ(m:Nat)(r:Ans×Int×Int):AR (Gk m r) (Mf m r) (.tu [dG jC (r7 r).1,dI .i64 (r7 r).2.1,dI .i64 (r7 r).2.2]):=by
 have hA:AR (Gk m r) (.ag (qG m r.1)) (dG jC (r7 r).1):=by
  have e:dG jC (r7 r).1=.ag [dI .i64 r.1.kind,.e (slE aw r.1.x),.e (slE aw r.1.y),.e (slE aw r.1.ray)]:=by
   rw[kU,kU,kU];rfl
  rw[e]
  refine AR.ag ⟨AR.dn rfl,AR.dn rfl,?_,AR.dn rfl,trivial⟩
  by_cases hk:r.1.kind=2
  ·rw[ai hk]
   refine AR.gw (F:=(cW aw).f r.1.y) ?_ (by decide) ?_
   ·unfold Gk
    rw[ai hk]
    exact al (by omega) aa
   ·exact ip aw.f aw.h r.1.y
  ·rw[ah hk]
   exact AR.dn rfl
 exact AR.tu ⟨hA,AR.dn rfl,AR.dn rfl,trivial⟩
theorem TF {cs:List D}{v:Bool}{most:Int}(hlen:cs.length=5)(hpu:(D.ag cs).pure=true)(hv:aq prog 15 [.ag cs] (dB v))(hbad:¬(v=true∧0≤most)):
  HC prog 12 [.ag cs,dI .i64 most] ⟨[],[],0⟩ (Mf 0 (⟨0,[],[],[]⟩,0,1)) (Gk 0 (⟨0,[],[],[]⟩,0,1)):=by
 refine HC.of (rs:=[.cell 4 29,.tmp 5,.tmp 6]) tok func12 rfl rfl (a9 rfl) rfl (fun cx hx vK hok=>?_)
 simp only[fC,Nat.reduceAdd,br]
 refine rs hx fun K hK=>?_
 refine s1 (fQ (cs:=cs)) ?_
 refine a1 (F:=lQ) tbI ?_
 iterate 2 refine sa ?_
 refine nl hK ?_
 refine AW.seq (rs hx fun K hK=>?_)
 refine p1 (ht:=rJ) (Pt.all (F:=cs)) hlen ?_
 refine q1 (sHC (HC.frz (ds:=[.ag cs]) hv ⟨AR.same hpu,trivial⟩ rfl) rfl (.inr (Fr.refl _))) ?_
 iterate 2 refine sa ?_
 cases v with
 |false=>
  iterate 2 refine gn rfl ?_
  refine s1 (d:=dB true) (oU rfl) ?_
  refine nl hK ?_
  refine AW.condT rfl rfl (rs hx fun K hK=>?_)
  refine s2 (dE tbI) (wX 0) ?_
  refine v1 (ys:=qG 0 ⟨0,[],[],[]⟩) (Pt.all (F:=dC lQ)) rfl rfl rfl ?_
  iterate 2 refine sa ?_
  refine nl hK ?_
  exact AW.ret (rtS vK rfl aa (fun e=>by cases e) (by omega))
 |true=>
  iterate 2 refine ga rfl ?_
  refine s1 (d:=dB (decide (most<0))) (l6 rfl) ?_
  refine nl hK ?_
  refine AW.condT rfl (aA (by simp only[true_and] at hbad;omega)) (rs hx fun K hK=>?_)
  refine s2 (dE tbI) (wX 0) ?_
  refine v1 (ys:=qG 0 ⟨0,[],[],[]⟩) (Pt.all (F:=dC lQ)) rfl rfl rfl ?_
  iterate 2 refine sa ?_
  refine nl hK ?_
  exact AW.ret (rtS vK rfl aa (fun e=>by cases e) (by omega))
theorem qC {mX:aU}{kV:Int}{r:ct×Int×Int}(h:gW mX kV=some r):aq prog 12 [dG dJ mX,dI .i64 kV] (.tu [dG jC r.1,dI .i64 r.2.1,dI .i64 r.2.2]):=by
 unfold gW at h
 obtain⟨v,hv,h⟩:=ae h
 have hv:=qB hv
 by_cases hg:v=true∧0≤kV
 ·rw[ai hg] at h
  by_cases hq:VP mX mX.vA.vR.toNat mX.vA.vC.toNat∧kV≤9223372036854775807
  ·rw[ai hq] at h
   have h:=bC h
   subst h
   obtain⟨hq,Eh⟩:=hq
   rw[hg.1] at hv
   rw[hq.cells] at hv ⊢
   have h2:=OX (most:=kV) hv hq.hm hq.hn (by rw[bb];exact hq.lA) (by rw[bb];exact hq.lB) (by rw[bb];exact hq.lC) hq.gA hq.gB hq.gC hg.2 Eh
   exact HC.toP h2 (UJ _ _)
  ·rw[ah hq] at h;cases h
 ·rw[ah hg] at h
  have h:=bC h
  subst h
  have h2:=TF (cs:=dC (dJ.f mX)) ((eA _).trans (dJ.h mX)) (jJ dJ mX) hv hg
  exact HC.toP h2 (UJ _ _)
end
theorem o0:El prog 22 43 (.agg #[.bool false,.bool false,aj,aj,aj,aj,aj,aj,aj,aj,aj,aj,aj,aj,aj,aj,aj,aj,.bool false,.bool false,aj,aj,aj,aj,aj,aj,aj,aj,aj,aj,aj,aj,aj,aj,aj,aj]) 36 136:=⟨underlying22,info_parts (by kernel_rfl),rfl,by decide⟩
theorem oW(n:Nat)(us:List Value)(v:Value)(w:World)(hl:Sl w v 36 n us)(h1:∀u∈us,u.oneCell'=true)(hn:n≤1000000):
  Calls prog 138 #[v] w fun e w'=>∃q,e=.returned q∧w'.ownsRow w.heap.size 43 36 q n us∧Below w.heap.size w w':=by
 obtain⟨A,c,rfl,qz,o9,hr⟩:=id hl
 cases A with
 |none=>
  obtain rfl:n=0:=by
   rcases sd n with h|h
   ·exact h
   ·obtain⟨_,h,_⟩:=hr.2 h;cases h
  obtain rfl:us=[]:=sI (by simpa using hr.1)
  have he:(binOp .eql 22 (.slice none 0 c) (.slice none 0 0)).run prog w=.ok (.bool true) w:=by kernel_rfl
  go_enter func138,ntmps138
  go_wp2_with fail
  go_ret
  exact⟨_,rfl,⟨rfl,.inl ⟨rfl,rfl⟩⟩,Below.refl _ _⟩
 |some ad=>
  have he:(binOp .eql 22 (.slice (some ad) n c) (.slice none 0 0)).run prog w=.ok (.bool false) w:=by kernel_rfl
  go_enter func138,ntmps138
  have hown0:=own_mtG w 43 w.heap.size 36 (ax _)
  have IH:=(Below.refl w.heap.size w).alloc (ax _) (.cells #[] 43)
  have FR:=hl.below IH
  have HL:=Lib.hid FR
  have H1:=Lib.hid h1
  clear hl hr FR h1
  go_wp2_with (at_builtin;refine zJ _ rfl _ _ _ rfl o0 w.heap.size _ _ _ rfl hown0 _ _ _ rfl HL.out H1.out (by omega) (by omega) (by simp) w w.heap.size IH (ax _) ?_)
  intro v' w' lO hb
  go_wp2_with fail
  go_ret
  refine⟨_,rfl,?_,hb⟩
  simpa using lO
theorem oX(n:Nat)(xs:List E)(hn:n≤1000000):aq prog 138 [.e (.sl 36 n xs)] (.own 43 36 n xs):=
 Us (by decide) ⟨_,func138,rfl,rfl⟩ (fun us v w h1 h2=>oW n us v w h1 h2 hn)
def fU(l:List am):Option (List am):=gd (l.length≤1000000) (some l)
theorem pg {l r:List am}(h:fU l=some r):aq prog 138 [dL ak l] (.own 43 ak.sz r.length (r.flatMap ak.f)):=by
 obtain⟨hn,h⟩:=ay h
 obtain rfl:=bC h
 exact oX _ _ hn
def eT(er:List am):(List am)×Int→Option (((List am)×Int)⊕((List am))):=fun (aP,bp)=>cnd (decide (bp<((er).length:Int))) (gd (0≤bp∧bp<((er).length:Int)) (bnd (kN ((er)[(bp).toNat]!)) fun x6=>gd ((aP++[x6]).length*136≤140737488355328) (some (.inl (aP++[x6],i64.wrap (bp+(1:Int))))))) (some (.inr aP))
def lY(er:List am):Option (List am):=bnd (fU er) fun x1=>bnd (bq (eT er) (x1,(0:Int))) fun be=>some be
theorem zK {er:List am}{r:List am}(h:lY er=some r):aq prog 74 [dL ak er] (.own 43 ak.sz r.length (r.flatMap ak.f)):=by
 refine bh (rs:=[.tmp 2]) (fun cx hx h0=>?_) func74
 unfold lY at h
 refine rs hx fun K hK=>?_
 refine s1 (d:=dO 0 ak ([]:List am)) (gF b9 aR) ?_
 refine nl hK ?_
 refine rs hx fun K hK=>?_
 refine sa ?_
 obtain⟨x1,xy,h⟩:=ae h
 refine s1 (iN rfl (pg xy) rfl (lA (au _) lAn)) ?_
 refine nbr hK ?_
 refine AW.seq (ra hx ?_)
 refine AW.block ?_
 obtain⟨be,hy,h⟩:=ae h
 refine lp (S:=(List am)×Int) (X:=(List am)) (fun (aP,bp)=>[(3,dO 0 ak aP),(8,dL ak er),(9,dI .i64 ((er).length:Int)),(10,dI .i64 bp)]) (fun (aP,bp)=>⟨[],[(0,(aP).length,36,43)],1⟩) (PE cx (.exit 0) (fun be=>[(3,dO 0 ak be)]) fun be=>⟨[],[(0,(be).length,36,43)],1⟩) hy ?_ ?_ ?_
 exact wk0 h0 [1]
 clear hy h
 rintro⟨aP,bp⟩ y h
 dsimp only[eT] at h
 refine ra hx ?_
 refine AW.seq (cdh h rfl (fun fG h=>?_) (fun fG h=>?_))
 refine AW.skip (AW.seq (AW.block (rs hx fun K hK=>?_)))
 obtain⟨OU,h⟩:=ay h
 have hn5:(bp).toNat<(er).length:=by omega
 refine sbr ?_
 refine s1 (d:=dG ak ((er)[(bp).toNat]!)) (jF (c:=ak) (l:=er) (n:=(bp).toNat) (o:=0) aR hn5 (eY _ _ rfl)) ?_
 refine nbr hK ?_
 refine rq hx fun K hK=>?_
 refine mbr ?_
 refine scb h sP fun x6 h=>?_
 refine s1 (lj ([x6]:List am) ak b9 aR) ?_
 obtain⟨hc8,h⟩:=ay h
 refine s1 (d:=dO 0 ak (aP++[x6])) (qN b9 aR hc8) ?_
 refine nbr hK ?_
 refine rb hx ?_
 exact pel h h0 [0]
 exact AW.exit (per h h0 [0])
 refine lw0 ?_
 refine ra hx ?_
 refine AW.ret ?_
 cases h
 exact od.own rfl rfl
def D.ren2(ρ:Nat→Nat):D→D
 | .tu ds=>.tu (ds.map (D.ren ρ))
 |d=>d.ren ρ
def D.okF2:D→Bool
 | .tu ds=>ds.all D.okF
 |d=>d.okF
theorem fwdF2 {hp c7:Hp}{g g2:Gh}{w:World}{ρ:Nat→Nat}{d:D}{v:Value}(h:aD hp g w d v)(hn:d.okF2=true)(ru:∀i,i<hp.next→ρ i<c7.next)(hμ:∀i,i<hp.next→g2.μ (ρ i)=g.μ i)(hτ:∀i,i<hp.next→g2.τ (ρ i)=g.τ i)(hF:g2.F=g.F)
  (hl:∀id,id<hp.next→∀y,c7.live.lookup (ρ id)=some y→hp.live.lookup id=some y):aD c7 g2 w (d.ren2 ρ) v:=by
 cases d with
 |tu ds=>cases h with
  |tu _ cs hlen hr=>
   refine .tu _ cs (by simpa using hlen) fun j d u h2 h3=>?_
   rw[dV] at h2
   obtain⟨d0,h4,rfl⟩:=yx.1 h2
   exact Eu (hr j d0 u h4 h3) (ba.1 hn d0 (dZ h4)) ru hμ hτ hF hl
 |ag ds=>exact Eu h hn ru hμ hτ hF hl
 |e y=>exact Eu h hn ru hμ hτ hF hl
 |own id z n xs=>exact Eu h hn ru hμ hτ hF hl
 |fu z n xs=>exact Eu h hn ru hμ hτ hF hl
 |fp xs off=>exact Eu h hn ru hμ hτ hF hl
 |pt k off=>exact Eu h hn ru hμ hτ hF hl
 |ow k off z n=>exact Eu h hn ru hμ hτ hF hl
 |gw k z n=>exact Eu h hn ru hμ hτ hF hl
 |fn f ks=>exact Eu h hn ru hμ hτ hF hl
 |opt b d=>cases hn
 |top=>exact .top v
theorem HC.frame2 {P:Program}{f:FuncId}{O5 ds:List D}{r:D}{FG n8 vs:List (Nat×List D)}{FH sH lv:List (Nat×Nat×Nat×TypeId)}{m n' N:Nat}(h:HC P f O5 ⟨FG,FH,m⟩ r ⟨n8,sH,n'⟩)
  (os:List Nat) (hos:os.length=m) (Ap:os.Nodup) (bI:∀o∈os,o<N) (ha:frA (fun i=>os.getD i 0) m ds O5)
  (hv:∀k ds,FG.lookup k=some ds→k<m∧(∃ta,vs.lookup (os.getD k 0)=some ta∧yF ta (ds.map (D.renC fun i=>os.getD i 0)))∧ds.all (D.idsC m)=true∧ds.all D.noO=true)
  (hl:∀id y,FH.lookup id=some y→id<m∧lv.lookup (os.getD id 0)=some y)
  (hr:r.okF2=true) (hvo:∀p∈n8,p.2.all D.okC=true):
  HC P f ds ⟨vs,lv,N⟩ (r.ren2 (rn os m N)) ⟨frV (rn os m N) os n8 vs,frL (rn os m N) os sH lv,N+(n' - m)⟩:=by
 subst hos
 refine⟨h.1,fun B g w us hR hsz cQ=>?_⟩
 have fF:∀i,i<os.length→os.getD i 0∈os:=fun i hi=>by
  rw[u6,cH hi];exact nO hi
 have t9:∀i j,i<os.length→j<os.length→os.getD i 0=os.getD j 0→i=j:=fun i j hi hj he=>by
  rw[u6,u6,cH hi,cH hj] at he
  have hp:=Nj.1 Ap
  simp only[wY] at he
  rcases ES i j with h3|h3|h3
  ·exact absurd he (hp _ _ hi hj h3)
  ·exact h3
  ·exact absurd he.symm (hp _ _ hj hi h3)
 have hS:=HR.ren (hpS:=⟨FG,FH,os.length⟩) hR (fun i=>os.getD i 0) (fun i j hi hj he=>t9 i j hi hj he) hv hl
 have dM:∀id y,(⟨FG,FH,os.length⟩:Hp).live.lookup id=some y→(⟨vs,lv,N⟩:Hp).live.lookup (os.getD id 0)=some y:=fun id y h=>(hl _ _ h).2
 refine (h.2 B _ w us hS (by rw[hsz,IL ha]) (fun j e u he hu=>?_)).mono ?_
 ·obtain⟨d,h1,h2,h3,h4⟩:=IM ha he
  exact Db ((cQ j d u h1 hu).le h2) h3 h4 rfl (fun _=>rfl) (fun _=>rfl) rfl dM
 rintro en w' ⟨v,g',rfl,KU,hM,ql,hB,hF⟩
 -- rI caller's ghosts
 let ρ:=rn os os.length N
 have tB:∀i,i<os.length→ρ i=os.getD i 0:=fun i hi=>by show rn os os.length N i=_;unfold rn;simp[hi]
 have uM:∀i,os.length≤i→ρ i=N+(i - os.length):=fun i hi=>by show rn os os.length N i=_;unfold rn;rw[a8 (by omega)];rfl
 have S8:∀i,i<os.length→os.getD i 0<N:=fun i hi=>bI _ (fF i hi)
 have hmn:os.length≤n':=hM.next
 have hρn:∀i,i<n'→ρ i<N+(n' - os.length):=fun i hi=>by
  by_cases h1:i<os.length
  ·rw[tB i h1];have:=S8 i h1;omega
  ·rw[uM i (by omega)];omega
 have SH:∀i j,i<n'→j<n'→ρ i=ρ j→i=j:=fun i j hi hj he=>by
  by_cases h1:i<os.length <;> by_cases h2:j<os.length
  ·rw[tB i h1,tB j h2] at he;exact t9 i j h1 h2 he
  ·rw[tB i h1,uM j (by omega)] at he;have:=S8 i h1;omega
  ·rw[tB j h2,uM i (by omega)] at he;have:=S8 j h2;omega
  ·rw[uM i (by omega),uM j (by omega)] at he;omega
 let g2:Gh:=⟨fun j=>if j<N then g.μ j else g'.μ (os.length+(j - N)),fun j=>if j<N then (if j∈os then g'.τ (os.idxOf j) else g.τ j) else g'.τ (os.length+(j - N)),g'.F⟩
 let c7:Hp:=⟨frV ρ os n8 vs,frL ρ os sH lv,N+(n' - os.length)⟩
 have Gt:∀j,j<N→g2.μ j=g.μ j:=fun j hj=>ai hj
 have MD:∀j,j<N→j∉os→g2.τ j=g.τ j:=fun j hj ho=>by
  show (if j<N then _ else _)=_
  rw[ai hj,ah ho]
 have Gs:∀i,i<n'→g2.μ (ρ i)=g'.μ i:=fun i hi=>by
  by_cases h1:i<os.length
  ·rw[tB i h1,Gt _ (S8 i h1)];exact (hM.μ i h1).symm
  ·rw[uM i (by omega)]
   show (if _ then _ else _)=_
   rw[ah (by omega),show os.length+(N+(i - os.length) - N)=i by omega]
 have Iw:∀i,i<n'→g2.τ (ρ i)=g'.τ i:=fun i hi=>by
  by_cases h1:i<os.length
  ·rw[tB i h1]
   show (if _ then (if _ then _ else _) else _)=_
   rw[ai (S8 i h1),ai (fF i h1)]
   have:os.idxOf (os.getD i 0)=i:=by
    have h2:os.idxOf (os.getD i 0)<os.length:=List.idxOf_lt_length_of_mem (fF i h1)
    refine t9 _ _ h2 h1 ?_
    rw[u6 (i:=os.idxOf _),cH h2]
    exact List.getElem_idxOf h2
   rw[this]
  ·rw[uM i (by omega)]
   show (if _ then _ else _)=_
   rw[ah (by omega),show os.length+(N+(i - os.length) - N)=i by omega]
 have t5:∀k ds,c7.vars.lookup k=some ds→(∃i ta,ρ i=k∧i<n'∧n8.lookup i=some ta∧ta.map (D.renC ρ)=ds)∨(k∉os∧k<N∧vs.lookup k=some ds):=fun k ds hk=>by
  rcases rS hk with h1|h1
  ·obtain⟨i,a,h2,h3,h4⟩:=mg ρ (fun a:List D=>a.map (D.renC ρ)) h1
   exact .inl ⟨i,a,h2,(KU.var i a h3).1,h3,h4⟩
  ·obtain⟨h2,h3⟩:=jl h1
   exact .inr ⟨h2,(hR.var k ds h3).1,h3⟩
 have t6:∀k y,c7.live.lookup k=some y→(∃i,ρ i=k∧i<n'∧sH.lookup i=some y)∨(k∉os∧k<N∧lv.lookup k=some y):=fun k y hk=>by
  rcases rS hk with h1|h1
  ·obtain⟨i,a,h2,h3,h4⟩:=mg ρ (fun a:Nat×Nat×TypeId=>a) h1
   subst h4
   exact .inl ⟨i,h2,(KU.tok i a.1 a.2 h3).1,h3⟩
  ·obtain⟨h2,h3⟩:=jl h1
   exact .inr ⟨h2,(hR.tok k y.1 y.2 h3).1,h3⟩
 have hlρ:∀id,id<n'→∀y,c7.live.lookup (ρ id)=some y→sH.lookup id=some y:=fun id hid y hy=>by
  rcases t6 _ _ hy with⟨i,h1,h2,h3⟩|⟨h1,h2,_⟩
  ·rw[←SH i id h2 hid h1];exact h3
  ·exfalso
   by_cases h4:id<os.length
   ·rw[tB id h4] at h1;exact h1 (fF id h4)
   ·rw[uM id (by omega)] at h2;omega
 -- blocks of what was not in hand are free for rI callee
 have Au:∀k ds,k∉os→vs.lookup k=some ds→g.μ k<w.heap.size∧Q5 ⟨FG,FH,os.length⟩ ⟨fun i=>g.μ (os.getD i 0),fun i=>g.τ (os.getD i 0),g.F⟩ (g.μ k):=fun k ds ho hk=>by
  refine⟨hR.var_lt (k:=k) (ds:=ds) hk,fun i di hi=>?_,fun i t hi=>?_⟩
  ·obtain⟨h1,⟨_,h2,_⟩,_⟩:=hv i di hi
   exact fun e=>ho (by rw[←hR.inj _ _ _ _ h2 hk e];exact fF i h1)
  ·obtain⟨h1,h2⟩:=hl i t hi
   obtain⟨_,_,_,_,h3⟩:=hR.tok _ t.1 t.2 h2
   exact fun e=>(h3 _ e).2 k ds hk rfl
 have Av:∀k t b,k∉os→lv.lookup k=some t→(g.τ k).ownBlock=some b→b<w.heap.size∧Q5 ⟨FG,FH,os.length⟩ ⟨fun i=>g.μ (os.getD i 0),fun i=>g.τ (os.getD i 0),g.F⟩ b:=fun k t b ho hk hb=>by
  obtain⟨_,_,_,h1,h2⟩:=hR.tok k t.1 t.2 hk
  refine⟨(h1.lt b hb).2,fun i di hi=>?_,fun i t' hi=>?_⟩
  ·obtain⟨h1,⟨_,h3,_⟩,_⟩:=hv i di hi
   exact (h2 b hb).2 _ _ h3
  ·obtain⟨h1,h3⟩:=hl i t' hi
   exact fun e=>ho (by rw[←hR.tinj _ _ _ _ b h3 hk e hb];exact fF i h1)
 have mo:cC ⟨vs,lv,N⟩ g w c7 g2 w':=by
  refine⟨hM.size,hM.cell,hM.forb,tg _ _,fun k hk=>Gt k hk,fun id hid n e hy=>?_,fun b hb hf=>?_,hM.szs⟩
  ·rcases t6 _ _ hy with⟨i,h1,h2,h3⟩|⟨h1,h2,h3⟩
   ·by_cases h4:i<os.length
    ·obtain⟨m0,h5,h6,h7⟩:=hM.live i h4 n e h3
     refine⟨m0,?_,h6,fun h=>?_⟩
     ·rw[←h1,tB i h4];exact dM i _ h5
     ·rw[←h1,Iw i h2,h7 h,tB i h4]
    ·rw[←h1,uM i (by omega)] at hid
     have hid:N+(i - os.length)<N:=hid
     omega
   ·exact⟨n,h3,ax _,fun _=>MD id h2 h1⟩
  ·obtain⟨h1,h2,h3⟩:=hM.fr b hb ⟨fun k ds hk=>by
    obtain⟨_,⟨_,h5,_⟩,_⟩:=hv k ds hk
    exact hf.1 _ _ h5,fun id t hi=>hf.2 _ _ (dM id t hi)⟩
   refine⟨h1,h2,fun k ds hk=>?_,fun id t hi=>?_⟩
   ·rcases t5 _ _ hk with⟨i,_,rfl,h5,h6,_⟩|⟨_,h5,h6⟩
    ·rw[Gs i h5];exact h3.1 _ _ h6
    ·rw[Gt k h5];exact hf.1 _ _ h6
   ·rcases t6 _ _ hi with⟨i,rfl,h5,h6⟩|⟨h4,h5,h6⟩
    ·rw[Iw i h5];exact h3.2 _ _ h6
    ·rw[MD id h5 h4];exact hf.2 _ _ h6
 have fw:∀{d:D} {u:Value},d.okC=true→aD ⟨n8,sH,n'⟩ g' w' d u→aD c7 g2 w' (d.renC ρ) u:=fun hd h=>C0 h hd hρn Gs Iw rfl hlρ
 refine⟨v,g2,rfl,⟨fun k ds hk=>?_,fun k k' ds ds' hk wd he=>?_,fun id n e hi=>?_,fun id BH t t' b hi we hb oZ=>?_,KU.base,KU.fits⟩,mo,fwdF2 ql hr hρn Gs Iw rfl hlρ,hB,hF⟩
 ·rcases t5 _ _ hk with⟨i,ta,rfl,h1,h2,rfl⟩|⟨h1,h2,h3⟩
  ·obtain⟨_,h4,h5,cs,ty,h6,h7,h8⟩:=KU.var i ta h2
   rw[Gs i h1]
   refine⟨hρn i h1,h4,h5,cs,ty,h6,by simpa using h7,fun j u hu=>⟨fun h=>(h8 j u hu).1 (by simpa using h),fun d hd=>?_⟩⟩
   rw[dV] at hd
   obtain⟨d0,wn,rfl⟩:=yx.1 hd
   exact fw (ba.1 (hvo _ (bE h2)) d0 (dZ wn)) ((h8 j u hu).2 d0 wn)
  ·obtain⟨h4,h5⟩:=Au k ds h1 h3
   obtain⟨h6,h7,_⟩:=hM.fr _ h4 h5
   obtain⟨_,h8,h9,cs,ty,xU,CZ,h12⟩:=hR.var k ds h3
   rw[Gt k h2]
   exact⟨bH h2 (tg _ _),h8,fun p hp=>h7 p hp (h9 p hp),cs,ty,h6.trans xU,CZ,fun j u hu=>⟨(h12 j u hu).1,fun d hd=>((h12 j u hu).2 d hd).mono mo⟩⟩
 ·rcases t5 _ _ hk with⟨i,ta,rfl,h1,h2,_⟩|⟨h1,h2,h3⟩ <;> rcases t5 _ _ wd with⟨i',ds0',rfl,q9,qQ,_⟩|⟨q9,qQ,M3⟩
  ·rw[Gs i h1,Gs i' q9] at he
   rw[KU.inj _ _ _ _ h2 qQ he]
  ·rw[Gs i h1,Gt _ qQ] at he
   obtain⟨h4,h5⟩:=Au _ _ q9 M3
   exact absurd he ((hM.fr _ h4 h5).2.2.1 _ _ h2)
  ·rw[Gs i' q9,Gt _ h2] at he
   obtain⟨h4,h5⟩:=Au _ _ h1 h3
   exact absurd he.symm ((hM.fr _ h4 h5).2.2.1 _ _ qQ)
  ·rw[Gt _ h2,Gt _ qQ] at he
   exact hR.inj _ _ _ _ h3 M3 he
 ·rcases t6 _ _ hi with⟨i,rfl,h1,h2⟩|⟨h1,h2,h3⟩
  ·obtain⟨_,vu,h4,h5,h6⟩:=KU.tok i n e h2
   rw[Iw i h1]
   refine⟨hρn i h1,vu,h4,h5,fun b hb=>⟨(h6 b hb).1,fun k ds hk=>?_⟩⟩
   rcases t5 _ _ hk with⟨i',_,rfl,h7,h8,_⟩|⟨h7,h8,h9⟩
   ·rw[Gs i' h7];exact (h6 b hb).2 _ _ h8
   ·rw[Gt k h8]
    obtain⟨xU,CZ⟩:=Au _ _ h7 h9
    intro e
    exact (hM.fr _ xU CZ).2.2.2 _ _ h2 (by rw[e];exact hb)
  ·obtain⟨_,vu,h4,h5,h6⟩:=hR.tok id n e h3
   rw[MD id h2 h1]
   refine⟨bH h2 (tg _ _),vu,h4,⟨h5.1,?_⟩,fun b hb=>?_⟩
   ·rcases h5.2 with h0|⟨b,cap,cur,wb,hB',hh,r⟩
    ·exact .inl h0
    ·obtain⟨xU,CZ⟩:=Av id _ b h1 h3 (by rw[wb];rfl)
     exact .inr ⟨b,cap,cur,wb,hB',(hM.fr _ xU CZ).1.trans hh,r⟩
   ·obtain⟨xU,CZ⟩:=Av id _ b h1 h3 hb
    obtain⟨h12,h13,h14⟩:=hM.fr _ xU CZ
    refine⟨fun p h7 h8=>h13 p h7 ((h6 b hb).1 p h7 h8),fun k ds hk=>?_⟩
    rcases t5 _ _ hk with⟨i',_,rfl,h7,h8,_⟩|⟨h7,h8,h9⟩
    ·rw[Gs i' h7];exact h14.1 _ _ h8
    ·rw[Gt k h8];exact (h6 b hb).2 _ _ h9
 ·rcases t6 _ _ hi with⟨i,rfl,h1,h2⟩|⟨h1,h2,h3⟩ <;> rcases t6 _ _ we with⟨i',rfl,q9,qQ⟩|⟨q9,qQ,M3⟩
  ·rw[Iw i h1] at hb
   rw[Iw i' q9] at oZ
   rw[KU.tinj _ _ _ _ b h2 qQ hb oZ]
  ·rw[Iw i h1] at hb
   rw[MD _ qQ q9] at oZ
   obtain⟨xU,CZ⟩:=Av _ _ b q9 M3 oZ
   exact absurd hb ((hM.fr _ xU CZ).2.2.2 _ _ h2)
  ·rw[Iw i' q9] at oZ
   rw[MD _ h2 h1] at hb
   obtain⟨xU,CZ⟩:=Av _ _ b h1 h3 hb
   exact absurd oZ ((hM.fr _ xU CZ).2.2.2 _ _ qQ)
  ·rw[MD _ h2 h1] at hb
   rw[MD _ qQ q9] at oZ
   exact hR.tinj _ _ _ _ b h3 M3 hb oZ
theorem HC.frame0 {P:Program}{f:FuncId}{ds:List D}{r:D}{n8 vs:List (Nat×List D)}{lv:List (Nat×Nat×Nat×TypeId)}{n' N:Nat}(h:HC P f ds ⟨[],[],0⟩ r ⟨n8,[],n'⟩)
  (ha:frA (fun i=>([]:List Nat).getD i 0) 0 ds ds) (hr:r.okF2=true) (hvo:∀p∈n8,p.2.all D.okC=true):
  HC P f ds ⟨vs,lv,N⟩ (r.ren2 (fun i=>N+i)) ⟨n8.map (fun p=>(N+p.1,p.2.map (D.renC fun i=>N+i)))++vs,lv,N+n'⟩:=by
 have h1:=HC.frame2 (vs:=vs) (lv:=lv) (N:=N) h [] rfl List.nodup_nil (fun o ho=>absurd ho qI) ha (fun k ds hk=>by simp at hk) (fun id y hy=>by simp at hy) hr hvo
 have e:rn [] 0 N=fun i=>N+i:=by funext i;rfl
 have e1:frV (rn [] 0 N) [] n8 vs=n8.map (fun p=>(N+p.1,p.2.map (D.renC fun i=>N+i)))++vs:=by
  unfold frV
  rw[e]
  congr 1
  exact List.filter_eq_self.2 fun _ _=>rfl
 have e2:frL (rn [] 0 N) [] [] lv=lv:=by
  unfold frL
  exact List.filter_eq_self.2 fun _ _=>rfl
 rw[e1,e2,e] at h1
 exact h1
section
theorem sliceG {P:Program}{tb:TypeId→Option TyE}(tok:TOk P tb){ev:Operand→D}{hp:Hp}{dst:Option Tmp}{ty:TypeId}{pos:String}{af:Array Edge}{gd:Option (Nat×Bool)}{t e:TypeId}{ti j:TyE}{x y z:Operand}{k n m:Nat}{kn kn':IntKind}(ht:tb t=some ti)(he:tb e=some j)(hx:ev x=.gw k j.size n)(hy:ev y=dI kn (m:Int))(hz:ev z=dI kn' (m:Int))(hm:m≤n)(yl:ti.ty=.slice e:=by exact rfl):
  mR P tb .seq ⟨dst,.slice t x none (some y) (some z),ty,pos,af,gd⟩ ev hp (.ow k 0 j.size m) hp:=by
 refine⟨.step fun B g w a hr yj=>?_,fun hq=>(by cases hq),fun _=>⟨ax _,fun _ _=>rfl⟩,fun h=>by cases h⟩
 have h1:=yj x (by simp[Op.operands])
 have h2:=yj y (by simp[Op.operands])
 have h3:=yj z (by simp[Op.operands])
 rw[hx] at h1
 rw[hy] at h2
 rw[hz] at h3
 have h2:=h2.lit
 have h3:=h3.lit
 generalize hv:a.eval x=v at h1
 cases h1 with
 |gw _ _ _ c hk qz o9 hs=>
  have hu:=tok.slice ht yl
  have hsz:=tok.run_sizeOf he w
  have hHc:m≤c:=by omega
  have hb:(Instr.sliceBounds true n c none (some (Value.int kn (m:Int))) (some (Value.int kn' (m:Int)))).run P w=.ok (0,m,m) w:=by
   simp[Instr.sliceBounds,run_sliceBound,hHc]
  have Rf:∀(ad:Addr),ad.spot=none→ad.off=0→(if m=0 then some ad else some (ad.add (0*j.size)))=some ad:=fun ad h4 h5=>by
   split
   ·rfl
   ·rw[gL];unfold Addr.add;simp
  refine⟨.slice (some ⟨g.μ k,0,none⟩) m m,g,w,?_,hr,cC.refl _ _ _,.ow k 0 j.size m m hk (ax _) (by omega),Below.refl _ _,fun _ _ h=>h⟩
  have bZ:(Instr.sliceAt t (a.eval x) none (some (a.eval y)) (some (a.eval z))).run P w=.ok (.slice (some ⟨g.μ k,0,none⟩) m m) w:=by
   rw[hv,h2,h3]
   simp[Instr.sliceAt,Instr.slice,run_underlying hu,hb,hsz,Addr.add]
  simp[execOp,bZ]
theorem WkS.frz2 {tm:List (Nat×D)}{vs:List (Nat×List D)}{lv:List (Nat×Nat×Nat×TypeId)}{N t k z n:Nat}{F:List E}(hz:0<z)(ht:tm.lookup t=some (.ow k 0 z n))(hv:vs.lookup k=some (dC F))(hF:n*z≤F.length):
  WkS tm ⟨vs,lv,N⟩ ((t,.e (.sl z n (F.take (n*z))))::tm) ⟨vs.filter fun p=>!([k]:List Nat).contains p.1,lv,N⟩:=by
 intro B g w ρ hr nF
 obtain⟨h1,h2,h3,cs,ty,h4,h5,h6⟩:=hr.var k _ hv
 have look:∀{j:Nat} {ds:List D},(vs.filter fun p=>!([k]:List Nat).contains p.1).lookup j=some ds→j≠k∧vs.lookup j=some ds:=by
  intro j ds h
  obtain⟨a,b⟩:=jl h
  exact⟨by simpa using a,b⟩
 have fI:∀{j:Nat} {ds:List D},j≠k→vs.lookup j=some ds→g.μ j≠g.μ k:=fun hj hl e=>hj (hr.inj _ _ _ _ hl hv e)
 have mo:cC ⟨vs,lv,N⟩ g w ⟨vs.filter fun p=>!([k]:List Nat).contains p.1,lv,N⟩ ⟨g.μ,g.τ,fun p=>g.F p∧p.block≠g.μ k⟩ w:=by
  refine⟨ax _,fun _ _ _=>rfl,fun _ _ h=>h.1,ax _,fun _ _=>rfl,fun _ _ m _ h=>⟨m,h,ax _,fun _=>rfl⟩,fun b hb hf=>⟨rfl,fun p hp hq=>⟨hq,?_⟩,fun j ds hj=>hf.1 j ds (look hj).2,hf.2⟩,fun _=>.same fun _=>rfl⟩
  rw[hp];exact fun e=>hf.1 k _ hv e.symm
 refine⟨⟨g.μ,g.τ,fun p=>g.F p∧p.block≠g.μ k⟩,⟨fun j ds hj=>?_,fun j j' ds ds' hj Cw he=>hr.inj j j' ds ds' (look hj).2 (look Cw).2 he,fun id m e hi=>?_,hr.tinj,hr.base,fun p hp=>hr.fits p hp.1⟩,mo,fun t' d hd=>?_,fun p hp hq=>⟨hq,?_⟩⟩
 ·obtain⟨a1,a2⟩:=look hj
  obtain⟨b1,b2,b3,wP,LR,b4,b5,b6⟩:=hr.var j ds a2
  exact⟨b1,b2,fun p hp=>⟨b3 p hp,by rw[hp];exact fI a1 a2⟩,wP,LR,b4,b5,fun i u hu=>⟨(b6 i u hu).1,fun d hd=>((b6 i u hu).2 d hd).mono mo⟩⟩
 ·obtain⟨b1,us,b2,b3,b4⟩:=hr.tok id m e hi
  exact⟨b1,us,b2,b3,fun b hb=>⟨fun p hp hq=>⟨(b4 b hb).1 p hp hq,by rw[hp];exact fun e=>(b4 b hb).2 k _ hv e.symm⟩,fun j ds hj=>(b4 b hb).2 j ds (look hj).2⟩⟩
 ·by_cases htt:t'=t
  ·subst htt
   have:some (D.e (.sl z n (F.take (n*z))))=some d:=by rw[←hd];exact aa.symm
   injection this with this
   subst this
   have cQ:=nF t' _ ht
   generalize hq:ρ t'=u at cQ
   cases cQ with
   |ow _ _ _ _ c hk qz o9=>
    have oV:F.length≤cs.size:=by rw[eA] at h5;exact h5
    have fF:∀{i:Nat} {e:E},(F.take (n*z))[i]? =some e→F[i]? =some e:=fun {i e} h=>by
     rw[gM] at h
     split at h
     ·exact h
     ·cases h
    refine .e _ _ (.sl z n (F.take (n*z)) (some ⟨g.μ k,0,none⟩) c (fun i=>cs.getD i undef) (by rw[eg];omega) hz qz o9 (fun _=>⟨_,rfl,(oR.1 h4).1⟩) (fun ad ha i e hi=>?_) (fun i e hi=>?_))
    ·have hi:=fF hi
     injection ha with ha
     subst ha
     have bI:i<cs.size:=bH (fP.1 hi).1 oV
     refine⟨?_,fun hf=>hf.2 (by rw[gi])⟩
     have e0:w.cell? (({block:=g.μ k,off:=0,spot:=none}:Addr).add i)=cs[0+i]? :=by
      by_cases h0:i=0
      ·subst h0;simp[World.cell?,Addr.add,h4]
      ·simp[World.cell?,Addr.add,h4,h0]
     rw[e0,br]
     simp[eQ,bI]
    ·have hi:=fF hi
     have bI:i<cs.size:=bH (fP.1 hi).1 oV
     have hu:=h6 i (cs.getD i undef) (by simp[eQ,bI])
     have:=hu.2 (.e e) (by unfold dC;rw[dV,hi];rfl)
     cases this with
     |e _ _ h7=>exact db.less h7 fun p hp=>hp.1
  ·exact (nF t' d (by rw[←hd];exact (an htt).symm)).mono mo
 ·intro e
  omega
theorem uw {c:List Nu}(h:c.length≤1000000):cX (c.map nv)=some (c.all ar):=by
 obtain⟨y,hy,Eb⟩:=G_idx h
 unfold cX aT
 rw[hy]
 by_cases h0:0≤y
 ·rw[Eb.1 h0]
  simp[bnd,h0]
 ·have:c.all ar=true:=by
   cases hc:c.all ar with
   |true=>rfl
   |false=>exact absurd (Eb.2 hc) h0
  rw[this]
  simp[bnd,h0]
theorem PK {c:List Nu}(h:c.length≤1000000):aq prog 62 [.e (slE aw c)] (dB (c.all ar)):=by
 rw[kU];exact fS (uw h)
def kW(l:List Nu):List Nu:=l++l.map eZ
theorem Q1 {l:List Nu}(h:l.length≤1000000):lY (l.map nv)=some ((kW l).map nv):=by
 have hlen:(l.map nv).length=l.length:=bb _
 unfold lY fU
 rw[aB (by rw[hlen];exact h)]
 show bnd (bq (eT (l.map nv)) (l.map nv,(0:Int))) _=_
 have key:=t3 (b:=eT (l.map nv)) (fun i:Nat=>((l++(l.take i).map eZ).map nv,(i:Int))) 0 l.length ((kW l).map nv) (cr _) (fun i _ hi=>?_) ?_
 ·have e:((l++(l.take 0).map eZ).map nv,((0:Nat):Int))=(l.map nv,(0:Int)):=by simp
  rw[e] at key
  rw[key]
  rfl
 ·unfold eT
  dsimp only
  have fF:(l.map nv)[((i:Nat):Int).toNat]! =nv l[i]:=by
   rw[show ((i:Nat):Int).toNat=i by omega,bL _ _ (by rw[hlen];exact hi),Fb]
  have oc:kN (nv l[i])=some (nv (eZ l[i])):=by rw[Af];exact JB l[i].2
  have htk:l.take (i+1)=l.take i++[l[i]]:=by rw[AE,cH hi];rfl
  rw[hlen,cy _ _,aB,fF,oc]
  show gd _ _=_
  rw[aB (by simp;omega),d6 (by omega) (by omega),htk]
  simp only[iP,c5,iW,l8]
  rfl
 ·unfold eT
  dsimp only
  rw[hlen,ci _ _,g9 (ax _)]
  rfl
theorem HV {l:List Nu}(h:l.length≤1000000):aq prog 74 [.e (slE aw l)] (.e (slE aw (kW l))):=by
 rw[kU,kU]
 exact aq.toE (zK (Q1 h))
theorem JQ {n:Nat}(h:n≤1000000):aq prog 75 [dI .i64 n] (.e (slE aw (List.replicate n (nOf 0)))):=by
 rw[kU,Fa]
 refine nD ?_
 unfold fm
 rw[ai (by omega)]
 congr 2
def ylP(y:List Nu)(m:Nat):Nat→List Nu
 |0=>y
 |i+1=>(ylP y m i).set i (Il (ylP y m i)[i]! (ylP y m i)[m+i]!)
def ze(m nn:Nat)(A B:List Nu)(most:Int):Ans×Int×Int:=
 let r:=iz (m+m) nn (kW A) (kW B) (List.replicate nn (nOf 0)) most
 if r.2.2≠0∨r.1.kind≠2 then (⟨r.1.kind,r.1.x,[],r.1.ray⟩,r.2.1,r.2.2) else
 let y:=(List.range m).map fun i=>Il r.1.y[i]! r.1.y[m+i]!
 if y.all ar then (⟨r.1.kind,r.1.x,y,r.1.ray⟩,r.2.1,0) else (⟨0,[],[],[]⟩,0,30)
section
variable {y:List Nu} {m:Nat}
theorem zG:∀i,(ylP y m i).length=y.length
 |0=>rfl
 |i+1=>(cY ..).trans (zG i)
theorem LY:∀i j,i≤j→(ylP y m i)[j]! =y[j]!
 |0,_,_=>rfl
 |i+1,j,h=>by
  unfold ylP
  rw[zp,BW (by omega),←zp]
  exact LY i j (by omega)
theorem Rk(h:m+m≤y.length):∀i j,i≤m→j<i→(ylP y m i)[j]! =Il y[j]! y[m+j]!
 |0,_,_,h2=>by omega
 |i+1,j,h1,h2=>by
  have hl:i<(ylP y m i).length:=by rw[zG];omega
  unfold ylP
  by_cases Cy:i=j
  ·subst Cy
   rw[zp,Hv hl,wY,LY i i (ax _),LY i (m+i) (by omega)]
  ·rw[zp,BW Cy,←zp]
   exact Rk h i j (by omega) (by omega)
theorem ylP_all(h:y.length=m+m):(ylP y m m).take m=(List.range m).map fun i=>Il y[i]! y[m+i]! :=by
 refine Fc (by rw[eg,zG,bb,List.length_range];omega) fun j h1 h2=>?_
 have hj:j<m:=by simpa using h2
 rw[List.getElem_take,Fb,NK,←Rk (y:=y) (by omega) m j (ax _) hj,bL (ylP y m m) j (by rw[zG];omega)]
end
theorem RM {m nn:Nat}{A B C:List Nu}{most:Int}(hB:B.length=m)(h0:0≤most)(h1:most≤9223372036854775807)(hk:(iz m nn A B C most).1.kind=2):(iz m nn A B C most).1.y.length=m∧(iz m nn A B C most).1.x=[]∧(iz m nn A B C most).1.ray=[]∧(iz m nn A B C most).2.2=0:=by
 have KK:∀d,(wj nn d C).1.kind≠2:=fun d h=>by
  unfold wj at h
  dsimp only at h
  split at h
  ·cases h
  ·split at h
   ·cases h
   ·split at h <;> cases h
 unfold iz at hk ⊢
 dsimp only at hk ⊢
 split at hk
 ·next oc=>
  rw[ai oc]
  split at hk
  ·cases hk
  ·next hb=>
   rw[ah hb]
   split at hk
   ·next hg=>
    rw[ai hg]
    have hm:0<m:=by
     rcases sd m with e|e
     ·rw[e] at hB
      rw[I4.1 hB] at oc
      cases oc
     ·exact e
    have hS:=(EB (m:=m) (nn:=nn) (A:=A) (B:=B) h0 h1 (ax m))
    rw[K5] at hS
    have wI:=(hS.begin hm (by omega)).1.lg
    refine⟨?_,rfl,rfl,rfl⟩
    show (bR _ nn).length=m
    unfold bR
    rw[bb,fa,wI]
    omega
   ·exact absurd hk (KK _)
 ·exact absurd hk (KK _)
end
section
def zm(ky:Nat)(a:Ans):List D:=[dI .i64 a.kind,.e (slE aw a.x),if a.kind=2 then .gw ky 36 a.y.length else .e (slE aw a.y),.e (slE aw a.ray)]
def v6(ky:Nat)(a:Ans):List (Nat×List D):=if a.kind=2 then [(ky,dC ((cW aw).f a.y))] else []
theorem Oh {ky N n2:Nat}{a:Ans}{vs:List (Nat×List D)}{lv:List (Nat×Nat×Nat×TypeId)}(h:N≤ky)(h2:N≤n2):Fr ⟨vs,lv,N⟩ ⟨v6 ky a++vs,lv,n2⟩:=by
 refine⟨h2,fun j hj=>?_⟩
 have hj:j<N:=hj
 unfold v6
 split
 ·exact an (by omega)
 ·rfl
theorem Lm {ky n:Nat}{a:Ans}(h:ky<n):(zm ky a).all (D.idsC n)=true:=by
 unfold zm
 by_cases hk:a.kind=2
 ·rw[ai hk]
  simp only[f5,ic,eI,b8]
  exact⟨rfl,rfl,aA h,rfl⟩
 ·rw[ah hk]
  rfl
theorem solW_in {ky kx:Nat}{a:Ans}{x:List D}{vs:List (Nat×List D)}{j:Nat}{ds:List D}(hj:j≠kx)(h:(v6 ky a++vs).lookup j=some ds):(v6 ky a++(kx,x)::vs).lookup j=some ds:=by
 unfold v6 at h ⊢
 by_cases hk:a.kind=2
 ·rw[ai hk] at h ⊢
  rcases ce h with⟨rfl,rfl⟩|⟨Cv,h⟩
  ·exact aa
  ·exact al Cv (al hj h)
 ·rw[ah hk] at h ⊢
  exact al hj h
theorem HC.weakT {P:Program}{f:FuncId}{ds rs:List D}{hp:Hp}{vars vars':List (Nat×List D)}{lv lv':List (Nat×Nat×Nat×TypeId)}{n n':Nat}(hc:HC P f ds hp (.tu rs) ⟨vars,lv,n⟩)(h0:hp.next≤n')
  (h:cp hp→cp ⟨vars',lv',n'⟩∧(∀j ds,vars'.lookup j=some ds→vars.lookup j=some ds)∧(∀j y,lv'.lookup j=some y→lv.lookup j=some y)∧rs.all (D.idsB n')=true):HC P f ds hp (.tu rs) ⟨vars',lv',n'⟩:=by
 refine⟨hc.1,fun B g w vs hr hsz cQ=>(hc.2 B g w vs hr hsz cQ).mono ?_⟩
 obtain⟨hok,hv,hl,hd⟩:=h hr.ok
 rintro e w' ⟨v,g',rfl,pW,hM,hrd,hb,hF⟩
 have dM:∀id y,lv'.lookup id=some y→lv.lookup id=some y:=hl
 refine⟨v,g',rfl,⟨fun k ds hk=>?_,fun k k' a b hk wd he=>pW.inj k k' a b (hv k a hk) (hv k' b wd) he,fun id m e hi=>?_,fun id BH t t' b hi we=>pW.tinj id BH t t' b (dM _ _ hi) (dM _ _ we),pW.base,pW.fits⟩,
  ⟨hM.size,hM.cell,hM.forb,h0,hM.μ,fun id hid m e Qn=>hM.live id hid m e (dM id _ Qn),fun b hb hf=>⟨(hM.fr b hb hf).1,(hM.fr b hb hf).2.1,fun k ds hk=>(hM.fr b hb hf).2.2.1 k ds (hv k ds hk),fun id t hi=>(hM.fr b hb hf).2.2.2 id t (dM id _ hi)⟩,hM.szs⟩,?_,hb,hF⟩
 ·obtain⟨_,h3,h4,cs,ty,h5,h6,h7⟩:=pW.var k ds (hv k ds hk)
  obtain⟨h1,h2⟩:=hok.var k ds hk
  exact⟨h1,h3,h4,cs,ty,h5,h6,fun j u hu=>⟨(h7 j u hu).1,fun d hd=>iC ((h7 j u hu).2 d hd) (ba.1 h2 d (dZ hd)) rfl dM⟩⟩
 ·obtain⟨_,us,h2,h3,h4⟩:=pW.tok id m e (dM _ _ hi)
  exact⟨hok.tok id _ hi,us,h2,h3,fun b hb=>⟨(h4 b hb).1,fun k ds hk=>(h4 b hb).2 k ds (hv k ds hk)⟩⟩
 ·cases hrd with
  |tu _ cs FR ML=>exact .tu rs cs FR fun j d u h1 h2=>Ea (ML j d u h1 h2) (ba.1 hd d (dZ h1)) rfl dM
theorem KQ {M:Nat}{r:Ans×Int×Int}{R Cc most:Int}{A B C:List Nu}{vs:List (Nat×List D)}{lv:List (Nat×Nat×Nat×TypeId)}{N:Nat}(hc:HC prog 12 [.ag (prC R Cc A B C),dI .i64 most] ⟨[],[],0⟩ (Mf M r) (Gk M r)):
  HC prog 12 [.ag (prC R Cc A B C),dI .i64 most] ⟨vs,lv,N⟩ (.tu [.ag (zm (N+(7+8*M)) r.1),dI .i64 r.2.1,dI .i64 r.2.2]) ⟨v6 (N+(7+8*M)) r.1++vs,lv,N+(8+8*M)⟩:=by
 unfold Mf Gk at hc
 unfold zm v6
 unfold qG at hc
 by_cases hk:r.1.kind=2
 ·simp only[ai hk] at hc ⊢
  have h1:=HC.weakT (vars':=[(7+8*M,dC ((cW aw).f r.1.y))]) (lv':=[]) (n':=8+8*M) hc (cr _) fun _=>⟨⟨fun k ds h=>by
    rcases ce h with⟨rfl,rfl⟩|⟨_,h⟩
    ·exact⟨show 7+8*M<8+8*M by omega,ez _⟩
    ·simp at h,fun id e h=>by simp at h⟩,fun k ds h=>by
    rcases ce h with⟨rfl,rfl⟩|⟨_,h⟩
    ·exact al (by omega) aa
    ·simp at h,fun _ _ h=>h,by
    simp only[D.idsB,f5,ic,eI,b8]
    exact⟨⟨rfl,rfl,aA (by omega),rfl⟩,rfl,rfl⟩⟩
  have h2:=HC.frame0 (vs:=vs) (lv:=lv) (N:=N) h1 ⟨⟨au _,rfl,rfl⟩,⟨au _,rfl,rfl⟩,trivial⟩ rfl fun p hp=>by
   rw[qH.1 hp]
   exact ba.2 fun d hd=>by
    obtain⟨e,_,rfl⟩:=uh.1 hd
    rfl
  have e:(dC ((cW aw).f r.1.y)).map (D.renC fun i=>N+i)=dC ((cW aw).f r.1.y):=Mm _
  simp only[iW,l8,e] at h2
  exact h2
 ·simp only[ah hk] at hc ⊢
  have h1:=HC.weakT (vars':=[]) (lv':=[]) (n':=8+8*M) hc (cr _) fun _=>⟨⟨fun k ds h=>by simp at h,fun id e h=>by simp at h⟩,fun k ds h=>by simp at h,fun _ _ h=>h,rfl⟩
  have h2:=HC.frame0 (vs:=vs) (lv:=lv) (N:=N) h1 ⟨⟨au _,rfl,rfl⟩,⟨au _,rfl,rfl⟩,trivial⟩ rfl fun p hp=>absurd hp qI
  exact h2
def r8(a:Ans):List D:=[dI .i64 a.kind,.e (slE aw a.x),.e (slE aw a.y),.e (slE aw a.ray)]
def maC(R Cc:Int)(A:List Nu):List D:=[dI .i64 R,dI .i64 Cc,.e (slE aw A)]
theorem rQ {R Cc:Int}{A:List Nu}{t:Nat}{y:D}(h:(maC R Cc A)[t]? =some y):Pt (maC R Cc A) t [y] (fun ys=>(maC R Cc A).take t++ys++(maC R Cc A).drop (t+1)):=Pt.cell h
theorem OF(a:Ans)(h:a.y=[]:=by exact rfl):D.le (.ag [dI .i64 a.kind,.e (slE aw a.x),dN,.e (slE aw a.ray)]) (.ag (r8 a)):=by
 unfold r8
 rw[h]
 exact qk ⟨.inl rfl,.inl rfl,.inr (.inr ⟨rfl,36,by decide,rfl⟩),.inl rfl,trivial⟩
theorem It:D.le (.ag [dI .i64 0,dN,dN,dN]) (.ag (r8 ⟨0,[],[],[]⟩)):=qk ⟨.inl rfl,.inr (.inr ⟨rfl,36,by decide,rfl⟩),.inr (.inr ⟨rfl,36,by decide,rfl⟩),.inr (.inr ⟨rfl,36,by decide,rfl⟩),trivial⟩
def eqD(r:Ans×Int×Int):D:=.tu [.ag (r8 r.1),dI .i64 r.2.1,dI .i64 r.2.2]
def eqH(r:Ans×Int×Int):Hp:=⟨[(1,r8 r.1)],[],2⟩
theorem rtE {cx:Cx}{tm:List (Nat×D)}{vs2:List (Nat×List D)}{n2:Nat}{r0 r:Ans×Int×Int}(h0:cx.hp0=⟨[],[],0⟩)(hr:r0=r)(h1:vs2.lookup 1=some (r8 r.1))(hn:2≤n2)(h6:tm.lookup 6=some (.pt 1 0):=by exact rfl)(h7:tm.lookup 7=some (dI .i64 r.2.1):=by exact rfl)(h8:tm.lookup 8=some (dI .i64 r.2.2):=by exact rfl):
  ∃tm',Wk cx tm ⟨vs2,[],n2⟩ tm' (eqH r0)∧tN tbl [.cell 6 29,.tmp 7,.tmp 8] tm' (eqH r0) (eqD r0):=by
 subst hr
 have hok:cp ⟨[(1,r8 r0.1)],[],2⟩:=by
  refine⟨fun k ds h=>?_,fun id e h=>by simp at h⟩
  rcases ce h with⟨rfl,rfl⟩|⟨_,h⟩
  ·exact⟨show 1<2 by decide,rfl⟩
  ·simp at h
 refine⟨_,wkS (by rw[h0];exact cr _) hn hok (fun j ds h=>?_) (((bF.nil.cons h8).cons h7).cons h6 rfl),resV tbI rfl aa (by decide) rfl rfl ⟨_,rfl,_,rfl,rfl⟩⟩
 rcases ce h with⟨rfl,rfl⟩|⟨_,h⟩
 ·exact h1
 ·simp at h
section
variable {m nn:Nat} {A B:List Nu} {most:Int}
theorem h_Equal(hv:aq prog 73 [.ag (maC m nn A),.e (slE aw B)] (dB true))(hvV:aq prog 15 [.ag (prC ((m+m:Nat):Int) nn (kW A) (kW B) (List.replicate nn (nOf 0)))] (dB true))(hm:m≤1000)(hn:nn≤2000)(hA:A.length=m*nn)(hB:B.length=m)(hgA:∀i,i<(kW A).length→ar (kW A)[i]! =true)(hgB:∀i,i<(kW B).length→ar (kW B)[i]! =true)(hA1:A.length≤1000000)(h0:0≤most)(h1:most≤9223372036854775807):
  HC prog 21 [.ag (maC m nn A),.e (slE aw B),dI .i64 most] ⟨[],[],0⟩ (eqD (ze m nn A B most)) (eqH (ze m nn A B most)):=by
 refine HC.of (rs:=[.cell 6 29,.tmp 7,.tmp 8]) tok func21 rfl rfl (a9 rfl) rfl (fun cx hx vK hok=>?_)
 simp only[fC,Nat.reduceAdd,br]
 have TN:B.length≤1000000:=by omega
 have hlA:(kW A).length=(m+m)*nn:=by unfold kW;rw[cD,bb,hA,bX]
 have hlB:(kW B).length=m+m:=by unfold kW;rw[cD,bb,hB]
 have hmm:i64.wrap ((2:Int)*(m:Int))=((m+m:Nat):Int):=by rw[d6 (by omega) (by omega)];omega
 have hS:=OX (m:=m+m) (nn:=nn) (C:=List.replicate nn (nOf 0)) (most:=most) hvV (by omega) hn hlA hlB (by simp) hgA hgB (fun i hi=>by
  rw[bL (List.replicate nn (nOf 0)) i hi,List.getElem_replicate];exact of0.1) h0 h1
 have zc:=RM (m:=m+m) (nn:=nn) (A:=kW A) (B:=kW B) (C:=List.replicate nn (nOf 0)) (most:=most) hlB h0 h1
 have heq:ze m nn A B most=ze m nn A B most:=rfl
 conv at heq=>rhs;unfold ze
 dsimp only at heq
 obtain⟨r,hr⟩:∃r,r=iz (m+m) nn (kW A) (kW B) (List.replicate nn (nOf 0)) most:=⟨_,rfl⟩
 rw[←hr] at hS zc heq
 clear hr
 refine rs hx fun K hK=>?_
 refine s1 (fQ (cs:=maC m nn A)) ?_
 refine a1 (F:=lQ) tbI ?_
 iterate 2 refine sa ?_
 refine nl hK ?_
 refine AW.seq (rs hx fun K hK=>?_)
 refine p1 (Pt.all (F:=maC m nn A)) rfl ?_
 refine sa ?_
 refine q1 (sHC (HC.frz (ds:=[.ag (maC m nn A),.e (slE aw B)]) hv ⟨AR.same rfl,AR.same rfl,trivial⟩ rfl) rfl (.inr (Fr.refl _))) ?_
 iterate 2 refine sa ?_
 iterate 2 refine ga rfl ?_
 refine s1 (d:=dB (decide (most<0))) (l6 rfl) ?_
 refine nl hK ?_
 refine AW.condF rfl (a8 (by omega)) (AW.skip ?_)
 obtain⟨base,lX⟩:∃base:List (Nat×List D),base=[(1,dC lQ),(0,maC m nn A)]:=⟨_,rfl⟩
 have fJ:base.lookup 1=some (dC lQ):=by rw[lX];exact aa
 have OW:base.lookup 0=some (maC m nn A):=by rw[lX];rfl
 have OV:∀j ds,base.lookup j=some ds→j<2∧ds.all (D.idsC 2)=true:=fun j ds h=>by
  rw[lX] at h
  rcases ce h with⟨rfl,rfl⟩|⟨_,h⟩
  ·exact⟨by omega,rfl⟩
  ·rcases ce h with⟨rfl,rfl⟩|⟨_,h⟩
   ·exact⟨by omega,rfl⟩
   ·simp at h
 have MN:∀n,2≤n→cp ⟨base,[],n⟩:=fun n hn=>⟨fun j ds h=>⟨show j<n by have:=(OV j ds h).1;omega,ba.2 fun d hd=>D.idsC_le hn (ba.1 (OV j ds h).2 d hd)⟩,fun id e h=>by simp at h⟩
 have hokY:∀ky n,2≤n→ky<n→cp ⟨v6 ky r.1++base,[],n⟩:=fun ky n hn hky=>by
  unfold v6
  split
  ·exact (MN n hn).consM hky (ez _)
  ·exact MN n hn
 have hY:∀ky j ds,2≤ky→base.lookup j=some ds→(v6 ky r.1++base).lookup j=some ds:=fun ky j ds hky h=>by
  have:=(OV j ds h).1
  unfold v6
  split
  ·exact al (by omega) h
  ·exact h
 have hSA:=KQ (vs:=base) (lv:=[]) (N:=2) hS
 have hSB:=KQ (vs:=(2,dC lQ)::base) (lv:=[]) (N:=3) hS
 have hS2:(v6 (3+(7+8*(m+m))) r.1++(2,dC lQ)::base).lookup 2=some (dC lQ):=by
  unfold v6
  split
  ·exact al (by omega) aa
  ·exact aa
 have fin1:∀{tm:List (Nat×D)} {vs2:List (Nat×List D)} {n2:Nat} (kx ky:Nat),kx<11+8*(m+m)→ky<11+8*(m+m)→11+8*(m+m)≤n2→(∀j ds,((kx,zm ky r.1)::(v6 ky r.1++base)).lookup j=some ds→vs2.lookup j=some ds)→tm.lookup 3=some (.pt 0 0)→tm.lookup 6=some (.pt 1 0)→tm.lookup 9=some (.pt kx 0)→tm.lookup 10=some (dI .i64 r.2.1)→tm.lookup 11=some (dI .i64 r.2.2)→
   Wk cx tm ⟨vs2,[],n2⟩ [(3,.pt 0 0),(6,.pt 1 0),(9,.pt kx 0),(10,dI .i64 r.2.1),(11,dI .i64 r.2.2)] ⟨(kx,zm ky r.1)::(v6 ky r.1++base),[],11+8*(m+m)⟩:=fun kx ky hkx hky FP hl a b c d e=>
  wkS (by rw[vK];exact cr _) FP ((hokY ky _ (by omega) hky).consM hkx (Lm hky)) hl (bF.cons (bF.cons (bF.cons (bF.cons (bF.cons bF.nil e rfl) d rfl) c (aA hkx)) b (aA (by omega))) a (aA (by omega)))
 rw[←lX]
 refine AW.joinE (α:=Nat×Nat) (fun a=>[(3,.pt 0 0),(6,.pt 1 0),(9,.pt a.1 0),(10,dI .i64 r.2.1),(11,dI .i64 r.2.2)]) (fun a=>⟨(a.1,zm a.2 r.1)::(v6 a.2 r.1++base),[],11+8*(m+m)⟩) (fun a=>2≤a.1∧2≤a.2∧a.1≠a.2∧a.1<11+8*(m+m)∧a.2<11+8*(m+m)) ?_ ?_
 ·refine dw (DW.split 16 21 (by decide) ?_ ?_)
  ·refine dwg [74,75] [0,1,2,3,4,5,6,7,8,9,10,11,12,13,14,15,16,17,18,19,20,21,22,23,24] hx (by kernel_rfl) (by kernel_rfl) (by kernel_rfl) fun K hK=>?_
   dsimp only[d8,mP,mZ,List.map]
   refine sa ?_
   refine c1 (rQ (t:=0) rfl) ?_
   refine sa ?_
   rw[hmm]
   refine sa ?_
   refine c1 (rQ (t:=1) rfl) ?_
   refine sa ?_
   refine c1 (rQ (t:=2) rfl) ?_
   refine cq (HV (l:=A) hA1) ?_
   refine s1 (d:=.ag (maC ((m+m:Nat):Int) nn (kW A))) (dE ye) ?_
   refine sa ?_
   refine cq (HV (l:=B) TN) ?_
   refine sa ?_
   refine c1 (rQ (t:=1) rfl) ?_
   refine cq (JQ (n:=nn) (by omega)) ?_
   refine s1 (d:=.ag (prC ((m+m:Nat):Int) nn (kW A) (kW B) (List.replicate nn (nOf 0)))) (dE rJ) ?_
   refine sa ?_
   refine q1 (sHC hSA rfl (.inr (Oh (by omega) (by omega)))) ?_
   refine sa ?_
   refine sa ?_
   refine sa ?_
   refine sa ?_
   refine a1 (F:=lQ) tbI ?_
   refine v1 (F2:=zm (2+(7+8*(m+m))) r.1) (ys:=zm (2+(7+8*(m+m))) r.1) (Pt.all (F:=dC lQ)) rfl rfl rfl ?_
   refine sa ?_
   refine sa ?_
   refine .nil (hK _ _ ⟨(2+(8+8*(m+m)),2+(7+8*(m+m))),⟨by omega,by omega,by omega,by omega,by omega⟩,?_⟩)
   refine fin1 _ _ (by omega) (by omega) (by omega) (fun j ds h=>?_) rfl rfl rfl rfl rfl
   rcases ce h with⟨rfl,rfl⟩|⟨hj,h⟩
   ·exact aa
   ·exact al hj (al hj h)
  ·refine dwg [74,75] [0,1,2,3,4,5,6,7,8,9,10,11,12,13,14,15,21,16,17,18,19,20,22,23,24] hx (by kernel_rfl) (by kernel_rfl) (by kernel_rfl) fun K hK=>?_
   dsimp only[d8,mP,mZ,List.map]
   refine sa ?_
   refine c1 (rQ (t:=0) rfl) ?_
   refine sa ?_
   rw[hmm]
   refine sa ?_
   refine c1 (rQ (t:=1) rfl) ?_
   refine sa ?_
   refine c1 (rQ (t:=2) rfl) ?_
   refine cq (HV (l:=A) hA1) ?_
   refine s1 (d:=.ag (maC ((m+m:Nat):Int) nn (kW A))) (dE ye) ?_
   refine sa ?_
   refine cq (HV (l:=B) TN) ?_
   refine sa ?_
   refine c1 (rQ (t:=1) rfl) ?_
   refine cq (JQ (n:=nn) (by omega)) ?_
   refine s1 (d:=.ag (prC ((m+m:Nat):Int) nn (kW A) (kW B) (List.replicate nn (nOf 0)))) (dE rJ) ?_
   refine sa ?_
   refine a1 (F:=lQ) tbI ?_
   refine q1 (sHC hSB rfl (.inr (Oh (by omega) (by omega)))) ?_
   refine sa ?_
   refine sa ?_
   refine sa ?_
   refine sa ?_
   refine v1 (F2:=zm (3+(7+8*(m+m))) r.1) (ys:=zm (3+(7+8*(m+m))) r.1) (Pt.all (F:=dC lQ)) rfl rfl rfl ?_
   refine sa ?_
   refine sa ?_
   refine .nil (hK _ _ ⟨(2,3+(7+8*(m+m))),⟨by omega,by omega,by omega,by omega,by omega⟩,?_⟩)
   refine fin1 _ _ (by omega) (by omega) (by omega) (fun j ds h=>?_) rfl rfl rfl rfl rfl
   rcases ce h with⟨rfl,rfl⟩|⟨hj,h⟩
   ·exact aa
   ·exact al hj (solW_in hj h)
 ·rintro⟨kx,ky⟩ ⟨xy,Eb,hxy,BI,hyl⟩
  dsimp only at xy Eb hxy BI hyl ⊢
  have hokY1:=hokY ky _ (show 2≤11+8*(m+m) by omega) hyl
  have hY0:=hY ky 0 _ Eb OW
  have hY1:=hY ky 1 _ Eb fJ
  have hKi:=Lm (a:=r.1) hyl
  refine AW.seq (rs hx fun K hK=>?_)
  iterate 3 refine sa ?_
  by_cases he:r.2.2≠0
  ·have iv:=heq.trans (ai (.inl he))
   have hKf:∃z,zm ky r.1=[dI .i64 r.1.kind,.e (slE aw r.1.x),z,.e (slE aw r.1.ray)]:=⟨_,rfl⟩
   obtain⟨z,hz⟩:=hKf
   rw[hz]
   iterate 3 refine gn (aA he) ?_
   refine s1 (d:=dB true) (oU (aA he)) ?_
   refine nl hK ?_
   refine AW.condT rfl rfl (rs hx fun K hK=>?_)
   refine sa ?_
   refine v1 (F2:=[dI .i64 r.1.kind,.e (slE aw r.1.x),dN,.e (slE aw r.1.ray)]) (ys:=[dN]) (Pt.cell (F:=[dI .i64 r.1.kind,.e (slE aw r.1.x),z,.e (slE aw r.1.ray)]) (t:=2) rfl) rfl rfl rfl ?_
   refine nl hK ?_
   refine rs hx fun K hK=>?_
   refine s2 (CP (Pt.all (F:=[dI .i64 r.1.kind,.e (slE aw r.1.x),dN,.e (slE aw r.1.ray)])) aa (show kx<11+8*(m+m) by omega) o5 rfl rfl rfl) (OF ⟨r.1.kind,r.1.x,[],r.1.ray⟩) ?_
   iterate 2 refine sa ?_
   refine v1 (F2:=r8 ⟨r.1.kind,r.1.x,[],r.1.ray⟩) (ys:=r8 ⟨r.1.kind,r.1.x,[],r.1.ray⟩) (Pt.all (F:=dC lQ)) rfl rfl rfl ?_
   iterate 2 refine sa ?_
   refine nl hK ?_
   exact AW.ret (rtE vK iv aa (by omega))
  ·refine ga (a8 he) ?_
   refine c1g (Pt.cell (t:=0) rfl) (a8 he) ?_
   refine ga (a8 he) ?_
   refine s1 (d:=dB (decide (r.1.kind≠2))) (l6 (a8 he)) ?_
   refine nl hK ?_
   refine AW.condS rfl (fun hb=>?_) (fun hb=>?_)
   ·have iv:=heq.trans (ai (.inr (bw hb)))
    have hKf:∃z,zm ky r.1=[dI .i64 r.1.kind,.e (slE aw r.1.x),z,.e (slE aw r.1.ray)]:=⟨_,rfl⟩
    obtain⟨z,hz⟩:=hKf
    rw[hz]
    refine rs hx fun K hK=>?_
    refine sa ?_
    refine v1 (F2:=[dI .i64 r.1.kind,.e (slE aw r.1.x),dN,.e (slE aw r.1.ray)]) (ys:=[dN]) (Pt.cell (F:=[dI .i64 r.1.kind,.e (slE aw r.1.x),z,.e (slE aw r.1.ray)]) (t:=2) rfl) rfl rfl rfl ?_
    refine nl hK ?_
    refine rs hx fun K hK=>?_
    refine s2 (CP (Pt.all (F:=[dI .i64 r.1.kind,.e (slE aw r.1.x),dN,.e (slE aw r.1.ray)])) aa (show kx<11+8*(m+m) by omega) o5 rfl rfl rfl) (OF ⟨r.1.kind,r.1.x,[],r.1.ray⟩) ?_
    iterate 2 refine sa ?_
    refine v1 (F2:=r8 ⟨r.1.kind,r.1.x,[],r.1.ray⟩) (ys:=r8 ⟨r.1.kind,r.1.x,[],r.1.ray⟩) (Pt.all (F:=dC lQ)) rfl rfl rfl ?_
    iterate 2 refine sa ?_
    refine nl hK ?_
    exact AW.ret (rtE vK iv aa (by omega))
   ·have hk:r.1.kind=2:=Decidable.not_not.1 (dp hb)
    have iv:=heq.trans (ah (by rintro (h|h);exact he h;exact h hk))
    obtain⟨hyl2,FJ,hray0,_⟩:=zc hk
    refine AW.skip ?_
    obtain⟨y,SI⟩:∃y,y=r.1.y:=⟨_,rfl⟩
    obtain⟨KC,hKC⟩:∃KC,KC=[dI .i64 2,.e (slE aw []),.gw ky 36 (m+m),.e (slE aw [])]:=⟨_,rfl⟩
    have hKe:zm ky r.1=KC:=by unfold zm;rw[ai hk,hk,FJ,hray0,hyl2,hKC]
    have hWe:v6 ky r.1++base=(ky,dC ((cW aw).f y))::base:=by unfold v6;rw[ai hk,SI];rfl
    have q8:KC[2]? =some (.gw ky 36 (m+m)):=by rw[hKC];rfl
    have hKl:KC.length=4:=by rw[hKC];rfl
    rw[hKe] at hKi
    rw[hKe,hWe]
    rw[hk,FJ,hray0,←SI] at iv
    rw[←SI] at hyl2
    have hokB:=MN (11+8*(m+m)) (by omega)
    refine rs hx fun K hK=>?_
    refine sa ?_
    refine c1 (Pt.cell q8) ?_
    refine sa ?_
    refine c1 (rQ (t:=0) rfl) ?_
    refine sa ?_
    refine c1 (rQ (t:=0) rfl) ?_
    refine q1 (sliceG tok b9 aR rfl rfl rfl (by omega)) ?_
    refine sa ?_
    refine nl hK ?_
    refine AW.seq (rs hx fun K hK=>?_)
    refine sa ?_
    refine s1 (Cf (k:=ky) (off:=0) (z:=36) b9 aR rfl rfl) ?_
    refine sa ?_
    refine nl hK ?_
    refine AW.block (AW.loopW (fun i:Nat=>[(3,.pt 0 0),(6,.pt 1 0),(9,.pt kx 0),(10,dI .i64 r.2.1),(11,dI .i64 r.2.2),(12,.ow ky 0 36 m),(63,dI .i64 m),(64,dI .i64 i)]) (fun i=>⟨(ky,dC ((cW aw).f (ylP y m i)))::(kx,KC)::base,[],11+8*(m+m)⟩) (fun i=>i≤m) (fun i=>m - i) 0 ?_ (cr _) ?_)
    ·exact wk1 vK
    ·intro i hi
     have hyi:(ylP y m i).length=m+m:=by rw[zG];exact hyl2
     refine rs hx fun K hK=>?_
     refine sa ?_
     refine nl hK ?_
     refine AW.seq (AW.condS rfl (fun hb=>?_) (fun hb=>?_))
     ·have pX:i<m:=by have:=bw hb;omega
      refine AW.skip (AW.seq (AW.block (rs hx fun K hK=>?_)))
      iterate 2 refine sa ?_
      refine nl hK ?_
      refine rqd [76] hx fun K hK=>?_
      iterate 4 refine sa ?_
      refine i1 (i:=i) (n:=m) pX ?_
      refine l1 (Pt.el (ylP y m i) i (by omega)) ?_
      refine sa ?_
      refine c1 (Pt.cell q8) ?_
      refine sa ?_
      refine c1 (rQ (t:=0) rfl) ?_
      iterate 2 refine sa ?_
      rw[qY (by omega)]
      refine stG (d:=.pt ky ((m+i)*36)) tok (iaN (k:=ky) (i:=m+i) (n:=m+m) (by omega) rfl rfl) ?_
      refine l1 (Pt.el (ylP y m i) (m+i) (by omega)) ?_
      refine cq (w_Sub _ _) ?_
      refine i1 (i:=i) (n:=m) pX ?_
      refine t1 (Pt.el (ylP y m i) i (by omega)) (Pt.el_set (ylP y m i) i (by omega) _) ?_
      refine nl hK ?_
      rw[show (ylP y m i).set i (Il (ylP y m i)[i]! (ylP y m i)[m+i]!)=ylP y m (i+1) from rfl]
      refine rq hx fun K hK=>?_
      iterate 2 refine sa ?_
      refine nl hK ?_
      rw[bT]
      exact⟨i+1,wk1 vK,pX,by omega⟩
     ·refine AW.exit ?_
      have pX:m=i:=by have:=dp hb;omega
      subst pX
      obtain⟨ys,Qe⟩:∃ys,ys=(List.range m).map fun i=>Il y[i]! y[m+i]! :=⟨_,rfl⟩
      rw[←Qe] at iv
      have hysl:ys.length=m:=by rw[Qe];simp
      have FK:E.sl 36 m (((cW aw).f (ylP y m m)).take (m*36))=slE aw ys:=by
       have h2:=kr aw.f aw.h (ylP y m m) m
       rw[ylP_all hyl2,←Qe] at h2
       show E.sl 36 m (((ylP y m m).flatMap aw.f).take (m*36))=E.sl 36 ys.length (ys.flatMap aw.f)
       rw[hysl,←h2]
       rfl
      have hfl:(((ky,dC ((cW aw).f (ylP y m m)))::(kx,KC)::base).filter fun p=>!([ky]:List Nat).contains p.1)=(kx,KC)::base:=by
       rw[lX]
       have a1:¬kx=ky:=hxy
       have a2:¬1=ky:=by omega
       have a3:¬0=ky:=by omega
       simp[a1,a2,a3]
      have hfz:=WkS.frz2 (tm:=[(65,dB (decide ((m:Int)<(m:Int)))),(3,.pt 0 0),(6,.pt 1 0),(9,.pt kx 0),(10,dI .i64 r.2.1),(11,dI .i64 r.2.2),(12,.ow ky 0 36 m),(63,dI .i64 m),(64,dI .i64 m)]) (vs:=(ky,dC ((cW aw).f (ylP y m m)))::(kx,KC)::base) (lv:=[]) (N:=11+8*(m+m)) (t:=12) (k:=ky) (z:=36) (n:=m) (F:=(cW aw).f (ylP y m m)) (by decide) rfl aa (by
       have:((cW aw).f (ylP y m m)).length=(ylP y m m).length*36:=ip aw.f aw.h _
       rw[this,hyi];omega)
      rw[hfl,FK] at hfz
      refine AW.weak (tm':=(12,.e (slE aw ys))::[(65,dB (decide ((m:Int)<(m:Int)))),(3,.pt 0 0),(6,.pt 1 0),(9,.pt kx 0),(10,dI .i64 r.2.1),(11,dI .i64 r.2.2),(12,.ow ky 0 36 m),(63,dI .i64 m),(64,dI .i64 m)]) (hp':=⟨(kx,KC)::base,[],11+8*(m+m)⟩) (fun _ _ hr=>hfz.rs hr) (AW.seq (rs hx fun K hK=>?_))
      refine sa ?_
      refine cq (PK (c:=ys) (by omega)) ?_
      refine sa ?_
      refine nl hK ?_
      refine AW.condS rfl (fun hb=>?_) (fun hb=>?_)
      ·have iv:=iv.trans (ah (by simpa using hb))
       refine rs hx fun K hK=>?_
       refine s2 (dE tbI) It ?_
       refine v1 (F2:=r8 ⟨0,[],[],[]⟩) (ys:=r8 ⟨0,[],[],[]⟩) (Pt.all (F:=dC lQ)) rfl rfl rfl ?_
       iterate 2 refine sa ?_
       refine nl hK ?_
       exact AW.ret (rtE vK iv aa (by omega))
      ·have iv:=iv.trans (ai (by simpa using hb))
       refine AW.skip (rs hx fun K hK=>?_)
       iterate 2 refine sa ?_
       refine v1 (F2:=r8 ⟨2,[],ys,[]⟩) (ys:=[.e (slE aw ys)]) (Pt.cell q8) rfl rfl (by rw[hKC];rfl) ?_
       refine nl hK ?_
       refine rs hx fun K hK=>?_
       refine p1 (Pt.all (F:=r8 ⟨2,[],ys,[]⟩)) rfl ?_
       refine sa ?_
       refine v1 (F2:=r8 ⟨2,[],ys,[]⟩) (ys:=r8 ⟨2,[],ys,[]⟩) (Pt.all (F:=dC lQ)) rfl rfl rfl ?_
       iterate 2 refine sa ?_
       refine nl hK ?_
       exact AW.ret (rtE vK iv aa (by omega))
end
end
section
structure VS(a:fE)(b:List am)(m nn:Nat):Prop where
 hr:a.vR=m
 hc:a.vC=nn
 hm:m≤1000
 hn:nn≤2000
 oA:okL a.vV
 oB:okL b
 lA:a.vV.length=m*nn
 lB:b.length=m
 l1:a.vV.length≤1000000
 gA:∀i,i<(kW (a.vV.map n9)).length→ar (kW (a.vV.map n9))[i]! =true
 gB:∀i,i<(kW (b.map n9)).length→ar (kW (b.map n9))[i]! =true
 v:gV ⟨⟨((m+m:Nat):Int),nn,(kW (a.vV.map n9)).map nv⟩,(kW (b.map n9)).map nv,(List.replicate nn (nOf 0)).map nv⟩=some true
open Classical in
def ls(aI:fE)(aQ:List am)(kV:Int):Option (ct×Int×Int):=
 bnd (fW aI aQ) fun v=>if v=true∧0≤kV then
  if VS aI aQ aI.vR.toNat aI.vC.toNat∧kV≤9223372036854775807 then some (r7 (ze aI.vR.toNat aI.vC.toNat (aI.vV.map n9) (aQ.map n9) kV)) else none
 else some (r7 (⟨0,[],[],[]⟩,0,1))
theorem VS.cells {a:fE}{b:List am}{m nn:Nat}(h:VS a b m nn):dG mu a=.ag (maC m nn (a.vV.map n9))∧dL ak b=.e (slE aw (b.map n9)):=by
 unfold maC
 rw[kU,kU,tZ h.oA,tZ h.oB,←h.hr,←h.hc]
 exact⟨rfl,rfl⟩
theorem Ut(R Cc:Int)(A B C:List Nu):dG dJ ⟨⟨R,Cc,A.map nv⟩,B.map nv,C.map nv⟩=.ag (prC R Cc A B C):=by
 unfold prC
 rw[kU,kU,kU]
 rfl
theorem ar_eq(r:Ans×Int×Int):AR (eqH r) (eqD r) (.tu [dG jC (r7 r).1,dI .i64 (r7 r).2.1,dI .i64 (r7 r).2.2]):=by
 have e:dG jC (r7 r).1=.ag (r8 r.1):=by
  unfold r8
  rw[kU,kU,kU];rfl
 rw[e]
 exact AR.tu ⟨AR.same rfl,AR.dn rfl,AR.dn rfl,trivial⟩
theorem TK {cs:List D}{b:E}{v:Bool}{most:Int}(hlen:cs.length=3)(hpu:(D.ag cs).pure=true)(hv:aq prog 73 [.ag cs,.e b] (dB v))(hbad:¬(v=true∧0≤most)):
  HC prog 21 [.ag cs,.e b,dI .i64 most] ⟨[],[],0⟩ (eqD (⟨0,[],[],[]⟩,0,1)) (eqH (⟨0,[],[],[]⟩,0,1)):=by
 refine HC.of (rs:=[.cell 6 29,.tmp 7,.tmp 8]) tok func21 rfl rfl (a9 rfl) rfl (fun cx hx vK hok=>?_)
 simp only[fC,Nat.reduceAdd,br]
 refine rs hx fun K hK=>?_
 refine s1 (fQ (cs:=cs)) ?_
 refine a1 (F:=lQ) tbI ?_
 iterate 2 refine sa ?_
 refine nl hK ?_
 refine AW.seq (rs hx fun K hK=>?_)
 refine p1 (ht:=ye) (Pt.all (F:=cs)) hlen ?_
 refine sa ?_
 refine q1 (sHC (HC.frz (ds:=[.ag cs,.e b]) hv ⟨AR.same hpu,AR.same rfl,trivial⟩ rfl) rfl (.inr (Fr.refl _))) ?_
 iterate 2 refine sa ?_
 cases v with
 |false=>
  iterate 2 refine gn rfl ?_
  refine s1 (d:=dB true) (oU rfl) ?_
  refine nl hK ?_
  refine AW.condT rfl rfl (rs hx fun K hK=>?_)
  refine s2 (dE tbI) It ?_
  refine v1 (F2:=r8 ⟨0,[],[],[]⟩) (ys:=r8 ⟨0,[],[],[]⟩) (Pt.all (F:=dC lQ)) rfl rfl rfl ?_
  iterate 2 refine sa ?_
  refine nl hK ?_
  exact AW.ret (rtE vK rfl aa (by omega))
 |true=>
  iterate 2 refine ga rfl ?_
  refine s1 (d:=dB (decide (most<0))) (l6 rfl) ?_
  refine nl hK ?_
  refine AW.condT rfl (aA (by simp only[true_and] at hbad;omega)) (rs hx fun K hK=>?_)
  refine s2 (dE tbI) It ?_
  refine v1 (F2:=r8 ⟨0,[],[],[]⟩) (ys:=r8 ⟨0,[],[],[]⟩) (Pt.all (F:=dC lQ)) rfl rfl rfl ?_
  iterate 2 refine sa ?_
  refine nl hK ?_
  exact AW.ret (rtE vK rfl aa (by omega))
theorem vr {aI:fE}{aQ:List am}{kV:Int}{r:ct×Int×Int}(h:ls aI aQ kV=some r):aq prog 21 [dG mu aI,dL ak aQ,dI .i64 kV] (.tu [dG jC r.1,dI .i64 r.2.1,dI .i64 r.2.2]):=by
 unfold ls at h
 obtain⟨v,hv,h⟩:=ae h
 have hv:=rD hv
 by_cases hg:v=true∧0≤kV
 ·rw[ai hg] at h
  by_cases hq:VS aI aQ aI.vR.toNat aI.vC.toNat∧kV≤9223372036854775807
  ·rw[ai hq] at h
   have h:=bC h
   subst h
   obtain⟨hq,Eh⟩:=hq
   have hV:=qB hq.v
   rw[Ut] at hV
   rw[hg.1] at hv
   rw[hq.cells.1,hq.cells.2] at hv ⊢
   have h2:=h_Equal (most:=kV) hv hV hq.hm hq.hn (by rw[bb];exact hq.lA) (by rw[bb];exact hq.lB) hq.gA hq.gB (by rw[bb];exact hq.l1) hg.2 Eh
   exact HC.toP h2 (ar_eq _)
  ·rw[ah hq] at h;cases h
 ·rw[ah hg] at h
  have h:=bC h
  subst h
  have h2:=TK (cs:=dC (mu.f aI)) (b:=slE ak aQ) ((eA _).trans (mu.h aI)) (jJ mu aI) hv hg
  exact HC.toP h2 (ar_eq _)
end
end
end Go.Proofs.YtaedcknhkjpmlaaGreat
