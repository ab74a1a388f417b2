/-
  Lemmas, part 7. Conditions: none.
-/
import Derived.Test.YtaedcknhkjpmlaaGreatK6
set_option linter.all false
set_option maxRecDepth 100000
namespace Go.Proofs.YtaedcknhkjpmlaaGreat
open Go.RowKit Go.IntKind
noncomputable section
structure et where
 vR:Int
 vC:Int
 vV:List ao
 deriving Inhabited,DecidableEq
def eN:Cd et:=⟨3,fun x=>[.lit (.int .i64 x.vR),.lit (.int .i64 x.vC),slE ai x.vV],fun _=>rfl⟩
structure bR where
 vA:et
 vB:List ao
 vC:List ao
 deriving Inhabited,DecidableEq
def b9:Cd bR:=⟨5,fun x=>eN.f x.vA++[slE ai x.vB,slE ai x.vC],fun x=>by simp[eN.h,show eN.sz=3 from rfl]⟩
structure bP where
 vKind:Int
 vX:List ao
 vY:List ao
 vRay:List ao
 deriving Inhabited,DecidableEq
def dJ:Cd bP:=⟨4,fun x=>[.lit (.int .i64 x.vKind),slE ai x.vX,slE ai x.vY,slE ai x.vRay],fun _=>rfl⟩
def gf(aJ:et)(iZ:Int):Option Bool:=bnd (S:=Bool) (cnd (decide ((0:Int)≤aJ.vR)) (cnd (decide ((0:Int)≤aJ.vC)) (cnd (decide (aJ.vR≤iZ)) (cnd (decide (aJ.vC≤(2000:Int))) (cnd (decide (((aJ.vV).length:Int)=(i64.wrap (aJ.vR*aJ.vC)))) (bnd (dH aJ.vV) fun x6=>some (x6)) (some (false))) (some (false))) (some (false))) (some (false))) (some (false))) fun bI=>some bI
set_option maxHeartbeats 4000000 in
theorem qU {aJ:et}{iZ:Int}{r:Bool}(h:gf aJ iZ=some r):ax Tryz.prog 61 [dG eN aJ,dI .i64 iZ] (dB r):=by
 refine bC (rs:=[.tmp 4]) (fun cx hx h0=>?_) Tryz.func61
 unfold gf at h
 refine rs hx fun K hK=>?_
 refine s1 (d:=.pt 0 0) fB ?_
 refine sa ?_
 refine .nil (hK _ _ (AW.seq ?_))
 obtain⟨bI,hy,h⟩:=ae h
 refine jn ((PE cx .normal (fun bI=>[(4,dB bI)]) fun bI=>⟨[],[],0⟩) bI) ?_ ?_
 replace h:=hy
 refine rq hx fun K hK=>?_
 refine sa ?_
 refine s1 (aX bE) ?_
 iterate 2 refine sa ?_
 rcases az (decide ((0:Int)≤aJ.vR)) with cv|cv
 replace h:=aO cv h
 refine ga cv ?_
 refine g1 cv (aX bE) ?_
 refine ga cv ?_
 refine s1 (ar cv) ?_
 refine sa ?_
 rcases az (decide ((0:Int)≤aJ.vC)) with ly|ly
 replace h:=aO ly h
 refine ga ly ?_
 refine g1 ly (aX bE) ?_
 iterate 2 refine ga ly ?_
 refine s1 (ar ly) ?_
 refine sa ?_
 rcases az (decide (aJ.vR≤iZ)) with a8|a8
 replace h:=aO a8 h
 refine ga a8 ?_
 refine g1 a8 (aX bE) ?_
 refine ga a8 ?_
 refine s1 (ar a8) ?_
 refine sa ?_
 rcases az (decide (aJ.vC≤(2000:Int))) with gO|gO
 replace h:=aO gO h
 refine ga gO ?_
 refine g1 gO (aX aH) ?_
 iterate 2 refine ga gO ?_
 refine g1 gO (aX bE) ?_
 refine ga gO ?_
 refine g1 gO (aX bE) ?_
 iterate 2 refine ga gO ?_
 refine s1 (ar gO) ?_
 refine sa ?_
 rcases az (decide (((aJ.vV).length:Int)=(i64.wrap (aJ.vR*aJ.vC)))) with dy|dy
 replace h:=aO dy h
 refine ga dy ?_
 refine g1 dy (aX aH) ?_
 obtain⟨x6,rT,h⟩:=ae h
 refine g1 dy (bb rfl (f6 rT) rfl (lA (ap _) lAn) (.inl rfl)) ?_
 refine s1 (ar dy) ?_
 refine sa ?_
 refine .nil (hK _ _ ?_)
 cases h
 exact pe0 h0 []
 replace h:=aP dy h
 iterate 3 refine aG rfl rfl dy ?_
 refine s1 (an dy) ?_
 refine sa ?_
 refine .nil (hK _ _ ?_)
 cases h
 exact pe0 h0 []
 replace h:=aP gO h
 iterate 9 refine aG rfl rfl gO ?_
 refine s1 (an gO) ?_
 refine sa ?_
 iterate 3 refine aG rfl rfl rfl ?_
 refine s1 (an rfl) ?_
 refine sa ?_
 refine .nil (hK _ _ ?_)
 cases h
 exact pe0 h0 []
 replace h:=aP a8 h
 iterate 3 refine aG rfl rfl a8 ?_
 refine s1 (an a8) ?_
 refine sa ?_
 iterate 9 refine aG rfl rfl rfl ?_
 refine s1 (an rfl) ?_
 refine sa ?_
 iterate 3 refine aG rfl rfl rfl ?_
 refine s1 (an rfl) ?_
 refine sa ?_
 refine .nil (hK _ _ ?_)
 cases h
 exact pe0 h0 []
 replace h:=aP ly h
 iterate 4 refine aG rfl rfl ly ?_
 refine s1 (an ly) ?_
 refine sa ?_
 iterate 3 refine aG rfl rfl rfl ?_
 refine s1 (an rfl) ?_
 refine sa ?_
 iterate 9 refine aG rfl rfl rfl ?_
 refine s1 (an rfl) ?_
 refine sa ?_
 iterate 3 refine aG rfl rfl rfl ?_
 refine s1 (an rfl) ?_
 refine sa ?_
 refine .nil (hK _ _ ?_)
 cases h
 exact pe0 h0 []
 replace h:=aP cv h
 iterate 3 refine aG rfl rfl cv ?_
 refine s1 (an cv) ?_
 refine sa ?_
 iterate 4 refine aG rfl rfl rfl ?_
 refine s1 (an rfl) ?_
 refine sa ?_
 iterate 3 refine aG rfl rfl rfl ?_
 refine s1 (an rfl) ?_
 refine sa ?_
 iterate 9 refine aG rfl rfl rfl ?_
 refine s1 (an rfl) ?_
 refine sa ?_
 iterate 3 refine aG rfl rfl rfl ?_
 refine s1 (an rfl) ?_
 refine sa ?_
 refine .nil (hK _ _ ?_)
 cases h
 exact pe0 h0 []
 rintro ex tm' hp' ⟨rfl,hw⟩
 refine AW.weak hw (AW.ret ?_)
 cases h
 exact rv1
def g6(nV:bR):Option Bool:=bnd (S:=Bool) (bnd (gf nV.vA (2000:Int)) fun x1=>cnd x1 (cnd (decide (((nV.vB).length:Int)=nV.vA.vR)) (cnd (decide (((nV.vC).length:Int)=nV.vA.vC)) (bnd (dH nV.vB) fun x6=>cnd x6 (bnd (dH nV.vC) fun x9=>some (x9)) (some (false))) (some (false))) (some (false))) (some (false))) fun bI=>some bI
set_option maxHeartbeats 4000000 in
theorem p7 {nV:bR}{r:Bool}(h:g6 nV=some r):ax Tryz.prog 15 [dG b9 nV] (dB r):=by
 refine bC (rs:=[.tmp 2]) (fun cx hx h0=>?_) Tryz.func15
 unfold g6 at h
 refine rs hx fun K hK=>?_
 refine s1 (d:=.pt 0 0) fB ?_
 refine sa ?_
 refine .nil (hK _ _ (AW.seq ?_))
 obtain⟨bI,hy,h⟩:=ae h
 refine jn ((PE cx .normal (fun bI=>[(2,dB bI)]) fun bI=>⟨[],[],0⟩) bI) ?_ ?_
 replace h:=hy
 refine rq hx fun K hK=>?_
 refine sa ?_
 refine s1 (d:=dG eN nV.vA) (fV iS) ?_
 refine scb h qU fun x1 h=>?_
 refine sa ?_
 rcases az x1 with a8|a8
 replace h:=aO a8 h
 refine ga a8 ?_
 refine g1 a8 (aX aH) ?_
 iterate 3 refine ga a8 ?_
 refine g1 a8 (aX bE) ?_
 refine ga a8 ?_
 refine s1 (ar a8) ?_
 refine sa ?_
 rcases az (decide (((nV.vB).length:Int)=nV.vA.vR)) with gO|gO
 replace h:=aO gO h
 refine ga gO ?_
 refine g1 gO (aX aH) ?_
 iterate 3 refine ga gO ?_
 refine g1 gO (aX bE) ?_
 refine ga gO ?_
 refine s1 (ar gO) ?_
 refine sa ?_
 rcases az (decide (((nV.vC).length:Int)=nV.vA.vC)) with dy|dy
 replace h:=aO dy h
 refine ga dy ?_
 refine g1 dy (aX aH) ?_
 obtain⟨x6,rT,h⟩:=ae h
 refine g1 dy (bb rfl (f6 rT) rfl (lA (ap _) lAn) (.inl rfl)) ?_
 refine s1 (ar dy) ?_
 refine sa ?_
 rcases az x6 with ju|ju
 replace h:=aO ju h
 refine ga ju ?_
 refine g1 ju (aX aH) ?_
 obtain⟨x9,vw,h⟩:=ae h
 refine g1 ju (bb rfl (f6 vw) rfl (lA (ap _) lAn) (.inl rfl)) ?_
 refine s1 (ar ju) ?_
 refine sa ?_
 refine .nil (hK _ _ ?_)
 cases h
 exact pe0 h0 []
 replace h:=aP ju h
 iterate 3 refine aG rfl rfl ju ?_
 refine s1 (an ju) ?_
 refine sa ?_
 refine .nil (hK _ _ ?_)
 cases h
 exact pe0 h0 []
 replace h:=aP dy h
 iterate 3 refine aG rfl rfl dy ?_
 refine s1 (an dy) ?_
 refine sa ?_
 iterate 3 refine aG rfl rfl rfl ?_
 refine s1 (an rfl) ?_
 refine sa ?_
 refine .nil (hK _ _ ?_)
 cases h
 exact pe0 h0 []
 replace h:=aP gO h
 iterate 7 refine aG rfl rfl gO ?_
 refine s1 (an gO) ?_
 refine sa ?_
 iterate 3 refine aG rfl rfl rfl ?_
 refine s1 (an rfl) ?_
 refine sa ?_
 iterate 3 refine aG rfl rfl rfl ?_
 refine s1 (an rfl) ?_
 refine sa ?_
 refine .nil (hK _ _ ?_)
 cases h
 exact pe0 h0 []
 replace h:=aP a8 h
 iterate 7 refine aG rfl rfl a8 ?_
 refine s1 (an a8) ?_
 refine sa ?_
 iterate 7 refine aG rfl rfl rfl ?_
 refine s1 (an rfl) ?_
 refine sa ?_
 iterate 3 refine aG rfl rfl rfl ?_
 refine s1 (an rfl) ?_
 refine sa ?_
 iterate 3 refine aG rfl rfl rfl ?_
 refine s1 (an rfl) ?_
 refine sa ?_
 refine .nil (hK _ _ ?_)
 cases h
 exact pe0 h0 []
 rintro ex tm' hp' ⟨rfl,hw⟩
 refine AW.weak hw (AW.ret ?_)
 cases h
 exact rv1
def ib(lR:List ao)(aU:List ao):Int×ao→Option ((Int×ao)⊕ao):=fun (bz,rM)=>cnd (decide (bz<((lR).length:Int))) (gd (0≤bz∧bz<((lR).length:Int)) (gd (0≤bz∧bz<((aU).length:Int)) (bnd (iz ((lR)[(bz).toNat]!) ((aU)[(bz).toNat]!)) fun o7=>bnd (iA rM o7) fun nD=>some (.inl (i64.wrap (bz+(1:Int)),nD))))) (some (.inr rM))
def dE(lR:List ao)(aU:List ao):Option ao:=cnd (decide (((lR).length:Int)≠((aU).length:Int))) (bnd (fP) fun x2=>some x2) (bnd (pl (0:Int)) fun x4=>bnd (bL (ib lR aU) ((0:Int),x4)) fun ls=>some ls)
set_option maxHeartbeats 4000000 in
theorem fN {lR:List ao}{aU:List ao}{r:ao}(h:dE lR aU=some r):ax Tryz.prog 17 [dL ai lR,dL ai aU] (dG ai r):=by
 refine bC (rs:=[.cell 4 43]) (fun cx hx h0=>?_) Tryz.func17
 unfold dE at h
 refine rs hx fun K hK=>?_
 refine s1 (be (F:=ai.f cG) aw) ?_
 refine .nil (hK _ _ (AW.seq (ra hx ?_)))
 refine cdh h rfl (fun cv h=>?_) (fun cv h=>?_)
 refine rs hx fun K hK=>?_
 refine scb h mu fun x2 h=>?_
 refine s0 (aE (b':=x2) (ak.id _ _) aw) ?_
 refine .nil (hK _ _ (AW.ret ?_))
 cases h
 exact rv1
 refine AW.skip (rs hx fun K hK=>?_)
 refine scb h B7 fun x4 h=>?_
 refine s1 (be (F:=ai.f cG) aw) ?_
 refine s0 (aE (b':=x4) (ak.id _ _) aw) ?_
 refine .nil (hK _ _ (AW.seq (ra hx ?_)))
 refine AW.block ?_
 obtain⟨ls,hy,h⟩:=ae h
 refine lp (S:=Int×ao) (X:=ao) (fun (bz,rM)=>[(0,dL ai lR),(1,dL ai aU),(4,.pt 0 0),(5,.pt 1 0),(15,dI .i64 ((lR).length:Int)),(16,dI .i64 bz)]) (fun (bz,rM)=>⟨[(0,dC (ai.f cG)),(1,dC (ai.f rM))],[],2⟩) (PE cx (.exit 0) (fun ls=>[(4,.pt 0 0),(5,.pt 1 0)]) fun ls=>⟨[(0,dC (ai.f cG)),(1,dC (ai.f ls))],[],2⟩) hy ?_ ?_ ?_
 exact wk h0 [0,1] (wR rfl (wR rfl (wR rfl (wR rfl (wR rfl (wR rfl wTn)))))) (vC rfl (vC rfl wVn)) wLn
 clear hy h
 rintro⟨bz,rM⟩ y h
 dsimp only[ib] at h
 refine ra hx ?_
 refine AW.seq (cdh h rfl (fun fC h=>?_) (fun fC h=>?_))
 refine AW.skip (AW.seq (AW.block (ra hx ?_)))
 refine rqd [29,66] hx fun K hK=>?_
 refine s1 (d:=dG ai rM) (aq (ak.id _ _) aw) ?_
 iterate 2 refine sa ?_
 obtain⟨JO,h⟩:=aD h
 have G6:(bz).toNat<(lR).length:=by omega
 refine s1 (gV JO aH aw) ?_
 refine s1 (d:=dG ai ((lR)[(bz).toNat]!)) (mj (c:=ai) (l:=lR) (n:=(bz).toNat) (o:=0) aw G6 (fm _ _ rfl)) ?_
 iterate 2 refine sa ?_
 obtain⟨hc9,h⟩:=aD h
 have JK:(bz).toNat<(aU).length:=by omega
 refine s1 (gV hc9 aH aw) ?_
 refine s1 (d:=dG ai ((aU)[(bz).toNat]!)) (mj (c:=ai) (l:=aU) (n:=(bz).toNat) (o:=0) aw JK (fm _ _ rfl)) ?_
 refine cqb h ve fun o7 h=>?_
 refine cqb h vf fun nD h=>?_
 refine s0 (aE (b':=nD) (ak.id _ _) aw) ?_
 refine .nil (hK _ _ (rb hx ?_))
 cases h
 exact PS.l (pe0 h0 [0,1])
 refine AW.exit ?_
 try dsimp only
 try simp only[aS,reduceIte,Nat.reduceEqDiff,reduceCtorEq]
 cases h
 exact PS.r ⟨by nofun,PE.i (wk h0 [0,1] (wR rfl (wR rfl wTn)) (vC rfl (vC rfl wVn)) wLn)⟩
 rintro ex tm' hp' ⟨rfl,hw⟩
 try dsimp only
 try simp only[aS,reduceIte,Nat.reduceEqDiff,reduceCtorEq]
 refine AW.weak hw (rs hx fun K hK=>?_)
 refine s1 (d:=dG ai ls) (aq (ak.id _ _) aw) ?_
 refine s0 (aE (b':=ls) (ak.id _ _) aw) ?_
 refine .nil (hK _ _ (AW.ret ?_))
 cases h
 exact rv1
def fH(aU:ao):Option Bool:=bnd (S:=Bool) (bnd (br aU) fun x1=>cnd (!x1) (some (true)) (bnd (lb aU) fun x4=>some (decide (x4<(0:Int))))) fun bI=>some bI
theorem tI {aU:ao}{r:Bool}(h:fH aU=some r):ax Tryz.prog 139 [dG ai aU] (dB r):=by
 refine bC (rs:=[.tmp 2]) (fun cx hx h0=>?_) Tryz.func139
 unfold fH at h
 refine ra hx ?_
 refine AW.seq ?_
 obtain⟨bI,hy,h⟩:=ae h
 refine jn ((PE cx .normal (fun bI=>[(2,dB bI)]) fun bI=>⟨[],[],0⟩) bI) ?_ ?_
 replace h:=hy
 refine rq hx fun K hK=>?_
 refine s1 (d:=dG ai aU) (aq (ak.id _ _) aw) ?_
 refine scb h cJ fun x1 h=>?_
 iterate 2 refine sa ?_
 rcases az (!x1) with a8|a8
 replace h:=aO a8 h
 iterate 3 refine aG rfl rfl a8 ?_
 refine s1 (ar a8) ?_
 refine sa ?_
 refine .nil (hK _ _ ?_)
 cases h
 exact pe0 h0 []
 replace h:=aP a8 h
 refine g1 (d:=dG ai aU) a8 (aq (ak.id _ _) aw) ?_
 obtain⟨x4,qd,h⟩:=ae h
 refine g1 a8 (bb rfl (tO qd) (by simp only[cP,dA,bX,bt,bc,bp];exact aC _ _) (lA (bZ _ _) lAn) (.inl rfl)) ?_
 refine ga a8 ?_
 refine s1 (an a8) ?_
 refine sa ?_
 refine .nil (hK _ _ ?_)
 cases h
 exact pe0 h0 []
 rintro ex tm' hp' ⟨rfl,hw⟩
 refine AW.weak hw (AW.ret ?_)
 cases h
 exact rv1
def a9(uT:List ao):Int→Option (Int⊕(Int⊕Unit)):=fun aL=>cnd (decide (aL<((uT).length:Int))) (gd (0≤aL∧aL<((uT).length:Int)) (bnd (fH ((uT)[(aL).toNat]!)) fun x4=>cnd x4 (some (.inr (.inl aL))) (some (.inl (i64.wrap (aL+(1:Int))))))) (some (.inr (.inr ())))
def bD(uT:List ao):Option Int:=bnd (bL (a9 uT) (0:Int)) fun y7=>match y7 with| .inl r=>some r| .inr ()=>some (-1:Int)
theorem gJ {uT:List ao}{r:Int}(h:bD uT=some r):ax Tryz.prog 106 [dL ai uT,.e (.lit (.func (.func 139) #[] #[]))] (dI .i64 r):=by
 refine bC (rs:=[.tmp 4]) (fun cx hx h0=>?_) Tryz.func106
 unfold bD at h
 refine ra hx ?_
 refine AW.seq (ra hx ?_)
 refine AW.block ?_
 obtain⟨y,hy,h⟩:=ae h
 refine lp (S:=Int) (X:=Int⊕Unit) (fun aL=>[(0,dL ai uT),(1,.e (.lit (.func (.func 139) #[] #[]))),(7,dI .i64 ((uT).length:Int)),(8,dI .i64 aL)]) (fun aL=>⟨[],[],0⟩) (PS (PR [.tmp 4] fun r=>dI .i64 r) (PE cx (.exit 0) (fun ()=>[]) fun ()=>⟨[],[],0⟩)) hy ?_ ?_ ?_
 exact wk h0 [] (wR rfl (wR rfl (wR rfl (wR rfl wTn)))) wVn wLn
 clear hy h
 rintro aL y h
 dsimp only[a9] at h
 refine ra hx ?_
 refine AW.seq (cdh h rfl (fun cv h=>?_) (fun cv h=>?_))
 refine AW.skip (AW.seq (AW.block (ra hx ?_)))
 refine rs hx fun K hK=>?_
 iterate 3 refine sa ?_
 obtain⟨mq,h⟩:=aD h
 have qD:(aL).toNat<(uT).length:=by omega
 refine s1 (gV mq aH aw) ?_
 refine s1 (d:=dG ai ((uT)[(aL).toNat]!)) (mj (c:=ai) (l:=uT) (n:=(aL).toNat) (o:=0) aw qD (fm _ _ rfl)) ?_
 refine scb h tI fun x4 h=>?_
 refine .nil (hK _ _ (cdh h rfl (fun fC h=>?_) (fun fC h=>?_)))
 refine ra hx ?_
 refine AW.ret ?_
 cases h
 refine PS.r ⟨by nofun,PS.l (PR.i ?_)⟩
 exact rv1
 refine AW.skip (rb hx ?_)
 cases h
 exact PS.l (pe0 h0 [])
 refine AW.exit ?_
 try dsimp only
 try simp only[aS,reduceIte,Nat.reduceEqDiff,reduceCtorEq]
 cases h
 exact PS.r ⟨by nofun,PS.r (PE.i (wk h0 [] wTn wVn wLn))⟩
 rcases y with r|⟨⟩
 rintro ex tm' hp' ⟨rfl,hw⟩
 cases h
 exact hw
 rintro ex tm' hp' ⟨rfl,hw⟩
 try dsimp only
 try simp only[aS,reduceIte,Nat.reduceEqDiff,reduceCtorEq]
 refine AW.weak hw (ra hx ?_)
 refine AW.ret ?_
 cases h
 exact rv1
def ba(uT:List ao):Option Bool:=bnd (bD uT) fun x1=>some (decide ((0:Int)≤x1))
theorem f5 {uT:List ao}{r:Bool}(h:ba uT=some r):ax Tryz.prog 119 [dL ai uT,.e (.lit (.func (.func 139) #[] #[]))] (dB r):=by
 refine bC (rs:=[.tmp 4]) (fun cx hx h0=>?_) Tryz.func119
 unfold ba at h
 refine ra hx ?_
 refine rs hx fun K hK=>?_
 iterate 2 refine sa ?_
 refine scb h gJ fun x1 h=>?_
 iterate 2 refine sa ?_
 refine .nil (hK _ _ (AW.ret ?_))
 cases h
 exact rv1
def eA(eZ:List ao)(cy:Int):Option Bool:=bnd (S:=Bool) (cnd (decide (((eZ).length:Int)=cy)) (bnd (ba eZ) fun x2=>some (!x2)) (some (false))) fun bI=>some bI
theorem ms {eZ:List ao}{cy:Int}{r:Bool}(h:eA eZ cy=some r):ax Tryz.prog 80 [dL ai eZ,dI .i64 cy] (dB r):=by
 refine bC (rs:=[.tmp 4]) (fun cx hx h0=>?_) Tryz.func80
 unfold eA at h
 refine ra hx ?_
 refine AW.seq ?_
 obtain⟨bI,hy,h⟩:=ae h
 refine jn ((PE cx .normal (fun bI=>[(4,dB bI)]) fun bI=>⟨[],[],0⟩) bI) ?_ ?_
 replace h:=hy
 refine rq hx fun K hK=>?_
 iterate 5 refine sa ?_
 rcases az (decide (((eZ).length:Int)=cy)) with cv|cv
 replace h:=aO cv h
 refine ga cv ?_
 obtain⟨x2,Gi,h⟩:=ae h
 refine g1 cv (bb rfl (f5 Gi) rfl (lA (ap _) (lA (ap _) lAn)) (.inl rfl)) ?_
 refine ga cv ?_
 refine s1 (ar cv) ?_
 refine sa ?_
 refine .nil (hK _ _ ?_)
 cases h
 exact pe0 h0 []
 replace h:=aP cv h
 iterate 3 refine aG rfl rfl cv ?_
 refine s1 (an cv) ?_
 refine sa ?_
 refine .nil (hK _ _ ?_)
 cases h
 exact pe0 h0 []
 rintro ex tm' hp' ⟨rfl,hw⟩
 refine AW.weak hw (AW.ret ?_)
 cases h
 exact rv1
def ge(aJ:et)(aQ:List ao):Option Bool:=bnd (S:=Bool) (bnd (gf aJ (1000:Int)) fun x1=>cnd x1 (cnd (decide (((aQ).length:Int)=aJ.vR)) (bnd (dH aQ) fun x5=>some (x5)) (some (false))) (some (false))) fun bI=>some bI
theorem qT {aJ:et}{aQ:List ao}{r:Bool}(h:ge aJ aQ=some r):ax Tryz.prog 73 [dG eN aJ,dL ai aQ] (dB r):=by
 refine bC (rs:=[.tmp 4]) (fun cx hx h0=>?_) Tryz.func73
 unfold ge at h
 refine rs hx fun K hK=>?_
 refine s1 (d:=.pt 0 0) fB ?_
 refine sa ?_
 refine .nil (hK _ _ (AW.seq ?_))
 obtain⟨bI,hy,h⟩:=ae h
 refine jn ((PE cx .normal (fun bI=>[(4,dB bI)]) fun bI=>⟨[],[],0⟩) bI) ?_ ?_
 replace h:=hy
 refine rq hx fun K hK=>?_
 refine s1 (d:=dG eN aJ) (fV iS) ?_
 refine scb h qU fun x1 h=>?_
 refine sa ?_
 rcases az x1 with a8|a8
 replace h:=aO a8 h
 iterate 3 refine ga a8 ?_
 refine g1 a8 (aX bE) ?_
 refine ga a8 ?_
 refine s1 (ar a8) ?_
 refine sa ?_
 rcases az (decide (((aQ).length:Int)=aJ.vR)) with gO|gO
 replace h:=aO gO h
 refine ga gO ?_
 obtain⟨x5,Bq,h⟩:=ae h
 refine g1 gO (bb rfl (f6 Bq) rfl (lA (ap _) lAn) (.inl rfl)) ?_
 refine s1 (ar gO) ?_
 refine sa ?_
 refine .nil (hK _ _ ?_)
 cases h
 exact pe0 h0 []
 replace h:=aP gO h
 iterate 2 refine aG rfl rfl gO ?_
 refine s1 (an gO) ?_
 refine sa ?_
 refine .nil (hK _ _ ?_)
 cases h
 exact pe0 h0 []
 replace h:=aP a8 h
 iterate 5 refine aG rfl rfl a8 ?_
 refine s1 (an a8) ?_
 refine sa ?_
 iterate 2 refine aG rfl rfl rfl ?_
 refine s1 (an rfl) ?_
 refine sa ?_
 refine .nil (hK _ _ ?_)
 cases h
 exact pe0 h0 []
 rintro ex tm' hp' ⟨rfl,hw⟩
 refine AW.weak hw (AW.ret ?_)
 cases h
 exact rv1
def jg(aJ:et)(NU:Int):Option (List ao):=gd (0≤i64.wrap (NU*aJ.vC)∧i64.wrap (NU*aJ.vC)≤i64.wrap ((i64.wrap (NU+(1:Int)))*aJ.vC)∧i64.wrap ((i64.wrap (NU+(1:Int)))*aJ.vC)≤((aJ.vV).length:Int)) (some (xL aJ.vV (i64.wrap (NU*aJ.vC)) (i64.wrap ((i64.wrap (NU+(1:Int)))*aJ.vC))))
theorem uy {aJ:et}{NU:Int}{r:List ao}(h:jg aJ NU=some r):ax Tryz.prog 82 [dG eN aJ,dI .i64 NU] (dL ai r):=by
 refine bC (rs:=[.tmp 4]) (fun cx hx h0=>?_) Tryz.func82
 unfold jg at h
 refine rs hx fun K hK=>?_
 refine s1 (d:=.pt 0 0) fB ?_
 refine s1 (d:=dO 1 ai ([]:List ao)) (fW aH aw) ?_
 refine .nil (hK _ _ (rs hx fun K hK=>?_))
 refine sa ?_
 refine s1 (aX aH) ?_
 iterate 2 refine sa ?_
 refine s1 (aX bE) ?_
 iterate 4 refine sa ?_
 refine s1 (aX bE) ?_
 refine sa ?_
 obtain⟨JR,h⟩:=aD h
 refine s1 (T_sl (c:=ai) (l:=aJ.vV) (a:=i64.wrap (NU*aJ.vC)) (b:=i64.wrap ((i64.wrap (NU+(1:Int)))*aJ.vC)) JR aH aw) ?_
 refine sa ?_
 refine .nil (hK _ _ (AW.ret ?_))
 cases h
 exact rv1
def pj(lR:Int):Option Bool:=some (decide (lR≤(0:Int)))
theorem zH {lR:Int}{r:Bool}(h:pj lR=some r):ax Tryz.prog 132 [dI .i64 lR] (dB r):=by
 refine bC (rs:=[.tmp 2]) (fun cx hx h0=>?_) Tryz.func132
 unfold pj at h
 iterate 2 refine ra hx ?_
 refine AW.ret ?_
 cases h
 exact rv1
def bM(aJ:et)(aU:List ao)(cf:List ao):Int→Option (Int⊕(Bool⊕Unit)):=fun aL=>cnd (decide (aL<((cf).length:Int))) (gd (0≤aL∧aL<((cf).length:Int)) (bnd (jg aJ aL) fun x4=>bnd (dE x4 aU) fun x6=>bnd (S:=Bool) (bnd (br x6) fun x8=>cnd (!x8) (some (true)) (bnd (jO x6 ((cf)[(aL).toNat]!)) fun o7=>bnd (pj o7) fun nD=>some (!nD))) fun fU=>cnd fU (some (.inr (.inl false))) (some (.inl (i64.wrap (aL+(1:Int))))))) (some (.inr (.inr ())))
def bA(aJ:et)(aU:List ao)(cf:List ao):Option Bool:=bnd (bL (bM aJ aU cf) (0:Int)) fun y17=>match y17 with| .inl r=>some r| .inr ()=>some true
set_option maxHeartbeats 4000000 in
theorem jp {aJ:et}{aU:List ao}{cf:List ao}{r:Bool}(h:bA aJ aU cf=some r):ax Tryz.prog 81 [.e (.lit (.func (.func 82) #[] #[])),dG eN aJ,dL ai aU,dL ai cf,.e (.lit (.func (.func 132) #[] #[]))] (dB r):=by
 refine bC (rs:=[.tmp 10]) (fun cx hx h0=>?_) Tryz.func81
 unfold bA at h
 refine rs hx fun K hK=>?_
 refine s1 (d:=.pt 0 0) fB ?_
 refine sa ?_
 refine .nil (hK _ _ (AW.seq (ra hx ?_)))
 refine AW.block ?_
 obtain⟨y,hy,h⟩:=ae h
 refine lp (S:=Int) (X:=Bool⊕Unit) (fun aL=>[(0,.e (.lit (.func (.func 82) #[] #[]))),(2,dL ai aU),(4,.e (.lit (.func (.func 132) #[] #[]))),(6,.pt 0 0),(14,dL ai cf),(15,dI .i64 ((cf).length:Int)),(16,dI .i64 aL)]) (fun aL=>⟨[(0,[dI .i64 aJ.vR,dI .i64 aJ.vC,dL ai aJ.vV])],[],1⟩) (PS (PR [.tmp 10] fun r=>dB r) (PE cx (.exit 0) (fun ()=>[]) fun ()=>⟨[],[],0⟩)) hy ?_ ?_ ?_
 exact wk h0 [0] (wR rfl (wR rfl (wR rfl (wR rfl (wR rfl (wR rfl (wR rfl wTn))))))) (vR rfl wVn) wLn
 clear hy h
 rintro aL y h
 dsimp only[bM] at h
 refine ra hx ?_
 refine AW.seq (cdh h rfl (fun cv h=>?_) (fun cv h=>?_))
 refine AW.skip (AW.seq (AW.block (rs hx fun K hK=>?_)))
 refine sa ?_
 obtain⟨mq,h⟩:=aD h
 have qD:(aL).toNat<(cf).length:=by omega
 refine s1 (gV mq aH aw) ?_
 refine s1 (d:=dG ai ((cf)[(aL).toNat]!)) (mj (c:=ai) (l:=cf) (n:=(aL).toNat) (o:=0) aw qD (fm _ _ rfl)) ?_
 refine s1 (be (F:=ai.f cG) aw) ?_
 refine sa ?_
 refine s0 (aE (b':=(cf)[(aL).toNat]!) (ak.id _ _) aw) ?_
 refine .nil (hK _ _ (rs hx fun K hK=>?_))
 refine sa ?_
 refine s1 (d:=dG eN aJ) (fV iS) ?_
 refine sa ?_
 refine scb h uy fun x4 h=>?_
 refine sa ?_
 refine scb h fN fun x6 h=>?_
 refine s1 (be (F:=ai.f cG) aw) ?_
 refine s0 (aE (b':=x6) (ak.id _ _) aw) ?_
 refine .nil (hK _ _ (AW.seq ?_))
 obtain⟨fU,hy,h⟩:=ae h
 refine jn ((PE cx .normal (fun fU=>[(0,.e (.lit (.func (.func 82) #[] #[]))),(2,dL ai aU),(4,.e (.lit (.func (.func 132) #[] #[]))),(6,.pt 0 0),(14,dL ai cf),(15,dI .i64 ((cf).length:Int)),(16,dI .i64 aL),(37,dB fU)]) fun fU=>⟨[(0,[dI .i64 aJ.vR,dI .i64 aJ.vC,dL ai aJ.vV])],[],1⟩) fU) ?_ ?_
 replace h:=hy
 refine rq hx fun K hK=>?_
 refine s1 (d:=dG ai x6) (aq (ak.id _ _) aw) ?_
 refine scb h cJ fun x8 h=>?_
 iterate 2 refine sa ?_
 rcases az (!x8) with dT|dT
 replace h:=aO dT h
 iterate 6 refine aG rfl rfl dT ?_
 refine s1 (ar dT) ?_
 refine .nil (hK _ _ ?_)
 cases h
 exact pe0 h0 [0]
 replace h:=aP dT h
 refine ga dT ?_
 refine g1 (d:=dG ai x6) dT (aq (ak.id _ _) aw) ?_
 refine g1 (d:=dG ai ((cf)[(aL).toNat]!)) dT (aq (ak.id _ _) aw) ?_
 obtain⟨o7,Gj,h⟩:=ae h
 refine g1 dT (bb rfl (r6 Gj) (by simp only[cP,dA,bX,bt,bc,bp];exact⟨aC _ _,aC _ _⟩) (lA (bZ _ _) (lA (bZ _ _) lAn)) (.inl rfl)) ?_
 obtain⟨nD,xQ,h⟩:=ae h
 refine g1 dT (bb rfl (zH xQ) rfl (lA (ap _) lAn) (.inl rfl)) ?_
 refine ga dT ?_
 refine s1 (an dT) ?_
 refine .nil (hK _ _ ?_)
 cases h
 exact pe0 h0 [0]
 rintro ex tm' hp' ⟨rfl,hw⟩
 refine AW.weak hw (cdh h rfl (fun oz h=>?_) (fun oz h=>?_))
 refine ra hx ?_
 refine AW.ret ?_
 cases h
 refine PS.r ⟨by nofun,PS.l (PR.i ?_)⟩
 exact rv1
 refine AW.skip (rb hx ?_)
 cases h
 exact PS.l (pe0 h0 [0])
 refine AW.exit ?_
 try dsimp only
 try simp only[aS,reduceIte,Nat.reduceEqDiff,reduceCtorEq]
 cases h
 exact PS.r ⟨by nofun,PS.r (PE.i (wk h0 [] wTn wVn wLn))⟩
 rcases y with r|⟨⟩
 rintro ex tm' hp' ⟨rfl,hw⟩
 cases h
 exact hw
 rintro ex tm' hp' ⟨rfl,hw⟩
 try dsimp only
 try simp only[aS,reduceIte,Nat.reduceEqDiff,reduceCtorEq]
 refine AW.weak hw (ra hx ?_)
 refine AW.ret ?_
 cases h
 exact rv1
def eb(aU:List ao)(aQ:List ao)(nM:bR):Option Bool:=bnd (S:=Bool) (bnd (eA aU nM.vA.vC) fun x1=>cnd x1 (bnd (bA nM.vA aU aQ) fun x4=>some (x4)) (some (false))) fun bI=>some bI
theorem lY {aU:List ao}{aQ:List ao}{nM:bR}{r:Bool}(h:eb aU aQ nM=some r):HC Tryz.prog 131 [dL ai aU,dL ai aQ,.pt 0 0] ⟨[(0,[dI .i64 nM.vA.vR,dI .i64 nM.vA.vC,dL ai nM.vA.vV,dL ai nM.vB,dL ai nM.vC])],[],1⟩ (dB r) ⟨[(0,[dI .i64 nM.vA.vR,dI .i64 nM.vA.vC,dL ai nM.vA.vV,dL ai nM.vB,dL ai nM.vC])],[],1⟩:=by
 refine HC.of (rs:=[.tmp 5]) tok Tryz.func131 rfl rfl (dK rfl) rfl (fun cx hx h1 hok=>?_)
 have h0:cx.hp0.next=1:=by rw[h1]
 simp only[fS,Nat.reduceAdd,bJ]
 unfold eb at h
 refine ra hx ?_
 refine AW.seq ?_
 obtain⟨bI,hy,h⟩:=ae h
 refine jn ((PE cx .normal (fun bI=>[(5,dB bI)]) fun bI=>⟨[(0,[dI .i64 nM.vA.vR,dI .i64 nM.vA.vC,dL ai nM.vA.vV,dL ai nM.vB,dL ai nM.vC])],[],1⟩) bI) ?_ ?_
 replace h:=hy
 refine rq hx fun K hK=>?_
 iterate 3 refine sa ?_
 refine s1 (aX bE) ?_
 refine scb h ms fun x1 h=>?_
 refine sa ?_
 rcases az x1 with a8|a8
 replace h:=aO a8 h
 refine ga a8 ?_
 refine g1 (d:=dG eN nM.vA) a8 (fV iS) ?_
 iterate 2 refine ga a8 ?_
 obtain⟨x4,qd,h⟩:=ae h
 refine g1 a8 (bb rfl (jp qd) (by simp only[cP,dA,bX,bt,bc,bp];exact⟨rfl,aC _ _,rfl,rfl,rfl⟩) (lA (ap _) (lA (ap _) (lA (ap _) (lA (ap _) (lA (ap _) lAn))))) (.inl rfl)) ?_
 refine s1 (ar a8) ?_
 refine sa ?_
 refine .nil (hK _ _ ?_)
 cases h
 exact PE.i (wkN h0 [] (wR rfl wTn) (vR rfl wVn) wLn)
 replace h:=aP a8 h
 iterate 5 refine aG rfl rfl a8 ?_
 refine s1 (an a8) ?_
 refine sa ?_
 refine .nil (hK _ _ ?_)
 cases h
 exact PE.i (wkN h0 [] (wR rfl wTn) (vR rfl wVn) wLn)
 rintro ex tm' hp' ⟨rfl,hw⟩
 refine AW.weak hw (AW.ret ?_)
 cases h
 exact rH1 (wkN h0 [] (wR rfl wTn) (vR rfl wVn) wLn)
def fX(aJ:et)(q8:Int):(List ao)×Int→Option (((List ao)×Int)⊕((List ao))):=fun (aZ,bm)=>cnd (decide (bm<aJ.vR)) (gd (0≤i64.wrap ((i64.wrap (bm*aJ.vC))+q8)∧i64.wrap ((i64.wrap (bm*aJ.vC))+q8)<((aJ.vV).length:Int)) (gd ((aZ++[(aJ.vV)[(i64.wrap ((i64.wrap (bm*aJ.vC))+q8)).toNat]!]).length*136≤140737488355328) (some (.inl (aZ++[(aJ.vV)[(i64.wrap ((i64.wrap (bm*aJ.vC))+q8)).toNat]!],i64.wrap (bm+(1:Int))))))) (some (.inr aZ))
def iJ(aJ:et)(q8:Int):Option (List ao):=bnd (bL (fX aJ q8) (([]:List ao),(0:Int))) fun bj=>some bj
theorem xB {aJ:et}{q8:Int}{r:List ao}(h:iJ aJ q8=some r):ax Tryz.prog 84 [dG eN aJ,dI .i64 q8] (.own 43 ai.sz r.length (r.flatMap ai.f)):=by
 refine bC (rs:=[.tmp 4]) (fun cx hx h0=>?_) Tryz.func84
 unfold iJ at h
 refine rs hx fun K hK=>?_
 refine s1 (d:=.pt 0 0) fB ?_
 refine s1 (d:=dO 1 ai ([]:List ao)) (fW aH aw) ?_
 refine .nil (hK _ _ (rs hx fun K hK=>?_))
 refine s1 (d:=dO 2 ai ([]:List ao)) (fW aH aw) ?_
 refine .nil (hK _ _ (AW.seq (rs hx fun K hK=>?_)))
 refine sa ?_
 refine s1 (aX bE) ?_
 refine sa ?_
 refine .nil (hK _ _ (AW.block ?_))
 obtain⟨bj,hy,h⟩:=ae h
 refine lp (S:=(List ao)×Int) (X:=(List ao)) (fun (aZ,bm)=>[(1,dI .i64 q8),(2,.pt 0 0),(5,dO 1 ai aZ),(8,dI .i64 aJ.vR),(9,dI .i64 bm)]) (fun (aZ,bm)=>⟨[(0,[dI .i64 aJ.vR,dI .i64 aJ.vC,dL ai aJ.vV])],[(1,(aZ).length,36,43)],2⟩) (PE cx (.exit 0) (fun bj=>[(5,dO 0 ai bj)]) fun bj=>⟨[],[(0,(bj).length,36,43)],1⟩) hy ?_ ?_ ?_
 exact wk h0 [0,2] (wR rfl (wR rfl (wR rfl (wR rfl (wR rfl wTn))))) (vR rfl wVn) (wL rfl rfl wLn)
 clear hy h
 rintro⟨aZ,bm⟩ y h
 dsimp only[fX] at h
 refine ra hx ?_
 refine AW.seq (cdh h rfl (fun cv h=>?_) (fun cv h=>?_))
 refine AW.skip (AW.seq (AW.block (ra hx ?_)))
 refine rq hx fun K hK=>?_
 iterate 2 refine sa ?_
 refine s1 (aX aH) ?_
 iterate 2 refine sa ?_
 refine s1 (aX bE) ?_
 iterate 3 refine sa ?_
 obtain⟨mq,h⟩:=aD h
 have qD:(i64.wrap ((i64.wrap (bm*aJ.vC))+q8)).toNat<(aJ.vV).length:=by omega
 refine s1 (gV mq aH aw) ?_
 refine s1 (d:=dG ai ((aJ.vV)[(i64.wrap ((i64.wrap (bm*aJ.vC))+q8)).toNat]!)) (mj (c:=ai) (l:=aJ.vV) (n:=(i64.wrap ((i64.wrap (bm*aJ.vC))+q8)).toNat) (o:=0) aw qD (fm _ _ rfl)) ?_
 refine s1 (kJ ([(aJ.vV)[(i64.wrap ((i64.wrap (bm*aJ.vC))+q8)).toNat]!]:List ao) ai aH aw) ?_
 obtain⟨D5,h⟩:=aD h
 refine s1 (d:=dO 1 ai (aZ++[(aJ.vV)[(i64.wrap ((i64.wrap (bm*aJ.vC))+q8)).toNat]!])) (qn aH aw D5) ?_
 refine sa ?_
 refine .nil (hK _ _ (rb hx ?_))
 cases h
 exact PS.l (pe0 h0 [0,1])
 refine AW.exit ?_
 try dsimp only
 try simp only[aS,reduceIte,Nat.reduceEqDiff,reduceCtorEq]
 cases h
 exact PS.r ⟨by nofun,PE.i (wk h0 [1] (wR rfl wTn) wVn (wL rfl rfl wLn))⟩
 rintro ex tm' hp' ⟨rfl,hw⟩
 try dsimp only
 try simp only[aS,reduceIte,Nat.reduceEqDiff,reduceCtorEq]
 refine AW.weak hw (ra hx ?_)
 refine AW.ret ?_
 cases h
 exact oT.own rfl rfl
def oH(lR:Int):Option Bool:=some (decide ((0:Int)≤lR))
theorem yr {lR:Int}{r:Bool}(h:oH lR=some r):ax Tryz.prog 85 [dI .i64 lR] (dB r):=by
 refine bC (rs:=[.tmp 2]) (fun cx hx h0=>?_) Tryz.func85
 unfold oH at h
 iterate 2 refine ra hx ?_
 refine AW.ret ?_
 cases h
 exact rv1
def bF(aJ:et)(aU:List ao)(cf:List ao):Int→Option (Int⊕(Bool⊕Unit)):=fun aL=>cnd (decide (aL<((cf).length:Int))) (gd (0≤aL∧aL<((cf).length:Int)) (bnd (iJ aJ aL) fun x4=>bnd (dE x4 aU) fun x6=>bnd (S:=Bool) (bnd (br x6) fun x8=>cnd (!x8) (some (true)) (bnd (jO x6 ((cf)[(aL).toNat]!)) fun o7=>bnd (oH o7) fun nD=>some (!nD))) fun fU=>cnd fU (some (.inr (.inl false))) (some (.inl (i64.wrap (aL+(1:Int))))))) (some (.inr (.inr ())))
def a7(aJ:et)(aU:List ao)(cf:List ao):Option Bool:=bnd (bL (bF aJ aU cf) (0:Int)) fun y17=>match y17 with| .inl r=>some r| .inr ()=>some true
set_option maxHeartbeats 4000000 in
theorem ek {aJ:et}{aU:List ao}{cf:List ao}{r:Bool}(h:a7 aJ aU cf=some r):ax Tryz.prog 81 [.e (.lit (.func (.func 84) #[] #[])),dG eN aJ,dL ai aU,dL ai cf,.e (.lit (.func (.func 85) #[] #[]))] (dB r):=by
 refine bC (rs:=[.tmp 10]) (fun cx hx h0=>?_) Tryz.func81
 unfold a7 at h
 refine rs hx fun K hK=>?_
 refine s1 (d:=.pt 0 0) fB ?_
 refine sa ?_
 refine .nil (hK _ _ (AW.seq (ra hx ?_)))
 refine AW.block ?_
 obtain⟨y,hy,h⟩:=ae h
 refine lp (S:=Int) (X:=Bool⊕Unit) (fun aL=>[(0,.e (.lit (.func (.func 84) #[] #[]))),(2,dL ai aU),(4,.e (.lit (.func (.func 85) #[] #[]))),(6,.pt 0 0),(14,dL ai cf),(15,dI .i64 ((cf).length:Int)),(16,dI .i64 aL)]) (fun aL=>⟨[(0,[dI .i64 aJ.vR,dI .i64 aJ.vC,dL ai aJ.vV])],[],1⟩) (PS (PR [.tmp 10] fun r=>dB r) (PE cx (.exit 0) (fun ()=>[]) fun ()=>⟨[],[],0⟩)) hy ?_ ?_ ?_
 exact wk h0 [0] (wR rfl (wR rfl (wR rfl (wR rfl (wR rfl (wR rfl (wR rfl wTn))))))) (vR rfl wVn) wLn
 clear hy h
 rintro aL y h
 dsimp only[bF] at h
 refine ra hx ?_
 refine AW.seq (cdh h rfl (fun cv h=>?_) (fun cv h=>?_))
 refine AW.skip (AW.seq (AW.block (rs hx fun K hK=>?_)))
 refine sa ?_
 obtain⟨mq,h⟩:=aD h
 have qD:(aL).toNat<(cf).length:=by omega
 refine s1 (gV mq aH aw) ?_
 refine s1 (d:=dG ai ((cf)[(aL).toNat]!)) (mj (c:=ai) (l:=cf) (n:=(aL).toNat) (o:=0) aw qD (fm _ _ rfl)) ?_
 refine s1 (be (F:=ai.f cG) aw) ?_
 refine sa ?_
 refine s0 (aE (b':=(cf)[(aL).toNat]!) (ak.id _ _) aw) ?_
 refine .nil (hK _ _ (rs hx fun K hK=>?_))
 refine sa ?_
 refine s1 (d:=dG eN aJ) (fV iS) ?_
 refine sa ?_
 obtain⟨x4,qd,h⟩:=ae h
 refine s1 (io rfl (xB qd) (by simp only[cP,dA,bX,bt,bc,bp];exact⟨aC _ _,rfl⟩) (lA (ap _) (lA (ap _) lAn))) ?_
 refine sa ?_
 refine scb h fN fun x6 h=>?_
 refine s1 (be (F:=ai.f cG) aw) ?_
 refine s0 (aE (b':=x6) (ak.id _ _) aw) ?_
 refine .nil (hK _ _ (AW.seq ?_))
 obtain⟨fU,hy,h⟩:=ae h
 refine jn ((PE cx .normal (fun fU=>[(0,.e (.lit (.func (.func 84) #[] #[]))),(2,dL ai aU),(4,.e (.lit (.func (.func 85) #[] #[]))),(6,.pt 0 0),(14,dL ai cf),(15,dI .i64 ((cf).length:Int)),(16,dI .i64 aL),(37,dB fU)]) fun fU=>⟨[(0,[dI .i64 aJ.vR,dI .i64 aJ.vC,dL ai aJ.vV])],[],1⟩) fU) ?_ ?_
 replace h:=hy
 refine rq hx fun K hK=>?_
 refine s1 (d:=dG ai x6) (aq (ak.id _ _) aw) ?_
 refine scb h cJ fun x8 h=>?_
 iterate 2 refine sa ?_
 rcases az (!x8) with dT|dT
 replace h:=aO dT h
 iterate 6 refine aG rfl rfl dT ?_
 refine s1 (ar dT) ?_
 refine .nil (hK _ _ ?_)
 cases h
 exact pe0 h0 [0]
 replace h:=aP dT h
 refine ga dT ?_
 refine g1 (d:=dG ai x6) dT (aq (ak.id _ _) aw) ?_
 refine g1 (d:=dG ai ((cf)[(aL).toNat]!)) dT (aq (ak.id _ _) aw) ?_
 obtain⟨o7,Gj,h⟩:=ae h
 refine g1 dT (bb rfl (r6 Gj) (by simp only[cP,dA,bX,bt,bc,bp];exact⟨aC _ _,aC _ _⟩) (lA (bZ _ _) (lA (bZ _ _) lAn)) (.inl rfl)) ?_
 obtain⟨nD,xQ,h⟩:=ae h
 refine g1 dT (bb rfl (yr xQ) rfl (lA (ap _) lAn) (.inl rfl)) ?_
 refine ga dT ?_
 refine s1 (an dT) ?_
 refine .nil (hK _ _ ?_)
 cases h
 exact pe0 h0 [0]
 rintro ex tm' hp' ⟨rfl,hw⟩
 refine AW.weak hw (cdh h rfl (fun oz h=>?_) (fun oz h=>?_))
 refine ra hx ?_
 refine AW.ret ?_
 cases h
 refine PS.r ⟨by nofun,PS.l (PR.i ?_)⟩
 exact rv1
 refine AW.skip (rb hx ?_)
 cases h
 exact PS.l (pe0 h0 [0])
 refine AW.exit ?_
 try dsimp only
 try simp only[aS,reduceIte,Nat.reduceEqDiff,reduceCtorEq]
 cases h
 exact PS.r ⟨by nofun,PS.r (PE.i (wk h0 [] wTn wVn wLn))⟩
 rcases y with r|⟨⟩
 rintro ex tm' hp' ⟨rfl,hw⟩
 cases h
 exact hw
 rintro ex tm' hp' ⟨rfl,hw⟩
 try dsimp only
 try simp only[aS,reduceIte,Nat.reduceEqDiff,reduceCtorEq]
 refine AW.weak hw (ra hx ?_)
 refine AW.ret ?_
 cases h
 exact rv1
def e6(lR:List ao)(nM:bP)(p_v1:bR):Option Bool:=bnd (S:=Bool) (bnd (eA nM.vY p_v1.vA.vR) fun x1=>cnd x1 (bnd (a7 p_v1.vA nM.vY lR) fun x4=>some (x4)) (some (false))) fun bI=>some bI
theorem oX {lR:List ao}{nM:bP}{p_v1:bR}{r:Bool}(h:e6 lR nM p_v1=some r):HC Tryz.prog 133 [dL ai lR,.pt 0 0,.pt 1 0] ⟨[(0,[dI .i64 nM.vKind,dL ai nM.vX,dL ai nM.vY,dL ai nM.vRay]),(1,[dI .i64 p_v1.vA.vR,dI .i64 p_v1.vA.vC,dL ai p_v1.vA.vV,dL ai p_v1.vB,dL ai p_v1.vC])],[],2⟩ (dB r) ⟨[(0,[dI .i64 nM.vKind,dL ai nM.vX,dL ai nM.vY,dL ai nM.vRay]),(1,[dI .i64 p_v1.vA.vR,dI .i64 p_v1.vA.vC,dL ai p_v1.vA.vV,dL ai p_v1.vB,dL ai p_v1.vC])],[],2⟩:=by
 refine HC.of (rs:=[.tmp 4]) tok Tryz.func133 rfl rfl (dK rfl) rfl (fun cx hx h1 hok=>?_)
 have h0:cx.hp0.next=2:=by rw[h1]
 simp only[fS,Nat.reduceAdd,bJ]
 unfold e6 at h
 refine ra hx ?_
 refine AW.seq ?_
 obtain⟨bI,hy,h⟩:=ae h
 refine jn ((PE cx .normal (fun bI=>[(4,dB bI)]) fun bI=>⟨[(0,[dI .i64 nM.vKind,dL ai nM.vX,dL ai nM.vY,dL ai nM.vRay]),(1,[dI .i64 p_v1.vA.vR,dI .i64 p_v1.vA.vC,dL ai p_v1.vA.vV,dL ai p_v1.vB,dL ai p_v1.vC])],[],2⟩) bI) ?_ ?_
 replace h:=hy
 refine rq hx fun K hK=>?_
 refine sa ?_
 refine s1 (aX aH) ?_
 iterate 2 refine sa ?_
 refine s1 (aX bE) ?_
 refine scb h ms fun x1 h=>?_
 refine sa ?_
 rcases az x1 with a8|a8
 replace h:=aO a8 h
 refine ga a8 ?_
 refine g1 (d:=dG eN p_v1.vA) a8 (fV iS) ?_
 refine ga a8 ?_
 refine g1 a8 (aX aH) ?_
 refine ga a8 ?_
 obtain⟨x4,qd,h⟩:=ae h
 refine g1 a8 (bb rfl (ek qd) (by simp only[cP,dA,bX,bt,bc,bp];exact⟨rfl,aC _ _,rfl,rfl,rfl⟩) (lA (ap _) (lA (ap _) (lA (ap _) (lA (ap _) (lA (ap _) lAn))))) (.inl rfl)) ?_
 refine s1 (ar a8) ?_
 refine sa ?_
 refine .nil (hK _ _ ?_)
 cases h
 exact PE.i (wkN h0 [] (wR rfl wTn) (vR rfl (vR rfl wVn)) wLn)
 replace h:=aP a8 h
 iterate 6 refine aG rfl rfl a8 ?_
 refine s1 (an a8) ?_
 refine sa ?_
 refine .nil (hK _ _ ?_)
 cases h
 exact PE.i (wkN h0 [] (wR rfl wTn) (vR rfl (vR rfl wVn)) wLn)
 rintro ex tm' hp' ⟨rfl,hw⟩
 refine AW.weak hw (AW.ret ?_)
 cases h
 exact rH1 (wkN h0 [] (wR rfl wTn) (vR rfl (vR rfl wVn)) wLn)
def gb(aU:ao)(FP:Int):Option Bool:=bnd (S:=Bool) (bnd (br aU) fun x1=>cnd x1 (bnd (lb aU) fun x4=>some (decide (x4=FP))) (some (false))) fun bI=>some bI
theorem o9 {aU:ao}{FP:Int}{r:Bool}(h:gb aU FP=some r):ax Tryz.prog 86 [dG ai aU,dI .i64 FP] (dB r):=by
 refine bC (rs:=[.tmp 4]) (fun cx hx h0=>?_) Tryz.func86
 unfold gb at h
 refine ra hx ?_
 refine AW.seq ?_
 obtain⟨bI,hy,h⟩:=ae h
 refine jn ((PE cx .normal (fun bI=>[(4,dB bI)]) fun bI=>⟨[],[],0⟩) bI) ?_ ?_
 replace h:=hy
 refine rq hx fun K hK=>?_
 refine s1 (d:=dG ai aU) (aq (ak.id _ _) aw) ?_
 refine scb h cJ fun x1 h=>?_
 refine sa ?_
 rcases az x1 with a8|a8
 replace h:=aO a8 h
 refine g1 (d:=dG ai aU) a8 (aq (ak.id _ _) aw) ?_
 obtain⟨x4,qd,h⟩:=ae h
 refine g1 a8 (bb rfl (tO qd) (by simp only[cP,dA,bX,bt,bc,bp];exact aC _ _) (lA (bZ _ _) lAn) (.inl rfl)) ?_
 iterate 2 refine ga a8 ?_
 refine s1 (ar a8) ?_
 refine sa ?_
 refine .nil (hK _ _ ?_)
 cases h
 exact pe0 h0 []
 replace h:=aP a8 h
 iterate 4 refine aG rfl rfl a8 ?_
 refine s1 (an a8) ?_
 refine sa ?_
 refine .nil (hK _ _ ?_)
 cases h
 exact pe0 h0 []
 rintro ex tm' hp' ⟨rfl,hw⟩
 refine AW.weak hw (AW.ret ?_)
 cases h
 exact rv1
def jA(nV:bR)(aJ:bP):Option Bool:=cnd (decide (aJ.vKind=(1:Int))) (bnd (S:=Bool) (cnd (decide ((0:Int)<((aJ.vRay).length:Int))) (some (true)) (bnd (eb aJ.vX nV.vB nV) fun x3=>cnd (!x3) (some (true)) (bnd (e6 nV.vC (⟨aJ.vKind,aJ.vX,aJ.vY,aJ.vRay⟩:bP) nV) fun x6=>some (!x6)))) fun tB=>cnd tB (some false) (bnd (dE nV.vC aJ.vX) fun jm=>bnd (S:=Bool) (bnd (br jm) fun iE=>cnd iE (bnd (dE aJ.vY nV.vB) fun BC=>some (decide (jm=BC))) (some (false))) fun kH=>some kH)) (cnd (decide (aJ.vKind=(2:Int))) (bnd (S:=Bool) (cnd (decide ((i64.wrap (((aJ.vX).length:Int)+((aJ.vRay).length:Int)))=(0:Int))) (bnd (fO nV.vA.vC) fun yj=>bnd (e6 yj (⟨aJ.vKind,aJ.vX,aJ.vY,aJ.vRay⟩:bP) nV) fun wZ=>cnd wZ (bnd (dE aJ.vY nV.vB) fun D7=>bnd (gb D7 (-1:Int)) fun uP=>some (uP)) (some (false))) (some (false))) fun Fl=>some Fl) (cnd (decide (aJ.vKind=(3:Int))) (bnd (S:=Bool) (cnd (decide (((aJ.vY).length:Int)=(0:Int))) (bnd (eb aJ.vX nV.vB nV) fun Lz=>cnd Lz (bnd (fO nV.vA.vR) fun u2=>bnd (eb aJ.vRay u2 nV) fun yl=>cnd yl (bnd (dE nV.vC aJ.vRay) fun x40=>bnd (gb x40 (1:Int)) fun x42=>some (x42)) (some (false))) (some (false))) (some (false))) fun Fk=>some Fk) (some false)))
set_option maxHeartbeats 4000000 in
theorem yp {nV:bR}{aJ:bP}{r:Bool}(h:jA nV aJ=some r):ax Tryz.prog 71 [dG b9 nV,dG dJ aJ] (dB r):=by
 refine bC (rs:=[.tmp 4]) (fun cx hx h0=>?_) Tryz.func71
 unfold jA at h
 refine rs hx fun K hK=>?_
 refine s1 (d:=.pt 0 0) fB ?_
 refine s1 (d:=.pt 1 0) fB ?_
 refine sa ?_
 refine .nil (hK _ _ (rs hx fun K hK=>?_))
 refine s1 DC ?_
 refine sa ?_
 refine .nil (hK _ _ (rs hx fun K hK=>?_))
 refine s1 DC ?_
 refine sa ?_
 refine .nil (hK _ _ (AW.seq (rs hx fun K hK=>?_)))
 refine sa ?_
 refine s1 (aX bE) ?_
 refine .nil (hK _ _ (AW.block (ra hx ?_)))
 refine cdh h rfl (fun cv h=>?_) (fun cv h=>?_)
 iterate 2 refine AW.seq ?_
 obtain⟨tB,hy,h⟩:=ae h
 refine jn ((PE cx .normal (fun tB=>[(2,.pt 0 0),(3,.pt 1 0),(33,dB tB)]) fun tB=>⟨[(0,[dI .i64 nV.vA.vR,dI .i64 nV.vA.vC,dL ai nV.vA.vV,dL ai nV.vB,dL ai nV.vC]),(1,[dI .i64 aJ.vKind,dL ai aJ.vX,dL ai aJ.vY,dL ai aJ.vRay])],[],2⟩) tB) ?_ ?_
 replace h:=hy
 refine rq hx fun K hK=>?_
 refine sa ?_
 refine s1 (aX aH) ?_
 iterate 3 refine sa ?_
 rcases az (decide ((0:Int)<((aJ.vRay).length:Int))) with ly|ly
 replace h:=aO ly h
 iterate 7 refine aG rfl rfl ly ?_
 refine s1 (ar ly) ?_
 refine sa ?_
 iterate 5 refine aG rfl rfl rfl ?_
 refine s1 (ar rfl) ?_
 refine .nil (hK _ _ ?_)
 cases h
 exact pe0 h0 [0,1]
 replace h:=aP ly h
 iterate 2 refine ga ly ?_
 refine g1 ly (aX aH) ?_
 refine ga ly ?_
 refine g1 ly (aX aH) ?_
 obtain⟨x3,Ov,h⟩:=ae h
 refine g1 ly (v8 [0] rfl (lY Ov) (fA (ap _) (fA (ap _) (fA (ap _) fAn))) (vR rfl wVn) wLn) ?_
 refine ga ly ?_
 refine s1 (an ly) ?_
 refine sa ?_
 rcases az (!x3) with dy|dy
 replace h:=aO dy h
 iterate 5 refine aG rfl rfl dy ?_
 refine s1 (ar dy) ?_
 refine .nil (hK _ _ ?_)
 cases h
 exact pe0 h0 [0,1]
 replace h:=aP dy h
 iterate 2 refine ga dy ?_
 refine g1 dy (aX aH) ?_
 obtain⟨x6,rT,h⟩:=ae h
 refine g1 dy (v8 [1,0] rfl (oX rT) (fA (ap _) (fA (ap _) (fA (ap _) fAn))) (vR rfl (vR rfl wVn)) wLn) ?_
 refine ga dy ?_
 refine s1 (an dy) ?_
 refine .nil (hK _ _ ?_)
 cases h
 exact pe0 h0 [0,1]
 rintro ex tm' hp' ⟨rfl,hw⟩
 refine AW.weak hw (cdh h rfl (fun wr h=>?_) (fun wr h=>?_))
 refine ra hx ?_
 refine AW.ret ?_
 cases h
 exact rv1
 refine AW.skip (rs hx fun K hK=>?_)
 refine sa ?_
 refine s1 (aX aH) ?_
 refine sa ?_
 refine s1 (aX aH) ?_
 refine scb h fN fun jm h=>?_
 refine s1 (be (F:=ai.f cG) aw) ?_
 refine s0 (aE (b':=jm) (ak.id _ _) aw) ?_
 refine .nil (hK _ _ (AW.seq ?_))
 obtain⟨kH,hy,h⟩:=ae h
 refine jn ((PE cx .normal (fun kH=>[(4,dB kH)]) fun kH=>⟨[],[],0⟩) kH) ?_ ?_
 replace h:=hy
 refine rqd [92,17] hx fun K hK=>?_
 refine s1 (d:=dG ai jm) (aq (ak.id _ _) aw) ?_
 refine cqb h cJ fun iE h=>?_
 refine sa ?_
 rcases az iE with eM|eM
 replace h:=aO eM h
 refine g1 (d:=dG ai jm) eM (aq (ak.id _ _) aw) ?_
 refine ga eM ?_
 refine g1 eM (aX aH) ?_
 refine ga eM ?_
 refine g1 eM (aX aH) ?_
 obtain⟨BC,Oz,h⟩:=ae h
 refine sqg tok rfl rfl eM (fN Oz) rfl (lA (ap _) (lA (ap _) lAn)) (.inl (ii _ _)) ?_
 refine g1 eM (AF tok 4 (by decide) Aq aw) ?_
 refine s1 (ar eM) ?_
 refine sa ?_
 refine .nil (hK _ _ ?_)
 cases h
 exact pe0 h0 []
 replace h:=aP eM h
 iterate 7 refine aG rfl rfl eM ?_
 refine s1 (an eM) ?_
 refine sa ?_
 refine .nil (hK _ _ ?_)
 cases h
 exact pe0 h0 []
 rintro ex tm' hp' ⟨rfl,hw⟩
 refine AW.weak hw (AW.ret ?_)
 cases h
 exact rv1
 refine ra hx ?_
 refine cdh h rfl (fun j4 h=>?_) (fun j4 h=>?_)
 refine AW.seq ?_
 obtain⟨Fl,hy,h⟩:=ae h
 refine jn ((PE cx .normal (fun Fl=>[(4,dB Fl)]) fun Fl=>⟨[],[],0⟩) Fl) ?_ ?_
 replace h:=hy
 refine rq hx fun K hK=>?_
 refine sa ?_
 refine s1 (aX aH) ?_
 iterate 2 refine sa ?_
 refine s1 (aX aH) ?_
 iterate 4 refine sa ?_
 rcases az (decide ((i64.wrap (((aJ.vX).length:Int)+((aJ.vRay).length:Int)))=(0:Int))) with uY|uY
 replace h:=aO uY h
 iterate 3 refine ga uY ?_
 refine g1 uY (aX bE) ?_
 obtain⟨yj,hx21,h⟩:=ae h
 refine g1 uY (bb rfl (nE hx21) rfl (lA (ap _) lAn) (.inl rfl)) ?_
 obtain⟨wZ,Jy,h⟩:=ae h
 refine g1 uY (v8 [1,0] rfl (oX Jy) (fA (ap _) (fA (ap _) (fA (ap _) fAn))) (vR rfl (vR rfl wVn)) wLn) ?_
 refine s1 (ar uY) ?_
 refine sa ?_
 rcases az wZ with qG|qG
 replace h:=aO qG h
 refine ga qG ?_
 refine g1 qG (aX aH) ?_
 refine ga qG ?_
 refine g1 qG (aX aH) ?_
 obtain⟨D7,hx26,h⟩:=ae h
 refine g1 qG (bb rfl (fN hx26) rfl (lA (ap _) (lA (ap _) lAn)) (.inl (ii _ _))) ?_
 obtain⟨uP,Aj,h⟩:=ae h
 refine g1 qG (bb rfl (o9 Aj) (by simp only[cP,dA,bX,bt,bc,bp];exact⟨aC _ _,rfl⟩) (lA (bZ _ _) (lA (ap _) lAn)) (.inl rfl)) ?_
 refine s1 (ar qG) ?_
 refine sa ?_
 refine .nil (hK _ _ ?_)
 cases h
 exact pe0 h0 []
 replace h:=aP qG h
 iterate 6 refine aG rfl rfl qG ?_
 refine s1 (an qG) ?_
 refine sa ?_
 refine .nil (hK _ _ ?_)
 cases h
 exact pe0 h0 []
 replace h:=aP uY h
 iterate 6 refine aG rfl rfl uY ?_
 refine s1 (an uY) ?_
 refine sa ?_
 iterate 6 refine aG rfl rfl rfl ?_
 refine s1 (an rfl) ?_
 refine sa ?_
 refine .nil (hK _ _ ?_)
 cases h
 exact pe0 h0 []
 rintro ex tm' hp' ⟨rfl,hw⟩
 refine AW.weak hw (AW.ret ?_)
 cases h
 exact rv1
 refine ra hx ?_
 refine cdh h rfl (fun JV h=>?_) (fun JV h=>?_)
 refine AW.seq ?_
 obtain⟨Fk,hy,h⟩:=ae h
 refine jn ((PE cx .normal (fun Fk=>[(4,dB Fk)]) fun Fk=>⟨[],[],0⟩) Fk) ?_ ?_
 replace h:=hy
 refine rqd [75,17,86] hx fun K hK=>?_
 refine sa ?_
 refine s1 (aX aH) ?_
 iterate 3 refine sa ?_
 rcases az (decide (((aJ.vY).length:Int)=(0:Int))) with oy|oy
 replace h:=aO oy h
 iterate 2 refine ga oy ?_
 refine g1 oy (aX aH) ?_
 refine ga oy ?_
 refine g1 oy (aX aH) ?_
 obtain⟨Lz,hx33,h⟩:=ae h
 refine g1 oy (v8 [0] rfl (lY hx33) (fA (ap _) (fA (ap _) (fA (ap _) fAn))) (vR rfl wVn) wLn) ?_
 refine s1 (ar oy) ?_
 refine sa ?_
 rcases az Lz with Bv|Bv
 replace h:=aO Bv h
 iterate 2 refine ga Bv ?_
 refine g1 Bv (aX aH) ?_
 iterate 2 refine ga Bv ?_
 refine g1 Bv (aX bE) ?_
 obtain⟨u2,Me,h⟩:=ae h
 refine sqg tok rfl rfl Bv (nE Me) rfl (lA (ap _) lAn) (.inl rfl) ?_
 obtain⟨yl,hx38,h⟩:=ae h
 refine g1 Bv (v8 [0] rfl (lY hx38) (fA (ap _) (fA (ap _) (fA (ap _) fAn))) (vR rfl wVn) wLn) ?_
 refine s1 (ar Bv) ?_
 refine sa ?_
 rcases az yl with qF|qF
 replace h:=aO qF h
 refine ga qF ?_
 refine g1 qF (aX aH) ?_
 refine ga qF ?_
 refine g1 qF (aX aH) ?_
 obtain⟨x40,Ou,h⟩:=ae h
 refine sqg tok rfl rfl qF (fN Ou) rfl (lA (ap _) (lA (ap _) lAn)) (.inl (ii _ _)) ?_
 obtain⟨x42,hx43,h⟩:=ae h
 refine sqg tok rfl rfl qF (o9 hx43) (by simp only[cP,dA,bX,bt,bc,bp];exact⟨aC _ _,rfl⟩) (lA (bZ _ _) (lA (ap _) lAn)) (.inl rfl) ?_
 refine s1 (ar qF) ?_
 refine sa ?_
 refine .nil (hK _ _ ?_)
 cases h
 exact pe0 h0 []
 replace h:=aP qF h
 iterate 6 refine aG rfl rfl qF ?_
 refine s1 (an qF) ?_
 refine sa ?_
 refine .nil (hK _ _ ?_)
 cases h
 exact pe0 h0 []
 replace h:=aP Bv h
 iterate 8 refine aG rfl rfl Bv ?_
 refine s1 (an Bv) ?_
 refine sa ?_
 iterate 6 refine aG rfl rfl rfl ?_
 refine s1 (an rfl) ?_
 refine sa ?_
 refine .nil (hK _ _ ?_)
 cases h
 exact pe0 h0 []
 replace h:=aP oy h
 iterate 6 refine aG rfl rfl oy ?_
 refine s1 (an oy) ?_
 refine sa ?_
 iterate 8 refine aG rfl rfl rfl ?_
 refine s1 (an rfl) ?_
 refine sa ?_
 iterate 6 refine aG rfl rfl rfl ?_
 refine s1 (an rfl) ?_
 refine sa ?_
 refine .nil (hK _ _ ?_)
 cases h
 exact pe0 h0 []
 rintro ex tm' hp' ⟨rfl,hw⟩
 refine AW.weak hw (AW.ret ?_)
 cases h
 exact rv1
 refine AW.skip (ra hx ?_)
 refine AW.ret ?_
 cases h
 exact rv1
def g7(nV:bR)(aJ:bP):Option Int:=bnd (g6 nV) fun x1=>cnd (!x1) (some (1:Int)) (bnd (jA nV aJ) fun x4=>cnd (!x4) (some (250:Int)) (some (0:Int)))
theorem p8 {nV:bR}{aJ:bP}{r:Int}(h:g7 nV aJ=some r):ax Tryz.prog 19 [dG b9 nV,dG dJ aJ] (dI .i64 r):=by
 refine bC (rs:=[.tmp 4]) (fun cx hx h0=>?_) Tryz.func19
 unfold g7 at h
 refine rs hx fun K hK=>?_
 refine s1 (d:=.pt 0 0) fB ?_
 refine s1 (d:=.pt 1 0) fB ?_
 refine sa ?_
 refine .nil (hK _ _ (AW.seq (AW.block (rs hx fun K hK=>?_))))
 refine s1 (d:=dG b9 nV) (fV m5) ?_
 refine scb h p7 fun x1 h=>?_
 iterate 2 refine sa ?_
 refine .nil (hK _ _ (cdh h rfl (fun a8 h=>?_) (fun a8 h=>?_)))
 refine ra hx ?_
 refine AW.ret ?_
 cases h
 exact rv1
 refine rs hx fun K hK=>?_
 refine s1 (d:=dG b9 nV) (fV m5) ?_
 refine s1 (d:=dG dJ aJ) (fV ma) ?_
 refine scb h yp fun x4 h=>?_
 iterate 2 refine sa ?_
 refine .nil (hK _ _ (cdh h rfl (fun fC h=>?_) (fun fC h=>?_)))
 refine ra hx ?_
 refine AW.ret ?_
 cases h
 exact rv1
 refine AW.skip (ra hx ?_)
 refine AW.ret ?_
 cases h
 exact rv1
def oG(lR:Int):Option Bool:=some (decide (lR=(0:Int)))
theorem yq {lR:Int}{r:Bool}(h:oG lR=some r):ax Tryz.prog 83 [dI .i64 lR] (dB r):=by
 refine bC (rs:=[.tmp 2]) (fun cx hx h0=>?_) Tryz.func83
 unfold oG at h
 iterate 2 refine ra hx ?_
 refine AW.ret ?_
 cases h
 exact rv1
def bK(aJ:et)(aU:List ao)(cf:List ao):Int→Option (Int⊕(Bool⊕Unit)):=fun aL=>cnd (decide (aL<((cf).length:Int))) (gd (0≤aL∧aL<((cf).length:Int)) (bnd (jg aJ aL) fun x4=>bnd (dE x4 aU) fun x6=>bnd (S:=Bool) (bnd (br x6) fun x8=>cnd (!x8) (some (true)) (bnd (jO x6 ((cf)[(aL).toNat]!)) fun o7=>bnd (oG o7) fun nD=>some (!nD))) fun fU=>cnd fU (some (.inr (.inl false))) (some (.inl (i64.wrap (aL+(1:Int))))))) (some (.inr (.inr ())))
def bx(aJ:et)(aU:List ao)(cf:List ao):Option Bool:=bnd (bL (bK aJ aU cf) (0:Int)) fun y17=>match y17 with| .inl r=>some r| .inr ()=>some true
set_option maxHeartbeats 4000000 in
theorem iX {aJ:et}{aU:List ao}{cf:List ao}{r:Bool}(h:bx aJ aU cf=some r):ax Tryz.prog 81 [.e (.lit (.func (.func 82) #[] #[])),dG eN aJ,dL ai aU,dL ai cf,.e (.lit (.func (.func 83) #[] #[]))] (dB r):=by
 refine bC (rs:=[.tmp 10]) (fun cx hx h0=>?_) Tryz.func81
 unfold bx at h
 refine rs hx fun K hK=>?_
 refine s1 (d:=.pt 0 0) fB ?_
 refine sa ?_
 refine .nil (hK _ _ (AW.seq (ra hx ?_)))
 refine AW.block ?_
 obtain⟨y,hy,h⟩:=ae h
 refine lp (S:=Int) (X:=Bool⊕Unit) (fun aL=>[(0,.e (.lit (.func (.func 82) #[] #[]))),(2,dL ai aU),(4,.e (.lit (.func (.func 83) #[] #[]))),(6,.pt 0 0),(14,dL ai cf),(15,dI .i64 ((cf).length:Int)),(16,dI .i64 aL)]) (fun aL=>⟨[(0,[dI .i64 aJ.vR,dI .i64 aJ.vC,dL ai aJ.vV])],[],1⟩) (PS (PR [.tmp 10] fun r=>dB r) (PE cx (.exit 0) (fun ()=>[]) fun ()=>⟨[],[],0⟩)) hy ?_ ?_ ?_
 exact wk h0 [0] (wR rfl (wR rfl (wR rfl (wR rfl (wR rfl (wR rfl (wR rfl wTn))))))) (vR rfl wVn) wLn
 clear hy h
 rintro aL y h
 dsimp only[bK] at h
 refine ra hx ?_
 refine AW.seq (cdh h rfl (fun cv h=>?_) (fun cv h=>?_))
 refine AW.skip (AW.seq (AW.block (rs hx fun K hK=>?_)))
 refine sa ?_
 obtain⟨mq,h⟩:=aD h
 have qD:(aL).toNat<(cf).length:=by omega
 refine s1 (gV mq aH aw) ?_
 refine s1 (d:=dG ai ((cf)[(aL).toNat]!)) (mj (c:=ai) (l:=cf) (n:=(aL).toNat) (o:=0) aw qD (fm _ _ rfl)) ?_
 refine s1 (be (F:=ai.f cG) aw) ?_
 refine sa ?_
 refine s0 (aE (b':=(cf)[(aL).toNat]!) (ak.id _ _) aw) ?_
 refine .nil (hK _ _ (rs hx fun K hK=>?_))
 refine sa ?_
 refine s1 (d:=dG eN aJ) (fV iS) ?_
 refine sa ?_
 refine scb h uy fun x4 h=>?_
 refine sa ?_
 refine scb h fN fun x6 h=>?_
 refine s1 (be (F:=ai.f cG) aw) ?_
 refine s0 (aE (b':=x6) (ak.id _ _) aw) ?_
 refine .nil (hK _ _ (AW.seq ?_))
 obtain⟨fU,hy,h⟩:=ae h
 refine jn ((PE cx .normal (fun fU=>[(0,.e (.lit (.func (.func 82) #[] #[]))),(2,dL ai aU),(4,.e (.lit (.func (.func 83) #[] #[]))),(6,.pt 0 0),(14,dL ai cf),(15,dI .i64 ((cf).length:Int)),(16,dI .i64 aL),(37,dB fU)]) fun fU=>⟨[(0,[dI .i64 aJ.vR,dI .i64 aJ.vC,dL ai aJ.vV])],[],1⟩) fU) ?_ ?_
 replace h:=hy
 refine rq hx fun K hK=>?_
 refine s1 (d:=dG ai x6) (aq (ak.id _ _) aw) ?_
 refine scb h cJ fun x8 h=>?_
 iterate 2 refine sa ?_
 rcases az (!x8) with dT|dT
 replace h:=aO dT h
 iterate 6 refine aG rfl rfl dT ?_
 refine s1 (ar dT) ?_
 refine .nil (hK _ _ ?_)
 cases h
 exact pe0 h0 [0]
 replace h:=aP dT h
 refine ga dT ?_
 refine g1 (d:=dG ai x6) dT (aq (ak.id _ _) aw) ?_
 refine g1 (d:=dG ai ((cf)[(aL).toNat]!)) dT (aq (ak.id _ _) aw) ?_
 obtain⟨o7,Gj,h⟩:=ae h
 refine g1 dT (bb rfl (r6 Gj) (by simp only[cP,dA,bX,bt,bc,bp];exact⟨aC _ _,aC _ _⟩) (lA (bZ _ _) (lA (bZ _ _) lAn)) (.inl rfl)) ?_
 obtain⟨nD,xQ,h⟩:=ae h
 refine g1 dT (bb rfl (yq xQ) rfl (lA (ap _) lAn) (.inl rfl)) ?_
 refine ga dT ?_
 refine s1 (an dT) ?_
 refine .nil (hK _ _ ?_)
 cases h
 exact pe0 h0 [0]
 rintro ex tm' hp' ⟨rfl,hw⟩
 refine AW.weak hw (cdh h rfl (fun oz h=>?_) (fun oz h=>?_))
 refine ra hx ?_
 refine AW.ret ?_
 cases h
 refine PS.r ⟨by nofun,PS.l (PR.i ?_)⟩
 exact rv1
 refine AW.skip (rb hx ?_)
 cases h
 exact PS.l (pe0 h0 [0])
 refine AW.exit ?_
 try dsimp only
 try simp only[aS,reduceIte,Nat.reduceEqDiff,reduceCtorEq]
 cases h
 exact PS.r ⟨by nofun,PS.r (PE.i (wk h0 [] wTn wVn wLn))⟩
 rcases y with r|⟨⟩
 rintro ex tm' hp' ⟨rfl,hw⟩
 cases h
 exact hw
 rintro ex tm' hp' ⟨rfl,hw⟩
 try dsimp only
 try simp only[aS,reduceIte,Nat.reduceEqDiff,reduceCtorEq]
 refine AW.weak hw (ra hx ?_)
 refine AW.ret ?_
 cases h
 exact rv1
def gz(aJ:et)(aQ:List ao)(aU:bP):Option Int:=bnd (ge aJ aQ) fun x1=>cnd (!x1) (some (1:Int)) (bnd (S:=Bool) (cnd (decide (aU.vKind=(1:Int))) (cnd (decide ((i64.wrap (((aU.vY).length:Int)+((aU.vRay).length:Int)))=(0:Int))) (bnd (eA aU.vX aJ.vC) fun x6=>cnd x6 (bnd (bx aJ aU.vX aQ) fun x9=>some (x9)) (some (false))) (some (false))) (cnd (decide (aU.vKind=(2:Int))) (cnd (decide ((i64.wrap (((aU.vX).length:Int)+((aU.vRay).length:Int)))=(0:Int))) (cnd (decide (((aU.vY).length:Int)=aJ.vR)) (bnd (dH aU.vY) fun m4=>cnd m4 (bnd (fO aJ.vC) fun nT=>bnd (a7 aJ aU.vY nT) fun rP=>cnd rP (bnd (dE aU.vY aQ) fun wZ=>bnd (gb wZ (-1:Int)) fun Bl=>some (Bl)) (some (false))) (some (false))) (some (false))) (some (false))) (some (false)))) fun dp=>cnd (!dp) (some (250:Int)) (some (0:Int)))
set_option maxHeartbeats 4000000 in
theorem u7 {aJ:et}{aQ:List ao}{aU:bP}{r:Int}(h:gz aJ aQ aU=some r):ax Tryz.prog 23 [dG eN aJ,dL ai aQ,dG dJ aU] (dI .i64 r):=by
 refine bC (rs:=[.tmp 6]) (fun cx hx h0=>?_) Tryz.func23
 unfold gz at h
 refine rs hx fun K hK=>?_
 refine s1 (d:=.pt 0 0) fB ?_
 refine s1 (d:=.pt 1 0) fB ?_
 refine sa ?_
 refine .nil (hK _ _ (AW.seq (rs hx fun K hK=>?_)))
 refine s1 (d:=dG eN aJ) (fV iS) ?_
 refine sa ?_
 refine scb h qT fun x1 h=>?_
 refine sa ?_
 refine .nil (hK _ _ (cdh h rfl (fun a8 h=>?_) (fun a8 h=>?_)))
 refine ra hx ?_
 refine AW.ret ?_
 cases h
 exact rv1
 refine AW.skip (ra hx ?_)
 refine AW.seq ?_
 obtain⟨dp,hy,h⟩:=ae h
 refine jn ((PE cx .normal (fun dp=>[(7,dB dp)]) fun dp=>⟨[],[],0⟩) dp) ?_ ?_
 replace h:=hy
 refine rs hx fun K hK=>?_
 refine sa ?_
 refine s1 (aX bE) ?_
 refine .nil (hK _ _ (AW.block (ra hx ?_)))
 refine cdh h rfl (fun gO h=>?_) (fun gO h=>?_)
 refine rq hx fun K hK=>?_
 refine sa ?_
 refine s1 (aX aH) ?_
 iterate 2 refine sa ?_
 refine s1 (aX aH) ?_
 iterate 4 refine sa ?_
 rcases az (decide ((i64.wrap (((aU.vY).length:Int)+((aU.vRay).length:Int)))=(0:Int))) with dy|dy
 replace h:=aO dy h
 refine ga dy ?_
 refine g1 dy (aX aH) ?_
 refine ga dy ?_
 refine g1 dy (aX bE) ?_
 obtain⟨x6,rT,h⟩:=ae h
 refine g1 dy (bb rfl (ms rT) rfl (lA (ap _) (lA (ap _) lAn)) (.inl rfl)) ?_
 refine s1 (ar dy) ?_
 refine sa ?_
 rcases az x6 with ju|ju
 replace h:=aO ju h
 refine g1 (d:=dG eN aJ) ju (fV iS) ?_
 refine ga ju ?_
 refine g1 ju (aX aH) ?_
 refine ga ju ?_
 obtain⟨x9,vw,h⟩:=ae h
 refine g1 ju (bb rfl (iX vw) (by simp only[cP,dA,bX,bt,bc,bp];exact⟨rfl,aC _ _,rfl,rfl,rfl⟩) (lA (ap _) (lA (ap _) (lA (ap _) (lA (ap _) (lA (ap _) lAn))))) (.inl rfl)) ?_
 refine s1 (ar ju) ?_
 refine sa ?_
 refine .nil (hK _ _ ?_)
 cases h
 exact pe0 h0 []
 replace h:=aP ju h
 iterate 5 refine aG rfl rfl ju ?_
 refine s1 (an ju) ?_
 refine sa ?_
 refine .nil (hK _ _ ?_)
 cases h
 exact pe0 h0 []
 replace h:=aP dy h
 iterate 5 refine aG rfl rfl dy ?_
 refine s1 (an dy) ?_
 refine sa ?_
 iterate 5 refine aG rfl rfl rfl ?_
 refine s1 (an rfl) ?_
 refine sa ?_
 refine .nil (hK _ _ ?_)
 cases h
 exact pe0 h0 []
 refine ra hx ?_
 refine cdh h rfl (fun qH h=>?_) (fun qH h=>?_)
 refine rqd [62,75,81,17,86] hx fun K hK=>?_
 refine sa ?_
 refine s1 (aX aH) ?_
 iterate 2 refine sa ?_
 refine s1 (aX aH) ?_
 iterate 4 refine sa ?_
 rcases az (decide ((i64.wrap (((aU.vX).length:Int)+((aU.vRay).length:Int)))=(0:Int))) with nh|nh
 replace h:=aO nh h
 refine ga nh ?_
 refine g1 nh (aX aH) ?_
 iterate 2 refine ga nh ?_
 refine g1 nh (aX bE) ?_
 refine ga nh ?_
 refine s1 (ar nh) ?_
 refine sa ?_
 rcases az (decide (((aU.vY).length:Int)=aJ.vR)) with mm|mm
 replace h:=aO mm h
 refine ga mm ?_
 refine g1 mm (aX aH) ?_
 obtain⟨m4,vt,h⟩:=ae h
 refine sqg tok rfl rfl mm (f6 vt) rfl (lA (ap _) lAn) (.inl rfl) ?_
 refine s1 (ar mm) ?_
 refine sa ?_
 rcases az m4 with oz|oz
 replace h:=aO oz h
 refine g1 (d:=dG eN aJ) oz (fV iS) ?_
 refine ga oz ?_
 refine g1 oz (aX aH) ?_
 refine ga oz ?_
 refine g1 oz (aX bE) ?_
 obtain⟨nT,ta,h⟩:=ae h
 refine sqg tok rfl rfl oz (nE ta) rfl (lA (ap _) lAn) (.inl rfl) ?_
 obtain⟨rP,wN,h⟩:=ae h
 refine sqg tok rfl rfl oz (ek wN) (by simp only[cP,dA,bX,bt,bc,bp];exact⟨rfl,aC _ _,rfl,rfl,rfl⟩) (lA (ap _) (lA (ap _) (lA (ap _) (lA (ap _) (lA (ap _) lAn))))) (.inl rfl) ?_
 refine s1 (ar oz) ?_
 refine sa ?_
 rcases az rP with vE|vE
 replace h:=aO vE h
 refine ga vE ?_
 refine g1 vE (aX aH) ?_
 refine ga vE ?_
 obtain⟨wZ,Jy,h⟩:=ae h
 refine sqg tok rfl rfl vE (fN Jy) rfl (lA (ap _) (lA (ap _) lAn)) (.inl (ii _ _)) ?_
 obtain⟨Bl,Oy,h⟩:=ae h
 refine sqg tok rfl rfl vE (o9 Oy) (by simp only[cP,dA,bX,bt,bc,bp];exact⟨aC _ _,rfl⟩) (lA (bZ _ _) (lA (ap _) lAn)) (.inl rfl) ?_
 refine s1 (ar vE) ?_
 refine sa ?_
 refine .nil (hK _ _ ?_)
 cases h
 exact pe0 h0 []
 replace h:=aP vE h
 iterate 5 refine aG rfl rfl vE ?_
 refine s1 (an vE) ?_
 refine sa ?_
 refine .nil (hK _ _ ?_)
 cases h
 exact pe0 h0 []
 replace h:=aP oz h
 iterate 7 refine aG rfl rfl oz ?_
 refine s1 (an oz) ?_
 refine sa ?_
 iterate 5 refine aG rfl rfl rfl ?_
 refine s1 (an rfl) ?_
 refine sa ?_
 refine .nil (hK _ _ ?_)
 cases h
 exact pe0 h0 []
 replace h:=aP mm h
 iterate 3 refine aG rfl rfl mm ?_
 refine s1 (an mm) ?_
 refine sa ?_
 iterate 7 refine aG rfl rfl rfl ?_
 refine s1 (an rfl) ?_
 refine sa ?_
 iterate 5 refine aG rfl rfl rfl ?_
 refine s1 (an rfl) ?_
 refine sa ?_
 refine .nil (hK _ _ ?_)
 cases h
 exact pe0 h0 []
 replace h:=aP nh h
 iterate 6 refine aG rfl rfl nh ?_
 refine s1 (an nh) ?_
 refine sa ?_
 iterate 3 refine aG rfl rfl rfl ?_
 refine s1 (an rfl) ?_
 refine sa ?_
 iterate 7 refine aG rfl rfl rfl ?_
 refine s1 (an rfl) ?_
 refine sa ?_
 iterate 5 refine aG rfl rfl rfl ?_
 refine s1 (an rfl) ?_
 refine sa ?_
 refine .nil (hK _ _ ?_)
 cases h
 exact pe0 h0 []
 refine AW.skip ?_
 cases h
 exact pe0 h0 []
 rintro ex tm' hp' ⟨rfl,hw⟩
 refine AW.weak hw (AW.seq (ra hx ?_))
 refine cdh h rfl (fun Pk h=>?_) (fun Pk h=>?_)
 refine ra hx ?_
 refine AW.ret ?_
 cases h
 exact rv1
 refine AW.skip (ra hx ?_)
 refine AW.ret ?_
 cases h
 exact rv1
theorem My(l:List Row)(v:Int):(eC l v=-1∧∀j,j<l.length→l[j]!.b≠v)∨∃i,i<l.length∧eC l v=(i:Int)∧l[i]!.b=v:=by
 unfold eC
 cases h:l.findIdx? fun r=>decide (r.b=v) with
 |none=>
  refine .inl ⟨rfl,fun j hj=>?_⟩
  have:=Aw.1 h l[j] (rI hj)
  rw[cO l j hj]
  simpa using this
 |some i=>
  obtain⟨h1,h2,_⟩:=qk.1 h
  exact .inr ⟨i,h1,rfl,by rw[cO l i h1];exact da h2⟩
theorem F7(l:List Row):∀n,nd l n<n∨n=0∧nd l n=0
 |0=>.inr ⟨rfl,rfl⟩
 |n+1=>by
  unfold nd
  rcases F7 l n with h|h
  ·split <;> omega
  ·split <;> omega
theorem wW.fine {d:Dic}{w:Nat}{f:Nu}(hI:Inv d w)(hg:aW f=true)(k:Nu)(c:List Nu)(hl:c.length=w)(hk:iT k c=true):iT k (c.set 0 f)=true:=by
 obtain⟨h1,h2⟩:=gP.1 hk
 refine gP.2 ⟨h1,fun i hi=>?_⟩
 rw[eU] at hi
 rw[nG hi]
 split
 ·exact hg
 ·exact h2 i hi
theorem KJ {α β:Type}[Inhabited α][Inhabited β]{l:List α}{f:α→β}{i:Nat}(hi:i<l.length):(l.map f)[i]! =f l[i]! :=by
 apply ik;rw[ep,wS hi];rfl
theorem Inv.col {d:Dic}{w:Nat}(hI:Inv d w){x:Nu}(hx:aW x=true)(h0:(∀j,j<d.rows.length→d.rows[j]!.b≠0)∨x=nOf 0){k:Nu}{c:List Nu}(hl:c.length=w)(hg:iT k c=true)(hz:∀j,j<d.rows.length→c[d.rows[j]!.b.toNat]! =nOf 0)(p:Int):Inv ⟨d.rows.map (vJ x),k,c,d.n,p,d.most⟩ w:=by
 have kb:∀i,i<d.rows.length→(d.rows.map (vJ x))[i]! =vJ x d.rows[i]! :=fun i hi=>KJ hi
 refine⟨⟨hl,fun i hi=>?_,hg,fun i hi=>?_⟩,fun i hi=>?_,fun i j hi hj e=>?_,fun j hj=>?_,fun i j hi hj=>?_⟩
 all_goals dsimp only at*
 all_goals rw[bw] at*
 ·rw[kb i hi];show (d.rows[i]!.c.set 0 x).length=w;rw[eU];exact hI.fine.lr i hi
 ·rw[kb i hi];exact wW.fine hI hx _ _ (hI.fine.lr i hi) (hI.fine.gr i hi)
 ·rw[kb i hi];exact hI.rng i hi
 ·rw[kb i hi,kb j hj] at e;exact hI.inj i j hi hj e
 ·rw[kb j hj];exact hz j hj
 ·rw[kb i hi,kb j hj]
  have hr:=hI.rng j hj
  have hlen:=hI.fine.lr i hi
  show (d.rows[i]!.c.set 0 x)[d.rows[j]!.b.toNat]! =nOf 0
  rw[nG (by omega)]
  split
  ·rename_i h
   rcases h0 with h0|h0
   ·exact absurd (by omega) (h0 j hj)
   ·exact h0
  ·exact hI.zr i j hi hj
section
section
variable {m nn:Nat} {A B C:List Nu} {most:Int}
theorem CY:(fK m nn A B most).rows.length=m:=by simp[fK]
theorem lf {i:Nat}(hi:i<m):(fK m nn A B most).rows[i]! =⟨B[i]!,(List.range (1+nn+m)).map (fun t=>if 1≤t∧t≤nn then hJ A[i*nn+(t - 1)]! else nOf 0),((1+nn+i:Nat):Int)⟩:=ik (eF _ hi)
theorem BH {x:Nu}{n i:Nat}(hi:i<n):(List.replicate n x)[i]! =x:=ik (by simp[List.getElem?_replicate,hi])
theorem Mw(hA:A.length=m*nn)(hB:B.length=m)(hgA:∀i,i<A.length→aW A[i]! =true)(hgB:∀i,i<B.length→aW B[i]! =true):Inv (fK m nn A B most) (1+nn+m):=by
 have hidx:∀i t,i<m→t<nn→i*nn+t<A.length:=fun i t hi ht=>by
  rw[hA]
  calc i*nn+t<i*nn+nn:=by omega
   _=(i+1)*nn:=by rw[cz];omega
   _≤m*nn:=dZ _ hi
 refine⟨⟨by simp[fK],fun i hi=>?_,gP.2 ⟨of0.1,fun i hi=>?_⟩,fun i hi=>?_⟩,fun i hi=>?_,fun i j hi hj e=>?_,fun j hj=>?_,fun i j hi hj=>?_⟩
 all_goals try rw[CY] at*
 ·rw[lf hi];simp
 ·have xj:i<1+nn+m:=by simpa[fK] using hi
  have:(fK m nn A B most).gc[i]! =nOf 0:=BH xj
  rw[this];exact of0.1
 ·rw[lf hi]
  refine gP.2 ⟨hgB i (by omega),fun t ht=>?_⟩
  dsimp only at ht ⊢
  rw[bw,List.length_range] at ht
  rw[ik (eF _ ht)]
  split
  ·rename_i h
   rw[EU];exact hgA _ (hidx i (t - 1) hi (by omega))
  ·exact of0.1
 ·rw[lf hi];dsimp only;omega
 ·rw[lf hi,lf hj] at e;dsimp only at e;omega
 ·rw[lf hj]
  exact BH (by dsimp only;omega)
 ·rw[lf hi,lf hj]
  dsimp only
  rw[ik (eF _ (by omega)),if_neg (by omega)]
theorem Mx(i:Nat)(hi:i<m):(fK m nn A B most).rows[i]!.b=((1+nn+i:Nat):Int):=by rw[lf hi]
end
end
section
section
variable {x:Cx} {tm tm':List (Nat×D)} {hp:Hp}
theorem Wk.perm {vars':List (Nat×List D)}{qq:List (Nat×Nat×Nat×TypeId)}{m:Nat}(σ:Nat→Nat)(h0:x.hp0.next≤m)(b8:∀i,i<x.hp0.next→σ i=i)(xS:∀i j,i<m→j<m→σ i=σ j→i=j)
  (ht:∀p∈tm',tm.lookup p.1=some (p.2.ren σ)∧p.2.idsB m=true∧p.2.noOs=true)
  (hv:∀k ds,vars'.lookup k=some ds→k<m∧hp.vars.lookup (σ k)=some (ds.map (D.renC σ))∧ds.all (D.idsC m)=true∧ds.all D.noO=true)
  (hl:∀k y,qq.lookup k=some y→k<m∧hp.live.lookup (σ k)=some y):Wk x tm hp tm' ⟨vars',qq,m⟩:=by
 intro a w ⟨g,hr,nX,hsz,D4,hB,hF,hM⟩
 have d9:∀id y,(⟨vars',qq,m⟩:Hp).live.lookup id=some y→hp.live.lookup (σ id)=some y:=fun id y h=>(hl _ _ h).2
 refine⟨⟨fun i=>g.μ (σ i),fun i=>g.τ (σ i),g.F⟩,⟨fun k ds hk=>?_,fun k k' ds ds' hk uW he=>?_,fun id n e hi=>?_,fun id Ai t t' b hi xj hb pR=>?_,hr.base,hr.fits⟩,fun t d h=>?_,hsz,D4,hB,hF,
  ⟨hM.size,hM.cell,hM.forb,h0,fun k hk=>by show g.μ _=_;rw[b8 k hk];exact hM.μ k hk,fun id hid n e Ml=>?_,fun b hb hf=>⟨(hM.fr b hb hf).1,(hM.fr b hb hf).2.1,fun k ds hk=>(hM.fr b hb hf).2.2.1 _ _ (hv _ _ hk).2.1,fun id t hi=>(hM.fr b hb hf).2.2.2 _ t (d9 id _ hi)⟩,hM.szs⟩⟩
 ·obtain⟨h1,h2,h3,h4⟩:=hv _ _ hk
  obtain⟨_,h5,h6,cs,ty,h7,h8,h9⟩:=hr.var _ _ h2
  refine⟨h1,h5,h6,cs,ty,h7,by simpa using h8,fun j u hu=>⟨fun h=>(h9 j u hu).1 (by simpa using h),fun d hd=>?_⟩⟩
  exact j9 ((h9 j u hu).2 (d.renC _) (by rw[ep,hd];rfl)) (dc.1 h3 d (er hd)) (dc.1 h4 d (er hd)) rfl (fun _=>rfl) (fun _=>rfl) rfl d9
 ·obtain⟨h1,h2,_⟩:=hv _ _ hk
  obtain⟨qI,qr,_⟩:=hv _ _ uW
  exact xS _ _ h1 qI (hr.inj _ _ _ _ h2 qr he)
 ·obtain⟨h1,h2⟩:=hl _ _ hi
  obtain⟨_,us,h3,h4,h5⟩:=hr.tok _ n e h2
  exact⟨h1,us,h3,h4,fun b hb=>⟨(h5 b hb).1,fun k ds hk=>(h5 b hb).2 _ _ (hv _ _ hk).2.1⟩⟩
 ·obtain⟨h1,h2⟩:=hl _ _ hi
  obtain⟨qI,qr⟩:=hl _ _ xj
  exact xS _ _ h1 qI (hr.tinj _ _ _ _ b h2 qr hb pR)
 ·obtain⟨h1,h2,h3⟩:=ht _ (bQ h)
  exact BI (nX t _ h1) h2 h3 rfl (fun _=>rfl) (fun _=>rfl) rfl d9
 ·obtain⟨m0,h1,h2,h3⟩:=hM.live id hid n e (by rw[←b8 id hid];exact d9 id _ Ml)
  exact⟨m0,h1,h2,fun h=>by show g.τ _=_;rw[b8 id hid];exact h3 h⟩
theorem NH {σ:Nat→Nat}{n:Nat}(hσ:∀i,i<n→σ i=i){d:D}(hd:d.idsC n=true)(hn:d.noO=true):d.renC σ=d:=by
 cases d with
 |own id z n xs=>simp only[D.idsC,qM] at hd;simp only[D.renC,hσ id hd]
 |pt k o=>simp only[D.idsC,qM] at hd;simp only[D.renC,hσ k hd]
 |ow k o z n=>simp only[D.idsC,qM] at hd;simp only[D.renC,hσ k hd]
 |gw k z n=>simp only[D.idsC,qM] at hd;simp only[D.renC,hσ k hd]
 |fn f ks=>
  simp only[D.idsC,dc,qM] at hd
  simp only[D.renC]
  congr 1
  exact (sw fun k hk=>hσ k (hd k hk)).trans (List.map_id _)
 |opt b d=>cases hn
 |_=>rfl
theorem map_low {σ:Nat→Nat}{n:Nat}(hσ:∀i,i<n→σ i=i){ds:List D}(hd:ds.all (D.idsC n)=true)(hn:ds.all D.noO=true):ds.map (D.renC σ)=ds:=
 (sw fun d h=>NH hσ (dc.1 hd d h) (dc.1 hn d h)).trans (List.map_id _)
end
def Ih(m nn:Nat)(A B:List Nu)(i:Nat):Row:=⟨B[i]!,(List.range (1+nn+m)).map (fun t=>if 1≤t∧t≤nn then hJ A[i*nn+(t - 1)]! else nOf 0),((1+nn+i:Nat):Int)⟩
def mY(m nn:Nat)(A B:List Nu)(most:Int)(i:Nat):Dic:=⟨(List.range i).map (Ih m nn A B),nOf 0,List.replicate (1+nn+m) (nOf 0),nn,0,most⟩
theorem Iq(m nn:Nat)(A B:List Nu)(most:Int):mY m nn A B most m=fK m nn A B most:=rfl
theorem C6 {m nn:Nat}{A B:List Nu}{most:Int}(h0:0≤most)(h1:most≤9223372036854775807){i:Nat}(hi:i≤m):dq (mY m nn A B most i) (1+nn+m) i:=by
 have hg:∀j,j<i→(mY m nn A B most i).rows[j]! =Ih m nn A B j:=fun j hj=>ik (eF _ hj)
 refine⟨by simp[mY],by simp[mY],fun j hj=>?_,fun j hj=>?_,Int.le_refl _,by show (0:Int)≤_;omega,h0,h1⟩
 ·rw[hg j hj];simp[Ih]
 ·rw[hg j hj];show 0≤((1+nn+j:Nat):Int)∧((1+nn+j:Nat):Int)<((1+nn+m:Nat):Int);omega
def By(m nn:Nat)(A:List Nu)(i k:Nat):List Nu:=(List.range (1+nn+m)).map fun t=>if 1≤t∧t≤k then hJ A[i*nn+(t - 1)]! else nOf 0
theorem MD(m nn:Nat)(A:List Nu)(i:Nat):By m nn A i 0=List.replicate (1+nn+m) (nOf 0):=by
 unfold By
 exact (s8 (by simp) fun t ht=>by rw[if_neg (by omega)];exact BH ht).symm
theorem ME {m nn:Nat}{A:List Nu}{i k:Nat}(hk:k<nn):(By m nn A i k).set (1+k) (hJ A[i*nn+k]!)=By m nn A i (k+1):=by
 unfold By
 refine s8 (by simp) fun t ht=>?_
 rw[nG (by simpa using ht),ik (eF _ ht)]
 by_cases h:1+k=t
 ·rw[if_pos h,if_pos (by omega),show t - 1=k by omega]
 ·rw[if_neg h]
  by_cases h2:1≤t∧t≤k
  ·rw[if_pos h2,if_pos (by omega)]
  ·rw[if_neg h2,if_neg (by omega)]
theorem P3(m nn:Nat)(A:List Nu)(i k:Nat):(By m nn A i k).length=1+nn+m:=by simp[By]
def rV(i:Nat):Nat:=if i=0 then 0 else 6+8*i
def cV(j:Nat):Nat:=11+8*j
theorem xn(i:Nat):Dif i 2 (rV i) 6 cV:=by
 unfold rV cV
 refine⟨?_,by omega,?_,fun j hj=>⟨by omega,?_,by omega⟩,fun j k _ _ h=>by omega⟩
 ·split <;> omega
 ·split <;> omega
 ·split <;> omega
def prC(R Cc:Int)(A B C:List Nu):List D:=[dI .i64 R,dI .i64 Cc,.e (slE ay A),.e (slE ay B),.e (slE ay C)]
theorem sC {R Cc:Int}{A B C:List Nu}{t:Nat}{y:D}(h:(prC R Cc A B C)[t]? =some y):Pt (prC R Cc A B C) t [y] (fun ys=>(prC R Cc A B C).take t++ys++(prC R Cc A B C).drop (t+1)):=Pt.cell h
theorem z7(l:List E):(dC l).all D.noO=true:=by
 unfold dC
 rw[dc]
 intro d hd
 obtain⟨e,_,rfl⟩:=tj.1 hd
 rfl
theorem z6(a:Nu)(k w:Nat):(bu a k w).all D.noO=true:=by
 unfold bu
 rw[mi,z7]
 rfl
theorem ET {C:Nat→Nat}{w:Nat}:∀(i:Nat) (l:List Row),(gl C w i l).all D.noO=true
 |_,[]=>rfl
 |i,r::l=>by
  unfold gl iY
  rw[mi,mi,z6,ET (i+1) l]
  rfl
theorem ov_noO {kd R G w:Nat}{C:Nat→Nat}{d:Dic}{vs:List (Nat×List D)}(hb:∀p∈vs,p.2.all D.noO=true):∀k ds,(ov kd R G C w d vs).lookup k=some ds→ds.all D.noO=true:=by
 have hc:∀(i:Nat) (l:List Row),∀p∈cOv C i l,p.2.all D.noO=true:=by
  intro i l
  induction l generalizing i with
  |nil=>intro p hp;simp[cOv] at hp
  |cons r l ih=>
   intro p hp
   rcases kO.1 hp with rfl|hp
   ·exact z7 _
   ·exact ih (i+1) p hp
 intro k ds h
 have hm:=bQ h
 unfold ov at hm
 rcases kO.1 hm with e|hm
 ·injection e with e1 e2
  rw[e2]
  unfold ni
  rw[mi,mi,z6]
  cases d.rows <;> rfl
 rcases kO.1 hm with e|hm
 ·injection e with e1 e2
  rw[e2];exact z7 _
 rcases uL.1 hm with hm|hm
 ·unfold rOv at hm
  split at hm
  ·simp at hm
  ·rw[qi] at hm
   injection hm with e1 e2
   rw[e2];exact ET 0 _
 ·rcases uL.1 hm with hm|hm
  ·exact hc 0 _ _ hm
  ·exact hb _ hm
theorem LM {σ:Nat→Nat}(a:Nu)(k w:Nat):(bu a k w).map (D.renC σ)=bu a (σ k) w:=by
 unfold bu dC
 rw[iU,pY]
 rfl
theorem Jh {σ:Nat→Nat}(l:List E):(dC l).map (D.renC σ)=dC l:=by
 unfold dC
 rw[pY]
 rfl
def TmR(σ:Nat→Nat)(m:Nat)(tm tm':List (Nat×D)):Prop:=∀p∈tm',tm.lookup p.1=some (p.2.ren σ)∧p.2.idsB m=true∧p.2.noOs=true
theorem TmR.nil {σ:Nat→Nat}{m:Nat}{tm:List (Nat×D)}:TmR σ m tm []:=fun p hp=>absurd hp (qj)
theorem TmR.cons {σ:Nat→Nat}{m t:Nat}{d:D}{tm tm':List (Nat×D)}(h2:TmR σ m tm tm')(h:tm.lookup t=some (d.ren σ))(hi:d.idsB m=true)(hn:d.noOs=true:=by exact rfl):TmR σ m tm ((t,d)::tm'):=fun p hp=>by
 rcases kO.1 hp with rfl|hp
 ·exact⟨h,hi,hn⟩
 ·exact h2 p hp
theorem Qz {dr:Bool}{ty:TypeId}{ev:Operand→D}{hp:Hp}{x y:Operand}{a:Nu}{k n:Nat}{b:Int}(hx:ev x=.ag (bu a k n):=by exact rfl)(hy:ev y=dI .i64 b:=by exact rfl):AVC Tryz.prog tbl dr (.build 78 #[(0,x),(1,y)]) ty ev hp (Kq (.ag (bu a k n++[dI .i64 b])) hp):=by
 have h0:([(0,x),(1,y)]:List (Nat×Operand)).map (fun p=>(p.1,ev p.2))=[(0,.ag (bu a k n)),(1,dI .i64 b)]:=by simp only[cP,dA,hx,hy]
 rw[show (#[(0,x),(1,y)]:Array (Nat×Operand))=([(0,x),(1,y)]:List (Nat×Operand)).toArray from rfl,vK,h0,tf,sT]
 have hp:l5 [(0,.ag (bu a k n)),(1,dI .i64 b)]=some [(0,bu a k n),(1,[dI .i64 b])]:=rfl
 rw[hp]
 dsimp only
 refine⟨by decide,?_⟩
 have hz:∀zs:List D,zs.length=38→gp (oi tbl [(0,73),(37,3)]) zs [(0,bu a k n),(1,[dI .i64 b])]=some (bu a k n++[dI .i64 b]):=fun zs hzs=>by
  have p0:oi tbl [(0,73),(37,3)] 0=some (0,37):=rfl
  have p1:oi tbl [(0,73),(37,3)] 1=some (37,1):=rfl
  simp only[gp,p0,p1,cl]
  rw[if_neg (by simp[hzs])]
  rw[if_neg (by simp[cl,hzs])]
  rw[Dk,mL,bJ,Bd (by rw[cl];exact aB _),iP (by rw[cl];exact aB _),Be (by simp[cl,hzs]),sv]
 rw[hz _ (by rfl)]
 exact Kq.here _ _
theorem AW.joinE {P:Program}{x:Cx}{c c':Code}{tm:List (Nat×D)}{hp:Hp}{Q:Exit→List (Nat×D)→Hp→Prop}{α:Type}(T:α→List (Nat×D))(H:α→Hp)(I:α→Prop)(h1:AW P x c tm hp fun ex tm' hp'=>match ex with| .normal=>∃a,I a∧Wk x tm' hp' (T a) (H a)|ex=>Q ex tm' hp')(h2:∀a,I a→AW P x c' (T a) (H a) Q):AW P x (.seq c c') tm hp Q:=by
 refine AW.seq (AW.mono h1 fun ex tm' hp' h=>?_)
 cases ex with
 |normal=>
  obtain⟨a,ha,hw⟩:=h
  exact AW.weak hw (h2 a ha)
 |_=>exact h
theorem appRows {U:List (Nat×List D)}{lv:List (Nat×Nat×Nat×TypeId)}{N R ky w:Nat}{C:Nat→Nat}{l:List Row}{F1:List D}(hR:l≠[]→U.lookup R=some (gl C w 0 l))(hky:U.lookup ky=some F1)(hl:F1.length=38)(hb:l.length≤1000000):
  ∃W:List (Nat×List D),W.lookup N=some (gl C w 0 l++F1)∧(∀k ds,(l≠[]→k≠R)→k≠N→U.lookup k=some ds→W.lookup k=some ds)∧
   ∀{md:Md} {dst:Option Tmp} {ty:TypeId} {pos:String} {af:Array Edge} {gd:Option (Nat×Bool)} {ev:Operand→D} {x y:Operand},ev x=fy R l→ev y=.gw ky 38 1→m3 Tryz.prog tbl md ⟨dst,.call ⟨.builtin .append,#[x,y],#[71,71]⟩,ty,pos,af,gd⟩ ev ⟨U,lv,N⟩ (.gw N 38 (l.length+1)) ⟨W,lv,N+1⟩:=by
 cases l with
 |nil=>
  refine⟨(N,F1)::U,?_,fun k ds _ h2 h=>al h2 h,fun hx Ot=>?_⟩
  ·exact ab
  ·exact appN tok (hp:=⟨U,lv,N⟩) AN sT hky hx Ot hl (by decide)
 |cons r l=>
  refine⟨(N,gl C w 0 (r::l)++F1)::U.filter fun p=>!([R]:List Nat).contains p.1,ab,fun k ds h1 h2 h=>al h2 (wn (by simpa using h1 (by simp)) h),fun hx Ot=>?_⟩
  exact appR tok (hp:=⟨U,lv,N⟩) (k:=R) (n:=(r::l).length) (ds:=gl C w 0 (r::l)) AN sT (hR (by simp)) hky hx Ot (zX _ _ _ _) hl (by show ((r::l).length+1)*168≤140737488355328;omega)
end
section
section
variable {d:Dic} {w at' s:Nat}
theorem Inv.pivotG(hI:Inv d w)(hat:at'<d.rows.length)(hs:s<w)(DZ:∀j,j<d.rows.length→d.rows[j]!.b≠s)(h0:(ej d at' s).1=0):lx d w at' s∧(ej d at' s).2=nL d at' s:=by
 by_cases hp:d.most≤d.piv
 ·have:ej d at' s=(220,d):=by unfold ej;rw[if_pos hp]
  rw[this] at h0;cases h0
 obtain⟨h2,_,hok⟩:=ER d at' s hat hp
 obtain⟨g1,g2⟩:=hok.1 h0
 refine⟨⟨hI,hat,hs,DZ,⟨?_,fun i hi=>?_,g1,fun i hi=>g2 i (by rwa[jr] at hi)⟩⟩,h2⟩
 ·show (ml d.gk d.gc _ s).c.length=w
  rw[yF];exact hI.fine.lg
 ·rw[jr] at hi
  rw[om hi]
  split
  ·rw[tQ];exact hI.fine.lr at' hat
  ·show (ml d.rows[i]!.k d.rows[i]!.c _ s).c.length=w
   rw[yF];exact hI.fine.lr i hi
theorem Inv.improved(w:Nat):∀(f:Nat) (d:Dic),Inv d w→(iG f d).1.2=0→Inv (iG f d).2 w∧wW d (iG f d).2 w
 |0,d,hI,_=>⟨hI,wW.refl d w⟩
 |f+1,d,hI,h=>by
  unfold iG at h ⊢
  cases hs:qg d.gc with
  |none=>exact⟨hI,wW.refl d w⟩
  |some s=>
   obtain⟨h1,h2,_⟩:=C3 hs
   rw[hI.fine.lg] at h1
   rw[hs] at h
   dsimp only at h ⊢
   cases hl:pP d.rows s default d.rows.length with
   |none=>rw[hl] at h;cases h
   |some p=>
    rw[hl] at h
    dsimp only at h ⊢
    by_cases hp:p.1<0
    ·rw[if_pos hp];exact⟨hI,wW.refl d w⟩
    ·rw[if_neg hp] at h ⊢
     rcases wo hl with h3|⟨i,hi,h3,h4,_⟩
     ·omega
     rw[h3,show ((i:Int)).toNat=i by omega] at h ⊢
     by_cases h0:(ej d i s).1=0
     ·rw[if_pos h0] at h ⊢
      obtain⟨hG,h7⟩:=hI.pivotG hi h1 (hI.enter (by omega)) h0
      rw[h7] at h ⊢
      obtain⟨a1,a2⟩:=Inv.improved w f (nL d i s) hG.toInv h
      exact⟨a1,hG.same.trans a2⟩
     ·rw[if_neg h0] at h;exact absurd h h0
end
theorem Nv {m nn:Nat}{A B C:List Nu}{most:Int}(hA:A.length=m*nn)(hB:B.length=m)(hgA:∀i,i<A.length→aW A[i]! =true)(hgB:∀i,i<B.length→aW B[i]! =true):
  B.any (fun b=>decide (cU b<0))=true→∀q,ej (j8 (fK m nn A B most)) (nd (fK m nn A B most).rows (fK m nn A B most).rows.length) 0=q→q.1=0→(bn q.2).1.2=0→0≤eC (bn q.2).2.rows 0→AS (bn q.2).2.rows[(eC (bn q.2).2.rows 0).toNat]!.c≠none:=by
 intro hn
 have D0:0<m:=by
  rcases rF m with e|e
  ·rw[e] at hB
   rw[List.length_eq_zero_iff.1 hB] at hn
   cases hn
  ·exact e
 have hI:=Mw (most:=most) hA hB hgA hgB
 have hlen:(fK m nn A B most).rows.length=m:=CY
 generalize hd:fK m nn A B most=d at hI hlen ⊢
 have h0:∀j,j<d.rows.length→d.rows[j]!.b≠0:=fun j hj=>by
  rw[←hd,Mx j (by omega)];omega
 have hI1:Inv (j8 d) (1+nn+m):=by
  refine hI.col of1.1 (.inl h0) (by rw[eU];exact hI.fine.lg) (wW.fine hI ofm1.1 _ _ hI.fine.lg hI.fine.gg) (fun j hj=>?_) d.piv
  have:=hI.rng j hj
  have:=h0 j hj
  have:=hI.fine.lg
  rw[nG (by omega),if_neg (by omega)]
  exact hI.zg j hj
 have b8:nd d.rows d.rows.length<(j8 d).rows.length:=by
  have:=F7 d.rows d.rows.length
  show _<(d.rows.map _).length
  rw[bw];omega
 have hnb1:∀j,j<(j8 d).rows.length→(j8 d).rows[j]!.b≠((0:Nat):Int):=fun j hj=>by
  have Gr:j<d.rows.length:=by simpa[j8] using hj
  show (d.rows.map (vJ (nOf 1)))[j]!.b≠_
  rw[KJ Gr]
  exact h0 j Gr
 rintro q rfl hp e hf OT
 obtain⟨hG,h2⟩:=hI1.pivotG b8 (show 0<1+nn+m by omega) hnb1 hp
 rw[h2] at e hf OT
 generalize nL (j8 d) (nd d.rows d.rows.length) 0=d1 at hG e hf OT h2
 have hS1:wW (j8 d) (ej (j8 d) (nd d.rows d.rows.length) 0).2 (1+nn+m)∧Inv (ej (j8 d) (nd d.rows d.rows.length) 0).2 (1+nn+m):=by
  obtain⟨hG',qr⟩:=hI1.pivotG b8 (show 0<1+nn+m by omega) hnb1 hp
  rw[qr]
  exact⟨hG'.same,hG'.toInv⟩
 rw[h2] at hS1
 obtain⟨a2,a4⟩:=Inv.improved (1+nn+m) _ d1 hS1.2 e
 have a2:Inv (bn d1).2 (1+nn+m):=a2
 have a4:wW d1 (bn d1).2 (1+nn+m):=a4
 rcases My (bn d1).2.rows 0 with⟨h5,_⟩|⟨i,h5,h6,h7⟩
 ·omega
 rw[h6,show ((i:Int)).toNat=i by omega] at OT
 have hz:∀t,t<1+nn+m→(bn d1).2.rows[i]!.c[t]! =nOf 0:=fun t ht=>by
  have hl:=a2.fine.lr i h5
  have hg:=(gP.1 (a2.fine.gr i h5)).2 t (by omega)
  unfold AS at OT
  have:=Aw.1 OT (bn d1).2.rows[i]!.c[t] (rI (by omega))
  refine good0 hg ?_
  rw[cO _ t (by omega)]
  simpa using this
 have hcon:∀y,Sol (bn d1).2 (1+nn+m) y→y 0=rv (bn d1).2.rows[i]!.k:=fun y hy=>by
  have:=hy i h5
  rw[h7] at this
  have e2:jo (1+nn+m) (bn d1).2.rows[i]!.k (bn d1).2.rows[i]!.c y=rv (bn d1).2.rows[i]!.k:=by
   unfold jo
   rw[nJ (g:=fun _=>0) fun t ht=>by rw[hz t ht,of0.2];grind,zT];grind
  rw[e2] at this
  exact this
 obtain⟨y0,hy0,hv0⟩:=hI1.pick fun _=>0
 obtain⟨y1,KP,hv1⟩:=hI1.pick fun _=>1
 have hh:=hS1.1.trans a4
 have e0:=hcon y0 ((hh.sol y0).2 hy0)
 have e1:=hcon y1 ((hh.sol y1).2 KP)
 rw[hv0 0 hnb1] at e0
 rw[hv1 0 hnb1] at e1
 rw[←e0] at e1
 exact absurd e1 (by decide)
end
section
def qh(m:Nat)(a:Ans):List D:=[dI .i64 a.kind,.e (slE ay a.x),if a.kind=2 then .gw (7+8*m) 36 a.y.length else .e (slE ay a.y),.e (slE ay a.ray)]
def Ej(m:Nat)(r:Ans×Int×Int):Hp:=if r.1.kind=2 then⟨[(1,qh m r.1),(7+8*m,dC ((cW ay).f r.1.y))],[],8+8*m⟩ else⟨[(1,qh m r.1)],[],2⟩
def Jb(m:Nat)(r:Ans×Int×Int):D:=.tu [.ag (qh m r.1),dI .i64 r.2.1,dI .i64 r.2.2]
theorem rtS {cx:Cx}{tm:List (Nat×D)}{vs2:List (Nat×List D)}{n2 m:Nat}{r0 r:Ans×Int×Int}(h0:cx.hp0=⟨[],[],0⟩)(hr:r0=r)(h1:vs2.lookup 1=some (qh m r.1))(hk:r.1.kind=2→vs2.lookup (7+8*m)=some (dC ((cW ay).f r.1.y))∧8+8*m≤n2)(hn:2≤n2)(h4:tm.lookup 4=some (.pt 1 0):=by exact rfl)(h5:tm.lookup 5=some (dI .i64 r.2.1):=by exact rfl)(h6:tm.lookup 6=some (dI .i64 r.2.2):=by exact rfl):
  ∃tm',Wk cx tm ⟨vs2,[],n2⟩ tm' (Ej m r0)∧sQ tbl [.cell 4 29,.tmp 5,.tmp 6] tm' (Ej m r0) (Jb m r0):=by
 subst hr
 have key:∀(V:List (Nat×List D)) (M:Nat),cQ ⟨V,[],M⟩→V.lookup 1=some (qh m r0.1)→1<M→sQ tbl [.cell 4 29,.tmp 5,.tmp 6] [(4,.pt 1 0),(5,dI .i64 r0.2.1),(6,dI .i64 r0.2.2)] ⟨V,[],M⟩ (Jb m r0):=fun V M hok hl hM=>
  resV tbI rfl hl hM rfl rfl ⟨_,rfl,_,rfl,rfl⟩
 unfold Ej
 by_cases hq:r0.1.kind=2
 ·rw[if_pos hq]
  obtain⟨h7,h8⟩:=hk hq
  have CR:(qh m r0.1).all (D.idsC (8+8*m))=true:=by
   unfold qh
   rw[if_pos hq]
   simp only[bX,bt,bc,bp]
   exact⟨rfl,rfl,aF (by omega),rfl⟩
  have hok:cQ ⟨[(1,qh m r0.1),(7+8*m,dC ((cW ay).f r0.1.y))],[],8+8*m⟩:=by
   refine⟨fun k ds h=>?_,fun id e h=>by simp at h⟩
   rcases cD h with⟨rfl,rfl⟩|⟨_,h⟩
   ·exact⟨show 1<8+8*m by omega,CR⟩
   ·rcases cD h with⟨rfl,rfl⟩|⟨_,h⟩
    ·exact⟨show 7+8*m<8+8*m by omega,eS _⟩
    ·simp at h
  refine⟨_,wkS (by rw[h0];exact cX _) h8 hok (fun j ds h=>?_) (((bU.nil.cons h6).cons h5).cons h4 (aF (show 1<8+8*m by omega))),key _ _ hok ab (by omega)⟩
  rcases cD h with⟨rfl,rfl⟩|⟨_,h⟩
  ·exact h1
  ·rcases cD h with⟨rfl,rfl⟩|⟨_,h⟩
   ·exact h7
   ·simp at h
 ·rw[if_neg hq]
  have CR:(qh m r0.1).all (D.idsC 2)=true:=by
   unfold qh
   rw[if_neg hq]
   rfl
  have hok:cQ ⟨[(1,qh m r0.1)],[],2⟩:=by
   refine⟨fun k ds h=>?_,fun id e h=>by simp at h⟩
   rcases cD h with⟨rfl,rfl⟩|⟨_,h⟩
   ·exact⟨show 1<2 by decide,CR⟩
   ·simp at h
  refine⟨_,wkS (by rw[h0];exact cX _) hn hok (fun j ds h=>?_) (((bU.nil.cons h6).cons h5).cons h4 rfl),key _ _ hok ab (by decide)⟩
  rcases cD h with⟨rfl,rfl⟩|⟨_,h⟩
  ·exact h1
  ·simp at h
def l8:List E:=[.lit (.int .i64 0),.lit (.slice none 0 0),.lit (.slice none 0 0),.lit (.slice none 0 0)]
def dicZ(nn:Nat)(most:Int):List D:=[dN]++(dC zN++[dN])++[dI .i64 nn,dI .i64 0,dI .i64 most]
theorem MC(nn:Nat)(most:Int):Pt (dicZ nn most) 1 (dC zN++[dN]) (fun ys=>[dN]++ys++[dI .i64 nn,dI .i64 0,dI .i64 most]):=Pt.of [dN] [dI .i64 nn,dI .i64 0,dI .i64 most] rfl rfl fun y=>rfl
theorem qB {a b:Nat}(h:a+b<9223372036854775807):i64.wrap ((a:Int)+(b:Int))=((a+b:Nat):Int):=by rw[eu (by omega) (by omega)];omega
section
variable {d:Dic} {w m nn:Nat} {c:List Nu}
theorem dq.improveP(h:dq d w m):dq (bn d).2 w m∧(bn d).2.most=d.most∧(bn d).2.n=d.n∧-1≤(bn d).1.1∧(bn d).1.1<w:=h.improve _
theorem dq.start(h:dq d w m):dq (j8 d) w m:=by
 have h2:=h.colsI (nOf 1) (Nat.le_of_eq h.len)
 rw[wx] at h2
 exact⟨h2.len,(eU ..).trans h2.lg,h2.lc,h2.b,h2.p0,h2.p1,h2.m0,h2.m1⟩
theorem PL {l:List Row}{v:Int}(h:¬eC l v<0):(eC l v).toNat<l.length:=by
 unfold eC at h ⊢
 cases Mm:l.findIdx? fun r=>decide (r.b=v) with
 |none=>rw[Mm] at h;exact absurd (show (-1:Int)<0 by decide) h
 |some a=>exact (qk.1 Mm).1
theorem dq.begin(h:dq d w m)(hm:0<m)(hw:0<w):dq (li d).2 w m∧(li d).2.n=d.n:=by
 have hl:=h.len
 have ob:nd d.rows d.rows.length<m:=by
  rcases F7 d.rows d.rows.length with h|h <;> omega
 obtain⟨p1,_,p3,_⟩:=h.start.pivot ob hw
 have p3:_=d.n:=p3
 unfold li
 dsimp only
 split
 ·exact⟨p1,p3⟩
 ·obtain⟨q1,_,q3,_⟩:=p1.improveP
  split
  ·exact⟨q1,q3.trans p3⟩
  ·split
   ·exact⟨q1,q3.trans p3⟩
   ·next hf=>
    have hfl:=PL hf
    rw[q1.len] at hfl
    split
    ·exact⟨q1,q3.trans p3⟩
    ·next s hs=>
     have DX:=(qk.1 hs).1
     rw[q1.lc _ hfl] at DX
     obtain⟨r1,_,r3,_⟩:=q1.pivot hfl DX
     exact⟨r1,r3.trans (q3.trans p3)⟩
theorem dq.aim(h:dq d w m)(c:List Nu):dq (nB d c).2 w m∧(nB d c).2.n=d.n:=by
 have h2:=h.colsI (nOf 0) (Nat.le_of_eq h.len)
 rw[wx] at h2
 exact⟨⟨h2.len,(v4 ..).trans h.lg,h2.lc,h2.b,h2.p0,h2.p1,h2.m0,h2.m1⟩,rfl⟩
theorem endP_1(h:(nB d c).1≠0):wU nn d c=(⟨0,[],[],[]⟩,0,(nB d c).1):=by unfold wU;dsimp only;rw[if_pos h]
theorem endP_2(h:¬(nB d c).1≠0)(h2:(bn (nB d c).2).1.2≠0):wU nn d c=(⟨0,[],[],[]⟩,0,(bn (nB d c).2).1.2):=by unfold wU;dsimp only;rw[if_neg h,if_pos h2]
theorem endP_3(h:¬(nB d c).1≠0)(h2:¬(bn (nB d c).2).1.2≠0)(h3:(bn (nB d c).2).1.1<0):wU nn d c=(⟨1,mP (bn (nB d c).2).2.rows nn Row.k fun _=>nOf 0,fF (bn (nB d c).2).2 nn,[]⟩,(bn (nB d c).2).2.piv,0):=by unfold wU;dsimp only;rw[if_neg h,if_neg h2,if_pos h3]
theorem endP_4(h:¬(nB d c).1≠0)(h2:¬(bn (nB d c).2).1.2≠0){s:Nat}(h3:(bn (nB d c).2).1.1=(s:Int)):wU nn d c=(⟨3,mP (bn (nB d c).2).2.rows nn Row.k fun _=>nOf 0,[],mP (bn (nB d c).2).2.rows nn (fun r=>r.c[s]!) fun v=>nOf (if (v:Int)=(s:Int) then 1 else 0)⟩,(bn (nB d c).2).2.piv,0):=by
 unfold wU
 dsimp only
 rw[if_neg h,if_neg h2,if_neg (by omega),h3,show ((s:Int)).toNat=s by omega]
 congr 2
 congr 1
 funext v
 split <;> rfl
end
section
variable {m nn:Nat} {A B C:List Nu} {most:Int}
theorem MJ {m:Nat}{a:Ans}(h:a.kind≠2):qh m a=[dI .i64 a.kind,.e (slE ay a.x),.e (slE ay a.y),.e (slE ay a.ray)]:=by unfold qh;rw[if_neg h]
theorem vM(m:Nat):D.le (.ag [dI .i64 0,dN,dN,dN]) (.ag (qh m ⟨0,[],[],[]⟩)):=by
 rw[MJ (by decide)]
 exact se ⟨.inl rfl,.inr (.inr ⟨rfl,36,by decide,rfl⟩),.inr (.inr ⟨rfl,36,by decide,rfl⟩),.inr (.inr ⟨rfl,36,by decide,rfl⟩),trivial⟩
set_option maxHeartbeats 8000000 in
theorem KX(hv:ax Tryz.prog 15 [.ag (prC m nn A B C)] (dB true))(hm:m≤2000)(hn:nn≤2000)(hA:A.length=m*nn)(hB:B.length=m)(hC:C.length=nn)(hgA:∀i,i<A.length→aW A[i]! =true)(hgB:∀i,i<B.length→aW B[i]! =true)(hgC:∀i,i<C.length→aW C[i]! =true)(h0:0≤most)(h1:most≤9223372036854775807):
  HC Tryz.prog 12 [.ag (prC m nn A B C),dI .i64 most] ⟨[],[],0⟩ (Jb m (lZ m nn A B C most)) (Ej m (lZ m nn A B C most)):=by
 refine HC.of (rs:=[.cell 4 29,.tmp 5,.tmp 6]) tok Tryz.func12 rfl rfl (dK rfl) rfl (fun cx hx uI hok=>?_)
 simp only[fS,Nat.reduceAdd,bJ]
 obtain⟨w,hw⟩:∃w,w=1+nn+m:=⟨_,rfl⟩
 refine rs hx fun K hK=>?_
 refine s1 (fB (cs:=prC m nn A B C)) ?_
 refine a1 (F:=l8) tbI ?_
 iterate 2 refine sa ?_
 refine .nil (hK _ _ (AW.seq (rs hx fun K hK=>?_)))
 refine p1 (Pt.all (F:=prC m nn A B C)) rfl ?_
 refine q1 (sHC (HC.frz (ds:=[.ag (prC m nn A B C)]) hv ⟨AR.data rfl,trivial⟩ rfl) rfl (.inr (Fr.refl _))) ?_
 iterate 2 refine sa ?_
 iterate 2 refine ga rfl ?_
 refine s1 (d:=dB (decide (most<0))) (an rfl) ?_
 refine .nil (hK _ _ (AW.condF rfl (bf (by omega)) (AW.skip ?_)))
 -- the dictionary
 refine rs hx fun K hK=>?_
 iterate 2 refine sa ?_
 refine c1 (sC (t:=1) rfl) ?_
 refine sa ?_
 refine s1 (d:=.ag (dicZ nn most)) (eh tbI) ?_
 refine s1 (fB (cs:=dicZ nn most)) ?_
 refine sa ?_
 refine .nil (hK _ _ (rs hx fun K hK=>?_))
 iterate 2 refine sa ?_
 refine c1 (sC (t:=1) rfl) ?_
 refine sa ?_
 rw[show i64.wrap ((1:Int)+(nn:Int))=((1+nn:Nat):Int) from qB (a:=1) (by omega)]
 iterate 2 refine sa ?_
 refine c1 (sC (t:=0) rfl) ?_
 refine sa ?_
 rw[qB (by omega),←hw]
 refine sa ?_
 refine .nil (hK _ _ (rs hx fun K hK=>?_))
 iterate 2 refine sa ?_
 refine q1 (sHC (ws (by omega)) rfl (.inr ⟨show 3≤7 by decide,fun j hj=>by have hj:j<3:=hj;exact (au (by omega)).trans (au (by omega))⟩)) ?_
 iterate 2 refine sa ?_
 refine v1 (ys:=bu (nOf 0) 6 w) (MC nn most) rfl ((cl _ _ _).trans rfl) rfl ?_
 refine .nil (hK _ _ (rs hx fun K hK=>?_))
 refine sa ?_
 refine .nil (hK _ _ ?_)
 obtain⟨base,me⟩:∃base:List (Nat×List D),base=[(1,dC l8),(0,prC m nn A B C)]:=⟨_,rfl⟩
 have cv:base.lookup 1=some (dC l8):=by rw[me];exact ab
 have hb0:base.lookup 0=some (prC m nn A B C):=by rw[me];rfl
 have Pj:∀j ds,base.lookup j=some ds→j=0∨j=1:=fun j ds h=>by
  rw[me] at h
  rcases cD h with⟨h2,_⟩|⟨_,h⟩
  ·exact .inr h2
  ·rcases cD h with⟨h2,_⟩|⟨_,h⟩
   ·exact .inl h2
   ·simp at h
 have JF:∀M,2≤M→cQ ⟨base,[],M⟩:=fun M hM=>by
  refine⟨fun j ds h=>?_,fun id e h=>by simp at h⟩
  rcases Pj j ds h with rfl|rfl
  ·rw[hb0] at h;injection h with h;subst h;exact⟨show 0<M by omega,rfl⟩
  ·rw[cv] at h;injection h with h;subst h;exact⟨show 1<M by omega,rfl⟩
 obtain⟨V0,D6⟩:∃V0,V0=(2,[dN]++bu (nOf 0) 6 w++[dI .i64 nn,dI .i64 0,dI .i64 most])::(3,bu (nOf 0) 6 w)::(6,dC ((cW ay).f (List.replicate w (nOf 0))))::(2,dicZ nn most)::base:=⟨_,rfl⟩
 have hSI:∀i,i≤m→dq (mY m nn A B most i) w i:=fun i hi=>by rw[hw];exact C6 h0 h1 hi
 have hD0:DAt V0 2 (rV 0) 6 cV w (mY m nn A B most 0):=by
  rw[D6]
  exact⟨ab,fun gt=>absurd rfl gt,by rw[hw];exact al (by decide) (al (by decide) ab),fun i r hr=>by simp[mY] at hr,(hSI 0 (cX _)).lg,(hSI 0 (cX _)).lC⟩
 have KU:∀k ds,k≠2→(0≠0→k≠rV 0)→k≠6→(∀j,j<0→k≠cV j)→base.lookup k=some ds→V0.lookup k=some ds:=fun k ds _ _ _ _ h=>by
  rw[D6]
  rcases Pj k ds h with rfl|rfl
  ·exact al (by decide) (al (by decide) (al (by decide) (al (by decide) h)))
  ·exact al (by decide) (al (by decide) (al (by decide) (al (by decide) h)))
 rw[me] at D6
 rw[←D6]
 rw[←me] at D6
 have hokI:∀i d2,dq d2 w i→cQ ⟨ov 2 (rV i) 6 cV w d2 base,[],7+8*i⟩:=fun i d2 h2=>AQ (JF _ (by omega)) (by omega) (by unfold rV;split <;> omega) (by omega) fun j hj=>by rw[h2.len] at hj;unfold cV;omega
 obtain⟨ng,hng⟩:∃ng:Nat→Bool,ng=fun i=>(B.take i).any fun b=>decide (cU b<0):=⟨_,rfl⟩
 refine AW.seq (rs hx fun K hK=>?_)
 refine sa ?_
 have hl00:V0.lookup 0=some (prC m nn A B C):=by rw[D6];exact al (by decide) (al (by decide) (al (by decide) (al (by decide) hb0)))
 refine c1 (sC (t:=3) rfl) ?_
 iterate 2 refine sa ?_
 refine .nil (hK _ _ ?_)
 rw[hB]
 refine AW.block (AW.loopW (fun i:Nat=>[(2,.pt 0 0),(4,.pt 1 0),(7,.pt 2 0),(8,dI .i64 w),(9,dB (ng i)),(48,.e (slE ay B)),(49,dI .i64 m),(50,dI .i64 i)]) (fun i=>⟨ov 2 (rV i) 6 cV w (mY m nn A B most i) base,[],7+8*i⟩) (fun i=>i≤m) (fun i=>m - i) 0 ?_ (cX _) ?_)
 ·exact wk1 uI (hok:=hokI 0 _ (hSI 0 (cX _))) (hv:=vo (xn 0) (hSI 0 (cX _)) hD0 KU) (ht:=by rw[hng];exact bU.cons (bU.cons (bU.cons (bU.cons (bU.cons (bU.cons (bU.cons (bU.cons bU.nil rfl rfl) rfl rfl) rfl rfl) rfl rfl) rfl rfl) rfl rfl) rfl rfl) rfl rfl)
 ·intro i hi
  have wt:=hSI i hi
  have BR:=wt.at (xn i) (vs:=base)
  have oa:=hokI i _ wt
  have tc:∀k ds,base.lookup k=some ds→(ov 2 (rV i) 6 cV w (mY m nn A B most i) base).lookup k=some ds:=fun k ds h=>by
   refine Cr wt ?_ ?_ ?_ ?_ h
   ·rcases Pj k ds h with rfl|rfl <;> decide
   ·intro hi0
    unfold rV
    rw[if_neg hi0]
    rcases Pj k ds h with rfl|rfl <;> omega
   ·rcases Pj k ds h with rfl|rfl <;> decide
   ·intro j _
    unfold cV
    rcases Pj k ds h with rfl|rfl <;> omega
  obtain⟨V,hV⟩:∃V,V=ov 2 (rV i) 6 cV w (mY m nn A B most i) base:=⟨_,rfl⟩
  rw[←hV] at BR oa tc ⊢
  have hl0:=tc 0 _ hb0
  have hnoV:∀k ds,V.lookup k=some ds→ds.all D.noO=true:=by
   rw[hV]
   refine ov_noO fun p hp=>?_
   rw[me] at hp
   rcases kO.1 hp with rfl|hp
   ·exact z7 _
   ·rw[qi.1 hp];rfl
  have hl1:=tc 1 _ cv
  have CP:=BR.hd
  refine rs hx fun K hK=>?_
  refine sa ?_
  refine .nil (hK _ _ (AW.seq (AW.condS rfl (fun hb=>?_) (fun hb=>?_))))
  ·have zG:i<m:=by have:=da hb;omega
   obtain⟨n,hnn⟩:∃n,n=7+8*i:=⟨_,rfl⟩
   rw[←hnn] at oa ⊢
   have mq:0≤(i:Int)∧(i:Int)<((B.length:Nat):Int):=by omega
   refine AW.skip (AW.seq (AW.block (rs hx fun K hK=>?_)))
   refine sa ?_
   refine s1 (gV mq aH aw) ?_
   refine s1 (d:=dG ay B[i]!) (mj (c:=ay) (l:=B) (n:=i) (o:=0) aw (by omega) (fm _ _ rfl)) ?_
   refine n1 ?_
   refine sa ?_
   refine z1 ?_
   refine .nil (hK _ _ ?_)
   -- the row
   obtain⟨F0,Mu⟩:∃F0,F0=bu (nOf 0) (n+4) w++[dI .i64 (1+nn+i:Nat)]:=⟨_,rfl⟩
   have hFl:F0.length=38:=by rw[Mu,c8,cl];rfl
   have hFi:F0.all (D.idsC (n+6))=true:=by rw[Mu,mi,ja (by omega)];rfl
   obtain⟨Tm,hTm⟩:∃Tm:List (Nat×D),Tm=[(2,.pt 0 0),(4,.pt 1 0),(7,.pt 2 0),(8,dI .i64 w),(9,dB (ng i)),(48,.e (slE ay B)),(49,dI .i64 m),(50,dI .i64 i),(10,dI .i64 i),(11,.pt n 0),(12,.pt (n+5) 0)]:=⟨_,rfl⟩
   refine sj Tm ⟨(n+5,F0)::(n+4,dC ((cW ay).f (List.replicate w (nOf 0))))::(n,dC (ay.f B[i]!))::V,[],n+6⟩ ?_ ?_
   ·refine dw (DW.split 1 9 (by decide) ?_ ?_)
    ·refine dwg [] [0,1,2,3,4,5,6,7,8,9,10] hx (by kernel_rfl) (by kernel_rfl) (by kernel_rfl) fun K hK=>?_
     dsimp only[ez,mZ,na,List.map]
     refine sa ?_
     refine q1 (sHC (ws (by omega)) rfl (.inr ⟨show n+1≤n+1+4 by omega,fun j hj=>by have hj:j<n+1:=hj;exact (au (by omega)).trans (au (by omega))⟩)) ?_
     iterate 2 refine sa ?_
     refine c1 (sC (t:=1) rfl) ?_
     refine sa ?_
     rw[show i64.wrap ((1:Int)+(nn:Int))=((1+nn:Nat):Int) from qB (a:=1) (by omega)]
     iterate 2 refine sa ?_
     rw[qB (by omega)]
     refine s1 Qz ?_
     rw[←Mu]
     refine a1 (F:=Ly) sT ?_
     refine v1 (Pt.all (F:=dC Ly)) rfl hFl rfl ?_
     refine .nil (hK _ _ ⟨rfl,?_⟩)
     rw[hTm]
     exact wk1 uI
    ·refine dwg [] [0,9,1,2,3,4,5,6,7,8,10] hx (by kernel_rfl) (by kernel_rfl) (by kernel_rfl) fun K hK=>?_
     dsimp only[ez,mZ,na,List.map]
     refine sa ?_
     refine a1 (F:=Ly) sT ?_
     refine q1 (sHC (ws (by omega)) rfl (.inr ⟨show n+2≤n+2+4 by omega,fun j hj=>by have hj:j<n+2:=hj;exact (au (by omega)).trans (au (by omega))⟩)) ?_
     iterate 2 refine sa ?_
     refine c1 (sC (t:=1) rfl) ?_
     refine sa ?_
     rw[show i64.wrap ((1:Int)+(nn:Int))=((1+nn:Nat):Int) from qB (a:=1) (by omega)]
     iterate 2 refine sa ?_
     rw[qB (by omega)]
     refine s1 Qz ?_
     refine v1 (ys:=bu (nOf 0) (n+5) w++[dI .i64 (1+nn+i:Nat)]) (Pt.all (F:=dC Ly)) rfl (by rw[c8,cl];rfl) rfl ?_
     refine .nil (hK _ _ ⟨rfl,?_⟩)
     obtain⟨σ,hσ⟩:∃σ:Nat→Nat,σ=fun j=>if j=n+5 then n+1 else if j=n+4 then n+5 else if j=n+1 then n+4 else j:=⟨_,rfl⟩
     have s5:σ (n+5)=n+1:=by rw[hσ];exact if_pos rfl
     have s4:σ (n+4)=n+5:=by rw[hσ];show (if n+4=n+5 then _ else _)=_;rw[if_neg (by omega),if_pos rfl]
     have Ek:∀j,j<n+1→σ j=j:=fun j hj=>by rw[hσ];show (if j=n+5 then _ else _)=_;rw[if_neg (by omega),if_neg (by omega),if_neg (by omega)]
     have xS:∀a b,a<n+6→b<n+6→σ a=σ b→a=b:=fun a b _ _ h=>by
      rw[hσ] at h
      dsimp only at h
      repeat' split at h
      all_goals omega
     have E4:2<n:=by omega
     rw[hTm]
     refine Wk.perm σ (by rw[uI];exact cX _) (fun j hj=>by rw[uI] at hj;exact absurd hj (rG _)) xS ?_ (fun k ds h=>?_) (fun k y h=>by simp at h)
     ·refine TmR.cons (TmR.cons (TmR.cons (TmR.cons (TmR.cons (TmR.cons (TmR.cons (TmR.cons (TmR.cons (TmR.cons (TmR.cons TmR.nil ?_ (aF (show n+5<n+6 by omega))) ?_ (aF (show n<n+6 by omega))) rfl rfl) rfl rfl) rfl rfl) rfl rfl) rfl rfl) rfl rfl) ?_ (aF (show 2<n+6 by omega))) ?_ (aF (show 1<n+6 by omega))) ?_ (aF (show 0<n+6 by omega))
      ·show _=some (D.pt (σ (n+5)) 0);rw[s5];rfl
      ·show _=some (D.pt (σ n) 0);rw[Ek n (by omega)];rfl
      ·show _=some (D.pt (σ 2) 0);rw[Ek 2 (by omega)];rfl
      ·show _=some (D.pt (σ 1) 0);rw[Ek 1 (by omega)];rfl
      ·show _=some (D.pt (σ 0) 0);rw[Ek 0 (by omega)];rfl
     ·rcases cD h with⟨rfl,rfl⟩|⟨k5,h⟩
      ·refine⟨by omega,?_,hFi,by rw[Mu,mi,z6];rfl⟩
       rw[s5,Mu,iU,LM,s4]
       exact ab
      rcases cD h with⟨rfl,rfl⟩|⟨k4,h⟩
      ·refine⟨by omega,?_,eS _,z7 _⟩
       rw[s4,Jh]
       exact al (by omega) (al (by omega) ab)
      rcases cD h with⟨rfl,rfl⟩|⟨kn,h⟩
      ·refine⟨by omega,?_,eS _,z7 _⟩
       rw[Ek k (by omega),Jh]
       exact al (by omega) (al (by omega) (al (by omega) (al (by omega) ab)))
      ·have hk:=oa.lt h
       have hki:=(oa.var k ds h).2
       refine⟨by omega,?_,dc.2 fun d hd=>D.idsC_le (show n≤n+6 by omega) (dc.1 hki d hd),hnoV k ds h⟩
       rw[Ek k (by omega),map_low (n:=n) (fun j hj=>Ek j (by omega)) hki (hnoV k ds h)]
       exact al (by omega) (al (by omega) (al (by omega) (al (by omega) (al kn (al kn h)))))
   ·rw[hTm]
    obtain⟨F1,E9⟩:∃F1,F1=iY cV w i (Ih m nn A B i):=⟨_,rfl⟩
    have hcV:cV i=n+4:=by unfold cV;omega
    have hF1e:F1=bu B[i]! (n+4) w++[dI .i64 (1+nn+i:Nat)]:=by rw[E9];unfold iY;rw[hcV];rfl
    have hF1l:F1.length=38:=by rw[E9];exact sV _ _ _ _
    have hF1i:F1.all (D.idsC (n+6))=true:=by rw[hF1e,mi,ja (by omega)];rfl
    have L0:Pt F0 (0+0+0) (dC (ay.f (nOf 0))) (fun ys=>ys++([.ow (n+4) 0 36 w]++[dI .i64 (1+nn+i:Nat)])):=Pt.of [] ([.ow (n+4) 0 36 w]++[dI .i64 (1+nn+i:Nat)]) rfl (by rw[Mu];unfold bu;simp only[dU,mL]) fun y=>rfl
    have L1:Pt F1 (0+0+36) [.ow (n+4) 0 36 w] (fun ys=>dC (ay.f B[i]!)++ys++[dI .i64 (1+nn+i:Nat)]):=Pt.of (dC (ay.f B[i]!)) [dI .i64 (1+nn+i:Nat)] (i7 _) (by rw[hF1e];unfold bu;simp only[dU]) fun y=>rfl
    refine rs hx fun K hK=>?_
    refine l1 (Pt.idN _) ?_
    iterate 2 refine sa ?_
    refine t1 (b:=B[i]!) (F2:=F1) L0 (by rw[hF1e];unfold bu;simp only[dU]) ?_
    refine .nil (hK _ _ (AW.seq (rs hx fun K hK=>?_)))
    iterate 2 refine sa ?_
    refine c1 (sC (t:=1) rfl) ?_
    refine sa ?_
    refine .nil (hK _ _ ?_)
    rw[show List.replicate w (nOf 0)=By m nn A i 0 by rw[MD,hw]]
    refine AW.block (AW.loopW (fun k:Nat=>[(2,.pt 0 0),(4,.pt 1 0),(7,.pt 2 0),(8,dI .i64 w),(9,dB (ng i)),(48,.e (slE ay B)),(49,dI .i64 m),(50,dI .i64 i),(10,dI .i64 i),(11,.pt n 0),(12,.pt (n+5) 0),(69,dI .i64 nn),(70,dI .i64 k)]) (fun k=>⟨(n+4,dC ((cW ay).f (By m nn A i k)))::(n+5,F1)::(n,dC (ay.f B[i]!))::V,[],n+6⟩) (fun k=>k≤nn) (fun k=>nn - k) 0 ?_ (cX _) ?_)
    ·exact wk1 uI
    ·intro k hk
     have tG:=P3 m nn A i k
     refine rs hx fun K hK=>?_
     refine sa ?_
     refine .nil (hK _ _ (AW.seq (AW.condS rfl (fun hb=>?_) (fun hb=>?_))))
     ·have xR:k<nn:=by have:=da hb;omega
      have hmul:i*nn+nn≤m*nn:=by
       calc i*nn+nn=(i+1)*nn:=by rw[cz];omega
        _≤m*nn:=dZ _ zG
      have hmn:m*nn≤2000*2000:=uJ hm hn
      have hmi:i64.wrap ((i:Int)*(nn:Int))=((i*nn:Nat):Int):=by rw[←jZ,eu (by omega) (by omega)]
      have Pg:0≤((i*nn+k:Nat):Int)∧((i*nn+k:Nat):Int)<((A.length:Nat):Int):=by omega
      refine AW.skip (AW.seq (AW.block (rs hx fun K hK=>?_)))
      iterate 2 refine sa ?_
      refine .nil (hK _ _ (rqd [42] hx fun K hK=>?_))
      iterate 2 refine sa ?_
      refine c1 L1 ?_
      iterate 2 refine sa ?_
      rw[show i64.wrap ((1:Int)+(k:Int))=((1+k:Nat):Int) from qB (a:=1) (by omega)]
      iterate 2 refine sa ?_
      refine c1 (sC (t:=2) rfl) ?_
      iterate 3 refine sa ?_
      refine c1 (sC (t:=1) rfl) ?_
      refine sa ?_
      rw[hmi]
      iterate 2 refine sa ?_
      rw[qB (by omega)]
      refine s1 (gV Pg aH aw) ?_
      refine s1 (d:=dG ay A[i*nn+k]!) (mj (c:=ay) (l:=A) (n:=i*nn+k) (o:=0) aw (by omega) (fm _ _ rfl)) ?_
      refine cq (Hn _) ?_
      refine i1 (i:=1+k) (n:=w) (by omega) ?_
      refine t1 (Pt.el (By m nn A i k) (1+k) (by omega)) (Pt.el_set (By m nn A i k) (1+k) (by omega) _) ?_
      refine .nil (hK _ _ ?_)
      rw[ME xR]
      refine rq hx fun K hK=>?_
      iterate 2 refine sa ?_
      refine .nil (hK _ _ ?_)
      rw[cm (by omega)]
      exact⟨k+1,wk1 uI,xR,by omega⟩
     ·refine AW.exit ?_
      have xR:k=nn:=by have:=d8 hb;omega
      subst xR
      have hcrow:By m k A i k=(Ih m k A B i).c:=rfl
      rw[hcrow]
      obtain⟨U,hU⟩:∃U,U=(n+4,dC ((cW ay).f (Ih m k A B i).c))::(n+5,F1)::(n,dC (ay.f B[i]!))::V:=⟨_,rfl⟩
      have hU5:U.lookup (n+5)=some F1:=by rw[hU];exact al (by omega) ab
      have hU4:U.lookup (n+4)=some (dC ((cW ay).f (Ih m k A B i).c)):=by rw[hU];exact ab
      have hUn:U.lookup n=some (dC (ay.f B[i]!)):=by rw[hU];exact al (by omega) (al (by omega) ab)
      have hUV:∀j ds,V.lookup j=some ds→U.lookup j=some ds:=fun j ds h=>by
       have:=oa.lt h
       rw[hU];exact al (by omega) (al (by omega) (al (by omega) h))
      rw[←hU]
      have hli:=wt.len
      have hU2:=hUV _ _ CP
      refine rsd [] hx fun K hK=>?_
      iterate 4 refine sa ?_
      refine c1 gI ?_
      refine p1 (Pt.all (F:=F1)) hF1l ?_
      refine q1 (litR tok AN sT rfl hF1l) ?_
      obtain⟨W,hW1,hWx,hap⟩:=appRows (U:=(n+6,F1)::U) (lv:=[]) (N:=n+7) (R:=rV i) (ky:=n+6) (w:=w) (C:=cV) (l:=(mY m k A B most i).rows) (fun gt=>al (by unfold rV;split <;> omega) (hUV _ _ (BR.hR gt))) ab hF1l (by omega)
      rw[hli] at hap
      refine q1 (hap rfl rfl) ?_
      have hW2:W.lookup 2=some (ni (rV i) 6 w (mY m k A B most i)):=hWx 2 _ (fun _=>by unfold rV;split <;> omega) (by omega) (al (by omega) hU2)
      iterate 2 refine sa ?_
      refine v1 (ys:=[.gw (n+7) 38 (i+1)]) (gI (R:=rV i) (G:=6) (w:=w) (d:=mY m k A B most i)) rfl rfl rfl ?_
      refine .nil (hK _ _ ?_)
      have hrv:rV (i+1)=n+7:=by unfold rV;rw[if_neg (by omega)];omega
      have OE:(mY m k A B most (i+1)).rows=(mY m k A B most i).rows++[Ih m k A B i]:=by
       show (List.range (i+1)).map _=(List.range i).map _++_
       rw[uK,iU];rfl
      have hS1:=hSI (i+1) zG
      have ob:∀j ds,j≠2→(i≠0→j≠rV i)→V.lookup j=some ds→((2,[D.gw (n+7) 38 (i+1)]++(bu (mY m k A B most i).gk 6 w++[dI .i64 (mY m k A B most i).n,dI .i64 (mY m k A B most i).piv,dI .i64 (mY m k A B most i).most]))::W).lookup j=some ds:=fun j ds h2 hr h=>by
       have hj:=oa.lt h
       exact al h2 (hWx j ds (fun gt=>hr (fun e=>gt (by subst e;rfl))) (by omega) (al (by omega) (hUV j ds h)))
      have hD1:DAt ((2,[D.gw (n+7) 38 (i+1)]++(bu (mY m k A B most i).gk 6 w++[dI .i64 (mY m k A B most i).n,dI .i64 (mY m k A B most i).piv,dI .i64 (mY m k A B most i).most]))::W) 2 (rV (i+1)) 6 cV w (mY m k A B most (i+1)):=by
       refine⟨?_,fun _=>?_,?_,fun j r hr=>?_,hS1.lg,hS1.lC⟩
       ·rw[ab]
        have:fy (rV (i+1)) (mY m k A B most (i+1)).rows=.gw (n+7) 38 (i+1):=by
         rw[pJ (by rw[OE];simp),hrv,hS1.len]
        unfold ni
        rw[this,dU]
        rfl
       ·rw[hrv,OE,zY,hli,bJ]
        refine al (by omega) (hW1.trans ?_)
        rw[E9]
        unfold gl
        rw[show gl cV w (i+1) []=[] from rfl,sv]
       ·refine ob 6 _ (by decide) (fun h=>by unfold rV;rw[if_neg h];omega) ?_
        exact BR.hG
       ·have hj:j<i+1:=by have:=(fZ.1 hr).1;rw[hS1.len] at this;exact this
        rw[OE] at hr
        rcases hE j i with h|h
        ·rw[zk (by omega)] at hr
         exact ob (cV j) _ (by unfold cV;omega) (fun h=>by unfold cV rV;rw[if_neg h];omega) (BR.hC j r hr)
        ·obtain rfl:j=i:=by omega
         rw[ql (by omega),hli,Nat.sub_self] at hr
         injection hr with hr
         subst hr
         rw[hcV]
         exact al (by omega) (hWx (n+4) _ (fun _=>by unfold rV;split <;> omega) (by omega) (al (by omega) hU4))
      have hX11:((2,[D.gw (n+7) 38 (i+1)]++(bu (mY m k A B most i).gk 6 w++[dI .i64 (mY m k A B most i).n,dI .i64 (mY m k A B most i).piv,dI .i64 (mY m k A B most i).most]))::W).lookup n=some (dC (ay.f B[i]!)):=al (by omega) (hWx n _ (fun _=>by unfold rV;split <;> omega) (by omega) (al (by omega) hUn))
      have uX:=vo (vs:=base) (xn (i+1)) hS1 hD1 fun j ds h2 _ _ _ h=>ob j ds h2 (fun hi0=>by
       unfold rV
       rw[if_neg hi0]
       rcases Pj j ds h with rfl|rfl <;> omega) (tc j ds h)
      have CK:=hokI (i+1) _ hS1
      have hng1:ng (i+1)=(ng i||decide (cU B[i]! <0)):=by
       rw[hng]
       dsimp only
       rw[zi,List.any_append,wS (show i<B.length by omega)]
       simp
      generalize (2,[D.gw (n+7) 38 (i+1)]++(bu (mY m k A B most i).gk 6 w++[dI .i64 (mY m k A B most i).n,dI .i64 (mY m k A B most i).piv,dI .i64 (mY m k A B most i).most]))::W=X at hX11 uX ⊢
      have G6:n+8=7+8*(i+1):=by omega
      refine rq hx fun K hK=>?_
      iterate 2 refine sa ?_
      cases JL:ng i with
      |true=>
       rw[JL] at hng1
       iterate 3 refine gn rfl ?_
       refine s1 (d:=dB true) (ar rfl) ?_
       refine sa ?_
       refine .nil (hK _ _ (rq hx fun K hK=>?_))
       iterate 2 refine sa ?_
       refine .nil (hK _ _ ?_)
       rw[cm (by omega)]
       refine⟨i+1,?_,zG,by omega⟩
       rw[show ng (i+1)=true from hng1]
       rw[←G6] at CK ⊢
       exact wk1 uI (hok:=CK) (hv:=uX)
      |false=>
       rw[JL] at hng1
       refine l1g (Pt.idN B[i]!) rfl ?_
       refine cqg (xD _) rfl ?_
       refine ga rfl ?_
       refine s1 (d:=dB (decide (cU B[i]! <0))) (an rfl) ?_
       refine sa ?_
       refine .nil (hK _ _ (rq hx fun K hK=>?_))
       iterate 2 refine sa ?_
       refine .nil (hK _ _ ?_)
       rw[cm (by omega)]
       refine⟨i+1,?_,zG,by omega⟩
       rw[show ng (i+1)=decide (cU B[i]! <0) from hng1]
       rw[←G6] at CK ⊢
       exact wk1 uI (hok:=CK) (hv:=uX)
  ·refine AW.exit ?_
   have zG:i=m:=by have:=d8 hb;omega
   subst zG
   rw[Iq] at BR CP wt
   obtain⟨NN,hNN⟩:∃NN,NN=7+8*i:=⟨_,rfl⟩
   rw[←hNN] at oa ⊢
   have hngm:ng i=B.any fun b=>decide (cU b<0):=by
    rw[hng]
    dsimp only
    rw[iP (by omega)]
   rw[hngm]
   have yS:=Nv (C:=C) (most:=most) hA hB hgA hgB
   have BQ:rV i<NN:=by unfold rV;split <;> omega
   have hw0:0<w:=by omega
   refine AW.joinE (α:=Dic×List (Nat×List D)) (fun _=>[(2,.pt 0 0),(4,.pt 1 0),(7,.pt 2 0)]) (fun a=>⟨a.2,[],NN⟩) (fun a=>DAt a.2 2 (rV i) 6 cV w a.1∧dq a.1 w i∧a.1.n=(nn:Int)∧a.2.lookup 0=some (prC i nn A B C)∧a.2.lookup 1=some (dC l8)∧cQ ⟨a.2,[],NN⟩∧lZ i nn A B C most=wU nn a.1 C) ?_ ?_
   ·refine rs hx fun K hK=>?_
    refine sa ?_
    refine .nil (hK _ _ (AW.condS rfl (fun wP=>?_) (fun wP=>?_)))
    ·have D0:0<i:=by
      rcases rF i with e|e
      ·rw[e] at hB
       rw[List.length_eq_zero_iff.1 hB] at wP
       cases wP
      ·exact e
     have hbg:=h_begin (lv:=[]) (N:=NN) BQ BR (xn i) wt (by omega) (by omega) D0 hw0 (yS wP)
     have my:lZ i nn A B C most=(if (li (fK i nn A B most)).1≠0 then (⟨0,[],[],[]⟩,0,(li (fK i nn A B most)).1) else if cU (li (fK i nn A B most)).2.gk<0 then (⟨2,[],fF (li (fK i nn A B most)).2 nn,[]⟩,(li (fK i nn A B most)).2.piv,0) else wU nn (li (fK i nn A B most)).2 C):=by
      unfold lZ
      dsimp only
      rw[if_pos wP]
     have hSb:=wt.begin D0 hw0
     obtain⟨VB,hVB⟩:∃VB,VB=ov 2 (rV i) 6 cV w (li (fK i nn A B most)).2 V:=⟨_,rfl⟩
     have hokB:cQ ⟨VB,[],NN⟩:=by rw[hVB];exact AQ oa (by omega) (by omega) (by omega) fun j hj=>by rw[hSb.1.len] at hj;unfold cV;omega
     have hDb:DAt VB 2 (rV i) 6 cV w (li (fK i nn A B most)).2:=by rw[hVB];exact hSb.1.at (xn i)
     have hoB:∀k ds,k≤1→V.lookup k=some ds→VB.lookup k=some ds:=fun k ds hk h=>by
      rw[hVB]
      exact Cr hSb.1 (by omega) (fun e=>by unfold rV;rw[if_neg e];omega) (by omega) (fun j _=>by unfold cV;omega) h
     have Gw:=hoB 0 _ (by decide) hl0
     have PA:=hoB 1 _ (by decide) hl1
     rw[←hVB] at hbg
     have hBd:=hDb.hd
     clear hVB
     refine AW.seq (rs hx fun K hK=>?_)
     refine sa ?_
     refine q1 (sHC hbg rfl (.inl (by kernel_rfl))) ?_
     refine sa ?_
     refine .nil (hK _ _ (rs hx fun K hK=>?_))
     iterate 2 refine sa ?_
     refine .nil (hK _ _ (AW.condS rfl (fun hb=>?_) (fun hb=>?_)))
     ·rw[if_pos (by simpa using hb)] at my
      refine rs hx fun K hK=>?_
      refine s2 (eh tbI) (vM i) ?_
      refine sa ?_
      refine v1 (ys:=qh i ⟨0,[],[],[]⟩) (Pt.all (F:=dC l8)) rfl rfl rfl ?_
      iterate 2 refine sa ?_
      exact .nil (hK _ _ (AW.ret (rtS uI my ab (fun e=>by cases e) (by omega))))
     ·rw[if_neg (by simpa using hb)] at my
      refine AW.skip (rs hx fun K hK=>?_)
      iterate 4 refine sa ?_
      refine l1 mJ.pk ?_
      refine cq (xD _) ?_
      refine sa ?_
      refine .nil (hK _ _ (AW.condS rfl (fun hb=>?_) (fun hb=>?_)))
      ·rw[if_pos (da hb)] at my
       have hpl:(fF (li (fK i nn A B most)).2 nn).length=i:=by
        unfold fF
        rw[bw,fT,hSb.1.lg]
        omega
       have OL:=Mq (lv:=[]) (N:=NN) hDb hSb.2 (by omega) (by omega) (by rw[hpl];exact D0)
       obtain⟨pr,hpr2⟩:∃pr,pr=fF (li (fK i nn A B most)).2 nn:=⟨_,rfl⟩
       rw[←hpr2] at OL hpl my
       obtain⟨F2,KY⟩:∃F2,F2=qh i ⟨2,[],pr,[]⟩:=⟨_,rfl⟩
       have hle:D.le (.ag [dI .i64 2,dN,.gw NN 36 pr.length,dN]) (.ag F2):=by
        rw[KY,hNN]
        exact se ⟨.inl rfl,.inr (.inr ⟨rfl,36,by decide,rfl⟩),.inl rfl,.inr (.inr ⟨rfl,36,by decide,rfl⟩),trivial⟩
       have hF2i:F2.all (D.idsC (NN+1))=true:=by
        rw[KY]
        unfold qh
        rw[if_pos rfl,←hNN]
        simp only[bX,bt,bc,bp]
        exact⟨rfl,rfl,aF (show NN<NN+1 by omega),rfl⟩
       have EC:F2.length=4:=by rw[KY];rfl
       refine sj [(4,.pt 1 0),(5,dI .i64 (li (fK i nn A B most)).2.piv),(6,dI .i64 0)] ⟨(1,F2)::(NN,dC ((cW ay).f pr))::VB,[],NN+1⟩ ?_ ?_
       ·refine dw (DW.split 1 6 (by decide) ?_ ?_)
        ·refine DW.split 6 7 (by decide) ?_ ?_
         ·refine dwg [] [0,1,2,3,4,5,6,7,8,9] hx (by kernel_rfl) (by kernel_rfl) (by kernel_rfl) fun K hK=>?_
          dsimp only[ez,mZ,na,List.map]
          refine sa ?_
          refine q1 (sHC OL rfl (.inl (by kernel_rfl))) ?_
          refine s2 (eh tbI) hle ?_
          refine sa ?_
          refine sa ?_
          refine sa ?_
          refine c1 oK ?_
          refine v1 (ys:=F2) (Pt.all (F:=dC l8)) rfl EC rfl ?_
          refine sa ?_
          refine sa ?_
          refine .nil (hK _ _ ⟨rfl,wk1 uI⟩)
         ·refine dwg [] [0,1,2,7,3,4,5,6,8,9] hx (by kernel_rfl) (by kernel_rfl) (by kernel_rfl) fun K hK=>?_
          dsimp only[ez,mZ,na,List.map]
          refine sa ?_
          refine q1 (sHC OL rfl (.inl (by kernel_rfl))) ?_
          refine s2 (eh tbI) hle ?_
          refine v1 (ys:=F2) (Pt.all (F:=dC l8)) rfl EC rfl ?_
          refine sa ?_
          refine sa ?_
          refine sa ?_
          refine c1 oK ?_
          refine sa ?_
          refine sa ?_
          refine .nil (hK _ _ ⟨rfl,wk1 uI⟩)
        ·refine dwg [] [3,4,5,6,0,1,2,7,8,9] hx (by kernel_rfl) (by kernel_rfl) (by kernel_rfl) fun K hK=>?_
         dsimp only[ez,mZ,na,List.map]
         refine sa ?_
         refine sa ?_
         refine sa ?_
         refine c1 oK ?_
         refine sa ?_
         refine q1 (sHC OL rfl (.inl (by kernel_rfl))) ?_
         refine s2 (eh tbI) hle ?_
         refine v1 (ys:=F2) (Pt.all (F:=dC l8)) rfl EC rfl ?_
         refine sa ?_
         refine sa ?_
         refine .nil (hK _ _ ⟨rfl,wk1 uI⟩)
       ·exact AW.ret (rtS uI my (by rw[←KY];exact ab) (fun _=>⟨by rw[←hNN];exact al (by omega) ab,by omega⟩) (by omega))
      ·rw[if_neg (d8 hb)] at my
       exact AW.skip (⟨((li (fK i nn A B most)).2,VB),⟨hDb,hSb.1,hSb.2,Gw,PA,hokB,my⟩,wk1 uI⟩)
    ·refine AW.skip ?_
     have my:lZ i nn A B C most=wU nn (fK i nn A B most) C:=by
      unfold lZ
      dsimp only
      rw[if_neg (by rw[wP];simp)]
     exact⟨(fK i nn A B most,V),⟨BR,wt,rfl,hl0,hl1,oa,my⟩,wk1 uI⟩
   ·rintro⟨d2,X⟩ ⟨hD2,hS2,E4,DV,E3,hokX,my⟩
    dsimp only at hD2 hS2 E4 DV E3 hokX my ⊢
    have haim:=h_aim (lv:=[]) (N:=NN) (c:=C) BQ hD2 (xn i) hS2 (by omega) (by omega) hw0 (by omega)
    have hSA:=hS2.aim C
    have hfA:Dif i 2 (rV i) (NN+3) cV:=⟨(xn i).dR,by omega,by omega,fun j hj=>⟨((xn i).C1 j hj).1,((xn i).C1 j hj).2.1,by unfold cV;omega⟩,(xn i).C2⟩
    obtain⟨VA,hVA⟩:∃VA,VA=ov 2 (rV i) (NN+3) cV w (nB d2 C).2 X:=⟨_,rfl⟩
    have Es:cQ ⟨VA,[],NN+4⟩:=by rw[hVA];exact AQ (hokX.up (by omega)) (by omega) (by omega) (by omega) fun j hj=>by rw[hSA.1.len] at hj;unfold cV;omega
    have hDA:DAt VA 2 (rV i) (NN+3) cV w (nB d2 C).2:=by rw[hVA];exact hSA.1.at hfA
    have hoA:∀{W:List (Nat×List D)} {e:Dic},dq e w i→∀k ds,k≤1→W.lookup k=some ds→(ov 2 (rV i) (NN+3) cV w e W).lookup k=some ds:=fun {W e} hSe k ds hk h=>
     Cr hSe (by omega) (fun e=>by unfold rV;rw[if_neg e];omega) (by omega) (fun j _=>by unfold cV;omega) h
    have hA1:VA.lookup 1=some (dC l8):=by rw[hVA];exact hoA hSA.1 1 _ (by decide) E3
    rw[←hVA] at haim
    clear hVA
    refine AW.seq (rs hx fun K hK=>?_)
    iterate 2 refine sa ?_
    refine c1 (sC (t:=4) rfl) ?_
    refine q1 (sHC haim rfl (.inl (by kernel_rfl))) ?_
    refine sa ?_
    refine .nil (hK _ _ (rs hx fun K hK=>?_))
    iterate 2 refine sa ?_
    refine .nil (hK _ _ (AW.condS rfl (fun hb=>?_) (fun hb=>?_)))
    ·have my:=my.trans (endP_1 (by simpa using hb))
     refine rs hx fun K hK=>?_
     refine s2 (eh tbI) (vM i) ?_
     refine sa ?_
     refine v1 (ys:=qh i ⟨0,[],[],[]⟩) (Pt.all (F:=dC l8)) rfl rfl rfl ?_
     iterate 2 refine sa ?_
     exact .nil (hK _ _ (AW.ret (rtS uI my ab (fun e=>by cases e) (by omega))))
    have cv:¬(nB d2 C).1≠0:=by simpa using hb
    clear hb
    refine AW.skip ?_
    have himp:=E7 (lv:=[]) (N:=NN+4) (show rV i<NN+4 by omega) hDA hfA hSA.1 (by omega) (by omega)
    have CV:=hSA.1.improveP
    obtain⟨VI,hVI⟩:∃VI,VI=ov 2 (rV i) (NN+3) cV w (bn (nB d2 C).2).2 VA:=⟨_,rfl⟩
    have hokVI:cQ ⟨VI,[],NN+4⟩:=by rw[hVI];exact AQ Es (by omega) (by omega) (by omega) fun j hj=>by rw[CV.1.len] at hj;unfold cV;omega
    have hDI:DAt VI 2 (rV i) (NN+3) cV w (bn (nB d2 C).2).2:=by rw[hVI];exact CV.1.at hfA
    have hI1:VI.lookup 1=some (dC l8):=by rw[hVI];exact hoA CV.1 1 _ (by decide) hA1
    rw[←hVI] at himp
    clear hVI
    have ly:=cv
    have OD:lZ i nn A B C most=wU nn d2 C:=my
    have hnF:(bn (nB d2 C).2).2.n=(nn:Int):=by rw[CV.2.2.1,hSA.2,E4]
    have hgc:(bn (nB d2 C).2).2.gc.length=w:=CV.1.lg
    obtain⟨hs1,MY⟩:=CV.2.2.2
    obtain⟨q,hq⟩:∃q,q=bn (nB d2 C).2:=⟨_,rfl⟩
    have hE2:=fun h2=>OD.trans (endP_2 cv h2)
    have hE3:=fun h2 h3=>OD.trans (endP_3 cv h2 h3)
    have hE4:=fun h2 (s:Nat) h3=>OD.trans (endP_4 (s:=s) cv h2 h3)
    rw[←hq] at himp CV hDI hnF hgc hs1 MY hE2 hE3 hE4
    clear hq
    refine rs hx fun K hK=>?_
    refine sa ?_
    refine q1 (sHC himp rfl (.inl (by kernel_rfl))) ?_
    iterate 3 refine sa ?_
    refine a1 (F:=[.lit (.int .i64 0)]) tbI ?_
    refine v1 (F2:=[dI .i64 q.1.1]) (ys:=[dI .i64 q.1.1]) (Pt.all (F:=dC [.lit (.int .i64 0)])) rfl rfl rfl ?_
    refine sa ?_
    refine .nil (hK _ _ ?_)
    obtain⟨W,hW⟩:∃W,W=(NN+4,[dI .i64 q.1.1])::(NN+4,dC [.lit (.int .i64 0)])::VI:=⟨_,rfl⟩
    have hWx:∀k ds,VI.lookup k=some ds→W.lookup k=some ds:=fun k ds h=>by
     have:=hokVI.lt h
     rw[hW];exact al (by omega) (al (by omega) h)
    have hWs:W.lookup (NN+4)=some [dI .i64 q.1.1]:=by rw[hW];exact ab
    have hokW:cQ ⟨W,[],NN+5⟩:=by
     rw[hW]
     exact ((hokVI.up (by omega)).consM (by omega) (eS _)).consM (by omega) rfl
    have hDW:=hDI.up hWx
    have hW1:=hWx 1 _ hI1
    have hWd:=hDW.hd
    rw[←hW]
    clear hW
    refine AW.seq (rs hx fun K hK=>?_)
    iterate 2 refine sa ?_
    refine .nil (hK _ _ (AW.condS rfl (fun hb=>?_) (fun hb=>?_)))
    ·have my:=hE2 (by simpa using hb)
     refine rs hx fun K hK=>?_
     refine s2 (eh tbI) (vM i) ?_
     refine sa ?_
     refine v1 (ys:=qh i ⟨0,[],[],[]⟩) (Pt.all (F:=dC l8)) rfl rfl rfl ?_
     iterate 2 refine sa ?_
     exact .nil (hK _ _ (AW.ret (rtS uI my ab (fun e=>by cases e) (by omega))))
    have a8:¬q.1.2≠0:=by simpa using hb
    clear hb
    refine AW.skip ?_
    have uU:=HC.conv (ds:=[.pt 2 0,.e (.lit (.func (.func 48) #[] #[])),.e (.lit (.func (.func 49) #[] #[]))]) (ds':=[.pt 2 0,.fn 48 [],.fn 49 []]) rfl (fun g w' j a b v ha hb hr=>by
      match j with
      |0=>injection ha with ha;injection hb with hb;subst ha hb;exact hr
      |1=>injection ha with ha;injection hb with hb;subst ha hb;exact Ky hr
      |2=>injection ha with ha;injection hb with hb;subst ha hb;exact Ky hr
      |j+3=>cases ha)
     (Ib (lv:=[]) (N:=NN+5) (fo:=48) (ft:=49) (ko:=[]) (kt:=[]) (of:=Row.k) (ot:=fun _=>0) hDW CV.1 (by omega) hnF (by omega) (fun k hk=>absurd hk qj) (fun k hk=>absurd hk qj) (fun _=>by omega) (fun V2 DU M j _ _=>Pv) (fun V2 DU M v _=>Pu v))
    refine rs hx fun K hK=>?_
    refine sa ?_
    refine q1 (sHC uU rfl (.inl (by kernel_rfl))) ?_
    refine sa ?_
    refine .nil (hK _ _ (AW.seq (rs hx fun K hK=>?_)))
    refine c1 (Pt.all (F:=[dI .i64 q.1.1])) ?_
    refine sa ?_
    refine .nil (hK _ _ (AW.condS rfl (fun hb=>?_) (fun hb=>?_)))
    ·have my:=hE3 a8 (da hb)
     have OL:=Po (lv:=[]) (N:=NN+5) (nn:=nn) hDW hnF (by omega) (by omega)
     obtain⟨F2,KY⟩:∃F2,F2=qh i ⟨1,mP q.2.rows nn Row.k fun _=>nOf 0,fF q.2 nn,[]⟩:=⟨_,rfl⟩
     have hle:D.le (.ag [dI .i64 1,.e (slE ay (mP q.2.rows nn Row.k fun _=>nOf 0)),.e (slE ay (fF q.2 nn)),dN]) (.ag F2):=by
      rw[KY]
      exact se ⟨.inl rfl,.inl rfl,.inl rfl,.inr (.inr ⟨rfl,36,by decide,rfl⟩),trivial⟩
     have hF2i:F2.all (D.idsC (NN+5))=true:=by rw[KY];rfl
     have EC:F2.length=4:=by rw[KY];rfl
     refine sj [(4,.pt 1 0),(5,dI .i64 q.2.piv),(6,dI .i64 0)] ⟨(1,F2)::W,[],NN+5⟩ ?_ ?_
     ·refine dw (DW.split 2 7 (by decide) ?_ ?_)
      ·refine DW.split 7 8 (by decide) ?_ ?_
       ·refine dwg [] [0,1,2,3,4,5,6,7,8,9,10] hx (by kernel_rfl) (by kernel_rfl) (by kernel_rfl) fun K hK=>?_
        dsimp only[ez,mZ,na,List.map]
        refine sa ?_
        refine sa ?_
        refine q1 (sHC OL rfl (.inl (by kernel_rfl))) ?_
        refine s2 (eh tbI) hle ?_
        refine sa ?_
        refine sa ?_
        refine sa ?_
        refine c1 oK ?_
        refine v1 (ys:=F2) (Pt.all (F:=dC l8)) rfl EC rfl ?_
        refine sa ?_
        refine sa ?_
        refine .nil (hK _ _ ⟨rfl,wk1 uI⟩)
       ·refine dwg [] [0,1,2,3,8,4,5,6,7,9,10] hx (by kernel_rfl) (by kernel_rfl) (by kernel_rfl) fun K hK=>?_
        dsimp only[ez,mZ,na,List.map]
        refine sa ?_
        refine sa ?_
        refine q1 (sHC OL rfl (.inl (by kernel_rfl))) ?_
        refine s2 (eh tbI) hle ?_
        refine v1 (ys:=F2) (Pt.all (F:=dC l8)) rfl EC rfl ?_
        refine sa ?_
        refine sa ?_
        refine sa ?_
        refine c1 oK ?_
        refine sa ?_
        refine sa ?_
        refine .nil (hK _ _ ⟨rfl,wk1 uI⟩)
      ·refine dwg [] [4,5,6,7,0,1,2,3,8,9,10] hx (by kernel_rfl) (by kernel_rfl) (by kernel_rfl) fun K hK=>?_
       dsimp only[ez,mZ,na,List.map]
       refine sa ?_
       refine sa ?_
       refine sa ?_
       refine c1 oK ?_
       refine sa ?_
       refine sa ?_
       refine q1 (sHC OL rfl (.inl (by kernel_rfl))) ?_
       refine s2 (eh tbI) hle ?_
       refine v1 (ys:=F2) (Pt.all (F:=dC l8)) rfl EC rfl ?_
       refine sa ?_
       refine sa ?_
       refine .nil (hK _ _ ⟨rfl,wk1 uI⟩)
     ·exact AW.ret (rtS uI my (by rw[←KY];exact ab) (fun e=>by cases e) (by omega))
    have uG:¬q.1.1<0:=d8 hb
    clear hb
    obtain⟨s,hs⟩:∃s:Nat,q.1.1=(s:Int):=⟨q.1.1.toNat,by omega⟩
    have my:=hE4 a8 s hs
    rw[hs] at hWs
    have hsw:s<w:=by omega
    refine AW.skip ?_
    have hval2:=Ib (lv:=[]) (N:=NN+5) (fo:=50) (ft:=51) (ko:=[NN+4]) (kt:=[NN+4]) (of:=fun r=>r.c[s]!) (ot:=fun v=>if (v:Int)=(s:Int) then 1 else 0) hDW CV.1 (by omega) hnF (by omega) (fun k hk=>by rw[qi.1 hk];omega) (fun k hk=>by rw[qi.1 hk];omega) (fun v=>by split <;> omega)
     (fun V2 DU M j EB hj=>Ps (EB _ _ hWs) (EB _ _ (hDW.hC j _ (wS (by rw[CV.1.len];exact hj)))) (hDW.lC j _ (wS (by rw[CV.1.len];exact hj))) hsw) (fun V2 DU M v EB=>Pr v (EB _ _ hWs))
    refine rs hx fun K hK=>?_
    refine sa ?_
    refine s1 DC ?_
    refine s1 DC ?_
    refine q1 (sHC hval2 rfl (.inl (by kernel_rfl))) ?_
    refine sa ?_
    refine .nil (hK _ _ ?_)
    obtain⟨F2,KY⟩:∃F2,F2=qh i ⟨3,mP q.2.rows nn Row.k fun _=>nOf 0,[],mP q.2.rows nn (fun r=>r.c[s]!) fun v=>nOf (if (v:Int)=(s:Int) then 1 else 0)⟩:=⟨_,rfl⟩
    have hle:D.le (.ag [dI .i64 3,.e (slE ay (mP q.2.rows nn Row.k fun _=>nOf 0)),dN,.e (slE ay (mP q.2.rows nn (fun r=>r.c[s]!) fun v=>nOf (if (v:Int)=(s:Int) then 1 else 0)))]) (.ag F2):=by
     rw[KY]
     exact se ⟨.inl rfl,.inl rfl,.inr (.inr ⟨rfl,36,by decide,rfl⟩),.inl rfl,trivial⟩
    have hF2i:F2.all (D.idsC (NN+5))=true:=by rw[KY];rfl
    have EC:F2.length=4:=by rw[KY];rfl
    refine sj [(4,.pt 1 0),(5,dI .i64 q.2.piv),(6,dI .i64 0)] ⟨(1,F2)::W,[],NN+5⟩ ?_ ?_
    ·refine dw (DW.split 6 7 (by decide) ?_ ?_)
     ·refine dwg [] [0,1,2,3,4,5,6,7,8,9] hx (by kernel_rfl) (by kernel_rfl) (by kernel_rfl) fun K hK=>?_
      dsimp only[ez,mZ,na,List.map]
      refine sa ?_
      refine sa ?_
      refine s2 (eh tbI) hle ?_
      refine sa ?_
      refine sa ?_
      refine sa ?_
      refine c1 oK ?_
      refine v1 (ys:=F2) (Pt.all (F:=dC l8)) rfl EC rfl ?_
      refine sa ?_
      refine sa ?_
      refine .nil (hK _ _ ⟨rfl,wk1 uI⟩)
     ·refine dwg [] [0,1,2,7,3,4,5,6,8,9] hx (by kernel_rfl) (by kernel_rfl) (by kernel_rfl) fun K hK=>?_
      dsimp only[ez,mZ,na,List.map]
      refine sa ?_
      refine sa ?_
      refine s2 (eh tbI) hle ?_
      refine v1 (ys:=F2) (Pt.all (F:=dC l8)) rfl EC rfl ?_
      refine sa ?_
      refine sa ?_
      refine sa ?_
      refine c1 oK ?_
      refine sa ?_
      refine sa ?_
      refine .nil (hK _ _ ⟨rfl,wk1 uI⟩)
    ·exact AW.ret (rtS uI my (by rw[←KY];exact ab) (fun e=>by cases e) (by omega))
end
end
section
theorem AR.tu {hp:Hp}{ds es:List D}(h:ARs hp ds es):AR hp (.tu ds) (.tu es):=by
 intro B g w v hr hd
 obtain⟨h1,h2⟩:=h.get
 cases hd with
 |tu _ cs hl JE=>
  refine aR.tu es cs (by omega) fun j e u hj hu=>?_
  obtain⟨d,h3,h4⟩:=h2 j e hj
  exact h4 B g w u hr (JE j d u h3 hu)
theorem HC.toP {P:Program}{f:FuncId}{ds rs:List D}{d:D}{hp':Hp}(hc:HC P f ds ⟨[],[],0⟩ d hp')(ha:AR hp' d (.tu rs)):ax P f ds (.tu rs):=by
 refine⟨hc.1,fun w F vs hF hsz dx=>?_⟩
 have hr:HR w.heap.size ⟨[],[],0⟩ ⟨fun _=>0,fun _=>default,F⟩ w:=
  ⟨fun k ds h=>by simp at h,fun k k' a b h=>by simp at h,fun id n e h=>by simp at h,fun id Ai a b c h=>by simp at h,aB _,hF⟩
 refine (hc.2 w.heap.size _ w vs hr hsz dx).mono ?_
 rintro e w' ⟨v,g',rfl,pB,_,hd,hb,hfx⟩
 refine⟨v,rfl,(ha _ g' w' v pB hd).less fun p hp=>⟨hfx p (hF p hp) hp,fun k ds hk he=>?_⟩,hb⟩
 have h1:=(pB.var k ds hk).2.1
 have h2:=hF p hp
 omega
def mkNu(x:ao)(h:okR x):Nu:=⟨x,h⟩
open Classical in
def m9(x:ao):Nu:=if h:okR x then mkNu x h else default
theorem nv_nuOf {x:ao}(h:okR x):nv (m9 x)=x:=by unfold m9;rw[dif_pos h];rfl
theorem nuOf_nv(x:Nu):m9 (nv x)=x:=by unfold m9;rw[dif_pos (show okR (nv x) from x.2)];rfl
def okL(l:List ao):Prop:=∀x∈l,okR x
theorem sY {l:List ao}(h:okL l):(l.map m9).map nv=l:=by
 rw[pY]
 exact (sw fun x hx=>nv_nuOf (h x hx)).trans (List.map_id _)
theorem Cu(l:List Nu):okL (l.map nv):=fun x hx=>by
 obtain⟨a,_,rfl⟩:=tj.1 hx
 exact a.2
theorem qb(l:List Nu):(l.map nv).map m9=l:=by
 rw[pY]
 exact (sw fun x _=>nuOf_nv x).trans (List.map_id _)
structure VP(p:bR)(m nn:Nat):Prop where
 hr:p.vA.vR=m
 hc:p.vA.vC=nn
 hm:m≤2000
 hn:nn≤2000
 oA:okL p.vA.vV
 oB:okL p.vB
 oC:okL p.vC
 lA:p.vA.vV.length=m*nn
 lB:p.vB.length=m
 lC:p.vC.length=nn
 gA:∀i,i<(p.vA.vV.map m9).length→aW (p.vA.vV.map m9)[i]! =true
 gB:∀i,i<(p.vB.map m9).length→aW (p.vB.map m9)[i]! =true
 gC:∀i,i<(p.vC.map m9).length→aW (p.vC.map m9)[i]! =true
def ud(r:Ans×Int×Int):bP×Int×Int:=(⟨r.1.kind,r.1.x.map nv,r.1.y.map nv,r.1.ray.map nv⟩,r.2.1,r.2.2)
open Classical in
def lH(nV:bR)(kU:Int):Option (bP×Int×Int):=
 bnd (g6 nV) fun v=>if v=true∧0≤kU then
  if VP nV nV.vA.vR.toNat nV.vA.vC.toNat∧kU≤9223372036854775807 then some (ud (lZ nV.vA.vR.toNat nV.vA.vC.toNat (nV.vA.vV.map m9) (nV.vB.map m9) (nV.vC.map m9) kU)) else none
 else some (ud (⟨0,[],[],[]⟩,0,1))
theorem VP.cells {p:bR}{m nn:Nat}(h:VP p m nn):dG b9 p=.ag (prC m nn (p.vA.vV.map m9) (p.vB.map m9) (p.vC.map m9)):=by
 unfold prC
 rw[kT,kT,kT,sY h.oA,sY h.oB,sY h.oC,←h.hr,←h.hc]
 rfl
theorem AR.dn {hp:Hp}{e:E}(h:(D.e e).pure=true):AR hp (.e e) (.e e):=AR.data (d:=.e e) h
theorem AR.same {hp:Hp}{d:D}(h:d.pure=true):AR hp d d:=by
 have h2:=AR.data (hp:=hp) (d:=d) (by rw[BK h];exact h)
 rwa[BK h] at h2
theorem Qp(m:Nat)(r:Ans×Int×Int):AR (Ej m r) (Jb m r) (.tu [dG dJ (ud r).1,dI .i64 (ud r).2.1,dI .i64 (ud r).2.2]):=by
 have hA:AR (Ej m r) (.ag (qh m r.1)) (dG dJ (ud r).1):=by
  have e:dG dJ (ud r).1=.ag [dI .i64 r.1.kind,.e (slE ay r.1.x),.e (slE ay r.1.y),.e (slE ay r.1.ray)]:=by
   rw[kT,kT,kT];rfl
  rw[e]
  refine AR.ag ⟨AR.dn rfl,AR.dn rfl,?_,AR.dn rfl,trivial⟩
  by_cases hk:r.1.kind=2
  ·rw[if_pos hk]
   refine AR.gw (F:=(cW ay).f r.1.y) ?_ (by decide) ?_
   ·unfold Ej
    rw[if_pos hk]
    exact al (by omega) ab
   ·exact iB ay.f ay.h r.1.y
  ·rw[if_neg hk]
   exact AR.dn rfl
 exact AR.tu ⟨hA,AR.dn rfl,AR.dn rfl,trivial⟩
theorem Pq {cs:List D}{v:Bool}{most:Int}(hlen:cs.length=5)(hpu:(D.ag cs).pure=true)(hv:ax Tryz.prog 15 [.ag cs] (dB v))(hbad:¬(v=true∧0≤most)):
  HC Tryz.prog 12 [.ag cs,dI .i64 most] ⟨[],[],0⟩ (Jb 0 (⟨0,[],[],[]⟩,0,1)) (Ej 0 (⟨0,[],[],[]⟩,0,1)):=by
 refine HC.of (rs:=[.cell 4 29,.tmp 5,.tmp 6]) tok Tryz.func12 rfl rfl (dK rfl) rfl (fun cx hx uI hok=>?_)
 simp only[fS,Nat.reduceAdd,bJ]
 refine rs hx fun K hK=>?_
 refine s1 (fB (cs:=cs)) ?_
 refine a1 (F:=l8) tbI ?_
 iterate 2 refine sa ?_
 refine .nil (hK _ _ (AW.seq (rs hx fun K hK=>?_)))
 refine p1 (ht:=m5) (Pt.all (F:=cs)) hlen ?_
 refine q1 (sHC (HC.frz (ds:=[.ag cs]) hv ⟨AR.same hpu,trivial⟩ rfl) rfl (.inr (Fr.refl _))) ?_
 iterate 2 refine sa ?_
 cases v with
 |false=>
  iterate 2 refine gn rfl ?_
  refine s1 (d:=dB true) (ar rfl) ?_
  refine .nil (hK _ _ (AW.condT rfl rfl (rs hx fun K hK=>?_)))
  refine s2 (eh tbI) (vM 0) ?_
  refine v1 (ys:=qh 0 ⟨0,[],[],[]⟩) (Pt.all (F:=dC l8)) rfl rfl rfl ?_
  iterate 2 refine sa ?_
  exact .nil (hK _ _ (AW.ret (rtS uI rfl ab (fun e=>by cases e) (by omega))))
 |true=>
  iterate 2 refine ga rfl ?_
  refine s1 (d:=dB (decide (most<0))) (an rfl) ?_
  refine .nil (hK _ _ (AW.condT rfl (aF (by simp only[true_and] at hbad;omega)) (rs hx fun K hK=>?_)))
  refine s2 (eh tbI) (vM 0) ?_
  refine v1 (ys:=qh 0 ⟨0,[],[],[]⟩) (Pt.all (F:=dC l8)) rfl rfl rfl ?_
  iterate 2 refine sa ?_
  exact .nil (hK _ _ (AW.ret (rtS uI rfl ab (fun e=>by cases e) (by omega))))
theorem Bn {nV:bR}{kU:Int}{r:bP×Int×Int}(h:lH nV kU=some r):ax Tryz.prog 12 [dG b9 nV,dI .i64 kU] (.tu [dG dJ r.1,dI .i64 r.2.1,dI .i64 r.2.2]):=by
 unfold lH at h
 obtain⟨v,hv,h⟩:=ae h
 have hv:=p7 hv
 by_cases hg:v=true∧0≤kU
 ·rw[if_pos hg] at h
  by_cases hq:VP nV nV.vA.vR.toNat nV.vA.vC.toNat∧kU≤9223372036854775807
  ·rw[if_pos hq] at h
   have h:=bW h
   subst h
   obtain⟨hq,O1⟩:=hq
   rw[hg.1] at hv
   rw[hq.cells] at hv ⊢
   have h2:=KX (most:=kU) hv hq.hm hq.hn (by rw[bw];exact hq.lA) (by rw[bw];exact hq.lB) (by rw[bw];exact hq.lC) hq.gA hq.gB hq.gC hg.2 O1
   exact HC.toP h2 (Qp _ _)
  ·rw[if_neg hq] at h;cases h
 ·rw[if_neg hg] at h
  have h:=bW h
  subst h
  have h2:=Pq (cs:=dC (b9.f nV)) ((eT _).trans (b9.h nV)) (ii b9 nV) hv hg
  exact HC.toP h2 (Qp _ _)
end
theorem oW:El Tryz.prog 22 43 (.agg #[.bool false,.bool false,ah,ah,ah,ah,ah,ah,ah,ah,ah,ah,ah,ah,ah,ah,ah,ah,.bool false,.bool false,ah,ah,ah,ah,ah,ah,ah,ah,ah,ah,ah,ah,ah,ah,ah,ah]) 36 136:=⟨Tryz.underlying22,info_parts (by kernel_rfl),rfl,by decide⟩
set_option maxHeartbeats 1000000 in
theorem oU(n:Nat)(us:List Value)(v:Value)(w:World)(hl:Sl w v 36 n us)(h1:∀u∈us,u.oneCell'=true)(hn:n≤1000000):
  Calls Tryz.prog 138 #[v] w fun e w'=>∃q,e=.returned q∧w'.ownsRow w.heap.size 43 36 q n us∧Below w.heap.size w w':=by
 obtain⟨A,c,rfl,p6,o0,hr⟩:=id hl
 cases A with
 |none=>
  obtain rfl:n=0:=by
   rcases rF n with h|h
   ·exact h
   ·obtain⟨_,h,_⟩:=hr.2 h;cases h
  obtain rfl:us=[]:=rX (by simpa using hr.1)
  have he:(binOp .eql 22 (.slice none 0 c) (.slice none 0 0)).run Tryz.prog w=.ok (.bool true) w:=by kernel_rfl
  go_enter Tryz.func138,Tryz.ntmps138
  go_wp2_with fail
  go_ret
  exact⟨_,rfl,⟨rfl,.inl ⟨rfl,rfl⟩⟩,Below.refl _ _⟩
 |some ad=>
  have he:(binOp .eql 22 (.slice (some ad) n c) (.slice none 0 0)).run Tryz.prog w=.ok (.bool false) w:=by kernel_rfl
  go_enter Tryz.func138,Tryz.ntmps138
  have hown0:=own_mtG w 43 w.heap.size 36 (aB _)
  have Gw:=(Below.refl w.heap.size w).alloc (aB _) (.cells #[] 43)
  have Gp:=hl.below Gw
  have HL:=Lib.hid Gp
  have H1:=Lib.hid h1
  clear hl hr Gp h1
  go_wp2_with (at_builtin;refine yn _ rfl _ _ _ rfl oW w.heap.size _ _ _ rfl hown0 _ _ _ rfl HL.out H1.out (by omega) (by omega) (by simp) w w.heap.size Gw (aB _) ?_)
  intro v' w' l7 hb
  go_wp2_with fail
  go_ret
  refine⟨_,rfl,?_,hb⟩
  simpa using l7
theorem oV(n:Nat)(xs:List E)(hn:n≤1000000):ax Tryz.prog 138 [.e (.sl 36 n xs)] (.own 43 36 n xs):=
 Qa (by decide) ⟨_,Tryz.func138,rfl,rfl⟩ (fun us v w h1 h2=>oU n us v w h1 h2 hn)
def f9(l:List ao):Option (List ao):=gd (l.length≤1000000) (some l)
theorem o8 {l r:List ao}(h:f9 l=some r):ax Tryz.prog 138 [dL ai l] (.own 43 ai.sz r.length (r.flatMap ai.f)):=by
 obtain⟨hn,h⟩:=aD h
 obtain rfl:=bW h
 exact oV _ _ hn
def fh(eZ:List ao):(List ao)×Int→Option (((List ao)×Int)⊕((List ao))):=fun (aZ,bm)=>cnd (decide (bm<((eZ).length:Int))) (gd (0≤bm∧bm<((eZ).length:Int)) (bnd (mI ((eZ)[(bm).toNat]!)) fun x6=>gd ((aZ++[x6]).length*136≤140737488355328) (some (.inl (aZ++[x6],i64.wrap (bm+(1:Int))))))) (some (.inr aZ))
def mf(eZ:List ao):Option (List ao):=bnd (f9 eZ) fun x1=>bnd (bL (fh eZ) (x1,(0:Int))) fun bj=>some bj
theorem yo {eZ:List ao}{r:List ao}(h:mf eZ=some r):ax Tryz.prog 74 [dL ai eZ] (.own 43 ai.sz r.length (r.flatMap ai.f)):=by
 refine bC (rs:=[.tmp 2]) (fun cx hx h0=>?_) Tryz.func74
 unfold mf at h
 refine rs hx fun K hK=>?_
 refine s1 (d:=dO 0 ai ([]:List ao)) (fW aH aw) ?_
 refine .nil (hK _ _ (rs hx fun K hK=>?_))
 refine sa ?_
 obtain⟨x1,wq,h⟩:=ae h
 refine s1 (io rfl (o8 wq) rfl (lA (ap _) lAn)) ?_
 refine sa ?_
 refine .nil (hK _ _ (AW.seq (ra hx ?_)))
 refine AW.block ?_
 obtain⟨bj,hy,h⟩:=ae h
 refine lp (S:=(List ao)×Int) (X:=(List ao)) (fun (aZ,bm)=>[(3,dO 0 ai aZ),(8,dL ai eZ),(9,dI .i64 ((eZ).length:Int)),(10,dI .i64 bm)]) (fun (aZ,bm)=>⟨[],[(0,(aZ).length,36,43)],1⟩) (PE cx (.exit 0) (fun bj=>[(3,dO 0 ai bj)]) fun bj=>⟨[],[(0,(bj).length,36,43)],1⟩) hy ?_ ?_ ?_
 exact wk h0 [1] (wR rfl (wR rfl (wR rfl (wR rfl wTn)))) wVn (wL rfl rfl wLn)
 clear hy h
 rintro⟨aZ,bm⟩ y h
 dsimp only[fh] at h
 refine ra hx ?_
 refine AW.seq (cdh h rfl (fun a8 h=>?_) (fun a8 h=>?_))
 refine AW.skip (AW.seq (AW.block (rs hx fun K hK=>?_)))
 obtain⟨D5,h⟩:=aD h
 have Mj:(bm).toNat<(eZ).length:=by omega
 refine s1 (gV D5 aH aw) ?_
 refine s1 (d:=dG ai ((eZ)[(bm).toNat]!)) (mj (c:=ai) (l:=eZ) (n:=(bm).toNat) (o:=0) aw Mj (fm _ _ rfl)) ?_
 refine s1 (be (F:=ai.f cG) aw) ?_
 refine s0 (aE (b':=(eZ)[(bm).toNat]!) (ak.id _ _) aw) ?_
 refine .nil (hK _ _ (rq hx fun K hK=>?_))
 refine sa ?_
 refine s1 (d:=dG ai ((eZ)[(bm).toNat]!)) (aq (ak.id _ _) aw) ?_
 refine scb h vd fun x6 h=>?_
 refine s1 (kJ ([x6]:List ao) ai aH aw) ?_
 obtain⟨Gs,h⟩:=aD h
 refine s1 (d:=dO 0 ai (aZ++[x6])) (qn aH aw Gs) ?_
 refine sa ?_
 refine .nil (hK _ _ (rb hx ?_))
 cases h
 exact PS.l (pe0 h0 [0])
 refine AW.exit ?_
 try dsimp only
 try simp only[aS,reduceIte,Nat.reduceEqDiff,reduceCtorEq]
 cases h
 exact PS.r ⟨by nofun,PE.i (wk h0 [0] (wR rfl wTn) wVn (wL rfl rfl wLn))⟩
 rintro ex tm' hp' ⟨rfl,hw⟩
 try dsimp only
 try simp only[aS,reduceIte,Nat.reduceEqDiff,reduceCtorEq]
 refine AW.weak hw (ra hx ?_)
 refine AW.ret ?_
 cases h
 exact oT.own rfl rfl
def D.ren2(ρ:Nat→Nat):D→D
 | .tu ds=>.tu (ds.map (D.ren ρ))
 |d=>d.ren ρ
def D.okF2:D→Bool
 | .tu ds=>ds.all D.okF
 |d=>d.okF
theorem fwdF2 {hp dW:Hp}{g g2:Gh}{w:World}{ρ:Nat→Nat}{d:D}{v:Value}(h:aR hp g w d v)(hn:d.okF2=true)(rU:∀i,i<hp.next→ρ i<dW.next)(hμ:∀i,i<hp.next→g2.μ (ρ i)=g.μ i)(hτ:∀i,i<hp.next→g2.τ (ρ i)=g.τ i)(hF:g2.F=g.F)
  (hl:∀id,id<hp.next→∀y,dW.live.lookup (ρ id)=some y→hp.live.lookup id=some y):aR dW g2 w (d.ren2 ρ) v:=by
 cases d with
 |tu ds=>cases h with
  |tu _ cs hlen hr=>
   refine .tu _ cs (by simpa using hlen) fun j d u h2 h3=>?_
   rw[ep] at h2
   obtain⟨d0,h4,rfl⟩:=xt.1 h2
   exact CW (hr j d0 u h4 h3) (dc.1 hn d0 (er h4)) rU hμ hτ hF hl
 |ag ds=>exact CW h hn rU hμ hτ hF hl
 |e y=>exact CW h hn rU hμ hτ hF hl
 |own id z n xs=>exact CW h hn rU hμ hτ hF hl
 |fu z n xs=>exact CW h hn rU hμ hτ hF hl
 |fp xs off=>exact CW h hn rU hμ hτ hF hl
 |pt k off=>exact CW h hn rU hμ hτ hF hl
 |ow k off z n=>exact CW h hn rU hμ hτ hF hl
 |gw k z n=>exact CW h hn rU hμ hτ hF hl
 |fn f ks=>exact CW h hn rU hμ hτ hF hl
 |opt b d=>cases hn
 |top=>exact .top v
theorem HC.frame2 {P:Program}{f:FuncId}{K5 ds:List D}{r:D}{DS n8 vs:List (Nat×List D)}{DT rS lv:List (Nat×Nat×Nat×TypeId)}{m n' N:Nat}(h:HC P f K5 ⟨DS,DT,m⟩ r ⟨n8,rS,n'⟩)
  (os:List Nat) (hos:os.length=m) (Gn:os.Nodup) (b8:∀o∈os,o<N) (ha:frA (fun i=>os.getD i 0) m ds K5)
  (hv:∀k ds,DS.lookup k=some ds→k<m∧(∃sm,vs.lookup (os.getD k 0)=some sm∧xz sm (ds.map (D.renC fun i=>os.getD i 0)))∧ds.all (D.idsC m)=true∧ds.all D.noO=true)
  (hl:∀id y,DT.lookup id=some y→id<m∧lv.lookup (os.getD id 0)=some y)
  (hr:r.okF2=true) (hvo:∀p∈n8,p.2.all D.okC=true):
  HC P f ds ⟨vs,lv,N⟩ (r.ren2 (rn os m N)) ⟨frV (rn os m N) os n8 vs,frL (rn os m N) os rS lv,N+(n' - m)⟩:=by
 subst hos
 refine⟨h.1,fun B g w us hR hsz dx=>?_⟩
 have kb:∀i,i<os.length→os.getD i 0∈os:=fun i hi=>by
  rw[ue,de hi];exact rI hi
 have xS:∀i j,i<os.length→j<os.length→os.getD i 0=os.getD j 0→i=j:=fun i j hi hj he=>by
  rw[ue,ue,de hi,de hj] at he
  have hp:=List.pairwise_iff_getElem.1 Gn
  simp only[vQ] at he
  rcases Nat.lt_trichotomy i j with h3|h3|h3
  ·exact absurd he (hp _ _ hi hj h3)
  ·exact h3
  ·exact absurd he.symm (hp _ _ hj hi h3)
 have hS:=HR.ren (hpS:=⟨DS,DT,os.length⟩) hR (fun i=>os.getD i 0) (fun i j hi hj he=>xS i j hi hj he) hv hl
 have d9:∀id y,(⟨DS,DT,os.length⟩:Hp).live.lookup id=some y→(⟨vs,lv,N⟩:Hp).live.lookup (os.getD id 0)=some y:=fun id y h=>(hl _ _ h).2
 refine (h.2 B _ w us hS (by rw[hsz,GB ha]) (fun j e u he hu=>?_)).mono ?_
 ·obtain⟨d,h1,h2,h3,h4⟩:=GC ha he
  exact BI ((dx j d u h1 hu).le h2) h3 h4 rfl (fun _=>rfl) (fun _=>rfl) rfl d9
 rintro en w' ⟨v,g',rfl,If,hM,pQ,hB,hF⟩
 -- the caller's ghosts
 let ρ:=rn os os.length N
 have sG:∀i,i<os.length→ρ i=os.getD i 0:=fun i hi=>by show rn os os.length N i=_;unfold rn;simp[hi]
 have t0:∀i,os.length≤i→ρ i=N+(i - os.length):=fun i hi=>by show rn os os.length N i=_;unfold rn;rw[bf (by omega)];rfl
 have OS:∀i,i<os.length→os.getD i 0<N:=fun i hi=>b8 _ (kb i hi)
 have hmn:os.length≤n':=hM.next
 have hρn:∀i,i<n'→ρ i<N+(n' - os.length):=fun i hi=>by
  by_cases h1:i<os.length
  ·rw[sG i h1];have:=OS i h1;omega
  ·rw[t0 i (by omega)];omega
 have Oq:∀i j,i<n'→j<n'→ρ i=ρ j→i=j:=fun i j hi hj he=>by
  by_cases h1:i<os.length <;> by_cases h2:j<os.length
  ·rw[sG i h1,sG j h2] at he;exact xS i j h1 h2 he
  ·rw[sG i h1,t0 j (by omega)] at he;have:=OS i h1;omega
  ·rw[sG j h2,t0 i (by omega)] at he;have:=OS j h2;omega
  ·rw[t0 i (by omega),t0 j (by omega)] at he;omega
 let g2:Gh:=⟨fun j=>if j<N then g.μ j else g'.μ (os.length+(j - N)),fun j=>if j<N then (if j∈os then g'.τ (os.idxOf j) else g.τ j) else g'.τ (os.length+(j - N)),g'.F⟩
 let dW:Hp:=⟨frV ρ os n8 vs,frL ρ os rS lv,N+(n' - os.length)⟩
 have Er:∀j,j<N→g2.μ j=g.μ j:=fun j hj=>if_pos hj
 have Jw:∀j,j<N→j∉os→g2.τ j=g.τ j:=fun j hj ho=>by
  show (if j<N then _ else _)=_
  rw[if_pos hj,if_neg ho]
 have Ep:∀i,i<n'→g2.μ (ρ i)=g'.μ i:=fun i hi=>by
  by_cases h1:i<os.length
  ·rw[sG i h1,Er _ (OS i h1)];exact (hM.μ i h1).symm
  ·rw[t0 i (by omega)]
   show (if _ then _ else _)=_
   rw[if_neg (by omega),show os.length+(N+(i - os.length) - N)=i by omega]
 have Gf:∀i,i<n'→g2.τ (ρ i)=g'.τ i:=fun i hi=>by
  by_cases h1:i<os.length
  ·rw[sG i h1]
   show (if _ then (if _ then _ else _) else _)=_
   rw[if_pos (OS i h1),if_pos (kb i h1)]
   have:os.idxOf (os.getD i 0)=i:=by
    have h2:os.idxOf (os.getD i 0)<os.length:=List.idxOf_lt_length_of_mem (kb i h1)
    refine xS _ _ h2 h1 ?_
    rw[ue (i:=os.idxOf _),de h2]
    exact List.getElem_idxOf h2
   rw[this]
  ·rw[t0 i (by omega)]
   show (if _ then _ else _)=_
   rw[if_neg (by omega),show os.length+(N+(i - os.length) - N)=i by omega]
 have s6:∀k ds,dW.vars.lookup k=some ds→(∃i sm,ρ i=k∧i<n'∧n8.lookup i=some sm∧sm.map (D.renC ρ)=ds)∨(k∉os∧k<N∧vs.lookup k=some ds):=fun k ds hk=>by
  rcases ri hk with h1|h1
  ·obtain⟨i,a,h2,h3,h4⟩:=mw ρ (fun a:List D=>a.map (D.renC ρ)) h1
   exact .inl ⟨i,a,h2,(If.var i a h3).1,h3,h4⟩
  ·obtain⟨h2,h3⟩:=js h1
   exact .inr ⟨h2,(hR.var k ds h3).1,h3⟩
 have s7:∀k y,dW.live.lookup k=some y→(∃i,ρ i=k∧i<n'∧rS.lookup i=some y)∨(k∉os∧k<N∧lv.lookup k=some y):=fun k y hk=>by
  rcases ri hk with h1|h1
  ·obtain⟨i,a,h2,h3,h4⟩:=mw ρ (fun a:Nat×Nat×TypeId=>a) h1
   subst h4
   exact .inl ⟨i,h2,(If.tok i a.1 a.2 h3).1,h3⟩
  ·obtain⟨h2,h3⟩:=js h1
   exact .inr ⟨h2,(hR.tok k y.1 y.2 h3).1,h3⟩
 have hlρ:∀id,id<n'→∀y,dW.live.lookup (ρ id)=some y→rS.lookup id=some y:=fun id hid y hy=>by
  rcases s7 _ _ hy with⟨i,h1,h2,h3⟩|⟨h1,h2,_⟩
  ·rw[←Oq i id h2 hid h1];exact h3
  ·exfalso
   by_cases h4:id<os.length
   ·rw[sG id h4] at h1;exact h1 (kb id h4)
   ·rw[t0 id (by omega)] at h2;omega
 -- blocks of what was not in hand are free for the callee
 have yY:∀k ds,k∉os→vs.lookup k=some ds→g.μ k<w.heap.size∧MU ⟨DS,DT,os.length⟩ ⟨fun i=>g.μ (os.getD i 0),fun i=>g.τ (os.getD i 0),g.F⟩ (g.μ k):=fun k ds ho hk=>by
  refine⟨hR.var_lt (k:=k) (ds:=ds) hk,fun i di hi=>?_,fun i t hi=>?_⟩
  ·obtain⟨h1,⟨_,h2,_⟩,_⟩:=hv i di hi
   exact fun e=>ho (by rw[←hR.inj _ _ _ _ h2 hk e];exact kb i h1)
  ·obtain⟨h1,h2⟩:=hl i t hi
   obtain⟨_,_,_,_,h3⟩:=hR.tok _ t.1 t.2 h2
   exact fun e=>(h3 _ e).2 k ds hk rfl
 have yZ:∀k t b,k∉os→lv.lookup k=some t→(g.τ k).ownBlock=some b→b<w.heap.size∧MU ⟨DS,DT,os.length⟩ ⟨fun i=>g.μ (os.getD i 0),fun i=>g.τ (os.getD i 0),g.F⟩ b:=fun k t b ho hk hb=>by
  obtain⟨_,_,_,h1,h2⟩:=hR.tok k t.1 t.2 hk
  refine⟨(h1.lt b hb).2,fun i di hi=>?_,fun i t' hi=>?_⟩
  ·obtain⟨h1,⟨_,h3,_⟩,_⟩:=hv i di hi
   exact (h2 b hb).2 _ _ h3
  ·obtain⟨h1,h3⟩:=hl i t' hi
   exact fun e=>ho (by rw[←hR.tinj _ _ _ _ b h3 hk e hb];exact kb i h1)
 have mo:dm ⟨vs,lv,N⟩ g w dW g2 w':=by
  refine⟨hM.size,hM.cell,hM.forb,tk _ _,fun k hk=>Er k hk,fun id hid n e hy=>?_,fun b hb hf=>?_,hM.szs⟩
  ·rcases s7 _ _ hy with⟨i,h1,h2,h3⟩|⟨h1,h2,h3⟩
   ·by_cases h4:i<os.length
    ·obtain⟨m0,h5,h6,h7⟩:=hM.live i h4 n e h3
     refine⟨m0,?_,h6,fun h=>?_⟩
     ·rw[←h1,sG i h4];exact d9 i _ h5
     ·rw[←h1,Gf i h2,h7 h,sG i h4]
    ·rw[←h1,t0 i (by omega)] at hid
     have hid:N+(i - os.length)<N:=hid
     omega
   ·exact⟨n,h3,aB _,fun _=>Jw id h2 h1⟩
  ·obtain⟨h1,h2,h3⟩:=hM.fr b hb ⟨fun k ds hk=>by
    obtain⟨_,⟨_,h5,_⟩,_⟩:=hv k ds hk
    exact hf.1 _ _ h5,fun id t hi=>hf.2 _ _ (d9 id t hi)⟩
   refine⟨h1,h2,fun k ds hk=>?_,fun id t hi=>?_⟩
   ·rcases s6 _ _ hk with⟨i,_,rfl,h5,h6,_⟩|⟨_,h5,h6⟩
    ·rw[Ep i h5];exact h3.1 _ _ h6
    ·rw[Er k h5];exact hf.1 _ _ h6
   ·rcases s7 _ _ hi with⟨i,rfl,h5,h6⟩|⟨h4,h5,h6⟩
    ·rw[Gf i h5];exact h3.2 _ _ h6
    ·rw[Jw id h5 h4];exact hf.2 _ _ h6
 have fw:∀{d:D} {u:Value},d.okC=true→aR ⟨n8,rS,n'⟩ g' w' d u→aR dW g2 w' (d.renC ρ) u:=fun hd h=>Bx h hd hρn Ep Gf rfl hlρ
 refine⟨v,g2,rfl,⟨fun k ds hk=>?_,fun k k' ds ds' hk uW he=>?_,fun id n e hi=>?_,fun id Ai t t' b hi xj hb pR=>?_,If.base,If.fits⟩,mo,fwdF2 pQ hr hρn Ep Gf rfl hlρ,hB,hF⟩
 ·rcases s6 _ _ hk with⟨i,sm,rfl,h1,h2,rfl⟩|⟨h1,h2,h3⟩
  ·obtain⟨_,h4,h5,cs,ty,h6,h7,h8⟩:=If.var i sm h2
   rw[Ep i h1]
   refine⟨hρn i h1,h4,h5,cs,ty,h6,by simpa using h7,fun j u hu=>⟨fun h=>(h8 j u hu).1 (by simpa using h),fun d hd=>?_⟩⟩
   rw[ep] at hd
   obtain⟨d0,vy,rfl⟩:=xt.1 hd
   exact fw (dc.1 (hvo _ (bQ h2)) d0 (er vy)) ((h8 j u hu).2 d0 vy)
  ·obtain⟨h4,h5⟩:=yY k ds h1 h3
   obtain⟨h6,h7,_⟩:=hM.fr _ h4 h5
   obtain⟨_,h8,h9,cs,ty,wQ,Bw,h12⟩:=hR.var k ds h3
   rw[Er k h2]
   exact⟨eD h2 (tk _ _),h8,fun p hp=>h7 p hp (h9 p hp),cs,ty,h6.trans wQ,Bw,fun j u hu=>⟨(h12 j u hu).1,fun d hd=>((h12 j u hu).2 d hd).mono mo⟩⟩
 ·rcases s6 _ _ hk with⟨i,sm,rfl,h1,h2,_⟩|⟨h1,h2,h3⟩ <;> rcases s6 _ _ uW with⟨i',ds0',rfl,qI,qr,_⟩|⟨qI,qr,JZ⟩
  ·rw[Ep i h1,Ep i' qI] at he
   rw[If.inj _ _ _ _ h2 qr he]
  ·rw[Ep i h1,Er _ qr] at he
   obtain⟨h4,h5⟩:=yY _ _ qI JZ
   exact absurd he ((hM.fr _ h4 h5).2.2.1 _ _ h2)
  ·rw[Ep i' qI,Er _ h2] at he
   obtain⟨h4,h5⟩:=yY _ _ h1 h3
   exact absurd he.symm ((hM.fr _ h4 h5).2.2.1 _ _ qr)
  ·rw[Er _ h2,Er _ qr] at he
   exact hR.inj _ _ _ _ h3 JZ he
 ·rcases s7 _ _ hi with⟨i,rfl,h1,h2⟩|⟨h1,h2,h3⟩
  ·obtain⟨_,uB,h4,h5,h6⟩:=If.tok i n e h2
   rw[Gf i h1]
   refine⟨hρn i h1,uB,h4,h5,fun b hb=>⟨(h6 b hb).1,fun k ds hk=>?_⟩⟩
   rcases s6 _ _ hk with⟨i',_,rfl,h7,h8,_⟩|⟨h7,h8,h9⟩
   ·rw[Ep i' h7];exact (h6 b hb).2 _ _ h8
   ·rw[Er k h8]
    obtain⟨wQ,Bw⟩:=yY _ _ h7 h9
    intro e
    exact (hM.fr _ wQ Bw).2.2.2 _ _ h2 (by rw[e];exact hb)
  ·obtain⟨_,uB,h4,h5,h6⟩:=hR.tok id n e h3
   rw[Jw id h2 h1]
   refine⟨eD h2 (tk _ _),uB,h4,⟨h5.1,?_⟩,fun b hb=>?_⟩
   ·rcases h5.2 with h0|⟨b,cap,cur,uV,hB',hh,r⟩
    ·exact .inl h0
    ·obtain⟨wQ,Bw⟩:=yZ id _ b h1 h3 (by rw[uV];rfl)
     exact .inr ⟨b,cap,cur,uV,hB',(hM.fr _ wQ Bw).1.trans hh,r⟩
   ·obtain⟨wQ,Bw⟩:=yZ id _ b h1 h3 hb
    obtain⟨h12,h13,h14⟩:=hM.fr _ wQ Bw
    refine⟨fun p h7 h8=>h13 p h7 ((h6 b hb).1 p h7 h8),fun k ds hk=>?_⟩
    rcases s6 _ _ hk with⟨i',_,rfl,h7,h8,_⟩|⟨h7,h8,h9⟩
    ·rw[Ep i' h7];exact h14.1 _ _ h8
    ·rw[Er k h8];exact (h6 b hb).2 _ _ h9
 ·rcases s7 _ _ hi with⟨i,rfl,h1,h2⟩|⟨h1,h2,h3⟩ <;> rcases s7 _ _ xj with⟨i',rfl,qI,qr⟩|⟨qI,qr,JZ⟩
  ·rw[Gf i h1] at hb
   rw[Gf i' qI] at pR
   rw[If.tinj _ _ _ _ b h2 qr hb pR]
  ·rw[Gf i h1] at hb
   rw[Jw _ qr qI] at pR
   obtain⟨wQ,Bw⟩:=yZ _ _ b qI JZ pR
   exact absurd hb ((hM.fr _ wQ Bw).2.2.2 _ _ h2)
  ·rw[Gf i' qI] at pR
   rw[Jw _ h2 h1] at hb
   obtain⟨wQ,Bw⟩:=yZ _ _ b h1 h3 hb
   exact absurd pR ((hM.fr _ wQ Bw).2.2.2 _ _ qr)
  ·rw[Jw _ h2 h1] at hb
   rw[Jw _ qr qI] at pR
   exact hR.tinj _ _ _ _ b h3 JZ hb pR
theorem HC.frame0 {P:Program}{f:FuncId}{ds:List D}{r:D}{n8 vs:List (Nat×List D)}{lv:List (Nat×Nat×Nat×TypeId)}{n' N:Nat}(h:HC P f ds ⟨[],[],0⟩ r ⟨n8,[],n'⟩)
  (ha:frA (fun i=>([]:List Nat).getD i 0) 0 ds ds) (hr:r.okF2=true) (hvo:∀p∈n8,p.2.all D.okC=true):
  HC P f ds ⟨vs,lv,N⟩ (r.ren2 (fun i=>N+i)) ⟨n8.map (fun p=>(N+p.1,p.2.map (D.renC fun i=>N+i)))++vs,lv,N+n'⟩:=by
 have h1:=HC.frame2 (vs:=vs) (lv:=lv) (N:=N) h [] rfl List.nodup_nil (fun o ho=>absurd ho qj) ha (fun k ds hk=>by simp at hk) (fun id y hy=>by simp at hy) hr hvo
 have e:rn [] 0 N=fun i=>N+i:=by funext i;rfl
 have e1:frV (rn [] 0 N) [] n8 vs=n8.map (fun p=>(N+p.1,p.2.map (D.renC fun i=>N+i)))++vs:=by
  unfold frV
  rw[e]
  congr 1
  exact List.filter_eq_self.2 fun _ _=>rfl
 have e2:frL (rn [] 0 N) [] [] lv=lv:=by
  unfold frL
  exact List.filter_eq_self.2 fun _ _=>rfl
 rw[e1,e2,e] at h1
 exact h1
section
theorem sliceG {P:Program}{tb:TypeId→Option TyE}(tok:TOk P tb){ev:Operand→D}{hp:Hp}{dst:Option Tmp}{ty:TypeId}{pos:String}{af:Array Edge}{gd:Option (Nat×Bool)}{t e:TypeId}{ti j:TyE}{x y z:Operand}{k n m:Nat}{kn kn':IntKind}(ht:tb t=some ti)(he:tb e=some j)(hx:ev x=.gw k j.size n)(hy:ev y=dI kn (m:Int))(hz:ev z=dI kn' (m:Int))(hm:m≤n)(yR:ti.ty=.slice e:=by exact rfl):
  m3 P tb .seq ⟨dst,.slice t x none (some y) (some z),ty,pos,af,gd⟩ ev hp (.ow k 0 j.size m) hp:=by
 refine⟨.step fun B g w a hr xg=>?_,fun hq=>(by cases hq),fun _=>⟨aB _,fun _ _=>rfl⟩,fun h=>by cases h⟩
 have h1:=xg x (by simp[Op.operands])
 have h2:=xg y (by simp[Op.operands])
 have h3:=xg z (by simp[Op.operands])
 rw[hx] at h1
 rw[hy] at h2
 rw[hz] at h3
 have h2:=h2.lit
 have h3:=h3.lit
 generalize hv:a.eval x=v at h1
 cases h1 with
 |gw _ _ _ c hk p6 o0 hs=>
  have hu:=tok.slice ht yR
  have hsz:=tok.run_sizeOf he w
  have hHc:m≤c:=by omega
  have hb:(Instr.sliceBounds true n c none (some (Value.int kn (m:Int))) (some (Value.int kn' (m:Int)))).run P w=.ok (0,m,m) w:=by
   simp[Instr.sliceBounds,run_sliceBound,hHc]
  have M3:∀(ad:Addr),ad.spot=none→ad.off=0→(if m=0 then some ad else some (ad.add (0*j.size)))=some ad:=fun ad h4 h5=>by
   split
   ·rfl
   ·rw[ic];unfold Addr.add;simp
  refine⟨.slice (some ⟨g.μ k,0,none⟩) m m,g,w,?_,hr,dm.refl _ _ _,.ow k 0 j.size m m hk (aB _) (by omega),Below.refl _ _,fun _ _ h=>h⟩
  have cu:(Instr.sliceAt t (a.eval x) none (some (a.eval y)) (some (a.eval z))).run P w=.ok (.slice (some ⟨g.μ k,0,none⟩) m m) w:=by
   rw[hv,h2,h3]
   simp[Instr.sliceAt,Instr.slice,run_underlying hu,hb,hsz,Addr.add]
  simp[execOp,cu]
theorem WkS.frz2 {tm:List (Nat×D)}{vs:List (Nat×List D)}{lv:List (Nat×Nat×Nat×TypeId)}{N t k z n:Nat}{F:List E}(hz:0<z)(ht:tm.lookup t=some (.ow k 0 z n))(hv:vs.lookup k=some (dC F))(hF:n*z≤F.length):
  WkS tm ⟨vs,lv,N⟩ ((t,.e (.sl z n (F.take (n*z))))::tm) ⟨vs.filter fun p=>!([k]:List Nat).contains p.1,lv,N⟩:=by
 intro B g w ρ hr nX
 obtain⟨h1,h2,h3,cs,ty,h4,h5,h6⟩:=hr.var k _ hv
 have look:∀{j:Nat} {ds:List D},(vs.filter fun p=>!([k]:List Nat).contains p.1).lookup j=some ds→j≠k∧vs.lookup j=some ds:=by
  intro j ds h
  obtain⟨a,b⟩:=js h
  exact⟨by simpa using a,b⟩
 have gt:∀{j:Nat} {ds:List D},j≠k→vs.lookup j=some ds→g.μ j≠g.μ k:=fun hj hl e=>hj (hr.inj _ _ _ _ hl hv e)
 have mo:dm ⟨vs,lv,N⟩ g w ⟨vs.filter fun p=>!([k]:List Nat).contains p.1,lv,N⟩ ⟨g.μ,g.τ,fun p=>g.F p∧p.block≠g.μ k⟩ w:=by
  refine⟨aB _,fun _ _ _=>rfl,fun _ _ h=>h.1,aB _,fun _ _=>rfl,fun _ _ m _ h=>⟨m,h,aB _,fun _=>rfl⟩,fun b hb hf=>⟨rfl,fun p hp hq=>⟨hq,?_⟩,fun j ds hj=>hf.1 j ds (look hj).2,hf.2⟩,fun _=>.same fun _=>rfl⟩
  rw[hp];exact fun e=>hf.1 k _ hv e.symm
 refine⟨⟨g.μ,g.τ,fun p=>g.F p∧p.block≠g.μ k⟩,⟨fun j ds hj=>?_,fun j j' ds ds' hj Gr he=>hr.inj j j' ds ds' (look hj).2 (look Gr).2 he,fun id m e hi=>?_,hr.tinj,hr.base,fun p hp=>hr.fits p hp.1⟩,mo,fun t' d hd=>?_,fun p hp hq=>⟨hq,?_⟩⟩
 ·obtain⟨a1,a2⟩:=look hj
  obtain⟨b1,b2,b3,vI,IX,b4,b5,b6⟩:=hr.var j ds a2
  exact⟨b1,b2,fun p hp=>⟨b3 p hp,by rw[hp];exact gt a1 a2⟩,vI,IX,b4,b5,fun i u hu=>⟨(b6 i u hu).1,fun d hd=>((b6 i u hu).2 d hd).mono mo⟩⟩
 ·obtain⟨b1,us,b2,b3,b4⟩:=hr.tok id m e hi
  exact⟨b1,us,b2,b3,fun b hb=>⟨fun p hp hq=>⟨(b4 b hb).1 p hp hq,by rw[hp];exact fun e=>(b4 b hb).2 k _ hv e.symm⟩,fun j ds hj=>(b4 b hb).2 j ds (look hj).2⟩⟩
 ·by_cases htt:t'=t
  ·subst htt
   have:some (D.e (.sl z n (F.take (n*z))))=some d:=by rw[←hd];exact ab.symm
   injection this with this
   subst this
   have dx:=nX t' _ ht
   generalize hq:ρ t'=u at dx
   cases dx with
   |ow _ _ _ _ c hk p6 o0=>
    have qE:F.length≤cs.size:=by rw[eT] at h5;exact h5
    have kb:∀{i:Nat} {e:E},(F.take (n*z))[i]? =some e→F[i]? =some e:=fun {i e} h=>by
     rw[ie] at h
     split at h
     ·exact h
     ·cases h
    refine .e _ _ (.sl z n (F.take (n*z)) (some ⟨g.μ k,0,none⟩) c (fun i=>cs.getD i undef) (by rw[eH];omega) hz p6 o0 (fun _=>⟨_,rfl,(oR.1 h4).1⟩) (fun ad ha i e hi=>?_) (fun i e hi=>?_))
    ·have hi:=kb hi
     injection ha with ha
     subst ha
     have b8:i<cs.size:=eD (fZ.1 hi).1 qE
     refine⟨?_,fun hf=>hf.2 (by rw[gv])⟩
     have e0:w.cell? (({block:=g.μ k,off:=0,spot:=none}:Addr).add i)=cs[0+i]? :=by
      by_cases h0:i=0
      ·subst h0;simp[World.cell?,Addr.add,h4]
      ·simp[World.cell?,Addr.add,h4,h0]
     rw[e0,bJ]
     simp[iO,b8]
    ·have hi:=kb hi
     have b8:i<cs.size:=eD (fZ.1 hi).1 qE
     have hu:=h6 i (cs.getD i undef) (by simp[iO,b8])
     have:=hu.2 (.e e) (by unfold dC;rw[ep,hi];rfl)
     cases this with
     |e _ _ h7=>exact d6.less h7 fun p hp=>hp.1
  ·exact (nX t' d (by rw[←hd];exact (au htt).symm)).mono mo
 ·intro e
  omega
theorem tF {c:List Nu}(h:c.length≤1000000):dH (c.map nv)=some (c.all aW):=by
 obtain⟨y,hy,CG⟩:=G_idx h
 unfold dH bi
 rw[hy]
 by_cases h0:0≤y
 ·rw[CG.1 h0]
  simp[bnd,h0]
 ·have:c.all aW=true:=by
   cases hc:c.all aW with
   |true=>rfl
   |false=>exact absurd (CG.2 hc) h0
  rw[this]
  simp[bnd,h0]
theorem LC {c:List Nu}(h:c.length≤1000000):ax Tryz.prog 62 [.e (slE ay c)] (dB (c.all aW)):=by
 rw[kT];exact f6 (tF h)
def kW(l:List Nu):List Nu:=l++l.map hJ
theorem MQ {l:List Nu}(h:l.length≤1000000):mf (l.map nv)=some ((kW l).map nv):=by
 have hlen:(l.map nv).length=l.length:=bw _
 unfold mf f9
 rw[aM (by rw[hlen];exact h)]
 show bnd (bL (fh (l.map nv)) (l.map nv,(0:Int))) _=_
 have key:=rh (b:=fh (l.map nv)) (fun i:Nat=>((l++(l.take i).map hJ).map nv,(i:Int))) 0 l.length ((kW l).map nv) (cX _) (fun i _ hi=>?_) ?_
 ·have e:((l++(l.take 0).map hJ).map nv,((0:Nat):Int))=(l.map nv,(0:Int)):=by simp
  rw[e] at key
  rw[key]
  rfl
 ·unfold fh
  dsimp only
  have kb:(l.map nv)[((i:Nat):Int).toNat]! =nv l[i]:=by
   rw[show ((i:Nat):Int).toNat=i by omega,cO _ _ (by rw[hlen];exact hi),List.getElem_map]
  have wP:mI (nv l[i])=some (nv (hJ l[i])):=by rw[yK];exact Kf l[i].2
  have htk:l.take (i+1)=l.take i++[l[i]]:=by rw[zi,de hi];rfl
  rw[hlen,cE _ _ (by omega),aM (by omega),kb,wP]
  show gd _ _=_
  rw[aM (by simp;omega),eu (by omega) (by omega),htk]
  simp only[iU,dU,cP,dA]
  rfl
 ·unfold fh
  dsimp only
  rw[hlen,co _ _ (by omega),iP (aB _)]
  rfl
theorem Fz {l:List Nu}(h:l.length≤1000000):ax Tryz.prog 74 [.e (slE ay l)] (.e (slE ay (kW l))):=by
 rw[kT,kT]
 exact ax.toE (yo (MQ h))
theorem Hc {n:Nat}(h:n≤1000000):ax Tryz.prog 75 [dI .i64 n] (.e (slE ay (List.replicate n (nOf 0)))):=by
 rw[kT,List.map_replicate]
 refine nE ?_
 unfold fO
 rw[if_pos (by omega)]
 congr 2
def ylP(y:List Nu)(m:Nat):Nat→List Nu
 |0=>y
 |i+1=>(ylP y m i).set i (FX (ylP y m i)[i]! (ylP y m i)[m+i]!)
def xV(m nn:Nat)(A B:List Nu)(most:Int):Ans×Int×Int:=
 let r:=lZ (m+m) nn (kW A) (kW B) (List.replicate nn (nOf 0)) most
 if r.2.2≠0∨r.1.kind≠2 then (⟨r.1.kind,r.1.x,[],r.1.ray⟩,r.2.1,r.2.2) else
 let y:=(List.range m).map fun i=>FX r.1.y[i]! r.1.y[m+i]!
 if y.all aW then (⟨r.1.kind,r.1.x,y,r.1.ray⟩,r.2.1,0) else (⟨0,[],[],[]⟩,0,30)
section
variable {y:List Nu} {m:Nat}
theorem yk:∀i,(ylP y m i).length=y.length
 |0=>rfl
 |i+1=>(eU ..).trans (yk i)
theorem I1:∀i j,i≤j→(ylP y m i)[j]! =y[j]!
 |0,_,_=>rfl
 |i+1,j,h=>by
  unfold ylP
  rw[xZ,Dl (by omega),←xZ]
  exact I1 i j (by omega)
theorem M7(h:m+m≤y.length):∀i j,i≤m→j<i→(ylP y m i)[j]! =FX y[j]! y[m+j]!
 |0,_,_,h2=>by omega
 |i+1,j,h1,h2=>by
  have hl:i<(ylP y m i).length:=by rw[yk];omega
  unfold ylP
  by_cases G7:i=j
  ·subst G7
   rw[xZ,II hl,vQ,I1 i i (aB _),I1 i (m+i) (by omega)]
  ·rw[xZ,Dl G7,←xZ]
   exact M7 h i j (by omega) (by omega)
theorem ylP_all(h:y.length=m+m):(ylP y m m).take m=(List.range m).map fun i=>FX y[i]! y[m+i]! :=by
 refine List.ext_getElem (by rw[eH,yk,bw,List.length_range];omega) fun j h1 h2=>?_
 have hj:j<m:=by simpa using h2
 rw[List.getElem_take,List.getElem_map,List.getElem_range,←M7 (y:=y) (by omega) m j (aB _) hj,cO (ylP y m m) j (by rw[yk];omega)]
end
theorem Nw {m nn:Nat}{A B C:List Nu}{most:Int}(hB:B.length=m)(h0:0≤most)(h1:most≤9223372036854775807)(hk:(lZ m nn A B C most).1.kind=2):(lZ m nn A B C most).1.y.length=m∧(lZ m nn A B C most).1.x=[]∧(lZ m nn A B C most).1.ray=[]∧(lZ m nn A B C most).2.2=0:=by
 have hend:∀d,(wU nn d C).1.kind≠2:=fun d h=>by
  unfold wU at h
  dsimp only at h
  split at h
  ·cases h
  ·split at h
   ·cases h
   ·split at h <;> cases h
 unfold lZ at hk ⊢
 dsimp only at hk ⊢
 split at hk
 ·next wP=>
  rw[if_pos wP]
  split at hk
  ·cases hk
  ·next hb=>
   rw[if_neg hb]
   split at hk
   ·next hg=>
    rw[if_pos hg]
    have hm:0<m:=by
     rcases rF m with e|e
     ·rw[e] at hB
      rw[List.length_eq_zero_iff.1 hB] at wP
      cases wP
     ·exact e
    have hS:=(C6 (m:=m) (nn:=nn) (A:=A) (B:=B) h0 h1 (aB m))
    rw[Iq] at hS
    have ly:=(hS.begin hm (by omega)).1.lg
    refine⟨?_,rfl,rfl,rfl⟩
    show (fF _ nn).length=m
    unfold fF
    rw[bw,fT,ly]
    omega
   ·exact absurd hk (hend _)
 ·exact absurd hk (hend _)
end
section
def xY(ky:Nat)(a:Ans):List D:=[dI .i64 a.kind,.e (slE ay a.x),if a.kind=2 then .gw ky 36 a.y.length else .e (slE ay a.y),.e (slE ay a.ray)]
def uR(ky:Nat)(a:Ans):List (Nat×List D):=if a.kind=2 then [(ky,dC ((cW ay).f a.y))] else []
theorem Kv {ky N n2:Nat}{a:Ans}{vs:List (Nat×List D)}{lv:List (Nat×Nat×Nat×TypeId)}(h:N≤ky)(h2:N≤n2):Fr ⟨vs,lv,N⟩ ⟨uR ky a++vs,lv,n2⟩:=by
 refine⟨h2,fun j hj=>?_⟩
 have hj:j<N:=hj
 unfold uR
 split
 ·exact au (by omega)
 ·rfl
theorem IG {ky n:Nat}{a:Ans}(h:ky<n):(xY ky a).all (D.idsC n)=true:=by
 unfold xY
 by_cases hk:a.kind=2
 ·rw[if_pos hk]
  simp only[bX,bt,bc,bp]
  exact⟨rfl,rfl,aF h,rfl⟩
 ·rw[if_neg hk]
  rfl
theorem solW_in {ky kx:Nat}{a:Ans}{x:List D}{vs:List (Nat×List D)}{j:Nat}{ds:List D}(hj:j≠kx)(h:(uR ky a++vs).lookup j=some ds):(uR ky a++(kx,x)::vs).lookup j=some ds:=by
 unfold uR at h ⊢
 by_cases hk:a.kind=2
 ·rw[if_pos hk] at h ⊢
  rcases cD h with⟨rfl,rfl⟩|⟨D1,h⟩
  ·exact ab
  ·exact al D1 (al hj h)
 ·rw[if_neg hk] at h ⊢
  exact al hj h
theorem HC.weakT {P:Program}{f:FuncId}{ds rs:List D}{hp:Hp}{vars vars':List (Nat×List D)}{lv lv':List (Nat×Nat×Nat×TypeId)}{n n':Nat}(hc:HC P f ds hp (.tu rs) ⟨vars,lv,n⟩)(h0:hp.next≤n')
  (h:cQ hp→cQ ⟨vars',lv',n'⟩∧(∀j ds,vars'.lookup j=some ds→vars.lookup j=some ds)∧(∀j y,lv'.lookup j=some y→lv.lookup j=some y)∧rs.all (D.idsB n')=true):HC P f ds hp (.tu rs) ⟨vars',lv',n'⟩:=by
 refine⟨hc.1,fun B g w vs hr hsz dx=>(hc.2 B g w vs hr hsz dx).mono ?_⟩
 obtain⟨hok,hv,hl,hd⟩:=h hr.ok
 rintro e w' ⟨v,g',rfl,pB,hM,hrd,hb,hF⟩
 have d9:∀id y,lv'.lookup id=some y→lv.lookup id=some y:=hl
 refine⟨v,g',rfl,⟨fun k ds hk=>?_,fun k k' a b hk uW he=>pB.inj k k' a b (hv k a hk) (hv k' b uW) he,fun id m e hi=>?_,fun id Ai t t' b hi xj=>pB.tinj id Ai t t' b (d9 _ _ hi) (d9 _ _ xj),pB.base,pB.fits⟩,
  ⟨hM.size,hM.cell,hM.forb,h0,hM.μ,fun id hid m e Ml=>hM.live id hid m e (d9 id _ Ml),fun b hb hf=>⟨(hM.fr b hb hf).1,(hM.fr b hb hf).2.1,fun k ds hk=>(hM.fr b hb hf).2.2.1 k ds (hv k ds hk),fun id t hi=>(hM.fr b hb hf).2.2.2 id t (d9 id _ hi)⟩,hM.szs⟩,?_,hb,hF⟩
 ·obtain⟨_,h3,h4,cs,ty,h5,h6,h7⟩:=pB.var k ds (hv k ds hk)
  obtain⟨h1,h2⟩:=hok.var k ds hk
  exact⟨h1,h3,h4,cs,ty,h5,h6,fun j u hu=>⟨(h7 j u hu).1,fun d hd=>iH ((h7 j u hu).2 d hd) (dc.1 h2 d (er hd)) rfl d9⟩⟩
 ·obtain⟨_,us,h2,h3,h4⟩:=pB.tok id m e (d9 _ _ hi)
  exact⟨hok.tok id _ hi,us,h2,h3,fun b hb=>⟨(h4 b hb).1,fun k ds hk=>(h4 b hb).2 k ds (hv k ds hk)⟩⟩
 ·cases hrd with
  |tu _ cs Gp JE=>exact .tu rs cs Gp fun j d u h1 h2=>CF (JE j d u h1 h2) (dc.1 hd d (er h1)) rfl d9
theorem Ic {M:Nat}{r:Ans×Int×Int}{R Cc most:Int}{A B C:List Nu}{vs:List (Nat×List D)}{lv:List (Nat×Nat×Nat×TypeId)}{N:Nat}(hc:HC Tryz.prog 12 [.ag (prC R Cc A B C),dI .i64 most] ⟨[],[],0⟩ (Jb M r) (Ej M r)):
  HC Tryz.prog 12 [.ag (prC R Cc A B C),dI .i64 most] ⟨vs,lv,N⟩ (.tu [.ag (xY (N+(7+8*M)) r.1),dI .i64 r.2.1,dI .i64 r.2.2]) ⟨uR (N+(7+8*M)) r.1++vs,lv,N+(8+8*M)⟩:=by
 unfold Jb Ej at hc
 unfold xY uR
 unfold qh at hc
 by_cases hk:r.1.kind=2
 ·simp only[if_pos hk] at hc ⊢
  have h1:=HC.weakT (vars':=[(7+8*M,dC ((cW ay).f r.1.y))]) (lv':=[]) (n':=8+8*M) hc (cX _) fun _=>⟨⟨fun k ds h=>by
    rcases cD h with⟨rfl,rfl⟩|⟨_,h⟩
    ·exact⟨show 7+8*M<8+8*M by omega,eS _⟩
    ·simp at h,fun id e h=>by simp at h⟩,fun k ds h=>by
    rcases cD h with⟨rfl,rfl⟩|⟨_,h⟩
    ·exact al (by omega) ab
    ·simp at h,fun _ _ h=>h,by
    simp only[D.idsB,bX,bt,bc,bp]
    exact⟨⟨rfl,rfl,aF (by omega),rfl⟩,rfl,rfl⟩⟩
  have h2:=HC.frame0 (vs:=vs) (lv:=lv) (N:=N) h1 ⟨⟨ap _,rfl,rfl⟩,⟨ap _,rfl,rfl⟩,trivial⟩ rfl fun p hp=>by
   rw[qi.1 hp]
   exact dc.2 fun d hd=>by
    obtain⟨e,_,rfl⟩:=tj.1 hd
    rfl
  have e:(dC ((cW ay).f r.1.y)).map (D.renC fun i=>N+i)=dC ((cW ay).f r.1.y):=Jh _
  simp only[cP,dA,e] at h2
  exact h2
 ·simp only[if_neg hk] at hc ⊢
  have h1:=HC.weakT (vars':=[]) (lv':=[]) (n':=8+8*M) hc (cX _) fun _=>⟨⟨fun k ds h=>by simp at h,fun id e h=>by simp at h⟩,fun k ds h=>by simp at h,fun _ _ h=>h,rfl⟩
  have h2:=HC.frame0 (vs:=vs) (lv:=lv) (N:=N) h1 ⟨⟨ap _,rfl,rfl⟩,⟨ap _,rfl,rfl⟩,trivial⟩ rfl fun p hp=>absurd hp qj
  exact h2
def ry(a:Ans):List D:=[dI .i64 a.kind,.e (slE ay a.x),.e (slE ay a.y),.e (slE ay a.ray)]
def maC(R Cc:Int)(A:List Nu):List D:=[dI .i64 R,dI .i64 Cc,.e (slE ay A)]
theorem q9 {R Cc:Int}{A:List Nu}{t:Nat}{y:D}(h:(maC R Cc A)[t]? =some y):Pt (maC R Cc A) t [y] (fun ys=>(maC R Cc A).take t++ys++(maC R Cc A).drop (t+1)):=Pt.cell h
theorem KO(a:Ans)(h:a.y=[]:=by exact rfl):D.le (.ag [dI .i64 a.kind,.e (slE ay a.x),dN,.e (slE ay a.ray)]) (.ag (ry a)):=by
 unfold ry
 rw[h]
 exact se ⟨.inl rfl,.inl rfl,.inr (.inr ⟨rfl,36,by decide,rfl⟩),.inl rfl,trivial⟩
theorem Gc:D.le (.ag [dI .i64 0,dN,dN,dN]) (.ag (ry ⟨0,[],[],[]⟩)):=se ⟨.inl rfl,.inr (.inr ⟨rfl,36,by decide,rfl⟩),.inr (.inr ⟨rfl,36,by decide,rfl⟩),.inr (.inr ⟨rfl,36,by decide,rfl⟩),trivial⟩
def eqD(r:Ans×Int×Int):D:=.tu [.ag (ry r.1),dI .i64 r.2.1,dI .i64 r.2.2]
def eqH(r:Ans×Int×Int):Hp:=⟨[(1,ry r.1)],[],2⟩
theorem rtE {cx:Cx}{tm:List (Nat×D)}{vs2:List (Nat×List D)}{n2:Nat}{r0 r:Ans×Int×Int}(h0:cx.hp0=⟨[],[],0⟩)(hr:r0=r)(h1:vs2.lookup 1=some (ry r.1))(hn:2≤n2)(h6:tm.lookup 6=some (.pt 1 0):=by exact rfl)(h7:tm.lookup 7=some (dI .i64 r.2.1):=by exact rfl)(h8:tm.lookup 8=some (dI .i64 r.2.2):=by exact rfl):
  ∃tm',Wk cx tm ⟨vs2,[],n2⟩ tm' (eqH r0)∧sQ tbl [.cell 6 29,.tmp 7,.tmp 8] tm' (eqH r0) (eqD r0):=by
 subst hr
 have hok:cQ ⟨[(1,ry r0.1)],[],2⟩:=by
  refine⟨fun k ds h=>?_,fun id e h=>by simp at h⟩
  rcases cD h with⟨rfl,rfl⟩|⟨_,h⟩
  ·exact⟨show 1<2 by decide,rfl⟩
  ·simp at h
 refine⟨_,wkS (by rw[h0];exact cX _) hn hok (fun j ds h=>?_) (((bU.nil.cons h8).cons h7).cons h6 rfl),resV tbI rfl ab (by decide) rfl rfl ⟨_,rfl,_,rfl,rfl⟩⟩
 rcases cD h with⟨rfl,rfl⟩|⟨_,h⟩
 ·exact h1
 ·simp at h
section
variable {m nn:Nat} {A B:List Nu} {most:Int}
set_option maxHeartbeats 8000000 in
theorem h_Equal(hv:ax Tryz.prog 73 [.ag (maC m nn A),.e (slE ay B)] (dB true))(hvV:ax Tryz.prog 15 [.ag (prC ((m+m:Nat):Int) nn (kW A) (kW B) (List.replicate nn (nOf 0)))] (dB true))(hm:m≤1000)(hn:nn≤2000)(hA:A.length=m*nn)(hB:B.length=m)(hgA:∀i,i<(kW A).length→aW (kW A)[i]! =true)(hgB:∀i,i<(kW B).length→aW (kW B)[i]! =true)(hA1:A.length≤1000000)(h0:0≤most)(h1:most≤9223372036854775807):
  HC Tryz.prog 21 [.ag (maC m nn A),.e (slE ay B),dI .i64 most] ⟨[],[],0⟩ (eqD (xV m nn A B most)) (eqH (xV m nn A B most)):=by
 refine HC.of (rs:=[.cell 6 29,.tmp 7,.tmp 8]) tok Tryz.func21 rfl rfl (dK rfl) rfl (fun cx hx uI hok=>?_)
 simp only[fS,Nat.reduceAdd,bJ]
 have PA:B.length≤1000000:=by omega
 have hlA:(kW A).length=(m+m)*nn:=by unfold kW;rw[c8,bw,hA,cz]
 have hlB:(kW B).length=m+m:=by unfold kW;rw[c8,bw,hB]
 have hmm:i64.wrap ((2:Int)*(m:Int))=((m+m:Nat):Int):=by rw[eu (by omega) (by omega)];omega
 have hS:=KX (m:=m+m) (nn:=nn) (C:=List.replicate nn (nOf 0)) (most:=most) hvV (by omega) hn hlA hlB (by simp) hgA hgB (fun i hi=>by
  rw[cO (List.replicate nn (nOf 0)) i hi,List.getElem_replicate];exact of0.1) h0 h1
 have Al:=Nw (m:=m+m) (nn:=nn) (A:=kW A) (B:=kW B) (C:=List.replicate nn (nOf 0)) (most:=most) hlB h0 h1
 have heq:xV m nn A B most=xV m nn A B most:=rfl
 conv at heq=>rhs;unfold xV
 dsimp only at heq
 obtain⟨r,hr⟩:∃r,r=lZ (m+m) nn (kW A) (kW B) (List.replicate nn (nOf 0)) most:=⟨_,rfl⟩
 rw[←hr] at hS Al heq
 clear hr
 refine rs hx fun K hK=>?_
 refine s1 (fB (cs:=maC m nn A)) ?_
 refine a1 (F:=l8) tbI ?_
 iterate 2 refine sa ?_
 refine .nil (hK _ _ (AW.seq (rs hx fun K hK=>?_)))
 refine p1 (Pt.all (F:=maC m nn A)) rfl ?_
 refine sa ?_
 refine q1 (sHC (HC.frz (ds:=[.ag (maC m nn A),.e (slE ay B)]) hv ⟨AR.same rfl,AR.same rfl,trivial⟩ rfl) rfl (.inr (Fr.refl _))) ?_
 iterate 2 refine sa ?_
 iterate 2 refine ga rfl ?_
 refine s1 (d:=dB (decide (most<0))) (an rfl) ?_
 refine .nil (hK _ _ (AW.condF rfl (bf (by omega)) (AW.skip ?_)))
 obtain⟨base,me⟩:∃base:List (Nat×List D),base=[(1,dC l8),(0,maC m nn A)]:=⟨_,rfl⟩
 have cv:base.lookup 1=some (dC l8):=by rw[me];exact ab
 have hb0:base.lookup 0=some (maC m nn A):=by rw[me];rfl
 have Pj:∀j ds,base.lookup j=some ds→j<2∧ds.all (D.idsC 2)=true:=fun j ds h=>by
  rw[me] at h
  rcases cD h with⟨rfl,rfl⟩|⟨_,h⟩
  ·exact⟨by omega,rfl⟩
  ·rcases cD h with⟨rfl,rfl⟩|⟨_,h⟩
   ·exact⟨by omega,rfl⟩
   ·simp at h
 have JF:∀n,2≤n→cQ ⟨base,[],n⟩:=fun n hn=>⟨fun j ds h=>⟨show j<n by have:=(Pj j ds h).1;omega,dc.2 fun d hd=>D.idsC_le hn (dc.1 (Pj j ds h).2 d hd)⟩,fun id e h=>by simp at h⟩
 have hokY:∀ky n,2≤n→ky<n→cQ ⟨uR ky r.1++base,[],n⟩:=fun ky n hn hky=>by
  unfold uR
  split
  ·exact (JF n hn).consM hky (eS _)
  ·exact JF n hn
 have hY:∀ky j ds,2≤ky→base.lookup j=some ds→(uR ky r.1++base).lookup j=some ds:=fun ky j ds hky h=>by
  have:=(Pj j ds h).1
  unfold uR
  split
  ·exact al (by omega) h
  ·exact h
 have hSA:=Ic (vs:=base) (lv:=[]) (N:=2) hS
 have hSB:=Ic (vs:=(2,dC l8)::base) (lv:=[]) (N:=3) hS
 have hS2:(uR (3+(7+8*(m+m))) r.1++(2,dC l8)::base).lookup 2=some (dC l8):=by
  unfold uR
  split
  ·exact al (by omega) ab
  ·exact ab
 have fin1:∀{tm:List (Nat×D)} {vs2:List (Nat×List D)} {n2:Nat} (kx ky:Nat),kx<11+8*(m+m)→ky<11+8*(m+m)→11+8*(m+m)≤n2→(∀j ds,((kx,xY ky r.1)::(uR ky r.1++base)).lookup j=some ds→vs2.lookup j=some ds)→tm.lookup 3=some (.pt 0 0)→tm.lookup 6=some (.pt 1 0)→tm.lookup 9=some (.pt kx 0)→tm.lookup 10=some (dI .i64 r.2.1)→tm.lookup 11=some (dI .i64 r.2.2)→
   Wk cx tm ⟨vs2,[],n2⟩ [(3,.pt 0 0),(6,.pt 1 0),(9,.pt kx 0),(10,dI .i64 r.2.1),(11,dI .i64 r.2.2)] ⟨(kx,xY ky r.1)::(uR ky r.1++base),[],11+8*(m+m)⟩:=fun kx ky hkx hky E4 hl a b c d e=>
  wkS (by rw[uI];exact cX _) E4 ((hokY ky _ (by omega) hky).consM hkx (IG hky)) hl (bU.cons (bU.cons (bU.cons (bU.cons (bU.cons bU.nil e rfl) d rfl) c (aF hkx)) b (aF (by omega))) a (aF (by omega)))
 rw[←me]
 refine AW.joinE (α:=Nat×Nat) (fun a=>[(3,.pt 0 0),(6,.pt 1 0),(9,.pt a.1 0),(10,dI .i64 r.2.1),(11,dI .i64 r.2.2)]) (fun a=>⟨(a.1,xY a.2 r.1)::(uR a.2 r.1++base),[],11+8*(m+m)⟩) (fun a=>2≤a.1∧2≤a.2∧a.1≠a.2∧a.1<11+8*(m+m)∧a.2<11+8*(m+m)) ?_ ?_
 ·refine dw (DW.split 16 21 (by decide) ?_ ?_)
  ·refine dwg [74,75] [0,1,2,3,4,5,6,7,8,9,10,11,12,13,14,15,16,17,18,19,20,21,22,23,24] hx (by kernel_rfl) (by kernel_rfl) (by kernel_rfl) fun K hK=>?_
   dsimp only[ez,mZ,na,List.map]
   refine sa ?_
   refine c1 (q9 (t:=0) rfl) ?_
   refine sa ?_
   rw[hmm]
   refine sa ?_
   refine c1 (q9 (t:=1) rfl) ?_
   refine sa ?_
   refine c1 (q9 (t:=2) rfl) ?_
   refine cq (Fz (l:=A) hA1) ?_
   refine s1 (d:=.ag (maC ((m+m:Nat):Int) nn (kW A))) (eh iS) ?_
   refine sa ?_
   refine cq (Fz (l:=B) PA) ?_
   refine sa ?_
   refine c1 (q9 (t:=1) rfl) ?_
   refine cq (Hc (n:=nn) (by omega)) ?_
   refine s1 (d:=.ag (prC ((m+m:Nat):Int) nn (kW A) (kW B) (List.replicate nn (nOf 0)))) (eh m5) ?_
   refine sa ?_
   refine q1 (sHC hSA rfl (.inr (Kv (by omega) (by omega)))) ?_
   refine sa ?_
   refine sa ?_
   refine sa ?_
   refine sa ?_
   refine a1 (F:=l8) tbI ?_
   refine v1 (F2:=xY (2+(7+8*(m+m))) r.1) (ys:=xY (2+(7+8*(m+m))) r.1) (Pt.all (F:=dC l8)) rfl rfl rfl ?_
   refine sa ?_
   refine sa ?_
   refine .nil (hK _ _ ⟨(2+(8+8*(m+m)),2+(7+8*(m+m))),⟨by omega,by omega,by omega,by omega,by omega⟩,?_⟩)
   refine fin1 _ _ (by omega) (by omega) (by omega) (fun j ds h=>?_) rfl rfl rfl rfl rfl
   rcases cD h with⟨rfl,rfl⟩|⟨hj,h⟩
   ·exact ab
   ·exact al hj (al hj h)
  ·refine dwg [74,75] [0,1,2,3,4,5,6,7,8,9,10,11,12,13,14,15,21,16,17,18,19,20,22,23,24] hx (by kernel_rfl) (by kernel_rfl) (by kernel_rfl) fun K hK=>?_
   dsimp only[ez,mZ,na,List.map]
   refine sa ?_
   refine c1 (q9 (t:=0) rfl) ?_
   refine sa ?_
   rw[hmm]
   refine sa ?_
   refine c1 (q9 (t:=1) rfl) ?_
   refine sa ?_
   refine c1 (q9 (t:=2) rfl) ?_
   refine cq (Fz (l:=A) hA1) ?_
   refine s1 (d:=.ag (maC ((m+m:Nat):Int) nn (kW A))) (eh iS) ?_
   refine sa ?_
   refine cq (Fz (l:=B) PA) ?_
   refine sa ?_
   refine c1 (q9 (t:=1) rfl) ?_
   refine cq (Hc (n:=nn) (by omega)) ?_
   refine s1 (d:=.ag (prC ((m+m:Nat):Int) nn (kW A) (kW B) (List.replicate nn (nOf 0)))) (eh m5) ?_
   refine sa ?_
   refine a1 (F:=l8) tbI ?_
   refine q1 (sHC hSB rfl (.inr (Kv (by omega) (by omega)))) ?_
   refine sa ?_
   refine sa ?_
   refine sa ?_
   refine sa ?_
   refine v1 (F2:=xY (3+(7+8*(m+m))) r.1) (ys:=xY (3+(7+8*(m+m))) r.1) (Pt.all (F:=dC l8)) rfl rfl rfl ?_
   refine sa ?_
   refine sa ?_
   refine .nil (hK _ _ ⟨(2,3+(7+8*(m+m))),⟨by omega,by omega,by omega,by omega,by omega⟩,?_⟩)
   refine fin1 _ _ (by omega) (by omega) (by omega) (fun j ds h=>?_) rfl rfl rfl rfl rfl
   rcases cD h with⟨rfl,rfl⟩|⟨hj,h⟩
   ·exact ab
   ·exact al hj (solW_in hj h)
 ·rintro⟨kx,ky⟩ ⟨wq,CG,hxy,AV,hyl⟩
  dsimp only at wq CG hxy AV hyl ⊢
  have hokY1:=hokY ky _ (show 2≤11+8*(m+m) by omega) hyl
  have hY0:=hY ky 0 _ CG hb0
  have hY1:=hY ky 1 _ CG cv
  have hKi:=IG (a:=r.1) hyl
  refine AW.seq (rs hx fun K hK=>?_)
  iterate 3 refine sa ?_
  by_cases he:r.2.2≠0
  ·have my:=heq.trans (if_pos (.inl he))
   have hKf:∃z,xY ky r.1=[dI .i64 r.1.kind,.e (slE ay r.1.x),z,.e (slE ay r.1.ray)]:=⟨_,rfl⟩
   obtain⟨z,hz⟩:=hKf
   rw[hz]
   iterate 3 refine gn (aF he) ?_
   refine s1 (d:=dB true) (ar (aF he)) ?_
   refine .nil (hK _ _ (AW.condT rfl rfl (rs hx fun K hK=>?_)))
   refine sa ?_
   refine v1 (F2:=[dI .i64 r.1.kind,.e (slE ay r.1.x),dN,.e (slE ay r.1.ray)]) (ys:=[dN]) (Pt.cell (F:=[dI .i64 r.1.kind,.e (slE ay r.1.x),z,.e (slE ay r.1.ray)]) (t:=2) rfl) rfl rfl rfl ?_
   refine .nil (hK _ _ (rs hx fun K hK=>?_))
   refine s2 (Bj (Pt.all (F:=[dI .i64 r.1.kind,.e (slE ay r.1.x),dN,.e (slE ay r.1.ray)])) ab (show kx<11+8*(m+m) by omega) ma rfl rfl rfl) (KO ⟨r.1.kind,r.1.x,[],r.1.ray⟩) ?_
   iterate 2 refine sa ?_
   refine v1 (F2:=ry ⟨r.1.kind,r.1.x,[],r.1.ray⟩) (ys:=ry ⟨r.1.kind,r.1.x,[],r.1.ray⟩) (Pt.all (F:=dC l8)) rfl rfl rfl ?_
   iterate 2 refine sa ?_
   exact .nil (hK _ _ (AW.ret (rtE uI my ab (by omega))))
  ·refine ga (bf he) ?_
   refine c1g (Pt.cell (t:=0) rfl) (bf he) ?_
   refine ga (bf he) ?_
   refine s1 (d:=dB (decide (r.1.kind≠2))) (an (bf he)) ?_
   refine .nil (hK _ _ (AW.condS rfl (fun hb=>?_) (fun hb=>?_)))
   ·have my:=heq.trans (if_pos (.inr (da hb)))
    have hKf:∃z,xY ky r.1=[dI .i64 r.1.kind,.e (slE ay r.1.x),z,.e (slE ay r.1.ray)]:=⟨_,rfl⟩
    obtain⟨z,hz⟩:=hKf
    rw[hz]
    refine rs hx fun K hK=>?_
    refine sa ?_
    refine v1 (F2:=[dI .i64 r.1.kind,.e (slE ay r.1.x),dN,.e (slE ay r.1.ray)]) (ys:=[dN]) (Pt.cell (F:=[dI .i64 r.1.kind,.e (slE ay r.1.x),z,.e (slE ay r.1.ray)]) (t:=2) rfl) rfl rfl rfl ?_
    refine .nil (hK _ _ (rs hx fun K hK=>?_))
    refine s2 (Bj (Pt.all (F:=[dI .i64 r.1.kind,.e (slE ay r.1.x),dN,.e (slE ay r.1.ray)])) ab (show kx<11+8*(m+m) by omega) ma rfl rfl rfl) (KO ⟨r.1.kind,r.1.x,[],r.1.ray⟩) ?_
    iterate 2 refine sa ?_
    refine v1 (F2:=ry ⟨r.1.kind,r.1.x,[],r.1.ray⟩) (ys:=ry ⟨r.1.kind,r.1.x,[],r.1.ray⟩) (Pt.all (F:=dC l8)) rfl rfl rfl ?_
    iterate 2 refine sa ?_
    exact .nil (hK _ _ (AW.ret (rtE uI my ab (by omega))))
   ·have hk:r.1.kind=2:=Decidable.not_not.1 (d8 hb)
    have my:=heq.trans (if_neg (by rintro (h|h);exact he h;exact h hk))
    obtain⟨hyl2,DV,hray0,_⟩:=Al hk
    refine AW.skip ?_
    obtain⟨y,Ot⟩:∃y,y=r.1.y:=⟨_,rfl⟩
    obtain⟨KC,hKC⟩:∃KC,KC=[dI .i64 2,.e (slE ay []),.gw ky 36 (m+m),.e (slE ay [])]:=⟨_,rfl⟩
    have hKe:xY ky r.1=KC:=by unfold xY;rw[if_pos hk,hk,DV,hray0,hyl2,hKC]
    have hWe:uR ky r.1++base=(ky,dC ((cW ay).f y))::base:=by unfold uR;rw[if_pos hk,Ot];rfl
    have mq:KC[2]? =some (.gw ky 36 (m+m)):=by rw[hKC];rfl
    have hKl:KC.length=4:=by rw[hKC];rfl
    rw[hKe] at hKi
    rw[hKe,hWe]
    rw[hk,DV,hray0,←Ot] at my
    rw[←Ot] at hyl2
    have hokB:=JF (11+8*(m+m)) (by omega)
    refine rs hx fun K hK=>?_
    refine sa ?_
    refine c1 (Pt.cell mq) ?_
    refine sa ?_
    refine c1 (q9 (t:=0) rfl) ?_
    refine sa ?_
    refine c1 (q9 (t:=0) rfl) ?_
    refine q1 (sliceG tok aH aw rfl rfl rfl (by omega)) ?_
    refine sa ?_
    refine .nil (hK _ _ (AW.seq (rs hx fun K hK=>?_)))
    refine sa ?_
    refine s1 (AE (k:=ky) (off:=0) (z:=36) aH aw rfl rfl) ?_
    refine sa ?_
    refine .nil (hK _ _ (AW.block (AW.loopW (fun i:Nat=>[(3,.pt 0 0),(6,.pt 1 0),(9,.pt kx 0),(10,dI .i64 r.2.1),(11,dI .i64 r.2.2),(12,.ow ky 0 36 m),(63,dI .i64 m),(64,dI .i64 i)]) (fun i=>⟨(ky,dC ((cW ay).f (ylP y m i)))::(kx,KC)::base,[],11+8*(m+m)⟩) (fun i=>i≤m) (fun i=>m - i) 0 ?_ (cX _) ?_)))
    ·exact wk1 uI
    ·intro i hi
     have hyi:(ylP y m i).length=m+m:=by rw[yk];exact hyl2
     refine rs hx fun K hK=>?_
     refine sa ?_
     refine .nil (hK _ _ (AW.seq (AW.condS rfl (fun hb=>?_) (fun hb=>?_))))
     ·have zG:i<m:=by have:=da hb;omega
      refine AW.skip (AW.seq (AW.block (rs hx fun K hK=>?_)))
      iterate 2 refine sa ?_
      refine .nil (hK _ _ (rqd [76] hx fun K hK=>?_))
      iterate 4 refine sa ?_
      refine i1 (i:=i) (n:=m) zG ?_
      refine l1 (Pt.el (ylP y m i) i (by omega)) ?_
      refine sa ?_
      refine c1 (Pt.cell mq) ?_
      refine sa ?_
      refine c1 (q9 (t:=0) rfl) ?_
      iterate 2 refine sa ?_
      rw[qB (by omega)]
      refine stG (d:=.pt ky ((m+i)*36)) tok (iaN (k:=ky) (i:=m+i) (n:=m+m) (by omega) rfl rfl) ?_
      refine l1 (Pt.el (ylP y m i) (m+i) (by omega)) ?_
      refine cq (w_Sub _ _) ?_
      refine i1 (i:=i) (n:=m) zG ?_
      refine t1 (Pt.el (ylP y m i) i (by omega)) (Pt.el_set (ylP y m i) i (by omega) _) ?_
      refine .nil (hK _ _ ?_)
      rw[show (ylP y m i).set i (FX (ylP y m i)[i]! (ylP y m i)[m+i]!)=ylP y m (i+1) from rfl]
      refine rq hx fun K hK=>?_
      iterate 2 refine sa ?_
      refine .nil (hK _ _ ?_)
      rw[cm (by omega)]
      exact⟨i+1,wk1 uI,zG,by omega⟩
     ·refine AW.exit ?_
      have zG:m=i:=by have:=d8 hb;omega
      subst zG
      obtain⟨ys,hys⟩:∃ys,ys=(List.range m).map fun i=>FX y[i]! y[m+i]! :=⟨_,rfl⟩
      rw[←hys] at my
      have hysl:ys.length=m:=by rw[hys];simp
      have DX:E.sl 36 m (((cW ay).f (ylP y m m)).take (m*36))=slE ay ys:=by
       have h2:=kE ay.f ay.h (ylP y m m) m
       rw[ylP_all hyl2,←hys] at h2
       show E.sl 36 m (((ylP y m m).flatMap ay.f).take (m*36))=E.sl 36 ys.length (ys.flatMap ay.f)
       rw[hysl,←h2]
       rfl
      have hfl:(((ky,dC ((cW ay).f (ylP y m m)))::(kx,KC)::base).filter fun p=>!([ky]:List Nat).contains p.1)=(kx,KC)::base:=by
       rw[me]
       have a1:¬kx=ky:=hxy
       have a2:¬1=ky:=by omega
       have a3:¬0=ky:=by omega
       simp[a1,a2,a3]
      have hfz:=WkS.frz2 (tm:=[(65,dB (decide ((m:Int)<(m:Int)))),(3,.pt 0 0),(6,.pt 1 0),(9,.pt kx 0),(10,dI .i64 r.2.1),(11,dI .i64 r.2.2),(12,.ow ky 0 36 m),(63,dI .i64 m),(64,dI .i64 m)]) (vs:=(ky,dC ((cW ay).f (ylP y m m)))::(kx,KC)::base) (lv:=[]) (N:=11+8*(m+m)) (t:=12) (k:=ky) (z:=36) (n:=m) (F:=(cW ay).f (ylP y m m)) (by decide) rfl ab (by
       have:((cW ay).f (ylP y m m)).length=(ylP y m m).length*36:=iB ay.f ay.h _
       rw[this,hyi];omega)
      rw[hfl,DX] at hfz
      refine AW.weak (tm':=(12,.e (slE ay ys))::[(65,dB (decide ((m:Int)<(m:Int)))),(3,.pt 0 0),(6,.pt 1 0),(9,.pt kx 0),(10,dI .i64 r.2.1),(11,dI .i64 r.2.2),(12,.ow ky 0 36 m),(63,dI .i64 m),(64,dI .i64 m)]) (hp':=⟨(kx,KC)::base,[],11+8*(m+m)⟩) (fun _ _ hr=>hfz.rs hr) (AW.seq (rs hx fun K hK=>?_))
      refine sa ?_
      refine cq (LC (c:=ys) (by omega)) ?_
      refine sa ?_
      refine .nil (hK _ _ (AW.condS rfl (fun hb=>?_) (fun hb=>?_)))
      ·have my:=my.trans (if_neg (by simpa using hb))
       refine rs hx fun K hK=>?_
       refine s2 (eh tbI) Gc ?_
       refine v1 (F2:=ry ⟨0,[],[],[]⟩) (ys:=ry ⟨0,[],[],[]⟩) (Pt.all (F:=dC l8)) rfl rfl rfl ?_
       iterate 2 refine sa ?_
       exact .nil (hK _ _ (AW.ret (rtE uI my ab (by omega))))
      ·have my:=my.trans (if_pos (by simpa using hb))
       refine AW.skip (rs hx fun K hK=>?_)
       iterate 2 refine sa ?_
       refine v1 (F2:=ry ⟨2,[],ys,[]⟩) (ys:=[.e (slE ay ys)]) (Pt.cell mq) rfl rfl (by rw[hKC];rfl) ?_
       refine .nil (hK _ _ (rs hx fun K hK=>?_))
       refine p1 (Pt.all (F:=ry ⟨2,[],ys,[]⟩)) rfl ?_
       refine sa ?_
       refine v1 (F2:=ry ⟨2,[],ys,[]⟩) (ys:=ry ⟨2,[],ys,[]⟩) (Pt.all (F:=dC l8)) rfl rfl rfl ?_
       iterate 2 refine sa ?_
       exact .nil (hK _ _ (AW.ret (rtE uI my ab (by omega))))
end
end
section
structure VS(a:et)(b:List ao)(m nn:Nat):Prop where
 hr:a.vR=m
 hc:a.vC=nn
 hm:m≤1000
 hn:nn≤2000
 oA:okL a.vV
 oB:okL b
 lA:a.vV.length=m*nn
 lB:b.length=m
 l1:a.vV.length≤1000000
 gA:∀i,i<(kW (a.vV.map m9)).length→aW (kW (a.vV.map m9))[i]! =true
 gB:∀i,i<(kW (b.map m9)).length→aW (kW (b.map m9))[i]! =true
 v:g6 ⟨⟨((m+m:Nat):Int),nn,(kW (a.vV.map m9)).map nv⟩,(kW (b.map m9)).map nv,(List.replicate nn (nOf 0)).map nv⟩=some true
open Classical in
def lI(aJ:et)(aQ:List ao)(kU:Int):Option (bP×Int×Int):=
 bnd (ge aJ aQ) fun v=>if v=true∧0≤kU then
  if VS aJ aQ aJ.vR.toNat aJ.vC.toNat∧kU≤9223372036854775807 then some (ud (xV aJ.vR.toNat aJ.vC.toNat (aJ.vV.map m9) (aQ.map m9) kU)) else none
 else some (ud (⟨0,[],[],[]⟩,0,1))
theorem VS.cells {a:et}{b:List ao}{m nn:Nat}(h:VS a b m nn):dG eN a=.ag (maC m nn (a.vV.map m9))∧dL ai b=.e (slE ay (b.map m9)):=by
 unfold maC
 rw[kT,kT,sY h.oA,sY h.oB,←h.hr,←h.hc]
 exact⟨rfl,rfl⟩
theorem Qb(R Cc:Int)(A B C:List Nu):dG b9 ⟨⟨R,Cc,A.map nv⟩,B.map nv,C.map nv⟩=.ag (prC R Cc A B C):=by
 unfold prC
 rw[kT,kT,kT]
 rfl
theorem ar_eq(r:Ans×Int×Int):AR (eqH r) (eqD r) (.tu [dG dJ (ud r).1,dI .i64 (ud r).2.1,dI .i64 (ud r).2.2]):=by
 have e:dG dJ (ud r).1=.ag (ry r.1):=by
  unfold ry
  rw[kT,kT,kT];rfl
 rw[e]
 exact AR.tu ⟨AR.same rfl,AR.dn rfl,AR.dn rfl,trivial⟩
theorem Px {cs:List D}{b:E}{v:Bool}{most:Int}(hlen:cs.length=3)(hpu:(D.ag cs).pure=true)(hv:ax Tryz.prog 73 [.ag cs,.e b] (dB v))(hbad:¬(v=true∧0≤most)):
  HC Tryz.prog 21 [.ag cs,.e b,dI .i64 most] ⟨[],[],0⟩ (eqD (⟨0,[],[],[]⟩,0,1)) (eqH (⟨0,[],[],[]⟩,0,1)):=by
 refine HC.of (rs:=[.cell 6 29,.tmp 7,.tmp 8]) tok Tryz.func21 rfl rfl (dK rfl) rfl (fun cx hx uI hok=>?_)
 simp only[fS,Nat.reduceAdd,bJ]
 refine rs hx fun K hK=>?_
 refine s1 (fB (cs:=cs)) ?_
 refine a1 (F:=l8) tbI ?_
 iterate 2 refine sa ?_
 refine .nil (hK _ _ (AW.seq (rs hx fun K hK=>?_)))
 refine p1 (ht:=iS) (Pt.all (F:=cs)) hlen ?_
 refine sa ?_
 refine q1 (sHC (HC.frz (ds:=[.ag cs,.e b]) hv ⟨AR.same hpu,AR.same rfl,trivial⟩ rfl) rfl (.inr (Fr.refl _))) ?_
 iterate 2 refine sa ?_
 cases v with
 |false=>
  iterate 2 refine gn rfl ?_
  refine s1 (d:=dB true) (ar rfl) ?_
  refine .nil (hK _ _ (AW.condT rfl rfl (rs hx fun K hK=>?_)))
  refine s2 (eh tbI) Gc ?_
  refine v1 (F2:=ry ⟨0,[],[],[]⟩) (ys:=ry ⟨0,[],[],[]⟩) (Pt.all (F:=dC l8)) rfl rfl rfl ?_
  iterate 2 refine sa ?_
  exact .nil (hK _ _ (AW.ret (rtE uI rfl ab (by omega))))
 |true=>
  iterate 2 refine ga rfl ?_
  refine s1 (d:=dB (decide (most<0))) (an rfl) ?_
  refine .nil (hK _ _ (AW.condT rfl (aF (by simp only[true_and] at hbad;omega)) (rs hx fun K hK=>?_)))
  refine s2 (eh tbI) Gc ?_
  refine v1 (F2:=ry ⟨0,[],[],[]⟩) (ys:=ry ⟨0,[],[],[]⟩) (Pt.all (F:=dC l8)) rfl rfl rfl ?_
  iterate 2 refine sa ?_
  exact .nil (hK _ _ (AW.ret (rtE uI rfl ab (by omega))))
theorem uz {aJ:et}{aQ:List ao}{kU:Int}{r:bP×Int×Int}(h:lI aJ aQ kU=some r):ax Tryz.prog 21 [dG eN aJ,dL ai aQ,dI .i64 kU] (.tu [dG dJ r.1,dI .i64 r.2.1,dI .i64 r.2.2]):=by
 unfold lI at h
 obtain⟨v,hv,h⟩:=ae h
 have hv:=qT hv
 by_cases hg:v=true∧0≤kU
 ·rw[if_pos hg] at h
  by_cases hq:VS aJ aQ aJ.vR.toNat aJ.vC.toNat∧kU≤9223372036854775807
  ·rw[if_pos hq] at h
   have h:=bW h
   subst h
   obtain⟨hq,O1⟩:=hq
   have hV:=p7 hq.v
   rw[Qb] at hV
   rw[hg.1] at hv
   rw[hq.cells.1,hq.cells.2] at hv ⊢
   have h2:=h_Equal (most:=kU) hv hV hq.hm hq.hn (by rw[bw];exact hq.lA) (by rw[bw];exact hq.lB) hq.gA hq.gB (by rw[bw];exact hq.l1) hg.2 O1
   exact HC.toP h2 (ar_eq _)
  ·rw[if_neg hq] at h;cases h
 ·rw[if_neg hg] at h
  have h:=bW h
  subst h
  have h2:=Px (cs:=dC (eN.f aJ)) (b:=slE ai aQ) ((eT _).trans (eN.h aJ)) (ii eN aJ) hv hg
  exact HC.toP h2 (ar_eq _)
end
end
end Go.Proofs.YtaedcknhkjpmlaaGreat
