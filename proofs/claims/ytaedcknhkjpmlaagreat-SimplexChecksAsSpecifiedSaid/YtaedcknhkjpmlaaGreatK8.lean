/-
  Lemmas, part 8. Conditions: none.
-/
import Derived.Test.YtaedcknhkjpmlaaGreatK7
import Derived.Test.YtaedcknhkjpmlaaGreatRows
import Derived.ProofKit
import Derived.OpenShut
import Derived.ChangeSame
import Derived.Deep.Slices
import Derived.JoinedCond
import Derived.SizedLaws
import Derived.Deep.CondSized
set_option linter.all false
set_option maxRecDepth 100000
namespace Go.Proofs.YtaedcknhkjpmlaaGreat
open Go.RowKit Go.IntKind
noncomputable section
def oI(eZ:List ao):Int→Option (Int⊕(Bool⊕Unit)):=fun aL=>cnd (decide (aL<((eZ).length:Int))) (gd (0≤aL∧aL<((eZ).length:Int)) (bnd (bT ((eZ)[(aL).toNat]!)) fun x4=>cnd (!x4) (some (.inr (.inl false))) (some (.inl (i64.wrap (aL+(1:Int))))))) (some (.inr (.inr ())))
def kM(eZ:List ao):Option Bool:=bnd (bL (oI eZ) (0:Int)) fun y7=>match y7 with| .inl r=>some r| .inr ()=>some true
theorem r4 {eZ:List ao}{r:Bool}(h:kM eZ=some r):ax Tryz.prog 64 [dL ai eZ] (dB r):=by
 refine bC (rs:=[.tmp 2]) (fun cx hx h0=>?_) Tryz.func64
 unfold kM at h
 refine ra hx ?_
 refine AW.seq (ra hx ?_)
 refine AW.block ?_
 obtain⟨y,hy,h⟩:=ae h
 refine lp (S:=Int) (X:=Bool⊕Unit) (fun aL=>[(0,dL ai eZ),(3,dI .i64 aL)]) (fun aL=>⟨[],[],0⟩) (PS (PR [.tmp 2] fun r=>dB r) (PE cx (.exit 0) (fun ()=>[]) fun ()=>⟨[],[],0⟩)) hy ?_ ?_ ?_
 exact wk h0 [] (wR rfl (wR rfl wTn)) wVn wLn
 clear hy h
 rintro aL y h
 dsimp only[oI] at h
 refine AW.seq (ra hx ?_)
 refine cdh h rfl (fun cv h=>?_) (fun cv h=>?_)
 refine AW.skip (AW.seq (AW.block (rs hx fun K hK=>?_)))
 iterate 2 refine sa ?_
 obtain⟨mq,h⟩:=aD h
 have qD:(aL).toNat<(eZ).length:=by omega
 refine s1 (gV mq aH aw) ?_
 refine s1 (d:=dG ai ((eZ)[(aL).toNat]!)) (mj (c:=ai) (l:=eZ) (n:=(aL).toNat) (o:=0) aw qD (fm _ _ rfl)) ?_
 refine scb h eJ fun x4 h=>?_
 refine sa ?_
 refine .nil (hK _ _ (ra hx ?_))
 refine cdh h rfl (fun fC h=>?_) (fun fC h=>?_)
 refine ra hx ?_
 refine AW.ret ?_
 cases h
 refine PS.r ⟨by nofun,PS.l (PR.i ?_)⟩
 exact rv1
 refine AW.skip (rb hx ?_)
 cases h
 exact PS.l (pe0 h0 [])
 refine AW.exit ?_
 try dsimp only
 try simp only[aS,reduceIte,Nat.reduceEqDiff,reduceCtorEq]
 cases h
 exact PS.r ⟨by nofun,PS.r (PE.i (wk h0 [] wTn wVn wLn))⟩
 rcases y with r|⟨⟩
 rintro ex tm' hp' ⟨rfl,hw⟩
 cases h
 exact hw
 rintro ex tm' hp' ⟨rfl,hw⟩
 try dsimp only
 try simp only[aS,reduceIte,Nat.reduceEqDiff,reduceCtorEq]
 refine AW.weak hw (ra hx ?_)
 refine AW.ret ?_
 cases h
 exact rv1
def mD(aJ:et)(iZ:Int)(Cp:Int):Option Bool:=bnd (S:=Bool) (cnd (decide ((0:Int)≤aJ.vR)) (cnd (decide ((0:Int)≤aJ.vC)) (cnd (decide (aJ.vR≤iZ)) (cnd (decide (aJ.vC≤Cp)) (cnd (decide (((aJ.vV).length:Int)=(i64.wrap (aJ.vR*aJ.vC)))) (bnd (kM aJ.vV) fun x6=>some (x6)) (some (false))) (some (false))) (some (false))) (some (false))) (some (false))) fun bI=>some bI
set_option maxHeartbeats 4000000 in
theorem B6 {aJ:et}{iZ:Int}{Cp:Int}{r:Bool}(h:mD aJ iZ Cp=some r):ax Tryz.prog 63 [dG eN aJ,dI .i64 iZ,dI .i64 Cp] (dB r):=by
 refine bC (rs:=[.tmp 6]) (fun cx hx h0=>?_) Tryz.func63
 unfold mD at h
 refine rs hx fun K hK=>?_
 refine s1 (d:=.pt 0 0) fB ?_
 refine sa ?_
 refine .nil (hK _ _ (AW.seq ?_))
 obtain⟨bI,hy,h⟩:=ae h
 refine jn ((PE cx .normal (fun bI=>[(6,dB bI)]) fun bI=>⟨[],[],0⟩) bI) ?_ ?_
 replace h:=hy
 refine rq hx fun K hK=>?_
 refine sa ?_
 refine s1 (aX bE) ?_
 iterate 2 refine sa ?_
 rcases az (decide ((0:Int)≤aJ.vR)) with cv|cv
 replace h:=aO cv h
 refine ga cv ?_
 refine g1 cv (aX bE) ?_
 refine ga cv ?_
 refine s1 (ar cv) ?_
 refine sa ?_
 rcases az (decide ((0:Int)≤aJ.vC)) with ly|ly
 replace h:=aO ly h
 refine ga ly ?_
 refine g1 ly (aX bE) ?_
 iterate 2 refine ga ly ?_
 refine s1 (ar ly) ?_
 refine sa ?_
 rcases az (decide (aJ.vR≤iZ)) with a8|a8
 replace h:=aO a8 h
 refine ga a8 ?_
 refine g1 a8 (aX bE) ?_
 iterate 2 refine ga a8 ?_
 refine s1 (ar a8) ?_
 refine sa ?_
 rcases az (decide (aJ.vC≤Cp)) with gO|gO
 replace h:=aO gO h
 refine ga gO ?_
 refine g1 gO (aX aH) ?_
 iterate 2 refine ga gO ?_
 refine g1 gO (aX bE) ?_
 refine ga gO ?_
 refine g1 gO (aX bE) ?_
 iterate 2 refine ga gO ?_
 refine s1 (ar gO) ?_
 refine sa ?_
 rcases az (decide (((aJ.vV).length:Int)=(i64.wrap (aJ.vR*aJ.vC)))) with dy|dy
 replace h:=aO dy h
 refine ga dy ?_
 refine g1 dy (aX aH) ?_
 obtain⟨x6,rT,h⟩:=ae h
 refine g1 dy (bb rfl (r4 rT) rfl (lA (ap _) lAn) (.inl rfl)) ?_
 refine s1 (ar dy) ?_
 refine sa ?_
 refine .nil (hK _ _ ?_)
 cases h
 exact pe0 h0 []
 replace h:=aP dy h
 iterate 3 refine aG rfl rfl dy ?_
 refine s1 (an dy) ?_
 refine sa ?_
 refine .nil (hK _ _ ?_)
 cases h
 exact pe0 h0 []
 replace h:=aP gO h
 iterate 9 refine aG rfl rfl gO ?_
 refine s1 (an gO) ?_
 refine sa ?_
 iterate 3 refine aG rfl rfl rfl ?_
 refine s1 (an rfl) ?_
 refine sa ?_
 refine .nil (hK _ _ ?_)
 cases h
 exact pe0 h0 []
 replace h:=aP a8 h
 iterate 4 refine aG rfl rfl a8 ?_
 refine s1 (an a8) ?_
 refine sa ?_
 iterate 9 refine aG rfl rfl rfl ?_
 refine s1 (an rfl) ?_
 refine sa ?_
 iterate 3 refine aG rfl rfl rfl ?_
 refine s1 (an rfl) ?_
 refine sa ?_
 refine .nil (hK _ _ ?_)
 cases h
 exact pe0 h0 []
 replace h:=aP ly h
 iterate 4 refine aG rfl rfl ly ?_
 refine s1 (an ly) ?_
 refine sa ?_
 iterate 4 refine aG rfl rfl rfl ?_
 refine s1 (an rfl) ?_
 refine sa ?_
 iterate 9 refine aG rfl rfl rfl ?_
 refine s1 (an rfl) ?_
 refine sa ?_
 iterate 3 refine aG rfl rfl rfl ?_
 refine s1 (an rfl) ?_
 refine sa ?_
 refine .nil (hK _ _ ?_)
 cases h
 exact pe0 h0 []
 replace h:=aP cv h
 iterate 3 refine aG rfl rfl cv ?_
 refine s1 (an cv) ?_
 refine sa ?_
 iterate 4 refine aG rfl rfl rfl ?_
 refine s1 (an rfl) ?_
 refine sa ?_
 iterate 4 refine aG rfl rfl rfl ?_
 refine s1 (an rfl) ?_
 refine sa ?_
 iterate 9 refine aG rfl rfl rfl ?_
 refine s1 (an rfl) ?_
 refine sa ?_
 iterate 3 refine aG rfl rfl rfl ?_
 refine s1 (an rfl) ?_
 refine sa ?_
 refine .nil (hK _ _ ?_)
 cases h
 exact pe0 h0 []
 rintro ex tm' hp' ⟨rfl,hw⟩
 refine AW.weak hw (AW.ret ?_)
 cases h
 exact rv1
def ny(nV:bR):Option Bool:=bnd (mD nV.vA (2000:Int) (2000:Int)) fun x1=>bnd (S:=Bool) (cnd x1 (cnd (decide (((nV.vB).length:Int)=nV.vA.vR)) (cnd (decide (((nV.vC).length:Int)=nV.vA.vC)) (bnd (kM nV.vB) fun x6=>cnd x6 (bnd (kM nV.vC) fun x9=>some (x9)) (some (false))) (some (false))) (some (false))) (some (false))) fun jQ=>some jQ
set_option maxHeartbeats 4000000 in
theorem Ed {nV:bR}{r:Bool}(h:ny nV=some r):ax Tryz.prog 16 [dG b9 nV] (dB r):=by
 refine bC (rs:=[.tmp 2]) (fun cx hx h0=>?_) Tryz.func16
 unfold ny at h
 refine rs hx fun K hK=>?_
 refine s1 (d:=.pt 0 0) fB ?_
 refine sa ?_
 refine .nil (hK _ _ (rs hx fun K hK=>?_))
 refine sa ?_
 refine s1 (d:=dG eN nV.vA) (fV iS) ?_
 refine scb h B6 fun x1 h=>?_
 refine sa ?_
 refine .nil (hK _ _ (AW.seq ?_))
 obtain⟨jQ,hy,h⟩:=ae h
 refine jn ((PE cx .normal (fun jQ=>[(2,dB jQ)]) fun jQ=>⟨[],[],0⟩) jQ) ?_ ?_
 replace h:=hy
 refine rq hx fun K hK=>?_
 iterate 2 refine sa ?_
 rcases az x1 with a8|a8
 replace h:=aO a8 h
 refine ga a8 ?_
 refine g1 a8 (aX aH) ?_
 iterate 3 refine ga a8 ?_
 refine g1 a8 (aX bE) ?_
 refine ga a8 ?_
 refine s1 (ar a8) ?_
 refine sa ?_
 rcases az (decide (((nV.vB).length:Int)=nV.vA.vR)) with gO|gO
 replace h:=aO gO h
 refine ga gO ?_
 refine g1 gO (aX aH) ?_
 iterate 3 refine ga gO ?_
 refine g1 gO (aX bE) ?_
 refine ga gO ?_
 refine s1 (ar gO) ?_
 refine sa ?_
 rcases az (decide (((nV.vC).length:Int)=nV.vA.vC)) with dy|dy
 replace h:=aO dy h
 refine ga dy ?_
 refine g1 dy (aX aH) ?_
 obtain⟨x6,rT,h⟩:=ae h
 refine g1 dy (bb rfl (r4 rT) rfl (lA (ap _) lAn) (.inl rfl)) ?_
 refine s1 (ar dy) ?_
 refine sa ?_
 rcases az x6 with ju|ju
 replace h:=aO ju h
 refine ga ju ?_
 refine g1 ju (aX aH) ?_
 obtain⟨x9,vw,h⟩:=ae h
 refine g1 ju (bb rfl (r4 vw) rfl (lA (ap _) lAn) (.inl rfl)) ?_
 refine s1 (ar ju) ?_
 refine sa ?_
 refine .nil (hK _ _ ?_)
 cases h
 exact pe0 h0 []
 replace h:=aP ju h
 iterate 3 refine aG rfl rfl ju ?_
 refine s1 (an ju) ?_
 refine sa ?_
 refine .nil (hK _ _ ?_)
 cases h
 exact pe0 h0 []
 replace h:=aP dy h
 iterate 3 refine aG rfl rfl dy ?_
 refine s1 (an dy) ?_
 refine sa ?_
 iterate 3 refine aG rfl rfl rfl ?_
 refine s1 (an rfl) ?_
 refine sa ?_
 refine .nil (hK _ _ ?_)
 cases h
 exact pe0 h0 []
 replace h:=aP gO h
 iterate 7 refine aG rfl rfl gO ?_
 refine s1 (an gO) ?_
 refine sa ?_
 iterate 3 refine aG rfl rfl rfl ?_
 refine s1 (an rfl) ?_
 refine sa ?_
 iterate 3 refine aG rfl rfl rfl ?_
 refine s1 (an rfl) ?_
 refine sa ?_
 refine .nil (hK _ _ ?_)
 cases h
 exact pe0 h0 []
 replace h:=aP a8 h
 iterate 7 refine aG rfl rfl a8 ?_
 refine s1 (an a8) ?_
 refine sa ?_
 iterate 7 refine aG rfl rfl rfl ?_
 refine s1 (an rfl) ?_
 refine sa ?_
 iterate 3 refine aG rfl rfl rfl ?_
 refine s1 (an rfl) ?_
 refine sa ?_
 iterate 3 refine aG rfl rfl rfl ?_
 refine s1 (an rfl) ?_
 refine sa ?_
 refine .nil (hK _ _ ?_)
 cases h
 exact pe0 h0 []
 rintro ex tm' hp' ⟨rfl,hw⟩
 refine AW.weak hw (AW.ret ?_)
 cases h
 exact rv1
def jC(lR:List ao)(aU:List ao):Int×ao→Option ((Int×ao)⊕ao):=fun (bz,rM)=>cnd (decide (bz<((lR).length:Int))) (gd (0≤bz∧bz<((lR).length:Int)) (gd (0≤bz∧bz<((aU).length:Int)) (bnd (jE ((lR)[(bz).toNat]!) ((aU)[(bz).toNat]!)) fun o7=>bnd (jG rM o7) fun nD=>some (.inl (i64.wrap (bz+(1:Int)),nD))))) (some (.inr rM))
def fD(lR:List ao)(aU:List ao):Option ao:=cnd (decide (((lR).length:Int)≠((aU).length:Int))) (bnd (jF) fun x2=>some x2) (bnd (kY (0:Int)) fun x4=>bnd (bL (jC lR aU) ((0:Int),x4)) fun ls=>some ls)
set_option maxHeartbeats 4000000 in
theorem lQ {lR:List ao}{aU:List ao}{r:ao}(h:fD lR aU=some r):ax Tryz.prog 18 [dL ai lR,dL ai aU] (dG ai r):=by
 refine bC (rs:=[.cell 4 43]) (fun cx hx h0=>?_) Tryz.func18
 unfold fD at h
 refine rs hx fun K hK=>?_
 refine s1 (be (F:=ai.f cG) aw) ?_
 refine .nil (hK _ _ (AW.seq (ra hx ?_)))
 refine cdh h rfl (fun cv h=>?_) (fun cv h=>?_)
 refine rs hx fun K hK=>?_
 refine scb h r5 fun x2 h=>?_
 refine s0 (aE (b':=x2) (ak.id _ _) aw) ?_
 refine .nil (hK _ _ (AW.ret ?_))
 cases h
 exact rv1
 refine AW.skip (rs hx fun K hK=>?_)
 refine scb h tL fun x4 h=>?_
 refine s1 (be (F:=ai.f cG) aw) ?_
 refine s0 (aE (b':=x4) (ak.id _ _) aw) ?_
 refine .nil (hK _ _ (AW.seq (ra hx ?_)))
 refine AW.block ?_
 obtain⟨ls,hy,h⟩:=ae h
 refine lp (S:=Int×ao) (X:=ao) (fun (bz,rM)=>[(0,dL ai lR),(1,dL ai aU),(4,.pt 0 0),(5,.pt 1 0),(6,dI .i64 bz)]) (fun (bz,rM)=>⟨[(0,dC (ai.f cG)),(1,dC (ai.f rM))],[],2⟩) (PE cx (.exit 0) (fun ls=>[(4,.pt 0 0),(5,.pt 1 0)]) fun ls=>⟨[(0,dC (ai.f cG)),(1,dC (ai.f ls))],[],2⟩) hy ?_ ?_ ?_
 exact wk h0 [0,1] (wR rfl (wR rfl (wR rfl (wR rfl (wR rfl wTn))))) (vC rfl (vC rfl wVn)) wLn
 clear hy h
 rintro⟨bz,rM⟩ y h
 dsimp only[jC] at h
 refine AW.seq (ra hx ?_)
 refine cdh h rfl (fun fC h=>?_) (fun fC h=>?_)
 refine AW.skip (AW.seq (AW.block (rqd [70,69] hx fun K hK=>?_)))
 refine s1 (d:=dG ai rM) (aq (ak.id _ _) aw) ?_
 iterate 2 refine sa ?_
 obtain⟨JO,h⟩:=aD h
 have G6:(bz).toNat<(lR).length:=by omega
 refine s1 (gV JO aH aw) ?_
 refine s1 (d:=dG ai ((lR)[(bz).toNat]!)) (mj (c:=ai) (l:=lR) (n:=(bz).toNat) (o:=0) aw G6 (fm _ _ rfl)) ?_
 iterate 2 refine sa ?_
 obtain⟨hc9,h⟩:=aD h
 have JK:(bz).toNat<(aU).length:=by omega
 refine s1 (gV hc9 aH aw) ?_
 refine s1 (d:=dG ai ((aU)[(bz).toNat]!)) (mj (c:=ai) (l:=aU) (n:=(bz).toNat) (o:=0) aw JK (fm _ _ rfl)) ?_
 refine cqb h Hg fun o7 h=>?_
 refine cqb h Hh fun nD h=>?_
 refine s0 (aE (b':=nD) (ak.id _ _) aw) ?_
 refine .nil (hK _ _ (rb hx ?_))
 cases h
 exact PS.l (pe0 h0 [0,1])
 refine AW.exit ?_
 try dsimp only
 try simp only[aS,reduceIte,Nat.reduceEqDiff,reduceCtorEq]
 cases h
 exact PS.r ⟨by nofun,PE.i (wk h0 [0,1] (wR rfl (wR rfl wTn)) (vC rfl (vC rfl wVn)) wLn)⟩
 rintro ex tm' hp' ⟨rfl,hw⟩
 try dsimp only
 try simp only[aS,reduceIte,Nat.reduceEqDiff,reduceCtorEq]
 refine AW.weak hw (rs hx fun K hK=>?_)
 refine s1 (d:=dG ai ls) (aq (ak.id _ _) aw) ?_
 refine s0 (aE (b':=ls) (ak.id _ _) aw) ?_
 refine .nil (hK _ _ (AW.ret ?_))
 cases h
 exact rv1
def gD(eZ:List ao)(cy:Int):Int→Option (Int⊕(Bool⊕Unit)):=fun eE=>cnd (decide (eE<cy)) (gd (0≤eE∧eE<((eZ).length:Int)) (bnd (jD ((eZ)[(eE).toNat]!)) fun x9=>cnd (decide (x9<(0:Int))) (some (.inr (.inl false))) (some (.inl (i64.wrap (eE+(1:Int))))))) (some (.inr (.inr ())))
def eK(eZ:List ao)(cy:Int):Option Bool:=bnd (S:=Bool) (cnd (decide (((eZ).length:Int)≠cy)) (some (true)) (bnd (kM eZ) fun x2=>some (!x2))) fun cZ=>cnd cZ (some false) (bnd (bL (gD eZ cy) (0:Int)) fun y12=>match y12 with| .inl r=>some r| .inr ()=>some true)
set_option maxHeartbeats 4000000 in
theorem j7 {eZ:List ao}{cy:Int}{r:Bool}(h:eK eZ cy=some r):ax Tryz.prog 134 [dL ai eZ,dI .i64 cy] (dB r):=by
 refine bC (rs:=[.tmp 4]) (fun cx hx h0=>?_) Tryz.func134
 unfold eK at h
 refine ra hx ?_
 iterate 2 refine AW.seq ?_
 obtain⟨cZ,hy,h⟩:=ae h
 refine jn ((PE cx .normal (fun cZ=>[(0,dL ai eZ),(1,dI .i64 cy),(14,dB cZ)]) fun cZ=>⟨[],[],0⟩) cZ) ?_ ?_
 replace h:=hy
 refine rq hx fun K hK=>?_
 iterate 5 refine sa ?_
 rcases az (decide (((eZ).length:Int)≠cy)) with cv|cv
 replace h:=aO cv h
 iterate 3 refine aG rfl rfl cv ?_
 refine s1 (ar cv) ?_
 refine .nil (hK _ _ ?_)
 cases h
 exact pe0 h0 []
 replace h:=aP cv h
 refine ga cv ?_
 obtain⟨x2,Gi,h⟩:=ae h
 refine g1 cv (bb rfl (r4 Gi) rfl (lA (ap _) lAn) (.inl rfl)) ?_
 refine ga cv ?_
 refine s1 (an cv) ?_
 refine .nil (hK _ _ ?_)
 cases h
 exact pe0 h0 []
 rintro ex tm' hp' ⟨rfl,hw⟩
 refine AW.weak hw (cdh h rfl (fun dy h=>?_) (fun dy h=>?_))
 refine ra hx ?_
 refine AW.ret ?_
 cases h
 exact rv1
 refine AW.skip (AW.seq (ra hx ?_))
 refine AW.block ?_
 obtain⟨y,hy,h⟩:=ae h
 refine lp (S:=Int) (X:=Bool⊕Unit) (fun eE=>[(0,dL ai eZ),(1,dI .i64 cy),(5,dI .i64 eE)]) (fun eE=>⟨[],[],0⟩) (PS (PR [.tmp 4] fun r=>dB r) (PE cx (.exit 0) (fun ()=>[]) fun ()=>⟨[],[],0⟩)) hy ?_ ?_ ?_
 exact wk h0 [] (wR rfl (wR rfl (wR rfl wTn))) wVn wLn
 clear hy h
 rintro eE y h
 dsimp only[gD] at h
 refine AW.seq (ra hx ?_)
 refine cdh h rfl (fun fC h=>?_) (fun fC h=>?_)
 refine AW.skip (AW.seq (AW.block (rs hx fun K hK=>?_)))
 iterate 2 refine sa ?_
 obtain⟨JO,h⟩:=aD h
 have G6:(eE).toNat<(eZ).length:=by omega
 refine s1 (gV JO aH aw) ?_
 refine s1 (d:=dG ai ((eZ)[(eE).toNat]!)) (mj (c:=ai) (l:=eZ) (n:=(eE).toNat) (o:=0) aw G6 (fm _ _ rfl)) ?_
 refine scb h tK fun x9 h=>?_
 refine sa ?_
 refine .nil (hK _ _ (cdh h rfl (fun qH h=>?_) (fun qH h=>?_)))
 refine ra hx ?_
 refine AW.ret ?_
 cases h
 refine PS.r ⟨by nofun,PS.l (PR.i ?_)⟩
 exact rv1
 refine AW.skip (rb hx ?_)
 cases h
 exact PS.l (pe0 h0 [])
 refine AW.exit ?_
 try dsimp only
 try simp only[aS,reduceIte,Nat.reduceEqDiff,reduceCtorEq]
 cases h
 exact PS.r ⟨by nofun,PS.r (PE.i (wk h0 [] wTn wVn wLn))⟩
 rcases y with r|⟨⟩
 rintro ex tm' hp' ⟨rfl,hw⟩
 cases h
 exact hw
 rintro ex tm' hp' ⟨rfl,hw⟩
 try dsimp only
 try simp only[aS,reduceIte,Nat.reduceEqDiff,reduceCtorEq]
 refine AW.weak hw (ra hx ?_)
 refine AW.ret ?_
 cases h
 exact rv1
def mS(aJ:et)(aU:List ao)(aQ:List ao):Int→Option (Int⊕(Bool⊕Unit)):=fun aL=>cnd (decide (aL<aJ.vR)) (gd (0≤i64.wrap (aL*aJ.vC)∧i64.wrap (aL*aJ.vC)≤i64.wrap ((i64.wrap (aL+(1:Int)))*aJ.vC)∧i64.wrap ((i64.wrap (aL+(1:Int)))*aJ.vC)≤((aJ.vV).length:Int)) (bnd (fD (xL aJ.vV (i64.wrap (aL*aJ.vC)) (i64.wrap ((i64.wrap (aL+(1:Int)))*aJ.vC))) aU) fun x3=>bnd (kY (0:Int)) fun x5=>bnd (S:=ao) (cnd (decide ((0:Int)<((aQ).length:Int))) (gd (0≤aL∧aL<((aQ).length:Int)) (some ((aQ)[(aL).toNat]!))) (some (x5))) fun fU=>bnd (S:=Bool) (bnd (bT x3) fun o7=>cnd (!o7) (some (true)) (bnd (mF x3 fU) fun m4=>some (decide ((0:Int)<m4)))) fun gT=>cnd gT (some (.inr (.inl false))) (some (.inl (i64.wrap (aL+(1:Int))))))) (some (.inr (.inr ())))
def jV(aJ:et)(aU:List ao)(aQ:List ao):Option Bool:=bnd (bL (mS aJ aU aQ) (0:Int)) fun y18=>match y18 with| .inl r=>some r| .inr ()=>some true
set_option maxHeartbeats 4000000 in
theorem sA {aJ:et}{aU:List ao}{aQ:List ao}{r:Bool}(h:jV aJ aU aQ=some r):ax Tryz.prog 135 [dG eN aJ,dL ai aU,dL ai aQ] (dB r):=by
 refine bC (rs:=[.tmp 6]) (fun cx hx h0=>?_) Tryz.func135
 unfold jV at h
 refine rs hx fun K hK=>?_
 refine s1 (d:=.pt 0 0) fB ?_
 refine sa ?_
 refine .nil (hK _ _ (AW.seq (ra hx ?_)))
 refine AW.block ?_
 obtain⟨y,hy,h⟩:=ae h
 refine lp (S:=Int) (X:=Bool⊕Unit) (fun aL=>[(1,dL ai aU),(2,dL ai aQ),(3,.pt 0 0),(7,dI .i64 aL)]) (fun aL=>⟨[(0,[dI .i64 aJ.vR,dI .i64 aJ.vC,dL ai aJ.vV])],[],1⟩) (PS (PR [.tmp 6] fun r=>dB r) (PE cx (.exit 0) (fun ()=>[]) fun ()=>⟨[],[],0⟩)) hy ?_ ?_ ?_
 exact wk h0 [0] (wR rfl (wR rfl (wR rfl (wR rfl wTn)))) (vR rfl wVn) wLn
 clear hy h
 rintro aL y h
 dsimp only[mS] at h
 refine AW.seq (rs hx fun K hK=>?_)
 iterate 2 refine sa ?_
 refine s1 (aX bE) ?_
 refine sa ?_
 refine .nil (hK _ _ (cdh h rfl (fun cv h=>?_) (fun cv h=>?_)))
 refine AW.skip (AW.seq (AW.block (rs hx fun K hK=>?_)))
 refine sa ?_
 refine s1 (aX aH) ?_
 iterate 2 refine sa ?_
 refine s1 (aX bE) ?_
 iterate 4 refine sa ?_
 refine s1 (aX bE) ?_
 refine sa ?_
 obtain⟨mq,h⟩:=aD h
 refine s1 (T_sl (c:=ai) (l:=aJ.vV) (a:=i64.wrap (aL*aJ.vC)) (b:=i64.wrap ((i64.wrap (aL+(1:Int)))*aJ.vC)) mq aH aw) ?_
 refine sa ?_
 refine scb h lQ fun x3 h=>?_
 refine s1 (be (F:=ai.f cG) aw) ?_
 refine s0 (aE (b':=x3) (ak.id _ _) aw) ?_
 refine .nil (hK _ _ (rs hx fun K hK=>?_))
 refine scb h tL fun x5 h=>?_
 refine s1 (be (F:=ai.f cG) aw) ?_
 refine s0 (aE (b':=x5) (ak.id _ _) aw) ?_
 refine .nil (hK _ _ (AW.seq ?_))
 obtain⟨fU,hy,h⟩:=ae h
 refine jn ((PE cx .normal (fun fU=>[(1,dL ai aU),(2,dL ai aQ),(3,.pt 0 0),(7,dI .i64 aL),(8,.pt 1 0),(9,.pt 2 0)]) fun fU=>⟨[(0,[dI .i64 aJ.vR,dI .i64 aJ.vC,dL ai aJ.vV]),(1,dC (ai.f x3)),(2,dC (ai.f fU))],[],3⟩) fU) ?_ ?_
 replace h:=hy
 refine ra hx ?_
 refine cdh h rfl (fun nN h=>?_) (fun nN h=>?_)
 refine rq hx fun K hK=>?_
 iterate 2 refine sa ?_
 obtain⟨Gs,h⟩:=aD h
 have H3:(aL).toNat<(aQ).length:=by omega
 refine s1 (gV Gs aH aw) ?_
 refine s1 (d:=dG ai ((aQ)[(aL).toNat]!)) (mj (c:=ai) (l:=aQ) (n:=(aL).toNat) (o:=0) aw H3 (fm _ _ rfl)) ?_
 refine s0 (aE (b':=(aQ)[(aL).toNat]!) (ak.id _ _) aw) ?_
 refine .nil (hK _ _ ?_)
 cases h
 exact pe0 h0 [0,1,2]
 refine AW.skip ?_
 cases h
 exact pe0 h0 [0,1,2]
 rintro ex tm' hp' ⟨rfl,hw⟩
 refine AW.weak hw (AW.seq ?_)
 obtain⟨gT,hy,h⟩:=ae h
 refine jn ((PE cx .normal (fun gT=>[(1,dL ai aU),(2,dL ai aQ),(3,.pt 0 0),(7,dI .i64 aL),(46,dB gT)]) fun gT=>⟨[(0,[dI .i64 aJ.vR,dI .i64 aJ.vC,dL ai aJ.vV])],[],1⟩) gT) ?_ ?_
 replace h:=hy
 refine rq hx fun K hK=>?_
 refine s1 (d:=dG ai x3) (aq (ak.id _ _) aw) ?_
 refine scb h eJ fun o7 h=>?_
 iterate 2 refine sa ?_
 rcases az (!o7) with mm|mm
 replace h:=aO mm h
 iterate 4 refine aG rfl rfl mm ?_
 refine s1 (ar mm) ?_
 refine .nil (hK _ _ ?_)
 cases h
 exact pe0 h0 [0]
 replace h:=aP mm h
 refine g1 (d:=dG ai x3) mm (aq (ak.id _ _) aw) ?_
 refine g1 (d:=dG ai fU) mm (aq (ak.id _ _) aw) ?_
 obtain⟨m4,vt,h⟩:=ae h
 refine g1 mm (bb rfl (AK vt) (by simp only[cP,dA,bX,bt,bc,bp];exact⟨aC _ _,aC _ _⟩) (lA (bZ _ _) (lA (bZ _ _) lAn)) (.inl rfl)) ?_
 refine ga mm ?_
 refine s1 (an mm) ?_
 refine .nil (hK _ _ ?_)
 cases h
 exact pe0 h0 [0]
 rintro ex tm' hp' ⟨rfl,hw⟩
 refine AW.weak hw (cdh h rfl (fun vG h=>?_) (fun vG h=>?_))
 refine ra hx ?_
 refine AW.ret ?_
 cases h
 refine PS.r ⟨by nofun,PS.l (PR.i ?_)⟩
 exact rv1
 refine AW.skip (rb hx ?_)
 cases h
 exact PS.l (pe0 h0 [0])
 refine AW.exit ?_
 try dsimp only
 try simp only[aS,reduceIte,Nat.reduceEqDiff,reduceCtorEq]
 cases h
 exact PS.r ⟨by nofun,PS.r (PE.i (wk h0 [] wTn wVn wLn))⟩
 rcases y with r|⟨⟩
 rintro ex tm' hp' ⟨rfl,hw⟩
 cases h
 exact hw
 rintro ex tm' hp' ⟨rfl,hw⟩
 try dsimp only
 try simp only[aS,reduceIte,Nat.reduceEqDiff,reduceCtorEq]
 refine AW.weak hw (ra hx ?_)
 refine AW.ret ?_
 cases h
 exact rv1
def jB(aJ:et)(q8:Int):(List ao)×Int→Option (((List ao)×Int)⊕((List ao))):=fun (aZ,bm)=>cnd (decide (bm<aJ.vR)) (gd (0≤i64.wrap ((i64.wrap (bm*aJ.vC))+q8)∧i64.wrap ((i64.wrap (bm*aJ.vC))+q8)<((aJ.vV).length:Int)) (gd ((aZ++[(aJ.vV)[(i64.wrap ((i64.wrap (bm*aJ.vC))+q8)).toNat]!]).length*136≤140737488355328) (some (.inl (aZ++[(aJ.vV)[(i64.wrap ((i64.wrap (bm*aJ.vC))+q8)).toNat]!],i64.wrap (bm+(1:Int))))))) (some (.inr aZ))
def mC(aJ:et)(q8:Int):Option (List ao):=bnd (bL (jB aJ q8) (([]:List ao),(0:Int))) fun bj=>some bj
theorem B5 {aJ:et}{q8:Int}{r:List ao}(h:mC aJ q8=some r):ax Tryz.prog 174 [dG eN aJ,dI .i64 q8] (.own 43 ai.sz r.length (r.flatMap ai.f)):=by
 refine bC (rs:=[.tmp 4]) (fun cx hx h0=>?_) Tryz.func174
 unfold mC at h
 refine rs hx fun K hK=>?_
 refine s1 (d:=.pt 0 0) fB ?_
 refine s1 (d:=dO 1 ai ([]:List ao)) (fW aH aw) ?_
 refine .nil (hK _ _ (rs hx fun K hK=>?_))
 refine s1 (d:=dO 2 ai ([]:List ao)) (fW aH aw) ?_
 refine .nil (hK _ _ (AW.seq (ra hx ?_)))
 refine AW.block ?_
 obtain⟨bj,hy,h⟩:=ae h
 refine lp (S:=(List ao)×Int) (X:=(List ao)) (fun (aZ,bm)=>[(1,dI .i64 q8),(2,.pt 0 0),(5,dO 1 ai aZ),(6,dI .i64 bm)]) (fun (aZ,bm)=>⟨[(0,[dI .i64 aJ.vR,dI .i64 aJ.vC,dL ai aJ.vV])],[(1,(aZ).length,36,43)],2⟩) (PE cx (.exit 0) (fun bj=>[(5,dO 0 ai bj)]) fun bj=>⟨[],[(0,(bj).length,36,43)],1⟩) hy ?_ ?_ ?_
 exact wk h0 [0,2] (wR rfl (wR rfl (wR rfl (wR rfl wTn)))) (vR rfl wVn) (wL rfl rfl wLn)
 clear hy h
 rintro⟨aZ,bm⟩ y h
 dsimp only[jB] at h
 refine AW.seq (rs hx fun K hK=>?_)
 iterate 2 refine sa ?_
 refine s1 (aX bE) ?_
 refine sa ?_
 refine .nil (hK _ _ (cdh h rfl (fun cv h=>?_) (fun cv h=>?_)))
 refine AW.skip (AW.seq (AW.block (rq hx fun K hK=>?_)))
 iterate 2 refine sa ?_
 refine s1 (aX aH) ?_
 iterate 2 refine sa ?_
 refine s1 (aX bE) ?_
 iterate 3 refine sa ?_
 obtain⟨mq,h⟩:=aD h
 have qD:(i64.wrap ((i64.wrap (bm*aJ.vC))+q8)).toNat<(aJ.vV).length:=by omega
 refine s1 (gV mq aH aw) ?_
 refine s1 (d:=dG ai ((aJ.vV)[(i64.wrap ((i64.wrap (bm*aJ.vC))+q8)).toNat]!)) (mj (c:=ai) (l:=aJ.vV) (n:=(i64.wrap ((i64.wrap (bm*aJ.vC))+q8)).toNat) (o:=0) aw qD (fm _ _ rfl)) ?_
 refine s1 (kJ ([(aJ.vV)[(i64.wrap ((i64.wrap (bm*aJ.vC))+q8)).toNat]!]:List ao) ai aH aw) ?_
 obtain⟨D5,h⟩:=aD h
 refine s1 (d:=dO 1 ai (aZ++[(aJ.vV)[(i64.wrap ((i64.wrap (bm*aJ.vC))+q8)).toNat]!])) (qn aH aw D5) ?_
 refine sa ?_
 refine .nil (hK _ _ (rb hx ?_))
 cases h
 exact PS.l (pe0 h0 [0,1])
 refine AW.exit ?_
 try dsimp only
 try simp only[aS,reduceIte,Nat.reduceEqDiff,reduceCtorEq]
 cases h
 exact PS.r ⟨by nofun,PE.i (wk h0 [1] (wR rfl wTn) wVn (wL rfl rfl wLn))⟩
 rintro ex tm' hp' ⟨rfl,hw⟩
 try dsimp only
 try simp only[aS,reduceIte,Nat.reduceEqDiff,reduceCtorEq]
 refine AW.weak hw (ra hx ?_)
 refine AW.ret ?_
 cases h
 exact oT.own rfl rfl
def mT(aJ:et)(gy:List ao)(lR:List ao):Int→Option (Int⊕(Bool⊕Unit)):=fun aL=>cnd (decide (aL<aJ.vC)) (bnd (mC aJ aL) fun x2=>bnd (fD gy x2) fun x4=>bnd (kY (0:Int)) fun x6=>bnd (S:=ao) (cnd (decide ((0:Int)<((lR).length:Int))) (gd (0≤aL∧aL<((lR).length:Int)) (some ((lR)[(aL).toNat]!))) (some (x6))) fun fU=>bnd (S:=Bool) (bnd (bT x4) fun iE=>cnd (!iE) (some (true)) (bnd (mF x4 fU) fun BC=>some (decide (BC<(0:Int))))) fun gT=>cnd gT (some (.inr (.inl false))) (some (.inl (i64.wrap (aL+(1:Int)))))) (some (.inr (.inr ())))
def lV(aJ:et)(gy:List ao)(lR:List ao):Option Bool:=bnd (bL (mT aJ gy lR) (0:Int)) fun y19=>match y19 with| .inl r=>some r| .inr ()=>some true
set_option maxHeartbeats 4000000 in
theorem w8 {aJ:et}{gy:List ao}{lR:List ao}{r:Bool}(h:lV aJ gy lR=some r):ax Tryz.prog 136 [dG eN aJ,dL ai gy,dL ai lR] (dB r):=by
 refine bC (rs:=[.tmp 6]) (fun cx hx h0=>?_) Tryz.func136
 unfold lV at h
 refine rs hx fun K hK=>?_
 refine s1 (d:=.pt 0 0) fB ?_
 refine sa ?_
 refine .nil (hK _ _ (AW.seq (ra hx ?_)))
 refine AW.block ?_
 obtain⟨y,hy,h⟩:=ae h
 refine lp (S:=Int) (X:=Bool⊕Unit) (fun aL=>[(1,dL ai gy),(2,dL ai lR),(3,.pt 0 0),(7,dI .i64 aL)]) (fun aL=>⟨[(0,[dI .i64 aJ.vR,dI .i64 aJ.vC,dL ai aJ.vV])],[],1⟩) (PS (PR [.tmp 6] fun r=>dB r) (PE cx (.exit 0) (fun ()=>[]) fun ()=>⟨[],[],0⟩)) hy ?_ ?_ ?_
 exact wk h0 [0] (wR rfl (wR rfl (wR rfl (wR rfl wTn)))) (vR rfl wVn) wLn
 clear hy h
 rintro aL y h
 dsimp only[mT] at h
 refine AW.seq (rs hx fun K hK=>?_)
 iterate 2 refine sa ?_
 refine s1 (aX bE) ?_
 refine sa ?_
 refine .nil (hK _ _ (cdh h rfl (fun cv h=>?_) (fun cv h=>?_)))
 refine AW.skip (AW.seq (AW.block (rs hx fun K hK=>?_)))
 refine sa ?_
 refine s1 (d:=dG eN aJ) (fV iS) ?_
 refine sa ?_
 obtain⟨x2,Gi,h⟩:=ae h
 refine s1 (io rfl (B5 Gi) (by simp only[cP,dA,bX,bt,bc,bp];exact⟨aC _ _,rfl⟩) (lA (ap _) (lA (ap _) lAn))) ?_
 refine scb h lQ fun x4 h=>?_
 refine s1 (be (F:=ai.f cG) aw) ?_
 refine s0 (aE (b':=x4) (ak.id _ _) aw) ?_
 refine .nil (hK _ _ (rs hx fun K hK=>?_))
 refine scb h tL fun x6 h=>?_
 refine s1 (be (F:=ai.f cG) aw) ?_
 refine s0 (aE (b':=x6) (ak.id _ _) aw) ?_
 refine .nil (hK _ _ (AW.seq ?_))
 obtain⟨fU,hy,h⟩:=ae h
 refine jn ((PE cx .normal (fun fU=>[(1,dL ai gy),(2,dL ai lR),(3,.pt 0 0),(7,dI .i64 aL),(8,.pt 1 0),(9,.pt 2 0)]) fun fU=>⟨[(0,[dI .i64 aJ.vR,dI .i64 aJ.vC,dL ai aJ.vV]),(1,dC (ai.f x4)),(2,dC (ai.f fU))],[],3⟩) fU) ?_ ?_
 replace h:=hy
 refine ra hx ?_
 refine cdh h rfl (fun ju h=>?_) (fun ju h=>?_)
 refine rq hx fun K hK=>?_
 iterate 2 refine sa ?_
 obtain⟨hc9,h⟩:=aD h
 have JK:(aL).toNat<(lR).length:=by omega
 refine s1 (gV hc9 aH aw) ?_
 refine s1 (d:=dG ai ((lR)[(aL).toNat]!)) (mj (c:=ai) (l:=lR) (n:=(aL).toNat) (o:=0) aw JK (fm _ _ rfl)) ?_
 refine s0 (aE (b':=(lR)[(aL).toNat]!) (ak.id _ _) aw) ?_
 refine .nil (hK _ _ ?_)
 cases h
 exact pe0 h0 [0,2,3]
 refine AW.skip ?_
 cases h
 exact pe0 h0 [0,2,3]
 rintro ex tm' hp' ⟨rfl,hw⟩
 refine AW.weak hw (AW.seq ?_)
 obtain⟨gT,hy,h⟩:=ae h
 refine jn ((PE cx .normal (fun gT=>[(1,dL ai gy),(2,dL ai lR),(3,.pt 0 0),(7,dI .i64 aL),(37,dB gT)]) fun gT=>⟨[(0,[dI .i64 aJ.vR,dI .i64 aJ.vC,dL ai aJ.vV])],[],1⟩) gT) ?_ ?_
 replace h:=hy
 refine rq hx fun K hK=>?_
 refine s1 (d:=dG ai x4) (aq (ak.id _ _) aw) ?_
 refine scb h eJ fun iE h=>?_
 iterate 2 refine sa ?_
 rcases az (!iE) with eM|eM
 replace h:=aO eM h
 iterate 4 refine aG rfl rfl eM ?_
 refine s1 (ar eM) ?_
 refine .nil (hK _ _ ?_)
 cases h
 exact pe0 h0 [0]
 replace h:=aP eM h
 refine g1 (d:=dG ai x4) eM (aq (ak.id _ _) aw) ?_
 refine g1 (d:=dG ai fU) eM (aq (ak.id _ _) aw) ?_
 obtain⟨BC,Oz,h⟩:=ae h
 refine g1 eM (bb rfl (AK Oz) (by simp only[cP,dA,bX,bt,bc,bp];exact⟨aC _ _,aC _ _⟩) (lA (bZ _ _) (lA (bZ _ _) lAn)) (.inl rfl)) ?_
 refine ga eM ?_
 refine s1 (an eM) ?_
 refine .nil (hK _ _ ?_)
 cases h
 exact pe0 h0 [0]
 rintro ex tm' hp' ⟨rfl,hw⟩
 refine AW.weak hw (cdh h rfl (fun j4 h=>?_) (fun j4 h=>?_))
 refine ra hx ?_
 refine AW.ret ?_
 cases h
 refine PS.r ⟨by nofun,PS.l (PR.i ?_)⟩
 exact rv1
 refine AW.skip (rb hx ?_)
 cases h
 exact PS.l (pe0 h0 [0])
 refine AW.exit ?_
 try dsimp only
 try simp only[aS,reduceIte,Nat.reduceEqDiff,reduceCtorEq]
 cases h
 exact PS.r ⟨by nofun,PS.r (PE.i (wk h0 [] wTn wVn wLn))⟩
 rcases y with r|⟨⟩
 rintro ex tm' hp' ⟨rfl,hw⟩
 cases h
 exact hw
 rintro ex tm' hp' ⟨rfl,hw⟩
 try dsimp only
 try simp only[aS,reduceIte,Nat.reduceEqDiff,reduceCtorEq]
 refine AW.weak hw (ra hx ?_)
 refine AW.ret ?_
 cases h
 exact rv1
def kw(aU:ao):Option Bool:=bnd (S:=Bool) (bnd (bT aU) fun x1=>cnd x1 (bnd (jD aU) fun x4=>some (decide (x4<(0:Int)))) (some (false))) fun bI=>some bI
theorem zI {aU:ao}{r:Bool}(h:kw aU=some r):ax Tryz.prog 137 [dG ai aU] (dB r):=by
 refine bC (rs:=[.tmp 2]) (fun cx hx h0=>?_) Tryz.func137
 unfold kw at h
 refine ra hx ?_
 refine AW.seq ?_
 obtain⟨bI,hy,h⟩:=ae h
 refine jn ((PE cx .normal (fun bI=>[(2,dB bI)]) fun bI=>⟨[],[],0⟩) bI) ?_ ?_
 replace h:=hy
 refine rq hx fun K hK=>?_
 refine s1 (d:=dG ai aU) (aq (ak.id _ _) aw) ?_
 refine scb h eJ fun x1 h=>?_
 refine sa ?_
 rcases az x1 with a8|a8
 replace h:=aO a8 h
 refine g1 (d:=dG ai aU) a8 (aq (ak.id _ _) aw) ?_
 obtain⟨x4,qd,h⟩:=ae h
 refine g1 a8 (bb rfl (tK qd) (by simp only[cP,dA,bX,bt,bc,bp];exact aC _ _) (lA (bZ _ _) lAn) (.inl rfl)) ?_
 refine ga a8 ?_
 refine s1 (ar a8) ?_
 refine sa ?_
 refine .nil (hK _ _ ?_)
 cases h
 exact pe0 h0 []
 replace h:=aP a8 h
 iterate 3 refine aG rfl rfl a8 ?_
 refine s1 (an a8) ?_
 refine sa ?_
 refine .nil (hK _ _ ?_)
 cases h
 exact pe0 h0 []
 rintro ex tm' hp' ⟨rfl,hw⟩
 refine AW.weak hw (AW.ret ?_)
 cases h
 exact rv1
def mB(nV:bR)(aJ:bP):Option Bool:=cnd (decide (aJ.vKind=(1:Int))) (bnd (S:=Bool) (cnd (decide ((0:Int)<((aJ.vRay).length:Int))) (some (true)) (bnd (eK aJ.vX nV.vA.vC) fun x3=>cnd (!x3) (some (true)) (bnd (eK aJ.vY nV.vA.vR) fun x6=>cnd (!x6) (some (true)) (bnd (jV nV.vA aJ.vX nV.vB) fun x9=>cnd (!x9) (some (true)) (bnd (lV nV.vA aJ.vY nV.vC) fun iE=>some (!iE)))))) fun dp=>cnd dp (some false) (bnd (fD nV.vC aJ.vX) fun o6=>bnd (S:=Bool) (bnd (bT o6) fun pG=>cnd pG (bnd (fD aJ.vY nV.vB) fun qR=>some (decide (o6=qR))) (some (false))) fun sx=>some sx)) (cnd (decide (aJ.vKind=(2:Int))) (bnd (S:=Bool) (cnd (decide (((aJ.vX).length:Int)=(0:Int))) (cnd (decide (((aJ.vRay).length:Int)=(0:Int))) (bnd (eK aJ.vY nV.vA.vR) fun uP=>cnd uP (bnd (lV nV.vA aJ.vY ([]:List ao)) fun I2=>cnd I2 (bnd (fD aJ.vY nV.vB) fun u3=>bnd (kw u3) fun u2=>some (u2)) (some (false))) (some (false))) (some (false))) (some (false))) fun tz=>some tz) (cnd (decide (aJ.vKind=(3:Int))) (bnd (S:=Bool) (cnd (decide ((0:Int)<((aJ.vY).length:Int))) (some (true)) (bnd (eK aJ.vX nV.vA.vC) fun x40=>cnd (!x40) (some (true)) (bnd (eK aJ.vRay nV.vA.vC) fun x43=>cnd (!x43) (some (true)) (bnd (jV nV.vA aJ.vX nV.vB) fun x46=>cnd (!x46) (some (true)) (bnd (jV nV.vA aJ.vRay ([]:List ao)) fun x49=>some (!x49)))))) fun tw=>cnd tw (some false) (bnd (fD nV.vC aJ.vRay) fun x53=>bnd (S:=Bool) (bnd (bT x53) fun x55=>cnd x55 (bnd (jD x53) fun x58=>some (decide ((0:Int)<x58))) (some (false))) fun Fj=>some Fj)) (some false)))
set_option maxHeartbeats 4000000 in
theorem B1 {nV:bR}{aJ:bP}{r:Bool}(h:mB nV aJ=some r):ax Tryz.prog 72 [dG b9 nV,dG dJ aJ] (dB r):=by
 refine bC (rs:=[.tmp 4]) (fun cx hx h0=>?_) Tryz.func72
 unfold mB at h
 refine rs hx fun K hK=>?_
 refine s1 (d:=.pt 0 0) fB ?_
 refine s1 (d:=.pt 1 0) fB ?_
 refine sa ?_
 refine .nil (hK _ _ (rs hx fun K hK=>?_))
 iterate 2 refine sa ?_
 refine s1 (aX bE) ?_
 refine sa ?_
 refine .nil (hK _ _ (AW.seq (rs hx fun K hK=>?_)))
 refine sa ?_
 refine s1 (aX bE) ?_
 refine .nil (hK _ _ (AW.block (ra hx ?_)))
 refine cdh h rfl (fun cv h=>?_) (fun cv h=>?_)
 iterate 2 refine AW.seq ?_
 obtain⟨dp,hy,h⟩:=ae h
 refine jn ((PE cx .normal (fun dp=>[(2,.pt 0 0),(3,.pt 1 0),(54,dB dp)]) fun dp=>⟨[(0,[dI .i64 nV.vA.vR,dI .i64 nV.vA.vC,dL ai nV.vA.vV,dL ai nV.vB,dL ai nV.vC]),(1,[dI .i64 aJ.vKind,dL ai aJ.vX,dL ai aJ.vY,dL ai aJ.vRay])],[],2⟩) dp) ?_ ?_
 replace h:=hy
 refine rq hx fun K hK=>?_
 refine sa ?_
 refine s1 (aX aH) ?_
 iterate 3 refine sa ?_
 rcases az (decide ((0:Int)<((aJ.vRay).length:Int))) with ly|ly
 replace h:=aO ly h
 iterate 5 refine aG rfl rfl ly ?_
 refine s1 (ar ly) ?_
 refine sa ?_
 iterate 7 refine aG rfl rfl rfl ?_
 refine s1 (ar rfl) ?_
 refine sa ?_
 iterate 8 refine aG rfl rfl rfl ?_
 refine s1 (ar rfl) ?_
 refine sa ?_
 iterate 8 refine aG rfl rfl rfl ?_
 refine s1 (ar rfl) ?_
 refine .nil (hK _ _ ?_)
 cases h
 exact pe0 h0 [0,1]
 replace h:=aP ly h
 refine ga ly ?_
 refine g1 ly (aX aH) ?_
 refine ga ly ?_
 obtain⟨x3,Ov,h⟩:=ae h
 refine g1 ly (bb rfl (j7 Ov) rfl (lA (ap _) (lA (ap _) lAn)) (.inl rfl)) ?_
 refine ga ly ?_
 refine s1 (an ly) ?_
 refine sa ?_
 rcases az (!x3) with dy|dy
 replace h:=aO dy h
 iterate 7 refine aG rfl rfl dy ?_
 refine s1 (ar dy) ?_
 refine sa ?_
 iterate 8 refine aG rfl rfl rfl ?_
 refine s1 (ar rfl) ?_
 refine sa ?_
 iterate 8 refine aG rfl rfl rfl ?_
 refine s1 (ar rfl) ?_
 refine .nil (hK _ _ ?_)
 cases h
 exact pe0 h0 [0,1]
 replace h:=aP dy h
 refine ga dy ?_
 refine g1 dy (aX aH) ?_
 iterate 2 refine ga dy ?_
 refine g1 dy (aX bE) ?_
 obtain⟨x6,rT,h⟩:=ae h
 refine g1 dy (bb rfl (j7 rT) rfl (lA (ap _) (lA (ap _) lAn)) (.inl rfl)) ?_
 refine ga dy ?_
 refine s1 (an dy) ?_
 refine sa ?_
 rcases az (!x6) with ju|ju
 replace h:=aO ju h
 iterate 8 refine aG rfl rfl ju ?_
 refine s1 (ar ju) ?_
 refine sa ?_
 iterate 8 refine aG rfl rfl rfl ?_
 refine s1 (ar rfl) ?_
 refine .nil (hK _ _ ?_)
 cases h
 exact pe0 h0 [0,1]
 replace h:=aP ju h
 refine ga ju ?_
 refine g1 (d:=dG eN nV.vA) ju (fV iS) ?_
 refine ga ju ?_
 refine g1 ju (aX aH) ?_
 refine ga ju ?_
 refine g1 ju (aX aH) ?_
 obtain⟨x9,vw,h⟩:=ae h
 refine g1 ju (bb rfl (sA vw) (by simp only[cP,dA,bX,bt,bc,bp];exact⟨aC _ _,rfl,rfl⟩) (lA (ap _) (lA (ap _) (lA (ap _) lAn))) (.inl rfl)) ?_
 refine ga ju ?_
 refine s1 (an ju) ?_
 refine sa ?_
 rcases az (!x9) with qH|qH
 replace h:=aO qH h
 iterate 8 refine aG rfl rfl qH ?_
 refine s1 (ar qH) ?_
 refine .nil (hK _ _ ?_)
 cases h
 exact pe0 h0 [0,1]
 replace h:=aP qH h
 refine ga qH ?_
 refine g1 (d:=dG eN nV.vA) qH (fV iS) ?_
 refine ga qH ?_
 refine g1 qH (aX aH) ?_
 refine ga qH ?_
 refine g1 qH (aX aH) ?_
 obtain⟨iE,vu,h⟩:=ae h
 refine g1 qH (bb rfl (w8 vu) (by simp only[cP,dA,bX,bt,bc,bp];exact⟨aC _ _,rfl,rfl⟩) (lA (ap _) (lA (ap _) (lA (ap _) lAn))) (.inl rfl)) ?_
 refine ga qH ?_
 refine s1 (an qH) ?_
 refine .nil (hK _ _ ?_)
 cases h
 exact pe0 h0 [0,1]
 rintro ex tm' hp' ⟨rfl,hw⟩
 refine AW.weak hw (cdh h rfl (fun nf h=>?_) (fun nf h=>?_))
 refine ra hx ?_
 refine AW.ret ?_
 cases h
 exact rv1
 refine AW.skip (rs hx fun K hK=>?_)
 refine sa ?_
 refine s1 (aX aH) ?_
 refine sa ?_
 refine s1 (aX aH) ?_
 refine scb h lQ fun o6 h=>?_
 refine s1 (be (F:=ai.f cG) aw) ?_
 refine s0 (aE (b':=o6) (ak.id _ _) aw) ?_
 refine .nil (hK _ _ (AW.seq ?_))
 obtain⟨sx,hy,h⟩:=ae h
 refine jn ((PE cx .normal (fun sx=>[(4,dB sx)]) fun sx=>⟨[],[],0⟩) sx) ?_ ?_
 replace h:=hy
 refine rqd [89,18] hx fun K hK=>?_
 refine s1 (d:=dG ai o6) (aq (ak.id _ _) aw) ?_
 refine cqb h eJ fun pG h=>?_
 refine sa ?_
 rcases az pG with t4|t4
 replace h:=aO t4 h
 refine g1 (d:=dG ai o6) t4 (aq (ak.id _ _) aw) ?_
 refine ga t4 ?_
 refine g1 t4 (aX aH) ?_
 refine ga t4 ?_
 refine g1 t4 (aX aH) ?_
 obtain⟨qR,Jz,h⟩:=ae h
 refine sqg tok rfl rfl t4 (lQ Jz) rfl (lA (ap _) (lA (ap _) lAn)) (.inl (ii _ _)) ?_
 refine g1 t4 (AF tok 4 (by decide) Aq aw) ?_
 refine s1 (ar t4) ?_
 refine sa ?_
 refine .nil (hK _ _ ?_)
 cases h
 exact pe0 h0 []
 replace h:=aP t4 h
 iterate 7 refine aG rfl rfl t4 ?_
 refine s1 (an t4) ?_
 refine sa ?_
 refine .nil (hK _ _ ?_)
 cases h
 exact pe0 h0 []
 rintro ex tm' hp' ⟨rfl,hw⟩
 refine AW.weak hw (AW.ret ?_)
 cases h
 exact rv1
 refine ra hx ?_
 refine cdh h rfl (fun qG h=>?_) (fun qG h=>?_)
 refine AW.seq ?_
 obtain⟨tz,hy,h⟩:=ae h
 refine jn ((PE cx .normal (fun tz=>[(4,dB tz)]) fun tz=>⟨[],[],0⟩) tz) ?_ ?_
 replace h:=hy
 refine rq hx fun K hK=>?_
 refine sa ?_
 refine s1 (aX aH) ?_
 iterate 3 refine sa ?_
 rcases az (decide (((aJ.vX).length:Int)=(0:Int))) with vz|vz
 replace h:=aO vz h
 refine ga vz ?_
 refine g1 vz (aX aH) ?_
 iterate 2 refine ga vz ?_
 refine s1 (ar vz) ?_
 refine sa ?_
 rcases az (decide (((aJ.vRay).length:Int)=(0:Int))) with xU|xU
 replace h:=aO xU h
 refine ga xU ?_
 refine g1 xU (aX aH) ?_
 iterate 2 refine ga xU ?_
 refine g1 xU (aX bE) ?_
 obtain⟨uP,Aj,h⟩:=ae h
 refine g1 xU (bb rfl (j7 Aj) rfl (lA (ap _) (lA (ap _) lAn)) (.inl rfl)) ?_
 refine s1 (ar xU) ?_
 refine sa ?_
 rcases az uP with An|An
 replace h:=aO An h
 refine ga An ?_
 refine g1 (d:=dG eN nV.vA) An (fV iS) ?_
 refine ga An ?_
 refine g1 An (aX aH) ?_
 obtain⟨I2,hx31,h⟩:=ae h
 refine g1 An (bb rfl (w8 hx31) (by simp only[cP,dA,bX,bt,bc,bp];exact⟨aC _ _,rfl,rfl⟩) (lA (ap _) (lA (ap _) (lA (Og (ltb rfl)) lAn))) (.inl rfl)) ?_
 refine s1 (ar An) ?_
 refine sa ?_
 rcases az I2 with yU|yU
 replace h:=aO yU h
 refine ga yU ?_
 refine g1 yU (aX aH) ?_
 refine ga yU ?_
 refine g1 yU (aX aH) ?_
 obtain⟨u3,HV,h⟩:=ae h
 refine g1 yU (bb rfl (lQ HV) rfl (lA (ap _) (lA (ap _) lAn)) (.inl (ii _ _))) ?_
 obtain⟨u2,Me,h⟩:=ae h
 refine g1 yU (bb rfl (zI Me) (by simp only[cP,dA,bX,bt,bc,bp];exact aC _ _) (lA (bZ _ _) lAn) (.inl rfl)) ?_
 refine s1 (ar yU) ?_
 refine sa ?_
 refine .nil (hK _ _ ?_)
 cases h
 exact pe0 h0 []
 replace h:=aP yU h
 iterate 6 refine aG rfl rfl yU ?_
 refine s1 (an yU) ?_
 refine sa ?_
 refine .nil (hK _ _ ?_)
 cases h
 exact pe0 h0 []
 replace h:=aP An h
 iterate 5 refine aG rfl rfl An ?_
 refine s1 (an An) ?_
 refine sa ?_
 iterate 6 refine aG rfl rfl rfl ?_
 refine s1 (an rfl) ?_
 refine sa ?_
 refine .nil (hK _ _ ?_)
 cases h
 exact pe0 h0 []
 replace h:=aP xU h
 iterate 6 refine aG rfl rfl xU ?_
 refine s1 (an xU) ?_
 refine sa ?_
 iterate 5 refine aG rfl rfl rfl ?_
 refine s1 (an rfl) ?_
 refine sa ?_
 iterate 6 refine aG rfl rfl rfl ?_
 refine s1 (an rfl) ?_
 refine sa ?_
 refine .nil (hK _ _ ?_)
 cases h
 exact pe0 h0 []
 replace h:=aP vz h
 iterate 4 refine aG rfl rfl vz ?_
 refine s1 (an vz) ?_
 refine sa ?_
 iterate 6 refine aG rfl rfl rfl ?_
 refine s1 (an rfl) ?_
 refine sa ?_
 iterate 5 refine aG rfl rfl rfl ?_
 refine s1 (an rfl) ?_
 refine sa ?_
 iterate 6 refine aG rfl rfl rfl ?_
 refine s1 (an rfl) ?_
 refine sa ?_
 refine .nil (hK _ _ ?_)
 cases h
 exact pe0 h0 []
 rintro ex tm' hp' ⟨rfl,hw⟩
 refine AW.weak hw (AW.ret ?_)
 cases h
 exact rv1
 refine ra hx ?_
 refine cdh h rfl (fun qf h=>?_) (fun qf h=>?_)
 iterate 2 refine AW.seq ?_
 obtain⟨tw,hy,h⟩:=ae h
 refine jn ((PE cx .normal (fun tw=>[(2,.pt 0 0),(3,.pt 1 0),(143,dB tw)]) fun tw=>⟨[(0,[dI .i64 nV.vA.vR,dI .i64 nV.vA.vC,dL ai nV.vA.vV,dL ai nV.vB,dL ai nV.vC]),(1,[dI .i64 aJ.vKind,dL ai aJ.vX,dL ai aJ.vY,dL ai aJ.vRay])],[],2⟩) tw) ?_ ?_
 replace h:=hy
 refine rq hx fun K hK=>?_
 refine sa ?_
 refine s1 (aX aH) ?_
 iterate 3 refine sa ?_
 rcases az (decide ((0:Int)<((aJ.vY).length:Int))) with qF|qF
 replace h:=aO qF h
 iterate 5 refine aG rfl rfl qF ?_
 refine s1 (ar qF) ?_
 refine sa ?_
 iterate 5 refine aG rfl rfl rfl ?_
 refine s1 (ar rfl) ?_
 refine sa ?_
 iterate 8 refine aG rfl rfl rfl ?_
 refine s1 (ar rfl) ?_
 refine sa ?_
 iterate 6 refine aG rfl rfl rfl ?_
 refine s1 (ar rfl) ?_
 refine .nil (hK _ _ ?_)
 cases h
 exact pe0 h0 [0,1]
 replace h:=aP qF h
 refine ga qF ?_
 refine g1 qF (aX aH) ?_
 refine ga qF ?_
 obtain⟨x40,Ou,h⟩:=ae h
 refine g1 qF (bb rfl (j7 Ou) rfl (lA (ap _) (lA (ap _) lAn)) (.inl rfl)) ?_
 refine ga qF ?_
 refine s1 (an qF) ?_
 refine sa ?_
 rcases az (!x40) with CT|CT
 replace h:=aO CT h
 iterate 5 refine aG rfl rfl CT ?_
 refine s1 (ar CT) ?_
 refine sa ?_
 iterate 8 refine aG rfl rfl rfl ?_
 refine s1 (ar rfl) ?_
 refine sa ?_
 iterate 6 refine aG rfl rfl rfl ?_
 refine s1 (ar rfl) ?_
 refine .nil (hK _ _ ?_)
 cases h
 exact pe0 h0 [0,1]
 replace h:=aP CT h
 refine ga CT ?_
 refine g1 CT (aX aH) ?_
 refine ga CT ?_
 obtain⟨x43,hx44,h⟩:=ae h
 refine g1 CT (bb rfl (j7 hx44) rfl (lA (ap _) (lA (ap _) lAn)) (.inl rfl)) ?_
 refine ga CT ?_
 refine s1 (an CT) ?_
 refine sa ?_
 rcases az (!x43) with rW|rW
 replace h:=aO rW h
 iterate 8 refine aG rfl rfl rW ?_
 refine s1 (ar rW) ?_
 refine sa ?_
 iterate 6 refine aG rfl rfl rfl ?_
 refine s1 (ar rfl) ?_
 refine .nil (hK _ _ ?_)
 cases h
 exact pe0 h0 [0,1]
 replace h:=aP rW h
 refine ga rW ?_
 refine g1 (d:=dG eN nV.vA) rW (fV iS) ?_
 refine ga rW ?_
 refine g1 rW (aX aH) ?_
 refine ga rW ?_
 refine g1 rW (aX aH) ?_
 obtain⟨x46,hx47,h⟩:=ae h
 refine g1 rW (bb rfl (sA hx47) (by simp only[cP,dA,bX,bt,bc,bp];exact⟨aC _ _,rfl,rfl⟩) (lA (ap _) (lA (ap _) (lA (ap _) lAn))) (.inl rfl)) ?_
 refine ga rW ?_
 refine s1 (an rW) ?_
 refine sa ?_
 rcases az (!x46) with qe|qe
 replace h:=aO qe h
 iterate 6 refine aG rfl rfl qe ?_
 refine s1 (ar qe) ?_
 refine .nil (hK _ _ ?_)
 cases h
 exact pe0 h0 [0,1]
 replace h:=aP qe h
 refine ga qe ?_
 refine g1 (d:=dG eN nV.vA) qe (fV iS) ?_
 refine ga qe ?_
 refine g1 qe (aX aH) ?_
 obtain⟨x49,hx50,h⟩:=ae h
 refine g1 qe (bb rfl (sA hx50) (by simp only[cP,dA,bX,bt,bc,bp];exact⟨aC _ _,rfl,rfl⟩) (lA (ap _) (lA (ap _) (lA (Og (ltb rfl)) lAn))) (.inl rfl)) ?_
 refine ga qe ?_
 refine s1 (an qe) ?_
 refine .nil (hK _ _ ?_)
 cases h
 exact pe0 h0 [0,1]
 rintro ex tm' hp' ⟨rfl,hw⟩
 refine AW.weak hw (cdh h rfl (fun hb52 h=>?_) (fun hb52 h=>?_))
 refine ra hx ?_
 refine AW.ret ?_
 cases h
 exact rv1
 refine AW.skip (rs hx fun K hK=>?_)
 refine sa ?_
 refine s1 (aX aH) ?_
 refine sa ?_
 refine s1 (aX aH) ?_
 refine scb h lQ fun x53 h=>?_
 refine s1 (be (F:=ai.f cG) aw) ?_
 refine s0 (aE (b':=x53) (ak.id _ _) aw) ?_
 refine .nil (hK _ _ (AW.seq ?_))
 obtain⟨Fj,hy,h⟩:=ae h
 refine jn ((PE cx .normal (fun Fj=>[(4,dB Fj)]) fun Fj=>⟨[],[],0⟩) Fj) ?_ ?_
 replace h:=hy
 refine rq hx fun K hK=>?_
 refine s1 (d:=dG ai x53) (aq (ak.id _ _) aw) ?_
 refine scb h eJ fun x55 h=>?_
 refine sa ?_
 rcases az x55 with Gt|Gt
 replace h:=aO Gt h
 refine g1 (d:=dG ai x53) Gt (aq (ak.id _ _) aw) ?_
 obtain⟨x58,hx59,h⟩:=ae h
 refine g1 Gt (bb rfl (tK hx59) (by simp only[cP,dA,bX,bt,bc,bp];exact aC _ _) (lA (bZ _ _) lAn) (.inl rfl)) ?_
 refine ga Gt ?_
 refine s1 (ar Gt) ?_
 refine sa ?_
 refine .nil (hK _ _ ?_)
 cases h
 exact pe0 h0 []
 replace h:=aP Gt h
 iterate 3 refine aG rfl rfl Gt ?_
 refine s1 (an Gt) ?_
 refine sa ?_
 refine .nil (hK _ _ ?_)
 cases h
 exact pe0 h0 []
 rintro ex tm' hp' ⟨rfl,hw⟩
 refine AW.weak hw (AW.ret ?_)
 cases h
 exact rv1
 refine AW.skip (ra hx ?_)
 refine AW.ret ?_
 cases h
 exact rv1
def nz(nV:bR)(aJ:bP):Option Int:=bnd (ny nV) fun x1=>cnd (!x1) (some (1:Int)) (bnd (mB nV aJ) fun x4=>cnd (!x4) (some (250:Int)) (some (0:Int)))
theorem Ee {nV:bR}{aJ:bP}{r:Int}(h:nz nV aJ=some r):ax Tryz.prog 20 [dG b9 nV,dG dJ aJ] (dI .i64 r):=by
 refine bC (rs:=[.tmp 4]) (fun cx hx h0=>?_) Tryz.func20
 unfold nz at h
 refine rs hx fun K hK=>?_
 refine s1 (d:=.pt 0 0) fB ?_
 refine s1 (d:=.pt 1 0) fB ?_
 refine sa ?_
 refine .nil (hK _ _ (rs hx fun K hK=>?_))
 refine s1 (d:=dG b9 nV) (fV m5) ?_
 refine scb h Ed fun x1 h=>?_
 refine sa ?_
 refine .nil (hK _ _ (AW.seq (ra hx ?_)))
 refine cdh h rfl (fun a8 h=>?_) (fun a8 h=>?_)
 refine ra hx ?_
 refine AW.ret ?_
 cases h
 exact rv1
 refine AW.skip (rs hx fun K hK=>?_)
 refine s1 (d:=dG b9 nV) (fV m5) ?_
 refine s1 (d:=dG dJ aJ) (fV ma) ?_
 refine scb h B1 fun x4 h=>?_
 refine sa ?_
 refine .nil (hK _ _ (AW.seq (ra hx ?_)))
 refine cdh h rfl (fun fC h=>?_) (fun fC h=>?_)
 refine ra hx ?_
 refine AW.ret ?_
 cases h
 exact rv1
 refine AW.skip (ra hx ?_)
 refine AW.ret ?_
 cases h
 exact rv1
def kz(aJ:List ao)(aQ:List ao):Int→Option (Int⊕(Bool⊕Unit)):=fun eE=>cnd (decide (eE<((aJ).length:Int))) (gd (0≤eE∧eE<((aJ).length:Int)) (gd (0≤eE∧eE<((aQ).length:Int)) (cnd (decide (¬((aJ)[(eE).toNat]! =(aQ)[(eE).toNat]!))) (some (.inr (.inl false))) (some (.inl (i64.wrap (eE+(1:Int)))))))) (some (.inr (.inr ())))
def kX(aJ:List ao)(aQ:List ao):Option Bool:=cnd (decide (((aJ).length:Int)≠((aQ).length:Int))) (some false) (bnd (bL (kz aJ aQ) (0:Int)) fun y8=>match y8 with| .inl r=>some r| .inr ()=>some true)
set_option maxHeartbeats 4000000 in
theorem tJ {aJ:List ao}{aQ:List ao}{r:Bool}(h:kX aJ aQ=some r):ax Tryz.prog 60 [dL ai aJ,dL ai aQ] (dB r):=by
 refine bC (rs:=[.tmp 4]) (fun cx hx h0=>?_) Tryz.func60
 unfold kX at h
 refine ra hx ?_
 refine AW.seq (ra hx ?_)
 refine cdh h rfl (fun cv h=>?_) (fun cv h=>?_)
 refine ra hx ?_
 refine AW.ret ?_
 cases h
 exact rv1
 refine AW.skip (AW.seq (ra hx ?_))
 refine AW.block ?_
 obtain⟨y,hy,h⟩:=ae h
 refine lp (S:=Int) (X:=Bool⊕Unit) (fun eE=>[(0,dL ai aJ),(1,dL ai aQ),(5,dI .i64 eE)]) (fun eE=>⟨[],[],0⟩) (PS (PR [.tmp 4] fun r=>dB r) (PE cx (.exit 0) (fun ()=>[]) fun ()=>⟨[],[],0⟩)) hy ?_ ?_ ?_
 exact wk h0 [] (wR rfl (wR rfl (wR rfl wTn))) wVn wLn
 clear hy h
 rintro eE y h
 dsimp only[kz] at h
 refine AW.seq (ra hx ?_)
 refine cdh h rfl (fun ly h=>?_) (fun ly h=>?_)
 refine AW.skip (AW.seq (AW.block (rsd [] hx fun K hK=>?_)))
 iterate 2 refine sa ?_
 obtain⟨Pg,h⟩:=aD h
 have hn4:(eE).toNat<(aJ).length:=by omega
 refine s1 (gV Pg aH aw) ?_
 refine s1 (d:=dG ai ((aJ)[(eE).toNat]!)) (mj (c:=ai) (l:=aJ) (n:=(eE).toNat) (o:=0) aw hn4 (fm _ _ rfl)) ?_
 iterate 2 refine sa ?_
 obtain⟨hc5,h⟩:=aD h
 have hn6:(eE).toNat<(aQ).length:=by omega
 refine s1 (gV hc5 aH aw) ?_
 refine s1 (d:=dG ai ((aQ)[(eE).toNat]!)) (mj (c:=ai) (l:=aQ) (n:=(eE).toNat) (o:=0) aw hn6 (fm _ _ rfl)) ?_
 refine s1 (DD tok 4 (by decide) Aq aw) ?_
 refine .nil (hK _ _ (cdh h rfl (fun nN h=>?_) (fun nN h=>?_)))
 refine ra hx ?_
 refine AW.ret ?_
 cases h
 refine PS.r ⟨by nofun,PS.l (PR.i ?_)⟩
 exact rv1
 refine AW.skip (rb hx ?_)
 cases h
 exact PS.l (pe0 h0 [])
 refine AW.exit ?_
 try dsimp only
 try simp only[aS,reduceIte,Nat.reduceEqDiff,reduceCtorEq]
 cases h
 exact PS.r ⟨by nofun,PS.r (PE.i (wk h0 [] wTn wVn wLn))⟩
 rcases y with r|⟨⟩
 rintro ex tm' hp' ⟨rfl,hw⟩
 cases h
 exact hw
 rintro ex tm' hp' ⟨rfl,hw⟩
 try dsimp only
 try simp only[aS,reduceIte,Nat.reduceEqDiff,reduceCtorEq]
 refine AW.weak hw (ra hx ?_)
 refine AW.ret ?_
 cases h
 exact rv1
def iK(aJ:bP)(aQ:bP):Option Bool:=bnd (S:=Bool) (cnd (decide (aJ.vKind=aQ.vKind)) (bnd (kX aJ.vX aQ.vX) fun x2=>cnd x2 (bnd (kX aJ.vY aQ.vY) fun x5=>cnd x5 (bnd (kX aJ.vRay aQ.vRay) fun x8=>some (x8)) (some (false))) (some (false))) (some (false))) fun bI=>some bI
set_option maxHeartbeats 4000000 in
theorem xC {aJ:bP}{aQ:bP}{r:Bool}(h:iK aJ aQ=some r):ax Tryz.prog 14 [dG dJ aJ,dG dJ aQ] (dB r):=by
 refine bC (rs:=[.tmp 4]) (fun cx hx h0=>?_) Tryz.func14
 unfold iK at h
 refine rs hx fun K hK=>?_
 refine s1 (d:=.pt 0 0) fB ?_
 refine s1 (d:=.pt 1 0) fB ?_
 refine sa ?_
 refine .nil (hK _ _ (AW.seq ?_))
 obtain⟨bI,hy,h⟩:=ae h
 refine jn ((PE cx .normal (fun bI=>[(4,dB bI)]) fun bI=>⟨[],[],0⟩) bI) ?_ ?_
 replace h:=hy
 refine rq hx fun K hK=>?_
 refine sa ?_
 refine s1 (aX bE) ?_
 refine sa ?_
 refine s1 (aX bE) ?_
 iterate 2 refine sa ?_
 rcases az (decide (aJ.vKind=aQ.vKind)) with cv|cv
 replace h:=aO cv h
 refine ga cv ?_
 refine g1 cv (aX aH) ?_
 refine ga cv ?_
 refine g1 cv (aX aH) ?_
 obtain⟨x2,Gi,h⟩:=ae h
 refine g1 cv (bb rfl (tJ Gi) rfl (lA (ap _) (lA (ap _) lAn)) (.inl rfl)) ?_
 refine s1 (ar cv) ?_
 refine sa ?_
 rcases az x2 with gO|gO
 replace h:=aO gO h
 refine ga gO ?_
 refine g1 gO (aX aH) ?_
 refine ga gO ?_
 refine g1 gO (aX aH) ?_
 obtain⟨x5,Bq,h⟩:=ae h
 refine g1 gO (bb rfl (tJ Bq) rfl (lA (ap _) (lA (ap _) lAn)) (.inl rfl)) ?_
 refine s1 (ar gO) ?_
 refine sa ?_
 rcases az x5 with nN|nN
 replace h:=aO nN h
 refine ga nN ?_
 refine g1 nN (aX aH) ?_
 refine ga nN ?_
 refine g1 nN (aX aH) ?_
 obtain⟨x8,KQ,h⟩:=ae h
 refine g1 nN (bb rfl (tJ KQ) rfl (lA (ap _) (lA (ap _) lAn)) (.inl rfl)) ?_
 refine s1 (ar nN) ?_
 refine sa ?_
 refine .nil (hK _ _ ?_)
 cases h
 exact pe0 h0 []
 replace h:=aP nN h
 iterate 5 refine aG rfl rfl nN ?_
 refine s1 (an nN) ?_
 refine sa ?_
 refine .nil (hK _ _ ?_)
 cases h
 exact pe0 h0 []
 replace h:=aP gO h
 iterate 5 refine aG rfl rfl gO ?_
 refine s1 (an gO) ?_
 refine sa ?_
 iterate 5 refine aG rfl rfl rfl ?_
 refine s1 (an rfl) ?_
 refine sa ?_
 refine .nil (hK _ _ ?_)
 cases h
 exact pe0 h0 []
 replace h:=aP cv h
 iterate 5 refine aG rfl rfl cv ?_
 refine s1 (an cv) ?_
 refine sa ?_
 iterate 5 refine aG rfl rfl rfl ?_
 refine s1 (an rfl) ?_
 refine sa ?_
 iterate 5 refine aG rfl rfl rfl ?_
 refine s1 (an rfl) ?_
 refine sa ?_
 refine .nil (hK _ _ ?_)
 cases h
 exact pe0 h0 []
 rintro ex tm' hp' ⟨rfl,hw⟩
 refine AW.weak hw (AW.ret ?_)
 cases h
 exact rv1
def Jj(l:List Nu)(n:Nat):Bool:=decide (l.length=n)&&l.all fun x=>aW x&&decide (0≤cU x)
def uA(c x:List Nu):Nat→Nu
 |0=>nOf 0
 |i+1=>n9 (uA c x i) (oq c[i]! x[i]!)
def eR(c x:List Nu):Nu:=if c.length=x.length then uA c x c.length else nuR none
def sU(A:List Nu)(nn i:Nat):List Nu:=(A.drop (i*nn)).take nn
def uZ(A:List Nu)(m nn k:Nat):List Nu:=(List.range m).map fun i=>A[i*nn+k]!
def zb(lines:Nat→List Nu)(x wth:List Nu)(ok:Int→Bool):Bool:=(List.range wth.length).all fun i=>aW (eR (lines i) x)&&ok (pL (eR (lines i) x) wth[i]!)
def th(m nn:Nat)(A x b:List Nu):Bool:=Jj x nn&&zb (sU A nn) x b fun c=>decide (c≤0)
def yG(m nn:Nat)(A y c:List Nu):Bool:=Jj y m&&zb (uZ A m nn) y c fun c=>decide (0≤c)
def sd(x:Nu)(s:Int):Bool:=aW x&&decide (cU x=s)
def qZ(m nn:Nat)(A B C:List Nu)(a:Ans):Bool:=
 if a.kind=1 then decide (a.ray.length=0)&&th m nn A a.x B&&yG m nn A a.y C&&(aW (eR C a.x)&&decide (eR C a.x=eR a.y B))
 else if a.kind=2 then decide (a.x.length+a.ray.length=0)&&yG m nn A a.y (List.replicate nn (nOf 0))&&sd (eR a.y B) (-1)
 else if a.kind=3 then decide (a.y.length=0)&&th m nn A a.x B&&th m nn A a.ray (List.replicate m (nOf 0))&&sd (eR C a.ray) 1
 else false
section
theorem pAdd(x y:Nu):iA (nv x) (nv y)=some (nv (n9 x y)):=by rw[sX];exact Kh x.2 y.2
theorem pMul(x y:Nu):iz (nv x) (nv y)=some (nv (oq x y)):=by rw[pK];exact Kg x.2 y.2
theorem KD(x:Nu):br (nv x)=some (aW x):=by rw[gL];exact iR x.2
theorem pSign(x:Nu):lb (nv x)=some (cU x):=by rw[sW];exact QU x.2
theorem pCmp(x y:Nu):jO (nv x) (nv y)=some (pL x y):=by rw[Cw];exact QV x.2 y.2
theorem pOf {n:Int}(h:-2≤n∧n≤2):pl n=some (nv (nOf n)):=G_rOf (by omega) (by omega)
theorem pBad:fP=some (nv (nuR none)):=wd
theorem mget {l:List Nu}{i:Nat}(h:i<l.length):(l.map nv)[i]! =nv l[i]! :=by
 rw[cO _ _ (by rw[bw];exact h),List.getElem_map,cO l i h]
theorem qp {l:List Nu}{i:Nat}(h:i<l.length):(l.map nv)[((i:Nat):Int).toNat]! =nv l[i]! :=by
 rw[show ((i:Nat):Int).toNat=i by omega];exact mget h
theorem FV {x y:Nu}:nv x=nv y↔x=y:=⟨fun h=>Subtype.ext h,fun h=>by rw[h]⟩
theorem Na {s:Int}(h1:0≤s)(h2:s≤18446744073709551614):decide (i64.wrap s=0)=decide (s=0):=by
 rw[IntKind.wrap_i64]
 by_cases h:s=0
 ·rw[aF h,aF (by omega)]
 ·rw[bf h,bf (by omega)]
section
variable {R:Type}
theorem pW(b x:Bool):cnd b (some x) (some false)=some (b&&x):=by cases b <;> rfl
theorem cOr(b x:Bool):cnd b (some true) (some x)=some (b||x):=by cases b <;> rfl
theorem cF(x y:Option R):cnd false x y=y:=rfl
theorem cT(x y:Option R):cnd true x y=x:=rfl
theorem EZ {n:Nat}(hn:n≤9223372036854775807)(ok:Nat→Bool)(res:Nat→R){b:Int→Option (Int⊕(R⊕Unit))}(h:∀i:Nat,i<n→b i=cnd (!ok i) (some (.inr (.inl (res i)))) (some (.inl (i64.wrap ((i:Int)+(1:Int))))))(he:b n=some (.inr (.inr ()))):
  ∃y,bL b (0:Int)=some y∧match y with| .inl r=>∃i,i<n∧ok i=false∧r=res i| .inr _=>(List.range n).all ok=true:=by
 refine vp (b:=b) (fun i:Int=>0≤i∧i≤n∧∀j:Nat,j<i.toNat→ok j=true) (fun i=>(n - i).toNat) _ (fun i ⟨h1,h2,h3⟩=>?_) 0 ⟨by omega,by omega,fun j hj=>absurd hj (by simp)⟩
 by_cases hi:i<n
 ·obtain⟨k,rfl⟩:∃k:Nat,i=k:=⟨i.toNat,by omega⟩
  have hk:k<n:=by omega
  rw[h k hk]
  cases hg:ok k with
  |false=>exact .inr ⟨.inl (res k),rfl,k,hk,hg,rfl⟩
  |true=>
   refine .inl ⟨(k:Int)+1,by rw[eu (by omega) (by omega)];rfl,⟨by omega,by omega,fun j hj=>?_⟩,by omega⟩
   rcases hE j k with h4|h4
   ·exact h3 j (by omega)
   ·obtain rfl:j=k:=by omega
    exact hg
 ·obtain rfl:i=n:=by omega
  exact .inr ⟨.inr (),he,dc.2 fun j hj=>h3 j (by have:=sr.1 hj;omega)⟩
theorem pM {n:Nat}(hn:n≤9223372036854775807)(ok:Nat→Bool){b:Int→Option (Int⊕(Bool⊕Unit))}(h:∀i:Nat,i<n→b i=cnd (!ok i) (some (.inr (.inl false))) (some (.inl (i64.wrap ((i:Int)+(1:Int))))))(he:b n=some (.inr (.inr ()))):
  (bnd (bL b (0:Int)) fun y=>match y with| .inl r=>some r| .inr ()=>some true)=some ((List.range n).all ok):=by
 obtain⟨y,hy,hp⟩:=EZ hn ok (fun _=>false) h he
 rw[hy]
 cases y with
 |inl r=>
  obtain⟨i,h1,h2,rfl⟩:=hp
  have:(List.range n).all ok=false:=by rw[List.all_eq_false];exact⟨i,sr.2 h1,by rw[h2];simp⟩
  rw[this];rfl
 |inr u=>rw[hp];rfl
end
theorem Av {l:List Nu}(p:Nu→Bool):(List.range l.length).all (fun i=>p l[i]!)=l.all p:=by
 rw[vO,dc,dc]
 constructor
 ·intro h x hx
  obtain⟨i,hi,rfl⟩:=Dm.1 hx
  have:=h i (sr.2 hi)
  rwa[cO l i hi] at this
 ·intro h i hi
  have hi:=sr.1 hi
  rw[cO l i hi]
  exact h _ (rI _)
def F6(rows R Cc:Int)(A:List Nu):Bool:=decide (0≤R)&&(decide (0≤Cc)&&(decide (R≤rows)&&(decide (Cc≤2000)&&(decide ((A.length:Int)=R*Cc)&&A.all aW))))
def p9(R Cc:Int)(A B C:List Nu):Bool:=F6 2000 R Cc A&&(decide ((B.length:Int)=R)&&(decide ((C.length:Int)=Cc)&&(B.all aW&&C.all aW)))
def sb(R Cc:Int)(A B:List Nu):Bool:=F6 1000 R Cc A&&(decide ((B.length:Int)=R)&&B.all aW)
section
variable {R Cc:Int} {A B C:List Nu}
theorem DI {rows:Int}(hr:rows≤1000000)(hA:A.length≤1000000):gf ⟨R,Cc,A.map nv⟩ rows=some (F6 rows R Cc A):=by
 unfold gf F6
 dsimp only
 rw[tF hA,bw]
 by_cases h1:0≤R
 ·by_cases h2:0≤Cc
  ·by_cases h3:R≤rows
   ·by_cases h4:Cc≤2000
    ·have hmul:0≤R*Cc∧R*Cc≤1000000*2000:=⟨Int.mul_nonneg h1 h2,Int.mul_le_mul (by omega) h4 h2 (by omega)⟩
     rw[eu (by omega) (by omega)]
     simp only[aa,pW]
    ·simp only[bf h4,cF,pW,aa,rH,uf]
   ·simp only[bf h3,cF,pW,aa,rH,uf]
  ·simp only[bf h2,cF,pW,aa,rH,uf]
 ·simp only[bf h1,cF,pW,aa,rH,uf]
theorem GW(hA:A.length≤1000000)(hB:B.length≤1000000)(hC:C.length≤1000000):g6 ⟨⟨R,Cc,A.map nv⟩,B.map nv,C.map nv⟩=some (p9 R Cc A B C):=by
 unfold g6 p9
 dsimp only
 rw[DI (by omega) hA,tF hB,tF hC,bw,bw]
 simp only[aa,pW]
theorem DH(hA:A.length≤1000000)(hB:B.length≤1000000):ge ⟨R,Cc,A.map nv⟩ (B.map nv)=some (sb R Cc A B):=by
 unfold ge sb
 dsimp only
 rw[DI (by omega) hA,tF hB,bw]
 simp only[aa,pW]
theorem ur {c x:List Nu}(hc:c.length≤1000000∨x.length≤1000000):dE (c.map nv) (x.map nv)=some (nv (eR c x)):=by
 unfold dE eR
 rw[bw,bw]
 by_cases h:c.length=x.length
 ·rw[co _ _ (by omega),if_pos h,pOf (by omega),aa]
  have key:=rh (b:=ib (c.map nv) (x.map nv)) (fun i:Nat=>((i:Int),nv (uA c x i))) 0 c.length (nv (uA c x c.length)) (cX _) (fun i _ hi=>?_) ?_
  ·rw[show (((0:Nat):Int),nv (uA c x 0))=((0:Int),nv (nOf 0)) from rfl] at key
   rw[key];rfl
  ·unfold ib
   dsimp only
   rw[bw,bw,cE _ _ (by omega),aM (by omega),aM (by omega),qp hi,qp (by omega),pMul,aa,pAdd,aa,eu (by omega) (by omega)]
   rfl
  ·unfold ib
   dsimp only
   rw[bw,co _ _ (by omega)]
 ·rw[cE _ _ (by omega),if_neg h,pBad];rfl
theorem uq {l:List Nu}{n:Nat}(hl:l.length≤9223372036854775807):eA (l.map nv) n=some (Jj l n):=by
 have h1:∀x,fH (nv x)=some (!(aW x&&decide (0≤cU x))):=fun x=>by
  unfold fH
  rw[KD,pSign]
  simp only[aa,cOr]
  congr 1
  cases aW x
  ·rfl
  ·by_cases h:0≤cU x
   ·rw[aF h,bf (by omega)];rfl
   ·rw[bf h,aF (by omega)];rfl
 obtain⟨y,hy,hp⟩:=EZ (b:=a9 (l.map nv)) (n:=l.length) (by omega) (fun i=>aW l[i]! &&decide (0≤cU l[i]!)) (fun i=>(i:Int)) (fun i hi=>by
  unfold a9
  rw[bw,cE _ _ (by omega),aM (by omega),qp hi,h1,aa]) (by
  unfold a9
  rw[bw,co _ _ (by omega)])
 have h2:ba (l.map nv)=some (!(l.all fun x=>aW x&&decide (0≤cU x))):=by
  unfold ba bD
  rw[hy]
  rw[Av (fun x=>aW x&&decide (0≤cU x))] at hp
  cases y with
  |inl r=>
   obtain⟨i,h3,h4,rfl⟩:=hp
   have:(l.all fun x=>aW x&&decide (0≤cU x))=false:=by rw[List.all_eq_false];exact⟨l[i]!,by rw[cO l i h3];exact rI _,by rw[h4];simp⟩
   rw[this]
   show some (decide ((0:Int)≤(i:Int)))=_
   rw[aF (by omega)];rfl
  |inr u=>rw[hp];rfl
 unfold eA Jj
 rw[h2,bw]
 simp only[aa,pW,Bool.not_not]
 congr 2
 by_cases h:l.length=n
 ·rw[aF h,aF (by omega)]
 ·rw[bf h,bf (by omega)]
end
end
section
section
variable {m nn:Nat} {A B C x y b:List Nu}
theorem tX {i:Nat}(hm:m≤2000)(hn:nn≤2000)(hi:i<m):i*nn+nn≤m*nn∧m*nn≤2000*2000∧(i+1)*nn=i*nn+nn:=by
 have h:(i+1)*nn=i*nn+nn:=by rw[cz];omega
 refine⟨?_,uJ hm hn,h⟩
 rw[←h];exact dZ _ hi
theorem Lp(hA:A.length=m*nn)(hm:m≤2000)(hn:nn≤2000){i:Nat}(hi:i<m):jg ⟨m,nn,A.map nv⟩ i=some ((sU A nn i).map nv):=by
 obtain⟨h1,h2,h3⟩:=tX hm hn hi
 unfold jg
 dsimp only
 have e1:i64.wrap ((i:Int)*(nn:Int))=((i*nn:Nat):Int):=by rw[←jZ,eu (by omega) (by omega)]
 have e2:i64.wrap ((i64.wrap ((i:Int)+1))*(nn:Int))=((i*nn+nn:Nat):Int):=by
  rw[eu (z:=(i:Int)+1) (by omega) (by omega),show (i:Int)+1=((i+1:Nat):Int) by omega,←jZ,h3,eu (by omega) (by omega)]
 rw[e1,e2,bw,aM (by omega)]
 unfold xL sU
 rw[←Bc,←ze]
 congr 3
 congr 1;omega
theorem Ke(hA:A.length=m*nn)(hm:m≤2000)(hn:nn≤2000){k:Nat}(hk:k<nn):iJ ⟨m,nn,A.map nv⟩ k=some ((uZ A m nn k).map nv):=by
 unfold iJ
 have key:=rh (b:=fX ⟨m,nn,A.map nv⟩ k) (fun i:Nat=>(((List.range i).map fun j=>A[j*nn+k]!).map nv,(i:Int))) 0 m ((uZ A m nn k).map nv) (cX _) (fun i _ hi=>?_) ?_
 ·rw[show ((((List.range 0).map fun j=>A[j*nn+k]!).map nv,((0:Nat):Int)))=(([]:List ao),(0:Int)) from rfl] at key
  rw[key];rfl
 ·obtain⟨h1,h2,h3⟩:=tX hm hn hi
  have e1:i64.wrap ((i64.wrap ((i:Int)*(nn:Int)))+(k:Int))=((i*nn+k:Nat):Int):=by
   have e0:i64.wrap ((i:Int)*(nn:Int))=((i*nn:Nat):Int):=by rw[←jZ,eu (by omega) (by omega)]
   rw[e0,eu (by omega) (by omega)];omega
  unfold fX
  dsimp only
  rw[e1,cE _ _ (by omega),aM (by rw[bw];omega),qp (by omega),aM (by simp;omega),eu (by omega) (by omega),uK,iU,iU]
  rfl
 ·unfold fX
  dsimp only
  rw[co _ _ (by omega)]
  rfl
theorem FJ(A:List Nu)(nn i:Nat):(sU A nn i).length≤nn:=by unfold sU;rw[eH];omega
theorem cmpX {ok:Int→Bool}(lines:Nat→List Nu)(i:Nat)(v w:Nu)(hv:v=eR (lines i) x)(hw:w=b[i]!){f:Int→Option Bool}(hf:∀c,f c=some (ok c)):
  (bnd (S:=Bool) (bnd (br (nv v)) fun x8=>cnd (!x8) (some true) (bnd (jO (nv v) (nv w)) fun o7=>bnd (f o7) fun nD=>some (!nD))) fun fU=>cnd fU (some (.inr (.inl false))) (some (.inl (i64.wrap ((i:Int)+(1:Int))))))=(cnd (!(aW (eR (lines i) x)&&ok (pL (eR (lines i) x) b[i]!))) (some (.inr (.inl false))) (some (.inl (i64.wrap ((i:Int)+(1:Int))))):Option (Int⊕(Bool⊕Unit))):=by
 subst hv hw
 rw[KD,pCmp]
 simp only[aa,hf]
 cases aW (eR (lines i) x) <;> cases ok (pL (eR (lines i) x) b[i]!) <;> rfl
theorem GV(hA:A.length=m*nn)(hm:m≤2000)(hn:nn≤2000)(hb:b.length≤m):bA ⟨m,nn,A.map nv⟩ (x.map nv) (b.map nv)=some (zb (sU A nn) x b fun c=>decide (c≤0)):=by
 unfold bA zb
 refine pM (by omega) (fun i=>aW (eR (sU A nn i) x)&&decide (pL (eR (sU A nn i) x) b[i]!≤0)) (fun i hi=>?_) ?_
 ·unfold bM
  have:=FJ A nn i
  rw[bw,cE _ _ (by omega),aM (by omega),Lp hA hm hn (by omega),aa,ur (.inl (by omega)),aa,qp hi]
  exact cmpX (ok:=fun c=>decide (c≤0)) (sU A nn) i _ _ rfl rfl fun c=>rfl
 ·unfold bM
  rw[bw,co _ _ (by omega)]
theorem EJ(hA:A.length=m*nn)(hm:m≤2000)(hn:nn≤2000)(hb:b.length≤m):bx ⟨m,nn,A.map nv⟩ (x.map nv) (b.map nv)=some (zb (sU A nn) x b fun c=>decide (c=0)):=by
 unfold bx zb
 refine pM (by omega) (fun i=>aW (eR (sU A nn i) x)&&decide (pL (eR (sU A nn i) x) b[i]! =0)) (fun i hi=>?_) ?_
 ·unfold bK
  have:=FJ A nn i
  rw[bw,cE _ _ (by omega),aM (by omega),Lp hA hm hn (by omega),aa,ur (.inl (by omega)),aa,qp hi]
  exact cmpX (ok:=fun c=>decide (c=0)) (sU A nn) i _ _ rfl rfl fun c=>rfl
 ·unfold bK
  rw[bw,co _ _ (by omega)]
theorem xx(hA:A.length=m*nn)(hm:m≤2000)(hn:nn≤2000)(hb:b.length≤nn):a7 ⟨m,nn,A.map nv⟩ (x.map nv) (b.map nv)=some (zb (uZ A m nn) x b fun c=>decide (0≤c)):=by
 unfold a7 zb
 refine pM (by omega) (fun i=>aW (eR (uZ A m nn i) x)&&decide (0≤pL (eR (uZ A m nn i) x) b[i]!)) (fun i hi=>?_) ?_
 ·unfold bF
  have:(uZ A m nn i).length=m:=by simp[uZ]
  rw[bw,cE _ _ (by omega),aM (by omega),Ke hA hm hn (by omega),aa,ur (.inl (by omega)),aa,qp hi]
  exact cmpX (ok:=fun c=>decide (0≤c)) (uZ A m nn) i _ _ rfl rfl fun c=>rfl
 ·unfold bF
  rw[bw,co _ _ (by omega)]
theorem Fs(hA:A.length=m*nn)(hm:m≤2000)(hn:nn≤2000)(hb:b.length≤m)(hx:x.length≤9223372036854775807)(B C:List ao):eb (x.map nv) (b.map nv) ⟨⟨m,nn,A.map nv⟩,B,C⟩=some (th m nn A x b):=by
 unfold eb th
 dsimp only
 rw[uq hx,GV hA hm hn hb]
 simp only[aa,pW]
theorem IQ(hA:A.length=m*nn)(hm:m≤2000)(hn:nn≤2000)(hb:b.length≤nn)(hy:y.length≤9223372036854775807)(k:Int)(xs rs B C:List ao):e6 (b.map nv) ⟨k,xs,y.map nv,rs⟩ ⟨⟨m,nn,A.map nv⟩,B,C⟩=some (yG m nn A y b):=by
 unfold e6 yG
 dsimp only
 rw[uq hy,xx hA hm hn hb]
 simp only[aa,pW]
theorem IP(v:Nu)(s:Int):gb (nv v) s=some (sd v s):=by
 unfold gb sd
 rw[KD,pSign]
 simp only[aa,pW]
theorem GU {n:Nat}(h:n≤2000):fO n=some ((List.replicate n (nOf 0)).map nv):=by
 unfold fO
 rw[if_pos (by omega),List.map_replicate]
 congr 2
end
end
section
def sK(a:Ans):bP:=⟨a.kind,a.x.map nv,a.y.map nv,a.ray.map nv⟩
theorem cN(b x:Bool):cnd b (some false) (some x)=some (!b&&x):=by cases b <;> rfl
structure xy(a:Ans):Prop where
 x:a.x.length≤9223372036854775807
 y:a.y.length≤9223372036854775807
 ray:a.ray.length≤9223372036854775807
section
variable {m nn:Nat} {A B C:List Nu} {a:Ans}
theorem MO(hA:A.length=m*nn)(hm:m≤2000)(hn:nn≤2000)(hB:B.length=m)(hC:C.length=nn)(ha:xy a):jA ⟨⟨m,nn,A.map nv⟩,B.map nv,C.map nv⟩ (sK a)=some (qZ m nn A B C a):=by
 have hx:=ha.x
 have hy:=ha.y
 have hr:=ha.ray
 unfold jA qZ sK
 dsimp only
 rw[Fs hA hm hn (by omega) (by omega),IQ hA hm hn (by omega) (by omega),ur (.inl (by omega)),ur (.inr (by omega)),GU hn,GU hm,ur (.inl (by omega))]
 simp only[aa,IP,KD]
 rw[IQ hA hm hn (by simp) (by omega),Fs hA hm hn (by simp) (by omega)]
 simp only[aa,bw]
 by_cases h1:a.kind=1
 ·rw[cE _ _ h1,if_pos h1]
  simp only[pW,cOr,cN,aa,Bool.not_or,Bool.not_not,FV]
  congr 2
  rw[Bool.and_assoc]
  congr 1
  by_cases h:a.ray.length=0
  ·rw[aF h,bf (by omega)];rfl
  ·rw[bf h,aF (by omega)];rfl
 ·rw[co _ _ h1,if_neg h1]
  by_cases h2:a.kind=2
  ·rw[cE _ _ h2,if_pos h2]
   simp only[pW,aa,Bool.and_assoc]
   rw[Na (by omega) (by omega)]
   congr 2
   by_cases h:a.x.length+a.ray.length=0
   ·rw[aF h,aF (by omega)]
   ·rw[bf h,bf (by omega)]
  ·rw[co _ _ h2,if_neg h2]
   by_cases h3:a.kind=3
   ·rw[cE _ _ h3,if_pos h3]
    simp only[pW,aa,Bool.and_assoc]
    congr 2
    by_cases h:a.y.length=0
    ·rw[aF h,aF (by omega)]
    ·rw[bf h,bf (by omega)]
   ·rw[co _ _ h3,if_neg h3]
theorem xE {R Cc:Int}(h:p9 R Cc A B C=true):∃m nn:Nat,R=m∧Cc=nn∧m≤2000∧nn≤2000∧A.length=m*nn∧B.length=m∧C.length=nn∧A.all aW=true∧B.all aW=true∧C.all aW=true:=by
 unfold p9 F6 at h
 simp only[bp,qM] at h
 obtain⟨⟨h1,h2,h3,h4,h5,h6⟩,h7,h8,h9,wQ⟩:=h
 refine⟨R.toNat,Cc.toNat,by omega,by omega,by omega,by omega,?_,by omega,by omega,h6,h9,wQ⟩
 have e1:R=(R.toNat:Int):=by omega
 have e2:Cc=(Cc.toNat:Int):=by omega
 rw[e1,e2,←jZ] at h5
 omega
def ru(R Cc:Int)(A B C:List Nu)(a:Ans):Int:=if p9 R Cc A B C then (if qZ R.toNat Cc.toNat A B C a then 0 else 250) else 1
theorem GY {R Cc:Int}(hA:A.length≤1000000)(hB:B.length≤1000000)(hC:C.length≤1000000)(ha:xy a):g7 ⟨⟨R,Cc,A.map nv⟩,B.map nv,C.map nv⟩ (sK a)=some (ru R Cc A B C a):=by
 unfold g7 ru
 rw[GW hA hB hC,aa]
 cases hv:p9 R Cc A B C with
 |false=>rfl
 |true=>
  obtain⟨m,nn,rfl,rfl,hm,hn,h1,h2,h3,_⟩:=xE hv
  rw[MO h1 hm hn h2 h3 ha]
  show cnd (!(qZ m nn A B C a)) (some (250:Int)) (some (0:Int))=some (if qZ m nn A B C a=true then 0 else 250)
  cases qZ m nn A B C a <;> rfl
def CZ(m nn:Nat)(A B:List Nu)(a:Ans):Bool:=
 if a.kind=1 then decide (a.y.length+a.ray.length=0)&&(Jj a.x nn&&zb (sU A nn) a.x B fun c=>decide (c=0))
 else if a.kind=2 then decide (a.x.length+a.ray.length=0)&&(decide (a.y.length=m)&&(a.y.all aW&&(zb (uZ A m nn) a.y (List.replicate nn (nOf 0)) (fun c=>decide (0≤c))&&sd (eR a.y B) (-1))))
 else false
def Dc(R Cc:Int)(A B:List Nu)(a:Ans):Int:=if sb R Cc A B then (if CZ R.toNat Cc.toNat A B a then 0 else 250) else 1
theorem AO {R Cc:Int}(h:sb R Cc A B=true):∃m nn:Nat,R=m∧Cc=nn∧m≤1000∧nn≤2000∧A.length=m*nn∧B.length=m∧A.all aW=true∧B.all aW=true:=by
 unfold sb F6 at h
 simp only[bp,qM] at h
 obtain⟨⟨h1,h2,h3,h4,h5,h6⟩,h7,h9⟩:=h
 refine⟨R.toNat,Cc.toNat,by omega,by omega,by omega,by omega,?_,by omega,h6,h9⟩
 have e1:R=(R.toNat:Int):=by omega
 have e2:Cc=(Cc.toNat:Int):=by omega
 rw[e1,e2,←jZ] at h5
 omega
theorem GX {R Cc:Int}(hA:A.length≤1000000)(hB:B.length≤1000000)(ha:xy a):gz ⟨R,Cc,A.map nv⟩ (B.map nv) (sK a)=some (Dc R Cc A B a):=by
 have hx:=ha.x
 have hy:=ha.y
 have hr:=ha.ray
 unfold gz Dc
 rw[DH hA hB,aa]
 cases hv:sb R Cc A B with
 |false=>rfl
 |true=>
  obtain⟨m,nn,rfl,rfl,hm,hn,h1,h2,_⟩:=AO hv
  have key:∀(e:Option Bool),e=some (CZ m nn A B a)→(cnd (!true) (some (1:Int)) (bnd e fun dp=>cnd (!dp) (some (250:Int)) (some (0:Int))))=some (if true=true then (if CZ ((m:Int)).toNat ((nn:Int)).toNat A B a=true then 0 else 250) else 1):=fun e he=>by
   rw[he]
   show cnd (!(CZ m nn A B a)) (some (250:Int)) (some (0:Int))=some (if CZ m nn A B a=true then 0 else 250)
   cases CZ m nn A B a <;> rfl
  refine key _ ?_
  unfold CZ sK
  dsimp only
  simp only[bw]
  by_cases k1:a.kind=1
  ·rw[cE _ _ k1,if_pos k1,uq (by omega),EJ h1 (by omega) hn (by omega)]
   simp only[pW,aa]
   rw[Na (by omega) (by omega)]
   congr 2
   by_cases h:a.y.length+a.ray.length=0
   ·rw[aF h,aF (by omega)]
   ·rw[bf h,bf (by omega)]
  ·rw[co _ _ k1,if_neg k1]
   by_cases k2:a.kind=2
   ·rw[cE _ _ k2,if_pos k2,GU hn,Na (by omega) (by omega)]
    by_cases h:a.x.length+a.ray.length=0
    ·rw[aF h,cE _ _ (by omega)]
     by_cases h4:a.y.length=m
     ·rw[aF h4,cE _ _ (by omega),tF (by omega),ur (.inr (by omega))]
      simp only[aa,IP]
      rw[xx h1 (by omega) hn (by simp)]
      simp only[pW,aa,Bool.true_and]
     ·rw[bf h4,co _ _ (by omega)];rfl
    ·rw[bf h,co _ _ (by omega)];rfl
   ·rw[co _ _ k2,if_neg k2]
end
theorem HB(x:Nu):bT (nv x)=some (aW x):=by rw[gL];exact nq x.2
theorem Ln {l:List Nu}(hl:l.length≤9223372036854775807):kM (l.map nv)=some (l.all aW):=by
 unfold kM
 rw[←Av]
 refine pM (by omega) (fun i=>aW l[i]!) (fun i hi=>?_) ?_
 ·unfold oI
  rw[bw,cE _ _ (by omega),aM (by omega),qp hi,HB,aa]
 ·unfold oI
  rw[bw,co _ _ (by omega)]
section
variable {R Cc:Int} {A B C:List Nu}
theorem QF {rows:Int}(hr:rows≤1000000)(hA:A.length≤9223372036854775807):mD ⟨R,Cc,A.map nv⟩ rows 2000=some (F6 rows R Cc A):=by
 unfold mD F6
 dsimp only
 rw[Ln hA,bw]
 by_cases h1:0≤R
 ·by_cases h2:0≤Cc
  ·by_cases h3:R≤rows
   ·by_cases h4:Cc≤2000
    ·have hmul:0≤R*Cc∧R*Cc≤1000000*2000:=⟨Int.mul_nonneg h1 h2,Int.mul_le_mul (by omega) h4 h2 (by omega)⟩
     rw[eu (by omega) (by omega)]
     simp only[aa,pW]
    ·simp only[bf h4,cF,pW,aa,rH,uf]
   ·simp only[bf h3,cF,pW,aa,rH,uf]
  ·simp only[bf h2,cF,pW,aa,rH,uf]
 ·simp only[bf h1,cF,pW,aa,rH,uf]
theorem R_Valid(hA:A.length≤9223372036854775807)(hB:B.length≤9223372036854775807)(hC:C.length≤9223372036854775807):ny ⟨⟨R,Cc,A.map nv⟩,B.map nv,C.map nv⟩=some (p9 R Cc A B C):=by
 unfold ny p9
 dsimp only
 rw[QF (by omega) hA,Ln hB,Ln hC,bw,bw]
 simp only[aa,pW]
theorem Kd {a b:List Nu}(ha:a.length≤9223372036854775807):kX (a.map nv) (b.map nv)=some (decide (a=b)):=by
 unfold kX
 rw[bw,bw]
 by_cases h:a.length=b.length
 ·rw[co _ _ (by omega)]
  have:=pM (b:=kz (a.map nv) (b.map nv)) (n:=a.length) (by omega) (fun i=>decide (a[i]! =b[i]!)) (fun i hi=>by
   unfold kz
   rw[bw,bw,cE _ _ (by omega),aM (by omega),aM (by omega),qp hi,qp (by omega)]
   congr 1
   by_cases h2:a[i]! =b[i]!
   ·rw[aF h2,bf (by rw[FV];exact fun h3=>h3 h2)];rfl
   ·rw[bf h2,aF (by rw[FV];exact h2)];rfl) (by
   unfold kz
   rw[bw,co _ _ (by omega)])
  refine this.trans ?_
  congr 1
  rw[vO,dc,qM]
  constructor
  ·intro h2
   refine List.ext_getElem h fun i h3 h4=>?_
   have:=da (h2 i (sr.2 h3))
   rwa[cO a i h3,cO b i h4] at this
  ·rintro rfl i _
   exact aF rfl
 ·rw[cE _ _ (by omega),bf (fun e=>h (by rw[e]))]
theorem GT {a b:Ans}(ha:xy a):iK (sK a) (sK b)=some (decide (a=b)):=by
 have hx:=ha.x
 have hy:=ha.y
 have hr:=ha.ray
 unfold iK sK
 dsimp only
 rw[Kd (by omega),Kd (by omega),Kd (by omega)]
 simp only[aa,pW]
 congr 1
 obtain⟨k,x,y,r⟩:=a
 obtain⟨k',x',y',r'⟩:=b
 rw[vO]
 simp only[bp,qM,Ans.mk.injEq]
end
end
def lM(eZ:List Int):(List ao)×Int→Option (((List ao)×Int)⊕((List ao))):=fun (aZ,bm)=>cnd (decide (bm<((eZ).length:Int))) (gd (0≤bm∧bm<((eZ).length:Int)) (bnd (kY ((eZ)[(bm).toNat]!)) fun x4=>gd ((aZ++[x4]).length*136≤140737488355328) (some (.inl (aZ++[x4],i64.wrap (bm+(1:Int))))))) (some (.inr aZ))
def dY(eZ:List Int):Option (List ao):=bnd (bL (lM eZ) (([]:List ao),(0:Int))) fun bj=>some bj
theorem fa {eZ:List Int}{r:List ao}(h:dY eZ=some r):ax Tryz.prog 40 [dL (cI .i64) eZ] (.own 43 ai.sz r.length (r.flatMap ai.f)):=by
 refine bC (rs:=[.tmp 2]) (fun cx hx h0=>?_) Tryz.func40
 unfold dY at h
 refine rs hx fun K hK=>?_
 refine s1 (d:=dO 0 ai ([]:List ao)) (fW aH aw) ?_
 refine .nil (hK _ _ (rs hx fun K hK=>?_))
 refine s1 (d:=dO 1 ai ([]:List ao)) (fW aH aw) ?_
 refine .nil (hK _ _ (AW.seq (ra hx ?_)))
 refine AW.block ?_
 obtain⟨bj,hy,h⟩:=ae h
 refine lp (S:=(List ao)×Int) (X:=(List ao)) (fun (aZ,bm)=>[(0,dL (cI .i64) eZ),(3,dO 0 ai aZ),(4,dI .i64 bm)]) (fun (aZ,bm)=>⟨[],[(0,(aZ).length,36,43)],1⟩) (PE cx (.exit 0) (fun bj=>[(3,dO 0 ai bj)]) fun bj=>⟨[],[(0,(bj).length,36,43)],1⟩) hy ?_ ?_ ?_
 exact wk h0 [1] (wR rfl (wR rfl (wR rfl wTn))) wVn (wL rfl rfl wLn)
 clear hy h
 rintro⟨aZ,bm⟩ y h
 dsimp only[lM] at h
 refine AW.seq (ra hx ?_)
 refine cdh h rfl (fun cv h=>?_) (fun cv h=>?_)
 refine AW.skip (AW.seq (AW.block (rq hx fun K hK=>?_)))
 iterate 3 refine sa ?_
 obtain⟨mq,h⟩:=aD h
 have qD:(bm).toNat<(eZ).length:=by omega
 refine s1 (gV mq cC bE) ?_
 refine s1 (xw (c:=(cI .i64)) (l:=eZ) (n:=(bm).toNat) (o:=0) bE qD) ?_
 refine scb h tL fun x4 h=>?_
 refine s1 (kJ ([x4]:List ao) ai aH aw) ?_
 obtain⟨hc6,h⟩:=aD h
 refine s1 (d:=dO 0 ai (aZ++[x4])) (qn aH aw hc6) ?_
 refine sa ?_
 refine .nil (hK _ _ (rb hx ?_))
 cases h
 exact PS.l (pe0 h0 [0])
 refine AW.exit ?_
 try dsimp only
 try simp only[aS,reduceIte,Nat.reduceEqDiff,reduceCtorEq]
 cases h
 exact PS.r ⟨by nofun,PE.i (wk h0 [0] (wR rfl wTn) wVn (wL rfl rfl wLn))⟩
 rintro ex tm' hp' ⟨rfl,hw⟩
 try dsimp only
 try simp only[aS,reduceIte,Nat.reduceEqDiff,reduceCtorEq]
 refine AW.weak hw (ra hx ?_)
 refine AW.ret ?_
 cases h
 exact oT.own rfl rfl
def fQ(iZ:Int)(aJ:List Int)(aQ:List Int)(lR:List Int):Option bR:=bnd (dY aJ) fun x1=>bnd (dY aQ) fun x3=>bnd (dY lR) fun x5=>some (⟨(⟨iZ,((lR).length:Int),x1⟩:et),x3,x5⟩:bR)
theorem nF {iZ:Int}{aJ:List Int}{aQ:List Int}{lR:List Int}{r:bR}(h:fQ iZ aJ aQ lR=some r):ax Tryz.prog 37 [dI .i64 iZ,dL (cI .i64) aJ,dL (cI .i64) aQ,dL (cI .i64) lR] (dG b9 r):=by
 refine bC (rs:=[.cell 8 26]) (fun cx hx h0=>?_) Tryz.func37
 unfold fQ at h
 refine rs hx fun K hK=>?_
 refine s1 (d:=.pt 0 0) (um m5) ?_
 refine .nil (hK _ _ (rs hx fun K hK=>?_))
 iterate 4 refine sa ?_
 obtain⟨x1,wq,h⟩:=ae h
 refine s1 (io rfl (fa wq) rfl (lA (ap _) lAn)) ?_
 refine s2 (d2:=dG eN (⟨iZ,((lR).length:Int),x1⟩:et)) (eh (es:=[dI .i64 iZ,dI .i64 ((lR).length:Int),dO 1 ai x1]) iS) (se (wc (sE _) (wc (sE _) (wc (lc_x _) wcn)))) ?_
 refine sa ?_
 obtain⟨x3,Ov,h⟩:=ae h
 refine s1 (io rfl (fa Ov) rfl (lA (ap _) lAn)) ?_
 refine sa ?_
 obtain⟨x5,Bq,h⟩:=ae h
 refine s1 (io rfl (fa Bq) rfl (lA (ap _) lAn)) ?_
 refine s2 (d2:=dG b9 (⟨(⟨iZ,((lR).length:Int),x1⟩:et),x3,x5⟩:bR)) (eh (es:=[dI .i64 iZ,dI .i64 ((lR).length:Int),dL ai x1,dO 2 ai x3,dO 3 ai x5]) m5) (se (wc (sE _) (wc (sE _) (wc (sE _) (wc (lc_x _) (wc (lc_x _) wcn)))))) ?_
 refine s0 (MN (ds':=[dI .i64 iZ,dI .i64 ((lR).length:Int),dL ai x1,dL ai x3,dL ai x5]) m5) ?_
 refine .nil (hK _ _ (AW.ret ?_))
 cases h
 exact oT.mk1 (NG (es:=(b9.f (⟨(⟨iZ,((lR).length:Int),x1⟩:et),x3,x5⟩:bR)).map .e) rfl m5 rfl rfl (ltb rfl) (leb rfl) rfl (.inr (.inr ⟨_,(ap _),rfl,rfl⟩)))
def gG(aJ:Int)(aQ:Int):Option (List ao):=bnd (mV aJ (5:Int)) fun x1=>bnd (mV aQ (5:Int)) fun x3=>some [x1,x3]
theorem od {aJ:Int}{aQ:Int}{r:List ao}(h:gG aJ aQ=some r):ax Tryz.prog 39 [dI .i64 aJ,dI .i64 aQ] (.own 43 ai.sz r.length (r.flatMap ai.f)):=by
 refine bC (rs:=[.tmp 4]) (fun cx hx h0=>?_) Tryz.func39
 unfold gG at h
 refine rs hx fun K hK=>?_
 refine s1 (d:=dO 0 ai ([]:List ao)) (fW aH aw) ?_
 refine .nil (hK _ _ (rs hx fun K hK=>?_))
 refine sa ?_
 refine scb h yv fun x1 h=>?_
 refine sa ?_
 refine scb h yv fun x3 h=>?_
 refine s1 (kJ ([x1,x3]:List ao) ai aH aw) ?_
 refine sa ?_
 refine .nil (hK _ _ (AW.ret ?_))
 cases h
 exact oT.own rfl rfl
def gF(nV:bR)(Co:bP):Option Bool:=bnd (lH nV (100:Int)) fun x1=>bnd (S:=Bool) (cnd (decide (x1.2.2=(0:Int))) (bnd (iK x1.1 Co) fun x4=>cnd x4 (bnd (g7 nV x1.1) fun x7=>some (decide (x7=(0:Int)))) (some (false))) (some (false))) fun jQ=>some jQ
theorem oc {nV:bR}{Co:bP}{r:Bool}(h:gF nV Co=some r):ax Tryz.prog 38 [dG b9 nV,dG dJ Co] (dB r):=by
 refine bC (rs:=[.tmp 4]) (fun cx hx h0=>?_) Tryz.func38
 unfold gF at h
 refine rs hx fun K hK=>?_
 refine s1 (d:=.pt 0 0) fB ?_
 refine s1 (d:=.pt 1 0) fB ?_
 refine sa ?_
 refine .nil (hK _ _ (rs hx fun K hK=>?_))
 refine s1 (d:=dG b9 nV) (fV m5) ?_
 refine scb h Bn fun x1 h=>?_
 iterate 4 refine sa ?_
 refine s1 (d:=.pt 2 0) (um ma) ?_
 refine s0 (MN (ds':=[dI .i64 x1.1.vKind,dL ai x1.1.vX,dL ai x1.1.vY,dL ai x1.1.vRay]) ma) ?_
 iterate 2 refine sa ?_
 refine .nil (hK _ _ (AW.seq ?_))
 obtain⟨jQ,hy,h⟩:=ae h
 refine jn ((PE cx .normal (fun jQ=>[(4,dB jQ)]) fun jQ=>⟨[],[],0⟩) jQ) ?_ ?_
 replace h:=hy
 refine rq hx fun K hK=>?_
 iterate 3 refine sa ?_
 rcases az (decide (x1.2.2=(0:Int))) with a8|a8
 replace h:=aO a8 h
 refine g1 (d:=dG dJ x1.1) a8 (fV ma) ?_
 refine g1 (d:=dG dJ Co) a8 (fV ma) ?_
 obtain⟨x4,qd,h⟩:=ae h
 refine g1 a8 (bb rfl (xC qd) (by simp only[cP,dA,bX,bt,bc,bp];exact⟨aC _ _,aC _ _⟩) (lA (ap _) (lA (ap _) lAn)) (.inl rfl)) ?_
 refine s1 (ar a8) ?_
 refine sa ?_
 rcases az x4 with fC|fC
 replace h:=aO fC h
 refine g1 (d:=dG b9 nV) fC (fV m5) ?_
 refine g1 (d:=dG dJ x1.1) fC (fV ma) ?_
 obtain⟨x7,Gg,h⟩:=ae h
 refine g1 fC (bb rfl (p8 Gg) (by simp only[cP,dA,bX,bt,bc,bp];exact⟨aC _ _,aC _ _⟩) (lA (ap _) (lA (ap _) lAn)) (.inl rfl)) ?_
 refine ga fC ?_
 refine s1 (ar fC) ?_
 refine sa ?_
 refine .nil (hK _ _ ?_)
 cases h
 exact pe0 h0 []
 replace h:=aP fC h
 iterate 4 refine aG rfl rfl fC ?_
 refine s1 (an fC) ?_
 refine sa ?_
 refine .nil (hK _ _ ?_)
 cases h
 exact pe0 h0 []
 replace h:=aP a8 h
 iterate 3 refine aG rfl rfl a8 ?_
 refine s1 (an a8) ?_
 refine sa ?_
 iterate 4 refine aG rfl rfl rfl ?_
 refine s1 (an rfl) ?_
 refine sa ?_
 refine .nil (hK _ _ ?_)
 cases h
 exact pe0 h0 []
 rintro ex tm' hp' ⟨rfl,hw⟩
 refine AW.weak hw (AW.ret ?_)
 cases h
 exact rv1
def kD :Option Bool:=bnd (fQ (2:Int) [(1:Int),(2:Int),(3:Int),(1:Int)] [(4:Int),(6:Int)] [(1:Int),(1:Int)]) fun x1=>bnd (gG (8:Int) (6:Int)) fun x3=>bnd (gG (2:Int) (1:Int)) fun x5=>bnd (gF x1 (⟨(1:Int),x3,x5,([]:List ao)⟩:bP)) fun x7=>bnd (fQ (1:Int) [(1:Int)] [(-1:Int)] [(0:Int)]) fun x9=>bnd (dY [(1:Int)]) fun o7=>bnd (gF x9 (⟨(2:Int),([]:List ao),o7,([]:List ao)⟩:bP)) fun nD=>bnd (fQ (1:Int) [(-1:Int),(1:Int)] [(1:Int)] [(1:Int),(0:Int)]) fun BC=>bnd (dY [(0:Int),(0:Int)]) fun nT=>bnd (dY [(1:Int),(0:Int)]) fun rP=>bnd (gF BC (⟨(3:Int),nT,([]:List ao),rP⟩:bP)) fun qR=>bnd (fQ (1:Int) [(-1:Int)] [(-2:Int)] [(-1:Int)]) fun rY=>bnd (dY [(2:Int)]) fun D7=>bnd (dY [(1:Int)]) fun uP=>bnd (gF rY (⟨(1:Int),D7,uP,([]:List ao)⟩:bP)) fun wX=>bnd (dY [(1:Int),(1:Int),(1:Int),(-1:Int)]) fun BB=>bnd (dY [(1:Int),(3:Int)]) fun u3=>bnd (lI (⟨(2:Int),(2:Int),BB⟩:et) u3 (100:Int)) fun u2=>bnd (S:=Bool) (cnd (decide (u2.2.2=(0:Int))) (cnd (decide (u2.1.vKind=(2:Int))) (bnd (dY [(1:Int),(3:Int)]) fun Bk=>bnd (gz (⟨(2:Int),(2:Int),BB⟩:et) Bk u2.1) fun x41=>some (decide (x41=(0:Int)))) (some (false))) (some (false))) fun Dx=>bnd (S:=Bool) (cnd x7 (cnd nD (cnd qR (cnd wX (cnd Dx (bnd (gG (8:Int) (6:Int)) fun x49=>bnd (gG (2:Int) (2:Int)) fun x51=>bnd (g7 x1 (⟨(1:Int),x49,x51,([]:List ao)⟩:bP)) fun x53=>some (decide (x53=(250:Int)))) (some (false))) (some (false))) (some (false))) (some (false))) (some (false))) fun tA=>some tA
set_option maxHeartbeats 4000000 in
theorem vg  {r:Bool}(h:kD=some r):ax Tryz.prog 11 [] (dB r):=by
 refine bC (rs:=[.tmp 0]) (fun cx hx h0=>?_) Tryz.func11
 unfold kD at h
 refine ra hx ?_
 refine rs hx fun K hK=>?_
 refine s1 (d:=dO 0 (cI .i64) [(1:Int),(2:Int),(3:Int),(1:Int)]) (kK cC bE) ?_
 refine s1 (d:=dO 1 (cI .i64) [(4:Int),(6:Int)]) (kK cC bE) ?_
 refine s1 (d:=dO 2 (cI .i64) [(1:Int),(1:Int)]) (kK cC bE) ?_
 refine scb h nF fun x1 h=>?_
 refine s1 (d:=.pt 3 0) (um m5) ?_
 refine s0 (MN (ds':=[dI .i64 x1.vA.vR,dI .i64 x1.vA.vC,dL ai x1.vA.vV,dL ai x1.vB,dL ai x1.vC]) m5) ?_
 refine .nil (hK _ _ (rsd [38] hx fun K hK=>?_))
 refine s1 (d:=dG b9 x1) (fV m5) ?_
 obtain⟨x3,Ov,h⟩:=ae h
 refine s1 (io rfl (od Ov) rfl (lA (ap _) (lA (ap _) lAn))) ?_
 obtain⟨x5,Bq,h⟩:=ae h
 refine s1 (io rfl (od Bq) rfl (lA (ap _) (lA (ap _) lAn))) ?_
 refine s1 (d:=.ag [dI .i64 (1:Int),dO 4 ai x3,dO 5 ai x5,dN]) (eh ma) ?_
 obtain⟨x7,Gg,h⟩:=ae h
 refine sq tok (oc Gg) (by simp only[cP,dA,bX,bt,bc,bp];exact⟨aC _ _,rfl⟩) (lA (ap _) (lA (se (wc (sE _) (wc (sE _) (wc (sE _) (wc (L9 rfl) wcn))))) lAn)) (.inl rfl) ?_
 refine sa ?_
 refine .nil (hK _ _ (rs hx fun K hK=>?_))
 refine s1 (d:=dO 6 (cI .i64) [(1:Int)]) (kK cC bE) ?_
 refine s1 (d:=dO 7 (cI .i64) [(-1:Int)]) (kK cC bE) ?_
 refine s1 (d:=dO 8 (cI .i64) [(0:Int)]) (kK cC bE) ?_
 refine scb h nF fun x9 h=>?_
 refine s1 (d:=dO 9 (cI .i64) [(1:Int)]) (kK cC bE) ?_
 obtain⟨o7,Gj,h⟩:=ae h
 refine s1 (io rfl (fa Gj) rfl (lA (ap _) lAn)) ?_
 refine s1 (d:=.ag [dI .i64 (2:Int),dN,dO 10 ai o7,dN]) (eh ma) ?_
 obtain⟨nD,xQ,h⟩:=ae h
 refine s1 (bb rfl (oc xQ) (by simp only[cP,dA,bX,bt,bc,bp];exact⟨aC _ _,rfl⟩) (lA (ap _) (lA (se (wc (sE _) (wc (L9 rfl) (wc (sE _) (wc (L9 rfl) wcn))))) lAn)) (.inl rfl)) ?_
 refine sa ?_
 refine .nil (hK _ _ (rs hx fun K hK=>?_))
 refine s1 (d:=dO 11 (cI .i64) [(-1:Int),(1:Int)]) (kK cC bE) ?_
 refine s1 (d:=dO 12 (cI .i64) [(1:Int)]) (kK cC bE) ?_
 refine s1 (d:=dO 13 (cI .i64) [(1:Int),(0:Int)]) (kK cC bE) ?_
 refine scb h nF fun BC h=>?_
 refine s1 (d:=dO 14 (cI .i64) [(0:Int),(0:Int)]) (kK cC bE) ?_
 obtain⟨nT,ta,h⟩:=ae h
 refine s1 (io rfl (fa ta) rfl (lA (ap _) lAn)) ?_
 refine s1 (d:=dO 16 (cI .i64) [(1:Int),(0:Int)]) (kK cC bE) ?_
 obtain⟨rP,wN,h⟩:=ae h
 refine s1 (io rfl (fa wN) rfl (lA (ap _) lAn)) ?_
 refine s1 (d:=.ag [dI .i64 (3:Int),dO 15 ai nT,dN,dO 17 ai rP]) (eh ma) ?_
 obtain⟨qR,Jz,h⟩:=ae h
 refine s1 (bb rfl (oc Jz) (by simp only[cP,dA,bX,bt,bc,bp];exact⟨aC _ _,rfl⟩) (lA (ap _) (lA (se (wc (sE _) (wc (sE _) (wc (L9 rfl) (wc (sE _) wcn))))) lAn)) (.inl rfl)) ?_
 refine sa ?_
 refine .nil (hK _ _ (rs hx fun K hK=>?_))
 refine s1 (d:=dO 18 (cI .i64) [(-1:Int)]) (kK cC bE) ?_
 refine s1 (d:=dO 19 (cI .i64) [(-2:Int)]) (kK cC bE) ?_
 refine s1 (d:=dO 20 (cI .i64) [(-1:Int)]) (kK cC bE) ?_
 refine scb h nF fun rY h=>?_
 refine s1 (d:=dO 21 (cI .i64) [(2:Int)]) (kK cC bE) ?_
 obtain⟨D7,hx26,h⟩:=ae h
 refine s1 (io rfl (fa hx26) rfl (lA (ap _) lAn)) ?_
 refine s1 (d:=dO 23 (cI .i64) [(1:Int)]) (kK cC bE) ?_
 obtain⟨uP,Aj,h⟩:=ae h
 refine s1 (io rfl (fa Aj) rfl (lA (ap _) lAn)) ?_
 refine s1 (d:=.ag [dI .i64 (1:Int),dO 22 ai D7,dO 24 ai uP,dN]) (eh ma) ?_
 obtain⟨wX,Ow,h⟩:=ae h
 refine s1 (bb rfl (oc Ow) (by simp only[cP,dA,bX,bt,bc,bp];exact⟨aC _ _,rfl⟩) (lA (ap _) (lA (se (wc (sE _) (wc (sE _) (wc (sE _) (wc (L9 rfl) wcn))))) lAn)) (.inl rfl)) ?_
 refine sa ?_
 refine .nil (hK _ _ (rs hx fun K hK=>?_))
 refine s1 (d:=dO 25 (cI .i64) [(1:Int),(1:Int),(1:Int),(-1:Int)]) (kK cC bE) ?_
 obtain⟨BB,hx32,h⟩:=ae h
 refine s1 (io rfl (fa hx32) rfl (lA (ap _) lAn)) ?_
 refine s2 (d2:=dG eN (⟨(2:Int),(2:Int),BB⟩:et)) (eh (es:=[dI .i64 (2:Int),dI .i64 (2:Int),dO 26 ai BB]) iS) (se (wc (sE _) (wc (sE _) (wc (lc_x _) wcn)))) ?_
 refine s1 (d:=.pt 27 0) (um iS) ?_
 refine s0 (MN (ds':=[dI .i64 (2:Int),dI .i64 (2:Int),dL ai BB]) iS) ?_
 refine .nil (hK _ _ (AW.seq ?_))
 obtain⟨u3,HV,h⟩:=ae h
 obtain⟨u2,Me,h⟩:=ae h
 refine jn (PE cx .normal (fun (_:Unit)=>[(1,.pt 0 0),(2,dB x7),(3,dB nD),(4,dB qR),(5,dB wX),(6,.pt 1 0),(7,.pt 2 0),(9,dI .i64 u2.2.2)]) (fun (_:Unit)=>⟨[(0,[dI .i64 x1.vA.vR,dI .i64 x1.vA.vC,dL ai x1.vA.vV,dL ai x1.vB,dL ai x1.vC]),(1,[dI .i64 (2:Int),dI .i64 (2:Int),dL ai BB]),(2,[dI .i64 u2.1.vKind,dL ai u2.1.vX,dL ai u2.1.vY,dL ai u2.1.vRay])],[],3⟩) ()) ?_ ?_
 refine dw (DW.split 2 8 (by decide) ?_ ?_)
 refine dwg [21] [0,1,2,3,4,5,6,7,8,9,10,11] hx (by kernel_rfl) (by kernel_rfl) (by kernel_rfl) fun K hK=>?_
 dsimp only[ez,mZ,na,List.map]
 refine s1 (d:=dG eN (⟨(2:Int),(2:Int),BB⟩:et)) (fV iS) ?_
 refine s1 (DE cC bE) ?_
 refine s1 (io rfl (fa HV) rfl (lA (ap _) lAn)) ?_
 refine cq (uz Me) ?_
 iterate 4 refine sa ?_
 refine s1 (d:=.pt 29 0) (um ma) ?_
 refine s0 (MN (ds':=[dI .i64 u2.1.vKind,dL ai u2.1.vX,dL ai u2.1.vY,dL ai u2.1.vRay]) ma) ?_
 iterate 2 refine sa ?_
 exact .nil (hK _ _ (pe0 h0 [3,27,29]))
 refine dwg [21] [0,1,8,2,3,4,5,6,7,9,10,11] hx (by kernel_rfl) (by kernel_rfl) (by kernel_rfl) fun K hK=>?_
 dsimp only[ez,mZ,na,List.map]
 refine s1 (d:=dG eN (⟨(2:Int),(2:Int),BB⟩:et)) (fV iS) ?_
 refine s1 (DE cC bE) ?_
 refine s1 (d:=.pt 28 0) (um ma) ?_
 refine s1 (io rfl (fa HV) rfl (lA (ap _) lAn)) ?_
 refine cq (uz Me) ?_
 iterate 4 refine sa ?_
 refine s0 (MN (ds':=[dI .i64 u2.1.vKind,dL ai u2.1.vX,dL ai u2.1.vY,dL ai u2.1.vRay]) ma) ?_
 iterate 2 refine sa ?_
 exact .nil (hK _ _ (pe0 h0 [3,27,28]))
 rintro ex tm' hp' ⟨rfl,hw⟩
 refine AW.weak hw (AW.seq ?_)
 obtain⟨Dx,hy,h⟩:=ae h
 refine jn ((PE cx .normal (fun Dx=>[(1,.pt 0 0),(2,dB x7),(3,dB nD),(4,dB qR),(5,dB wX),(10,dB Dx)]) fun Dx=>⟨[(0,[dI .i64 x1.vA.vR,dI .i64 x1.vA.vC,dL ai x1.vA.vV,dL ai x1.vB,dL ai x1.vC])],[],1⟩) Dx) ?_ ?_
 replace h:=hy
 refine rqd [23] hx fun K hK=>?_
 iterate 3 refine sa ?_
 rcases az (decide (u2.2.2=(0:Int))) with Gu|Gu
 replace h:=aO Gu h
 refine ga Gu ?_
 refine g1 Gu (aX bE) ?_
 refine ga Gu ?_
 refine s1 (ar Gu) ?_
 refine sa ?_
 rcases az (decide (u2.1.vKind=(2:Int))) with qf|qf
 replace h:=aO qf h
 refine g1 (d:=dG eN (⟨(2:Int),(2:Int),BB⟩:et)) qf (fV iS) ?_
 refine g1 qf (DE cC bE) ?_
 obtain⟨Bk,hx40,h⟩:=ae h
 refine g1 qf (io rfl (fa hx40) rfl (lA (ap _) lAn)) ?_
 refine g1 (d:=dG dJ u2.1) qf (fV ma) ?_
 obtain⟨x41,hx42,h⟩:=ae h
 refine sqg tok rfl rfl qf (u7 hx42) (by simp only[cP,dA,bX,bt,bc,bp];exact⟨aC _ _,rfl,aC _ _⟩) (lA (ap _) (lA (ap _) (lA (ap _) lAn))) (.inl rfl) ?_
 refine ga qf ?_
 refine s1 (ar qf) ?_
 refine sa ?_
 refine .nil (hK _ _ ?_)
 cases h
 exact pe0 h0 [0]
 replace h:=aP qf h
 iterate 6 refine aG rfl rfl qf ?_
 refine s1 (an qf) ?_
 refine sa ?_
 refine .nil (hK _ _ ?_)
 cases h
 exact pe0 h0 [0]
 replace h:=aP Gu h
 iterate 3 refine aG rfl rfl Gu ?_
 refine s1 (an Gu) ?_
 refine sa ?_
 iterate 6 refine aG rfl rfl rfl ?_
 refine s1 (an rfl) ?_
 refine sa ?_
 refine .nil (hK _ _ ?_)
 cases h
 exact pe0 h0 [0]
 rintro ex tm' hp' ⟨rfl,hw⟩
 refine AW.weak hw (AW.seq ?_)
 obtain⟨tA,hy,h⟩:=ae h
 refine jn ((PE cx .normal (fun tA=>[(0,dB tA)]) fun tA=>⟨[],[],0⟩) tA) ?_ ?_
 replace h:=hy
 refine rqd [19] hx fun K hK=>?_
 iterate 2 refine sa ?_
 rcases az x7 with JU|JU
 replace h:=aO JU h
 refine ga JU ?_
 refine s1 (ar JU) ?_
 refine sa ?_
 rcases az nD with rW|rW
 replace h:=aO rW h
 refine ga rW ?_
 refine s1 (ar rW) ?_
 refine sa ?_
 rcases az qR with JT|JT
 replace h:=aO JT h
 refine ga JT ?_
 refine s1 (ar JT) ?_
 refine sa ?_
 rcases az wX with JS|JS
 replace h:=aO JS h
 refine ga JS ?_
 refine s1 (ar JS) ?_
 refine sa ?_
 rcases az Dx with qe|qe
 replace h:=aO qe h
 refine g1 (d:=dG b9 x1) qe (fV m5) ?_
 obtain⟨x49,hx50,h⟩:=ae h
 refine g1 qe (io rfl (od hx50) rfl (lA (ap _) (lA (ap _) lAn))) ?_
 obtain⟨x51,hx52,h⟩:=ae h
 refine g1 qe (io rfl (od hx52) rfl (lA (ap _) (lA (ap _) lAn))) ?_
 refine g1 (d:=.ag [dI .i64 (1:Int),dO 1 ai x49,dO 2 ai x51,dN]) qe (eh ma) ?_
 obtain⟨x53,hx54,h⟩:=ae h
 refine sqg tok rfl rfl qe (p8 hx54) (by simp only[cP,dA,bX,bt,bc,bp];exact⟨aC _ _,rfl⟩) (lA (ap _) (lA (se (wc (sE _) (wc (sE _) (wc (sE _) (wc (L9 rfl) wcn))))) lAn)) (.inl rfl) ?_
 refine ga qe ?_
 refine s1 (ar qe) ?_
 refine sa ?_
 refine .nil (hK _ _ ?_)
 cases h
 exact pe0 h0 []
 replace h:=aP qe h
 iterate 6 refine aG rfl rfl qe ?_
 refine s1 (an qe) ?_
 refine sa ?_
 refine .nil (hK _ _ ?_)
 cases h
 exact pe0 h0 []
 replace h:=aP JS h
 refine aG rfl rfl JS ?_
 refine s1 (an JS) ?_
 refine sa ?_
 iterate 6 refine aG rfl rfl rfl ?_
 refine s1 (an rfl) ?_
 refine sa ?_
 refine .nil (hK _ _ ?_)
 cases h
 exact pe0 h0 []
 replace h:=aP JT h
 refine aG rfl rfl JT ?_
 refine s1 (an JT) ?_
 refine sa ?_
 refine aG rfl rfl rfl ?_
 refine s1 (an rfl) ?_
 refine sa ?_
 iterate 6 refine aG rfl rfl rfl ?_
 refine s1 (an rfl) ?_
 refine sa ?_
 refine .nil (hK _ _ ?_)
 cases h
 exact pe0 h0 []
 replace h:=aP rW h
 refine aG rfl rfl rW ?_
 refine s1 (an rW) ?_
 refine sa ?_
 refine aG rfl rfl rfl ?_
 refine s1 (an rfl) ?_
 refine sa ?_
 refine aG rfl rfl rfl ?_
 refine s1 (an rfl) ?_
 refine sa ?_
 iterate 6 refine aG rfl rfl rfl ?_
 refine s1 (an rfl) ?_
 refine sa ?_
 refine .nil (hK _ _ ?_)
 cases h
 exact pe0 h0 []
 replace h:=aP JU h
 refine aG rfl rfl JU ?_
 refine s1 (an JU) ?_
 refine sa ?_
 refine aG rfl rfl rfl ?_
 refine s1 (an rfl) ?_
 refine sa ?_
 refine aG rfl rfl rfl ?_
 refine s1 (an rfl) ?_
 refine sa ?_
 refine aG rfl rfl rfl ?_
 refine s1 (an rfl) ?_
 refine sa ?_
 iterate 6 refine aG rfl rfl rfl ?_
 refine s1 (an rfl) ?_
 refine sa ?_
 refine .nil (hK _ _ ?_)
 cases h
 exact pe0 h0 []
 rintro ex tm' hp' ⟨rfl,hw⟩
 refine AW.weak hw (AW.ret ?_)
 cases h
 exact rv1
def qY(R Cc:Int)(A B C:List Nu)(most:Int):Ans×Int×Int:=if p9 R Cc A B C&&decide (0≤most) then lZ R.toNat Cc.toNat A B C most else (⟨0,[],[],[]⟩,0,1)
theorem Dj {l:List Nu}(h:l.all aW=true):∀i,i<l.length→aW l[i]! =true:=fun i hi=>by
 rw[cO l i hi];exact dc.1 h _ (rI _)
theorem P_Solve {R Cc most:Int}{A B C:List Nu}(hA:A.length≤1000000)(hB:B.length≤1000000)(hC:C.length≤1000000)(hm:most≤9223372036854775807):lH ⟨⟨R,Cc,A.map nv⟩,B.map nv,C.map nv⟩ most=some (ud (qY R Cc A B C most)):=by
 unfold lH qY
 rw[GW hA hB hC,aa]
 cases hv:p9 R Cc A B C with
 |false=>
  rw[if_neg (by simp),if_neg (by simp)]
 |true=>
  by_cases h0:0≤most
  ·rw[if_pos ⟨rfl,h0⟩]
   obtain⟨m,nn,rfl,rfl,h1,h2,h3,h4,h5,g1,g2,g3⟩:=xE hv
   dsimp only
   rw[qb,qb,qb]
   refine (if_pos ⟨⟨by simp,by simp,by simpa using h1,by simpa using h2,Cu _,Cu _,Cu _,by simpa using h3,by simpa using h4,by simpa using h5,?_,?_,?_⟩,hm⟩).trans (by rw[if_pos (by simpa using h0)])
   ·dsimp only;rw[qb];exact Dj g1
   ·dsimp only;rw[qb];exact Dj g2
   ·dsimp only;rw[qb];exact Dj g3
  ·rw[if_neg (fun h=>h0 h.2),if_neg (by simp[h0])]
theorem wm {l:List Nu}(h:l.all aW=true):(kW l).all aW=true:=by
 unfold kW
 rw[mi,h,Bool.true_and,List.all_map,←h]
 congr 1
 funext x
 exact EU
def GG(R Cc:Int)(A B:List Nu)(most:Int):Ans×Int×Int:=if sb R Cc A B&&decide (0≤most) then xV R.toNat Cc.toNat A B most else (⟨0,[],[],[]⟩,0,1)
theorem P_Equal {R Cc most:Int}{A B:List Nu}(hA:A.length≤500000)(hB:B.length≤500000)(hm:most≤9223372036854775807):lI ⟨R,Cc,A.map nv⟩ (B.map nv) most=some (ud (GG R Cc A B most)):=by
 unfold lI GG
 rw[DH (by omega) (by omega),aa]
 cases hv:sb R Cc A B with
 |false=>
  rw[if_neg (by simp),if_neg (by simp)]
 |true=>
  by_cases h0:0≤most
  ·rw[if_pos ⟨rfl,h0⟩]
   obtain⟨m,nn,rfl,rfl,h1,h2,h3,h4,g1,g2⟩:=AO hv
   dsimp only
   rw[qb,qb]
   have hlA:(kW A).length=(m+m)*nn:=by unfold kW;rw[c8,bw,h3,cz]
   have hlB:(kW B).length=m+m:=by unfold kW;rw[c8,bw,h4]
   have hlA2:(kW A).length=A.length+A.length:=by unfold kW;rw[c8,bw]
   have hz:(List.replicate nn (nOf 0)).all aW=true:=dc.2 fun x hx=>by rw[List.eq_of_mem_replicate hx];exact of0.1
   refine (if_pos ⟨⟨by simp,by simp,by simpa using h1,by simpa using h2,Cu _,Cu _,by simpa using h3,by simpa using h4,by simp;omega,?_,?_,?_⟩,hm⟩).trans (by rw[if_pos (by simpa using h0)])
   ·dsimp only;rw[qb];exact Dj (wm g1)
   ·rw[qb];exact Dj (wm g2)
   ·dsimp only
    rw[qb,qb,ct,ct,GW (by omega) (by omega) (by simp;omega)]
    congr 1
    unfold p9 F6
    rw[hlA,hlB,wm g1,wm g2,hz,xq]
    have q1:decide ((0:Int)≤((m+m:Nat):Int))=true:=aF (by omega)
    have q2:decide ((0:Int)≤(nn:Int))=true:=aF (by omega)
    have q3:decide (((m+m:Nat):Int)≤2000)=true:=aF (by omega)
    have q4:decide ((nn:Int)≤2000)=true:=aF (by omega)
    have q5:decide ((((m+m)*nn:Nat):Int)=((m+m:Nat):Int)*(nn:Int))=true:=aF (by rw[jZ])
    have q6:decide (((m+m:Nat):Int)=((m+m:Nat):Int))=true:=aF rfl
    have q7:decide (((nn:Nat):Int)=(nn:Int))=true:=aF rfl
    rw[q1,q2,q3,q4,q5,q6,q7]
    rfl
  ·rw[if_neg (fun h=>h0 h.2),if_neg (by simp[h0])]
theorem uo {l:List Int}(hl:l.length≤1000000)(h:∀i,i<l.length→-1000≤l[i]!∧l[i]!≤1000):dY l=some ((l.map nOf).map nv):=by
 unfold dY
 have key:=rh (b:=lM l) (fun i:Nat=>(((l.take i).map nOf).map nv,(i:Int))) 0 l.length ((l.map nOf).map nv) (cX _) (fun i _ hi=>?_) ?_
 ·have e:((((l.take 0).map nOf).map nv),((0:Nat):Int))=(([]:List ao),(0:Int)):=by simp
  rw[e] at key
  rw[key];rfl
 ·unfold lM
  dsimp only
  have kb:l[((i:Nat):Int).toNat]! =l[i]! :=by rw[show ((i:Nat):Int).toNat=i by omega]
  have htk:l.take (i+1)=l.take i++[l[i]!]:=by rw[zi,de hi,cO l i hi];rfl
  obtain⟨h1,h2⟩:=h i hi
  rw[cE _ _ (by omega),aM (by omega),kb,R_Of (by omega) (by omega),aa,aM (by simp;omega),eu (by omega) (by omega),htk]
  simp only[iU,cP,dA]
  rfl
 ·unfold lM
  dsimp only
  rw[co _ _ (by omega),iP (aB _)]
def fr(a b:Int):Nu:=nuR (some (Rat.divInt a b))
theorem DG {a b:Int}(ha:-1000≤a∧a≤1000)(hb:-1000≤b∧b≤1000):gG a b=some ([fr a 5,fr b 5].map nv):=by
 have hL:∀n:Int,-1000≤n∧n≤1000→n.natAbs<LIM:=fun n hn=>eD (show n.natAbs<18446744073709551616 by omega) (by decide)
 have hf:∀n:Int,-1000≤n∧n≤1000→mV n 5=some (nv (fr n 5)):=fun n hn=>by
  unfold mV
  rw[pF (by omega) (by omega),aa,pF (by omega) (by omega),aa,AG (hL n hn) (by decide) (by decide),aa]
  rfl
 unfold gG
 rw[hf a ha,hf b hb]
 rfl
def KF(l:List Nu):Bool:=decide (l.length≤1000)
def Ob(a:Ans):Bool:=KF a.x&&(KF a.y&&KF a.ray)
theorem s9 {a:Ans}(h:Ob a=true):xy a:=by
 unfold Ob KF at h
 simp only[bp,qM] at h
 exact⟨by omega,by omega,by omega⟩
def e1B:Bool:=qY 2 2 ([1,2,3,1].map nOf) ([4,6].map nOf) ([1,1].map nOf) 100 |> fun r=>decide (r.1=⟨1,[fr 8 5,fr 6 5],[fr 2 5,fr 1 5],[]⟩)&&(decide (r.2.2=0)&&decide (ru 2 2 ([1,2,3,1].map nOf) ([4,6].map nOf) ([1,1].map nOf) r.1=0))
def e2B:Bool:=qY 1 1 ([1].map nOf) ([-1].map nOf) ([0].map nOf) 100 |> fun r=>decide (r.1=⟨2,[],[1].map nOf,[]⟩)&&(decide (r.2.2=0)&&decide (ru 1 1 ([1].map nOf) ([-1].map nOf) ([0].map nOf) r.1=0))
def e3B:Bool:=qY 1 2 ([-1,1].map nOf) ([1].map nOf) ([1,0].map nOf) 100 |> fun r=>decide (r.1=⟨3,[0,0].map nOf,[],[1,0].map nOf⟩)&&(decide (r.2.2=0)&&decide (ru 1 2 ([-1,1].map nOf) ([1].map nOf) ([1,0].map nOf) r.1=0))
def e4B:Bool:=qY 1 1 ([-1].map nOf) ([-2].map nOf) ([-1].map nOf) 100 |> fun r=>decide (r.1=⟨1,[2].map nOf,[1].map nOf,[]⟩)&&(decide (r.2.2=0)&&decide (ru 1 1 ([-1].map nOf) ([-2].map nOf) ([-1].map nOf) r.1=0))
def e5B:Bool:=GG 2 2 ([1,1,1,-1].map nOf) ([1,3].map nOf) 100 |> fun r=>Ob r.1&&(decide (r.2.2=0)&&(decide (r.1.kind=2)&&decide (Dc 2 2 ([1,1,1,-1].map nOf) ([1,3].map nOf) r.1=0)))
def e6B:Bool:=decide (ru 2 2 ([1,2,3,1].map nOf) ([4,6].map nOf) ([1,1].map nOf) ⟨1,[fr 8 5,fr 6 5],[fr 2 5,fr 2 5],[]⟩=250)
theorem e1T:e1B=true:=by decide +kernel
theorem e2T:e2B=true:=by decide +kernel
theorem e3T:e3B=true:=by decide +kernel
theorem e4T:e4B=true:=by decide +kernel
theorem e5T:e5B=true:=by decide +kernel
theorem e6T:e6B=true:=by decide +kernel
theorem zC {R Cc:Int}{A B C:List Nu}{want:Ans}(hA:A.length≤1000000)(hB:B.length≤1000000)(hC:C.length≤1000000)(hl:xy want)(h:(decide ((qY R Cc A B C 100).1=want)&&(decide ((qY R Cc A B C 100).2.2=0)&&decide (ru R Cc A B C (qY R Cc A B C 100).1=0)))=true):gF ⟨⟨R,Cc,A.map nv⟩,B.map nv,C.map nv⟩ (sK want)=some true:=by
 simp only[bp,qM] at h
 obtain⟨h1,h2,h3⟩:=h
 rw[h1] at h3
 unfold gF
 rw[P_Solve hA hB hC (by decide),aa]
 have e:(ud (qY R Cc A B C 100)).1=sK want:=by rw[←h1];rfl
 have e2:(ud (qY R Cc A B C 100)).2.2=0:=h2
 rw[e,e2,GT hl,GY hA hB hC hl,h3]
 simp only[aa,pW]
 simp
theorem wE {rows:Int}{a b c:List Int}(ha:a.length≤1000000)(hb:b.length≤1000000)(hc:c.length≤1000000)(h1:∀i,i<a.length→-1000≤a[i]!∧a[i]!≤1000)(h2:∀i,i<b.length→-1000≤b[i]!∧b[i]!≤1000)(h3:∀i,i<c.length→-1000≤c[i]!∧c[i]!≤1000):fQ rows a b c=some ⟨⟨rows,(c.length:Int),(a.map nOf).map nv⟩,(b.map nOf).map nv,(c.map nOf).map nv⟩:=by
 unfold fQ
 rw[uo ha h1,aa,uo hb h2,aa,uo hc h3,aa]
theorem sane:kD=some true:=by
 have p1:=wE (rows:=2) (a:=[1,2,3,1]) (b:=[4,6]) (c:=[1,1]) (by decide) (by decide) (by decide) (by decide) (by decide) (by decide)
 have p2:=wE (rows:=1) (a:=[1]) (b:=[-1]) (c:=[0]) (by decide) (by decide) (by decide) (by decide) (by decide) (by decide)
 have p3:=wE (rows:=1) (a:=[-1,1]) (b:=[1]) (c:=[1,0]) (by decide) (by decide) (by decide) (by decide) (by decide) (by decide)
 have p4:=wE (rows:=1) (a:=[-1]) (b:=[-2]) (c:=[-1]) (by decide) (by decide) (by decide) (by decide) (by decide) (by decide)
 have f1:=DG (a:=8) (b:=6) (by decide) (by decide)
 have f2:=DG (a:=2) (b:=1) (by decide) (by decide)
 have f3:=DG (a:=2) (b:=2) (by decide) (by decide)
 have i1:=uo (l:=[1]) (by decide) (by decide)
 have i2:=uo (l:=[0,0]) (by decide) (by decide)
 have i3:=uo (l:=[1,0]) (by decide) (by decide)
 have i4:=uo (l:=[2]) (by decide) (by decide)
 have i5:=uo (l:=[1,1,1,-1]) (by decide) (by decide)
 have i6:=uo (l:=[1,3]) (by decide) (by decide)
 have s1:=zC (want:=⟨1,[fr 8 5,fr 6 5],[fr 2 5,fr 1 5],[]⟩) (R:=2) (Cc:=2) (by decide) (by decide) (by decide) (s9 rfl) e1T
 have s2:=zC (want:=⟨2,[],[1].map nOf,[]⟩) (R:=1) (Cc:=1) (by decide) (by decide) (by decide) (s9 rfl) e2T
 have s3:=zC (want:=⟨3,[0,0].map nOf,[],[1,0].map nOf⟩) (R:=1) (Cc:=2) (by decide) (by decide) (by decide) (s9 rfl) e3T
 have s4:=zC (want:=⟨1,[2].map nOf,[1].map nOf,[]⟩) (R:=1) (Cc:=1) (by decide) (by decide) (by decide) (s9 rfl) e4T
 have q1:=P_Equal (R:=2) (Cc:=2) (A:=[1,1,1,-1].map nOf) (B:=[1,3].map nOf) (most:=100) (by decide) (by decide) (by decide)
 have h5:=e5T
 unfold e5B at h5
 obtain⟨r,hr⟩:∃r,r=GG 2 2 ([1,1,1,-1].map nOf) ([1,3].map nOf) 100:=⟨_,rfl⟩
 rw[←hr] at q1 h5
 simp only[bp,qM] at h5
 obtain⟨hl,k2,k3,k4⟩:=h5
 have q2:=GX (R:=2) (Cc:=2) (A:=[1,1,1,-1].map nOf) (B:=[1,3].map nOf) (a:=r.1) (by decide) (by decide) (s9 hl)
 rw[k4] at q2
 have q3:=GY (R:=2) (Cc:=2) (A:=[1,2,3,1].map nOf) (B:=[4,6].map nOf) (C:=[1,1].map nOf) (a:=⟨1,[fr 8 5,fr 6 5],[fr 2 5,fr 2 5],[]⟩) (by decide) (by decide) (by decide) (s9 rfl)
 rw[show ru 2 2 ([1,2,3,1].map nOf) ([4,6].map nOf) ([1,1].map nOf) ⟨1,[fr 8 5,fr 6 5],[fr 2 5,fr 2 5],[]⟩=250 from da e6T] at q3
 have z1:(ud r).1=sK r.1:=rfl
 have z2:(ud r).2.2=0:=k2
 have z3:(sK r.1).vKind=2:=k3
 unfold kD
 rw[p1,aa,f1,aa,f2,aa]
 refine (congrArg (fun o=>bnd o _) s1).trans ?_
 rw[aa,p2,aa,i1,aa]
 refine (congrArg (fun o=>bnd o _) s2).trans ?_
 rw[aa,p3,aa,i2,aa,i3,aa]
 refine (congrArg (fun o=>bnd o _) s3).trans ?_
 rw[aa,p4,aa,i4,aa]
 rw[aa]
 refine (congrArg (fun o=>bnd o _) s4).trans ?_
 rw[aa,i5,aa,i6,aa,q1,aa,z1,z2,z3,aa,q2]
 have dt:decide True=true:=rfl
 simp only[aa,cT,dt,f3]
 refine (congrArg (fun o=>bnd (bnd o _) _) q3).trans ?_
 rfl
section
open Go.ChangeShapes Go.WideShapes Go.ChangeAt Go.RowKit Go.Deep
section
variable {H:Type} {enc:TypeId×Value→H} {P:Program}
theorem En {f:Func}{s:ChangeSpec}{apart fresh handsOn again:Bool}{W W':World}{args:Array Value}{v:Value}{ds gs:List (DataW H)}{before pa pv:List MemPlace}
  (hW:DataW.Whole enc P f.params.toList s.vars apart W args.toList ds gs before)
  (pQ:∀(b:Nat) (sp:Nat→Bool) (hd:Bool),DataW.TrodAll enc P W' b sp hd f.resultTypes.toList (v.resultList f.resultTypes.size) (s.fn H (ds++gs)).results [])
  (uH:∀sp:Nat→Bool,(∀p∈before,sp p.block=true)→DataW.TrodAll enc P W' 0 sp true f.params.toList args.toList (s.fn H (ds++gs)).args pa)
  (KR:∀sp:Nat→Bool,(∀p∈before,sp p.block=true)→DataW.TrodVars enc P W' sp s.vars (s.fn H (ds++gs)).vars pv)
  (OK:before=pa++pv) (hb:Below W.heap.size W W')
  (hok:∀(j:Nat) (t:TypeId) (r:Value),f.resultTypes[j]? =some t→(v.resultList f.resultTypes.size)[j]? =some r→Value.okWide P W' .any 0 t r):
  s.post enc P f apart fresh handsOn again W args v W':=by
 have b8:∀p∈before,p.block<W.heap.size:=fun p hp=>hW.lt p hp
 have hold:∀p∈before,(fun b=>decide (b<W.heap.size)) p.block=true:=fun p hp=>by simpa using b8 p hp
 refine⟨ds,gs,before,[],pa,pv,hW,pQ _ _ _,uH _ hold,KR _ hold,World.keptBut_mono (fun p hp=>⟨hp,?_⟩) (hb.frame (·∈before)),fun _=>?_⟩
 ·rw[OK,uL] at hp
  exact Or.inr hp
 ·obtain⟨_,_,_,_,_,hz,hn⟩:=hW
  refine⟨hok,_,_,([]++pa)++pv,⟨[]++pa,pv,trodAll_append (uH _ (fun _ _=>rfl)) (pQ _ _ _),KR _ (fun _ _=>rfl),rfl,?_,?_⟩,?_⟩
  ·intro b off hp
   have Ew:MemPlace.cell b off∈before:=by rw[OK];simpa using hp
   rw[hb.frozen (b8 _ Ew)]
   exact hz b off Ew
  ·intro ha
   have:=hn ha
   rw[OK] at this
   simpa using this
  ·intro p hp _
   rw[OK]
   simpa using hp
theorem Ei(hl:laidOutB P=true){W W':World}(hb:Below W.heap.size W W'){sp:Nat→Bool}:∀(ts:List TypeId) (vs:List Value) (ds:List (DataW H)) (p:List MemPlace),
  (ts.all fun t=>P.readableRec t&&decide (t<P.types.size))=true→DataW.TrodAll enc P W 0 (fun _=>true) true ts vs ds p→(∀x∈p,x.block<W.heap.size)→(∀x∈p,sp x.block=true)→
  DataW.TrodAll enc P W' 0 sp true ts vs ds p:=by
 intro ts
 induction ts with
 |nil=>
  intro vs ds p _ h _ _
  cases vs with
  |nil=>cases ds with
   |nil=>exact h
   |cons d ds=>exact h.elim
  |cons v vs=>exact h.elim
 |cons t ts ih=>
  intro vs ds p hr h b8 hs
  cases vs with
  |nil=>exact h.elim
  |cons v vs=>
   cases ds with
   |nil=>exact h.elim
   |cons d ds=>
    obtain⟨p1,q,h1,h2,rfl⟩:=h
    simp only[bX,bp,qM] at hr
    refine⟨p1,q,WideElems.Trod_stays hl hr.1.1 hr.1.2 h1 (fun x hx=>hb.same (b8 x (by simp[hx]))) (fun x hx=>hs x (by simp[hx])),ih vs ds q hr.2 h2 (fun x hx=>b8 x (by simp[hx])) (fun x hx=>hs x (by simp[hx])),rfl⟩
theorem Oi {f:Func}{s:ChangeSpec}{W W':World}{args:Array Value}{ds gs:List (DataW H)}{before:List MemPlace}{tb:TypeId}
  (hl:laidOutB P=true) (hv:s.vars=[]) (hrec:(f.params.toList.all fun t=>P.readableRec t&&decide (t<P.types.size))=true)
  (pQ:f.resultTypes=#[tb]) (htb:P.underlying tb=some .bool)
  (hW:DataW.Whole enc P f.params.toList s.vars false W args.toList ds gs before)
  (hfn:s.fn H (ds++gs)={results:=[.lit (.bool true)],args:=ds}) (hb:Below W.heap.size W W'):
  s.post enc P f false true false false W args (.bool true) W':=by
 have hW':=hW
 obtain⟨p,q,hA,hV,hpq,_,_⟩:=hW
 rw[hv] at hV
 have hq:q=[]:=by
  cases gs with
  |nil=>exact hV
  |cons g gs=>exact hV.elim
 subst hq
 rw[sv] at hpq
 subst hpq
 refine En (pa:=before) (pv:=[]) hW' (fun b sp hd=>?_) (fun sp hsp=>?_) (fun sp _=>?_) (by simp) hb ?_
 ·rw[pQ,hfn]
  exact trodAll_cons_mk (shut_bool htb _) trodAll_mk0
 ·rw[hfn]
  exact Ei hl hb _ _ _ _ hrec hA (fun x hx=>hW'.lt x hx) hsp
 ·rw[hv,hfn];rfl
 ·exact ok_one pQ rfl (okWide_bool_mk htb _)
end
theorem hv_of {P:Program}{W:World}{params:Array TypeId}{args:Array Value}(h:∀(j:Nat) t v,params[j]? =some t→args[j]? =some v→Value.okWide P W .any 0 t v∨∃base,Value.okWide P W .any base t v)(j:Nat){t:TypeId}{v:Value}
  (h1:params[j]? =some t) (h2:args[j]? =some v):∃base,Value.okWide P W .any base t v:=by
 rcases h j t v h1 h2 with h|h
 ·exact⟨0,h⟩
 ·exact h
end
section
open Go.ChangeShapes Go.WideShapes Go.ChangeAt Go.RowKit Go.Deep
def wtFs(tb:TypeId→Option TyE)(f:TypeId→List E→Prop):List (Nat×TypeId)→List E→Prop
 |[],xs=>xs=[]
 |(_,t)::fs,xs=>∃j,tb t=some j∧j.size≤xs.length∧f t (xs.take j.size)∧wtFs tb f fs (xs.drop j.size)
def wtE(tb:TypeId→Option TyE):Nat→TypeId→List E→Prop
 |0,_,_=>False
 |k+1,t,xs=>∃i,tb t=some i∧xs.length=i.size∧match i.ty with
  | .int kd=>∃n,xs=[.lit (.int kd n)]∧(Lit.int kd n).wf=true
  | .bool=>∃b,xs=[.lit (.bool b)]
  | .str=>∃s:ByteArray,xs=[.lit (.string s)]∧s.size≤maxLen
  | .slice e=>∃j n ys,tb e=some j∧xs=[.sl j.size n ys]∧ys.length=n*j.size∧n≤maxLen∧∀i,i<n→wtE tb k e ((ys.drop (i*j.size)).take j.size)
  | .struct fs=>wtFs tb (wtE tb k) fs xs
  | .arr n e=>∃j,tb e=some j∧xs.length=n*j.size∧∀i,i<n→wtE tb k e ((xs.drop (i*j.size)).take j.size)
  |_=>False
def Ca(tb:TypeId→Option TyE)(f:TypeId→Bool):List (Nat×TypeId)→Nat→Nat→Bool
 |[],off,n=>off == n
 |(o,t)::fs,off,n=>o == off&&f t&&match tb t with
  |some j=>Ca tb f fs (off+j.size) n
  |none=>false
def FU(tb:TypeId→Option TyE):Nat→TypeId→Bool
 |0,_=>false
 |k+1,t=>match tb t with
  |some i=>match i.ty with
   | .int _| .bool| .str=>i.size == 1
   | .slice e=>i.size == 1&&FU tb k e&&match tb e with
    |some j=>decide (0<j.size)
    |none=>false
   | .struct fs=>Ca tb (FU tb k) fs 0 i.size
   | .arr n e=>FU tb k e&&match tb e with
    |some j=>i.size == n*j.size
    |none=>false
   |_=>false
  |none=>false
section
variable {H:Type} {enc:TypeId×Value→H} {P:Program} {tb:TypeId→Option TyE} {W:World} {sp:Nat→Bool} {hd:Bool} {base:Nat}
theorem TOk.cells(tok:TOk P tb){t:TypeId}{i:TyE}(h:tb t=some i):P.cellsOf t=i.size:=by
 obtain⟨f,z,h1,h2,_⟩:=tok.inf h
 unfold Program.cellsOf
 rw[h1]
 exact h2
def F0:Addr→Prop:=fun _=>False
theorem As {z:Nat}{us:List Value}{Good:List E→Prop}:∀(n:Nat),us.length=n*z→(∀i,i<n→∃xs,Pw (d6 W F0) xs ((us.drop (i*z)).take z)∧Good xs)→
  ∃ys,Pw (d6 W F0) ys us∧ys.length=n*z∧∀i,i<n→Good ((ys.drop (i*z)).take z)
 |0,hl,_=>⟨[],by rw[ic] at hl;rw[rX hl];exact Pw.nil,by simp,fun i h=>absurd h (rG _)⟩
 |n+1,hl,h=>by
  rw[rK] at hl
  have b8:(us.take (n*z)).length=n*z:=by rw[eH];omega
  obtain⟨ys,h1,h2,h3⟩:=As (us:=us.take (n*z)) n b8 fun i hi=>by
   obtain⟨xs,g1,g2⟩:=h i (by omega)
   have hm:i*z+z≤n*z:=by rw[←rK];exact dZ _ hi
   refine⟨xs,?_,g2⟩
   rw[List.drop_take,List.take_take,su (by omega)]
   exact g1
  obtain⟨xs,g1,g2⟩:=h n (by omega)
  have hx:xs.length=z:=by rw[g1.1,eH,fT];omega
  refine⟨ys++xs,?_,by rw[c8,h2,hx,rK],fun i hi=>?_⟩
  ·have e:us=us.take (n*z)++(us.drop (n*z)).take z:=by
    rw[iP (l:=us.drop (n*z)) (by rw[fT];omega),xr]
   rw[e]
   exact h1.append g1
  ·rcases hE i n with Ew|Ew
   ·have hm:i*z+z≤n*z:=by rw[←rK];exact dZ _ Ew
    rw[List.drop_append_of_le_length (by omega),Bd (by rw[fT];omega)]
    exact h3 i Ew
   ·obtain rfl:i=n:=by omega
    rw[List.drop_append,h2,Nat.sub_self,Be (by omega)]
    simp only[rB,mL]
    rw[iP (by omega)]
    exact g2
theorem ww(tok:TOk P tb):∀(k:Nat) (fuel:Nat) (t:TypeId) (cs:List Value) (x:DataW H×List MemPlace),FU tb k t=true→DataW.trod enc P W base sp hd fuel t cs=some x→∃xs,Pw (d6 W F0) xs cs∧wtE tb k t xs
 |0,_,_,_,_,h,_=>by cases h
 |k+1,fuel,t,cs,x,hok,h=>by
  unfold FU at hok
  cases ht:tb t with
  |none=>rw[ht] at hok;cases hok
  |some i=>
   rw[ht] at hok
   dsimp only at hok
   cases jY:i.ty with
   |int kd=>
    rw[jY] at hok
    have hz:i.size=1:=by simpa using hok
    obtain⟨n,rfl,_,hw⟩:=DataW.trod_int (tok.int ht jY) h
    exact⟨[.lit (.int kd n)],Pw.cons (.lit _ rfl) Pw.nil,i,ht,by rw[hz];rfl,by rw[jY];exact⟨n,rfl,hw⟩⟩
   |bool=>
    rw[jY] at hok
    have hz:i.size=1:=by simpa using hok
    obtain⟨dd,CQ,CP⟩:=tok.und ht
    rw[jY] at CP
    have hb:P.underlying t=some .bool:=by cases dd <;> simp[Ty.of] at CP;exact CQ
    obtain⟨b,rfl,_⟩:=DataW.trod_bool hb h
    exact⟨[.lit (.bool b)],Pw.cons (.lit _ rfl) Pw.nil,i,ht,by rw[hz];rfl,by rw[jY];exact⟨b,rfl⟩⟩
   |str=>
    rw[jY] at hok
    have hz:i.size=1:=by simpa using hok
    obtain⟨s,rfl,_,hs⟩:=DataW.trod_string (tok.str ht jY) h
    exact⟨[.lit (.string s)],Pw.cons (.lit _ rfl) Pw.nil,i,ht,by rw[hz];rfl,by rw[jY];exact⟨s,rfl,hs⟩⟩
   |slice e=>
    rw[jY] at hok
    dsimp only at hok
    cases he:tb e with
    |none=>rw[he] at hok;simp at hok
    |some j=>
     rw[he] at hok
     simp only[bp,beq_iff_eq,qM] at hok
     obtain⟨⟨hz,hoe⟩,Gq⟩:=hok
     have hce:=tok.cells he
     rcases open_slice (tok.slice ht jY) h with⟨rfl,_⟩|⟨a,len,cap,m,n,D,Pl,rfl,hb,hlc,o0,hm,_,hi⟩
     ·exact⟨[.sl j.size 0 []],Pw.cons (.sl _ 0 [] none 0 (fun _=>undef) (by simp) Gq (aB _) (cX _) (fun h=>absurd h (Nat.lt_irrefl _)) (fun _ h=>by cases h) (fun _ _ h=>by simp at h)) Pw.nil,
       i,ht,by rw[hz];rfl,by rw[jY];exact⟨j,0,[],he,rfl,by simp,cX _,fun i h=>absurd h (rG _)⟩⟩
     ·have hle:len≤m:=by rw[hm];split <;> omega
      rw[hce] at hi
      let us:List Value:=(List.range (len*j.size)).map fun q=>(W.cell? (a.add q)).getD undef
      have KS:us.length=len*j.size:=by simp[us]
      have hu:∀q,q<len*j.size→us[q]? =some ((W.cell? (a.add q)).getD undef):=fun q hq=>by simp[us,hq]
      have Pe:∀i,i<len→∃vI,W.cells? base (a.add (i*j.size)) j.size=some vI∧vI=(us.drop (i*j.size)).take j.size:=by
       intro i xT
       obtain⟨vI,hc,_⟩:=hi i (by omega)
       obtain⟨_,tG,CS⟩:=World.cells?_some hc
       refine⟨vI,hc,List.ext_getElem? fun q=>?_⟩
       have O4:i*j.size+j.size≤len*j.size:=by rw[←rK];exact dZ _ xT
       rw[ie,oQ]
       split
       ·rename_i hq
        have h1:=CS q hq
        rw[px] at h1
        rw[hu _ (by omega),h1]
        rw[de (by omega)];rfl
       ·rename_i hq
        rw[rC (by omega)]
      obtain⟨ys,KP,CG,hy3⟩:=As (W:=W) (us:=us) (z:=j.size) (Good:=wtE tb k e) len KS fun i xT=>by
       obtain⟨vI,hc,hcs'⟩:=Pe i xT
       obtain⟨cs2,mq,htr⟩:=hi i (by omega)
       rw[hc] at mq
       injection mq with mq
       subst mq
       rw[←hcs']
       exact ww tok k _ e vI _ hoe htr
      have A1:∀q v,us[q]? =some v→W.cell? (a.add q)=some v:=by
       intro q v hv
       have hq:q<len*j.size:=by
        rcases hE q us.length with h|h
        ·omega
        ·rw[rC h] at hv;cases hv
       -- the cell lies in a chunk
       have hqd:q / j.size<len:=Nat.div_lt_of_lt_mul (by rw[db];exact hq)
       obtain⟨vI,hc,hcs'⟩:=Pe (q / j.size) hqd
       obtain⟨_,tG,CS⟩:=World.cells?_some hc
       have h1:=CS (q % j.size) (eO _ Gq)
       rw[px,db,ln] at h1
       rw[hu q hq] at hv
       injection hv with hv
       rw[h1] at hv
       rw[h1,de (by have:=eO q Gq;omega)] at*
       simp only[vQ] at hv
       rw[hv]
      refine⟨[.sl j.size len ys],Pw.cons (.sl _ len ys (some a) cap (fun q=>us.getD q undef) CG Gq hlc o0 (fun hpl=>⟨a,rfl,?_⟩) (fun ad M3 q y hq=>?_) (fun q y hq=>?_)) Pw.nil,i,ht,by rw[hz];rfl,by rw[jY];exact⟨j,len,ys,he,rfl,CG,dP hlc o0,hy3⟩⟩
      ·have h0:0<len*j.size:=vP hpl Gq
       have:=World.block_lt_of_cell? W _ (A1 0 _ (hu 0 h0))
       rwa[gv] at this
      ·injection M3 with M3
       subst M3
       obtain⟨v,hv,_⟩:=KP.get hq
       refine⟨?_,fun hf=>hf⟩
       rw[A1 q v hv,List.getD,hv];rfl
      ·obtain⟨v,hv,hr⟩:=KP.get hq
       rw[List.getD,hv]
       exact hr
   |other=>rw[jY] at hok;cases hok
   |struct fs=>
    rw[jY] at hok
    dsimp only at hok
    obtain⟨fields,hf,G8⟩:=tok.struct ht jY
    obtain⟨xs,n,_,_,tG,AV,lz⟩:=DataW.trod_struct hf h
    rw[tok.cells ht] at tG
    have key:∀(l:List Field) (off:Nat),(∀f∈l,∃x,DataW.trod enc P W base sp hd n f.type ((cs.drop f.offset).take (P.cellsOf f.type))=some x)→off≤cs.length→Ca tb (FU tb k) (l.map fun f=>(f.offset,f.type)) off i.size=true→
      ∃ys,Pw (d6 W F0) ys (cs.drop off)∧wtFs tb (wtE tb k) (l.map fun f=>(f.offset,f.type)) ys:=by
     intro l
     induction l with
     |nil=>
      intro off _ ho xh
      have:off=i.size:=by simpa[Ca] using xh
      exact⟨[],by rw[Be (by omega)];exact Pw.nil,rfl⟩
     |cons f l ih=>
      intro off hl ho xh
      simp only[cP,Ca,bp,beq_iff_eq] at xh
      obtain⟨⟨hof,Bs⟩,xh⟩:=xh
      cases hj:tb f.type with
      |none=>rw[hj] at xh;cases xh
      |some j=>
       rw[hj] at xh
       dsimp only at xh
       obtain⟨x,hx⟩:=hl f (qw ..)
       rw[tok.cells hj,hof] at hx
       obtain⟨zs,Jx,hz2⟩:=ww tok k _ f.type _ _ Bs hx
       have hzl:zs.length=j.size:=by
        cases k with
        |zero=>cases hz2
        |succ k=>
         obtain⟨j',Gr,Ml,_⟩:=hz2
         rw[hj] at Gr
         injection Gr with Gr
         subst Gr
         exact Ml
       have hlen:off+j.size≤cs.length:=by
        have:=Jx.1
        rw[hzl,eH,fT] at this
        omega
       obtain⟨ys,KP,CG⟩:=ih (off+j.size) (fun g hg=>hl g (o3 _ hg)) hlen xh
       refine⟨zs++ys,?_,j,hj,by rw[c8];omega,?_,?_⟩
       ·have e:cs.drop off=(cs.drop off).take j.size++cs.drop (off+j.size):=by
         rw[←qv,xr]
        rw[e]
        exact Jx.append KP
       ·rw[Bd (by omega),iP (by omega)]
        exact hz2
       ·rw[List.drop_append_of_le_length (by omega),Be (by omega)]
        exact CG
    obtain⟨ys,KP,CG⟩:=key fields.toList 0 (fun f hfm=>by
     obtain⟨q,hq⟩:=zj hfm
     have hq':fields[q]? =some f:=by simpa using hq
     have b8:q<xs.length:=by rw[AV];exact (oR.1 hq').1
     exact⟨xs[q],by rw[lz q f hq',de b8]⟩) (cX _) (by rw[G8];exact hok)
    rw[rB] at KP
    exact⟨ys,KP,i,ht,by rw[KP.1,tG],by rw[jY];rw[G8] at CG;exact CG⟩
   |arr n e=>
    rw[jY] at hok
    dsimp only at hok
    cases he:tb e with
    |none=>rw[he] at hok;simp at hok
    |some j=>
     rw[he] at hok
     simp only[bp,beq_iff_eq] at hok
     obtain⟨hoe,hz⟩:=hok
     obtain⟨xs,m,_,_,tG,AV,lz⟩:=DataW.trod_array (tok.arr ht jY) h
     rw[tok.cells ht] at tG
     rw[tok.cells he] at lz
     obtain⟨ys,KP,CG,hy3⟩:=As (W:=W) (us:=cs) (z:=j.size) (Good:=wtE tb k e) n (by rw[tG,hz]) fun q hq=>by
      have hq':=lz q hq
      rw[de (by omega)] at hq'
      exact ww tok k _ e _ _ hoe hq'
     exact⟨ys,KP,i,ht,by rw[KP.1,tG],by rw[jY];exact⟨j,he,CG,hy3⟩⟩
def argD(g:Bool)(xs:List E):D:=match g with
 |true=>.ag (xs.map D.e)
 |false=>.e (xs.headD .any)
theorem arg_rep(tok:TOk P tb){k:Nat}{t:TypeId}{i:TyE}{v:Value}{d:DataW H}{p:List MemPlace}{r:Reach}{b0:Nat}(hok:FU tb k t=true)(ht:tb t=some i)(uU:Value.okWide P W r b0 t v)(h:DataW.Trod enc P W base sp hd t v d p):
  ∃xs,wtE tb k t xs∧l9 W F0 (argD i.ty.agg xs) v:=by
 obtain⟨fuel,hf⟩:=h
 obtain⟨xs,hx,hw⟩:=ww tok k fuel t _ _ hok hf
 refine⟨xs,hw,?_⟩
 have one:v.cells=#[v]→l9 W F0 (.e (xs.headD .any)) v:=by
  intro hv
  rw[hv] at hx
  cases xs with
  |nil=>have:=hx.1;simp at this
  |cons y ys=>exact aR.e _ _ (hx.2 0 y v rfl rfl)
 have agg:∀cs,v=.agg cs→l9 W F0 (.ag (xs.map D.e)) v:=by
  rintro cs rfl
  have hx':Pw (d6 W F0) xs cs.toList:=hx
  refine aR.ag _ cs (by simpa using hx'.1.symm) (fun j u hu=>?_) (fun j d u hd hu=>?_)
  ·have uE:cs.toList[j]? =some u:=by simpa using hu
   have b8:j<xs.length:=by
    rw[hx'.1]
    exact (fZ.1 uE).1
   exact (hx'.2 j _ u (de b8) uE).one
  ·rw[ep] at hd
   cases hxj:xs[j]? with
   |none=>simp[hxj] at hd
   |some y=>
    simp only[hxj,n6,n5] at hd
    subst hd
    exact .e _ _ (hx'.2 j y u hxj (by simpa using hu))
 cases jY:i.ty with
 |int kd=>obtain⟨n,rfl⟩:=okWide_int (tok.int ht jY) uU;exact one rfl
 |bool=>
  obtain⟨dd,CQ,CP⟩:=tok.und ht
  rw[jY] at CP
  have hb:P.underlying t=some .bool:=by cases dd <;> simp[Ty.of] at CP;exact CQ
  obtain⟨b,rfl⟩:=okWide_bool hb uU
  exact one rfl
 |str=>obtain⟨s,rfl⟩:=okWide_string (tok.str ht jY) uU;exact one rfl
 |slice e=>obtain⟨a,l,c,rfl⟩:=okWide_slice (tok.slice ht jY) uU;exact one rfl
 |struct fs=>
  obtain⟨fields,hf,_⟩:=tok.struct ht jY
  obtain⟨cs,rfl,_⟩:=okWide_struct hf uU
  exact agg cs rfl
 |arr n e=>
  have ha:=tok.arr ht jY
  unfold Value.okWide at uU
  rw[ha] at uU
  obtain⟨cs,rfl,_⟩:=uU
  exact agg cs rfl
 |other=>
  cases k with
  |zero=>cases hok
  |succ k=>unfold FU at hok;rw[ht] at hok;dsimp only at hok;rw[jY] at hok;cases hok
theorem says_of {f:FuncId}{ds:List D}{args:Array Value}(hc:ax P f ds (.e (.lit (.bool true))))(hsz:args.size=ds.length)(uH:∀(j:Nat) (d:D) (u:Value),ds[j]? =some d→args[j]? =some u→l9 W F0 d u):
  Calls P f args W fun e w'=>e=.returned (.bool true)∧Below W.heap.size W w':=by
 refine (hc.2 W F0 args (fun _ h=>h.elim) hsz uH).mono ?_
 rintro e w' ⟨v,rfl,pQ,hb⟩
 have hr:l9 w' F0 (.e (.lit (.bool true))) v:=pQ
 exact⟨by rw[aR.lit hr],hb⟩
theorem t8 {α:Type}(cells:α→List E)(z:Nat)(good:α→Prop):∀(n:Nat) (ys:List E),ys.length=n*z→(∀i,i<n→∃a,(ys.drop (i*z)).take z=cells a∧good a)→∃l:List α,l.length=n∧ys=l.flatMap cells∧∀a∈l,good a
 |0,ys,hl,_=>⟨[],rfl,by rw[ic] at hl;rw[rX hl];rfl,by simp⟩
 |n+1,ys,hl,h=>by
  rw[rK] at hl
  obtain⟨a,ha,hga⟩:=h 0 (Nat.succ_pos n)
  obtain⟨l,h1,h2,h3⟩:=t8 cells z good n (ys.drop z) (by rw[fT];omega) fun i hi=>by
   have:=h (i+1) (by omega)
   rw[qv,show z+i*z=(i+1)*z by rw[rK];omega]
   exact this
  simp only[ic,rB] at ha
  refine⟨a::l,by simp[h1],?_,fun b hb=>?_⟩
  ·rw[rA,←ha,←h2,xr]
  ·rcases kO.1 hb with rfl|hb
   ·exact hga
   ·exact h3 b hb
end
end
section
def Rd(tb:TypeId→Option TyE)(t:TypeId)(d:Nat){α:Type}(c:Cd α)(W:α→Prop):Prop:=∀k xs,wtE tb (k+d) t xs→∃a,xs=c.f a∧W a
theorem Rd.up {tb:TypeId→Option TyE}{t:TypeId}{d:Nat}{α:Type}{c:Cd α}{W:α→Prop}(h:Rd tb t d c W)(m:Nat):Rd tb t (d+m) c W:=fun k xs h'=>h (k+m) xs (by rw[wV,qx m d];exact h')
def Wi(k:IntKind)(n:Int):Prop:=k.min≤n∧n≤k.max
section
variable {tb:TypeId→Option TyE} {t e:TypeId} {i j:TyE} {d:Nat} {α:Type} {c:Cd α} {W:α→Prop}
theorem rd_I {k:IntKind}(ht:tb t=some i)(hi:i.ty=.int k):Rd tb t 1 (cI k) (Wi k):=by
 intro n xs h
 obtain⟨i',h1,_,h⟩:=h
 rw[ht] at h1;cases h1
 rw[hi] at h
 obtain⟨m,h1,h2⟩:=h
 exact⟨m,h1,by unfold Wi;simpa[Lit.wf] using h2⟩
theorem rd_B(ht:tb t=some i)(hi:i.ty=.bool):Rd tb t 1 cB (fun _=>True):=by
 intro n xs h
 obtain⟨i',h1,_,h⟩:=h
 rw[ht] at h1;cases h1
 rw[hi] at h
 obtain⟨m,h1⟩:=h
 exact⟨m,h1,trivial⟩
theorem LN(ht:tb t=some i)(he:tb e=some j)(hc:Rd tb e d c W)(hi:i.ty=.slice e:=by exact rfl)(hz:c.sz=j.size:=by exact rfl):Rd tb t (d+1) (cL c) (fun l=>l.length≤maxLen∧∀a∈l,W a):=by
 intro n xs h
 obtain⟨i',h1,_,h⟩:=h
 rw[ht] at h1;cases h1
 rw[hi] at h
 obtain⟨j',m,ys,h1,h2,h3,h4,h5⟩:=h
 rw[he] at h1;cases h1
 obtain⟨l,h6,h7,h8⟩:=t8 c.f j.size W m ys h3 fun i hi=>hc n _ (h5 i hi)
 refine⟨l,?_,by omega,h8⟩
 rw[h2,h7,←h6,←hz];rfl
theorem ff {xs:List E}{n:Nat}{ys zs:List E}(h1:xs.take n=ys)(h2:xs.drop n=zs):xs=ys++zs:=by
 rw[←h1,←h2,xr]
theorem Qo {P:Program}{H:Type}{enc:TypeId×Value→H}{Wd:World}{sp:Nat→Bool}{hd:Bool}{base k:Nat}{v:Value}{dw:DataW H}{p:List MemPlace}{r:Reach}{b0:Nat}(tok:TOk P tb)(hok:FU tb (k+d) t=true)(ht:tb t=some i)(hc:Rd tb t d c W)(uU:Value.okWide P Wd r b0 t v)(h:DataW.Trod enc P Wd base sp hd t v dw p):
  ∃a,l9 Wd F0 (argD i.ty.agg (c.f a)) v∧W a:=by
 obtain⟨xs,h1,h2⟩:=arg_rep tok hok ht uU h
 obtain⟨a,rfl,h3⟩:=hc k xs h1
 exact⟨a,h2,h3⟩
end
end
theorem rd_A {tb:TypeId→Option TyE}{t e:TypeId}{i j:TyE}{d n:Nat}{α:Type}{c:Cd α}{W:α→Prop}(ht:tb t=some i)(he:tb e=some j)(hc:Rd tb e d c W)(hi:i.ty=.arr n e:=by exact rfl)(hz:c.sz=j.size:=by exact rfl):Rd tb t (d+1) (cA n c) (fun v=>∀a∈v.toList,W a):=by
 intro m xs h
 obtain⟨i',h1,_,h⟩:=h
 rw[ht] at h1;cases h1
 rw[hi] at h
 obtain⟨j',h1,h3,h5⟩:=h
 rw[he] at h1;cases h1
 obtain⟨l,h6,h7,h8⟩:=t8 c.f j.size W n xs h3 fun i hi=>hc m _ (h5 i hi)
 exact⟨⟨l.toArray,by simpa using h6⟩,h7,h8⟩
def QR(x:ao):Prop:=(True∧True∧∀a∈x.vN.vW.toList,Wi .u32 a)∧(True∧True∧∀a∈x.vD.vW.toList,Wi .u32 a)
theorem NY {x:av}(h:∀a∈x.vW.toList,Wi .u32 a):okI x:=fun j hj=>by
 have h2:=h x.vW[j]! (by rw[cO x.vW j hj];simp)
 exact⟨h2.1,by have:x.vW[j]!≤4294967295:=h2.2;omega⟩
theorem okR_of {x:ao}(h:QR x):okR x:=⟨NY h.1.2.2,NY h.2.2.2⟩
def QL(l:List ao):Prop:=l.length≤maxLen∧∀x∈l,QR x
theorem QL.nu {l:List ao}(h:QL l):l=(l.map m9).map nv∧(l.map m9).length≤9223372036854775807:=by
 refine⟨(sY fun x hx=>okR_of (h.2 x hx)).symm,?_⟩
 rw[bw]
 exact dP h.1 (by decide)
def ansN(a:bP):Ans:=⟨a.vKind,a.vX.map m9,a.vY.map m9,a.vRay.map m9⟩
theorem Lf {a:bP}(h1:QL a.vX)(h2:QL a.vY)(h3:QL a.vRay):a=sK (ansN a)∧xy (ansN a):=by
 obtain⟨k,x,y,r⟩:=a
 refine⟨?_,h1.nu.2,h2.nu.2,h3.nu.2⟩
 unfold sK ansN
 dsimp only at h1 h2 h3 ⊢
 rw[←h1.nu.1,←h2.nu.1,←h3.nu.1]
def c5(nV:bR)(aJ:bP):Option Bool:=bnd (S:=Bool) (cnd (decide ((7:Int)<nV.vA.vR)) (some (true)) (cnd (decide ((7:Int)<nV.vA.vC)) (some (true)) (cnd (decide ((60:Int)<((nV.vA.vV).length:Int))) (some (true)) (cnd (decide ((9:Int)<((nV.vB).length:Int))) (some (true)) (cnd (decide ((9:Int)<((nV.vC).length:Int))) (some (true)) (cnd (decide ((20:Int)<((aJ.vX).length:Int))) (some (true)) (cnd (decide ((20:Int)<((aJ.vY).length:Int))) (some (true)) (some (decide ((20:Int)<((aJ.vRay).length:Int))))))))))) fun cZ=>cnd cZ (bnd (kD) fun jm=>some jm) (bnd (S:=Bool) (bnd (kD) fun iE=>cnd iE (bnd (g7 nV aJ) fun BC=>bnd (nz nV aJ) fun nT=>some (decide (BC=nT))) (some (false))) fun lO=>some lO)
set_option maxHeartbeats 4000000 in
theorem oe {nV:bR}{aJ:bP}{r:Bool}(h:c5 nV aJ=some r):ax Tryz.prog 4 [dG b9 nV,dG dJ aJ] (dB r):=by
 refine bC (rs:=[.tmp 4]) (fun cx hx h0=>?_) Tryz.func4
 unfold c5 at h
 refine rs hx fun K hK=>?_
 refine s1 (d:=.pt 0 0) fB ?_
 refine s1 (d:=.pt 1 0) fB ?_
 refine sa ?_
 refine .nil (hK _ _ ?_)
 iterate 2 refine AW.seq ?_
 obtain⟨cZ,hy,h⟩:=ae h
 refine jn ((PE cx .normal (fun cZ=>[(2,.pt 0 0),(3,.pt 1 0),(51,dB cZ)]) fun cZ=>⟨[(0,[dI .i64 nV.vA.vR,dI .i64 nV.vA.vC,dL ai nV.vA.vV,dL ai nV.vB,dL ai nV.vC]),(1,[dI .i64 aJ.vKind,dL ai aJ.vX,dL ai aJ.vY,dL ai aJ.vRay])],[],2⟩) cZ) ?_ ?_
 replace h:=hy
 refine rq hx fun K hK=>?_
 iterate 2 refine sa ?_
 refine s1 (aX bE) ?_
 iterate 2 refine sa ?_
 rcases az (decide ((7:Int)<nV.vA.vR)) with cv|cv
 replace h:=aO cv h
 iterate 4 refine aG rfl rfl cv ?_
 refine s1 (ar cv) ?_
 refine sa ?_
 iterate 5 refine aG rfl rfl rfl ?_
 refine s1 (ar rfl) ?_
 refine sa ?_
 iterate 4 refine aG rfl rfl rfl ?_
 refine s1 (ar rfl) ?_
 refine sa ?_
 iterate 4 refine aG rfl rfl rfl ?_
 refine s1 (ar rfl) ?_
 refine sa ?_
 iterate 4 refine aG rfl rfl rfl ?_
 refine s1 (ar rfl) ?_
 refine sa ?_
 iterate 4 refine aG rfl rfl rfl ?_
 refine s1 (ar rfl) ?_
 refine sa ?_
 iterate 4 refine aG rfl rfl rfl ?_
 refine s1 (ar rfl) ?_
 refine .nil (hK _ _ ?_)
 cases h
 exact pe0 h0 [0,1]
 replace h:=aP cv h
 iterate 2 refine ga cv ?_
 refine g1 cv (aX bE) ?_
 refine ga cv ?_
 refine s1 (an cv) ?_
 refine sa ?_
 rcases az (decide ((7:Int)<nV.vA.vC)) with ly|ly
 replace h:=aO ly h
 iterate 5 refine aG rfl rfl ly ?_
 refine s1 (ar ly) ?_
 refine sa ?_
 iterate 4 refine aG rfl rfl rfl ?_
 refine s1 (ar rfl) ?_
 refine sa ?_
 iterate 4 refine aG rfl rfl rfl ?_
 refine s1 (ar rfl) ?_
 refine sa ?_
 iterate 4 refine aG rfl rfl rfl ?_
 refine s1 (ar rfl) ?_
 refine sa ?_
 iterate 4 refine aG rfl rfl rfl ?_
 refine s1 (ar rfl) ?_
 refine sa ?_
 iterate 4 refine aG rfl rfl rfl ?_
 refine s1 (ar rfl) ?_
 refine .nil (hK _ _ ?_)
 cases h
 exact pe0 h0 [0,1]
 replace h:=aP ly h
 iterate 2 refine ga ly ?_
 refine g1 ly (aX aH) ?_
 iterate 2 refine ga ly ?_
 refine s1 (an ly) ?_
 refine sa ?_
 rcases az (decide ((60:Int)<((nV.vA.vV).length:Int))) with a8|a8
 replace h:=aO a8 h
 iterate 4 refine aG rfl rfl a8 ?_
 refine s1 (ar a8) ?_
 refine sa ?_
 iterate 4 refine aG rfl rfl rfl ?_
 refine s1 (ar rfl) ?_
 refine sa ?_
 iterate 4 refine aG rfl rfl rfl ?_
 refine s1 (ar rfl) ?_
 refine sa ?_
 iterate 4 refine aG rfl rfl rfl ?_
 refine s1 (ar rfl) ?_
 refine sa ?_
 iterate 4 refine aG rfl rfl rfl ?_
 refine s1 (ar rfl) ?_
 refine .nil (hK _ _ ?_)
 cases h
 exact pe0 h0 [0,1]
 replace h:=aP a8 h
 refine ga a8 ?_
 refine g1 a8 (aX aH) ?_
 iterate 2 refine ga a8 ?_
 refine s1 (an a8) ?_
 refine sa ?_
 rcases az (decide ((9:Int)<((nV.vB).length:Int))) with gO|gO
 replace h:=aO gO h
 iterate 4 refine aG rfl rfl gO ?_
 refine s1 (ar gO) ?_
 refine sa ?_
 iterate 4 refine aG rfl rfl rfl ?_
 refine s1 (ar rfl) ?_
 refine sa ?_
 iterate 4 refine aG rfl rfl rfl ?_
 refine s1 (ar rfl) ?_
 refine sa ?_
 iterate 4 refine aG rfl rfl rfl ?_
 refine s1 (ar rfl) ?_
 refine .nil (hK _ _ ?_)
 cases h
 exact pe0 h0 [0,1]
 replace h:=aP gO h
 refine ga gO ?_
 refine g1 gO (aX aH) ?_
 iterate 2 refine ga gO ?_
 refine s1 (an gO) ?_
 refine sa ?_
 rcases az (decide ((9:Int)<((nV.vC).length:Int))) with dy|dy
 replace h:=aO dy h
 iterate 4 refine aG rfl rfl dy ?_
 refine s1 (ar dy) ?_
 refine sa ?_
 iterate 4 refine aG rfl rfl rfl ?_
 refine s1 (ar rfl) ?_
 refine sa ?_
 iterate 4 refine aG rfl rfl rfl ?_
 refine s1 (ar rfl) ?_
 refine .nil (hK _ _ ?_)
 cases h
 exact pe0 h0 [0,1]
 replace h:=aP dy h
 refine ga dy ?_
 refine g1 dy (aX aH) ?_
 iterate 2 refine ga dy ?_
 refine s1 (an dy) ?_
 refine sa ?_
 rcases az (decide ((20:Int)<((aJ.vX).length:Int))) with fC|fC
 replace h:=aO fC h
 iterate 4 refine aG rfl rfl fC ?_
 refine s1 (ar fC) ?_
 refine sa ?_
 iterate 4 refine aG rfl rfl rfl ?_
 refine s1 (ar rfl) ?_
 refine .nil (hK _ _ ?_)
 cases h
 exact pe0 h0 [0,1]
 replace h:=aP fC h
 refine ga fC ?_
 refine g1 fC (aX aH) ?_
 iterate 2 refine ga fC ?_
 refine s1 (an fC) ?_
 refine sa ?_
 rcases az (decide ((20:Int)<((aJ.vY).length:Int))) with nN|nN
 replace h:=aO nN h
 iterate 4 refine aG rfl rfl nN ?_
 refine s1 (ar nN) ?_
 refine .nil (hK _ _ ?_)
 cases h
 exact pe0 h0 [0,1]
 replace h:=aP nN h
 refine ga nN ?_
 refine g1 nN (aX aH) ?_
 iterate 2 refine ga nN ?_
 refine s1 (an nN) ?_
 refine .nil (hK _ _ ?_)
 cases h
 exact pe0 h0 [0,1]
 rintro ex tm' hp' ⟨rfl,hw⟩
 refine AW.weak hw (cdh h rfl (fun wr h=>?_) (fun wr h=>?_))
 refine rs hx fun K hK=>?_
 refine scb h vg fun jm h=>?_
 refine sa ?_
 refine .nil (hK _ _ (AW.ret ?_))
 cases h
 exact rv1
 refine AW.skip (AW.seq ?_)
 obtain⟨lO,hy,h⟩:=ae h
 refine jn ((PE cx .normal (fun lO=>[(4,dB lO)]) fun lO=>⟨[],[],0⟩) lO) ?_ ?_
 replace h:=hy
 refine rqd [11,19,20] hx fun K hK=>?_
 refine cqb h vg fun iE h=>?_
 refine sa ?_
 rcases az iE with eM|eM
 replace h:=aO eM h
 refine g1 (d:=dG b9 nV) eM (fV m5) ?_
 refine g1 (d:=dG dJ aJ) eM (fV ma) ?_
 obtain⟨BC,Oz,h⟩:=ae h
 refine sqg tok rfl rfl eM (p8 Oz) (by simp only[cP,dA,bX,bt,bc,bp];exact⟨aC _ _,aC _ _⟩) (lA (ap _) (lA (ap _) lAn)) (.inl rfl) ?_
 refine g1 (d:=dG b9 nV) eM (fV m5) ?_
 refine g1 (d:=dG dJ aJ) eM (fV ma) ?_
 obtain⟨nT,ta,h⟩:=ae h
 refine sqg tok rfl rfl eM (Ee ta) (by simp only[cP,dA,bX,bt,bc,bp];exact⟨aC _ _,aC _ _⟩) (lA (ap _) (lA (ap _) lAn)) (.inl rfl) ?_
 refine ga eM ?_
 refine s1 (ar eM) ?_
 refine sa ?_
 refine .nil (hK _ _ ?_)
 cases h
 exact pe0 h0 []
 replace h:=aP eM h
 iterate 7 refine aG rfl rfl eM ?_
 refine s1 (an eM) ?_
 refine sa ?_
 refine .nil (hK _ _ ?_)
 cases h
 exact pe0 h0 []
 rintro ex tm' hp' ⟨rfl,hw⟩
 refine AW.weak hw (AW.ret ?_)
 cases h
 exact rv1
section
theorem qAdd(x y:Nu):jG (nv x) (nv y)=some (nv (n9 x y)):=by rw[sX];exact R_oadd x.2 y.2
theorem qMul(x y:Nu):jE (nv x) (nv y)=some (nv (oq x y)):=by rw[pK];exact R_omul x.2 y.2
theorem NQ(x:Nu):jD (nv x)=some (cU x):=by rw[sW];exact R_osgn x.2
theorem qCmp(x y:Nu):mF (nv x) (nv y)=some (pL x y):=by rw[Cw];exact R_ocmp x.2 y.2
theorem qOf {n:Int}(h1:-9223372036854775808≤n)(h2:n≤9223372036854775807):kY n=some (nv (nOf n)):=R_Of h1 h2
theorem qBad:jF=some (nv (nuR none)):=Fq
theorem zD {c x:List Nu}(hc:c.length≤1000000∨x.length≤1000000):fD (c.map nv) (x.map nv)=some (nv (eR c x)):=by
 unfold fD eR
 rw[bw,bw]
 by_cases h:c.length=x.length
 ·rw[co _ _ (by omega),if_pos h,qOf (by omega) (by omega),aa]
  have key:=rh (b:=jC (c.map nv) (x.map nv)) (fun i:Nat=>((i:Int),nv (uA c x i))) 0 c.length (nv (uA c x c.length)) (cX _) (fun i _ hi=>?_) ?_
  ·rw[show (((0:Nat):Int),nv (uA c x 0))=((0:Int),nv (nOf 0)) from rfl] at key
   rw[key];rfl
  ·unfold jC
   dsimp only
   rw[bw,bw,cE _ _ (by omega),aM (by omega),aM (by omega),qp hi,qp (by omega),qMul,aa,qAdd,aa,eu (by omega) (by omega)]
   rfl
  ·unfold jC
   dsimp only
   rw[bw,co _ _ (by omega)]
 ·rw[cE _ _ (by omega),if_neg h,qBad];rfl
theorem L7(x y:Nu):oq x y=oq y x:=by
 rw[pK,pK]
 congr 1
 cases cK x.1 with
 |none=>cases cK y.1 <;> rfl
 |some p=>
  cases cK y.1 with
  |none=>rfl
  |some q=>
   show uS p q=uS q p
   unfold uS
   rw[Rat.mul_comm]
theorem I5(c x:List Nu):eR c x=eR x c:=by
 unfold eR
 by_cases h:c.length=x.length
 ·rw[if_pos h,if_pos h.symm,←h]
  have:∀n,uA c x n=uA x c n:=fun n=>by
   induction n with
   |zero=>rfl
   |succ n ih=>
    show n9 (uA c x n) (oq c[n]! x[n]!)=n9 (uA x c n) (oq x[n]! c[n]!)
    rw[ih,L7]
  exact this _
 ·rw[if_neg h,if_neg (fun e=>h e.symm)]
theorem yf {l:List Nu}{n:Nat}(hl:l.length≤9223372036854775807):eK (l.map nv) n=some (Jj l n):=by
 unfold eK Jj
 rw[Ln hl,bw]
 by_cases h:l.length=n
 ·rw[co _ _ (by omega),aa,aa,aF h]
  cases ha:l.all aW with
  |false=>
   have:(l.all fun x=>aW x&&decide (0≤cU x))=false:=by
    obtain⟨x,hx,h2⟩:=List.all_eq_false.1 ha
    exact List.all_eq_false.2 ⟨x,hx,by simp at h2;rw[h2];simp⟩
   rw[this];rfl
  |true=>
   have key:=pM (b:=gD (l.map nv) n) (n:=n) (by omega) (fun i=>decide (0≤cU l[i]!)) (fun i hi=>by
    unfold gD
    rw[bw,cE _ _ (by omega),aM (by omega),qp (by omega),NQ,aa]
    by_cases h3:0≤cU l[i]!
    ·rw[aF h3,bf (by omega)];rfl
    ·rw[bf h3,aF (by omega)];rfl) (by
    unfold gD
    rw[co _ _ (by omega)])
   refine bO key ?_
   rw[←h,Av (fun x=>decide (0≤cU x)),Bool.true_and]
   congr 1
   rw[vO,dc,dc]
   constructor
   ·intro h4 x hx
    rw[h4 x hx,dc.1 ha x hx];rfl
   ·intro h4 x hx
    have:=h4 x hx
    rw[bp] at this
    exact this.2
 ·rw[cE _ _ (by omega),bf h];rfl
section
variable {m nn:Nat} {A B C x y b wth:List Nu} {a:Ans}
theorem Lm(hA:A.length=m*nn)(hm:m≤2000)(hn:nn≤2000)(hb:b.length≤2000)(hw:wth.length=m)(hw2:∀i,i<m→(0<b.length→i<b.length∧b[i]! =wth[i]!)∧(b.length=0→wth[i]! =nOf 0)):jV ⟨m,nn,A.map nv⟩ (x.map nv) (b.map nv)=some (zb (sU A nn) x wth fun c=>decide (c≤0)):=by
 unfold jV zb
 rw[hw]
 refine pM (by omega) (fun i=>aW (eR (sU A nn i) x)&&decide (pL (eR (sU A nn i) x) wth[i]!≤0)) (fun i hi=>?_) ?_
 ·obtain⟨h1,h2,h3⟩:=tX hm hn hi
  have hr:=FJ A nn i
  have e1:i64.wrap ((i:Int)*(nn:Int))=((i*nn:Nat):Int):=by rw[←jZ,eu (by omega) (by omega)]
  have e2:i64.wrap ((i64.wrap ((i:Int)+1))*(nn:Int))=((i*nn+nn:Nat):Int):=by
   rw[eu (z:=(i:Int)+1) (by omega) (by omega),show (i:Int)+1=((i+1:Nat):Int) by omega,←jZ,h3,eu (by omega) (by omega)]
  have e3:xL (A.map nv) ((i*nn:Nat):Int) ((i*nn+nn:Nat):Int)=(sU A nn i).map nv:=by
   unfold xL sU
   rw[←Bc,←ze]
   congr 2;omega
  unfold mS
  dsimp only
  rw[e1,e2,e3,cE _ _ (by omega),bw,bw,aM (by omega),zD (.inl (by omega)),aa,qOf (by omega) (by omega),aa]
  have Gk:(cnd (decide ((0:Int)<(b.length:Int))) (gd (0≤(i:Int)∧(i:Int)<(b.length:Int)) (some ((b.map nv)[((i:Nat):Int).toNat]!))) (some (nv (nOf 0))))=some (nv wth[i]!):=by
   obtain⟨w1,w2⟩:=hw2 i hi
   by_cases hb0:b.length=0
   ·rw[co _ _ (by omega),w2 hb0]
   ·obtain⟨w3,w4⟩:=w1 (by omega)
    rw[cE _ _ (by omega),aM (by omega),qp w3,w4]
  rw[Gk,aa,HB,qCmp]
  simp only[aa]
  generalize eR (sU A nn i) x=v
  cases aW v with
  |false=>rfl
  |true=>
   by_cases h4:pL v wth[i]!≤0
   ·rw[aF h4,bf (by omega)];rfl
   ·rw[bf h4,aF (by omega)];rfl
 ·unfold mS
  dsimp only
  rw[co _ _ (by omega)]
theorem QE(hA:A.length=m*nn)(hm:m≤2000)(hn:nn≤2000){k:Nat}(hk:k<nn):mC ⟨m,nn,A.map nv⟩ k=some ((uZ A m nn k).map nv):=by
 unfold mC
 have key:=rh (b:=jB ⟨m,nn,A.map nv⟩ k) (fun i:Nat=>(((List.range i).map fun j=>A[j*nn+k]!).map nv,(i:Int))) 0 m ((uZ A m nn k).map nv) (cX _) (fun i _ hi=>?_) ?_
 ·rw[show ((((List.range 0).map fun j=>A[j*nn+k]!).map nv,((0:Nat):Int)))=(([]:List ao),(0:Int)) from rfl] at key
  rw[key];rfl
 ·obtain⟨h1,h2,h3⟩:=tX hm hn hi
  have e1:i64.wrap ((i64.wrap ((i:Int)*(nn:Int)))+(k:Int))=((i*nn+k:Nat):Int):=by
   have e0:i64.wrap ((i:Int)*(nn:Int))=((i*nn:Nat):Int):=by rw[←jZ,eu (by omega) (by omega)]
   rw[e0,eu (by omega) (by omega)];omega
  unfold jB
  dsimp only
  rw[e1,cE _ _ (by omega),aM (by rw[bw];omega),qp (by omega),aM (by simp;omega),eu (by omega) (by omega),uK,iU,iU]
  rfl
 ·unfold jB
  dsimp only
  rw[co _ _ (by omega)]
  rfl
theorem Lo(hA:A.length=m*nn)(hm:m≤2000)(hn:nn≤2000)(hb:b.length≤2000)(hw:wth.length=nn)(hw2:∀i,i<nn→(0<b.length→i<b.length∧b[i]! =wth[i]!)∧(b.length=0→wth[i]! =nOf 0)):lV ⟨m,nn,A.map nv⟩ (y.map nv) (b.map nv)=some (zb (uZ A m nn) y wth fun c=>decide (0≤c)):=by
 unfold lV zb
 rw[hw]
 refine pM (by omega) (fun i=>aW (eR (uZ A m nn i) y)&&decide (0≤pL (eR (uZ A m nn i) y) wth[i]!)) (fun i hi=>?_) ?_
 ·have hr:(uZ A m nn i).length=m:=by simp[uZ]
  unfold mT
  dsimp only
  rw[cE _ _ (by omega),QE hA hm hn hi,aa,zD (.inr (by omega)),aa,qOf (by omega) (by omega),aa,bw,I5 y]
  have Gk:(cnd (decide ((0:Int)<(b.length:Int))) (gd (0≤(i:Int)∧(i:Int)<(b.length:Int)) (some ((b.map nv)[((i:Nat):Int).toNat]!))) (some (nv (nOf 0))))=some (nv wth[i]!):=by
   obtain⟨w1,w2⟩:=hw2 i hi
   by_cases hb0:b.length=0
   ·rw[co _ _ (by omega),w2 hb0]
   ·obtain⟨w3,w4⟩:=w1 (by omega)
    rw[cE _ _ (by omega),aM (by omega),qp w3,w4]
  rw[Gk,aa,HB,qCmp]
  simp only[aa]
  generalize eR (uZ A m nn i) y=v
  cases aW v with
  |false=>rfl
  |true=>
   by_cases h4:0≤pL v wth[i]!
   ·rw[aF h4,bf (by omega)];rfl
   ·rw[bf h4,aF (by omega)];rfl
 ·unfold mT
  dsimp only
  rw[co _ _ (by omega)]
theorem Nx(x:Nu):cU x=-1∨cU x=0∨cU x=1:=by
 rw[sW]
 cases cK x.1 with
 |none=>exact .inr (.inl rfl)
 |some q=>
  show q.num.sign=-1∨q.num.sign=0∨q.num.sign=1
  rcases yb q.num 0 with h|h|h
  ·exact .inl (Az h)
  ·rw[h];exact .inr (.inl rfl)
  ·exact .inr (.inr (uh h))
theorem Kc(x:Nu):kw (nv x)=some (sd x (-1)):=by
 unfold kw sd
 rw[HB,NQ]
 simp only[aa,pW]
 congr 2
 have:=Nx x
 by_cases h:cU x<0
 ·rw[aF h,aF (by omega)]
 ·rw[bf h,bf (by omega)]
theorem Lb(hB:B.length=m):∀i,i<m→(0<B.length→i<B.length∧B[i]! =B[i]!)∧(B.length=0→B[i]! =nOf 0):=fun i hi=>⟨fun _=>⟨by omega,rfl⟩,fun h=>by omega⟩
theorem Lc {n:Nat}:∀i,i<n→(0<([]:List Nu).length→i<([]:List Nu).length∧([]:List Nu)[i]! =(List.replicate n (nOf 0))[i]!)∧(([]:List Nu).length=0→(List.replicate n (nOf 0))[i]! =nOf 0):=fun i hi=>⟨fun h=>absurd h (by simp),fun _=>BH hi⟩
theorem QC(hA:A.length=m*nn)(hm:m≤2000)(hn:nn≤2000)(hB:B.length=m)(hC:C.length=nn)(ha:xy a):mB ⟨⟨m,nn,A.map nv⟩,B.map nv,C.map nv⟩ (sK a)=some (qZ m nn A B C a):=by
 have hx:=ha.x
 have hy:=ha.y
 have hr:=ha.ray
 unfold mB qZ sK
 dsimp only
 rw[yf hx,yf hy,yf hr,Lm hA hm hn (by omega) hB (Lb hB),Lo hA hm hn (by omega) hC (Lb hC),zD (.inl (by omega)),zD (.inr (by omega)),zD (.inl (by omega)),show ([]:List ao)=([]:List Nu).map nv from rfl,Lo hA hm hn (by simp) (xq ..) Lc,Lm hA hm hn (by simp) (xq ..) Lc]
 simp only[aa,Kc,HB,NQ,bw,FV,pW,cOr,cN]
 unfold th yG
 by_cases h1:a.kind=1
 ·rw[cE _ _ h1,if_pos h1]
  congr 1
  rw[vO]
  simp only[bp,v3,Bool.or_eq_false_iff,qM,decide_eq_false_iff_not,Bool.not_eq_false']
  constructor
  ·rintro⟨⟨h0,p1,p2,p3,p4⟩,q1,q2⟩
   exact⟨⟨⟨by omega,p1,p3⟩,p2,p4⟩,q1,q2⟩
  ·rintro⟨⟨⟨h0,p1,p3⟩,p2,p4⟩,q1,q2⟩
   exact⟨⟨by omega,p1,p2,p3,p4⟩,q1,q2⟩
 ·rw[co _ _ h1,if_neg h1]
  by_cases h2:a.kind=2
  ·rw[cE _ _ h2,if_pos h2]
   congr 1
   rw[vO]
   simp only[bp,qM]
   constructor
   ·rintro⟨h0,h3,p1,p2,p3⟩
    exact⟨⟨by omega,p1,p2⟩,p3⟩
   ·rintro⟨⟨h0,p1,p2⟩,p3⟩
    exact⟨by omega,by omega,p1,p2,p3⟩
  ·rw[co _ _ h2,if_neg h2]
   by_cases h3:a.kind=3
   ·rw[aF h3,Bool.true_and,if_pos h3]
    congr 1
    have h4:=Nx (eR C a.ray)
    unfold sd
    rw[vO]
    simp only[bp,v3,Bool.or_eq_false_iff,qM,decide_eq_false_iff_not,Bool.not_eq_false']
    constructor
    ·rintro⟨⟨h0,p1,p2,p3,p4⟩,q1,q2⟩
     exact⟨⟨⟨by omega,p1,p3⟩,p2,p4⟩,q1,by omega⟩
    ·rintro⟨⟨⟨h0,p1,p3⟩,p2,p4⟩,q1,q2⟩
     exact⟨⟨by omega,p1,p2,p3,p4⟩,q1,by omega⟩
   ·rw[bf h3,rH,if_neg h3]
end
section
variable {R Cc:Int} {A B C:List Nu} {a:Ans}
theorem R_Check(hA:A.length≤1000000)(hB:B.length≤1000000)(hC:C.length≤1000000)(ha:xy a):nz ⟨⟨R,Cc,A.map nv⟩,B.map nv,C.map nv⟩ (sK a)=some (ru R Cc A B C a):=by
 unfold nz ru
 rw[R_Valid (by omega) (by omega) (by omega),aa]
 cases hv:p9 R Cc A B C with
 |false=>rfl
 |true=>
  obtain⟨m,nn,rfl,rfl,hm,hn,h1,h2,h3,_⟩:=xE hv
  rw[QC h1 hm hn h2 h3 ha]
  show cnd (!(qZ m nn A B C a)) (some (250:Int)) (some (0:Int))=some (if qZ m nn A B C a=true then 0 else 250)
  cases qZ m nn A B C a <;> rfl
theorem QZ(ha:xy a):c5 ⟨⟨R,Cc,A.map nv⟩,B.map nv,C.map nv⟩ (sK a)=some true:=by
 unfold c5
 have ea:(sK a).vX.length=a.x.length∧(sK a).vY.length=a.y.length∧(sK a).vRay.length=a.ray.length:=⟨bw ..,bw ..,bw ..⟩
 dsimp only
 rw[ea.1,ea.2.1,ea.2.2,sane,bw,bw,bw]
 simp only[cOr,aa]
 generalize hb:(decide (7<R)||_)=b
 cases b with
 |true=>rfl
 |false=>
  simp only[Bool.or_eq_false_iff,decide_eq_false_iff_not] at hb
  obtain⟨h1,h2,h3,h4,h5,_⟩:=hb
  rw[GY (by omega) (by omega) (by omega) ha,R_Check (by omega) (by omega) (by omega) ha]
  simp[cnd,bnd]
end
end
theorem MS {p:bR}{a:bP}(hV:QL p.vA.vV)(hB:QL p.vB)(hC:QL p.vC)(a1:QL a.vX)(a2:QL a.vY)(a3:QL a.vRay):c5 p a=some true:=by
 obtain⟨⟨R,Cc,V⟩,B,C⟩:=p
 dsimp only at hV hB hC
 rw[(Lf a1 a2 a3).1,hV.nu.1,hB.nu.1,hC.nu.1]
 exact QZ (Lf a1 a2 a3).2
section
open Go.ChangeShapes Go.WideShapes Go.ChangeAt Go.RowKit Go.ChangeMaps
namespace simplexChecks
theorem k0:(Rows.simplexChecksAsSpecifiedRow.wf (OpenSpec.ofChange Rows.simplexChecksAsSpecifiedSpec))=true:=by kernel_rfl
theorem k1:(laidOutB Tryz.prog)=true:=by kernel_rfl
theorem k2:(mapsRowed Tryz.prog)=true:=by kernel_rfl
theorem k3:(Tryz.f4.params.all (Tryz.prog.readableRec ·))=true:=by kernel_rfl
theorem k4:(namedTie Tryz.prog Rows.simplexChecksAsSpecifiedRow.named Rows.simplexChecksAsSpecifiedSpec.vars)=true:=by kernel_rfl
theorem k5:((Rows.simplexChecksAsSpecifiedRow.stops == []))=true:=by kernel_rfl
theorem k6:((Tryz.prog.stops == []))=true:=by kernel_rfl
theorem k7:((Rows.simplexChecksAsSpecifiedRow.knobs == []))=true:=by kernel_rfl
theorem k8:((Tryz.prog.stopKnobs == []))=true:=by kernel_rfl
theorem k9:((Rows.simplexChecksAsSpecifiedRow.inPlace == Tryz.prog.inPlace 4))=true:=by kernel_rfl
theorem k10:((Rows.simplexChecksAsSpecifiedRow.unfollowed == Tryz.prog.unfollowed 4))=true:=by kernel_rfl
theorem k11:((Rows.simplexChecksAsSpecifiedRow.recurses == Tryz.prog.recurses 4))=true:=by kernel_rfl
theorem k12:((Rows.simplexChecksAsSpecifiedRow.named == Tryz.prog.varsNamed 4))=true:=by kernel_rfl
theorem k13:((Rows.simplexChecksAsSpecifiedRow.maps == (Tryz.f4.params.toList++Rows.simplexChecksAsSpecifiedSpec.plain.varTypes Tryz.prog).any (Tryz.prog.mapsRec ·)))=true:=by kernel_rfl
theorem k14:((Rows.simplexChecksAsSpecifiedRow.ifaces == (Tryz.f4.params.toList++Rows.simplexChecksAsSpecifiedSpec.plain.varTypes Tryz.prog).any (Tryz.prog.ifacesRec ·)))=true:=by kernel_rfl
theorem k15:((Rows.simplexChecksAsSpecifiedRow.mapsOut == Tryz.prog.mapsAmong Tryz.f4.resultTypes.toList))=true:=by kernel_rfl
theorem k16:((Rows.simplexChecksAsSpecifiedRow.loops == (Tryz.f4.params.toList++Rows.simplexChecksAsSpecifiedSpec.plain.varTypes Tryz.prog).any (Tryz.prog.loopsFrom ·)))=true:=by kernel_rfl
theorem k17:((Rows.simplexChecksAsSpecifiedRow.wideKeys == (Tryz.f4.params.toList++Rows.simplexChecksAsSpecifiedSpec.plain.varTypes Tryz.prog++Tryz.f4.resultTypes.toList).any (Tryz.prog.wideKeysFrom ·)))=true:=by kernel_rfl
theorem k18:(Rows.simplexChecksAsSpecifiedSpec.vars.all (Tryz.prog.varReadable ·))=true:=by kernel_rfl
theorem k19:(Tryz.f4.resultTypes.all (fun t=>Tryz.prog.readableRec t&&decide (t<Tryz.prog.types.size)))=true:=by kernel_rfl
theorem k20:((Rows.simplexChecksAsSpecifiedRow.ifacesOut == Tryz.f4.resultTypes.toList.any (Tryz.prog.ifacesRec ·)))=true:=by kernel_rfl
theorem k21:((Rows.simplexChecksAsSpecifiedRow.loopsOut == Tryz.f4.resultTypes.toList.any (Tryz.prog.loopsFrom ·)))=true:=by kernel_rfl
theorem k22:((Rows.simplexChecksAsSpecifiedRow.plainKeys == Tryz.prog.plainKeys))=true:=by kernel_rfl
theorem k23:(Rows.simplexChecksAsSpecifiedRow.shortTexts.isNone)=true:=by kernel_rfl
theorem k24:(Tryz.prog.stopsHeard)=true:=by kernel_rfl
theorem k25:(Tryz.prog.mayEnter)=true:=by kernel_rfl
theorem k26:((Rows.simplexChecksAsSpecifiedRow.lifted == Tryz.prog.liftsFinal))=true:=by kernel_rfl
theorem k27:((Tryz.prog.make == some Rows.simplexChecksAsSpecifiedRow.make))=true:=by kernel_rfl
theorem k28:((Rows.simplexChecksAsSpecifiedRow.kinds == (if Rows.simplexChecksAsSpecifiedRow.domain.isEmpty then [] else Tryz.f4.params.toList.map fun t=>match Tryz.prog.underlying t with|some (.int k)=>some k|_=>none)))=true:=by kernel_rfl
theorem k29:((Rows.simplexChecksAsSpecifiedRow.pinned == Rows.simplexChecksAsSpecifiedRow.pinnedBy))=true:=by kernel_rfl
theorem k30:((Rows.simplexChecksAsSpecifiedRow.veiled == (Tryz.f4.params.toList++Rows.simplexChecksAsSpecifiedSpec.plain.varTypes Tryz.prog++Tryz.f4.resultTypes.toList).any (Tryz.prog.veiledRec ·)))=true:=by kernel_rfl
theorem k31:(Rows.simplexChecksAsSpecifiedRow.veiledFits Tryz.prog Tryz.f4.params.toList (Tryz.f4.params.toList++Rows.simplexChecksAsSpecifiedSpec.plain.varTypes Tryz.prog++Tryz.f4.resultTypes.toList))=true:=by kernel_rfl
theorem nR {a b:Bool}(h:a=true)(h2:b=true):(a&&b)=true:=by rw[h,h2];rfl
theorem closed:joinedFacts Tryz.prog 4 Tryz.f4 Rows.simplexChecksAsSpecifiedSpec Rows.simplexChecksAsSpecifiedRow=true:=by
 delta joinedFacts
 exact nR (nR (nR (nR (nR (nR (nR (nR (nR (nR (nR (nR (nR (nR (nR (nR (nR (nR (nR (nR (nR (nR (nR (nR (nR (nR (nR (nR (nR (nR (nR k0 k1) k2) k3) k4) k5) k6) k7) k8) k9) k10) k11) k12) k13) k14) k15) k16) k17) k18) k19) k20) k21) k22) k23) k24) k25) k26) k27) k28) k29) k30) k31
end simplexChecks
end
end
end Go.Proofs.YtaedcknhkjpmlaaGreat
