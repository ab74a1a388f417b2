/-
  Lemmas, part 7. Conditions: none.
-/
import Derived.Test.YtaedcknhkjpmlaaGreatA6
set_option linter.all false
set_option maxRecDepth 100000
namespace Go.Proofs.YtaedcknhkjpmlaaGreat
open Go.RowKit Go.IntKind
noncomputable section
structure fE where
 vR:Int
 vC:Int
 vV:List aq
 deriving Inhabited,DecidableEq
def f6:Cd fE:=⟨3,fun x=>[.lit (.int .i64 x.vR),.lit (.int .i64 x.vC),slE ai x.vV],fun _=>rfl⟩
structure bY where
 vA:fE
 vB:List aq
 vC:List aq
 deriving Inhabited,DecidableEq
def ci:Cd bY:=⟨5,fun x=>f6.f x.vA++[slE ai x.vB,slE ai x.vC],fun x=>by simp[f6.h,show f6.sz=3 from rfl]⟩
structure bW where
 vKind:Int
 vX:List aq
 vY:List aq
 vRay:List aq
 deriving Inhabited,DecidableEq
def dU:Cd bW:=⟨4,fun x=>[.lit (.int .i64 x.vKind),slE ai x.vX,slE ai x.vY,slE ai x.vRay],fun _=>rfl⟩
def fW(aN:fE)(iQ:Int):Option Bool:=bnd (S:=Bool) (cnd (decide ((0:Int)≤aN.vR)) (cnd (decide ((0:Int)≤aN.vC)) (cnd (decide (aN.vR≤iQ)) (cnd (decide (aN.vC≤(2000:Int))) (cnd (decide (((aN.vV).length:Int)=(i64.wrap (aN.vR*aN.vC)))) (bnd (dp aN.vV) fun x6=>some (x6)) (some (false))) (some (false))) (some (false))) (some (false))) (some (false))) fun bI=>some bI
set_option maxHeartbeats 4000000 in
theorem qn {aN:fE}{iQ:Int}{r:Bool}(h:fW aN iQ=some r):ax Tryz.prog 61 [dG f6 aN,dI .i64 iQ] (dB r):=by
 refine bE (rs:=[.tmp 4]) (fun cx hx h0=>?_) Tryz.func61
 unfold fW at h
 refine rs hx fun K hK=>?_
 refine s1 (d:=.pt 0 0) gD ?_
 refine sa ?_
 refine .nil (hK _ _ (AW.seq ?_))
 obtain⟨bI,hy,h⟩:=ab h
 refine jn ((PE cx .normal (fun bI=>[(4,dB bI)]) fun bI=>⟨[],[],0⟩) bI) ?_ ?_
 replace h:=hy
 refine rq hx fun K hK=>?_
 refine sa ?_
 refine s1 (bi bG) ?_
 iterate 2 refine sa ?_
 rcases aD (decide ((0:Int)≤aN.vR)) with c5|c5
 replace h:=aP c5 h
 refine ga c5 ?_
 refine g1 c5 (bi bG) ?_
 refine ga c5 ?_
 refine s1 (aw c5) ?_
 refine sa ?_
 rcases aD (decide ((0:Int)≤aN.vC)) with oq|oq
 replace h:=aP oq h
 refine ga oq ?_
 refine g1 oq (bi bG) ?_
 iterate 2 refine ga oq ?_
 refine s1 (aw oq) ?_
 refine sa ?_
 rcases aD (decide (aN.vR≤iQ)) with bb|bb
 replace h:=aP bb h
 refine ga bb ?_
 refine g1 bb (bi bG) ?_
 refine ga bb ?_
 refine s1 (aw bb) ?_
 refine sa ?_
 rcases aD (decide (aN.vC≤(2000:Int))) with gH|gH
 replace h:=aP gH h
 refine ga gH ?_
 refine g1 gH (bi aM) ?_
 iterate 2 refine ga gH ?_
 refine g1 gH (bi bG) ?_
 refine ga gH ?_
 refine g1 gH (bi bG) ?_
 iterate 2 refine ga gH ?_
 refine s1 (aw gH) ?_
 refine sa ?_
 rcases aD (decide (((aN.vV).length:Int)=(i64.wrap (aN.vR*aN.vC)))) with eH|eH
 replace h:=aP eH h
 refine ga eH ?_
 refine g1 eH (bi aM) ?_
 obtain⟨x6,pZ,h⟩:=ab h
 refine g1 eH (bj rfl (fR pZ) rfl (lA (ao _) lAn) (.inl rfl)) ?_
 refine s1 (aw eH) ?_
 refine sa ?_
 refine .nil (hK _ _ ?_)
 cases h
 exact pe0 h0 []
 replace h:=aQ eH h
 iterate 3 refine aH rfl rfl eH ?_
 refine s1 (al eH) ?_
 refine sa ?_
 refine .nil (hK _ _ ?_)
 cases h
 exact pe0 h0 []
 replace h:=aQ gH h
 iterate 9 refine aH rfl rfl gH ?_
 refine s1 (al gH) ?_
 refine sa ?_
 iterate 3 refine aH rfl rfl rfl ?_
 refine s1 (al rfl) ?_
 refine sa ?_
 refine .nil (hK _ _ ?_)
 cases h
 exact pe0 h0 []
 replace h:=aQ bb h
 iterate 3 refine aH rfl rfl bb ?_
 refine s1 (al bb) ?_
 refine sa ?_
 iterate 9 refine aH rfl rfl rfl ?_
 refine s1 (al rfl) ?_
 refine sa ?_
 iterate 3 refine aH rfl rfl rfl ?_
 refine s1 (al rfl) ?_
 refine sa ?_
 refine .nil (hK _ _ ?_)
 cases h
 exact pe0 h0 []
 replace h:=aQ oq h
 iterate 4 refine aH rfl rfl oq ?_
 refine s1 (al oq) ?_
 refine sa ?_
 iterate 3 refine aH rfl rfl rfl ?_
 refine s1 (al rfl) ?_
 refine sa ?_
 iterate 9 refine aH rfl rfl rfl ?_
 refine s1 (al rfl) ?_
 refine sa ?_
 iterate 3 refine aH rfl rfl rfl ?_
 refine s1 (al rfl) ?_
 refine sa ?_
 refine .nil (hK _ _ ?_)
 cases h
 exact pe0 h0 []
 replace h:=aQ c5 h
 iterate 3 refine aH rfl rfl c5 ?_
 refine s1 (al c5) ?_
 refine sa ?_
 iterate 4 refine aH rfl rfl rfl ?_
 refine s1 (al rfl) ?_
 refine sa ?_
 iterate 3 refine aH rfl rfl rfl ?_
 refine s1 (al rfl) ?_
 refine sa ?_
 iterate 9 refine aH rfl rfl rfl ?_
 refine s1 (al rfl) ?_
 refine sa ?_
 iterate 3 refine aH rfl rfl rfl ?_
 refine s1 (al rfl) ?_
 refine sa ?_
 refine .nil (hK _ _ ?_)
 cases h
 exact pe0 h0 []
 rintro ex tm' hp' ⟨rfl,hw⟩
 refine AW.weak hw (AW.ret ?_)
 cases h
 exact rv1
def gT(oa:bY):Option Bool:=bnd (S:=Bool) (bnd (fW oa.vA (2000:Int)) fun x1=>cnd x1 (cnd (decide (((oa.vB).length:Int)=oa.vA.vR)) (cnd (decide (((oa.vC).length:Int)=oa.vA.vC)) (bnd (dp oa.vB) fun x6=>cnd x6 (bnd (dp oa.vC) fun x9=>some (x9)) (some (false))) (some (false))) (some (false))) (some (false))) fun bI=>some bI
set_option maxHeartbeats 4000000 in
theorem pB {oa:bY}{r:Bool}(h:gT oa=some r):ax Tryz.prog 15 [dG ci oa] (dB r):=by
 refine bE (rs:=[.tmp 2]) (fun cx hx h0=>?_) Tryz.func15
 unfold gT at h
 refine rs hx fun K hK=>?_
 refine s1 (d:=.pt 0 0) gD ?_
 refine sa ?_
 refine .nil (hK _ _ (AW.seq ?_))
 obtain⟨bI,hy,h⟩:=ab h
 refine jn ((PE cx .normal (fun bI=>[(2,dB bI)]) fun bI=>⟨[],[],0⟩) bI) ?_ ?_
 replace h:=hy
 refine rq hx fun K hK=>?_
 refine sa ?_
 refine s1 (d:=dG f6 oa.vA) (iH lE) ?_
 refine scb h qn fun x1 h=>?_
 refine sa ?_
 rcases aD x1 with bb|bb
 replace h:=aP bb h
 refine ga bb ?_
 refine g1 bb (bi aM) ?_
 iterate 3 refine ga bb ?_
 refine g1 bb (bi bG) ?_
 refine ga bb ?_
 refine s1 (aw bb) ?_
 refine sa ?_
 rcases aD (decide (((oa.vB).length:Int)=oa.vA.vR)) with gH|gH
 replace h:=aP gH h
 refine ga gH ?_
 refine g1 gH (bi aM) ?_
 iterate 3 refine ga gH ?_
 refine g1 gH (bi bG) ?_
 refine ga gH ?_
 refine s1 (aw gH) ?_
 refine sa ?_
 rcases aD (decide (((oa.vC).length:Int)=oa.vA.vC)) with eH|eH
 replace h:=aP eH h
 refine ga eH ?_
 refine g1 eH (bi aM) ?_
 obtain⟨x6,pZ,h⟩:=ab h
 refine g1 eH (bj rfl (fR pZ) rfl (lA (ao _) lAn) (.inl rfl)) ?_
 refine s1 (aw eH) ?_
 refine sa ?_
 rcases aD x6 with iS|iS
 replace h:=aP iS h
 refine ga iS ?_
 refine g1 iS (bi aM) ?_
 obtain⟨x9,rW,h⟩:=ab h
 refine g1 iS (bj rfl (fR rW) rfl (lA (ao _) lAn) (.inl rfl)) ?_
 refine s1 (aw iS) ?_
 refine sa ?_
 refine .nil (hK _ _ ?_)
 cases h
 exact pe0 h0 []
 replace h:=aQ iS h
 iterate 3 refine aH rfl rfl iS ?_
 refine s1 (al iS) ?_
 refine sa ?_
 refine .nil (hK _ _ ?_)
 cases h
 exact pe0 h0 []
 replace h:=aQ eH h
 iterate 3 refine aH rfl rfl eH ?_
 refine s1 (al eH) ?_
 refine sa ?_
 iterate 3 refine aH rfl rfl rfl ?_
 refine s1 (al rfl) ?_
 refine sa ?_
 refine .nil (hK _ _ ?_)
 cases h
 exact pe0 h0 []
 replace h:=aQ gH h
 iterate 7 refine aH rfl rfl gH ?_
 refine s1 (al gH) ?_
 refine sa ?_
 iterate 3 refine aH rfl rfl rfl ?_
 refine s1 (al rfl) ?_
 refine sa ?_
 iterate 3 refine aH rfl rfl rfl ?_
 refine s1 (al rfl) ?_
 refine sa ?_
 refine .nil (hK _ _ ?_)
 cases h
 exact pe0 h0 []
 replace h:=aQ bb h
 iterate 7 refine aH rfl rfl bb ?_
 refine s1 (al bb) ?_
 refine sa ?_
 iterate 7 refine aH rfl rfl rfl ?_
 refine s1 (al rfl) ?_
 refine sa ?_
 iterate 3 refine aH rfl rfl rfl ?_
 refine s1 (al rfl) ?_
 refine sa ?_
 iterate 3 refine aH rfl rfl rfl ?_
 refine s1 (al rfl) ?_
 refine sa ?_
 refine .nil (hK _ _ ?_)
 cases h
 exact pe0 h0 []
 rintro ex tm' hp' ⟨rfl,hw⟩
 refine AW.weak hw (AW.ret ?_)
 cases h
 exact rv1
def gZ(nK:List aq)(aY:List aq):Int×aq→Option ((Int×aq)⊕aq):=fun (bg,qX)=>cnd (decide (bg<((nK).length:Int))) (gd (0≤bg∧bg<((nK).length:Int)) (gd (0≤bg∧bg<((aY).length:Int)) (bnd (ik ((nK)[(bg).toNat]!) ((aY)[(bg).toNat]!)) fun ro=>bnd (il qX ro) fun mX=>some (.inl (i64.wrap (bg+(1:Int)),mX))))) (some (.inr qX))
def cv(nK:List aq)(aY:List aq):Option aq:=cnd (decide (((nK).length:Int)≠((aY).length:Int))) (bnd (fI) fun x2=>some x2) (bnd (oS (0:Int)) fun x4=>bnd (bS (gZ nK aY) ((0:Int),x4)) fun gp=>some gp)
set_option maxHeartbeats 4000000 in
theorem eA {nK:List aq}{aY:List aq}{r:aq}(h:cv nK aY=some r):ax Tryz.prog 17 [dL ai nK,dL ai aY] (dG ai r):=by
 refine bE (rs:=[.cell 4 43]) (fun cx hx h0=>?_) Tryz.func17
 unfold cv at h
 refine rs hx fun K hK=>?_
 refine s1 (bm (F:=ai.f cY) ay) ?_
 refine .nil (hK _ _ (AW.seq (ra hx ?_)))
 refine cdh h rfl (fun c5 h=>?_) (fun c5 h=>?_)
 refine rs hx fun K hK=>?_
 refine scb h lS fun x2 h=>?_
 refine s0 (aE (b':=x2) (am.id _ _) ay) ?_
 refine .nil (hK _ _ (AW.ret ?_))
 cases h
 exact rv1
 refine AW.skip (rs hx fun K hK=>?_)
 refine scb h Bm fun x4 h=>?_
 refine s1 (bm (F:=ai.f cY) ay) ?_
 refine s0 (aE (b':=x4) (am.id _ _) ay) ?_
 refine .nil (hK _ _ (AW.seq (ra hx ?_)))
 refine AW.block ?_
 obtain⟨gp,hy,h⟩:=ab h
 refine lp (S:=Int×aq) (X:=aq) (fun (bg,qX)=>[(0,dL ai nK),(1,dL ai aY),(4,.pt 0 0),(5,.pt 1 0),(15,dI .i64 ((nK).length:Int)),(16,dI .i64 bg)]) (fun (bg,qX)=>⟨[(0,dC (ai.f cY)),(1,dC (ai.f qX))],[],2⟩) (PE cx (.exit 0) (fun gp=>[(4,.pt 0 0),(5,.pt 1 0)]) fun gp=>⟨[(0,dC (ai.f cY)),(1,dC (ai.f gp))],[],2⟩) hy ?_ ?_ ?_
 exact wk h0 [0,1] (wR rfl (wR rfl (wR rfl (wR rfl (wR rfl (wR rfl wTn)))))) (vC rfl (vC rfl wVn)) wLn
 clear hy h
 rintro⟨bg,qX⟩ y h
 dsimp only[gZ] at h
 refine ra hx ?_
 refine AW.seq (cdh h rfl (fun fe h=>?_) (fun fe h=>?_))
 refine AW.skip (AW.seq (AW.block (ra hx ?_)))
 refine rqd [29,66] hx fun K hK=>?_
 refine s1 (d:=dG ai qX) (au (am.id _ _) ay) ?_
 iterate 2 refine sa ?_
 obtain⟨I5,h⟩:=aC h
 have Gp:(bg).toNat<(nK).length:=by omega
 refine s1 (g7 I5 aM ay) ?_
 refine s1 (d:=dG ai ((nK)[(bg).toNat]!)) (mi (c:=ai) (l:=nK) (n:=(bg).toNat) (o:=0) ay Gp (f8 _ _ rfl)) ?_
 iterate 2 refine sa ?_
 obtain⟨hc9,h⟩:=aC h
 have Oe:(bg).toNat<(aY).length:=by omega
 refine s1 (g7 hc9 aM ay) ?_
 refine s1 (d:=dG ai ((aY)[(bg).toNat]!)) (mi (c:=ai) (l:=aY) (n:=(bg).toNat) (o:=0) ay Oe (f8 _ _ rfl)) ?_
 refine cqb h uz fun ro h=>?_
 refine cqb h uA fun mX h=>?_
 refine s0 (aE (b':=mX) (am.id _ _) ay) ?_
 refine .nil (hK _ _ (rb hx ?_))
 cases h
 exact PS.l (pe0 h0 [0,1])
 refine AW.exit ?_
 try dsimp only
 try simp only[aU,reduceIte,Nat.reduceEqDiff,reduceCtorEq]
 cases h
 exact PS.r ⟨by nofun,PE.i (wk h0 [0,1] (wR rfl (wR rfl wTn)) (vC rfl (vC rfl wVn)) wLn)⟩
 rintro ex tm' hp' ⟨rfl,hw⟩
 try dsimp only
 try simp only[aU,reduceIte,Nat.reduceEqDiff,reduceCtorEq]
 refine AW.weak hw (rs hx fun K hK=>?_)
 refine s1 (d:=dG ai gp) (au (am.id _ _) ay) ?_
 refine s0 (aE (b':=gp) (am.id _ _) ay) ?_
 refine .nil (hK _ _ (AW.ret ?_))
 cases h
 exact rv1
def fm(aY:aq):Option Bool:=bnd (S:=Bool) (bnd (bn aY) fun x1=>cnd (!x1) (some (true)) (bnd (kH aY) fun x4=>some (decide (x4<(0:Int))))) fun bI=>some bI
theorem sW {aY:aq}{r:Bool}(h:fm aY=some r):ax Tryz.prog 139 [dG ai aY] (dB r):=by
 refine bE (rs:=[.tmp 2]) (fun cx hx h0=>?_) Tryz.func139
 unfold fm at h
 refine ra hx ?_
 refine AW.seq ?_
 obtain⟨bI,hy,h⟩:=ab h
 refine jn ((PE cx .normal (fun bI=>[(2,dB bI)]) fun bI=>⟨[],[],0⟩) bI) ?_ ?_
 replace h:=hy
 refine rq hx fun K hK=>?_
 refine s1 (d:=dG ai aY) (au (am.id _ _) ay) ?_
 refine scb h cC fun x1 h=>?_
 iterate 2 refine sa ?_
 rcases aD (!x1) with bb|bb
 replace h:=aP bb h
 iterate 3 refine aH rfl rfl bb ?_
 refine s1 (aw bb) ?_
 refine sa ?_
 refine .nil (hK _ _ ?_)
 cases h
 exact pe0 h0 []
 replace h:=aQ bb h
 refine g1 (d:=dG ai aY) bb (au (am.id _ _) ay) ?_
 obtain⟨x4,p6,h⟩:=ab h
 refine g1 bb (bj rfl (s7 p6) (by simp only[dJ,eD,cH,bP,bB,bq];exact aI _ _) (lA (cD _ _) lAn) (.inl rfl)) ?_
 refine ga bb ?_
 refine s1 (al bb) ?_
 refine sa ?_
 refine .nil (hK _ _ ?_)
 cases h
 exact pe0 h0 []
 rintro ex tm' hp' ⟨rfl,hw⟩
 refine AW.weak hw (AW.ret ?_)
 cases h
 exact rv1
def a9(ue:List aq):Int→Option (Int⊕(Int⊕Unit)):=fun aJ=>cnd (decide (aJ<((ue).length:Int))) (gd (0≤aJ∧aJ<((ue).length:Int)) (bnd (fm ((ue)[(aJ).toNat]!)) fun x4=>cnd x4 (some (.inr (.inl aJ))) (some (.inl (i64.wrap (aJ+(1:Int))))))) (some (.inr (.inr ())))
def bA(ue:List aq):Option Int:=bnd (bS (a9 ue) (0:Int)) fun y7=>match y7 with| .inl r=>some r| .inr ()=>some (-1:Int)
theorem gF {ue:List aq}{r:Int}(h:bA ue=some r):ax Tryz.prog 106 [dL ai ue,.e (.lit (.func (.func 139) #[] #[]))] (dI .i64 r):=by
 refine bE (rs:=[.tmp 4]) (fun cx hx h0=>?_) Tryz.func106
 unfold bA at h
 refine ra hx ?_
 refine AW.seq (ra hx ?_)
 refine AW.block ?_
 obtain⟨y,hy,h⟩:=ab h
 refine lp (S:=Int) (X:=Int⊕Unit) (fun aJ=>[(0,dL ai ue),(1,.e (.lit (.func (.func 139) #[] #[]))),(7,dI .i64 ((ue).length:Int)),(8,dI .i64 aJ)]) (fun aJ=>⟨[],[],0⟩) (PS (PR [.tmp 4] fun r=>dI .i64 r) (PE cx (.exit 0) (fun ()=>[]) fun ()=>⟨[],[],0⟩)) hy ?_ ?_ ?_
 exact wk h0 [] (wR rfl (wR rfl (wR rfl (wR rfl wTn)))) wVn wLn
 clear hy h
 rintro aJ y h
 dsimp only[a9] at h
 refine ra hx ?_
 refine AW.seq (cdh h rfl (fun c5 h=>?_) (fun c5 h=>?_))
 refine AW.skip (AW.seq (AW.block (ra hx ?_)))
 refine rs hx fun K hK=>?_
 iterate 3 refine sa ?_
 obtain⟨ml,h⟩:=aC h
 have p8:(aJ).toNat<(ue).length:=by omega
 refine s1 (g7 ml aM ay) ?_
 refine s1 (d:=dG ai ((ue)[(aJ).toNat]!)) (mi (c:=ai) (l:=ue) (n:=(aJ).toNat) (o:=0) ay p8 (f8 _ _ rfl)) ?_
 refine scb h sW fun x4 h=>?_
 refine .nil (hK _ _ (cdh h rfl (fun fe h=>?_) (fun fe h=>?_)))
 refine ra hx ?_
 refine AW.ret ?_
 cases h
 refine PS.r ⟨by nofun,PS.l (PR.i ?_)⟩
 exact rv1
 refine AW.skip (rb hx ?_)
 cases h
 exact PS.l (pe0 h0 [])
 refine AW.exit ?_
 try dsimp only
 try simp only[aU,reduceIte,Nat.reduceEqDiff,reduceCtorEq]
 cases h
 exact PS.r ⟨by nofun,PS.r (PE.i (wk h0 [] wTn wVn wLn))⟩
 rcases y with r|⟨⟩
 rintro ex tm' hp' ⟨rfl,hw⟩
 cases h
 exact hw
 rintro ex tm' hp' ⟨rfl,hw⟩
 try dsimp only
 try simp only[aU,reduceIte,Nat.reduceEqDiff,reduceCtorEq]
 refine AW.weak hw (ra hx ?_)
 refine AW.ret ?_
 cases h
 exact rv1
def ba(ue:List aq):Option Bool:=bnd (bA ue) fun x1=>some (decide ((0:Int)≤x1))
theorem fQ {ue:List aq}{r:Bool}(h:ba ue=some r):ax Tryz.prog 119 [dL ai ue,.e (.lit (.func (.func 139) #[] #[]))] (dB r):=by
 refine bE (rs:=[.tmp 4]) (fun cx hx h0=>?_) Tryz.func119
 unfold ba at h
 refine ra hx ?_
 refine rs hx fun K hK=>?_
 iterate 2 refine sa ?_
 refine scb h gF fun x1 h=>?_
 iterate 2 refine sa ?_
 refine .nil (hK _ _ (AW.ret ?_))
 cases h
 exact rv1
def eu(ep:List aq)(cG:Int):Option Bool:=bnd (S:=Bool) (cnd (decide (((ep).length:Int)=cG)) (bnd (ba ep) fun x2=>some (!x2)) (some (false))) fun bI=>some bI
theorem lQ {ep:List aq}{cG:Int}{r:Bool}(h:eu ep cG=some r):ax Tryz.prog 80 [dL ai ep,dI .i64 cG] (dB r):=by
 refine bE (rs:=[.tmp 4]) (fun cx hx h0=>?_) Tryz.func80
 unfold eu at h
 refine ra hx ?_
 refine AW.seq ?_
 obtain⟨bI,hy,h⟩:=ab h
 refine jn ((PE cx .normal (fun bI=>[(4,dB bI)]) fun bI=>⟨[],[],0⟩) bI) ?_ ?_
 replace h:=hy
 refine rq hx fun K hK=>?_
 iterate 5 refine sa ?_
 rcases aD (decide (((ep).length:Int)=cG)) with c5|c5
 replace h:=aP c5 h
 refine ga c5 ?_
 obtain⟨x2,IP,h⟩:=ab h
 refine g1 c5 (bj rfl (fQ IP) rfl (lA (ao _) (lA (ao _) lAn)) (.inl rfl)) ?_
 refine ga c5 ?_
 refine s1 (aw c5) ?_
 refine sa ?_
 refine .nil (hK _ _ ?_)
 cases h
 exact pe0 h0 []
 replace h:=aQ c5 h
 iterate 3 refine aH rfl rfl c5 ?_
 refine s1 (al c5) ?_
 refine sa ?_
 refine .nil (hK _ _ ?_)
 cases h
 exact pe0 h0 []
 rintro ex tm' hp' ⟨rfl,hw⟩
 refine AW.weak hw (AW.ret ?_)
 cases h
 exact rv1
def fV(aN:fE)(aV:List aq):Option Bool:=bnd (S:=Bool) (bnd (fW aN (1000:Int)) fun x1=>cnd x1 (cnd (decide (((aV).length:Int)=aN.vR)) (bnd (dp aV) fun x5=>some (x5)) (some (false))) (some (false))) fun bI=>some bI
theorem qm {aN:fE}{aV:List aq}{r:Bool}(h:fV aN aV=some r):ax Tryz.prog 73 [dG f6 aN,dL ai aV] (dB r):=by
 refine bE (rs:=[.tmp 4]) (fun cx hx h0=>?_) Tryz.func73
 unfold fV at h
 refine rs hx fun K hK=>?_
 refine s1 (d:=.pt 0 0) gD ?_
 refine sa ?_
 refine .nil (hK _ _ (AW.seq ?_))
 obtain⟨bI,hy,h⟩:=ab h
 refine jn ((PE cx .normal (fun bI=>[(4,dB bI)]) fun bI=>⟨[],[],0⟩) bI) ?_ ?_
 replace h:=hy
 refine rq hx fun K hK=>?_
 refine s1 (d:=dG f6 aN) (iH lE) ?_
 refine scb h qn fun x1 h=>?_
 refine sa ?_
 rcases aD x1 with bb|bb
 replace h:=aP bb h
 iterate 3 refine ga bb ?_
 refine g1 bb (bi bG) ?_
 refine ga bb ?_
 refine s1 (aw bb) ?_
 refine sa ?_
 rcases aD (decide (((aV).length:Int)=aN.vR)) with gH|gH
 replace h:=aP gH h
 refine ga gH ?_
 obtain⟨x5,AD,h⟩:=ab h
 refine g1 gH (bj rfl (fR AD) rfl (lA (ao _) lAn) (.inl rfl)) ?_
 refine s1 (aw gH) ?_
 refine sa ?_
 refine .nil (hK _ _ ?_)
 cases h
 exact pe0 h0 []
 replace h:=aQ gH h
 iterate 2 refine aH rfl rfl gH ?_
 refine s1 (al gH) ?_
 refine sa ?_
 refine .nil (hK _ _ ?_)
 cases h
 exact pe0 h0 []
 replace h:=aQ bb h
 iterate 5 refine aH rfl rfl bb ?_
 refine s1 (al bb) ?_
 refine sa ?_
 iterate 2 refine aH rfl rfl rfl ?_
 refine s1 (al rfl) ?_
 refine sa ?_
 refine .nil (hK _ _ ?_)
 cases h
 exact pe0 h0 []
 rintro ex tm' hp' ⟨rfl,hw⟩
 refine AW.weak hw (AW.ret ?_)
 cases h
 exact rv1
def iZ(aN:fE)(M8:Int):Option (List aq):=gd (0≤i64.wrap (M8*aN.vC)∧i64.wrap (M8*aN.vC)≤i64.wrap ((i64.wrap (M8+(1:Int)))*aN.vC)∧i64.wrap ((i64.wrap (M8+(1:Int)))*aN.vC)≤((aN.vV).length:Int)) (some (AB aN.vV (i64.wrap (M8*aN.vC)) (i64.wrap ((i64.wrap (M8+(1:Int)))*aN.vC))))
theorem tT {aN:fE}{M8:Int}{r:List aq}(h:iZ aN M8=some r):ax Tryz.prog 82 [dG f6 aN,dI .i64 M8] (dL ai r):=by
 refine bE (rs:=[.tmp 4]) (fun cx hx h0=>?_) Tryz.func82
 unfold iZ at h
 refine rs hx fun K hK=>?_
 refine s1 (d:=.pt 0 0) gD ?_
 refine s1 (d:=dO 1 ai ([]:List aq)) (gE aM ay) ?_
 refine .nil (hK _ _ (rs hx fun K hK=>?_))
 refine sa ?_
 refine s1 (bi aM) ?_
 iterate 2 refine sa ?_
 refine s1 (bi bG) ?_
 iterate 4 refine sa ?_
 refine s1 (bi bG) ?_
 refine sa ?_
 obtain⟨I9,h⟩:=aC h
 refine s1 (T_sl (c:=ai) (l:=aN.vV) (a:=i64.wrap (M8*aN.vC)) (b:=i64.wrap ((i64.wrap (M8+(1:Int)))*aN.vC)) I9 aM ay) ?_
 refine sa ?_
 refine .nil (hK _ _ (AW.ret ?_))
 cases h
 exact rv1
def oQ(nK:Int):Option Bool:=some (decide (nK≤(0:Int)))
theorem yH {nK:Int}{r:Bool}(h:oQ nK=some r):ax Tryz.prog 132 [dI .i64 nK] (dB r):=by
 refine bE (rs:=[.tmp 2]) (fun cx hx h0=>?_) Tryz.func132
 unfold oQ at h
 iterate 2 refine ra hx ?_
 refine AW.ret ?_
 cases h
 exact rv1
def bL(aN:fE)(aY:List aq)(b8:List aq):Int→Option (Int⊕(Bool⊕Unit)):=fun aJ=>cnd (decide (aJ<((b8).length:Int))) (gd (0≤aJ∧aJ<((b8).length:Int)) (bnd (iZ aN aJ) fun x4=>bnd (cv x4 aY) fun x6=>bnd (S:=Bool) (bnd (bn x6) fun x8=>cnd (!x8) (some (true)) (bnd (js x6 ((b8)[(aJ).toNat]!)) fun ro=>bnd (oQ ro) fun mX=>some (!mX))) fun mF=>cnd mF (some (.inr (.inl false))) (some (.inl (i64.wrap (aJ+(1:Int))))))) (some (.inr (.inr ())))
def bw(aN:fE)(aY:List aq)(b8:List aq):Option Bool:=bnd (bS (bL aN aY b8) (0:Int)) fun y17=>match y17 with| .inl r=>some r| .inr ()=>some true
set_option maxHeartbeats 4000000 in
theorem jb {aN:fE}{aY:List aq}{b8:List aq}{r:Bool}(h:bw aN aY b8=some r):ax Tryz.prog 81 [.e (.lit (.func (.func 82) #[] #[])),dG f6 aN,dL ai aY,dL ai b8,.e (.lit (.func (.func 132) #[] #[]))] (dB r):=by
 refine bE (rs:=[.tmp 10]) (fun cx hx h0=>?_) Tryz.func81
 unfold bw at h
 refine rs hx fun K hK=>?_
 refine s1 (d:=.pt 0 0) gD ?_
 refine sa ?_
 refine .nil (hK _ _ (AW.seq (ra hx ?_)))
 refine AW.block ?_
 obtain⟨y,hy,h⟩:=ab h
 refine lp (S:=Int) (X:=Bool⊕Unit) (fun aJ=>[(0,.e (.lit (.func (.func 82) #[] #[]))),(2,dL ai aY),(4,.e (.lit (.func (.func 132) #[] #[]))),(6,.pt 0 0),(14,dL ai b8),(15,dI .i64 ((b8).length:Int)),(16,dI .i64 aJ)]) (fun aJ=>⟨[(0,[dI .i64 aN.vR,dI .i64 aN.vC,dL ai aN.vV])],[],1⟩) (PS (PR [.tmp 10] fun r=>dB r) (PE cx (.exit 0) (fun ()=>[]) fun ()=>⟨[],[],0⟩)) hy ?_ ?_ ?_
 exact wk h0 [0] (wR rfl (wR rfl (wR rfl (wR rfl (wR rfl (wR rfl (wR rfl wTn))))))) (vR rfl wVn) wLn
 clear hy h
 rintro aJ y h
 dsimp only[bL] at h
 refine ra hx ?_
 refine AW.seq (cdh h rfl (fun c5 h=>?_) (fun c5 h=>?_))
 refine AW.skip (AW.seq (AW.block (rs hx fun K hK=>?_)))
 refine sa ?_
 obtain⟨ml,h⟩:=aC h
 have p8:(aJ).toNat<(b8).length:=by omega
 refine s1 (g7 ml aM ay) ?_
 refine s1 (d:=dG ai ((b8)[(aJ).toNat]!)) (mi (c:=ai) (l:=b8) (n:=(aJ).toNat) (o:=0) ay p8 (f8 _ _ rfl)) ?_
 refine s1 (bm (F:=ai.f cY) ay) ?_
 refine sa ?_
 refine s0 (aE (b':=(b8)[(aJ).toNat]!) (am.id _ _) ay) ?_
 refine .nil (hK _ _ (rs hx fun K hK=>?_))
 refine sa ?_
 refine s1 (d:=dG f6 aN) (iH lE) ?_
 refine sa ?_
 refine scb h tT fun x4 h=>?_
 refine sa ?_
 refine scb h eA fun x6 h=>?_
 refine s1 (bm (F:=ai.f cY) ay) ?_
 refine s0 (aE (b':=x6) (am.id _ _) ay) ?_
 refine .nil (hK _ _ (AW.seq ?_))
 obtain⟨mF,hy,h⟩:=ab h
 refine jn ((PE cx .normal (fun mF=>[(0,.e (.lit (.func (.func 82) #[] #[]))),(2,dL ai aY),(4,.e (.lit (.func (.func 132) #[] #[]))),(6,.pt 0 0),(14,dL ai b8),(15,dI .i64 ((b8).length:Int)),(16,dI .i64 aJ),(37,dB mF)]) fun mF=>⟨[(0,[dI .i64 aN.vR,dI .i64 aN.vC,dL ai aN.vV])],[],1⟩) mF) ?_ ?_
 replace h:=hy
 refine rq hx fun K hK=>?_
 refine s1 (d:=dG ai x6) (au (am.id _ _) ay) ?_
 refine scb h cC fun x8 h=>?_
 iterate 2 refine sa ?_
 rcases aD (!x8) with dM|dM
 replace h:=aP dM h
 iterate 6 refine aH rfl rfl dM ?_
 refine s1 (aw dM) ?_
 refine .nil (hK _ _ ?_)
 cases h
 exact pe0 h0 [0]
 replace h:=aQ dM h
 refine ga dM ?_
 refine g1 (d:=dG ai x6) dM (au (am.id _ _) ay) ?_
 refine g1 (d:=dG ai ((b8)[(aJ).toNat]!)) dM (au (am.id _ _) ay) ?_
 obtain⟨ro,Fx,h⟩:=ab h
 refine g1 dM (bj rfl (ru Fx) (by simp only[dJ,eD,cH,bP,bB,bq];exact⟨aI _ _,aI _ _⟩) (lA (cD _ _) (lA (cD _ _) lAn)) (.inl rfl)) ?_
 obtain⟨mX,uQ,h⟩:=ab h
 refine g1 dM (bj rfl (yH uQ) rfl (lA (ao _) lAn) (.inl rfl)) ?_
 refine ga dM ?_
 refine s1 (al dM) ?_
 refine .nil (hK _ _ ?_)
 cases h
 exact pe0 h0 [0]
 rintro ex tm' hp' ⟨rfl,hw⟩
 refine AW.weak hw (cdh h rfl (fun nS h=>?_) (fun nS h=>?_))
 refine ra hx ?_
 refine AW.ret ?_
 cases h
 refine PS.r ⟨by nofun,PS.l (PR.i ?_)⟩
 exact rv1
 refine AW.skip (rb hx ?_)
 cases h
 exact PS.l (pe0 h0 [0])
 refine AW.exit ?_
 try dsimp only
 try simp only[aU,reduceIte,Nat.reduceEqDiff,reduceCtorEq]
 cases h
 exact PS.r ⟨by nofun,PS.r (PE.i (wk h0 [] wTn wVn wLn))⟩
 rcases y with r|⟨⟩
 rintro ex tm' hp' ⟨rfl,hw⟩
 cases h
 exact hw
 rintro ex tm' hp' ⟨rfl,hw⟩
 try dsimp only
 try simp only[aU,reduceIte,Nat.reduceEqDiff,reduceCtorEq]
 refine AW.weak hw (ra hx ?_)
 refine AW.ret ?_
 cases h
 exact rv1
def d6(aY:List aq)(aV:List aq)(m9:bY):Option Bool:=bnd (S:=Bool) (bnd (eu aY m9.vA.vC) fun x1=>cnd x1 (bnd (bw m9.vA aY aV) fun x4=>some (x4)) (some (false))) fun bI=>some bI
theorem lj {aY:List aq}{aV:List aq}{m9:bY}{r:Bool}(h:d6 aY aV m9=some r):HC Tryz.prog 131 [dL ai aY,dL ai aV,.pt 0 0] ⟨[(0,[dI .i64 m9.vA.vR,dI .i64 m9.vA.vC,dL ai m9.vA.vV,dL ai m9.vB,dL ai m9.vC])],[],1⟩ (dB r) ⟨[(0,[dI .i64 m9.vA.vR,dI .i64 m9.vA.vC,dL ai m9.vA.vV,dL ai m9.vB,dL ai m9.vC])],[],1⟩:=by
 refine HC.of (rs:=[.tmp 5]) tok Tryz.func131 rfl rfl (dq rfl) rfl (fun cx hx h1 hok=>?_)
 have h0:cx.hp0.next=1:=by rw[h1]
 simp only[fL,Nat.reduceAdd,bJ]
 unfold d6 at h
 refine ra hx ?_
 refine AW.seq ?_
 obtain⟨bI,hy,h⟩:=ab h
 refine jn ((PE cx .normal (fun bI=>[(5,dB bI)]) fun bI=>⟨[(0,[dI .i64 m9.vA.vR,dI .i64 m9.vA.vC,dL ai m9.vA.vV,dL ai m9.vB,dL ai m9.vC])],[],1⟩) bI) ?_ ?_
 replace h:=hy
 refine rq hx fun K hK=>?_
 iterate 3 refine sa ?_
 refine s1 (bi bG) ?_
 refine scb h lQ fun x1 h=>?_
 refine sa ?_
 rcases aD x1 with bb|bb
 replace h:=aP bb h
 refine ga bb ?_
 refine g1 (d:=dG f6 m9.vA) bb (iH lE) ?_
 iterate 2 refine ga bb ?_
 obtain⟨x4,p6,h⟩:=ab h
 refine g1 bb (bj rfl (jb p6) (by simp only[dJ,eD,cH,bP,bB,bq];exact⟨rfl,aI _ _,rfl,rfl,rfl⟩) (lA (ao _) (lA (ao _) (lA (ao _) (lA (ao _) (lA (ao _) lAn))))) (.inl rfl)) ?_
 refine s1 (aw bb) ?_
 refine sa ?_
 refine .nil (hK _ _ ?_)
 cases h
 exact PE.i (wkN h0 [] (wR rfl wTn) (vR rfl wVn) wLn)
 replace h:=aQ bb h
 iterate 5 refine aH rfl rfl bb ?_
 refine s1 (al bb) ?_
 refine sa ?_
 refine .nil (hK _ _ ?_)
 cases h
 exact PE.i (wkN h0 [] (wR rfl wTn) (vR rfl wVn) wLn)
 rintro ex tm' hp' ⟨rfl,hw⟩
 refine AW.weak hw (AW.ret ?_)
 cases h
 exact rH1 (wkN h0 [] (wR rfl wTn) (vR rfl wVn) wLn)
def fM(aN:fE)(tY:Int):(List aq)×Int→Option (((List aq)×Int)⊕((List aq))):=fun (bc,bt)=>cnd (decide (bt<aN.vR)) (gd (0≤i64.wrap ((i64.wrap (bt*aN.vC))+tY)∧i64.wrap ((i64.wrap (bt*aN.vC))+tY)<((aN.vV).length:Int)) (gd ((bc++[(aN.vV)[(i64.wrap ((i64.wrap (bt*aN.vC))+tY)).toNat]!]).length*136≤140737488355328) (some (.inl (bc++[(aN.vV)[(i64.wrap ((i64.wrap (bt*aN.vC))+tY)).toNat]!],i64.wrap (bt+(1:Int))))))) (some (.inr bc))
def iy(aN:fE)(tY:Int):Option (List aq):=bnd (bS (fM aN tY) (([]:List aq),(0:Int))) fun bo=>some bo
theorem wK {aN:fE}{tY:Int}{r:List aq}(h:iy aN tY=some r):ax Tryz.prog 84 [dG f6 aN,dI .i64 tY] (.own 43 ai.sz r.length (r.flatMap ai.f)):=by
 refine bE (rs:=[.tmp 4]) (fun cx hx h0=>?_) Tryz.func84
 unfold iy at h
 refine rs hx fun K hK=>?_
 refine s1 (d:=.pt 0 0) gD ?_
 refine s1 (d:=dO 1 ai ([]:List aq)) (gE aM ay) ?_
 refine .nil (hK _ _ (rs hx fun K hK=>?_))
 refine s1 (d:=dO 2 ai ([]:List aq)) (gE aM ay) ?_
 refine .nil (hK _ _ (AW.seq (rs hx fun K hK=>?_)))
 refine sa ?_
 refine s1 (bi bG) ?_
 refine sa ?_
 refine .nil (hK _ _ (AW.block ?_))
 obtain⟨bo,hy,h⟩:=ab h
 refine lp (S:=(List aq)×Int) (X:=(List aq)) (fun (bc,bt)=>[(1,dI .i64 tY),(2,.pt 0 0),(5,dO 1 ai bc),(8,dI .i64 aN.vR),(9,dI .i64 bt)]) (fun (bc,bt)=>⟨[(0,[dI .i64 aN.vR,dI .i64 aN.vC,dL ai aN.vV])],[(1,(bc).length,36,43)],2⟩) (PE cx (.exit 0) (fun bo=>[(5,dO 0 ai bo)]) fun bo=>⟨[],[(0,(bo).length,36,43)],1⟩) hy ?_ ?_ ?_
 exact wk h0 [0,2] (wR rfl (wR rfl (wR rfl (wR rfl (wR rfl wTn))))) (vR rfl wVn) (wL rfl rfl wLn)
 clear hy h
 rintro⟨bc,bt⟩ y h
 dsimp only[fM] at h
 refine ra hx ?_
 refine AW.seq (cdh h rfl (fun c5 h=>?_) (fun c5 h=>?_))
 refine AW.skip (AW.seq (AW.block (ra hx ?_)))
 refine rq hx fun K hK=>?_
 iterate 2 refine sa ?_
 refine s1 (bi aM) ?_
 iterate 2 refine sa ?_
 refine s1 (bi bG) ?_
 iterate 3 refine sa ?_
 obtain⟨ml,h⟩:=aC h
 have p8:(i64.wrap ((i64.wrap (bt*aN.vC))+tY)).toNat<(aN.vV).length:=by omega
 refine s1 (g7 ml aM ay) ?_
 refine s1 (d:=dG ai ((aN.vV)[(i64.wrap ((i64.wrap (bt*aN.vC))+tY)).toNat]!)) (mi (c:=ai) (l:=aN.vV) (n:=(i64.wrap ((i64.wrap (bt*aN.vC))+tY)).toNat) (o:=0) ay p8 (f8 _ _ rfl)) ?_
 refine s1 (kP ([(aN.vV)[(i64.wrap ((i64.wrap (bt*aN.vC))+tY)).toNat]!]:List aq) ai aM ay) ?_
 obtain⟨Eu,h⟩:=aC h
 refine s1 (d:=dO 1 ai (bc++[(aN.vV)[(i64.wrap ((i64.wrap (bt*aN.vC))+tY)).toNat]!])) (qZ aM ay Eu) ?_
 refine sa ?_
 refine .nil (hK _ _ (rb hx ?_))
 cases h
 exact PS.l (pe0 h0 [0,1])
 refine AW.exit ?_
 try dsimp only
 try simp only[aU,reduceIte,Nat.reduceEqDiff,reduceCtorEq]
 cases h
 exact PS.r ⟨by nofun,PE.i (wk h0 [1] (wR rfl wTn) wVn (wL rfl rfl wLn))⟩
 rintro ex tm' hp' ⟨rfl,hw⟩
 try dsimp only
 try simp only[aU,reduceIte,Nat.reduceEqDiff,reduceCtorEq]
 refine AW.weak hw (ra hx ?_)
 refine AW.ret ?_
 cases h
 exact og.own rfl rfl
def nX(nK:Int):Option Bool:=some (decide ((0:Int)≤nK))
theorem xC {nK:Int}{r:Bool}(h:nX nK=some r):ax Tryz.prog 85 [dI .i64 nK] (dB r):=by
 refine bE (rs:=[.tmp 2]) (fun cx hx h0=>?_) Tryz.func85
 unfold nX at h
 iterate 2 refine ra hx ?_
 refine AW.ret ?_
 cases h
 exact rv1
def bC(aN:fE)(aY:List aq)(b8:List aq):Int→Option (Int⊕(Bool⊕Unit)):=fun aJ=>cnd (decide (aJ<((b8).length:Int))) (gd (0≤aJ∧aJ<((b8).length:Int)) (bnd (iy aN aJ) fun x4=>bnd (cv x4 aY) fun x6=>bnd (S:=Bool) (bnd (bn x6) fun x8=>cnd (!x8) (some (true)) (bnd (js x6 ((b8)[(aJ).toNat]!)) fun ro=>bnd (nX ro) fun mX=>some (!mX))) fun mF=>cnd mF (some (.inr (.inl false))) (some (.inl (i64.wrap (aJ+(1:Int))))))) (some (.inr (.inr ())))
def a8(aN:fE)(aY:List aq)(b8:List aq):Option Bool:=bnd (bS (bC aN aY b8) (0:Int)) fun y17=>match y17 with| .inl r=>some r| .inr ()=>some true
set_option maxHeartbeats 4000000 in
theorem eh {aN:fE}{aY:List aq}{b8:List aq}{r:Bool}(h:a8 aN aY b8=some r):ax Tryz.prog 81 [.e (.lit (.func (.func 84) #[] #[])),dG f6 aN,dL ai aY,dL ai b8,.e (.lit (.func (.func 85) #[] #[]))] (dB r):=by
 refine bE (rs:=[.tmp 10]) (fun cx hx h0=>?_) Tryz.func81
 unfold a8 at h
 refine rs hx fun K hK=>?_
 refine s1 (d:=.pt 0 0) gD ?_
 refine sa ?_
 refine .nil (hK _ _ (AW.seq (ra hx ?_)))
 refine AW.block ?_
 obtain⟨y,hy,h⟩:=ab h
 refine lp (S:=Int) (X:=Bool⊕Unit) (fun aJ=>[(0,.e (.lit (.func (.func 84) #[] #[]))),(2,dL ai aY),(4,.e (.lit (.func (.func 85) #[] #[]))),(6,.pt 0 0),(14,dL ai b8),(15,dI .i64 ((b8).length:Int)),(16,dI .i64 aJ)]) (fun aJ=>⟨[(0,[dI .i64 aN.vR,dI .i64 aN.vC,dL ai aN.vV])],[],1⟩) (PS (PR [.tmp 10] fun r=>dB r) (PE cx (.exit 0) (fun ()=>[]) fun ()=>⟨[],[],0⟩)) hy ?_ ?_ ?_
 exact wk h0 [0] (wR rfl (wR rfl (wR rfl (wR rfl (wR rfl (wR rfl (wR rfl wTn))))))) (vR rfl wVn) wLn
 clear hy h
 rintro aJ y h
 dsimp only[bC] at h
 refine ra hx ?_
 refine AW.seq (cdh h rfl (fun c5 h=>?_) (fun c5 h=>?_))
 refine AW.skip (AW.seq (AW.block (rs hx fun K hK=>?_)))
 refine sa ?_
 obtain⟨ml,h⟩:=aC h
 have p8:(aJ).toNat<(b8).length:=by omega
 refine s1 (g7 ml aM ay) ?_
 refine s1 (d:=dG ai ((b8)[(aJ).toNat]!)) (mi (c:=ai) (l:=b8) (n:=(aJ).toNat) (o:=0) ay p8 (f8 _ _ rfl)) ?_
 refine s1 (bm (F:=ai.f cY) ay) ?_
 refine sa ?_
 refine s0 (aE (b':=(b8)[(aJ).toNat]!) (am.id _ _) ay) ?_
 refine .nil (hK _ _ (rs hx fun K hK=>?_))
 refine sa ?_
 refine s1 (d:=dG f6 aN) (iH lE) ?_
 refine sa ?_
 obtain⟨x4,p6,h⟩:=ab h
 refine s1 (iI rfl (wK p6) (by simp only[dJ,eD,cH,bP,bB,bq];exact⟨aI _ _,rfl⟩) (lA (ao _) (lA (ao _) lAn))) ?_
 refine sa ?_
 refine scb h eA fun x6 h=>?_
 refine s1 (bm (F:=ai.f cY) ay) ?_
 refine s0 (aE (b':=x6) (am.id _ _) ay) ?_
 refine .nil (hK _ _ (AW.seq ?_))
 obtain⟨mF,hy,h⟩:=ab h
 refine jn ((PE cx .normal (fun mF=>[(0,.e (.lit (.func (.func 84) #[] #[]))),(2,dL ai aY),(4,.e (.lit (.func (.func 85) #[] #[]))),(6,.pt 0 0),(14,dL ai b8),(15,dI .i64 ((b8).length:Int)),(16,dI .i64 aJ),(37,dB mF)]) fun mF=>⟨[(0,[dI .i64 aN.vR,dI .i64 aN.vC,dL ai aN.vV])],[],1⟩) mF) ?_ ?_
 replace h:=hy
 refine rq hx fun K hK=>?_
 refine s1 (d:=dG ai x6) (au (am.id _ _) ay) ?_
 refine scb h cC fun x8 h=>?_
 iterate 2 refine sa ?_
 rcases aD (!x8) with dM|dM
 replace h:=aP dM h
 iterate 6 refine aH rfl rfl dM ?_
 refine s1 (aw dM) ?_
 refine .nil (hK _ _ ?_)
 cases h
 exact pe0 h0 [0]
 replace h:=aQ dM h
 refine ga dM ?_
 refine g1 (d:=dG ai x6) dM (au (am.id _ _) ay) ?_
 refine g1 (d:=dG ai ((b8)[(aJ).toNat]!)) dM (au (am.id _ _) ay) ?_
 obtain⟨ro,Fx,h⟩:=ab h
 refine g1 dM (bj rfl (ru Fx) (by simp only[dJ,eD,cH,bP,bB,bq];exact⟨aI _ _,aI _ _⟩) (lA (cD _ _) (lA (cD _ _) lAn)) (.inl rfl)) ?_
 obtain⟨mX,uQ,h⟩:=ab h
 refine g1 dM (bj rfl (xC uQ) rfl (lA (ao _) lAn) (.inl rfl)) ?_
 refine ga dM ?_
 refine s1 (al dM) ?_
 refine .nil (hK _ _ ?_)
 cases h
 exact pe0 h0 [0]
 rintro ex tm' hp' ⟨rfl,hw⟩
 refine AW.weak hw (cdh h rfl (fun nS h=>?_) (fun nS h=>?_))
 refine ra hx ?_
 refine AW.ret ?_
 cases h
 refine PS.r ⟨by nofun,PS.l (PR.i ?_)⟩
 exact rv1
 refine AW.skip (rb hx ?_)
 cases h
 exact PS.l (pe0 h0 [0])
 refine AW.exit ?_
 try dsimp only
 try simp only[aU,reduceIte,Nat.reduceEqDiff,reduceCtorEq]
 cases h
 exact PS.r ⟨by nofun,PS.r (PE.i (wk h0 [] wTn wVn wLn))⟩
 rcases y with r|⟨⟩
 rintro ex tm' hp' ⟨rfl,hw⟩
 cases h
 exact hw
 rintro ex tm' hp' ⟨rfl,hw⟩
 try dsimp only
 try simp only[aU,reduceIte,Nat.reduceEqDiff,reduceCtorEq]
 refine AW.weak hw (ra hx ?_)
 refine AW.ret ?_
 cases h
 exact rv1
def eQ(nK:List aq)(m9:bW)(p_v1:bY):Option Bool:=bnd (S:=Bool) (bnd (eu m9.vY p_v1.vA.vR) fun x1=>cnd x1 (bnd (a8 p_v1.vA m9.vY nK) fun x4=>some (x4)) (some (false))) fun bI=>some bI
theorem oh {nK:List aq}{m9:bW}{p_v1:bY}{r:Bool}(h:eQ nK m9 p_v1=some r):HC Tryz.prog 133 [dL ai nK,.pt 0 0,.pt 1 0] ⟨[(0,[dI .i64 m9.vKind,dL ai m9.vX,dL ai m9.vY,dL ai m9.vRay]),(1,[dI .i64 p_v1.vA.vR,dI .i64 p_v1.vA.vC,dL ai p_v1.vA.vV,dL ai p_v1.vB,dL ai p_v1.vC])],[],2⟩ (dB r) ⟨[(0,[dI .i64 m9.vKind,dL ai m9.vX,dL ai m9.vY,dL ai m9.vRay]),(1,[dI .i64 p_v1.vA.vR,dI .i64 p_v1.vA.vC,dL ai p_v1.vA.vV,dL ai p_v1.vB,dL ai p_v1.vC])],[],2⟩:=by
 refine HC.of (rs:=[.tmp 4]) tok Tryz.func133 rfl rfl (dq rfl) rfl (fun cx hx h1 hok=>?_)
 have h0:cx.hp0.next=2:=by rw[h1]
 simp only[fL,Nat.reduceAdd,bJ]
 unfold eQ at h
 refine ra hx ?_
 refine AW.seq ?_
 obtain⟨bI,hy,h⟩:=ab h
 refine jn ((PE cx .normal (fun bI=>[(4,dB bI)]) fun bI=>⟨[(0,[dI .i64 m9.vKind,dL ai m9.vX,dL ai m9.vY,dL ai m9.vRay]),(1,[dI .i64 p_v1.vA.vR,dI .i64 p_v1.vA.vC,dL ai p_v1.vA.vV,dL ai p_v1.vB,dL ai p_v1.vC])],[],2⟩) bI) ?_ ?_
 replace h:=hy
 refine rq hx fun K hK=>?_
 refine sa ?_
 refine s1 (bi aM) ?_
 iterate 2 refine sa ?_
 refine s1 (bi bG) ?_
 refine scb h lQ fun x1 h=>?_
 refine sa ?_
 rcases aD x1 with bb|bb
 replace h:=aP bb h
 refine ga bb ?_
 refine g1 (d:=dG f6 p_v1.vA) bb (iH lE) ?_
 refine ga bb ?_
 refine g1 bb (bi aM) ?_
 refine ga bb ?_
 obtain⟨x4,p6,h⟩:=ab h
 refine g1 bb (bj rfl (eh p6) (by simp only[dJ,eD,cH,bP,bB,bq];exact⟨rfl,aI _ _,rfl,rfl,rfl⟩) (lA (ao _) (lA (ao _) (lA (ao _) (lA (ao _) (lA (ao _) lAn))))) (.inl rfl)) ?_
 refine s1 (aw bb) ?_
 refine sa ?_
 refine .nil (hK _ _ ?_)
 cases h
 exact PE.i (wkN h0 [] (wR rfl wTn) (vR rfl (vR rfl wVn)) wLn)
 replace h:=aQ bb h
 iterate 6 refine aH rfl rfl bb ?_
 refine s1 (al bb) ?_
 refine sa ?_
 refine .nil (hK _ _ ?_)
 cases h
 exact PE.i (wkN h0 [] (wR rfl wTn) (vR rfl (vR rfl wVn)) wLn)
 rintro ex tm' hp' ⟨rfl,hw⟩
 refine AW.weak hw (AW.ret ?_)
 cases h
 exact rH1 (wkN h0 [] (wR rfl wTn) (vR rfl (vR rfl wVn)) wLn)
def fU(aY:aq)(Fc:Int):Option Bool:=bnd (S:=Bool) (bnd (bn aY) fun x1=>cnd x1 (bnd (kH aY) fun x4=>some (decide (x4=Fc))) (some (false))) fun bI=>some bI
theorem oF {aY:aq}{Fc:Int}{r:Bool}(h:fU aY Fc=some r):ax Tryz.prog 86 [dG ai aY,dI .i64 Fc] (dB r):=by
 refine bE (rs:=[.tmp 4]) (fun cx hx h0=>?_) Tryz.func86
 unfold fU at h
 refine ra hx ?_
 refine AW.seq ?_
 obtain⟨bI,hy,h⟩:=ab h
 refine jn ((PE cx .normal (fun bI=>[(4,dB bI)]) fun bI=>⟨[],[],0⟩) bI) ?_ ?_
 replace h:=hy
 refine rq hx fun K hK=>?_
 refine s1 (d:=dG ai aY) (au (am.id _ _) ay) ?_
 refine scb h cC fun x1 h=>?_
 refine sa ?_
 rcases aD x1 with bb|bb
 replace h:=aP bb h
 refine g1 (d:=dG ai aY) bb (au (am.id _ _) ay) ?_
 obtain⟨x4,p6,h⟩:=ab h
 refine g1 bb (bj rfl (s7 p6) (by simp only[dJ,eD,cH,bP,bB,bq];exact aI _ _) (lA (cD _ _) lAn) (.inl rfl)) ?_
 iterate 2 refine ga bb ?_
 refine s1 (aw bb) ?_
 refine sa ?_
 refine .nil (hK _ _ ?_)
 cases h
 exact pe0 h0 []
 replace h:=aQ bb h
 iterate 4 refine aH rfl rfl bb ?_
 refine s1 (al bb) ?_
 refine sa ?_
 refine .nil (hK _ _ ?_)
 cases h
 exact pe0 h0 []
 rintro ex tm' hp' ⟨rfl,hw⟩
 refine AW.weak hw (AW.ret ?_)
 cases h
 exact rv1
def jm(oa:bY)(aN:bW):Option Bool:=cnd (decide (aN.vKind=(1:Int))) (bnd (S:=Bool) (cnd (decide ((0:Int)<((aN.vRay).length:Int))) (some (true)) (bnd (d6 aN.vX oa.vB oa) fun x3=>cnd (!x3) (some (true)) (bnd (eQ oa.vC (⟨aN.vKind,aN.vX,aN.vY,aN.vRay⟩:bW) oa) fun x6=>some (!x6)))) fun sQ=>cnd sQ (some false) (bnd (cv oa.vC aN.vX) fun jA=>bnd (S:=Bool) (bnd (bn jA) fun jB=>cnd jB (bnd (cv aN.vY oa.vB) fun Gk=>some (decide (jA=Gk))) (some (false))) fun j6=>some j6)) (cnd (decide (aN.vKind=(2:Int))) (bnd (S:=Bool) (cnd (decide ((i64.wrap (((aN.vX).length:Int)+((aN.vRay).length:Int)))=(0:Int))) (bnd (fF oa.vA.vC) fun Ay=>bnd (eQ Ay (⟨aN.vKind,aN.vX,aN.vY,aN.vRay⟩:bW) oa) fun yE=>cnd yE (bnd (cv aN.vY oa.vB) fun Db=>bnd (fU Db (-1:Int)) fun xu=>some (xu)) (some (false))) (some (false))) fun EL=>some EL) (cnd (decide (aN.vKind=(3:Int))) (bnd (S:=Bool) (cnd (decide (((aN.vY).length:Int)=(0:Int))) (bnd (d6 aN.vX oa.vB oa) fun Ie=>cnd Ie (bnd (fF oa.vA.vR) fun vS=>bnd (d6 aN.vRay vS oa) fun xw=>cnd xw (bnd (cv oa.vC aN.vRay) fun x40=>bnd (fU x40 (1:Int)) fun x42=>some (x42)) (some (false))) (some (false))) (some (false))) fun EJ=>some EJ) (some false)))
set_option maxHeartbeats 4000000 in
theorem xA {oa:bY}{aN:bW}{r:Bool}(h:jm oa aN=some r):ax Tryz.prog 71 [dG ci oa,dG dU aN] (dB r):=by
 refine bE (rs:=[.tmp 4]) (fun cx hx h0=>?_) Tryz.func71
 unfold jm at h
 refine rs hx fun K hK=>?_
 refine s1 (d:=.pt 0 0) gD ?_
 refine s1 (d:=.pt 1 0) gD ?_
 refine sa ?_
 refine .nil (hK _ _ (rs hx fun K hK=>?_))
 refine s1 CU ?_
 refine sa ?_
 refine .nil (hK _ _ (rs hx fun K hK=>?_))
 refine s1 CU ?_
 refine sa ?_
 refine .nil (hK _ _ (AW.seq (rs hx fun K hK=>?_)))
 refine sa ?_
 refine s1 (bi bG) ?_
 refine .nil (hK _ _ (AW.block (ra hx ?_)))
 refine cdh h rfl (fun c5 h=>?_) (fun c5 h=>?_)
 iterate 2 refine AW.seq ?_
 obtain⟨sQ,hy,h⟩:=ab h
 refine jn ((PE cx .normal (fun sQ=>[(2,.pt 0 0),(3,.pt 1 0),(33,dB sQ)]) fun sQ=>⟨[(0,[dI .i64 oa.vA.vR,dI .i64 oa.vA.vC,dL ai oa.vA.vV,dL ai oa.vB,dL ai oa.vC]),(1,[dI .i64 aN.vKind,dL ai aN.vX,dL ai aN.vY,dL ai aN.vRay])],[],2⟩) sQ) ?_ ?_
 replace h:=hy
 refine rq hx fun K hK=>?_
 refine sa ?_
 refine s1 (bi aM) ?_
 iterate 3 refine sa ?_
 rcases aD (decide ((0:Int)<((aN.vRay).length:Int))) with oq|oq
 replace h:=aP oq h
 iterate 7 refine aH rfl rfl oq ?_
 refine s1 (aw oq) ?_
 refine sa ?_
 iterate 5 refine aH rfl rfl rfl ?_
 refine s1 (aw rfl) ?_
 refine .nil (hK _ _ ?_)
 cases h
 exact pe0 h0 [0,1]
 replace h:=aQ oq h
 iterate 2 refine ga oq ?_
 refine g1 oq (bi aM) ?_
 refine ga oq ?_
 refine g1 oq (bi aM) ?_
 obtain⟨x3,hx4,h⟩:=ab h
 refine g1 oq (vg [0] rfl (lj hx4) (fA (ao _) (fA (ao _) (fA (ao _) fAn))) (vR rfl wVn) wLn) ?_
 refine ga oq ?_
 refine s1 (al oq) ?_
 refine sa ?_
 rcases aD (!x3) with eH|eH
 replace h:=aP eH h
 iterate 5 refine aH rfl rfl eH ?_
 refine s1 (aw eH) ?_
 refine .nil (hK _ _ ?_)
 cases h
 exact pe0 h0 [0,1]
 replace h:=aQ eH h
 iterate 2 refine ga eH ?_
 refine g1 eH (bi aM) ?_
 obtain⟨x6,pZ,h⟩:=ab h
 refine g1 eH (vg [1,0] rfl (oh pZ) (fA (ao _) (fA (ao _) (fA (ao _) fAn))) (vR rfl (vR rfl wVn)) wLn) ?_
 refine ga eH ?_
 refine s1 (al eH) ?_
 refine .nil (hK _ _ ?_)
 cases h
 exact pe0 h0 [0,1]
 rintro ex tm' hp' ⟨rfl,hw⟩
 refine AW.weak hw (cdh h rfl (fun rY h=>?_) (fun rY h=>?_))
 refine ra hx ?_
 refine AW.ret ?_
 cases h
 exact rv1
 refine AW.skip (rs hx fun K hK=>?_)
 refine sa ?_
 refine s1 (bi aM) ?_
 refine sa ?_
 refine s1 (bi aM) ?_
 refine scb h eA fun jA h=>?_
 refine s1 (bm (F:=ai.f cY) ay) ?_
 refine s0 (aE (b':=jA) (am.id _ _) ay) ?_
 refine .nil (hK _ _ (AW.seq ?_))
 obtain⟨j6,hy,h⟩:=ab h
 refine jn ((PE cx .normal (fun j6=>[(4,dB j6)]) fun j6=>⟨[],[],0⟩) j6) ?_ ?_
 replace h:=hy
 refine rqd [92,17] hx fun K hK=>?_
 refine s1 (d:=dG ai jA) (au (am.id _ _) ay) ?_
 refine cqb h cC fun jB h=>?_
 refine sa ?_
 rcases aD jB with jM|jM
 replace h:=aP jM h
 refine g1 (d:=dG ai jA) jM (au (am.id _ _) ay) ?_
 refine ga jM ?_
 refine g1 jM (bi aM) ?_
 refine ga jM ?_
 refine g1 jM (bi aM) ?_
 obtain⟨Gk,hx16,h⟩:=ab h
 refine sqg tok rfl rfl jM (eA hx16) rfl (lA (ao _) (lA (ao _) lAn)) (.inl (g9 _ _)) ?_
 refine g1 jM (zV tok 4 (by decide) zC ay) ?_
 refine s1 (aw jM) ?_
 refine sa ?_
 refine .nil (hK _ _ ?_)
 cases h
 exact pe0 h0 []
 replace h:=aQ jM h
 iterate 7 refine aH rfl rfl jM ?_
 refine s1 (al jM) ?_
 refine sa ?_
 refine .nil (hK _ _ ?_)
 cases h
 exact pe0 h0 []
 rintro ex tm' hp' ⟨rfl,hw⟩
 refine AW.weak hw (AW.ret ?_)
 cases h
 exact rv1
 refine ra hx ?_
 refine cdh h rfl (fun jL h=>?_) (fun jL h=>?_)
 refine AW.seq ?_
 obtain⟨EL,hy,h⟩:=ab h
 refine jn ((PE cx .normal (fun EL=>[(4,dB EL)]) fun EL=>⟨[],[],0⟩) EL) ?_ ?_
 replace h:=hy
 refine rq hx fun K hK=>?_
 refine sa ?_
 refine s1 (bi aM) ?_
 iterate 2 refine sa ?_
 refine s1 (bi aM) ?_
 iterate 4 refine sa ?_
 rcases aD (decide ((i64.wrap (((aN.vX).length:Int)+((aN.vRay).length:Int)))=(0:Int))) with uj|uj
 replace h:=aP uj h
 iterate 3 refine ga uj ?_
 refine g1 uj (bi bG) ?_
 obtain⟨Ay,hx21,h⟩:=ab h
 refine g1 uj (bj rfl (mY hx21) rfl (lA (ao _) lAn) (.inl rfl)) ?_
 obtain⟨yE,IR,h⟩:=ab h
 refine g1 uj (vg [1,0] rfl (oh IR) (fA (ao _) (fA (ao _) (fA (ao _) fAn))) (vR rfl (vR rfl wVn)) wLn) ?_
 refine s1 (aw uj) ?_
 refine sa ?_
 rcases aD yE with sy|sy
 replace h:=aP sy h
 refine ga sy ?_
 refine g1 sy (bi aM) ?_
 refine ga sy ?_
 refine g1 sy (bi aM) ?_
 obtain⟨Db,hx26,h⟩:=ab h
 refine g1 sy (bj rfl (eA hx26) rfl (lA (ao _) (lA (ao _) lAn)) (.inl (g9 _ _))) ?_
 obtain⟨xu,BS,h⟩:=ab h
 refine g1 sy (bj rfl (oF BS) (by simp only[dJ,eD,cH,bP,bB,bq];exact⟨aI _ _,rfl⟩) (lA (cD _ _) (lA (ao _) lAn)) (.inl rfl)) ?_
 refine s1 (aw sy) ?_
 refine sa ?_
 refine .nil (hK _ _ ?_)
 cases h
 exact pe0 h0 []
 replace h:=aQ sy h
 iterate 6 refine aH rfl rfl sy ?_
 refine s1 (al sy) ?_
 refine sa ?_
 refine .nil (hK _ _ ?_)
 cases h
 exact pe0 h0 []
 replace h:=aQ uj h
 iterate 6 refine aH rfl rfl uj ?_
 refine s1 (al uj) ?_
 refine sa ?_
 iterate 6 refine aH rfl rfl rfl ?_
 refine s1 (al rfl) ?_
 refine sa ?_
 refine .nil (hK _ _ ?_)
 cases h
 exact pe0 h0 []
 rintro ex tm' hp' ⟨rfl,hw⟩
 refine AW.weak hw (AW.ret ?_)
 cases h
 exact rv1
 refine ra hx ?_
 refine cdh h rfl (fun Oy h=>?_) (fun Oy h=>?_)
 refine AW.seq ?_
 obtain⟨EJ,hy,h⟩:=ab h
 refine jn ((PE cx .normal (fun EJ=>[(4,dB EJ)]) fun EJ=>⟨[],[],0⟩) EJ) ?_ ?_
 replace h:=hy
 refine rqd [75,17,86] hx fun K hK=>?_
 refine sa ?_
 refine s1 (bi aM) ?_
 iterate 3 refine sa ?_
 rcases aD (decide (((aN.vY).length:Int)=(0:Int))) with rZ|rZ
 replace h:=aP rZ h
 iterate 2 refine ga rZ ?_
 refine g1 rZ (bi aM) ?_
 refine ga rZ ?_
 refine g1 rZ (bi aM) ?_
 obtain⟨Ie,hx33,h⟩:=ab h
 refine g1 rZ (vg [0] rfl (lj hx33) (fA (ao _) (fA (ao _) (fA (ao _) fAn))) (vR rfl wVn) wLn) ?_
 refine s1 (aw rZ) ?_
 refine sa ?_
 rcases aD Ie with AK|AK
 replace h:=aP AK h
 iterate 2 refine ga AK ?_
 refine g1 AK (bi aM) ?_
 iterate 2 refine ga AK ?_
 refine g1 AK (bi bG) ?_
 obtain⟨vS,hx36,h⟩:=ab h
 refine sqg tok rfl rfl AK (mY hx36) rfl (lA (ao _) lAn) (.inl rfl) ?_
 obtain⟨xw,hx38,h⟩:=ab h
 refine g1 AK (vg [0] rfl (lj hx38) (fA (ao _) (fA (ao _) (fA (ao _) fAn))) (vR rfl wVn) wLn) ?_
 refine s1 (aw AK) ?_
 refine sa ?_
 rcases aD xw with AJ|AJ
 replace h:=aP AJ h
 refine ga AJ ?_
 refine g1 AJ (bi aM) ?_
 refine ga AJ ?_
 refine g1 AJ (bi aM) ?_
 obtain⟨x40,hx41,h⟩:=ab h
 refine sqg tok rfl rfl AJ (eA hx41) rfl (lA (ao _) (lA (ao _) lAn)) (.inl (g9 _ _)) ?_
 obtain⟨x42,hx43,h⟩:=ab h
 refine sqg tok rfl rfl AJ (oF hx43) (by simp only[dJ,eD,cH,bP,bB,bq];exact⟨aI _ _,rfl⟩) (lA (cD _ _) (lA (ao _) lAn)) (.inl rfl) ?_
 refine s1 (aw AJ) ?_
 refine sa ?_
 refine .nil (hK _ _ ?_)
 cases h
 exact pe0 h0 []
 replace h:=aQ AJ h
 iterate 6 refine aH rfl rfl AJ ?_
 refine s1 (al AJ) ?_
 refine sa ?_
 refine .nil (hK _ _ ?_)
 cases h
 exact pe0 h0 []
 replace h:=aQ AK h
 iterate 8 refine aH rfl rfl AK ?_
 refine s1 (al AK) ?_
 refine sa ?_
 iterate 6 refine aH rfl rfl rfl ?_
 refine s1 (al rfl) ?_
 refine sa ?_
 refine .nil (hK _ _ ?_)
 cases h
 exact pe0 h0 []
 replace h:=aQ rZ h
 iterate 6 refine aH rfl rfl rZ ?_
 refine s1 (al rZ) ?_
 refine sa ?_
 iterate 8 refine aH rfl rfl rfl ?_
 refine s1 (al rfl) ?_
 refine sa ?_
 iterate 6 refine aH rfl rfl rfl ?_
 refine s1 (al rfl) ?_
 refine sa ?_
 refine .nil (hK _ _ ?_)
 cases h
 exact pe0 h0 []
 rintro ex tm' hp' ⟨rfl,hw⟩
 refine AW.weak hw (AW.ret ?_)
 cases h
 exact rv1
 refine AW.skip (ra hx ?_)
 refine AW.ret ?_
 cases h
 exact rv1
def fG(oa:bY)(aN:bW):Option Int:=bnd (gT oa) fun x1=>cnd (!x1) (some (1:Int)) (bnd (jm oa aN) fun x4=>cnd (!x4) (some (250:Int)) (some (0:Int)))
theorem mZ {oa:bY}{aN:bW}{r:Int}(h:fG oa aN=some r):ax Tryz.prog 19 [dG ci oa,dG dU aN] (dI .i64 r):=by
 refine bE (rs:=[.tmp 4]) (fun cx hx h0=>?_) Tryz.func19
 unfold fG at h
 refine rs hx fun K hK=>?_
 refine s1 (d:=.pt 0 0) gD ?_
 refine s1 (d:=.pt 1 0) gD ?_
 refine sa ?_
 refine .nil (hK _ _ (AW.seq (AW.block (rs hx fun K hK=>?_))))
 refine s1 (d:=dG ci oa) (iH mE) ?_
 refine scb h pB fun x1 h=>?_
 iterate 2 refine sa ?_
 refine .nil (hK _ _ (cdh h rfl (fun bb h=>?_) (fun bb h=>?_)))
 refine ra hx ?_
 refine AW.ret ?_
 cases h
 exact rv1
 refine rs hx fun K hK=>?_
 refine s1 (d:=dG ci oa) (iH mE) ?_
 refine s1 (d:=dG dU aN) (iH lD) ?_
 refine scb h xA fun x4 h=>?_
 iterate 2 refine sa ?_
 refine .nil (hK _ _ (cdh h rfl (fun fe h=>?_) (fun fe h=>?_)))
 refine ra hx ?_
 refine AW.ret ?_
 cases h
 exact rv1
 refine AW.skip (ra hx ?_)
 refine AW.ret ?_
 cases h
 exact rv1
def nW(nK:Int):Option Bool:=some (decide (nK=(0:Int)))
theorem xB {nK:Int}{r:Bool}(h:nW nK=some r):ax Tryz.prog 83 [dI .i64 nK] (dB r):=by
 refine bE (rs:=[.tmp 2]) (fun cx hx h0=>?_) Tryz.func83
 unfold nW at h
 iterate 2 refine ra hx ?_
 refine AW.ret ?_
 cases h
 exact rv1
def bK(aN:fE)(aY:List aq)(b8:List aq):Int→Option (Int⊕(Bool⊕Unit)):=fun aJ=>cnd (decide (aJ<((b8).length:Int))) (gd (0≤aJ∧aJ<((b8).length:Int)) (bnd (iZ aN aJ) fun x4=>bnd (cv x4 aY) fun x6=>bnd (S:=Bool) (bnd (bn x6) fun x8=>cnd (!x8) (some (true)) (bnd (js x6 ((b8)[(aJ).toNat]!)) fun ro=>bnd (nW ro) fun mX=>some (!mX))) fun mF=>cnd mF (some (.inr (.inl false))) (some (.inl (i64.wrap (aJ+(1:Int))))))) (some (.inr (.inr ())))
def bu(aN:fE)(aY:List aq)(b8:List aq):Option Bool:=bnd (bS (bK aN aY b8) (0:Int)) fun y17=>match y17 with| .inl r=>some r| .inr ()=>some true
set_option maxHeartbeats 4000000 in
theorem iO {aN:fE}{aY:List aq}{b8:List aq}{r:Bool}(h:bu aN aY b8=some r):ax Tryz.prog 81 [.e (.lit (.func (.func 82) #[] #[])),dG f6 aN,dL ai aY,dL ai b8,.e (.lit (.func (.func 83) #[] #[]))] (dB r):=by
 refine bE (rs:=[.tmp 10]) (fun cx hx h0=>?_) Tryz.func81
 unfold bu at h
 refine rs hx fun K hK=>?_
 refine s1 (d:=.pt 0 0) gD ?_
 refine sa ?_
 refine .nil (hK _ _ (AW.seq (ra hx ?_)))
 refine AW.block ?_
 obtain⟨y,hy,h⟩:=ab h
 refine lp (S:=Int) (X:=Bool⊕Unit) (fun aJ=>[(0,.e (.lit (.func (.func 82) #[] #[]))),(2,dL ai aY),(4,.e (.lit (.func (.func 83) #[] #[]))),(6,.pt 0 0),(14,dL ai b8),(15,dI .i64 ((b8).length:Int)),(16,dI .i64 aJ)]) (fun aJ=>⟨[(0,[dI .i64 aN.vR,dI .i64 aN.vC,dL ai aN.vV])],[],1⟩) (PS (PR [.tmp 10] fun r=>dB r) (PE cx (.exit 0) (fun ()=>[]) fun ()=>⟨[],[],0⟩)) hy ?_ ?_ ?_
 exact wk h0 [0] (wR rfl (wR rfl (wR rfl (wR rfl (wR rfl (wR rfl (wR rfl wTn))))))) (vR rfl wVn) wLn
 clear hy h
 rintro aJ y h
 dsimp only[bK] at h
 refine ra hx ?_
 refine AW.seq (cdh h rfl (fun c5 h=>?_) (fun c5 h=>?_))
 refine AW.skip (AW.seq (AW.block (rs hx fun K hK=>?_)))
 refine sa ?_
 obtain⟨ml,h⟩:=aC h
 have p8:(aJ).toNat<(b8).length:=by omega
 refine s1 (g7 ml aM ay) ?_
 refine s1 (d:=dG ai ((b8)[(aJ).toNat]!)) (mi (c:=ai) (l:=b8) (n:=(aJ).toNat) (o:=0) ay p8 (f8 _ _ rfl)) ?_
 refine s1 (bm (F:=ai.f cY) ay) ?_
 refine sa ?_
 refine s0 (aE (b':=(b8)[(aJ).toNat]!) (am.id _ _) ay) ?_
 refine .nil (hK _ _ (rs hx fun K hK=>?_))
 refine sa ?_
 refine s1 (d:=dG f6 aN) (iH lE) ?_
 refine sa ?_
 refine scb h tT fun x4 h=>?_
 refine sa ?_
 refine scb h eA fun x6 h=>?_
 refine s1 (bm (F:=ai.f cY) ay) ?_
 refine s0 (aE (b':=x6) (am.id _ _) ay) ?_
 refine .nil (hK _ _ (AW.seq ?_))
 obtain⟨mF,hy,h⟩:=ab h
 refine jn ((PE cx .normal (fun mF=>[(0,.e (.lit (.func (.func 82) #[] #[]))),(2,dL ai aY),(4,.e (.lit (.func (.func 83) #[] #[]))),(6,.pt 0 0),(14,dL ai b8),(15,dI .i64 ((b8).length:Int)),(16,dI .i64 aJ),(37,dB mF)]) fun mF=>⟨[(0,[dI .i64 aN.vR,dI .i64 aN.vC,dL ai aN.vV])],[],1⟩) mF) ?_ ?_
 replace h:=hy
 refine rq hx fun K hK=>?_
 refine s1 (d:=dG ai x6) (au (am.id _ _) ay) ?_
 refine scb h cC fun x8 h=>?_
 iterate 2 refine sa ?_
 rcases aD (!x8) with dM|dM
 replace h:=aP dM h
 iterate 6 refine aH rfl rfl dM ?_
 refine s1 (aw dM) ?_
 refine .nil (hK _ _ ?_)
 cases h
 exact pe0 h0 [0]
 replace h:=aQ dM h
 refine ga dM ?_
 refine g1 (d:=dG ai x6) dM (au (am.id _ _) ay) ?_
 refine g1 (d:=dG ai ((b8)[(aJ).toNat]!)) dM (au (am.id _ _) ay) ?_
 obtain⟨ro,Fx,h⟩:=ab h
 refine g1 dM (bj rfl (ru Fx) (by simp only[dJ,eD,cH,bP,bB,bq];exact⟨aI _ _,aI _ _⟩) (lA (cD _ _) (lA (cD _ _) lAn)) (.inl rfl)) ?_
 obtain⟨mX,uQ,h⟩:=ab h
 refine g1 dM (bj rfl (xB uQ) rfl (lA (ao _) lAn) (.inl rfl)) ?_
 refine ga dM ?_
 refine s1 (al dM) ?_
 refine .nil (hK _ _ ?_)
 cases h
 exact pe0 h0 [0]
 rintro ex tm' hp' ⟨rfl,hw⟩
 refine AW.weak hw (cdh h rfl (fun nS h=>?_) (fun nS h=>?_))
 refine ra hx ?_
 refine AW.ret ?_
 cases h
 refine PS.r ⟨by nofun,PS.l (PR.i ?_)⟩
 exact rv1
 refine AW.skip (rb hx ?_)
 cases h
 exact PS.l (pe0 h0 [0])
 refine AW.exit ?_
 try dsimp only
 try simp only[aU,reduceIte,Nat.reduceEqDiff,reduceCtorEq]
 cases h
 exact PS.r ⟨by nofun,PS.r (PE.i (wk h0 [] wTn wVn wLn))⟩
 rcases y with r|⟨⟩
 rintro ex tm' hp' ⟨rfl,hw⟩
 cases h
 exact hw
 rintro ex tm' hp' ⟨rfl,hw⟩
 try dsimp only
 try simp only[aU,reduceIte,Nat.reduceEqDiff,reduceCtorEq]
 refine AW.weak hw (ra hx ?_)
 refine AW.ret ?_
 cases h
 exact rv1
def gt(aN:fE)(aV:List aq)(aY:bW):Option Int:=bnd (fV aN aV) fun x1=>cnd (!x1) (some (1:Int)) (bnd (S:=Bool) (cnd (decide (aY.vKind=(1:Int))) (cnd (decide ((i64.wrap (((aY.vY).length:Int)+((aY.vRay).length:Int)))=(0:Int))) (bnd (eu aY.vX aN.vC) fun x6=>cnd x6 (bnd (bu aN aY.vX aV) fun x9=>some (x9)) (some (false))) (some (false))) (cnd (decide (aY.vKind=(2:Int))) (cnd (decide ((i64.wrap (((aY.vX).length:Int)+((aY.vRay).length:Int)))=(0:Int))) (cnd (decide (((aY.vY).length:Int)=aN.vR)) (bnd (dp aY.vY) fun mD=>cnd mD (bnd (fF aN.vC) fun nL=>bnd (a8 aN aY.vY nL) fun rf=>cnd rf (bnd (cv aY.vY aV) fun yE=>bnd (fU yE (-1:Int)) fun Ax=>some (Ax)) (some (false))) (some (false))) (some (false))) (some (false))) (some (false)))) fun d9=>cnd (!d9) (some (250:Int)) (some (0:Int)))
set_option maxHeartbeats 4000000 in
theorem uq {aN:fE}{aV:List aq}{aY:bW}{r:Int}(h:gt aN aV aY=some r):ax Tryz.prog 23 [dG f6 aN,dL ai aV,dG dU aY] (dI .i64 r):=by
 refine bE (rs:=[.tmp 6]) (fun cx hx h0=>?_) Tryz.func23
 unfold gt at h
 refine rs hx fun K hK=>?_
 refine s1 (d:=.pt 0 0) gD ?_
 refine s1 (d:=.pt 1 0) gD ?_
 refine sa ?_
 refine .nil (hK _ _ (AW.seq (rs hx fun K hK=>?_)))
 refine s1 (d:=dG f6 aN) (iH lE) ?_
 refine sa ?_
 refine scb h qm fun x1 h=>?_
 refine sa ?_
 refine .nil (hK _ _ (cdh h rfl (fun bb h=>?_) (fun bb h=>?_)))
 refine ra hx ?_
 refine AW.ret ?_
 cases h
 exact rv1
 refine AW.skip (ra hx ?_)
 refine AW.seq ?_
 obtain⟨d9,hy,h⟩:=ab h
 refine jn ((PE cx .normal (fun d9=>[(7,dB d9)]) fun d9=>⟨[],[],0⟩) d9) ?_ ?_
 replace h:=hy
 refine rs hx fun K hK=>?_
 refine sa ?_
 refine s1 (bi bG) ?_
 refine .nil (hK _ _ (AW.block (ra hx ?_)))
 refine cdh h rfl (fun gH h=>?_) (fun gH h=>?_)
 refine rq hx fun K hK=>?_
 refine sa ?_
 refine s1 (bi aM) ?_
 iterate 2 refine sa ?_
 refine s1 (bi aM) ?_
 iterate 4 refine sa ?_
 rcases aD (decide ((i64.wrap (((aY.vY).length:Int)+((aY.vRay).length:Int)))=(0:Int))) with eH|eH
 replace h:=aP eH h
 refine ga eH ?_
 refine g1 eH (bi aM) ?_
 refine ga eH ?_
 refine g1 eH (bi bG) ?_
 obtain⟨x6,pZ,h⟩:=ab h
 refine g1 eH (bj rfl (lQ pZ) rfl (lA (ao _) (lA (ao _) lAn)) (.inl rfl)) ?_
 refine s1 (aw eH) ?_
 refine sa ?_
 rcases aD x6 with iS|iS
 replace h:=aP iS h
 refine g1 (d:=dG f6 aN) iS (iH lE) ?_
 refine ga iS ?_
 refine g1 iS (bi aM) ?_
 refine ga iS ?_
 obtain⟨x9,rW,h⟩:=ab h
 refine g1 iS (bj rfl (iO rW) (by simp only[dJ,eD,cH,bP,bB,bq];exact⟨rfl,aI _ _,rfl,rfl,rfl⟩) (lA (ao _) (lA (ao _) (lA (ao _) (lA (ao _) (lA (ao _) lAn))))) (.inl rfl)) ?_
 refine s1 (aw iS) ?_
 refine sa ?_
 refine .nil (hK _ _ ?_)
 cases h
 exact pe0 h0 []
 replace h:=aQ iS h
 iterate 5 refine aH rfl rfl iS ?_
 refine s1 (al iS) ?_
 refine sa ?_
 refine .nil (hK _ _ ?_)
 cases h
 exact pe0 h0 []
 replace h:=aQ eH h
 iterate 5 refine aH rfl rfl eH ?_
 refine s1 (al eH) ?_
 refine sa ?_
 iterate 5 refine aH rfl rfl rfl ?_
 refine s1 (al rfl) ?_
 refine sa ?_
 refine .nil (hK _ _ ?_)
 cases h
 exact pe0 h0 []
 refine ra hx ?_
 refine cdh h rfl (fun na h=>?_) (fun na h=>?_)
 refine rqd [62,75,81,17,86] hx fun K hK=>?_
 refine sa ?_
 refine s1 (bi aM) ?_
 iterate 2 refine sa ?_
 refine s1 (bi aM) ?_
 iterate 4 refine sa ?_
 rcases aD (decide ((i64.wrap (((aY.vX).length:Int)+((aY.vRay).length:Int)))=(0:Int))) with iK|iK
 replace h:=aP iK h
 refine ga iK ?_
 refine g1 iK (bi aM) ?_
 iterate 2 refine ga iK ?_
 refine g1 iK (bi bG) ?_
 refine ga iK ?_
 refine s1 (aw iK) ?_
 refine sa ?_
 rcases aD (decide (((aY.vY).length:Int)=aN.vR)) with qB|qB
 replace h:=aP qB h
 refine ga qB ?_
 refine g1 qB (bi aM) ?_
 obtain⟨mD,uP,h⟩:=ab h
 refine sqg tok rfl rfl qB (fR uP) rfl (lA (ao _) lAn) (.inl rfl) ?_
 refine s1 (aw qB) ?_
 refine sa ?_
 rcases aD mD with nS|nS
 replace h:=aP nS h
 refine g1 (d:=dG f6 aN) nS (iH lE) ?_
 refine ga nS ?_
 refine g1 nS (bi aM) ?_
 refine ga nS ?_
 refine g1 nS (bi bG) ?_
 obtain⟨nL,uf,h⟩:=ab h
 refine sqg tok rfl rfl nS (mY uf) rfl (lA (ao _) lAn) (.inl rfl) ?_
 obtain⟨rf,v4,h⟩:=ab h
 refine sqg tok rfl rfl nS (eh v4) (by simp only[dJ,eD,cH,bP,bB,bq];exact⟨rfl,aI _ _,rfl,rfl,rfl⟩) (lA (ao _) (lA (ao _) (lA (ao _) (lA (ao _) (lA (ao _) lAn))))) (.inl rfl) ?_
 refine s1 (aw nS) ?_
 refine sa ?_
 rcases aD rf with uS|uS
 replace h:=aP uS h
 refine ga uS ?_
 refine g1 uS (bi aM) ?_
 refine ga uS ?_
 obtain⟨yE,IR,h⟩:=ab h
 refine sqg tok rfl rfl uS (eA IR) rfl (lA (ao _) (lA (ao _) lAn)) (.inl (g9 _ _)) ?_
 obtain⟨Ax,NH,h⟩:=ab h
 refine sqg tok rfl rfl uS (oF NH) (by simp only[dJ,eD,cH,bP,bB,bq];exact⟨aI _ _,rfl⟩) (lA (cD _ _) (lA (ao _) lAn)) (.inl rfl) ?_
 refine s1 (aw uS) ?_
 refine sa ?_
 refine .nil (hK _ _ ?_)
 cases h
 exact pe0 h0 []
 replace h:=aQ uS h
 iterate 5 refine aH rfl rfl uS ?_
 refine s1 (al uS) ?_
 refine sa ?_
 refine .nil (hK _ _ ?_)
 cases h
 exact pe0 h0 []
 replace h:=aQ nS h
 iterate 7 refine aH rfl rfl nS ?_
 refine s1 (al nS) ?_
 refine sa ?_
 iterate 5 refine aH rfl rfl rfl ?_
 refine s1 (al rfl) ?_
 refine sa ?_
 refine .nil (hK _ _ ?_)
 cases h
 exact pe0 h0 []
 replace h:=aQ qB h
 iterate 3 refine aH rfl rfl qB ?_
 refine s1 (al qB) ?_
 refine sa ?_
 iterate 7 refine aH rfl rfl rfl ?_
 refine s1 (al rfl) ?_
 refine sa ?_
 iterate 5 refine aH rfl rfl rfl ?_
 refine s1 (al rfl) ?_
 refine sa ?_
 refine .nil (hK _ _ ?_)
 cases h
 exact pe0 h0 []
 replace h:=aQ iK h
 iterate 6 refine aH rfl rfl iK ?_
 refine s1 (al iK) ?_
 refine sa ?_
 iterate 3 refine aH rfl rfl rfl ?_
 refine s1 (al rfl) ?_
 refine sa ?_
 iterate 7 refine aH rfl rfl rfl ?_
 refine s1 (al rfl) ?_
 refine sa ?_
 iterate 5 refine aH rfl rfl rfl ?_
 refine s1 (al rfl) ?_
 refine sa ?_
 refine .nil (hK _ _ ?_)
 cases h
 exact pe0 h0 []
 refine AW.skip ?_
 cases h
 exact pe0 h0 []
 rintro ex tm' hp' ⟨rfl,hw⟩
 refine AW.weak hw (AW.seq (ra hx ?_))
 refine cdh h rfl (fun v8 h=>?_) (fun v8 h=>?_)
 refine ra hx ?_
 refine AW.ret ?_
 cases h
 exact rv1
 refine AW.skip (ra hx ?_)
 refine AW.ret ?_
 cases h
 exact rv1
theorem LK(l:List Row)(v:Int):(ew l v=-1∧∀j,j<l.length→l[j]!.b≠v)∨∃i,i<l.length∧ew l v=(i:Int)∧l[i]!.b=v:=by
 unfold ew
 cases h:l.findIdx? fun r=>decide (r.b=v) with
 |none=>
  refine .inl ⟨rfl,fun j hj=>?_⟩
  have:=zK.1 h l[j] (pM hj)
  rw[cz l j hj]
  simpa using this
 |some i=>
  obtain⟨h1,h2,_⟩:=pK.1 h
  exact .inr ⟨i,h1,rfl,by rw[cz l i h1];exact cj h2⟩
theorem Fm(l:List Row):∀n,mL l n<n∨n=0∧mL l n=0
 |0=>.inr ⟨rfl,rfl⟩
 |n+1=>by
  unfold mL
  rcases Fm l n with h|h
  ·split <;> omega
  ·split <;> omega
theorem wd.fine {d:Dic}{w:Nat}{f:Nu}(hI:Inv d w)(hg:aK f=true)(k:Nu)(c:List Nu)(hl:c.length=w)(hk:iM k c=true):iM k (c.set 0 f)=true:=by
 obtain⟨h1,h2⟩:=gI.1 hk
 refine gI.2 ⟨h1,fun i hi=>?_⟩
 rw[eL] at hi
 rw[m4 hi]
 split
 ·exact hg
 ·exact h2 i hi
theorem J1 {α β:Type}[Inhabited α][Inhabited β]{l:List α}{f:α→β}{i:Nat}(hi:i<l.length):(l.map f)[i]! =f l[i]! :=by
 apply gf;rw[ek,uV hi];rfl
theorem Inv.col {d:Dic}{w:Nat}(hI:Inv d w){x:Nu}(hx:aK x=true)(h0:(∀j,j<d.rows.length→d.rows[j]!.b≠0)∨x=nOf 0){k:Nu}{c:List Nu}(hl:c.length=w)(hg:iM k c=true)(hz:∀j,j<d.rows.length→c[d.rows[j]!.b.toNat]! =nOf 0)(p:Int):Inv ⟨d.rows.map (u1 x),k,c,d.n,p,d.most⟩ w:=by
 have jK:∀i,i<d.rows.length→(d.rows.map (u1 x))[i]! =u1 x d.rows[i]! :=fun i hi=>J1 hi
 refine⟨⟨hl,fun i hi=>?_,hg,fun i hi=>?_⟩,fun i hi=>?_,fun i j hi hj e=>?_,fun j hj=>?_,fun i j hi hj=>?_⟩
 all_goals dsimp only at*
 all_goals rw[bT] at*
 ·rw[jK i hi];show (d.rows[i]!.c.set 0 x).length=w;rw[eL];exact hI.fine.lr i hi
 ·rw[jK i hi];exact wd.fine hI hx _ _ (hI.fine.lr i hi) (hI.fine.gr i hi)
 ·rw[jK i hi];exact hI.rng i hi
 ·rw[jK i hi,jK j hj] at e;exact hI.inj i j hi hj e
 ·rw[jK j hj];exact hz j hj
 ·rw[jK i hi,jK j hj]
  have hr:=hI.rng j hj
  have hlen:=hI.fine.lr i hi
  show (d.rows[i]!.c.set 0 x)[d.rows[j]!.b.toNat]! =nOf 0
  rw[m4 (by omega)]
  split
  ·rename_i h
   rcases h0 with h0|h0
   ·exact absurd (by omega) (h0 j hj)
   ·exact h0
  ·exact hI.zr i j hi hj
section
section
variable {m nn:Nat} {A B C:List Nu} {most:Int}
theorem Cg:(fy m nn A B most).rows.length=m:=by simp[fy]
theorem kI {i:Nat}(hi:i<m):(fy m nn A B most).rows[i]! =⟨B[i]!,(List.range (1+nn+m)).map (fun t=>if 1≤t∧t≤nn then gX A[i*nn+(t - 1)]! else nOf 0),((1+nn+i:Nat):Int)⟩:=gf (dW _ hi)
theorem AV {x:Nu}{n i:Nat}(hi:i<n):(List.replicate n x)[i]! =x:=gf (by simp[List.getElem?_replicate,hi])
theorem LI(hA:A.length=m*nn)(hB:B.length=m)(hgA:∀i,i<A.length→aK A[i]! =true)(hgB:∀i,i<B.length→aK B[i]! =true):Inv (fy m nn A B most) (1+nn+m):=by
 have hidx:∀i t,i<m→t<nn→i*nn+t<A.length:=fun i t hi ht=>by
  rw[hA]
  calc i*nn+t<i*nn+nn:=by omega
   _=(i+1)*nn:=by rw[cp];omega
   _≤m*nn:=dx _ hi
 refine⟨⟨by simp[fy],fun i hi=>?_,gI.2 ⟨of0.1,fun i hi=>?_⟩,fun i hi=>?_⟩,fun i hi=>?_,fun i j hi hj e=>?_,fun j hj=>?_,fun i j hi hj=>?_⟩
 all_goals try rw[Cg] at*
 ·rw[kI hi];simp
 ·have wr:i<1+nn+m:=by simpa[fy] using hi
  have:(fy m nn A B most).gc[i]! =nOf 0:=AV wr
  rw[this];exact of0.1
 ·rw[kI hi]
  refine gI.2 ⟨hgB i (by omega),fun t ht=>?_⟩
  dsimp only at ht ⊢
  rw[bT,List.length_range] at ht
  rw[gf (dW _ ht)]
  split
  ·rename_i h
   rw[Ef];exact hgA _ (hidx i (t - 1) hi (by omega))
  ·exact of0.1
 ·rw[kI hi];dsimp only;omega
 ·rw[kI hi,kI hj] at e;dsimp only at e;omega
 ·rw[kI hj]
  exact AV (by dsimp only;omega)
 ·rw[kI hi,kI hj]
  dsimp only
  rw[gf (dW _ (by omega)),if_neg (by omega)]
theorem LJ(i:Nat)(hi:i<m):(fy m nn A B most).rows[i]!.b=((1+nn+i:Nat):Int):=by rw[kI hi]
end
end
section
section
variable {x:Cx} {tm tm':List (Nat×D)} {hp:Hp}
theorem Wk.perm {vars':List (Nat×List D)}{pN:List (Nat×Nat×Nat×TypeId)}{m:Nat}(σ:Nat→Nat)(h0:x.hp0.next≤m)(bX:∀i,i<x.hp0.next→σ i=i)(w9:∀i j,i<m→j<m→σ i=σ j→i=j)
  (ht:∀p∈tm',tm.lookup p.1=some (p.2.ren σ)∧p.2.idsB m=true∧p.2.noOs=true)
  (hv:∀k ds,vars'.lookup k=some ds→k<m∧hp.vars.lookup (σ k)=some (ds.map (D.renC σ))∧ds.all (D.idsC m)=true∧ds.all D.noO=true)
  (hl:∀k y,pN.lookup k=some y→k<m∧hp.live.lookup (σ k)=some y):Wk x tm hp tm' ⟨vars',pN,m⟩:=by
 intro a w ⟨g,hr,np,hsz,Dn,hB,hF,hM⟩
 have dZ:∀id y,(⟨vars',pN,m⟩:Hp).live.lookup id=some y→hp.live.lookup (σ id)=some y:=fun id y h=>(hl _ _ h).2
 refine⟨⟨fun i=>g.μ (σ i),fun i=>g.τ (σ i),g.F⟩,⟨fun k ds hk=>?_,fun k k' ds ds' hk uh he=>?_,fun id n e hi=>?_,fun id zt t t' b hi wr hb ph=>?_,hr.base,hr.fits⟩,fun t d h=>?_,hsz,Dn,hB,hF,
  ⟨hM.size,hM.cell,hM.forb,h0,fun k hk=>by show g.μ _=_;rw[bX k hk];exact hM.μ k hk,fun id hid n e Lv=>?_,fun b hb hf=>⟨(hM.fr b hb hf).1,(hM.fr b hb hf).2.1,fun k ds hk=>(hM.fr b hb hf).2.2.1 _ _ (hv _ _ hk).2.1,fun id t hi=>(hM.fr b hb hf).2.2.2 _ t (dZ id _ hi)⟩,hM.szs⟩⟩
 ·obtain⟨h1,h2,h3,h4⟩:=hv _ _ hk
  obtain⟨_,h5,h6,cs,ty,h7,h8,h9⟩:=hr.var _ _ h2
  refine⟨h1,h5,h6,cs,ty,h7,by simpa using h8,fun j u hu=>⟨fun h=>(h9 j u hu).1 (by simpa using h),fun d hd=>?_⟩⟩
  exact jJ ((h9 j u hu).2 (d.renC _) (by rw[ek,hd];rfl)) (cX.1 h3 d (eo hd)) (cX.1 h4 d (eo hd)) rfl (fun _=>rfl) (fun _=>rfl) rfl dZ
 ·obtain⟨h1,h2,_⟩:=hv _ _ hk
  obtain⟨qa,pP,_⟩:=hv _ _ uh
  exact w9 _ _ h1 qa (hr.inj _ _ _ _ h2 pP he)
 ·obtain⟨h1,h2⟩:=hl _ _ hi
  obtain⟨_,us,h3,h4,h5⟩:=hr.tok _ n e h2
  exact⟨h1,us,h3,h4,fun b hb=>⟨(h5 b hb).1,fun k ds hk=>(h5 b hb).2 _ _ (hv _ _ hk).2.1⟩⟩
 ·obtain⟨h1,h2⟩:=hl _ _ hi
  obtain⟨qa,pP⟩:=hl _ _ wr
  exact w9 _ _ h1 qa (hr.tinj _ _ _ _ b h2 pP hb ph)
 ·obtain⟨h1,h2,h3⟩:=ht _ (bR h)
  exact AX (np t _ h1) h2 h3 rfl (fun _=>rfl) (fun _=>rfl) rfl dZ
 ·obtain⟨m0,h1,h2,h3⟩:=hM.live id hid n e (by rw[←bX id hid];exact dZ id _ Lv)
  exact⟨m0,h1,h2,fun h=>by show g.τ _=_;rw[bX id hid];exact h3 h⟩
theorem MW {σ:Nat→Nat}{n:Nat}(hσ:∀i,i<n→σ i=i){d:D}(hd:d.idsC n=true)(hn:d.noO=true):d.renC σ=d:=by
 cases d with
 |own id z n xs=>simp only[D.idsC,rl] at hd;simp only[D.renC,hσ id hd]
 |pt k o=>simp only[D.idsC,rl] at hd;simp only[D.renC,hσ k hd]
 |ow k o z n=>simp only[D.idsC,rl] at hd;simp only[D.renC,hσ k hd]
 |gw k z n=>simp only[D.idsC,rl] at hd;simp only[D.renC,hσ k hd]
 |fn f ks=>
  simp only[D.idsC,cX,rl] at hd
  simp only[D.renC]
  congr 1
  exact (rN fun k hk=>hσ k (hd k hk)).trans (List.map_id _)
 |opt b d=>cases hn
 |_=>rfl
theorem map_low {σ:Nat→Nat}{n:Nat}(hσ:∀i,i<n→σ i=i){ds:List D}(hd:ds.all (D.idsC n)=true)(hn:ds.all D.noO=true):ds.map (D.renC σ)=ds:=
 (rN fun d h=>MW hσ (cX.1 hd d h) (cX.1 hn d h)).trans (List.map_id _)
end
def Hs(m nn:Nat)(A B:List Nu)(i:Nat):Row:=⟨B[i]!,(List.range (1+nn+m)).map (fun t=>if 1≤t∧t≤nn then gX A[i*nn+(t - 1)]! else nOf 0),((1+nn+i:Nat):Int)⟩
def mz(m nn:Nat)(A B:List Nu)(most:Int)(i:Nat):Dic:=⟨(List.range i).map (Hs m nn A B),nOf 0,List.replicate (1+nn+m) (nOf 0),nn,0,most⟩
theorem HB(m nn:Nat)(A B:List Nu)(most:Int):mz m nn A B most m=fy m nn A B most:=rfl
theorem Cn {m nn:Nat}{A B:List Nu}{most:Int}(h0:0≤most)(h1:most≤9223372036854775807){i:Nat}(hi:i≤m):da (mz m nn A B most i) (1+nn+m) i:=by
 have hg:∀j,j<i→(mz m nn A B most i).rows[j]! =Hs m nn A B j:=fun j hj=>gf (dW _ hj)
 refine⟨by simp[mz],by simp[mz],fun j hj=>?_,fun j hj=>?_,Int.le_refl _,by show (0:Int)≤_;omega,h0,h1⟩
 ·rw[hg j hj];simp[Hs]
 ·rw[hg j hj];show 0≤((1+nn+j:Nat):Int)∧((1+nn+j:Nat):Int)<((1+nn+m:Nat):Int);omega
def AN(m nn:Nat)(A:List Nu)(i k:Nat):List Nu:=(List.range (1+nn+m)).map fun t=>if 1≤t∧t≤k then gX A[i*nn+(t - 1)]! else nOf 0
theorem LP(m nn:Nat)(A:List Nu)(i:Nat):AN m nn A i 0=List.replicate (1+nn+m) (nOf 0):=by
 unfold AN
 exact (sv (by simp) fun t ht=>by rw[if_neg (by omega)];exact AV ht).symm
theorem LQ {m nn:Nat}{A:List Nu}{i k:Nat}(hk:k<nn):(AN m nn A i k).set (1+k) (gX A[i*nn+k]!)=AN m nn A i (k+1):=by
 unfold AN
 refine sv (by simp) fun t ht=>?_
 rw[m4 (by simpa using ht),gf (dW _ ht)]
 by_cases h:1+k=t
 ·rw[if_pos h,if_pos (by omega),show t - 1=k by omega]
 ·rw[if_neg h]
  by_cases h2:1≤t∧t≤k
  ·rw[if_pos h2,if_pos (by omega)]
  ·rw[if_neg h2,if_neg (by omega)]
theorem O8(m nn:Nat)(A:List Nu)(i k:Nat):(AN m nn A i k).length=1+nn+m:=by simp[AN]
def rV(i:Nat):Nat:=if i=0 then 0 else 6+8*i
def cV(j:Nat):Nat:=11+8*j
theorem ww(i:Nat):Dif i 2 (rV i) 6 cV:=by
 unfold rV cV
 refine⟨?_,by omega,?_,fun j hj=>⟨by omega,?_,by omega⟩,fun j k _ _ h=>by omega⟩
 ·split <;> omega
 ·split <;> omega
 ·split <;> omega
def prC(R Cc:Int)(A B C:List Nu):List D:=[dI .i64 R,dI .i64 Cc,.e (slE az A),.e (slE az B),.e (slE az C)]
theorem rR {R Cc:Int}{A B C:List Nu}{t:Nat}{y:D}(h:(prC R Cc A B C)[t]? =some y):Pt (prC R Cc A B C) t [y] (fun ys=>(prC R Cc A B C).take t++ys++(prC R Cc A B C).drop (t+1)):=Pt.cell h
theorem zb(l:List E):(dC l).all D.noO=true:=by
 unfold dC
 rw[cX]
 intro d hd
 obtain⟨e,_,rfl⟩:=sH.1 hd
 rfl
theorem za(a:Nu)(k w:Nat):(bp a k w).all D.noO=true:=by
 unfold bp
 rw[lN,zb]
 rfl
theorem Ee {C:Nat→Nat}{w:Nat}:∀(i:Nat) (l:List Row),(f4 C w i l).all D.noO=true
 |_,[]=>rfl
 |i,r::l=>by
  unfold f4 iP
  rw[lN,lN,za,Ee (i+1) l]
  rfl
theorem ov_noO {kd R G w:Nat}{C:Nat→Nat}{d:Dic}{vs:List (Nat×List D)}(hb:∀p∈vs,p.2.all D.noO=true):∀k ds,(ov kd R G C w d vs).lookup k=some ds→ds.all D.noO=true:=by
 have hc:∀(i:Nat) (l:List Row),∀p∈cOv C i l,p.2.all D.noO=true:=by
  intro i l
  induction l generalizing i with
  |nil=>intro p hp;simp[cOv] at hp
  |cons r l ih=>
   intro p hp
   rcases kj.1 hp with rfl|hp
   ·exact zb _
   ·exact ih (i+1) p hp
 intro k ds h
 have hm:=bR h
 unfold ov at hm
 rcases kj.1 hm with e|hm
 ·injection e with e1 e2
  rw[e2]
  unfold mM
  rw[lN,lN,za]
  cases d.rows <;> rfl
 rcases kj.1 hm with e|hm
 ·injection e with e1 e2
  rw[e2];exact zb _
 rcases t8.1 hm with hm|hm
 ·unfold rOv at hm
  split at hm
  ·simp at hm
  ·rw[pI] at hm
   injection hm with e1 e2
   rw[e2];exact Ee 0 _
 ·rcases t8.1 hm with hm|hm
  ·exact hc 0 _ _ hm
  ·exact hb _ hm
theorem K4 {σ:Nat→Nat}(a:Nu)(k w:Nat):(bp a k w).map (D.renC σ)=bp a (σ k) w:=by
 unfold bp dC
 rw[jz,px]
 rfl
theorem Iw {σ:Nat→Nat}(l:List E):(dC l).map (D.renC σ)=dC l:=by
 unfold dC
 rw[px]
 rfl
def TmR(σ:Nat→Nat)(m:Nat)(tm tm':List (Nat×D)):Prop:=∀p∈tm',tm.lookup p.1=some (p.2.ren σ)∧p.2.idsB m=true∧p.2.noOs=true
theorem TmR.nil {σ:Nat→Nat}{m:Nat}{tm:List (Nat×D)}:TmR σ m tm []:=fun p hp=>absurd hp (pJ)
theorem TmR.cons {σ:Nat→Nat}{m t:Nat}{d:D}{tm tm':List (Nat×D)}(h2:TmR σ m tm tm')(h:tm.lookup t=some (d.ren σ))(hi:d.idsB m=true)(hn:d.noOs=true:=by exact rfl):TmR σ m tm ((t,d)::tm'):=fun p hp=>by
 rcases kj.1 hp with rfl|hp
 ·exact⟨h,hi,hn⟩
 ·exact h2 p hp
theorem PO {dr:Bool}{ty:TypeId}{ev:Operand→D}{hp:Hp}{x y:Operand}{a:Nu}{k n:Nat}{b:Int}(hx:ev x=.ag (bp a k n):=by exact rfl)(hy:ev y=dI .i64 b:=by exact rfl):AVC Tryz.prog tbl dr (.build 78 #[(0,x),(1,y)]) ty ev hp (Kq (.ag (bp a k n++[dI .i64 b])) hp):=by
 have h0:([(0,x),(1,y)]:List (Nat×Operand)).map (fun p=>(p.1,ev p.2))=[(0,.ag (bp a k n)),(1,dI .i64 b)]:=by simp only[dJ,eD,hx,hy]
 rw[show (#[(0,x),(1,y)]:Array (Nat×Operand))=([(0,x),(1,y)]:List (Nat×Operand)).toArray from rfl,u2,h0,sF,sf]
 have hp:lU [(0,.ag (bp a k n)),(1,dI .i64 b)]=some [(0,bp a k n),(1,[dI .i64 b])]:=rfl
 rw[hp]
 dsimp only
 refine⟨by decide,?_⟩
 have hz:∀zs:List D,zs.length=38→f5 (nP tbl [(0,73),(37,3)]) zs [(0,bp a k n),(1,[dI .i64 b])]=some (bp a k n++[dI .i64 b]):=fun zs hzs=>by
  have p0:nP tbl [(0,73),(37,3)] 0=some (0,37):=rfl
  have p1:nP tbl [(0,73),(37,3)] 1=some (37,1):=rfl
  simp only[f5,p0,p1,cf]
  rw[if_neg (by simp[hzs])]
  rw[if_neg (by simp[cf,hzs])]
  rw[CA,mU,bJ,yk (by rw[cf];exact aB _),g6 (by rw[cf];exact aB _),Ar (by simp[cf,hzs]),rM]
 rw[hz _ (by rfl)]
 exact Kq.here _ _
theorem AW.joinE {P:Program}{x:Cx}{c c':Code}{tm:List (Nat×D)}{hp:Hp}{Q:Exit→List (Nat×D)→Hp→Prop}{α:Type}(T:α→List (Nat×D))(H:α→Hp)(I:α→Prop)(h1:AW P x c tm hp fun ex tm' hp'=>match ex with| .normal=>∃a,I a∧Wk x tm' hp' (T a) (H a)|ex=>Q ex tm' hp')(h2:∀a,I a→AW P x c' (T a) (H a) Q):AW P x (.seq c c') tm hp Q:=by
 refine AW.seq (AW.mono h1 fun ex tm' hp' h=>?_)
 cases ex with
 |normal=>
  obtain⟨a,ha,hw⟩:=h
  exact AW.weak hw (h2 a ha)
 |_=>exact h
theorem appRows {U:List (Nat×List D)}{lv:List (Nat×Nat×Nat×TypeId)}{N R ky w:Nat}{C:Nat→Nat}{l:List Row}{F1:List D}(hR:l≠[]→U.lookup R=some (f4 C w 0 l))(hky:U.lookup ky=some F1)(hl:F1.length=38)(hb:l.length≤1000000):
  ∃W:List (Nat×List D),W.lookup N=some (f4 C w 0 l++F1)∧(∀k ds,(l≠[]→k≠R)→k≠N→U.lookup k=some ds→W.lookup k=some ds)∧
   ∀{md:Md} {dst:Option Tmp} {ty:TypeId} {pos:String} {af:Array Edge} {gd:Option (Nat×Bool)} {ev:Operand→D} {x y:Operand},ev x=fc R l→ev y=.gw ky 38 1→mB Tryz.prog tbl md ⟨dst,.call ⟨.builtin .append,#[x,y],#[71,71]⟩,ty,pos,af,gd⟩ ev ⟨U,lv,N⟩ (.gw N 38 (l.length+1)) ⟨W,lv,N+1⟩:=by
 cases l with
 |nil=>
  refine⟨(N,F1)::U,?_,fun k ds _ h2 h=>ak h2 h,fun hx NE=>?_⟩
  ·exact aa
  ·exact appN tok (hp:=⟨U,lv,N⟩) z4 sf hky hx NE hl (by decide)
 |cons r l=>
  refine⟨(N,f4 C w 0 (r::l)++F1)::U.filter fun p=>!([R]:List Nat).contains p.1,aa,fun k ds h1 h2 h=>ak h2 (vr (by simpa using h1 (by simp)) h),fun hx NE=>?_⟩
  exact appR tok (hp:=⟨U,lv,N⟩) (k:=R) (n:=(r::l).length) (ds:=f4 C w 0 (r::l)) z4 sf (hR (by simp)) hky hx NE (yU _ _ _ _) hl (by show ((r::l).length+1)*168≤140737488355328;omega)
end
section
section
variable {d:Dic} {w at' s:Nat}
theorem Inv.pivotG(hI:Inv d w)(hat:at'<d.rows.length)(hs:s<w)(Di:∀j,j<d.rows.length→d.rows[j]!.b≠s)(h0:(eg d at' s).1=0):kQ d w at' s∧(eg d at' s).2=m8 d at' s:=by
 by_cases hp:d.most≤d.piv
 ·have:eg d at' s=(220,d):=by unfold eg;rw[if_pos hp]
  rw[this] at h0;cases h0
 obtain⟨h2,_,hok⟩:=Ec d at' s hat hp
 obtain⟨g1,g2⟩:=hok.1 h0
 refine⟨⟨hI,hat,hs,Di,⟨?_,fun i hi=>?_,g1,fun i hi=>g2 i (by rwa[jd] at hi)⟩⟩,h2⟩
 ·show (lO d.gk d.gc _ s).c.length=w
  rw[xQ];exact hI.fine.lg
 ·rw[jd] at hi
  rw[nQ hi]
  split
  ·rw[s8];exact hI.fine.lr at' hat
  ·show (lO d.rows[i]!.k d.rows[i]!.c _ s).c.length=w
   rw[xQ];exact hI.fine.lr i hi
theorem Inv.improved(w:Nat):∀(f:Nat) (d:Dic),Inv d w→(iv f d).1.2=0→Inv (iv f d).2 w∧wd d (iv f d).2 w
 |0,d,hI,_=>⟨hI,wd.refl d w⟩
 |f+1,d,hI,h=>by
  unfold iv at h ⊢
  cases hs:pG d.gc with
  |none=>exact⟨hI,wd.refl d w⟩
  |some s=>
   obtain⟨h1,h2,_⟩:=Cj hs
   rw[hI.fine.lg] at h1
   rw[hs] at h
   dsimp only at h ⊢
   cases hl:pf d.rows s default d.rows.length with
   |none=>rw[hl] at h;cases h
   |some p=>
    rw[hl] at h
    dsimp only at h ⊢
    by_cases hp:p.1<0
    ·rw[if_pos hp];exact⟨hI,wd.refl d w⟩
    ·rw[if_neg hp] at h ⊢
     rcases vt hl with h3|⟨i,hi,h3,h4,_⟩
     ·omega
     rw[h3,show ((i:Int)).toNat=i by omega] at h ⊢
     by_cases h0:(eg d i s).1=0
     ·rw[if_pos h0] at h ⊢
      obtain⟨hG,h7⟩:=hI.pivotG hi h1 (hI.enter (by omega)) h0
      rw[h7] at h ⊢
      obtain⟨a1,a2⟩:=Inv.improved w f (m8 d i s) hG.toInv h
      exact⟨a1,hG.same.trans a2⟩
     ·rw[if_neg h0] at h;exact absurd h h0
end
theorem ML {m nn:Nat}{A B C:List Nu}{most:Int}(hA:A.length=m*nn)(hB:B.length=m)(hgA:∀i,i<A.length→aK A[i]! =true)(hgB:∀i,i<B.length→aK B[i]! =true):
  B.any (fun b=>decide (dv b<0))=true→∀q,eg (jH (fy m nn A B most)) (mL (fy m nn A B most).rows (fy m nn A B most).rows.length) 0=q→q.1=0→(bh q.2).1.2=0→0≤ew (bh q.2).2.rows 0→Aa (bh q.2).2.rows[(ew (bh q.2).2.rows 0).toNat]!.c≠none:=by
 intro hn
 have Dj:0<m:=by
  rcases qO m with e|e
  ·rw[e] at hB
   rw[List.length_eq_zero_iff.1 hB] at hn
   cases hn
  ·exact e
 have hI:=LI (most:=most) hA hB hgA hgB
 have hlen:(fy m nn A B most).rows.length=m:=Cg
 generalize hd:fy m nn A B most=d at hI hlen ⊢
 have h0:∀j,j<d.rows.length→d.rows[j]!.b≠0:=fun j hj=>by
  rw[←hd,LJ j (by omega)];omega
 have hI1:Inv (jH d) (1+nn+m):=by
  refine hI.col of1.1 (.inl h0) (by rw[eL];exact hI.fine.lg) (wd.fine hI ofm1.1 _ _ hI.fine.lg hI.fine.gg) (fun j hj=>?_) d.piv
  have:=hI.rng j hj
  have:=h0 j hj
  have:=hI.fine.lg
  rw[m4 (by omega),if_neg (by omega)]
  exact hI.zg j hj
 have bX:mL d.rows d.rows.length<(jH d).rows.length:=by
  have:=Fm d.rows d.rows.length
  show _<(d.rows.map _).length
  rw[bT];omega
 have hnb1:∀j,j<(jH d).rows.length→(jH d).rows[j]!.b≠((0:Nat):Int):=fun j hj=>by
  have FE:j<d.rows.length:=by simpa[jH] using hj
  show (d.rows.map (u1 (nOf 1)))[j]!.b≠_
  rw[J1 FE]
  exact h0 j FE
 rintro q rfl hp e hf N7
 obtain⟨hG,h2⟩:=hI1.pivotG bX (show 0<1+nn+m by omega) hnb1 hp
 rw[h2] at e hf N7
 generalize m8 (jH d) (mL d.rows d.rows.length) 0=d1 at hG e hf N7 h2
 have hS1:wd (jH d) (eg (jH d) (mL d.rows d.rows.length) 0).2 (1+nn+m)∧Inv (eg (jH d) (mL d.rows d.rows.length) 0).2 (1+nn+m):=by
  obtain⟨hG',pP⟩:=hI1.pivotG bX (show 0<1+nn+m by omega) hnb1 hp
  rw[pP]
  exact⟨hG'.same,hG'.toInv⟩
 rw[h2] at hS1
 obtain⟨a2,a4⟩:=Inv.improved (1+nn+m) _ d1 hS1.2 e
 have a2:Inv (bh d1).2 (1+nn+m):=a2
 have a4:wd d1 (bh d1).2 (1+nn+m):=a4
 rcases LK (bh d1).2.rows 0 with⟨h5,_⟩|⟨i,h5,h6,h7⟩
 ·omega
 rw[h6,show ((i:Int)).toNat=i by omega] at N7
 have hz:∀t,t<1+nn+m→(bh d1).2.rows[i]!.c[t]! =nOf 0:=fun t ht=>by
  have hl:=a2.fine.lr i h5
  have hg:=(gI.1 (a2.fine.gr i h5)).2 t (by omega)
  unfold Aa at N7
  have:=zK.1 N7 (bh d1).2.rows[i]!.c[t] (pM (by omega))
  refine good0 hg ?_
  rw[cz _ t (by omega)]
  simpa using this
 have hcon:∀y,Sol (bh d1).2 (1+nn+m) y→y 0=rv (bh d1).2.rows[i]!.k:=fun y hy=>by
  have:=hy i h5
  rw[h7] at this
  have e2:ja (1+nn+m) (bh d1).2.rows[i]!.k (bh d1).2.rows[i]!.c y=rv (bh d1).2.rows[i]!.k:=by
   unfold ja
   rw[fh (g:=fun _=>0) fun t ht=>by rw[hz t ht,of0.2];grind,qk];grind
  rw[e2] at this
  exact this
 obtain⟨y0,hy0,hv0⟩:=hI1.pick fun _=>0
 obtain⟨y1,J7,hv1⟩:=hI1.pick fun _=>1
 have hh:=hS1.1.trans a4
 have e0:=hcon y0 ((hh.sol y0).2 hy0)
 have e1:=hcon y1 ((hh.sol y1).2 J7)
 rw[hv0 0 hnb1] at e0
 rw[hv1 0 hnb1] at e1
 rw[←e0] at e1
 exact absurd e1 (by decide)
end
section
def pH(m:Nat)(a:Ans):List D:=[dI .i64 a.kind,.e (slE az a.x),if a.kind=2 then .gw (7+8*m) 36 a.y.length else .e (slE az a.y),.e (slE az a.ray)]
def DA(m:Nat)(r:Ans×Int×Int):Hp:=if r.1.kind=2 then⟨[(1,pH m r.1),(7+8*m,dC ((cW az).f r.1.y))],[],8+8*m⟩ else⟨[(1,pH m r.1)],[],2⟩
def Iq(m:Nat)(r:Ans×Int×Int):D:=.tu [.ag (pH m r.1),dI .i64 r.2.1,dI .i64 r.2.2]
theorem rtS {cx:Cx}{tm:List (Nat×D)}{vs2:List (Nat×List D)}{n2 m:Nat}{r0 r:Ans×Int×Int}(h0:cx.hp0=⟨[],[],0⟩)(hr:r0=r)(h1:vs2.lookup 1=some (pH m r.1))(hk:r.1.kind=2→vs2.lookup (7+8*m)=some (dC ((cW az).f r.1.y))∧8+8*m≤n2)(hn:2≤n2)(h4:tm.lookup 4=some (.pt 1 0):=by exact rfl)(h5:tm.lookup 5=some (dI .i64 r.2.1):=by exact rfl)(h6:tm.lookup 6=some (dI .i64 r.2.2):=by exact rfl):
  ∃tm',Wk cx tm ⟨vs2,[],n2⟩ tm' (DA m r0)∧r9 tbl [.cell 4 29,.tmp 5,.tmp 6] tm' (DA m r0) (Iq m r0):=by
 subst hr
 have key:∀(V:List (Nat×List D)) (M:Nat),cE ⟨V,[],M⟩→V.lookup 1=some (pH m r0.1)→1<M→r9 tbl [.cell 4 29,.tmp 5,.tmp 6] [(4,.pt 1 0),(5,dI .i64 r0.2.1),(6,dI .i64 r0.2.2)] ⟨V,[],M⟩ (Iq m r0):=fun V M hok hl hM=>
  resV tbI rfl hl hM rfl rfl ⟨_,rfl,_,rfl,rfl⟩
 unfold DA
 by_cases hq:r0.1.kind=2
 ·rw[if_pos hq]
  obtain⟨h7,h8⟩:=hk hq
  have B6:(pH m r0.1).all (D.idsC (8+8*m))=true:=by
   unfold pH
   rw[if_pos hq]
   simp only[cH,bP,bB,bq]
   exact⟨rfl,rfl,aF (by omega),rfl⟩
  have hok:cE ⟨[(1,pH m r0.1),(7+8*m,dC ((cW az).f r0.1.y))],[],8+8*m⟩:=by
   refine⟨fun k ds h=>?_,fun id e h=>by simp at h⟩
   rcases cu h with⟨rfl,rfl⟩|⟨_,h⟩
   ·exact⟨show 1<8+8*m by omega,B6⟩
   ·rcases cu h with⟨rfl,rfl⟩|⟨_,h⟩
    ·exact⟨show 7+8*m<8+8*m by omega,eJ _⟩
    ·simp at h
  refine⟨_,wkS (by rw[h0];exact cQ _) h8 hok (fun j ds h=>?_) (((bU.nil.cons h6).cons h5).cons h4 (aF (show 1<8+8*m by omega))),key _ _ hok aa (by omega)⟩
  rcases cu h with⟨rfl,rfl⟩|⟨_,h⟩
  ·exact h1
  ·rcases cu h with⟨rfl,rfl⟩|⟨_,h⟩
   ·exact h7
   ·simp at h
 ·rw[if_neg hq]
  have B6:(pH m r0.1).all (D.idsC 2)=true:=by
   unfold pH
   rw[if_neg hq]
   rfl
  have hok:cE ⟨[(1,pH m r0.1)],[],2⟩:=by
   refine⟨fun k ds h=>?_,fun id e h=>by simp at h⟩
   rcases cu h with⟨rfl,rfl⟩|⟨_,h⟩
   ·exact⟨show 1<2 by decide,B6⟩
   ·simp at h
  refine⟨_,wkS (by rw[h0];exact cQ _) hn hok (fun j ds h=>?_) (((bU.nil.cons h6).cons h5).cons h4 rfl),key _ _ hok aa (by decide)⟩
  rcases cu h with⟨rfl,rfl⟩|⟨_,h⟩
  ·exact h1
  ·simp at h
def ls:List E:=[.lit (.int .i64 0),.lit (.slice none 0 0),.lit (.slice none 0 0),.lit (.slice none 0 0)]
def dicZ(nn:Nat)(most:Int):List D:=[dN]++(dC zN++[dN])++[dI .i64 nn,dI .i64 0,dI .i64 most]
theorem LO(nn:Nat)(most:Int):Pt (dicZ nn most) 1 (dC zN++[dN]) (fun ys=>[dN]++ys++[dI .i64 nn,dI .i64 0,dI .i64 most]):=Pt.of [dN] [dI .i64 nn,dI .i64 0,dI .i64 most] rfl rfl fun y=>rfl
theorem pY {a b:Nat}(h:a+b<9223372036854775807):i64.wrap ((a:Int)+(b:Int))=((a+b:Nat):Int):=by rw[fb (by omega) (by omega)];omega
section
variable {d:Dic} {w m nn:Nat} {c:List Nu}
theorem da.improveP(h:da d w m):da (bh d).2 w m∧(bh d).2.most=d.most∧(bh d).2.n=d.n∧-1≤(bh d).1.1∧(bh d).1.1<w:=h.improve _
theorem da.start(h:da d w m):da (jH d) w m:=by
 have h2:=h.colsI (nOf 1) (Nat.le_of_eq h.len)
 rw[vG] at h2
 exact⟨h2.len,(eL ..).trans h2.lg,h2.lc,h2.b,h2.p0,h2.p1,h2.m0,h2.m1⟩
theorem OV {l:List Row}{v:Int}(h:¬ew l v<0):(ew l v).toNat<l.length:=by
 unfold ew at h ⊢
 cases Lw:l.findIdx? fun r=>decide (r.b=v) with
 |none=>rw[Lw] at h;exact absurd (show (-1:Int)<0 by decide) h
 |some a=>exact (pK.1 Lw).1
theorem da.begin(h:da d w m)(hm:0<m)(hw:0<w):da (kK d).2 w m∧(kK d).2.n=d.n:=by
 have hl:=h.len
 have nH:mL d.rows d.rows.length<m:=by
  rcases Fm d.rows d.rows.length with h|h <;> omega
 obtain⟨p1,_,p3,_⟩:=h.start.pivot nH hw
 have p3:_=d.n:=p3
 unfold kK
 dsimp only
 split
 ·exact⟨p1,p3⟩
 ·obtain⟨q1,_,q3,_⟩:=p1.improveP
  split
  ·exact⟨q1,q3.trans p3⟩
  ·split
   ·exact⟨q1,q3.trans p3⟩
   ·next hf=>
    have hfl:=OV hf
    rw[q1.len] at hfl
    split
    ·exact⟨q1,q3.trans p3⟩
    ·next s hs=>
     have Dg:=(pK.1 hs).1
     rw[q1.lc _ hfl] at Dg
     obtain⟨r1,_,r3,_⟩:=q1.pivot hfl Dg
     exact⟨r1,r3.trans (q3.trans p3)⟩
theorem da.aim(h:da d w m)(c:List Nu):da (mV d c).2 w m∧(mV d c).2.n=d.n:=by
 have h2:=h.colsI (nOf 0) (Nat.le_of_eq h.len)
 rw[vG] at h2
 exact⟨⟨h2.len,(vb ..).trans h.lg,h2.lc,h2.b,h2.p0,h2.p1,h2.m0,h2.m1⟩,rfl⟩
theorem endP_1(h:(mV d c).1≠0):wa nn d c=(⟨0,[],[],[]⟩,0,(mV d c).1):=by unfold wa;dsimp only;rw[if_pos h]
theorem endP_2(h:¬(mV d c).1≠0)(h2:(bh (mV d c).2).1.2≠0):wa nn d c=(⟨0,[],[],[]⟩,0,(bh (mV d c).2).1.2):=by unfold wa;dsimp only;rw[if_neg h,if_pos h2]
theorem endP_3(h:¬(mV d c).1≠0)(h2:¬(bh (mV d c).2).1.2≠0)(h3:(bh (mV d c).2).1.1<0):wa nn d c=(⟨1,mp (bh (mV d c).2).2.rows nn Row.k fun _=>nOf 0,fj (bh (mV d c).2).2 nn,[]⟩,(bh (mV d c).2).2.piv,0):=by unfold wa;dsimp only;rw[if_neg h,if_neg h2,if_pos h3]
theorem endP_4(h:¬(mV d c).1≠0)(h2:¬(bh (mV d c).2).1.2≠0){s:Nat}(h3:(bh (mV d c).2).1.1=(s:Int)):wa nn d c=(⟨3,mp (bh (mV d c).2).2.rows nn Row.k fun _=>nOf 0,[],mp (bh (mV d c).2).2.rows nn (fun r=>r.c[s]!) fun v=>nOf (if (v:Int)=(s:Int) then 1 else 0)⟩,(bh (mV d c).2).2.piv,0):=by
 unfold wa
 dsimp only
 rw[if_neg h,if_neg h2,if_neg (by omega),h3,show ((s:Int)).toNat=s by omega]
 congr 2
 congr 1
 funext v
 split <;> rfl
end
section
variable {m nn:Nat} {A B C:List Nu} {most:Int}
theorem LV {m:Nat}{a:Ans}(h:a.kind≠2):pH m a=[dI .i64 a.kind,.e (slE az a.x),.e (slE az a.y),.e (slE az a.ray)]:=by unfold pH;rw[if_neg h]
theorem u4(m:Nat):D.le (.ag [dI .i64 0,dN,dN,dN]) (.ag (pH m ⟨0,[],[],[]⟩)):=by
 rw[LV (by decide)]
 exact rC ⟨.inl rfl,.inr (.inr ⟨rfl,36,by decide,rfl⟩),.inr (.inr ⟨rfl,36,by decide,rfl⟩),.inr (.inr ⟨rfl,36,by decide,rfl⟩),trivial⟩
set_option maxHeartbeats 8000000 in
theorem Kg(hv:ax Tryz.prog 15 [.ag (prC m nn A B C)] (dB true))(hm:m≤2000)(hn:nn≤2000)(hA:A.length=m*nn)(hB:B.length=m)(hC:C.length=nn)(hgA:∀i,i<A.length→aK A[i]! =true)(hgB:∀i,i<B.length→aK B[i]! =true)(hgC:∀i,i<C.length→aK C[i]! =true)(h0:0≤most)(h1:most≤9223372036854775807):
  HC Tryz.prog 12 [.ag (prC m nn A B C),dI .i64 most] ⟨[],[],0⟩ (Iq m (lm m nn A B C most)) (DA m (lm m nn A B C most)):=by
 refine HC.of (rs:=[.cell 4 29,.tmp 5,.tmp 6]) tok Tryz.func12 rfl rfl (dq rfl) rfl (fun cx hx t6 hok=>?_)
 simp only[fL,Nat.reduceAdd,bJ]
 obtain⟨w,hw⟩:∃w,w=1+nn+m:=⟨_,rfl⟩
 refine rs hx fun K hK=>?_
 refine s1 (gD (cs:=prC m nn A B C)) ?_
 refine a1 (F:=ls) tbI ?_
 iterate 2 refine sa ?_
 refine .nil (hK _ _ (AW.seq (rs hx fun K hK=>?_)))
 refine p1 (Pt.all (F:=prC m nn A B C)) rfl ?_
 refine q1 (sHC (HC.frz (ds:=[.ag (prC m nn A B C)]) hv ⟨AR.data rfl,trivial⟩ rfl) rfl (.inr (Fr.refl _))) ?_
 iterate 2 refine sa ?_
 iterate 2 refine ga rfl ?_
 refine s1 (d:=dB (decide (most<0))) (al rfl) ?_
 refine .nil (hK _ _ (AW.condF rfl (bH (by omega)) (AW.skip ?_)))
 -- the dictionary
 refine rs hx fun K hK=>?_
 iterate 2 refine sa ?_
 refine c1 (rR (t:=1) rfl) ?_
 refine sa ?_
 refine s1 (d:=.ag (dicZ nn most)) (ee tbI) ?_
 refine s1 (gD (cs:=dicZ nn most)) ?_
 refine sa ?_
 refine .nil (hK _ _ (rs hx fun K hK=>?_))
 iterate 2 refine sa ?_
 refine c1 (rR (t:=1) rfl) ?_
 refine sa ?_
 rw[show i64.wrap ((1:Int)+(nn:Int))=((1+nn:Nat):Int) from pY (a:=1) (by omega)]
 iterate 2 refine sa ?_
 refine c1 (rR (t:=0) rfl) ?_
 refine sa ?_
 rw[pY (by omega),←hw]
 refine sa ?_
 refine .nil (hK _ _ (rs hx fun K hK=>?_))
 iterate 2 refine sa ?_
 refine q1 (sHC (vw (by omega)) rfl (.inr ⟨show 3≤7 by decide,fun j hj=>by have hj:j<3:=hj;exact (ar (by omega)).trans (ar (by omega))⟩)) ?_
 iterate 2 refine sa ?_
 refine v1 (ys:=bp (nOf 0) 6 w) (LO nn most) rfl ((cf _ _ _).trans rfl) rfl ?_
 refine .nil (hK _ _ (rs hx fun K hK=>?_))
 refine sa ?_
 refine .nil (hK _ _ ?_)
 obtain⟨base,lJ⟩:∃base:List (Nat×List D),base=[(1,dC ls),(0,prC m nn A B C)]:=⟨_,rfl⟩
 have c5:base.lookup 1=some (dC ls):=by rw[lJ];exact aa
 have hb0:base.lookup 0=some (prC m nn A B C):=by rw[lJ];rfl
 have Ox:∀j ds,base.lookup j=some ds→j=0∨j=1:=fun j ds h=>by
  rw[lJ] at h
  rcases cu h with⟨h2,_⟩|⟨_,h⟩
  ·exact .inr h2
  ·rcases cu h with⟨h2,_⟩|⟨_,h⟩
   ·exact .inl h2
   ·simp at h
 have IX:∀M,2≤M→cE ⟨base,[],M⟩:=fun M hM=>by
  refine⟨fun j ds h=>?_,fun id e h=>by simp at h⟩
  rcases Ox j ds h with rfl|rfl
  ·rw[hb0] at h;injection h with h;subst h;exact⟨show 0<M by omega,rfl⟩
  ·rw[c5] at h;injection h with h;subst h;exact⟨show 1<M by omega,rfl⟩
 obtain⟨V0,Do⟩:∃V0,V0=(2,[dN]++bp (nOf 0) 6 w++[dI .i64 nn,dI .i64 0,dI .i64 most])::(3,bp (nOf 0) 6 w)::(6,dC ((cW az).f (List.replicate w (nOf 0))))::(2,dicZ nn most)::base:=⟨_,rfl⟩
 have hSI:∀i,i≤m→da (mz m nn A B most i) w i:=fun i hi=>by rw[hw];exact Cn h0 h1 hi
 have hD0:DAt V0 2 (rV 0) 6 cV w (mz m nn A B most 0):=by
  rw[Do]
  exact⟨aa,fun ge=>absurd rfl ge,by rw[hw];exact ak (by decide) (ak (by decide) aa),fun i r hr=>by simp[mz] at hr,(hSI 0 (cQ _)).lg,(hSI 0 (cQ _)).lC⟩
 have Kc:∀k ds,k≠2→(0≠0→k≠rV 0)→k≠6→(∀j,j<0→k≠cV j)→base.lookup k=some ds→V0.lookup k=some ds:=fun k ds _ _ _ _ h=>by
  rw[Do]
  rcases Ox k ds h with rfl|rfl
  ·exact ak (by decide) (ak (by decide) (ak (by decide) (ak (by decide) h)))
  ·exact ak (by decide) (ak (by decide) (ak (by decide) (ak (by decide) h)))
 rw[lJ] at Do
 rw[←Do]
 rw[←lJ] at Do
 have hokI:∀i d2,da d2 w i→cE ⟨ov 2 (rV i) 6 cV w d2 base,[],7+8*i⟩:=fun i d2 h2=>z9 (IX _ (by omega)) (by omega) (by unfold rV;split <;> omega) (by omega) fun j hj=>by rw[h2.len] at hj;unfold cV;omega
 obtain⟨ng,hng⟩:∃ng:Nat→Bool,ng=fun i=>(B.take i).any fun b=>decide (dv b<0):=⟨_,rfl⟩
 refine AW.seq (rs hx fun K hK=>?_)
 refine sa ?_
 have hl00:V0.lookup 0=some (prC m nn A B C):=by rw[Do];exact ak (by decide) (ak (by decide) (ak (by decide) (ak (by decide) hb0)))
 refine c1 (rR (t:=3) rfl) ?_
 iterate 2 refine sa ?_
 refine .nil (hK _ _ ?_)
 rw[hB]
 refine AW.block (AW.loopW (fun i:Nat=>[(2,.pt 0 0),(4,.pt 1 0),(7,.pt 2 0),(8,dI .i64 w),(9,dB (ng i)),(48,.e (slE az B)),(49,dI .i64 m),(50,dI .i64 i)]) (fun i=>⟨ov 2 (rV i) 6 cV w (mz m nn A B most i) base,[],7+8*i⟩) (fun i=>i≤m) (fun i=>m - i) 0 ?_ (cQ _) ?_)
 ·exact wk1 t6 (hok:=hokI 0 _ (hSI 0 (cQ _))) (hv:=uJ (ww 0) (hSI 0 (cQ _)) hD0 Kc) (ht:=by rw[hng];exact bU.cons (bU.cons (bU.cons (bU.cons (bU.cons (bU.cons (bU.cons (bU.cons bU.nil rfl rfl) rfl rfl) rfl rfl) rfl rfl) rfl rfl) rfl rfl) rfl rfl) rfl rfl)
 ·intro i hi
  have vy:=hSI i hi
  have A9:=vy.at (ww i) (vs:=base)
  have nG:=hokI i _ vy
  have sx:∀k ds,base.lookup k=some ds→(ov 2 (rV i) 6 cV w (mz m nn A B most i) base).lookup k=some ds:=fun k ds h=>by
   refine BC vy ?_ ?_ ?_ ?_ h
   ·rcases Ox k ds h with rfl|rfl <;> decide
   ·intro hi0
    unfold rV
    rw[if_neg hi0]
    rcases Ox k ds h with rfl|rfl <;> omega
   ·rcases Ox k ds h with rfl|rfl <;> decide
   ·intro j _
    unfold cV
    rcases Ox k ds h with rfl|rfl <;> omega
  obtain⟨V,hV⟩:∃V,V=ov 2 (rV i) 6 cV w (mz m nn A B most i) base:=⟨_,rfl⟩
  rw[←hV] at A9 nG sx ⊢
  have hl0:=sx 0 _ hb0
  have hnoV:∀k ds,V.lookup k=some ds→ds.all D.noO=true:=by
   rw[hV]
   refine ov_noO fun p hp=>?_
   rw[lJ] at hp
   rcases kj.1 hp with rfl|hp
   ·exact zb _
   ·rw[pI.1 hp];rfl
  have hl1:=sx 1 _ c5
  have B1:=A9.hd
  refine rs hx fun K hK=>?_
  refine sa ?_
  refine .nil (hK _ _ (AW.seq (AW.condS rfl (fun hb=>?_) (fun hb=>?_))))
  ·have yG:i<m:=by have:=cj hb;omega
   obtain⟨n,hnn⟩:∃n,n=7+8*i:=⟨_,rfl⟩
   rw[←hnn] at nG ⊢
   have ml:0≤(i:Int)∧(i:Int)<((B.length:Nat):Int):=by omega
   refine AW.skip (AW.seq (AW.block (rs hx fun K hK=>?_)))
   refine sa ?_
   refine s1 (g7 ml aM ay) ?_
   refine s1 (d:=dG az B[i]!) (mi (c:=az) (l:=B) (n:=i) (o:=0) ay (by omega) (f8 _ _ rfl)) ?_
   refine n1 ?_
   refine sa ?_
   refine z1 ?_
   refine .nil (hK _ _ ?_)
   -- the row
   obtain⟨F0,LG⟩:∃F0,F0=bp (nOf 0) (n+4) w++[dI .i64 (1+nn+i:Nat)]:=⟨_,rfl⟩
   have hFl:F0.length=38:=by rw[LG,cR,cf];rfl
   have hFi:F0.all (D.idsC (n+6))=true:=by rw[LG,lN,iT (by omega)];rfl
   obtain⟨Tm,hTm⟩:∃Tm:List (Nat×D),Tm=[(2,.pt 0 0),(4,.pt 1 0),(7,.pt 2 0),(8,dI .i64 w),(9,dB (ng i)),(48,.e (slE az B)),(49,dI .i64 m),(50,dI .i64 i),(10,dI .i64 i),(11,.pt n 0),(12,.pt (n+5) 0)]:=⟨_,rfl⟩
   refine sj Tm ⟨(n+5,F0)::(n+4,dC ((cW az).f (List.replicate w (nOf 0))))::(n,dC (az.f B[i]!))::V,[],n+6⟩ ?_ ?_
   ·refine dw (DW.split 1 9 (by decide) ?_ ?_)
    ·refine dwg [] [0,1,2,3,4,5,6,7,8,9,10] hx (by kernel_rfl) (by kernel_rfl) (by kernel_rfl) fun K hK=>?_
     dsimp only[et,mA,mK,List.map]
     refine sa ?_
     refine q1 (sHC (vw (by omega)) rfl (.inr ⟨show n+1≤n+1+4 by omega,fun j hj=>by have hj:j<n+1:=hj;exact (ar (by omega)).trans (ar (by omega))⟩)) ?_
     iterate 2 refine sa ?_
     refine c1 (rR (t:=1) rfl) ?_
     refine sa ?_
     rw[show i64.wrap ((1:Int)+(nn:Int))=((1+nn:Nat):Int) from pY (a:=1) (by omega)]
     iterate 2 refine sa ?_
     rw[pY (by omega)]
     refine s1 PO ?_
     rw[←LG]
     refine a1 (F:=KQ) sf ?_
     refine v1 (Pt.all (F:=dC KQ)) rfl hFl rfl ?_
     refine .nil (hK _ _ ⟨rfl,?_⟩)
     rw[hTm]
     exact wk1 t6
    ·refine dwg [] [0,9,1,2,3,4,5,6,7,8,10] hx (by kernel_rfl) (by kernel_rfl) (by kernel_rfl) fun K hK=>?_
     dsimp only[et,mA,mK,List.map]
     refine sa ?_
     refine a1 (F:=KQ) sf ?_
     refine q1 (sHC (vw (by omega)) rfl (.inr ⟨show n+2≤n+2+4 by omega,fun j hj=>by have hj:j<n+2:=hj;exact (ar (by omega)).trans (ar (by omega))⟩)) ?_
     iterate 2 refine sa ?_
     refine c1 (rR (t:=1) rfl) ?_
     refine sa ?_
     rw[show i64.wrap ((1:Int)+(nn:Int))=((1+nn:Nat):Int) from pY (a:=1) (by omega)]
     iterate 2 refine sa ?_
     rw[pY (by omega)]
     refine s1 PO ?_
     refine v1 (ys:=bp (nOf 0) (n+5) w++[dI .i64 (1+nn+i:Nat)]) (Pt.all (F:=dC KQ)) rfl (by rw[cR,cf];rfl) rfl ?_
     refine .nil (hK _ _ ⟨rfl,?_⟩)
     obtain⟨σ,hσ⟩:∃σ:Nat→Nat,σ=fun j=>if j=n+5 then n+1 else if j=n+4 then n+5 else if j=n+1 then n+4 else j:=⟨_,rfl⟩
     have s5:σ (n+5)=n+1:=by rw[hσ];exact if_pos rfl
     have s4:σ (n+4)=n+5:=by rw[hσ];show (if n+4=n+5 then _ else _)=_;rw[if_neg (by omega),if_pos rfl]
     have DB:∀j,j<n+1→σ j=j:=fun j hj=>by rw[hσ];show (if j=n+5 then _ else _)=_;rw[if_neg (by omega),if_neg (by omega),if_neg (by omega)]
     have w9:∀a b,a<n+6→b<n+6→σ a=σ b→a=b:=fun a b _ _ h=>by
      rw[hσ] at h
      dsimp only at h
      repeat' split at h
      all_goals omega
     have Er:2<n:=by omega
     rw[hTm]
     refine Wk.perm σ (by rw[t6];exact cQ _) (fun j hj=>by rw[t6] at hj;exact absurd hj (qP _)) w9 ?_ (fun k ds h=>?_) (fun k y h=>by simp at h)
     ·refine TmR.cons (TmR.cons (TmR.cons (TmR.cons (TmR.cons (TmR.cons (TmR.cons (TmR.cons (TmR.cons (TmR.cons (TmR.cons TmR.nil ?_ (aF (show n+5<n+6 by omega))) ?_ (aF (show n<n+6 by omega))) rfl rfl) rfl rfl) rfl rfl) rfl rfl) rfl rfl) rfl rfl) ?_ (aF (show 2<n+6 by omega))) ?_ (aF (show 1<n+6 by omega))) ?_ (aF (show 0<n+6 by omega))
      ·show _=some (D.pt (σ (n+5)) 0);rw[s5];rfl
      ·show _=some (D.pt (σ n) 0);rw[DB n (by omega)];rfl
      ·show _=some (D.pt (σ 2) 0);rw[DB 2 (by omega)];rfl
      ·show _=some (D.pt (σ 1) 0);rw[DB 1 (by omega)];rfl
      ·show _=some (D.pt (σ 0) 0);rw[DB 0 (by omega)];rfl
     ·rcases cu h with⟨rfl,rfl⟩|⟨k5,h⟩
      ·refine⟨by omega,?_,hFi,by rw[LG,lN,za];rfl⟩
       rw[s5,LG,jz,K4,s4]
       exact aa
      rcases cu h with⟨rfl,rfl⟩|⟨k4,h⟩
      ·refine⟨by omega,?_,eJ _,zb _⟩
       rw[s4,Iw]
       exact ak (by omega) (ak (by omega) aa)
      rcases cu h with⟨rfl,rfl⟩|⟨kn,h⟩
      ·refine⟨by omega,?_,eJ _,zb _⟩
       rw[DB k (by omega),Iw]
       exact ak (by omega) (ak (by omega) (ak (by omega) (ak (by omega) aa)))
      ·have hk:=nG.lt h
       have hki:=(nG.var k ds h).2
       refine⟨by omega,?_,cX.2 fun d hd=>D.idsC_le (show n≤n+6 by omega) (cX.1 hki d hd),hnoV k ds h⟩
       rw[DB k (by omega),map_low (n:=n) (fun j hj=>DB j (by omega)) hki (hnoV k ds h)]
       exact ak (by omega) (ak (by omega) (ak (by omega) (ak (by omega) (ak kn (ak kn h)))))
   ·rw[hTm]
    obtain⟨F1,Ex⟩:∃F1,F1=iP cV w i (Hs m nn A B i):=⟨_,rfl⟩
    have hcV:cV i=n+4:=by unfold cV;omega
    have hF1e:F1=bp B[i]! (n+4) w++[dI .i64 (1+nn+i:Nat)]:=by rw[Ex];unfold iP;rw[hcV];rfl
    have hF1l:F1.length=38:=by rw[Ex];exact si _ _ _ _
    have hF1i:F1.all (D.idsC (n+6))=true:=by rw[hF1e,lN,iT (by omega)];rfl
    have L0:Pt F0 (0+0+0) (dC (az.f (nOf 0))) (fun ys=>ys++([.ow (n+4) 0 36 w]++[dI .i64 (1+nn+i:Nat)])):=Pt.of [] ([.ow (n+4) 0 36 w]++[dI .i64 (1+nn+i:Nat)]) rfl (by rw[LG];unfold bp;simp only[dy,mU]) fun y=>rfl
    have L1:Pt F1 (0+0+36) [.ow (n+4) 0 36 w] (fun ys=>dC (az.f B[i]!)++ys++[dI .i64 (1+nn+i:Nat)]):=Pt.of (dC (az.f B[i]!)) [dI .i64 (1+nn+i:Nat)] (iR _) (by rw[hF1e];unfold bp;simp only[dy]) fun y=>rfl
    refine rs hx fun K hK=>?_
    refine l1 (Pt.idN _) ?_
    iterate 2 refine sa ?_
    refine t1 (b:=B[i]!) (F2:=F1) L0 (by rw[hF1e];unfold bp;simp only[dy]) ?_
    refine .nil (hK _ _ (AW.seq (rs hx fun K hK=>?_)))
    iterate 2 refine sa ?_
    refine c1 (rR (t:=1) rfl) ?_
    refine sa ?_
    refine .nil (hK _ _ ?_)
    rw[show List.replicate w (nOf 0)=AN m nn A i 0 by rw[LP,hw]]
    refine AW.block (AW.loopW (fun k:Nat=>[(2,.pt 0 0),(4,.pt 1 0),(7,.pt 2 0),(8,dI .i64 w),(9,dB (ng i)),(48,.e (slE az B)),(49,dI .i64 m),(50,dI .i64 i),(10,dI .i64 i),(11,.pt n 0),(12,.pt (n+5) 0),(69,dI .i64 nn),(70,dI .i64 k)]) (fun k=>⟨(n+4,dC ((cW az).f (AN m nn A i k)))::(n+5,F1)::(n,dC (az.f B[i]!))::V,[],n+6⟩) (fun k=>k≤nn) (fun k=>nn - k) 0 ?_ (cQ _) ?_)
    ·exact wk1 t6
    ·intro k hk
     have sU:=O8 m nn A i k
     refine rs hx fun K hK=>?_
     refine sa ?_
     refine .nil (hK _ _ (AW.seq (AW.condS rfl (fun hb=>?_) (fun hb=>?_))))
     ·have w8:k<nn:=by have:=cj hb;omega
      have hmul:i*nn+nn≤m*nn:=by
       calc i*nn+nn=(i+1)*nn:=by rw[cp];omega
        _≤m*nn:=dx _ yG
      have hmn:m*nn≤2000*2000:=t7 hm hn
      have hmi:i64.wrap ((i:Int)*(nn:Int))=((i*nn:Nat):Int):=by rw[←mT,fb (by omega) (by omega)]
      have Ly:0≤((i*nn+k:Nat):Int)∧((i*nn+k:Nat):Int)<((A.length:Nat):Int):=by omega
      refine AW.skip (AW.seq (AW.block (rs hx fun K hK=>?_)))
      iterate 2 refine sa ?_
      refine .nil (hK _ _ (rqd [42] hx fun K hK=>?_))
      iterate 2 refine sa ?_
      refine c1 L1 ?_
      iterate 2 refine sa ?_
      rw[show i64.wrap ((1:Int)+(k:Int))=((1+k:Nat):Int) from pY (a:=1) (by omega)]
      iterate 2 refine sa ?_
      refine c1 (rR (t:=2) rfl) ?_
      iterate 3 refine sa ?_
      refine c1 (rR (t:=1) rfl) ?_
      refine sa ?_
      rw[hmi]
      iterate 2 refine sa ?_
      rw[pY (by omega)]
      refine s1 (g7 Ly aM ay) ?_
      refine s1 (d:=dG az A[i*nn+k]!) (mi (c:=az) (l:=A) (n:=i*nn+k) (o:=0) ay (by omega) (f8 _ _ rfl)) ?_
      refine cq (GI _) ?_
      refine i1 (i:=1+k) (n:=w) (by omega) ?_
      refine t1 (Pt.el (AN m nn A i k) (1+k) (by omega)) (Pt.el_set (AN m nn A i k) (1+k) (by omega) _) ?_
      refine .nil (hK _ _ ?_)
      rw[LQ w8]
      refine rq hx fun K hK=>?_
      iterate 2 refine sa ?_
      refine .nil (hK _ _ ?_)
      rw[cg (by omega)]
      exact⟨k+1,wk1 t6,w8,by omega⟩
     ·refine AW.exit ?_
      have w8:k=nn:=by have:=dV hb;omega
      subst w8
      have hcrow:AN m k A i k=(Hs m k A B i).c:=rfl
      rw[hcrow]
      obtain⟨U,hU⟩:∃U,U=(n+4,dC ((cW az).f (Hs m k A B i).c))::(n+5,F1)::(n,dC (az.f B[i]!))::V:=⟨_,rfl⟩
      have hU5:U.lookup (n+5)=some F1:=by rw[hU];exact ak (by omega) aa
      have hU4:U.lookup (n+4)=some (dC ((cW az).f (Hs m k A B i).c)):=by rw[hU];exact aa
      have hUn:U.lookup n=some (dC (az.f B[i]!)):=by rw[hU];exact ak (by omega) (ak (by omega) aa)
      have hUV:∀j ds,V.lookup j=some ds→U.lookup j=some ds:=fun j ds h=>by
       have:=nG.lt h
       rw[hU];exact ak (by omega) (ak (by omega) (ak (by omega) h))
      rw[←hU]
      have hli:=vy.len
      have hU2:=hUV _ _ B1
      refine rsd [] hx fun K hK=>?_
      iterate 4 refine sa ?_
      refine c1 gy ?_
      refine p1 (Pt.all (F:=F1)) hF1l ?_
      refine q1 (litR tok z4 sf rfl hF1l) ?_
      obtain⟨W,hW1,hWx,hap⟩:=appRows (U:=(n+6,F1)::U) (lv:=[]) (N:=n+7) (R:=rV i) (ky:=n+6) (w:=w) (C:=cV) (l:=(mz m k A B most i).rows) (fun ge=>ak (by unfold rV;split <;> omega) (hUV _ _ (A9.hR ge))) aa hF1l (by omega)
      rw[hli] at hap
      refine q1 (hap rfl rfl) ?_
      have hW2:W.lookup 2=some (mM (rV i) 6 w (mz m k A B most i)):=hWx 2 _ (fun _=>by unfold rV;split <;> omega) (by omega) (ak (by omega) hU2)
      iterate 2 refine sa ?_
      refine v1 (ys:=[.gw (n+7) 38 (i+1)]) (gy (R:=rV i) (G:=6) (w:=w) (d:=mz m k A B most i)) rfl rfl rfl ?_
      refine .nil (hK _ _ ?_)
      have hrv:rV (i+1)=n+7:=by unfold rV;rw[if_neg (by omega)];omega
      have NQ:(mz m k A B most (i+1)).rows=(mz m k A B most i).rows++[Hs m k A B i]:=by
       show (List.range (i+1)).map _=(List.range i).map _++_
       rw[u6,jz];rfl
      have hS1:=hSI (i+1) yG
      have nH:∀j ds,j≠2→(i≠0→j≠rV i)→V.lookup j=some ds→((2,[D.gw (n+7) 38 (i+1)]++(bp (mz m k A B most i).gk 6 w++[dI .i64 (mz m k A B most i).n,dI .i64 (mz m k A B most i).piv,dI .i64 (mz m k A B most i).most]))::W).lookup j=some ds:=fun j ds h2 hr h=>by
       have hj:=nG.lt h
       exact ak h2 (hWx j ds (fun ge=>hr (fun e=>ge (by subst e;rfl))) (by omega) (ak (by omega) (hUV j ds h)))
      have hD1:DAt ((2,[D.gw (n+7) 38 (i+1)]++(bp (mz m k A B most i).gk 6 w++[dI .i64 (mz m k A B most i).n,dI .i64 (mz m k A B most i).piv,dI .i64 (mz m k A B most i).most]))::W) 2 (rV (i+1)) 6 cV w (mz m k A B most (i+1)):=by
       refine⟨?_,fun _=>?_,?_,fun j r hr=>?_,hS1.lg,hS1.lC⟩
       ·rw[aa]
        have:fc (rV (i+1)) (mz m k A B most (i+1)).rows=.gw (n+7) 38 (i+1):=by
         rw[pb (by rw[NQ];simp),hrv,hS1.len]
        unfold mM
        rw[this,dy]
        rfl
       ·rw[hrv,NQ,yV,hli,bJ]
        refine ak (by omega) (hW1.trans ?_)
        rw[Ex]
        unfold f4
        rw[show f4 cV w (i+1) []=[] from rfl,rM]
       ·refine nH 6 _ (by decide) (fun h=>by unfold rV;rw[if_neg h];omega) ?_
        exact A9.hG
       ·have hj:j<i+1:=by have:=(fP.1 hr).1;rw[hS1.len] at this;exact this
        rw[NQ] at hr
        rcases gW j i with h|h
        ·rw[yo (by omega)] at hr
         exact nH (cV j) _ (by unfold cV;omega) (fun h=>by unfold cV rV;rw[if_neg h];omega) (A9.hC j r hr)
        ·obtain rfl:j=i:=by omega
         rw[pL (by omega),hli,Nat.sub_self] at hr
         injection hr with hr
         subst hr
         rw[hcV]
         exact ak (by omega) (hWx (n+4) _ (fun _=>by unfold rV;split <;> omega) (by omega) (ak (by omega) hU4))
      have hX11:((2,[D.gw (n+7) 38 (i+1)]++(bp (mz m k A B most i).gk 6 w++[dI .i64 (mz m k A B most i).n,dI .i64 (mz m k A B most i).piv,dI .i64 (mz m k A B most i).most]))::W).lookup n=some (dC (az.f B[i]!)):=ak (by omega) (hWx n _ (fun _=>by unfold rV;split <;> omega) (by omega) (ak (by omega) hUn))
      have ui:=uJ (vs:=base) (ww (i+1)) hS1 hD1 fun j ds h2 _ _ _ h=>nH j ds h2 (fun hi0=>by
       unfold rV
       rw[if_neg hi0]
       rcases Ox j ds h with rfl|rfl <;> omega) (sx j ds h)
      have BW:=hokI (i+1) _ hS1
      have hng1:ng (i+1)=(ng i||decide (dv B[i]! <0)):=by
       rw[hng]
       dsimp only
       rw[ym,List.any_append,uV (show i<B.length by omega)]
       simp
      generalize (2,[D.gw (n+7) 38 (i+1)]++(bp (mz m k A B most i).gk 6 w++[dI .i64 (mz m k A B most i).n,dI .i64 (mz m k A B most i).piv,dI .i64 (mz m k A B most i).most]))::W=X at hX11 ui ⊢
      have Gp:n+8=7+8*(i+1):=by omega
      refine rq hx fun K hK=>?_
      iterate 2 refine sa ?_
      cases I1:ng i with
      |true=>
       rw[I1] at hng1
       iterate 3 refine gn rfl ?_
       refine s1 (d:=dB true) (aw rfl) ?_
       refine sa ?_
       refine .nil (hK _ _ (rq hx fun K hK=>?_))
       iterate 2 refine sa ?_
       refine .nil (hK _ _ ?_)
       rw[cg (by omega)]
       refine⟨i+1,?_,yG,by omega⟩
       rw[show ng (i+1)=true from hng1]
       rw[←Gp] at BW ⊢
       exact wk1 t6 (hok:=BW) (hv:=ui)
      |false=>
       rw[I1] at hng1
       refine l1g (Pt.idN B[i]!) rfl ?_
       refine cqg (wN _) rfl ?_
       refine ga rfl ?_
       refine s1 (d:=dB (decide (dv B[i]! <0))) (al rfl) ?_
       refine sa ?_
       refine .nil (hK _ _ (rq hx fun K hK=>?_))
       iterate 2 refine sa ?_
       refine .nil (hK _ _ ?_)
       rw[cg (by omega)]
       refine⟨i+1,?_,yG,by omega⟩
       rw[show ng (i+1)=decide (dv B[i]! <0) from hng1]
       rw[←Gp] at BW ⊢
       exact wk1 t6 (hok:=BW) (hv:=ui)
  ·refine AW.exit ?_
   have yG:i=m:=by have:=dV hb;omega
   subst yG
   rw[HB] at A9 B1 vy
   obtain⟨NN,hNN⟩:∃NN,NN=7+8*i:=⟨_,rfl⟩
   rw[←hNN] at nG ⊢
   have hngm:ng i=B.any fun b=>decide (dv b<0):=by
    rw[hng]
    dsimp only
    rw[g6 (by omega)]
   rw[hngm]
   have ya:=ML (C:=C) (most:=most) hA hB hgA hgB
   have A8:rV i<NN:=by unfold rV;split <;> omega
   have hw0:0<w:=by omega
   refine AW.joinE (α:=Dic×List (Nat×List D)) (fun _=>[(2,.pt 0 0),(4,.pt 1 0),(7,.pt 2 0)]) (fun a=>⟨a.2,[],NN⟩) (fun a=>DAt a.2 2 (rV i) 6 cV w a.1∧da a.1 w i∧a.1.n=(nn:Int)∧a.2.lookup 0=some (prC i nn A B C)∧a.2.lookup 1=some (dC ls)∧cE ⟨a.2,[],NN⟩∧lm i nn A B C most=wa nn a.1 C) ?_ ?_
   ·refine rs hx fun K hK=>?_
    refine sa ?_
    refine .nil (hK _ _ (AW.condS rfl (fun v7=>?_) (fun v7=>?_)))
    ·have Dj:0<i:=by
      rcases qO i with e|e
      ·rw[e] at hB
       rw[List.length_eq_zero_iff.1 hB] at v7
       cases v7
      ·exact e
     have hbg:=h_begin (lv:=[]) (N:=NN) A8 A9 (ww i) vy (by omega) (by omega) Dj hw0 (ya v7)
     have lY:lm i nn A B C most=(if (kK (fy i nn A B most)).1≠0 then (⟨0,[],[],[]⟩,0,(kK (fy i nn A B most)).1) else if dv (kK (fy i nn A B most)).2.gk<0 then (⟨2,[],fj (kK (fy i nn A B most)).2 nn,[]⟩,(kK (fy i nn A B most)).2.piv,0) else wa nn (kK (fy i nn A B most)).2 C):=by
      unfold lm
      dsimp only
      rw[if_pos v7]
     have hSb:=vy.begin Dj hw0
     obtain⟨VB,hVB⟩:∃VB,VB=ov 2 (rV i) 6 cV w (kK (fy i nn A B most)).2 V:=⟨_,rfl⟩
     have hokB:cE ⟨VB,[],NN⟩:=by rw[hVB];exact z9 nG (by omega) (by omega) (by omega) fun j hj=>by rw[hSb.1.len] at hj;unfold cV;omega
     have hDb:DAt VB 2 (rV i) 6 cV w (kK (fy i nn A B most)).2:=by rw[hVB];exact hSb.1.at (ww i)
     have hoB:∀k ds,k≤1→V.lookup k=some ds→VB.lookup k=some ds:=fun k ds hk h=>by
      rw[hVB]
      exact BC hSb.1 (by omega) (fun e=>by unfold rV;rw[if_neg e];omega) (by omega) (fun j _=>by unfold cV;omega) h
     have FG:=hoB 0 _ (by decide) hl0
     have OL:=hoB 1 _ (by decide) hl1
     rw[←hVB] at hbg
     have hBd:=hDb.hd
     clear hVB
     refine AW.seq (rs hx fun K hK=>?_)
     refine sa ?_
     refine q1 (sHC hbg rfl (.inl (by kernel_rfl))) ?_
     refine sa ?_
     refine .nil (hK _ _ (rs hx fun K hK=>?_))
     iterate 2 refine sa ?_
     refine .nil (hK _ _ (AW.condS rfl (fun hb=>?_) (fun hb=>?_)))
     ·rw[if_pos (by simpa using hb)] at lY
      refine rs hx fun K hK=>?_
      refine s2 (ee tbI) (u4 i) ?_
      refine sa ?_
      refine v1 (ys:=pH i ⟨0,[],[],[]⟩) (Pt.all (F:=dC ls)) rfl rfl rfl ?_
      iterate 2 refine sa ?_
      exact .nil (hK _ _ (AW.ret (rtS t6 lY aa (fun e=>by cases e) (by omega))))
     ·rw[if_neg (by simpa using hb)] at lY
      refine AW.skip (rs hx fun K hK=>?_)
      iterate 4 refine sa ?_
      refine l1 me.pk ?_
      refine cq (wN _) ?_
      refine sa ?_
      refine .nil (hK _ _ (AW.condS rfl (fun hb=>?_) (fun hb=>?_)))
      ·rw[if_pos (cj hb)] at lY
       have hpl:(fj (kK (fy i nn A B most)).2 nn).length=i:=by
        unfold fj
        rw[bT,fB,hSb.1.lg]
        omega
       have NX:=LC (lv:=[]) (N:=NN) hDb hSb.2 (by omega) (by omega) (by rw[hpl];exact Dj)
       obtain⟨pr,hpr2⟩:∃pr,pr=fj (kK (fy i nn A B most)).2 nn:=⟨_,rfl⟩
       rw[←hpr2] at NX hpl lY
       obtain⟨F2,Kh⟩:∃F2,F2=pH i ⟨2,[],pr,[]⟩:=⟨_,rfl⟩
       have hle:D.le (.ag [dI .i64 2,dN,.gw NN 36 pr.length,dN]) (.ag F2):=by
        rw[Kh,hNN]
        exact rC ⟨.inl rfl,.inr (.inr ⟨rfl,36,by decide,rfl⟩),.inl rfl,.inr (.inr ⟨rfl,36,by decide,rfl⟩),trivial⟩
       have hF2i:F2.all (D.idsC (NN+1))=true:=by
        rw[Kh]
        unfold pH
        rw[if_pos rfl,←hNN]
        simp only[cH,bP,bB,bq]
        exact⟨rfl,rfl,aF (show NN<NN+1 by omega),rfl⟩
       have DS:F2.length=4:=by rw[Kh];rfl
       refine sj [(4,.pt 1 0),(5,dI .i64 (kK (fy i nn A B most)).2.piv),(6,dI .i64 0)] ⟨(1,F2)::(NN,dC ((cW az).f pr))::VB,[],NN+1⟩ ?_ ?_
       ·refine dw (DW.split 1 6 (by decide) ?_ ?_)
        ·refine DW.split 6 7 (by decide) ?_ ?_
         ·refine dwg [] [0,1,2,3,4,5,6,7,8,9] hx (by kernel_rfl) (by kernel_rfl) (by kernel_rfl) fun K hK=>?_
          dsimp only[et,mA,mK,List.map]
          refine sa ?_
          refine q1 (sHC NX rfl (.inl (by kernel_rfl))) ?_
          refine s2 (ee tbI) hle ?_
          refine sa ?_
          refine sa ?_
          refine sa ?_
          refine c1 n0 ?_
          refine v1 (ys:=F2) (Pt.all (F:=dC ls)) rfl DS rfl ?_
          refine sa ?_
          refine sa ?_
          refine .nil (hK _ _ ⟨rfl,wk1 t6⟩)
         ·refine dwg [] [0,1,2,7,3,4,5,6,8,9] hx (by kernel_rfl) (by kernel_rfl) (by kernel_rfl) fun K hK=>?_
          dsimp only[et,mA,mK,List.map]
          refine sa ?_
          refine q1 (sHC NX rfl (.inl (by kernel_rfl))) ?_
          refine s2 (ee tbI) hle ?_
          refine v1 (ys:=F2) (Pt.all (F:=dC ls)) rfl DS rfl ?_
          refine sa ?_
          refine sa ?_
          refine sa ?_
          refine c1 n0 ?_
          refine sa ?_
          refine sa ?_
          refine .nil (hK _ _ ⟨rfl,wk1 t6⟩)
        ·refine dwg [] [3,4,5,6,0,1,2,7,8,9] hx (by kernel_rfl) (by kernel_rfl) (by kernel_rfl) fun K hK=>?_
         dsimp only[et,mA,mK,List.map]
         refine sa ?_
         refine sa ?_
         refine sa ?_
         refine c1 n0 ?_
         refine sa ?_
         refine q1 (sHC NX rfl (.inl (by kernel_rfl))) ?_
         refine s2 (ee tbI) hle ?_
         refine v1 (ys:=F2) (Pt.all (F:=dC ls)) rfl DS rfl ?_
         refine sa ?_
         refine sa ?_
         refine .nil (hK _ _ ⟨rfl,wk1 t6⟩)
       ·exact AW.ret (rtS t6 lY (by rw[←Kh];exact aa) (fun _=>⟨by rw[←hNN];exact ak (by omega) aa,by omega⟩) (by omega))
      ·rw[if_neg (dV hb)] at lY
       exact AW.skip (⟨((kK (fy i nn A B most)).2,VB),⟨hDb,hSb.1,hSb.2,FG,OL,hokB,lY⟩,wk1 t6⟩)
    ·refine AW.skip ?_
     have lY:lm i nn A B C most=wa nn (fy i nn A B most) C:=by
      unfold lm
      dsimp only
      rw[if_neg (by rw[v7];simp)]
     exact⟨(fy i nn A B most,V),⟨A9,vy,rfl,hl0,hl1,nG,lY⟩,wk1 t6⟩
   ·rintro⟨d2,X⟩ ⟨hD2,hS2,Er,Df,Ep,hokX,lY⟩
    dsimp only at hD2 hS2 Er Df Ep hokX lY ⊢
    have haim:=h_aim (lv:=[]) (N:=NN) (c:=C) A8 hD2 (ww i) hS2 (by omega) (by omega) hw0 (by omega)
    have hSA:=hS2.aim C
    have hfA:Dif i 2 (rV i) (NN+3) cV:=⟨(ww i).dR,by omega,by omega,fun j hj=>⟨((ww i).C1 j hj).1,((ww i).C1 j hj).2.1,by unfold cV;omega⟩,(ww i).C2⟩
    obtain⟨VA,hVA⟩:∃VA,VA=ov 2 (rV i) (NN+3) cV w (mV d2 C).2 X:=⟨_,rfl⟩
    have DJ:cE ⟨VA,[],NN+4⟩:=by rw[hVA];exact z9 (hokX.up (by omega)) (by omega) (by omega) (by omega) fun j hj=>by rw[hSA.1.len] at hj;unfold cV;omega
    have hDA:DAt VA 2 (rV i) (NN+3) cV w (mV d2 C).2:=by rw[hVA];exact hSA.1.at hfA
    have hoA:∀{W:List (Nat×List D)} {e:Dic},da e w i→∀k ds,k≤1→W.lookup k=some ds→(ov 2 (rV i) (NN+3) cV w e W).lookup k=some ds:=fun {W e} hSe k ds hk h=>
     BC hSe (by omega) (fun e=>by unfold rV;rw[if_neg e];omega) (by omega) (fun j _=>by unfold cV;omega) h
    have hA1:VA.lookup 1=some (dC ls):=by rw[hVA];exact hoA hSA.1 1 _ (by decide) Ep
    rw[←hVA] at haim
    clear hVA
    refine AW.seq (rs hx fun K hK=>?_)
    iterate 2 refine sa ?_
    refine c1 (rR (t:=4) rfl) ?_
    refine q1 (sHC haim rfl (.inl (by kernel_rfl))) ?_
    refine sa ?_
    refine .nil (hK _ _ (rs hx fun K hK=>?_))
    iterate 2 refine sa ?_
    refine .nil (hK _ _ (AW.condS rfl (fun hb=>?_) (fun hb=>?_)))
    ·have lY:=lY.trans (endP_1 (by simpa using hb))
     refine rs hx fun K hK=>?_
     refine s2 (ee tbI) (u4 i) ?_
     refine sa ?_
     refine v1 (ys:=pH i ⟨0,[],[],[]⟩) (Pt.all (F:=dC ls)) rfl rfl rfl ?_
     iterate 2 refine sa ?_
     exact .nil (hK _ _ (AW.ret (rtS t6 lY aa (fun e=>by cases e) (by omega))))
    have c5:¬(mV d2 C).1≠0:=by simpa using hb
    clear hb
    refine AW.skip ?_
    have himp:=Ev (lv:=[]) (N:=NN+4) (show rV i<NN+4 by omega) hDA hfA hSA.1 (by omega) (by omega)
    have Ca:=hSA.1.improveP
    obtain⟨VI,hVI⟩:∃VI,VI=ov 2 (rV i) (NN+3) cV w (bh (mV d2 C).2).2 VA:=⟨_,rfl⟩
    have hokVI:cE ⟨VI,[],NN+4⟩:=by rw[hVI];exact z9 DJ (by omega) (by omega) (by omega) fun j hj=>by rw[Ca.1.len] at hj;unfold cV;omega
    have hDI:DAt VI 2 (rV i) (NN+3) cV w (bh (mV d2 C).2).2:=by rw[hVI];exact Ca.1.at hfA
    have hI1:VI.lookup 1=some (dC ls):=by rw[hVI];exact hoA Ca.1 1 _ (by decide) hA1
    rw[←hVI] at himp
    clear hVI
    have oq:=c5
    have NO:lm i nn A B C most=wa nn d2 C:=lY
    have hnF:(bh (mV d2 C).2).2.n=(nn:Int):=by rw[Ca.2.2.1,hSA.2,Er]
    have hgc:(bh (mV d2 C).2).2.gc.length=w:=Ca.1.lg
    obtain⟨hs1,Mg⟩:=Ca.2.2.2
    obtain⟨q,hq⟩:∃q,q=bh (mV d2 C).2:=⟨_,rfl⟩
    have hE2:=fun h2=>NO.trans (endP_2 c5 h2)
    have hE3:=fun h2 h3=>NO.trans (endP_3 c5 h2 h3)
    have hE4:=fun h2 (s:Nat) h3=>NO.trans (endP_4 (s:=s) c5 h2 h3)
    rw[←hq] at himp Ca hDI hnF hgc hs1 Mg hE2 hE3 hE4
    clear hq
    refine rs hx fun K hK=>?_
    refine sa ?_
    refine q1 (sHC himp rfl (.inl (by kernel_rfl))) ?_
    iterate 3 refine sa ?_
    refine a1 (F:=[.lit (.int .i64 0)]) tbI ?_
    refine v1 (F2:=[dI .i64 q.1.1]) (ys:=[dI .i64 q.1.1]) (Pt.all (F:=dC [.lit (.int .i64 0)])) rfl rfl rfl ?_
    refine sa ?_
    refine .nil (hK _ _ ?_)
    obtain⟨W,hW⟩:∃W,W=(NN+4,[dI .i64 q.1.1])::(NN+4,dC [.lit (.int .i64 0)])::VI:=⟨_,rfl⟩
    have hWx:∀k ds,VI.lookup k=some ds→W.lookup k=some ds:=fun k ds h=>by
     have:=hokVI.lt h
     rw[hW];exact ak (by omega) (ak (by omega) h)
    have hWs:W.lookup (NN+4)=some [dI .i64 q.1.1]:=by rw[hW];exact aa
    have hokW:cE ⟨W,[],NN+5⟩:=by
     rw[hW]
     exact ((hokVI.up (by omega)).consM (by omega) (eJ _)).consM (by omega) rfl
    have hDW:=hDI.up hWx
    have hW1:=hWx 1 _ hI1
    have hWd:=hDW.hd
    rw[←hW]
    clear hW
    refine AW.seq (rs hx fun K hK=>?_)
    iterate 2 refine sa ?_
    refine .nil (hK _ _ (AW.condS rfl (fun hb=>?_) (fun hb=>?_)))
    ·have lY:=hE2 (by simpa using hb)
     refine rs hx fun K hK=>?_
     refine s2 (ee tbI) (u4 i) ?_
     refine sa ?_
     refine v1 (ys:=pH i ⟨0,[],[],[]⟩) (Pt.all (F:=dC ls)) rfl rfl rfl ?_
     iterate 2 refine sa ?_
     exact .nil (hK _ _ (AW.ret (rtS t6 lY aa (fun e=>by cases e) (by omega))))
    have bb:¬q.1.2≠0:=by simpa using hb
    clear hb
    refine AW.skip ?_
    have tp:=HC.conv (ds:=[.pt 2 0,.e (.lit (.func (.func 48) #[] #[])),.e (.lit (.func (.func 49) #[] #[]))]) (ds':=[.pt 2 0,.fn 48 [],.fn 49 []]) rfl (fun g w' j a b v ha hb hr=>by
      match j with
      |0=>injection ha with ha;injection hb with hb;subst ha hb;exact hr
      |1=>injection ha with ha;injection hb with hb;subst ha hb;exact JS hr
      |2=>injection ha with ha;injection hb with hb;subst ha hb;exact JS hr
      |j+3=>cases ha)
     (Hm (lv:=[]) (N:=NN+5) (fo:=48) (ft:=49) (ko:=[]) (kt:=[]) (of:=Row.k) (ot:=fun _=>0) hDW Ca.1 (by omega) hnF (by omega) (fun k hk=>absurd hk pJ) (fun k hk=>absurd hk pJ) (fun _=>by omega) (fun V2 De M j _ _=>OH) (fun V2 De M v _=>OG v))
    refine rs hx fun K hK=>?_
    refine sa ?_
    refine q1 (sHC tp rfl (.inl (by kernel_rfl))) ?_
    refine sa ?_
    refine .nil (hK _ _ (AW.seq (rs hx fun K hK=>?_)))
    refine c1 (Pt.all (F:=[dI .i64 q.1.1])) ?_
    refine sa ?_
    refine .nil (hK _ _ (AW.condS rfl (fun hb=>?_) (fun hb=>?_)))
    ·have lY:=hE3 bb (cj hb)
     have NX:=OB (lv:=[]) (N:=NN+5) (nn:=nn) hDW hnF (by omega) (by omega)
     obtain⟨F2,Kh⟩:∃F2,F2=pH i ⟨1,mp q.2.rows nn Row.k fun _=>nOf 0,fj q.2 nn,[]⟩:=⟨_,rfl⟩
     have hle:D.le (.ag [dI .i64 1,.e (slE az (mp q.2.rows nn Row.k fun _=>nOf 0)),.e (slE az (fj q.2 nn)),dN]) (.ag F2):=by
      rw[Kh]
      exact rC ⟨.inl rfl,.inl rfl,.inl rfl,.inr (.inr ⟨rfl,36,by decide,rfl⟩),trivial⟩
     have hF2i:F2.all (D.idsC (NN+5))=true:=by rw[Kh];rfl
     have DS:F2.length=4:=by rw[Kh];rfl
     refine sj [(4,.pt 1 0),(5,dI .i64 q.2.piv),(6,dI .i64 0)] ⟨(1,F2)::W,[],NN+5⟩ ?_ ?_
     ·refine dw (DW.split 2 7 (by decide) ?_ ?_)
      ·refine DW.split 7 8 (by decide) ?_ ?_
       ·refine dwg [] [0,1,2,3,4,5,6,7,8,9,10] hx (by kernel_rfl) (by kernel_rfl) (by kernel_rfl) fun K hK=>?_
        dsimp only[et,mA,mK,List.map]
        refine sa ?_
        refine sa ?_
        refine q1 (sHC NX rfl (.inl (by kernel_rfl))) ?_
        refine s2 (ee tbI) hle ?_
        refine sa ?_
        refine sa ?_
        refine sa ?_
        refine c1 n0 ?_
        refine v1 (ys:=F2) (Pt.all (F:=dC ls)) rfl DS rfl ?_
        refine sa ?_
        refine sa ?_
        refine .nil (hK _ _ ⟨rfl,wk1 t6⟩)
       ·refine dwg [] [0,1,2,3,8,4,5,6,7,9,10] hx (by kernel_rfl) (by kernel_rfl) (by kernel_rfl) fun K hK=>?_
        dsimp only[et,mA,mK,List.map]
        refine sa ?_
        refine sa ?_
        refine q1 (sHC NX rfl (.inl (by kernel_rfl))) ?_
        refine s2 (ee tbI) hle ?_
        refine v1 (ys:=F2) (Pt.all (F:=dC ls)) rfl DS rfl ?_
        refine sa ?_
        refine sa ?_
        refine sa ?_
        refine c1 n0 ?_
        refine sa ?_
        refine sa ?_
        refine .nil (hK _ _ ⟨rfl,wk1 t6⟩)
      ·refine dwg [] [4,5,6,7,0,1,2,3,8,9,10] hx (by kernel_rfl) (by kernel_rfl) (by kernel_rfl) fun K hK=>?_
       dsimp only[et,mA,mK,List.map]
       refine sa ?_
       refine sa ?_
       refine sa ?_
       refine c1 n0 ?_
       refine sa ?_
       refine sa ?_
       refine q1 (sHC NX rfl (.inl (by kernel_rfl))) ?_
       refine s2 (ee tbI) hle ?_
       refine v1 (ys:=F2) (Pt.all (F:=dC ls)) rfl DS rfl ?_
       refine sa ?_
       refine sa ?_
       refine .nil (hK _ _ ⟨rfl,wk1 t6⟩)
     ·exact AW.ret (rtS t6 lY (by rw[←Kh];exact aa) (fun e=>by cases e) (by omega))
    have t4:¬q.1.1<0:=dV hb
    clear hb
    obtain⟨s,hs⟩:∃s:Nat,q.1.1=(s:Int):=⟨q.1.1.toNat,by omega⟩
    have lY:=hE4 bb s hs
    rw[hs] at hWs
    have hsw:s<w:=by omega
    refine AW.skip ?_
    have hval2:=Hm (lv:=[]) (N:=NN+5) (fo:=50) (ft:=51) (ko:=[NN+4]) (kt:=[NN+4]) (of:=fun r=>r.c[s]!) (ot:=fun v=>if (v:Int)=(s:Int) then 1 else 0) hDW Ca.1 (by omega) hnF (by omega) (fun k hk=>by rw[pI.1 hk];omega) (fun k hk=>by rw[pI.1 hk];omega) (fun v=>by split <;> omega)
     (fun V2 De M j DR hj=>OF (DR _ _ hWs) (DR _ _ (hDW.hC j _ (uV (by rw[Ca.1.len];exact hj)))) (hDW.lC j _ (uV (by rw[Ca.1.len];exact hj))) hsw) (fun V2 De M v DR=>OE v (DR _ _ hWs))
    refine rs hx fun K hK=>?_
    refine sa ?_
    refine s1 CU ?_
    refine s1 CU ?_
    refine q1 (sHC hval2 rfl (.inl (by kernel_rfl))) ?_
    refine sa ?_
    refine .nil (hK _ _ ?_)
    obtain⟨F2,Kh⟩:∃F2,F2=pH i ⟨3,mp q.2.rows nn Row.k fun _=>nOf 0,[],mp q.2.rows nn (fun r=>r.c[s]!) fun v=>nOf (if (v:Int)=(s:Int) then 1 else 0)⟩:=⟨_,rfl⟩
    have hle:D.le (.ag [dI .i64 3,.e (slE az (mp q.2.rows nn Row.k fun _=>nOf 0)),dN,.e (slE az (mp q.2.rows nn (fun r=>r.c[s]!) fun v=>nOf (if (v:Int)=(s:Int) then 1 else 0)))]) (.ag F2):=by
     rw[Kh]
     exact rC ⟨.inl rfl,.inl rfl,.inr (.inr ⟨rfl,36,by decide,rfl⟩),.inl rfl,trivial⟩
    have hF2i:F2.all (D.idsC (NN+5))=true:=by rw[Kh];rfl
    have DS:F2.length=4:=by rw[Kh];rfl
    refine sj [(4,.pt 1 0),(5,dI .i64 q.2.piv),(6,dI .i64 0)] ⟨(1,F2)::W,[],NN+5⟩ ?_ ?_
    ·refine dw (DW.split 6 7 (by decide) ?_ ?_)
     ·refine dwg [] [0,1,2,3,4,5,6,7,8,9] hx (by kernel_rfl) (by kernel_rfl) (by kernel_rfl) fun K hK=>?_
      dsimp only[et,mA,mK,List.map]
      refine sa ?_
      refine sa ?_
      refine s2 (ee tbI) hle ?_
      refine sa ?_
      refine sa ?_
      refine sa ?_
      refine c1 n0 ?_
      refine v1 (ys:=F2) (Pt.all (F:=dC ls)) rfl DS rfl ?_
      refine sa ?_
      refine sa ?_
      refine .nil (hK _ _ ⟨rfl,wk1 t6⟩)
     ·refine dwg [] [0,1,2,7,3,4,5,6,8,9] hx (by kernel_rfl) (by kernel_rfl) (by kernel_rfl) fun K hK=>?_
      dsimp only[et,mA,mK,List.map]
      refine sa ?_
      refine sa ?_
      refine s2 (ee tbI) hle ?_
      refine v1 (ys:=F2) (Pt.all (F:=dC ls)) rfl DS rfl ?_
      refine sa ?_
      refine sa ?_
      refine sa ?_
      refine c1 n0 ?_
      refine sa ?_
      refine sa ?_
      refine .nil (hK _ _ ⟨rfl,wk1 t6⟩)
    ·exact AW.ret (rtS t6 lY (by rw[←Kh];exact aa) (fun e=>by cases e) (by omega))
end
end
section
theorem AR.tu {hp:Hp}{ds es:List D}(h:ARs hp ds es):AR hp (.tu ds) (.tu es):=by
 intro B g w v hr hd
 obtain⟨h1,h2⟩:=h.get
 cases hd with
 |tu _ cs hl IW=>
  refine aO.tu es cs (by omega) fun j e u hj hu=>?_
  obtain⟨d,h3,h4⟩:=h2 j e hj
  exact h4 B g w u hr (IW j d u h3 hu)
theorem HC.toP {P:Program}{f:FuncId}{ds rs:List D}{d:D}{hp':Hp}(hc:HC P f ds ⟨[],[],0⟩ d hp')(ha:AR hp' d (.tu rs)):ax P f ds (.tu rs):=by
 refine⟨hc.1,fun w F vs hF hsz dc=>?_⟩
 have hr:HR w.heap.size ⟨[],[],0⟩ ⟨fun _=>0,fun _=>default,F⟩ w:=
  ⟨fun k ds h=>by simp at h,fun k k' a b h=>by simp at h,fun id n e h=>by simp at h,fun id zt a b c h=>by simp at h,aB _,hF⟩
 refine (hc.2 w.heap.size _ w vs hr hsz dc).mono ?_
 rintro e w' ⟨v,g',rfl,o4,_,hd,hb,hfx⟩
 refine⟨v,rfl,(ha _ g' w' v o4 hd).less fun p hp=>⟨hfx p (hF p hp) hp,fun k ds hk he=>?_⟩,hb⟩
 have h1:=(o4.var k ds hk).2.1
 have h2:=hF p hp
 omega
def mkNu(x:aq)(h:okR x):Nu:=⟨x,h⟩
open Classical in
def mJ(x:aq):Nu:=if h:okR x then mkNu x h else default
theorem nv_nuOf {x:aq}(h:okR x):nv (mJ x)=x:=by unfold mJ;rw[dif_pos h];rfl
theorem nuOf_nv(x:Nu):mJ (nv x)=x:=by unfold mJ;rw[dif_pos (show okR (nv x) from x.2)];rfl
def okL(l:List aq):Prop:=∀x∈l,okR x
theorem sm {l:List aq}(h:okL l):(l.map mJ).map nv=l:=by
 rw[px]
 exact (rN fun x hx=>nv_nuOf (h x hx)).trans (List.map_id _)
theorem BG(l:List Nu):okL (l.map nv):=fun x hx=>by
 obtain⟨a,_,rfl⟩:=sH.1 hx
 exact a.2
theorem pE(l:List Nu):(l.map nv).map mJ=l:=by
 rw[px]
 exact (rN fun x _=>nuOf_nv x).trans (List.map_id _)
structure VP(p:bY)(m nn:Nat):Prop where
 hr:p.vA.vR=m
 hc:p.vA.vC=nn
 hm:m≤2000
 hn:nn≤2000
 oA:okL p.vA.vV
 oB:okL p.vB
 oC:okL p.vC
 lA:p.vA.vV.length=m*nn
 lB:p.vB.length=m
 lC:p.vC.length=nn
 gA:∀i,i<(p.vA.vV.map mJ).length→aK (p.vA.vV.map mJ)[i]! =true
 gB:∀i,i<(p.vB.map mJ).length→aK (p.vB.map mJ)[i]! =true
 gC:∀i,i<(p.vC.map mJ).length→aK (p.vC.map mJ)[i]! =true
def tE(r:Ans×Int×Int):bW×Int×Int:=(⟨r.1.kind,r.1.x.map nv,r.1.y.map nv,r.1.ray.map nv⟩,r.2.1,r.2.2)
open Classical in
def kU(oa:bY)(kB:Int):Option (bW×Int×Int):=
 bnd (gT oa) fun v=>if v=true∧0≤kB then
  if VP oa oa.vA.vR.toNat oa.vA.vC.toNat∧kB≤9223372036854775807 then some (tE (lm oa.vA.vR.toNat oa.vA.vC.toNat (oa.vA.vV.map mJ) (oa.vB.map mJ) (oa.vC.map mJ) kB)) else none
 else some (tE (⟨0,[],[],[]⟩,0,1))
theorem VP.cells {p:bY}{m nn:Nat}(h:VP p m nn):dG ci p=.ag (prC m nn (p.vA.vV.map mJ) (p.vB.map mJ) (p.vC.map mJ)):=by
 unfold prC
 rw[kA,kA,kA,sm h.oA,sm h.oB,sm h.oC,←h.hr,←h.hc]
 rfl
theorem AR.dn {hp:Hp}{e:E}(h:(D.e e).pure=true):AR hp (.e e) (.e e):=AR.data (d:=.e e) h
theorem AR.same {hp:Hp}{d:D}(h:d.pure=true):AR hp d d:=by
 have h2:=AR.data (hp:=hp) (d:=d) (by rw[AY h];exact h)
 rwa[AY h] at h2
theorem PC(m:Nat)(r:Ans×Int×Int):AR (DA m r) (Iq m r) (.tu [dG dU (tE r).1,dI .i64 (tE r).2.1,dI .i64 (tE r).2.2]):=by
 have hA:AR (DA m r) (.ag (pH m r.1)) (dG dU (tE r).1):=by
  have e:dG dU (tE r).1=.ag [dI .i64 r.1.kind,.e (slE az r.1.x),.e (slE az r.1.y),.e (slE az r.1.ray)]:=by
   rw[kA,kA,kA];rfl
  rw[e]
  refine AR.ag ⟨AR.dn rfl,AR.dn rfl,?_,AR.dn rfl,trivial⟩
  by_cases hk:r.1.kind=2
  ·rw[if_pos hk]
   refine AR.gw (F:=(cW az).f r.1.y) ?_ (by decide) ?_
   ·unfold DA
    rw[if_pos hk]
    exact ak (by omega) aa
   ·exact im az.f az.h r.1.y
  ·rw[if_neg hk]
   exact AR.dn rfl
 exact AR.tu ⟨hA,AR.dn rfl,AR.dn rfl,trivial⟩
theorem OD {cs:List D}{v:Bool}{most:Int}(hlen:cs.length=5)(hpu:(D.ag cs).pure=true)(hv:ax Tryz.prog 15 [.ag cs] (dB v))(hbad:¬(v=true∧0≤most)):
  HC Tryz.prog 12 [.ag cs,dI .i64 most] ⟨[],[],0⟩ (Iq 0 (⟨0,[],[],[]⟩,0,1)) (DA 0 (⟨0,[],[],[]⟩,0,1)):=by
 refine HC.of (rs:=[.cell 4 29,.tmp 5,.tmp 6]) tok Tryz.func12 rfl rfl (dq rfl) rfl (fun cx hx t6 hok=>?_)
 simp only[fL,Nat.reduceAdd,bJ]
 refine rs hx fun K hK=>?_
 refine s1 (gD (cs:=cs)) ?_
 refine a1 (F:=ls) tbI ?_
 iterate 2 refine sa ?_
 refine .nil (hK _ _ (AW.seq (rs hx fun K hK=>?_)))
 refine p1 (ht:=mE) (Pt.all (F:=cs)) hlen ?_
 refine q1 (sHC (HC.frz (ds:=[.ag cs]) hv ⟨AR.same hpu,trivial⟩ rfl) rfl (.inr (Fr.refl _))) ?_
 iterate 2 refine sa ?_
 cases v with
 |false=>
  iterate 2 refine gn rfl ?_
  refine s1 (d:=dB true) (aw rfl) ?_
  refine .nil (hK _ _ (AW.condT rfl rfl (rs hx fun K hK=>?_)))
  refine s2 (ee tbI) (u4 0) ?_
  refine v1 (ys:=pH 0 ⟨0,[],[],[]⟩) (Pt.all (F:=dC ls)) rfl rfl rfl ?_
  iterate 2 refine sa ?_
  exact .nil (hK _ _ (AW.ret (rtS t6 rfl aa (fun e=>by cases e) (by omega))))
 |true=>
  iterate 2 refine ga rfl ?_
  refine s1 (d:=dB (decide (most<0))) (al rfl) ?_
  refine .nil (hK _ _ (AW.condT rfl (aF (by simp only[true_and] at hbad;omega)) (rs hx fun K hK=>?_)))
  refine s2 (ee tbI) (u4 0) ?_
  refine v1 (ys:=pH 0 ⟨0,[],[],[]⟩) (Pt.all (F:=dC ls)) rfl rfl rfl ?_
  iterate 2 refine sa ?_
  exact .nil (hK _ _ (AW.ret (rtS t6 rfl aa (fun e=>by cases e) (by omega))))
theorem AA {oa:bY}{kB:Int}{r:bW×Int×Int}(h:kU oa kB=some r):ax Tryz.prog 12 [dG ci oa,dI .i64 kB] (.tu [dG dU r.1,dI .i64 r.2.1,dI .i64 r.2.2]):=by
 unfold kU at h
 obtain⟨v,hv,h⟩:=ab h
 have hv:=pB hv
 by_cases hg:v=true∧0≤kB
 ·rw[if_pos hg] at h
  by_cases hq:VP oa oa.vA.vR.toNat oa.vA.vC.toNat∧kB≤9223372036854775807
  ·rw[if_pos hq] at h
   have h:=bQ h
   subst h
   obtain⟨hq,Of⟩:=hq
   rw[hg.1] at hv
   rw[hq.cells] at hv ⊢
   have h2:=Kg (most:=kB) hv hq.hm hq.hn (by rw[bT];exact hq.lA) (by rw[bT];exact hq.lB) (by rw[bT];exact hq.lC) hq.gA hq.gB hq.gC hg.2 Of
   exact HC.toP h2 (PC _ _)
  ·rw[if_neg hq] at h;cases h
 ·rw[if_neg hg] at h
  have h:=bQ h
  subst h
  have h2:=OD (cs:=dC (ci.f oa)) ((eK _).trans (ci.h oa)) (g9 ci oa) hv hg
  exact HC.toP h2 (PC _ _)
end
theorem oe:El Tryz.prog 22 43 (.agg #[.bool false,.bool false,ah,ah,ah,ah,ah,ah,ah,ah,ah,ah,ah,ah,ah,ah,ah,ah,.bool false,.bool false,ah,ah,ah,ah,ah,ah,ah,ah,ah,ah,ah,ah,ah,ah,ah,ah]) 36 136:=⟨Tryz.underlying22,info_parts (by kernel_rfl),rfl,by decide⟩
set_option maxHeartbeats 1000000 in
theorem ob(n:Nat)(us:List Value)(v:Value)(w:World)(hl:Sl w v 36 n us)(h1:∀u∈us,u.oneCell'=true)(hn:n≤1000000):
  Calls Tryz.prog 138 #[v] w fun e w'=>∃q,e=.returned q∧w'.ownsRow w.heap.size 43 36 q n us∧Below w.heap.size w w':=by
 obtain⟨A,c,rfl,pz,oo,hr⟩:=id hl
 cases A with
 |none=>
  obtain rfl:n=0:=by
   rcases qO n with h|h
   ·exact h
   ·obtain⟨_,h,_⟩:=hr.2 h;cases h
  obtain rfl:us=[]:=rm (by simpa using hr.1)
  have he:(binOp .eql 22 (.slice none 0 c) (.slice none 0 0)).run Tryz.prog w=.ok (.bool true) w:=by kernel_rfl
  go_enter Tryz.func138,Tryz.ntmps138
  go_wp2_with fail
  go_ret
  exact⟨_,rfl,⟨rfl,.inl ⟨rfl,rfl⟩⟩,Below.refl _ _⟩
 |some ad=>
  have he:(binOp .eql 22 (.slice (some ad) n c) (.slice none 0 0)).run Tryz.prog w=.ok (.bool false) w:=by kernel_rfl
  go_enter Tryz.func138,Tryz.ntmps138
  have hown0:=own_mtG w 43 w.heap.size 36 (aB _)
  have FG:=(Below.refl w.heap.size w).alloc (aB _) (.cells #[] 43)
  have FC:=hl.below FG
  have HL:=Lib.hid FC
  have H1:=Lib.hid h1
  clear hl hr FC h1
  go_wp2_with (at_builtin;refine xy _ rfl _ _ _ rfl oe w.heap.size _ _ _ rfl hown0 _ _ _ rfl HL.out H1.out (by omega) (by omega) (by simp) w w.heap.size FG (aB _) ?_)
  intro v' w' lq hb
  go_wp2_with fail
  go_ret
  refine⟨_,rfl,?_,hb⟩
  simpa using lq
theorem oc(n:Nat)(xs:List E)(hn:n≤1000000):ax Tryz.prog 138 [.e (.sl 36 n xs)] (.own 43 36 n xs):=
 Pk (by decide) ⟨_,Tryz.func138,rfl,rfl⟩ (fun us v w h1 h2=>ob n us v w h1 h2 hn)
def fT(l:List aq):Option (List aq):=gd (l.length≤1000000) (some l)
theorem oE {l r:List aq}(h:fT l=some r):ax Tryz.prog 138 [dL ai l] (.own 43 ai.sz r.length (r.flatMap ai.f)):=by
 obtain⟨hn,h⟩:=aC h
 obtain rfl:=bQ h
 exact oc _ _ hn
def e9(ep:List aq):(List aq)×Int→Option (((List aq)×Int)⊕((List aq))):=fun (bc,bt)=>cnd (decide (bt<((ep).length:Int))) (gd (0≤bt∧bt<((ep).length:Int)) (bnd (mc ((ep)[(bt).toNat]!)) fun x6=>gd ((bc++[x6]).length*136≤140737488355328) (some (.inl (bc++[x6],i64.wrap (bt+(1:Int))))))) (some (.inr bc))
def lK(ep:List aq):Option (List aq):=bnd (fT ep) fun x1=>bnd (bS (e9 ep) (x1,(0:Int))) fun bo=>some bo
theorem xz {ep:List aq}{r:List aq}(h:lK ep=some r):ax Tryz.prog 74 [dL ai ep] (.own 43 ai.sz r.length (r.flatMap ai.f)):=by
 refine bE (rs:=[.tmp 2]) (fun cx hx h0=>?_) Tryz.func74
 unfold lK at h
 refine rs hx fun K hK=>?_
 refine s1 (d:=dO 0 ai ([]:List aq)) (gE aM ay) ?_
 refine .nil (hK _ _ (rs hx fun K hK=>?_))
 refine sa ?_
 obtain⟨x1,vu,h⟩:=ab h
 refine s1 (iI rfl (oE vu) rfl (lA (ao _) lAn)) ?_
 refine sa ?_
 refine .nil (hK _ _ (AW.seq (ra hx ?_)))
 refine AW.block ?_
 obtain⟨bo,hy,h⟩:=ab h
 refine lp (S:=(List aq)×Int) (X:=(List aq)) (fun (bc,bt)=>[(3,dO 0 ai bc),(8,dL ai ep),(9,dI .i64 ((ep).length:Int)),(10,dI .i64 bt)]) (fun (bc,bt)=>⟨[],[(0,(bc).length,36,43)],1⟩) (PE cx (.exit 0) (fun bo=>[(3,dO 0 ai bo)]) fun bo=>⟨[],[(0,(bo).length,36,43)],1⟩) hy ?_ ?_ ?_
 exact wk h0 [1] (wR rfl (wR rfl (wR rfl (wR rfl wTn)))) wVn (wL rfl rfl wLn)
 clear hy h
 rintro⟨bc,bt⟩ y h
 dsimp only[e9] at h
 refine ra hx ?_
 refine AW.seq (cdh h rfl (fun bb h=>?_) (fun bb h=>?_))
 refine AW.skip (AW.seq (AW.block (rs hx fun K hK=>?_)))
 obtain⟨Eu,h⟩:=aC h
 have Lt:(bt).toNat<(ep).length:=by omega
 refine s1 (g7 Eu aM ay) ?_
 refine s1 (d:=dG ai ((ep)[(bt).toNat]!)) (mi (c:=ai) (l:=ep) (n:=(bt).toNat) (o:=0) ay Lt (f8 _ _ rfl)) ?_
 refine s1 (bm (F:=ai.f cY) ay) ?_
 refine s0 (aE (b':=(ep)[(bt).toNat]!) (am.id _ _) ay) ?_
 refine .nil (hK _ _ (rq hx fun K hK=>?_))
 refine sa ?_
 refine s1 (d:=dG ai ((ep)[(bt).toNat]!)) (au (am.id _ _) ay) ?_
 refine scb h uy fun x6 h=>?_
 refine s1 (kP ([x6]:List aq) ai aM ay) ?_
 obtain⟨Hi,h⟩:=aC h
 refine s1 (d:=dO 0 ai (bc++[x6])) (qZ aM ay Hi) ?_
 refine sa ?_
 refine .nil (hK _ _ (rb hx ?_))
 cases h
 exact PS.l (pe0 h0 [0])
 refine AW.exit ?_
 try dsimp only
 try simp only[aU,reduceIte,Nat.reduceEqDiff,reduceCtorEq]
 cases h
 exact PS.r ⟨by nofun,PE.i (wk h0 [0] (wR rfl wTn) wVn (wL rfl rfl wLn))⟩
 rintro ex tm' hp' ⟨rfl,hw⟩
 try dsimp only
 try simp only[aU,reduceIte,Nat.reduceEqDiff,reduceCtorEq]
 refine AW.weak hw (ra hx ?_)
 refine AW.ret ?_
 cases h
 exact og.own rfl rfl
def D.ren2(ρ:Nat→Nat):D→D
 | .tu ds=>.tu (ds.map (D.ren ρ))
 |d=>d.ren ρ
def D.okF2:D→Bool
 | .tu ds=>ds.all D.okF
 |d=>d.okF
theorem fwdF2 {hp dA:Hp}{g g2:Gh}{w:World}{ρ:Nat→Nat}{d:D}{v:Value}(h:aO hp g w d v)(hn:d.okF2=true)(rk:∀i,i<hp.next→ρ i<dA.next)(hμ:∀i,i<hp.next→g2.μ (ρ i)=g.μ i)(hτ:∀i,i<hp.next→g2.τ (ρ i)=g.τ i)(hF:g2.F=g.F)
  (hl:∀id,id<hp.next→∀y,dA.live.lookup (ρ id)=some y→hp.live.lookup id=some y):aO dA g2 w (d.ren2 ρ) v:=by
 cases d with
 |tu ds=>cases h with
  |tu _ cs hlen hr=>
   refine .tu _ cs (by simpa using hlen) fun j d u h2 h3=>?_
   rw[ek] at h2
   obtain⟨d0,h4,rfl⟩:=wB.1 h2
   exact Ce (hr j d0 u h4 h3) (cX.1 hn d0 (eo h4)) rk hμ hτ hF hl
 |ag ds=>exact Ce h hn rk hμ hτ hF hl
 |e y=>exact Ce h hn rk hμ hτ hF hl
 |own id z n xs=>exact Ce h hn rk hμ hτ hF hl
 |fu z n xs=>exact Ce h hn rk hμ hτ hF hl
 |fp xs off=>exact Ce h hn rk hμ hτ hF hl
 |pt k off=>exact Ce h hn rk hμ hτ hF hl
 |ow k off z n=>exact Ce h hn rk hμ hτ hF hl
 |gw k z n=>exact Ce h hn rk hμ hτ hF hl
 |fn f ks=>exact Ce h hn rk hμ hτ hF hl
 |opt b d=>cases hn
 |top=>exact .top v
theorem HC.frame2 {P:Program}{f:FuncId}{Kp ds:List D}{r:D}{Dc nF vs:List (Nat×List D)}{Dd rj lv:List (Nat×Nat×Nat×TypeId)}{m n' N:Nat}(h:HC P f Kp ⟨Dc,Dd,m⟩ r ⟨nF,rj,n'⟩)
  (os:List Nat) (hos:os.length=m) (FA:os.Nodup) (bX:∀o∈os,o<N) (ha:frA (fun i=>os.getD i 0) m ds Kp)
  (hv:∀k ds,Dc.lookup k=some ds→k<m∧(∃rI,vs.lookup (os.getD k 0)=some rI∧wI rI (ds.map (D.renC fun i=>os.getD i 0)))∧ds.all (D.idsC m)=true∧ds.all D.noO=true)
  (hl:∀id y,Dd.lookup id=some y→id<m∧lv.lookup (os.getD id 0)=some y)
  (hr:r.okF2=true) (hvo:∀p∈nF,p.2.all D.okC=true):
  HC P f ds ⟨vs,lv,N⟩ (r.ren2 (rn os m N)) ⟨frV (rn os m N) os nF vs,frL (rn os m N) os rj lv,N+(n' - m)⟩:=by
 subst hos
 refine⟨h.1,fun B g w us hR hsz dc=>?_⟩
 have jK:∀i,i<os.length→os.getD i 0∈os:=fun i hi=>by
  rw[tG,c0 hi];exact pM hi
 have w9:∀i j,i<os.length→j<os.length→os.getD i 0=os.getD j 0→i=j:=fun i j hi hj he=>by
  rw[tG,tG,c0 hi,c0 hj] at he
  have hp:=List.pairwise_iff_getElem.1 FA
  simp only[u5] at he
  rcases Nat.lt_trichotomy i j with h3|h3|h3
  ·exact absurd he (hp _ _ hi hj h3)
  ·exact h3
  ·exact absurd he.symm (hp _ _ hj hi h3)
 have hS:=HR.ren (hpS:=⟨Dc,Dd,os.length⟩) hR (fun i=>os.getD i 0) (fun i j hi hj he=>w9 i j hi hj he) hv hl
 have dZ:∀id y,(⟨Dc,Dd,os.length⟩:Hp).live.lookup id=some y→(⟨vs,lv,N⟩:Hp).live.lookup (os.getD id 0)=some y:=fun id y h=>(hl _ _ h).2
 refine (h.2 B _ w us hS (by rw[hsz,FK ha]) (fun j e u he hu=>?_)).mono ?_
 ·obtain⟨d,h1,h2,h3,h4⟩:=FM ha he
  exact AX ((dc j d u h1 hu).le h2) h3 h4 rfl (fun _=>rfl) (fun _=>rfl) rfl dZ
 rintro en w' ⟨v,g',rfl,Hr,hM,pg,hB,hF⟩
 -- the caller's ghosts
 let ρ:=rn os os.length N
 have rU:∀i,i<os.length→ρ i=os.getD i 0:=fun i hi=>by show rn os os.length N i=_;unfold rn;simp[hi]
 have tn:∀i,os.length≤i→ρ i=N+(i - os.length):=fun i hi=>by show rn os os.length N i=_;unfold rn;rw[bH (by omega)];rfl
 have N6:∀i,i<os.length→os.getD i 0<N:=fun i hi=>bX _ (jK i hi)
 have hmn:os.length≤n':=hM.next
 have hρn:∀i,i<n'→ρ i<N+(n' - os.length):=fun i hi=>by
  by_cases h1:i<os.length
  ·rw[rU i h1];have:=N6 i h1;omega
  ·rw[tn i (by omega)];omega
 have ND:∀i j,i<n'→j<n'→ρ i=ρ j→i=j:=fun i j hi hj he=>by
  by_cases h1:i<os.length <;> by_cases h2:j<os.length
  ·rw[rU i h1,rU j h2] at he;exact w9 i j h1 h2 he
  ·rw[rU i h1,tn j (by omega)] at he;have:=N6 i h1;omega
  ·rw[rU j h2,tn i (by omega)] at he;have:=N6 j h2;omega
  ·rw[tn i (by omega),tn j (by omega)] at he;omega
 let g2:Gh:=⟨fun j=>if j<N then g.μ j else g'.μ (os.length+(j - N)),fun j=>if j<N then (if j∈os then g'.τ (os.idxOf j) else g.τ j) else g'.τ (os.length+(j - N)),g'.F⟩
 let dA:Hp:=⟨frV ρ os nF vs,frL ρ os rj lv,N+(n' - os.length)⟩
 have DH:∀j,j<N→g2.μ j=g.μ j:=fun j hj=>if_pos hj
 have IM:∀j,j<N→j∉os→g2.τ j=g.τ j:=fun j hj ho=>by
  show (if j<N then _ else _)=_
  rw[if_pos hj,if_neg ho]
 have DG:∀i,i<n'→g2.μ (ρ i)=g'.μ i:=fun i hi=>by
  by_cases h1:i<os.length
  ·rw[rU i h1,DH _ (N6 i h1)];exact (hM.μ i h1).symm
  ·rw[tn i (by omega)]
   show (if _ then _ else _)=_
   rw[if_neg (by omega),show os.length+(N+(i - os.length) - N)=i by omega]
 have Fw:∀i,i<n'→g2.τ (ρ i)=g'.τ i:=fun i hi=>by
  by_cases h1:i<os.length
  ·rw[rU i h1]
   show (if _ then (if _ then _ else _) else _)=_
   rw[if_pos (N6 i h1),if_pos (jK i h1)]
   have:os.idxOf (os.getD i 0)=i:=by
    have h2:os.idxOf (os.getD i 0)<os.length:=List.idxOf_lt_length_of_mem (jK i h1)
    refine w9 _ _ h2 h1 ?_
    rw[tG (i:=os.idxOf _),c0 h2]
    exact List.getElem_idxOf h2
   rw[this]
  ·rw[tn i (by omega)]
   show (if _ then _ else _)=_
   rw[if_neg (by omega),show os.length+(N+(i - os.length) - N)=i by omega]
 have ss:∀k ds,dA.vars.lookup k=some ds→(∃i rI,ρ i=k∧i<n'∧nF.lookup i=some rI∧rI.map (D.renC ρ)=ds)∨(k∉os∧k<N∧vs.lookup k=some ds):=fun k ds hk=>by
  rcases qw hk with h1|h1
  ·obtain⟨i,a,h2,h3,h4⟩:=lW ρ (fun a:List D=>a.map (D.renC ρ)) h1
   exact .inl ⟨i,a,h2,(Hr.var i a h3).1,h3,h4⟩
  ·obtain⟨h2,h3⟩:=je h1
   exact .inr ⟨h2,(hR.var k ds h3).1,h3⟩
 have su:∀k y,dA.live.lookup k=some y→(∃i,ρ i=k∧i<n'∧rj.lookup i=some y)∨(k∉os∧k<N∧lv.lookup k=some y):=fun k y hk=>by
  rcases qw hk with h1|h1
  ·obtain⟨i,a,h2,h3,h4⟩:=lW ρ (fun a:Nat×Nat×TypeId=>a) h1
   subst h4
   exact .inl ⟨i,h2,(Hr.tok i a.1 a.2 h3).1,h3⟩
  ·obtain⟨h2,h3⟩:=je h1
   exact .inr ⟨h2,(hR.tok k y.1 y.2 h3).1,h3⟩
 have hlρ:∀id,id<n'→∀y,dA.live.lookup (ρ id)=some y→rj.lookup id=some y:=fun id hid y hy=>by
  rcases su _ _ hy with⟨i,h1,h2,h3⟩|⟨h1,h2,_⟩
  ·rw[←ND i id h2 hid h1];exact h3
  ·exfalso
   by_cases h4:id<os.length
   ·rw[rU id h4] at h1;exact h1 (jK id h4)
   ·rw[tn id (by omega)] at h2;omega
 -- blocks of what was not in hand are free for the callee
 have yf:∀k ds,k∉os→vs.lookup k=some ds→g.μ k<w.heap.size∧Mb ⟨Dc,Dd,os.length⟩ ⟨fun i=>g.μ (os.getD i 0),fun i=>g.τ (os.getD i 0),g.F⟩ (g.μ k):=fun k ds ho hk=>by
  refine⟨hR.var_lt (k:=k) (ds:=ds) hk,fun i di hi=>?_,fun i t hi=>?_⟩
  ·obtain⟨h1,⟨_,h2,_⟩,_⟩:=hv i di hi
   exact fun e=>ho (by rw[←hR.inj _ _ _ _ h2 hk e];exact jK i h1)
  ·obtain⟨h1,h2⟩:=hl i t hi
   obtain⟨_,_,_,_,h3⟩:=hR.tok _ t.1 t.2 h2
   exact fun e=>(h3 _ e).2 k ds hk rfl
 have yg:∀k t b,k∉os→lv.lookup k=some t→(g.τ k).ownBlock=some b→b<w.heap.size∧Mb ⟨Dc,Dd,os.length⟩ ⟨fun i=>g.μ (os.getD i 0),fun i=>g.τ (os.getD i 0),g.F⟩ b:=fun k t b ho hk hb=>by
  obtain⟨_,_,_,h1,h2⟩:=hR.tok k t.1 t.2 hk
  refine⟨(h1.lt b hb).2,fun i di hi=>?_,fun i t' hi=>?_⟩
  ·obtain⟨h1,⟨_,h3,_⟩,_⟩:=hv i di hi
   exact (h2 b hb).2 _ _ h3
  ·obtain⟨h1,h3⟩:=hl i t' hi
   exact fun e=>ho (by rw[←hR.tinj _ _ _ _ b h3 hk e hb];exact jK i h1)
 have mo:c9 ⟨vs,lv,N⟩ g w dA g2 w':=by
  refine⟨hM.size,hM.cell,hM.forb,sI _ _,fun k hk=>DH k hk,fun id hid n e hy=>?_,fun b hb hf=>?_,hM.szs⟩
  ·rcases su _ _ hy with⟨i,h1,h2,h3⟩|⟨h1,h2,h3⟩
   ·by_cases h4:i<os.length
    ·obtain⟨m0,h5,h6,h7⟩:=hM.live i h4 n e h3
     refine⟨m0,?_,h6,fun h=>?_⟩
     ·rw[←h1,rU i h4];exact dZ i _ h5
     ·rw[←h1,Fw i h2,h7 h,rU i h4]
    ·rw[←h1,tn i (by omega)] at hid
     have hid:N+(i - os.length)<N:=hid
     omega
   ·exact⟨n,h3,aB _,fun _=>IM id h2 h1⟩
  ·obtain⟨h1,h2,h3⟩:=hM.fr b hb ⟨fun k ds hk=>by
    obtain⟨_,⟨_,h5,_⟩,_⟩:=hv k ds hk
    exact hf.1 _ _ h5,fun id t hi=>hf.2 _ _ (dZ id t hi)⟩
   refine⟨h1,h2,fun k ds hk=>?_,fun id t hi=>?_⟩
   ·rcases ss _ _ hk with⟨i,_,rfl,h5,h6,_⟩|⟨_,h5,h6⟩
    ·rw[DG i h5];exact h3.1 _ _ h6
    ·rw[DH k h5];exact hf.1 _ _ h6
   ·rcases su _ _ hi with⟨i,rfl,h5,h6⟩|⟨h4,h5,h6⟩
    ·rw[Fw i h5];exact h3.2 _ _ h6
    ·rw[IM id h5 h4];exact hf.2 _ _ h6
 have fw:∀{d:D} {u:Value},d.okC=true→aO ⟨nF,rj,n'⟩ g' w' d u→aO dA g2 w' (d.renC ρ) u:=fun hd h=>AM h hd hρn DG Fw rfl hlρ
 refine⟨v,g2,rfl,⟨fun k ds hk=>?_,fun k k' ds ds' hk uh he=>?_,fun id n e hi=>?_,fun id zt t t' b hi wr hb ph=>?_,Hr.base,Hr.fits⟩,mo,fwdF2 pg hr hρn DG Fw rfl hlρ,hB,hF⟩
 ·rcases ss _ _ hk with⟨i,rI,rfl,h1,h2,rfl⟩|⟨h1,h2,h3⟩
  ·obtain⟨_,h4,h5,cs,ty,h6,h7,h8⟩:=Hr.var i rI h2
   rw[DG i h1]
   refine⟨hρn i h1,h4,h5,cs,ty,h6,by simpa using h7,fun j u hu=>⟨fun h=>(h8 j u hu).1 (by simpa using h),fun d hd=>?_⟩⟩
   rw[ek] at hd
   obtain⟨d0,ws,rfl⟩:=wB.1 hd
   exact fw (cX.1 (hvo _ (bR h2)) d0 (eo ws)) ((h8 j u hu).2 d0 ws)
  ·obtain⟨h4,h5⟩:=yf k ds h1 h3
   obtain⟨h6,h7,_⟩:=hM.fr _ h4 h5
   obtain⟨_,h8,h9,cs,ty,v9,AL,h12⟩:=hR.var k ds h3
   rw[DH k h2]
   exact⟨d8 h2 (sI _ _),h8,fun p hp=>h7 p hp (h9 p hp),cs,ty,h6.trans v9,AL,fun j u hu=>⟨(h12 j u hu).1,fun d hd=>((h12 j u hu).2 d hd).mono mo⟩⟩
 ·rcases ss _ _ hk with⟨i,rI,rfl,h1,h2,_⟩|⟨h1,h2,h3⟩ <;> rcases ss _ _ uh with⟨i',ds0',rfl,qa,pP,_⟩|⟨qa,pP,Ji⟩
  ·rw[DG i h1,DG i' qa] at he
   rw[Hr.inj _ _ _ _ h2 pP he]
  ·rw[DG i h1,DH _ pP] at he
   obtain⟨h4,h5⟩:=yf _ _ qa Ji
   exact absurd he ((hM.fr _ h4 h5).2.2.1 _ _ h2)
  ·rw[DG i' qa,DH _ h2] at he
   obtain⟨h4,h5⟩:=yf _ _ h1 h3
   exact absurd he.symm ((hM.fr _ h4 h5).2.2.1 _ _ pP)
  ·rw[DH _ h2,DH _ pP] at he
   exact hR.inj _ _ _ _ h3 Ji he
 ·rcases su _ _ hi with⟨i,rfl,h1,h2⟩|⟨h1,h2,h3⟩
  ·obtain⟨_,tV,h4,h5,h6⟩:=Hr.tok i n e h2
   rw[Fw i h1]
   refine⟨hρn i h1,tV,h4,h5,fun b hb=>⟨(h6 b hb).1,fun k ds hk=>?_⟩⟩
   rcases ss _ _ hk with⟨i',_,rfl,h7,h8,_⟩|⟨h7,h8,h9⟩
   ·rw[DG i' h7];exact (h6 b hb).2 _ _ h8
   ·rw[DH k h8]
    obtain⟨v9,AL⟩:=yf _ _ h7 h9
    intro e
    exact (hM.fr _ v9 AL).2.2.2 _ _ h2 (by rw[e];exact hb)
  ·obtain⟨_,tV,h4,h5,h6⟩:=hR.tok id n e h3
   rw[IM id h2 h1]
   refine⟨d8 h2 (sI _ _),tV,h4,⟨h5.1,?_⟩,fun b hb=>?_⟩
   ·rcases h5.2 with h0|⟨b,cap,cur,ug,hB',hh,r⟩
    ·exact .inl h0
    ·obtain⟨v9,AL⟩:=yg id _ b h1 h3 (by rw[ug];rfl)
     exact .inr ⟨b,cap,cur,ug,hB',(hM.fr _ v9 AL).1.trans hh,r⟩
   ·obtain⟨v9,AL⟩:=yg id _ b h1 h3 hb
    obtain⟨h12,h13,h14⟩:=hM.fr _ v9 AL
    refine⟨fun p h7 h8=>h13 p h7 ((h6 b hb).1 p h7 h8),fun k ds hk=>?_⟩
    rcases ss _ _ hk with⟨i',_,rfl,h7,h8,_⟩|⟨h7,h8,h9⟩
    ·rw[DG i' h7];exact h14.1 _ _ h8
    ·rw[DH k h8];exact (h6 b hb).2 _ _ h9
 ·rcases su _ _ hi with⟨i,rfl,h1,h2⟩|⟨h1,h2,h3⟩ <;> rcases su _ _ wr with⟨i',rfl,qa,pP⟩|⟨qa,pP,Ji⟩
  ·rw[Fw i h1] at hb
   rw[Fw i' qa] at ph
   rw[Hr.tinj _ _ _ _ b h2 pP hb ph]
  ·rw[Fw i h1] at hb
   rw[IM _ pP qa] at ph
   obtain⟨v9,AL⟩:=yg _ _ b qa Ji ph
   exact absurd hb ((hM.fr _ v9 AL).2.2.2 _ _ h2)
  ·rw[Fw i' qa] at ph
   rw[IM _ h2 h1] at hb
   obtain⟨v9,AL⟩:=yg _ _ b h1 h3 hb
   exact absurd ph ((hM.fr _ v9 AL).2.2.2 _ _ pP)
  ·rw[IM _ h2 h1] at hb
   rw[IM _ pP qa] at ph
   exact hR.tinj _ _ _ _ b h3 Ji hb ph
theorem HC.frame0 {P:Program}{f:FuncId}{ds:List D}{r:D}{nF vs:List (Nat×List D)}{lv:List (Nat×Nat×Nat×TypeId)}{n' N:Nat}(h:HC P f ds ⟨[],[],0⟩ r ⟨nF,[],n'⟩)
  (ha:frA (fun i=>([]:List Nat).getD i 0) 0 ds ds) (hr:r.okF2=true) (hvo:∀p∈nF,p.2.all D.okC=true):
  HC P f ds ⟨vs,lv,N⟩ (r.ren2 (fun i=>N+i)) ⟨nF.map (fun p=>(N+p.1,p.2.map (D.renC fun i=>N+i)))++vs,lv,N+n'⟩:=by
 have h1:=HC.frame2 (vs:=vs) (lv:=lv) (N:=N) h [] rfl List.nodup_nil (fun o ho=>absurd ho pJ) ha (fun k ds hk=>by simp at hk) (fun id y hy=>by simp at hy) hr hvo
 have e:rn [] 0 N=fun i=>N+i:=by funext i;rfl
 have e1:frV (rn [] 0 N) [] nF vs=nF.map (fun p=>(N+p.1,p.2.map (D.renC fun i=>N+i)))++vs:=by
  unfold frV
  rw[e]
  congr 1
  exact List.filter_eq_self.2 fun _ _=>rfl
 have e2:frL (rn [] 0 N) [] [] lv=lv:=by
  unfold frL
  exact List.filter_eq_self.2 fun _ _=>rfl
 rw[e1,e2,e] at h1
 exact h1
section
theorem sliceG {P:Program}{tb:TypeId→Option TyE}(tok:TOk P tb){ev:Operand→D}{hp:Hp}{dst:Option Tmp}{ty:TypeId}{pos:String}{af:Array Edge}{gd:Option (Nat×Bool)}{t e:TypeId}{ti j:TyE}{x y z:Operand}{k n m:Nat}{kn kn':IntKind}(ht:tb t=some ti)(he:tb e=some j)(hx:ev x=.gw k j.size n)(hy:ev y=dI kn (m:Int))(hz:ev z=dI kn' (m:Int))(hm:m≤n)(xZ:ti.ty=.slice e:=by exact rfl):
  mB P tb .seq ⟨dst,.slice t x none (some y) (some z),ty,pos,af,gd⟩ ev hp (.ow k 0 j.size m) hp:=by
 refine⟨.step fun B g w a hr wn=>?_,fun hq=>(by cases hq),fun _=>⟨aB _,fun _ _=>rfl⟩,fun h=>by cases h⟩
 have h1:=wn x (by simp[Op.operands])
 have h2:=wn y (by simp[Op.operands])
 have h3:=wn z (by simp[Op.operands])
 rw[hx] at h1
 rw[hy] at h2
 rw[hz] at h3
 have h2:=h2.lit
 have h3:=h3.lit
 generalize hv:a.eval x=v at h1
 cases h1 with
 |gw _ _ _ c hk pz oo hs=>
  have hu:=tok.slice ht xZ
  have hsz:=tok.run_sizeOf he w
  have hHc:m≤c:=by omega
  have hb:(Instr.sliceBounds true n c none (some (Value.int kn (m:Int))) (some (Value.int kn' (m:Int)))).run P w=.ok (0,m,m) w:=by
   simp[Instr.sliceBounds,run_sliceBound,hHc]
  have Ml:∀(ad:Addr),ad.spot=none→ad.off=0→(if m=0 then some ad else some (ad.add (0*j.size)))=some ad:=fun ad h4 h5=>by
   split
   ·rfl
   ·rw[g5];unfold Addr.add;simp
  refine⟨.slice (some ⟨g.μ k,0,none⟩) m m,g,w,?_,hr,c9.refl _ _ _,.ow k 0 j.size m m hk (aB _) (by omega),Below.refl _ _,fun _ _ h=>h⟩
  have co:(Instr.sliceAt t (a.eval x) none (some (a.eval y)) (some (a.eval z))).run P w=.ok (.slice (some ⟨g.μ k,0,none⟩) m m) w:=by
   rw[hv,h2,h3]
   simp[Instr.sliceAt,Instr.slice,run_underlying hu,hb,hsz,Addr.add]
  simp[execOp,co]
theorem WkS.frz2 {tm:List (Nat×D)}{vs:List (Nat×List D)}{lv:List (Nat×Nat×Nat×TypeId)}{N t k z n:Nat}{F:List E}(hz:0<z)(ht:tm.lookup t=some (.ow k 0 z n))(hv:vs.lookup k=some (dC F))(hF:n*z≤F.length):
  WkS tm ⟨vs,lv,N⟩ ((t,.e (.sl z n (F.take (n*z))))::tm) ⟨vs.filter fun p=>!([k]:List Nat).contains p.1,lv,N⟩:=by
 intro B g w ρ hr np
 obtain⟨h1,h2,h3,cs,ty,h4,h5,h6⟩:=hr.var k _ hv
 have look:∀{j:Nat} {ds:List D},(vs.filter fun p=>!([k]:List Nat).contains p.1).lookup j=some ds→j≠k∧vs.lookup j=some ds:=by
  intro j ds h
  obtain⟨a,b⟩:=je h
  exact⟨by simpa using a,b⟩
 have ge:∀{j:Nat} {ds:List D},j≠k→vs.lookup j=some ds→g.μ j≠g.μ k:=fun hj hl e=>hj (hr.inj _ _ _ _ hl hv e)
 have mo:c9 ⟨vs,lv,N⟩ g w ⟨vs.filter fun p=>!([k]:List Nat).contains p.1,lv,N⟩ ⟨g.μ,g.τ,fun p=>g.F p∧p.block≠g.μ k⟩ w:=by
  refine⟨aB _,fun _ _ _=>rfl,fun _ _ h=>h.1,aB _,fun _ _=>rfl,fun _ _ m _ h=>⟨m,h,aB _,fun _=>rfl⟩,fun b hb hf=>⟨rfl,fun p hp hq=>⟨hq,?_⟩,fun j ds hj=>hf.1 j ds (look hj).2,hf.2⟩,fun _=>.same fun _=>rfl⟩
  rw[hp];exact fun e=>hf.1 k _ hv e.symm
 refine⟨⟨g.μ,g.τ,fun p=>g.F p∧p.block≠g.μ k⟩,⟨fun j ds hj=>?_,fun j j' ds ds' hj FE he=>hr.inj j j' ds ds' (look hj).2 (look FE).2 he,fun id m e hi=>?_,hr.tinj,hr.base,fun p hp=>hr.fits p hp.1⟩,mo,fun t' d hd=>?_,fun p hp hq=>⟨hq,?_⟩⟩
 ·obtain⟨a1,a2⟩:=look hj
  obtain⟨b1,b2,b3,uZ,If,b4,b5,b6⟩:=hr.var j ds a2
  exact⟨b1,b2,fun p hp=>⟨b3 p hp,by rw[hp];exact ge a1 a2⟩,uZ,If,b4,b5,fun i u hu=>⟨(b6 i u hu).1,fun d hd=>((b6 i u hu).2 d hd).mono mo⟩⟩
 ·obtain⟨b1,us,b2,b3,b4⟩:=hr.tok id m e hi
  exact⟨b1,us,b2,b3,fun b hb=>⟨fun p hp hq=>⟨(b4 b hb).1 p hp hq,by rw[hp];exact fun e=>(b4 b hb).2 k _ hv e.symm⟩,fun j ds hj=>(b4 b hb).2 j ds (look hj).2⟩⟩
 ·by_cases htt:t'=t
  ·subst htt
   have:some (D.e (.sl z n (F.take (n*z))))=some d:=by rw[←hd];exact aa.symm
   injection this with this
   subst this
   have dc:=np t' _ ht
   generalize hq:ρ t'=u at dc
   cases dc with
   |ow _ _ _ _ c hk pz oo=>
    have p9:F.length≤cs.size:=by rw[eK] at h5;exact h5
    have jK:∀{i:Nat} {e:E},(F.take (n*z))[i]? =some e→F[i]? =some e:=fun {i e} h=>by
     rw[gM] at h
     split at h
     ·exact h
     ·cases h
    refine .e _ _ (.sl z n (F.take (n*z)) (some ⟨g.μ k,0,none⟩) c (fun i=>cs.getD i undef) (by rw[ey];omega) hz pz oo (fun _=>⟨_,rfl,(n8.1 h4).1⟩) (fun ad ha i e hi=>?_) (fun i e hi=>?_))
    ·have hi:=jK hi
     injection ha with ha
     subst ha
     have bX:i<cs.size:=d8 (fP.1 hi).1 p9
     refine⟨?_,fun hf=>hf.2 (by rw[gl])⟩
     have e0:w.cell? (({block:=g.μ k,off:=0,spot:=none}:Addr).add i)=cs[0+i]? :=by
      by_cases h0:i=0
      ·subst h0;simp[World.cell?,Addr.add,h4]
      ·simp[World.cell?,Addr.add,h4,h0]
     rw[e0,bJ]
     simp[iF,bX]
    ·have hi:=jK hi
     have bX:i<cs.size:=d8 (fP.1 hi).1 p9
     have hu:=h6 i (cs.getD i undef) (by simp[iF,bX])
     have:=hu.2 (.e e) (by unfold dC;rw[ek,hi];rfl)
     cases this with
     |e _ _ h7=>exact dP.less h7 fun p hp=>hp.1
  ·exact (np t' d (by rw[←hd];exact (ar htt).symm)).mono mo
 ·intro e
  omega
theorem sR {c:List Nu}(h:c.length≤1000000):dp (c.map nv)=some (c.all aK):=by
 obtain⟨y,hy,BR⟩:=G_idx h
 unfold dp bf
 rw[hy]
 by_cases h0:0≤y
 ·rw[BR.1 h0]
  simp[bnd,h0]
 ·have:c.all aK=true:=by
   cases hc:c.all aK with
   |true=>rfl
   |false=>exact absurd (BR.2 hc) h0
  rw[this]
  simp[bnd,h0]
theorem KT {c:List Nu}(h:c.length≤1000000):ax Tryz.prog 62 [.e (slE az c)] (dB (c.all aK)):=by
 rw[kA];exact fR (sR h)
def kD(l:List Nu):List Nu:=l++l.map gX
theorem L8 {l:List Nu}(h:l.length≤1000000):lK (l.map nv)=some ((kD l).map nv):=by
 have hlen:(l.map nv).length=l.length:=bT _
 unfold lK fT
 rw[aL (by rw[hlen];exact h)]
 show bnd (bS (e9 (l.map nv)) (l.map nv,(0:Int))) _=_
 have key:=uM (b:=e9 (l.map nv)) (fun i:Nat=>((l++(l.take i).map gX).map nv,(i:Int))) 0 l.length ((kD l).map nv) (cQ _) (fun i _ hi=>?_) ?_
 ·have e:((l++(l.take 0).map gX).map nv,((0:Nat):Int))=(l.map nv,(0:Int)):=by simp
  rw[e] at key
  rw[key]
  rfl
 ·unfold e9
  dsimp only
  have jK:(l.map nv)[((i:Nat):Int).toNat]! =nv l[i]:=by
   rw[show ((i:Nat):Int).toNat=i by omega,cz _ _ (by rw[hlen];exact hi),List.getElem_map]
  have v7:mc (nv l[i])=some (nv (gX l[i])):=by rw[xU];exact Jy l[i].2
  have htk:l.take (i+1)=l.take i++[l[i]]:=by rw[ym,c0 hi];rfl
  rw[hlen,de _ _ (by omega),aL (by omega),jK,v7]
  show gd _ _=_
  rw[aL (by simp;omega),fb (by omega) (by omega),htk]
  simp only[jz,dy,dJ,eD]
  rfl
 ·unfold e9
  dsimp only
  rw[hlen,cK _ _ (by omega),g6 (aB _)]
  rfl
theorem EZ {l:List Nu}(h:l.length≤1000000):ax Tryz.prog 74 [.e (slE az l)] (.e (slE az (kD l))):=by
 rw[kA,kA]
 exact ax.toE (xz (L8 h))
theorem Gv {n:Nat}(h:n≤1000000):ax Tryz.prog 75 [dI .i64 n] (.e (slE az (List.replicate n (nOf 0)))):=by
 rw[kA,List.map_replicate]
 refine mY ?_
 unfold fF
 rw[if_pos (by omega)]
 congr 2
def ylP(y:List Nu)(m:Nat):Nat→List Nu
 |0=>y
 |i+1=>(ylP y m i).set i (Fg (ylP y m i)[i]! (ylP y m i)[m+i]!)
def xb(m nn:Nat)(A B:List Nu)(most:Int):Ans×Int×Int:=
 let r:=lm (m+m) nn (kD A) (kD B) (List.replicate nn (nOf 0)) most
 if r.2.2≠0∨r.1.kind≠2 then (⟨r.1.kind,r.1.x,[],r.1.ray⟩,r.2.1,r.2.2) else
 let y:=(List.range m).map fun i=>Fg r.1.y[i]! r.1.y[m+i]!
 if y.all aK then (⟨r.1.kind,r.1.x,y,r.1.ray⟩,r.2.1,0) else (⟨0,[],[],[]⟩,0,30)
section
variable {y:List Nu} {m:Nat}
theorem xv:∀i,(ylP y m i).length=y.length
 |0=>rfl
 |i+1=>(eL ..).trans (xv i)
theorem Ii:∀i j,i≤j→(ylP y m i)[j]! =y[j]!
 |0,_,_=>rfl
 |i+1,j,h=>by
  unfold ylP
  rw[xj,CC (by omega),←xj]
  exact Ii i j (by omega)
theorem Mp(h:m+m≤y.length):∀i j,i≤m→j<i→(ylP y m i)[j]! =Fg y[j]! y[m+j]!
 |0,_,_,h2=>by omega
 |i+1,j,h1,h2=>by
  have hl:i<(ylP y m i).length:=by rw[xv];omega
  unfold ylP
  by_cases Gq:i=j
  ·subst Gq
   rw[xj,HV hl,u5,Ii i i (aB _),Ii i (m+i) (by omega)]
  ·rw[xj,CC Gq,←xj]
   exact Mp h i j (by omega) (by omega)
theorem ylP_all(h:y.length=m+m):(ylP y m m).take m=(List.range m).map fun i=>Fg y[i]! y[m+i]! :=by
 refine List.ext_getElem (by rw[ey,xv,bT,List.length_range];omega) fun j h1 h2=>?_
 have hj:j<m:=by simpa using h2
 rw[List.getElem_take,List.getElem_map,List.getElem_range,←Mp (y:=y) (by omega) m j (aB _) hj,cz (ylP y m m) j (by rw[xv];omega)]
end
theorem MM {m nn:Nat}{A B C:List Nu}{most:Int}(hB:B.length=m)(h0:0≤most)(h1:most≤9223372036854775807)(hk:(lm m nn A B C most).1.kind=2):(lm m nn A B C most).1.y.length=m∧(lm m nn A B C most).1.x=[]∧(lm m nn A B C most).1.ray=[]∧(lm m nn A B C most).2.2=0:=by
 have hend:∀d,(wa nn d C).1.kind≠2:=fun d h=>by
  unfold wa at h
  dsimp only at h
  split at h
  ·cases h
  ·split at h
   ·cases h
   ·split at h <;> cases h
 unfold lm at hk ⊢
 dsimp only at hk ⊢
 split at hk
 ·next v7=>
  rw[if_pos v7]
  split at hk
  ·cases hk
  ·next hb=>
   rw[if_neg hb]
   split at hk
   ·next hg=>
    rw[if_pos hg]
    have hm:0<m:=by
     rcases qO m with e|e
     ·rw[e] at hB
      rw[List.length_eq_zero_iff.1 hB] at v7
      cases v7
     ·exact e
    have hS:=(Cn (m:=m) (nn:=nn) (A:=A) (B:=B) h0 h1 (aB m))
    rw[HB] at hS
    have oq:=(hS.begin hm (by omega)).1.lg
    refine⟨?_,rfl,rfl,rfl⟩
    show (fj _ nn).length=m
    unfold fj
    rw[bT,fB,oq]
    omega
   ·exact absurd hk (hend _)
 ·exact absurd hk (hend _)
end
section
def xh(ky:Nat)(a:Ans):List D:=[dI .i64 a.kind,.e (slE az a.x),if a.kind=2 then .gw ky 36 a.y.length else .e (slE az a.y),.e (slE az a.ray)]
def ud(ky:Nat)(a:Ans):List (Nat×List D):=if a.kind=2 then [(ky,dC ((cW az).f a.y))] else []
theorem JN {ky N n2:Nat}{a:Ans}{vs:List (Nat×List D)}{lv:List (Nat×Nat×Nat×TypeId)}(h:N≤ky)(h2:N≤n2):Fr ⟨vs,lv,N⟩ ⟨ud ky a++vs,lv,n2⟩:=by
 refine⟨h2,fun j hj=>?_⟩
 have hj:j<N:=hj
 unfold ud
 split
 ·exact ar (by omega)
 ·rfl
theorem HT {ky n:Nat}{a:Ans}(h:ky<n):(xh ky a).all (D.idsC n)=true:=by
 unfold xh
 by_cases hk:a.kind=2
 ·rw[if_pos hk]
  simp only[cH,bP,bB,bq]
  exact⟨rfl,rfl,aF h,rfl⟩
 ·rw[if_neg hk]
  rfl
theorem solW_in {ky kx:Nat}{a:Ans}{x:List D}{vs:List (Nat×List D)}{j:Nat}{ds:List D}(hj:j≠kx)(h:(ud ky a++vs).lookup j=some ds):(ud ky a++(kx,x)::vs).lookup j=some ds:=by
 unfold ud at h ⊢
 by_cases hk:a.kind=2
 ·rw[if_pos hk] at h ⊢
  rcases cu h with⟨rfl,rfl⟩|⟨Dk,h⟩
  ·exact aa
  ·exact ak Dk (ak hj h)
 ·rw[if_neg hk] at h ⊢
  exact ak hj h
theorem HC.weakT {P:Program}{f:FuncId}{ds rs:List D}{hp:Hp}{vars vars':List (Nat×List D)}{lv lv':List (Nat×Nat×Nat×TypeId)}{n n':Nat}(hc:HC P f ds hp (.tu rs) ⟨vars,lv,n⟩)(h0:hp.next≤n')
  (h:cE hp→cE ⟨vars',lv',n'⟩∧(∀j ds,vars'.lookup j=some ds→vars.lookup j=some ds)∧(∀j y,lv'.lookup j=some y→lv.lookup j=some y)∧rs.all (D.idsB n')=true):HC P f ds hp (.tu rs) ⟨vars',lv',n'⟩:=by
 refine⟨hc.1,fun B g w vs hr hsz dc=>(hc.2 B g w vs hr hsz dc).mono ?_⟩
 obtain⟨hok,hv,hl,hd⟩:=h hr.ok
 rintro e w' ⟨v,g',rfl,o4,hM,hrd,hb,hF⟩
 have dZ:∀id y,lv'.lookup id=some y→lv.lookup id=some y:=hl
 refine⟨v,g',rfl,⟨fun k ds hk=>?_,fun k k' a b hk uh he=>o4.inj k k' a b (hv k a hk) (hv k' b uh) he,fun id m e hi=>?_,fun id zt t t' b hi wr=>o4.tinj id zt t t' b (dZ _ _ hi) (dZ _ _ wr),o4.base,o4.fits⟩,
  ⟨hM.size,hM.cell,hM.forb,h0,hM.μ,fun id hid m e Lv=>hM.live id hid m e (dZ id _ Lv),fun b hb hf=>⟨(hM.fr b hb hf).1,(hM.fr b hb hf).2.1,fun k ds hk=>(hM.fr b hb hf).2.2.1 k ds (hv k ds hk),fun id t hi=>(hM.fr b hb hf).2.2.2 id t (dZ id _ hi)⟩,hM.szs⟩,?_,hb,hF⟩
 ·obtain⟨_,h3,h4,cs,ty,h5,h6,h7⟩:=o4.var k ds (hv k ds hk)
  obtain⟨h1,h2⟩:=hok.var k ds hk
  exact⟨h1,h3,h4,cs,ty,h5,h6,fun j u hu=>⟨(h7 j u hu).1,fun d hd=>iw ((h7 j u hu).2 d hd) (cX.1 h2 d (eo hd)) rfl dZ⟩⟩
 ·obtain⟨_,us,h2,h3,h4⟩:=o4.tok id m e (dZ _ _ hi)
  exact⟨hok.tok id _ hi,us,h2,h3,fun b hb=>⟨(h4 b hb).1,fun k ds hk=>(h4 b hb).2 k ds (hv k ds hk)⟩⟩
 ·cases hrd with
  |tu _ cs FC IW=>exact .tu rs cs FC fun j d u h1 h2=>BQ (IW j d u h1 h2) (cX.1 hd d (eo h1)) rfl dZ
theorem Hn {M:Nat}{r:Ans×Int×Int}{R Cc most:Int}{A B C:List Nu}{vs:List (Nat×List D)}{lv:List (Nat×Nat×Nat×TypeId)}{N:Nat}(hc:HC Tryz.prog 12 [.ag (prC R Cc A B C),dI .i64 most] ⟨[],[],0⟩ (Iq M r) (DA M r)):
  HC Tryz.prog 12 [.ag (prC R Cc A B C),dI .i64 most] ⟨vs,lv,N⟩ (.tu [.ag (xh (N+(7+8*M)) r.1),dI .i64 r.2.1,dI .i64 r.2.2]) ⟨ud (N+(7+8*M)) r.1++vs,lv,N+(8+8*M)⟩:=by
 unfold Iq DA at hc
 unfold xh ud
 unfold pH at hc
 by_cases hk:r.1.kind=2
 ·simp only[if_pos hk] at hc ⊢
  have h1:=HC.weakT (vars':=[(7+8*M,dC ((cW az).f r.1.y))]) (lv':=[]) (n':=8+8*M) hc (cQ _) fun _=>⟨⟨fun k ds h=>by
    rcases cu h with⟨rfl,rfl⟩|⟨_,h⟩
    ·exact⟨show 7+8*M<8+8*M by omega,eJ _⟩
    ·simp at h,fun id e h=>by simp at h⟩,fun k ds h=>by
    rcases cu h with⟨rfl,rfl⟩|⟨_,h⟩
    ·exact ak (by omega) aa
    ·simp at h,fun _ _ h=>h,by
    simp only[D.idsB,cH,bP,bB,bq]
    exact⟨⟨rfl,rfl,aF (by omega),rfl⟩,rfl,rfl⟩⟩
  have h2:=HC.frame0 (vs:=vs) (lv:=lv) (N:=N) h1 ⟨⟨ao _,rfl,rfl⟩,⟨ao _,rfl,rfl⟩,trivial⟩ rfl fun p hp=>by
   rw[pI.1 hp]
   exact cX.2 fun d hd=>by
    obtain⟨e,_,rfl⟩:=sH.1 hd
    rfl
  have e:(dC ((cW az).f r.1.y)).map (D.renC fun i=>N+i)=dC ((cW az).f r.1.y):=Iw _
  simp only[dJ,eD,e] at h2
  exact h2
 ·simp only[if_neg hk] at hc ⊢
  have h1:=HC.weakT (vars':=[]) (lv':=[]) (n':=8+8*M) hc (cQ _) fun _=>⟨⟨fun k ds h=>by simp at h,fun id e h=>by simp at h⟩,fun k ds h=>by simp at h,fun _ _ h=>h,rfl⟩
  have h2:=HC.frame0 (vs:=vs) (lv:=lv) (N:=N) h1 ⟨⟨ao _,rfl,rfl⟩,⟨ao _,rfl,rfl⟩,trivial⟩ rfl fun p hp=>absurd hp pJ
  exact h2
def qH(a:Ans):List D:=[dI .i64 a.kind,.e (slE az a.x),.e (slE az a.y),.e (slE az a.ray)]
def maC(R Cc:Int)(A:List Nu):List D:=[dI .i64 R,dI .i64 Cc,.e (slE az A)]
theorem qu {R Cc:Int}{A:List Nu}{t:Nat}{y:D}(h:(maC R Cc A)[t]? =some y):Pt (maC R Cc A) t [y] (fun ys=>(maC R Cc A).take t++ys++(maC R Cc A).drop (t+1)):=Pt.cell h
theorem J6(a:Ans)(h:a.y=[]:=by exact rfl):D.le (.ag [dI .i64 a.kind,.e (slE az a.x),dN,.e (slE az a.ray)]) (.ag (qH a)):=by
 unfold qH
 rw[h]
 exact rC ⟨.inl rfl,.inl rfl,.inr (.inr ⟨rfl,36,by decide,rfl⟩),.inl rfl,trivial⟩
theorem Ft:D.le (.ag [dI .i64 0,dN,dN,dN]) (.ag (qH ⟨0,[],[],[]⟩)):=rC ⟨.inl rfl,.inr (.inr ⟨rfl,36,by decide,rfl⟩),.inr (.inr ⟨rfl,36,by decide,rfl⟩),.inr (.inr ⟨rfl,36,by decide,rfl⟩),trivial⟩
def eqD(r:Ans×Int×Int):D:=.tu [.ag (qH r.1),dI .i64 r.2.1,dI .i64 r.2.2]
def eqH(r:Ans×Int×Int):Hp:=⟨[(1,qH r.1)],[],2⟩
theorem rtE {cx:Cx}{tm:List (Nat×D)}{vs2:List (Nat×List D)}{n2:Nat}{r0 r:Ans×Int×Int}(h0:cx.hp0=⟨[],[],0⟩)(hr:r0=r)(h1:vs2.lookup 1=some (qH r.1))(hn:2≤n2)(h6:tm.lookup 6=some (.pt 1 0):=by exact rfl)(h7:tm.lookup 7=some (dI .i64 r.2.1):=by exact rfl)(h8:tm.lookup 8=some (dI .i64 r.2.2):=by exact rfl):
  ∃tm',Wk cx tm ⟨vs2,[],n2⟩ tm' (eqH r0)∧r9 tbl [.cell 6 29,.tmp 7,.tmp 8] tm' (eqH r0) (eqD r0):=by
 subst hr
 have hok:cE ⟨[(1,qH r0.1)],[],2⟩:=by
  refine⟨fun k ds h=>?_,fun id e h=>by simp at h⟩
  rcases cu h with⟨rfl,rfl⟩|⟨_,h⟩
  ·exact⟨show 1<2 by decide,rfl⟩
  ·simp at h
 refine⟨_,wkS (by rw[h0];exact cQ _) hn hok (fun j ds h=>?_) (((bU.nil.cons h8).cons h7).cons h6 rfl),resV tbI rfl aa (by decide) rfl rfl ⟨_,rfl,_,rfl,rfl⟩⟩
 rcases cu h with⟨rfl,rfl⟩|⟨_,h⟩
 ·exact h1
 ·simp at h
section
variable {m nn:Nat} {A B:List Nu} {most:Int}
set_option maxHeartbeats 8000000 in
theorem h_Equal(hv:ax Tryz.prog 73 [.ag (maC m nn A),.e (slE az B)] (dB true))(hvV:ax Tryz.prog 15 [.ag (prC ((m+m:Nat):Int) nn (kD A) (kD B) (List.replicate nn (nOf 0)))] (dB true))(hm:m≤1000)(hn:nn≤2000)(hA:A.length=m*nn)(hB:B.length=m)(hgA:∀i,i<(kD A).length→aK (kD A)[i]! =true)(hgB:∀i,i<(kD B).length→aK (kD B)[i]! =true)(hA1:A.length≤1000000)(h0:0≤most)(h1:most≤9223372036854775807):
  HC Tryz.prog 21 [.ag (maC m nn A),.e (slE az B),dI .i64 most] ⟨[],[],0⟩ (eqD (xb m nn A B most)) (eqH (xb m nn A B most)):=by
 refine HC.of (rs:=[.cell 6 29,.tmp 7,.tmp 8]) tok Tryz.func21 rfl rfl (dq rfl) rfl (fun cx hx t6 hok=>?_)
 simp only[fL,Nat.reduceAdd,bJ]
 have OL:B.length≤1000000:=by omega
 have hlA:(kD A).length=(m+m)*nn:=by unfold kD;rw[cR,bT,hA,cp]
 have hlB:(kD B).length=m+m:=by unfold kD;rw[cR,bT,hB]
 have hmm:i64.wrap ((2:Int)*(m:Int))=((m+m:Nat):Int):=by rw[fb (by omega) (by omega)];omega
 have hS:=Kg (m:=m+m) (nn:=nn) (C:=List.replicate nn (nOf 0)) (most:=most) hvV (by omega) hn hlA hlB (by simp) hgA hgB (fun i hi=>by
  rw[cz (List.replicate nn (nOf 0)) i hi,List.getElem_replicate];exact of0.1) h0 h1
 have zw:=MM (m:=m+m) (nn:=nn) (A:=kD A) (B:=kD B) (C:=List.replicate nn (nOf 0)) (most:=most) hlB h0 h1
 have heq:xb m nn A B most=xb m nn A B most:=rfl
 conv at heq=>rhs;unfold xb
 dsimp only at heq
 obtain⟨r,hr⟩:∃r,r=lm (m+m) nn (kD A) (kD B) (List.replicate nn (nOf 0)) most:=⟨_,rfl⟩
 rw[←hr] at hS zw heq
 clear hr
 refine rs hx fun K hK=>?_
 refine s1 (gD (cs:=maC m nn A)) ?_
 refine a1 (F:=ls) tbI ?_
 iterate 2 refine sa ?_
 refine .nil (hK _ _ (AW.seq (rs hx fun K hK=>?_)))
 refine p1 (Pt.all (F:=maC m nn A)) rfl ?_
 refine sa ?_
 refine q1 (sHC (HC.frz (ds:=[.ag (maC m nn A),.e (slE az B)]) hv ⟨AR.same rfl,AR.same rfl,trivial⟩ rfl) rfl (.inr (Fr.refl _))) ?_
 iterate 2 refine sa ?_
 iterate 2 refine ga rfl ?_
 refine s1 (d:=dB (decide (most<0))) (al rfl) ?_
 refine .nil (hK _ _ (AW.condF rfl (bH (by omega)) (AW.skip ?_)))
 obtain⟨base,lJ⟩:∃base:List (Nat×List D),base=[(1,dC ls),(0,maC m nn A)]:=⟨_,rfl⟩
 have c5:base.lookup 1=some (dC ls):=by rw[lJ];exact aa
 have hb0:base.lookup 0=some (maC m nn A):=by rw[lJ];rfl
 have Ox:∀j ds,base.lookup j=some ds→j<2∧ds.all (D.idsC 2)=true:=fun j ds h=>by
  rw[lJ] at h
  rcases cu h with⟨rfl,rfl⟩|⟨_,h⟩
  ·exact⟨by omega,rfl⟩
  ·rcases cu h with⟨rfl,rfl⟩|⟨_,h⟩
   ·exact⟨by omega,rfl⟩
   ·simp at h
 have IX:∀n,2≤n→cE ⟨base,[],n⟩:=fun n hn=>⟨fun j ds h=>⟨show j<n by have:=(Ox j ds h).1;omega,cX.2 fun d hd=>D.idsC_le hn (cX.1 (Ox j ds h).2 d hd)⟩,fun id e h=>by simp at h⟩
 have hokY:∀ky n,2≤n→ky<n→cE ⟨ud ky r.1++base,[],n⟩:=fun ky n hn hky=>by
  unfold ud
  split
  ·exact (IX n hn).consM hky (eJ _)
  ·exact IX n hn
 have hY:∀ky j ds,2≤ky→base.lookup j=some ds→(ud ky r.1++base).lookup j=some ds:=fun ky j ds hky h=>by
  have:=(Ox j ds h).1
  unfold ud
  split
  ·exact ak (by omega) h
  ·exact h
 have hSA:=Hn (vs:=base) (lv:=[]) (N:=2) hS
 have hSB:=Hn (vs:=(2,dC ls)::base) (lv:=[]) (N:=3) hS
 have hS2:(ud (3+(7+8*(m+m))) r.1++(2,dC ls)::base).lookup 2=some (dC ls):=by
  unfold ud
  split
  ·exact ak (by omega) aa
  ·exact aa
 have fin1:∀{tm:List (Nat×D)} {vs2:List (Nat×List D)} {n2:Nat} (kx ky:Nat),kx<11+8*(m+m)→ky<11+8*(m+m)→11+8*(m+m)≤n2→(∀j ds,((kx,xh ky r.1)::(ud ky r.1++base)).lookup j=some ds→vs2.lookup j=some ds)→tm.lookup 3=some (.pt 0 0)→tm.lookup 6=some (.pt 1 0)→tm.lookup 9=some (.pt kx 0)→tm.lookup 10=some (dI .i64 r.2.1)→tm.lookup 11=some (dI .i64 r.2.2)→
   Wk cx tm ⟨vs2,[],n2⟩ [(3,.pt 0 0),(6,.pt 1 0),(9,.pt kx 0),(10,dI .i64 r.2.1),(11,dI .i64 r.2.2)] ⟨(kx,xh ky r.1)::(ud ky r.1++base),[],11+8*(m+m)⟩:=fun kx ky hkx hky Er hl a b c d e=>
  wkS (by rw[t6];exact cQ _) Er ((hokY ky _ (by omega) hky).consM hkx (HT hky)) hl (bU.cons (bU.cons (bU.cons (bU.cons (bU.cons bU.nil e rfl) d rfl) c (aF hkx)) b (aF (by omega))) a (aF (by omega)))
 rw[←lJ]
 refine AW.joinE (α:=Nat×Nat) (fun a=>[(3,.pt 0 0),(6,.pt 1 0),(9,.pt a.1 0),(10,dI .i64 r.2.1),(11,dI .i64 r.2.2)]) (fun a=>⟨(a.1,xh a.2 r.1)::(ud a.2 r.1++base),[],11+8*(m+m)⟩) (fun a=>2≤a.1∧2≤a.2∧a.1≠a.2∧a.1<11+8*(m+m)∧a.2<11+8*(m+m)) ?_ ?_
 ·refine dw (DW.split 16 21 (by decide) ?_ ?_)
  ·refine dwg [74,75] [0,1,2,3,4,5,6,7,8,9,10,11,12,13,14,15,16,17,18,19,20,21,22,23,24] hx (by kernel_rfl) (by kernel_rfl) (by kernel_rfl) fun K hK=>?_
   dsimp only[et,mA,mK,List.map]
   refine sa ?_
   refine c1 (qu (t:=0) rfl) ?_
   refine sa ?_
   rw[hmm]
   refine sa ?_
   refine c1 (qu (t:=1) rfl) ?_
   refine sa ?_
   refine c1 (qu (t:=2) rfl) ?_
   refine cq (EZ (l:=A) hA1) ?_
   refine s1 (d:=.ag (maC ((m+m:Nat):Int) nn (kD A))) (ee lE) ?_
   refine sa ?_
   refine cq (EZ (l:=B) OL) ?_
   refine sa ?_
   refine c1 (qu (t:=1) rfl) ?_
   refine cq (Gv (n:=nn) (by omega)) ?_
   refine s1 (d:=.ag (prC ((m+m:Nat):Int) nn (kD A) (kD B) (List.replicate nn (nOf 0)))) (ee mE) ?_
   refine sa ?_
   refine q1 (sHC hSA rfl (.inr (JN (by omega) (by omega)))) ?_
   refine sa ?_
   refine sa ?_
   refine sa ?_
   refine sa ?_
   refine a1 (F:=ls) tbI ?_
   refine v1 (F2:=xh (2+(7+8*(m+m))) r.1) (ys:=xh (2+(7+8*(m+m))) r.1) (Pt.all (F:=dC ls)) rfl rfl rfl ?_
   refine sa ?_
   refine sa ?_
   refine .nil (hK _ _ ⟨(2+(8+8*(m+m)),2+(7+8*(m+m))),⟨by omega,by omega,by omega,by omega,by omega⟩,?_⟩)
   refine fin1 _ _ (by omega) (by omega) (by omega) (fun j ds h=>?_) rfl rfl rfl rfl rfl
   rcases cu h with⟨rfl,rfl⟩|⟨hj,h⟩
   ·exact aa
   ·exact ak hj (ak hj h)
  ·refine dwg [74,75] [0,1,2,3,4,5,6,7,8,9,10,11,12,13,14,15,21,16,17,18,19,20,22,23,24] hx (by kernel_rfl) (by kernel_rfl) (by kernel_rfl) fun K hK=>?_
   dsimp only[et,mA,mK,List.map]
   refine sa ?_
   refine c1 (qu (t:=0) rfl) ?_
   refine sa ?_
   rw[hmm]
   refine sa ?_
   refine c1 (qu (t:=1) rfl) ?_
   refine sa ?_
   refine c1 (qu (t:=2) rfl) ?_
   refine cq (EZ (l:=A) hA1) ?_
   refine s1 (d:=.ag (maC ((m+m:Nat):Int) nn (kD A))) (ee lE) ?_
   refine sa ?_
   refine cq (EZ (l:=B) OL) ?_
   refine sa ?_
   refine c1 (qu (t:=1) rfl) ?_
   refine cq (Gv (n:=nn) (by omega)) ?_
   refine s1 (d:=.ag (prC ((m+m:Nat):Int) nn (kD A) (kD B) (List.replicate nn (nOf 0)))) (ee mE) ?_
   refine sa ?_
   refine a1 (F:=ls) tbI ?_
   refine q1 (sHC hSB rfl (.inr (JN (by omega) (by omega)))) ?_
   refine sa ?_
   refine sa ?_
   refine sa ?_
   refine sa ?_
   refine v1 (F2:=xh (3+(7+8*(m+m))) r.1) (ys:=xh (3+(7+8*(m+m))) r.1) (Pt.all (F:=dC ls)) rfl rfl rfl ?_
   refine sa ?_
   refine sa ?_
   refine .nil (hK _ _ ⟨(2,3+(7+8*(m+m))),⟨by omega,by omega,by omega,by omega,by omega⟩,?_⟩)
   refine fin1 _ _ (by omega) (by omega) (by omega) (fun j ds h=>?_) rfl rfl rfl rfl rfl
   rcases cu h with⟨rfl,rfl⟩|⟨hj,h⟩
   ·exact aa
   ·exact ak hj (solW_in hj h)
 ·rintro⟨kx,ky⟩ ⟨vu,BR,hxy,Ad,hyl⟩
  dsimp only at vu BR hxy Ad hyl ⊢
  have hokY1:=hokY ky _ (show 2≤11+8*(m+m) by omega) hyl
  have hY0:=hY ky 0 _ BR hb0
  have hY1:=hY ky 1 _ BR c5
  have hKi:=HT (a:=r.1) hyl
  refine AW.seq (rs hx fun K hK=>?_)
  iterate 3 refine sa ?_
  by_cases he:r.2.2≠0
  ·have lY:=heq.trans (if_pos (.inl he))
   have hKf:∃z,xh ky r.1=[dI .i64 r.1.kind,.e (slE az r.1.x),z,.e (slE az r.1.ray)]:=⟨_,rfl⟩
   obtain⟨z,hz⟩:=hKf
   rw[hz]
   iterate 3 refine gn (aF he) ?_
   refine s1 (d:=dB true) (aw (aF he)) ?_
   refine .nil (hK _ _ (AW.condT rfl rfl (rs hx fun K hK=>?_)))
   refine sa ?_
   refine v1 (F2:=[dI .i64 r.1.kind,.e (slE az r.1.x),dN,.e (slE az r.1.ray)]) (ys:=[dN]) (Pt.cell (F:=[dI .i64 r.1.kind,.e (slE az r.1.x),z,.e (slE az r.1.ray)]) (t:=2) rfl) rfl rfl rfl ?_
   refine .nil (hK _ _ (rs hx fun K hK=>?_))
   refine s2 (Aw (Pt.all (F:=[dI .i64 r.1.kind,.e (slE az r.1.x),dN,.e (slE az r.1.ray)])) aa (show kx<11+8*(m+m) by omega) lD rfl rfl rfl) (J6 ⟨r.1.kind,r.1.x,[],r.1.ray⟩) ?_
   iterate 2 refine sa ?_
   refine v1 (F2:=qH ⟨r.1.kind,r.1.x,[],r.1.ray⟩) (ys:=qH ⟨r.1.kind,r.1.x,[],r.1.ray⟩) (Pt.all (F:=dC ls)) rfl rfl rfl ?_
   iterate 2 refine sa ?_
   exact .nil (hK _ _ (AW.ret (rtE t6 lY aa (by omega))))
  ·refine ga (bH he) ?_
   refine c1g (Pt.cell (t:=0) rfl) (bH he) ?_
   refine ga (bH he) ?_
   refine s1 (d:=dB (decide (r.1.kind≠2))) (al (bH he)) ?_
   refine .nil (hK _ _ (AW.condS rfl (fun hb=>?_) (fun hb=>?_)))
   ·have lY:=heq.trans (if_pos (.inr (cj hb)))
    have hKf:∃z,xh ky r.1=[dI .i64 r.1.kind,.e (slE az r.1.x),z,.e (slE az r.1.ray)]:=⟨_,rfl⟩
    obtain⟨z,hz⟩:=hKf
    rw[hz]
    refine rs hx fun K hK=>?_
    refine sa ?_
    refine v1 (F2:=[dI .i64 r.1.kind,.e (slE az r.1.x),dN,.e (slE az r.1.ray)]) (ys:=[dN]) (Pt.cell (F:=[dI .i64 r.1.kind,.e (slE az r.1.x),z,.e (slE az r.1.ray)]) (t:=2) rfl) rfl rfl rfl ?_
    refine .nil (hK _ _ (rs hx fun K hK=>?_))
    refine s2 (Aw (Pt.all (F:=[dI .i64 r.1.kind,.e (slE az r.1.x),dN,.e (slE az r.1.ray)])) aa (show kx<11+8*(m+m) by omega) lD rfl rfl rfl) (J6 ⟨r.1.kind,r.1.x,[],r.1.ray⟩) ?_
    iterate 2 refine sa ?_
    refine v1 (F2:=qH ⟨r.1.kind,r.1.x,[],r.1.ray⟩) (ys:=qH ⟨r.1.kind,r.1.x,[],r.1.ray⟩) (Pt.all (F:=dC ls)) rfl rfl rfl ?_
    iterate 2 refine sa ?_
    exact .nil (hK _ _ (AW.ret (rtE t6 lY aa (by omega))))
   ·have hk:r.1.kind=2:=Decidable.not_not.1 (dV hb)
    have lY:=heq.trans (if_neg (by rintro (h|h);exact he h;exact h hk))
    obtain⟨hyl2,Df,hray0,_⟩:=zw hk
    refine AW.skip ?_
    obtain⟨y,NE⟩:∃y,y=r.1.y:=⟨_,rfl⟩
    obtain⟨KC,hKC⟩:∃KC,KC=[dI .i64 2,.e (slE az []),.gw ky 36 (m+m),.e (slE az [])]:=⟨_,rfl⟩
    have hKe:xh ky r.1=KC:=by unfold xh;rw[if_pos hk,hk,Df,hray0,hyl2,hKC]
    have hWe:ud ky r.1++base=(ky,dC ((cW az).f y))::base:=by unfold ud;rw[if_pos hk,NE];rfl
    have ml:KC[2]? =some (.gw ky 36 (m+m)):=by rw[hKC];rfl
    have hKl:KC.length=4:=by rw[hKC];rfl
    rw[hKe] at hKi
    rw[hKe,hWe]
    rw[hk,Df,hray0,←NE] at lY
    rw[←NE] at hyl2
    have hokB:=IX (11+8*(m+m)) (by omega)
    refine rs hx fun K hK=>?_
    refine sa ?_
    refine c1 (Pt.cell ml) ?_
    refine sa ?_
    refine c1 (qu (t:=0) rfl) ?_
    refine sa ?_
    refine c1 (qu (t:=0) rfl) ?_
    refine q1 (sliceG tok aM ay rfl rfl rfl (by omega)) ?_
    refine sa ?_
    refine .nil (hK _ _ (AW.seq (rs hx fun K hK=>?_)))
    refine sa ?_
    refine s1 (zU (k:=ky) (off:=0) (z:=36) aM ay rfl rfl) ?_
    refine sa ?_
    refine .nil (hK _ _ (AW.block (AW.loopW (fun i:Nat=>[(3,.pt 0 0),(6,.pt 1 0),(9,.pt kx 0),(10,dI .i64 r.2.1),(11,dI .i64 r.2.2),(12,.ow ky 0 36 m),(63,dI .i64 m),(64,dI .i64 i)]) (fun i=>⟨(ky,dC ((cW az).f (ylP y m i)))::(kx,KC)::base,[],11+8*(m+m)⟩) (fun i=>i≤m) (fun i=>m - i) 0 ?_ (cQ _) ?_)))
    ·exact wk1 t6
    ·intro i hi
     have hyi:(ylP y m i).length=m+m:=by rw[xv];exact hyl2
     refine rs hx fun K hK=>?_
     refine sa ?_
     refine .nil (hK _ _ (AW.seq (AW.condS rfl (fun hb=>?_) (fun hb=>?_))))
     ·have yG:i<m:=by have:=cj hb;omega
      refine AW.skip (AW.seq (AW.block (rs hx fun K hK=>?_)))
      iterate 2 refine sa ?_
      refine .nil (hK _ _ (rqd [76] hx fun K hK=>?_))
      iterate 4 refine sa ?_
      refine i1 (i:=i) (n:=m) yG ?_
      refine l1 (Pt.el (ylP y m i) i (by omega)) ?_
      refine sa ?_
      refine c1 (Pt.cell ml) ?_
      refine sa ?_
      refine c1 (qu (t:=0) rfl) ?_
      iterate 2 refine sa ?_
      rw[pY (by omega)]
      refine stG (d:=.pt ky ((m+i)*36)) tok (iaN (k:=ky) (i:=m+i) (n:=m+m) (by omega) rfl rfl) ?_
      refine l1 (Pt.el (ylP y m i) (m+i) (by omega)) ?_
      refine cq (w_Sub _ _) ?_
      refine i1 (i:=i) (n:=m) yG ?_
      refine t1 (Pt.el (ylP y m i) i (by omega)) (Pt.el_set (ylP y m i) i (by omega) _) ?_
      refine .nil (hK _ _ ?_)
      rw[show (ylP y m i).set i (Fg (ylP y m i)[i]! (ylP y m i)[m+i]!)=ylP y m (i+1) from rfl]
      refine rq hx fun K hK=>?_
      iterate 2 refine sa ?_
      refine .nil (hK _ _ ?_)
      rw[cg (by omega)]
      exact⟨i+1,wk1 t6,yG,by omega⟩
     ·refine AW.exit ?_
      have yG:m=i:=by have:=dV hb;omega
      subst yG
      obtain⟨ys,hys⟩:∃ys,ys=(List.range m).map fun i=>Fg y[i]! y[m+i]! :=⟨_,rfl⟩
      rw[←hys] at lY
      have hysl:ys.length=m:=by rw[hys];simp
      have Dg:E.sl 36 m (((cW az).f (ylP y m m)).take (m*36))=slE az ys:=by
       have h2:=jX az.f az.h (ylP y m m) m
       rw[ylP_all hyl2,←hys] at h2
       show E.sl 36 m (((ylP y m m).flatMap az.f).take (m*36))=E.sl 36 ys.length (ys.flatMap az.f)
       rw[hysl,←h2]
       rfl
      have hfl:(((ky,dC ((cW az).f (ylP y m m)))::(kx,KC)::base).filter fun p=>!([ky]:List Nat).contains p.1)=(kx,KC)::base:=by
       rw[lJ]
       have a1:¬kx=ky:=hxy
       have a2:¬1=ky:=by omega
       have a3:¬0=ky:=by omega
       simp[a1,a2,a3]
      have hfz:=WkS.frz2 (tm:=[(65,dB (decide ((m:Int)<(m:Int)))),(3,.pt 0 0),(6,.pt 1 0),(9,.pt kx 0),(10,dI .i64 r.2.1),(11,dI .i64 r.2.2),(12,.ow ky 0 36 m),(63,dI .i64 m),(64,dI .i64 m)]) (vs:=(ky,dC ((cW az).f (ylP y m m)))::(kx,KC)::base) (lv:=[]) (N:=11+8*(m+m)) (t:=12) (k:=ky) (z:=36) (n:=m) (F:=(cW az).f (ylP y m m)) (by decide) rfl aa (by
       have:((cW az).f (ylP y m m)).length=(ylP y m m).length*36:=im az.f az.h _
       rw[this,hyi];omega)
      rw[hfl,Dg] at hfz
      refine AW.weak (tm':=(12,.e (slE az ys))::[(65,dB (decide ((m:Int)<(m:Int)))),(3,.pt 0 0),(6,.pt 1 0),(9,.pt kx 0),(10,dI .i64 r.2.1),(11,dI .i64 r.2.2),(12,.ow ky 0 36 m),(63,dI .i64 m),(64,dI .i64 m)]) (hp':=⟨(kx,KC)::base,[],11+8*(m+m)⟩) (fun _ _ hr=>hfz.rs hr) (AW.seq (rs hx fun K hK=>?_))
      refine sa ?_
      refine cq (KT (c:=ys) (by omega)) ?_
      refine sa ?_
      refine .nil (hK _ _ (AW.condS rfl (fun hb=>?_) (fun hb=>?_)))
      ·have lY:=lY.trans (if_neg (by simpa using hb))
       refine rs hx fun K hK=>?_
       refine s2 (ee tbI) Ft ?_
       refine v1 (F2:=qH ⟨0,[],[],[]⟩) (ys:=qH ⟨0,[],[],[]⟩) (Pt.all (F:=dC ls)) rfl rfl rfl ?_
       iterate 2 refine sa ?_
       exact .nil (hK _ _ (AW.ret (rtE t6 lY aa (by omega))))
      ·have lY:=lY.trans (if_pos (by simpa using hb))
       refine AW.skip (rs hx fun K hK=>?_)
       iterate 2 refine sa ?_
       refine v1 (F2:=qH ⟨2,[],ys,[]⟩) (ys:=[.e (slE az ys)]) (Pt.cell ml) rfl rfl (by rw[hKC];rfl) ?_
       refine .nil (hK _ _ (rs hx fun K hK=>?_))
       refine p1 (Pt.all (F:=qH ⟨2,[],ys,[]⟩)) rfl ?_
       refine sa ?_
       refine v1 (F2:=qH ⟨2,[],ys,[]⟩) (ys:=qH ⟨2,[],ys,[]⟩) (Pt.all (F:=dC ls)) rfl rfl rfl ?_
       iterate 2 refine sa ?_
       exact .nil (hK _ _ (AW.ret (rtE t6 lY aa (by omega))))
end
end
section
structure VS(a:fE)(b:List aq)(m nn:Nat):Prop where
 hr:a.vR=m
 hc:a.vC=nn
 hm:m≤1000
 hn:nn≤2000
 oA:okL a.vV
 oB:okL b
 lA:a.vV.length=m*nn
 lB:b.length=m
 l1:a.vV.length≤1000000
 gA:∀i,i<(kD (a.vV.map mJ)).length→aK (kD (a.vV.map mJ))[i]! =true
 gB:∀i,i<(kD (b.map mJ)).length→aK (kD (b.map mJ))[i]! =true
 v:gT ⟨⟨((m+m:Nat):Int),nn,(kD (a.vV.map mJ)).map nv⟩,(kD (b.map mJ)).map nv,(List.replicate nn (nOf 0)).map nv⟩=some true
open Classical in
def kV(aN:fE)(aV:List aq)(kB:Int):Option (bW×Int×Int):=
 bnd (fV aN aV) fun v=>if v=true∧0≤kB then
  if VS aN aV aN.vR.toNat aN.vC.toNat∧kB≤9223372036854775807 then some (tE (xb aN.vR.toNat aN.vC.toNat (aN.vV.map mJ) (aV.map mJ) kB)) else none
 else some (tE (⟨0,[],[],[]⟩,0,1))
theorem VS.cells {a:fE}{b:List aq}{m nn:Nat}(h:VS a b m nn):dG f6 a=.ag (maC m nn (a.vV.map mJ))∧dL ai b=.e (slE az (b.map mJ)):=by
 unfold maC
 rw[kA,kA,sm h.oA,sm h.oB,←h.hr,←h.hc]
 exact⟨rfl,rfl⟩
theorem Pm(R Cc:Int)(A B C:List Nu):dG ci ⟨⟨R,Cc,A.map nv⟩,B.map nv,C.map nv⟩=.ag (prC R Cc A B C):=by
 unfold prC
 rw[kA,kA,kA]
 rfl
theorem ar_eq(r:Ans×Int×Int):AR (eqH r) (eqD r) (.tu [dG dU (tE r).1,dI .i64 (tE r).2.1,dI .i64 (tE r).2.2]):=by
 have e:dG dU (tE r).1=.ag (qH r.1):=by
  unfold qH
  rw[kA,kA,kA];rfl
 rw[e]
 exact AR.tu ⟨AR.same rfl,AR.dn rfl,AR.dn rfl,trivial⟩
theorem OI {cs:List D}{b:E}{v:Bool}{most:Int}(hlen:cs.length=3)(hpu:(D.ag cs).pure=true)(hv:ax Tryz.prog 73 [.ag cs,.e b] (dB v))(hbad:¬(v=true∧0≤most)):
  HC Tryz.prog 21 [.ag cs,.e b,dI .i64 most] ⟨[],[],0⟩ (eqD (⟨0,[],[],[]⟩,0,1)) (eqH (⟨0,[],[],[]⟩,0,1)):=by
 refine HC.of (rs:=[.cell 6 29,.tmp 7,.tmp 8]) tok Tryz.func21 rfl rfl (dq rfl) rfl (fun cx hx t6 hok=>?_)
 simp only[fL,Nat.reduceAdd,bJ]
 refine rs hx fun K hK=>?_
 refine s1 (gD (cs:=cs)) ?_
 refine a1 (F:=ls) tbI ?_
 iterate 2 refine sa ?_
 refine .nil (hK _ _ (AW.seq (rs hx fun K hK=>?_)))
 refine p1 (ht:=lE) (Pt.all (F:=cs)) hlen ?_
 refine sa ?_
 refine q1 (sHC (HC.frz (ds:=[.ag cs,.e b]) hv ⟨AR.same hpu,AR.same rfl,trivial⟩ rfl) rfl (.inr (Fr.refl _))) ?_
 iterate 2 refine sa ?_
 cases v with
 |false=>
  iterate 2 refine gn rfl ?_
  refine s1 (d:=dB true) (aw rfl) ?_
  refine .nil (hK _ _ (AW.condT rfl rfl (rs hx fun K hK=>?_)))
  refine s2 (ee tbI) Ft ?_
  refine v1 (F2:=qH ⟨0,[],[],[]⟩) (ys:=qH ⟨0,[],[],[]⟩) (Pt.all (F:=dC ls)) rfl rfl rfl ?_
  iterate 2 refine sa ?_
  exact .nil (hK _ _ (AW.ret (rtE t6 rfl aa (by omega))))
 |true=>
  iterate 2 refine ga rfl ?_
  refine s1 (d:=dB (decide (most<0))) (al rfl) ?_
  refine .nil (hK _ _ (AW.condT rfl (aF (by simp only[true_and] at hbad;omega)) (rs hx fun K hK=>?_)))
  refine s2 (ee tbI) Ft ?_
  refine v1 (F2:=qH ⟨0,[],[],[]⟩) (ys:=qH ⟨0,[],[],[]⟩) (Pt.all (F:=dC ls)) rfl rfl rfl ?_
  iterate 2 refine sa ?_
  exact .nil (hK _ _ (AW.ret (rtE t6 rfl aa (by omega))))
theorem tU {aN:fE}{aV:List aq}{kB:Int}{r:bW×Int×Int}(h:kV aN aV kB=some r):ax Tryz.prog 21 [dG f6 aN,dL ai aV,dI .i64 kB] (.tu [dG dU r.1,dI .i64 r.2.1,dI .i64 r.2.2]):=by
 unfold kV at h
 obtain⟨v,hv,h⟩:=ab h
 have hv:=qm hv
 by_cases hg:v=true∧0≤kB
 ·rw[if_pos hg] at h
  by_cases hq:VS aN aV aN.vR.toNat aN.vC.toNat∧kB≤9223372036854775807
  ·rw[if_pos hq] at h
   have h:=bQ h
   subst h
   obtain⟨hq,Of⟩:=hq
   have hV:=pB hq.v
   rw[Pm] at hV
   rw[hg.1] at hv
   rw[hq.cells.1,hq.cells.2] at hv ⊢
   have h2:=h_Equal (most:=kB) hv hV hq.hm hq.hn (by rw[bT];exact hq.lA) (by rw[bT];exact hq.lB) hq.gA hq.gB (by rw[bT];exact hq.l1) hg.2 Of
   exact HC.toP h2 (ar_eq _)
  ·rw[if_neg hq] at h;cases h
 ·rw[if_neg hg] at h
  have h:=bQ h
  subst h
  have h2:=OI (cs:=dC (f6.f aN)) (b:=slE ai aV) ((eK _).trans (f6.h aN)) (g9 f6 aN) hv hg
  exact HC.toP h2 (ar_eq _)
end
end
end Go.Proofs.YtaedcknhkjpmlaaGreat
