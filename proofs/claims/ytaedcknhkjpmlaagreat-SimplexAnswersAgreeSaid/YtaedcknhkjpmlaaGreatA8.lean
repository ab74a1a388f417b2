/-
  Lemmas, part 8. Conditions: none.
-/
import Derived.Test.YtaedcknhkjpmlaaGreatA7
import Derived.Test.YtaedcknhkjpmlaaGreatRows
import Derived.ProofKit
import Derived.OpenShut
import Derived.ChangeSame
import Derived.Deep.Slices
import Derived.JoinedCond
import Derived.SizedLaws
import Derived.Deep.CondSized
set_option linter.all false
set_option maxRecDepth 100000
namespace Go.Proofs.YtaedcknhkjpmlaaGreat
open Go.RowKit Go.IntKind
noncomputable section
def nY(ep:List aq):Int→Option (Int⊕(Bool⊕Unit)):=fun aJ=>cnd (decide (aJ<((ep).length:Int))) (gd (0≤aJ∧aJ<((ep).length:Int)) (bnd (fq ((ep)[(aJ).toNat]!)) fun x4=>cnd (!x4) (some (.inr (.inl false))) (some (.inl (i64.wrap (aJ+(1:Int))))))) (some (.inr (.inr ())))
def l6(ep:List aq):Option Bool:=bnd (bS (nY ep) (0:Int)) fun y7=>match y7 with| .inl r=>some r| .inr ()=>some true
theorem ur {ep:List aq}{r:Bool}(h:l6 ep=some r):ax Tryz.prog 64 [dL ai ep] (dB r):=by
 refine bE (rs:=[.tmp 2]) (fun cx hx h0=>?_) Tryz.func64
 unfold l6 at h
 refine ra hx ?_
 refine AW.seq (ra hx ?_)
 refine AW.block ?_
 obtain⟨y,hy,h⟩:=ab h
 refine lp (S:=Int) (X:=Bool⊕Unit) (fun aJ=>[(0,dL ai ep),(3,dI .i64 aJ)]) (fun aJ=>⟨[],[],0⟩) (PS (PR [.tmp 2] fun r=>dB r) (PE cx (.exit 0) (fun ()=>[]) fun ()=>⟨[],[],0⟩)) hy ?_ ?_ ?_
 exact wk h0 [] (wR rfl (wR rfl wTn)) wVn wLn
 clear hy h
 rintro aJ y h
 dsimp only[nY] at h
 refine AW.seq (ra hx ?_)
 refine cdh h rfl (fun c5 h=>?_) (fun c5 h=>?_)
 refine AW.skip (AW.seq (AW.block (rs hx fun K hK=>?_)))
 iterate 2 refine sa ?_
 obtain⟨ml,h⟩:=aC h
 have p8:(aJ).toNat<(ep).length:=by omega
 refine s1 (g7 ml aM ay) ?_
 refine s1 (d:=dG ai ((ep)[(aJ).toNat]!)) (mi (c:=ai) (l:=ep) (n:=(aJ).toNat) (o:=0) ay p8 (f8 _ _ rfl)) ?_
 refine scb h mn fun x4 h=>?_
 refine sa ?_
 refine .nil (hK _ _ (ra hx ?_))
 refine cdh h rfl (fun fe h=>?_) (fun fe h=>?_)
 refine ra hx ?_
 refine AW.ret ?_
 cases h
 refine PS.r ⟨by nofun,PS.l (PR.i ?_)⟩
 exact rv1
 refine AW.skip (rb hx ?_)
 cases h
 exact PS.l (pe0 h0 [])
 refine AW.exit ?_
 try dsimp only
 try simp only[aU,reduceIte,Nat.reduceEqDiff,reduceCtorEq]
 cases h
 exact PS.r ⟨by nofun,PS.r (PE.i (wk h0 [] wTn wVn wLn))⟩
 rcases y with r|⟨⟩
 rintro ex tm' hp' ⟨rfl,hw⟩
 cases h
 exact hw
 rintro ex tm' hp' ⟨rfl,hw⟩
 try dsimp only
 try simp only[aU,reduceIte,Nat.reduceEqDiff,reduceCtorEq]
 refine AW.weak hw (ra hx ?_)
 refine AW.ret ?_
 cases h
 exact rv1
def l7(aN:fE)(iQ:Int)(BA:Int):Option Bool:=bnd (S:=Bool) (cnd (decide ((0:Int)≤aN.vR)) (cnd (decide ((0:Int)≤aN.vC)) (cnd (decide (aN.vR≤iQ)) (cnd (decide (aN.vC≤BA)) (cnd (decide (((aN.vV).length:Int)=(i64.wrap (aN.vR*aN.vC)))) (bnd (l6 aN.vV) fun x6=>some (x6)) (some (false))) (some (false))) (some (false))) (some (false))) (some (false))) fun bI=>some bI
set_option maxHeartbeats 4000000 in
theorem Bk {aN:fE}{iQ:Int}{BA:Int}{r:Bool}(h:l7 aN iQ BA=some r):ax Tryz.prog 63 [dG f6 aN,dI .i64 iQ,dI .i64 BA] (dB r):=by
 refine bE (rs:=[.tmp 6]) (fun cx hx h0=>?_) Tryz.func63
 unfold l7 at h
 refine rs hx fun K hK=>?_
 refine s1 (d:=.pt 0 0) gD ?_
 refine sa ?_
 refine .nil (hK _ _ (AW.seq ?_))
 obtain⟨bI,hy,h⟩:=ab h
 refine jn ((PE cx .normal (fun bI=>[(6,dB bI)]) fun bI=>⟨[],[],0⟩) bI) ?_ ?_
 replace h:=hy
 refine rq hx fun K hK=>?_
 refine sa ?_
 refine s1 (bi bG) ?_
 iterate 2 refine sa ?_
 rcases aD (decide ((0:Int)≤aN.vR)) with c5|c5
 replace h:=aP c5 h
 refine ga c5 ?_
 refine g1 c5 (bi bG) ?_
 refine ga c5 ?_
 refine s1 (aw c5) ?_
 refine sa ?_
 rcases aD (decide ((0:Int)≤aN.vC)) with oq|oq
 replace h:=aP oq h
 refine ga oq ?_
 refine g1 oq (bi bG) ?_
 iterate 2 refine ga oq ?_
 refine s1 (aw oq) ?_
 refine sa ?_
 rcases aD (decide (aN.vR≤iQ)) with bb|bb
 replace h:=aP bb h
 refine ga bb ?_
 refine g1 bb (bi bG) ?_
 iterate 2 refine ga bb ?_
 refine s1 (aw bb) ?_
 refine sa ?_
 rcases aD (decide (aN.vC≤BA)) with gH|gH
 replace h:=aP gH h
 refine ga gH ?_
 refine g1 gH (bi aM) ?_
 iterate 2 refine ga gH ?_
 refine g1 gH (bi bG) ?_
 refine ga gH ?_
 refine g1 gH (bi bG) ?_
 iterate 2 refine ga gH ?_
 refine s1 (aw gH) ?_
 refine sa ?_
 rcases aD (decide (((aN.vV).length:Int)=(i64.wrap (aN.vR*aN.vC)))) with eH|eH
 replace h:=aP eH h
 refine ga eH ?_
 refine g1 eH (bi aM) ?_
 obtain⟨x6,pZ,h⟩:=ab h
 refine g1 eH (bj rfl (ur pZ) rfl (lA (ao _) lAn) (.inl rfl)) ?_
 refine s1 (aw eH) ?_
 refine sa ?_
 refine .nil (hK _ _ ?_)
 cases h
 exact pe0 h0 []
 replace h:=aQ eH h
 iterate 3 refine aH rfl rfl eH ?_
 refine s1 (al eH) ?_
 refine sa ?_
 refine .nil (hK _ _ ?_)
 cases h
 exact pe0 h0 []
 replace h:=aQ gH h
 iterate 9 refine aH rfl rfl gH ?_
 refine s1 (al gH) ?_
 refine sa ?_
 iterate 3 refine aH rfl rfl rfl ?_
 refine s1 (al rfl) ?_
 refine sa ?_
 refine .nil (hK _ _ ?_)
 cases h
 exact pe0 h0 []
 replace h:=aQ bb h
 iterate 4 refine aH rfl rfl bb ?_
 refine s1 (al bb) ?_
 refine sa ?_
 iterate 9 refine aH rfl rfl rfl ?_
 refine s1 (al rfl) ?_
 refine sa ?_
 iterate 3 refine aH rfl rfl rfl ?_
 refine s1 (al rfl) ?_
 refine sa ?_
 refine .nil (hK _ _ ?_)
 cases h
 exact pe0 h0 []
 replace h:=aQ oq h
 iterate 4 refine aH rfl rfl oq ?_
 refine s1 (al oq) ?_
 refine sa ?_
 iterate 4 refine aH rfl rfl rfl ?_
 refine s1 (al rfl) ?_
 refine sa ?_
 iterate 9 refine aH rfl rfl rfl ?_
 refine s1 (al rfl) ?_
 refine sa ?_
 iterate 3 refine aH rfl rfl rfl ?_
 refine s1 (al rfl) ?_
 refine sa ?_
 refine .nil (hK _ _ ?_)
 cases h
 exact pe0 h0 []
 replace h:=aQ c5 h
 iterate 3 refine aH rfl rfl c5 ?_
 refine s1 (al c5) ?_
 refine sa ?_
 iterate 4 refine aH rfl rfl rfl ?_
 refine s1 (al rfl) ?_
 refine sa ?_
 iterate 4 refine aH rfl rfl rfl ?_
 refine s1 (al rfl) ?_
 refine sa ?_
 iterate 9 refine aH rfl rfl rfl ?_
 refine s1 (al rfl) ?_
 refine sa ?_
 iterate 3 refine aH rfl rfl rfl ?_
 refine s1 (al rfl) ?_
 refine sa ?_
 refine .nil (hK _ _ ?_)
 cases h
 exact pe0 h0 []
 rintro ex tm' hp' ⟨rfl,hw⟩
 refine AW.weak hw (AW.ret ?_)
 cases h
 exact rv1
def mQ(oa:bY):Option Bool:=bnd (l7 oa.vA (2000:Int) (2000:Int)) fun x1=>bnd (S:=Bool) (cnd x1 (cnd (decide (((oa.vB).length:Int)=oa.vA.vR)) (cnd (decide (((oa.vC).length:Int)=oa.vA.vC)) (bnd (l6 oa.vB) fun x6=>cnd x6 (bnd (l6 oa.vC) fun x9=>some (x9)) (some (false))) (some (false))) (some (false))) (some (false))) fun ju=>some ju
set_option maxHeartbeats 4000000 in
theorem Du {oa:bY}{r:Bool}(h:mQ oa=some r):ax Tryz.prog 16 [dG ci oa] (dB r):=by
 refine bE (rs:=[.tmp 2]) (fun cx hx h0=>?_) Tryz.func16
 unfold mQ at h
 refine rs hx fun K hK=>?_
 refine s1 (d:=.pt 0 0) gD ?_
 refine sa ?_
 refine .nil (hK _ _ (rs hx fun K hK=>?_))
 refine sa ?_
 refine s1 (d:=dG f6 oa.vA) (iH lE) ?_
 refine scb h Bk fun x1 h=>?_
 refine sa ?_
 refine .nil (hK _ _ (AW.seq ?_))
 obtain⟨ju,hy,h⟩:=ab h
 refine jn ((PE cx .normal (fun ju=>[(2,dB ju)]) fun ju=>⟨[],[],0⟩) ju) ?_ ?_
 replace h:=hy
 refine rq hx fun K hK=>?_
 iterate 2 refine sa ?_
 rcases aD x1 with bb|bb
 replace h:=aP bb h
 refine ga bb ?_
 refine g1 bb (bi aM) ?_
 iterate 3 refine ga bb ?_
 refine g1 bb (bi bG) ?_
 refine ga bb ?_
 refine s1 (aw bb) ?_
 refine sa ?_
 rcases aD (decide (((oa.vB).length:Int)=oa.vA.vR)) with gH|gH
 replace h:=aP gH h
 refine ga gH ?_
 refine g1 gH (bi aM) ?_
 iterate 3 refine ga gH ?_
 refine g1 gH (bi bG) ?_
 refine ga gH ?_
 refine s1 (aw gH) ?_
 refine sa ?_
 rcases aD (decide (((oa.vC).length:Int)=oa.vA.vC)) with eH|eH
 replace h:=aP eH h
 refine ga eH ?_
 refine g1 eH (bi aM) ?_
 obtain⟨x6,pZ,h⟩:=ab h
 refine g1 eH (bj rfl (ur pZ) rfl (lA (ao _) lAn) (.inl rfl)) ?_
 refine s1 (aw eH) ?_
 refine sa ?_
 rcases aD x6 with iS|iS
 replace h:=aP iS h
 refine ga iS ?_
 refine g1 iS (bi aM) ?_
 obtain⟨x9,rW,h⟩:=ab h
 refine g1 iS (bj rfl (ur rW) rfl (lA (ao _) lAn) (.inl rfl)) ?_
 refine s1 (aw iS) ?_
 refine sa ?_
 refine .nil (hK _ _ ?_)
 cases h
 exact pe0 h0 []
 replace h:=aQ iS h
 iterate 3 refine aH rfl rfl iS ?_
 refine s1 (al iS) ?_
 refine sa ?_
 refine .nil (hK _ _ ?_)
 cases h
 exact pe0 h0 []
 replace h:=aQ eH h
 iterate 3 refine aH rfl rfl eH ?_
 refine s1 (al eH) ?_
 refine sa ?_
 iterate 3 refine aH rfl rfl rfl ?_
 refine s1 (al rfl) ?_
 refine sa ?_
 refine .nil (hK _ _ ?_)
 cases h
 exact pe0 h0 []
 replace h:=aQ gH h
 iterate 7 refine aH rfl rfl gH ?_
 refine s1 (al gH) ?_
 refine sa ?_
 iterate 3 refine aH rfl rfl rfl ?_
 refine s1 (al rfl) ?_
 refine sa ?_
 iterate 3 refine aH rfl rfl rfl ?_
 refine s1 (al rfl) ?_
 refine sa ?_
 refine .nil (hK _ _ ?_)
 cases h
 exact pe0 h0 []
 replace h:=aQ bb h
 iterate 7 refine aH rfl rfl bb ?_
 refine s1 (al bb) ?_
 refine sa ?_
 iterate 7 refine aH rfl rfl rfl ?_
 refine s1 (al rfl) ?_
 refine sa ?_
 iterate 3 refine aH rfl rfl rfl ?_
 refine s1 (al rfl) ?_
 refine sa ?_
 iterate 3 refine aH rfl rfl rfl ?_
 refine s1 (al rfl) ?_
 refine sa ?_
 refine .nil (hK _ _ ?_)
 cases h
 exact pe0 h0 []
 rintro ex tm' hp' ⟨rfl,hw⟩
 refine AW.weak hw (AW.ret ?_)
 cases h
 exact rv1
def rF(nK:List aq)(aY:List aq):Int×aq→Option ((Int×aq)⊕aq):=fun (bg,qX)=>cnd (decide (bg<((nK).length:Int))) (gd (0≤bg∧bg<((nK).length:Int)) (gd (0≤bg∧bg<((aY).length:Int)) (bnd (uW ((nK)[(bg).toNat]!) ((aY)[(bg).toNat]!)) fun ro=>bnd (uX qX ro) fun mX=>some (.inl (i64.wrap (bg+(1:Int)),mX))))) (some (.inr qX))
def wt(nK:List aq)(aY:List aq):Option aq:=cnd (decide (((nK).length:Int)≠((aY).length:Int))) (bnd (ny) fun x2=>some x2) (bnd (oR (0:Int)) fun x4=>bnd (bS (rF nK aY) ((0:Int),x4)) fun gp=>some gp)
set_option maxHeartbeats 4000000 in
theorem w_ref20_Value {nK:List aq}{aY:List aq}{r:aq}(h:wt nK aY=some r):ax Tryz.prog 18 [dL ai nK,dL ai aY] (dG ai r):=by
 refine bE (rs:=[.cell 4 43]) (fun cx hx h0=>?_) Tryz.func18
 unfold wt at h
 refine rs hx fun K hK=>?_
 refine s1 (bm (F:=ai.f cY) ay) ?_
 refine .nil (hK _ _ (AW.seq (ra hx ?_)))
 refine cdh h rfl (fun c5 h=>?_) (fun c5 h=>?_)
 refine rs hx fun K hK=>?_
 refine scb h rr fun x2 h=>?_
 refine s0 (aE (b':=x2) (am.id _ _) ay) ?_
 refine .nil (hK _ _ (AW.ret ?_))
 cases h
 exact rv1
 refine AW.skip (rs hx fun K hK=>?_)
 refine scb h Bl fun x4 h=>?_
 refine s1 (bm (F:=ai.f cY) ay) ?_
 refine s0 (aE (b':=x4) (am.id _ _) ay) ?_
 refine .nil (hK _ _ (AW.seq (ra hx ?_)))
 refine AW.block ?_
 obtain⟨gp,hy,h⟩:=ab h
 refine lp (S:=Int×aq) (X:=aq) (fun (bg,qX)=>[(0,dL ai nK),(1,dL ai aY),(4,.pt 0 0),(5,.pt 1 0),(6,dI .i64 bg)]) (fun (bg,qX)=>⟨[(0,dC (ai.f cY)),(1,dC (ai.f qX))],[],2⟩) (PE cx (.exit 0) (fun gp=>[(4,.pt 0 0),(5,.pt 1 0)]) fun gp=>⟨[(0,dC (ai.f cY)),(1,dC (ai.f gp))],[],2⟩) hy ?_ ?_ ?_
 exact wk h0 [0,1] (wR rfl (wR rfl (wR rfl (wR rfl (wR rfl wTn))))) (vC rfl (vC rfl wVn)) wLn
 clear hy h
 rintro⟨bg,qX⟩ y h
 dsimp only[rF] at h
 refine AW.seq (ra hx ?_)
 refine cdh h rfl (fun fe h=>?_) (fun fe h=>?_)
 refine AW.skip (AW.seq (AW.block (rqd [70,69] hx fun K hK=>?_)))
 refine s1 (d:=dG ai qX) (au (am.id _ _) ay) ?_
 iterate 2 refine sa ?_
 obtain⟨I5,h⟩:=aC h
 have Gp:(bg).toNat<(nK).length:=by omega
 refine s1 (g7 I5 aM ay) ?_
 refine s1 (d:=dG ai ((nK)[(bg).toNat]!)) (mi (c:=ai) (l:=nK) (n:=(bg).toNat) (o:=0) ay Gp (f8 _ _ rfl)) ?_
 iterate 2 refine sa ?_
 obtain⟨hc9,h⟩:=aC h
 have Oe:(bg).toNat<(aY).length:=by omega
 refine s1 (g7 hc9 aM ay) ?_
 refine s1 (d:=dG ai ((aY)[(bg).toNat]!)) (mi (c:=ai) (l:=aY) (n:=(bg).toNat) (o:=0) ay Oe (f8 _ _ rfl)) ?_
 refine cqb h Gz fun ro h=>?_
 refine cqb h GA fun mX h=>?_
 refine s0 (aE (b':=mX) (am.id _ _) ay) ?_
 refine .nil (hK _ _ (rb hx ?_))
 cases h
 exact PS.l (pe0 h0 [0,1])
 refine AW.exit ?_
 try dsimp only
 try simp only[aU,reduceIte,Nat.reduceEqDiff,reduceCtorEq]
 cases h
 exact PS.r ⟨by nofun,PE.i (wk h0 [0,1] (wR rfl (wR rfl wTn)) (vC rfl (vC rfl wVn)) wLn)⟩
 rintro ex tm' hp' ⟨rfl,hw⟩
 try dsimp only
 try simp only[aU,reduceIte,Nat.reduceEqDiff,reduceCtorEq]
 refine AW.weak hw (rs hx fun K hK=>?_)
 refine s1 (d:=dG ai gp) (au (am.id _ _) ay) ?_
 refine s0 (aE (b':=gp) (am.id _ _) ay) ?_
 refine .nil (hK _ _ (AW.ret ?_))
 cases h
 exact rv1
def jS(aN:List aq)(aV:List aq):Int→Option (Int⊕(Bool⊕Unit)):=fun gN=>cnd (decide (gN<((aN).length:Int))) (gd (0≤gN∧gN<((aN).length:Int)) (gd (0≤gN∧gN<((aV).length:Int)) (cnd (decide (¬((aN)[(gN).toNat]! =(aV)[(gN).toNat]!))) (some (.inr (.inl false))) (some (.inl (i64.wrap (gN+(1:Int)))))))) (some (.inr (.inr ())))
def kE(aN:List aq)(aV:List aq):Option Bool:=cnd (decide (((aN).length:Int)≠((aV).length:Int))) (some false) (bnd (bS (jS aN aV) (0:Int)) fun y8=>match y8 with| .inl r=>some r| .inr ()=>some true)
set_option maxHeartbeats 4000000 in
theorem sX {aN:List aq}{aV:List aq}{r:Bool}(h:kE aN aV=some r):ax Tryz.prog 60 [dL ai aN,dL ai aV] (dB r):=by
 refine bE (rs:=[.tmp 4]) (fun cx hx h0=>?_) Tryz.func60
 unfold kE at h
 refine ra hx ?_
 refine AW.seq (ra hx ?_)
 refine cdh h rfl (fun c5 h=>?_) (fun c5 h=>?_)
 refine ra hx ?_
 refine AW.ret ?_
 cases h
 exact rv1
 refine AW.skip (AW.seq (ra hx ?_))
 refine AW.block ?_
 obtain⟨y,hy,h⟩:=ab h
 refine lp (S:=Int) (X:=Bool⊕Unit) (fun gN=>[(0,dL ai aN),(1,dL ai aV),(5,dI .i64 gN)]) (fun gN=>⟨[],[],0⟩) (PS (PR [.tmp 4] fun r=>dB r) (PE cx (.exit 0) (fun ()=>[]) fun ()=>⟨[],[],0⟩)) hy ?_ ?_ ?_
 exact wk h0 [] (wR rfl (wR rfl (wR rfl wTn))) wVn wLn
 clear hy h
 rintro gN y h
 dsimp only[jS] at h
 refine AW.seq (ra hx ?_)
 refine cdh h rfl (fun oq h=>?_) (fun oq h=>?_)
 refine AW.skip (AW.seq (AW.block (rsd [] hx fun K hK=>?_)))
 iterate 2 refine sa ?_
 obtain⟨Ly,h⟩:=aC h
 have hn4:(gN).toNat<(aN).length:=by omega
 refine s1 (g7 Ly aM ay) ?_
 refine s1 (d:=dG ai ((aN)[(gN).toNat]!)) (mi (c:=ai) (l:=aN) (n:=(gN).toNat) (o:=0) ay hn4 (f8 _ _ rfl)) ?_
 iterate 2 refine sa ?_
 obtain⟨hc5,h⟩:=aC h
 have hn6:(gN).toNat<(aV).length:=by omega
 refine s1 (g7 hc5 aM ay) ?_
 refine s1 (d:=dG ai ((aV)[(gN).toNat]!)) (mi (c:=ai) (l:=aV) (n:=(gN).toNat) (o:=0) ay hn6 (f8 _ _ rfl)) ?_
 refine s1 (CV tok 4 (by decide) zC ay) ?_
 refine .nil (hK _ _ (cdh h rfl (fun qz h=>?_) (fun qz h=>?_)))
 refine ra hx ?_
 refine AW.ret ?_
 cases h
 refine PS.r ⟨by nofun,PS.l (PR.i ?_)⟩
 exact rv1
 refine AW.skip (rb hx ?_)
 cases h
 exact PS.l (pe0 h0 [])
 refine AW.exit ?_
 try dsimp only
 try simp only[aU,reduceIte,Nat.reduceEqDiff,reduceCtorEq]
 cases h
 exact PS.r ⟨by nofun,PS.r (PE.i (wk h0 [] wTn wVn wLn))⟩
 rcases y with r|⟨⟩
 rintro ex tm' hp' ⟨rfl,hw⟩
 cases h
 exact hw
 rintro ex tm' hp' ⟨rfl,hw⟩
 try dsimp only
 try simp only[aU,reduceIte,Nat.reduceEqDiff,reduceCtorEq]
 refine AW.weak hw (ra hx ?_)
 refine AW.ret ?_
 cases h
 exact rv1
def iz(aN:bW)(aV:bW):Option Bool:=bnd (S:=Bool) (cnd (decide (aN.vKind=aV.vKind)) (bnd (kE aN.vX aV.vX) fun x2=>cnd x2 (bnd (kE aN.vY aV.vY) fun x5=>cnd x5 (bnd (kE aN.vRay aV.vRay) fun x8=>some (x8)) (some (false))) (some (false))) (some (false))) fun bI=>some bI
set_option maxHeartbeats 4000000 in
theorem wM {aN:bW}{aV:bW}{r:Bool}(h:iz aN aV=some r):ax Tryz.prog 14 [dG dU aN,dG dU aV] (dB r):=by
 refine bE (rs:=[.tmp 4]) (fun cx hx h0=>?_) Tryz.func14
 unfold iz at h
 refine rs hx fun K hK=>?_
 refine s1 (d:=.pt 0 0) gD ?_
 refine s1 (d:=.pt 1 0) gD ?_
 refine sa ?_
 refine .nil (hK _ _ (AW.seq ?_))
 obtain⟨bI,hy,h⟩:=ab h
 refine jn ((PE cx .normal (fun bI=>[(4,dB bI)]) fun bI=>⟨[],[],0⟩) bI) ?_ ?_
 replace h:=hy
 refine rq hx fun K hK=>?_
 refine sa ?_
 refine s1 (bi bG) ?_
 refine sa ?_
 refine s1 (bi bG) ?_
 iterate 2 refine sa ?_
 rcases aD (decide (aN.vKind=aV.vKind)) with c5|c5
 replace h:=aP c5 h
 refine ga c5 ?_
 refine g1 c5 (bi aM) ?_
 refine ga c5 ?_
 refine g1 c5 (bi aM) ?_
 obtain⟨x2,IP,h⟩:=ab h
 refine g1 c5 (bj rfl (sX IP) rfl (lA (ao _) (lA (ao _) lAn)) (.inl rfl)) ?_
 refine s1 (aw c5) ?_
 refine sa ?_
 rcases aD x2 with gH|gH
 replace h:=aP gH h
 refine ga gH ?_
 refine g1 gH (bi aM) ?_
 refine ga gH ?_
 refine g1 gH (bi aM) ?_
 obtain⟨x5,AD,h⟩:=ab h
 refine g1 gH (bj rfl (sX AD) rfl (lA (ao _) (lA (ao _) lAn)) (.inl rfl)) ?_
 refine s1 (aw gH) ?_
 refine sa ?_
 rcases aD x5 with qz|qz
 replace h:=aP qz h
 refine ga qz ?_
 refine g1 qz (bi aM) ?_
 refine ga qz ?_
 refine g1 qz (bi aM) ?_
 obtain⟨x8,J8,h⟩:=ab h
 refine g1 qz (bj rfl (sX J8) rfl (lA (ao _) (lA (ao _) lAn)) (.inl rfl)) ?_
 refine s1 (aw qz) ?_
 refine sa ?_
 refine .nil (hK _ _ ?_)
 cases h
 exact pe0 h0 []
 replace h:=aQ qz h
 iterate 5 refine aH rfl rfl qz ?_
 refine s1 (al qz) ?_
 refine sa ?_
 refine .nil (hK _ _ ?_)
 cases h
 exact pe0 h0 []
 replace h:=aQ gH h
 iterate 5 refine aH rfl rfl gH ?_
 refine s1 (al gH) ?_
 refine sa ?_
 iterate 5 refine aH rfl rfl rfl ?_
 refine s1 (al rfl) ?_
 refine sa ?_
 refine .nil (hK _ _ ?_)
 cases h
 exact pe0 h0 []
 replace h:=aQ c5 h
 iterate 5 refine aH rfl rfl c5 ?_
 refine s1 (al c5) ?_
 refine sa ?_
 iterate 5 refine aH rfl rfl rfl ?_
 refine s1 (al rfl) ?_
 refine sa ?_
 iterate 5 refine aH rfl rfl rfl ?_
 refine s1 (al rfl) ?_
 refine sa ?_
 refine .nil (hK _ _ ?_)
 cases h
 exact pe0 h0 []
 rintro ex tm' hp' ⟨rfl,hw⟩
 refine AW.weak hw (AW.ret ?_)
 cases h
 exact rv1
theorem pG0 {α:Type}(c:Cd α)(a:α)(l:List E){z:Nat}(h:c.sz=z):((c.f a++l).drop 0).take z=c.f a:=by
 have hl:(c.f a).length=z:=(c.h a).trans h
 rw[pR,yk (by omega),g6 (by omega)]
theorem pG1 {α β:Type}(c:Cd α)(a:α)(k:Cd β)(b:β){o z:Nat}(h:c.sz=o)(h2:k.sz=z):((c.f a++k.f b).drop o).take z=k.f b:=by
 have hl:(c.f a).length=o:=(c.h a).trans h
 have hk:(k.f b).length=z:=(k.h b).trans h2
 rw[←hl,wz,g6 (by omega)]
section
def Iy(l:List Nu)(n:Nat):Bool:=decide (l.length=n)&&l.all fun x=>aK x&&decide (0≤dv x)
def xJ(c x:List Nu):Nat→Nu
 |0=>nOf 0
 |i+1=>od (xJ c x i) (pd c[i]! x[i]!)
def fg(c x:List Nu):Nu:=if c.length=x.length then xJ c x c.length else nuR none
def te(A:List Nu)(nn i:Nat):List Nu:=(A.drop (i*nn)).take nn
def zF(A:List Nu)(m nn k:Nat):List Nu:=(List.range m).map fun i=>A[i*nn+k]!
def DY(lines:Nat→List Nu)(x wth:List Nu)(ok:Int→Bool):Bool:=(List.range wth.length).all fun i=>aK (fg (lines i) x)&&ok (pD (fg (lines i) x) wth[i]!)
def qI(m nn:Nat)(A x b:List Nu):Bool:=Iy x nn&&DY (te A nn) x b fun c=>decide (c≤0)
def vo(m nn:Nat)(A y c:List Nu):Bool:=Iy y m&&DY (zF A m nn) y c fun c=>decide (0≤c)
def ta(x:Nu)(s:Int):Bool:=aK x&&decide (dv x=s)
def jI(m nn:Nat)(A B C:List Nu)(a:Ans):Bool:=
 if a.kind=1 then decide (a.ray.length=0)&&qI m nn A a.x B&&vo m nn A a.y C&&(aK (fg C a.x)&&decide (fg C a.x=fg a.y B))
 else if a.kind=2 then decide (a.x.length+a.ray.length=0)&&vo m nn A a.y (List.replicate nn (nOf 0))&&ta (fg a.y B) (-1)
 else if a.kind=3 then decide (a.y.length=0)&&qI m nn A a.x B&&qI m nn A a.ray (List.replicate m (nOf 0))&&ta (fg C a.ray) 1
 else false
theorem HH {x y:Nu}(hx:aK x=true)(hy:aK y=true):(pD x y≤0↔rv x≤rv y)∧(0≤pD x y↔rv y≤rv x)∧(pD x y<0↔rv x<rv y)∧(pD x y=0↔rv x=rv y):=by
 rw[BI,dm.1 hx,dm.1 hy]
 unfold ocmp
 dsimp only
 by_cases h1:rv x<rv y
 ·rw[if_pos h1];grind
 ·rw[if_neg h1]
  by_cases h2:rv y<rv x
  ·rw[if_pos h2];grind
  ·rw[if_neg h2];grind
theorem KW {c x:List Nu}{n:Nat}:aK (xJ c x n)=true→rv (xJ c x n)=er n fun i=>rv c[i]! *rv x[i]! :=by
 induction n with
 |zero=>intro _;exact of0.2
 |succ n ih=>
  intro h
  rw[show xJ c x (n+1)=od (xJ c x n) (pd c[n]! x[n]!) from rfl] at h ⊢
  obtain⟨h1,h2⟩:=uU h
  obtain⟨h3,h4⟩:=OM h2
  rw[Fj h1 h2 h,Fi h3 h4 h2,ih h1]
  rfl
theorem oH {c x:List Nu}(h:aK (fg c x)=true):c.length=x.length∧rv (fg c x)=er c.length fun i=>rv c[i]! *rv x[i]! :=by
 unfold fg at h ⊢
 split at h
 ·rename_i e
  rw[if_pos e]
  exact⟨e,KW h⟩
 ·exfalso
  have:aK (nuR none)=false:=by rw[eO,pX oT];rfl
  rw[this] at h;cases h
theorem GW {l:List Nu}{n:Nat}(h:Iy l n=true):l.length=n∧∀i,i<n→aK l[i]! =true∧0≤rv l[i]! :=by
 unfold Iy at h
 rw[bq] at h
 have hl:=cj h.1
 refine⟨hl,fun i hi=>?_⟩
 have:=cX.1 h.2 l[i]! (by rw[cz l i (by omega)];exact pM _)
 rw[bq] at this
 refine⟨this.1,?_⟩
 have h2:=cj this.2
 have:=signn this.1
 grind
section
variable {m nn:Nat} {A B C x y b c:List Nu}
theorem GU(hA:A.length=m*nn){i k:Nat}(hi:i<m)(hk:k<nn):(te A nn i).length=nn∧(te A nn i)[k]! =A[i*nn+k]! :=by
 have hle:i*nn+nn≤A.length:=by
  rw[hA]
  calc i*nn+nn=(i+1)*nn:=by rw[cp];omega
   _≤m*nn:=dx _ hi
 unfold te
 refine⟨by rw[ey,fB];omega,gf ?_⟩
 rw[gM,if_pos hk,nA]
 exact uV (by omega)
theorem Pd {i k:Nat}(hi:i<m):(zF A m nn k)[i]! =A[i*nn+k]! :=gf (dW _ hi)
theorem tF(hA:A.length=m*nn)(hb:b.length=m)(hgb:∀i,i<m→aK b[i]! =true)(h:qI m nn A x b=true):x.length=nn∧(∀k,k<nn→aK x[k]! =true∧0≤rv x[k]!)∧∀i,i<m→er nn (fun k=>rv A[i*nn+k]! *rv x[k]!)≤rv b[i]! :=by
 unfold qI at h
 rw[bq] at h
 obtain⟨h1,h2⟩:=GW h.1
 refine⟨h1,h2,fun i hi=>?_⟩
 have h3:=cX.1 h.2 i (pw.2 (by omega))
 rw[bq] at h3
 obtain⟨h4,h5⟩:=oH h3.1
 have h6:=(HH h3.1 (hgb i hi)).1.1 (cj h3.2)
 rw[h5] at h6
 by_cases h0:nn=0
 ·subst h0
  have:(te A 0 i).length=0:=by unfold te;simp
  rw[this] at h6;exact h6
 ·rw[(GU hA hi (k:=0) (by omega)).1] at h6
  rwa[fh (g:=fun k=>rv A[i*nn+k]! *rv x[k]!) fun k hk=>by rw[(GU hA hi hk).2]] at h6
theorem z8(hc:c.length=nn)(hgc:∀k,k<nn→aK c[k]! =true)(h:vo m nn A y c=true):y.length=m∧(∀i,i<m→aK y[i]! =true∧0≤rv y[i]!)∧∀k,k<nn→rv c[k]!≤er m (fun i=>rv A[i*nn+k]! *rv y[i]!):=by
 unfold vo at h
 rw[bq] at h
 obtain⟨h1,h2⟩:=GW h.1
 refine⟨h1,h2,fun k hk=>?_⟩
 have h3:=cX.1 h.2 k (pw.2 (by omega))
 rw[bq] at h3
 obtain⟨h4,h5⟩:=oH h3.1
 have h6:=(HH h3.1 (hgc k hk)).2.1.1 (cj h3.2)
 rw[h5,show (zF A m nn k).length=m by simp[zF]] at h6
 rwa[fh (g:=fun i=>rv A[i*nn+k]! *rv y[i]!) fun i hi=>by rw[Pd hi]] at h6
end
theorem JK {f g:Nat→Rat}{n:Nat}(h:∀t,t<n→f t≤g t):er n f≤er n g:=by
 have h1:=z6 (f:=fun t=>g t - f t) (n:=n) fun t ht=>by have:=h t ht;grind
 rw[MH] at h1
 grind
theorem weak {m nn:Nat}{a:Nat→Nat→Rat}{x y b c:Nat→Rat}(hx:∀k,k<nn→0≤x k)(hy:∀i,i<m→0≤y i)(h1:∀i,i<m→er nn (fun k=>a i k*x k)≤b i)(h2:∀k,k<nn→c k≤er m (fun i=>a i k*y i)):er nn (fun k=>c k*x k)≤er m (fun i=>y i*b i):=by
 have e1:er nn (fun k=>c k*x k)≤er nn (fun k=>er m (fun i=>a i k*y i)*x k):=JK fun k hk=>Rat.mul_le_mul_of_nonneg_right (h2 k hk) (hx k hk)
 have e2:er nn (fun k=>er m (fun i=>a i k*y i)*x k)=er m (fun i=>y i*er nn (fun k=>a i k*x k)):=by
  have:∀k,er m (fun i=>a i k*y i)*x k=er m (fun i=>y i*(a i k*x k)):=fun k=>by
   rw[Rat.mul_comm,←sh]
   exact fh fun i _=>by grind
  rw[fh fun k _=>this k,D8]
  exact fh fun i _=>sh _ _ _
 have e3:er m (fun i=>y i*er nn (fun k=>a i k*x k))≤er m (fun i=>y i*b i):=JK fun i hi=>Rat.mul_le_mul_of_nonneg_left (h1 i hi) (hy i hi)
 grind
theorem agree {m nn:Nat}{A B C:List Nu}{a b:Ans}(hA:A.length=m*nn)(hB:B.length=m)(hC:C.length=nn)(hgB:∀i,i<m→aK B[i]! =true)(hgC:∀k,k<nn→aK C[k]! =true)(ha:jI m nn A B C a=true)(hb:jI m nn A B C b=true):a.kind=b.kind∧(a.kind=1→fg C a.x=fg C b.x):=by
 have h0g:∀n i,i<n→aK (List.replicate n (nOf 0))[i]! =true∧rv (List.replicate n (nOf 0))[i]! =0:=fun n i hi=>by rw[AV hi];exact of0
 -- what each kind says
 have k1:∀a:Ans,jI m nn A B C a=true→a.kind=1→(∀k,k<nn→0≤rv a.x[k]!)∧(∀i,i<m→0≤rv a.y[i]!)∧(∀i,i<m→er nn (fun k=>rv A[i*nn+k]! *rv a.x[k]!)≤rv B[i]!)∧(∀k,k<nn→rv C[k]!≤er m (fun i=>rv A[i*nn+k]! *rv a.y[i]!))∧
   aK (fg C a.x)=true∧rv (fg C a.x)=er nn (fun k=>rv C[k]! *rv a.x[k]!)∧rv (fg C a.x)=er m (fun i=>rv a.y[i]! *rv B[i]!):=fun a h hk=>by
  unfold jI at h
  rw[if_pos hk] at h
  simp only[bq] at h
  obtain⟨⟨⟨_,h1⟩,h2⟩,h3,h4⟩:=h
  obtain⟨_,p2,p3⟩:=tF hA hB hgB h1
  obtain⟨q1,q2,q3⟩:=z8 hC hgC h2
  obtain⟨_,v2⟩:=oH h3
  have h4:=cj h4
  obtain⟨_,v3⟩:=oH (by rw[←h4];exact h3)
  rw[hC] at v2
  rw[q1,←h4] at v3
  exact⟨fun k hk=>(p2 k hk).2,fun i hi=>(q2 i hi).2,p3,q3,h3,v2,v3⟩
 have k2:∀a:Ans,jI m nn A B C a=true→a.kind=2→(∀i,i<m→0≤rv a.y[i]!)∧(∀k,k<nn→0≤er m (fun i=>rv A[i*nn+k]! *rv a.y[i]!))∧er m (fun i=>rv a.y[i]! *rv B[i]!)<0:=fun a h hk=>by
  unfold jI at h
  rw[if_neg (by omega),if_pos hk] at h
  simp only[bq] at h
  obtain⟨⟨_,h1⟩,h2⟩:=h
  obtain⟨q1,q2,q3⟩:=z8 (by simp) (fun k hk=>(h0g nn k hk).1) h1
  unfold ta at h2
  rw[bq] at h2
  obtain⟨_,v3⟩:=oH h2.1
  have h3:=(signn h2.1).1 (by have:=cj h2.2;omega)
  rw[v3,q1] at h3
  exact⟨fun i hi=>(q2 i hi).2,fun k hk=>by have:=q3 k hk;rwa[(h0g nn k hk).2] at this,h3⟩
 have k3:∀a:Ans,jI m nn A B C a=true→a.kind=3→(∀k,k<nn→0≤rv a.x[k]!)∧(∀i,i<m→er nn (fun k=>rv A[i*nn+k]! *rv a.x[k]!)≤rv B[i]!)∧(∀k,k<nn→0≤rv a.ray[k]!)∧(∀i,i<m→er nn (fun k=>rv A[i*nn+k]! *rv a.ray[k]!)≤0)∧0<er nn (fun k=>rv C[k]! *rv a.ray[k]!):=fun a h hk=>by
  unfold jI at h
  rw[if_neg (by omega),if_neg (by omega),if_pos hk] at h
  simp only[bq] at h
  obtain⟨⟨⟨_,h1⟩,h2⟩,h3⟩:=h
  obtain⟨_,p2,p3⟩:=tF hA hB hgB h1
  obtain⟨_,q2,q3⟩:=tF hA (by simp) (fun i hi=>(h0g m i hi).1) h2
  unfold ta at h3
  rw[bq] at h3
  obtain⟨_,v3⟩:=oH h3.1
  have h4:=(signp h3.1).1 (by have:=cj h3.2;omega)
  rw[v3,hC] at h4
  exact⟨fun k hk=>(p2 k hk).2,p3,fun k hk=>(q2 k hk).2,fun i hi=>by have:=q3 i hi;rwa[(h0g m i hi).2] at this,h4⟩
 have kk:∀a:Ans,jI m nn A B C a=true→a.kind=1∨a.kind=2∨a.kind=3:=fun a h=>by
  unfold jI at h
  by_cases h1:a.kind=1
  ·exact .inl h1
  by_cases h2:a.kind=2
  ·exact .inr (.inl h2)
  by_cases h3:a.kind=3
  ·exact .inr (.inr h3)
  rw[if_neg h1,if_neg h2,if_neg h3] at h
  cases h
 -- an x that is allowed,and a proof that there is none
 have c12:∀{x y:Nat→Rat},(∀k,k<nn→0≤x k)→(∀i,i<m→er nn (fun k=>rv A[i*nn+k]! *x k)≤rv B[i]!)→(∀i,i<m→0≤y i)→(∀k,k<nn→0≤er m (fun i=>rv A[i*nn+k]! *y i))→er m (fun i=>y i*rv B[i]!)<0→False:=fun hx h1 hy h2 h3=>by
  have:=weak (c:=fun _=>0) hx hy h1 h2
  rw[fh (g:=fun _=>0) fun k _=>Rat.zero_mul _,qk] at this
  grind
 -- prices,and a ray
 have c13:∀{r y:Nat→Rat},(∀k,k<nn→0≤r k)→(∀i,i<m→er nn (fun k=>rv A[i*nn+k]! *r k)≤0)→(∀i,i<m→0≤y i)→(∀k,k<nn→rv C[k]!≤er m (fun i=>rv A[i*nn+k]! *y i))→0<er nn (fun k=>rv C[k]! *r k)→False:=fun hx h1 hy h2 h3=>by
  have:=weak (b:=fun _=>0) hx hy h1 h2
  rw[fh (f:=fun i=>_*(0:Rat)) (g:=fun _=>0) fun k _=>Rat.mul_zero _,qk] at this
  grind
 rcases kk a ha with e1|e1|e1 <;> rcases kk b hb with e2|e2|e2
 ·refine⟨by omega,fun _=>?_⟩
  obtain⟨a1,a2,a3,a4,a5,a6,a7⟩:=k1 a ha e1
  obtain⟨b1,b2,b3,b4,b5,b6,b7⟩:=k1 b hb e2
  refine Cb a5 b5 ?_
  have w1:=weak a1 b2 a3 b4
  have w2:=weak b1 a2 b3 a4
  grind
 ·obtain⟨a1,a2,a3,_⟩:=k1 a ha e1
  obtain⟨b1,b2,b3⟩:=k2 b hb e2
  exact (c12 a1 a3 b1 b2 b3).elim
 ·obtain⟨a1,a2,a3,a4,_⟩:=k1 a ha e1
  obtain⟨b1,b2,b3,b4,b5⟩:=k3 b hb e2
  exact (c13 b3 b4 a2 a4 b5).elim
 ·obtain⟨a1,a2,a3,_⟩:=k1 b hb e2
  obtain⟨b1,b2,b3⟩:=k2 a ha e1
  exact (c12 a1 a3 b1 b2 b3).elim
 ·exact⟨by omega,fun e=>by omega⟩
 ·obtain⟨a1,a2,_⟩:=k3 b hb e2
  obtain⟨b1,b2,b3⟩:=k2 a ha e1
  exact (c12 a1 a2 b1 b2 b3).elim
 ·obtain⟨a1,a2,a3,a4,_⟩:=k1 b hb e2
  obtain⟨b1,b2,b3,b4,b5⟩:=k3 a ha e1
  exact (c13 b3 b4 a2 a4 b5).elim
 ·obtain⟨a1,a2,_⟩:=k3 a ha e1
  obtain⟨b1,b2,b3⟩:=k2 b hb e2
  exact (c12 a1 a2 b1 b2 b3).elim
 ·exact⟨by omega,fun e=>by omega⟩
end
section
theorem pAdd(x y:Nu):il (nv x) (nv y)=some (nv (od x y)):=by rw[uK];exact JA x.2 y.2
theorem pMul(x y:Nu):ik (nv x) (nv y)=some (nv (pd x y)):=by rw[sk];exact Jz x.2 y.2
theorem JX(x:Nu):bn (nv x)=some (aK x):=by rw[eO];exact iJ x.2
theorem pSign(x:Nu):kH (nv x)=some (dv x):=by rw[zc];exact P8 x.2
theorem pCmp(x y:Nu):js (nv x) (nv y)=some (pD x y):=by rw[BI];exact P9 x.2 y.2
theorem pOf {n:Int}(h:-2≤n∧n≤2):oS n=some (nv (nOf n)):=G_rOf (by omega) (by omega)
theorem pBad:fI=some (nv (nuR none)):=vj
theorem mget {l:List Nu}{i:Nat}(h:i<l.length):(l.map nv)[i]! =nv l[i]! :=by
 rw[cz _ _ (by rw[bT];exact h),List.getElem_map,cz l i h]
theorem uL {l:List Nu}{i:Nat}(h:i<l.length):(l.map nv)[((i:Nat):Int).toNat]! =nv l[i]! :=by
 rw[show ((i:Nat):Int).toNat=i by omega];exact mget h
theorem IB {x y:Nu}:nv x=nv y↔x=y:=⟨fun h=>Subtype.ext h,fun h=>by rw[h]⟩
theorem Ms {s:Int}(h1:0≤s)(h2:s≤18446744073709551614):decide (i64.wrap s=0)=decide (s=0):=by
 rw[IntKind.wrap_i64]
 by_cases h:s=0
 ·rw[aF h,aF (by omega)]
 ·rw[bH h,bH (by omega)]
section
variable {R:Type}
theorem oV(b x:Bool):cnd b (some x) (some false)=some (b&&x):=by cases b <;> rfl
theorem cOr(b x:Bool):cnd b (some true) (some x)=some (b||x):=by cases b <;> rfl
theorem cF(x y:Option R):cnd false x y=y:=rfl
theorem cT(x y:Option R):cnd true x y=x:=rfl
theorem Ek {n:Nat}(hn:n≤9223372036854775807)(ok:Nat→Bool)(res:Nat→R){b:Int→Option (Int⊕(R⊕Unit))}(h:∀i:Nat,i<n→b i=cnd (!ok i) (some (.inr (.inl (res i)))) (some (.inl (i64.wrap ((i:Int)+(1:Int))))))(he:b n=some (.inr (.inr ()))):
  ∃y,bS b (0:Int)=some y∧match y with| .inl r=>∃i,i<n∧ok i=false∧r=res i| .inr _=>(List.range n).all ok=true:=by
 refine tZ (b:=b) (fun i:Int=>0≤i∧i≤n∧∀j:Nat,j<i.toNat→ok j=true) (fun i=>(n - i).toNat) _ (fun i ⟨h1,h2,h3⟩=>?_) 0 ⟨by omega,by omega,fun j hj=>absurd hj (by simp)⟩
 by_cases hi:i<n
 ·obtain⟨k,rfl⟩:∃k:Nat,i=k:=⟨i.toNat,by omega⟩
  have hk:k<n:=by omega
  rw[h k hk]
  cases hg:ok k with
  |false=>exact .inr ⟨.inl (res k),rfl,k,hk,hg,rfl⟩
  |true=>
   refine .inl ⟨(k:Int)+1,by rw[fb (by omega) (by omega)];rfl,⟨by omega,by omega,fun j hj=>?_⟩,by omega⟩
   rcases gW j k with h4|h4
   ·exact h3 j (by omega)
   ·obtain rfl:j=k:=by omega
    exact hg
 ·obtain rfl:i=n:=by omega
  exact .inr ⟨.inr (),he,cX.2 fun j hj=>h3 j (by have:=pw.1 hj;omega)⟩
theorem sn {n:Nat}(hn:n≤9223372036854775807)(ok:Nat→Bool){b:Int→Option (Int⊕(Bool⊕Unit))}(h:∀i:Nat,i<n→b i=cnd (!ok i) (some (.inr (.inl false))) (some (.inl (i64.wrap ((i:Int)+(1:Int))))))(he:b n=some (.inr (.inr ()))):
  (bnd (bS b (0:Int)) fun y=>match y with| .inl r=>some r| .inr ()=>some true)=some ((List.range n).all ok):=by
 obtain⟨y,hy,hp⟩:=Ek hn ok (fun _=>false) h he
 rw[hy]
 cases y with
 |inl r=>
  obtain⟨i,h1,h2,rfl⟩:=hp
  have:(List.range n).all ok=false:=by rw[List.all_eq_false];exact⟨i,pw.2 h1,by rw[h2];simp⟩
  rw[this];rfl
 |inr u=>rw[hp];rfl
end
theorem EF {l:List Nu}(p:Nu→Bool):(List.range l.length).all (fun i=>p l[i]!)=l.all p:=by
 rw[CB,cX,cX]
 constructor
 ·intro h x hx
  obtain⟨i,hi,rfl⟩:=CE.1 hx
  have:=h i (pw.2 hi)
  rwa[cz l i hi] at this
 ·intro h i hi
  have hi:=pw.1 hi
  rw[cz l i hi]
  exact h _ (pM _)
def Fl(rows R Cc:Int)(A:List Nu):Bool:=decide (0≤R)&&(decide (0≤Cc)&&(decide (R≤rows)&&(decide (Cc≤2000)&&(decide ((A.length:Int)=R*Cc)&&A.all aK))))
def oI(R Cc:Int)(A B C:List Nu):Bool:=Fl 2000 R Cc A&&(decide ((B.length:Int)=R)&&(decide ((C.length:Int)=Cc)&&(B.all aK&&C.all aK)))
def rB(R Cc:Int)(A B:List Nu):Bool:=Fl 1000 R Cc A&&(decide ((B.length:Int)=R)&&B.all aK)
section
variable {R Cc:Int} {A B C:List Nu}
theorem C0 {rows:Int}(hr:rows≤1000000)(hA:A.length≤1000000):fW ⟨R,Cc,A.map nv⟩ rows=some (Fl rows R Cc A):=by
 unfold fW Fl
 dsimp only
 rw[sR hA,bT]
 by_cases h1:0≤R
 ·by_cases h2:0≤Cc
  ·by_cases h3:R≤rows
   ·by_cases h4:Cc≤2000
    ·have hmul:0≤R*Cc∧R*Cc≤1000000*2000:=⟨Int.mul_nonneg h1 h2,Int.mul_le_mul (by omega) h4 h2 (by omega)⟩
     rw[fb (by omega) (by omega)]
     simp only[ae,oV]
    ·simp only[bH h4,cF,oV,ae,tH,u7]
   ·simp only[bH h3,cF,oV,ae,tH,u7]
  ·simp only[bH h2,cF,oV,ae,tH,u7]
 ·simp only[bH h1,cF,oV,ae,tH,u7]
theorem Ge(hA:A.length≤1000000)(hB:B.length≤1000000)(hC:C.length≤1000000):gT ⟨⟨R,Cc,A.map nv⟩,B.map nv,C.map nv⟩=some (oI R Cc A B C):=by
 unfold gT oI
 dsimp only
 rw[C0 (by omega) hA,sR hB,sR hC,bT,bT]
 simp only[ae,oV]
theorem CZ(hA:A.length≤1000000)(hB:B.length≤1000000):fV ⟨R,Cc,A.map nv⟩ (B.map nv)=some (rB R Cc A B):=by
 unfold fV rB
 dsimp only
 rw[C0 (by omega) hA,sR hB,bT]
 simp only[ae,oV]
theorem qh {c x:List Nu}(hc:c.length≤1000000∨x.length≤1000000):cv (c.map nv) (x.map nv)=some (nv (fg c x)):=by
 unfold cv fg
 rw[bT,bT]
 by_cases h:c.length=x.length
 ·rw[cK _ _ (by omega),if_pos h,pOf (by omega),ae]
  have key:=uM (b:=gZ (c.map nv) (x.map nv)) (fun i:Nat=>((i:Int),nv (xJ c x i))) 0 c.length (nv (xJ c x c.length)) (cQ _) (fun i _ hi=>?_) ?_
  ·rw[show (((0:Nat):Int),nv (xJ c x 0))=((0:Int),nv (nOf 0)) from rfl] at key
   rw[key];rfl
  ·unfold gZ
   dsimp only
   rw[bT,bT,de _ _ (by omega),aL (by omega),aL (by omega),uL hi,uL (by omega),pMul,ae,pAdd,ae,fb (by omega) (by omega)]
   rfl
  ·unfold gZ
   dsimp only
   rw[bT,cK _ _ (by omega)]
 ·rw[de _ _ (by omega),if_neg h,pBad];rfl
theorem tO {l:List Nu}{n:Nat}(hl:l.length≤9223372036854775807):eu (l.map nv) n=some (Iy l n):=by
 have h1:∀x,fm (nv x)=some (!(aK x&&decide (0≤dv x))):=fun x=>by
  unfold fm
  rw[JX,pSign]
  simp only[ae,cOr]
  congr 1
  cases aK x
  ·rfl
  ·by_cases h:0≤dv x
   ·rw[aF h,bH (by omega)];rfl
   ·rw[bH h,aF (by omega)];rfl
 obtain⟨y,hy,hp⟩:=Ek (b:=a9 (l.map nv)) (n:=l.length) (by omega) (fun i=>aK l[i]! &&decide (0≤dv l[i]!)) (fun i=>(i:Int)) (fun i hi=>by
  unfold a9
  rw[bT,de _ _ (by omega),aL (by omega),uL hi,h1,ae]) (by
  unfold a9
  rw[bT,cK _ _ (by omega)])
 have h2:ba (l.map nv)=some (!(l.all fun x=>aK x&&decide (0≤dv x))):=by
  unfold ba bA
  rw[hy]
  rw[EF (fun x=>aK x&&decide (0≤dv x))] at hp
  cases y with
  |inl r=>
   obtain⟨i,h3,h4,rfl⟩:=hp
   have:(l.all fun x=>aK x&&decide (0≤dv x))=false:=by rw[List.all_eq_false];exact⟨l[i]!,by rw[cz l i h3];exact pM _,by rw[h4];simp⟩
   rw[this]
   show some (decide ((0:Int)≤(i:Int)))=_
   rw[aF (by omega)];rfl
  |inr u=>rw[hp];rfl
 unfold eu Iy
 rw[h2,bT]
 simp only[ae,oV,Bool.not_not]
 congr 2
 by_cases h:l.length=n
 ·rw[aF h,aF (by omega)]
 ·rw[bH h,bH (by omega)]
end
end
section
section
variable {m nn:Nat} {A B C x y b:List Nu}
theorem BJ {i:Nat}(hm:m≤2000)(hn:nn≤2000)(hi:i<m):i*nn+nn≤m*nn∧m*nn≤2000*2000∧(i+1)*nn=i*nn+nn:=by
 have h:(i+1)*nn=i*nn+nn:=by rw[cp];omega
 refine⟨?_,t7 hm hn,h⟩
 rw[←h];exact dx _ hi
theorem KH(hA:A.length=m*nn)(hm:m≤2000)(hn:nn≤2000){i:Nat}(hi:i<m):iZ ⟨m,nn,A.map nv⟩ i=some ((te A nn i).map nv):=by
 obtain⟨h1,h2,h3⟩:=BJ hm hn hi
 unfold iZ
 dsimp only
 have e1:i64.wrap ((i:Int)*(nn:Int))=((i*nn:Nat):Int):=by rw[←mT,fb (by omega) (by omega)]
 have e2:i64.wrap ((i64.wrap ((i:Int)+1))*(nn:Int))=((i*nn+nn:Nat):Int):=by
  rw[fb (z:=(i:Int)+1) (by omega) (by omega),show (i:Int)+1=((i+1:Nat):Int) by omega,←mT,h3,fb (by omega) (by omega)]
 rw[e1,e2,bT,aL (by omega)]
 unfold AB te
 rw[←List.map_drop,←Aq]
 congr 3
 congr 1;omega
theorem Jx(hA:A.length=m*nn)(hm:m≤2000)(hn:nn≤2000){k:Nat}(hk:k<nn):iy ⟨m,nn,A.map nv⟩ k=some ((zF A m nn k).map nv):=by
 unfold iy
 have key:=uM (b:=fM ⟨m,nn,A.map nv⟩ k) (fun i:Nat=>(((List.range i).map fun j=>A[j*nn+k]!).map nv,(i:Int))) 0 m ((zF A m nn k).map nv) (cQ _) (fun i _ hi=>?_) ?_
 ·rw[show ((((List.range 0).map fun j=>A[j*nn+k]!).map nv,((0:Nat):Int)))=(([]:List aq),(0:Int)) from rfl] at key
  rw[key];rfl
 ·obtain⟨h1,h2,h3⟩:=BJ hm hn hi
  have e1:i64.wrap ((i64.wrap ((i:Int)*(nn:Int)))+(k:Int))=((i*nn+k:Nat):Int):=by
   have e0:i64.wrap ((i:Int)*(nn:Int))=((i*nn:Nat):Int):=by rw[←mT,fb (by omega) (by omega)]
   rw[e0,fb (by omega) (by omega)];omega
  unfold fM
  dsimp only
  rw[e1,de _ _ (by omega),aL (by rw[bT];omega),uL (by omega),aL (by simp;omega),fb (by omega) (by omega),u6,jz,jz]
  rfl
 ·unfold fM
  dsimp only
  rw[cK _ _ (by omega)]
  rfl
theorem JQ(A:List Nu)(nn i:Nat):(te A nn i).length≤nn:=by unfold te;rw[ey];omega
theorem cmpX {ok:Int→Bool}(lines:Nat→List Nu)(i:Nat)(v w:Nu)(hv:v=fg (lines i) x)(hw:w=b[i]!){f:Int→Option Bool}(hf:∀c,f c=some (ok c)):
  (bnd (S:=Bool) (bnd (bn (nv v)) fun x8=>cnd (!x8) (some true) (bnd (js (nv v) (nv w)) fun ro=>bnd (f ro) fun mX=>some (!mX))) fun mF=>cnd mF (some (.inr (.inl false))) (some (.inl (i64.wrap ((i:Int)+(1:Int))))))=(cnd (!(aK (fg (lines i) x)&&ok (pD (fg (lines i) x) b[i]!))) (some (.inr (.inl false))) (some (.inl (i64.wrap ((i:Int)+(1:Int))))):Option (Int⊕(Bool⊕Unit))):=by
 subst hv hw
 rw[JX,pCmp]
 simp only[ae,hf]
 cases aK (fg (lines i) x) <;> cases ok (pD (fg (lines i) x) b[i]!) <;> rfl
theorem Gc(hA:A.length=m*nn)(hm:m≤2000)(hn:nn≤2000)(hb:b.length≤m):bw ⟨m,nn,A.map nv⟩ (x.map nv) (b.map nv)=some (DY (te A nn) x b fun c=>decide (c≤0)):=by
 unfold bw DY
 refine sn (by omega) (fun i=>aK (fg (te A nn i) x)&&decide (pD (fg (te A nn i) x) b[i]!≤0)) (fun i hi=>?_) ?_
 ·unfold bL
  have:=JQ A nn i
  rw[bT,de _ _ (by omega),aL (by omega),KH hA hm hn (by omega),ae,qh (.inl (by omega)),ae,uL hi]
  exact cmpX (ok:=fun c=>decide (c≤0)) (te A nn) i _ _ rfl rfl fun c=>rfl
 ·unfold bL
  rw[bT,cK _ _ (by omega)]
theorem D2(hA:A.length=m*nn)(hm:m≤2000)(hn:nn≤2000)(hb:b.length≤m):bu ⟨m,nn,A.map nv⟩ (x.map nv) (b.map nv)=some (DY (te A nn) x b fun c=>decide (c=0)):=by
 unfold bu DY
 refine sn (by omega) (fun i=>aK (fg (te A nn i) x)&&decide (pD (fg (te A nn i) x) b[i]! =0)) (fun i hi=>?_) ?_
 ·unfold bK
  have:=JQ A nn i
  rw[bT,de _ _ (by omega),aL (by omega),KH hA hm hn (by omega),ae,qh (.inl (by omega)),ae,uL hi]
  exact cmpX (ok:=fun c=>decide (c=0)) (te A nn) i _ _ rfl rfl fun c=>rfl
 ·unfold bK
  rw[bT,cK _ _ (by omega)]
theorem wH(hA:A.length=m*nn)(hm:m≤2000)(hn:nn≤2000)(hb:b.length≤nn):a8 ⟨m,nn,A.map nv⟩ (x.map nv) (b.map nv)=some (DY (zF A m nn) x b fun c=>decide (0≤c)):=by
 unfold a8 DY
 refine sn (by omega) (fun i=>aK (fg (zF A m nn i) x)&&decide (0≤pD (fg (zF A m nn i) x) b[i]!)) (fun i hi=>?_) ?_
 ·unfold bC
  have:(zF A m nn i).length=m:=by simp[zF]
  rw[bT,de _ _ (by omega),aL (by omega),Jx hA hm hn (by omega),ae,qh (.inl (by omega)),ae,uL hi]
  exact cmpX (ok:=fun c=>decide (0≤c)) (zF A m nn) i _ _ rfl rfl fun c=>rfl
 ·unfold bC
  rw[bT,cK _ _ (by omega)]
theorem EQ(hA:A.length=m*nn)(hm:m≤2000)(hn:nn≤2000)(hb:b.length≤m)(hx:x.length≤9223372036854775807)(B C:List aq):d6 (x.map nv) (b.map nv) ⟨⟨m,nn,A.map nv⟩,B,C⟩=some (qI m nn A x b):=by
 unfold d6 qI
 dsimp only
 rw[tO hx,Gc hA hm hn hb]
 simp only[ae,oV]
theorem H5(hA:A.length=m*nn)(hm:m≤2000)(hn:nn≤2000)(hb:b.length≤nn)(hy:y.length≤9223372036854775807)(k:Int)(xs rs B C:List aq):eQ (b.map nv) ⟨k,xs,y.map nv,rs⟩ ⟨⟨m,nn,A.map nv⟩,B,C⟩=some (vo m nn A y b):=by
 unfold eQ vo
 dsimp only
 rw[tO hy,wH hA hm hn hb]
 simp only[ae,oV]
theorem H4(v:Nu)(s:Int):fU (nv v) s=some (ta v s):=by
 unfold fU ta
 rw[JX,pSign]
 simp only[ae,oV]
theorem Gb {n:Nat}(h:n≤2000):fF n=some ((List.replicate n (nOf 0)).map nv):=by
 unfold fF
 rw[if_pos (by omega),List.map_replicate]
 congr 2
end
end
section
def qf(a:Ans):bW:=⟨a.kind,a.x.map nv,a.y.map nv,a.ray.map nv⟩
theorem cN(b x:Bool):cnd b (some false) (some x)=some (!b&&x):=by cases b <;> rfl
structure yD(a:Ans):Prop where
 x:a.x.length≤9223372036854775807
 y:a.y.length≤9223372036854775807
 ray:a.ray.length≤9223372036854775807
section
variable {m nn:Nat} {A B C:List Nu} {a:Ans}
theorem L6(hA:A.length=m*nn)(hm:m≤2000)(hn:nn≤2000)(hB:B.length=m)(hC:C.length=nn)(ha:yD a):jm ⟨⟨m,nn,A.map nv⟩,B.map nv,C.map nv⟩ (qf a)=some (jI m nn A B C a):=by
 have hx:=ha.x
 have hy:=ha.y
 have hr:=ha.ray
 unfold jm jI qf
 dsimp only
 rw[EQ hA hm hn (by omega) (by omega),H5 hA hm hn (by omega) (by omega),qh (.inl (by omega)),qh (.inr (by omega)),Gb hn,Gb hm,qh (.inl (by omega))]
 simp only[ae,H4,JX]
 rw[H5 hA hm hn (by simp) (by omega),EQ hA hm hn (by simp) (by omega)]
 simp only[ae,bT]
 by_cases h1:a.kind=1
 ·rw[de _ _ h1,if_pos h1]
  simp only[oV,cOr,cN,ae,Bool.not_or,Bool.not_not,IB]
  congr 2
  rw[Bool.and_assoc]
  congr 1
  by_cases h:a.ray.length=0
  ·rw[aF h,bH (by omega)];rfl
  ·rw[bH h,aF (by omega)];rfl
 ·rw[cK _ _ h1,if_neg h1]
  by_cases h2:a.kind=2
  ·rw[de _ _ h2,if_pos h2]
   simp only[oV,ae,Bool.and_assoc]
   rw[Ms (by omega) (by omega)]
   congr 2
   by_cases h:a.x.length+a.ray.length=0
   ·rw[aF h,aF (by omega)]
   ·rw[bH h,bH (by omega)]
  ·rw[cK _ _ h2,if_neg h2]
   by_cases h3:a.kind=3
   ·rw[de _ _ h3,if_pos h3]
    simp only[oV,ae,Bool.and_assoc]
    congr 2
    by_cases h:a.y.length=0
    ·rw[aF h,aF (by omega)]
    ·rw[bH h,bH (by omega)]
   ·rw[cK _ _ h3,if_neg h3]
theorem wO {R Cc:Int}(h:oI R Cc A B C=true):∃m nn:Nat,R=m∧Cc=nn∧m≤2000∧nn≤2000∧A.length=m*nn∧B.length=m∧C.length=nn∧A.all aK=true∧B.all aK=true∧C.all aK=true:=by
 unfold oI Fl at h
 simp only[bq,rl] at h
 obtain⟨⟨h1,h2,h3,h4,h5,h6⟩,h7,h8,h9,v9⟩:=h
 refine⟨R.toNat,Cc.toNat,by omega,by omega,by omega,by omega,?_,by omega,by omega,h6,h9,v9⟩
 have e1:R=(R.toNat:Int):=by omega
 have e2:Cc=(Cc.toNat:Int):=by omega
 rw[e1,e2,←mT] at h5
 omega
def ni(R Cc:Int)(A B C:List Nu)(a:Ans):Int:=if oI R Cc A B C then (if jI R.toNat Cc.toNat A B C a then 0 else 250) else 1
theorem Be {R Cc:Int}(hA:A.length≤1000000)(hB:B.length≤1000000)(hC:C.length≤1000000)(ha:yD a):fG ⟨⟨R,Cc,A.map nv⟩,B.map nv,C.map nv⟩ (qf a)=some (ni R Cc A B C a):=by
 unfold fG ni
 rw[Ge hA hB hC,ae]
 cases hv:oI R Cc A B C with
 |false=>rfl
 |true=>
  obtain⟨m,nn,rfl,rfl,hm,hn,h1,h2,h3,_⟩:=wO hv
  rw[L6 h1 hm hn h2 h3 ha]
  show cnd (!(jI m nn A B C a)) (some (250:Int)) (some (0:Int))=some (if jI m nn A B C a=true then 0 else 250)
  cases jI m nn A B C a <;> rfl
def Ch(m nn:Nat)(A B:List Nu)(a:Ans):Bool:=
 if a.kind=1 then decide (a.y.length+a.ray.length=0)&&(Iy a.x nn&&DY (te A nn) a.x B fun c=>decide (c=0))
 else if a.kind=2 then decide (a.x.length+a.ray.length=0)&&(decide (a.y.length=m)&&(a.y.all aK&&(DY (zF A m nn) a.y (List.replicate nn (nOf 0)) (fun c=>decide (0≤c))&&ta (fg a.y B) (-1))))
 else false
def Ct(R Cc:Int)(A B:List Nu)(a:Ans):Int:=if rB R Cc A B then (if Ch R.toNat Cc.toNat A B a then 0 else 250) else 1
theorem z5 {R Cc:Int}(h:rB R Cc A B=true):∃m nn:Nat,R=m∧Cc=nn∧m≤1000∧nn≤2000∧A.length=m*nn∧B.length=m∧A.all aK=true∧B.all aK=true:=by
 unfold rB Fl at h
 simp only[bq,rl] at h
 obtain⟨⟨h1,h2,h3,h4,h5,h6⟩,h7,h9⟩:=h
 refine⟨R.toNat,Cc.toNat,by omega,by omega,by omega,by omega,?_,by omega,h6,h9⟩
 have e1:R=(R.toNat:Int):=by omega
 have e2:Cc=(Cc.toNat:Int):=by omega
 rw[e1,e2,←mT] at h5
 omega
theorem Gf {R Cc:Int}(hA:A.length≤1000000)(hB:B.length≤1000000)(ha:yD a):gt ⟨R,Cc,A.map nv⟩ (B.map nv) (qf a)=some (Ct R Cc A B a):=by
 have hx:=ha.x
 have hy:=ha.y
 have hr:=ha.ray
 unfold gt Ct
 rw[CZ hA hB,ae]
 cases hv:rB R Cc A B with
 |false=>rfl
 |true=>
  obtain⟨m,nn,rfl,rfl,hm,hn,h1,h2,_⟩:=z5 hv
  have key:∀(e:Option Bool),e=some (Ch m nn A B a)→(cnd (!true) (some (1:Int)) (bnd e fun d9=>cnd (!d9) (some (250:Int)) (some (0:Int))))=some (if true=true then (if Ch ((m:Int)).toNat ((nn:Int)).toNat A B a=true then 0 else 250) else 1):=fun e he=>by
   rw[he]
   show cnd (!(Ch m nn A B a)) (some (250:Int)) (some (0:Int))=some (if Ch m nn A B a=true then 0 else 250)
   cases Ch m nn A B a <;> rfl
  refine key _ ?_
  unfold Ch qf
  dsimp only
  simp only[bT]
  by_cases k1:a.kind=1
  ·rw[de _ _ k1,if_pos k1,tO (by omega),D2 h1 (by omega) hn (by omega)]
   simp only[oV,ae]
   rw[Ms (by omega) (by omega)]
   congr 2
   by_cases h:a.y.length+a.ray.length=0
   ·rw[aF h,aF (by omega)]
   ·rw[bH h,bH (by omega)]
  ·rw[cK _ _ k1,if_neg k1]
   by_cases k2:a.kind=2
   ·rw[de _ _ k2,if_pos k2,Gb hn,Ms (by omega) (by omega)]
    by_cases h:a.x.length+a.ray.length=0
    ·rw[aF h,de _ _ (by omega)]
     by_cases h4:a.y.length=m
     ·rw[aF h4,de _ _ (by omega),sR (by omega),qh (.inr (by omega))]
      simp only[ae,H4]
      rw[wH h1 (by omega) hn (by simp)]
      simp only[oV,ae,Bool.true_and]
     ·rw[bH h4,cK _ _ (by omega)];rfl
    ·rw[bH h,cK _ _ (by omega)];rfl
   ·rw[cK _ _ k2,if_neg k2]
end
theorem qGood(x:Nu):fq (nv x)=some (aK x):=by rw[eO];exact R_Good x.2
theorem PT {l:List Nu}(hl:l.length≤9223372036854775807):l6 (l.map nv)=some (l.all aK):=by
 unfold l6
 rw[←EF]
 refine sn (by omega) (fun i=>aK l[i]!) (fun i hi=>?_) ?_
 ·unfold nY
  rw[bT,de _ _ (by omega),aL (by omega),uL hi,qGood,ae]
 ·unfold nY
  rw[bT,cK _ _ (by omega)]
section
variable {R Cc:Int} {A B C:List Nu}
theorem PU {rows:Int}(hr:rows≤1000000)(hA:A.length≤9223372036854775807):l7 ⟨R,Cc,A.map nv⟩ rows 2000=some (Fl rows R Cc A):=by
 unfold l7 Fl
 dsimp only
 rw[PT hA,bT]
 by_cases h1:0≤R
 ·by_cases h2:0≤Cc
  ·by_cases h3:R≤rows
   ·by_cases h4:Cc≤2000
    ·have hmul:0≤R*Cc∧R*Cc≤1000000*2000:=⟨Int.mul_nonneg h1 h2,Int.mul_le_mul (by omega) h4 h2 (by omega)⟩
     rw[fb (by omega) (by omega)]
     simp only[ae,oV]
    ·simp only[bH h4,cF,oV,ae,tH,u7]
   ·simp only[bH h3,cF,oV,ae,tH,u7]
  ·simp only[bH h2,cF,oV,ae,tH,u7]
 ·simp only[bH h1,cF,oV,ae,tH,u7]
theorem R_Valid(hA:A.length≤9223372036854775807)(hB:B.length≤9223372036854775807)(hC:C.length≤9223372036854775807):mQ ⟨⟨R,Cc,A.map nv⟩,B.map nv,C.map nv⟩=some (oI R Cc A B C):=by
 unfold mQ oI
 dsimp only
 rw[PU (by omega) hA,PT hB,PT hC,bT,bT]
 simp only[ae,oV]
theorem Jw {a b:List Nu}(ha:a.length≤9223372036854775807):kE (a.map nv) (b.map nv)=some (decide (a=b)):=by
 unfold kE
 rw[bT,bT]
 by_cases h:a.length=b.length
 ·rw[cK _ _ (by omega)]
  have:=sn (b:=jS (a.map nv) (b.map nv)) (n:=a.length) (by omega) (fun i=>decide (a[i]! =b[i]!)) (fun i hi=>by
   unfold jS
   rw[bT,bT,de _ _ (by omega),aL (by omega),aL (by omega),uL hi,uL (by omega)]
   congr 1
   by_cases h2:a[i]! =b[i]!
   ·rw[aF h2,bH (by rw[IB];exact fun h3=>h3 h2)];rfl
   ·rw[bH h2,aF (by rw[IB];exact h2)];rfl) (by
   unfold jS
   rw[bT,cK _ _ (by omega)])
  refine this.trans ?_
  congr 1
  rw[CB,cX,rl]
  constructor
  ·intro h2
   refine List.ext_getElem h fun i h3 h4=>?_
   have:=cj (h2 i (pw.2 h3))
   rwa[cz a i h3,cz b i h4] at this
  ·rintro rfl i _
   exact aF rfl
 ·rw[de _ _ (by omega),bH (fun e=>h (by rw[e]))]
theorem Ga {a b:Ans}(ha:yD a):iz (qf a) (qf b)=some (decide (a=b)):=by
 have hx:=ha.x
 have hy:=ha.y
 have hr:=ha.ray
 unfold iz qf
 dsimp only
 rw[Jw (by omega),Jw (by omega),Jw (by omega)]
 simp only[ae,oV]
 congr 1
 obtain⟨k,x,y,r⟩:=a
 obtain⟨k',x',y',r'⟩:=b
 rw[CB]
 simp only[bq,rl,Ans.mk.injEq]
end
end
def jW(ep:List aq)(lV:Int):Int→Option (Int⊕(Bool⊕Unit)):=fun aJ=>cnd (decide (aJ<((ep).length:Int))) (bnd (S:=Bool) (gd (0≤aJ∧aJ<((ep).length:Int)) (bnd (fq ((ep)[(aJ).toNat]!)) fun x4=>cnd (!x4) (some (true)) (gd (0≤aJ∧aJ<((ep).length:Int)) (bnd (gi ((ep)[(aJ).toNat]!.vN)) fun x9=>cnd (decide (lV<x9)) (some (true)) (gd (0≤aJ∧aJ<((ep).length:Int)) (bnd (gi ((ep)[(aJ).toNat]!.vD)) fun mD=>some (decide (lV<mD)))))))) fun bg=>cnd bg (some (.inr (.inl false))) (some (.inl (i64.wrap (aJ+(1:Int)))))) (some (.inr (.inr ())))
def eC(ep:List aq)(lV:Int):Option Bool:=bnd (bS (jW ep lV) (0:Int)) fun y18=>match y18 with| .inl r=>some r| .inr ()=>some true
set_option maxHeartbeats 4000000 in
theorem gb {ep:List aq}{lV:Int}{r:Bool}(h:eC ep lV=some r):ax Tryz.prog 27 [dL ai ep,dI .i64 lV] (dB r):=by
 refine bE (rs:=[.tmp 4]) (fun cx hx h0=>?_) Tryz.func27
 unfold eC at h
 refine ra hx ?_
 refine AW.seq (ra hx ?_)
 refine AW.block ?_
 obtain⟨y,hy,h⟩:=ab h
 refine lp (S:=Int) (X:=Bool⊕Unit) (fun aJ=>[(0,dL ai ep),(1,dI .i64 lV),(5,dI .i64 aJ)]) (fun aJ=>⟨[],[],0⟩) (PS (PR [.tmp 4] fun r=>dB r) (PE cx (.exit 0) (fun ()=>[]) fun ()=>⟨[],[],0⟩)) hy ?_ ?_ ?_
 exact wk h0 [] (wR rfl (wR rfl (wR rfl wTn))) wVn wLn
 clear hy h
 rintro aJ y h
 dsimp only[jW] at h
 refine AW.seq (ra hx ?_)
 refine cdh h rfl (fun c5 h=>?_) (fun c5 h=>?_)
 refine AW.skip (AW.seq (AW.block (AW.seq ?_)))
 obtain⟨bg,hy,h⟩:=ab h
 refine jn ((PE cx .normal (fun bg=>[(0,dL ai ep),(1,dI .i64 lV),(5,dI .i64 aJ),(37,dB bg)]) fun bg=>⟨[],[],0⟩) bg) ?_ ?_
 replace h:=hy
 refine rq hx fun K hK=>?_
 iterate 2 refine sa ?_
 obtain⟨ml,h⟩:=aC h
 have p8:(aJ).toNat<(ep).length:=by omega
 refine s1 (g7 ml aM ay) ?_
 refine s1 (d:=dG ai ((ep)[(aJ).toNat]!)) (mi (c:=ai) (l:=ep) (n:=(aJ).toNat) (o:=0) ay p8 (f8 _ _ rfl)) ?_
 refine scb h mn fun x4 h=>?_
 iterate 2 refine sa ?_
 rcases aD (!x4) with fe|fe
 replace h:=aP fe h
 iterate 8 refine aH rfl rfl fe ?_
 refine s1 (aw fe) ?_
 refine sa ?_
 iterate 8 refine aH rfl rfl rfl ?_
 refine s1 (aw rfl) ?_
 refine .nil (hK _ _ ?_)
 cases h
 exact pe0 h0 []
 replace h:=aQ fe h
 iterate 2 refine ga fe ?_
 obtain⟨I5,h⟩:=aC h
 have Gp:(aJ).toNat<(ep).length:=by omega
 refine g1 fe (g7 I5 aM ay) ?_
 refine ga fe ?_
 refine g1 (d:=dG aj ((ep)[(aJ).toNat]!.vN)) fe (mi (c:=ai) (l:=ep) (n:=(aJ).toNat) (o:=0) ap Gp (by first|exact rfl|exact pG0 _ _ _ rfl|exact pG1 _ _ _ _ rfl rfl)) ?_
 obtain⟨x9,rW,h⟩:=ab h
 refine g1 fe (bj rfl (xG rW) (by simp only[dJ,eD,cH,bP,bB,bq];exact aI _ _) (lA (cD _ _) lAn) (.inl rfl)) ?_
 iterate 2 refine ga fe ?_
 refine s1 (al fe) ?_
 refine sa ?_
 rcases aD (decide (lV<x9)) with na|na
 replace h:=aP na h
 iterate 8 refine aH rfl rfl na ?_
 refine s1 (aw na) ?_
 refine .nil (hK _ _ ?_)
 cases h
 exact pe0 h0 []
 replace h:=aQ na h
 iterate 2 refine ga na ?_
 obtain⟨I7,h⟩:=aC h
 have FB:(aJ).toNat<(ep).length:=by omega
 refine g1 na (g7 I7 aM ay) ?_
 refine ga na ?_
 refine g1 (d:=dG aj ((ep)[(aJ).toNat]!.vD)) na (mi (c:=ai) (l:=ep) (n:=(aJ).toNat) (o:=18) ap FB (by first|exact rfl|exact pG0 _ _ _ rfl|exact pG1 _ _ _ _ rfl rfl)) ?_
 obtain⟨mD,uP,h⟩:=ab h
 refine g1 na (bj rfl (xG uP) (by simp only[dJ,eD,cH,bP,bB,bq];exact aI _ _) (lA (cD _ _) lAn) (.inl rfl)) ?_
 iterate 2 refine ga na ?_
 refine s1 (al na) ?_
 refine .nil (hK _ _ ?_)
 cases h
 exact pe0 h0 []
 rintro ex tm' hp' ⟨rfl,hw⟩
 refine AW.weak hw (cdh h rfl (fun uT h=>?_) (fun uT h=>?_))
 refine ra hx ?_
 refine AW.ret ?_
 cases h
 refine PS.r ⟨by nofun,PS.l (PR.i ?_)⟩
 exact rv1
 refine AW.skip (rb hx ?_)
 cases h
 exact PS.l (pe0 h0 [])
 refine AW.exit ?_
 try dsimp only
 try simp only[aU,reduceIte,Nat.reduceEqDiff,reduceCtorEq]
 cases h
 exact PS.r ⟨by nofun,PS.r (PE.i (wk h0 [] wTn wVn wLn))⟩
 rcases y with r|⟨⟩
 rintro ex tm' hp' ⟨rfl,hw⟩
 cases h
 exact hw
 rintro ex tm' hp' ⟨rfl,hw⟩
 try dsimp only
 try simp only[aU,reduceIte,Nat.reduceEqDiff,reduceCtorEq]
 refine AW.weak hw (ra hx ?_)
 refine AW.ret ?_
 cases h
 exact rv1
def pp(oa:bY)(w5:Int)(lV:Int):Option Bool:=bnd (S:=Bool) (bnd (mQ oa) fun x1=>cnd x1 (cnd (decide (oa.vA.vR≤w5)) (cnd (decide (oa.vA.vC≤w5)) (bnd (eC oa.vA.vV lV) fun x6=>cnd x6 (bnd (eC oa.vB lV) fun x9=>cnd x9 (bnd (eC oa.vC lV) fun jB=>some (jB)) (some (false))) (some (false))) (some (false))) (some (false))) (some (false))) fun bI=>some bI
set_option maxHeartbeats 4000000 in
theorem GH {oa:bY}{w5:Int}{lV:Int}{r:Bool}(h:pp oa w5 lV=some r):ax Tryz.prog 25 [dG ci oa,dI .i64 w5,dI .i64 lV] (dB r):=by
 refine bE (rs:=[.tmp 6]) (fun cx hx h0=>?_) Tryz.func25
 unfold pp at h
 refine rs hx fun K hK=>?_
 refine s1 (d:=.pt 0 0) gD ?_
 refine sa ?_
 refine .nil (hK _ _ (AW.seq ?_))
 obtain⟨bI,hy,h⟩:=ab h
 refine jn ((PE cx .normal (fun bI=>[(6,dB bI)]) fun bI=>⟨[],[],0⟩) bI) ?_ ?_
 replace h:=hy
 refine rq hx fun K hK=>?_
 refine s1 (d:=dG ci oa) (iH mE) ?_
 refine scb h Du fun x1 h=>?_
 refine sa ?_
 rcases aD x1 with bb|bb
 replace h:=aP bb h
 iterate 2 refine ga bb ?_
 refine g1 bb (bi bG) ?_
 iterate 2 refine ga bb ?_
 refine s1 (aw bb) ?_
 refine sa ?_
 rcases aD (decide (oa.vA.vR≤w5)) with gH|gH
 replace h:=aP gH h
 iterate 2 refine ga gH ?_
 refine g1 gH (bi bG) ?_
 iterate 2 refine ga gH ?_
 refine s1 (aw gH) ?_
 refine sa ?_
 rcases aD (decide (oa.vA.vC≤w5)) with eH|eH
 replace h:=aP eH h
 iterate 2 refine ga eH ?_
 refine g1 eH (bi aM) ?_
 refine ga eH ?_
 obtain⟨x6,pZ,h⟩:=ab h
 refine g1 eH (bj rfl (gb pZ) rfl (lA (ao _) (lA (ao _) lAn)) (.inl rfl)) ?_
 refine s1 (aw eH) ?_
 refine sa ?_
 rcases aD x6 with iS|iS
 replace h:=aP iS h
 refine ga iS ?_
 refine g1 iS (bi aM) ?_
 refine ga iS ?_
 obtain⟨x9,rW,h⟩:=ab h
 refine g1 iS (bj rfl (gb rW) rfl (lA (ao _) (lA (ao _) lAn)) (.inl rfl)) ?_
 refine s1 (aw iS) ?_
 refine sa ?_
 rcases aD x9 with na|na
 replace h:=aP na h
 refine ga na ?_
 refine g1 na (bi aM) ?_
 refine ga na ?_
 obtain⟨jB,uR,h⟩:=ab h
 refine g1 na (bj rfl (gb uR) rfl (lA (ao _) (lA (ao _) lAn)) (.inl rfl)) ?_
 refine s1 (aw na) ?_
 refine sa ?_
 refine .nil (hK _ _ ?_)
 cases h
 exact pe0 h0 []
 replace h:=aQ na h
 iterate 4 refine aH rfl rfl na ?_
 refine s1 (al na) ?_
 refine sa ?_
 refine .nil (hK _ _ ?_)
 cases h
 exact pe0 h0 []
 replace h:=aQ iS h
 iterate 4 refine aH rfl rfl iS ?_
 refine s1 (al iS) ?_
 refine sa ?_
 iterate 4 refine aH rfl rfl rfl ?_
 refine s1 (al rfl) ?_
 refine sa ?_
 refine .nil (hK _ _ ?_)
 cases h
 exact pe0 h0 []
 replace h:=aQ eH h
 iterate 5 refine aH rfl rfl eH ?_
 refine s1 (al eH) ?_
 refine sa ?_
 iterate 4 refine aH rfl rfl rfl ?_
 refine s1 (al rfl) ?_
 refine sa ?_
 iterate 4 refine aH rfl rfl rfl ?_
 refine s1 (al rfl) ?_
 refine sa ?_
 refine .nil (hK _ _ ?_)
 cases h
 exact pe0 h0 []
 replace h:=aQ gH h
 iterate 5 refine aH rfl rfl gH ?_
 refine s1 (al gH) ?_
 refine sa ?_
 iterate 5 refine aH rfl rfl rfl ?_
 refine s1 (al rfl) ?_
 refine sa ?_
 iterate 4 refine aH rfl rfl rfl ?_
 refine s1 (al rfl) ?_
 refine sa ?_
 iterate 4 refine aH rfl rfl rfl ?_
 refine s1 (al rfl) ?_
 refine sa ?_
 refine .nil (hK _ _ ?_)
 cases h
 exact pe0 h0 []
 replace h:=aQ bb h
 iterate 5 refine aH rfl rfl bb ?_
 refine s1 (al bb) ?_
 refine sa ?_
 iterate 5 refine aH rfl rfl rfl ?_
 refine s1 (al rfl) ?_
 refine sa ?_
 iterate 5 refine aH rfl rfl rfl ?_
 refine s1 (al rfl) ?_
 refine sa ?_
 iterate 4 refine aH rfl rfl rfl ?_
 refine s1 (al rfl) ?_
 refine sa ?_
 iterate 4 refine aH rfl rfl rfl ?_
 refine s1 (al rfl) ?_
 refine sa ?_
 refine .nil (hK _ _ ?_)
 cases h
 exact pe0 h0 []
 rintro ex tm' hp' ⟨rfl,hw⟩
 refine AW.weak hw (AW.ret ?_)
 cases h
 exact rv1
def kY(ep:List Int):(List aq)×Int→Option (((List aq)×Int)⊕((List aq))):=fun (bc,bt)=>cnd (decide (bt<((ep).length:Int))) (gd (0≤bt∧bt<((ep).length:Int)) (bnd (oR ((ep)[(bt).toNat]!)) fun x4=>gd ((bc++[x4]).length*136≤140737488355328) (some (.inl (bc++[x4],i64.wrap (bt+(1:Int))))))) (some (.inr bc))
def dH(ep:List Int):Option (List aq):=bnd (bS (kY ep) (([]:List aq),(0:Int))) fun bo=>some bo
theorem eW {ep:List Int}{r:List aq}(h:dH ep=some r):ax Tryz.prog 40 [dL (cI .i64) ep] (.own 43 ai.sz r.length (r.flatMap ai.f)):=by
 refine bE (rs:=[.tmp 2]) (fun cx hx h0=>?_) Tryz.func40
 unfold dH at h
 refine rs hx fun K hK=>?_
 refine s1 (d:=dO 0 ai ([]:List aq)) (gE aM ay) ?_
 refine .nil (hK _ _ (rs hx fun K hK=>?_))
 refine s1 (d:=dO 1 ai ([]:List aq)) (gE aM ay) ?_
 refine .nil (hK _ _ (AW.seq (ra hx ?_)))
 refine AW.block ?_
 obtain⟨bo,hy,h⟩:=ab h
 refine lp (S:=(List aq)×Int) (X:=(List aq)) (fun (bc,bt)=>[(0,dL (cI .i64) ep),(3,dO 0 ai bc),(4,dI .i64 bt)]) (fun (bc,bt)=>⟨[],[(0,(bc).length,36,43)],1⟩) (PE cx (.exit 0) (fun bo=>[(3,dO 0 ai bo)]) fun bo=>⟨[],[(0,(bo).length,36,43)],1⟩) hy ?_ ?_ ?_
 exact wk h0 [1] (wR rfl (wR rfl (wR rfl wTn))) wVn (wL rfl rfl wLn)
 clear hy h
 rintro⟨bc,bt⟩ y h
 dsimp only[kY] at h
 refine AW.seq (ra hx ?_)
 refine cdh h rfl (fun c5 h=>?_) (fun c5 h=>?_)
 refine AW.skip (AW.seq (AW.block (rq hx fun K hK=>?_)))
 iterate 3 refine sa ?_
 obtain⟨ml,h⟩:=aC h
 have p8:(bt).toNat<(ep).length:=by omega
 refine s1 (g7 ml ct bG) ?_
 refine s1 (wF (c:=(cI .i64)) (l:=ep) (n:=(bt).toNat) (o:=0) bG p8) ?_
 refine scb h Bl fun x4 h=>?_
 refine s1 (kP ([x4]:List aq) ai aM ay) ?_
 obtain⟨hc6,h⟩:=aC h
 refine s1 (d:=dO 0 ai (bc++[x4])) (qZ aM ay hc6) ?_
 refine sa ?_
 refine .nil (hK _ _ (rb hx ?_))
 cases h
 exact PS.l (pe0 h0 [0])
 refine AW.exit ?_
 try dsimp only
 try simp only[aU,reduceIte,Nat.reduceEqDiff,reduceCtorEq]
 cases h
 exact PS.r ⟨by nofun,PE.i (wk h0 [0] (wR rfl wTn) wVn (wL rfl rfl wLn))⟩
 rintro ex tm' hp' ⟨rfl,hw⟩
 try dsimp only
 try simp only[aU,reduceIte,Nat.reduceEqDiff,reduceCtorEq]
 refine AW.weak hw (ra hx ?_)
 refine AW.ret ?_
 cases h
 exact og.own rfl rfl
def fJ(iQ:Int)(aN:List Int)(aV:List Int)(nK:List Int):Option bY:=bnd (dH aN) fun x1=>bnd (dH aV) fun x3=>bnd (dH nK) fun x5=>some (⟨(⟨iQ,((nK).length:Int),x1⟩:fE),x3,x5⟩:bY)
theorem m3 {iQ:Int}{aN:List Int}{aV:List Int}{nK:List Int}{r:bY}(h:fJ iQ aN aV nK=some r):ax Tryz.prog 37 [dI .i64 iQ,dL (cI .i64) aN,dL (cI .i64) aV,dL (cI .i64) nK] (dG ci r):=by
 refine bE (rs:=[.cell 8 26]) (fun cx hx h0=>?_) Tryz.func37
 unfold fJ at h
 refine rs hx fun K hK=>?_
 refine s1 (d:=.pt 0 0) (tM mE) ?_
 refine .nil (hK _ _ (rs hx fun K hK=>?_))
 iterate 4 refine sa ?_
 obtain⟨x1,vu,h⟩:=ab h
 refine s1 (iI rfl (eW vu) rfl (lA (ao _) lAn)) ?_
 refine s2 (d2:=dG f6 (⟨iQ,((nK).length:Int),x1⟩:fE)) (ee (es:=[dI .i64 iQ,dI .i64 ((nK).length:Int),dO 1 ai x1]) lE) (rC (wc (rS _) (wc (rS _) (wc (lc_x _) wcn)))) ?_
 refine sa ?_
 obtain⟨x3,hx4,h⟩:=ab h
 refine s1 (iI rfl (eW hx4) rfl (lA (ao _) lAn)) ?_
 refine sa ?_
 obtain⟨x5,AD,h⟩:=ab h
 refine s1 (iI rfl (eW AD) rfl (lA (ao _) lAn)) ?_
 refine s2 (d2:=dG ci (⟨(⟨iQ,((nK).length:Int),x1⟩:fE),x3,x5⟩:bY)) (ee (es:=[dI .i64 iQ,dI .i64 ((nK).length:Int),dL ai x1,dO 2 ai x3,dO 3 ai x5]) mE) (rC (wc (rS _) (wc (rS _) (wc (rS _) (wc (lc_x _) (wc (lc_x _) wcn)))))) ?_
 refine s0 (LZ (ds':=[dI .i64 iQ,dI .i64 ((nK).length:Int),dL ai x1,dL ai x3,dL ai x5]) mE) ?_
 refine .nil (hK _ _ (AW.ret ?_))
 cases h
 exact og.mk1 (MV (es:=(ci.f (⟨(⟨iQ,((nK).length:Int),x1⟩:fE),x3,x5⟩:bY)).map .e) rfl mE rfl rfl (ltb rfl) (leb rfl) rfl (.inr (.inr ⟨_,(ao _),rfl,rfl⟩)))
def gv(aN:Int)(aV:Int):Option (List aq):=bnd (mr aN (5:Int)) fun x1=>bnd (mr aV (5:Int)) fun x3=>some [x1,x3]
theorem nN {aN:Int}{aV:Int}{r:List aq}(h:gv aN aV=some r):ax Tryz.prog 39 [dI .i64 aN,dI .i64 aV] (.own 43 ai.sz r.length (r.flatMap ai.f)):=by
 refine bE (rs:=[.tmp 4]) (fun cx hx h0=>?_) Tryz.func39
 unfold gv at h
 refine rs hx fun K hK=>?_
 refine s1 (d:=dO 0 ai ([]:List aq)) (gE aM ay) ?_
 refine .nil (hK _ _ (rs hx fun K hK=>?_))
 refine sa ?_
 refine scb h xD fun x1 h=>?_
 refine sa ?_
 refine scb h xD fun x3 h=>?_
 refine s1 (kP ([x1,x3]:List aq) ai aM ay) ?_
 refine sa ?_
 refine .nil (hK _ _ (AW.ret ?_))
 cases h
 exact og.own rfl rfl
def gu(oa:bY)(Bz:bW):Option Bool:=bnd (kU oa (100:Int)) fun x1=>bnd (S:=Bool) (cnd (decide (x1.2.2=(0:Int))) (bnd (iz x1.1 Bz) fun x4=>cnd x4 (bnd (fG oa x1.1) fun x7=>some (decide (x7=(0:Int)))) (some (false))) (some (false))) fun ju=>some ju
theorem nM {oa:bY}{Bz:bW}{r:Bool}(h:gu oa Bz=some r):ax Tryz.prog 38 [dG ci oa,dG dU Bz] (dB r):=by
 refine bE (rs:=[.tmp 4]) (fun cx hx h0=>?_) Tryz.func38
 unfold gu at h
 refine rs hx fun K hK=>?_
 refine s1 (d:=.pt 0 0) gD ?_
 refine s1 (d:=.pt 1 0) gD ?_
 refine sa ?_
 refine .nil (hK _ _ (rs hx fun K hK=>?_))
 refine s1 (d:=dG ci oa) (iH mE) ?_
 refine scb h AA fun x1 h=>?_
 iterate 4 refine sa ?_
 refine s1 (d:=.pt 2 0) (tM lD) ?_
 refine s0 (LZ (ds':=[dI .i64 x1.1.vKind,dL ai x1.1.vX,dL ai x1.1.vY,dL ai x1.1.vRay]) lD) ?_
 iterate 2 refine sa ?_
 refine .nil (hK _ _ (AW.seq ?_))
 obtain⟨ju,hy,h⟩:=ab h
 refine jn ((PE cx .normal (fun ju=>[(4,dB ju)]) fun ju=>⟨[],[],0⟩) ju) ?_ ?_
 replace h:=hy
 refine rq hx fun K hK=>?_
 iterate 3 refine sa ?_
 rcases aD (decide (x1.2.2=(0:Int))) with bb|bb
 replace h:=aP bb h
 refine g1 (d:=dG dU x1.1) bb (iH lD) ?_
 refine g1 (d:=dG dU Bz) bb (iH lD) ?_
 obtain⟨x4,p6,h⟩:=ab h
 refine g1 bb (bj rfl (wM p6) (by simp only[dJ,eD,cH,bP,bB,bq];exact⟨aI _ _,aI _ _⟩) (lA (ao _) (lA (ao _) lAn)) (.inl rfl)) ?_
 refine s1 (aw bb) ?_
 refine sa ?_
 rcases aD x4 with fe|fe
 replace h:=aP fe h
 refine g1 (d:=dG ci oa) fe (iH mE) ?_
 refine g1 (d:=dG dU x1.1) fe (iH lD) ?_
 obtain⟨x7,DI,h⟩:=ab h
 refine g1 fe (bj rfl (mZ DI) (by simp only[dJ,eD,cH,bP,bB,bq];exact⟨aI _ _,aI _ _⟩) (lA (ao _) (lA (ao _) lAn)) (.inl rfl)) ?_
 refine ga fe ?_
 refine s1 (aw fe) ?_
 refine sa ?_
 refine .nil (hK _ _ ?_)
 cases h
 exact pe0 h0 []
 replace h:=aQ fe h
 iterate 4 refine aH rfl rfl fe ?_
 refine s1 (al fe) ?_
 refine sa ?_
 refine .nil (hK _ _ ?_)
 cases h
 exact pe0 h0 []
 replace h:=aQ bb h
 iterate 3 refine aH rfl rfl bb ?_
 refine s1 (al bb) ?_
 refine sa ?_
 iterate 4 refine aH rfl rfl rfl ?_
 refine s1 (al rfl) ?_
 refine sa ?_
 refine .nil (hK _ _ ?_)
 cases h
 exact pe0 h0 []
 rintro ex tm' hp' ⟨rfl,hw⟩
 refine AW.weak hw (AW.ret ?_)
 cases h
 exact rv1
def iE :Option Bool:=bnd (fJ (2:Int) [(1:Int),(2:Int),(3:Int),(1:Int)] [(4:Int),(6:Int)] [(1:Int),(1:Int)]) fun x1=>bnd (gv (8:Int) (6:Int)) fun x3=>bnd (gv (2:Int) (1:Int)) fun x5=>bnd (gu x1 (⟨(1:Int),x3,x5,([]:List aq)⟩:bW)) fun x7=>bnd (fJ (1:Int) [(1:Int)] [(-1:Int)] [(0:Int)]) fun x9=>bnd (dH [(1:Int)]) fun ro=>bnd (gu x9 (⟨(2:Int),([]:List aq),ro,([]:List aq)⟩:bW)) fun mX=>bnd (fJ (1:Int) [(-1:Int),(1:Int)] [(1:Int)] [(1:Int),(0:Int)]) fun Gk=>bnd (dH [(0:Int),(0:Int)]) fun nL=>bnd (dH [(1:Int),(0:Int)]) fun rf=>bnd (gu Gk (⟨(3:Int),nL,([]:List aq),rf⟩:bW)) fun sb=>bnd (fJ (1:Int) [(-1:Int)] [(-2:Int)] [(-1:Int)]) fun sS=>bnd (dH [(2:Int)]) fun Db=>bnd (dH [(1:Int)]) fun xu=>bnd (gu sS (⟨(1:Int),Db,xu,([]:List aq)⟩:bW)) fun zY=>bnd (dH [(1:Int),(1:Int),(1:Int),(-1:Int)]) fun AQ=>bnd (dH [(1:Int),(3:Int)]) fun EV=>bnd (kV (⟨(2:Int),(2:Int),AQ⟩:fE) EV (100:Int)) fun vS=>bnd (S:=Bool) (cnd (decide (vS.2.2=(0:Int))) (cnd (decide (vS.1.vKind=(2:Int))) (bnd (dH [(1:Int),(3:Int)]) fun Da=>bnd (gt (⟨(2:Int),(2:Int),AQ⟩:fE) Da vS.1) fun x41=>some (decide (x41=(0:Int)))) (some (false))) (some (false))) fun CP=>bnd (S:=Bool) (cnd x7 (cnd mX (cnd sb (cnd zY (cnd CP (bnd (gv (8:Int) (6:Int)) fun x49=>bnd (gv (2:Int) (2:Int)) fun x51=>bnd (fG x1 (⟨(1:Int),x49,x51,([]:List aq)⟩:bW)) fun x53=>some (decide (x53=(250:Int)))) (some (false))) (some (false))) (some (false))) (some (false))) (some (false))) fun j7=>some j7
set_option maxHeartbeats 4000000 in
theorem qo  {r:Bool}(h:iE=some r):ax Tryz.prog 11 [] (dB r):=by
 refine bE (rs:=[.tmp 0]) (fun cx hx h0=>?_) Tryz.func11
 unfold iE at h
 refine ra hx ?_
 refine rs hx fun K hK=>?_
 refine s1 (d:=dO 0 (cI .i64) [(1:Int),(2:Int),(3:Int),(1:Int)]) (j9 ct bG) ?_
 refine s1 (d:=dO 1 (cI .i64) [(4:Int),(6:Int)]) (j9 ct bG) ?_
 refine s1 (d:=dO 2 (cI .i64) [(1:Int),(1:Int)]) (j9 ct bG) ?_
 refine scb h m3 fun x1 h=>?_
 refine s1 (d:=.pt 3 0) (tM mE) ?_
 refine s0 (LZ (ds':=[dI .i64 x1.vA.vR,dI .i64 x1.vA.vC,dL ai x1.vA.vV,dL ai x1.vB,dL ai x1.vC]) mE) ?_
 refine .nil (hK _ _ (rsd [38] hx fun K hK=>?_))
 refine s1 (d:=dG ci x1) (iH mE) ?_
 obtain⟨x3,hx4,h⟩:=ab h
 refine s1 (iI rfl (nN hx4) rfl (lA (ao _) (lA (ao _) lAn))) ?_
 obtain⟨x5,AD,h⟩:=ab h
 refine s1 (iI rfl (nN AD) rfl (lA (ao _) (lA (ao _) lAn))) ?_
 refine s1 (d:=.ag [dI .i64 (1:Int),dO 4 ai x3,dO 5 ai x5,dN]) (ee lD) ?_
 obtain⟨x7,DI,h⟩:=ab h
 refine sq tok (nM DI) (by simp only[dJ,eD,cH,bP,bB,bq];exact⟨aI _ _,rfl⟩) (lA (ao _) (lA (rC (wc (rS _) (wc (rS _) (wc (rS _) (wc (Lj rfl) wcn))))) lAn)) (.inl rfl) ?_
 refine sa ?_
 refine .nil (hK _ _ (rs hx fun K hK=>?_))
 refine s1 (d:=dO 6 (cI .i64) [(1:Int)]) (j9 ct bG) ?_
 refine s1 (d:=dO 7 (cI .i64) [(-1:Int)]) (j9 ct bG) ?_
 refine s1 (d:=dO 8 (cI .i64) [(0:Int)]) (j9 ct bG) ?_
 refine scb h m3 fun x9 h=>?_
 refine s1 (d:=dO 9 (cI .i64) [(1:Int)]) (j9 ct bG) ?_
 obtain⟨ro,Fx,h⟩:=ab h
 refine s1 (iI rfl (eW Fx) rfl (lA (ao _) lAn)) ?_
 refine s1 (d:=.ag [dI .i64 (2:Int),dN,dO 10 ai ro,dN]) (ee lD) ?_
 obtain⟨mX,uQ,h⟩:=ab h
 refine s1 (bj rfl (nM uQ) (by simp only[dJ,eD,cH,bP,bB,bq];exact⟨aI _ _,rfl⟩) (lA (ao _) (lA (rC (wc (rS _) (wc (Lj rfl) (wc (rS _) (wc (Lj rfl) wcn))))) lAn)) (.inl rfl)) ?_
 refine sa ?_
 refine .nil (hK _ _ (rs hx fun K hK=>?_))
 refine s1 (d:=dO 11 (cI .i64) [(-1:Int),(1:Int)]) (j9 ct bG) ?_
 refine s1 (d:=dO 12 (cI .i64) [(1:Int)]) (j9 ct bG) ?_
 refine s1 (d:=dO 13 (cI .i64) [(1:Int),(0:Int)]) (j9 ct bG) ?_
 refine scb h m3 fun Gk h=>?_
 refine s1 (d:=dO 14 (cI .i64) [(0:Int),(0:Int)]) (j9 ct bG) ?_
 obtain⟨nL,uf,h⟩:=ab h
 refine s1 (iI rfl (eW uf) rfl (lA (ao _) lAn)) ?_
 refine s1 (d:=dO 16 (cI .i64) [(1:Int),(0:Int)]) (j9 ct bG) ?_
 obtain⟨rf,v4,h⟩:=ab h
 refine s1 (iI rfl (eW v4) rfl (lA (ao _) lAn)) ?_
 refine s1 (d:=.ag [dI .i64 (3:Int),dO 15 ai nL,dN,dO 17 ai rf]) (ee lD) ?_
 obtain⟨sb,NI,h⟩:=ab h
 refine s1 (bj rfl (nM NI) (by simp only[dJ,eD,cH,bP,bB,bq];exact⟨aI _ _,rfl⟩) (lA (ao _) (lA (rC (wc (rS _) (wc (rS _) (wc (Lj rfl) (wc (rS _) wcn))))) lAn)) (.inl rfl)) ?_
 refine sa ?_
 refine .nil (hK _ _ (rs hx fun K hK=>?_))
 refine s1 (d:=dO 18 (cI .i64) [(-1:Int)]) (j9 ct bG) ?_
 refine s1 (d:=dO 19 (cI .i64) [(-2:Int)]) (j9 ct bG) ?_
 refine s1 (d:=dO 20 (cI .i64) [(-1:Int)]) (j9 ct bG) ?_
 refine scb h m3 fun sS h=>?_
 refine s1 (d:=dO 21 (cI .i64) [(2:Int)]) (j9 ct bG) ?_
 obtain⟨Db,hx26,h⟩:=ab h
 refine s1 (iI rfl (eW hx26) rfl (lA (ao _) lAn)) ?_
 refine s1 (d:=dO 23 (cI .i64) [(1:Int)]) (j9 ct bG) ?_
 obtain⟨xu,BS,h⟩:=ab h
 refine s1 (iI rfl (eW BS) rfl (lA (ao _) lAn)) ?_
 refine s1 (d:=.ag [dI .i64 (1:Int),dO 22 ai Db,dO 24 ai xu,dN]) (ee lD) ?_
 obtain⟨zY,NG,h⟩:=ab h
 refine s1 (bj rfl (nM NG) (by simp only[dJ,eD,cH,bP,bB,bq];exact⟨aI _ _,rfl⟩) (lA (ao _) (lA (rC (wc (rS _) (wc (rS _) (wc (rS _) (wc (Lj rfl) wcn))))) lAn)) (.inl rfl)) ?_
 refine sa ?_
 refine .nil (hK _ _ (rs hx fun K hK=>?_))
 refine s1 (d:=dO 25 (cI .i64) [(1:Int),(1:Int),(1:Int),(-1:Int)]) (j9 ct bG) ?_
 obtain⟨AQ,hx32,h⟩:=ab h
 refine s1 (iI rfl (eW hx32) rfl (lA (ao _) lAn)) ?_
 refine s2 (d2:=dG f6 (⟨(2:Int),(2:Int),AQ⟩:fE)) (ee (es:=[dI .i64 (2:Int),dI .i64 (2:Int),dO 26 ai AQ]) lE) (rC (wc (rS _) (wc (rS _) (wc (lc_x _) wcn)))) ?_
 refine s1 (d:=.pt 27 0) (tM lE) ?_
 refine s0 (LZ (ds':=[dI .i64 (2:Int),dI .i64 (2:Int),dL ai AQ]) lE) ?_
 refine .nil (hK _ _ (AW.seq ?_))
 obtain⟨EV,Ln,h⟩:=ab h
 obtain⟨vS,hx36,h⟩:=ab h
 refine jn (PE cx .normal (fun (_:Unit)=>[(1,.pt 0 0),(2,dB x7),(3,dB mX),(4,dB sb),(5,dB zY),(6,.pt 1 0),(7,.pt 2 0),(9,dI .i64 vS.2.2)]) (fun (_:Unit)=>⟨[(0,[dI .i64 x1.vA.vR,dI .i64 x1.vA.vC,dL ai x1.vA.vV,dL ai x1.vB,dL ai x1.vC]),(1,[dI .i64 (2:Int),dI .i64 (2:Int),dL ai AQ]),(2,[dI .i64 vS.1.vKind,dL ai vS.1.vX,dL ai vS.1.vY,dL ai vS.1.vRay])],[],3⟩) ()) ?_ ?_
 refine dw (DW.split 2 8 (by decide) ?_ ?_)
 refine dwg [21] [0,1,2,3,4,5,6,7,8,9,10,11] hx (by kernel_rfl) (by kernel_rfl) (by kernel_rfl) fun K hK=>?_
 dsimp only[et,mA,mK,List.map]
 refine s1 (d:=dG f6 (⟨(2:Int),(2:Int),AQ⟩:fE)) (iH lE) ?_
 refine s1 (CW ct bG) ?_
 refine s1 (iI rfl (eW Ln) rfl (lA (ao _) lAn)) ?_
 refine cq (tU hx36) ?_
 iterate 4 refine sa ?_
 refine s1 (d:=.pt 29 0) (tM lD) ?_
 refine s0 (LZ (ds':=[dI .i64 vS.1.vKind,dL ai vS.1.vX,dL ai vS.1.vY,dL ai vS.1.vRay]) lD) ?_
 iterate 2 refine sa ?_
 exact .nil (hK _ _ (pe0 h0 [3,27,29]))
 refine dwg [21] [0,1,8,2,3,4,5,6,7,9,10,11] hx (by kernel_rfl) (by kernel_rfl) (by kernel_rfl) fun K hK=>?_
 dsimp only[et,mA,mK,List.map]
 refine s1 (d:=dG f6 (⟨(2:Int),(2:Int),AQ⟩:fE)) (iH lE) ?_
 refine s1 (CW ct bG) ?_
 refine s1 (d:=.pt 28 0) (tM lD) ?_
 refine s1 (iI rfl (eW Ln) rfl (lA (ao _) lAn)) ?_
 refine cq (tU hx36) ?_
 iterate 4 refine sa ?_
 refine s0 (LZ (ds':=[dI .i64 vS.1.vKind,dL ai vS.1.vX,dL ai vS.1.vY,dL ai vS.1.vRay]) lD) ?_
 iterate 2 refine sa ?_
 exact .nil (hK _ _ (pe0 h0 [3,27,28]))
 rintro ex tm' hp' ⟨rfl,hw⟩
 refine AW.weak hw (AW.seq ?_)
 obtain⟨CP,hy,h⟩:=ab h
 refine jn ((PE cx .normal (fun CP=>[(1,.pt 0 0),(2,dB x7),(3,dB mX),(4,dB sb),(5,dB zY),(10,dB CP)]) fun CP=>⟨[(0,[dI .i64 x1.vA.vR,dI .i64 x1.vA.vC,dL ai x1.vA.vV,dL ai x1.vB,dL ai x1.vC])],[],1⟩) CP) ?_ ?_
 replace h:=hy
 refine rqd [23] hx fun K hK=>?_
 iterate 3 refine sa ?_
 rcases aD (decide (vS.2.2=(0:Int))) with qA|qA
 replace h:=aP qA h
 refine ga qA ?_
 refine g1 qA (bi bG) ?_
 refine ga qA ?_
 refine s1 (aw qA) ?_
 refine sa ?_
 rcases aD (decide (vS.1.vKind=(2:Int))) with nI|nI
 replace h:=aP nI h
 refine g1 (d:=dG f6 (⟨(2:Int),(2:Int),AQ⟩:fE)) nI (iH lE) ?_
 refine g1 nI (CW ct bG) ?_
 obtain⟨Da,NF,h⟩:=ab h
 refine g1 nI (iI rfl (eW NF) rfl (lA (ao _) lAn)) ?_
 refine g1 (d:=dG dU vS.1) nI (iH lD) ?_
 obtain⟨x41,hx42,h⟩:=ab h
 refine sqg tok rfl rfl nI (uq hx42) (by simp only[dJ,eD,cH,bP,bB,bq];exact⟨aI _ _,rfl,aI _ _⟩) (lA (ao _) (lA (ao _) (lA (ao _) lAn))) (.inl rfl) ?_
 refine ga nI ?_
 refine s1 (aw nI) ?_
 refine sa ?_
 refine .nil (hK _ _ ?_)
 cases h
 exact pe0 h0 [0]
 replace h:=aQ nI h
 iterate 6 refine aH rfl rfl nI ?_
 refine s1 (al nI) ?_
 refine sa ?_
 refine .nil (hK _ _ ?_)
 cases h
 exact pe0 h0 [0]
 replace h:=aQ qA h
 iterate 3 refine aH rfl rfl qA ?_
 refine s1 (al qA) ?_
 refine sa ?_
 iterate 6 refine aH rfl rfl rfl ?_
 refine s1 (al rfl) ?_
 refine sa ?_
 refine .nil (hK _ _ ?_)
 cases h
 exact pe0 h0 [0]
 rintro ex tm' hp' ⟨rfl,hw⟩
 refine AW.weak hw (AW.seq ?_)
 obtain⟨j7,hy,h⟩:=ab h
 refine jn ((PE cx .normal (fun j7=>[(0,dB j7)]) fun j7=>⟨[],[],0⟩) j7) ?_ ?_
 replace h:=hy
 refine rqd [19] hx fun K hK=>?_
 iterate 2 refine sa ?_
 rcases aD x7 with Jd|Jd
 replace h:=aP Jd h
 refine ga Jd ?_
 refine s1 (aw Jd) ?_
 refine sa ?_
 rcases aD mX with Jc|Jc
 replace h:=aP Jc h
 refine ga Jc ?_
 refine s1 (aw Jc) ?_
 refine sa ?_
 rcases aD sb with Jb|Jb
 replace h:=aP Jb h
 refine ga Jb ?_
 refine s1 (aw Jb) ?_
 refine sa ?_
 rcases aD zY with Ja|Ja
 replace h:=aP Ja h
 refine ga Ja ?_
 refine s1 (aw Ja) ?_
 refine sa ?_
 rcases aD CP with AI|AI
 replace h:=aP AI h
 refine g1 (d:=dG ci x1) AI (iH mE) ?_
 obtain⟨x49,hx50,h⟩:=ab h
 refine g1 AI (iI rfl (nN hx50) rfl (lA (ao _) (lA (ao _) lAn))) ?_
 obtain⟨x51,hx52,h⟩:=ab h
 refine g1 AI (iI rfl (nN hx52) rfl (lA (ao _) (lA (ao _) lAn))) ?_
 refine g1 (d:=.ag [dI .i64 (1:Int),dO 1 ai x49,dO 2 ai x51,dN]) AI (ee lD) ?_
 obtain⟨x53,hx54,h⟩:=ab h
 refine sqg tok rfl rfl AI (mZ hx54) (by simp only[dJ,eD,cH,bP,bB,bq];exact⟨aI _ _,rfl⟩) (lA (ao _) (lA (rC (wc (rS _) (wc (rS _) (wc (rS _) (wc (Lj rfl) wcn))))) lAn)) (.inl rfl) ?_
 refine ga AI ?_
 refine s1 (aw AI) ?_
 refine sa ?_
 refine .nil (hK _ _ ?_)
 cases h
 exact pe0 h0 []
 replace h:=aQ AI h
 iterate 6 refine aH rfl rfl AI ?_
 refine s1 (al AI) ?_
 refine sa ?_
 refine .nil (hK _ _ ?_)
 cases h
 exact pe0 h0 []
 replace h:=aQ Ja h
 refine aH rfl rfl Ja ?_
 refine s1 (al Ja) ?_
 refine sa ?_
 iterate 6 refine aH rfl rfl rfl ?_
 refine s1 (al rfl) ?_
 refine sa ?_
 refine .nil (hK _ _ ?_)
 cases h
 exact pe0 h0 []
 replace h:=aQ Jb h
 refine aH rfl rfl Jb ?_
 refine s1 (al Jb) ?_
 refine sa ?_
 refine aH rfl rfl rfl ?_
 refine s1 (al rfl) ?_
 refine sa ?_
 iterate 6 refine aH rfl rfl rfl ?_
 refine s1 (al rfl) ?_
 refine sa ?_
 refine .nil (hK _ _ ?_)
 cases h
 exact pe0 h0 []
 replace h:=aQ Jc h
 refine aH rfl rfl Jc ?_
 refine s1 (al Jc) ?_
 refine sa ?_
 refine aH rfl rfl rfl ?_
 refine s1 (al rfl) ?_
 refine sa ?_
 refine aH rfl rfl rfl ?_
 refine s1 (al rfl) ?_
 refine sa ?_
 iterate 6 refine aH rfl rfl rfl ?_
 refine s1 (al rfl) ?_
 refine sa ?_
 refine .nil (hK _ _ ?_)
 cases h
 exact pe0 h0 []
 replace h:=aQ Jd h
 refine aH rfl rfl Jd ?_
 refine s1 (al Jd) ?_
 refine sa ?_
 refine aH rfl rfl rfl ?_
 refine s1 (al rfl) ?_
 refine sa ?_
 refine aH rfl rfl rfl ?_
 refine s1 (al rfl) ?_
 refine sa ?_
 refine aH rfl rfl rfl ?_
 refine s1 (al rfl) ?_
 refine sa ?_
 iterate 6 refine aH rfl rfl rfl ?_
 refine s1 (al rfl) ?_
 refine sa ?_
 refine .nil (hK _ _ ?_)
 cases h
 exact pe0 h0 []
 rintro ex tm' hp' ⟨rfl,hw⟩
 refine AW.weak hw (AW.ret ?_)
 cases h
 exact rv1
def d7(oa:bY)(aN:bW)(aV:bW):Option Bool:=bnd (S:=Bool) (bnd (pp oa (5:Int) (20:Int)) fun x1=>cnd (!x1) (some (true)) (bnd (eC aN.vX (60:Int)) fun x4=>cnd (!x4) (some (true)) (bnd (eC aN.vY (60:Int)) fun x7=>cnd (!x7) (some (true)) (bnd (eC aN.vRay (60:Int)) fun jA=>cnd (!jA) (some (true)) (bnd (eC aV.vX (60:Int)) fun mX=>cnd (!mX) (some (true)) (bnd (eC aV.vY (60:Int)) fun sT=>cnd (!sT) (some (true)) (bnd (eC aV.vRay (60:Int)) fun rf=>some (!rf)))))))) fun dY=>cnd dY (bnd (iE) fun sS=>some sS) (bnd (S:=Bool) (bnd (fG oa aN) fun Db=>cnd (decide (Db≠(0:Int))) (some (true)) (bnd (fG oa aV) fun Gj=>some (decide (Gj≠(0:Int))))) fun nD=>cnd nD (bnd (iE) fun Ie=>some Ie) (bnd (S:=Bool) (bnd (iE) fun Me=>cnd Me (cnd (decide (aN.vKind=aV.vKind)) (cnd (decide (aN.vKind≠(1:Int))) (some (true)) (bnd (cv oa.vC aN.vX) fun Da=>bnd (cv oa.vC aV.vX) fun x41=>some (decide (Da=x41)))) (some (false))) (some (false))) fun j7=>some j7))
set_option maxHeartbeats 4000000 in
theorem pW {oa:bY}{aN:bW}{aV:bW}{r:Bool}(h:d7 oa aN aV=some r):ax Tryz.prog 7 [dG ci oa,dG dU aN,dG dU aV] (dB r):=by
 refine bE (rs:=[.tmp 6]) (fun cx hx h0=>?_) Tryz.func7
 unfold d7 at h
 refine rs hx fun K hK=>?_
 refine s1 (d:=.pt 0 0) gD ?_
 refine s1 (d:=.pt 1 0) gD ?_
 refine s1 (d:=.pt 2 0) gD ?_
 refine sa ?_
 refine .nil (hK _ _ ?_)
 iterate 2 refine AW.seq ?_
 obtain⟨dY,hy,h⟩:=ab h
 refine jn ((PE cx .normal (fun dY=>[(3,.pt 0 0),(4,.pt 1 0),(5,.pt 2 0),(45,dB dY)]) fun dY=>⟨[(0,[dI .i64 oa.vA.vR,dI .i64 oa.vA.vC,dL ai oa.vA.vV,dL ai oa.vB,dL ai oa.vC]),(1,[dI .i64 aN.vKind,dL ai aN.vX,dL ai aN.vY,dL ai aN.vRay]),(2,[dI .i64 aV.vKind,dL ai aV.vX,dL ai aV.vY,dL ai aV.vRay])],[],3⟩) dY) ?_ ?_
 replace h:=hy
 refine rq hx fun K hK=>?_
 refine s1 (d:=dG ci oa) (iH mE) ?_
 refine scb h GH fun x1 h=>?_
 iterate 2 refine sa ?_
 rcases aD (!x1) with bb|bb
 replace h:=aP bb h
 iterate 4 refine aH rfl rfl bb ?_
 refine s1 (aw bb) ?_
 refine sa ?_
 iterate 4 refine aH rfl rfl rfl ?_
 refine s1 (aw rfl) ?_
 refine sa ?_
 iterate 4 refine aH rfl rfl rfl ?_
 refine s1 (aw rfl) ?_
 refine sa ?_
 iterate 4 refine aH rfl rfl rfl ?_
 refine s1 (aw rfl) ?_
 refine sa ?_
 iterate 4 refine aH rfl rfl rfl ?_
 refine s1 (aw rfl) ?_
 refine sa ?_
 iterate 4 refine aH rfl rfl rfl ?_
 refine s1 (aw rfl) ?_
 refine .nil (hK _ _ ?_)
 cases h
 exact pe0 h0 [0,1,2]
 replace h:=aQ bb h
 refine ga bb ?_
 refine g1 bb (bi aM) ?_
 obtain⟨x4,p6,h⟩:=ab h
 refine g1 bb (bj rfl (gb p6) rfl (lA (ao _) (lA (ao _) lAn)) (.inl rfl)) ?_
 refine ga bb ?_
 refine s1 (al bb) ?_
 refine sa ?_
 rcases aD (!x4) with fe|fe
 replace h:=aP fe h
 iterate 4 refine aH rfl rfl fe ?_
 refine s1 (aw fe) ?_
 refine sa ?_
 iterate 4 refine aH rfl rfl rfl ?_
 refine s1 (aw rfl) ?_
 refine sa ?_
 iterate 4 refine aH rfl rfl rfl ?_
 refine s1 (aw rfl) ?_
 refine sa ?_
 iterate 4 refine aH rfl rfl rfl ?_
 refine s1 (aw rfl) ?_
 refine sa ?_
 iterate 4 refine aH rfl rfl rfl ?_
 refine s1 (aw rfl) ?_
 refine .nil (hK _ _ ?_)
 cases h
 exact pe0 h0 [0,1,2]
 replace h:=aQ fe h
 refine ga fe ?_
 refine g1 fe (bi aM) ?_
 obtain⟨x7,DI,h⟩:=ab h
 refine g1 fe (bj rfl (gb DI) rfl (lA (ao _) (lA (ao _) lAn)) (.inl rfl)) ?_
 refine ga fe ?_
 refine s1 (al fe) ?_
 refine sa ?_
 rcases aD (!x7) with rY|rY
 replace h:=aP rY h
 iterate 4 refine aH rfl rfl rY ?_
 refine s1 (aw rY) ?_
 refine sa ?_
 iterate 4 refine aH rfl rfl rfl ?_
 refine s1 (aw rfl) ?_
 refine sa ?_
 iterate 4 refine aH rfl rfl rfl ?_
 refine s1 (aw rfl) ?_
 refine sa ?_
 iterate 4 refine aH rfl rfl rfl ?_
 refine s1 (aw rfl) ?_
 refine .nil (hK _ _ ?_)
 cases h
 exact pe0 h0 [0,1,2]
 replace h:=aQ rY h
 refine ga rY ?_
 refine g1 rY (bi aM) ?_
 obtain⟨jA,v5,h⟩:=ab h
 refine g1 rY (bj rfl (gb v5) rfl (lA (ao _) (lA (ao _) lAn)) (.inl rfl)) ?_
 refine ga rY ?_
 refine s1 (al rY) ?_
 refine sa ?_
 rcases aD (!jA) with iK|iK
 replace h:=aP iK h
 iterate 4 refine aH rfl rfl iK ?_
 refine s1 (aw iK) ?_
 refine sa ?_
 iterate 4 refine aH rfl rfl rfl ?_
 refine s1 (aw rfl) ?_
 refine sa ?_
 iterate 4 refine aH rfl rfl rfl ?_
 refine s1 (aw rfl) ?_
 refine .nil (hK _ _ ?_)
 cases h
 exact pe0 h0 [0,1,2]
 replace h:=aQ iK h
 refine ga iK ?_
 refine g1 iK (bi aM) ?_
 obtain⟨mX,uQ,h⟩:=ab h
 refine g1 iK (bj rfl (gb uQ) rfl (lA (ao _) (lA (ao _) lAn)) (.inl rfl)) ?_
 refine ga iK ?_
 refine s1 (al iK) ?_
 refine sa ?_
 rcases aD (!mX) with nJ|nJ
 replace h:=aP nJ h
 iterate 4 refine aH rfl rfl nJ ?_
 refine s1 (aw nJ) ?_
 refine sa ?_
 iterate 4 refine aH rfl rfl rfl ?_
 refine s1 (aw rfl) ?_
 refine .nil (hK _ _ ?_)
 cases h
 exact pe0 h0 [0,1,2]
 replace h:=aQ nJ h
 refine ga nJ ?_
 refine g1 nJ (bi aM) ?_
 obtain⟨sT,Lo,h⟩:=ab h
 refine g1 nJ (bj rfl (gb Lo) rfl (lA (ao _) (lA (ao _) lAn)) (.inl rfl)) ?_
 refine ga nJ ?_
 refine s1 (al nJ) ?_
 refine sa ?_
 rcases aD (!sT) with jL|jL
 replace h:=aP jL h
 iterate 4 refine aH rfl rfl jL ?_
 refine s1 (aw jL) ?_
 refine .nil (hK _ _ ?_)
 cases h
 exact pe0 h0 [0,1,2]
 replace h:=aQ jL h
 refine ga jL ?_
 refine g1 jL (bi aM) ?_
 obtain⟨rf,v4,h⟩:=ab h
 refine g1 jL (bj rfl (gb v4) rfl (lA (ao _) (lA (ao _) lAn)) (.inl rfl)) ?_
 refine ga jL ?_
 refine s1 (al jL) ?_
 refine .nil (hK _ _ ?_)
 cases h
 exact pe0 h0 [0,1,2]
 rintro ex tm' hp' ⟨rfl,hw⟩
 refine AW.weak hw (cdh h rfl (fun Oz h=>?_) (fun Oz h=>?_))
 refine rs hx fun K hK=>?_
 refine scb h qo fun sS h=>?_
 refine sa ?_
 refine .nil (hK _ _ (AW.ret ?_))
 cases h
 exact rv1
 refine AW.skip ?_
 iterate 2 refine AW.seq ?_
 obtain⟨nD,hy,h⟩:=ab h
 refine jn ((PE cx .normal (fun nD=>[(3,.pt 0 0),(4,.pt 1 0),(5,.pt 2 0),(56,dB nD)]) fun nD=>⟨[(0,[dI .i64 oa.vA.vR,dI .i64 oa.vA.vC,dL ai oa.vA.vV,dL ai oa.vB,dL ai oa.vC]),(1,[dI .i64 aN.vKind,dL ai aN.vX,dL ai aN.vY,dL ai aN.vRay]),(2,[dI .i64 aV.vKind,dL ai aV.vX,dL ai aV.vY,dL ai aV.vRay])],[],3⟩) nD) ?_ ?_
 replace h:=hy
 refine rq hx fun K hK=>?_
 refine s1 (d:=dG ci oa) (iH mE) ?_
 refine s1 (d:=dG dU aN) (iH lD) ?_
 refine scb h mZ fun Db h=>?_
 iterate 2 refine sa ?_
 rcases aD (decide (Db≠(0:Int))) with v8|v8
 replace h:=aP v8 h
 iterate 4 refine aH rfl rfl v8 ?_
 refine s1 (aw v8) ?_
 refine .nil (hK _ _ ?_)
 cases h
 exact pe0 h0 [0,1,2]
 replace h:=aQ v8 h
 refine g1 (d:=dG ci oa) v8 (iH mE) ?_
 refine g1 (d:=dG dU aV) v8 (iH lD) ?_
 obtain⟨Gj,IQ,h⟩:=ab h
 refine g1 v8 (bj rfl (mZ IQ) (by simp only[dJ,eD,cH,bP,bB,bq];exact⟨aI _ _,aI _ _⟩) (lA (ao _) (lA (ao _) lAn)) (.inl rfl)) ?_
 refine ga v8 ?_
 refine s1 (al v8) ?_
 refine .nil (hK _ _ ?_)
 cases h
 exact pe0 h0 [0,1,2]
 rintro ex tm' hp' ⟨rfl,hw⟩
 refine AW.weak hw (cdh h rfl (fun rZ h=>?_) (fun rZ h=>?_))
 refine rs hx fun K hK=>?_
 refine scb h qo fun Ie h=>?_
 refine sa ?_
 refine .nil (hK _ _ (AW.ret ?_))
 cases h
 exact rv1
 refine AW.skip (AW.seq ?_)
 obtain⟨j7,hy,h⟩:=ab h
 refine jn ((PE cx .normal (fun j7=>[(6,dB j7)]) fun j7=>⟨[],[],0⟩) j7) ?_ ?_
 replace h:=hy
 refine rqd [11,17] hx fun K hK=>?_
 refine cqb h qo fun Me h=>?_
 refine sa ?_
 rcases aD Me with B9|B9
 replace h:=aP B9 h
 refine ga B9 ?_
 refine g1 B9 (bi bG) ?_
 refine ga B9 ?_
 refine g1 B9 (bi bG) ?_
 refine ga B9 ?_
 refine s1 (aw B9) ?_
 refine sa ?_
 rcases aD (decide (aN.vKind=aV.vKind)) with qA|qA
 replace h:=aP qA h
 refine ga qA ?_
 refine g1 qA (bi bG) ?_
 iterate 2 refine ga qA ?_
 rcases aD (decide (aN.vKind≠(1:Int))) with nI|nI
 replace h:=aP nI h
 iterate 11 refine aH rfl rfl nI ?_
 refine g1 qA (aw nI) ?_
 refine s1 (aw qA) ?_
 refine sa ?_
 refine .nil (hK _ _ ?_)
 cases h
 exact pe0 h0 []
 replace h:=aQ nI h
 refine ga nI ?_
 refine g1 nI (bi aM) ?_
 refine ga nI ?_
 refine g1 nI (bi aM) ?_
 obtain⟨Da,NF,h⟩:=ab h
 refine sqg tok rfl rfl nI (eA NF) rfl (lA (ao _) (lA (ao _) lAn)) (.inl (g9 _ _)) ?_
 refine ga nI ?_
 refine g1 nI (bi aM) ?_
 refine ga nI ?_
 refine g1 nI (bi aM) ?_
 obtain⟨x41,hx42,h⟩:=ab h
 refine sqg tok rfl rfl nI (eA hx42) rfl (lA (ao _) (lA (ao _) lAn)) (.inl (g9 _ _)) ?_
 refine g1 nI (zV tok 4 (by decide) zC ay) ?_
 refine g1 qA (al nI) ?_
 refine s1 (aw qA) ?_
 refine sa ?_
 refine .nil (hK _ _ ?_)
 cases h
 exact pe0 h0 []
 replace h:=aQ qA h
 iterate 4 refine aH rfl rfl qA ?_
 iterate 11 refine nn_t rfl rfl ?_
 refine aH rfl rfl qA ?_
 refine s1 (al qA) ?_
 refine sa ?_
 refine .nil (hK _ _ ?_)
 cases h
 exact pe0 h0 []
 replace h:=aQ B9 h
 iterate 5 refine aH rfl rfl B9 ?_
 refine s1 (al B9) ?_
 refine sa ?_
 iterate 4 refine aH rfl rfl rfl ?_
 iterate 11 refine nn_t rfl rfl ?_
 refine aH rfl rfl rfl ?_
 refine s1 (al rfl) ?_
 refine sa ?_
 refine .nil (hK _ _ ?_)
 cases h
 exact pe0 h0 []
 rintro ex tm' hp' ⟨rfl,hw⟩
 refine AW.weak hw (AW.ret ?_)
 cases h
 exact rv1
theorem Pq {A k:Nat}(h:A<2 ^ (k+1))(hb:(dg 65536 A (k / 16) / 2 ^ (k % 16)) % 2=0):A<2 ^ k:=by
 have e1:(dg 65536 A (k / 16)).testBit (k % 16)=A.testBit k:=by
  unfold dg
  rw[show (65536:Nat) ^ (k / 16)=2 ^ (16*(k / 16)) by rw[Nat.pow_mul],show (65536:Nat)=2 ^ 16 by decide,Nat.testBit_mod_two_pow,Nat.testBit_div_two_pow,aF (eE _ (by decide)),Bool.true_and]
  congr 1;omega
 rw[Nat.testBit_eq_decide_div_mod_eq,Nat.testBit_eq_decide_div_mod_eq] at e1
 have h2:A / 2 ^ k % 2=0:=by
  rcases Nat.mod_two_eq_zero_or_one (A / 2 ^ k) with h3|h3
  ·exact h3
  ·rw[h3] at e1
   have:=cj (e1.trans (aF rfl))
   omega
 have h3:A / 2 ^ k<2:=by rw[lw (b9 (by decide))];rw[c8] at h;omega
 have h4:A / 2 ^ k=0:=by
  generalize A / 2 ^ k=q at h2 h3
  omega
 rcases Nat.div_eq_zero_iff.1 h4 with h5|h5
 ·have:=b9 (n:=k) (show 0<2 by decide);omega
 ·exact h5
theorem R_bit {A k:Nat}(hk:k≤100000):pl (dl A) (k:Int)=some (((dg 65536 A (k / 16) / 2 ^ (k % 16)) % 2:Nat):Int):=by
 unfold pl
 have e1:i64.wrap (Int.tdiv (k:Int) (16:Int))=((k / 16:Nat):Int):=by
  rw[Int.tdiv_eq_ediv_of_nonneg (by omega),fb (by omega) (by omega)];omega
 have e2:Int.tmod (k:Int) (16:Int)=((k % 16:Nat):Int):=by
  rw[Int.tmod_eq_emod_of_nonneg (by omega)];rfl
 rw[e1,e2,show dl A=dk (sz6 A) A from rfl,tR (jG A),ae,aL (by omega),zo _ _ _ (by have:k % 16<16:=eE _ (by decide);show k % 16≤64;omega)]
 generalize dg 65536 A (k / 16) / 2 ^ (k % 16)=q
 have e3:Int.tmod (q:Int) 2=((q % 2:Nat):Int):=by rw[Int.tmod_eq_emod_of_nonneg (by omega)];rfl
 rw[e3]
theorem PW {z:Int}(hz:z.natAbs<LIM):∃n:Nat,gi (enc z)=some (n:Int)∧z.natAbs<2 ^ n:=by
 have hsz:sz6 z.natAbs≤32:=qq (d8 hz (by decide))
 have bX:=jG z.natAbs
 have hlen:=Jo z.natAbs
 obtain⟨x,hl,hx⟩:=tZ (b:=mv (dl z.natAbs)) (fun s:Int=>0≤s∧s≤512∧z.natAbs<2 ^ s.toNat) (fun s=>s.toNat) (fun x=>0≤x∧x≤512∧z.natAbs<2 ^ x.toNat) (fun s ⟨h1,h2,h3⟩=>by
  unfold mv
  by_cases h0:0<s
  ·obtain⟨k,rfl⟩:∃k:Nat,s=(k:Int)+1:=⟨(s - 1).toNat,by omega⟩
   rw[de _ _ h0,fb (z:=(k:Int)+1 - 1) (by omega) (by omega),show (k:Int)+1 - 1=(k:Int) by omega,R_bit (by omega),ae]
   have e:((k:Int)+1).toNat=k+1:=by omega
   rw[e] at h3
   by_cases hb:(dg 65536 z.natAbs (k / 16) / 2 ^ (k % 16)) % 2=0
   ·refine .inl ⟨(k:Int),?_,⟨by omega,by omega,?_⟩,by omega⟩
    ·rw[aF (by omega)];rfl
    ·rw[show ((k:Int)).toNat=k by omega];exact Pq h3 hb
   ·refine .inr ⟨(k:Int)+1,?_,by omega,by omega,by rw[e];exact h3⟩
    rw[bH (by omega)];rfl
  ·obtain rfl:s=0:=by omega
   exact .inr ⟨0,by rw[cK _ _ h0];rfl,by omega,by omega,h3⟩) (16*(sz6 z.natAbs:Int)) ⟨by omega,by omega,by
   rw[show (16*(sz6 z.natAbs:Int)).toNat=16*sz6 z.natAbs by omega,Nat.pow_mul];exact bX⟩
 refine⟨x.toNat,?_,hx.2.2⟩
 unfold gi
 rw[ir,bz hz,ae,mC hz]
 rw[show (!true)=false from rfl,cF]
 simp only[ae]
 rw[hlen,fb (by omega) (by omega),hl,ae]
 congr 1;omega
theorem wY {x:Nu}(h:aK x=true):(∃n:Nat,gi (nv x).vN=some (n:Int)∧(rv x).num.natAbs<2 ^ n)∧∃n:Nat,gi (nv x).vD=some (n:Int)∧(rv x).den<2 ^ n:=by
 obtain⟨h1,h2⟩:=eG.1 (dm.1 h)
 have e:nv x=kZ (rv x):=h2
 rw[e]
 refine⟨PW h1.1,?_⟩
 obtain⟨n,h3,h4⟩:=PW (jF h1)
 exact⟨n,h3,by simpa using h4⟩
structure KG(l:List Nu)(bits:Int):Prop where
 good:∀i,i<l.length→aK l[i]! =true
 num:∀i,i<l.length→(rv l[i]!).num.natAbs<2 ^ bits.toNat
 den:∀i,i<l.length→(rv l[i]!).den<2 ^ bits.toNat
theorem qg {l:List Nu}{bits:Int}(hl:l.length≤9223372036854775807):∃b,eC (l.map nv) bits=some b∧(b=true→KG l bits):=by
 obtain⟨fN,hN⟩:∃fN:Nat→Int,fN=fun i=>(gi (nv l[i]!).vN).getD 0:=⟨_,rfl⟩
 obtain⟨fD,hD⟩:∃fD:Nat→Int,fD=fun i=>(gi (nv l[i]!).vD).getD 0:=⟨_,rfl⟩
 have key:=sn (b:=jW (l.map nv) bits) (n:=l.length) (by omega) (fun i=>aK l[i]! &&(!decide (bits<fN i)&&!decide (bits<fD i))) (fun i hi=>by
  unfold jW
  rw[bT,de _ _ (by omega),aL (by omega),aL (by omega),aL (by omega),uL hi,qGood,ae]
  cases hg:aK l[i]! with
  |false=>rfl
  |true=>
   obtain⟨⟨n1,h1,_⟩,n2,h2,_⟩:=wY hg
   rw[h1,h2,ae,ae]
   have e1:fN i=n1:=by rw[hN];dsimp only;rw[h1];rfl
   have e2:fD i=n2:=by rw[hD];dsimp only;rw[h2];rfl
   rw[e1,e2]
   cases decide (bits<(n1:Int)) <;> cases decide (bits<(n2:Int)) <;> rfl) (by
  unfold jW
  rw[bT,cK _ _ (by omega)])
 refine⟨_,key,fun h=>?_⟩
 have h3:∀i,i<l.length→aK l[i]! =true∧¬bits<fN i∧¬bits<fD i:=fun i hi=>by
  have:=cX.1 h i (pw.2 hi)
  simpa[bq] using this
 refine⟨fun i hi=>(h3 i hi).1,fun i hi=>?_,fun i hi=>?_⟩
 ·obtain⟨hg,h4,_⟩:=h3 i hi
  obtain⟨⟨n1,h1,h5⟩,_⟩:=wY hg
  have e1:fN i=n1:=by rw[hN];dsimp only;rw[h1];rfl
  exact d8 h5 (ia (by decide) (by omega))
 ·obtain⟨hg,_,h4⟩:=h3 i hi
  obtain⟨_,n2,h2,h5⟩:=wY hg
  have e1:fD i=n2:=by rw[hD];dsimp only;rw[h2];rfl
  exact d8 h5 (ia (by decide) (by omega))
structure Few(R Cc:Int)(A B C:List Nu)(size bits:Int):Prop where
 valid:oI R Cc A B C=true
 r:R≤size
 c:Cc≤size
 sA:KG A bits
 sB:KG B bits
 sC:KG C bits
theorem R_few {R Cc size bits:Int}{A B C:List Nu}(hA:A.length≤9223372036854775807)(hB:B.length≤9223372036854775807)(hC:C.length≤9223372036854775807):∃b,pp ⟨⟨R,Cc,A.map nv⟩,B.map nv,C.map nv⟩ size bits=some b∧(b=true→Few R Cc A B C size bits):=by
 obtain⟨b1,h1,k1⟩:=qg (l:=A) (bits:=bits) hA
 obtain⟨b2,h2,k2⟩:=qg (l:=B) (bits:=bits) hB
 obtain⟨b3,h3,k3⟩:=qg (l:=C) (bits:=bits) hC
 refine⟨oI R Cc A B C&&(decide (R≤size)&&(decide (Cc≤size)&&(b1&&(b2&&b3)))),?_,fun h=>?_⟩
 ·unfold pp
  dsimp only
  rw[R_Valid hA hB hC,h1,h2,h3]
  simp only[ae,oV]
 ·simp only[bq,rl] at h
  obtain⟨a1,a2,a3,a4,a5,a6⟩:=h
  exact⟨a1,a2,a3,k1 a4,k2 a5,k3 a6⟩
def qr(R Cc:Int)(A B C:List Nu)(most:Int):Ans×Int×Int:=if oI R Cc A B C&&decide (0≤most) then lm R.toNat Cc.toNat A B C most else (⟨0,[],[],[]⟩,0,1)
theorem xi {l:List Nu}(h:l.all aK=true):∀i,i<l.length→aK l[i]! =true:=fun i hi=>by
 rw[cz l i hi];exact cX.1 h _ (pM _)
theorem P_Solve {R Cc most:Int}{A B C:List Nu}(hA:A.length≤1000000)(hB:B.length≤1000000)(hC:C.length≤1000000)(hm:most≤9223372036854775807):kU ⟨⟨R,Cc,A.map nv⟩,B.map nv,C.map nv⟩ most=some (tE (qr R Cc A B C most)):=by
 unfold kU qr
 rw[Ge hA hB hC,ae]
 cases hv:oI R Cc A B C with
 |false=>
  rw[if_neg (by simp),if_neg (by simp)]
 |true=>
  by_cases h0:0≤most
  ·rw[if_pos ⟨rfl,h0⟩]
   obtain⟨m,nn,rfl,rfl,h1,h2,h3,h4,h5,g1,g2,g3⟩:=wO hv
   dsimp only
   rw[pE,pE,pE]
   refine (if_pos ⟨⟨by simp,by simp,by simpa using h1,by simpa using h2,BG _,BG _,BG _,by simpa using h3,by simpa using h4,by simpa using h5,?_,?_,?_⟩,hm⟩).trans (by rw[if_pos (by simpa using h0)])
   ·dsimp only;rw[pE];exact xi g1
   ·dsimp only;rw[pE];exact xi g2
   ·dsimp only;rw[pE];exact xi g3
  ·rw[if_neg (fun h=>h0 h.2),if_neg (by simp[h0])]
theorem vq {l:List Nu}(h:l.all aK=true):(kD l).all aK=true:=by
 unfold kD
 rw[lN,h,Bool.true_and,List.all_map,←h]
 congr 1
 funext x
 exact Ef
def FQ(R Cc:Int)(A B:List Nu)(most:Int):Ans×Int×Int:=if rB R Cc A B&&decide (0≤most) then xb R.toNat Cc.toNat A B most else (⟨0,[],[],[]⟩,0,1)
theorem P_Equal {R Cc most:Int}{A B:List Nu}(hA:A.length≤500000)(hB:B.length≤500000)(hm:most≤9223372036854775807):kV ⟨R,Cc,A.map nv⟩ (B.map nv) most=some (tE (FQ R Cc A B most)):=by
 unfold kV FQ
 rw[CZ (by omega) (by omega),ae]
 cases hv:rB R Cc A B with
 |false=>
  rw[if_neg (by simp),if_neg (by simp)]
 |true=>
  by_cases h0:0≤most
  ·rw[if_pos ⟨rfl,h0⟩]
   obtain⟨m,nn,rfl,rfl,h1,h2,h3,h4,g1,g2⟩:=z5 hv
   dsimp only
   rw[pE,pE]
   have hlA:(kD A).length=(m+m)*nn:=by unfold kD;rw[cR,bT,h3,cp]
   have hlB:(kD B).length=m+m:=by unfold kD;rw[cR,bT,h4]
   have hlA2:(kD A).length=A.length+A.length:=by unfold kD;rw[cR,bT]
   have hz:(List.replicate nn (nOf 0)).all aK=true:=cX.2 fun x hx=>by rw[List.eq_of_mem_replicate hx];exact of0.1
   refine (if_pos ⟨⟨by simp,by simp,by simpa using h1,by simpa using h2,BG _,BG _,by simpa using h3,by simpa using h4,by simp;omega,?_,?_,?_⟩,hm⟩).trans (by rw[if_pos (by simpa using h0)])
   ·dsimp only;rw[pE];exact xi (vq g1)
   ·rw[pE];exact xi (vq g2)
   ·dsimp only
    rw[pE,pE,cl,cl,Ge (by omega) (by omega) (by simp;omega)]
    congr 1
    unfold oI Fl
    rw[hlA,hlB,vq g1,vq g2,hz,Ap]
    have q1:decide ((0:Int)≤((m+m:Nat):Int))=true:=aF (by omega)
    have q2:decide ((0:Int)≤(nn:Int))=true:=aF (by omega)
    have q3:decide (((m+m:Nat):Int)≤2000)=true:=aF (by omega)
    have q4:decide ((nn:Int)≤2000)=true:=aF (by omega)
    have q5:decide ((((m+m)*nn:Nat):Int)=((m+m:Nat):Int)*(nn:Int))=true:=aF (by rw[mT])
    have q6:decide (((m+m:Nat):Int)=((m+m:Nat):Int))=true:=aF rfl
    have q7:decide (((nn:Nat):Int)=(nn:Int))=true:=aF rfl
    rw[q1,q2,q3,q4,q5,q6,q7]
    rfl
  ·rw[if_neg (fun h=>h0 h.2),if_neg (by simp[h0])]
theorem tN {l:List Int}(hl:l.length≤1000000)(h:∀i,i<l.length→-1000≤l[i]!∧l[i]!≤1000):dH l=some ((l.map nOf).map nv):=by
 unfold dH
 have key:=uM (b:=kY l) (fun i:Nat=>(((l.take i).map nOf).map nv,(i:Int))) 0 l.length ((l.map nOf).map nv) (cQ _) (fun i _ hi=>?_) ?_
 ·have e:((((l.take 0).map nOf).map nv),((0:Nat):Int))=(([]:List aq),(0:Int)):=by simp
  rw[e] at key
  rw[key];rfl
 ·unfold kY
  dsimp only
  have jK:l[((i:Nat):Int).toNat]! =l[i]! :=by rw[show ((i:Nat):Int).toNat=i by omega]
  have htk:l.take (i+1)=l.take i++[l[i]!]:=by rw[ym,c0 hi,cz l i hi];rfl
  obtain⟨h1,h2⟩:=h i hi
  rw[de _ _ (by omega),aL (by omega),jK,R_Of (by omega) (by omega),ae,aL (by simp;omega),fb (by omega) (by omega),htk]
  simp only[jz,dJ,eD]
  rfl
 ·unfold kY
  dsimp only
  rw[cK _ _ (by omega),g6 (aB _)]
def fr(a b:Int):Nu:=nuR (some (Rat.divInt a b))
theorem CY {a b:Int}(ha:-1000≤a∧a≤1000)(hb:-1000≤b∧b≤1000):gv a b=some ([fr a 5,fr b 5].map nv):=by
 have hL:∀n:Int,-1000≤n∧n≤1000→n.natAbs<LIM:=fun n hn=>d8 (show n.natAbs<18446744073709551616 by omega) (by decide)
 have hf:∀n:Int,-1000≤n∧n≤1000→mr n 5=some (nv (fr n 5)):=fun n hn=>by
  unfold mr
  rw[vQ (by omega) (by omega),ae,vQ (by omega) (by omega),ae,PV (hL n hn) (by decide) (by decide),ae]
  rfl
 unfold gv
 rw[hf a ha,hf b hb]
 rfl
def JZ(l:List Nu):Bool:=decide (l.length≤1000)
def Np(a:Ans):Bool:=JZ a.x&&(JZ a.y&&JZ a.ray)
theorem sw {a:Ans}(h:Np a=true):yD a:=by
 unfold Np JZ at h
 simp only[bq,rl] at h
 exact⟨by omega,by omega,by omega⟩
def e1B:Bool:=qr 2 2 ([1,2,3,1].map nOf) ([4,6].map nOf) ([1,1].map nOf) 100 |> fun r=>decide (r.1=⟨1,[fr 8 5,fr 6 5],[fr 2 5,fr 1 5],[]⟩)&&(decide (r.2.2=0)&&decide (ni 2 2 ([1,2,3,1].map nOf) ([4,6].map nOf) ([1,1].map nOf) r.1=0))
def e2B:Bool:=qr 1 1 ([1].map nOf) ([-1].map nOf) ([0].map nOf) 100 |> fun r=>decide (r.1=⟨2,[],[1].map nOf,[]⟩)&&(decide (r.2.2=0)&&decide (ni 1 1 ([1].map nOf) ([-1].map nOf) ([0].map nOf) r.1=0))
def e3B:Bool:=qr 1 2 ([-1,1].map nOf) ([1].map nOf) ([1,0].map nOf) 100 |> fun r=>decide (r.1=⟨3,[0,0].map nOf,[],[1,0].map nOf⟩)&&(decide (r.2.2=0)&&decide (ni 1 2 ([-1,1].map nOf) ([1].map nOf) ([1,0].map nOf) r.1=0))
def e4B:Bool:=qr 1 1 ([-1].map nOf) ([-2].map nOf) ([-1].map nOf) 100 |> fun r=>decide (r.1=⟨1,[2].map nOf,[1].map nOf,[]⟩)&&(decide (r.2.2=0)&&decide (ni 1 1 ([-1].map nOf) ([-2].map nOf) ([-1].map nOf) r.1=0))
def e5B:Bool:=FQ 2 2 ([1,1,1,-1].map nOf) ([1,3].map nOf) 100 |> fun r=>Np r.1&&(decide (r.2.2=0)&&(decide (r.1.kind=2)&&decide (Ct 2 2 ([1,1,1,-1].map nOf) ([1,3].map nOf) r.1=0)))
def e6B:Bool:=decide (ni 2 2 ([1,2,3,1].map nOf) ([4,6].map nOf) ([1,1].map nOf) ⟨1,[fr 8 5,fr 6 5],[fr 2 5,fr 2 5],[]⟩=250)
theorem e1T:e1B=true:=by decide +kernel
theorem e2T:e2B=true:=by decide +kernel
theorem e3T:e3B=true:=by decide +kernel
theorem e4T:e4B=true:=by decide +kernel
theorem e5T:e5B=true:=by decide +kernel
theorem e6T:e6B=true:=by decide +kernel
theorem yC {R Cc:Int}{A B C:List Nu}{want:Ans}(hA:A.length≤1000000)(hB:B.length≤1000000)(hC:C.length≤1000000)(hl:yD want)(h:(decide ((qr R Cc A B C 100).1=want)&&(decide ((qr R Cc A B C 100).2.2=0)&&decide (ni R Cc A B C (qr R Cc A B C 100).1=0)))=true):gu ⟨⟨R,Cc,A.map nv⟩,B.map nv,C.map nv⟩ (qf want)=some true:=by
 simp only[bq,rl] at h
 obtain⟨h1,h2,h3⟩:=h
 rw[h1] at h3
 unfold gu
 rw[P_Solve hA hB hC (by decide),ae]
 have e:(tE (qr R Cc A B C 100)).1=qf want:=by rw[←h1];rfl
 have e2:(tE (qr R Cc A B C 100)).2.2=0:=h2
 rw[e,e2,Ga hl,Be hA hB hC hl,h3]
 simp only[ae,oV]
 simp
theorem vM {rows:Int}{a b c:List Int}(ha:a.length≤1000000)(hb:b.length≤1000000)(hc:c.length≤1000000)(h1:∀i,i<a.length→-1000≤a[i]!∧a[i]!≤1000)(h2:∀i,i<b.length→-1000≤b[i]!∧b[i]!≤1000)(h3:∀i,i<c.length→-1000≤c[i]!∧c[i]!≤1000):fJ rows a b c=some ⟨⟨rows,(c.length:Int),(a.map nOf).map nv⟩,(b.map nOf).map nv,(c.map nOf).map nv⟩:=by
 unfold fJ
 rw[tN ha h1,ae,tN hb h2,ae,tN hc h3,ae]
theorem sane:iE=some true:=by
 have p1:=vM (rows:=2) (a:=[1,2,3,1]) (b:=[4,6]) (c:=[1,1]) (by decide) (by decide) (by decide) (by decide) (by decide) (by decide)
 have p2:=vM (rows:=1) (a:=[1]) (b:=[-1]) (c:=[0]) (by decide) (by decide) (by decide) (by decide) (by decide) (by decide)
 have p3:=vM (rows:=1) (a:=[-1,1]) (b:=[1]) (c:=[1,0]) (by decide) (by decide) (by decide) (by decide) (by decide) (by decide)
 have p4:=vM (rows:=1) (a:=[-1]) (b:=[-2]) (c:=[-1]) (by decide) (by decide) (by decide) (by decide) (by decide) (by decide)
 have f1:=CY (a:=8) (b:=6) (by decide) (by decide)
 have f2:=CY (a:=2) (b:=1) (by decide) (by decide)
 have f3:=CY (a:=2) (b:=2) (by decide) (by decide)
 have i1:=tN (l:=[1]) (by decide) (by decide)
 have i2:=tN (l:=[0,0]) (by decide) (by decide)
 have i3:=tN (l:=[1,0]) (by decide) (by decide)
 have i4:=tN (l:=[2]) (by decide) (by decide)
 have i5:=tN (l:=[1,1,1,-1]) (by decide) (by decide)
 have i6:=tN (l:=[1,3]) (by decide) (by decide)
 have s1:=yC (want:=⟨1,[fr 8 5,fr 6 5],[fr 2 5,fr 1 5],[]⟩) (R:=2) (Cc:=2) (by decide) (by decide) (by decide) (sw rfl) e1T
 have s2:=yC (want:=⟨2,[],[1].map nOf,[]⟩) (R:=1) (Cc:=1) (by decide) (by decide) (by decide) (sw rfl) e2T
 have s3:=yC (want:=⟨3,[0,0].map nOf,[],[1,0].map nOf⟩) (R:=1) (Cc:=2) (by decide) (by decide) (by decide) (sw rfl) e3T
 have s4:=yC (want:=⟨1,[2].map nOf,[1].map nOf,[]⟩) (R:=1) (Cc:=1) (by decide) (by decide) (by decide) (sw rfl) e4T
 have q1:=P_Equal (R:=2) (Cc:=2) (A:=[1,1,1,-1].map nOf) (B:=[1,3].map nOf) (most:=100) (by decide) (by decide) (by decide)
 have h5:=e5T
 unfold e5B at h5
 obtain⟨r,hr⟩:∃r,r=FQ 2 2 ([1,1,1,-1].map nOf) ([1,3].map nOf) 100:=⟨_,rfl⟩
 rw[←hr] at q1 h5
 simp only[bq,rl] at h5
 obtain⟨hl,k2,k3,k4⟩:=h5
 have q2:=Gf (R:=2) (Cc:=2) (A:=[1,1,1,-1].map nOf) (B:=[1,3].map nOf) (a:=r.1) (by decide) (by decide) (sw hl)
 rw[k4] at q2
 have q3:=Be (R:=2) (Cc:=2) (A:=[1,2,3,1].map nOf) (B:=[4,6].map nOf) (C:=[1,1].map nOf) (a:=⟨1,[fr 8 5,fr 6 5],[fr 2 5,fr 2 5],[]⟩) (by decide) (by decide) (by decide) (sw rfl)
 rw[show ni 2 2 ([1,2,3,1].map nOf) ([4,6].map nOf) ([1,1].map nOf) ⟨1,[fr 8 5,fr 6 5],[fr 2 5,fr 2 5],[]⟩=250 from cj e6T] at q3
 have z1:(tE r).1=qf r.1:=rfl
 have z2:(tE r).2.2=0:=k2
 have z3:(qf r.1).vKind=2:=k3
 unfold iE
 rw[p1,ae,f1,ae,f2,ae]
 refine (congrArg (fun o=>bnd o _) s1).trans ?_
 rw[ae,p2,ae,i1,ae]
 refine (congrArg (fun o=>bnd o _) s2).trans ?_
 rw[ae,p3,ae,i2,ae,i3,ae]
 refine (congrArg (fun o=>bnd o _) s3).trans ?_
 rw[ae,p4,ae,i4,ae]
 rw[ae]
 refine (congrArg (fun o=>bnd o _) s4).trans ?_
 rw[ae,i5,ae,i6,ae,q1,ae,z1,z2,z3,ae,q2]
 have dt:decide True=true:=rfl
 simp only[ae,cT,dt,f3]
 refine (congrArg (fun o=>bnd (bnd o _) _) q3).trans ?_
 rfl
theorem G_agree {R Cc:Int}{A B C:List Nu}{a b:Ans}(hA:A.length≤9223372036854775807)(hB:B.length≤9223372036854775807)(hC:C.length≤9223372036854775807)(ha:yD a)(hb:yD b):d7 ⟨⟨R,Cc,A.map nv⟩,B.map nv,C.map nv⟩ (qf a) (qf b)=some true:=by
 have hax:=ha.x
 have hay:=ha.y
 have har:=ha.ray
 have hbx:=hb.x
 have hby:=hb.y
 have hbr:=hb.ray
 obtain⟨f,hf,kf⟩:=R_few (R:=R) (Cc:=Cc) (size:=5) (bits:=20) (A:=A) (B:=B) (C:=C) (by omega) (by omega) (by omega)
 obtain⟨b1,h1,_⟩:=qg (l:=a.x) (bits:=60) (by omega)
 obtain⟨b2,h2,_⟩:=qg (l:=a.y) (bits:=60) (by omega)
 obtain⟨b3,h3,_⟩:=qg (l:=a.ray) (bits:=60) (by omega)
 obtain⟨b4,h4,_⟩:=qg (l:=b.x) (bits:=60) (by omega)
 obtain⟨b5,h5,_⟩:=qg (l:=b.y) (bits:=60) (by omega)
 obtain⟨b6,h6,_⟩:=qg (l:=b.ray) (bits:=60) (by omega)
 unfold d7
 rw[hf,sane]
 have ea:(qf a).vX=a.x.map nv∧(qf a).vY=a.y.map nv∧(qf a).vRay=a.ray.map nv∧(qf a).vKind=a.kind:=⟨rfl,rfl,rfl,rfl⟩
 have eb:(qf b).vX=b.x.map nv∧(qf b).vY=b.y.map nv∧(qf b).vRay=b.ray.map nv∧(qf b).vKind=b.kind:=⟨rfl,rfl,rfl,rfl⟩
 rw[ea.1,ea.2.1,ea.2.2.1,ea.2.2.2,eb.1,eb.2.1,eb.2.2.1,eb.2.2.2,h1,h2,h3,h4,h5,h6]
 cases f with
 |false=>rfl
 |true=>
  have few:=kf rfl
  obtain⟨m,nn,rfl,rfl,d1,d2,d3,d4,d5,g1,g2,g3⟩:=wO few.valid
  have hr:=few.r
  have hc:=few.c
  have hmn:m*nn≤5*5:=t7 (by omega) (by omega)
  rw[Be (by omega) (by omega) (by omega) ha,Be (by omega) (by omega) (by omega) hb]
  dsimp only
  rw[qh (.inl (by omega)),qh (.inl (by omega))]
  have hca:ni m nn A B C a=0→jI m nn A B C a=true:=fun h=>by
   unfold ni at h
   rw[if_pos few.valid] at h
   by_cases hh:jI m nn A B C a=true
   ·exact hh
   ·rw[if_neg (by simpa using hh)] at h;cases h
  have hcb:ni m nn A B C b=0→jI m nn A B C b=true:=fun h=>by
   unfold ni at h
   rw[if_pos few.valid] at h
   by_cases hh:jI m nn A B C b=true
   ·exact hh
   ·rw[if_neg (by simpa using hh)] at h;cases h
  cases b1 <;> cases b2 <;> cases b3 <;> cases b4 <;> cases b5 <;> cases b6 <;> try rfl
  by_cases k1:ni m nn A B C a=0
  ·by_cases k2:ni m nn A B C b=0
   ·obtain⟨e1,e2⟩:=agree d3 d4 d5 (fun i hi=>xi g2 i (by omega)) (fun k hk=>xi g3 k (by omega)) (hca k1) (hcb k2)
    rw[k1,k2,e1]
    by_cases k3:b.kind=1
    ·rw[k3,e2 (e1.trans k3)]
     simp only[ae,oV,cOr,cN,cT,cF,c7]
     simp[cnd,bnd]
    ·simp only[ae,oV,cOr,cN,cT,cF,c7]
     simp[cnd,bnd,k3]
   ·rw[k1]
    simp only[ae]
    rw[aF k2]
    rfl
  ·simp only[ae]
   rw[aF k1]
   rfl
section
open Go.ChangeShapes Go.WideShapes Go.ChangeAt Go.RowKit Go.Deep
section
variable {H:Type} {enc:TypeId×Value→H} {P:Program}
theorem DE {f:Func}{s:ChangeSpec}{apart fresh handsOn again:Bool}{W W':World}{args:Array Value}{v:Value}{ds gs:List (DataW H)}{before pa pv:List MemPlace}
  (hW:DataW.Whole enc P f.params.toList s.vars apart W args.toList ds gs before)
  (pg:∀(b:Nat) (sp:Nat→Bool) (hd:Bool),DataW.TrodAll enc P W' b sp hd f.resultTypes.toList (v.resultList f.resultTypes.size) (s.fn H (ds++gs)).results [])
  (t5:∀sp:Nat→Bool,(∀p∈before,sp p.block=true)→DataW.TrodAll enc P W' 0 sp true f.params.toList args.toList (s.fn H (ds++gs)).args pa)
  (J9:∀sp:Nat→Bool,(∀p∈before,sp p.block=true)→DataW.TrodVars enc P W' sp s.vars (s.fn H (ds++gs)).vars pv)
  (NW:before=pa++pv) (hb:Below W.heap.size W W')
  (hok:∀(j:Nat) (t:TypeId) (r:Value),f.resultTypes[j]? =some t→(v.resultList f.resultTypes.size)[j]? =some r→Value.okWide P W' .any 0 t r):
  s.post enc P f apart fresh handsOn again W args v W':=by
 have bX:∀p∈before,p.block<W.heap.size:=fun p hp=>hW.lt p hp
 have hold:∀p∈before,(fun b=>decide (b<W.heap.size)) p.block=true:=fun p hp=>by simpa using bX p hp
 refine⟨ds,gs,before,[],pa,pv,hW,pg _ _ _,t5 _ hold,J9 _ hold,World.keptBut_mono (fun p hp=>⟨hp,?_⟩) (hb.frame (·∈before)),fun _=>?_⟩
 ·rw[NW,t8] at hp
  exact Or.inr hp
 ·obtain⟨_,_,_,_,_,hz,hn⟩:=hW
  refine⟨hok,_,_,([]++pa)++pv,⟨[]++pa,pv,trodAll_append (t5 _ (fun _ _=>rfl)) (pg _ _ _),J9 _ (fun _ _=>rfl),rfl,?_,?_⟩,?_⟩
  ·intro b off hp
   have DN:MemPlace.cell b off∈before:=by rw[NW];simpa using hp
   rw[hb.frozen (bX _ DN)]
   exact hz b off DN
  ·intro ha
   have:=hn ha
   rw[NW] at this
   simpa using this
  ·intro p hp _
   rw[NW]
   simpa using hp
theorem Dz(hl:laidOutB P=true){W W':World}(hb:Below W.heap.size W W'){sp:Nat→Bool}:∀(ts:List TypeId) (vs:List Value) (ds:List (DataW H)) (p:List MemPlace),
  (ts.all fun t=>P.readableRec t&&decide (t<P.types.size))=true→DataW.TrodAll enc P W 0 (fun _=>true) true ts vs ds p→(∀x∈p,x.block<W.heap.size)→(∀x∈p,sp x.block=true)→
  DataW.TrodAll enc P W' 0 sp true ts vs ds p:=by
 intro ts
 induction ts with
 |nil=>
  intro vs ds p _ h _ _
  cases vs with
  |nil=>cases ds with
   |nil=>exact h
   |cons d ds=>exact h.elim
  |cons v vs=>exact h.elim
 |cons t ts ih=>
  intro vs ds p hr h bX hs
  cases vs with
  |nil=>exact h.elim
  |cons v vs=>
   cases ds with
   |nil=>exact h.elim
   |cons d ds=>
    obtain⟨p1,q,h1,h2,rfl⟩:=h
    simp only[cH,bq,rl] at hr
    refine⟨p1,q,WideElems.Trod_stays hl hr.1.1 hr.1.2 h1 (fun x hx=>hb.same (bX x (by simp[hx]))) (fun x hx=>hs x (by simp[hx])),ih vs ds q hr.2 h2 (fun x hx=>bX x (by simp[hx])) (fun x hx=>hs x (by simp[hx])),rfl⟩
theorem Nw {f:Func}{s:ChangeSpec}{W W':World}{args:Array Value}{ds gs:List (DataW H)}{before:List MemPlace}{tb:TypeId}
  (hl:laidOutB P=true) (hv:s.vars=[]) (hrec:(f.params.toList.all fun t=>P.readableRec t&&decide (t<P.types.size))=true)
  (pg:f.resultTypes=#[tb]) (htb:P.underlying tb=some .bool)
  (hW:DataW.Whole enc P f.params.toList s.vars false W args.toList ds gs before)
  (hfn:s.fn H (ds++gs)={results:=[.lit (.bool true)],args:=ds}) (hb:Below W.heap.size W W'):
  s.post enc P f false true false false W args (.bool true) W':=by
 have hW':=hW
 obtain⟨p,q,hA,hV,hpq,_,_⟩:=hW
 rw[hv] at hV
 have hq:q=[]:=by
  cases gs with
  |nil=>exact hV
  |cons g gs=>exact hV.elim
 subst hq
 rw[rM] at hpq
 subst hpq
 refine DE (pa:=before) (pv:=[]) hW' (fun b sp hd=>?_) (fun sp hsp=>?_) (fun sp _=>?_) (by simp) hb ?_
 ·rw[pg,hfn]
  exact trodAll_cons_mk (shut_bool htb _) trodAll_mk0
 ·rw[hfn]
  exact Dz hl hb _ _ _ _ hrec hA (fun x hx=>hW'.lt x hx) hsp
 ·rw[hv,hfn];rfl
 ·exact ok_one pg rfl (okWide_bool_mk htb _)
end
theorem NJ {P:Program}{W:World}{params:Array TypeId}{args:Array Value}(h:∀(j:Nat) t v,params[j]? =some t→args[j]? =some v→Value.okWide P W .any 0 t v∨∃base,Value.okWide P W .any base t v)(j:Nat){t:TypeId}{v:Value}
  (h1:params[j]? =some t) (h2:args[j]? =some v):∃base,Value.okWide P W .any base t v:=by
 rcases h j t v h1 h2 with h|h
 ·exact⟨0,h⟩
 ·exact h
end
section
open Go.ChangeShapes Go.WideShapes Go.ChangeAt Go.RowKit Go.Deep
def wtFs(tb:TypeId→Option TyE)(f:TypeId→List E→Prop):List (Nat×TypeId)→List E→Prop
 |[],xs=>xs=[]
 |(_,t)::fs,xs=>∃j,tb t=some j∧j.size≤xs.length∧f t (xs.take j.size)∧wtFs tb f fs (xs.drop j.size)
def wtE(tb:TypeId→Option TyE):Nat→TypeId→List E→Prop
 |0,_,_=>False
 |k+1,t,xs=>∃i,tb t=some i∧xs.length=i.size∧match i.ty with
  | .int kd=>∃n,xs=[.lit (.int kd n)]∧(Lit.int kd n).wf=true
  | .bool=>∃b,xs=[.lit (.bool b)]
  | .str=>∃s:ByteArray,xs=[.lit (.string s)]∧s.size≤maxLen
  | .slice e=>∃j n ys,tb e=some j∧xs=[.sl j.size n ys]∧ys.length=n*j.size∧n≤maxLen∧∀i,i<n→wtE tb k e ((ys.drop (i*j.size)).take j.size)
  | .struct fs=>wtFs tb (wtE tb k) fs xs
  | .arr n e=>∃j,tb e=some j∧xs.length=n*j.size∧∀i,i<n→wtE tb k e ((xs.drop (i*j.size)).take j.size)
  |_=>False
def Bp(tb:TypeId→Option TyE)(f:TypeId→Bool):List (Nat×TypeId)→Nat→Nat→Bool
 |[],off,n=>off == n
 |(o,t)::fs,off,n=>o == off&&f t&&match tb t with
  |some j=>Bp tb f fs (off+j.size) n
  |none=>false
def Ff(tb:TypeId→Option TyE):Nat→TypeId→Bool
 |0,_=>false
 |k+1,t=>match tb t with
  |some i=>match i.ty with
   | .int _| .bool| .str=>i.size == 1
   | .slice e=>i.size == 1&&Ff tb k e&&match tb e with
    |some j=>decide (0<j.size)
    |none=>false
   | .struct fs=>Bp tb (Ff tb k) fs 0 i.size
   | .arr n e=>Ff tb k e&&match tb e with
    |some j=>i.size == n*j.size
    |none=>false
   |_=>false
  |none=>false
section
variable {H:Type} {enc:TypeId×Value→H} {P:Program} {tb:TypeId→Option TyE} {W:World} {sp:Nat→Bool} {hd:Bool} {base:Nat}
theorem TOk.cells(tok:TOk P tb){t:TypeId}{i:TyE}(h:tb t=some i):P.cellsOf t=i.size:=by
 obtain⟨f,z,h1,h2,_⟩:=tok.inf h
 unfold Program.cellsOf
 rw[h1]
 exact h2
def F0:Addr→Prop:=fun _=>False
theorem zG {z:Nat}{us:List Value}{Good:List E→Prop}:∀(n:Nat),us.length=n*z→(∀i,i<n→∃xs,Pw (dP W F0) xs ((us.drop (i*z)).take z)∧Good xs)→
  ∃ys,Pw (dP W F0) ys us∧ys.length=n*z∧∀i,i<n→Good ((ys.drop (i*z)).take z)
 |0,hl,_=>⟨[],by rw[g5] at hl;rw[rm hl];exact Pw.nil,by simp,fun i h=>absurd h (qP _)⟩
 |n+1,hl,h=>by
  rw[qQ] at hl
  have bX:(us.take (n*z)).length=n*z:=by rw[ey];omega
  obtain⟨ys,h1,h2,h3⟩:=zG (us:=us.take (n*z)) n bX fun i hi=>by
   obtain⟨xs,g1,g2⟩:=h i (by omega)
   have hm:i*z+z≤n*z:=by rw[←qQ];exact dx _ hi
   refine⟨xs,?_,g2⟩
   rw[List.drop_take,List.take_take,rL (by omega)]
   exact g1
  obtain⟨xs,g1,g2⟩:=h n (by omega)
  have hx:xs.length=z:=by rw[g1.1,ey,fB];omega
  refine⟨ys++xs,?_,by rw[cR,h2,hx,qQ],fun i hi=>?_⟩
  ·have e:us=us.take (n*z)++(us.drop (n*z)).take z:=by
    rw[g6 (l:=us.drop (n*z)) (by rw[fB];omega),wA]
   rw[e]
   exact h1.append g1
  ·rcases gW i n with DN|DN
   ·have hm:i*z+z≤n*z:=by rw[←qQ];exact dx _ DN
    rw[List.drop_append_of_le_length (by omega),yk (by rw[fB];omega)]
    exact h3 i DN
   ·obtain rfl:i=n:=by omega
    rw[List.drop_append,h2,Nat.sub_self,Ar (by omega)]
    simp only[pR,mU]
    rw[g6 (by omega)]
    exact g2
theorem vE(tok:TOk P tb):∀(k:Nat) (fuel:Nat) (t:TypeId) (cs:List Value) (x:DataW H×List MemPlace),Ff tb k t=true→DataW.trod enc P W base sp hd fuel t cs=some x→∃xs,Pw (dP W F0) xs cs∧wtE tb k t xs
 |0,_,_,_,_,h,_=>by cases h
 |k+1,fuel,t,cs,x,hok,h=>by
  unfold Ff at hok
  cases ht:tb t with
  |none=>rw[ht] at hok;cases hok
  |some i=>
   rw[ht] at hok
   dsimp only at hok
   cases jy:i.ty with
   |int kd=>
    rw[jy] at hok
    have hz:i.size=1:=by simpa using hok
    obtain⟨n,rfl,_,hw⟩:=DataW.trod_int (tok.int ht jy) h
    exact⟨[.lit (.int kd n)],Pw.cons (.lit _ rfl) Pw.nil,i,ht,by rw[hz];rfl,by rw[jy];exact⟨n,rfl,hw⟩⟩
   |bool=>
    rw[jy] at hok
    have hz:i.size=1:=by simpa using hok
    obtain⟨dd,B5,B1⟩:=tok.und ht
    rw[jy] at B1
    have hb:P.underlying t=some .bool:=by cases dd <;> simp[Ty.of] at B1;exact B5
    obtain⟨b,rfl,_⟩:=DataW.trod_bool hb h
    exact⟨[.lit (.bool b)],Pw.cons (.lit _ rfl) Pw.nil,i,ht,by rw[hz];rfl,by rw[jy];exact⟨b,rfl⟩⟩
   |str=>
    rw[jy] at hok
    have hz:i.size=1:=by simpa using hok
    obtain⟨s,rfl,_,hs⟩:=DataW.trod_string (tok.str ht jy) h
    exact⟨[.lit (.string s)],Pw.cons (.lit _ rfl) Pw.nil,i,ht,by rw[hz];rfl,by rw[jy];exact⟨s,rfl,hs⟩⟩
   |slice e=>
    rw[jy] at hok
    dsimp only at hok
    cases he:tb e with
    |none=>rw[he] at hok;simp at hok
    |some j=>
     rw[he] at hok
     simp only[bq,beq_iff_eq,rl] at hok
     obtain⟨⟨hz,hoe⟩,FD⟩:=hok
     have hce:=tok.cells he
     rcases open_slice (tok.slice ht jy) h with⟨rfl,_⟩|⟨a,len,cap,m,n,D,Pl,rfl,hb,hlc,oo,hm,_,hi⟩
     ·exact⟨[.sl j.size 0 []],Pw.cons (.sl _ 0 [] none 0 (fun _=>undef) (by simp) FD (aB _) (cQ _) (fun h=>absurd h (Nat.lt_irrefl _)) (fun _ h=>by cases h) (fun _ _ h=>by simp at h)) Pw.nil,
       i,ht,by rw[hz];rfl,by rw[jy];exact⟨j,0,[],he,rfl,by simp,cQ _,fun i h=>absurd h (qP _)⟩⟩
     ·have hle:len≤m:=by rw[hm];split <;> omega
      rw[hce] at hi
      let us:List Value:=(List.range (len*j.size)).map fun q=>(W.cell? (a.add q)).getD undef
      have Ka:us.length=len*j.size:=by simp[us]
      have hu:∀q,q<len*j.size→us[q]? =some ((W.cell? (a.add q)).getD undef):=fun q hq=>by simp[us,hq]
      have Ou:∀i,i<len→∃uZ,W.cells? base (a.add (i*j.size)) j.size=some uZ∧uZ=(us.drop (i*j.size)).take j.size:=by
       intro i xa
       obtain⟨uZ,hc,_⟩:=hi i (by omega)
       obtain⟨_,sU,B7⟩:=World.cells?_some hc
       refine⟨uZ,hc,List.ext_getElem? fun q=>?_⟩
       have Oi:i*j.size+j.size≤len*j.size:=by rw[←qQ];exact dx _ xa
       rw[gM,nA]
       split
       ·rename_i hq
        have h1:=B7 q hq
        rw[oY] at h1
        rw[hu _ (by omega),h1]
        rw[c0 (by omega)];rfl
       ·rename_i hq
        rw[qL (by omega)]
      obtain⟨ys,J7,BR,hy3⟩:=zG (W:=W) (us:=us) (z:=j.size) (Good:=wtE tb k e) len Ka fun i xa=>by
       obtain⟨uZ,hc,hcs'⟩:=Ou i xa
       obtain⟨cs2,ml,htr⟩:=hi i (by omega)
       rw[hc] at ml
       injection ml with ml
       subst ml
       rw[←hcs']
       exact vE tok k _ e uZ _ hoe htr
      have Ai:∀q v,us[q]? =some v→W.cell? (a.add q)=some v:=by
       intro q v hv
       have hq:q<len*j.size:=by
        rcases gW q us.length with h|h
        ·omega
        ·rw[qL h] at hv;cases hv
       -- the cell lies in a chunk
       have hqd:q / j.size<len:=Nat.div_lt_of_lt_mul (by rw[cZ];exact hq)
       obtain⟨uZ,hc,hcs'⟩:=Ou (q / j.size) hqd
       obtain⟨_,sU,B7⟩:=World.cells?_some hc
       have h1:=B7 (q % j.size) (eE _ FD)
       rw[oY,cZ,lx] at h1
       rw[hu q hq] at hv
       injection hv with hv
       rw[h1] at hv
       rw[h1,c0 (by have:=eE q FD;omega)] at*
       simp only[u5] at hv
       rw[hv]
      refine⟨[.sl j.size len ys],Pw.cons (.sl _ len ys (some a) cap (fun q=>us.getD q undef) BR FD hlc oo (fun hpl=>⟨a,rfl,?_⟩) (fun ad Ml q y hq=>?_) (fun q y hq=>?_)) Pw.nil,i,ht,by rw[hz];rfl,by rw[jy];exact⟨j,len,ys,he,rfl,BR,ez hlc oo,hy3⟩⟩
      ·have h0:0<len*j.size:=wC hpl FD
       have:=World.block_lt_of_cell? W _ (Ai 0 _ (hu 0 h0))
       rwa[gl] at this
      ·injection Ml with Ml
       subst Ml
       obtain⟨v,hv,_⟩:=J7.get hq
       refine⟨?_,fun hf=>hf⟩
       rw[Ai q v hv,List.getD,hv];rfl
      ·obtain⟨v,hv,hr⟩:=J7.get hq
       rw[List.getD,hv]
       exact hr
   |other=>rw[jy] at hok;cases hok
   |struct fs=>
    rw[jy] at hok
    dsimp only at hok
    obtain⟨fields,hf,Gr⟩:=tok.struct ht jy
    obtain⟨xs,n,_,_,sU,Ad,kR⟩:=DataW.trod_struct hf h
    rw[tok.cells ht] at sU
    have key:∀(l:List Field) (off:Nat),(∀f∈l,∃x,DataW.trod enc P W base sp hd n f.type ((cs.drop f.offset).take (P.cellsOf f.type))=some x)→off≤cs.length→Bp tb (Ff tb k) (l.map fun f=>(f.offset,f.type)) off i.size=true→
      ∃ys,Pw (dP W F0) ys (cs.drop off)∧wtFs tb (wtE tb k) (l.map fun f=>(f.offset,f.type)) ys:=by
     intro l
     induction l with
     |nil=>
      intro off _ ho wo
      have:off=i.size:=by simpa[Bp] using wo
      exact⟨[],by rw[Ar (by omega)];exact Pw.nil,rfl⟩
     |cons f l ih=>
      intro off hl ho wo
      simp only[dJ,Bp,bq,beq_iff_eq] at wo
      obtain⟨⟨hof,AF⟩,wo⟩:=wo
      cases hj:tb f.type with
      |none=>rw[hj] at wo;cases wo
      |some j=>
       rw[hj] at wo
       dsimp only at wo
       obtain⟨x,hx⟩:=hl f (pS ..)
       rw[tok.cells hj,hof] at hx
       obtain⟨zs,IN,hz2⟩:=vE tok k _ f.type _ _ AF hx
       have hzl:zs.length=j.size:=by
        cases k with
        |zero=>cases hz2
        |succ k=>
         obtain⟨j',FE,Lv,_⟩:=hz2
         rw[hj] at FE
         injection FE with FE
         subst FE
         exact Lv
       have hlen:off+j.size≤cs.length:=by
        have:=IN.1
        rw[hzl,ey,fB] at this
        omega
       obtain⟨ys,J7,BR⟩:=ih (off+j.size) (fun g hg=>hl g (ox _ hg)) hlen wo
       refine⟨zs++ys,?_,j,hj,by rw[cR];omega,?_,?_⟩
       ·have e:cs.drop off=(cs.drop off).take j.size++cs.drop (off+j.size):=by
         rw[←pQ,wA]
        rw[e]
        exact IN.append J7
       ·rw[yk (by omega),g6 (by omega)]
        exact hz2
       ·rw[List.drop_append_of_le_length (by omega),Ar (by omega)]
        exact BR
    obtain⟨ys,J7,BR⟩:=key fields.toList 0 (fun f hfm=>by
     obtain⟨q,hq⟩:=yn hfm
     have hq':fields[q]? =some f:=by simpa using hq
     have bX:q<xs.length:=by rw[Ad];exact (n8.1 hq').1
     exact⟨xs[q],by rw[kR q f hq',c0 bX]⟩) (cQ _) (by rw[Gr];exact hok)
    rw[pR] at J7
    exact⟨ys,J7,i,ht,by rw[J7.1,sU],by rw[jy];rw[Gr] at BR;exact BR⟩
   |arr n e=>
    rw[jy] at hok
    dsimp only at hok
    cases he:tb e with
    |none=>rw[he] at hok;simp at hok
    |some j=>
     rw[he] at hok
     simp only[bq,beq_iff_eq] at hok
     obtain⟨hoe,hz⟩:=hok
     obtain⟨xs,m,_,_,sU,Ad,kR⟩:=DataW.trod_array (tok.arr ht jy) h
     rw[tok.cells ht] at sU
     rw[tok.cells he] at kR
     obtain⟨ys,J7,BR,hy3⟩:=zG (W:=W) (us:=cs) (z:=j.size) (Good:=wtE tb k e) n (by rw[sU,hz]) fun q hq=>by
      have hq':=kR q hq
      rw[c0 (by omega)] at hq'
      exact vE tok k _ e _ _ hoe hq'
     exact⟨ys,J7,i,ht,by rw[J7.1,sU],by rw[jy];exact⟨j,he,BR,hy3⟩⟩
def argD(g:Bool)(xs:List E):D:=match g with
 |true=>.ag (xs.map D.e)
 |false=>.e (xs.headD .any)
theorem arg_rep(tok:TOk P tb){k:Nat}{t:TypeId}{i:TyE}{v:Value}{d:DataW H}{p:List MemPlace}{r:Reach}{b0:Nat}(hok:Ff tb k t=true)(ht:tb t=some i)(tp:Value.okWide P W r b0 t v)(h:DataW.Trod enc P W base sp hd t v d p):
  ∃xs,wtE tb k t xs∧lz W F0 (argD i.ty.agg xs) v:=by
 obtain⟨fuel,hf⟩:=h
 obtain⟨xs,hx,hw⟩:=vE tok k fuel t _ _ hok hf
 refine⟨xs,hw,?_⟩
 have one:v.cells=#[v]→lz W F0 (.e (xs.headD .any)) v:=by
  intro hv
  rw[hv] at hx
  cases xs with
  |nil=>have:=hx.1;simp at this
  |cons y ys=>exact aO.e _ _ (hx.2 0 y v rfl rfl)
 have agg:∀cs,v=.agg cs→lz W F0 (.ag (xs.map D.e)) v:=by
  rintro cs rfl
  have hx':Pw (dP W F0) xs cs.toList:=hx
  refine aO.ag _ cs (by simpa using hx'.1.symm) (fun j u hu=>?_) (fun j d u hd hu=>?_)
  ·have t0:cs.toList[j]? =some u:=by simpa using hu
   have bX:j<xs.length:=by
    rw[hx'.1]
    exact (fP.1 t0).1
   exact (hx'.2 j _ u (c0 bX) t0).one
  ·rw[ek] at hd
   cases hxj:xs[j]? with
   |none=>simp[hxj] at hd
   |some y=>
    simp only[hxj,nC,nB] at hd
    subst hd
    exact .e _ _ (hx'.2 j y u hxj (by simpa using hu))
 cases jy:i.ty with
 |int kd=>obtain⟨n,rfl⟩:=okWide_int (tok.int ht jy) tp;exact one rfl
 |bool=>
  obtain⟨dd,B5,B1⟩:=tok.und ht
  rw[jy] at B1
  have hb:P.underlying t=some .bool:=by cases dd <;> simp[Ty.of] at B1;exact B5
  obtain⟨b,rfl⟩:=okWide_bool hb tp
  exact one rfl
 |str=>obtain⟨s,rfl⟩:=okWide_string (tok.str ht jy) tp;exact one rfl
 |slice e=>obtain⟨a,l,c,rfl⟩:=okWide_slice (tok.slice ht jy) tp;exact one rfl
 |struct fs=>
  obtain⟨fields,hf,_⟩:=tok.struct ht jy
  obtain⟨cs,rfl,_⟩:=okWide_struct hf tp
  exact agg cs rfl
 |arr n e=>
  have ha:=tok.arr ht jy
  unfold Value.okWide at tp
  rw[ha] at tp
  obtain⟨cs,rfl,_⟩:=tp
  exact agg cs rfl
 |other=>
  cases k with
  |zero=>cases hok
  |succ k=>unfold Ff at hok;rw[ht] at hok;dsimp only at hok;rw[jy] at hok;cases hok
theorem says_of {f:FuncId}{ds:List D}{args:Array Value}(hc:ax P f ds (.e (.lit (.bool true))))(hsz:args.size=ds.length)(t5:∀(j:Nat) (d:D) (u:Value),ds[j]? =some d→args[j]? =some u→lz W F0 d u):
  Calls P f args W fun e w'=>e=.returned (.bool true)∧Below W.heap.size W w':=by
 refine (hc.2 W F0 args (fun _ h=>h.elim) hsz t5).mono ?_
 rintro e w' ⟨v,rfl,pg,hb⟩
 have hr:lz w' F0 (.e (.lit (.bool true))) v:=pg
 exact⟨by rw[aO.lit hr],hb⟩
theorem tx {α:Type}(cells:α→List E)(z:Nat)(good:α→Prop):∀(n:Nat) (ys:List E),ys.length=n*z→(∀i,i<n→∃a,(ys.drop (i*z)).take z=cells a∧good a)→∃l:List α,l.length=n∧ys=l.flatMap cells∧∀a∈l,good a
 |0,ys,hl,_=>⟨[],rfl,by rw[g5] at hl;rw[rm hl];rfl,by simp⟩
 |n+1,ys,hl,h=>by
  rw[qQ] at hl
  obtain⟨a,ha,hga⟩:=h 0 (Nat.succ_pos n)
  obtain⟨l,h1,h2,h3⟩:=tx cells z good n (ys.drop z) (by rw[fB];omega) fun i hi=>by
   have:=h (i+1) (by omega)
   rw[pQ,show z+i*z=(i+1)*z by rw[qQ];omega]
   exact this
  simp only[g5,pR] at ha
  refine⟨a::l,by simp[h1],?_,fun b hb=>?_⟩
  ·rw[qK,←ha,←h2,wA]
  ·rcases kj.1 hb with rfl|hb
   ·exact hga
   ·exact h3 b hb
end
end
section
def Rd(tb:TypeId→Option TyE)(t:TypeId)(d:Nat){α:Type}(c:Cd α)(W:α→Prop):Prop:=∀k xs,wtE tb (k+d) t xs→∃a,xs=c.f a∧W a
theorem Rd.up {tb:TypeId→Option TyE}{t:TypeId}{d:Nat}{α:Type}{c:Cd α}{W:α→Prop}(h:Rd tb t d c W)(m:Nat):Rd tb t (d+m) c W:=fun k xs h'=>h (k+m) xs (by rw[wb,pT m d];exact h')
def Wi(k:IntKind)(n:Int):Prop:=k.min≤n∧n≤k.max
section
variable {tb:TypeId→Option TyE} {t e:TypeId} {i j:TyE} {d:Nat} {α:Type} {c:Cd α} {W:α→Prop}
theorem rd_I {k:IntKind}(ht:tb t=some i)(hi:i.ty=.int k):Rd tb t 1 (cI k) (Wi k):=by
 intro n xs h
 obtain⟨i',h1,_,h⟩:=h
 rw[ht] at h1;cases h1
 rw[hi] at h
 obtain⟨m,h1,h2⟩:=h
 exact⟨m,h1,by unfold Wi;simpa[Lit.wf] using h2⟩
theorem rd_B(ht:tb t=some i)(hi:i.ty=.bool):Rd tb t 1 cB (fun _=>True):=by
 intro n xs h
 obtain⟨i',h1,_,h⟩:=h
 rw[ht] at h1;cases h1
 rw[hi] at h
 obtain⟨m,h1⟩:=h
 exact⟨m,h1,trivial⟩
theorem K5(ht:tb t=some i)(he:tb e=some j)(hc:Rd tb e d c W)(hi:i.ty=.slice e:=by exact rfl)(hz:c.sz=j.size:=by exact rfl):Rd tb t (d+1) (cL c) (fun l=>l.length≤maxLen∧∀a∈l,W a):=by
 intro n xs h
 obtain⟨i',h1,_,h⟩:=h
 rw[ht] at h1;cases h1
 rw[hi] at h
 obtain⟨j',m,ys,h1,h2,h3,h4,h5⟩:=h
 rw[he] at h1;cases h1
 obtain⟨l,h6,h7,h8⟩:=tx c.f j.size W m ys h3 fun i hi=>hc n _ (h5 i hi)
 refine⟨l,?_,by omega,h8⟩
 rw[h2,h7,←h6,←hz];rfl
theorem e7 {xs:List E}{n:Nat}{ys zs:List E}(h1:xs.take n=ys)(h2:xs.drop n=zs):xs=ys++zs:=by
 rw[←h1,←h2,wA]
theorem Jt {P:Program}{H:Type}{enc:TypeId×Value→H}{Wd:World}{sp:Nat→Bool}{hd:Bool}{base k:Nat}{v:Value}{dw:DataW H}{p:List MemPlace}{r:Reach}{b0:Nat}(tok:TOk P tb)(hok:Ff tb (k+d) t=true)(ht:tb t=some i)(hc:Rd tb t d c W)(tp:Value.okWide P Wd r b0 t v)(h:DataW.Trod enc P Wd base sp hd t v dw p):
  ∃a,lz Wd F0 (argD i.ty.agg (c.f a)) v∧W a:=by
 obtain⟨xs,h1,h2⟩:=arg_rep tok hok ht tp h
 obtain⟨a,rfl,h3⟩:=hc k xs h1
 exact⟨a,h2,h3⟩
end
end
theorem rd_A {tb:TypeId→Option TyE}{t e:TypeId}{i j:TyE}{d n:Nat}{α:Type}{c:Cd α}{W:α→Prop}(ht:tb t=some i)(he:tb e=some j)(hc:Rd tb e d c W)(hi:i.ty=.arr n e:=by exact rfl)(hz:c.sz=j.size:=by exact rfl):Rd tb t (d+1) (cA n c) (fun v=>∀a∈v.toList,W a):=by
 intro m xs h
 obtain⟨i',h1,_,h⟩:=h
 rw[ht] at h1;cases h1
 rw[hi] at h
 obtain⟨j',h1,h3,h5⟩:=h
 rw[he] at h1;cases h1
 obtain⟨l,h6,h7,h8⟩:=tx c.f j.size W n xs h3 fun i hi=>hc m _ (h5 i hi)
 exact⟨⟨l.toArray,by simpa using h6⟩,h7,h8⟩
def QR(x:aq):Prop:=(True∧True∧∀a∈x.vN.vW.toList,Wi .u32 a)∧(True∧True∧∀a∈x.vD.vW.toList,Wi .u32 a)
theorem Nc {x:av}(h:∀a∈x.vW.toList,Wi .u32 a):okI x:=fun j hj=>by
 have h2:=h x.vW[j]! (by rw[cz x.vW j hj];simp)
 exact⟨h2.1,by have:x.vW[j]!≤4294967295:=h2.2;omega⟩
theorem okR_of {x:aq}(h:QR x):okR x:=⟨Nc h.1.2.2,Nc h.2.2.2⟩
def QL(l:List aq):Prop:=l.length≤maxLen∧∀x∈l,QR x
theorem QL.nu {l:List aq}(h:QL l):l=(l.map mJ).map nv∧(l.map mJ).length≤9223372036854775807:=by
 refine⟨(sm fun x hx=>okR_of (h.2 x hx)).symm,?_⟩
 rw[bT]
 exact ez h.1 (by decide)
def ansN(a:bW):Ans:=⟨a.vKind,a.vX.map mJ,a.vY.map mJ,a.vRay.map mJ⟩
theorem Bd {a:bW}(h1:QL a.vX)(h2:QL a.vY)(h3:QL a.vRay):a=qf (ansN a)∧yD (ansN a):=by
 obtain⟨k,x,y,r⟩:=a
 refine⟨?_,h1.nu.2,h2.nu.2,h3.nu.2⟩
 unfold qf ansN
 dsimp only at h1 h2 h3 ⊢
 rw[←h1.nu.1,←h2.nu.1,←h3.nu.1]
theorem Qe {p:bY}{a b:bW}(hV:QL p.vA.vV)(hB:QL p.vB)(hC:QL p.vC)(a1:QL a.vX)(a2:QL a.vY)(a3:QL a.vRay)(b1:QL b.vX)(b2:QL b.vY)(b3:QL b.vRay):d7 p a b=some true:=by
 obtain⟨⟨R,Cc,V⟩,B,C⟩:=p
 dsimp only at hV hB hC
 rw[(Bd a1 a2 a3).1,(Bd b1 b2 b3).1,hV.nu.1,hB.nu.1,hC.nu.1]
 exact G_agree hV.nu.2 hB.nu.2 hC.nu.2 (Bd a1 a2 a3).2 (Bd b1 b2 b3).2
section
open Go.ChangeShapes Go.WideShapes Go.ChangeAt Go.RowKit Go.ChangeMaps
namespace simplexAgree
theorem k0:(Rows.simplexAnswersAgreeRow.wf (OpenSpec.ofChange Rows.simplexAnswersAgreeSpec))=true:=by kernel_rfl
theorem k1:(laidOutB Tryz.prog)=true:=by kernel_rfl
theorem k2:(mapsRowed Tryz.prog)=true:=by kernel_rfl
theorem k3:(Tryz.f7.params.all (Tryz.prog.readableRec ·))=true:=by kernel_rfl
theorem k4:(namedTie Tryz.prog Rows.simplexAnswersAgreeRow.named Rows.simplexAnswersAgreeSpec.vars)=true:=by kernel_rfl
theorem k5:((Rows.simplexAnswersAgreeRow.stops == []))=true:=by kernel_rfl
theorem k6:((Tryz.prog.stops == []))=true:=by kernel_rfl
theorem k7:((Rows.simplexAnswersAgreeRow.knobs == []))=true:=by kernel_rfl
theorem k8:((Tryz.prog.stopKnobs == []))=true:=by kernel_rfl
theorem k9:((Rows.simplexAnswersAgreeRow.inPlace == Tryz.prog.inPlace 7))=true:=by kernel_rfl
theorem k10:((Rows.simplexAnswersAgreeRow.unfollowed == Tryz.prog.unfollowed 7))=true:=by kernel_rfl
theorem k11:((Rows.simplexAnswersAgreeRow.recurses == Tryz.prog.recurses 7))=true:=by kernel_rfl
theorem k12:((Rows.simplexAnswersAgreeRow.named == Tryz.prog.varsNamed 7))=true:=by kernel_rfl
theorem k13:((Rows.simplexAnswersAgreeRow.maps == (Tryz.f7.params.toList++Rows.simplexAnswersAgreeSpec.plain.varTypes Tryz.prog).any (Tryz.prog.mapsRec ·)))=true:=by kernel_rfl
theorem k14:((Rows.simplexAnswersAgreeRow.ifaces == (Tryz.f7.params.toList++Rows.simplexAnswersAgreeSpec.plain.varTypes Tryz.prog).any (Tryz.prog.ifacesRec ·)))=true:=by kernel_rfl
theorem k15:((Rows.simplexAnswersAgreeRow.mapsOut == Tryz.prog.mapsAmong Tryz.f7.resultTypes.toList))=true:=by kernel_rfl
theorem k16:((Rows.simplexAnswersAgreeRow.loops == (Tryz.f7.params.toList++Rows.simplexAnswersAgreeSpec.plain.varTypes Tryz.prog).any (Tryz.prog.loopsFrom ·)))=true:=by kernel_rfl
theorem k17:((Rows.simplexAnswersAgreeRow.wideKeys == (Tryz.f7.params.toList++Rows.simplexAnswersAgreeSpec.plain.varTypes Tryz.prog++Tryz.f7.resultTypes.toList).any (Tryz.prog.wideKeysFrom ·)))=true:=by kernel_rfl
theorem k18:(Rows.simplexAnswersAgreeSpec.vars.all (Tryz.prog.varReadable ·))=true:=by kernel_rfl
theorem k19:(Tryz.f7.resultTypes.all (fun t=>Tryz.prog.readableRec t&&decide (t<Tryz.prog.types.size)))=true:=by kernel_rfl
theorem k20:((Rows.simplexAnswersAgreeRow.ifacesOut == Tryz.f7.resultTypes.toList.any (Tryz.prog.ifacesRec ·)))=true:=by kernel_rfl
theorem k21:((Rows.simplexAnswersAgreeRow.loopsOut == Tryz.f7.resultTypes.toList.any (Tryz.prog.loopsFrom ·)))=true:=by kernel_rfl
theorem k22:((Rows.simplexAnswersAgreeRow.plainKeys == Tryz.prog.plainKeys))=true:=by kernel_rfl
theorem k23:(Rows.simplexAnswersAgreeRow.shortTexts.isNone)=true:=by kernel_rfl
theorem k24:(Tryz.prog.stopsHeard)=true:=by kernel_rfl
theorem k25:(Tryz.prog.mayEnter)=true:=by kernel_rfl
theorem k26:((Rows.simplexAnswersAgreeRow.lifted == Tryz.prog.liftsFinal))=true:=by kernel_rfl
theorem k27:((Tryz.prog.make == some Rows.simplexAnswersAgreeRow.make))=true:=by kernel_rfl
theorem k28:((Rows.simplexAnswersAgreeRow.kinds == (if Rows.simplexAnswersAgreeRow.domain.isEmpty then [] else Tryz.f7.params.toList.map fun t=>match Tryz.prog.underlying t with|some (.int k)=>some k|_=>none)))=true:=by kernel_rfl
theorem k29:((Rows.simplexAnswersAgreeRow.pinned == Rows.simplexAnswersAgreeRow.pinnedBy))=true:=by kernel_rfl
theorem k30:((Rows.simplexAnswersAgreeRow.veiled == (Tryz.f7.params.toList++Rows.simplexAnswersAgreeSpec.plain.varTypes Tryz.prog++Tryz.f7.resultTypes.toList).any (Tryz.prog.veiledRec ·)))=true:=by kernel_rfl
theorem k31:(Rows.simplexAnswersAgreeRow.veiledFits Tryz.prog Tryz.f7.params.toList (Tryz.f7.params.toList++Rows.simplexAnswersAgreeSpec.plain.varTypes Tryz.prog++Tryz.f7.resultTypes.toList))=true:=by kernel_rfl
theorem nj {a b:Bool}(h:a=true)(h2:b=true):(a&&b)=true:=by rw[h,h2];rfl
theorem closed:joinedFacts Tryz.prog 7 Tryz.f7 Rows.simplexAnswersAgreeSpec Rows.simplexAnswersAgreeRow=true:=by
 delta joinedFacts
 exact nj (nj (nj (nj (nj (nj (nj (nj (nj (nj (nj (nj (nj (nj (nj (nj (nj (nj (nj (nj (nj (nj (nj (nj (nj (nj (nj (nj (nj (nj (nj k0 k1) k2) k3) k4) k5) k6) k7) k8) k9) k10) k11) k12) k13) k14) k15) k16) k17) k18) k19) k20) k21) k22) k23) k24) k25) k26) k27) k28) k29) k30) k31
end simplexAgree
end
end
end Go.Proofs.YtaedcknhkjpmlaaGreat
