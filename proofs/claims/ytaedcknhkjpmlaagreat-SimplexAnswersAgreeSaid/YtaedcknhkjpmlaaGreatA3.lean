/-
  Lemmas, part 3. Conditions: none.
-/
import Derived.Test.YtaedcknhkjpmlaaGreatA2
set_option linter.all false
set_option maxRecDepth 100000
namespace Go.Proofs.YtaedcknhkjpmlaaGreat
open Go.RowKit Go.IntKind
noncomputable section
def iW(aN:av)(aV:av)(x8:Int)(bx:Int):Int×Int×(Vector Int 32)→Option ((Int×Int×(Vector Int 32))⊕(Int×(Vector Int 32))):=fun (EK,mW,yw)=>cnd (decide (mW<x8)) (gd (0≤bx∧bx<16) (gd (0≤mW∧mW<16) (gd (0≤i64.wrap (bx+mW)∧i64.wrap (bx+mW)<32) (bnd (some (u64.wrap (EK+(u64.wrap ((u64.wrap ((u64.wrap ((aN.vW)[(bx).toNat]!))*(u64.wrap ((aV.vW)[(mW).toNat]!))))+(u64.wrap ((yw)[(i64.wrap (bx+mW)).toNat]!))))))) fun q9=>gd (0≤i64.wrap (bx+mW)∧i64.wrap (bx+mW)<32) (bnd (some ((yw).set! (i64.wrap (bx+mW)).toNat (u32.wrap (q9)))) fun yE=>some (.inl (lX .u64 q9 (32:Int),i64.wrap (mW+(1:Int)),yE))))))) (some (.inr (EK,yw)))
def iX(aN:av)(aV:av)(x6:Int)(x8:Int):Int×(Vector Int 32)→Option ((Int×(Vector Int 32))⊕((Vector Int 32))):=fun (bx,lb)=>cnd (decide (bx<x6)) (bnd (bS (iW aN aV x8 bx) ((0:Int),(0:Int),lb)) fun (vJ,vI)=>gd (0≤i64.wrap (bx+x8)∧i64.wrap (bx+x8)<32) (bnd (some ((vI).set! (i64.wrap (bx+x8)).toNat (u32.wrap (vJ)))) fun xu=>some (.inl (i64.wrap (bx+(1:Int)),xu)))) (some (.inr lb))
def jj(aN:av)(aV:av):Option av:=bnd (cO [aN,aV]) fun x1=>cnd (!x1) (bnd (eN) fun x4=>some x4) (bnd (eZ aN.vW) fun x6=>bnd (eZ aV.vW) fun x8=>bnd (bS (iX aN aV x6 x8) ((0:Int),(Vector.replicate 32 (0:Int)))) fun eI=>cnd (decide (¬(vOf 16 (List.take 16 (List.drop 16 (eI).toList))=#v[(0:Int),0,0,0,0,0,0,0,0,0,0,0,0,0,0,0]))) (bnd (eN) fun AQ=>some AQ) (bnd (bV (!(aN.vNeg == aV.vNeg)) (vOf 16 (List.take 16 (List.drop 0 (eI).toList)))) fun EV=>some EV))
set_option maxHeartbeats 4000000 in
theorem lP {aN:av}{aV:av}{r:av}(h:jj aN aV=some r):ax Tryz.prog 94 [dG aj aN,dG aj aV] (dG aj r):=by
 refine bE (rs:=[.cell 4 41]) (fun cx hx h0=>?_) Tryz.func94
 unfold jj at h
 refine rs hx fun K hK=>?_
 iterate 2 refine sa ?_
 refine s1 (bm (F:=aj.f be) ap) ?_
 refine .nil (hK _ _ (AW.seq (rs hx fun K hK=>?_)))
 refine s1 (d:=dG aj aN) (au (am.id _ _) ap) ?_
 refine s1 (d:=dG aj aV) (au (am.id _ _) ap) ?_
 refine s1 (kP ([aN,aV]:List av) aj oJ ap) ?_
 refine scb h ff fun x1 h=>?_
 refine sa ?_
 refine .nil (hK _ _ (cdh h rfl (fun bb h=>?_) (fun bb h=>?_)))
 refine rs hx fun K hK=>?_
 refine scb h ib fun x4 h=>?_
 refine s0 (aE (b':=x4) (am.id _ _) ap) ?_
 refine .nil (hK _ _ (AW.ret ?_))
 cases h
 exact rv1
 refine AW.skip (rs hx fun K hK=>?_)
 refine s1 (bm (F:=(cA 32 (cI .u32)).f (Vector.replicate 32 (0:Int))) wV) ?_
 refine .nil (hK _ _ (rsd [148] hx fun K hK=>?_))
 refine sa ?_
 refine s1 (au (aT aN) aA) ?_
 refine cqb h kr fun x6 h=>?_
 refine sa ?_
 refine s1 (au (aT aV) aA) ?_
 refine cqb h kr fun x8 h=>?_
 iterate 2 refine sa ?_
 refine .nil (hK _ _ (AW.seq (ra hx ?_)))
 refine AW.block ?_
 obtain⟨eI,hy,h⟩:=ab h
 refine lp (S:=Int×(Vector Int 32)) (X:=(Vector Int 32)) (fun (bx,lb)=>[(2,.pt 0 0),(3,.pt 1 0),(4,.pt 2 0),(5,.pt 3 0),(7,dI .i64 x8),(23,dI .i64 x6),(24,dI .i64 bx)]) (fun (bx,lb)=>⟨[(0,dC (aj.f aN)),(1,dC (aj.f aV)),(2,dC (aj.f be)),(3,dC ((cA 32 (cI .u32)).f lb))],[],4⟩) (PE cx (.exit 0) (fun eI=>[(2,.pt 0 0),(3,.pt 1 0),(4,.pt 2 0),(5,.pt 3 0)]) fun eI=>⟨[(0,dC (aj.f aN)),(1,dC (aj.f aV)),(2,dC (aj.f be)),(3,dC ((cA 32 (cI .u32)).f eI))],[],4⟩) hy ?_ ?_ ?_
 exact wk h0 [0,1,2,4] (wR rfl (wR rfl (wR rfl (wR rfl (wR rfl (wR rfl (wR rfl wTn))))))) (vC rfl (vC rfl (vC rfl (vC rfl wVn)))) wLn
 clear hy h
 rintro⟨bx,lb⟩ y h
 dsimp only[iX] at h
 refine ra hx ?_
 refine AW.seq (cdh h rfl (fun dM h=>?_) (fun dM h=>?_))
 refine AW.skip (AW.seq (AW.block ?_))
 iterate 2 refine ra hx ?_
 refine AW.seq (ra hx ?_)
 refine AW.block ?_
 obtain⟨y,hy,h⟩:=ab h
 refine lp (S:=Int×Int×(Vector Int 32)) (X:=Int×(Vector Int 32)) (fun (EK,mW,yw)=>[(2,.pt 0 0),(3,.pt 1 0),(4,.pt 2 0),(5,.pt 3 0),(7,dI .i64 x8),(8,dI .i64 bx),(9,dI .u64 EK),(23,dI .i64 x6),(24,dI .i64 bx),(27,dI .i64 x8),(28,dI .i64 mW)]) (fun (EK,mW,yw)=>⟨[(0,dC (aj.f aN)),(1,dC (aj.f aV)),(2,dC (aj.f be)),(3,dC ((cA 32 (cI .u32)).f yw))],[],4⟩) (PE cx (.exit 2) (fun (vJ,vI)=>[(2,.pt 0 0),(3,.pt 1 0),(4,.pt 2 0),(5,.pt 3 0),(7,dI .i64 x8),(8,dI .i64 bx),(9,dI .u64 vJ),(23,dI .i64 x6),(24,dI .i64 bx)]) fun (vJ,vI)=>⟨[(0,dC (aj.f aN)),(1,dC (aj.f aV)),(2,dC (aj.f be)),(3,dC ((cA 32 (cI .u32)).f vI))],[],4⟩) hy ?_ ?_ ?_
 exact wk h0 [0,1,2,3] (wR rfl (wR rfl (wR rfl (wR rfl (wR rfl (wR rfl (wR rfl (wR rfl (wR rfl (wR rfl (wR rfl wTn))))))))))) (vC rfl (vC rfl (vC rfl (vC rfl wVn)))) wLn
 clear hy h
 rintro⟨EK,mW,yw⟩ y h
 dsimp only[iW] at h
 refine ra hx ?_
 refine AW.seq (cdh h rfl (fun na h=>?_) (fun na h=>?_))
 refine AW.skip (AW.seq (AW.block (ra hx ?_)))
 refine rsd [] hx fun K hK=>?_
 iterate 3 refine sa ?_
 obtain⟨I7,h⟩:=aC h
 have FB:(bx).toNat<16:=by omega
 refine s1 (cJ I7 aA aG) ?_
 refine s1 (aW (am.comp (aT aN) (am.vec (cI .u32) aN.vW (bx).toNat FB) (fun _=>rfl)) aG) ?_
 iterate 3 refine sa ?_
 obtain⟨hc14,h⟩:=aC h
 have Ob:(mW).toNat<16:=by omega
 refine s1 (cJ hc14 aA aG) ?_
 refine s1 (aW (am.comp (aT aV) (am.vec (cI .u32) aV.vW (mW).toNat Ob) (fun _=>rfl)) aG) ?_
 iterate 5 refine sa ?_
 obtain⟨Hj,h⟩:=aC h
 have I0:(i64.wrap (bx+mW)).toNat<32:=by omega
 refine s1 (cJ Hj wV aG) ?_
 refine s1 (aW (am.comp (am.id _ _) (am.vec (cI .u32) yw (i64.wrap (bx+mW)).toNat I0) (fun _=>rfl)) aG) ?_
 iterate 3 refine sa ?_
 obtain⟨q9,zu,h⟩:=ab h
 replace zu:=bQ zu
 refine s2 (d2:=dI .u64 q9) ly (gq (congrArg (dI .u64) zu)) ?_
 refine .nil (hK _ _ (rs hx fun K hK=>?_))
 iterate 5 refine sa ?_
 obtain⟨Lz,h⟩:=aC h
 have Oa:(i64.wrap (bx+mW)).toNat<32:=by omega
 refine s1 (cJ Lz wV aG) ?_
 obtain⟨yE,IR,h⟩:=ab h
 replace IR:=bQ IR
 refine s0 (nk (b':=u32.wrap (q9)) (am.comp (am.id _ _) (am.vec (cI .u32) yw (i64.wrap (bx+mW)).toNat Oa) (fun _=>rfl)) aG IR) ?_
 refine .nil (hK _ _ ?_)
 iterate 2 refine rb hx ?_
 cases h
 exact PS.l (pe0 h0 [0,1,2,3])
 refine AW.exit ?_
 try dsimp only
 try simp only[aU,reduceIte,Nat.reduceEqDiff,reduceCtorEq]
 cases h
 exact PS.r ⟨by nofun,PE.i (wk h0 [0,1,2,3] (wR rfl (wR rfl (wR rfl (wR rfl (wR rfl (wR rfl (wR rfl (wR rfl (wR rfl wTn))))))))) (vC rfl (vC rfl (vC rfl (vC rfl wVn)))) wLn)⟩
 obtain⟨vJ,vI⟩:=y
 rintro ex tm' hp' ⟨rfl,hw⟩
 try dsimp only
 try simp only[aU,reduceIte,Nat.reduceEqDiff,reduceCtorEq]
 refine AW.weak hw (rq hx fun K hK=>?_)
 iterate 5 refine sa ?_
 obtain⟨hc25,h⟩:=aC h
 have hn26:(i64.wrap (bx+x8)).toNat<32:=by omega
 refine s1 (cJ hc25 wV aG) ?_
 obtain⟨xu,BS,h⟩:=ab h
 replace BS:=bQ BS
 refine s0 (nk (b':=u32.wrap (vJ)) (am.comp (am.id _ _) (am.vec (cI .u32) vI (i64.wrap (bx+x8)).toNat hn26) (fun _=>rfl)) aG BS) ?_
 refine .nil (hK _ _ (rb hx ?_))
 cases h
 exact PS.l (pe0 h0 [0,1,2,3])
 refine AW.exit ?_
 try dsimp only
 try simp only[aU,reduceIte,Nat.reduceEqDiff,reduceCtorEq]
 cases h
 exact PS.r ⟨by nofun,PE.i (wk h0 [0,1,2,3] (wR rfl (wR rfl (wR rfl (wR rfl wTn)))) (vC rfl (vC rfl (vC rfl (vC rfl wVn)))) wLn)⟩
 rintro ex tm' hp' ⟨rfl,hw⟩
 try dsimp only
 try simp only[aU,reduceIte,Nat.reduceEqDiff,reduceCtorEq]
 refine AW.weak hw (AW.seq (rs hx fun K hK=>?_))
 refine q1 (slA (n:=32) (l:=(16:Int)) (h:=(32:Int)) tok (by decide) wV aG ⟨_,rfl⟩ rfl) ?_
 refine q1 (sPtr tok rfl aA) ?_
 refine s1 (d:=dG (cA 16 (cI .u32)) (vOf 16 (List.take 16 (List.drop 16 (eI).toList)))) (au (am.sub (o:=16) 16 (cI .u32) eI 16 (by decide) (by first|rfl|decide)) aA) ?_
 refine s1 (d:=dG (cA 16 (cI .u32)) (#v[(0:Int),0,0,0,0,0,0,0,0,0,0,0,0,0,0,0])) (mj aA aG) ?_
 refine s1 (CV tok 2 (by decide) (EqC.arr (EqC.int (d:=0) aG) aA aG) aA) ?_
 refine .nil (hK _ _ (cdh h rfl (fun Oy h=>?_) (fun Oy h=>?_)))
 refine rs hx fun K hK=>?_
 refine scb h ib fun AQ h=>?_
 refine s0 (aE (b':=AQ) (am.id _ _) ap) ?_
 refine .nil (hK _ _ (AW.ret ?_))
 cases h
 exact rv1
 refine AW.skip (rsd [145] hx fun K hK=>?_)
 refine sa ?_
 refine s1 (aW (aR aN) eY) ?_
 refine sa ?_
 refine s1 (aW (aR aV) eY) ?_
 refine sa ?_
 refine q1 (slA (n:=32) (l:=(0:Int)) (h:=(16:Int)) tok (by decide) wV aG rfl ⟨_,rfl⟩) ?_
 refine q1 (sPtr tok rfl aA) ?_
 refine s1 (d:=dG (cA 16 (cI .u32)) (vOf 16 (List.take 16 (List.drop 0 (eI).toList)))) (au (am.sub (o:=0) 16 (cI .u32) eI 0 (by decide) (by first|rfl|decide)) aA) ?_
 obtain⟨EV,Ln,h⟩:=ab h
 refine sq tok (dQ Ln) (by simp only[dJ,eD,cH,bP,bB,bq];exact⟨rfl,aI _ _⟩) (lA (ao _) (lA (cD _ _) lAn)) (.inl (g9 _ _)) ?_
 refine s0 (aE (b':=EV) (am.id _ _) ap) ?_
 refine .nil (hK _ _ (AW.ret ?_))
 cases h
 exact rv1
def fO(aY:Int):Option Int:=bnd (mw aY) fun x1=>some (i64.wrap ((32:Int) - x1))
theorem uc {aY:Int}{r:Int}(h:fO aY=some r):ax Tryz.prog 188 [dI .u32 aY] (dI .i64 r):=by
 refine bE (rs:=[.tmp 2]) (fun cx hx h0=>?_) Tryz.func188
 unfold fO at h
 refine ra hx ?_
 refine rs hx fun K hK=>?_
 refine sa ?_
 refine scb h xH fun x1 h=>?_
 iterate 2 refine sa ?_
 refine .nil (hK _ _ (AW.ret ?_))
 cases h
 exact rv1
def jC(xR:Vector Int 16)(cG:Int)(kC:Int)(m9:Vector Int 17)(x9:Int):Int×Int→Option ((Int×Int)⊕Int):=fun (dK,bF)=>bnd (S:=Bool) (cnd (decide (bF<(4294967296:Int))) (cnd (decide ((4294967296:Int)≤dK)) (some (true)) (gd (0≤i64.wrap (cG - (2:Int))∧i64.wrap (cG - (2:Int))<16) (gd (0≤i64.wrap ((i64.wrap (kC+cG)) - (2:Int))∧i64.wrap ((i64.wrap (kC+cG)) - (2:Int))<17) (some (decide ((ior .u64 (w7 .u64 bF (32:Int)) (u64.wrap ((m9)[(i64.wrap ((i64.wrap (kC+cG)) - (2:Int))).toNat]!)))<(u64.wrap (dK*(u64.wrap ((xR)[(i64.wrap (cG - (2:Int))).toNat]!)))))))))) (some (false))) fun d9=>cnd d9 (some (.inl (u64.wrap (dK - (1:Int)),u64.wrap (bF+x9)))) (some (.inr dK))
def iU(xR:Vector Int 16)(cG:Int)(kC:Int)(m9:Vector Int 17):Option Int:=gd (0≤i64.wrap (kC+cG)∧i64.wrap (kC+cG)<17) (gd (0≤i64.wrap ((i64.wrap (kC+cG)) - (1:Int))∧i64.wrap ((i64.wrap (kC+cG)) - (1:Int))<17) (bnd (some (ior .u64 (w7 .u64 (u64.wrap ((m9)[(i64.wrap (kC+cG)).toNat]!)) (32:Int)) (u64.wrap ((m9)[(i64.wrap ((i64.wrap (kC+cG)) - (1:Int))).toNat]!)))) fun x5=>gd (0≤i64.wrap (cG - (1:Int))∧i64.wrap (cG - (1:Int))<16) (bnd (some (u64.wrap ((xR)[(i64.wrap (cG - (1:Int))).toNat]!))) fun x9=>gd (x9≠0) (gd (x9≠0) (bnd (bS (jC xR cG kC m9 x9) (u64.wrap (Int.tdiv x5 x9),Int.tmod x5 x9)) fun cr=>some cr)))))
theorem Az {xR:Vector Int 16}{cG:Int}{kC:Int}{m9:Vector Int 17}{r:Int}(h:iU xR cG kC m9=some r):HC Tryz.prog 190 [.pt 0 0,dG (cA 16 (cI .u32)) xR,dI .i64 cG,dI .i64 kC] ⟨[(0,dC ((cA 17 (cI .u32)).f m9))],[],1⟩ (dI .u64 r) ⟨[(0,dC ((cA 17 (cI .u32)).f m9))],[],1⟩:=by
 refine HC.of (rs:=[.tmp 8]) tok Tryz.func190 rfl rfl (dq rfl) rfl (fun cx hx h1 hok=>?_)
 have h0:cx.hp0.next=1:=by rw[h1]
 simp only[fL,Nat.reduceAdd,bJ]
 unfold iU at h
 refine ra hx ?_
 refine rsd [] hx fun K hK=>?_
 iterate 5 refine sa ?_
 obtain⟨I9,h⟩:=aC h
 have Er:(i64.wrap (kC+cG)).toNat<17:=by omega
 refine s1 (cJ I9 mI aG) ?_
 refine s1 (aW (am.comp (am.id _ _) (am.vec (cI .u32) m9 (i64.wrap (kC+cG)).toNat Er) (fun _=>rfl)) aG) ?_
 iterate 8 refine sa ?_
 obtain⟨Ly,h⟩:=aC h
 have hn4:(i64.wrap ((i64.wrap (kC+cG)) - (1:Int))).toNat<17:=by omega
 refine s1 (cJ Ly mI aG) ?_
 refine s1 (aW (am.comp (am.id _ _) (am.vec (cI .u32) m9 (i64.wrap ((i64.wrap (kC+cG)) - (1:Int))).toNat hn4) (fun _=>rfl)) aG) ?_
 iterate 2 refine sa ?_
 obtain⟨x5,AD,h⟩:=ab h
 replace AD:=bQ AD
 refine s2 (d2:=dI .u64 x5) ly (gq (congrArg (dI .u64) AD)) ?_
 refine .nil (hK _ _ (rs hx fun K hK=>?_))
 iterate 2 refine sa ?_
 obtain⟨I5,h⟩:=aC h
 have Gp:(i64.wrap (cG - (1:Int))).toNat<16:=by omega
 refine s1 (cJ I5 aA aG) ?_
 refine s1 (aW (am.comp (am.id _ _) (am.vec (cI .u32) xR (i64.wrap (cG - (1:Int))).toNat Gp) (fun _=>rfl)) aG) ?_
 refine sa ?_
 obtain⟨x9,rW,h⟩:=ab h
 replace rW:=bQ rW
 refine s2 (d2:=dI .u64 x9) ly (gq (congrArg (dI .u64) rW)) ?_
 refine .nil (hK _ _ (rsd [] hx fun K hK=>?_))
 iterate 2 refine sa ?_
 obtain⟨I8,h⟩:=aC h
 refine s1 (EO I8) ?_
 iterate 2 refine sa ?_
 obtain⟨I7,h⟩:=aC h
 refine s1 (CT I7) ?_
 iterate 2 refine sa ?_
 refine .nil (hK _ _ (AW.seq (AW.block ?_)))
 obtain⟨cr,hy,h⟩:=ab h
 refine lp (S:=Int×Int) (X:=Int) (fun (dK,bF)=>[(0,.pt 0 0),(2,dI .i64 cG),(3,dI .i64 kC),(5,.pt 1 0),(10,dI .u64 x9),(11,dI .u64 dK),(12,dI .u64 bF)]) (fun (dK,bF)=>⟨[(0,dC ((cA 17 (cI .u32)).f m9)),(1,dC ((cA 16 (cI .u32)).f xR))],[],2⟩) (PE cx (.exit 0) (fun cr=>[(11,dI .u64 cr)]) fun cr=>⟨[(0,dC ((cA 17 (cI .u32)).f m9))],[],1⟩) hy ?_ ?_ ?_
 exact wkN h0 [1] (wR rfl (wR rfl (wR rfl (wR rfl (wR rfl (wR rfl (wR rfl wTn))))))) (vC rfl (vC rfl wVn)) wLn
 clear hy h
 rintro⟨dK,bF⟩ y h
 dsimp only[jC] at h
 iterate 2 refine AW.seq ?_
 obtain⟨d9,hy,h⟩:=ab h
 refine jn ((PE cx .normal (fun d9=>[(0,.pt 0 0),(2,dI .i64 cG),(3,dI .i64 kC),(5,.pt 1 0),(10,dI .u64 x9),(11,dI .u64 dK),(12,dI .u64 bF),(70,dB d9)]) fun d9=>⟨[(0,dC ((cA 17 (cI .u32)).f m9)),(1,dC ((cA 16 (cI .u32)).f xR))],[],2⟩) d9) ?_ ?_
 replace h:=hy
 refine rqd [] hx fun K hK=>?_
 iterate 3 refine sa ?_
 rcases aD (decide (bF<(4294967296:Int))) with qB|qB
 replace h:=aP qB h
 iterate 3 refine ga qB ?_
 rcases aD (decide ((4294967296:Int)≤dK)) with jM|jM
 replace h:=aP jM h
 iterate 20 refine aH rfl rfl jM ?_
 refine g1 qB (aw jM) ?_
 refine s1 (aw qB) ?_
 refine .nil (hK _ _ ?_)
 cases h
 exact PE.i (wkN h0 [1] (wR rfl (wR rfl (wR rfl (wR rfl (wR rfl (wR rfl (wR rfl (wR rfl wTn)))))))) (vC rfl (vC rfl wVn)) wLn)
 replace h:=aQ jM h
 iterate 3 refine ga jM ?_
 obtain⟨Ow,h⟩:=aC h
 have DK:(i64.wrap (cG - (2:Int))).toNat<16:=by omega
 refine g1 jM (cJ Ow aA aG) ?_
 refine g1 jM (aW (am.comp (am.id _ _) (am.vec (cI .u32) xR (i64.wrap (cG - (2:Int))).toNat DK) (fun _=>rfl)) aG) ?_
 iterate 3 refine ga jM ?_
 refine g1 jM (PJ (b:=(32:Int)) (by decide)) ?_
 iterate 6 refine ga jM ?_
 obtain⟨hc17,h⟩:=aC h
 have hn18:(i64.wrap ((i64.wrap (kC+cG)) - (2:Int))).toNat<17:=by omega
 refine g1 jM (cJ hc17 mI aG) ?_
 refine g1 jM (aW (am.comp (am.id _ _) (am.vec (cI .u32) m9 (i64.wrap ((i64.wrap (kC+cG)) - (2:Int))).toNat hn18) (fun _=>rfl)) aG) ?_
 refine ga jM ?_
 refine g1 jM T_or ?_
 refine ga jM ?_
 refine g1 qB (al jM) ?_
 refine s1 (aw qB) ?_
 refine .nil (hK _ _ ?_)
 cases h
 exact PE.i (wkN h0 [1] (wR rfl (wR rfl (wR rfl (wR rfl (wR rfl (wR rfl (wR rfl (wR rfl wTn)))))))) (vC rfl (vC rfl wVn)) wLn)
 replace h:=aQ qB h
 iterate 3 refine aH rfl rfl qB ?_
 iterate 20 refine nn_t rfl rfl ?_
 refine aH rfl rfl qB ?_
 refine s1 (al qB) ?_
 refine .nil (hK _ _ ?_)
 cases h
 exact PE.i (wkN h0 [1] (wR rfl (wR rfl (wR rfl (wR rfl (wR rfl (wR rfl (wR rfl (wR rfl wTn)))))))) (vC rfl (vC rfl wVn)) wLn)
 rintro ex tm' hp' ⟨rfl,hw⟩
 refine AW.weak hw (cdh h rfl (fun hb20 h=>?_) (fun hb20 h=>?_))
 refine AW.skip (AW.block (ra hx ?_))
 refine rb hx ?_
 cases h
 exact PS.l (PE.i (wkN h0 [1] (wR rfl (wR rfl (wR rfl (wR rfl (wR rfl (wR rfl (wR rfl wTn))))))) (vC rfl (vC rfl wVn)) wLn))
 refine AW.exit ?_
 try dsimp only
 try simp only[aU,reduceIte,Nat.reduceEqDiff,reduceCtorEq]
 cases h
 exact PS.r ⟨by nofun,PE.i (wkN h0 [] (wR rfl wTn) (vC rfl wVn) wLn)⟩
 rintro ex tm' hp' ⟨rfl,hw⟩
 try dsimp only
 try simp only[aU,reduceIte,Nat.reduceEqDiff,reduceCtorEq]
 refine AW.weak hw (ra hx ?_)
 refine AW.ret ?_
 cases h
 exact rH1 (wkN h0 [] (wR rfl wTn) (vC rfl wVn) wLn)
def jg(xR:Vector Int 16)(cG:Int)(kC:Int)(tg:Int):Int×Int×Int×(Vector Int 17)→Option ((Int×Int×Int×(Vector Int 17))⊕(Int×Int×(Vector Int 17))):=fun (bc,bt,kN,F6)=>cnd (decide (kN<cG)) (gd (0≤kN∧kN<16) (bnd (some (u64.wrap (bc+(u64.wrap (tg*(u64.wrap ((xR)[(kN).toNat]!))))))) fun x4=>gd (0≤i64.wrap (kC+kN)∧i64.wrap (kC+kN)<17) (bnd (some (u64.wrap ((u64.wrap ((u64.wrap ((F6)[(i64.wrap (kC+kN)).toNat]!)) - (u64.wrap (u32.wrap (x4))))) - bt))) fun x8=>gd (0≤i64.wrap (kC+kN)∧i64.wrap (kC+kN)<17) (bnd (some ((F6).set! (i64.wrap (kC+kN)).toNat (u32.wrap (x8)))) fun jB=>some (.inl (lX .u64 x4 (32:Int),lX .u64 x8 (63:Int),i64.wrap (kN+(1:Int)),jB)))))) (some (.inr (bc,bt,F6)))
def jN(xR:Vector Int 16)(cG:Int)(kC:Int)(tg:Int)(m9:Vector Int 17):Option (Bool×(Vector Int 17)):=bnd (bS (jg xR cG kC tg) ((0:Int),(0:Int),(0:Int),m9)) fun (bo,iG,vd)=>gd (0≤i64.wrap (kC+cG)∧i64.wrap (kC+cG)<17) (bnd (some (u64.wrap ((u64.wrap ((u64.wrap ((vd)[(i64.wrap (kC+cG)).toNat]!)) - bo)) - iG))) fun nL=>gd (0≤i64.wrap (kC+cG)∧i64.wrap (kC+cG)<17) (bnd (some ((vd).set! (i64.wrap (kC+cG)).toNat (u32.wrap (nL)))) fun sb=>some (decide ((lX .u64 nL (63:Int))=(1:Int)),sb)))
theorem Bi {xR:Vector Int 16}{cG:Int}{kC:Int}{tg:Int}{m9:Vector Int 17}{r:Bool×(Vector Int 17)}(h:jN xR cG kC tg m9=some r):HC Tryz.prog 191 [.pt 0 0,dG (cA 16 (cI .u32)) xR,dI .i64 cG,dI .i64 kC,dI .u64 tg] ⟨[(0,dC ((cA 17 (cI .u32)).f m9))],[],1⟩ (dB r.1) ⟨[(0,dC ((cA 17 (cI .u32)).f r.2))],[],1⟩:=by
 refine HC.of (rs:=[.tmp 10]) tok Tryz.func191 rfl rfl (dq rfl) rfl (fun cx hx h1 hok=>?_)
 have h0:cx.hp0.next=1:=by rw[h1]
 simp only[fL,Nat.reduceAdd,bJ]
 unfold jN at h
 iterate 2 refine ra hx ?_
 refine AW.seq (ra hx ?_)
 refine AW.block ?_
 obtain⟨y,hy,h⟩:=ab h
 refine lp (S:=Int×Int×Int×(Vector Int 17)) (X:=Int×Int×(Vector Int 17)) (fun (bc,bt,kN,F6)=>[(0,.pt 0 0),(2,dI .i64 cG),(3,dI .i64 kC),(4,dI .u64 tg),(6,.pt 1 0),(11,dI .u64 bc),(12,dI .u64 bt),(16,dI .i64 cG),(17,dI .i64 kN)]) (fun (bc,bt,kN,F6)=>⟨[(0,dC ((cA 17 (cI .u32)).f F6)),(1,dC ((cA 16 (cI .u32)).f xR))],[],2⟩) (PE cx (.exit 0) (fun (bo,iG,vd)=>[(0,.pt 0 0),(2,dI .i64 cG),(3,dI .i64 kC),(11,dI .u64 bo),(12,dI .u64 iG)]) fun (bo,iG,vd)=>⟨[(0,dC ((cA 17 (cI .u32)).f vd))],[],1⟩) hy ?_ ?_ ?_
 exact wkN h0 [1] (wR rfl (wR rfl (wR rfl (wR rfl (wR rfl (wR rfl (wR rfl (wR rfl (wR rfl wTn))))))))) (vC rfl (vC rfl wVn)) wLn
 clear hy h
 rintro⟨bc,bt,kN,F6⟩ y h
 dsimp only[jg] at h
 refine ra hx ?_
 refine AW.seq (cdh h rfl (fun c5 h=>?_) (fun c5 h=>?_))
 refine AW.skip (AW.seq (AW.block (ra hx ?_)))
 refine rs hx fun K hK=>?_
 iterate 3 refine sa ?_
 obtain⟨ml,h⟩:=aC h
 have p8:(kN).toNat<16:=by omega
 refine s1 (cJ ml aA aG) ?_
 refine s1 (aW (am.comp (am.id _ _) (am.vec (cI .u32) xR (kN).toNat p8) (fun _=>rfl)) aG) ?_
 iterate 3 refine sa ?_
 obtain⟨x4,p6,h⟩:=ab h
 replace p6:=bQ p6
 refine s2 (d2:=dI .u64 x4) ly (gq (congrArg (dI .u64) p6)) ?_
 refine .nil (hK _ _ (rs hx fun K hK=>?_))
 iterate 5 refine sa ?_
 obtain⟨hc6,h⟩:=aC h
 have hn7:(i64.wrap (kC+kN)).toNat<17:=by omega
 refine s1 (cJ hc6 mI aG) ?_
 refine s1 (aW (am.comp (am.id _ _) (am.vec (cI .u32) F6 (i64.wrap (kC+kN)).toNat hn7) (fun _=>rfl)) aG) ?_
 iterate 7 refine sa ?_
 obtain⟨x8,J8,h⟩:=ab h
 replace J8:=bQ J8
 refine s2 (d2:=dI .u64 x8) ly (gq (congrArg (dI .u64) J8)) ?_
 refine .nil (hK _ _ (rs hx fun K hK=>?_))
 iterate 7 refine sa ?_
 obtain⟨Hk,h⟩:=aC h
 have Od:(i64.wrap (kC+kN)).toNat<17:=by omega
 refine s1 (cJ Hk mI aG) ?_
 obtain⟨jB,uR,h⟩:=ab h
 replace uR:=bQ uR
 refine s0 (nk (b':=u32.wrap (x8)) (am.comp (am.id _ _) (am.vec (cI .u32) F6 (i64.wrap (kC+kN)).toNat Od) (fun _=>rfl)) aG uR) ?_
 refine .nil (hK _ _ (ra hx ?_))
 iterate 2 refine rb hx ?_
 cases h
 exact PS.l (PE.i (wkN h0 [1] (wR rfl (wR rfl (wR rfl (wR rfl (wR rfl (wR rfl (wR rfl (wR rfl (wR rfl wTn))))))))) (vC rfl (vC rfl wVn)) wLn))
 refine AW.exit ?_
 try dsimp only
 try simp only[aU,reduceIte,Nat.reduceEqDiff,reduceCtorEq]
 cases h
 exact PS.r ⟨by nofun,PE.i (wkN h0 [] (wR rfl (wR rfl (wR rfl (wR rfl (wR rfl wTn))))) (vC rfl wVn) wLn)⟩
 obtain⟨bo,iG,vd⟩:=y
 rintro ex tm' hp' ⟨rfl,hw⟩
 try dsimp only
 try simp only[aU,reduceIte,Nat.reduceEqDiff,reduceCtorEq]
 refine AW.weak hw (rs hx fun K hK=>?_)
 iterate 5 refine sa ?_
 obtain⟨Ow,h⟩:=aC h
 have DK:(i64.wrap (kC+cG)).toNat<17:=by omega
 refine s1 (cJ Ow mI aG) ?_
 refine s1 (aW (am.comp (am.id _ _) (am.vec (cI .u32) vd (i64.wrap (kC+cG)).toNat DK) (fun _=>rfl)) aG) ?_
 iterate 5 refine sa ?_
 obtain⟨nL,uf,h⟩:=ab h
 replace uf:=bQ uf
 refine s2 (d2:=dI .u64 nL) ly (gq (congrArg (dI .u64) uf)) ?_
 refine .nil (hK _ _ (rs hx fun K hK=>?_))
 iterate 7 refine sa ?_
 obtain⟨hc19,h⟩:=aC h
 have hn20:(i64.wrap (kC+cG)).toNat<17:=by omega
 refine s1 (cJ hc19 mI aG) ?_
 obtain⟨sb,NI,h⟩:=ab h
 replace NI:=bQ NI
 refine s0 (nk (b':=u32.wrap (nL)) (am.comp (am.id _ _) (am.vec (cI .u32) vd (i64.wrap (kC+cG)).toNat hn20) (fun _=>rfl)) aG NI) ?_
 refine .nil (hK _ _ (ra hx ?_))
 refine AW.ret ?_
 cases h
 exact rH1 (wkN h0 [] (wR rfl wTn) (vC rfl wVn) wLn)
def ji(xR:Vector Int 16)(cG:Int)(kC:Int):Int×Int×(Vector Int 17)→Option ((Int×Int×(Vector Int 17))⊕(Int×(Vector Int 17))):=fun (bc,bt,kN)=>cnd (decide (bt<cG)) (gd (0≤i64.wrap (kC+bt)∧i64.wrap (kC+bt)<17) (gd (0≤bt∧bt<16) (bnd (some (u64.wrap (bc+(u64.wrap ((u64.wrap ((kN)[(i64.wrap (kC+bt)).toNat]!))+(u64.wrap ((xR)[(bt).toNat]!))))))) fun x6=>gd (0≤i64.wrap (kC+bt)∧i64.wrap (kC+bt)<17) (bnd (some ((kN).set! (i64.wrap (kC+bt)).toNat (u32.wrap (x6)))) fun jA=>some (.inl (lX .u64 x6 (32:Int),i64.wrap (bt+(1:Int)),jA)))))) (some (.inr (bc,kN)))
def jR(xR:Vector Int 16)(cG:Int)(kC:Int)(m9:Vector Int 17):Option (Vector Int 17):=bnd (bS (ji xR cG kC) ((0:Int),(0:Int),m9)) fun (bo,iG)=>gd (0≤i64.wrap (kC+cG)∧i64.wrap (kC+cG)<17) (gd (0≤i64.wrap (kC+cG)∧i64.wrap (kC+cG)<17) (bnd (some ((iG).set! (i64.wrap (kC+cG)).toNat (u32.wrap (((iG)[(i64.wrap (kC+cG)).toNat]!)+(u32.wrap (bo)))))) fun nL=>some nL))
theorem Bj {xR:Vector Int 16}{cG:Int}{kC:Int}{m9:Vector Int 17}{r:Vector Int 17}(h:jR xR cG kC m9=some r):HC Tryz.prog 192 [.pt 0 0,dG (cA 16 (cI .u32)) xR,dI .i64 cG,dI .i64 kC] ⟨[(0,dC ((cA 17 (cI .u32)).f m9))],[],1⟩ (.tu []) ⟨[(0,dC ((cA 17 (cI .u32)).f r))],[],1⟩:=by
 refine HC.of (rs:=[]) tok Tryz.func192 rfl rfl (dq rfl) rfl (fun cx hx h1 hok=>?_)
 have h0:cx.hp0.next=1:=by rw[h1]
 simp only[fL,Nat.reduceAdd,bJ]
 unfold jR at h
 iterate 2 refine ra hx ?_
 refine AW.seq (ra hx ?_)
 refine AW.block ?_
 obtain⟨y,hy,h⟩:=ab h
 refine lp (S:=Int×Int×(Vector Int 17)) (X:=Int×(Vector Int 17)) (fun (bc,bt,kN)=>[(0,.pt 0 0),(2,dI .i64 cG),(3,dI .i64 kC),(5,.pt 1 0),(8,dI .u64 bc),(10,dI .i64 cG),(11,dI .i64 bt)]) (fun (bc,bt,kN)=>⟨[(0,dC ((cA 17 (cI .u32)).f kN)),(1,dC ((cA 16 (cI .u32)).f xR))],[],2⟩) (PE cx (.exit 0) (fun (bo,iG)=>[(0,.pt 0 0),(2,dI .i64 cG),(3,dI .i64 kC),(8,dI .u64 bo)]) fun (bo,iG)=>⟨[(0,dC ((cA 17 (cI .u32)).f iG))],[],1⟩) hy ?_ ?_ ?_
 exact wkN h0 [1] (wR rfl (wR rfl (wR rfl (wR rfl (wR rfl (wR rfl (wR rfl wTn))))))) (vC rfl (vC rfl wVn)) wLn
 clear hy h
 rintro⟨bc,bt,kN⟩ y h
 dsimp only[ji] at h
 refine ra hx ?_
 refine AW.seq (cdh h rfl (fun c5 h=>?_) (fun c5 h=>?_))
 refine AW.skip (AW.seq (AW.block (ra hx ?_)))
 refine rsd [] hx fun K hK=>?_
 iterate 6 refine sa ?_
 obtain⟨ml,h⟩:=aC h
 have p8:(i64.wrap (kC+bt)).toNat<17:=by omega
 refine s1 (cJ ml mI aG) ?_
 refine s1 (aW (am.comp (am.id _ _) (am.vec (cI .u32) kN (i64.wrap (kC+bt)).toNat p8) (fun _=>rfl)) aG) ?_
 iterate 2 refine sa ?_
 obtain⟨Eu,h⟩:=aC h
 have Lt:(bt).toNat<16:=by omega
 refine s1 (cJ Eu aA aG) ?_
 refine s1 (aW (am.comp (am.id _ _) (am.vec (cI .u32) xR (bt).toNat Lt) (fun _=>rfl)) aG) ?_
 iterate 3 refine sa ?_
 obtain⟨x6,pZ,h⟩:=ab h
 replace pZ:=bQ pZ
 refine s2 (d2:=dI .u64 x6) ly (gq (congrArg (dI .u64) pZ)) ?_
 refine .nil (hK _ _ (rs hx fun K hK=>?_))
 iterate 7 refine sa ?_
 obtain⟨Hi,h⟩:=aC h
 have IZ:(i64.wrap (kC+bt)).toNat<17:=by omega
 refine s1 (cJ Hi mI aG) ?_
 obtain⟨jA,v5,h⟩:=ab h
 replace v5:=bQ v5
 refine s0 (nk (b':=u32.wrap (x6)) (am.comp (am.id _ _) (am.vec (cI .u32) kN (i64.wrap (kC+bt)).toNat IZ) (fun _=>rfl)) aG v5) ?_
 refine .nil (hK _ _ ?_)
 iterate 2 refine rb hx ?_
 cases h
 exact PS.l (PE.i (wkN h0 [1] (wR rfl (wR rfl (wR rfl (wR rfl (wR rfl (wR rfl (wR rfl wTn))))))) (vC rfl (vC rfl wVn)) wLn))
 refine AW.exit ?_
 try dsimp only
 try simp only[aU,reduceIte,Nat.reduceEqDiff,reduceCtorEq]
 cases h
 exact PS.r ⟨by nofun,PE.i (wkN h0 [] (wR rfl (wR rfl (wR rfl (wR rfl wTn)))) (vC rfl wVn) wLn)⟩
 obtain⟨bo,iG⟩:=y
 rintro ex tm' hp' ⟨rfl,hw⟩
 try dsimp only
 try simp only[aU,reduceIte,Nat.reduceEqDiff,reduceCtorEq]
 refine AW.weak hw (rqd [] hx fun K hK=>?_)
 iterate 5 refine sa ?_
 obtain⟨hc13,h⟩:=aC h
 have hn14:(i64.wrap (kC+cG)).toNat<17:=by omega
 refine s1 (cJ hc13 mI aG) ?_
 refine s1 (aW (am.comp (am.id _ _) (am.vec (cI .u32) iG (i64.wrap (kC+cG)).toNat hn14) (fun _=>rfl)) aG) ?_
 iterate 4 refine sa ?_
 obtain⟨Ow,h⟩:=aC h
 have DK:(i64.wrap (kC+cG)).toNat<17:=by omega
 refine s1 (cJ Ow mI aG) ?_
 obtain⟨nL,uf,h⟩:=ab h
 replace uf:=bQ uf
 refine s0 (nk (b':=u32.wrap (((iG)[(i64.wrap (kC+cG)).toNat]!)+(u32.wrap (bo)))) (am.comp (am.id _ _) (am.vec (cI .u32) iG (i64.wrap (kC+cG)).toNat DK) (fun _=>rfl)) aG uf) ?_
 refine .nil (hK _ _ ?_)
 cases h
 exact rH0 (wkN h0 [] wTn (vC rfl wVn) wLn)
def e8(x1:Int)(Ay:(Vector Int 16)×Int):Int×(Vector Int 16)×(Vector Int 17)→Option ((Int×(Vector Int 16)×(Vector Int 17))⊕((Vector Int 16)×(Vector Int 17))):=fun (qV,Au,CM)=>cnd (decide ((0:Int)≤qV)) (bnd (iU Ay.1 x1 qV CM) fun Gj=>bnd (S:=Int×(Vector Int 17)) (bnd (jN Ay.1 x1 qV Gj CM) fun Mr=>cnd Mr.1 (bnd (jR Ay.1 x1 qV Mr.2) fun EV=>some ((u64.wrap (Gj - (1:Int)),EV))) (some ((Gj,Mr.2)))) fun (sL,HZ)=>gd (0≤qV∧qV<16) (some (.inl (i64.wrap (qV - (1:Int)),(Au).set! (qV).toNat (u32.wrap (sL)),HZ)))) (some (.inr (Au,CM)))
def fS(aN:Vector Int 16)(aV:Vector Int 16):Option ((Vector Int 16)×(Vector Int 16)):=bnd (eZ aV) fun x1=>bnd (eZ aN) fun x3=>bnd (ic aN aV) fun x5=>cnd (decide (x5<(0:Int))) (bnd (some (#v[(0:Int),0,0,0,0,0,0,0,0,0,0,0,0,0,0,0])) fun x8=>some (x8,aN)) (cnd (decide (x1=(1:Int))) (bnd (mP aN ((aV)[((0:Int)).toNat]!)) fun jB=>bnd (some (#v[jB.2,0,0,0,0,0,0,0,0,0,0,0,0,0,0,0])) fun mD=>some (jB.1,mD)) (gd (0≤i64.wrap (x1 - (1:Int))∧i64.wrap (x1 - (1:Int))<16) (bnd (fO ((aV)[(i64.wrap (x1 - (1:Int))).toNat]!)) fun q9=>bnd (oP aV q9) fun Ay=>bnd (oP aN q9) fun yE=>bnd (some (vOf 17 (lCp ((Vector.replicate 17 (0:Int))).toList 0 (List.take 17 (List.take 16 (List.drop 0 (yE.1).toList)))))) fun Ax=>bnd (bS (e8 x1 Ay) (i64.wrap (x3 - x1),(cy),(Ax).set! ((16:Int)).toNat yE.2)) fun (tK,tJ)=>bnd (nU (vOf 16 (List.take 16 (List.drop 0 (tJ).toList))) q9) fun Da=>some (tK,Da))))
set_option maxHeartbeats 4000000 in
theorem se {aN:Vector Int 16}{aV:Vector Int 16}{r:(Vector Int 16)×(Vector Int 16)}(h:fS aN aV=some r):ax Tryz.prog 162 [dG (cA 16 (cI .u32)) aN,dG (cA 16 (cI .u32)) aV] (.tu [dG (cA 16 (cI .u32)) r.1,dG (cA 16 (cI .u32)) r.2]):=by
 refine bE (rs:=[.cell 4 39,.cell 5 39]) (fun cx hx h0=>?_) Tryz.func162
 unfold fS at h
 refine rs hx fun K hK=>?_
 iterate 2 refine sa ?_
 iterate 2 refine s1 (bm (F:=(cA 16 (cI .u32)).f (cy)) aA) ?_
 refine .nil (hK _ _ (rsd [148] hx fun K hK=>?_))
 refine s1 (d:=dG (cA 16 (cI .u32)) aV) (au (am.id _ _) aA) ?_
 refine cqb h kr fun x1 h=>?_
 refine s1 (d:=dG (cA 16 (cI .u32)) aN) (au (am.id _ _) aA) ?_
 refine cqb h kr fun x3 h=>?_
 iterate 2 refine sa ?_
 refine .nil (hK _ _ (AW.seq (rs hx fun K hK=>?_)))
 refine s1 (d:=dG (cA 16 (cI .u32)) aN) (au (am.id _ _) aA) ?_
 refine s1 (d:=dG (cA 16 (cI .u32)) aV) (au (am.id _ _) aA) ?_
 refine scb h o0 fun x5 h=>?_
 refine sa ?_
 refine .nil (hK _ _ (cdh h rfl (fun qz h=>?_) (fun qz h=>?_)))
 refine AW.seq ?_
 obtain⟨x8,J8,h⟩:=ab h
 replace J8:=bQ J8
 refine jn (PE cx .normal (fun (_:Unit)=>[(4,.pt 0 0),(5,.pt 1 0)]) (fun (_:Unit)=>⟨[(0,dC ((cA 16 (cI .u32)).f x8)),(1,dC ((cA 16 (cI .u32)).f aN))],[],2⟩) ()) ?_ ?_
 refine dw (DW.split 1 2 (by decide) ?_ ?_)
 refine dwg [] [0,1,2,3] hx (by kernel_rfl) (by kernel_rfl) (by kernel_rfl) fun K hK=>?_
 dsimp only[et,mA,mK,List.map]
 refine s1 (d:=dG (cA 16 (cI .u32)) (#v[(0:Int),0,0,0,0,0,0,0,0,0,0,0,0,0,0,0])) (mj aA aG) ?_
 refine s1 (d:=dG (cA 16 (cI .u32)) aN) (au (am.id _ _) aA) ?_
 refine s0 (nk (b':=#v[(0:Int),0,0,0,0,0,0,0,0,0,0,0,0,0,0,0]) (am.id _ _) aA J8) ?_
 refine s0 (aE (b':=aN) (am.id _ _) aA) ?_
 exact .nil (hK _ _ (pe0 h0 [2,3]))
 refine dwg [] [0,2,1,3] hx (by kernel_rfl) (by kernel_rfl) (by kernel_rfl) fun K hK=>?_
 dsimp only[et,mA,mK,List.map]
 refine s1 (d:=dG (cA 16 (cI .u32)) (#v[(0:Int),0,0,0,0,0,0,0,0,0,0,0,0,0,0,0])) (mj aA aG) ?_
 refine s0 (nk (b':=#v[(0:Int),0,0,0,0,0,0,0,0,0,0,0,0,0,0,0]) (am.id _ _) aA J8) ?_
 refine s1 (d:=dG (cA 16 (cI .u32)) aN) (au (am.id _ _) aA) ?_
 refine s0 (aE (b':=aN) (am.id _ _) aA) ?_
 exact .nil (hK _ _ (pe0 h0 [2,3]))
 rintro ex tm' hp' ⟨rfl,hw⟩
 refine AW.weak hw (AW.ret ?_)
 cases h
 exact rv2
 refine AW.skip (AW.seq (ra hx ?_))
 refine cdh h rfl (fun dM h=>?_) (fun dM h=>?_)
 refine rs hx fun K hK=>?_
 refine s1 (d:=dG (cA 16 (cI .u32)) aN) (au (am.id _ _) aA) ?_
 have Od:((0:Int)).toNat<16:=by omega
 refine s1 (cJ (by decide:0≤(0:Int)∧(0:Int)<((16:Nat):Int)) aA aG) ?_
 refine s1 (aW (am.comp (am.id _ _) (am.vec (cI .u32) aV ((0:Int)).toNat Od) (fun _=>rfl)) aG) ?_
 refine scb h Ds fun jB h=>?_
 iterate 3 refine sa ?_
 refine s1 (bm (F:=(cA 16 (cI .u32)).f (cy)) aA) ?_
 refine s0 (aE (b':=jB.1) (am.id _ _) aA) ?_
 refine sa ?_
 refine .nil (hK _ _ (rs hx fun K hK=>?_))
 refine s1 (d:=dG (cA 16 (cI .u32)) jB.1) (au (am.id _ _) aA) ?_
 refine sa ?_
 refine s1 (d:=dG (cA 16 (cI .u32)) (#v[jB.2,0,0,0,0,0,0,0,0,0,0,0,0,0,0,0])) (mj aA aG) ?_
 refine s0 (aE (b':=jB.1) (am.id _ _) aA) ?_
 obtain⟨mD,uP,h⟩:=ab h
 replace uP:=bQ uP
 refine s0 (nk (b':=#v[jB.2,0,0,0,0,0,0,0,0,0,0,0,0,0,0,0]) (am.id _ _) aA uP) ?_
 refine .nil (hK _ _ (AW.ret ?_))
 cases h
 exact rv2
 refine AW.skip (rs hx fun K hK=>?_)
 iterate 2 refine sa ?_
 obtain⟨Hj,h⟩:=aC h
 have I0:(i64.wrap (x1 - (1:Int))).toNat<16:=by omega
 refine s1 (cJ Hj aA aG) ?_
 refine s1 (aW (am.comp (am.id _ _) (am.vec (cI .u32) aV (i64.wrap (x1 - (1:Int))).toNat I0) (fun _=>rfl)) aG) ?_
 refine scb h uc fun q9 h=>?_
 refine sa ?_
 refine .nil (hK _ _ (rs hx fun K hK=>?_))
 refine s1 (d:=dG (cA 16 (cI .u32)) aV) (au (am.id _ _) aA) ?_
 refine sa ?_
 refine scb h Bh fun Ay h=>?_
 iterate 3 refine sa ?_
 refine s1 (bm (F:=(cA 16 (cI .u32)).f (cy)) aA) ?_
 refine s0 (aE (b':=Ay.1) (am.id _ _) aA) ?_
 refine sa ?_
 refine .nil (hK _ _ (rs hx fun K hK=>?_))
 refine s1 (d:=dG (cA 16 (cI .u32)) aN) (au (am.id _ _) aA) ?_
 refine sa ?_
 refine scb h Bh fun yE h=>?_
 iterate 3 refine sa ?_
 refine s1 (bm (F:=(cA 16 (cI .u32)).f (cy)) aA) ?_
 refine s0 (aE (b':=yE.1) (am.id _ _) aA) ?_
 refine sa ?_
 refine .nil (hK _ _ (rs hx fun K hK=>?_))
 refine s1 (bm (F:=(cA 17 (cI .u32)).f (Vector.replicate 17 (0:Int))) mI) ?_
 refine .nil (hK _ _ (rsd [] hx fun K hK=>?_))
 refine q1 (slA (n:=17) (l:=(0:Int)) (h:=(17:Int)) tok (by decide) mI aG rfl rfl) ?_
 refine q1 (slA (n:=16) (l:=(0:Int)) (h:=(16:Int)) tok (by decide) aA aG rfl rfl) ?_
 obtain⟨Ax,NH,h⟩:=ab h
 replace NH:=bQ NH
 refine q1 (hp':=⟨[(6,dC ((cA 17 (cI .u32)).f Ax)),(6,dC ((cA 17 (cI .u32)).f (Vector.replicate 17 (0:Int)))),(5,dC ((cA 16 (cI .u32)).f yE.1)),(5,dC ((cA 16 (cI .u32)).f (cy))),(4,dC ((cA 16 (cI .u32)).f Ay.1)),(4,dC ((cA 16 (cI .u32)).f (cy))),(3,dC ((cA 16 (cI .u32)).f (cy))),(2,dC ((cA 16 (cI .u32)).f (cy))),(1,dC ((cA 16 (cI .u32)).f aV)),(0,dC ((cA 16 (cI .u32)).f aN))],[],7⟩) (sCpA (c:=(cI .u32)) (v:=(Vector.replicate 17 (0:Int))) (s:=(List.take 16 (List.drop 0 (yE.1).toList))) tok ME aG (vh.arr (c:=(cI .u32)) (v:=yE.1) rfl 0 (by decide)) (by simp only[ey,fB,qJ];omega) rfl 0 (by decide) (congrArg (fun q=>(6,dC ((cA 17 (cI .u32)).f q))::_) NH)) ?_
 refine .nil (hK _ _ (rs hx fun K hK=>?_))
 refine sa ?_
 have hn26:((16:Int)).toNat<17:=by omega
 refine s1 (cJ (by decide:0≤(16:Int)∧(16:Int)<((17:Nat):Int)) mI aG) ?_
 refine s0 (aE (b':=yE.2) (am.comp (am.id _ _) (am.vec (cI .u32) Ax ((16:Int)).toNat hn26) (fun _=>rfl)) aG) ?_
 refine .nil (hK _ _ (AW.seq (ra hx ?_)))
 refine AW.block ?_
 obtain⟨y,hy,h⟩:=ab h
 refine lp (S:=Int×(Vector Int 16)×(Vector Int 17)) (X:=(Vector Int 16)×(Vector Int 17)) (fun (qV,Au,CM)=>[(4,.pt 0 0),(5,.pt 1 0),(6,dI .i64 x1),(10,dI .i64 q9),(11,.pt 2 0),(15,.pt 3 0),(16,dI .i64 qV)]) (fun (qV,Au,CM)=>⟨[(0,dC ((cA 16 (cI .u32)).f Au)),(1,dC ((cA 16 (cI .u32)).f (cy))),(2,dC ((cA 16 (cI .u32)).f Ay.1)),(3,dC ((cA 17 (cI .u32)).f CM))],[],4⟩) (PE cx (.exit 0) (fun (tK,tJ)=>[(4,.pt 0 0),(5,.pt 1 0),(10,dI .i64 q9),(15,.pt 2 0)]) fun (tK,tJ)=>⟨[(0,dC ((cA 16 (cI .u32)).f tK)),(1,dC ((cA 16 (cI .u32)).f (cy))),(2,dC ((cA 17 (cI .u32)).f tJ))],[],3⟩) hy ?_ ?_ ?_
 exact wk h0 [2,3,4,6] (wR rfl (wR rfl (wR rfl (wR rfl (wR rfl (wR rfl (wR rfl wTn))))))) (vC rfl (vC rfl (vC rfl (vC rfl wVn)))) wLn
 clear hy h
 rintro⟨qV,Au,CM⟩ y h
 dsimp only[e8] at h
 refine AW.seq (ra hx ?_)
 refine cdh h rfl (fun v8 h=>?_) (fun v8 h=>?_)
 refine AW.skip (AW.seq (AW.block (rs hx fun K hK=>?_)))
 refine s1 (d:=dG (cA 16 (cI .u32)) Ay.1) (au (am.id _ _) aA) ?_
 iterate 2 refine sa ?_
 obtain⟨Gj,IQ,h⟩:=ab h
 refine s1 (F9 [3] rfl (Az IQ) (fA (ao _) (fAG (ao _) (fA (ao _) (fA (ao _) fAn)))) (vC rfl wVn) wLn (rvC rvN) rfl rfl) ?_
 refine sa ?_
 refine .nil (hK _ _ (AW.seq ?_))
 obtain⟨y,hy,h⟩:=ab h
 refine jn ((PE cx .normal (fun (sL,HZ)=>[(4,.pt 0 0),(5,.pt 1 0),(6,dI .i64 x1),(10,dI .i64 q9),(11,.pt 2 0),(15,.pt 3 0),(16,dI .i64 qV),(17,dI .u64 sL)]) fun (sL,HZ)=>⟨[(0,dC ((cA 16 (cI .u32)).f Au)),(1,dC ((cA 16 (cI .u32)).f (cy))),(2,dC ((cA 16 (cI .u32)).f Ay.1)),(3,dC ((cA 17 (cI .u32)).f HZ))],[],4⟩) y) ?_ ?_
 replace h:=hy
 refine rs hx fun K hK=>?_
 refine s1 (d:=dG (cA 16 (cI .u32)) Ay.1) (au (am.id _ _) aA) ?_
 iterate 3 refine sa ?_
 obtain⟨Mr,hx31,h⟩:=ab h
 refine s1 (F9 [3] rfl (Bi hx31) (fA (ao _) (fAG (ao _) (fA (ao _) (fA (ao _) (fA (ao _) fAn))))) (vC rfl wVn) wLn (rvC rvN) rfl rfl) ?_
 refine .nil (hK _ _ (cdh h rfl (fun hb32 h=>?_) (fun hb32 h=>?_)))
 refine ra hx ?_
 refine rq hx fun K hK=>?_
 refine s1 (d:=dG (cA 16 (cI .u32)) Ay.1) (au (am.id _ _) aA) ?_
 iterate 2 refine sa ?_
 obtain⟨EV,Ln,h⟩:=ab h
 refine s1 (F9 [3] rfl (Bj Ln) (fA (ao _) (fAG (ao _) (fA (ao _) (fA (ao _) fAn)))) (vC rfl wVn) wLn (rvC rvN) rfl rfl) ?_
 refine .nil (hK _ _ ?_)
 cases h
 exact pe0 h0 [0,1,2,3]
 refine AW.skip ?_
 cases h
 exact pe0 h0 [0,1,2,3]
 obtain⟨sL,HZ⟩:=y
 rintro ex tm' hp' ⟨rfl,hw⟩
 refine AW.weak hw (rq hx fun K hK=>?_)
 iterate 3 refine sa ?_
 obtain⟨hc36,h⟩:=aC h
 have hn37:(qV).toNat<16:=by omega
 refine s1 (cJ hc36 aA aG) ?_
 refine s0 (aE (b':=u32.wrap (sL)) (am.comp (am.id _ _) (am.vec (cI .u32) Au (qV).toNat hn37) (fun _=>rfl)) aG) ?_
 refine .nil (hK _ _ (rb hx ?_))
 cases h
 exact PS.l (pe0 h0 [0,1,2,3])
 refine AW.exit ?_
 try dsimp only
 try simp only[aU,reduceIte,Nat.reduceEqDiff,reduceCtorEq]
 cases h
 exact PS.r ⟨by nofun,PE.i (wk h0 [0,1,3] (wR rfl (wR rfl (wR rfl (wR rfl wTn)))) (vC rfl (vC rfl (vC rfl wVn))) wLn)⟩
 obtain⟨tK,tJ⟩:=y
 rintro ex tm' hp' ⟨rfl,hw⟩
 try dsimp only
 try simp only[aU,reduceIte,Nat.reduceEqDiff,reduceCtorEq]
 refine AW.weak hw (rsd [193] hx fun K hK=>?_)
 refine s1 (d:=dG (cA 16 (cI .u32)) tK) (au (am.id _ _) aA) ?_
 refine q1 (slA (n:=17) (l:=(0:Int)) (h:=(16:Int)) tok (by decide) mI aG rfl ⟨_,rfl⟩) ?_
 refine q1 (sPtr tok rfl aA) ?_
 refine s1 (d:=dG (cA 16 (cI .u32)) (vOf 16 (List.take 16 (List.drop 0 (tJ).toList)))) (au (am.sub (o:=0) 16 (cI .u32) tJ 0 (by decide) (by first|rfl|decide)) aA) ?_
 refine sa ?_
 obtain⟨Da,NF,h⟩:=ab h
 refine sq tok (EX NF) (by simp only[dJ,eD,cH,bP,bB,bq];exact⟨aI _ _,rfl⟩) (lA (cD _ _) (lA (ao _) lAn)) (.inl (g9 _ _)) ?_
 refine s0 (aE (b':=tK) (am.id _ _) aA) ?_
 refine s0 (aE (b':=Da) (am.id _ _) aA) ?_
 refine .nil (hK _ _ (AW.ret ?_))
 cases h
 exact rv2
def pj(aY:av):Option av:=bnd (cO [aY]) fun x1=>cnd (!x1) (bnd (eN) fun x4=>some x4) (bnd (bV false aY.vW) fun x6=>some x6)
theorem Gy {aY:av}{r:av}(h:pj aY=some r):ax Tryz.prog 163 [dG aj aY] (dG aj r):=by
 refine bE (rs:=[.cell 2 41]) (fun cx hx h0=>?_) Tryz.func163
 unfold pj at h
 refine rs hx fun K hK=>?_
 refine sa ?_
 refine s1 (bm (F:=aj.f be) ap) ?_
 refine .nil (hK _ _ (AW.seq (rs hx fun K hK=>?_)))
 refine s1 (d:=dG aj aY) (au (am.id _ _) ap) ?_
 refine s1 (kP ([aY]:List av) aj oJ ap) ?_
 refine scb h ff fun x1 h=>?_
 refine sa ?_
 refine .nil (hK _ _ (cdh h rfl (fun bb h=>?_) (fun bb h=>?_)))
 refine rs hx fun K hK=>?_
 refine scb h ib fun x4 h=>?_
 refine s0 (aE (b':=x4) (am.id _ _) ap) ?_
 refine .nil (hK _ _ (AW.ret ?_))
 cases h
 exact rv1
 refine AW.skip (rs hx fun K hK=>?_)
 refine sa ?_
 refine s1 (au (aT aY) aA) ?_
 refine scb h dQ fun x6 h=>?_
 refine s0 (aE (b':=x6) (am.id _ _) ap) ?_
 refine .nil (hK _ _ (AW.ret ?_))
 cases h
 exact rv1
def iY :Int×Int→Option ((Int×Int)⊕Int):=fun (bx,lb)=>cnd (decide (lb≠(0:Int))) (gd (lb≠0) (some (.inl (lb,Int.tmod bx lb)))) (some (.inr bx))
def cU(JW:av→av→Option av)(aN:av)(aV:av):Option av:=bnd (cO [aN,aV]) fun x1=>cnd (!x1) (bnd (eN) fun x4=>some x4) (bnd (S:=Bool) (bnd (eZ aN.vW) fun x6=>cnd (decide (x6≤(2:Int))) (bnd (eZ aV.vW) fun x9=>some (decide (x9≤(2:Int)))) (some (false))) fun nD=>cnd nD (bnd (some (ior .u64 (w7 .u64 (u64.wrap ((aN.vW)[((1:Int)).toNat]!)) (32:Int)) (u64.wrap ((aN.vW)[((0:Int)).toNat]!)))) fun nL=>bnd (some (ior .u64 (w7 .u64 (u64.wrap ((aV.vW)[((1:Int)).toNat]!)) (32:Int)) (u64.wrap ((aV.vW)[((0:Int)).toNat]!)))) fun rf=>bnd (bS (iY) (nL,rf)) fun eI=>bnd (bV false (#v[u32.wrap (eI),u32.wrap (lX .u64 eI (32:Int)),0,0,0,0,0,0,0,0,0,0,0,0,0,0])) fun Ax=>some Ax) (cnd (decide (¬(aV.vW=#v[(0:Int),0,0,0,0,0,0,0,0,0,0,0,0,0,0,0]))) (bnd (fS aN.vW aV.vW) fun xu=>bnd (bV false aV.vW) fun zY=>bnd (bV false xu.2) fun AQ=>bnd (JW zY AQ) fun EV=>some EV) (bnd (pj aN) fun vS=>some vS)))
set_option maxHeartbeats 4000000 in
theorem Dt {JW:av→av→Option av}(ih:∀{aN:av} {aV:av} {r:av},JW aN aV=some r→ax Tryz.prog 122 [dG aj aN,dG aj aV] (dG aj r)){aN:av}{aV:av}{r:av}(h:cU JW aN aV=some r):ax Tryz.prog 122 [dG aj aN,dG aj aV] (dG aj r):=by
 refine bE (rs:=[.cell 4 41]) (fun cx hx h0=>?_) Tryz.func122
 unfold cU at h
 refine rs hx fun K hK=>?_
 iterate 2 refine sa ?_
 refine s1 (bm (F:=aj.f be) ap) ?_
 refine .nil (hK _ _ (AW.seq (rs hx fun K hK=>?_)))
 refine s1 (d:=dG aj aN) (au (am.id _ _) ap) ?_
 refine s1 (d:=dG aj aV) (au (am.id _ _) ap) ?_
 refine s1 (kP ([aN,aV]:List av) aj oJ ap) ?_
 refine scb h ff fun x1 h=>?_
 refine sa ?_
 refine .nil (hK _ _ (cdh h rfl (fun bb h=>?_) (fun bb h=>?_)))
 refine rs hx fun K hK=>?_
 refine scb h ib fun x4 h=>?_
 refine s0 (aE (b':=x4) (am.id _ _) ap) ?_
 refine .nil (hK _ _ (AW.ret ?_))
 cases h
 exact rv1
 refine AW.skip ?_
 iterate 2 refine AW.seq ?_
 obtain⟨nD,hy,h⟩:=ab h
 refine jn ((PE cx .normal (fun nD=>[(2,.pt 0 0),(3,.pt 1 0),(4,.pt 2 0),(26,dB nD)]) fun nD=>⟨[(0,dC (aj.f aN)),(1,dC (aj.f aV)),(2,dC (aj.f be))],[],3⟩) nD) ?_ ?_
 replace h:=hy
 refine rq hx fun K hK=>?_
 refine sa ?_
 refine s1 (au (aT aN) aA) ?_
 refine scb h kr fun x6 h=>?_
 iterate 2 refine sa ?_
 rcases aD (decide (x6≤(2:Int))) with iS|iS
 replace h:=aP iS h
 refine ga iS ?_
 refine g1 iS (au (aT aV) aA) ?_
 obtain⟨x9,rW,h⟩:=ab h
 refine g1 iS (bj rfl (kr rW) (by simp only[dJ,eD,cH,bP,bB,bq];exact aI _ _) (lA (cD _ _) lAn) (.inl rfl)) ?_
 refine ga iS ?_
 refine s1 (aw iS) ?_
 refine .nil (hK _ _ ?_)
 cases h
 exact pe0 h0 [0,1,2]
 replace h:=aQ iS h
 iterate 4 refine aH rfl rfl iS ?_
 refine s1 (al iS) ?_
 refine .nil (hK _ _ ?_)
 cases h
 exact pe0 h0 [0,1,2]
 rintro ex tm' hp' ⟨rfl,hw⟩
 refine AW.weak hw (cdh h rfl (fun iK h=>?_) (fun iK h=>?_))
 refine rsd [] hx fun K hK=>?_
 refine sa ?_
 have FB:((1:Int)).toNat<16:=by omega
 refine s1 (cJ (by decide:0≤(1:Int)∧(1:Int)<((16:Nat):Int)) aA aG) ?_
 refine s1 (aW (am.comp (aT aN) (am.vec (cI .u32) aN.vW ((1:Int)).toNat FB) (fun _=>rfl)) aG) ?_
 iterate 3 refine sa ?_
 have hn14:((0:Int)).toNat<16:=by omega
 refine s1 (cJ (by decide:0≤(0:Int)∧(0:Int)<((16:Nat):Int)) aA aG) ?_
 refine s1 (aW (am.comp (aT aN) (am.vec (cI .u32) aN.vW ((0:Int)).toNat hn14) (fun _=>rfl)) aG) ?_
 iterate 3 refine sa ?_
 have Ob:((1:Int)).toNat<16:=by omega
 refine s1 (cJ (by decide:0≤(1:Int)∧(1:Int)<((16:Nat):Int)) aA aG) ?_
 refine s1 (aW (am.comp (aT aV) (am.vec (cI .u32) aV.vW ((1:Int)).toNat Ob) (fun _=>rfl)) aG) ?_
 iterate 3 refine sa ?_
 have DK:((0:Int)).toNat<16:=by omega
 refine s1 (cJ (by decide:0≤(0:Int)∧(0:Int)<((16:Nat):Int)) aA aG) ?_
 refine s1 (aW (am.comp (aT aV) (am.vec (cI .u32) aV.vW ((0:Int)).toNat DK) (fun _=>rfl)) aG) ?_
 iterate 2 refine sa ?_
 obtain⟨nL,uf,h⟩:=ab h
 replace uf:=bQ uf
 refine s2 (d2:=dI .u64 nL) ly (gq (congrArg (dI .u64) uf)) ?_
 obtain⟨rf,v4,h⟩:=ab h
 replace v4:=bQ v4
 refine s2 (d2:=dI .u64 rf) ly (gq (congrArg (dI .u64) v4)) ?_
 refine .nil (hK _ _ (AW.seq (AW.block ?_)))
 obtain⟨eI,hy,h⟩:=ab h
 refine lp (S:=Int×Int) (X:=Int) (fun (bx,lb)=>[(4,.pt 0 0),(5,dI .u64 bx),(6,dI .u64 lb)]) (fun (bx,lb)=>⟨[(0,dC (aj.f be))],[],1⟩) (PE cx (.exit 0) (fun eI=>[(4,.pt 0 0),(5,dI .u64 eI)]) fun eI=>⟨[(0,dC (aj.f be))],[],1⟩) hy ?_ ?_ ?_
 exact wk h0 [2] (wR rfl (wR rfl (wR rfl wTn))) (vC rfl wVn) wLn
 clear hy h
 rintro⟨bx,lb⟩ y h
 dsimp only[iY] at h
 refine AW.seq (ra hx ?_)
 refine cdh h rfl (fun uS h=>?_) (fun uS h=>?_)
 refine AW.skip (AW.block (rqd [] hx fun K hK=>?_))
 iterate 3 refine sa ?_
 obtain⟨I6,h⟩:=aC h
 refine s1 (CT I6) ?_
 iterate 2 refine sa ?_
 refine .nil (hK _ _ ?_)
 cases h
 exact PS.l (pe0 h0 [0])
 refine AW.exit ?_
 try dsimp only
 try simp only[aU,reduceIte,Nat.reduceEqDiff,reduceCtorEq]
 cases h
 exact PS.r ⟨by nofun,PE.i (wk h0 [0] (wR rfl (wR rfl wTn)) (vC rfl wVn) wLn)⟩
 rintro ex tm' hp' ⟨rfl,hw⟩
 try dsimp only
 try simp only[aU,reduceIte,Nat.reduceEqDiff,reduceCtorEq]
 refine AW.weak hw (rs hx fun K hK=>?_)
 iterate 5 refine sa ?_
 refine s1 (d:=dG (cA 16 (cI .u32)) (#v[u32.wrap (eI),u32.wrap (lX .u64 eI (32:Int)),0,0,0,0,0,0,0,0,0,0,0,0,0,0])) (mj aA aG) ?_
 refine scb h dQ fun Ax h=>?_
 refine s0 (aE (b':=Ax) (am.id _ _) ap) ?_
 refine .nil (hK _ _ (AW.ret ?_))
 cases h
 exact rv1
 refine AW.skip ?_
 iterate 2 refine AW.seq ?_
 refine jn (PE cx .normal (fun (_:Unit)=>[(2,.pt 0 0),(4,.pt 1 0),(7,.pt 2 0),(8,.pt 3 0)]) (fun (_:Unit)=>⟨[(0,dC (aj.f aN)),(1,dC (aj.f be)),(2,dC ((cA 16 (cI .u32)).f aN.vW)),(3,dC ((cA 16 (cI .u32)).f aV.vW))],[],4⟩) ()) ?_ ?_
 refine dw (DW.split 4 5 (by decide) ?_ ?_)
 refine DW.split 3 6 (by decide) ?_ ?_
 refine dwg [] [0,1,2,3,4,5,6,7] hx (by kernel_rfl) (by kernel_rfl) (by kernel_rfl) fun K hK=>?_
 dsimp only[et,mA,mK,List.map]
 refine sa ?_
 refine s1 (au (aT aN) aA) ?_
 refine sa ?_
 refine s1 (au (aT aV) aA) ?_
 iterate 2 refine s1 (bm (F:=(cA 16 (cI .u32)).f (cy)) aA) ?_
 refine s0 (aE (b':=aN.vW) (am.id _ _) aA) ?_
 refine s0 (aE (b':=aV.vW) (am.id _ _) aA) ?_
 exact .nil (hK _ _ (pe0 h0 [0,2,3,4]))
 refine dwg [] [0,1,2,4,5,6,3,7] hx (by kernel_rfl) (by kernel_rfl) (by kernel_rfl) fun K hK=>?_
 dsimp only[et,mA,mK,List.map]
 refine sa ?_
 refine s1 (au (aT aN) aA) ?_
 refine sa ?_
 iterate 2 refine s1 (bm (F:=(cA 16 (cI .u32)).f (cy)) aA) ?_
 refine s0 (aE (b':=aN.vW) (am.id _ _) aA) ?_
 refine s1 (au (aT aV) aA) ?_
 refine s0 (aE (b':=aV.vW) (am.id _ _) aA) ?_
 exact .nil (hK _ _ (pe0 h0 [0,2,3,4]))
 refine DW.split 3 6 (by decide) ?_ ?_
 refine dwg [] [0,1,2,3,5,4,6,7] hx (by kernel_rfl) (by kernel_rfl) (by kernel_rfl) fun K hK=>?_
 dsimp only[et,mA,mK,List.map]
 refine sa ?_
 refine s1 (au (aT aN) aA) ?_
 refine sa ?_
 refine s1 (au (aT aV) aA) ?_
 iterate 2 refine s1 (bm (F:=(cA 16 (cI .u32)).f (cy)) aA) ?_
 refine s0 (aE (b':=aN.vW) (am.id _ _) aA) ?_
 refine s0 (aE (b':=aV.vW) (am.id _ _) aA) ?_
 exact .nil (hK _ _ (pe0 h0 [0,2,4,3]))
 refine dwg [] [0,1,2,5,4,6,3,7] hx (by kernel_rfl) (by kernel_rfl) (by kernel_rfl) fun K hK=>?_
 dsimp only[et,mA,mK,List.map]
 refine sa ?_
 refine s1 (au (aT aN) aA) ?_
 refine sa ?_
 iterate 2 refine s1 (bm (F:=(cA 16 (cI .u32)).f (cy)) aA) ?_
 refine s0 (aE (b':=aN.vW) (am.id _ _) aA) ?_
 refine s1 (au (aT aV) aA) ?_
 refine s0 (aE (b':=aV.vW) (am.id _ _) aA) ?_
 exact .nil (hK _ _ (pe0 h0 [0,2,4,3]))
 rintro ex tm' hp' ⟨rfl,hw⟩
 refine AW.weak hw (rs hx fun K hK=>?_)
 refine s1 (d:=dG (cA 16 (cI .u32)) aV.vW) (au (am.id _ _) aA) ?_
 refine s1 (d:=dG (cA 16 (cI .u32)) (#v[(0:Int),0,0,0,0,0,0,0,0,0,0,0,0,0,0,0])) (mj aA aG) ?_
 refine s1 (CV tok 2 (by decide) (EqC.arr (EqC.int (d:=0) aG) aA aG) aA) ?_
 refine .nil (hK _ _ (cdh h rfl (fun hb26 h=>?_) (fun hb26 h=>?_)))
 refine rs hx fun K hK=>?_
 refine s1 (d:=dG (cA 16 (cI .u32)) aN.vW) (au (am.id _ _) aA) ?_
 refine s1 (d:=dG (cA 16 (cI .u32)) aV.vW) (au (am.id _ _) aA) ?_
 refine scb h se fun xu h=>?_
 iterate 3 refine sa ?_
 iterate 2 refine s1 (bm (F:=(cA 16 (cI .u32)).f (cy)) aA) ?_
 refine s0 (aE (b':=xu.1) (am.id _ _) aA) ?_
 refine s0 (aE (b':=xu.2) (am.id _ _) aA) ?_
 refine .nil (hK _ _ (rsd [145,122] hx fun K hK=>?_))
 refine s1 (d:=dG (cA 16 (cI .u32)) aV.vW) (au (am.id _ _) aA) ?_
 refine cqb h dQ fun zY h=>?_
 refine s1 (d:=dG (cA 16 (cI .u32)) xu.2) (au (am.id _ _) aA) ?_
 refine cqb h dQ fun AQ h=>?_
 refine cqb h ih fun EV h=>?_
 refine s0 (aE (b':=EV) (am.id _ _) ap) ?_
 refine .nil (hK _ _ (AW.ret ?_))
 cases h
 exact rv1
 refine AW.skip (rs hx fun K hK=>?_)
 refine s1 (d:=dG aj aN) (au (am.id _ _) ap) ?_
 refine scb h Gy fun vS h=>?_
 refine s0 (aE (b':=vS) (am.id _ _) ap) ?_
 refine .nil (hK _ _ (AW.ret ?_))
 cases h
 exact rv1
def ii:Nat→av→av→Option av
 |0=>fun _ _=>none
 |n+1=>cU (ii n)
theorem wh:∀(n:Nat) {aN:av} {aV:av} {r:av},ii n aN aV=some r→ax Tryz.prog 122 [dG aj aN,dG aj aV] (dG aj r)
 |0,_,_,_,h=>by cases h
 |n+1,_,_,_,h=>Dt (wh n) h
def nt(aN:av)(aV:av):Option av:=ii 1000 aN aV
theorem uo {aN:av}{aV:av}{r:av}(h:nt aN aV=some r):ax Tryz.prog 122 [dG aj aN,dG aj aV] (dG aj r):=wh 1000 h
def iV(aN:av)(aV:av):Option (av×av):=bnd (S:=Bool) (bnd (cO [aN,aV]) fun x1=>cnd (!x1) (some (true)) (bnd (fk aV) fun x4=>some (decide (x4=(0:Int))))) fun dY=>cnd dY (bnd (eN) fun x8=>bnd (eN) fun jA=>some (x8,jA)) (bnd (S:=Unit⊕(av×av)) (bnd (lh aN) fun jB=>bnd (S:=Bool) (cnd jB.2 (some (decide (jB.1≠(-9223372036854775808:Int)))) (some (false))) fun gN=>cnd gN (bnd (lh aV) fun nL=>bnd (S:=Bool) (cnd nL.2 (some (decide (nL.1≠(-9223372036854775808:Int)))) (some (false))) fun j7=>cnd j7 (gd (nL.1≠0) (gd (nL.1≠0) (bnd (S:=Int×Int) (bnd (S:=Bool) (cnd (decide ((Int.tmod jB.1 nL.1)≠(0:Int))) (some (!((decide ((Int.tmod jB.1 nL.1)<(0:Int))) == (decide (nL.1<(0:Int)))))) (some (false))) fun qW=>cnd qW (bnd (some (i64.wrap ((i64.wrap (Int.tdiv jB.1 nL.1)) - (1:Int)))) fun xu=>bnd (some (i64.wrap ((Int.tmod jB.1 nL.1)+nL.1))) fun zY=>some ((xu,zY))) (some ((i64.wrap (Int.tdiv jB.1 nL.1),Int.tmod jB.1 nL.1)))) fun (j6,pU)=>bnd (gS j6) fun Ie=>bnd (gS pU) fun Me=>some (.inr (Ie,Me))))) (some (.inl ()))) (some (.inl ()))) fun y36=>match y36 with| .inl ()=>bnd (fS aN.vW aV.vW) fun xw=>bnd (bV (!(aN.vNeg == aV.vNeg)) xw.1) fun Da=>bnd (S:=(Vector Int 16)×av) (bnd (S:=Bool) (cnd (decide (¬(xw.2=#v[(0:Int),0,0,0,0,0,0,0,0,0,0,0,0,0,0,0]))) (some (!(aN.vNeg == aV.vNeg))) (some (false))) fun As=>cnd As (bnd (gS (1:Int)) fun x44=>bnd (nq Da x44) fun x46=>bnd (ie aV.vW xw.2) fun x48=>some ((x48,x46))) (some ((xw.2,Da)))) fun (At,yu)=>bnd (bV aV.vNeg At) fun x51=>some (yu,x51)| .inr r=>some r)
set_option maxHeartbeats 4000000 in
theorem tS {aN:av}{aV:av}{r:av×av}(h:iV aN aV=some r):ax Tryz.prog 150 [dG aj aN,dG aj aV] (.tu [dG aj r.1,dG aj r.2]):=by
 refine bE (rs:=[.cell 4 41,.cell 5 41]) (fun cx hx h0=>?_) Tryz.func150
 unfold iV at h
 refine rs hx fun K hK=>?_
 iterate 2 refine sa ?_
 iterate 2 refine s1 (bm (F:=aj.f be) ap) ?_
 refine .nil (hK _ _ ?_)
 iterate 2 refine AW.seq ?_
 obtain⟨dY,hy,h⟩:=ab h
 refine jn ((PE cx .normal (fun dY=>[(2,.pt 0 0),(3,.pt 1 0),(4,.pt 2 0),(5,.pt 3 0),(24,dB dY)]) fun dY=>⟨[(0,dC (aj.f aN)),(1,dC (aj.f aV)),(2,dC (aj.f be)),(3,dC (aj.f be))],[],4⟩) dY) ?_ ?_
 replace h:=hy
 refine rq hx fun K hK=>?_
 refine s1 (d:=dG aj aN) (au (am.id _ _) ap) ?_
 refine s1 (d:=dG aj aV) (au (am.id _ _) ap) ?_
 refine s1 (kP ([aN,aV]:List av) aj oJ ap) ?_
 refine scb h ff fun x1 h=>?_
 iterate 2 refine sa ?_
 rcases aD (!x1) with bb|bb
 replace h:=aP bb h
 iterate 3 refine aH rfl rfl bb ?_
 refine s1 (aw bb) ?_
 refine .nil (hK _ _ ?_)
 cases h
 exact pe0 h0 [0,1,2,3]
 replace h:=aQ bb h
 refine g1 (d:=dG aj aV) bb (au (am.id _ _) ap) ?_
 obtain⟨x4,p6,h⟩:=ab h
 refine g1 bb (bj rfl (ku p6) (by simp only[dJ,eD,cH,bP,bB,bq];exact aI _ _) (lA (cD _ _) lAn) (.inl rfl)) ?_
 refine ga bb ?_
 refine s1 (al bb) ?_
 refine .nil (hK _ _ ?_)
 cases h
 exact pe0 h0 [0,1,2,3]
 rintro ex tm' hp' ⟨rfl,hw⟩
 refine AW.weak hw (cdh h rfl (fun qz h=>?_) (fun qz h=>?_))
 refine rs hx fun K hK=>?_
 refine scb h ib fun x8 h=>?_
 refine scb h ib fun jA h=>?_
 refine s0 (aE (b':=x8) (am.id _ _) ap) ?_
 refine s0 (aE (b':=jA) (am.id _ _) ap) ?_
 refine .nil (hK _ _ (AW.ret ?_))
 cases h
 exact rv2
 refine AW.skip (AW.seq ?_)
 obtain⟨y,hy,h⟩:=ab h
 refine jn ((PS (PE cx .normal (fun ()=>[(2,.pt 0 0),(3,.pt 1 0),(4,.pt 2 0),(5,.pt 3 0)]) fun ()=>⟨[(0,dC (aj.f aN)),(1,dC (aj.f aV)),(2,dC (aj.f be)),(3,dC (aj.f be))],[],4⟩) (PR [.cell 4 41,.cell 5 41] fun r=>.tu [dG aj r.1,dG aj r.2])) y) ?_ ?_
 replace h:=hy
 refine rs hx fun K hK=>?_
 refine s1 (d:=dG aj aN) (au (am.id _ _) ap) ?_
 refine scb h wg fun jB h=>?_
 iterate 5 refine sa ?_
 refine .nil (hK _ _ (AW.seq ?_))
 obtain⟨gN,hy,h⟩:=ab h
 refine jn ((PE cx .normal (fun gN=>[(2,.pt 0 0),(3,.pt 1 0),(4,.pt 2 0),(5,.pt 3 0),(6,dI .i64 jB.1),(36,dB gN)]) fun gN=>⟨[(0,dC (aj.f aN)),(1,dC (aj.f aV)),(2,dC (aj.f be)),(3,dC (aj.f be))],[],4⟩) gN) ?_ ?_
 replace h:=hy
 refine rq hx fun K hK=>?_
 iterate 2 refine sa ?_
 rcases aD jB.2 with jM|jM
 replace h:=aP jM h
 iterate 2 refine ga jM ?_
 refine s1 (aw jM) ?_
 refine .nil (hK _ _ ?_)
 cases h
 exact pe0 h0 [0,1,2,3]
 replace h:=aQ jM h
 iterate 2 refine aH rfl rfl jM ?_
 refine s1 (al jM) ?_
 refine .nil (hK _ _ ?_)
 cases h
 exact pe0 h0 [0,1,2,3]
 rintro ex tm' hp' ⟨rfl,hw⟩
 refine AW.weak hw (cdh h rfl (fun nS h=>?_) (fun nS h=>?_))
 refine rs hx fun K hK=>?_
 refine s1 (d:=dG aj aV) (au (am.id _ _) ap) ?_
 refine scb h wg fun nL h=>?_
 iterate 5 refine sa ?_
 refine .nil (hK _ _ (AW.seq ?_))
 obtain⟨j7,hy,h⟩:=ab h
 refine jn ((PE cx .normal (fun j7=>[(2,.pt 0 0),(3,.pt 1 0),(4,.pt 2 0),(5,.pt 3 0),(6,dI .i64 jB.1),(8,dI .i64 nL.1),(46,dB j7)]) fun j7=>⟨[(0,dC (aj.f aN)),(1,dC (aj.f aV)),(2,dC (aj.f be)),(3,dC (aj.f be))],[],4⟩) j7) ?_ ?_
 replace h:=hy
 refine rq hx fun K hK=>?_
 iterate 2 refine sa ?_
 rcases aD nL.2 with uj|uj
 replace h:=aP uj h
 iterate 2 refine ga uj ?_
 refine s1 (aw uj) ?_
 refine .nil (hK _ _ ?_)
 cases h
 exact pe0 h0 [0,1,2,3]
 replace h:=aQ uj h
 iterate 2 refine aH rfl rfl uj ?_
 refine s1 (al uj) ?_
 refine .nil (hK _ _ ?_)
 cases h
 exact pe0 h0 [0,1,2,3]
 rintro ex tm' hp' ⟨rfl,hw⟩
 refine AW.weak hw (cdh h rfl (fun uS h=>?_) (fun uS h=>?_))
 refine rsd [] hx fun K hK=>?_
 iterate 2 refine sa ?_
 obtain⟨I6,h⟩:=aC h
 refine s1 (EO I6) ?_
 iterate 2 refine sa ?_
 obtain⟨hc23,h⟩:=aC h
 refine s1 (CT hc23) ?_
 iterate 2 refine sa ?_
 refine .nil (hK _ _ (AW.seq ?_))
 obtain⟨y,hy,h⟩:=ab h
 refine jn ((PE cx .normal (fun (j6,pU)=>[(4,.pt 0 0),(5,.pt 1 0),(10,dI .i64 j6),(11,dI .i64 pU)]) fun (j6,pU)=>⟨[(0,dC (aj.f be)),(1,dC (aj.f be))],[],2⟩) y) ?_ ?_
 replace h:=hy
 refine AW.seq ?_
 obtain⟨qW,hy,h⟩:=ab h
 refine jn ((PE cx .normal (fun qW=>[(4,.pt 0 0),(5,.pt 1 0),(8,dI .i64 nL.1),(10,dI .i64 (i64.wrap (Int.tdiv jB.1 nL.1))),(11,dI .i64 (Int.tmod jB.1 nL.1)),(61,dB qW)]) fun qW=>⟨[(0,dC (aj.f be)),(1,dC (aj.f be))],[],2⟩) qW) ?_ ?_
 replace h:=hy
 refine rq hx fun K hK=>?_
 iterate 3 refine sa ?_
 rcases aD (decide ((Int.tmod jB.1 nL.1)≠(0:Int))) with sy|sy
 replace h:=aP sy h
 iterate 5 refine ga sy ?_
 refine s1 (aw sy) ?_
 refine .nil (hK _ _ ?_)
 cases h
 exact pe0 h0 [2,3]
 replace h:=aQ sy h
 iterate 5 refine aH rfl rfl sy ?_
 refine s1 (al sy) ?_
 refine .nil (hK _ _ ?_)
 cases h
 exact pe0 h0 [2,3]
 rintro ex tm' hp' ⟨rfl,hw⟩
 refine AW.weak hw (cdh h rfl (fun hb26 h=>?_) (fun hb26 h=>?_))
 refine rq hx fun K hK=>?_
 iterate 5 refine sa ?_
 obtain⟨xu,BS,h⟩:=ab h
 replace BS:=bQ BS
 refine s2 (d2:=dI .i64 xu) ly (gq (congrArg (dI .i64) BS)) ?_
 obtain⟨zY,NG,h⟩:=ab h
 replace NG:=bQ NG
 refine s2 (d2:=dI .i64 zY) ly (gq (congrArg (dI .i64) NG)) ?_
 refine .nil (hK _ _ ?_)
 cases h
 exact pe0 h0 [0,1]
 refine AW.skip ?_
 cases h
 exact pe0 h0 [0,1]
 obtain⟨j6,pU⟩:=y
 rintro ex tm' hp' ⟨rfl,hw⟩
 refine AW.weak hw (rs hx fun K hK=>?_)
 refine sa ?_
 refine scb h ql fun Ie h=>?_
 refine sa ?_
 refine scb h ql fun Me h=>?_
 refine s0 (aE (b':=Ie) (am.id _ _) ap) ?_
 refine s0 (aE (b':=Me) (am.id _ _) ap) ?_
 refine .nil (hK _ _ (AW.ret ?_))
 cases h
 refine PS.r (PR.i ?_)
 exact rv2
 refine AW.skip ?_
 cases h
 exact PS.l (pe0 h0 [0,1,2,3])
 refine AW.skip ?_
 cases h
 exact PS.l (pe0 h0 [0,1,2,3])
 rcases y with⟨⟩|r
 rintro ex tm' hp' ⟨rfl,hw⟩
 refine AW.weak hw (rs hx fun K hK=>?_)
 refine sa ?_
 refine s1 (au (aT aN) aA) ?_
 refine sa ?_
 refine s1 (au (aT aV) aA) ?_
 refine scb h se fun xw h=>?_
 iterate 3 refine sa ?_
 iterate 2 refine s1 (bm (F:=(cA 16 (cI .u32)).f (cy)) aA) ?_
 refine s0 (aE (b':=xw.1) (am.id _ _) aA) ?_
 refine s0 (aE (b':=xw.2) (am.id _ _) aA) ?_
 refine .nil (hK _ _ (rs hx fun K hK=>?_))
 refine sa ?_
 refine s1 (aW (aR aN) eY) ?_
 refine sa ?_
 refine s1 (aW (aR aV) eY) ?_
 refine sa ?_
 refine s1 (d:=dG (cA 16 (cI .u32)) xw.1) (au (am.id _ _) aA) ?_
 refine scb h dQ fun Da h=>?_
 refine s1 (bm (F:=aj.f be) ap) ?_
 refine s0 (aE (b':=Da) (am.id _ _) ap) ?_
 refine .nil (hK _ _ (AW.seq ?_))
 obtain⟨y,hy,h⟩:=ab h
 refine jn ((PE cx .normal (fun (At,yu)=>[(3,.pt 0 0),(4,.pt 1 0),(5,.pt 2 0),(13,.pt 3 0),(14,.pt 4 0)]) fun (At,yu)=>⟨[(0,dC (aj.f aV)),(1,dC (aj.f be)),(2,dC (aj.f be)),(3,dC ((cA 16 (cI .u32)).f At)),(4,dC (aj.f yu))],[],5⟩) y) ?_ ?_
 replace h:=hy
 refine AW.seq ?_
 obtain⟨As,hy,h⟩:=ab h
 refine jn ((PE cx .normal (fun As=>[(3,.pt 0 0),(4,.pt 1 0),(5,.pt 2 0),(13,.pt 3 0),(14,.pt 4 0),(95,dB As)]) fun As=>⟨[(0,dC (aj.f aV)),(1,dC (aj.f be)),(2,dC (aj.f be)),(3,dC ((cA 16 (cI .u32)).f xw.2)),(4,dC (aj.f Da))],[],5⟩) As) ?_ ?_
 replace h:=hy
 refine rq hx fun K hK=>?_
 refine s1 (d:=dG (cA 16 (cI .u32)) xw.2) (au (am.id _ _) aA) ?_
 refine s1 (d:=dG (cA 16 (cI .u32)) (#v[(0:Int),0,0,0,0,0,0,0,0,0,0,0,0,0,0,0])) (mj aA aG) ?_
 refine s1 (CV tok 2 (by decide) (EqC.arr (EqC.int (d:=0) aG) aA aG) aA) ?_
 refine sa ?_
 rcases aD (decide (¬(xw.2=#v[(0:Int),0,0,0,0,0,0,0,0,0,0,0,0,0,0,0]))) with B8|B8
 replace h:=aP B8 h
 refine ga B8 ?_
 refine g1 B8 (aW (aR aN) eY) ?_
 refine ga B8 ?_
 refine g1 B8 (aW (aR aV) eY) ?_
 refine ga B8 ?_
 refine s1 (aw B8) ?_
 refine .nil (hK _ _ ?_)
 cases h
 exact pe0 h0 [1,2,3,5,6]
 replace h:=aQ B8 h
 iterate 5 refine aH rfl rfl B8 ?_
 refine s1 (al B8) ?_
 refine .nil (hK _ _ ?_)
 cases h
 exact pe0 h0 [1,2,3,5,6]
 rintro ex tm' hp' ⟨rfl,hw⟩
 refine AW.weak hw (cdh h rfl (fun hb43 h=>?_) (fun hb43 h=>?_))
 refine rqd [91,181,165] hx fun K hK=>?_
 refine s1 (d:=dG aj Da) (au (am.id _ _) ap) ?_
 refine cqb h ql fun x44 h=>?_
 refine cqb h Gw fun x46 h=>?_
 refine sa ?_
 refine s1 (au (aT aV) aA) ?_
 refine s1 (d:=dG (cA 16 (cI .u32)) xw.2) (au (am.id _ _) aA) ?_
 refine cqb h rP fun x48 h=>?_
 refine s0 (aE (b':=x46) (am.id _ _) ap) ?_
 refine s0 (aE (b':=x48) (am.id _ _) aA) ?_
 refine .nil (hK _ _ ?_)
 cases h
 exact pe0 h0 [0,1,2,3,4]
 refine AW.skip ?_
 cases h
 exact pe0 h0 [0,1,2,3,4]
 obtain⟨At,yu⟩:=y
 rintro ex tm' hp' ⟨rfl,hw⟩
 refine AW.weak hw (rsd [145] hx fun K hK=>?_)
 refine s1 (d:=dG aj yu) (au (am.id _ _) ap) ?_
 refine sa ?_
 refine s1 (aW (aR aV) eY) ?_
 refine s1 (d:=dG (cA 16 (cI .u32)) At) (au (am.id _ _) aA) ?_
 refine cqb h dQ fun x51 h=>?_
 refine s0 (aE (b':=yu) (am.id _ _) ap) ?_
 refine s0 (aE (b':=x51) (am.id _ _) ap) ?_
 refine .nil (hK _ _ (AW.ret ?_))
 cases h
 exact rv2
 rintro ex tm' hp' ⟨rfl,hw⟩
 cases h
 exact hw
def ig(aN:av)(aV:av):Option av:=bnd (iV aN aV) fun x1=>some x1.1
theorem kb {aN:av}{aV:av}{r:av}(h:ig aN aV=some r):ax Tryz.prog 97 [dG aj aN,dG aj aV] (dG aj r):=by
 refine bE (rs:=[.cell 4 41]) (fun cx hx h0=>?_) Tryz.func97
 unfold ig at h
 refine rs hx fun K hK=>?_
 iterate 2 refine sa ?_
 refine s1 (bm (F:=aj.f be) ap) ?_
 refine .nil (hK _ _ (rs hx fun K hK=>?_))
 refine s1 (d:=dG aj aN) (au (am.id _ _) ap) ?_
 refine s1 (d:=dG aj aV) (au (am.id _ _) ap) ?_
 refine scb h tS fun x1 h=>?_
 iterate 3 refine sa ?_
 iterate 2 refine s1 (bm (F:=aj.f be) ap) ?_
 refine s0 (aE (b':=x1.1) (am.id _ _) ap) ?_
 refine s0 (aE (b':=x1.2) (am.id _ _) ap) ?_
 refine .nil (hK _ _ (rs hx fun K hK=>?_))
 refine s1 (d:=dG aj x1.1) (au (am.id _ _) ap) ?_
 refine s0 (aE (b':=x1.1) (am.id _ _) ap) ?_
 refine .nil (hK _ _ (AW.ret ?_))
 cases h
 exact rv1
def nr(aN:av)(aV:av):Option av:=bnd (iV aN aV) fun x1=>some x1.2
theorem rp {aN:av}{aV:av}{r:av}(h:nr aN aV=some r):ax Tryz.prog 98 [dG aj aN,dG aj aV] (dG aj r):=by
 refine bE (rs:=[.cell 4 41]) (fun cx hx h0=>?_) Tryz.func98
 unfold nr at h
 refine rs hx fun K hK=>?_
 iterate 2 refine sa ?_
 refine s1 (bm (F:=aj.f be) ap) ?_
 refine .nil (hK _ _ (rs hx fun K hK=>?_))
 refine s1 (d:=dG aj aN) (au (am.id _ _) ap) ?_
 refine s1 (d:=dG aj aV) (au (am.id _ _) ap) ?_
 refine scb h tS fun x1 h=>?_
 iterate 3 refine sa ?_
 iterate 2 refine s1 (bm (F:=aj.f be) ap) ?_
 refine s0 (aE (b':=x1.1) (am.id _ _) ap) ?_
 refine s0 (aE (b':=x1.2) (am.id _ _) ap) ?_
 refine .nil (hK _ _ (rs hx fun K hK=>?_))
 refine s1 (d:=dG aj x1.2) (au (am.id _ _) ap) ?_
 refine s0 (aE (b':=x1.2) (am.id _ _) ap) ?_
 refine .nil (hK _ _ (AW.ret ?_))
 cases h
 exact rv1
def pi(aN:av)(aV:av):Option Int:=bnd (cO [aN]) fun x1=>bnd (cO [aV]) fun x3=>bnd (S:=Bool) (cnd (!x1) (some (!x3)) (some (false))) fun LX=>cnd LX (some (0:Int)) (cnd (!x1) (some (-1:Int)) (cnd (!x3) (some (1:Int)) (cnd (!(aN.vNeg == aV.vNeg)) (cnd aN.vNeg (some (-1:Int)) (some (1:Int))) (cnd aN.vNeg (bnd (ic aV.vW aN.vW) fun mX=>some mX) (bnd (ic aN.vW aV.vW) fun Gk=>some Gk)))))
set_option maxHeartbeats 4000000 in
theorem Gx {aN:av}{aV:av}{r:Int}(h:pi aN aV=some r):ax Tryz.prog 96 [dG aj aN,dG aj aV] (dI .i64 r):=by
 refine bE (rs:=[.tmp 4]) (fun cx hx h0=>?_) Tryz.func96
 unfold pi at h
 refine ra hx ?_
 refine rsd [147] hx fun K hK=>?_
 refine s1 (d:=dG aj aN) (au (am.id _ _) ap) ?_
 refine s1 (KD ([aN]:List av) aj oJ ap) ?_
 refine cqb h ff fun x1 h=>?_
 refine s1 (d:=dG aj aV) (au (am.id _ _) ap) ?_
 refine s1 (KD ([aV]:List av) aj oJ ap) ?_
 refine cqb h ff fun x3 h=>?_
 iterate 2 refine sa ?_
 refine .nil (hK _ _ (AW.seq (AW.block (AW.seq ?_))))
 obtain⟨LX,hy,h⟩:=ab h
 refine jn ((PE cx .normal (fun LX=>[(2,.pt 0 0),(3,.pt 1 0),(5,dB x1),(6,dB x3),(13,dB LX)]) fun LX=>⟨[(0,dC (aj.f aN)),(1,dC (aj.f aV))],[],2⟩) LX) ?_ ?_
 replace h:=hy
 refine rq hx fun K hK=>?_
 iterate 3 refine sa ?_
 rcases aD (!x1) with eH|eH
 replace h:=aP eH h
 iterate 2 refine ga eH ?_
 refine s1 (aw eH) ?_
 refine sa ?_
 refine .nil (hK _ _ ?_)
 cases h
 exact pe0 h0 [0,1]
 replace h:=aQ eH h
 iterate 2 refine aH rfl rfl eH ?_
 refine s1 (al eH) ?_
 refine sa ?_
 refine .nil (hK _ _ ?_)
 cases h
 exact pe0 h0 [0,1]
 rintro ex tm' hp' ⟨rfl,hw⟩
 refine AW.weak hw (cdh h rfl (fun qz h=>?_) (fun qz h=>?_))
 refine ra hx ?_
 refine AW.ret ?_
 cases h
 exact rv1
 refine ra hx ?_
 refine cdh h rfl (fun iS h=>?_) (fun iS h=>?_)
 refine ra hx ?_
 refine AW.ret ?_
 cases h
 exact rv1
 refine ra hx ?_
 refine cdh h rfl (fun rY h=>?_) (fun rY h=>?_)
 refine ra hx ?_
 refine AW.ret ?_
 cases h
 exact rv1
 refine rs hx fun K hK=>?_
 refine sa ?_
 refine s1 (aW (aR aN) eY) ?_
 refine sa ?_
 refine s1 (aW (aR aV) eY) ?_
 iterate 2 refine sa ?_
 refine .nil (hK _ _ (cdh h rfl (fun dM h=>?_) (fun dM h=>?_)))
 refine AW.seq (rs hx fun K hK=>?_)
 refine sa ?_
 refine s1 (aW (aR aN) eY) ?_
 refine .nil (hK _ _ (cdh h rfl (fun na h=>?_) (fun na h=>?_)))
 refine ra hx ?_
 refine AW.ret ?_
 cases h
 exact rv1
 refine AW.skip (ra hx ?_)
 refine AW.ret ?_
 cases h
 exact rv1
 refine rs hx fun K hK=>?_
 refine sa ?_
 refine s1 (aW (aR aN) eY) ?_
 refine sa ?_
 refine .nil (hK _ _ (cdh h rfl (fun iK h=>?_) (fun iK h=>?_)))
 refine rs hx fun K hK=>?_
 refine sa ?_
 refine s1 (au (aT aV) aA) ?_
 refine sa ?_
 refine s1 (au (aT aN) aA) ?_
 refine scb h o0 fun mX h=>?_
 refine sa ?_
 refine .nil (hK _ _ (AW.ret ?_))
 cases h
 exact rv1
 refine AW.skip (rs hx fun K hK=>?_)
 refine sa ?_
 refine s1 (au (aT aN) aA) ?_
 refine sa ?_
 refine s1 (au (aT aV) aA) ?_
 refine scb h o0 fun Gk h=>?_
 refine sa ?_
 refine .nil (hK _ _ (AW.ret ?_))
 cases h
 exact rv1
section
theorem vsub {b n A:Nat}(m o:Nat)(h:o+m≤n):vOf m (List.take m (List.drop o (vN b n A).toList))=vN b m (A / b ^ o):=by
 have hl:(List.take m (List.drop o (vN b n A).toList)).length=m:=by
  rw[ey,fB,qJ];omega
 apply nO
 intro j hj
 rw[jw hj]
 have e1:=xI (vOf m (List.take m (List.drop o (vN b n A).toList))) hj
 rw[wQ hl] at e1
 rw[←e1,cz _ j (by omega),List.getElem_take,List.getElem_drop]
 have e2:=jw (b:=b) (A:=A) (j:=o+j) (n:=n) (by omega)
 rw[←xI (vN b n A) (by omega),cz _ (o+j) (by rw[qJ];omega)] at e2
 rw[e2]
 unfold dg
 rw[hJ,gV]
section
variable {b R a B i k:Nat}
def q8(b R a B i k:Nat):Nat:=R % b ^ (i+k)+a*(B % b ^ k)*b ^ i
def xr(b R a B i k:Nat):Nat:=R / b ^ (i+k)*b ^ (i+k)+q8 b R a B i k % b ^ (i+k)
theorem EP:q8 b R a B i (k+1)=q8 b R a B i k+b ^ (i+k)*(dg b R (i+k)+a*dg b B k):=by
 unfold q8
 rw[show i+(k+1)=i+k+1 from rfl,gY,gY (A:=B),tI,tI,cp,hJ b i k]
 have:a*(b ^ k*dg b B k)*b ^ i=b ^ i*b ^ k*(a*dg b B k):=by
  simp only[fC,zQ,cZ]
 rw[this];omega
theorem KF(hb:0<b)(ha:a<b):q8 b R a B i k / b ^ (i+k)<b:=by
 have hp:0<b ^ (i+k):=b9 hb
 rw[lw hp]
 unfold q8
 have h1:=eE R hp
 have h2:a*(B % b ^ k)*b ^ i≤(b - 1)*b ^ (i+k):=by
  rw[hJ,fC]
  refine t7 (by omega) ?_
  rw[cZ (b ^ i)]
  exact dx _ (mh (eE _ (b9 hb)))
 have h3:(b - 1)*b ^ (i+k)+b ^ (i+k)=b*b ^ (i+k):=by
  rw[←qQ];congr 1;omega
 omega
theorem Orow_dg(hb:0<b):dg b (xr b R a B i k) (i+k)=dg b R (i+k):=by
 unfold xr dg
 rw[cZ (R / _),Nat.mul_add_div (b9 hb),eM (eE _ (b9 hb)),mf]
theorem L7(hb:0<b):up1 b (xr b R a B i k) (i+k) (q8 b R a B i (k+1) / b ^ (i+k) % b)=xr b R a B i (k+1):=by
 have hp:0<b ^ (i+k):=b9 hb
 have e1:xr b R a B i k / b ^ (i+k+1)=R / b ^ (i+k+1):=by
  rw[c8,←gV,←gV]
  congr 1
  unfold xr
  rw[cZ (R / _),Nat.mul_add_div hp,eM (eE _ hp),mf]
 have e2:xr b R a B i k % b ^ (i+k)=q8 b R a B i (k+1) % b ^ (i+k):=by
  rw[EP,zS]
  unfold xr
  rw[cZ (R / _),Nat.mul_add_mod,Nat.mod_mod]
 unfold up1
 rw[e1,e2]
 show _=R / b ^ (i+k+1)*b ^ (i+k+1)+q8 b R a B i (k+1) % b ^ (i+k+1)
 rw[gY (A:=q8 b R a B i (k+1)),cZ (b ^ (i+k)) (dg _ _ _)]
 unfold dg
 omega
end
theorem Mul_row {A B i m:Nat}(hi:i<16)(hm:m≤16)(hB:B<4294967296 ^ m)(x y:av)(hx:x.vW=W A)(hy:y.vW=W B):
  ∃c:Nat,c<4294967296∧∃O:Nat,bS (iW x y (m:Int) (i:Int)) ((0:Int),(0:Int),vN 4294967296 32 (A % 4294967296 ^ i*B))=some ((c:Int),vN 4294967296 32 O)∧up1 4294967296 O (i+m) c=A % 4294967296 ^ (i+1)*B:=by
 have hb:0<(4294967296:Nat):=by decide
 have hR:A % 4294967296 ^ i*B<4294967296 ^ (i+m):=by
  rw[hJ]
  exact Nat.mul_lt_mul_of_lt_of_le (eE _ (b9 hb)) (mh hB) (b9 hb)
 generalize hRR:A % 4294967296 ^ i*B=R at hR ⊢
 have ha:=@dgl A i
 have hl:=qv (b:=iW x y (m:Int) (i:Int)) (s0:=((0:Int),(0:Int),vN 4294967296 32 R)) (fun k=>((q8 4294967296 R (dg 4294967296 A i) B i k / 4294967296 ^ (i+k):Nat),(k:Int),vN 4294967296 32 (xr 4294967296 R (dg 4294967296 A i) B i k))) m ((q8 4294967296 R (dg 4294967296 A i) B i m / 4294967296 ^ (i+m):Nat),vN 4294967296 32 (xr 4294967296 R (dg 4294967296 A i) B i m))
  (by
   have e1:q8 4294967296 R (dg 4294967296 A i) B i 0=R % 4294967296 ^ i:=by unfold q8;simp[mO]
   have e2:xr 4294967296 R (dg 4294967296 A i) B i 0=R:=by
    unfold xr;rw[e1,mf,Nat.mod_mod,cZ];exact lx _ _
   rw[e1,e2,mf,eM (eE _ (b9 hb))]
   rfl)
  (fun k hk=>by
   have hk16:k<16:=by omega
   have hc:=KF (b:=4294967296) (R:=R) (a:=dg 4294967296 A i) (B:=B) (i:=i) (k:=k) hb ha
   have hbk:=@dgl B k
   have hr:=@dgl R (i+k)
   have Kb:dg 4294967296 A i*dg 4294967296 B k≤4294967295*4294967295:=t7 (by omega) (by omega)
   have Ep:q8 4294967296 R (dg 4294967296 A i) B i (k+1) / 4294967296 ^ (i+k)=q8 4294967296 R (dg 4294967296 A i) B i k / 4294967296 ^ (i+k)+(dg 4294967296 A i*dg 4294967296 B k+dg 4294967296 R (i+k)):=by
    rw[EP,xo _ _ (b9 hb),pT (dg 4294967296 R (i+k))]
   have vu:q8 4294967296 R (dg 4294967296 A i) B i (k+1) / 4294967296 ^ (i+(k+1))=q8 4294967296 R (dg 4294967296 A i) B i (k+1) / 4294967296 ^ (i+k) / 4294967296:=by
    rw[gV,←c8];rfl
   have rk:=L7 (b:=4294967296) (R:=R) (a:=dg 4294967296 A i) (B:=B) (i:=i) (k:=k) hb
   rw[vu]
   generalize q8 4294967296 R (dg 4294967296 A i) B i (k+1) / 4294967296 ^ (i+k)=x1 at Ep rk ⊢
   generalize q8 4294967296 R (dg 4294967296 A i) B i k / 4294967296 ^ (i+k)=c at Ep hc ⊢
   have eik:i64.wrap ((i:Int)+(k:Int))=((i+k:Nat):Int):=by rw[cm (by omega)];omega
   dsimp only[iW]
   rw[de _ _ (by omega),aL (by omega),aL (by omega),eik,aL (by omega),ae,aL (by omega),ae,cl,cl,cl,hx,hy,gO hi,gO hk16,jw (by omega),Orow_dg hb,
    iq (n:=dg 4294967296 A i) (by omega),iq (n:=dg 4294967296 B k) (by omega),iq (n:=dg 4294967296 R (i+k)) (by omega),←mT,iq (n:=dg 4294967296 A i*dg 4294967296 B k) (by omega),←j5,iq (by omega),←j5,iq (by omega),←Ep,wj,yN,yK hb (eE _ hb) (by omega),rk,cm (by omega)]
   rfl)
  (by
   dsimp only[iW]
   rw[cK _ _ (by omega)])
 refine⟨_,KF hb ha,_,hl,?_⟩
 have e1:q8 4294967296 R (dg 4294967296 A i) B i m=R+dg 4294967296 A i*B*4294967296 ^ i:=by
  unfold q8;rw[gL hR,gL hB]
 have e2:xr 4294967296 R (dg 4294967296 A i) B i m=q8 4294967296 R (dg 4294967296 A i) B i m % 4294967296 ^ (i+m):=by
  unfold xr;rw[eM hR,g5,bJ]
 have hO:xr 4294967296 R (dg 4294967296 A i) B i m<4294967296 ^ (i+m):=by rw[e2];exact eE _ (b9 hb)
 unfold up1
 rw[eM (d8 hO (ia hb (jt _))),g5,bJ,gL hO,e2,cZ (_ / _),lx,e1,←hRR,gY (A:=A),cp]
 congr 1
 simp only[fC,zQ,cZ]
theorem PY {A B n m:Nat}(hn:n≤16)(hm:m≤16)(hA:A<4294967296 ^ n)(hB:B<4294967296 ^ m)(x y:av)(hx:x.vW=W A)(hy:y.vW=W B):
  bS (iX x y (n:Int) (m:Int)) ((0:Int),Vector.replicate 32 (0:Int))=some (vN 4294967296 32 (A*B)):=by
 have hb:0<(4294967296:Nat):=by decide
 have hl:=qv (b:=iX x y (n:Int) (m:Int)) (s0:=((0:Int),Vector.replicate 32 (0:Int))) (fun i=>((i:Int),vN 4294967296 32 (A % 4294967296 ^ i*B))) n (vN 4294967296 32 (A % 4294967296 ^ n*B))
  (by simp only[fZ,mO,g5,ry];rfl)
  (fun i hi=>by
   obtain⟨c,hc,O,h1,h2⟩:=Mul_row (i:=i) (by omega) hm hB x y hx hy
   have eim:i64.wrap ((i:Int)+(m:Int))=((i+m:Nat):Int):=by rw[cm (by omega)];omega
   dsimp only[iX]
   rw[de _ _ (by omega),h1,ae]
   dsimp only
   rw[eim,aL (by omega),ae,cl,yM hc,yK hb hc (by omega),h2,cm (by omega)]
   rfl)
  (by
   dsimp only[iX]
   rw[cK _ _ (by omega)])
 rw[hl,gL hA]
theorem Ic {a c:Int}(ha:a.natAbs<LIM)(hc:c.natAbs<LIM):jj (enc a) (enc c)=some (enc (a*c)):=by
 obtain⟨n,hn,hn1,Er⟩:=zW ha
 obtain⟨m,hm,hm1,Oi⟩:=zW hc
 have Kb:a.natAbs*c.natAbs<4294967296 ^ 16*4294967296 ^ 16:=zO ha hc
 unfold jj
 rw[tP,bz ha,bz hc,ae]
 simp only[bB,c7,aX]
 rw[lL ha,lL hc,hn1,ae,hm1,ae,PY hn hm Er.1 Oi.1 (enc a) (enc c) (lL ha) (lL hc),ae,vsub 16 16 (by omega),vsub 16 0 (by omega),z16,jE ha,jE hc,fZ,mN]
 have hq:a.natAbs*c.natAbs / 4294967296 ^ 16<LIM:=Nat.div_lt_of_lt_mul Kb
 have hz:(vN 4294967296 16 (a.natAbs*c.natAbs / 4294967296 ^ 16)=W 0)↔a.natAbs*c.natAbs<LIM:=by
  rw[CR hq vO,Nat.div_eq_zero_iff_lt (by decide)];rfl
 simp only[hz]
 by_cases h:a.natAbs*c.natAbs<LIM
 ·rw[cK _ _ (by simpa using h),jv h,ae]
  congr 2
  rcases Int.natAbs_eq a with e1|e1 <;> rcases Int.natAbs_eq c with e2|e2 <;> skip
  all_goals
   by_cases ha0:a<0 <;> by_cases hc0:c<0 <;> simp only[ha0,hc0,qT,qS,CF,c7,qR,j4,cond_false,Bool.true_beq,Bool.false_beq,mT]
  all_goals (first|(exfalso;omega)|(have ea:(a.natAbs:Int)=a:=(by omega);have ec:(c.natAbs:Int)=c:=(by omega);rw[ea,ec])|(have ea:(a.natAbs:Int)=-a:=(by omega);have ec:(c.natAbs:Int)=c:=(by omega);rw[ea,ec,Int.neg_mul,Int.neg_neg])|(have ea:(a.natAbs:Int)=a:=(by omega);have ec:(c.natAbs:Int)=-c:=(by omega);rw[ea,ec,Int.mul_neg,Int.neg_neg])|(have ea:(a.natAbs:Int)=-a:=(by omega);have ec:(c.natAbs:Int)=-c:=(by omega);rw[ea,ec,Int.neg_mul_neg])|skip)
 ·rw[de _ _ (by simpa using h),KP,ae,Ck (by rw[xm];exact h)]
end
theorem set16(x y:Int):(#v[x,y,0,0,0,0,0,0,0,0,0,0,0,0,0,0]:Vector Int 16)=((W 0).set! 0 x).set! 1 y:=by
 rw[←z16];rfl
theorem PF {u:Nat}(hu:u<18446744073709551616):(#v[((u % 4294967296:Nat):Int),((u / 4294967296:Nat):Int),0,0,0,0,0,0,0,0,0,0,0,0,0,0]:Vector Int 16)=W u:=by
 have hb:0<(4294967296:Nat):=by decide
 have hx:u % 4294967296<4294967296:=eE _ hb
 have hy:u / 4294967296<4294967296:=by omega
 rw[set16]
 unfold W
 rw[yK hb hx (by omega)]
 have e1:up1 4294967296 0 0 (u % 4294967296)=u % 4294967296:=by
  have:=Im (b:=4294967296) (A:=0) (p:=0) (x:=u % 4294967296)
  rw[lM (by decide)] at this
  omega
 have h:=Im (b:=4294967296) (A:=u % 4294967296) (p:=1) (x:=u / 4294967296)
 rw[lM (by rw[Nat.pow_one];exact hx),Nat.pow_one,g5,mf,Nat.mod_add_div'] at h
 rw[e1,yK hb hy (by omega),h]
theorem JB {n:Int}(h1:-9223372036854775808≤n)(h2:n≤9223372036854775807):gS n=some (enc n):=by
 have hu:n.natAbs<18446744073709551616:=by omega
 have hL:n.natAbs<LIM:=d8 hu (by decide)
 have hc:cnd (decide (n<(0:Int))) (some (u64.wrap (0 - (u64.wrap n)))) (some (u64.wrap n))=some ((n.natAbs:Nat):Int):=by
  rw[gj]
  split
  ·congr 1;rw[IntKind.wrap_u64,IntKind.wrap_u64];omega
  ·congr 1;rw[IntKind.wrap_u64];omega
 unfold gS
 rw[hc,ae,yN,wj,yM (by omega),PF hu,jv hL,ae]
 congr 2
 by_cases h:n<0
 ·simp only[h,qT,j4];omega
 ·simp only[h,qS,cond_false];omega
theorem wW {x k l:Nat}(hx:2 ^ k≤x)(h:szp 2 (x / 2 ^ k) l):szp 2 x (l+k):=by
 have hp:0<2 ^ k:=b9 (by decide)
 have h0:0<x / 2 ^ k:=Nat.div_pos hx hp
 have hl:0<l:=by
  rcases qO l with h1|h1
  ·subst h1;have:=h.1;simp at this;omega
  ·exact h1
 refine⟨?_,fun _=>?_⟩
 ·rw[hJ];exact (lw hp).1 h.1
 ·have:=h.2 hl
  rw[show l+k - 1=(l - 1)+k from by omega,hJ]
  exact (oX hp).1 this
def G7:ByteArray:=⟨#[0,1,2,2,3,3,3,3,4,4,4,4,4,4,4,4,5,5,5,5,5,5,5,5,5,5,5,5,5,5,5,5,6,6,6,6,6,6,6,6,6,6,6,6,6,6,6,6,6,6,6,6,6,6,6,6,6,6,6,6,6,6,6,6,7,7,7,7,7,7,7,7,7,7,7,7,7,7,7,7,7,7,7,7,7,7,7,7,7,7,7,7,7,7,7,7,7,7,7,7,7,7,7,7,7,7,7,7,7,7,7,7,7,7,7,7,7,7,7,7,7,7,7,7,7,7,7,7,8,8,8,8,8,8,8,8,8,8,8,8,8,8,8,8,8,8,8,8,8,8,8,8,8,8,8,8,8,8,8,8,8,8,8,8,8,8,8,8,8,8,8,8,8,8,8,8,8,8,8,8,8,8,8,8,8,8,8,8,8,8,8,8,8,8,8,8,8,8,8,8,8,8,8,8,8,8,8,8,8,8,8,8,8,8,8,8,8,8,8,8,8,8,8,8,8,8,8,8,8,8,8,8,8,8,8,8,8,8,8,8,8,8,8,8,8,8,8,8,8,8,8,8,8,8,8,8]⟩
theorem En:∀y:Nat,y<256→(G7.data.toList.getD y 0).toNat≤8∧y<2 ^ (G7.data.toList.getD y 0).toNat∧(0<(G7.data.toList.getD y 0).toNat→2 ^ ((G7.data.toList.getD y 0).toNat - 1)≤y):=by decide +kernel
theorem Li:G7.size=256:=by decide +kernel
theorem len_tab(y:Nat)(hy:y<256):∃l:Nat,sAt G7 y=(l:Int)∧l≤8∧szp 2 y l:=
 ⟨_,rfl,(En y hy).1,(En y hy).2⟩
theorem PZ(x:Int):mw x=bnd (S:=Int×Int) (cnd (decide ((65536:Int)≤x)) (some ((lX .u32 x (16:Int),(16:Int)))) (some ((x,(0:Int))))) fun (bI,F7)=>bnd (S:=Int×Int) (cnd (decide ((256:Int)≤bI)) (some ((lX .u32 bI (8:Int),i64.wrap (F7+(8:Int))))) (some ((bI,F7)))) fun (oz,CQ)=>gd (0≤u8.wrap (oz)∧u8.wrap (oz)<(G7.size:Int)) (bnd (some (i64.wrap (CQ+(i64.wrap (sAt G7 (u8.wrap (oz)).toNat))))) fun x6=>some x6):=rfl
theorem u8n {n:Nat}(h:n<256):u8.wrap (n:Int)=(n:Int):=by
 rw[IntKind.wrap_u8];omega
theorem KN {x:Nat}(hx:x<4294967296):∃l:Nat,mw (x:Int)=some (l:Int)∧l≤32∧szp 2 x l:=by
 have h16:∃(y n:Nat),cnd (decide ((65536:Int)≤(x:Int))) (some ((lX .u32 (x:Int) (16:Int),(16:Int)))) (some (((x:Int),(0:Int))))=some ((y:Int),(n:Int))∧y<65536∧n≤16∧∀l,szp 2 y l→szp 2 x (l+n):=by
  rw[gj]
  split
  ·rename_i h
   exact⟨x / 2 ^ 16,16,by rw[show (16:Int)=((16:Nat):Int) from rfl,zo .u32 x 16 (by decide)],by omega,by omega,fun l hl=>wW (by omega) hl⟩
  ·exact⟨x,0,rfl,by omega,by omega,fun l hl=>hl⟩
 obtain⟨y,n,e1,hy,hn,hs⟩:=h16
 have h8:∃(z m:Nat),cnd (decide ((256:Int)≤(y:Int))) (some ((lX .u32 (y:Int) (8:Int),i64.wrap ((n:Int)+(8:Int))))) (some (((y:Int),(n:Int))))=some ((z:Int),(m:Int))∧z<256∧m≤24∧∀l,szp 2 z l→szp 2 x (l+m):=by
  rw[gj]
  split
  ·rename_i h
   refine⟨y / 2 ^ 8,n+8,?_,by omega,by omega,fun l hl=>?_⟩
   ·rw[show (8:Int)=((8:Nat):Int) from rfl,zo .u32 y 8 (by decide),cm (by omega)];rfl
   ·rw[show l+(n+8)=(l+8)+n from by omega]
    exact hs _ (wW (by omega) hl)
  ·exact⟨y,n,rfl,by omega,by omega,hs⟩
 obtain⟨z,m,e2,hz,hm,Mg⟩:=h8
 obtain⟨l,hl1,FC,hl3⟩:=len_tab z hz
 refine⟨l+m,?_,by omega,Mg l hl3⟩
 rw[PZ,e1,ae]
 dsimp only
 rw[e2,ae]
 dsimp only
 rw[u8n hz,Li,aL ⟨by omega,by omega⟩,cl,hl1,cm (z:=(l:Int)) (by omega),cm (by omega),ae]
 congr 1
 omega
theorem G_Lead {x:Nat}(hx:x<4294967296):∃l:Nat,fO (x:Int)=some (((32 - l:Nat)):Int)∧l≤32∧szp 2 x l:=by
 obtain⟨l,h1,h2,h3⟩:=KN hx
 refine⟨l,?_,h2,h3⟩
 unfold fO
 rw[h1,ae,cm (by omega)]
 congr 1
 omega
theorem G_Bits {a:Int}(ha:a.natAbs<LIM):∃l:Nat,l≤512∧nV (enc a)=some (l:Int)∧szp 2 a.natAbs l:=by
 obtain⟨n,hn,h1,h2⟩:=zW ha
 unfold nV
 rw[lL ha,h1,ae,tQ,bz ha,ae,c7,aX,ae]
 cases n with
 |zero=>
  refine⟨0,by omega,?_,?_⟩
  ·rw[de _ _ (by omega)];rfl
  ·have:=h2.1
   exact⟨by simpa using this,fun h=>by omega⟩
 |succ k=>
  have hk:k<16:=by omega
  rw[cK _ _ (by omega),show i64.wrap (((k+1:Nat):Int) - 1)=(k:Int) from by rw[cm (by omega)];omega,aL (by omega),cl,gO hk]
  obtain⟨l,h3,h4,h5⟩:=KN (x:=dg 4294967296 a.natAbs k) dgl
  have hd:dg 4294967296 a.natAbs k=a.natAbs / 2 ^ (32*k):=by
   unfold dg
   have e:(4294967296:Nat) ^ k=2 ^ (32*k):=by rw[Nat.pow_mul]
   rw[←e,gL]
   rw[lw (b9 (by decide)),cZ,←c8];exact h2.1
  have t4:2 ^ (32*k)≤a.natAbs:=by
   have:=h2.2 (by omega)
   rw[zR] at this
   rwa[Nat.pow_mul]
  refine⟨l+32*k,by omega,?_,?_⟩
  ·rw[h3,ae,show i64.wrap ((32:Int)*(k:Int))=((32*k:Nat):Int) from by rw[cm (by omega)];omega,cm (by omega)]
   congr 1;omega
  ·rw[hd] at h5;exact wW t4 h5
theorem Nn {A:Nat}(hA:A<18446744073709551616):ior .u64 (w7 .u64 (u64.wrap ((W A)[((1:Int)).toNat]!)) (32:Int)) (u64.wrap ((W A)[((0:Int)).toNat]!))=(A:Int):=by
 have e1:(W A)[((1:Int)).toNat]! =(dg 4294967296 A 1:Int):=gO (by decide)
 have e0:(W A)[((0:Int)).toNat]! =(dg 4294967296 A 0:Int):=gO (by decide)
 have h1:=@dgl A 1
 have h0:=@dgl A 0
 rw[e1,e0,iq (by omega),iq (by omega),GT h1,G9 h0 h1]
 have e:dg 4294967296 A 1*4294967296+dg 4294967296 A 0=A:=by
  unfold dg
  rw[Nat.pow_one,fZ,mN]
  omega
 rw[e]
theorem KM {a:Int}(ha:a.natAbs<LIM):lh (enc a)=some (if -9223372036854775808≤a∧a<9223372036854775808 then (a,true) else (0,false)):=by
 obtain⟨l,hl,h1,h2⟩:=G_Bits ha
 have e64:(2:Nat) ^ 64=18446744073709551616:=by decide
 have hl64:64<l↔¬a.natAbs<18446744073709551616:=by
  constructor
  ·intro h h3
   have:=Io (b:=2) (by decide) h2 (k:=64) (by rw[e64];exact h3)
   omega
  ·intro h
   rcases gW 64 l with h3|h3
   ·exact h3
   ·have h4:=h2.1
    have h5:2 ^ l≤2 ^ 64:=ia (by decide) h3
    rw[e64] at h5
    exact absurd (d8 h4 h5) h
 unfold lh
 rw[tQ,bz ha,ae,c7,aX,h1,ae,ae]
 by_cases h:a.natAbs<18446744073709551616
 ·rw[cK _ _ (by have:=mt hl64.1 (fun hh=>hh h);omega),ae,lL ha,Nn h,jE ha]
  by_cases hn:a<0
  ·simp only[hn,qT,gz,c7,aX,ae]
   by_cases h3:a.natAbs≤9223372036854775808
   ·rw[de _ _ (by omega),if_pos (by omega),show (0:Int) - (a.natAbs:Int)=a from by omega,IntKind.wrap_u64]
    rw[show i64.wrap (a % 18446744073709551616)=a from by rw[IntKind.wrap_i64];omega]
   ·rw[cK _ _ (by omega),if_neg (by omega)]
  ·rw[bH hn,aX,ae,aX,qR,gz,ae]
   have ea:(a.natAbs:Int)=a:=by omega
   rw[ea]
   by_cases h3:a<9223372036854775808
   ·rw[de _ _ h3,if_pos ⟨by omega,h3⟩,cm ⟨by omega,by omega⟩]
   ·rw[cK _ _ h3,if_neg (fun hh=>h3 hh.2)]
 ·rw[de _ _ (by have:=hl64.2 h;omega),if_neg (by omega)]
def vF(n:Nat)(f:Nat→Nat):Vector Int n:=Vector.ofFn fun i=>(f i.val:Int)
theorem uD {n j:Nat}{f:Nat→Nat}(h:j<n):(vF n f)[j]! =(f j:Int):=by
 rw[cz (vF n f) j h]
 unfold vF
 rw[Vector.getElem_ofFn]
theorem MC {n:Nat}{f g:Nat→Nat}(h:∀j,j<n→f j=g j):vF n f=vF n g:=by
 apply nO
 intro j hj
 rw[uD hj,uD hj,h j hj]
theorem vF_set {n p x:Nat}{f:Nat→Nat}:(vF n f).set! p (x:Int)=vF n (fun j=>if j=p then x else f j):=by
 apply nO
 intro j hj
 rw[o9 hj,uD hj,uD hj]
 split <;> rfl
theorem vF_dg {b n A:Nat}:vF n (dg b A)=vN b n A:=rfl
theorem FH {X V n d:Nat}(hn:2≤n)(hV:2147483648*4294967296 ^ (n - 1)≤V)(hX:X<V*4294967296)
  (DL:min (X / 4294967296 ^ (n - 2) / (V / 4294967296 ^ (n - 2))) 4294967295≤d) (Ke:d*(V / 4294967296 ^ (n - 2))≤X / 4294967296 ^ (n - 2)):X / V≤d∧d≤X / V+1:=by
 have hp:0<4294967296 ^ (n - 2):=b9 (by decide)
 have e1:(4294967296:Nat) ^ (n - 1)=4294967296 ^ (n - 2)*4294967296:=by rw[←c8];congr 1;omega
 rw[e1] at hV
 generalize 4294967296 ^ (n - 2)=P at*
 have Do:0<V:=d8 (wC (by decide) (wC hp (by decide))) hV
 have NK:2147483648*4294967296≤V / P:=by
  rw[oX hp]
  calc 2147483648*4294967296*P=2147483648*(P*4294967296):=by rw[fC,cZ 4294967296 P]
   _≤V:=hV
 have hv20:0<V / P:=by omega
 have hVP:=lx V P
 have hVm:=eE V hp
 have hXP:=lx X P
 have hXm:=eE X hp
 have hq1:X / V≤X / P / (V / P):=by
  rw[gV]
  refine Nat.div_le_div_left ?_ (wC hp hv20)
  omega
 have hq2:X / V<4294967296:=(lw Do).2 (by rw[cZ];exact hX)
 refine⟨by omega,?_⟩
 -- d V is not much more than X
 have B5:d*(V / P)*P≤X:=by
  have:=dx P Ke
  rw[cZ (X / P)] at this
  omega
 have hXP2:X / P<(V / P+1)*4294967296:=by
  rw[lw hp]
  have h1:V<(V / P+1)*P:=by rw[cp,jZ,cZ (V / P)];omega
  calc X<V*4294967296:=hX
   _≤(V / P+1)*P*4294967296:=dx _ (mh h1)
   _=(V / P+1)*4294967296*P:=by rw[fC,cZ P,←fC]
 have hdb:d≤4294967296:=by
  rcases gW 4294967296 d with h|h
  ·have:4294967297*(V / P)≤d*(V / P):=dx _ h
   omega
  ·exact h
 have h2:d*(V % P)≤4294967296*P:=t7 hdb (mh hVm)
 have h3:d*V=d*(V / P)*P+d*(V % P):=by
  conv=>lhs;rw[←hVP]
  rw[tI,cZ P,fC]
 have h4:d*V≤X+V:=by
  rw[h3]
  have h6:4294967296*P≤V:=by
   refine ez ?_ hV
   rw[cZ P,←fC]
   exact dx _ (by decide)
  exact Nat.add_le_add B5 (ez h2 h6)
 rcases qO d with h0|h0
 ·rw[h0];exact cQ _
 ·have h5:(d - 1)*V≤X:=by rw[Nat.sub_mul,jZ];omega
  have:=(oX Do).2 h5
  omega
theorem gA1 {y r u z:Nat}(h:r*4294967296+u<z):(y+r)*4294967296+u<y*4294967296+z:=by
 rw[cp,wb];exact CI h _
theorem gA2 {y r u z:Nat}(h:z≤r*4294967296+u):y*4294967296+z≤(y+r)*4294967296+u:=by
 rw[cp,wb];exact Nat.add_le_add_left h _
theorem gA3 {y r u z:Nat}(h:4294967296≤r)(hz:z≤4294967295*4294967295):y*4294967296+z≤(y+r)*4294967296+u:=by
 have h1:z≤r*4294967296:=ez hz (ez (t7 (by decide) (by decide)) (dx _ h))
 rw[cp,wb]
 exact Nat.add_le_add_left (ez h1 (sI _ _)) _
theorem oi {n:Nat}(h:n≤34359738368):n<18446744073709551616:=by omega
theorem lt64p {n:Nat}(h:n≤4294967295*4294967295):n<18446744073709551616:=by omega
theorem guessB {d r f x0 x1:Nat}(h:d*f+r=x0*4294967296+x1)(hf:2147483648≤f)(h0:x0<4294967296)(h1:x1<4294967296):d≤8589934592:=by
 have:=yl d hf
 omega
theorem guessT {x0 x1 f:Nat}(h0:x0<4294967296)(h1:x1<4294967296):(x0*4294967296+x1) / f<18446744073709551616:=
 eV (qU _ _) (by omega)
theorem G_guess {U V n j:Nat}(hn:2≤n)(DK:n≤16)(hj:j+n≤16)(hV:2147483648*4294967296 ^ (n - 1)≤V)(DR:V<4294967296 ^ n)(hU:U / 4294967296 ^ j<V*4294967296):
  ∃d:Nat,d<4294967296∧iU (W V) (n:Int) (j:Int) (vN 4294967296 17 U)=some (d:Int)∧U / 4294967296 ^ j / V≤d∧d≤U / 4294967296 ^ j / V+1:=by
 have hb:0<(4294967296:Nat):=by decide
 generalize hX:U / 4294967296 ^ j=X at hU
 -- the digits that it looks at
 have du:∀i,dg 4294967296 U (j+i)=dg 4294967296 X i:=fun i=>by
  unfold dg;rw[←hX,gV,←hJ]
 have hXlt:X<4294967296 ^ (n+1):=by
  rw[c8];exact d8 hU (dx _ (mh DR))
 have s1:=cP (b:=4294967296) (A:=X) (k:=n - 2)
 have s2:=cP (b:=4294967296) (A:=X) (k:=n - 1)
 have s3:=cP (b:=4294967296) (A:=X) (k:=n)
 rw[eM hXlt,g5,bJ] at s3
 rw[show n - 2+1=n - 1 from by omega] at s1
 rw[show n - 1+1=n from by omega,s3] at s2
 have w1:=cP (b:=4294967296) (A:=V) (k:=n - 2)
 have w2:=cP (b:=4294967296) (A:=V) (k:=n - 1)
 rw[show n - 2+1=n - 1 from by omega] at w1
 rw[show n - 1+1=n from by omega,eM DR,g5,bJ] at w2
 have Df:=@dgl X n
 have Ep:=@dgl X (n - 1)
 have vu:=@dgl X (n - 2)
 have hv1:=@dgl V (n - 1)
 have NK:=@dgl V (n - 2)
 have I2:2147483648≤dg 4294967296 V (n - 1):=by
  rw[←w2,oX (b9 hb)];exact hV
 -- the two highest digits against the highest one
 have hp:0<4294967296 ^ (n - 2):=b9 hb
 have htop:X / 4294967296 ^ (n - 1)≤V / 4294967296 ^ (n - 2):=by
  have e1:(4294967296:Nat) ^ (n - 1)=4294967296 ^ (n - 2)*4294967296:=by rw[←c8];congr 1;omega
  have h1:X / 4294967296 ^ (n - 1)*4294967296 ^ (n - 1)≤X:=Nat.div_mul_le_self _ _
  rw[oX hp]
  rw[e1] at h1
  have h2:X / 4294967296 ^ (n - 1)*4294967296 ^ (n - 2)*4294967296<V*4294967296:=by
   rw[fC]
   exact eV (by rw[e1];exact h1) hU
  exact mh (Nat.lt_of_mul_lt_mul_right h2)
 rw[s2,w1,w2] at htop
 obtain⟨x,hl,d,rfl,hdb,DL,Ke⟩:=tZ (b:=jC (W V) (n:Int) (j:Int) (vN 4294967296 17 U) ((dg 4294967296 V (n - 1):Nat):Int)) (fun s=>∃d r:Nat,s=((d:Int),(r:Int))∧d*dg 4294967296 V (n - 1)+r=X / 4294967296 ^ (n - 1)∧min (X / 4294967296 ^ (n - 2) / (V / 4294967296 ^ (n - 2))) 4294967295≤d) (fun s=>4294967296 - s.2.toNat)
  (fun x=>∃d:Nat,x=(d:Int)∧d<4294967296∧min (X / 4294967296 ^ (n - 2) / (V / 4294967296 ^ (n - 2))) 4294967295≤d∧d*(V / 4294967296 ^ (n - 2))≤X / 4294967296 ^ (n - 2))
  (by
   rintro s ⟨d,r,rfl,hdr,DL⟩
   have hmul:d*(V / 4294967296 ^ (n - 2))=d*dg 4294967296 V (n - 1)*4294967296+d*dg 4294967296 V (n - 2):=by
    rw[w1,w2,tI,fC]
   have hdB:d≤8589934592:=guessB (by rw[hdr,s2]) I2 Df Ep
   have ei2:i64.wrap ((n:Int) - (2:Int))=((n - 2:Nat):Int):=by rw[cm (by omega)];omega
   have eij2:i64.wrap ((i64.wrap ((j:Int)+(n:Int))) - (2:Int))=((j+(n - 2):Nat):Int):=by rw[cm (z:=(j:Int)+(n:Int)) (by omega),cm (by omega)];omega
   dsimp only[jC]
   by_cases hr:r<4294967296
   ·rw[de _ _ (by omega)]
    by_cases hd:4294967296≤d
    ·left
     refine⟨(((d - 1:Nat):Int),((r+dg 4294967296 V (n - 1):Nat):Int)),?_,⟨d - 1,_,rfl,?_,by omega⟩,by show 4294967296 - (_:Nat)<4294967296 - (_:Nat);rw[cl,cl];omega⟩
     ·rw[de _ _ (by omega),ae,gz,show (d:Int) - 1=((d - 1:Nat):Int) from by omega,iq (oi (by omega)),←j5,iq (oi (by omega))]
     ·rw[Nat.sub_mul,jZ]
      have:dg 4294967296 V (n - 1)≤d*dg 4294967296 V (n - 1):=CG _ (by omega)
      omega
    ·have Dm:d*dg 4294967296 V (n - 2)≤4294967295*4294967295:=t7 (by omega) (by omega)
     rw[cK _ _ (by omega),ei2,aL (by omega),eij2,aL (by omega),cl,cl,jw (by omega),gO (by omega),du,iq (n:=dg 4294967296 X (n - 2)) (oi (by omega)),iq (n:=dg 4294967296 V (n - 2)) (oi (by omega)),GT hr,G9 vu hr,←mT,iq (lt64p Dm),ae]
     by_cases hc:r*4294967296+dg 4294967296 X (n - 2)<d*dg 4294967296 V (n - 2)
     ·left
      have ws:0<d:=by
       rcases qO d with h|h
       ·subst h;omega
       ·exact h
      refine⟨(((d - 1:Nat):Int),((r+dg 4294967296 V (n - 1):Nat):Int)),?_,⟨d - 1,_,rfl,?_,?_⟩,by show 4294967296 - (_:Nat)<4294967296 - (_:Nat);rw[cl,cl];omega⟩
      ·rw[de _ _ (by omega),show (d:Int) - 1=((d - 1:Nat):Int) from by omega,iq (oi (by omega)),←j5,iq (oi (by omega))]
      ·rw[Nat.sub_mul,jZ]
       have:dg 4294967296 V (n - 1)≤d*dg 4294967296 V (n - 1):=CG _ ws
       omega
      ·have hgt:X / 4294967296 ^ (n - 2)<d*(V / 4294967296 ^ (n - 2)):=by rw[hmul,s1,←hdr];exact gA1 hc
       have:=(lw (x:=X / 4294967296 ^ (n - 2)) (y:=d) (k:=V / 4294967296 ^ (n - 2)) (by rw[w1,w2];omega)).2 hgt
       omega
     ·right
      refine⟨_,by rw[cK _ _ (by omega)],d,rfl,by omega,DL,?_⟩
      rw[hmul,s1,←hdr];exact gA2 (Nat.le_of_not_lt hc)
   ·right
    have hdlt:d<4294967296:=by
     rcases gW d 4294967296 with h|h
     ·exact h
     ·have:4294967296*dg 4294967296 V (n - 1)≤d*dg 4294967296 V (n - 1):=dx _ h
      omega
    have Dm:d*dg 4294967296 V (n - 2)≤4294967295*4294967295:=t7 (by omega) (by omega)
    refine⟨_,by rw[cK _ _ (by omega),ae,aX],d,rfl,hdlt,DL,?_⟩
    rw[hmul,s1,←hdr];exact gA3 (Nat.le_of_not_lt hr) Dm)
  (((X / 4294967296 ^ (n - 1) / dg 4294967296 V (n - 1):Nat):Int),((X / 4294967296 ^ (n - 1) % dg 4294967296 V (n - 1):Nat):Int))
  ⟨_,_,rfl,by rw[cZ];exact lx _ _,by
   have h0:X / 4294967296 ^ (n - 2) / (V / 4294967296 ^ (n - 2))≤X / 4294967296 ^ (n - 1) / dg 4294967296 V (n - 1):=by
    rw[oX (by omega)]
    have h1:=Nat.div_mul_le_self (X / 4294967296 ^ (n - 2)) (V / 4294967296 ^ (n - 2))
    generalize X / 4294967296 ^ (n - 2) / (V / 4294967296 ^ (n - 2))=q at h1 ⊢
    rw[w1,w2,s1,tI,←fC] at h1
    generalize q*dg 4294967296 V (n - 1)=y at h1 ⊢
    omega
   omega⟩
 obtain⟨h1,h2⟩:=FH hn hV hU DL Ke
 refine⟨d,hdb,?_,h1,h2⟩
 have ejn:i64.wrap ((j:Int)+(n:Int))=((j+n:Nat):Int):=by rw[cm (by omega)];omega
 have ejn1:i64.wrap (((j+n:Nat):Int) - (1:Int))=((j+(n - 1):Nat):Int):=by rw[cm (by omega)];omega
 have en1:i64.wrap ((n:Int) - (1:Int))=((n - 1:Nat):Int):=by rw[cm (by omega)];omega
 unfold iU
 rw[ejn,aL (by omega),ejn1,aL (by omega),en1,cl,cl,cl,jw (by omega),jw (by omega),gO (by omega),du,du,iq (n:=dg 4294967296 X n) (oi (by omega)),iq (n:=dg 4294967296 X (n - 1)) (oi (by omega)),iq (n:=dg 4294967296 V (n - 1)) (oi (by omega)),GT Df,G9 Ep Df,ae,aL (by omega),ae,aL (by omega),aL (by omega),←r8,←r7]
 rw[iq (guessT Df Ep),←s2,hl,ae]
def xV(j i U D p:Nat):Nat:=if p<j then dg 4294967296 U p else if p<j+i then dg 4294967296 D (p - j) else dg 4294967296 U p
theorem mix0 {j U D:Nat}:xV j 0 U D=dg 4294967296 U:=by
 funext p
 unfold xV
 split
 ·rfl
 ·rw[if_neg (by omega)]
theorem Fk {j i U D:Nat}:xV j i U D (j+i)=dg 4294967296 U (j+i):=by
 unfold xV
 rw[if_neg (by omega),if_neg (by omega)]
theorem A1 {n j i U D:Nat}:(vF n (xV j i U D)).set! (j+i) (dg 4294967296 D i:Int)=vF n (xV j (i+1) U D):=by
 rw[vF_set]
 apply MC
 intro p hp
 by_cases h:p=j+i
 ·subst h
  rw[if_pos rfl]
  unfold xV
  rw[if_neg (by omega),if_pos (by omega)]
  congr 1;omega
 ·rw[if_neg h]
  unfold xV
  by_cases h1:p<j
  ·rw[if_pos h1,if_pos h1]
  ·rw[if_neg h1,if_neg h1]
   by_cases h2:p<j+i
   ·rw[if_pos h2,if_pos (by omega)]
   ·rw[if_neg h2,if_neg (by omega)]
theorem J0 {n j i U D:Nat}(hU:U<4294967296 ^ (i+j))(hD:D<4294967296 ^ i):vF n (xV j i U D)=vN 4294967296 n (D*4294967296 ^ j+U % 4294967296 ^ j):=by
 have hb:0<(4294967296:Nat):=by decide
 rw[←vF_dg]
 apply MC
 intro p _
 unfold xV
 by_cases h1:p<j
 ·rw[if_pos h1,←nh (A:=D*_+_) h1,Nat.mul_add_mod_self_right,Nat.mod_mod,nh h1]
 ·rw[if_neg h1]
  have e:dg 4294967296 (D*4294967296 ^ j+U % 4294967296 ^ j) p=dg 4294967296 D (p - j):=by
   obtain⟨q,rfl⟩:∃q,p=j+q:=⟨p - j,by omega⟩
   unfold dg
   rw[hJ,←gV,cZ D,Nat.mul_add_div (b9 hb),eM (eE _ (b9 hb)),mf,Nat.add_sub_cancel_left]
  rw[e]
  by_cases h2:p<j+i
  ·rw[if_pos h2]
  ·rw[if_neg h2,lM (d8 hU (ia hb (by omega))),lM (d8 hD (ia hb (by omega)))]
theorem HM {D P i:Nat}:∃x:Nat,u64.wrap (u64.wrap ((dg 4294967296 (D+P) i:Int) - (dg 4294967296 P i:Int)) - (((D % 4294967296 ^ i+P % 4294967296 ^ i) / 4294967296 ^ i:Nat):Int))=(x:Int)∧x / 9223372036854775808=(D % 4294967296 ^ (i+1)+P % 4294967296 ^ (i+1)) / 4294967296 ^ (i+1)∧x % 4294967296=dg 4294967296 D i:=by
 have hc:=n3 (b:=4294967296) (A:=D) (B:=P) (k:=i) (by decide)
 obtain⟨h1,h2⟩:=oZ (b:=4294967296) (A:=D) (B:=P) (k:=i) (by decide)
 have ha:=@dgl D i
 have hb:=@dgl P i
 have hd:=@dgl (D+P) i
 generalize (D % 4294967296 ^ i+P % 4294967296 ^ i) / 4294967296 ^ i=c at h1 h2 hc ⊢
 generalize (D % 4294967296 ^ (i+1)+P % 4294967296 ^ (i+1)) / 4294967296 ^ (i+1)=c' at h2 ⊢
 rw[IntKind.wrap_u64,IntKind.wrap_u64]
 exact⟨((((dg 4294967296 (D+P) i:Int) - (dg 4294967296 P i:Int)) % 18446744073709551616 - (c:Int)) % 18446744073709551616).toNat,by omega,by omega,by omega⟩
theorem lt64m {c p d:Nat}(hc:c≤d)(hp:p<4294967296)(hd:d<4294967296):c+p*d<18446744073709551616:=by
 have h1:p*d≤4294967295*4294967295:=t7 (by omega) (by omega)
 omega
theorem P3 {U V D n j d:Nat}(DK:n≤16)(hj:j+n≤16)(DR:V<4294967296 ^ n)(hU:U<4294967296 ^ (n+1+j))(hd:d<4294967296)(hD:D<4294967296 ^ (n+1))
  (hDZ:D+V*d=U / 4294967296 ^ j+(if U / 4294967296 ^ j<V*d then 4294967296 ^ (n+1) else 0)):
  jN (W V) (n:Int) (j:Int) (d:Int) (vN 4294967296 17 U)=some (decide (U / 4294967296 ^ j<V*d),vN 4294967296 17 (D*4294967296 ^ j+U % 4294967296 ^ j)):=by
 have hb:0<(4294967296:Nat):=by decide
 generalize hZ:U / 4294967296 ^ j=Z at hDZ ⊢
 have LE:Z<4294967296 ^ (n+1):=by
  rw[←hZ];exact Nat.div_lt_of_lt_mul (by rw[←hJ,pT];exact hU)
 have dz:∀i,i<n+1→dg 4294967296 (D+V*d) i=dg 4294967296 U (j+i):=fun i hi=>by
  have e1:dg 4294967296 U (j+i)=dg 4294967296 Z i:=by
   unfold dg;rw[←hZ,gV,←hJ]
  rw[e1,←nh (A:=D+V*d) hi,←nh (A:=Z) hi,hDZ]
  split
  ·rw[Nat.add_mod_right]
  ·rw[mf]
 have hcle:∀i,V % 4294967296 ^ i*d / 4294967296 ^ i≤d:=fun i=>
  ez (Nat.div_le_div_right (dx d (mh (eE V (b9 hb))))) (by rw[Nat.mul_div_cancel_left _ (b9 hb)];exact aB _)
 have hl:=qv (b:=jg (W V) (n:Int) (j:Int) (d:Int)) (s0:=((0:Int),(0:Int),(0:Int),vN 4294967296 17 U)) (fun i=>((V % 4294967296 ^ i*d / 4294967296 ^ i:Nat),((D % 4294967296 ^ i+V*d % 4294967296 ^ i) / 4294967296 ^ i:Nat),(i:Int),vF 17 (xV j i U D))) n ((V % 4294967296 ^ n*d / 4294967296 ^ n:Nat),((D % 4294967296 ^ n+V*d % 4294967296 ^ n) / 4294967296 ^ n:Nat),vF 17 (xV j n U D))
  (by simp only[fZ,mO,g5,Nat.zero_div,mix0];rfl)
  (fun i hi=>by
   obtain⟨h1,h2⟩:=Ei (b:=4294967296) (A:=V) (k:=i) (m:=d) hb
   obtain⟨x,Ep,vu,IP⟩:=HM (D:=D) (P:=V*d) (i:=i)
   have bX:=lt64m (hcle i) (@dgl V i) hd
   have hp:=@dgl (V*d) i
   have hz:=@dgl U (j+i)
   have hv:=@dgl V i
   have eij:i64.wrap ((j:Int)+(i:Int))=((j+i:Nat):Int):=by rw[cm (by omega)];omega
   rw[dz i (by omega)] at Ep
   have hvd:dg 4294967296 V i*d<18446744073709551616:=eV (Nat.le_add_left _ _) bX
   dsimp only[jg]
   rw[de _ _ (by omega),aL (by omega),ae,eij,aL (by omega),ae,aL (by omega),ae,cl,cl,gO (by omega),uD (by omega),Fk,iq (n:=dg 4294967296 V i) (oi (by omega)),←mT,cZ d,iq hvd,←j5,iq bX,yN,h1,wj,h2,iq (n:=dg 4294967296 (V*d) i) (oi (by omega)),iq (n:=dg 4294967296 U (j+i)) (oi (by omega)),Ep,MO,vu,yN,IP,A1,cm (by omega)]
   rfl)
  (by
   dsimp only[jg]
   rw[cK _ _ (by omega)])
 obtain⟨x,Ep,vu,IP⟩:=HM (D:=D) (P:=V*d) (i:=n)
 have hP:V*d<4294967296 ^ (n+1):=by
  rw[c8];exact zO DR hd
 have DQ:V % 4294967296 ^ n*d / 4294967296 ^ n=dg 4294967296 (V*d) n:=by
  rw[gL DR]
  unfold dg
  rw[gL]
  exact Nat.div_lt_of_lt_mul (by rw[←c8];exact hP)
 have hbor:(D % 4294967296 ^ (n+1)+V*d % 4294967296 ^ (n+1)) / 4294967296 ^ (n+1)=if Z<V*d then 1 else 0:=by
  rw[gL hD,gL hP,hDZ]
  split
  ·rw[Nat.add_div_right _ (b9 hb),eM LE]
  ·rw[mf,eM LE]
 have ejn:i64.wrap ((j:Int)+(n:Int))=((j+n:Nat):Int):=by rw[cm (by omega)];omega
 have hz:=@dgl U (j+n)
 rw[dz n (by omega)] at Ep
 unfold jN
 rw[hl,ae]
 dsimp only
 rw[ejn,aL (by omega),ae,aL (by omega),ae,cl,uD (by omega),Fk,iq (n:=dg 4294967296 U (j+n)) (oi (by omega)),DQ,Ep,MO,vu,yN,IP,A1,J0 hU hD,hbor]
 congr 2
 by_cases h:Z<V*d
 ·simp[h]
 ·simp[h]
theorem G_give {U V D n j:Nat}(DK:n≤16)(hj:j+n≤16)(DR:V<4294967296 ^ n)(hU:U<4294967296 ^ (n+1+j))(hD:D=(U / 4294967296 ^ j+V) % 4294967296 ^ (n+1)):
  jR (W V) (n:Int) (j:Int) (vN 4294967296 17 U)=some (vN 4294967296 17 (D*4294967296 ^ j+U % 4294967296 ^ j)):=by
 have hb:0<(4294967296:Nat):=by decide
 have hDlt:D<4294967296 ^ (n+1):=by rw[hD];exact eE _ (b9 hb)
 generalize hZ:U / 4294967296 ^ j=Z at hD
 have dz:∀i,dg 4294967296 U (j+i)=dg 4294967296 Z i:=fun i=>by
  unfold dg;rw[←hZ,gV,←hJ]
 have dD:∀i,i<n+1→dg 4294967296 (Z+V) i=dg 4294967296 D i:=fun i hi=>by rw[hD,nh hi]
 have hl:=qv (b:=ji (W V) (n:Int) (j:Int)) (s0:=((0:Int),(0:Int),vN 4294967296 17 U)) (fun i=>(((Z % 4294967296 ^ i+V % 4294967296 ^ i) / 4294967296 ^ i:Nat),(i:Int),vF 17 (xV j i U D))) n (((Z % 4294967296 ^ n+V % 4294967296 ^ n) / 4294967296 ^ n:Nat),vF 17 (xV j n U D))
  (by simp only[fZ,mO,mix0];rfl)
  (fun i hi=>by
   have hc:=n3 (b:=4294967296) (A:=Z) (B:=V) (k:=i) hb
   obtain⟨h1,h2⟩:=oZ (b:=4294967296) (A:=Z) (B:=V) (k:=i) hb
   have hz:=@dgl Z i
   have hv:=@dgl V i
   have eij:i64.wrap ((j:Int)+(i:Int))=((j+i:Nat):Int):=by rw[cm (by omega)];omega
   generalize (Z % 4294967296 ^ i+V % 4294967296 ^ i) / 4294967296 ^ i=c at h1 h2 hc ⊢
   generalize (Z % 4294967296 ^ (i+1)+V % 4294967296 ^ (i+1)) / 4294967296 ^ (i+1)=c' at h2 ⊢
   dsimp only[ji]
   rw[de _ _ (by omega),eij,aL (by omega),aL (by omega),ae,aL (by omega),ae,cl,cl,gO (by omega),uD (by omega),Fk,dz,iq (n:=dg 4294967296 V i) (oi (by omega)),iq (n:=dg 4294967296 Z i) (oi (by omega)),←j5,iq (oi (by omega)),←j5,iq (oi (by omega)),←wb,wj,yN,h1,h2,dD i (by omega),A1,cm (by omega)]
   rfl)
  (by
   dsimp only[ji]
   rw[cK _ _ (by omega)])
 have hc:=n3 (b:=4294967296) (A:=Z) (B:=V) (k:=n) hb
 obtain⟨h1,h2⟩:=oZ (b:=4294967296) (A:=Z) (B:=V) (k:=n) hb
 rw[lM DR,mf,dD n (by omega)] at h1
 have hz:=@dgl Z n
 have ejn:i64.wrap ((j:Int)+(n:Int))=((j+n:Nat):Int):=by rw[cm (by omega)];omega
 unfold jR
 rw[hl,ae]
 dsimp only
 generalize (Z % 4294967296 ^ n+V % 4294967296 ^ n) / 4294967296 ^ n=c at h1 hc ⊢
 rw[ejn,aL (by omega),aL (by omega),ae,cl,uD (by omega),Fk,dz,yM (n:=c) (by omega),←j5,pT (dg 4294967296 Z n),yN,h1,A1,J0 hU hDlt]
theorem K7 {U V n j:Nat}(hn:2≤n)(hj:j+n≤16)(hV:2147483648*4294967296 ^ (n - 1)≤V)(DR:V<4294967296 ^ n)(hU:U / 4294967296 ^ j<V*4294967296):
  (bnd (iU (W V) (n:Int) (j:Int) (vN 4294967296 17 U)) fun Gj=>bnd (S:=Int×(Vector Int 17)) (bnd (jN (W V) (n:Int) (j:Int) Gj (vN 4294967296 17 U)) fun Mr=>cnd Mr.1 (bnd (jR (W V) (n:Int) (j:Int) Mr.2) fun EV=>some ((u64.wrap (Gj - (1:Int)),EV))) (some ((Gj,Mr.2)))) fun y=>some y)=some (((U / 4294967296 ^ j / V:Nat):Int),vN 4294967296 17 (U / 4294967296 ^ j % V*4294967296 ^ j+U % 4294967296 ^ j))∧U / 4294967296 ^ j / V<4294967296:=by
 have hb:0<(4294967296:Nat):=by decide
 obtain⟨d,hdb,hg,B5,B1⟩:=G_guess hn (by omega) hj hV DR hU
 have Do:0<V:=d8 (wC (by decide) (b9 hb)) hV
 have hp:0<4294967296 ^ j:=b9 hb
 have LE:U / 4294967296 ^ j<4294967296 ^ (n+1):=by
  rw[c8];exact d8 hU (dx _ (mh DR))
 have hUlt:U<4294967296 ^ (n+1+j):=by
  rw[hJ];exact (lw hp).1 LE
 have hVd:V*d<4294967296 ^ (n+1):=by
  rw[c8];exact zO DR hdb
 have hq:U / 4294967296 ^ j / V<4294967296:=by omega
 refine⟨?_,hq⟩
 have hm:=lx (U / 4294967296 ^ j) V
 have hml:=eE (U / 4294967296 ^ j) Do
 rw[hg,ae]
 by_cases bX:U / 4294967296 ^ j<V*d
 ·-- one too many
  have hdq:d=U / 4294967296 ^ j / V+1:=by
   rcases gW (U / 4294967296 ^ j / V) d with h|h
   ·omega
   ·have h1:V*d≤V*(U / 4294967296 ^ j / V):=yl _ h
    omega
  have ht:=P3 (U:=U) (V:=V) (D:=U / 4294967296 ^ j+4294967296 ^ (n+1) - V*d) (n:=n) (j:=j) (d:=d) (by omega) hj DR hUlt hdb (by omega) (by rw[if_pos bX];omega)
  rw[ht,aF bX,ae,gz]
  dsimp only
  generalize hD:U / 4294967296 ^ j+4294967296 ^ (n+1) - V*d=D
  have hDlt:D<4294967296 ^ (n+1):=by omega
  have e1:(D*4294967296 ^ j+U % 4294967296 ^ j) / 4294967296 ^ j=D:=by
   rw[cZ,Nat.mul_add_div hp,eM (eE _ hp),mf]
  have e2:(D*4294967296 ^ j+U % 4294967296 ^ j) % 4294967296 ^ j=U % 4294967296 ^ j:=by
   rw[Nat.mul_add_mod_self_right,Nat.mod_mod]
  have e3:(D+V) % 4294967296 ^ (n+1)=U / 4294967296 ^ j % V:=by
   have:D+V=U / 4294967296 ^ j % V+4294967296 ^ (n+1):=by
    rw[hdq,tI,wD] at hD bX
    omega
   rw[this,Nat.add_mod_right,gL]
   exact eV (Nat.mod_le _ _) LE
  have hgv:=G_give (U:=D*4294967296 ^ j+U % 4294967296 ^ j) (V:=V) (D:=U / 4294967296 ^ j % V) (n:=n) (j:=j) (by omega) hj DR (by
   rw[hJ]
   have h1:(D+1)*4294967296 ^ j≤4294967296 ^ (n+1)*4294967296 ^ j:=dx _ hDlt
   rw[cp,jZ] at h1
   have:=eE U hp
   omega) (by rw[e1,e3])
  rw[hgv,ae,ae,e2,show ((d:Nat):Int) - 1=((U / 4294967296 ^ j / V:Nat):Int) from by omega,iq (oi (by omega))]
 ·have hdq:d=U / 4294967296 ^ j / V:=by
   have h1:d≤U / 4294967296 ^ j / V:=(oX Do).2 (by rw[cZ];omega)
   omega
  have ht:=P3 (U:=U) (V:=V) (D:=U / 4294967296 ^ j % V) (n:=n) (j:=j) (d:=d) (by omega) hj DR hUlt hdb (eV (Nat.mod_le _ _) LE) (by rw[if_neg bX,hdq];omega)
  rw[ht,bH bX,ae,aX,ae,hdq]
theorem M0 {U V n k:Nat}(hn:2≤n)(hk:k+n≤17)(hV:2147483648*4294967296 ^ (n - 1)≤V)(DR:V<4294967296 ^ n)(hU:U / 4294967296 ^ k<V)(y:Int):
  bS (e8 (n:Int) (W V,y)) ((k:Int) - 1,W 0,vN 4294967296 17 U)=some (W (U / V),vN 4294967296 17 (U % V)):=by
 have hb:0<(4294967296:Nat):=by decide
 have Do:0<V:=d8 (wC (by decide) (b9 hb)) hV
 have hl:=No (b:=e8 (n:Int) (W V,y)) (s0:=((k:Int) - 1,W 0,vN 4294967296 17 U)) (fun i=>((i:Int) - 1,vN 4294967296 16 (U / V / 4294967296 ^ i*4294967296 ^ i),vN 4294967296 17 (U / 4294967296 ^ i % V*4294967296 ^ i+U % 4294967296 ^ i))) k (vN 4294967296 16 (U / V / 4294967296 ^ 0*4294967296 ^ 0),vN 4294967296 17 (U / 4294967296 ^ 0 % V*4294967296 ^ 0+U % 4294967296 ^ 0))
  (by
   have e1:U / V / 4294967296 ^ k=0:=by
    rw[gV,cZ,←gV,eM hU]
   have e2:U / 4294967296 ^ k % V*4294967296 ^ k+U % 4294967296 ^ k=U:=by
    rw[gL hU,cZ];exact lx _ _
   rw[e1,e2,g5])
  (fun i hi=>by
   have hp:0<4294967296 ^ i:=b9 hb
   obtain⟨h1,h2⟩:=wX (b:=4294967296) (A:=U) (k:=i) (d:=V) hb Do
   have eR1:(U / 4294967296 ^ (i+1) % V*4294967296 ^ (i+1)+U % 4294967296 ^ (i+1)) / 4294967296 ^ i=U / 4294967296 ^ (i+1) % V*4294967296+dg 4294967296 U i:=by
    rw[gY,c8,←fC,Nat.mul_right_comm,pT (U % _),←wb,cZ (4294967296 ^ i) (dg _ _ _),←cp,cZ (_+_) (4294967296 ^ i),Nat.mul_add_div hp,eM (eE _ hp),mf]
   have eR2:(U / 4294967296 ^ (i+1) % V*4294967296 ^ (i+1)+U % 4294967296 ^ (i+1)) % 4294967296 ^ i=U % 4294967296 ^ i:=by
    rw[gY,c8,←fC,Nat.mul_right_comm,pT (U % _),←wb,cZ (4294967296 ^ i) (dg _ _ _),←cp,Nat.mul_add_mod_self_right,Nat.mod_mod]
   have bX:(U / 4294967296 ^ (i+1) % V*4294967296 ^ (i+1)+U % 4294967296 ^ (i+1)) / 4294967296 ^ i<V*4294967296:=by
    rw[eR1]
    have h3:=eE (U / 4294967296 ^ (i+1)) Do
    have h4:(U / 4294967296 ^ (i+1) % V+1)*4294967296≤V*4294967296:=dx _ h3
    rw[cp,jZ] at h4
    exact d8 (CI dgl _) h4
   obtain⟨hq,hqb⟩:=K7 (j:=i) hn (by omega) hV DR bX
   rw[eR1,h1,h2,eR2] at hq
   rw[eR1,h1] at hqb
   have ei:((i+1:Nat):Int) - 1=(i:Int):=by omega
   dsimp only[e8]
   rw[ei,de _ _ (by omega)]
   -- the digit
   revert hq
   generalize vN 4294967296 17 (U / 4294967296 ^ (i+1) % V*4294967296 ^ (i+1)+U % 4294967296 ^ (i+1))=uv
   intro hq
   obtain⟨d,e1,hq⟩:=ab hq
   rw[tB] at hq
   rw[e1,ae,hq,ae]
   dsimp only
   rw[aL (by omega),cl,yM hqb,JG hb (by omega),cm (by omega)])
  (by
   dsimp only[e8]
   rw[cK _ _ (by omega)])
 rw[hl]
 simp only[fZ,mN,wD,mO,mf]
theorem build17 {A s:Nat}(hA:A<LIM)(hs:s<32):(vOf 17 (lCp (Vector.replicate 17 (0:Int)).toList 0 (List.take 17 (List.take 16 (List.drop 0 (W (A*2 ^ s)).toList))))).set! ((16:Int)).toNat ((A % 4294967296 ^ 16*2 ^ s / 4294967296 ^ 16:Nat):Int)=vN 4294967296 17 (A*2 ^ s):=by
 have hb:0<(4294967296:Nat):=by decide
 have Mg:2 ^ s≤2 ^ 31:=ia (by decide) (by omega)
 have hs3:0<2 ^ s:=b9 (by decide)
 have hc:A % 4294967296 ^ 16*2 ^ s / 4294967296 ^ 16<2 ^ s:=ze hb hs3
 have h16:(W (A*2 ^ s)).toList.length=16:=qJ
 have hl:lCp (Vector.replicate 17 (0:Int)).toList 0 (List.take 17 (List.take 16 (List.drop 0 (W (A*2 ^ s)).toList)))=(W (A*2 ^ s)).toList++[0]:=by
  rw[pR,g6 (i:=17) (by simp),g6 (by simp)]
  unfold lCp
  rw[h16,CA,mU]
  rfl
 have Oj:((W (A*2 ^ s)).toList++[(0:Int)]).length=17:=by rw[cR,h16];rfl
 rw[hl]
 apply nO
 intro j hj
 rw[o9 hj,jw hj]
 by_cases h:j=16
 ·subst h
  rw[if_pos (by rfl)]
  have Ki:A<4294967296 ^ 16:=hA
  rw[gL Ki] at hc ⊢
  unfold dg
  rw[gL (by omega)]
 ·rw[if_neg (by simpa using h),←xI (vOf 17 _) hj,wQ Oj,cz _ j (by rw[Oj];omega),List.getElem_append_left (by rw[h16];omega)]
  have e2:=jw (b:=4294967296) (A:=A*2 ^ s) (j:=j) (n:=16) (by omega)
  rw[←xI _ (by omega),cz _ j (by rw[h16];omega)] at e2
  exact e2
theorem C6 {A B:Nat}(hA:A<LIM)(hB:B<LIM)(FG:0<B):fS (W A) (W B)=some (W (A / B),W (A % B)):=by
 have hb:0<(4294967296:Nat):=by decide
 obtain⟨n,hn,hn1,Er,p8⟩:=zW hB
 obtain⟨m,hm,hm1,Oi,hm3⟩:=zW hA
 have hn0:0<n:=by
  rcases qO n with h|h
  ·subst h;simp at Er;omega
  ·exact h
 unfold fS
 rw[hn1,ae,hm1,ae,Bf hA hB,ae]
 by_cases bX:A<B
 ·rw[de _ _ (by unfold Fe;rw[if_pos bX];omega),ae,z16,eM bX,gL bX]
 ·rw[cK _ _ (by unfold Fe;rw[if_neg bX];split <;> omega)]
  by_cases h1:n=1
  ·subst h1
   have hBb:B<4294967296:=by simpa using Er
   have e0:(W B)[((0:Int)).toNat]! =(B:Int):=by
    have:(W B)[((0:Int)).toNat]! =(dg 4294967296 B 0:Int):=gO (by decide)
    rw[this]
    unfold dg
    rw[fZ,mN,gL hBb]
   have hr:A % B<4294967296:=Nat.lt_trans (eE _ FG) hBb
   rw[de _ _ (by omega),e0,G_short hA FG hBb,ae,ae]
   have:=PF (u:=A % B) (by omega)
   rw[gL hr,eM hr] at this
   dsimp only
   rw[←this]
   rfl
  ·have h2:2≤n:=by omega
   have hk:n - 1<16:=by omega
   have hBd:B / 4294967296 ^ (n - 1)=dg 4294967296 B (n - 1):=by
    have:=cP (b:=4294967296) (A:=B) (k:=n - 1)
    rw[show n - 1+1=n from by omega,eM Er,g5,bJ] at this
    exact this
   obtain⟨l,hl1,FC,hl3,hl4⟩:=G_Lead (x:=dg 4294967296 B (n - 1)) dgl
   have hp:0<4294967296 ^ (n - 1):=b9 hb
   have B5:1≤dg 4294967296 B (n - 1):=by rw[←hBd];exact (oX hp).2 (by rw[jZ];exact p8 hn0)
   have hl0:0<l:=by
    rcases qO l with h|h
    ·subst h;simp at hl3;omega
    ·exact h
   have hl5:=hl4 hl0
   have hs:32 - l<32:=by omega
   have epow:2 ^ l*2 ^ (32 - l)=4294967296:=by rw[←hJ,show l+(32 - l)=32 from by omega]
   have epow2:2 ^ (l - 1)*2 ^ (32 - l)=2147483648:=by rw[←hJ,show l - 1+(32 - l)=31 from by omega]
   have hS:0<2 ^ (32 - l):=b9 (by decide)
   have epn:(4294967296:Nat) ^ n=4294967296 ^ (n - 1)*4294967296:=by rw[←c8];congr 1;omega
   have hVlo:2147483648*4294967296 ^ (n - 1)≤B*2 ^ (32 - l):=by
    have h3:2 ^ (l - 1)*4294967296 ^ (n - 1)≤B:=(oX hp).1 (by rw[hBd];exact hl5)
    calc 2147483648*4294967296 ^ (n - 1)=2 ^ (l - 1)*4294967296 ^ (n - 1)*2 ^ (32 - l):=by rw[←epow2,Nat.mul_right_comm]
     _≤B*2 ^ (32 - l):=dx _ h3
   have hVhi:B*2 ^ (32 - l)<4294967296 ^ n:=by
    have h3:B<2 ^ l*4294967296 ^ (n - 1):=(lw hp).1 (by rw[hBd];exact hl3)
    calc B*2 ^ (32 - l)<2 ^ l*4294967296 ^ (n - 1)*2 ^ (32 - l):=Nat.mul_lt_mul_of_pos_right h3 hS
     _=4294967296 ^ n:=by rw[Nat.mul_right_comm,epow,cZ,←epn]
   have Do:0<B*2 ^ (32 - l):=wC FG hS
   have hmn:n≤m:=by
    rcases gW m n with h|h
    ·have h3:4294967296 ^ m≤4294967296 ^ (n - 1):=ia hb (by omega)
     have h4:=p8 hn0
     omega
    ·exact h
   have hUk:A*2 ^ (32 - l) / 4294967296 ^ (m - n+1)<B*2 ^ (32 - l):=by
    rw[lw (b9 hb)]
    have h3:A<B*4294967296 ^ (m - n+1):=by
     have h4:4294967296 ^ (n - 1)*4294967296 ^ (m - n+1)≤B*4294967296 ^ (m - n+1):=dx _ (p8 hn0)
     rw[←hJ,show n - 1+(m - n+1)=m from by omega] at h4
     omega
    calc A*2 ^ (32 - l)<B*4294967296 ^ (m - n+1)*2 ^ (32 - l):=Nat.mul_lt_mul_of_pos_right h3 hS
     _=B*2 ^ (32 - l)*4294967296 ^ (m - n+1):=Nat.mul_right_comm _ _ _
   have eidx:i64.wrap ((m:Int) - (n:Int))=((m - n+1:Nat):Int) - 1:=by rw[cm (by omega)];omega
   rw[cK _ _ (by omega),show i64.wrap ((n:Int) - 1)=((n - 1:Nat):Int) from by rw[cm (by omega)];omega,aL (by omega),cl,gO hk,hl1,ae,G_up hs,ae,G_up hs,ae,ae]
   dsimp only
   rw[build17 hA hs,eidx,r16,M0 h2 (by omega) hVlo hVhi hUk,ae]
   dsimp only
   have hmod:A*2 ^ (32 - l) % (B*2 ^ (32 - l))<4294967296 ^ 16:=d8 (eE _ Do) (ez (mh hVhi) (ia hb hn))
   rw[vsub 16 0 (by omega),fZ,mN,G_down hmod hs,ae,Nat.mul_mod_mul_right,Nat.mul_div_cancel _ hS,Nat.mul_div_mul_right _ _ hS]
theorem ye(x y:Nat):Nat.gcd x y=Nat.gcd y (x % y):=by
 rw[Nat.gcd_comm x y,Nat.gcd_rec,Nat.gcd_comm]
theorem P1(x y:Nat):bS iY ((x:Int),(y:Int))=some ((Nat.gcd x y:Nat):Int):=by
 induction y using Nat.strongRecOn generalizing x with
 |_ y ih=>
  by_cases hy:y=0
  ·subst hy
   rw[Nat.gcd_zero_right]
   exact nl (by dsimp only[iY];rw[cK _ _ (by simp)])
  ·have h1:iY ((x:Int),(y:Int))=some (.inl ((y:Int),((x % y:Nat):Int))):=by
    dsimp only[iY]
    rw[de _ _ (by omega),aL (by omega),←r7]
   rw[oM h1,ih (x % y) (eE _ (by omega)) y,←ye]
theorem uG {A:Nat}(hA:A<LIM):∃n:Nat,eZ (W A)=some (n:Int)∧(n≤2↔A<18446744073709551616):=by
 obtain⟨n,hn,h1,h2⟩:=zW hA
 have e:(4294967296:Nat) ^ 2=18446744073709551616:=by decide
 refine⟨n,h1,fun h=>?_,fun h=>Io (by decide) h2 (by rw[e];exact h)⟩
 have h3:4294967296 ^ n≤4294967296 ^ 2:=ia (by decide) h
 rw[e] at h3
 exact d8 h2.1 h3
theorem G_Abs {a:Int}(ha:a.natAbs<LIM):pj (enc a)=some (enc (a.natAbs:Int)):=by
 unfold pj
 rw[tQ,bz ha,ae,c7,aX,lL ha,jv ha,ae]
 rfl
theorem vP {a c:Int}(ha:a.natAbs<LIM)(hc:c.natAbs<LIM)(h1:a.natAbs<18446744073709551616)(h2:c.natAbs<18446744073709551616)(p:av→av→Option av):
  cU p (enc a) (enc c)=some (enc (Nat.gcd a.natAbs c.natAbs:Nat)):=by
 obtain⟨n,hn1,Er⟩:=uG ha
 obtain⟨m,hm1,Oi⟩:=uG hc
 have hg:Nat.gcd a.natAbs c.natAbs<18446744073709551616:=by
  rcases qO a.natAbs with h|h
  ·rw[h,Nat.gcd_zero_left];exact h2
  ·exact eV (Nat.gcd_le_left _ h) h1
 have hgL:Nat.gcd a.natAbs c.natAbs<LIM:=d8 hg (by decide)
 unfold cU
 rw[tP,bz ha,bz hc,ae]
 simp only[bB,c7,aX,lL ha,lL hc]
 rw[hn1,ae,de _ _ (by have:=Er.2 h1;omega),hm1,ae,ae,de _ _ (by have:=Oi.2 h2;omega),Nn h1,Nn h2,ae,ae,P1,ae,yN,wj,yM (by omega),PF hg,jv hgL,ae]
 rfl
theorem H6 {a:Int}(ha:a.natAbs<LIM)(p:av→av→Option av):cU p (enc a) (enc 0)=some (enc (Nat.gcd a.natAbs 0:Nat)):=by
 by_cases h1:a.natAbs<18446744073709551616
 ·exact vP ha (by decide) h1 (by decide) p
 ·obtain⟨n,hn1,Er⟩:=uG ha
  have hc:(0:Int).natAbs<LIM:=by decide
  unfold cU
  rw[tP,bz ha,bz hc,ae]
  simp only[bB,c7,aX,lL ha,lL hc]
  rw[hn1,ae,cK _ _ (by have:=mt Er.1 h1;omega),ae,aX,cK _ _ (by rw[z16];exact fun h=>h rfl),G_Abs ha,ae,Nat.gcd_zero_right]
theorem H7 {a c:Int}(ha:a.natAbs<LIM)(hc:c.natAbs<LIM)(h0:c.natAbs≠0)(h1:¬(a.natAbs<18446744073709551616∧c.natAbs<18446744073709551616))(p:av→av→Option av):
  cU p (enc a) (enc c)=p (enc (c.natAbs:Int)) (enc ((a.natAbs % c.natAbs:Nat):Int)):=by
 obtain⟨n,hn1,Er⟩:=uG ha
 obtain⟨m,hm1,Oi⟩:=uG hc
 have hr:a.natAbs % c.natAbs<LIM:=eV (Nat.mod_le _ _) ha
 unfold cU
 rw[tP,bz ha,bz hc,ae]
 simp only[bB,c7,aX,lL ha,lL hc]
 rw[hn1,ae,hm1,ae]
 have Hh:(cnd (decide ((n:Int)≤(2:Int))) (some (decide ((m:Int)≤(2:Int)))) (some (false)))=some false:=by
  rw[gj]
  split
  ·rename_i h
   congr 1
   have h2:=Er.1 (by omega)
   exact bH fun h3=>h1 ⟨h2,Oi.1 (by omega)⟩
  ·rfl
 rw[Hh,ae,aX,z16,de _ _ (by rw[CR hc vO];exact h0),C6 ha hc (by omega),ae,jv hc,ae]
 dsimp only
 rw[jv hr,ae,tB]
 rfl
theorem LA {x y:Nat}(hy:0<y)(hxy:y≤x):2*(y*(x % y))<x*y:=by
 have h1:=lx x y
 have h2:=eE x hy
 have h3:0<x / y:=Nat.div_pos hxy hy
 have h4:y≤y*(x / y):=EH _ h3
 have h5:2*(x % y)<x:=by omega
 have h6:2*(x % y)*y<x*y:=Nat.mul_lt_mul_of_pos_right h5 hy
 calc 2*(y*(x % y))=2*(x % y)*y:=by rw[cZ y,fC]
  _<x*y:=h6
theorem KI(n:Nat):∀{a c:Int},a.natAbs<LIM→c.natAbs<LIM→c.natAbs≤a.natAbs→a.natAbs*c.natAbs<18446744073709551616*2 ^ n→ii (n+2) (enc a) (enc c)=some (enc (Nat.gcd a.natAbs c.natAbs:Nat)):=by
 induction n with
 |zero=>
  intro a c ha hc hle hp
  show cU _ _ _=_
  by_cases h0:c.natAbs=0
  ·obtain rfl:c=0:=by omega
   exact H6 ha _
  ·have h1:a.natAbs≤a.natAbs*c.natAbs:=EH _ (by omega)
   exact vP ha hc (by omega) (by omega) _
 |succ n ih=>
  intro a c ha hc hle hp
  show cU (ii (n+2)) _ _=_
  by_cases h0:c.natAbs=0
  ·obtain rfl:c=0:=by omega
   exact H6 ha _
  ·by_cases h1:a.natAbs<18446744073709551616∧c.natAbs<18446744073709551616
   ·exact vP ha hc h1.1 h1.2 _
   ·have h2:=LA (xn h0) hle
    have h3:=eE a.natAbs (xn h0)
    rw[H7 ha hc h0 h1,ih (by rw[eU];exact hc) (by rw[eU];omega) (by rw[eU,eU];omega) (by rw[eU,eU];rw[c8] at hp;omega),eU,eU,←ye]
theorem KO {a c:Int}(ha:a.natAbs<LIM)(hc:c.natAbs<LIM):nt (enc a) (enc c)=some (enc (Nat.gcd a.natAbs c.natAbs:Nat)):=by
 have e:LIM*LIM≤18446744073709551616*2 ^ 960:=by decide +kernel
 have mono:∀(n:Nat) {x y r:av},ii n x y=some r→∀m,n≤m→ii m x y=some r:=by
  have step:∀{p q:av→av→Option av},(∀{x y r},p x y=some r→q x y=some r)→∀{x y r},cU p x y=some r→cU q x y=some r:=by
   intro p q hpq x y r h
   unfold cU at h ⊢
   obtain⟨b,h1,h⟩:=ab h
   rw[h1,ae]
   cases b with
   |false=>exact h
   |true=>
    rw[c7,aX] at h ⊢
    obtain⟨b2,h2,h⟩:=ab h
    rw[h2,ae]
    cases b2 with
    |true=>exact h
    |false=>
     rw[aX] at h ⊢
     cases hd:decide (¬(y.vW=#v[(0:Int),0,0,0,0,0,0,0,0,0,0,0,0,0,0,0])) with
     |false=>rw[hd] at h;exact h
     |true=>
      rw[hd,gz] at h
      rw[gz]
      obtain⟨q1,h3,h⟩:=ab h
      rw[h3,ae]
      obtain⟨q2,h4,h⟩:=ab h
      rw[h4,ae]
      obtain⟨q3,h5,h⟩:=ab h
      rw[h5,ae]
      obtain⟨q4,h6,h⟩:=ab h
      rw[hpq h6,ae]
      exact h
  intro n
  induction n with
  |zero=>intro x y r h;cases h
  |succ n ih=>
   intro x y r h m hm
   obtain⟨m,rfl⟩:∃k,m=k+1:=⟨m - 1,by omega⟩
   exact step (fun h=>ih h m (by omega)) h
 unfold nt
 by_cases hle:c.natAbs≤a.natAbs
 ·refine mono 962 (KI 960 ha hc hle ?_) 1000 (by decide)
  exact d8 (zO ha hc) e
 ·by_cases h1:a.natAbs<18446744073709551616∧c.natAbs<18446744073709551616
  ·exact vP ha hc h1.1 h1.2 _
  ·refine mono 963 ?_ 1000 (by decide)
   show cU (ii 962) _ _=_
   rw[H7 ha hc (by omega) h1,gL (by omega),KI 960 (by rw[eU];exact hc) (by rw[eU];exact ha) (by rw[eU,eU];omega) (by rw[eU,eU];exact d8 (zO hc ha) e),eU,eU,Nat.gcd_comm]
theorem my {x y:Int}(hy:y≠0)(q r:Int)(h:q*y+r=x)(hr:0≤r∧r<y∨y<r∧r≤0):q=x.fdiv y∧r=x.fmod y:=by
 have h2:x.fdiv y*y+x.fmod y=x:=Int.fdiv_mul_add_fmod x y
 have hf:0≤x.fmod y∧x.fmod y<y∨y<x.fmod y∧x.fmod y≤0:=by
  rcases Int.lt_or_gt_of_ne hy with h|h
  ·right
   have h3:=Int.neg_fmod_neg x y
   have h4:=u9 (-x) (b:=-y) (by omega)
   have h5:=xl (-x) (b:=-y) (by omega)
   omega
  ·left;exact⟨u9 _ h,xl _ h⟩
 have hq:q=x.fdiv y:=by
  have h3:(q - x.fdiv y)*y=x.fmod y - r:=by rw[Int.sub_mul];omega
  rcases zP (q - x.fdiv y) 0 with h4|h4|h4
  ·exfalso
   rcases hr with hr|hr <;> rcases hf with hf|hf
   ·have:(q - x.fdiv y)*y≤(-1)*y:=FY (by omega) (by omega)
    omega
   ·omega
   ·omega
   ·have:(-1)*y≤(q - x.fdiv y)*y:=Int.mul_le_mul_of_nonpos_right (by omega) (by omega)
    omega
  ·omega
  ·exfalso
   rcases hr with hr|hr <;> rcases hf with hf|hf
   ·have:1*y≤(q - x.fdiv y)*y:=FY (by omega) (by omega)
    omega
   ·omega
   ·omega
   ·have:(q - x.fdiv y)*y≤1*y:=Int.mul_le_mul_of_nonpos_right (by omega) (by omega)
    omega
 subst hq
 exact⟨rfl,by omega⟩
theorem GP {x y:Int}(hy:y≠0):x.tmod y<y.natAbs∧-(y.natAbs:Int)<x.tmod y:=by
 have h1:=Int.natAbs_tmod x y
 have h2:=eE x.natAbs (show 0<y.natAbs by omega)
 rw[←h1] at h2
 omega
theorem yP {x y:Int}(hy:y≠0):(cnd (decide (x.tmod y≠0)) (some (!((decide (x.tmod y<0)) == (decide (y<0))))) (some false))=some (decide (x.fdiv y≠x.tdiv y))∧(x.fdiv y≠x.tdiv y→x.fdiv y=x.tdiv y - 1∧x.fmod y=x.tmod y+y)∧(x.fdiv y=x.tdiv y→x.fmod y=x.tmod y):=by
 have e1:x.tdiv y*y+x.tmod y=x:=Int.tdiv_mul_add_tmod x y
 have e2:x.fdiv y*y+x.fmod y=x:=Int.fdiv_mul_add_fmod x y
 have hm:=GP (x:=x) hy
 rw[gj]
 by_cases h1:x.tmod y=0
 ·obtain⟨h2,h3⟩:=my (x:=x) hy (x.tdiv y) (x.tmod y) e1 (by omega)
  rw[if_neg (by simp[h1])]
  exact⟨by simp[h2],fun h=>absurd h2.symm h,fun _=>h3.symm⟩
 ·rw[if_pos h1]
  by_cases h2:(x.tmod y<0)↔(y<0)
  ·obtain⟨h3,h4⟩:=my (x:=x) hy (x.tdiv y) (x.tmod y) e1 (by omega)
   refine⟨?_,fun h=>absurd h3.symm h,fun _=>h4.symm⟩
   rw[kM.2 h2,CF]
   simp[h3]
  ·obtain⟨h3,h4⟩:=my (x:=x) hy (x.tdiv y - 1) (x.tmod y+y) (by rw[Int.sub_mul];omega) (by omega)
   have h5:(decide (x.tmod y<0) == decide (y<0))=false:=HX.2 fun h=>h2 (kM.1 h)
   have h6:x.fdiv y≠x.tdiv y:=by omega
   refine⟨?_,fun _=>⟨h3.symm,h4.symm⟩,fun h=>absurd h h6⟩
   rw[h5]
   simp[h6]
theorem GQ {x y:Int}(hx:-9223372036854775807≤x∧x≤9223372036854775807):-9223372036854775807≤x.tdiv y∧x.tdiv y≤9223372036854775807:=by
 have h1:(x.tdiv y).natAbs=x.natAbs / y.natAbs:=Int.natAbs_tdiv ..
 have h2:x.natAbs / y.natAbs≤x.natAbs:=qU _ _
 omega
theorem O1 {x y:Int}(hx:-9223372036854775807≤x∧x≤9223372036854775807)(J7:-9223372036854775807≤y∧y≤9223372036854775807)(hy:y≠0):
  (bnd (S:=Int×Int) (bnd (S:=Bool) (cnd (decide ((Int.tmod x y)≠(0:Int))) (some (!((decide ((Int.tmod x y)<(0:Int))) == (decide (y<(0:Int)))))) (some (false))) fun qW=>cnd qW (bnd (some (i64.wrap ((i64.wrap (Int.tdiv x y)) - (1:Int)))) fun xu=>bnd (some (i64.wrap ((Int.tmod x y)+y))) fun zY=>some ((xu,zY))) (some ((i64.wrap (Int.tdiv x y),Int.tmod x y)))) fun (j6,pU)=>bnd (gS j6) fun Ie=>bnd (gS pU) fun Me=>some ((.inr (Ie,Me)):Unit⊕(av×av)))=some (.inr (enc (x.fdiv y),enc (x.fmod y))):=by
 obtain⟨h1,h2,h3⟩:=yP (x:=x) hy
 have hq:=GQ (y:=y) hx
 have hm:=GP (x:=x) hy
 rw[h1,ae]
 by_cases h:x.fdiv y=x.tdiv y
 ·have hf:=h3 h
  rw[cK _ _ (fun hh=>hh h),ae,Mx (by omega)]
  dsimp only
  rw[JB (by omega) (by omega),ae,JB (by omega) (by omega),ae,h,hf]
 ·obtain⟨h4,h5⟩:=h2 h
  have hf:x.fmod y≤9223372036854775807∧-9223372036854775807≤x.fmod y:=by
   have:-(y.natAbs:Int)≤x.fmod y∧x.fmod y≤y.natAbs:=by
    rcases Int.lt_or_gt_of_ne hy with hl|hl
    ·have h7:=u9 (-x) (b:=-y) (by omega)
     have h8:=xl (-x) (b:=-y) (by omega)
     have h9:=Int.neg_fmod_neg x y
     omega
    ·have h7:=u9 x (b:=y) (by omega)
     have h8:=xl x (b:=y) (by omega)
     omega
   omega
  rw[de _ _ h,Mx (z:=Int.tdiv x y) (by omega),ae,ae,Mx (by omega),Mx (by omega),←h4,←h5]
  dsimp only
  rw[ae]
  dsimp only
  rw[JB (by omega) (by omega),ae,JB (by omega) (by omega),ae]
theorem ET {a c:Int}(ha:a.natAbs<LIM)(hc:c.natAbs<LIM)(h0:c≠0):iV (enc a) (enc c)=some (enc (a.fdiv c),enc (a.fmod c)):=by
 have DB:∀r:Unit⊕(av×av),r=.inl ()→(match r with| .inl ()=>bnd (fS (enc a).vW (enc c).vW) fun xw=>bnd (bV (!((enc a).vNeg == (enc c).vNeg)) xw.1) fun Da=>bnd (S:=(Vector Int 16)×av) (bnd (S:=Bool) (cnd (decide (¬(xw.2=#v[(0:Int),0,0,0,0,0,0,0,0,0,0,0,0,0,0,0]))) (some (!((enc a).vNeg == (enc c).vNeg))) (some (false))) fun As=>cnd As (bnd (gS (1:Int)) fun x44=>bnd (nq Da x44) fun x46=>bnd (ie (enc c).vW xw.2) fun x48=>some ((x48,x46))) (some ((xw.2,Da)))) fun (At,yu)=>bnd (bV (enc c).vNeg At) fun x51=>some (yu,x51)| .inr r=>some r)=some (enc (a.fdiv c),enc (a.fmod c)):=by
  rintro r rfl
  dsimp only
  have hr:=eE a.natAbs (show 0<c.natAbs by omega)
  have hq:a.natAbs / c.natAbs≤a.natAbs:=qU _ _
  have hdm:=lx a.natAbs c.natAbs
  rw[lL ha,lL hc,jE ha,jE hc,C6 ha hc (by omega),ae]
  dsimp only
  rw[jv (eV hq ha),ae,z16]
  simp only[CR (Nat.lt_trans hr hc) vO]
  have I3:(c.natAbs:Int)*((a.natAbs / c.natAbs:Nat):Int)+((a.natAbs % c.natAbs:Nat):Int)=(a.natAbs:Int):=by rw[←mT,←j5,hdm]
  generalize hQ:a.natAbs / c.natAbs=Q at I3 hq ⊢
  generalize hR:a.natAbs % c.natAbs=R at I3 hr ⊢
  by_cases hs:decide (a<0)=decide (c<0)
  ·have Lq:=kM.1 hs
   rw[hs,CF,c7]
   rw[show (cnd (decide (¬(R=0))) (some false) (some false))=some false from by rw[Pf],ae,aX,ae]
   dsimp only[cond_false]
   rw[jv (Nat.lt_trans hr hc),ae]
   obtain⟨h1,h2⟩:=my (x:=a) h0 (Q:Int) (bif decide (c<0) then -(R:Int) else (R:Int)) (by
    by_cases DQ:c<0
    ·rw[aF DQ,j4]
     have e:c=-(c.natAbs:Int):=by omega
     have e2:a=-(a.natAbs:Int):=by omega
     rw[e2,←I3]
     conv=>lhs;rw[e]
     rw[Int.mul_neg,kL];omega
    ·rw[bH DQ,cond_false]
     have e:c=(c.natAbs:Int):=by omega
     have e2:a=(a.natAbs:Int):=by omega
     rw[e2,←I3]
     conv=>lhs;rw[e]
     rw[kL]) (by
    by_cases DQ:c<0
    ·rw[aF DQ,j4];omega
    ·rw[bH DQ,cond_false];omega)
   rw[←h1,←h2]
  ·have Lq:¬((a<0)↔(c<0)):=fun h=>hs (kM.2 h)
   have hb:(decide (a<0) == decide (c<0))=false:=HX.2 hs
   rw[hb,qR,j4]
   have hmul:-(Q:Int)*c=(if c<0 then 1 else -1)*((c.natAbs:Int)*(Q:Int)):=by
    split
    ·have e:c=-(c.natAbs:Int):=by omega
     conv=>lhs;rw[e]
     rw[Int.neg_mul_neg,Int.one_mul,kL]
    ·have e:c=(c.natAbs:Int):=by omega
     conv=>lhs;rw[e]
     rw[Int.neg_mul,Int.neg_mul,Int.one_mul,kL]
   by_cases hR0:R=0
   ·rw[cK _ _ (by simpa using hR0),ae,aX,ae]
    dsimp only
    rw[jv (Nat.lt_trans hr hc),ae]
    obtain⟨h1,h2⟩:=my (x:=a) h0 (-(Q:Int)) 0 (by rw[hmul];subst hR0;split <;> omega) (by omega)
    rw[←h1,←h2]
    subst hR0
    cases decide (c<0) <;> rfl
   ·have hQ1:((-(Q:Int)).natAbs)<LIM:=by rw[Int.natAbs_neg,eU];exact eV hq ha
    rw[de _ _ hR0,ae,gz,JB (by decide) (by decide),ae,G_Sub hQ1 (by decide),ae,Gi (mh hr),ae,ae]
    dsimp only
    rw[jv (eV (Nat.sub_le _ _) hc),ae]
    obtain⟨h1,h2⟩:=my (x:=a) h0 (-(Q:Int) - 1) (bif decide (c<0) then -((c.natAbs - R:Nat):Int) else ((c.natAbs - R:Nat):Int)) (by
     rw[Int.sub_mul,hmul]
     by_cases DQ:c<0
     ·rw[aF DQ,j4,if_pos DQ];omega
     ·rw[bH DQ,cond_false,if_neg DQ];omega) (by
     by_cases DQ:c<0
     ·rw[aF DQ,j4];omega
     ·rw[bH DQ,cond_false];omega)
    rw[←h1,←h2]
 unfold iV
 rw[tP,bz ha,bz hc,ae,bB,c7,aX,vl hc,ae,ae,cK _ _ (by rw[zM];exact h0),KM ha,ae]
 have Og:∀z:Int,(bnd (S:=Bool) (cnd (if -9223372036854775808≤z∧z<9223372036854775808 then (z,true) else (0,false):Int×Bool).2 (some (decide ((if -9223372036854775808≤z∧z<9223372036854775808 then (z,true) else (0,false):Int×Bool).1≠(-9223372036854775808:Int)))) (some (false))) fun a=>some a)=some (decide (-9223372036854775807≤z∧z≤9223372036854775807)):=by
  intro z
  rw[tB]
  split
  ·rw[gz];congr 1;exact kM.2 (by omega)
  ·rw[aX];congr 1;exact (bH (by omega)).symm
 have e1:=Og a
 have e2:=Og c
 rw[tB] at e1 e2
 rw[e1,ae,gj]
 split
 ·rename_i h1
  rw[KM hc,ae,e2,ae,gj]
  split
  ·rename_i h2
   rw[if_pos (by omega),if_pos (by omega),aL h0,aL h0,O1 h1 h2 h0,ae]
  ·rw[ae];exact DB _ rfl
 ·rw[ae];exact DB _ rfl
theorem EU {a c:Int}(ha:a.natAbs<LIM)(hc:c.natAbs<LIM)(h0:c≠0):ig (enc a) (enc c)=some (enc (a.fdiv c)):=by
 unfold ig
 rw[ET ha hc h0,ae]
end
end Go.Proofs.YtaedcknhkjpmlaaGreat
