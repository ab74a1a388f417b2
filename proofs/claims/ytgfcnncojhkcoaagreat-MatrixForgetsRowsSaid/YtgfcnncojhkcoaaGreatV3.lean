/-
  Lemmas, part 3. Conditions: none.
-/
import Derived.Test.YtgfcnncojhkcoaaGreatV2
set_option linter.all false
set_option maxRecDepth 100000
set_option maxHeartbeats 4000000
namespace Go.Proofs.YtgfcnncojhkcoaaGreat
open Go.RowKit Go.IntKind Tryz
noncomputable section
def gS(aY:ar)(a8:ar)(x8:Int)(aL:Int):Int×Int×(Vector Int 32)→Option ((Int×Int×(Vector Int 32))⊕(Int×(Vector Int 32))):=fun (C6,lZ,wr)=>cnd (decide (lZ<x8)) (gd (0≤aL∧aL<16) (gd (0≤lZ∧lZ<16) (gd (0≤i64.wrap (aL+lZ)∧i64.wrap (aL+lZ)<32) (bnd (some (u64.wrap (C6+(u64.wrap ((u64.wrap ((u64.wrap ((aY.vW)[(aL).toNat]!))*(u64.wrap ((a8.vW)[(lZ).toNat]!))))+(u64.wrap ((wr)[(i64.wrap (aL+lZ)).toNat]!))))))) fun p7=>gd (0≤i64.wrap (aL+lZ)∧i64.wrap (aL+lZ)<32) (bnd (some ((wr).set! (i64.wrap (aL+lZ)).toNat (u32.wrap (p7)))) fun nq=>some (.inl (kA .u64 p7 (32:Int),i64.wrap (lZ+(1:Int)),nq))))))) (some (.inr (C6,wr)))
def gT(aY:ar)(a8:ar)(x6:Int)(x8:Int):Int×(Vector Int 32)→Option ((Int×(Vector Int 32))⊕((Vector Int 32))):=fun (aL,eQ)=>cnd (decide (aL<x6)) (bnd (a7 (gS aY a8 x8 aL) ((0:Int),(0:Int),eQ)) fun (tV,tU)=>gd (0≤i64.wrap (aL+x8)∧i64.wrap (aL+x8)<32) (bnd (some ((tU).set! (i64.wrap (aL+x8)).toNat (u32.wrap (tV)))) fun wA=>some (.inl (i64.wrap (aL+(1:Int)),wA)))) (some (.inr eQ))
def ia(aY:ar)(a8:ar):Option ar:=bnd (cK [aY,a8]) fun x1=>cnd (!x1) (bnd (dU) fun x4=>some x4) (bnd (d9 aY.vW) fun x6=>bnd (d9 a8.vW) fun x8=>bnd (a7 (gT aY a8 x6 x8) ((0:Int),(Vector.replicate 32 (0:Int)))) fun bR=>cnd (decide (¬(vOf 16 (List.take 16 (List.drop 16 (bR).toList))=#v[(0:Int),0,0,0,0,0,0,0,0,0,0,0,0,0,0,0]))) (bnd (dU) fun Dc=>some Dc) (bnd (bC (!(aY.vNeg == a8.vNeg)) (vOf 16 (List.take 16 (List.drop 0 (bR).toList)))) fun wJ=>some wJ))
theorem kg {aY:ar}{a8:ar}{r:ar}(h:ia aY a8=some r):aB prog 90 [dG ap aY,dG ap a8] (dG ap r):=by
 refine bJ (rs:=[.cell 4 32]) (fun cx hx h0=>?_) func90
 unfold ia at h
 refine rs hx fun K hK=>?_
 iterate 2 refine sa ?_
 refine s1 (bq (F:=ap.f br) aA) ?_
 refine .nil (hK _ _ (AW.seq (rs hx fun K hK=>?_)))
 refine s1 (d:=dG ap aY) (aD (an.id _ _) aA) ?_
 refine s1 (d:=dG ap a8) (aD (an.id _ _) aA) ?_
 refine s1 (pX ([aY,a8]:List ar) ap px aA) ?_
 refine scb h gb fun x1 h=>?_
 refine sa ?_
 refine .nil (hK _ _ (cdh h rfl (fun bn h=>?_) (fun bn h=>?_)))
 refine rs hx fun K hK=>?_
 refine scb h gl fun x4 h=>?_
 refine s0 (aO (b':=x4) (an.id _ _) aA) ?_
 refine .nil (hK _ _ (AW.ret ?_))
 cases h
 exact rv1
 refine AW.skip (rs hx fun K hK=>?_)
 refine s1 (bq (F:=(cA 32 (cI .u32)).f (Vector.replicate 32 (0:Int))) uG) ?_
 refine .nil (hK _ _ (rsd [128] hx fun K hK=>?_))
 refine sa ?_
 refine s1 (aD (aS aY) aC) ?_
 refine cqb h jd fun x6 h=>?_
 refine sa ?_
 refine s1 (aD (aS a8) aC) ?_
 refine cqb h jd fun x8 h=>?_
 iterate 2 refine sa ?_
 refine .nil (hK _ _ (AW.seq (ra hx ?_)))
 refine AW.block ?_
 obtain⟨bR,hy,h⟩:=ah h
 refine lp (S:=Int×(Vector Int 32)) (X:=(Vector Int 32)) (fun (aL,eQ)=>[(2,.pt 0 0),(3,.pt 1 0),(4,.pt 2 0),(5,.pt 3 0),(7,dI .i64 x8),(23,dI .i64 x6),(24,dI .i64 aL)]) (fun (aL,eQ)=>⟨[(0,dC (ap.f aY)),(1,dC (ap.f a8)),(2,dC (ap.f br)),(3,dC ((cA 32 (cI .u32)).f eQ))],[],4⟩) (PE cx (.exit 0) (fun bR=>[(2,.pt 0 0),(3,.pt 1 0),(4,.pt 2 0),(5,.pt 3 0)]) fun bR=>⟨[(0,dC (ap.f aY)),(1,dC (ap.f a8)),(2,dC (ap.f br)),(3,dC ((cA 32 (cI .u32)).f bR))],[],4⟩) hy ?_ ?_ ?_
 exact wk h0 [0,1,2,4] (wR rfl (wR rfl (wR rfl (wR rfl (wR rfl (wR rfl (wR rfl wTn))))))) (vC rfl (vC rfl (vC rfl (vC rfl wVn)))) wLn
 clear hy h
 rintro⟨aL,eQ⟩ y h
 dsimp only[gT] at h
 refine ra hx ?_
 refine AW.seq (cdh h rfl (fun gz h=>?_) (fun gz h=>?_))
 refine AW.skip (AW.seq (AW.block ?_))
 iterate 2 refine ra hx ?_
 refine AW.seq (ra hx ?_)
 refine AW.block ?_
 obtain⟨y,hy,h⟩:=ah h
 refine lp (S:=Int×Int×(Vector Int 32)) (X:=Int×(Vector Int 32)) (fun (C6,lZ,wr)=>[(2,.pt 0 0),(3,.pt 1 0),(4,.pt 2 0),(5,.pt 3 0),(7,dI .i64 x8),(8,dI .i64 aL),(9,dI .u64 C6),(23,dI .i64 x6),(24,dI .i64 aL),(27,dI .i64 x8),(28,dI .i64 lZ)]) (fun (C6,lZ,wr)=>⟨[(0,dC (ap.f aY)),(1,dC (ap.f a8)),(2,dC (ap.f br)),(3,dC ((cA 32 (cI .u32)).f wr))],[],4⟩) (PE cx (.exit 2) (fun (tV,tU)=>[(2,.pt 0 0),(3,.pt 1 0),(4,.pt 2 0),(5,.pt 3 0),(7,dI .i64 x8),(8,dI .i64 aL),(9,dI .u64 tV),(23,dI .i64 x6),(24,dI .i64 aL)]) fun (tV,tU)=>⟨[(0,dC (ap.f aY)),(1,dC (ap.f a8)),(2,dC (ap.f br)),(3,dC ((cA 32 (cI .u32)).f tU))],[],4⟩) hy ?_ ?_ ?_
 exact wk h0 [0,1,2,3] (wR rfl (wR rfl (wR rfl (wR rfl (wR rfl (wR rfl (wR rfl (wR rfl (wR rfl (wR rfl (wR rfl wTn))))))))))) (vC rfl (vC rfl (vC rfl (vC rfl wVn)))) wLn
 clear hy h
 rintro⟨C6,lZ,wr⟩ y h
 dsimp only[gS] at h
 refine ra hx ?_
 refine AW.seq (cdh h rfl (fun NN h=>?_) (fun NN h=>?_))
 refine AW.skip (AW.seq (AW.block (ra hx ?_)))
 refine rsd [] hx fun K hK=>?_
 iterate 3 refine sa ?_
 obtain⟨DX,h⟩:=az h
 have HX:(aL).toNat<16:=by omega
 refine s1 (cj DX aC aH) ?_
 refine s1 (a6 (an.comp (aS aY) (an.vec (cI .u32) aY.vW (aL).toNat HX) (fun _=>rfl)) aH) ?_
 iterate 3 refine sa ?_
 obtain⟨H6,h⟩:=az h
 have Nr:(lZ).toNat<16:=by omega
 refine s1 (cj H6 aC aH) ?_
 refine s1 (a6 (an.comp (aS a8) (an.vec (cI .u32) a8.vW (lZ).toNat Nr) (fun _=>rfl)) aH) ?_
 iterate 5 refine sa ?_
 obtain⟨xw,h⟩:=az h
 have yT:(i64.wrap (aL+lZ)).toNat<32:=by omega
 refine s1 (cj xw uG aH) ?_
 refine s1 (a6 (an.comp (an.id _ _) (an.vec (cI .u32) wr (i64.wrap (aL+lZ)).toNat yT) (fun _=>rfl)) aH) ?_
 iterate 3 refine sa ?_
 obtain⟨p7,xp,h⟩:=ah h
 replace xp:=eG xp
 refine s2 (d2:=dI .u64 p7) ke (fK (congrArg (dI .u64) xp)) ?_
 refine .nil (hK _ _ (rs hx fun K hK=>?_))
 iterate 5 refine sa ?_
 obtain⟨uT,h⟩:=az h
 have B4:(i64.wrap (aL+lZ)).toNat<32:=by omega
 refine s1 (cj uT uG aH) ?_
 obtain⟨nq,B2,h⟩:=ah h
 replace B2:=eG B2
 refine s0 (jx (b':=u32.wrap (p7)) (an.comp (an.id _ _) (an.vec (cI .u32) wr (i64.wrap (aL+lZ)).toNat B4) (fun _=>rfl)) aH B2) ?_
 refine .nil (hK _ _ ?_)
 iterate 2 refine rb hx ?_
 cases h
 exact PS.l (pe0 h0 [0,1,2,3])
 refine AW.exit ?_
 try dsimp only
 try simp only[bk,reduceIte,Nat.reduceEqDiff,reduceCtorEq]
 cases h
 exact PS.r ⟨by nofun,PE.i (wk h0 [0,1,2,3] (wR rfl (wR rfl (wR rfl (wR rfl (wR rfl (wR rfl (wR rfl (wR rfl (wR rfl wTn))))))))) (vC rfl (vC rfl (vC rfl (vC rfl wVn)))) wLn)⟩
 obtain⟨tV,tU⟩:=y
 rintro ex tm' hp' ⟨rfl,hw⟩
 try dsimp only
 try simp only[bk,reduceIte,Nat.reduceEqDiff,reduceCtorEq]
 refine AW.weak hw (rq hx fun K hK=>?_)
 iterate 5 refine sa ?_
 obtain⟨hc25,h⟩:=az h
 have Nq:(i64.wrap (aL+x8)).toNat<32:=by omega
 refine s1 (cj hc25 uG aH) ?_
 obtain⟨wA,HO,h⟩:=ah h
 replace HO:=eG HO
 refine s0 (jx (b':=u32.wrap (tV)) (an.comp (an.id _ _) (an.vec (cI .u32) tU (i64.wrap (aL+x8)).toNat Nq) (fun _=>rfl)) aH HO) ?_
 refine .nil (hK _ _ (rb hx ?_))
 cases h
 exact PS.l (pe0 h0 [0,1,2,3])
 refine AW.exit ?_
 try dsimp only
 try simp only[bk,reduceIte,Nat.reduceEqDiff,reduceCtorEq]
 cases h
 exact PS.r ⟨by nofun,PE.i (wk h0 [0,1,2,3] (wR rfl (wR rfl (wR rfl (wR rfl wTn)))) (vC rfl (vC rfl (vC rfl (vC rfl wVn)))) wLn)⟩
 rintro ex tm' hp' ⟨rfl,hw⟩
 try dsimp only
 try simp only[bk,reduceIte,Nat.reduceEqDiff,reduceCtorEq]
 refine AW.weak hw (AW.seq (rs hx fun K hK=>?_))
 refine q1 (slA (n:=32) (l:=(16:Int)) (h:=(32:Int)) tok (by decide) uG aH ⟨_,rfl⟩ rfl) ?_
 refine q1 (sPtr tok rfl aC) ?_
 refine s1 (d:=dG al_cV (vOf 16 (List.take 16 (List.drop 16 (bR).toList)))) (aD (an.sub (o:=16) 16 (cI .u32) bR 16 (by decide) (by first|rfl|decide)) aC) ?_
 refine s1 (d:=dG al_cV (#v[(0:Int),0,0,0,0,0,0,0,0,0,0,0,0,0,0,0])) (kO aC aH) ?_
 refine s1 (xY tok 2 (by decide) (EqC.arr (EqC.int (d:=0) aH) aC aH) aC) ?_
 refine .nil (hK _ _ (cdh h rfl (fun hb30 h=>?_) (fun hb30 h=>?_)))
 refine rs hx fun K hK=>?_
 refine scb h gl fun Dc h=>?_
 refine s0 (aO (b':=Dc) (an.id _ _) aA) ?_
 refine .nil (hK _ _ (AW.ret ?_))
 cases h
 exact rv1
 refine AW.skip (rsd [111] hx fun K hK=>?_)
 refine sa ?_
 refine s1 (a6 (bp aY) ge) ?_
 refine sa ?_
 refine s1 (a6 (bp a8) ge) ?_
 refine sa ?_
 refine q1 (slA (n:=32) (l:=(0:Int)) (h:=(16:Int)) tok (by decide) uG aH rfl ⟨_,rfl⟩) ?_
 refine q1 (sPtr tok rfl aC) ?_
 refine s1 (d:=dG al_cV (vOf 16 (List.take 16 (List.drop 0 (bR).toList)))) (aD (an.sub (o:=0) 16 (cI .u32) bR 0 (by decide) (by first|rfl|decide)) aC) ?_
 obtain⟨wJ,HN,h⟩:=ah h
 refine sq tok (cR HN) (by simp only[e8,gL,js,lE,iC,iB];exact⟨rfl,bh _ _⟩) (lA (av _) (lA (fb _ _) lAn)) (.inl (iK _ _)) ?_
 refine s0 (aO (b':=wJ) (an.id _ _) aA) ?_
 refine .nil (hK _ _ (AW.ret ?_))
 cases h
 exact rv1
def eY(bj:Int):Option Int:=bnd (lc bj) fun x1=>some (i64.wrap ((32:Int) - x1))
theorem sC {bj:Int}{r:Int}(h:eY bj=some r):aB prog 164 [dI .u32 bj] (dI .i64 r):=by
 refine bJ (rs:=[.tmp 2]) (fun cx hx h0=>?_) func164
 unfold eY at h
 refine ra hx ?_
 refine rs hx fun K hK=>?_
 refine sa ?_
 refine scb h vA fun x1 h=>?_
 iterate 2 refine sa ?_
 refine .nil (hK _ _ (AW.ret ?_))
 cases h
 exact rv1
def iD(mE:Vector Int 16)(da:Int)(jp:Int)(cT:Vector Int 17)(x9:Int):Int×Int→Option ((Int×Int)⊕Int):=fun (cO,bm)=>bnd (S:=Bool) (cnd (decide (bm<(4294967296:Int))) (cnd (decide ((4294967296:Int)≤cO)) (some (true)) (gd (0≤i64.wrap (da - (2:Int))∧i64.wrap (da - (2:Int))<16) (gd (0≤i64.wrap ((i64.wrap (jp+da)) - (2:Int))∧i64.wrap ((i64.wrap (jp+da)) - (2:Int))<17) (some (decide ((ior .u64 (uP .u64 bm (32:Int)) (u64.wrap ((cT)[(i64.wrap ((i64.wrap (jp+da)) - (2:Int))).toNat]!)))<(u64.wrap (cO*(u64.wrap ((mE)[(i64.wrap (da - (2:Int))).toNat]!)))))))))) (some (false))) fun gN=>cnd gN (some (.inl (u64.wrap (cO - (1:Int)),u64.wrap (bm+x9)))) (some (.inr cO))
def gR(mE:Vector Int 16)(da:Int)(jp:Int)(cT:Vector Int 17):Option Int:=gd (0≤i64.wrap (jp+da)∧i64.wrap (jp+da)<17) (gd (0≤i64.wrap ((i64.wrap (jp+da)) - (1:Int))∧i64.wrap ((i64.wrap (jp+da)) - (1:Int))<17) (bnd (some (ior .u64 (uP .u64 (u64.wrap ((cT)[(i64.wrap (jp+da)).toNat]!)) (32:Int)) (u64.wrap ((cT)[(i64.wrap ((i64.wrap (jp+da)) - (1:Int))).toNat]!)))) fun x5=>gd (0≤i64.wrap (da - (1:Int))∧i64.wrap (da - (1:Int))<16) (bnd (some (u64.wrap ((mE)[(i64.wrap (da - (1:Int))).toNat]!))) fun x9=>gd (x9≠0) (gd (x9≠0) (bnd (a7 (iD mE da jp cT x9) (u64.wrap (Int.tdiv x5 x9),Int.tmod x5 x9)) fun bW=>some bW)))))
theorem yI {mE:Vector Int 16}{da:Int}{jp:Int}{cT:Vector Int 17}{r:Int}(h:gR mE da jp cT=some r):HC prog 166 [.pt 0 0,dG al_cV mE,dI .i64 da,dI .i64 jp] ⟨[(0,dC ((cA 17 (cI .u32)).f cT))],[],1⟩ (dI .u64 r) ⟨[(0,dC ((cA 17 (cI .u32)).f cT))],[],1⟩:=by
 refine HC.of (rs:=[.tmp 8]) tok func166 rfl rfl (cg rfl) rfl (fun cx hx h1 hok=>?_)
 have h0:cx.hp0.next=1:=by rw[h1]
 simp only[eZ,Nat.reduceAdd,bE]
 unfold gR at h
 refine ra hx ?_
 refine rsd [] hx fun K hK=>?_
 iterate 5 refine sa ?_
 obtain⟨JJ,h⟩:=az h
 have F8:(i64.wrap (jp+da)).toNat<17:=by omega
 refine s1 (cj JJ ls aH) ?_
 refine s1 (a6 (an.comp (an.id _ _) (an.vec (cI .u32) cT (i64.wrap (jp+da)).toNat F8) (fun _=>rfl)) aH) ?_
 iterate 8 refine sa ?_
 obtain⟨K6,h⟩:=az h
 have Np:(i64.wrap ((i64.wrap (jp+da)) - (1:Int))).toNat<17:=by omega
 refine s1 (cj K6 ls aH) ?_
 refine s1 (a6 (an.comp (an.id _ _) (an.vec (cI .u32) cT (i64.wrap ((i64.wrap (jp+da)) - (1:Int))).toNat Np) (fun _=>rfl)) aH) ?_
 iterate 2 refine sa ?_
 obtain⟨x5,DO,h⟩:=ah h
 replace DO:=eG DO
 refine s2 (d2:=dI .u64 x5) ke (fK (congrArg (dI .u64) DO)) ?_
 refine .nil (hK _ _ (rs hx fun K hK=>?_))
 iterate 2 refine sa ?_
 obtain⟨NK,h⟩:=az h
 have Nn:(i64.wrap (da - (1:Int))).toNat<16:=by omega
 refine s1 (cj NK aC aH) ?_
 refine s1 (a6 (an.comp (an.id _ _) (an.vec (cI .u32) mE (i64.wrap (da - (1:Int))).toNat Nn) (fun _=>rfl)) aH) ?_
 refine sa ?_
 obtain⟨x9,xr,h⟩:=ah h
 replace xr:=eG xr
 refine s2 (d2:=dI .u64 x9) ke (fK (congrArg (dI .u64) xr)) ?_
 refine .nil (hK _ _ (rsd [] hx fun K hK=>?_))
 iterate 2 refine sa ?_
 obtain⟨Al,h⟩:=az h
 refine s1 (GW Al) ?_
 iterate 2 refine sa ?_
 obtain⟨DX,h⟩:=az h
 refine s1 (uB DX) ?_
 iterate 2 refine sa ?_
 refine .nil (hK _ _ (AW.seq (AW.block ?_)))
 obtain⟨bW,hy,h⟩:=ah h
 refine lp (S:=Int×Int) (X:=Int) (fun (cO,bm)=>[(0,.pt 0 0),(2,dI .i64 da),(3,dI .i64 jp),(5,.pt 1 0),(10,dI .u64 x9),(11,dI .u64 cO),(12,dI .u64 bm)]) (fun (cO,bm)=>⟨[(0,dC ((cA 17 (cI .u32)).f cT)),(1,dC (al_cV.f mE))],[],2⟩) (PE cx (.exit 0) (fun bW=>[(11,dI .u64 bW)]) fun bW=>⟨[(0,dC ((cA 17 (cI .u32)).f cT))],[],1⟩) hy ?_ ?_ ?_
 exact wkN h0 [1] (wR rfl (wR rfl (wR rfl (wR rfl (wR rfl (wR rfl (wR rfl wTn))))))) (vC rfl (vC rfl wVn)) wLn
 clear hy h
 rintro⟨cO,bm⟩ y h
 dsimp only[iD] at h
 iterate 2 refine AW.seq ?_
 obtain⟨gN,hy,h⟩:=ah h
 refine jn ((PE cx .normal (fun gN=>[(0,.pt 0 0),(2,dI .i64 da),(3,dI .i64 jp),(5,.pt 1 0),(10,dI .u64 x9),(11,dI .u64 cO),(12,dI .u64 bm),(70,dB gN)]) fun gN=>⟨[(0,dC ((cA 17 (cI .u32)).f cT)),(1,dC (al_cV.f mE))],[],2⟩) gN) ?_ ?_
 replace h:=hy
 refine rqd [] hx fun K hK=>?_
 iterate 3 refine sa ?_
 rcases bP (decide (bm<(4294967296:Int))) with xA|xA
 replace h:=ba xA h
 iterate 3 refine ga xA ?_
 rcases bP (decide ((4294967296:Int)≤cO)) with mf|mf
 replace h:=ba mf h
 iterate 20 refine aK rfl rfl mf ?_
 refine g1 xA (am mf) ?_
 refine s1 (am xA) ?_
 refine .nil (hK _ _ ?_)
 cases h
 exact PE.i (wkN h0 [1] (wR rfl (wR rfl (wR rfl (wR rfl (wR rfl (wR rfl (wR rfl (wR rfl wTn)))))))) (vC rfl (vC rfl wVn)) wLn)
 replace h:=bb mf h
 iterate 3 refine ga mf ?_
 obtain⟨NL,h⟩:=az h
 have B5:(i64.wrap (da - (2:Int))).toNat<16:=by omega
 refine g1 mf (cj NL aC aH) ?_
 refine g1 mf (a6 (an.comp (an.id _ _) (an.vec (cI .u32) mE (i64.wrap (da - (2:Int))).toNat B5) (fun _=>rfl)) aH) ?_
 iterate 3 refine ga mf ?_
 refine g1 mf (OU (b:=(32:Int)) (by decide)) ?_
 iterate 6 refine ga mf ?_
 obtain⟨hc17,h⟩:=az h
 have hn18:(i64.wrap ((i64.wrap (jp+da)) - (2:Int))).toNat<17:=by omega
 refine g1 mf (cj hc17 ls aH) ?_
 refine g1 mf (a6 (an.comp (an.id _ _) (an.vec (cI .u32) cT (i64.wrap ((i64.wrap (jp+da)) - (2:Int))).toNat hn18) (fun _=>rfl)) aH) ?_
 refine ga mf ?_
 refine g1 mf T_or ?_
 refine ga mf ?_
 refine g1 xA (ax mf) ?_
 refine s1 (am xA) ?_
 refine .nil (hK _ _ ?_)
 cases h
 exact PE.i (wkN h0 [1] (wR rfl (wR rfl (wR rfl (wR rfl (wR rfl (wR rfl (wR rfl (wR rfl wTn)))))))) (vC rfl (vC rfl wVn)) wLn)
 replace h:=bb xA h
 iterate 3 refine aK rfl rfl xA ?_
 iterate 20 refine nn_t rfl rfl ?_
 refine aK rfl rfl xA ?_
 refine s1 (ax xA) ?_
 refine .nil (hK _ _ ?_)
 cases h
 exact PE.i (wkN h0 [1] (wR rfl (wR rfl (wR rfl (wR rfl (wR rfl (wR rfl (wR rfl (wR rfl wTn)))))))) (vC rfl (vC rfl wVn)) wLn)
 rintro ex tm' hp' ⟨rfl,hw⟩
 refine AW.weak hw (cdh h rfl (fun uU h=>?_) (fun uU h=>?_))
 refine AW.skip (AW.block (ra hx ?_))
 refine rb hx ?_
 cases h
 exact PS.l (PE.i (wkN h0 [1] (wR rfl (wR rfl (wR rfl (wR rfl (wR rfl (wR rfl (wR rfl wTn))))))) (vC rfl (vC rfl wVn)) wLn))
 refine AW.exit ?_
 try dsimp only
 try simp only[bk,reduceIte,Nat.reduceEqDiff,reduceCtorEq]
 cases h
 exact PS.r ⟨by nofun,PE.i (wkN h0 [] (wR rfl wTn) (vC rfl wVn) wLn)⟩
 rintro ex tm' hp' ⟨rfl,hw⟩
 try dsimp only
 try simp only[bk,reduceIte,Nat.reduceEqDiff,reduceCtorEq]
 refine AW.weak hw (ra hx ?_)
 refine AW.ret ?_
 cases h
 exact rH1 (wkN h0 [] (wR rfl wTn) (vC rfl wVn) wLn)
def g7(mE:Vector Int 16)(da:Int)(jp:Int)(zR:Int):Int×Int×Int×(Vector Int 17)→Option ((Int×Int×Int×(Vector Int 17))⊕(Int×Int×(Vector Int 17))):=fun (aQ,aZ,ju,EK)=>cnd (decide (ju<da)) (gd (0≤ju∧ju<16) (bnd (some (u64.wrap (aQ+(u64.wrap (zR*(u64.wrap ((mE)[(ju).toNat]!))))))) fun x4=>gd (0≤i64.wrap (jp+ju)∧i64.wrap (jp+ju)<17) (bnd (some (u64.wrap ((u64.wrap ((u64.wrap ((EK)[(i64.wrap (jp+ju)).toNat]!)) - (u64.wrap (u32.wrap (x4))))) - aZ))) fun x8=>gd (0≤i64.wrap (jp+ju)∧i64.wrap (jp+ju)<17) (bnd (some ((EK).set! (i64.wrap (jp+ju)).toNat (u32.wrap (x8)))) fun i9=>some (.inl (kA .u64 x4 (32:Int),kA .u64 x8 (63:Int),i64.wrap (ju+(1:Int)),i9)))))) (some (.inr (aQ,aZ,EK)))
def iM(mE:Vector Int 16)(da:Int)(jp:Int)(zR:Int)(cT:Vector Int 17):Option (Bool×(Vector Int 17)):=bnd (a7 (g7 mE da jp zR) ((0:Int),(0:Int),(0:Int),cT)) fun (aN,gH,tA)=>gd (0≤i64.wrap (jp+da)∧i64.wrap (jp+da)<17) (bnd (some (u64.wrap ((u64.wrap ((u64.wrap ((tA)[(i64.wrap (jp+da)).toNat]!)) - aN)) - gH))) fun pl=>gd (0≤i64.wrap (jp+da)∧i64.wrap (jp+da)<17) (bnd (some ((tA).set! (i64.wrap (jp+da)).toNat (u32.wrap (pl)))) fun BE=>some (decide ((kA .u64 pl (63:Int))=(1:Int)),BE)))
theorem zA {mE:Vector Int 16}{da:Int}{jp:Int}{zR:Int}{cT:Vector Int 17}{r:Bool×(Vector Int 17)}(h:iM mE da jp zR cT=some r):HC prog 167 [.pt 0 0,dG al_cV mE,dI .i64 da,dI .i64 jp,dI .u64 zR] ⟨[(0,dC ((cA 17 (cI .u32)).f cT))],[],1⟩ (dB r.1) ⟨[(0,dC ((cA 17 (cI .u32)).f r.2))],[],1⟩:=by
 refine HC.of (rs:=[.tmp 10]) tok func167 rfl rfl (cg rfl) rfl (fun cx hx h1 hok=>?_)
 have h0:cx.hp0.next=1:=by rw[h1]
 simp only[eZ,Nat.reduceAdd,bE]
 unfold iM at h
 iterate 2 refine ra hx ?_
 refine AW.seq (ra hx ?_)
 refine AW.block ?_
 obtain⟨y,hy,h⟩:=ah h
 refine lp (S:=Int×Int×Int×(Vector Int 17)) (X:=Int×Int×(Vector Int 17)) (fun (aQ,aZ,ju,EK)=>[(0,.pt 0 0),(2,dI .i64 da),(3,dI .i64 jp),(4,dI .u64 zR),(6,.pt 1 0),(11,dI .u64 aQ),(12,dI .u64 aZ),(16,dI .i64 da),(17,dI .i64 ju)]) (fun (aQ,aZ,ju,EK)=>⟨[(0,dC ((cA 17 (cI .u32)).f EK)),(1,dC (al_cV.f mE))],[],2⟩) (PE cx (.exit 0) (fun (aN,gH,tA)=>[(0,.pt 0 0),(2,dI .i64 da),(3,dI .i64 jp),(11,dI .u64 aN),(12,dI .u64 gH)]) fun (aN,gH,tA)=>⟨[(0,dC ((cA 17 (cI .u32)).f tA))],[],1⟩) hy ?_ ?_ ?_
 exact wkN h0 [1] (wR rfl (wR rfl (wR rfl (wR rfl (wR rfl (wR rfl (wR rfl (wR rfl (wR rfl wTn))))))))) (vC rfl (vC rfl wVn)) wLn
 clear hy h
 rintro⟨aQ,aZ,ju,EK⟩ y h
 dsimp only[g7] at h
 refine ra hx ?_
 refine AW.seq (cdh h rfl (fun cQ h=>?_) (fun cQ h=>?_))
 refine AW.skip (AW.seq (AW.block (ra hx ?_)))
 refine rs hx fun K hK=>?_
 iterate 3 refine sa ?_
 obtain⟨mR,h⟩:=az h
 have pH:(ju).toNat<16:=by omega
 refine s1 (cj mR aC aH) ?_
 refine s1 (a6 (an.comp (an.id _ _) (an.vec (cI .u32) mE (ju).toNat pH) (fun _=>rfl)) aH) ?_
 iterate 3 refine sa ?_
 obtain⟨x4,uQ,h⟩:=ah h
 replace uQ:=eG uQ
 refine s2 (d2:=dI .u64 x4) ke (fK (congrArg (dI .u64) uQ)) ?_
 refine .nil (hK _ _ (rs hx fun K hK=>?_))
 iterate 5 refine sa ?_
 obtain⟨hc6,h⟩:=az h
 have hn7:(i64.wrap (jp+ju)).toNat<17:=by omega
 refine s1 (cj hc6 ls aH) ?_
 refine s1 (a6 (an.comp (an.id _ _) (an.vec (cI .u32) EK (i64.wrap (jp+ju)).toNat hn7) (fun _=>rfl)) aH) ?_
 iterate 7 refine sa ?_
 obtain⟨x8,Lz,h⟩:=ah h
 replace Lz:=eG Lz
 refine s2 (d2:=dI .u64 x8) ke (fK (congrArg (dI .u64) Lz)) ?_
 refine .nil (hK _ _ (rs hx fun K hK=>?_))
 iterate 7 refine sa ?_
 obtain⟨Gc,h⟩:=az h
 have Nv:(i64.wrap (jp+ju)).toNat<17:=by omega
 refine s1 (cj Gc ls aH) ?_
 obtain⟨i9,uR,h⟩:=ah h
 replace uR:=eG uR
 refine s0 (jx (b':=u32.wrap (x8)) (an.comp (an.id _ _) (an.vec (cI .u32) EK (i64.wrap (jp+ju)).toNat Nv) (fun _=>rfl)) aH uR) ?_
 refine .nil (hK _ _ (ra hx ?_))
 iterate 2 refine rb hx ?_
 cases h
 exact PS.l (PE.i (wkN h0 [1] (wR rfl (wR rfl (wR rfl (wR rfl (wR rfl (wR rfl (wR rfl (wR rfl (wR rfl wTn))))))))) (vC rfl (vC rfl wVn)) wLn))
 refine AW.exit ?_
 try dsimp only
 try simp only[bk,reduceIte,Nat.reduceEqDiff,reduceCtorEq]
 cases h
 exact PS.r ⟨by nofun,PE.i (wkN h0 [] (wR rfl (wR rfl (wR rfl (wR rfl (wR rfl wTn))))) (vC rfl wVn) wLn)⟩
 obtain⟨aN,gH,tA⟩:=y
 rintro ex tm' hp' ⟨rfl,hw⟩
 try dsimp only
 try simp only[bk,reduceIte,Nat.reduceEqDiff,reduceCtorEq]
 refine AW.weak hw (rs hx fun K hK=>?_)
 iterate 5 refine sa ?_
 obtain⟨NL,h⟩:=az h
 have B5:(i64.wrap (jp+da)).toNat<17:=by omega
 refine s1 (cj NL ls aH) ?_
 refine s1 (a6 (an.comp (an.id _ _) (an.vec (cI .u32) tA (i64.wrap (jp+da)).toNat B5) (fun _=>rfl)) aH) ?_
 iterate 5 refine sa ?_
 obtain⟨pl,Ab,h⟩:=ah h
 replace Ab:=eG Ab
 refine s2 (d2:=dI .u64 pl) ke (fK (congrArg (dI .u64) Ab)) ?_
 refine .nil (hK _ _ (rs hx fun K hK=>?_))
 iterate 7 refine sa ?_
 obtain⟨hc19,h⟩:=az h
 have hn20:(i64.wrap (jp+da)).toNat<17:=by omega
 refine s1 (cj hc19 ls aH) ?_
 obtain⟨BE,MZ,h⟩:=ah h
 replace MZ:=eG MZ
 refine s0 (jx (b':=u32.wrap (pl)) (an.comp (an.id _ _) (an.vec (cI .u32) tA (i64.wrap (jp+da)).toNat hn20) (fun _=>rfl)) aH MZ) ?_
 refine .nil (hK _ _ (ra hx ?_))
 refine AW.ret ?_
 cases h
 exact rH1 (wkN h0 [] (wR rfl wTn) (vC rfl wVn) wLn)
def g9(mE:Vector Int 16)(da:Int)(jp:Int):Int×Int×(Vector Int 17)→Option ((Int×Int×(Vector Int 17))⊕(Int×(Vector Int 17))):=fun (aQ,aZ,ju)=>cnd (decide (aZ<da)) (gd (0≤i64.wrap (jp+aZ)∧i64.wrap (jp+aZ)<17) (gd (0≤aZ∧aZ<16) (bnd (some (u64.wrap (aQ+(u64.wrap ((u64.wrap ((ju)[(i64.wrap (jp+aZ)).toNat]!))+(u64.wrap ((mE)[(aZ).toNat]!))))))) fun x6=>gd (0≤i64.wrap (jp+aZ)∧i64.wrap (jp+aZ)<17) (bnd (some ((ju).set! (i64.wrap (jp+aZ)).toNat (u32.wrap (x6)))) fun nr=>some (.inl (kA .u64 x6 (32:Int),i64.wrap (aZ+(1:Int)),nr)))))) (some (.inr (aQ,ju)))
def iQ(mE:Vector Int 16)(da:Int)(jp:Int)(cT:Vector Int 17):Option (Vector Int 17):=bnd (a7 (g9 mE da jp) ((0:Int),(0:Int),cT)) fun (aN,gH)=>gd (0≤i64.wrap (jp+da)∧i64.wrap (jp+da)<17) (gd (0≤i64.wrap (jp+da)∧i64.wrap (jp+da)<17) (bnd (some ((gH).set! (i64.wrap (jp+da)).toNat (u32.wrap (((gH)[(i64.wrap (jp+da)).toNat]!)+(u32.wrap (aN)))))) fun pl=>some pl))
theorem zB {mE:Vector Int 16}{da:Int}{jp:Int}{cT:Vector Int 17}{r:Vector Int 17}(h:iQ mE da jp cT=some r):HC prog 168 [.pt 0 0,dG al_cV mE,dI .i64 da,dI .i64 jp] ⟨[(0,dC ((cA 17 (cI .u32)).f cT))],[],1⟩ (.tu []) ⟨[(0,dC ((cA 17 (cI .u32)).f r))],[],1⟩:=by
 refine HC.of (rs:=[]) tok func168 rfl rfl (cg rfl) rfl (fun cx hx h1 hok=>?_)
 have h0:cx.hp0.next=1:=by rw[h1]
 simp only[eZ,Nat.reduceAdd,bE]
 unfold iQ at h
 iterate 2 refine ra hx ?_
 refine AW.seq (ra hx ?_)
 refine AW.block ?_
 obtain⟨y,hy,h⟩:=ah h
 refine lp (S:=Int×Int×(Vector Int 17)) (X:=Int×(Vector Int 17)) (fun (aQ,aZ,ju)=>[(0,.pt 0 0),(2,dI .i64 da),(3,dI .i64 jp),(5,.pt 1 0),(8,dI .u64 aQ),(10,dI .i64 da),(11,dI .i64 aZ)]) (fun (aQ,aZ,ju)=>⟨[(0,dC ((cA 17 (cI .u32)).f ju)),(1,dC (al_cV.f mE))],[],2⟩) (PE cx (.exit 0) (fun (aN,gH)=>[(0,.pt 0 0),(2,dI .i64 da),(3,dI .i64 jp),(8,dI .u64 aN)]) fun (aN,gH)=>⟨[(0,dC ((cA 17 (cI .u32)).f gH))],[],1⟩) hy ?_ ?_ ?_
 exact wkN h0 [1] (wR rfl (wR rfl (wR rfl (wR rfl (wR rfl (wR rfl (wR rfl wTn))))))) (vC rfl (vC rfl wVn)) wLn
 clear hy h
 rintro⟨aQ,aZ,ju⟩ y h
 dsimp only[g9] at h
 refine ra hx ?_
 refine AW.seq (cdh h rfl (fun cQ h=>?_) (fun cQ h=>?_))
 refine AW.skip (AW.seq (AW.block (ra hx ?_)))
 refine rsd [] hx fun K hK=>?_
 iterate 6 refine sa ?_
 obtain⟨mR,h⟩:=az h
 have pH:(i64.wrap (jp+aZ)).toNat<17:=by omega
 refine s1 (cj mR ls aH) ?_
 refine s1 (a6 (an.comp (an.id _ _) (an.vec (cI .u32) ju (i64.wrap (jp+aZ)).toNat pH) (fun _=>rfl)) aH) ?_
 iterate 2 refine sa ?_
 obtain⟨E2,h⟩:=az h
 have No:(aZ).toNat<16:=by omega
 refine s1 (cj E2 aC aH) ?_
 refine s1 (a6 (an.comp (an.id _ _) (an.vec (cI .u32) mE (aZ).toNat No) (fun _=>rfl)) aH) ?_
 iterate 3 refine sa ?_
 obtain⟨x6,sZ,h⟩:=ah h
 replace sZ:=eG sZ
 refine s2 (d2:=dI .u64 x6) ke (fK (congrArg (dI .u64) sZ)) ?_
 refine .nil (hK _ _ (rs hx fun K hK=>?_))
 iterate 7 refine sa ?_
 obtain⟨H5,h⟩:=az h
 have HW:(i64.wrap (jp+aZ)).toNat<17:=by omega
 refine s1 (cj H5 ls aH) ?_
 obtain⟨nr,yQ,h⟩:=ah h
 replace yQ:=eG yQ
 refine s0 (jx (b':=u32.wrap (x6)) (an.comp (an.id _ _) (an.vec (cI .u32) ju (i64.wrap (jp+aZ)).toNat HW) (fun _=>rfl)) aH yQ) ?_
 refine .nil (hK _ _ ?_)
 iterate 2 refine rb hx ?_
 cases h
 exact PS.l (PE.i (wkN h0 [1] (wR rfl (wR rfl (wR rfl (wR rfl (wR rfl (wR rfl (wR rfl wTn))))))) (vC rfl (vC rfl wVn)) wLn))
 refine AW.exit ?_
 try dsimp only
 try simp only[bk,reduceIte,Nat.reduceEqDiff,reduceCtorEq]
 cases h
 exact PS.r ⟨by nofun,PE.i (wkN h0 [] (wR rfl (wR rfl (wR rfl (wR rfl wTn)))) (vC rfl wVn) wLn)⟩
 obtain⟨aN,gH⟩:=y
 rintro ex tm' hp' ⟨rfl,hw⟩
 try dsimp only
 try simp only[bk,reduceIte,Nat.reduceEqDiff,reduceCtorEq]
 refine AW.weak hw (rqd [] hx fun K hK=>?_)
 iterate 5 refine sa ?_
 obtain⟨Ak,h⟩:=az h
 have hn14:(i64.wrap (jp+da)).toNat<17:=by omega
 refine s1 (cj Ak ls aH) ?_
 refine s1 (a6 (an.comp (an.id _ _) (an.vec (cI .u32) gH (i64.wrap (jp+da)).toNat hn14) (fun _=>rfl)) aH) ?_
 iterate 4 refine sa ?_
 obtain⟨NL,h⟩:=az h
 have B5:(i64.wrap (jp+da)).toNat<17:=by omega
 refine s1 (cj NL ls aH) ?_
 obtain⟨pl,Ab,h⟩:=ah h
 replace Ab:=eG Ab
 refine s0 (jx (b':=u32.wrap (((gH)[(i64.wrap (jp+da)).toNat]!)+(u32.wrap (aN)))) (an.comp (an.id _ _) (an.vec (cI .u32) gH (i64.wrap (jp+da)).toNat B5) (fun _=>rfl)) aH Ab) ?_
 refine .nil (hK _ _ ?_)
 cases h
 exact rH0 (wkN h0 [] wTn (vC rfl wVn) wLn)
def ep(x1:Int)(Dd:(Vector Int 16)×Int):Int×(Vector Int 16)×(Vector Int 17)→Option ((Int×(Vector Int 16)×(Vector Int 17))⊕((Vector Int 16)×(Vector Int 17))):=fun (pV,yE,Bi)=>cnd (decide ((0:Int)≤pV)) (bnd (gR Dd.1 x1 pV Bi) fun x28=>bnd (S:=Int×(Vector Int 17)) (bnd (iM Dd.1 x1 pV x28 Bi) fun I7=>cnd I7.1 (bnd (iQ Dd.1 x1 pV I7.2) fun wJ=>some ((u64.wrap (x28 - (1:Int)),wJ))) (some ((x28,I7.2)))) fun (C3,GV)=>gd (0≤pV∧pV<16) (some (.inl (i64.wrap (pV - (1:Int)),(yE).set! (pV).toNat (u32.wrap (C3)),GV)))) (some (.inr (yE,Bi)))
def fc(aY:Vector Int 16)(a8:Vector Int 16):Option ((Vector Int 16)×(Vector Int 16)):=bnd (d9 a8) fun x1=>bnd (d9 aY) fun x3=>bnd (jO aY a8) fun x5=>cnd (decide (x5<(0:Int))) (bnd (some (#v[(0:Int),0,0,0,0,0,0,0,0,0,0,0,0,0,0,0])) fun x8=>some (x8,aY)) (cnd (decide (x1=(1:Int))) (bnd (lO aY ((a8)[((0:Int)).toNat]!)) fun i9=>bnd (some (#v[i9.2,0,0,0,0,0,0,0,0,0,0,0,0,0,0,0])) fun pm=>some (i9.1,pm)) (gd (0≤i64.wrap (x1 - (1:Int))∧i64.wrap (x1 - (1:Int))<16) (bnd (eY ((a8)[(i64.wrap (x1 - (1:Int))).toNat]!)) fun p7=>bnd (nK a8 p7) fun Dd=>bnd (nK aY p7) fun nq=>bnd (some (vOf 17 (lCp ((Vector.replicate 17 (0:Int))).toList 0 (List.take 17 (List.take 16 (List.drop 0 (nq.1).toList)))))) fun wB=>bnd (a7 (ep x1 Dd) (i64.wrap (x3 - x1),(bM),(wB).set! ((16:Int)).toNat nq.2)) fun (sd,sb)=>bnd (mU (vOf 16 (List.take 16 (List.drop 0 (sb).toList))) p7) fun yf=>some (sd,yf))))
theorem qL {aY:Vector Int 16}{a8:Vector Int 16}{r:(Vector Int 16)×(Vector Int 16)}(h:fc aY a8=some r):aB prog 130 [dG al_cV aY,dG al_cV a8] (.tu [dG al_cV r.1,dG al_cV r.2]):=by
 refine bJ (rs:=[.cell 4 30,.cell 5 30]) (fun cx hx h0=>?_) func130
 unfold fc at h
 refine rs hx fun K hK=>?_
 iterate 2 refine sa ?_
 iterate 2 refine s1 (bq (F:=al_cV.f (bM)) aC) ?_
 refine .nil (hK _ _ (rsd [128] hx fun K hK=>?_))
 refine s1 (d:=dG al_cV a8) (aD (an.id _ _) aC) ?_
 refine cqb h jd fun x1 h=>?_
 refine s1 (d:=dG al_cV aY) (aD (an.id _ _) aC) ?_
 refine cqb h jd fun x3 h=>?_
 iterate 2 refine sa ?_
 refine .nil (hK _ _ (AW.seq (rs hx fun K hK=>?_)))
 refine s1 (d:=dG al_cV aY) (aD (an.id _ _) aC) ?_
 refine s1 (d:=dG al_cV a8) (aD (an.id _ _) aC) ?_
 refine scb h ub fun x5 h=>?_
 refine sa ?_
 refine .nil (hK _ _ (cdh h rfl (fun v6 h=>?_) (fun v6 h=>?_)))
 refine AW.seq ?_
 obtain⟨x8,Lz,h⟩:=ah h
 replace Lz:=eG Lz
 refine jn (PE cx .normal (fun (_:Unit)=>[(4,.pt 0 0),(5,.pt 1 0)]) (fun (_:Unit)=>⟨[(0,dC (al_cV.f x8)),(1,dC (al_cV.f aY))],[],2⟩) ()) ?_ ?_
 refine dw (DW.split 1 2 (by decide) ?_ ?_)
 refine dwg [] [0,1,2,3] hx (by kernel_rfl) (by kernel_rfl) (by kernel_rfl) fun K hK=>?_
 dsimp only[dq,lg,lx,List.map]
 refine s1 (d:=dG al_cV (#v[(0:Int),0,0,0,0,0,0,0,0,0,0,0,0,0,0,0])) (kO aC aH) ?_
 refine s1 (d:=dG al_cV aY) (aD (an.id _ _) aC) ?_
 refine s0 (jx (b':=#v[(0:Int),0,0,0,0,0,0,0,0,0,0,0,0,0,0,0]) (an.id _ _) aC Lz) ?_
 refine s0 (aO (b':=aY) (an.id _ _) aC) ?_
 exact .nil (hK _ _ (pe0 h0 [2,3]))
 refine dwg [] [0,2,1,3] hx (by kernel_rfl) (by kernel_rfl) (by kernel_rfl) fun K hK=>?_
 dsimp only[dq,lg,lx,List.map]
 refine s1 (d:=dG al_cV (#v[(0:Int),0,0,0,0,0,0,0,0,0,0,0,0,0,0,0])) (kO aC aH) ?_
 refine s0 (jx (b':=#v[(0:Int),0,0,0,0,0,0,0,0,0,0,0,0,0,0,0]) (an.id _ _) aC Lz) ?_
 refine s1 (d:=dG al_cV aY) (aD (an.id _ _) aC) ?_
 refine s0 (aO (b':=aY) (an.id _ _) aC) ?_
 exact .nil (hK _ _ (pe0 h0 [2,3]))
 rintro ex tm' hp' ⟨rfl,hw⟩
 refine AW.weak hw (AW.ret ?_)
 cases h
 exact rv2
 refine AW.skip (AW.seq (ra hx ?_))
 refine cdh h rfl (fun gz h=>?_) (fun gz h=>?_)
 refine rs hx fun K hK=>?_
 refine s1 (d:=dG al_cV aY) (aD (an.id _ _) aC) ?_
 have Nv:((0:Int)).toNat<16:=by omega
 refine s1 (cj (by decide:0≤(0:Int)∧(0:Int)<((16:Nat):Int)) aC aH) ?_
 refine s1 (a6 (an.comp (an.id _ _) (an.vec (cI .u32) a8 ((0:Int)).toNat Nv) (fun _=>rfl)) aH) ?_
 refine scb h BL fun i9 h=>?_
 iterate 3 refine sa ?_
 refine s1 (bq (F:=al_cV.f (bM)) aC) ?_
 refine s0 (aO (b':=i9.1) (an.id _ _) aC) ?_
 refine sa ?_
 refine .nil (hK _ _ (rs hx fun K hK=>?_))
 refine s1 (d:=dG al_cV i9.1) (aD (an.id _ _) aC) ?_
 refine sa ?_
 refine s1 (d:=dG al_cV (#v[i9.2,0,0,0,0,0,0,0,0,0,0,0,0,0,0,0])) (kO aC aH) ?_
 refine s0 (aO (b':=i9.1) (an.id _ _) aC) ?_
 obtain⟨pm,xq,h⟩:=ah h
 replace xq:=eG xq
 refine s0 (jx (b':=#v[i9.2,0,0,0,0,0,0,0,0,0,0,0,0,0,0,0]) (an.id _ _) aC xq) ?_
 refine .nil (hK _ _ (AW.ret ?_))
 cases h
 exact rv2
 refine AW.skip (rs hx fun K hK=>?_)
 iterate 2 refine sa ?_
 obtain⟨xw,h⟩:=az h
 have yT:(i64.wrap (x1 - (1:Int))).toNat<16:=by omega
 refine s1 (cj xw aC aH) ?_
 refine s1 (a6 (an.comp (an.id _ _) (an.vec (cI .u32) a8 (i64.wrap (x1 - (1:Int))).toNat yT) (fun _=>rfl)) aH) ?_
 refine scb h sC fun p7 h=>?_
 refine sa ?_
 refine .nil (hK _ _ (rs hx fun K hK=>?_))
 refine s1 (d:=dG al_cV a8) (aD (an.id _ _) aC) ?_
 refine sa ?_
 refine scb h zy fun Dd h=>?_
 iterate 3 refine sa ?_
 refine s1 (bq (F:=al_cV.f (bM)) aC) ?_
 refine s0 (aO (b':=Dd.1) (an.id _ _) aC) ?_
 refine sa ?_
 refine .nil (hK _ _ (rs hx fun K hK=>?_))
 refine s1 (d:=dG al_cV aY) (aD (an.id _ _) aC) ?_
 refine sa ?_
 refine scb h zy fun nq h=>?_
 iterate 3 refine sa ?_
 refine s1 (bq (F:=al_cV.f (bM)) aC) ?_
 refine s0 (aO (b':=nq.1) (an.id _ _) aC) ?_
 refine sa ?_
 refine .nil (hK _ _ (rs hx fun K hK=>?_))
 refine s1 (bq (F:=(cA 17 (cI .u32)).f (Vector.replicate 17 (0:Int))) ls) ?_
 refine .nil (hK _ _ (rsd [] hx fun K hK=>?_))
 refine q1 (slA (n:=17) (l:=(0:Int)) (h:=(17:Int)) tok (by decide) ls aH rfl rfl) ?_
 refine q1 (slA (n:=16) (l:=(0:Int)) (h:=(16:Int)) tok (by decide) aC aH rfl rfl) ?_
 obtain⟨wB,hx25,h⟩:=ah h
 replace hx25:=eG hx25
 refine q1 (hp':=⟨[(6,dC ((cA 17 (cI .u32)).f wB)),(6,dC ((cA 17 (cI .u32)).f (Vector.replicate 17 (0:Int)))),(5,dC (al_cV.f nq.1)),(5,dC (al_cV.f (bM))),(4,dC (al_cV.f Dd.1)),(4,dC (al_cV.f (bM))),(3,dC (al_cV.f (bM))),(2,dC (al_cV.f (bM))),(1,dC (al_cV.f a8)),(0,dC (al_cV.f aY))],[],7⟩) (sCpA (c:=(cI .u32)) (v:=(Vector.replicate 17 (0:Int))) (s:=(List.take 16 (List.drop 0 (nq.1).toList))) tok L2 aH (tC.arr (c:=(cI .u32)) (v:=nq.1) rfl 0 (by decide)) (by simp only[eA,f8,pO];omega) rfl 0 (by decide) (congrArg (fun q=>(6,dC ((cA 17 (cI .u32)).f q))::_) hx25)) ?_
 refine .nil (hK _ _ (rs hx fun K hK=>?_))
 refine sa ?_
 have Nq:((16:Int)).toNat<17:=by omega
 refine s1 (cj (by decide:0≤(16:Int)∧(16:Int)<((17:Nat):Int)) ls aH) ?_
 refine s0 (aO (b':=nq.2) (an.comp (an.id _ _) (an.vec (cI .u32) wB ((16:Int)).toNat Nq) (fun _=>rfl)) aH) ?_
 refine .nil (hK _ _ (AW.seq (ra hx ?_)))
 refine AW.block ?_
 obtain⟨y,hy,h⟩:=ah h
 refine lp (S:=Int×(Vector Int 16)×(Vector Int 17)) (X:=(Vector Int 16)×(Vector Int 17)) (fun (pV,yE,Bi)=>[(4,.pt 0 0),(5,.pt 1 0),(6,dI .i64 x1),(10,dI .i64 p7),(11,.pt 2 0),(15,.pt 3 0),(16,dI .i64 pV)]) (fun (pV,yE,Bi)=>⟨[(0,dC (al_cV.f yE)),(1,dC (al_cV.f (bM))),(2,dC (al_cV.f Dd.1)),(3,dC ((cA 17 (cI .u32)).f Bi))],[],4⟩) (PE cx (.exit 0) (fun (sd,sb)=>[(4,.pt 0 0),(5,.pt 1 0),(10,dI .i64 p7),(15,.pt 2 0)]) fun (sd,sb)=>⟨[(0,dC (al_cV.f sd)),(1,dC (al_cV.f (bM))),(2,dC ((cA 17 (cI .u32)).f sb))],[],3⟩) hy ?_ ?_ ?_
 exact wk h0 [2,3,4,6] (wR rfl (wR rfl (wR rfl (wR rfl (wR rfl (wR rfl (wR rfl wTn))))))) (vC rfl (vC rfl (vC rfl (vC rfl wVn)))) wLn
 clear hy h
 rintro⟨pV,yE,Bi⟩ y h
 dsimp only[ep] at h
 refine AW.seq (ra hx ?_)
 refine cdh h rfl (fun hb27 h=>?_) (fun hb27 h=>?_)
 refine AW.skip (AW.seq (AW.block (rs hx fun K hK=>?_)))
 refine s1 (d:=dG al_cV Dd.1) (aD (an.id _ _) aC) ?_
 iterate 2 refine sa ?_
 obtain⟨x28,hx29,h⟩:=ah h
 refine s1 (EN [3] rfl (yI hx29) (fA (av _) (fAG (av _) (fA (av _) (fA (av _) fAn)))) (vC rfl wVn) wLn (rvC rvN) rfl rfl) ?_
 refine sa ?_
 refine .nil (hK _ _ (AW.seq ?_))
 obtain⟨y,hy,h⟩:=ah h
 refine jn ((PE cx .normal (fun (C3,GV)=>[(4,.pt 0 0),(5,.pt 1 0),(6,dI .i64 x1),(10,dI .i64 p7),(11,.pt 2 0),(15,.pt 3 0),(16,dI .i64 pV),(17,dI .u64 C3)]) fun (C3,GV)=>⟨[(0,dC (al_cV.f yE)),(1,dC (al_cV.f (bM))),(2,dC (al_cV.f Dd.1)),(3,dC ((cA 17 (cI .u32)).f GV))],[],4⟩) y) ?_ ?_
 replace h:=hy
 refine rs hx fun K hK=>?_
 refine s1 (d:=dG al_cV Dd.1) (aD (an.id _ _) aC) ?_
 iterate 3 refine sa ?_
 obtain⟨I7,hx31,h⟩:=ah h
 refine s1 (EN [3] rfl (zA hx31) (fA (av _) (fAG (av _) (fA (av _) (fA (av _) (fA (av _) fAn))))) (vC rfl wVn) wLn (rvC rvN) rfl rfl) ?_
 refine .nil (hK _ _ (cdh h rfl (fun hb32 h=>?_) (fun hb32 h=>?_)))
 refine ra hx ?_
 refine rq hx fun K hK=>?_
 refine s1 (d:=dG al_cV Dd.1) (aD (an.id _ _) aC) ?_
 iterate 2 refine sa ?_
 obtain⟨wJ,HN,h⟩:=ah h
 refine s1 (EN [3] rfl (zB HN) (fA (av _) (fAG (av _) (fA (av _) (fA (av _) fAn)))) (vC rfl wVn) wLn (rvC rvN) rfl rfl) ?_
 refine .nil (hK _ _ ?_)
 cases h
 exact pe0 h0 [0,1,2,3]
 refine AW.skip ?_
 cases h
 exact pe0 h0 [0,1,2,3]
 obtain⟨C3,GV⟩:=y
 rintro ex tm' hp' ⟨rfl,hw⟩
 refine AW.weak hw (rq hx fun K hK=>?_)
 iterate 3 refine sa ?_
 obtain⟨hc36,h⟩:=az h
 have hn37:(pV).toNat<16:=by omega
 refine s1 (cj hc36 aC aH) ?_
 refine s0 (aO (b':=u32.wrap (C3)) (an.comp (an.id _ _) (an.vec (cI .u32) yE (pV).toNat hn37) (fun _=>rfl)) aH) ?_
 refine .nil (hK _ _ (rb hx ?_))
 cases h
 exact PS.l (pe0 h0 [0,1,2,3])
 refine AW.exit ?_
 try dsimp only
 try simp only[bk,reduceIte,Nat.reduceEqDiff,reduceCtorEq]
 cases h
 exact PS.r ⟨by nofun,PE.i (wk h0 [0,1,3] (wR rfl (wR rfl (wR rfl (wR rfl wTn)))) (vC rfl (vC rfl (vC rfl wVn))) wLn)⟩
 obtain⟨sd,sb⟩:=y
 rintro ex tm' hp' ⟨rfl,hw⟩
 try dsimp only
 try simp only[bk,reduceIte,Nat.reduceEqDiff,reduceCtorEq]
 refine AW.weak hw (rsd [169] hx fun K hK=>?_)
 refine s1 (d:=dG al_cV sd) (aD (an.id _ _) aC) ?_
 refine q1 (slA (n:=17) (l:=(0:Int)) (h:=(16:Int)) tok (by decide) ls aH rfl ⟨_,rfl⟩) ?_
 refine q1 (sPtr tok rfl aC) ?_
 refine s1 (d:=dG al_cV (vOf 16 (List.take 16 (List.drop 0 (sb).toList)))) (aD (an.sub (o:=0) 16 (cI .u32) sb 0 (by decide) (by first|rfl|decide)) aC) ?_
 refine sa ?_
 obtain⟨yf,hx40,h⟩:=ah h
 refine sq tok (Df hx40) (by simp only[e8,gL,js,lE,iC,iB];exact⟨bh _ _,rfl⟩) (lA (fb _ _) (lA (av _) lAn)) (.inl (iK _ _)) ?_
 refine s0 (aO (b':=sd) (an.id _ _) aC) ?_
 refine s0 (aO (b':=yf) (an.id _ _) aC) ?_
 refine .nil (hK _ _ (AW.ret ?_))
 cases h
 exact rv2
def n8(bj:ar):Option ar:=bnd (cK [bj]) fun x1=>cnd (!x1) (bnd (dU) fun x4=>some x4) (bnd (bC false bj.vW) fun x6=>some x6)
theorem E8 {bj:ar}{r:ar}(h:n8 bj=some r):aB prog 131 [dG ap bj] (dG ap r):=by
 refine bJ (rs:=[.cell 2 32]) (fun cx hx h0=>?_) func131
 unfold n8 at h
 refine rs hx fun K hK=>?_
 refine sa ?_
 refine s1 (bq (F:=ap.f br) aA) ?_
 refine .nil (hK _ _ (AW.seq (rs hx fun K hK=>?_)))
 refine s1 (d:=dG ap bj) (aD (an.id _ _) aA) ?_
 refine s1 (pX ([bj]:List ar) ap px aA) ?_
 refine scb h gb fun x1 h=>?_
 refine sa ?_
 refine .nil (hK _ _ (cdh h rfl (fun bn h=>?_) (fun bn h=>?_)))
 refine rs hx fun K hK=>?_
 refine scb h gl fun x4 h=>?_
 refine s0 (aO (b':=x4) (an.id _ _) aA) ?_
 refine .nil (hK _ _ (AW.ret ?_))
 cases h
 exact rv1
 refine AW.skip (rs hx fun K hK=>?_)
 refine sa ?_
 refine s1 (aD (aS bj) aC) ?_
 refine scb h cR fun x6 h=>?_
 refine s0 (aO (b':=x6) (an.id _ _) aA) ?_
 refine .nil (hK _ _ (AW.ret ?_))
 cases h
 exact rv1
def gU :Int×Int→Option ((Int×Int)⊕Int):=fun (aL,eQ)=>cnd (decide (eQ≠(0:Int))) (gd (eQ≠0) (some (.inl (eQ,Int.tmod aL eQ)))) (some (.inr aL))
def co(Jr:ar→ar→Option ar)(aY:ar)(a8:ar):Option ar:=bnd (cK [aY,a8]) fun x1=>cnd (!x1) (bnd (dU) fun x4=>some x4) (bnd (S:=Bool) (bnd (d9 aY.vW) fun x6=>cnd (decide (x6≤(2:Int))) (bnd (d9 a8.vW) fun x9=>some (decide (x9≤(2:Int)))) (some (false))) fun mC=>cnd mC (bnd (some (ior .u64 (uP .u64 (u64.wrap ((aY.vW)[((1:Int)).toNat]!)) (32:Int)) (u64.wrap ((aY.vW)[((0:Int)).toNat]!)))) fun pl=>bnd (some (ior .u64 (uP .u64 (u64.wrap ((a8.vW)[((1:Int)).toNat]!)) (32:Int)) (u64.wrap ((a8.vW)[((0:Int)).toNat]!)))) fun I8=>bnd (a7 (gU) (pl,I8)) fun bR=>bnd (bC false (#v[u32.wrap (bR),u32.wrap (kA .u64 bR (32:Int)),0,0,0,0,0,0,0,0,0,0,0,0,0,0])) fun wB=>some wB) (cnd (decide (¬(a8.vW=#v[(0:Int),0,0,0,0,0,0,0,0,0,0,0,0,0,0,0]))) (bnd (fc aY.vW a8.vW) fun wA=>bnd (bC false a8.vW) fun oP=>bnd (bC false wA.2) fun Dc=>bnd (Jr oP Dc) fun wJ=>some wJ) (bnd (n8 aY) fun x35=>some x35)))
theorem BM {Jr:ar→ar→Option ar}(ih:∀{aY:ar} {a8:ar} {r:ar},Jr aY a8=some r→aB prog 93 [dG ap aY,dG ap a8] (dG ap r)){aY:ar}{a8:ar}{r:ar}(h:co Jr aY a8=some r):aB prog 93 [dG ap aY,dG ap a8] (dG ap r):=by
 refine bJ (rs:=[.cell 4 32]) (fun cx hx h0=>?_) func93
 unfold co at h
 refine rs hx fun K hK=>?_
 iterate 2 refine sa ?_
 refine s1 (bq (F:=ap.f br) aA) ?_
 refine .nil (hK _ _ (AW.seq (rs hx fun K hK=>?_)))
 refine s1 (d:=dG ap aY) (aD (an.id _ _) aA) ?_
 refine s1 (d:=dG ap a8) (aD (an.id _ _) aA) ?_
 refine s1 (pX ([aY,a8]:List ar) ap px aA) ?_
 refine scb h gb fun x1 h=>?_
 refine sa ?_
 refine .nil (hK _ _ (cdh h rfl (fun bn h=>?_) (fun bn h=>?_)))
 refine rs hx fun K hK=>?_
 refine scb h gl fun x4 h=>?_
 refine s0 (aO (b':=x4) (an.id _ _) aA) ?_
 refine .nil (hK _ _ (AW.ret ?_))
 cases h
 exact rv1
 refine AW.skip ?_
 iterate 2 refine AW.seq ?_
 obtain⟨mC,hy,h⟩:=ah h
 refine jn ((PE cx .normal (fun mC=>[(2,.pt 0 0),(3,.pt 1 0),(4,.pt 2 0),(26,dB mC)]) fun mC=>⟨[(0,dC (ap.f aY)),(1,dC (ap.f a8)),(2,dC (ap.f br))],[],3⟩) mC) ?_ ?_
 replace h:=hy
 refine rq hx fun K hK=>?_
 refine sa ?_
 refine s1 (aD (aS aY) aC) ?_
 refine scb h jd fun x6 h=>?_
 iterate 2 refine sa ?_
 rcases bP (decide (x6≤(2:Int))) with pg|pg
 replace h:=ba pg h
 refine ga pg ?_
 refine g1 pg (aD (aS a8) aC) ?_
 obtain⟨x9,xr,h⟩:=ah h
 refine g1 pg (c9 rfl (jd xr) (by simp only[e8,gL,js,lE,iC,iB];exact bh _ _) (lA (fb _ _) lAn) (.inl rfl)) ?_
 refine ga pg ?_
 refine s1 (am pg) ?_
 refine .nil (hK _ _ ?_)
 cases h
 exact pe0 h0 [0,1,2]
 replace h:=bb pg h
 iterate 4 refine aK rfl rfl pg ?_
 refine s1 (ax pg) ?_
 refine .nil (hK _ _ ?_)
 cases h
 exact pe0 h0 [0,1,2]
 rintro ex tm' hp' ⟨rfl,hw⟩
 refine AW.weak hw (cdh h rfl (fun td h=>?_) (fun td h=>?_))
 refine rsd [] hx fun K hK=>?_
 refine sa ?_
 have HX:((1:Int)).toNat<16:=by omega
 refine s1 (cj (by decide:0≤(1:Int)∧(1:Int)<((16:Nat):Int)) aC aH) ?_
 refine s1 (a6 (an.comp (aS aY) (an.vec (cI .u32) aY.vW ((1:Int)).toNat HX) (fun _=>rfl)) aH) ?_
 iterate 3 refine sa ?_
 have hn14:((0:Int)).toNat<16:=by omega
 refine s1 (cj (by decide:0≤(0:Int)∧(0:Int)<((16:Nat):Int)) aC aH) ?_
 refine s1 (a6 (an.comp (aS aY) (an.vec (cI .u32) aY.vW ((0:Int)).toNat hn14) (fun _=>rfl)) aH) ?_
 iterate 3 refine sa ?_
 have Nr:((1:Int)).toNat<16:=by omega
 refine s1 (cj (by decide:0≤(1:Int)∧(1:Int)<((16:Nat):Int)) aC aH) ?_
 refine s1 (a6 (an.comp (aS a8) (an.vec (cI .u32) a8.vW ((1:Int)).toNat Nr) (fun _=>rfl)) aH) ?_
 iterate 3 refine sa ?_
 have B5:((0:Int)).toNat<16:=by omega
 refine s1 (cj (by decide:0≤(0:Int)∧(0:Int)<((16:Nat):Int)) aC aH) ?_
 refine s1 (a6 (an.comp (aS a8) (an.vec (cI .u32) a8.vW ((0:Int)).toNat B5) (fun _=>rfl)) aH) ?_
 iterate 2 refine sa ?_
 obtain⟨pl,Ab,h⟩:=ah h
 replace Ab:=eG Ab
 refine s2 (d2:=dI .u64 pl) ke (fK (congrArg (dI .u64) Ab)) ?_
 obtain⟨I8,hx20,h⟩:=ah h
 replace hx20:=eG hx20
 refine s2 (d2:=dI .u64 I8) ke (fK (congrArg (dI .u64) hx20)) ?_
 refine .nil (hK _ _ (AW.seq (AW.block ?_)))
 obtain⟨bR,hy,h⟩:=ah h
 refine lp (S:=Int×Int) (X:=Int) (fun (aL,eQ)=>[(4,.pt 0 0),(5,dI .u64 aL),(6,dI .u64 eQ)]) (fun (aL,eQ)=>⟨[(0,dC (ap.f br))],[],1⟩) (PE cx (.exit 0) (fun bR=>[(4,.pt 0 0),(5,dI .u64 bR)]) fun bR=>⟨[(0,dC (ap.f br))],[],1⟩) hy ?_ ?_ ?_
 exact wk h0 [2] (wR rfl (wR rfl (wR rfl wTn))) (vC rfl wVn) wLn
 clear hy h
 rintro⟨aL,eQ⟩ y h
 dsimp only[gU] at h
 refine AW.seq (ra hx ?_)
 refine cdh h rfl (fun D4 h=>?_) (fun D4 h=>?_)
 refine AW.skip (AW.block (rqd [] hx fun K hK=>?_))
 iterate 3 refine sa ?_
 obtain⟨DV,h⟩:=az h
 refine s1 (uB DV) ?_
 iterate 2 refine sa ?_
 refine .nil (hK _ _ ?_)
 cases h
 exact PS.l (pe0 h0 [0])
 refine AW.exit ?_
 try dsimp only
 try simp only[bk,reduceIte,Nat.reduceEqDiff,reduceCtorEq]
 cases h
 exact PS.r ⟨by nofun,PE.i (wk h0 [0] (wR rfl (wR rfl wTn)) (vC rfl wVn) wLn)⟩
 rintro ex tm' hp' ⟨rfl,hw⟩
 try dsimp only
 try simp only[bk,reduceIte,Nat.reduceEqDiff,reduceCtorEq]
 refine AW.weak hw (rs hx fun K hK=>?_)
 iterate 5 refine sa ?_
 refine s1 (d:=dG al_cV (#v[u32.wrap (bR),u32.wrap (kA .u64 bR (32:Int)),0,0,0,0,0,0,0,0,0,0,0,0,0,0])) (kO aC aH) ?_
 refine scb h cR fun wB h=>?_
 refine s0 (aO (b':=wB) (an.id _ _) aA) ?_
 refine .nil (hK _ _ (AW.ret ?_))
 cases h
 exact rv1
 refine AW.skip ?_
 iterate 2 refine AW.seq ?_
 refine jn (PE cx .normal (fun (_:Unit)=>[(2,.pt 0 0),(4,.pt 1 0),(7,.pt 2 0),(8,.pt 3 0)]) (fun (_:Unit)=>⟨[(0,dC (ap.f aY)),(1,dC (ap.f br)),(2,dC (al_cV.f aY.vW)),(3,dC (al_cV.f a8.vW))],[],4⟩) ()) ?_ ?_
 refine dw (DW.split 4 5 (by decide) ?_ ?_)
 refine DW.split 3 6 (by decide) ?_ ?_
 refine dwg [] [0,1,2,3,4,5,6,7] hx (by kernel_rfl) (by kernel_rfl) (by kernel_rfl) fun K hK=>?_
 dsimp only[dq,lg,lx,List.map]
 refine sa ?_
 refine s1 (aD (aS aY) aC) ?_
 refine sa ?_
 refine s1 (aD (aS a8) aC) ?_
 iterate 2 refine s1 (bq (F:=al_cV.f (bM)) aC) ?_
 refine s0 (aO (b':=aY.vW) (an.id _ _) aC) ?_
 refine s0 (aO (b':=a8.vW) (an.id _ _) aC) ?_
 exact .nil (hK _ _ (pe0 h0 [0,2,3,4]))
 refine dwg [] [0,1,2,4,5,6,3,7] hx (by kernel_rfl) (by kernel_rfl) (by kernel_rfl) fun K hK=>?_
 dsimp only[dq,lg,lx,List.map]
 refine sa ?_
 refine s1 (aD (aS aY) aC) ?_
 refine sa ?_
 iterate 2 refine s1 (bq (F:=al_cV.f (bM)) aC) ?_
 refine s0 (aO (b':=aY.vW) (an.id _ _) aC) ?_
 refine s1 (aD (aS a8) aC) ?_
 refine s0 (aO (b':=a8.vW) (an.id _ _) aC) ?_
 exact .nil (hK _ _ (pe0 h0 [0,2,3,4]))
 refine DW.split 3 6 (by decide) ?_ ?_
 refine dwg [] [0,1,2,3,5,4,6,7] hx (by kernel_rfl) (by kernel_rfl) (by kernel_rfl) fun K hK=>?_
 dsimp only[dq,lg,lx,List.map]
 refine sa ?_
 refine s1 (aD (aS aY) aC) ?_
 refine sa ?_
 refine s1 (aD (aS a8) aC) ?_
 iterate 2 refine s1 (bq (F:=al_cV.f (bM)) aC) ?_
 refine s0 (aO (b':=aY.vW) (an.id _ _) aC) ?_
 refine s0 (aO (b':=a8.vW) (an.id _ _) aC) ?_
 exact .nil (hK _ _ (pe0 h0 [0,2,4,3]))
 refine dwg [] [0,1,2,5,4,6,3,7] hx (by kernel_rfl) (by kernel_rfl) (by kernel_rfl) fun K hK=>?_
 dsimp only[dq,lg,lx,List.map]
 refine sa ?_
 refine s1 (aD (aS aY) aC) ?_
 refine sa ?_
 iterate 2 refine s1 (bq (F:=al_cV.f (bM)) aC) ?_
 refine s0 (aO (b':=aY.vW) (an.id _ _) aC) ?_
 refine s1 (aD (aS a8) aC) ?_
 refine s0 (aO (b':=a8.vW) (an.id _ _) aC) ?_
 exact .nil (hK _ _ (pe0 h0 [0,2,4,3]))
 rintro ex tm' hp' ⟨rfl,hw⟩
 refine AW.weak hw (rs hx fun K hK=>?_)
 refine s1 (d:=dG al_cV a8.vW) (aD (an.id _ _) aC) ?_
 refine s1 (d:=dG al_cV (#v[(0:Int),0,0,0,0,0,0,0,0,0,0,0,0,0,0,0])) (kO aC aH) ?_
 refine s1 (xY tok 2 (by decide) (EqC.arr (EqC.int (d:=0) aH) aC aH) aC) ?_
 refine .nil (hK _ _ (cdh h rfl (fun Ao h=>?_) (fun Ao h=>?_)))
 refine rs hx fun K hK=>?_
 refine s1 (d:=dG al_cV aY.vW) (aD (an.id _ _) aC) ?_
 refine s1 (d:=dG al_cV a8.vW) (aD (an.id _ _) aC) ?_
 refine scb h qL fun wA h=>?_
 iterate 3 refine sa ?_
 iterate 2 refine s1 (bq (F:=al_cV.f (bM)) aC) ?_
 refine s0 (aO (b':=wA.1) (an.id _ _) aC) ?_
 refine s0 (aO (b':=wA.2) (an.id _ _) aC) ?_
 refine .nil (hK _ _ (rsd [111,93] hx fun K hK=>?_))
 refine s1 (d:=dG al_cV a8.vW) (aD (an.id _ _) aC) ?_
 refine cqb h cR fun oP h=>?_
 refine s1 (d:=dG al_cV wA.2) (aD (an.id _ _) aC) ?_
 refine cqb h cR fun Dc h=>?_
 refine cqb h ih fun wJ h=>?_
 refine s0 (aO (b':=wJ) (an.id _ _) aA) ?_
 refine .nil (hK _ _ (AW.ret ?_))
 cases h
 exact rv1
 refine AW.skip (rs hx fun K hK=>?_)
 refine s1 (d:=dG ap aY) (aD (an.id _ _) aA) ?_
 refine scb h E8 fun x35 h=>?_
 refine s0 (aO (b':=x35) (an.id _ _) aA) ?_
 refine .nil (hK _ _ (AW.ret ?_))
 cases h
 exact rv1
def gp:Nat→ar→ar→Option ar
 |0=>fun _ _=>none
 |n+1=>co (gp n)
theorem ue:∀(n:Nat) {aY:ar} {a8:ar} {r:ar},gp n aY a8=some r→aB prog 93 [dG ap aY,dG ap a8] (dG ap r)
 |0,_,_,_,h=>by cases h
 |n+1,_,_,_,h=>BM (ue n) h
def mv(aY:ar)(a8:ar):Option ar:=gp 1000 aY a8
theorem sL {aY:ar}{a8:ar}{r:ar}(h:mv aY a8=some r):aB prog 93 [dG ap aY,dG ap a8] (dG ap r):=ue 1000 h
def jD(aY:ar)(a8:ar):Option (ar×ar):=bnd (S:=Bool) (bnd (cK [aY,a8]) fun x1=>cnd (!x1) (some (true)) (bnd (gh a8) fun x4=>some (decide (x4=(0:Int))))) fun bQ=>cnd bQ (bnd (dU) fun x8=>bnd (dU) fun nr=>some (x8,nr)) (bnd (S:=Unit⊕(ar×ar)) (bnd (jQ aY) fun i9=>bnd (S:=Bool) (cnd i9.2 (some (decide (i9.1≠(-9223372036854775808:Int)))) (some (false))) fun bT=>cnd bT (bnd (jQ a8) fun pl=>bnd (S:=Bool) (cnd pl.2 (some (decide (pl.1≠(-9223372036854775808:Int)))) (some (false))) fun mB=>cnd mB (gd (pl.1≠0) (gd (pl.1≠0) (bnd (S:=Int×Int) (bnd (S:=Bool) (cnd (decide ((Int.tmod i9.1 pl.1)≠(0:Int))) (some (!((decide ((Int.tmod i9.1 pl.1)<(0:Int))) == (decide (pl.1<(0:Int)))))) (some (false))) fun yF=>cnd yF (bnd (some (i64.wrap ((i64.wrap (Int.tdiv i9.1 pl.1)) - (1:Int)))) fun wA=>bnd (some (i64.wrap ((Int.tmod i9.1 pl.1)+pl.1))) fun oP=>some ((wA,oP))) (some ((i64.wrap (Int.tdiv i9.1 pl.1),Int.tmod i9.1 pl.1)))) fun (i7,oO)=>bnd (eD i7) fun BD=>bnd (eD oO) fun x34=>some (.inr (BD,x34))))) (some (.inl ()))) (some (.inl ()))) fun y36=>match y36 with| .inl ()=>bnd (fc aY.vW a8.vW) fun wI=>bnd (bC (!(aY.vNeg == a8.vNeg)) wI.1) fun yf=>bnd (S:=(Vector Int 16)×ar) (bnd (S:=Bool) (cnd (decide (¬(wI.2=#v[(0:Int),0,0,0,0,0,0,0,0,0,0,0,0,0,0,0]))) (some (!(aY.vNeg == a8.vNeg))) (some (false))) fun yC=>cnd yC (bnd (eD (1:Int)) fun x44=>bnd (mu yf x44) fun x46=>bnd (gm a8.vW wI.2) fun Lx=>some ((Lx,x46))) (some ((wI.2,yf)))) fun (yD,wo)=>bnd (bC a8.vNeg yD) fun x51=>some (wo,x51)| .inr r=>some r)
theorem yJ {aY:ar}{a8:ar}{r:ar×ar}(h:jD aY a8=some r):aB prog 159 [dG ap aY,dG ap a8] (.tu [dG ap r.1,dG ap r.2]):=by
 refine bJ (rs:=[.cell 4 32,.cell 5 32]) (fun cx hx h0=>?_) func159
 unfold jD at h
 refine rs hx fun K hK=>?_
 iterate 2 refine sa ?_
 iterate 2 refine s1 (bq (F:=ap.f br) aA) ?_
 refine .nil (hK _ _ ?_)
 iterate 2 refine AW.seq ?_
 obtain⟨bQ,hy,h⟩:=ah h
 refine jn ((PE cx .normal (fun bQ=>[(2,.pt 0 0),(3,.pt 1 0),(4,.pt 2 0),(5,.pt 3 0),(24,dB bQ)]) fun bQ=>⟨[(0,dC (ap.f aY)),(1,dC (ap.f a8)),(2,dC (ap.f br)),(3,dC (ap.f br))],[],4⟩) bQ) ?_ ?_
 replace h:=hy
 refine rq hx fun K hK=>?_
 refine s1 (d:=dG ap aY) (aD (an.id _ _) aA) ?_
 refine s1 (d:=dG ap a8) (aD (an.id _ _) aA) ?_
 refine s1 (pX ([aY,a8]:List ar) ap px aA) ?_
 refine scb h gb fun x1 h=>?_
 iterate 2 refine sa ?_
 rcases bP (!x1) with bn|bn
 replace h:=ba bn h
 iterate 3 refine aK rfl rfl bn ?_
 refine s1 (am bn) ?_
 refine .nil (hK _ _ ?_)
 cases h
 exact pe0 h0 [0,1,2,3]
 replace h:=bb bn h
 refine g1 (d:=dG ap a8) bn (aD (an.id _ _) aA) ?_
 obtain⟨x4,uQ,h⟩:=ah h
 refine g1 bn (c9 rfl (mG uQ) (by simp only[e8,gL,js,lE,iC,iB];exact bh _ _) (lA (fb _ _) lAn) (.inl rfl)) ?_
 refine ga bn ?_
 refine s1 (ax bn) ?_
 refine .nil (hK _ _ ?_)
 cases h
 exact pe0 h0 [0,1,2,3]
 rintro ex tm' hp' ⟨rfl,hw⟩
 refine AW.weak hw (cdh h rfl (fun v6 h=>?_) (fun v6 h=>?_))
 refine rs hx fun K hK=>?_
 refine scb h gl fun x8 h=>?_
 refine scb h gl fun nr h=>?_
 refine s0 (aO (b':=x8) (an.id _ _) aA) ?_
 refine s0 (aO (b':=nr) (an.id _ _) aA) ?_
 refine .nil (hK _ _ (AW.ret ?_))
 cases h
 exact rv2
 refine AW.skip (AW.seq ?_)
 obtain⟨y,hy,h⟩:=ah h
 refine jn ((PS (PE cx .normal (fun ()=>[(2,.pt 0 0),(3,.pt 1 0),(4,.pt 2 0),(5,.pt 3 0)]) fun ()=>⟨[(0,dC (ap.f aY)),(1,dC (ap.f a8)),(2,dC (ap.f br)),(3,dC (ap.f br))],[],4⟩) (PR [.cell 4 32,.cell 5 32] fun r=>.tu [dG ap r.1,dG ap r.2])) y) ?_ ?_
 replace h:=hy
 refine rs hx fun K hK=>?_
 refine s1 (d:=dG ap aY) (aD (an.id _ _) aA) ?_
 refine scb h ud fun i9 h=>?_
 iterate 5 refine sa ?_
 refine .nil (hK _ _ (AW.seq ?_))
 obtain⟨bT,hy,h⟩:=ah h
 refine jn ((PE cx .normal (fun bT=>[(2,.pt 0 0),(3,.pt 1 0),(4,.pt 2 0),(5,.pt 3 0),(6,dI .i64 i9.1),(36,dB bT)]) fun bT=>⟨[(0,dC (ap.f aY)),(1,dC (ap.f a8)),(2,dC (ap.f br)),(3,dC (ap.f br))],[],4⟩) bT) ?_ ?_
 replace h:=hy
 refine rq hx fun K hK=>?_
 iterate 2 refine sa ?_
 rcases bP i9.2 with mf|mf
 replace h:=ba mf h
 iterate 2 refine ga mf ?_
 refine s1 (am mf) ?_
 refine .nil (hK _ _ ?_)
 cases h
 exact pe0 h0 [0,1,2,3]
 replace h:=bb mf h
 iterate 2 refine aK rfl rfl mf ?_
 refine s1 (ax mf) ?_
 refine .nil (hK _ _ ?_)
 cases h
 exact pe0 h0 [0,1,2,3]
 rintro ex tm' hp' ⟨rfl,hw⟩
 refine AW.weak hw (cdh h rfl (fun If h=>?_) (fun If h=>?_))
 refine rs hx fun K hK=>?_
 refine s1 (d:=dG ap a8) (aD (an.id _ _) aA) ?_
 refine scb h ud fun pl h=>?_
 iterate 5 refine sa ?_
 refine .nil (hK _ _ (AW.seq ?_))
 obtain⟨mB,hy,h⟩:=ah h
 refine jn ((PE cx .normal (fun mB=>[(2,.pt 0 0),(3,.pt 1 0),(4,.pt 2 0),(5,.pt 3 0),(6,dI .i64 i9.1),(8,dI .i64 pl.1),(46,dB mB)]) fun mB=>⟨[(0,dC (ap.f aY)),(1,dC (ap.f a8)),(2,dC (ap.f br)),(3,dC (ap.f br))],[],4⟩) mB) ?_ ?_
 replace h:=hy
 refine rq hx fun K hK=>?_
 iterate 2 refine sa ?_
 rcases bP pl.2 with Ap|Ap
 replace h:=ba Ap h
 iterate 2 refine ga Ap ?_
 refine s1 (am Ap) ?_
 refine .nil (hK _ _ ?_)
 cases h
 exact pe0 h0 [0,1,2,3]
 replace h:=bb Ap h
 iterate 2 refine aK rfl rfl Ap ?_
 refine s1 (ax Ap) ?_
 refine .nil (hK _ _ ?_)
 cases h
 exact pe0 h0 [0,1,2,3]
 rintro ex tm' hp' ⟨rfl,hw⟩
 refine AW.weak hw (cdh h rfl (fun D4 h=>?_) (fun D4 h=>?_))
 refine rsd [] hx fun K hK=>?_
 iterate 2 refine sa ?_
 obtain⟨DV,h⟩:=az h
 refine s1 (GW DV) ?_
 iterate 2 refine sa ?_
 obtain⟨hc23,h⟩:=az h
 refine s1 (uB hc23) ?_
 iterate 2 refine sa ?_
 refine .nil (hK _ _ (AW.seq ?_))
 obtain⟨y,hy,h⟩:=ah h
 refine jn ((PE cx .normal (fun (i7,oO)=>[(4,.pt 0 0),(5,.pt 1 0),(10,dI .i64 i7),(11,dI .i64 oO)]) fun (i7,oO)=>⟨[(0,dC (ap.f br)),(1,dC (ap.f br))],[],2⟩) y) ?_ ?_
 replace h:=hy
 refine AW.seq ?_
 obtain⟨yF,hy,h⟩:=ah h
 refine jn ((PE cx .normal (fun yF=>[(4,.pt 0 0),(5,.pt 1 0),(8,dI .i64 pl.1),(10,dI .i64 (i64.wrap (Int.tdiv i9.1 pl.1))),(11,dI .i64 (Int.tmod i9.1 pl.1)),(61,dB yF)]) fun yF=>⟨[(0,dC (ap.f br)),(1,dC (ap.f br))],[],2⟩) yF) ?_ ?_
 replace h:=hy
 refine rq hx fun K hK=>?_
 iterate 3 refine sa ?_
 rcases bP (decide ((Int.tmod i9.1 pl.1)≠(0:Int))) with xx|xx
 replace h:=ba xx h
 iterate 5 refine ga xx ?_
 refine s1 (am xx) ?_
 refine .nil (hK _ _ ?_)
 cases h
 exact pe0 h0 [2,3]
 replace h:=bb xx h
 iterate 5 refine aK rfl rfl xx ?_
 refine s1 (ax xx) ?_
 refine .nil (hK _ _ ?_)
 cases h
 exact pe0 h0 [2,3]
 rintro ex tm' hp' ⟨rfl,hw⟩
 refine AW.weak hw (cdh h rfl (fun Ao h=>?_) (fun Ao h=>?_))
 refine rq hx fun K hK=>?_
 iterate 5 refine sa ?_
 obtain⟨wA,HO,h⟩:=ah h
 replace HO:=eG HO
 refine s2 (d2:=dI .i64 wA) ke (fK (congrArg (dI .i64) HO)) ?_
 obtain⟨oP,hx30,h⟩:=ah h
 replace hx30:=eG hx30
 refine s2 (d2:=dI .i64 oP) ke (fK (congrArg (dI .i64) hx30)) ?_
 refine .nil (hK _ _ ?_)
 cases h
 exact pe0 h0 [0,1]
 refine AW.skip ?_
 cases h
 exact pe0 h0 [0,1]
 obtain⟨i7,oO⟩:=y
 rintro ex tm' hp' ⟨rfl,hw⟩
 refine AW.weak hw (rs hx fun K hK=>?_)
 refine sa ?_
 refine scb h l9 fun BD h=>?_
 refine sa ?_
 refine scb h l9 fun x34 h=>?_
 refine s0 (aO (b':=BD) (an.id _ _) aA) ?_
 refine s0 (aO (b':=x34) (an.id _ _) aA) ?_
 refine .nil (hK _ _ (AW.ret ?_))
 cases h
 refine PS.r (PR.i ?_)
 exact rv2
 refine AW.skip ?_
 cases h
 exact PS.l (pe0 h0 [0,1,2,3])
 refine AW.skip ?_
 cases h
 exact PS.l (pe0 h0 [0,1,2,3])
 rcases y with⟨⟩|r
 rintro ex tm' hp' ⟨rfl,hw⟩
 refine AW.weak hw (rs hx fun K hK=>?_)
 refine sa ?_
 refine s1 (aD (aS aY) aC) ?_
 refine sa ?_
 refine s1 (aD (aS a8) aC) ?_
 refine scb h qL fun wI h=>?_
 iterate 3 refine sa ?_
 iterate 2 refine s1 (bq (F:=al_cV.f (bM)) aC) ?_
 refine s0 (aO (b':=wI.1) (an.id _ _) aC) ?_
 refine s0 (aO (b':=wI.2) (an.id _ _) aC) ?_
 refine .nil (hK _ _ (rs hx fun K hK=>?_))
 refine sa ?_
 refine s1 (a6 (bp aY) ge) ?_
 refine sa ?_
 refine s1 (a6 (bp a8) ge) ?_
 refine sa ?_
 refine s1 (d:=dG al_cV wI.1) (aD (an.id _ _) aC) ?_
 refine scb h cR fun yf h=>?_
 refine s1 (bq (F:=ap.f br) aA) ?_
 refine s0 (aO (b':=yf) (an.id _ _) aA) ?_
 refine .nil (hK _ _ (AW.seq ?_))
 obtain⟨y,hy,h⟩:=ah h
 refine jn ((PE cx .normal (fun (yD,wo)=>[(3,.pt 0 0),(4,.pt 1 0),(5,.pt 2 0),(13,.pt 3 0),(14,.pt 4 0)]) fun (yD,wo)=>⟨[(0,dC (ap.f a8)),(1,dC (ap.f br)),(2,dC (ap.f br)),(3,dC (al_cV.f yD)),(4,dC (ap.f wo))],[],5⟩) y) ?_ ?_
 replace h:=hy
 refine AW.seq ?_
 obtain⟨yC,hy,h⟩:=ah h
 refine jn ((PE cx .normal (fun yC=>[(3,.pt 0 0),(4,.pt 1 0),(5,.pt 2 0),(13,.pt 3 0),(14,.pt 4 0),(95,dB yC)]) fun yC=>⟨[(0,dC (ap.f a8)),(1,dC (ap.f br)),(2,dC (ap.f br)),(3,dC (al_cV.f wI.2)),(4,dC (ap.f yf))],[],5⟩) yC) ?_ ?_
 replace h:=hy
 refine rq hx fun K hK=>?_
 refine s1 (d:=dG al_cV wI.2) (aD (an.id _ _) aC) ?_
 refine s1 (d:=dG al_cV (#v[(0:Int),0,0,0,0,0,0,0,0,0,0,0,0,0,0,0])) (kO aC aH) ?_
 refine s1 (xY tok 2 (by decide) (EqC.arr (EqC.int (d:=0) aH) aC aH) aC) ?_
 refine sa ?_
 rcases bP (decide (¬(wI.2=#v[(0:Int),0,0,0,0,0,0,0,0,0,0,0,0,0,0,0]))) with rI|rI
 replace h:=ba rI h
 refine ga rI ?_
 refine g1 rI (a6 (bp aY) ge) ?_
 refine ga rI ?_
 refine g1 rI (a6 (bp a8) ge) ?_
 refine ga rI ?_
 refine s1 (am rI) ?_
 refine .nil (hK _ _ ?_)
 cases h
 exact pe0 h0 [1,2,3,5,6]
 replace h:=bb rI h
 iterate 5 refine aK rfl rfl rI ?_
 refine s1 (ax rI) ?_
 refine .nil (hK _ _ ?_)
 cases h
 exact pe0 h0 [1,2,3,5,6]
 rintro ex tm' hp' ⟨rfl,hw⟩
 refine AW.weak hw (cdh h rfl (fun rH h=>?_) (fun rH h=>?_))
 refine rqd [105,177,162] hx fun K hK=>?_
 refine s1 (d:=dG ap yf) (aD (an.id _ _) aA) ?_
 refine cqb h l9 fun x44 h=>?_
 refine cqb h E7 fun x46 h=>?_
 refine sa ?_
 refine s1 (aD (aS a8) aC) ?_
 refine s1 (d:=dG al_cV wI.2) (aD (an.id _ _) aC) ?_
 refine cqb h qr fun Lx h=>?_
 refine s0 (aO (b':=x46) (an.id _ _) aA) ?_
 refine s0 (aO (b':=Lx) (an.id _ _) aC) ?_
 refine .nil (hK _ _ ?_)
 cases h
 exact pe0 h0 [0,1,2,3,4]
 refine AW.skip ?_
 cases h
 exact pe0 h0 [0,1,2,3,4]
 obtain⟨yD,wo⟩:=y
 rintro ex tm' hp' ⟨rfl,hw⟩
 refine AW.weak hw (rsd [111] hx fun K hK=>?_)
 refine s1 (d:=dG ap wo) (aD (an.id _ _) aA) ?_
 refine sa ?_
 refine s1 (a6 (bp a8) ge) ?_
 refine s1 (d:=dG al_cV yD) (aD (an.id _ _) aC) ?_
 refine cqb h cR fun x51 h=>?_
 refine s0 (aO (b':=wo) (an.id _ _) aA) ?_
 refine s0 (aO (b':=x51) (an.id _ _) aA) ?_
 refine .nil (hK _ _ (AW.ret ?_))
 cases h
 exact rv2
 rintro ex tm' hp' ⟨rfl,hw⟩
 cases h
 exact hw
def jb(aY:ar)(a8:ar):Option ar:=bnd (jD aY a8) fun x1=>some x1.1
theorem mq {aY:ar}{a8:ar}{r:ar}(h:jb aY a8=some r):aB prog 126 [dG ap aY,dG ap a8] (dG ap r):=by
 refine bJ (rs:=[.cell 4 32]) (fun cx hx h0=>?_) func126
 unfold jb at h
 refine rs hx fun K hK=>?_
 iterate 2 refine sa ?_
 refine s1 (bq (F:=ap.f br) aA) ?_
 refine .nil (hK _ _ (rs hx fun K hK=>?_))
 refine s1 (d:=dG ap aY) (aD (an.id _ _) aA) ?_
 refine s1 (d:=dG ap a8) (aD (an.id _ _) aA) ?_
 refine scb h yJ fun x1 h=>?_
 iterate 3 refine sa ?_
 iterate 2 refine s1 (bq (F:=ap.f br) aA) ?_
 refine s0 (aO (b':=x1.1) (an.id _ _) aA) ?_
 refine s0 (aO (b':=x1.2) (an.id _ _) aA) ?_
 refine .nil (hK _ _ (rs hx fun K hK=>?_))
 refine s1 (d:=dG ap x1.1) (aD (an.id _ _) aA) ?_
 refine s0 (aO (b':=x1.1) (an.id _ _) aA) ?_
 refine .nil (hK _ _ (AW.ret ?_))
 cases h
 exact rv1
section
theorem vsub {b n A:Nat}(m o:Nat)(h:o+m≤n):vOf m (List.take m (List.drop o (vN b n A).toList))=vN b m (A / b ^ o):=by
 have hl:(List.take m (List.drop o (vN b n A).toList)).length=m:=by
  rw[eA,f8,pO];omega
 apply mK
 intro j hj
 rw[iy hj]
 have e1:=vB (vOf m (List.take m (List.drop o (vN b n A).toList))) hj
 rw[uF hl] at e1
 rw[←e1,eI _ j (by omega),List.getElem_take,List.getElem_drop]
 have e2:=iy (b:=b) (A:=A) (j:=o+j) (n:=n) (by omega)
 rw[←vB (vN b n A) (by omega),eI _ (o+j) (by rw[pO];omega)] at e2
 rw[e2]
 unfold dg
 rw[j9,jH]
section
variable {b R a B i k:Nat}
def pZ(b R a B i k:Nat):Nat:=R % b ^ (i+k)+a*(B % b ^ k)*b ^ i
def vh(b R a B i k:Nat):Nat:=R / b ^ (i+k)*b ^ (i+k)+pZ b R a B i k % b ^ (i+k)
theorem Da:pZ b R a B i (k+1)=pZ b R a B i k+b ^ (i+k)*(dg b R (i+k)+a*dg b B k):=by
 unfold pZ
 rw[show i+(k+1)=i+k+1 from rfl,fW,fW (A:=B),wi,wi,bN,j9 b i k]
 have:a*(b ^ k*dg b B k)*b ^ i=b ^ i*b ^ k*(a*dg b B k):=by
  simp only[iw,CX,ci]
 rw[this];omega
theorem Kh(hb:0<b)(ha:a<b):pZ b R a B i k / b ^ (i+k)<b:=by
 have hp:0<b ^ (i+k):=cH hb
 rw[nC hp]
 unfold pZ
 have h1:=c6 R hp
 have h2:a*(B % b ^ k)*b ^ i≤(b - 1)*b ^ (i+k):=by
  rw[j9,iw]
  refine lW (by omega) ?_
  rw[ci (b ^ i)]
  exact cc _ (nA (c6 _ (cH hb)))
 have h3:(b - 1)*b ^ (i+k)+b ^ (i+k)=b*b ^ (i+k):=by
  rw[←qk];congr 1;omega
 omega
theorem Orow_dg(hb:0<b):dg b (vh b R a B i k) (i+k)=dg b R (i+k):=by
 unfold vh dg
 rw[ci (R / _),AM (cH hb),fI (c6 _ (cH hb)),i6]
theorem Lr(hb:0<b):up1 b (vh b R a B i k) (i+k) (pZ b R a B i (k+1) / b ^ (i+k) % b)=vh b R a B i (k+1):=by
 have hp:0<b ^ (i+k):=cH hb
 have e1:vh b R a B i k / b ^ (i+k+1)=R / b ^ (i+k+1):=by
  rw[eu,←jH,←jH]
  congr 1
  unfold vh
  rw[ci (R / _),AM hp,fI (c6 _ hp),i6]
 have e2:vh b R a B i k % b ^ (i+k)=pZ b R a B i (k+1) % b ^ (i+k):=by
  rw[Da,xW]
  unfold vh
  rw[ci (R / _),Nat.mul_add_mod,xV]
 unfold up1
 rw[e1,e2]
 show _=R / b ^ (i+k+1)*b ^ (i+k+1)+pZ b R a B i (k+1) % b ^ (i+k+1)
 rw[fW (A:=pZ b R a B i (k+1)),ci (b ^ (i+k)) (dg _ _ _)]
 unfold dg
 omega
end
theorem Mul_row {A B i m:Nat}(hi:i<16)(hm:m≤16)(hB:B<4294967296 ^ m)(x y:ar)(hx:x.vW=W A)(hy:y.vW=W B):
  ∃c:Nat,c<4294967296∧∃O:Nat,a7 (gS x y (m:Int) (i:Int)) ((0:Int),(0:Int),vN 4294967296 32 (A % 4294967296 ^ i*B))=some ((c:Int),vN 4294967296 32 O)∧up1 4294967296 O (i+m) c=A % 4294967296 ^ (i+1)*B:=by
 have hb:0<(4294967296:Nat):=by decide
 have hR:A % 4294967296 ^ i*B<4294967296 ^ (i+m):=by
  rw[j9]
  exact Nat.mul_lt_mul_of_lt_of_le (c6 _ (cH hb)) (nA hB) (cH hb)
 generalize hRR:A % 4294967296 ^ i*B=R at hR ⊢
 have ha:=@dgl A i
 have hl:=pC (b:=gS x y (m:Int) (i:Int)) (s0:=((0:Int),(0:Int),vN 4294967296 32 R)) (fun k=>((pZ 4294967296 R (dg 4294967296 A i) B i k / 4294967296 ^ (i+k):Nat),(k:Int),vN 4294967296 32 (vh 4294967296 R (dg 4294967296 A i) B i k))) m ((pZ 4294967296 R (dg 4294967296 A i) B i m / 4294967296 ^ (i+m):Nat),vN 4294967296 32 (vh 4294967296 R (dg 4294967296 A i) B i m))
  (by
   have e1:pZ 4294967296 R (dg 4294967296 A i) B i 0=R % 4294967296 ^ i:=by unfold pZ;simp[lJ]
   have e2:vh 4294967296 R (dg 4294967296 A i) B i 0=R:=by
    unfold vh;rw[e1,i6,xV,ci];exact nB _ _
   rw[e1,e2,i6,fI (c6 _ (cH hb))]
   rfl)
  (fun k hk=>by
   have hk16:k<16:=by omega
   have hc:=Kh (b:=4294967296) (R:=R) (a:=dg 4294967296 A i) (B:=B) (i:=i) (k:=k) hb ha
   have hbk:=@dgl B k
   have hr:=@dgl R (i+k)
   have JF:dg 4294967296 A i*dg 4294967296 B k≤4294967295*4294967295:=lW (by omega) (by omega)
   have B3:pZ 4294967296 R (dg 4294967296 A i) B i (k+1) / 4294967296 ^ (i+k)=pZ 4294967296 R (dg 4294967296 A i) B i k / 4294967296 ^ (i+k)+(dg 4294967296 A i*dg 4294967296 B k+dg 4294967296 R (i+k)):=by
    rw[Da,ve _ _ (cH hb),oh (dg 4294967296 R (i+k))]
   have yP:pZ 4294967296 R (dg 4294967296 A i) B i (k+1) / 4294967296 ^ (i+(k+1))=pZ 4294967296 R (dg 4294967296 A i) B i (k+1) / 4294967296 ^ (i+k) / 4294967296:=by
    rw[jH,←eu];rfl
   have qH:=Lr (b:=4294967296) (R:=R) (a:=dg 4294967296 A i) (B:=B) (i:=i) (k:=k) hb
   rw[yP]
   generalize pZ 4294967296 R (dg 4294967296 A i) B i (k+1) / 4294967296 ^ (i+k)=x1 at B3 qH ⊢
   generalize pZ 4294967296 R (dg 4294967296 A i) B i k / 4294967296 ^ (i+k)=c at B3 hc ⊢
   have eik:i64.wrap ((i:Int)+(k:Int))=((i+k:Nat):Int):=by rw[b8];omega
   dsimp only[gS]
   rw[bu _ _,aF,aF,eik,aF,ab,aF,ab,aW,aW,aW,hx,hy,fR hi,fR hk16,iy (by omega),Orow_dg hb,
    gu (n:=dg 4294967296 A i) (by omega),gu (n:=dg 4294967296 B k) (by omega),gu (n:=dg 4294967296 R (i+k)) (by omega),←nW,gu (n:=dg 4294967296 A i*dg 4294967296 B k) (by omega),←jZ,gu,←jZ,gu,←B3,uh,wW,wS hb (c6 _ hb) (by omega),qH,b8]
   rfl)
  (by
   dsimp only[gS]
   rw[bw _ _])
 refine⟨_,Kh hb ha,_,hl,?_⟩
 have e1:pZ 4294967296 R (dg 4294967296 A i) B i m=R+dg 4294967296 A i*B*4294967296 ^ i:=by
  unfold pZ;rw[dM hR,dM hB]
 have e2:vh 4294967296 R (dg 4294967296 A i) B i m=pZ 4294967296 R (dg 4294967296 A i) B i m % 4294967296 ^ (i+m):=by
  unfold vh;rw[fI hR,e7,bE]
 have hO:vh 4294967296 R (dg 4294967296 A i) B i m<4294967296 ^ (i+m):=by rw[e2];exact c6 _ (cH hb)
 unfold up1
 rw[fI (bG hO (gP hb (dx _))),e7,bE,dM hO,e2,ci (_ / _),nB,e1,←hRR,fW (A:=A),bN]
 congr 1
 simp only[iw,CX,ci]
theorem O0 {A B n m:Nat}(hn:n≤16)(hm:m≤16)(hA:A<4294967296 ^ n)(hB:B<4294967296 ^ m)(x y:ar)(hx:x.vW=W A)(hy:y.vW=W B):
  a7 (gT x y (n:Int) (m:Int)) ((0:Int),Vector.replicate 32 (0:Int))=some (vN 4294967296 32 (A*B)):=by
 have hb:0<(4294967296:Nat):=by decide
 have hl:=pC (b:=gT x y (n:Int) (m:Int)) (s0:=((0:Int),Vector.replicate 32 (0:Int))) (fun i=>((i:Int),vN 4294967296 32 (A % 4294967296 ^ i*B))) n (vN 4294967296 32 (A % 4294967296 ^ n*B))
  (by simp only[fj,lJ,e7,qb];rfl)
  (fun i hi=>by
   obtain⟨c,hc,O,h1,h2⟩:=Mul_row (i:=i) (by omega) hm hB x y hx hy
   have eim:i64.wrap ((i:Int)+(m:Int))=((i+m:Nat):Int):=by rw[b8];omega
   dsimp only[gT]
   rw[bu _ _,h1,ab]
   dsimp only
   rw[eim,aF,ab,aW,wV hc,wS hb hc (by omega),h2,b8]
   rfl)
  (by
   dsimp only[gT]
   rw[bw _ _])
 rw[hl,dM hA]
theorem G3 {a c:Int}(ha:a.natAbs<LIM)(hc:c.natAbs<LIM):ia (enc a) (enc c)=some (enc (a*c)):=by
 obtain⟨n,hn,LH,F8⟩:=ya ha
 obtain⟨m,hm,K2,hm2⟩:=ya hc
 have JF:a.natAbs*c.natAbs<4294967296 ^ 16*4294967296 ^ 16:=xU ha hc
 unfold ia
 rw[sm,bI ha,bI hc,ab]
 simp only[iC,d7,bc]
 rw[lm ha,lm hc,LH,ab,K2,ab,O0 hn hm F8.1 hm2.1 (enc a) (enc c) (lm ha) (lm hc),ab,vsub 16 16 (by omega),vsub 16 0 (by omega),z16,m5 ha,m5 hc,fj,mp]
 have hq:a.natAbs*c.natAbs / 4294967296 ^ 16<LIM:=GP JF
 have hz:(vN 4294967296 16 (a.natAbs*c.natAbs / 4294967296 ^ 16)=W 0)↔a.natAbs*c.natAbs<LIM:=by
  rw[Bm hq t3,EI (by decide)];rfl
 simp only[hz]
 by_cases h:a.natAbs*c.natAbs<LIM
 ·rw[bw _ _ (by simpa using h),ix h,ab]
  congr 2
  rcases Int.natAbs_eq a with e1|e1 <;> rcases Int.natAbs_eq c with e2|e2 <;> skip
  all_goals
   by_cases ha0:a<0 <;> by_cases hc0:c<0 <;> simp only[ha0,hc0,qG,qF,Bd,d7,tz,kK,cond_false,Bool.true_beq,Bool.false_beq,nW]
  all_goals (first|(exfalso;omega)|(have ea:(a.natAbs:Int)=a:=(by omega);have ec:(c.natAbs:Int)=c:=(by omega);rw[ea,ec])|(have ea:(a.natAbs:Int)=-a:=(by omega);have ec:(c.natAbs:Int)=c:=(by omega);rw[ea,ec,Int.neg_mul,Int.neg_neg])|(have ea:(a.natAbs:Int)=a:=(by omega);have ec:(c.natAbs:Int)=-c:=(by omega);rw[ea,ec,Int.mul_neg,Int.neg_neg])|(have ea:(a.natAbs:Int)=-a:=(by omega);have ec:(c.natAbs:Int)=-c:=(by omega);rw[ea,ec,Int.neg_mul_neg])|skip)
 ·rw[bu _ _ (by simpa using h),Ku,ab,Ay (by rw[vd];exact h)]
end
theorem set16(x y:Int):(#v[x,y,0,0,0,0,0,0,0,0,0,0,0,0,0,0]:Vector Int 16)=((W 0).set! 0 x).set! 1 y:=by
 rw[←z16];rfl
theorem OQ {u:Nat}(hu:u<18446744073709551616):(#v[((u % 4294967296:Nat):Int),((u / 4294967296:Nat):Int),0,0,0,0,0,0,0,0,0,0,0,0,0,0]:Vector Int 16)=W u:=by
 have hb:0<(4294967296:Nat):=by decide
 have hx:u % 4294967296<4294967296:=c6 _ hb
 have hy:u / 4294967296<4294967296:=by omega
 rw[set16]
 unfold W
 rw[wS hb hx (by omega)]
 have e1:up1 4294967296 0 0 (u % 4294967296)=u % 4294967296:=by
  have:=Hf (b:=4294967296) (A:=0) (p:=0) (x:=u % 4294967296)
  rw[j8 (by decide)] at this
  omega
 have h:=Hf (b:=4294967296) (A:=u % 4294967296) (p:=1) (x:=u / 4294967296)
 rw[j8 (by rw[tx];exact hx),tx,e7,i6,Nat.mod_add_div'] at h
 rw[e1,wS hb hy (by omega),h]
theorem ES {n:Int}(h1:-9223372036854775808≤n)(h2:n≤9223372036854775807):eD n=some (enc n):=by
 have hu:n.natAbs<18446744073709551616:=by omega
 have hL:n.natAbs<LIM:=bG hu (by decide)
 have hc:cnd (decide (n<(0:Int))) (some (u64.wrap (0 - (u64.wrap n)))) (some (u64.wrap n))=some ((n.natAbs:Nat):Int):=by
  rw[iG]
  split
  ·congr 1;rw[IntKind.wrap_u64,IntKind.wrap_u64];omega
  ·congr 1;rw[IntKind.wrap_u64];omega
 unfold eD
 rw[hc,ab,wW,uh,wV,OQ hu,ix hL,ab]
 congr 2
 by_cases h:n<0
 ·simp only[h,qG,kK];omega
 ·simp only[h,qF,cond_false];omega
theorem uH {x k l:Nat}(hx:2 ^ k≤x)(h:szp 2 (x / 2 ^ k) l):szp 2 x (l+k):=by
 have hp:0<2 ^ k:=cH (by decide)
 have h0:0<x / 2 ^ k:=Bc hx hp
 have hl:0<l:=by
  rcases ln l with h1|h1
  ·subst h1;have:=h.1;simp at this;omega
  ·exact h1
 refine⟨?_,fun _=>?_⟩
 ·rw[j9];exact (nC hp).1 h.1
 ·have:=h.2 hl
  rw[show l+k - 1=(l - 1)+k from by omega,j9]
  exact (nV hp).1 this
def FT:ByteArray:=⟨#[0,1,2,2,3,3,3,3,4,4,4,4,4,4,4,4,5,5,5,5,5,5,5,5,5,5,5,5,5,5,5,5,6,6,6,6,6,6,6,6,6,6,6,6,6,6,6,6,6,6,6,6,6,6,6,6,6,6,6,6,6,6,6,6,7,7,7,7,7,7,7,7,7,7,7,7,7,7,7,7,7,7,7,7,7,7,7,7,7,7,7,7,7,7,7,7,7,7,7,7,7,7,7,7,7,7,7,7,7,7,7,7,7,7,7,7,7,7,7,7,7,7,7,7,7,7,7,7,8,8,8,8,8,8,8,8,8,8,8,8,8,8,8,8,8,8,8,8,8,8,8,8,8,8,8,8,8,8,8,8,8,8,8,8,8,8,8,8,8,8,8,8,8,8,8,8,8,8,8,8,8,8,8,8,8,8,8,8,8,8,8,8,8,8,8,8,8,8,8,8,8,8,8,8,8,8,8,8,8,8,8,8,8,8,8,8,8,8,8,8,8,8,8,8,8,8,8,8,8,8,8,8,8,8,8,8,8,8,8,8,8,8,8,8,8,8,8,8,8,8,8,8,8,8,8,8]⟩
theorem CK:∀y:Nat,y<256→(FT.data.toList.getD y 0).toNat≤8∧y<2 ^ (FT.data.toList.getD y 0).toNat∧(0<(FT.data.toList.getD y 0).toNat→2 ^ ((FT.data.toList.getD y 0).toNat - 1)≤y):=by decide +kernel
theorem KS:FT.size=256:=by decide +kernel
theorem len_tab(y:Nat)(hy:y<256):∃l:Nat,sAt FT y=(l:Int)∧l≤8∧szp 2 y l:=
 ⟨_,rfl,(CK y hy).1,(CK y hy).2⟩
theorem O1(x:Int):lc x=bnd (S:=Int×Int) (cnd (decide ((65536:Int)≤x)) (some ((kA .u32 x (16:Int),(16:Int)))) (some ((x,(0:Int))))) fun (jv,EL)=>bnd (S:=Int×Int) (cnd (decide ((256:Int)≤jv)) (some ((kA .u32 jv (8:Int),i64.wrap (EL+(8:Int))))) (some ((jv,EL)))) fun (jK,Bl)=>gd (0≤u8.wrap (jK)∧u8.wrap (jK)<(FT.size:Int)) (bnd (some (i64.wrap (Bl+(i64.wrap (sAt FT (u8.wrap (jK)).toNat))))) fun x6=>some x6):=rfl
theorem u8n {n:Nat}(h:n<256):u8.wrap (n:Int)=(n:Int):=by
 rw[IntKind.wrap_u8];omega
theorem Ks {x:Nat}(hx:x<4294967296):∃l:Nat,lc (x:Int)=some (l:Int)∧l≤32∧szp 2 x l:=by
 have h16:∃(y n:Nat),cnd (decide ((65536:Int)≤(x:Int))) (some ((kA .u32 (x:Int) (16:Int),(16:Int)))) (some (((x:Int),(0:Int))))=some ((y:Int),(n:Int))∧y<65536∧n≤16∧∀l,szp 2 y l→szp 2 x (l+n):=by
  rw[iG]
  split
  ·rename_i h
   exact⟨x / 2 ^ 16,16,by rw[show (16:Int)=((16:Nat):Int) from rfl,xm .u32 x 16 (by decide)],by omega,by omega,fun l hl=>uH (by omega) hl⟩
  ·exact⟨x,0,rfl,by omega,by omega,fun l hl=>hl⟩
 obtain⟨y,n,e1,hy,hn,hs⟩:=h16
 have h8:∃(z m:Nat),cnd (decide ((256:Int)≤(y:Int))) (some ((kA .u32 (y:Int) (8:Int),i64.wrap ((n:Int)+(8:Int))))) (some (((y:Int),(n:Int))))=some ((z:Int),(m:Int))∧z<256∧m≤24∧∀l,szp 2 z l→szp 2 x (l+m):=by
  rw[iG]
  split
  ·rename_i h
   refine⟨y / 2 ^ 8,n+8,?_,by omega,by omega,fun l hl=>?_⟩
   ·rw[show (8:Int)=((8:Nat):Int) from rfl,xm .u32 y 8 (by decide),b8];rfl
   ·rw[show l+(n+8)=(l+8)+n from by omega]
    exact hs _ (uH (by omega) hl)
  ·exact⟨y,n,rfl,by omega,by omega,hs⟩
 obtain⟨z,m,e2,hz,hm,LE⟩:=h8
 obtain⟨l,yU,vo,K3⟩:=len_tab z hz
 refine⟨l+m,?_,by omega,LE l K3⟩
 rw[O1,e1,ab]
 dsimp only
 rw[e2,ab]
 dsimp only
 rw[u8n hz,KS,aF,aW,yU,b8 (z:=(l:Int)) (by omega),b8,ab]
 congr 1
 omega
theorem G_Lead {x:Nat}(hx:x<4294967296):∃l:Nat,eY (x:Int)=some (((32 - l:Nat)):Int)∧l≤32∧szp 2 x l:=by
 obtain⟨l,h1,h2,h3⟩:=Ks hx
 refine⟨l,?_,h2,h3⟩
 unfold eY
 rw[h1,ab,b8]
 congr 1
 omega
theorem G_Bits {a:Int}(ha:a.natAbs<LIM):∃l:Nat,l≤512∧mV (enc a)=some (l:Int)∧szp 2 a.natAbs l:=by
 obtain⟨n,hn,h1,h2⟩:=ya ha
 unfold mV
 rw[lm ha,h1,ab,wz,bI ha,ab,d7,bc,ab]
 cases n with
 |zero=>
  refine⟨0,by omega,?_,?_⟩
  ·rw[bu _ _];rfl
  ·have:=h2.1
   exact⟨by simpa using this,fun h=>by omega⟩
 |succ k=>
  have hk:k<16:=by omega
  rw[bw _ _,show i64.wrap (((k+1:Nat):Int) - 1)=(k:Int) from by rw[b8];omega,aF,aW,fR hk]
  obtain⟨l,h3,h4,h5⟩:=Ks (x:=dg 4294967296 a.natAbs k) dgl
  have hd:dg 4294967296 a.natAbs k=a.natAbs / 2 ^ (32*k):=by
   unfold dg
   have e:(4294967296:Nat) ^ k=2 ^ (32*k):=by rw[Lq]
   rw[←e,dM]
   rw[nC (cH (by decide)),ci,←eu];exact h2.1
  have xv:2 ^ (32*k)≤a.natAbs:=by
   have:=h2.2 (by omega)
   rw[xT] at this
   rwa[Lq]
  refine⟨l+32*k,by omega,?_,?_⟩
  ·rw[h3,ab,show i64.wrap ((32:Int)*(k:Int))=((32*k:Nat):Int) from by rw[b8];omega,b8]
   congr 1;omega
  ·rw[hd] at h5;exact uH xv h5
theorem MK {A:Nat}(hA:A<18446744073709551616):ior .u64 (uP .u64 (u64.wrap ((W A)[((1:Int)).toNat]!)) (32:Int)) (u64.wrap ((W A)[((0:Int)).toNat]!))=(A:Int):=by
 have e1:(W A)[((1:Int)).toNat]! =(dg 4294967296 A 1:Int):=fR (by decide)
 have e0:(W A)[((0:Int)).toNat]! =(dg 4294967296 A 0:Int):=fR (by decide)
 have h1:=@dgl A 1
 have h0:=@dgl A 0
 rw[e1,e0,gu,gu,Fx h1,FX h0 h1]
 have e:dg 4294967296 A 1*4294967296+dg 4294967296 A 0=A:=by
  unfold dg
  rw[tx,fj,mp]
  omega
 rw[e]
theorem Kp {a:Int}(ha:a.natAbs<LIM):jQ (enc a)=some (if -9223372036854775808≤a∧a<9223372036854775808 then (a,true) else (0,false)):=by
 obtain⟨l,hl,h1,h2⟩:=G_Bits ha
 have e64:(2:Nat) ^ 64=18446744073709551616:=by decide
 have hl64:64<l↔¬a.natAbs<18446744073709551616:=by
  constructor
  ·intro h h3
   have:=Hh (b:=2) (by decide) h2 (k:=64) (by rw[e64];exact h3)
   omega
  ·intro h
   rcases bZ 64 l with h3|h3
   ·exact h3
   ·have h4:=h2.1
    have h5:2 ^ l≤2 ^ 64:=gP (by decide) h3
    rw[e64] at h5
    exact absurd (bG h4 h5) h
 unfold jQ
 rw[wz,bI ha,ab,d7,bc,h1,ab,ab]
 by_cases h:a.natAbs<18446744073709551616
 ·rw[bw _ _ (by have:=mt hl64.1 (fun hh=>hh h);omega),ab,lm ha,MK h,m5 ha]
  by_cases hn:a<0
  ·simp only[hn,qG,gF,d7,bc,ab]
   by_cases h3:a.natAbs≤9223372036854775808
   ·rw[bu _ _,ifp_,show (0:Int) - (a.natAbs:Int)=a from by omega,IntKind.wrap_u64]
    rw[show i64.wrap (a % 18446744073709551616)=a from by rw[IntKind.wrap_i64];omega]
   ·rw[bw _ _,ifn_]
  ·rw[gM hn,bc,ab,bc,tz,gF,ab]
   have ea:(a.natAbs:Int)=a:=by omega
   rw[ea]
   by_cases h3:a<9223372036854775808
   ·rw[bu _ _ h3,ao ⟨by omega,h3⟩,b8 ⟨by omega,by omega⟩]
   ·rw[bw _ _ h3,aq (fun hh=>h3 hh.2)]
 ·rw[bu _ _ (by have:=hl64.2 h;omega),ifn_]
def vF(n:Nat)(f:Nat→Nat):Vector Int n:=Vector.ofFn fun i=>(f i.val:Int)
theorem sR {n j:Nat}{f:Nat→Nat}(h:j<n):(vF n f)[j]! =(f j:Int):=by
 rw[eI (vF n f) j h]
 unfold vF
 rw[IV]
theorem LY {n:Nat}{f g:Nat→Nat}(h:∀j,j<n→f j=g j):vF n f=vF n g:=by
 apply mK
 intro j hj
 rw[sR hj,sR hj,h j hj]
theorem vF_set {n p x:Nat}{f:Nat→Nat}:(vF n f).set! p (x:Int)=vF n (fun j=>if j=p then x else f j):=by
 apply mK
 intro j hj
 rw[n5 hj,sR hj,sR hj]
 split <;> rfl
theorem vF_dg {b n A:Nat}:vF n (dg b A)=vN b n A:=rfl
theorem D6 {X V n d:Nat}(hn:2≤n)(hV:2147483648*4294967296 ^ (n - 1)≤V)(hX:X<V*4294967296)
  (Ah:min (X / 4294967296 ^ (n - 2) / (V / 4294967296 ^ (n - 2))) 4294967295≤d) (G7:d*(V / 4294967296 ^ (n - 2))≤X / 4294967296 ^ (n - 2)):X / V≤d∧d≤X / V+1:=by
 have hp:0<4294967296 ^ (n - 2):=cH (by decide)
 have e1:(4294967296:Nat) ^ (n - 1)=4294967296 ^ (n - 2)*4294967296:=by rw[←eu];congr 1;omega
 rw[e1] at hV
 generalize 4294967296 ^ (n - 2)=P at*
 have D5:0<V:=bG (rf (by decide) (rf hp (by decide))) hV
 have LB:2147483648*4294967296≤V / P:=by
  rw[nV hp]
  calc 2147483648*4294967296*P=2147483648*(P*4294967296):=by rw[iw,ci 4294967296 P]
   _≤V:=hV
 have hv20:0<V / P:=by omega
 have hVP:=nB V P
 have hVm:=c6 V hp
 have hXP:=nB X P
 have hXm:=c6 X hp
 have hq1:X / V≤X / P / (V / P):=by
  rw[jH]
  refine Nat.div_le_div_left ?_ (rf hp hv20)
  omega
 have hq2:X / V<4294967296:=(nC D5).2 (by rw[ci];exact hX)
 refine⟨by omega,?_⟩
 -- d V is not much more than X
 have LJ:d*(V / P)*P≤X:=by
  have:=cc P G7
  rw[ci (X / P)] at this
  omega
 have hXP2:X / P<(V / P+1)*4294967296:=by
  rw[nC hp]
  have h1:V<(V / P+1)*P:=by rw[bN,dc,ci (V / P)];omega
  calc X<V*4294967296:=hX
   _≤(V / P+1)*P*4294967296:=cc _ (nA h1)
   _=(V / P+1)*4294967296*P:=by rw[iw,ci P,←iw]
 have hdb:d≤4294967296:=by
  rcases bZ 4294967296 d with h|h
  ·have:4294967297*(V / P)≤d*(V / P):=cc _ h
   omega
  ·exact h
 have h2:d*(V % P)≤4294967296*P:=lW hdb (nA hVm)
 have h3:d*V=d*(V / P)*P+d*(V % P):=by
  conv=>lhs;rw[←hVP]
  rw[wi,ci P,iw]
 have h4:d*V≤X+V:=by
  rw[h3]
  have h6:4294967296*P≤V:=by
   refine cG ?_ hV
   rw[ci P,←iw]
   exact cc _ (by decide)
  exact Nat.add_le_add LJ (cG h2 h6)
 rcases ln d with h0|h0
 ·rw[h0];exact de _
 ·have h5:(d - 1)*V≤X:=by rw[Nat.sub_mul,dc];omega
  have:=(nV D5).2 h5
  omega
theorem gA1 {y r u z:Nat}(h:r*4294967296+u<z):(y+r)*4294967296+u<y*4294967296+z:=by
 rw[bN,oL];exact tw h _
theorem gA2 {y r u z:Nat}(h:z≤r*4294967296+u):y*4294967296+z≤(y+r)*4294967296+u:=by
 rw[bN,oL];exact Nat.add_le_add_left h _
theorem gA3 {y r u z:Nat}(h:4294967296≤r)(hz:z≤4294967295*4294967295):y*4294967296+z≤(y+r)*4294967296+u:=by
 have h1:z≤r*4294967296:=cG hz (cG (lW (by decide) (by decide)) (cc _ h))
 rw[bN,oL]
 exact Nat.add_le_add_left (cG h1 (nU _ _)) _
theorem ny {n:Nat}(h:n≤34359738368:=by omega):n<18446744073709551616:=by omega
theorem lt64p {n:Nat}(h:n≤4294967295*4294967295):n<18446744073709551616:=by omega
theorem guessB {d r f x0 x1:Nat}(h:d*f+r=x0*4294967296+x1)(hf:2147483648≤f)(h0:x0<4294967296)(h1:x1<4294967296):d≤8589934592:=by
 have:=rY d hf
 omega
theorem guessT {x0 x1 f:Nat}(h0:x0<4294967296)(h1:x1<4294967296):(x0*4294967296+x1) / f<18446744073709551616:=
 eS (tv _ _) (by omega)
theorem G_guess {U V n j:Nat}(hn:2≤n)(B5:n≤16)(hj:j+n≤16)(hV:2147483648*4294967296 ^ (n - 1)≤V)(G9:V<4294967296 ^ n)(hU:U / 4294967296 ^ j<V*4294967296):
  ∃d:Nat,d<4294967296∧gR (W V) (n:Int) (j:Int) (vN 4294967296 17 U)=some (d:Int)∧U / 4294967296 ^ j / V≤d∧d≤U / 4294967296 ^ j / V+1:=by
 have hb:0<(4294967296:Nat):=by decide
 generalize hX:U / 4294967296 ^ j=X at hU
 -- the digits that it looks at
 have du:∀i,dg 4294967296 U (j+i)=dg 4294967296 X i:=fun i=>by
  unfold dg;rw[←hX,jH,←j9]
 have hXlt:X<4294967296 ^ (n+1):=by
  rw[eu];exact bG hU (cc _ (nA G9))
 have s1:=ck (b:=4294967296) (A:=X) (k:=n - 2)
 have s2:=ck (b:=4294967296) (A:=X) (k:=n - 1)
 have s3:=ck (b:=4294967296) (A:=X) (k:=n)
 rw[fI hXlt,e7,bE] at s3
 rw[show n - 2+1=n - 1 from by omega] at s1
 rw[show n - 1+1=n from by omega,s3] at s2
 have w1:=ck (b:=4294967296) (A:=V) (k:=n - 2)
 have w2:=ck (b:=4294967296) (A:=V) (k:=n - 1)
 rw[show n - 2+1=n - 1 from by omega] at w1
 rw[show n - 1+1=n from by omega,fI G9,e7,bE] at w2
 have wC:=@dgl X n
 have B3:=@dgl X (n - 1)
 have yP:=@dgl X (n - 2)
 have M4:=@dgl V (n - 1)
 have LB:=@dgl V (n - 2)
 have H4:2147483648≤dg 4294967296 V (n - 1):=by
  rw[←w2,nV (cH hb)];exact hV
 -- the two highest digits against the highest one
 have hp:0<4294967296 ^ (n - 2):=cH hb
 have htop:X / 4294967296 ^ (n - 1)≤V / 4294967296 ^ (n - 2):=by
  have e1:(4294967296:Nat) ^ (n - 1)=4294967296 ^ (n - 2)*4294967296:=by rw[←eu];congr 1;omega
  have h1:X / 4294967296 ^ (n - 1)*4294967296 ^ (n - 1)≤X:=IU _ _
  rw[nV hp]
  rw[e1] at h1
  have h2:X / 4294967296 ^ (n - 1)*4294967296 ^ (n - 2)*4294967296<V*4294967296:=by
   rw[iw]
   exact eS (by rw[e1];exact h1) hU
  exact nA (Nat.lt_of_mul_lt_mul_right h2)
 rw[s2,w1,w2] at htop
 obtain⟨x,hl,d,rfl,hdb,Ah,G7⟩:=ul (b:=iD (W V) (n:Int) (j:Int) (vN 4294967296 17 U) ((dg 4294967296 V (n - 1):Nat):Int)) (fun s=>∃d r:Nat,s=((d:Int),(r:Int))∧d*dg 4294967296 V (n - 1)+r=X / 4294967296 ^ (n - 1)∧min (X / 4294967296 ^ (n - 2) / (V / 4294967296 ^ (n - 2))) 4294967295≤d) (fun s=>4294967296 - s.2.toNat)
  (fun x=>∃d:Nat,x=(d:Int)∧d<4294967296∧min (X / 4294967296 ^ (n - 2) / (V / 4294967296 ^ (n - 2))) 4294967295≤d∧d*(V / 4294967296 ^ (n - 2))≤X / 4294967296 ^ (n - 2))
  (by
   rintro s ⟨d,r,rfl,hdr,Ah⟩
   have hmul:d*(V / 4294967296 ^ (n - 2))=d*dg 4294967296 V (n - 1)*4294967296+d*dg 4294967296 V (n - 2):=by
    rw[w1,w2,wi,iw]
   have hdB:d≤8589934592:=guessB (by rw[hdr,s2]) H4 wC B3
   have ei2:i64.wrap ((n:Int) - (2:Int))=((n - 2:Nat):Int):=by rw[b8];omega
   have eij2:i64.wrap ((i64.wrap ((j:Int)+(n:Int))) - (2:Int))=((j+(n - 2):Nat):Int):=by rw[b8 (z:=(j:Int)+(n:Int)) (by omega),b8];omega
   dsimp only[iD]
   by_cases hr:r<4294967296
   ·rw[bu _ _]
    by_cases hd:4294967296≤d
    ·left
     refine⟨(((d - 1:Nat):Int),((r+dg 4294967296 V (n - 1):Nat):Int)),?_,⟨d - 1,_,rfl,?_,by omega⟩,by show 4294967296 - (_:Nat)<4294967296 - (_:Nat);rw[aW,aW];omega⟩
     ·rw[bu _ _,ab,gF,show (d:Int) - 1=((d - 1:Nat):Int) from by omega,gu (ny),←jZ,gu (ny)]
     ·rw[Nat.sub_mul,dc]
      have:dg 4294967296 V (n - 1)≤d*dg 4294967296 V (n - 1):=Bb _ (by omega)
      omega
    ·have BH:d*dg 4294967296 V (n - 2)≤4294967295*4294967295:=lW (by omega) (by omega)
     rw[bw _ _,ei2,aF,eij2,aF,aW,aW,iy (by omega),fR (by omega),du,gu (n:=dg 4294967296 X (n - 2)) (ny),gu (n:=dg 4294967296 V (n - 2)) (ny),Fx hr,FX yP hr,←nW,gu (lt64p BH),ab]
     by_cases hc:r*4294967296+dg 4294967296 X (n - 2)<d*dg 4294967296 V (n - 2)
     ·left
      have DU:0<d:=by
       rcases ln d with h|h
       ·subst h;omega
       ·exact h
      refine⟨(((d - 1:Nat):Int),((r+dg 4294967296 V (n - 1):Nat):Int)),?_,⟨d - 1,_,rfl,?_,?_⟩,by show 4294967296 - (_:Nat)<4294967296 - (_:Nat);rw[aW,aW];omega⟩
      ·rw[bu _ _,show (d:Int) - 1=((d - 1:Nat):Int) from by omega,gu (ny),←jZ,gu (ny)]
      ·rw[Nat.sub_mul,dc]
       have:dg 4294967296 V (n - 1)≤d*dg 4294967296 V (n - 1):=Bb _ DU
       omega
      ·have hgt:X / 4294967296 ^ (n - 2)<d*(V / 4294967296 ^ (n - 2)):=by rw[hmul,s1,←hdr];exact gA1 hc
       have:=(nC (x:=X / 4294967296 ^ (n - 2)) (y:=d) (k:=V / 4294967296 ^ (n - 2)) (by rw[w1,w2];omega)).2 hgt
       omega
     ·right
      refine⟨_,by rw[bw _ _],d,rfl,by omega,Ah,?_⟩
      rw[hmul,s1,←hdr];exact gA2 (Nat.le_of_not_lt hc)
   ·right
    have hdlt:d<4294967296:=by
     rcases bZ d 4294967296 with h|h
     ·exact h
     ·have:4294967296*dg 4294967296 V (n - 1)≤d*dg 4294967296 V (n - 1):=cc _ h
      omega
    have BH:d*dg 4294967296 V (n - 2)≤4294967295*4294967295:=lW (by omega) (by omega)
    refine⟨_,by rw[bw _ _,ab,bc],d,rfl,hdlt,Ah,?_⟩
    rw[hmul,s1,←hdr];exact gA3 (Nat.le_of_not_lt hr) BH)
  (((X / 4294967296 ^ (n - 1) / dg 4294967296 V (n - 1):Nat):Int),((X / 4294967296 ^ (n - 1) % dg 4294967296 V (n - 1):Nat):Int))
  ⟨_,_,rfl,by rw[ci];exact nB _ _,by
   have h0:X / 4294967296 ^ (n - 2) / (V / 4294967296 ^ (n - 2))≤X / 4294967296 ^ (n - 1) / dg 4294967296 V (n - 1):=by
    rw[nV (by omega)]
    have h1:=IU (X / 4294967296 ^ (n - 2)) (V / 4294967296 ^ (n - 2))
    generalize X / 4294967296 ^ (n - 2) / (V / 4294967296 ^ (n - 2))=q at h1 ⊢
    rw[w1,w2,s1,wi,←iw] at h1
    generalize q*dg 4294967296 V (n - 1)=y at h1 ⊢
    omega
   omega⟩
 obtain⟨h1,h2⟩:=D6 hn hV hU Ah G7
 refine⟨d,hdb,?_,h1,h2⟩
 have ejn:i64.wrap ((j:Int)+(n:Int))=((j+n:Nat):Int):=by rw[b8];omega
 have ejn1:i64.wrap (((j+n:Nat):Int) - (1:Int))=((j+(n - 1):Nat):Int):=by rw[b8];omega
 have en1:i64.wrap ((n:Int) - (1:Int))=((n - 1:Nat):Int):=by rw[b8];omega
 unfold gR
 rw[ejn,aF,ejn1,aF,en1,aW,aW,aW,iy (by omega),iy (by omega),fR (by omega),du,du,gu (n:=dg 4294967296 X n) (ny),gu (n:=dg 4294967296 X (n - 1)) (ny),gu (n:=dg 4294967296 V (n - 1)) (ny),Fx wC,FX B3 wC,ab,aF,ab,aF,aF,←qE,←qD]
 rw[gu (guessT wC B3),←s2,hl,ab]
def vU(j i U D p:Nat):Nat:=if p<j then dg 4294967296 U p else if p<j+i then dg 4294967296 D (p - j) else dg 4294967296 U p
theorem mix0 {j U D:Nat}:vU j 0 U D=dg 4294967296 U:=by
 funext p
 unfold vU
 split
 ·rfl
 ·rw[ifn_]
theorem DI {j i U D:Nat}:vU j i U D (j+i)=dg 4294967296 U (j+i):=by
 unfold vU
 rw[ifn_,ifn_]
theorem zj {n j i U D:Nat}:(vF n (vU j i U D)).set! (j+i) (dg 4294967296 D i:Int)=vF n (vU j (i+1) U D):=by
 rw[vF_set]
 apply LY
 intro p hp
 by_cases h:p=j+i
 ·subst h
  rw[ao rfl]
  unfold vU
  rw[ifn_,ifp_]
  congr 1;omega
 ·rw[aq h]
  unfold vU
  by_cases h1:p<j
  ·rw[ao h1,ao h1]
  ·rw[aq h1,aq h1]
   by_cases h2:p<j+i
   ·rw[ao h2,ifp_]
   ·rw[aq h2,ifn_]
theorem Jx {n j i U D:Nat}(hU:U<4294967296 ^ (i+j))(hD:D<4294967296 ^ i):vF n (vU j i U D)=vN 4294967296 n (D*4294967296 ^ j+U % 4294967296 ^ j):=by
 have hb:0<(4294967296:Nat):=by decide
 rw[←vF_dg]
 apply LY
 intro p _
 unfold vU
 by_cases h1:p<j
 ·rw[ao h1,←mj (A:=D*_+_) h1,IT,xV,mj h1]
 ·rw[aq h1]
  have e:dg 4294967296 (D*4294967296 ^ j+U % 4294967296 ^ j) p=dg 4294967296 D (p - j):=by
   obtain⟨q,rfl⟩:∃q,p=j+q:=⟨p - j,by omega⟩
   unfold dg
   rw[j9,←jH,ci D,AM (cH hb),fI (c6 _ (cH hb)),i6,EH]
  rw[e]
  by_cases h2:p<j+i
  ·rw[ao h2]
  ·rw[aq h2,j8 (bG hU (gP hb (by omega))),j8 (bG hD (gP hb (by omega)))]
theorem GI {D P i:Nat}:∃x:Nat,u64.wrap (u64.wrap ((dg 4294967296 (D+P) i:Int) - (dg 4294967296 P i:Int)) - (((D % 4294967296 ^ i+P % 4294967296 ^ i) / 4294967296 ^ i:Nat):Int))=(x:Int)∧x / 9223372036854775808=(D % 4294967296 ^ (i+1)+P % 4294967296 ^ (i+1)) / 4294967296 ^ (i+1)∧x % 4294967296=dg 4294967296 D i:=by
 have hc:=m6 (b:=4294967296) (A:=D) (B:=P) (k:=i) (by decide)
 obtain⟨h1,h2⟩:=nY (b:=4294967296) (A:=D) (B:=P) (k:=i) (by decide)
 have ha:=@dgl D i
 have hb:=@dgl P i
 have hd:=@dgl (D+P) i
 generalize (D % 4294967296 ^ i+P % 4294967296 ^ i) / 4294967296 ^ i=c at h1 h2 hc ⊢
 generalize (D % 4294967296 ^ (i+1)+P % 4294967296 ^ (i+1)) / 4294967296 ^ (i+1)=c' at h2 ⊢
 rw[IntKind.wrap_u64,IntKind.wrap_u64]
 exact⟨((((dg 4294967296 (D+P) i:Int) - (dg 4294967296 P i:Int)) % 18446744073709551616 - (c:Int)) % 18446744073709551616).toNat,by omega,by omega,by omega⟩
theorem lt64m {c p d:Nat}(hc:c≤d)(hp:p<4294967296)(hd:d<4294967296):c+p*d<18446744073709551616:=by
 have h1:p*d≤4294967295*4294967295:=lW (by omega) (by omega)
 omega
theorem O6 {U V D n j d:Nat}(B5:n≤16)(hj:j+n≤16)(G9:V<4294967296 ^ n)(hU:U<4294967296 ^ (n+1+j))(hd:d<4294967296)(hD:D<4294967296 ^ (n+1))
  (hDZ:D+V*d=U / 4294967296 ^ j+(if U / 4294967296 ^ j<V*d then 4294967296 ^ (n+1) else 0)):
  iM (W V) (n:Int) (j:Int) (d:Int) (vN 4294967296 17 U)=some (decide (U / 4294967296 ^ j<V*d),vN 4294967296 17 (D*4294967296 ^ j+U % 4294967296 ^ j)):=by
 have hb:0<(4294967296:Nat):=by decide
 generalize hZ:U / 4294967296 ^ j=Z at hDZ ⊢
 have Lb:Z<4294967296 ^ (n+1):=by
  rw[←hZ];exact GP (by rw[←j9,oh];exact hU)
 have dz:∀i,i<n+1→dg 4294967296 (D+V*d) i=dg 4294967296 U (j+i):=fun i hi=>by
  have e1:dg 4294967296 U (j+i)=dg 4294967296 Z i:=by
   unfold dg;rw[←hZ,jH,←j9]
  rw[e1,←mj (A:=D+V*d) hi,←mj (A:=Z) hi,hDZ]
  split
  ·rw[Nat.add_mod_right]
  ·rw[i6]
 have hcle:∀i,V % 4294967296 ^ i*d / 4294967296 ^ i≤d:=fun i=>
  cG (IS (cc d (nA (c6 V (cH hb))))) (by rw[IR _ (cH hb)];exact aI _)
 have hl:=pC (b:=g7 (W V) (n:Int) (j:Int) (d:Int)) (s0:=((0:Int),(0:Int),(0:Int),vN 4294967296 17 U)) (fun i=>((V % 4294967296 ^ i*d / 4294967296 ^ i:Nat),((D % 4294967296 ^ i+V*d % 4294967296 ^ i) / 4294967296 ^ i:Nat),(i:Int),vF 17 (vU j i U D))) n ((V % 4294967296 ^ n*d / 4294967296 ^ n:Nat),((D % 4294967296 ^ n+V*d % 4294967296 ^ n) / 4294967296 ^ n:Nat),vF 17 (vU j n U D))
  (by simp only[fj,lJ,e7,Nat.zero_div,mix0];rfl)
  (fun i hi=>by
   obtain⟨h1,h2⟩:=CF (b:=4294967296) (A:=V) (k:=i) (m:=d) hb
   obtain⟨x,B3,yP,MY⟩:=GI (D:=D) (P:=V*d) (i:=i)
   have bz:=lt64m (hcle i) (@dgl V i) hd
   have hp:=@dgl (V*d) i
   have hz:=@dgl U (j+i)
   have hv:=@dgl V i
   have eij:i64.wrap ((j:Int)+(i:Int))=((j+i:Nat):Int):=by rw[b8];omega
   rw[dz i (by omega)] at B3
   have hvd:dg 4294967296 V i*d<18446744073709551616:=eS (Nat.le_add_left _ _) bz
   dsimp only[g7]
   rw[bu _ _,aF,ab,eij,aF,ab,aF,ab,aW,aW,fR (by omega),sR (by omega),DI,gu (n:=dg 4294967296 V i) (ny),←nW,ci d,gu hvd,←jZ,gu bz,wW,h1,uh,h2,gu (n:=dg 4294967296 (V*d) i) (ny),gu (n:=dg 4294967296 U (j+i)) (ny),B3,Me,yP,wW,MY,zj,b8]
   rfl)
  (by
   dsimp only[g7]
   rw[bw _ _])
 obtain⟨x,B3,yP,MY⟩:=GI (D:=D) (P:=V*d) (i:=n)
 have hP:V*d<4294967296 ^ (n+1):=by
  rw[eu];exact xU G9 hd
 have E1:V % 4294967296 ^ n*d / 4294967296 ^ n=dg 4294967296 (V*d) n:=by
  rw[dM G9]
  unfold dg
  rw[dM]
  exact GP (by rw[←eu];exact hP)
 have hbor:(D % 4294967296 ^ (n+1)+V*d % 4294967296 ^ (n+1)) / 4294967296 ^ (n+1)=if Z<V*d then 1 else 0:=by
  rw[dM hD,dM hP,hDZ]
  split
  ·rw[Nat.add_div_right _ (cH hb),fI Lb]
  ·rw[i6,fI Lb]
 have ejn:i64.wrap ((j:Int)+(n:Int))=((j+n:Nat):Int):=by rw[b8];omega
 have hz:=@dgl U (j+n)
 rw[dz n (by omega)] at B3
 unfold iM
 rw[hl,ab]
 dsimp only
 rw[ejn,aF,ab,aF,ab,aW,sR (by omega),DI,gu (n:=dg 4294967296 U (j+n)) (ny),E1,B3,Me,yP,wW,MY,zj,Jx hU hD,hbor]
 congr 2
 by_cases h:Z<V*d
 ·simp[h]
 ·simp[h]
theorem G_give {U V D n j:Nat}(B5:n≤16)(hj:j+n≤16)(G9:V<4294967296 ^ n)(hU:U<4294967296 ^ (n+1+j))(hD:D=(U / 4294967296 ^ j+V) % 4294967296 ^ (n+1)):
  iQ (W V) (n:Int) (j:Int) (vN 4294967296 17 U)=some (vN 4294967296 17 (D*4294967296 ^ j+U % 4294967296 ^ j)):=by
 have hb:0<(4294967296:Nat):=by decide
 have hDlt:D<4294967296 ^ (n+1):=by rw[hD];exact c6 _ (cH hb)
 generalize hZ:U / 4294967296 ^ j=Z at hD
 have dz:∀i,dg 4294967296 U (j+i)=dg 4294967296 Z i:=fun i=>by
  unfold dg;rw[←hZ,jH,←j9]
 have dD:∀i,i<n+1→dg 4294967296 (Z+V) i=dg 4294967296 D i:=fun i hi=>by rw[hD,mj hi]
 have hl:=pC (b:=g9 (W V) (n:Int) (j:Int)) (s0:=((0:Int),(0:Int),vN 4294967296 17 U)) (fun i=>(((Z % 4294967296 ^ i+V % 4294967296 ^ i) / 4294967296 ^ i:Nat),(i:Int),vF 17 (vU j i U D))) n (((Z % 4294967296 ^ n+V % 4294967296 ^ n) / 4294967296 ^ n:Nat),vF 17 (vU j n U D))
  (by simp only[fj,lJ,mix0];rfl)
  (fun i hi=>by
   have hc:=m6 (b:=4294967296) (A:=Z) (B:=V) (k:=i) hb
   obtain⟨h1,h2⟩:=nY (b:=4294967296) (A:=Z) (B:=V) (k:=i) hb
   have hz:=@dgl Z i
   have hv:=@dgl V i
   have eij:i64.wrap ((j:Int)+(i:Int))=((j+i:Nat):Int):=by rw[b8];omega
   generalize (Z % 4294967296 ^ i+V % 4294967296 ^ i) / 4294967296 ^ i=c at h1 h2 hc ⊢
   generalize (Z % 4294967296 ^ (i+1)+V % 4294967296 ^ (i+1)) / 4294967296 ^ (i+1)=c' at h2 ⊢
   dsimp only[g9]
   rw[bu _ _,eij,aF,aF,ab,aF,ab,aW,aW,fR (by omega),sR (by omega),DI,dz,gu (n:=dg 4294967296 V i) (ny),gu (n:=dg 4294967296 Z i) (ny),←jZ,gu (ny),←jZ,gu (ny),←oL,uh,wW,h1,h2,dD i (by omega),zj,b8]
   rfl)
  (by
   dsimp only[g9]
   rw[bw _ _])
 have hc:=m6 (b:=4294967296) (A:=Z) (B:=V) (k:=n) hb
 obtain⟨h1,h2⟩:=nY (b:=4294967296) (A:=Z) (B:=V) (k:=n) hb
 rw[j8 G9,i6,dD n (by omega)] at h1
 have hz:=@dgl Z n
 have ejn:i64.wrap ((j:Int)+(n:Int))=((j+n:Nat):Int):=by rw[b8];omega
 unfold iQ
 rw[hl,ab]
 dsimp only
 generalize (Z % 4294967296 ^ n+V % 4294967296 ^ n) / 4294967296 ^ n=c at h1 hc ⊢
 rw[ejn,aF,aF,ab,aW,sR (by omega),DI,dz,wV (n:=c) (by omega),←jZ,oh (dg 4294967296 Z n),wW,h1,zj,Jx hU hDlt]
theorem KJ {U V n j:Nat}(hn:2≤n)(hj:j+n≤16)(hV:2147483648*4294967296 ^ (n - 1)≤V)(G9:V<4294967296 ^ n)(hU:U / 4294967296 ^ j<V*4294967296):
  (bnd (gR (W V) (n:Int) (j:Int) (vN 4294967296 17 U)) fun x28=>bnd (S:=Int×(Vector Int 17)) (bnd (iM (W V) (n:Int) (j:Int) x28 (vN 4294967296 17 U)) fun I7=>cnd I7.1 (bnd (iQ (W V) (n:Int) (j:Int) I7.2) fun wJ=>some ((u64.wrap (x28 - (1:Int)),wJ))) (some ((x28,I7.2)))) fun y=>some y)=some (((U / 4294967296 ^ j / V:Nat):Int),vN 4294967296 17 (U / 4294967296 ^ j % V*4294967296 ^ j+U % 4294967296 ^ j))∧U / 4294967296 ^ j / V<4294967296:=by
 have hb:0<(4294967296:Nat):=by decide
 obtain⟨d,hdb,hg,LJ,Gb⟩:=G_guess hn (by omega) hj hV G9 hU
 have D5:0<V:=bG (rf (by decide) (cH hb)) hV
 have hp:0<4294967296 ^ j:=cH hb
 have Lb:U / 4294967296 ^ j<4294967296 ^ (n+1):=by
  rw[eu];exact bG hU (cc _ (nA G9))
 have hUlt:U<4294967296 ^ (n+1+j):=by
  rw[j9];exact (nC hp).1 Lb
 have hVd:V*d<4294967296 ^ (n+1):=by
  rw[eu];exact xU G9 hdb
 have hq:U / 4294967296 ^ j / V<4294967296:=by omega
 refine⟨?_,hq⟩
 have hm:=nB (U / 4294967296 ^ j) V
 have hml:=c6 (U / 4294967296 ^ j) D5
 rw[hg,ab]
 by_cases bz:U / 4294967296 ^ j<V*d
 ·-- one too many
  have hdq:d=U / 4294967296 ^ j / V+1:=by
   rcases bZ (U / 4294967296 ^ j / V) d with h|h
   ·omega
   ·have h1:V*d≤V*(U / 4294967296 ^ j / V):=rY _ h
    omega
  have ht:=O6 (U:=U) (V:=V) (D:=U / 4294967296 ^ j+4294967296 ^ (n+1) - V*d) (n:=n) (j:=j) (d:=d) (by omega) hj G9 hUlt hdb (by omega) (by rw[ao bz];omega)
  rw[ht,dy bz,ab,gF]
  dsimp only
  generalize hD:U / 4294967296 ^ j+4294967296 ^ (n+1) - V*d=D
  have hDlt:D<4294967296 ^ (n+1):=by omega
  have e1:(D*4294967296 ^ j+U % 4294967296 ^ j) / 4294967296 ^ j=D:=by
   rw[ci,AM hp,fI (c6 _ hp),i6]
  have e2:(D*4294967296 ^ j+U % 4294967296 ^ j) % 4294967296 ^ j=U % 4294967296 ^ j:=by
   rw[IT,xV]
  have e3:(D+V) % 4294967296 ^ (n+1)=U / 4294967296 ^ j % V:=by
   have:D+V=U / 4294967296 ^ j % V+4294967296 ^ (n+1):=by
    rw[hdq,wi,rX] at hD bz
    omega
   rw[this,Nat.add_mod_right,dM]
   exact eS (Nat.mod_le _ _) Lb
  have hgv:=G_give (U:=D*4294967296 ^ j+U % 4294967296 ^ j) (V:=V) (D:=U / 4294967296 ^ j % V) (n:=n) (j:=j) (by omega) hj G9 (by
   rw[j9]
   have h1:(D+1)*4294967296 ^ j≤4294967296 ^ (n+1)*4294967296 ^ j:=cc _ hDlt
   rw[bN,dc] at h1
   have:=c6 U hp
   omega) (by rw[e1,e3])
  rw[hgv,ab,ab,e2,show ((d:Nat):Int) - 1=((U / 4294967296 ^ j / V:Nat):Int) from by omega,gu (ny)]
 ·have hdq:d=U / 4294967296 ^ j / V:=by
   have h1:d≤U / 4294967296 ^ j / V:=(nV D5).2 (by rw[ci];omega)
   omega
  have ht:=O6 (U:=U) (V:=V) (D:=U / 4294967296 ^ j % V) (n:=n) (j:=j) (d:=d) (by omega) hj G9 hUlt hdb (eS (Nat.mod_le _ _) Lb) (by rw[aq bz,hdq];omega)
  rw[ht,gM bz,ab,bc,ab,hdq]
theorem Mp {U V n k:Nat}(hn:2≤n)(hk:k+n≤17)(hV:2147483648*4294967296 ^ (n - 1)≤V)(G9:V<4294967296 ^ n)(hU:U / 4294967296 ^ k<V)(y:Int):
  a7 (ep (n:Int) (W V,y)) ((k:Int) - 1,W 0,vN 4294967296 17 U)=some (W (U / V),vN 4294967296 17 (U % V)):=by
 have hb:0<(4294967296:Nat):=by decide
 have D5:0<V:=bG (rf (by decide) (cH hb)) hV
 have hl:=ML (b:=ep (n:Int) (W V,y)) (s0:=((k:Int) - 1,W 0,vN 4294967296 17 U)) (fun i=>((i:Int) - 1,vN 4294967296 16 (U / V / 4294967296 ^ i*4294967296 ^ i),vN 4294967296 17 (U / 4294967296 ^ i % V*4294967296 ^ i+U % 4294967296 ^ i))) k (vN 4294967296 16 (U / V / 4294967296 ^ 0*4294967296 ^ 0),vN 4294967296 17 (U / 4294967296 ^ 0 % V*4294967296 ^ 0+U % 4294967296 ^ 0))
  (by
   have e1:U / V / 4294967296 ^ k=0:=by
    rw[jH,ci,←jH,fI hU]
   have e2:U / 4294967296 ^ k % V*4294967296 ^ k+U % 4294967296 ^ k=U:=by
    rw[dM hU,ci];exact nB _ _
   rw[e1,e2,e7])
  (fun i hi=>by
   have hp:0<4294967296 ^ i:=cH hb
   obtain⟨h1,h2⟩:=uI (b:=4294967296) (A:=U) (k:=i) (d:=V) hb D5
   have eR1:(U / 4294967296 ^ (i+1) % V*4294967296 ^ (i+1)+U % 4294967296 ^ (i+1)) / 4294967296 ^ i=U / 4294967296 ^ (i+1) % V*4294967296+dg 4294967296 U i:=by
    rw[fW,eu,←iw,Ba,oh (U % _),←oL,ci (4294967296 ^ i) (dg _ _ _),←bN,ci (_+_) (4294967296 ^ i),AM hp,fI (c6 _ hp),i6]
   have eR2:(U / 4294967296 ^ (i+1) % V*4294967296 ^ (i+1)+U % 4294967296 ^ (i+1)) % 4294967296 ^ i=U % 4294967296 ^ i:=by
    rw[fW,eu,←iw,Ba,oh (U % _),←oL,ci (4294967296 ^ i) (dg _ _ _),←bN,IT,xV]
   have bz:(U / 4294967296 ^ (i+1) % V*4294967296 ^ (i+1)+U % 4294967296 ^ (i+1)) / 4294967296 ^ i<V*4294967296:=by
    rw[eR1]
    have h3:=c6 (U / 4294967296 ^ (i+1)) D5
    have h4:(U / 4294967296 ^ (i+1) % V+1)*4294967296≤V*4294967296:=cc _ h3
    rw[bN,dc] at h4
    exact bG (tw dgl _) h4
   obtain⟨hq,hqb⟩:=KJ (j:=i) hn (by omega) hV G9 bz
   rw[eR1,h1,h2,eR2] at hq
   rw[eR1,h1] at hqb
   have ei:((i+1:Nat):Int) - 1=(i:Int):=by omega
   dsimp only[ep]
   rw[ei,bu _ _]
   -- the digit
   revert hq
   generalize vN 4294967296 17 (U / 4294967296 ^ (i+1) % V*4294967296 ^ (i+1)+U % 4294967296 ^ (i+1))=uv
   intro hq
   obtain⟨d,e1,hq⟩:=ah hq
   rw[uY] at hq
   rw[e1,ab,hq,ab]
   dsimp only
   rw[aF,aW,wV hqb,Jc hb (by omega),b8])
  (by
   dsimp only[ep]
   rw[bw _ _])
 rw[hl]
 simp only[fj,mp,rX,lJ,i6]
theorem build17 {A s:Nat}(hA:A<LIM)(hs:s<32):(vOf 17 (lCp (Vector.replicate 17 (0:Int)).toList 0 (List.take 17 (List.take 16 (List.drop 0 (W (A*2 ^ s)).toList))))).set! ((16:Int)).toNat ((A % 4294967296 ^ 16*2 ^ s / 4294967296 ^ 16:Nat):Int)=vN 4294967296 17 (A*2 ^ s):=by
 have hb:0<(4294967296:Nat):=by decide
 have LE:2 ^ s≤2 ^ 31:=gP (by decide) (by omega)
 have hs3:0<2 ^ s:=cH (by decide)
 have hc:A % 4294967296 ^ 16*2 ^ s / 4294967296 ^ 16<2 ^ s:=xf hb hs3
 have h16:(W (A*2 ^ s)).toList.length=16:=pO
 have hl:lCp (Vector.replicate 17 (0:Int)).toList 0 (List.take 17 (List.take 16 (List.drop 0 (W (A*2 ^ s)).toList)))=(W (A*2 ^ s)).toList++[0]:=by
  rw[pQ,jc (i:=17) (by simp),jc (by simp)]
  unfold lCp
  rw[h16,EG,oN]
  rfl
 have hll:((W (A*2 ^ s)).toList++[(0:Int)]).length=17:=by rw[eH,h16];rfl
 rw[hl]
 apply mK
 intro j hj
 rw[n5 hj,iy hj]
 by_cases h:j=16
 ·subst h
  rw[ao (by rfl)]
  have JL:A<4294967296 ^ 16:=hA
  rw[dM JL] at hc ⊢
  unfold dg
  rw[dM (by omega)]
 ·rw[aq (by simpa using h),←vB (vOf 17 _) hj,uF hll,eI _ j (by rw[hll];omega),List.getElem_append_left (by rw[h16];omega)]
  have e2:=iy (b:=4294967296) (A:=A*2 ^ s) (j:=j) (n:=16) (by omega)
  rw[←vB _ (by omega),eI _ j (by rw[h16];omega)] at e2
  exact e2
theorem BA {A B:Nat}(hA:A<LIM)(hB:B<LIM)(Gk:0<B):fc (W A) (W B)=some (W (A / B),W (A % B)):=by
 have hb:0<(4294967296:Nat):=by decide
 obtain⟨n,hn,LH,F8,pH⟩:=ya hB
 obtain⟨m,hm,K2,hm2,hm3⟩:=ya hA
 have hn0:0<n:=by
  rcases ln n with h|h
  ·subst h;simp at F8;omega
  ·exact h
 unfold fc
 rw[LH,ab,K2,ab,Kl hA hB,ab]
 by_cases bz:A<B
 ·rw[bu _ _ (by unfold FF;rw[ao bz];omega),ab,z16,fI bz,dM bz]
 ·rw[bw _ _ (by unfold FF;rw[aq bz];split <;> omega)]
  by_cases h1:n=1
  ·subst h1
   have hBb:B<4294967296:=by simpa using F8
   have e0:(W B)[((0:Int)).toNat]! =(B:Int):=by
    have:(W B)[((0:Int)).toNat]! =(dg 4294967296 B 0:Int):=fR (by decide)
    rw[this]
    unfold dg
    rw[fj,mp,dM hBb]
   have hr:A % B<4294967296:=xS (c6 _ Gk) hBb
   rw[bu _ _,e0,G_short hA Gk hBb,ab,ab]
   have:=OQ (u:=A % B) (by omega)
   rw[dM hr,fI hr] at this
   dsimp only
   rw[←this]
   rfl
  ·have h2:2≤n:=by omega
   have hk:n - 1<16:=by omega
   have hBd:B / 4294967296 ^ (n - 1)=dg 4294967296 B (n - 1):=by
    have:=ck (b:=4294967296) (A:=B) (k:=n - 1)
    rw[show n - 1+1=n from by omega,fI F8,e7,bE] at this
    exact this
   obtain⟨l,yU,vo,K3,hl4⟩:=G_Lead (x:=dg 4294967296 B (n - 1)) dgl
   have hp:0<4294967296 ^ (n - 1):=cH hb
   have LJ:1≤dg 4294967296 B (n - 1):=by rw[←hBd];exact (nV hp).2 (by rw[dc];exact pH hn0)
   have hl0:0<l:=by
    rcases ln l with h|h
    ·subst h;simp at K3;omega
    ·exact h
   have hl5:=hl4 hl0
   have hs:32 - l<32:=by omega
   have epow:2 ^ l*2 ^ (32 - l)=4294967296:=by rw[←j9,show l+(32 - l)=32 from by omega]
   have epow2:2 ^ (l - 1)*2 ^ (32 - l)=2147483648:=by rw[←j9,show l - 1+(32 - l)=31 from by omega]
   have hS:0<2 ^ (32 - l):=cH (by decide)
   have epn:(4294967296:Nat) ^ n=4294967296 ^ (n - 1)*4294967296:=by rw[←eu];congr 1;omega
   have hVlo:2147483648*4294967296 ^ (n - 1)≤B*2 ^ (32 - l):=by
    have h3:2 ^ (l - 1)*4294967296 ^ (n - 1)≤B:=(nV hp).1 (by rw[hBd];exact hl5)
    calc 2147483648*4294967296 ^ (n - 1)=2 ^ (l - 1)*4294967296 ^ (n - 1)*2 ^ (32 - l):=by rw[←epow2,Ba]
     _≤B*2 ^ (32 - l):=cc _ h3
   have hVhi:B*2 ^ (32 - l)<4294967296 ^ n:=by
    have h3:B<2 ^ l*4294967296 ^ (n - 1):=(nC hp).1 (by rw[hBd];exact K3)
    calc B*2 ^ (32 - l)<2 ^ l*4294967296 ^ (n - 1)*2 ^ (32 - l):=IQ h3 hS
     _=4294967296 ^ n:=by rw[Ba,epow,ci,←epn]
   have D5:0<B*2 ^ (32 - l):=rf Gk hS
   have hmn:n≤m:=by
    rcases bZ m n with h|h
    ·have h3:4294967296 ^ m≤4294967296 ^ (n - 1):=gP hb (by omega)
     have h4:=pH hn0
     omega
    ·exact h
   have hUk:A*2 ^ (32 - l) / 4294967296 ^ (m - n+1)<B*2 ^ (32 - l):=by
    rw[nC (cH hb)]
    have h3:A<B*4294967296 ^ (m - n+1):=by
     have h4:4294967296 ^ (n - 1)*4294967296 ^ (m - n+1)≤B*4294967296 ^ (m - n+1):=cc _ (pH hn0)
     rw[←j9,show n - 1+(m - n+1)=m from by omega] at h4
     omega
    calc A*2 ^ (32 - l)<B*4294967296 ^ (m - n+1)*2 ^ (32 - l):=IQ h3 hS
     _=B*2 ^ (32 - l)*4294967296 ^ (m - n+1):=Ba _ _ _
   have eidx:i64.wrap ((m:Int) - (n:Int))=((m - n+1:Nat):Int) - 1:=by rw[b8];omega
   rw[bw _ _,show i64.wrap ((n:Int) - 1)=((n - 1:Nat):Int) from by rw[b8];omega,aF,aW,fR hk,yU,ab,G_up hs,ab,G_up hs,ab,ab]
   dsimp only
   rw[build17 hA hs,eidx,r16,Mp h2 (by omega) hVlo hVhi hUk,ab]
   dsimp only
   have hmod:A*2 ^ (32 - l) % (B*2 ^ (32 - l))<4294967296 ^ 16:=bG (c6 _ D5) (cG (nA hVhi) (gP hb hn))
   rw[vsub 16 0 (by omega),fj,mp,G_down hmod hs,ab,Nat.mul_mod_mul_right,IP _ hS,Nat.mul_div_mul_right _ _ hS]
theorem v8(x y:Nat):Nat.gcd x y=Nat.gcd y (x % y):=by
 rw[Nat.gcd_comm x y,Nat.gcd_rec,Nat.gcd_comm]
theorem O4(x y:Nat):a7 gU ((x:Int),(y:Int))=some ((Nat.gcd x y:Nat):Int):=by
 induction y using Nat.strongRecOn generalizing x with
 |_ y ih=>
  by_cases hy:y=0
  ·subst hy
   rw[EF]
   exact fa (by dsimp only[gU];rw[bw _ _ (by simp)])
  ·have h1:gU ((x:Int),(y:Int))=some (.inl ((y:Int),((x % y:Nat):Int))):=by
    dsimp only[gU]
    rw[bu _ _,aF,←qD]
   rw[jN h1,ih (x % y) (c6 _ (by omega)) y,←v8]
theorem sT {A:Nat}(hA:A<LIM):∃n:Nat,d9 (W A)=some (n:Int)∧(n≤2↔A<18446744073709551616):=by
 obtain⟨n,hn,h1,h2⟩:=ya hA
 have e:(4294967296:Nat) ^ 2=18446744073709551616:=by decide
 refine⟨n,h1,fun h=>?_,fun h=>Hh (by decide) h2 (by rw[e];exact h)⟩
 have h3:4294967296 ^ n≤4294967296 ^ 2:=gP (by decide) h
 rw[e] at h3
 exact bG h2.1 h3
theorem G_Abs {a:Int}(ha:a.natAbs<LIM):n8 (enc a)=some (enc (a.natAbs:Int)):=by
 unfold n8
 rw[wz,bI ha,ab,d7,bc,lm ha,ix ha,ab]
 rfl
theorem t4 {a c:Int}(ha:a.natAbs<LIM)(hc:c.natAbs<LIM)(h1:a.natAbs<18446744073709551616)(h2:c.natAbs<18446744073709551616)(p:ar→ar→Option ar):
  co p (enc a) (enc c)=some (enc (Nat.gcd a.natAbs c.natAbs:Nat)):=by
 obtain⟨n,LH,F8⟩:=sT ha
 obtain⟨m,K2,hm2⟩:=sT hc
 have hg:Nat.gcd a.natAbs c.natAbs<18446744073709551616:=by
  rcases ln a.natAbs with h|h
  ·rw[h,IN];exact h2
  ·exact eS (xR _ h) h1
 have hgL:Nat.gcd a.natAbs c.natAbs<LIM:=bG hg (by decide)
 unfold co
 rw[sm,bI ha,bI hc,ab]
 simp only[iC,d7,bc,lm ha,lm hc]
 rw[LH,ab,bu _ _ (by have:=F8.2 h1;omega),K2,ab,ab,bu _ _ (by have:=hm2.2 h2;omega),MK h1,MK h2,ab,ab,O4,ab,wW,uh,wV,OQ hg,ix hgL,ab]
 rfl
theorem G0 {a:Int}(ha:a.natAbs<LIM)(p:ar→ar→Option ar):co p (enc a) (enc 0)=some (enc (Nat.gcd a.natAbs 0:Nat)):=by
 by_cases h1:a.natAbs<18446744073709551616
 ·exact t4 ha (by decide) h1 (by decide) p
 ·obtain⟨n,LH,F8⟩:=sT ha
  have hc:(0:Int).natAbs<LIM:=by decide
  unfold co
  rw[sm,bI ha,bI hc,ab]
  simp only[iC,d7,bc,lm ha,lm hc]
  rw[LH,ab,bw _ _ (by have:=mt F8.1 h1;omega),ab,bc,bw _ _ (by rw[z16];exact fun h=>h rfl),G_Abs ha,ab,EF]
theorem G1 {a c:Int}(ha:a.natAbs<LIM)(hc:c.natAbs<LIM)(h0:c.natAbs≠0)(h1:¬(a.natAbs<18446744073709551616∧c.natAbs<18446744073709551616))(p:ar→ar→Option ar):
  co p (enc a) (enc c)=p (enc (c.natAbs:Int)) (enc ((a.natAbs % c.natAbs:Nat):Int)):=by
 obtain⟨n,LH,F8⟩:=sT ha
 obtain⟨m,K2,hm2⟩:=sT hc
 have hr:a.natAbs % c.natAbs<LIM:=eS (Nat.mod_le _ _) ha
 unfold co
 rw[sm,bI ha,bI hc,ab]
 simp only[iC,d7,bc,lm ha,lm hc]
 rw[LH,ab,K2,ab]
 have yr:(cnd (decide ((n:Int)≤(2:Int))) (some (decide ((m:Int)≤(2:Int)))) (some (false)))=some false:=by
  rw[iG]
  split
  ·rename_i h
   congr 1
   have h2:=F8.1 (by omega)
   exact gM fun h3=>h1 ⟨h2,hm2.1 (by omega)⟩
  ·rfl
 rw[yr,ab,bc,z16,bu _ _ (by rw[Bm hc t3];exact h0),BA ha hc (by omega),ab,ix hc,ab]
 dsimp only
 rw[ix hr,ab,uY]
 rfl
theorem K7 {x y:Nat}(hy:0<y)(hxy:y≤x):2*(y*(x % y))<x*y:=by
 have h1:=nB x y
 have h2:=c6 x hy
 have h3:0<x / y:=Bc hxy hy
 have h4:y≤y*(x / y):=vc _ h3
 have h5:2*(x % y)<x:=by omega
 have h6:2*(x % y)*y<x*y:=IQ h5 hy
 calc 2*(y*(x % y))=2*(x % y)*y:=by rw[ci y,iw]
  _<x*y:=h6
theorem Kj(n:Nat):∀{a c:Int},a.natAbs<LIM→c.natAbs<LIM→c.natAbs≤a.natAbs→a.natAbs*c.natAbs<18446744073709551616*2 ^ n→gp (n+2) (enc a) (enc c)=some (enc (Nat.gcd a.natAbs c.natAbs:Nat)):=by
 induction n with
 |zero=>
  intro a c ha hc hle hp
  show co _ _ _=_
  by_cases h0:c.natAbs=0
  ·obtain rfl:c=0:=by omega
   exact G0 ha _
  ·have h1:a.natAbs≤a.natAbs*c.natAbs:=vc _ (by omega)
   exact t4 ha hc (by omega) (by omega) _
 |succ n ih=>
  intro a c ha hc hle hp
  show co (gp (n+2)) _ _=_
  by_cases h0:c.natAbs=0
  ·obtain rfl:c=0:=by omega
   exact G0 ha _
  ·by_cases h1:a.natAbs<18446744073709551616∧c.natAbs<18446744073709551616
   ·exact t4 ha hc h1.1 h1.2 _
   ·have h2:=K7 (rW h0) hle
    have h3:=c6 a.natAbs (rW h0)
    rw[G1 ha hc h0 h1,ih (by rw[d6];exact hc) (by rw[d6];omega) (by rw[d6,d6];omega) (by rw[d6,d6];rw[eu] at hp;omega),d6,d6,←v8]
theorem Kt {a c:Int}(ha:a.natAbs<LIM)(hc:c.natAbs<LIM):mv (enc a) (enc c)=some (enc (Nat.gcd a.natAbs c.natAbs:Nat)):=by
 have e:LIM*LIM≤18446744073709551616*2 ^ 960:=by decide +kernel
 have mono:∀(n:Nat) {x y r:ar},gp n x y=some r→∀m,n≤m→gp m x y=some r:=by
  have step:∀{p q:ar→ar→Option ar},(∀{x y r},p x y=some r→q x y=some r)→∀{x y r},co p x y=some r→co q x y=some r:=by
   intro p q hpq x y r h
   unfold co at h ⊢
   obtain⟨b,h1,h⟩:=ah h
   rw[h1,ab]
   cases b with
   |false=>exact h
   |true=>
    rw[d7,bc] at h ⊢
    obtain⟨b2,h2,h⟩:=ah h
    rw[h2,ab]
    cases b2 with
    |true=>exact h
    |false=>
     rw[bc] at h ⊢
     cases hd:decide (¬(y.vW=#v[(0:Int),0,0,0,0,0,0,0,0,0,0,0,0,0,0,0])) with
     |false=>rw[hd] at h;exact h
     |true=>
      rw[hd,gF] at h
      rw[gF]
      obtain⟨q1,h3,h⟩:=ah h
      rw[h3,ab]
      obtain⟨q2,h4,h⟩:=ah h
      rw[h4,ab]
      obtain⟨q3,h5,h⟩:=ah h
      rw[h5,ab]
      obtain⟨q4,h6,h⟩:=ah h
      rw[hpq h6,ab]
      exact h
  intro n
  induction n with
  |zero=>intro x y r h;cases h
  |succ n ih=>
   intro x y r h m hm
   obtain⟨m,rfl⟩:∃k,m=k+1:=⟨m - 1,by omega⟩
   exact step (fun h=>ih h m (by omega)) h
 unfold mv
 by_cases hle:c.natAbs≤a.natAbs
 ·refine mono 962 (Kj 960 ha hc hle ?_) 1000 (by decide)
  exact bG (xU ha hc) e
 ·by_cases h1:a.natAbs<18446744073709551616∧c.natAbs<18446744073709551616
  ·exact t4 ha hc h1.1 h1.2 _
  ·refine mono 963 ?_ 1000 (by decide)
   show co (gp 962) _ _=_
   rw[G1 ha hc (by omega) h1,dM (by omega),Kj 960 (by rw[d6];exact hc) (by rw[d6];exact ha) (by rw[d6,d6];omega) (by rw[d6,d6];exact bG (xU hc ha) e),d6,d6,Nat.gcd_comm]
theorem pi {x y:Int}(hy:y≠0)(q r:Int)(h:q*y+r=x)(hr:0≤r∧r<y∨y<r∧r≤0):q=x.fdiv y∧r=x.fmod y:=by
 have h2:x.fdiv y*y+x.fmod y=x:=Int.fdiv_mul_add_fmod x y
 have hf:0≤x.fmod y∧x.fmod y<y∨y<x.fmod y∧x.fmod y≤0:=by
  rcases Int.lt_or_gt_of_ne hy with h|h
  ·right
   have h3:=Int.neg_fmod_neg x y
   have h4:=EE (-x) (b:=-y) (by omega)
   have h5:=ED (-x) (b:=-y) (by omega)
   omega
  ·left;exact⟨EE _ h,ED _ h⟩
 have hq:q=x.fdiv y:=by
  have h3:(q - x.fdiv y)*y=x.fmod y - r:=by rw[Int.sub_mul];omega
  rcases IM (q - x.fdiv y) 0 with h4|h4|h4
  ·exfalso
   rcases hr with hr|hr <;> rcases hf with hf|hf
   ·have:(q - x.fdiv y)*y≤(-1)*y:=OP (by omega) (by omega)
    omega
   ·omega
   ·omega
   ·have:(-1)*y≤(q - x.fdiv y)*y:=OO (by omega) (by omega)
    omega
  ·omega
  ·exfalso
   rcases hr with hr|hr <;> rcases hf with hf|hf
   ·have:1*y≤(q - x.fdiv y)*y:=OP (by omega) (by omega)
    omega
   ·omega
   ·omega
   ·have:(q - x.fdiv y)*y≤1*y:=OO (by omega) (by omega)
    omega
 subst hq
 exact⟨rfl,by omega⟩
theorem Fo {x y:Int}(hy:y≠0):x.tmod y<y.natAbs∧-(y.natAbs:Int)<x.tmod y:=by
 have h1:=Int.natAbs_tmod x y
 have h2:=c6 x.natAbs (show 0<y.natAbs by omega)
 rw[←h1] at h2
 omega
theorem KE {x y:Int}(hy:y≠0):(cnd (decide (x.tmod y≠0)) (some (!((decide (x.tmod y<0)) == (decide (y<0))))) (some false))=some (decide (x.fdiv y≠x.tdiv y))∧(x.fdiv y≠x.tdiv y→x.fdiv y=x.tdiv y - 1∧x.fmod y=x.tmod y+y)∧(x.fdiv y=x.tdiv y→x.fmod y=x.tmod y):=by
 have e1:x.tdiv y*y+x.tmod y=x:=Int.tdiv_mul_add_tmod x y
 have e2:x.fdiv y*y+x.fmod y=x:=Int.fdiv_mul_add_fmod x y
 have hm:=Fo (x:=x) hy
 rw[iG]
 by_cases h1:x.tmod y=0
 ·obtain⟨h2,h3⟩:=pi (x:=x) hy (x.tdiv y) (x.tmod y) e1 (by omega)
  rw[aq (by simp[h1])]
  exact⟨by simp[h2],fun h=>absurd h2.symm h,fun _=>h3.symm⟩
 ·rw[ao h1]
  by_cases h2:(x.tmod y<0)↔(y<0)
  ·obtain⟨h3,h4⟩:=pi (x:=x) hy (x.tdiv y) (x.tmod y) e1 (by omega)
   refine⟨?_,fun h=>absurd h3.symm h,fun _=>h4.symm⟩
   rw[mn.2 h2,Bd]
   simp[h3]
  ·obtain⟨h3,h4⟩:=pi (x:=x) hy (x.tdiv y - 1) (x.tmod y+y) (by rw[Int.sub_mul];omega) (by omega)
   have h5:(decide (x.tmod y<0) == decide (y<0))=false:=EC.2 fun h=>h2 (mn.1 h)
   have h6:x.fdiv y≠x.tdiv y:=by omega
   refine⟨?_,fun _=>⟨h3.symm,h4.symm⟩,fun h=>absurd h h6⟩
   rw[h5]
   simp[h6]
theorem L0 {x y:Int}(hx:-9223372036854775807≤x∧x≤9223372036854775807):-9223372036854775807≤x.tdiv y∧x.tdiv y≤9223372036854775807:=by
 have h1:(x.tdiv y).natAbs=x.natAbs / y.natAbs:=Int.natAbs_tdiv ..
 have h2:x.natAbs / y.natAbs≤x.natAbs:=tv _ _
 omega
theorem Ob {x y:Int}(hx:-9223372036854775807≤x∧x≤9223372036854775807)(HM:-9223372036854775807≤y∧y≤9223372036854775807)(hy:y≠0):
  (bnd (S:=Int×Int) (bnd (S:=Bool) (cnd (decide ((Int.tmod x y)≠(0:Int))) (some (!((decide ((Int.tmod x y)<(0:Int))) == (decide (y<(0:Int)))))) (some (false))) fun yF=>cnd yF (bnd (some (i64.wrap ((i64.wrap (Int.tdiv x y)) - (1:Int)))) fun wA=>bnd (some (i64.wrap ((Int.tmod x y)+y))) fun oP=>some ((wA,oP))) (some ((i64.wrap (Int.tdiv x y),Int.tmod x y)))) fun (i7,oO)=>bnd (eD i7) fun BD=>bnd (eD oO) fun x34=>some ((.inr (BD,x34)):Unit⊕(ar×ar)))=some (.inr (enc (x.fdiv y),enc (x.fmod y))):=by
 obtain⟨h1,h2,h3⟩:=KE (x:=x) hy
 have hq:=L0 (y:=y) hx
 have hm:=Fo (x:=x) hy
 rw[h1,ab]
 by_cases h:x.fdiv y=x.tdiv y
 ·have hf:=h3 h
  rw[bw _ _ (fun hh=>hh h),ab,Kx]
  dsimp only
  rw[ES (by omega) (by omega),ab,ES (by omega) (by omega),ab,h,hf]
 ·obtain⟨h4,h5⟩:=h2 h
  have hf:x.fmod y≤9223372036854775807∧-9223372036854775807≤x.fmod y:=by
   have:-(y.natAbs:Int)≤x.fmod y∧x.fmod y≤y.natAbs:=by
    rcases Int.lt_or_gt_of_ne hy with hl|hl
    ·have h7:=EE (-x) (b:=-y) (by omega)
     have h8:=ED (-x) (b:=-y) (by omega)
     have h9:=Int.neg_fmod_neg x y
     omega
    ·have h7:=EE x (b:=y) (by omega)
     have h8:=ED x (b:=y) (by omega)
     omega
   omega
  rw[bu _ _ h,Kx (z:=Int.tdiv x y) (by omega),ab,ab,Kx,Kx,←h4,←h5]
  dsimp only
  rw[ab]
  dsimp only
  rw[ES (by omega) (by omega),ab,ES (by omega) (by omega),ab]
theorem Lu {a c:Int}(ha:a.natAbs<LIM)(hc:c.natAbs<LIM)(h0:c≠0):jD (enc a) (enc c)=some (enc (a.fdiv c),enc (a.fmod c)):=by
 have slow:∀r:Unit⊕(ar×ar),r=.inl ()→(match r with| .inl ()=>bnd (fc (enc a).vW (enc c).vW) fun wI=>bnd (bC (!((enc a).vNeg == (enc c).vNeg)) wI.1) fun yf=>bnd (S:=(Vector Int 16)×ar) (bnd (S:=Bool) (cnd (decide (¬(wI.2=#v[(0:Int),0,0,0,0,0,0,0,0,0,0,0,0,0,0,0]))) (some (!((enc a).vNeg == (enc c).vNeg))) (some (false))) fun yC=>cnd yC (bnd (eD (1:Int)) fun x44=>bnd (mu yf x44) fun x46=>bnd (gm (enc c).vW wI.2) fun Lx=>some ((Lx,x46))) (some ((wI.2,yf)))) fun (yD,wo)=>bnd (bC (enc c).vNeg yD) fun x51=>some (wo,x51)| .inr r=>some r)=some (enc (a.fdiv c),enc (a.fmod c)):=by
  rintro r rfl
  dsimp only
  have hr:=c6 a.natAbs (show 0<c.natAbs by omega)
  have hq:a.natAbs / c.natAbs≤a.natAbs:=tv _ _
  have hdm:=nB a.natAbs c.natAbs
  rw[lm ha,lm hc,m5 ha,m5 hc,BA ha hc (by omega),ab]
  dsimp only
  rw[ix (eS hq ha),ab,z16]
  simp only[Bm (xS hr hc) t3]
  have hdm2:(c.natAbs:Int)*((a.natAbs / c.natAbs:Nat):Int)+((a.natAbs % c.natAbs:Nat):Int)=(a.natAbs:Int):=by rw[←nW,←jZ,hdm]
  generalize hQ:a.natAbs / c.natAbs=Q at hdm2 hq ⊢
  generalize hR:a.natAbs % c.natAbs=R at hdm2 hr ⊢
  by_cases hs:decide (a<0)=decide (c<0)
  ·have LF:=mn.1 hs
   rw[hs,Bd,d7]
   rw[show (cnd (decide (¬(R=0))) (some false) (some false))=some false from by rw[Oq],ab,bc,ab]
   dsimp only[cond_false]
   rw[ix (xS hr hc),ab]
   obtain⟨h1,h2⟩:=pi (x:=a) h0 (Q:Int) (bif decide (c<0) then -(R:Int) else (R:Int)) (by
    by_cases E1:c<0
    ·rw[dy E1,kK]
     have e:c=-(c.natAbs:Int):=by omega
     have e2:a=-(a.natAbs:Int):=by omega
     rw[e2,←hdm2]
     conv=>lhs;rw[e]
     rw[Int.mul_neg,rV];omega
    ·rw[gM E1,cond_false]
     have e:c=(c.natAbs:Int):=by omega
     have e2:a=(a.natAbs:Int):=by omega
     rw[e2,←hdm2]
     conv=>lhs;rw[e]
     rw[rV]) (by
    by_cases E1:c<0
    ·rw[dy E1,kK];omega
    ·rw[gM E1,cond_false];omega)
   rw[←h1,←h2]
  ·have LF:¬((a<0)↔(c<0)):=fun h=>hs (mn.2 h)
   have hb:(decide (a<0) == decide (c<0))=false:=EC.2 hs
   rw[hb,tz,kK]
   have hmul:-(Q:Int)*c=(if c<0 then 1 else -1)*((c.natAbs:Int)*(Q:Int)):=by
    split
    ·have e:c=-(c.natAbs:Int):=by omega
     conv=>lhs;rw[e]
     rw[Int.neg_mul_neg,Int.one_mul,rV]
    ·have e:c=(c.natAbs:Int):=by omega
     conv=>lhs;rw[e]
     rw[Int.neg_mul,Int.neg_mul,Int.one_mul,rV]
   by_cases Ha:R=0
   ·rw[bw _ _ (by simpa using Ha),ab,bc,ab]
    dsimp only
    rw[ix (xS hr hc),ab]
    obtain⟨h1,h2⟩:=pi (x:=a) h0 (-(Q:Int)) 0 (by rw[hmul];subst Ha;split <;> omega) (by omega)
    rw[←h1,←h2]
    subst Ha
    cases decide (c<0) <;> rfl
   ·have hQ1:((-(Q:Int)).natAbs)<LIM:=by rw[Int.natAbs_neg,d6];exact eS hq ha
    rw[bu _ _ Ha,ab,gF,ES (by decide) (by decide),ab,G_Sub hQ1 (by decide),ab,ER (nA hr),ab,ab]
    dsimp only
    rw[ix (eS (Nat.sub_le _ _) hc),ab]
    obtain⟨h1,h2⟩:=pi (x:=a) h0 (-(Q:Int) - 1) (bif decide (c<0) then -((c.natAbs - R:Nat):Int) else ((c.natAbs - R:Nat):Int)) (by
     rw[Int.sub_mul,hmul]
     by_cases E1:c<0
     ·rw[dy E1,kK,ao E1];omega
     ·rw[gM E1,cond_false,aq E1];omega) (by
     by_cases E1:c<0
     ·rw[dy E1,kK];omega
     ·rw[gM E1,cond_false];omega)
    rw[←h1,←h2]
 unfold jD
 rw[sm,bI ha,bI hc,ab,iC,d7,bc,yb hc,ab,ab,bw _ _ (by rw[IL];exact h0),Kp ha,ab]
 have Nw:∀z:Int,(bnd (S:=Bool) (cnd (if -9223372036854775808≤z∧z<9223372036854775808 then (z,true) else (0,false):Int×Bool).2 (some (decide ((if -9223372036854775808≤z∧z<9223372036854775808 then (z,true) else (0,false):Int×Bool).1≠(-9223372036854775808:Int)))) (some (false))) fun a=>some a)=some (decide (-9223372036854775807≤z∧z≤9223372036854775807)):=by
  intro z
  rw[uY]
  split
  ·rw[gF];congr 1;exact mn.2 (by omega)
  ·rw[bc];congr 1;exact (def_).symm
 have e1:=Nw a
 have e2:=Nw c
 rw[uY] at e1 e2
 rw[e1,ab,iG]
 split
 ·rename_i h1
  rw[Kp hc,ab,e2,ab,iG]
  split
  ·rename_i h2
   rw[ifp_,ifp_,aF h0,aF h0,Ob h1 h2 h0,ab]
  ·rw[ab];exact slow _ rfl
 ·rw[ab];exact slow _ rfl
theorem Kr {a c:Int}(ha:a.natAbs<LIM)(hc:c.natAbs<LIM)(h0:c≠0):jb (enc a) (enc c)=some (enc (a.fdiv c)):=by
 unfold jb
 rw[Lu ha hc h0,ab]
def iV(bj:ar):Bool×Int→Option ((Bool×Int)⊕Bool):=fun (aQ,aZ)=>cnd (decide (aZ<(16:Int))) (bnd (S:=Bool) (cnd aQ (gd (0≤aZ∧aZ<16) (some (decide (((bj.vW)[(aZ).toNat]!)=(0:Int))))) (some (false))) fun dh=>some (.inl (dh,i64.wrap (aZ+(1:Int))))) (some (.inr aQ))
def n0(bj:ar):Option Bool:=bnd (a7 (iV bj) (true,(0:Int))) fun aN=>cnd bj.vBad (bnd (S:=Bool) (cnd aN (some (!bj.vNeg)) (some (false))) fun i7=>some i7) (bnd (S:=Bool) (cnd (!aN) (some (true)) (some (!bj.vNeg))) fun f9=>some f9)
theorem BR {bj:ar}{r:Bool}(h:n0 bj=some r):aB prog 152 [dG ap bj] (dB r):=by
 refine bJ (rs:=[.tmp 2]) (fun cx hx h0=>?_) func152
 unfold n0 at h
 iterate 2 refine ra hx ?_
 refine AW.seq (ra hx ?_)
 refine AW.block ?_
 obtain⟨aN,hy,h⟩:=ah h
 refine lp (S:=Bool×Int) (X:=Bool) (fun (aQ,aZ)=>[(1,.pt 0 0),(3,dB aQ),(4,dI .i64 aZ)]) (fun (aQ,aZ)=>⟨[(0,dC (ap.f bj))],[],1⟩) (PE cx (.exit 0) (fun aN=>[(1,.pt 0 0),(3,dB aN)]) fun aN=>⟨[(0,dC (ap.f bj))],[],1⟩) hy ?_ ?_ ?_
 exact wk h0 [0] (wR rfl (wR rfl (wR rfl wTn))) (vC rfl wVn) wLn
 clear hy h
 rintro⟨aQ,aZ⟩ y h
 dsimp only[iV] at h
 refine AW.seq (ra hx ?_)
 refine cdh h rfl (fun cQ h=>?_) (fun cQ h=>?_)
 refine AW.skip (AW.seq ?_)
 obtain⟨dh,hy,h⟩:=ah h
 refine jn ((PE cx .normal (fun dh=>[(1,.pt 0 0),(3,dB dh),(4,dI .i64 aZ)]) fun dh=>⟨[(0,dC (ap.f bj))],[],1⟩) dh) ?_ ?_
 replace h:=hy
 refine AW.block (rq hx fun K hK=>?_)
 iterate 2 refine sa ?_
 rcases bP aQ with lL|lL
 replace h:=ba lL h
 iterate 2 refine ga lL ?_
 obtain⟨K6,h⟩:=az h
 have Np:(aZ).toNat<16:=by omega
 refine g1 lL (cj K6 aC aH) ?_
 refine g1 lL (a6 (an.comp (aS bj) (an.vec (cI .u32) bj.vW (aZ).toNat Np) (fun _=>rfl)) aH) ?_
 refine ga lL ?_
 refine s1 (am lL) ?_
 refine sa ?_
 refine .nil (hK _ _ ?_)
 cases h
 exact pe0 h0 [0]
 replace h:=bb lL h
 iterate 5 refine aK rfl rfl lL ?_
 refine s1 (ax lL) ?_
 refine sa ?_
 refine .nil (hK _ _ ?_)
 cases h
 exact pe0 h0 [0]
 rintro ex tm' hp' ⟨rfl,hw⟩
 refine AW.weak hw (rb hx ?_)
 cases h
 exact PS.l (pe0 h0 [0])
 refine AW.exit ?_
 try dsimp only
 try simp only[bk,reduceIte,Nat.reduceEqDiff,reduceCtorEq]
 cases h
 exact PS.r ⟨by nofun,PE.i (wk h0 [0] (wR rfl (wR rfl wTn)) (vC rfl wVn) wLn)⟩
 rintro ex tm' hp' ⟨rfl,hw⟩
 try dsimp only
 try simp only[bk,reduceIte,Nat.reduceEqDiff,reduceCtorEq]
 refine AW.weak hw (AW.seq (rs hx fun K hK=>?_))
 refine sa ?_
 refine s1 (a6 (g5 bj) ge) ?_
 refine .nil (hK _ _ (cdh h rfl (fun v6 h=>?_) (fun v6 h=>?_)))
 refine AW.seq ?_
 obtain⟨i7,hy,h⟩:=ah h
 refine jn ((PE cx .normal (fun i7=>[(2,dB i7)]) fun i7=>⟨[],[],0⟩) i7) ?_ ?_
 replace h:=hy
 refine rq hx fun K hK=>?_
 iterate 2 refine sa ?_
 rcases bP aN with pg|pg
 replace h:=ba pg h
 refine ga pg ?_
 refine g1 pg (a6 (bp bj) ge) ?_
 refine ga pg ?_
 refine s1 (am pg) ?_
 refine sa ?_
 refine .nil (hK _ _ ?_)
 cases h
 exact pe0 h0 []
 replace h:=bb pg h
 iterate 3 refine aK rfl rfl pg ?_
 refine s1 (ax pg) ?_
 refine sa ?_
 refine .nil (hK _ _ ?_)
 cases h
 exact pe0 h0 []
 rintro ex tm' hp' ⟨rfl,hw⟩
 refine AW.weak hw (AW.ret ?_)
 cases h
 exact rv1
 refine AW.skip (AW.seq ?_)
 obtain⟨f9,hy,h⟩:=ah h
 refine jn ((PE cx .normal (fun f9=>[(2,dB f9)]) fun f9=>⟨[],[],0⟩) f9) ?_ ?_
 replace h:=hy
 refine rq hx fun K hK=>?_
 iterate 3 refine sa ?_
 rcases bP (!aN) with gz|gz
 replace h:=ba gz h
 iterate 3 refine aK rfl rfl gz ?_
 refine s1 (am gz) ?_
 refine sa ?_
 refine .nil (hK _ _ ?_)
 cases h
 exact pe0 h0 []
 replace h:=bb gz h
 refine ga gz ?_
 refine g1 gz (a6 (bp bj) ge) ?_
 refine ga gz ?_
 refine s1 (ax gz) ?_
 refine sa ?_
 refine .nil (hK _ _ ?_)
 cases h
 exact pe0 h0 []
 rintro ex tm' hp' ⟨rfl,hw⟩
 refine AW.weak hw (AW.ret ?_)
 cases h
 exact rv1
def db(bj:ar):Option Bool:=bnd (n0 bj) fun x1=>bnd (S:=Bool) (cnd x1 (some (!bj.vBad)) (some (false))) fun j3=>some j3
theorem gY {bj:ar}{r:Bool}(h:db bj=some r):aB prog 118 [dG ap bj] (dB r):=by
 refine bJ (rs:=[.tmp 2]) (fun cx hx h0=>?_) func118
 unfold db at h
 refine ra hx ?_
 refine rs hx fun K hK=>?_
 refine s1 (d:=dG ap bj) (aD (an.id _ _) aA) ?_
 refine scb h BR fun x1 h=>?_
 refine sa ?_
 refine .nil (hK _ _ (AW.seq ?_))
 obtain⟨j3,hy,h⟩:=ah h
 refine jn ((PE cx .normal (fun j3=>[(2,dB j3)]) fun j3=>⟨[],[],0⟩) j3) ?_ ?_
 replace h:=hy
 refine rq hx fun K hK=>?_
 iterate 2 refine sa ?_
 rcases bP x1 with bn|bn
 replace h:=ba bn h
 refine ga bn ?_
 refine g1 bn (a6 (g5 bj) ge) ?_
 refine ga bn ?_
 refine s1 (am bn) ?_
 refine sa ?_
 refine .nil (hK _ _ ?_)
 cases h
 exact pe0 h0 []
 replace h:=bb bn h
 iterate 3 refine aK rfl rfl bn ?_
 refine s1 (ax bn) ?_
 refine sa ?_
 refine .nil (hK _ _ ?_)
 cases h
 exact pe0 h0 []
 rintro ex tm' hp' ⟨rfl,hw⟩
 refine AW.weak hw (AW.ret ?_)
 cases h
 exact rv1
def kV(bj:ar):Int→Option (Int⊕((Int×Bool)⊕Unit)):=fun dh=>cnd (decide (dh<(16:Int))) (gd (0≤dh∧dh<16) (cnd (decide (((bj.vW)[(dh).toNat]!)≠(0:Int))) (some (.inr (.inl ((0:Int),false)))) (some (.inl (i64.wrap (dh+(1:Int))))))) (some (.inr (.inr ())))
def kW(bj:ar):Option (Int×Bool):=bnd (db bj) fun x1=>bnd (S:=Bool) (cnd (!x1) (some (true)) (some (decide ((1073741824:Int)≤((bj.vW)[((1:Int)).toNat]!))))) fun aV=>cnd aV (some ((0:Int),false)) (bnd (a7 (kV bj) (2:Int)) fun y11=>match y11 with| .inl r=>some r| .inr ()=>bnd (some (i64.wrap ((i64.wrap ((i64.wrap ((bj.vW)[((1:Int)).toNat]!))*(4294967296:Int)))+(i64.wrap ((bj.vW)[((0:Int)).toNat]!))))) fun pm=>cnd bj.vNeg (some (i64.wrap (0 - pm),true)) (some (pm,true)))
theorem vu {bj:ar}{r:Int×Bool}(h:kW bj=some r):aB prog 149 [dG ap bj] (.tu [dI .i64 r.1,dB r.2]):=by
 refine bJ (rs:=[.tmp 2,.tmp 3]) (fun cx hx h0=>?_) func149
 unfold kW at h
 refine ra hx ?_
 refine rs hx fun K hK=>?_
 refine s1 (d:=dG ap bj) (aD (an.id _ _) aA) ?_
 refine scb h gY fun x1 h=>?_
 refine sa ?_
 refine .nil (hK _ _ ?_)
 iterate 2 refine AW.seq ?_
 obtain⟨aV,hy,h⟩:=ah h
 refine jn ((PE cx .normal (fun aV=>[(1,.pt 0 0),(16,dB aV)]) fun aV=>⟨[(0,dC (ap.f bj))],[],1⟩) aV) ?_ ?_
 replace h:=hy
 refine rq hx fun K hK=>?_
 iterate 3 refine sa ?_
 rcases bP (!x1) with bn|bn
 replace h:=ba bn h
 iterate 4 refine aK rfl rfl bn ?_
 refine s1 (am bn) ?_
 refine .nil (hK _ _ ?_)
 cases h
 exact pe0 h0 [0]
 replace h:=bb bn h
 refine ga bn ?_
 have Np:((1:Int)).toNat<16:=by omega
 refine g1 bn (cj (by decide:0≤(1:Int)∧(1:Int)<((16:Nat):Int)) aC aH) ?_
 refine g1 bn (a6 (an.comp (aS bj) (an.vec (cI .u32) bj.vW ((1:Int)).toNat Np) (fun _=>rfl)) aH) ?_
 refine ga bn ?_
 refine s1 (ax bn) ?_
 refine .nil (hK _ _ ?_)
 cases h
 exact pe0 h0 [0]
 rintro ex tm' hp' ⟨rfl,hw⟩
 refine AW.weak hw (cdh h rfl (fun ej h=>?_) (fun ej h=>?_))
 refine ra hx ?_
 refine AW.ret ?_
 cases h
 exact rv2
 refine AW.skip (AW.seq (ra hx ?_))
 refine AW.block ?_
 obtain⟨y,hy,h⟩:=ah h
 refine lp (S:=Int) (X:=(Int×Bool)⊕Unit) (fun dh=>[(1,.pt 0 0),(5,dI .i64 dh)]) (fun dh=>⟨[(0,dC (ap.f bj))],[],1⟩) (PS (PR [.tmp 2,.tmp 3] fun r=>.tu [dI .i64 r.1,dB r.2]) (PE cx (.exit 0) (fun ()=>[(1,.pt 0 0)]) fun ()=>⟨[(0,dC (ap.f bj))],[],1⟩)) hy ?_ ?_ ?_
 exact wk h0 [0] (wR rfl (wR rfl wTn)) (vC rfl wVn) wLn
 clear hy h
 rintro dh y h
 dsimp only[kV] at h
 refine AW.seq (ra hx ?_)
 refine cdh h rfl (fun v6 h=>?_) (fun v6 h=>?_)
 refine AW.skip (AW.seq (AW.block (rs hx fun K hK=>?_)))
 iterate 2 refine sa ?_
 obtain⟨H5,h⟩:=az h
 have HW:(dh).toNat<16:=by omega
 refine s1 (cj H5 aC aH) ?_
 refine s1 (a6 (an.comp (aS bj) (an.vec (cI .u32) bj.vW (dh).toNat HW) (fun _=>rfl)) aH) ?_
 refine sa ?_
 refine .nil (hK _ _ (cdh h rfl (fun gz h=>?_) (fun gz h=>?_)))
 refine ra hx ?_
 refine AW.ret ?_
 cases h
 refine PS.r ⟨by nofun,PS.l (PR.i ?_)⟩
 exact rv2
 refine AW.skip (rb hx ?_)
 cases h
 exact PS.l (pe0 h0 [0])
 refine AW.exit ?_
 try dsimp only
 try simp only[bk,reduceIte,Nat.reduceEqDiff,reduceCtorEq]
 cases h
 exact PS.r ⟨by nofun,PS.r (PE.i (wk h0 [0] (wR rfl wTn) (vC rfl wVn) wLn))⟩
 rcases y with r|⟨⟩
 rintro ex tm' hp' ⟨rfl,hw⟩
 cases h
 exact hw
 rintro ex tm' hp' ⟨rfl,hw⟩
 try dsimp only
 try simp only[bk,reduceIte,Nat.reduceEqDiff,reduceCtorEq]
 refine AW.weak hw (rs hx fun K hK=>?_)
 refine sa ?_
 have Ns:((1:Int)).toNat<16:=by omega
 refine s1 (cj (by decide:0≤(1:Int)∧(1:Int)<((16:Nat):Int)) aC aH) ?_
 refine s1 (a6 (an.comp (aS bj) (an.vec (cI .u32) bj.vW ((1:Int)).toNat Ns) (fun _=>rfl)) aH) ?_
 iterate 3 refine sa ?_
 have HX:((0:Int)).toNat<16:=by omega
 refine s1 (cj (by decide:0≤(0:Int)∧(0:Int)<((16:Nat):Int)) aC aH) ?_
 refine s1 (a6 (an.comp (aS bj) (an.vec (cI .u32) bj.vW ((0:Int)).toNat HX) (fun _=>rfl)) aH) ?_
 iterate 2 refine sa ?_
 obtain⟨pm,xq,h⟩:=ah h
 replace xq:=eG xq
 refine s2 (d2:=dI .i64 pm) ke (fK (congrArg (dI .i64) xq)) ?_
 refine .nil (hK _ _ (AW.seq (rs hx fun K hK=>?_)))
 refine sa ?_
 refine s1 (a6 (bp bj) ge) ?_
 refine .nil (hK _ _ (cdh h rfl (fun If h=>?_) (fun If h=>?_)))
 refine ra hx ?_
 refine AW.ret ?_
 cases h
 exact rv2
 refine AW.skip (ra hx ?_)
 refine AW.ret ?_
 cases h
 exact rv2
def jF(fV:List Int):Int→Option (Int⊕Int):=fun aV=>bnd (S:=Bool) (cnd (decide ((0:Int)<aV)) (gd (0≤i64.wrap (aV - (1:Int))∧i64.wrap (aV - (1:Int))<((fV).length:Int)) (some (decide (((fV)[(i64.wrap (aV - (1:Int))).toNat]!)=(0:Int))))) (some (false))) fun mD=>cnd mD (some (.inl (i64.wrap (aV - (1:Int))))) (some (.inr aV))
def eE(fV:List Int):Option (List Int):=bnd (a7 (jF fV) ((fV).length:Int)) fun na=>gd (0≤(0:Int)∧(0:Int)≤na∧na≤((fV).length:Int)) (some (Hj fV (0:Int) na))
theorem je {fV:List Int}{r:List Int}(h:eE fV=some r):aB prog 157 [dL (cI .i64) fV] (dL (cI .i64) r):=by
 refine bJ (rs:=[.tmp 2]) (fun cx hx h0=>?_) func157
 unfold eE at h
 refine rs hx fun K hK=>?_
 refine s1 (d:=dO 0 (cI .i64) ([]:List Int)) (d8 bK aR) ?_
 refine .nil (hK _ _ (ra hx ?_))
 refine AW.seq (AW.block ?_)
 obtain⟨na,hy,h⟩:=ah h
 refine lp (S:=Int) (X:=Int) (fun aV=>[(0,dL (cI .i64) fV),(3,dI .i64 aV)]) (fun aV=>⟨[],[],0⟩) (PE cx (.exit 0) (fun na=>[(0,dL (cI .i64) fV),(3,dI .i64 na)]) fun na=>⟨[],[],0⟩) hy ?_ ?_ ?_
 exact wk h0 [] (wR rfl (wR rfl wTn)) wVn wLn
 clear hy h
 rintro aV y h
 dsimp only[jF] at h
 iterate 2 refine AW.seq ?_
 obtain⟨mD,hy,h⟩:=ah h
 refine jn ((PE cx .normal (fun mD=>[(0,dL (cI .i64) fV),(3,dI .i64 aV),(15,dB mD)]) fun mD=>⟨[],[],0⟩) mD) ?_ ?_
 replace h:=hy
 refine rq hx fun K hK=>?_
 iterate 3 refine sa ?_
 rcases bP (decide ((0:Int)<aV)) with cQ|cQ
 replace h:=ba cQ h
 iterate 3 refine ga cQ ?_
 obtain⟨mR,h⟩:=az h
 have pH:(i64.wrap (aV - (1:Int))).toNat<(fV).length:=by omega
 refine g1 cQ (eh mR bK aR) ?_
 refine g1 cQ (nf (c:=(cI .i64)) (l:=fV) (n:=(i64.wrap (aV - (1:Int))).toNat) (o:=0) aR pH) ?_
 refine ga cQ ?_
 refine s1 (am cQ) ?_
 refine .nil (hK _ _ ?_)
 cases h
 exact pe0 h0 []
 replace h:=bb cQ h
 iterate 6 refine aK rfl rfl cQ ?_
 refine s1 (ax cQ) ?_
 refine .nil (hK _ _ ?_)
 cases h
 exact pe0 h0 []
 rintro ex tm' hp' ⟨rfl,hw⟩
 refine AW.weak hw (cdh h rfl (fun pI h=>?_) (fun pI h=>?_))
 refine AW.skip (AW.block (rb hx ?_))
 cases h
 exact PS.l (pe0 h0 [])
 refine AW.exit ?_
 try dsimp only
 try simp only[bk,reduceIte,Nat.reduceEqDiff,reduceCtorEq]
 cases h
 exact PS.r ⟨by nofun,PE.i (wk h0 [] (wR rfl (wR rfl wTn)) wVn wLn)⟩
 rintro ex tm' hp' ⟨rfl,hw⟩
 try dsimp only
 try simp only[bk,reduceIte,Nat.reduceEqDiff,reduceCtorEq]
 refine AW.weak hw (rs hx fun K hK=>?_)
 iterate 2 refine sa ?_
 obtain⟨NK,h⟩:=az h
 refine s1 (T_sl (c:=(cI .i64)) (l:=fV) (a:=(0:Int)) (b:=na) NK bK aR) ?_
 refine sa ?_
 refine .nil (hK _ _ (AW.ret ?_))
 cases h
 exact rv1
def kD :Option ar:=some (⟨true,false,(bM)⟩:ar)
theorem sM  {r:ar}(h:kD=some r):aB prog 132 [] (dG ap r):=by
 refine bJ (rs:=[.cell 0 32]) (fun cx hx h0=>?_) func132
 unfold kD at h
 refine rs hx fun K hK=>?_
 refine s1 (bq (F:=ap.f br) aA) ?_
 refine .nil (hK _ _ (rs hx fun K hK=>?_))
 refine s1 (d:=dG ap (⟨true,false,(bM)⟩:ar)) (i8 (FL.cons (y:=true) (g5 br) rfl rfl (FL.nil _)) aA) ?_
 refine s0 (aO (b':=(⟨true,false,(bM)⟩:ar)) (an.id _ _) aA) ?_
 refine .nil (hK _ _ (AW.ret ?_))
 cases h
 exact rv1
def fe(x1:List Int):Int×ar→Option ((Int×ar)⊕ar):=fun (aL,eQ)=>cnd (decide (aL<((x1).length:Int))) (bnd (S:=ar) (cnd (decide ((Int.tmod aL (2:Int))=(0:Int))) (gd (0≤i64.wrap (Int.tdiv aL (2:Int))∧i64.wrap (Int.tdiv aL (2:Int))<16) (gd (0≤aL∧aL<((x1).length:Int)) (gd (0≤i64.wrap (Int.tdiv aL (2:Int))∧i64.wrap (Int.tdiv aL (2:Int))<16) (bnd (some ((⟨eQ.vBad,eQ.vNeg,(eQ.vW).set! (i64.wrap (Int.tdiv aL (2:Int))).toNat (u32.wrap (((eQ.vW)[(i64.wrap (Int.tdiv aL (2:Int))).toNat]!)+(u32.wrap ((x1)[(aL).toNat]!))))⟩:ar))) fun p7=>some (p7))))) (gd (0≤i64.wrap (Int.tdiv aL (2:Int))∧i64.wrap (Int.tdiv aL (2:Int))<16) (gd (0≤aL∧aL<((x1).length:Int)) (gd (0≤i64.wrap (Int.tdiv aL (2:Int))∧i64.wrap (Int.tdiv aL (2:Int))<16) (bnd (some ((⟨eQ.vBad,eQ.vNeg,(eQ.vW).set! (i64.wrap (Int.tdiv aL (2:Int))).toNat (u32.wrap (((eQ.vW)[(i64.wrap (Int.tdiv aL (2:Int))).toNat]!)+(u32.wrap ((u32.wrap ((x1)[(aL).toNat]!))*(65536:Int)))))⟩:ar))) fun x26=>some (x26)))))) fun C8=>some (.inl (i64.wrap (aL+(1:Int)),C8))) (some (.inr eQ))
def eF(sW:Bool)(fV:List Int):Option ar:=bnd (eE fV) fun x1=>cnd (decide ((32:Int)<((x1).length:Int))) (bnd (kD) fun x4=>some x4) (bnd (S:=ar) (cnd sW (bnd (some ((⟨false,decide ((0:Int)<((x1).length:Int)),(bM)⟩:ar))) fun x7=>some (x7)) (some ((⟨false,false,(bM)⟩:ar)))) fun gN=>bnd (a7 (fe x1) ((0:Int),gN)) fun bR=>some bR)
theorem mH {sW:Bool}{fV:List Int}{r:ar}(h:eF sW fV=some r):aB prog 147 [dB sW,dL (cI .i64) fV] (dG ap r):=by
 refine bJ (rs:=[.cell 4 32]) (fun cx hx h0=>?_) func147
 unfold eF at h
 refine rs hx fun K hK=>?_
 refine s1 (bq (F:=ap.f br) aA) ?_
 refine .nil (hK _ _ (rs hx fun K hK=>?_))
 refine sa ?_
 refine scb h je fun x1 h=>?_
 refine sa ?_
 refine .nil (hK _ _ (AW.seq (ra hx ?_)))
 refine cdh h rfl (fun bn h=>?_) (fun bn h=>?_)
 refine rs hx fun K hK=>?_
 refine scb h sM fun x4 h=>?_
 refine s0 (aO (b':=x4) (an.id _ _) aA) ?_
 refine .nil (hK _ _ (AW.ret ?_))
 cases h
 exact rv1
 refine AW.skip (AW.seq ?_)
 obtain⟨gN,hy,h⟩:=ah h
 refine jn ((PE cx .normal (fun gN=>[(4,.pt 0 0),(5,dL (cI .i64) x1),(6,.pt 1 0)]) fun gN=>⟨[(0,dC (ap.f br)),(1,dC (ap.f gN))],[],2⟩) gN) ?_ ?_
 replace h:=hy
 refine rq hx fun K hK=>?_
 iterate 2 refine sa ?_
 rcases bP sW with ej|ej
 replace h:=ba ej h
 iterate 3 refine ga ej ?_
 refine s1 (am ej) ?_
 refine s1 (d:=dG ap (⟨false,decide ((0:Int)<((x1).length:Int)),(bM)⟩:ar)) (i8 (FL.cons (y:=decide ((0:Int)<((x1).length:Int))) (bp br) rfl rfl (FL.nil _)) aA) ?_
 refine s1 (bq (F:=ap.f br) aA) ?_
 obtain⟨x7,Aa,h⟩:=ah h
 replace Aa:=eG Aa
 refine s0 (jx (b':=(⟨false,decide ((0:Int)<((x1).length:Int)),(bM)⟩:ar)) (an.id _ _) aA Aa) ?_
 refine .nil (hK _ _ ?_)
 cases h
 exact pe0 h0 [0,1]
 replace h:=bb ej h
 iterate 3 refine aK rfl rfl ej ?_
 refine s1 (ax ej) ?_
 refine s1 (d:=dG ap br) (i8 (FL.cons (y:=false) (bp br) rfl rfl (FL.nil _)) aA) ?_
 refine s1 (bq (F:=ap.f br) aA) ?_
 refine s0 (aO (b':=br) (an.id _ _) aA) ?_
 refine .nil (hK _ _ ?_)
 cases h
 exact pe0 h0 [0,1]
 rintro ex tm' hp' ⟨rfl,hw⟩
 refine AW.weak hw (AW.seq (ra hx ?_))
 refine AW.block ?_
 obtain⟨bR,hy,h⟩:=ah h
 refine lp (S:=Int×ar) (X:=ar) (fun (aL,eQ)=>[(4,.pt 0 0),(5,dL (cI .i64) x1),(6,.pt 1 0),(7,dI .i64 aL)]) (fun (aL,eQ)=>⟨[(0,dC (ap.f br)),(1,dC (ap.f eQ))],[],2⟩) (PE cx (.exit 0) (fun bR=>[(4,.pt 0 0),(6,.pt 1 0)]) fun bR=>⟨[(0,dC (ap.f br)),(1,dC (ap.f bR))],[],2⟩) hy ?_ ?_ ?_
 exact wk h0 [0,1] (wR rfl (wR rfl (wR rfl (wR rfl wTn)))) (vC rfl (vC rfl wVn)) wLn
 clear hy h
 rintro⟨aL,eQ⟩ y h
 dsimp only[fe] at h
 refine AW.seq (ra hx ?_)
 refine cdh h rfl (fun gz h=>?_) (fun gz h=>?_)
 refine AW.skip (AW.seq ?_)
 obtain⟨C8,hy,h⟩:=ah h
 refine jn ((PE cx .normal (fun C8=>[(4,.pt 0 0),(5,dL (cI .i64) x1),(6,.pt 1 0),(7,dI .i64 aL)]) fun C8=>⟨[(0,dC (ap.f br)),(1,dC (ap.f C8))],[],2⟩) C8) ?_ ?_
 replace h:=hy
 refine AW.block (ra hx ?_)
 refine cdh h rfl (fun NN h=>?_) (fun NN h=>?_)
 refine rqd [] hx fun K hK=>?_
 iterate 5 refine sa ?_
 obtain⟨DX,h⟩:=az h
 have HX:(i64.wrap (Int.tdiv aL (2:Int))).toNat<16:=by omega
 refine s1 (cj DX aC aH) ?_
 refine s1 (a6 (an.comp (aS eQ) (an.vec (cI .u32) eQ.vW (i64.wrap (Int.tdiv aL (2:Int))).toNat HX) (fun _=>rfl)) aH) ?_
 iterate 2 refine sa ?_
 obtain⟨H6,h⟩:=az h
 have Nr:(aL).toNat<(x1).length:=by omega
 refine s1 (eh H6 bK aR) ?_
 refine s1 (nf (c:=(cI .i64)) (l:=x1) (n:=(aL).toNat) (o:=0) aR Nr) ?_
 iterate 3 refine sa ?_
 obtain⟨xw,h⟩:=az h
 have yT:(i64.wrap (Int.tdiv aL (2:Int))).toNat<16:=by omega
 refine s1 (cj xw aC aH) ?_
 obtain⟨p7,xp,h⟩:=ah h
 replace xp:=eG xp
 refine s0 (jx (b':=u32.wrap (((eQ.vW)[(i64.wrap (Int.tdiv aL (2:Int))).toNat]!)+(u32.wrap ((x1)[(aL).toNat]!)))) (an.comp (aS eQ) (an.vec (cI .u32) eQ.vW (i64.wrap (Int.tdiv aL (2:Int))).toNat yT) (fun _=>rfl)) aH xp) ?_
 refine .nil (hK _ _ ?_)
 cases h
 exact pe0 h0 [0,1]
 refine rqd [] hx fun K hK=>?_
 iterate 5 refine sa ?_
 obtain⟨uT,h⟩:=az h
 have B4:(i64.wrap (Int.tdiv aL (2:Int))).toNat<16:=by omega
 refine s1 (cj uT aC aH) ?_
 refine s1 (a6 (an.comp (aS eQ) (an.vec (cI .u32) eQ.vW (i64.wrap (Int.tdiv aL (2:Int))).toNat B4) (fun _=>rfl)) aH) ?_
 iterate 2 refine sa ?_
 obtain⟨DV,h⟩:=az h
 have hn23:(aL).toNat<(x1).length:=by omega
 refine s1 (eh DV bK aR) ?_
 refine s1 (nf (c:=(cI .i64)) (l:=x1) (n:=(aL).toNat) (o:=0) aR hn23) ?_
 iterate 4 refine sa ?_
 obtain⟨v5,h⟩:=az h
 have K1:(i64.wrap (Int.tdiv aL (2:Int))).toNat<16:=by omega
 refine s1 (cj v5 aC aH) ?_
 obtain⟨x26,B1,h⟩:=ah h
 replace B1:=eG B1
 refine s0 (jx (b':=u32.wrap (((eQ.vW)[(i64.wrap (Int.tdiv aL (2:Int))).toNat]!)+(u32.wrap ((u32.wrap ((x1)[(aL).toNat]!))*(65536:Int))))) (an.comp (aS eQ) (an.vec (cI .u32) eQ.vW (i64.wrap (Int.tdiv aL (2:Int))).toNat K1) (fun _=>rfl)) aH B1) ?_
 refine .nil (hK _ _ ?_)
 cases h
 exact pe0 h0 [0,1]
 rintro ex tm' hp' ⟨rfl,hw⟩
 refine AW.weak hw (rb hx ?_)
 cases h
 exact PS.l (pe0 h0 [0,1])
 refine AW.exit ?_
 try dsimp only
 try simp only[bk,reduceIte,Nat.reduceEqDiff,reduceCtorEq]
 cases h
 exact PS.r ⟨by nofun,PE.i (wk h0 [0,1] (wR rfl (wR rfl wTn)) (vC rfl (vC rfl wVn)) wLn)⟩
 rintro ex tm' hp' ⟨rfl,hw⟩
 try dsimp only
 try simp only[bk,reduceIte,Nat.reduceEqDiff,reduceCtorEq]
 refine AW.weak hw (rs hx fun K hK=>?_)
 refine s1 (d:=dG ap bR) (aD (an.id _ _) aA) ?_
 refine s0 (aO (b':=bR) (an.id _ _) aA) ?_
 refine .nil (hK _ _ (AW.ret ?_))
 cases h
 exact rv1
def cZ(fV:List Int)(eK:Int):Option Int:=cnd (decide (eK<((fV).length:Int))) (gd (0≤eK∧eK<((fV).length:Int)) (some ((fV)[(eK).toNat]!))) (some (0:Int))
theorem fq {fV:List Int}{eK:Int}{r:Int}(h:cZ fV eK=some r):aB prog 158 [dL (cI .i64) fV,dI .i64 eK] (dI .i64 r):=by
 refine bJ (rs:=[.tmp 4]) (fun cx hx h0=>?_) func158
 unfold cZ at h
 refine ra hx ?_
 refine AW.seq (ra hx ?_)
 refine cdh h rfl (fun cQ h=>?_) (fun cQ h=>?_)
 refine rs hx fun K hK=>?_
 iterate 2 refine sa ?_
 obtain⟨mR,h⟩:=az h
 have pH:(eK).toNat<(fV).length:=by omega
 refine s1 (eh mR bK aR) ?_
 refine s1 (nf (c:=(cI .i64)) (l:=fV) (n:=(eK).toNat) (o:=0) aR pH) ?_
 refine sa ?_
 refine .nil (hK _ _ (AW.ret ?_))
 cases h
 exact rv1
 refine AW.skip (ra hx ?_)
 refine AW.ret ?_
 cases h
 exact rv1
def iT(aY:List Int)(a8:List Int):(List Int)×Int×Int→Option (((List Int)×Int×Int)⊕((List Int))):=fun (cO,bm,dH)=>cnd (decide (dH<(i64.wrap ((max ((aY).length:Int) ((a8).length:Int))+(1:Int))))) (bnd (cZ aY dH) fun x2=>bnd (cZ a8 dH) fun x4=>bnd (some (i64.wrap ((i64.wrap (x2+x4))+bm))) fun x6=>gd ((cO++[Int.tmod x6 (65536:Int)]).length*8≤140737488355328) (some (.inl (cO++[Int.tmod x6 (65536:Int)],i64.wrap (Int.tdiv x6 (65536:Int)),i64.wrap (dH+(1:Int)))))) (some (.inr cO))
def mX(aY:List Int)(a8:List Int):Option (List Int):=bnd (a7 (iT aY a8) (([]:List Int),(0:Int),(0:Int))) fun bW=>bnd (eE bW) fun nr=>some nr
theorem Dj {aY:List Int}{a8:List Int}{r:List Int}(h:mX aY a8=some r):aB prog 148 [dL (cI .i64) aY,dL (cI .i64) a8] (dL (cI .i64) r):=by
 refine bJ (rs:=[.tmp 4]) (fun cx hx h0=>?_) func148
 unfold mX at h
 refine rs hx fun K hK=>?_
 refine s1 (d:=dO 0 (cI .i64) ([]:List Int)) (d8 bK aR) ?_
 refine .nil (hK _ _ (rs hx fun K hK=>?_))
 refine s1 (d:=dO 1 (cI .i64) ([]:List Int)) (d8 bK aR) ?_
 refine .nil (hK _ _ (ra hx ?_))
 refine AW.seq (ra hx ?_)
 refine AW.block ?_
 obtain⟨bW,hy,h⟩:=ah h
 refine lp (S:=(List Int)×Int×Int) (X:=(List Int)) (fun (cO,bm,dH)=>[(0,dL (cI .i64) aY),(1,dL (cI .i64) a8),(5,dO 0 (cI .i64) cO),(6,dI .i64 bm),(7,dI .i64 dH)]) (fun (cO,bm,dH)=>⟨[],[(0,(cO).length,1,3)],1⟩) (PE cx (.exit 0) (fun bW=>[(5,dO 0 (cI .i64) bW)]) fun bW=>⟨[],[(0,(bW).length,1,3)],1⟩) hy ?_ ?_ ?_
 exact wk h0 [1] (wR rfl (wR rfl (wR rfl (wR rfl (wR rfl wTn))))) wVn (wL rfl rfl wLn)
 clear hy h
 rintro⟨cO,bm,dH⟩ y h
 dsimp only[iT] at h
 refine AW.seq (ra hx ?_)
 refine cdh h rfl (fun cQ h=>?_) (fun cQ h=>?_)
 refine AW.skip (AW.seq (AW.block (rs hx fun K hK=>?_)))
 iterate 2 refine sa ?_
 refine scb h fq fun x2 h=>?_
 iterate 2 refine sa ?_
 refine scb h fq fun x4 h=>?_
 iterate 3 refine sa ?_
 obtain⟨x6,sZ,h⟩:=ah h
 replace sZ:=eG sZ
 refine s2 (d2:=dI .i64 x6) ke (fK (congrArg (dI .i64) sZ)) ?_
 refine .nil (hK _ _ (rs hx fun K hK=>?_))
 iterate 3 refine sa ?_
 refine s1 (d:=dO 1 (cI .i64) [Int.tmod x6 (65536:Int)]) (jL bK aR) ?_
 obtain⟨H5,h⟩:=az h
 refine s1 (d:=dO 0 (cI .i64) (cO++[Int.tmod x6 (65536:Int)])) (j4 bK aR H5) ?_
 refine sa ?_
 refine .nil (hK _ _ ?_)
 iterate 2 refine rb hx ?_
 cases h
 exact PS.l (pe0 h0 [0])
 refine AW.exit ?_
 try dsimp only
 try simp only[bk,reduceIte,Nat.reduceEqDiff,reduceCtorEq]
 cases h
 exact PS.r ⟨by nofun,PE.i (wk h0 [0] (wR rfl wTn) wVn (wL rfl rfl wLn))⟩
 rintro ex tm' hp' ⟨rfl,hw⟩
 try dsimp only
 try simp only[bk,reduceIte,Nat.reduceEqDiff,reduceCtorEq]
 refine AW.weak hw (rs hx fun K hK=>?_)
 refine sa ?_
 refine scb h je fun nr h=>?_
 refine sa ?_
 refine .nil (hK _ _ (AW.ret ?_))
 cases h
 exact rv1
def nL(da:Int):Option ar:=cnd (decide ((0:Int)≤da)) (bnd (eF false [Int.tmod da (65536:Int),Int.tmod (i64.wrap (Int.tdiv da (65536:Int))) (65536:Int),Int.tmod (i64.wrap (Int.tdiv da (4294967296:Int))) (65536:Int),i64.wrap (Int.tdiv da (281474976710656:Int))]) fun x2=>some x2) (bnd (some (i64.wrap (0 - (i64.wrap (da+(1:Int)))))) fun x4=>bnd (mX [Int.tmod x4 (65536:Int),Int.tmod (i64.wrap (Int.tdiv x4 (65536:Int))) (65536:Int),Int.tmod (i64.wrap (Int.tdiv x4 (4294967296:Int))) (65536:Int),i64.wrap (Int.tdiv x4 (281474976710656:Int))] [(1:Int)]) fun x6=>bnd (eF true x6) fun x8=>some x8)
theorem zD {da:Int}{r:ar}(h:nL da=some r):aB prog 115 [dI .i64 da] (dG ap r):=by
 refine bJ (rs:=[.cell 2 32]) (fun cx hx h0=>?_) func115
 unfold nL at h
 refine rs hx fun K hK=>?_
 refine s1 (bq (F:=ap.f br) aA) ?_
 refine .nil (hK _ _ (AW.seq (ra hx ?_)))
 refine cdh h rfl (fun cQ h=>?_) (fun cQ h=>?_)
 refine rs hx fun K hK=>?_
 iterate 10 refine sa ?_
 refine s1 (d:=dO 1 (cI .i64) [Int.tmod da (65536:Int),Int.tmod (i64.wrap (Int.tdiv da (65536:Int))) (65536:Int),Int.tmod (i64.wrap (Int.tdiv da (4294967296:Int))) (65536:Int),i64.wrap (Int.tdiv da (281474976710656:Int))]) (jL bK aR) ?_
 refine scb h mH fun x2 h=>?_
 refine s0 (aO (b':=x2) (an.id _ _) aA) ?_
 refine .nil (hK _ _ (AW.ret ?_))
 cases h
 exact rv1
 refine AW.skip (rs hx fun K hK=>?_)
 iterate 3 refine sa ?_
 obtain⟨x4,uQ,h⟩:=ah h
 replace uQ:=eG uQ
 refine s2 (d2:=dI .i64 x4) ke (fK (congrArg (dI .i64) uQ)) ?_
 refine .nil (hK _ _ (rs hx fun K hK=>?_))
 iterate 10 refine sa ?_
 refine s1 (d:=dO 1 (cI .i64) [Int.tmod x4 (65536:Int),Int.tmod (i64.wrap (Int.tdiv x4 (65536:Int))) (65536:Int),Int.tmod (i64.wrap (Int.tdiv x4 (4294967296:Int))) (65536:Int),i64.wrap (Int.tdiv x4 (281474976710656:Int))]) (jL bK aR) ?_
 refine s1 (d:=dO 2 (cI .i64) [(1:Int)]) (jL bK aR) ?_
 refine scb h Dj fun x6 h=>?_
 refine scb h mH fun x8 h=>?_
 refine s0 (aO (b':=x8) (an.id _ _) aA) ?_
 refine .nil (hK _ _ (AW.ret ?_))
 cases h
 exact rv1
def ig(bj:ar):(List Int)×Int→Option (((List Int)×Int)⊕((List Int))):=fun (aQ,aZ)=>cnd (decide (aZ<(16:Int))) (gd (0≤aZ∧aZ<16) (gd (0≤aZ∧aZ<16) (gd ((aQ++[i64.wrap (Int.tmod ((bj.vW)[(aZ).toNat]!) (65536:Int)),i64.wrap (u32.wrap (Int.tdiv ((bj.vW)[(aZ).toNat]!) (65536:Int)))]).length*8≤140737488355328) (some (.inl (aQ++[i64.wrap (Int.tmod ((bj.vW)[(aZ).toNat]!) (65536:Int)),i64.wrap (u32.wrap (Int.tdiv ((bj.vW)[(aZ).toNat]!) (65536:Int)))],i64.wrap (aZ+(1:Int)))))))) (some (.inr aQ))
def dZ(bj:ar):Option (List Int):=bnd (a7 (ig bj) (([]:List Int),(0:Int))) fun aN=>bnd (eE aN) fun x8=>some x8
theorem kj {bj:ar}{r:List Int}(h:dZ bj=some r):aB prog 124 [dG ap bj] (dL (cI .i64) r):=by
 refine bJ (rs:=[.tmp 2]) (fun cx hx h0=>?_) func124
 unfold dZ at h
 refine rs hx fun K hK=>?_
 refine sa ?_
 refine s1 (d:=dO 1 (cI .i64) ([]:List Int)) (d8 bK aR) ?_
 refine .nil (hK _ _ (rs hx fun K hK=>?_))
 refine s1 (d:=dO 2 (cI .i64) ([]:List Int)) (d8 bK aR) ?_
 refine .nil (hK _ _ (AW.seq (ra hx ?_)))
 refine AW.block ?_
 obtain⟨aN,hy,h⟩:=ah h
 refine lp (S:=(List Int)×Int) (X:=(List Int)) (fun (aQ,aZ)=>[(1,.pt 0 0),(3,dO 1 (cI .i64) aQ),(4,dI .i64 aZ)]) (fun (aQ,aZ)=>⟨[(0,dC (ap.f bj))],[(1,(aQ).length,1,3)],2⟩) (PE cx (.exit 0) (fun aN=>[(3,dO 0 (cI .i64) aN)]) fun aN=>⟨[],[(0,(aN).length,1,3)],1⟩) hy ?_ ?_ ?_
 exact wk h0 [0,2] (wR rfl (wR rfl (wR rfl wTn))) (vC rfl wVn) (wL rfl rfl wLn)
 clear hy h
 rintro⟨aQ,aZ⟩ y h
 dsimp only[ig] at h
 refine AW.seq (ra hx ?_)
 refine cdh h rfl (fun cQ h=>?_) (fun cQ h=>?_)
 refine AW.skip (AW.seq (AW.block (rqd [] hx fun K hK=>?_)))
 iterate 3 refine sa ?_
 obtain⟨mR,h⟩:=az h
 have pH:(aZ).toNat<16:=by omega
 refine s1 (cj mR aC aH) ?_
 refine s1 (a6 (an.comp (aS bj) (an.vec (cI .u32) bj.vW (aZ).toNat pH) (fun _=>rfl)) aH) ?_
 iterate 4 refine sa ?_
 obtain⟨E2,h⟩:=az h
 have No:(aZ).toNat<16:=by omega
 refine s1 (cj E2 aC aH) ?_
 refine s1 (a6 (an.comp (aS bj) (an.vec (cI .u32) bj.vW (aZ).toNat No) (fun _=>rfl)) aH) ?_
 iterate 2 refine sa ?_
 refine s1 (xZ bK aR) ?_
 obtain⟨hc6,h⟩:=az h
 refine s1 (d:=dO 1 (cI .i64) (aQ++[i64.wrap (Int.tmod ((bj.vW)[(aZ).toNat]!) (65536:Int)),i64.wrap (u32.wrap (Int.tdiv ((bj.vW)[(aZ).toNat]!) (65536:Int)))])) (j4 bK aR hc6) ?_
 refine sa ?_
 refine .nil (hK _ _ (rb hx ?_))
 cases h
 exact PS.l (pe0 h0 [0,1])
 refine AW.exit ?_
 try dsimp only
 try simp only[bk,reduceIte,Nat.reduceEqDiff,reduceCtorEq]
 cases h
 exact PS.r ⟨by nofun,PE.i (wk h0 [1] (wR rfl wTn) wVn (wL rfl rfl wLn))⟩
 rintro ex tm' hp' ⟨rfl,hw⟩
 try dsimp only
 try simp only[bk,reduceIte,Nat.reduceEqDiff,reduceCtorEq]
 refine AW.weak hw (rs hx fun K hK=>?_)
 refine sa ?_
 refine scb h je fun x8 h=>?_
 refine sa ?_
 refine .nil (hK _ _ (AW.ret ?_))
 cases h
 exact rv1
def oc(bj:ar):Option ar:=bnd (db bj) fun x1=>cnd (!x1) (bnd (kD) fun x4=>some x4) (bnd (dZ bj) fun x6=>bnd (eF false x6) fun x8=>some x8)
theorem Fc {bj:ar}{r:ar}(h:oc bj=some r):aB prog 153 [dG ap bj] (dG ap r):=by
 refine bJ (rs:=[.cell 2 32]) (fun cx hx h0=>?_) func153
 unfold oc at h
 refine rs hx fun K hK=>?_
 refine sa ?_
 refine s1 (bq (F:=ap.f br) aA) ?_
 refine .nil (hK _ _ (AW.seq (rs hx fun K hK=>?_)))
 refine s1 (d:=dG ap bj) (aD (an.id _ _) aA) ?_
 refine scb h gY fun x1 h=>?_
 refine sa ?_
 refine .nil (hK _ _ (cdh h rfl (fun bn h=>?_) (fun bn h=>?_)))
 refine rs hx fun K hK=>?_
 refine scb h sM fun x4 h=>?_
 refine s0 (aO (b':=x4) (an.id _ _) aA) ?_
 refine .nil (hK _ _ (AW.ret ?_))
 cases h
 exact rv1
 refine AW.skip (rs hx fun K hK=>?_)
 refine s1 (d:=dG ap bj) (aD (an.id _ _) aA) ?_
 refine scb h kj fun x6 h=>?_
 refine scb h mH fun x8 h=>?_
 refine s0 (aO (b':=x8) (an.id _ _) aA) ?_
 refine .nil (hK _ _ (AW.ret ?_))
 cases h
 exact rv1
def gC(fV:List Int)(eK:Int):Option Int:=cnd (decide (eK<(0:Int))) (some (0:Int)) (bnd (cZ fV eK) fun x2=>some x2)
theorem ry {fV:List Int}{eK:Int}{r:Int}(h:gC fV eK=some r):aB prog 175 [dL (cI .i64) fV,dI .i64 eK] (dI .i64 r):=by
 refine bJ (rs:=[.tmp 4]) (fun cx hx h0=>?_) func175
 unfold gC at h
 refine ra hx ?_
 refine AW.seq (ra hx ?_)
 refine cdh h rfl (fun cQ h=>?_) (fun cQ h=>?_)
 refine ra hx ?_
 refine AW.ret ?_
 cases h
 exact rv1
 refine AW.skip (rs hx fun K hK=>?_)
 iterate 2 refine sa ?_
 refine scb h fq fun x2 h=>?_
 refine sa ?_
 refine .nil (hK _ _ (AW.ret ?_))
 cases h
 exact rv1
def ic(aY:List Int)(a8:List Int)(aQ:Int):Int×(List Int)→Option ((Int×(List Int))⊕((List Int))):=fun (gr,qo)=>cnd (decide (gr<((a8).length:Int))) (gd (0≤i64.wrap (aQ+gr)∧i64.wrap (aQ+gr)<(((i64.wrap ((i64.wrap (((aY).length:Int)+((a8).length:Int)))+(1:Int))).toNat:Nat):Int)∧i64.wrap (aQ+gr)<((qo).length:Int)) (gd (0≤aQ∧aQ<((aY).length:Int)) (gd (0≤gr∧gr<((a8).length:Int)) (gd (0≤i64.wrap (aQ+gr)∧i64.wrap (aQ+gr)<(((i64.wrap ((i64.wrap (((aY).length:Int)+((a8).length:Int)))+(1:Int))).toNat:Nat):Int)∧i64.wrap (aQ+gr)<((qo).length:Int)) (bnd (some ((qo).set ((i64.wrap (aQ+gr)).toNat) (i64.wrap (((qo)[(i64.wrap (aQ+gr)).toNat]!)+(i64.wrap (((aY)[(aQ).toNat]!)*((a8)[(gr).toNat]!))))))) fun i9=>some (.inl (i64.wrap (gr+(1:Int)),i9))))))) (some (.inr qo))
def fL(aY:List Int)(a8:List Int):Int×Int×(List Int)→Option ((Int×Int×(List Int))⊕((List Int))):=fun (nd,nD,rl)=>cnd (decide (nD<(((i64.wrap ((i64.wrap (((aY).length:Int)+((a8).length:Int)))+(1:Int))).toNat:Nat):Int))) (gd (0≤nD∧nD<(((i64.wrap ((i64.wrap (((aY).length:Int)+((a8).length:Int)))+(1:Int))).toNat:Nat):Int)∧nD<((rl).length:Int)) (bnd (some (i64.wrap (((rl)[(nD).toNat]!)+nd))) fun p7=>gd (0≤nD∧nD<(((i64.wrap ((i64.wrap (((aY).length:Int)+((a8).length:Int)))+(1:Int))).toNat:Nat):Int)∧nD<((rl).length:Int)) (some (.inl (i64.wrap (Int.tdiv p7 (65536:Int)),i64.wrap (nD+(1:Int)),(rl).set ((nD).toNat) (Int.tmod p7 (65536:Int))))))) (some (.inr rl))
def iS(aY:List Int)(a8:List Int):Int×(List Int)→Option ((Int×(List Int))⊕((List Int))):=fun (aQ,aZ)=>cnd (decide (aQ<((aY).length:Int))) (bnd (a7 (ic aY a8 aQ) ((0:Int),aZ)) fun wu=>bnd (a7 (fL aY a8) ((0:Int),(0:Int),wu)) fun wq=>some (.inl (i64.wrap (aQ+(1:Int)),wq))) (some (.inr aZ))
def lS(aY:List Int)(a8:List Int):Option (List Int):=gd (0≤i64.wrap ((i64.wrap (((aY).length:Int)+((a8).length:Int)))+(1:Int))∧i64.wrap ((i64.wrap (((aY).length:Int)+((a8).length:Int)))+(1:Int))≤1000000) (bnd (a7 (iS aY a8) ((0:Int),List.replicate (i64.wrap ((i64.wrap (((aY).length:Int)+((a8).length:Int)))+(1:Int))).toNat (0:Int))) fun aN=>gd ((i64.wrap ((i64.wrap (((aY).length:Int)+((a8).length:Int)))+(1:Int))).toNat=(aN).length) (bnd (eE aN) fun Ly=>some Ly))
theorem BQ {aY:List Int}{a8:List Int}{r:List Int}(h:lS aY a8=some r):aB prog 151 [dL (cI .i64) aY,dL (cI .i64) a8] (dL (cI .i64) r):=by
 refine bJ (rs:=[.tmp 4]) (fun cx hx h0=>?_) func151
 unfold lS at h
 refine rs hx fun K hK=>?_
 refine s1 (d:=dO 0 (cI .i64) ([]:List Int)) (d8 bK aR) ?_
 refine .nil (hK _ _ (rs hx fun K hK=>?_))
 iterate 6 refine sa ?_
 obtain⟨JJ,h⟩:=az h
 refine q1 (sMk (c:=(cI .i64)) (z0:=(0:Int)) tok JJ bK aR (by first|rfl|kernel_rfl)) ?_
 refine sa ?_
 refine .nil (hK _ _ (AW.seq (ra hx ?_)))
 refine AW.block ?_
 obtain⟨aN,hy,h⟩:=ah h
 refine lp (S:=Int×(List Int)) (X:=(List Int)) (fun (aQ,aZ)=>[(0,dL (cI .i64) aY),(1,dL (cI .i64) a8),(5,.ow 0 0 1 ((i64.wrap ((i64.wrap (((aY).length:Int)+((a8).length:Int)))+(1:Int))).toNat)),(6,dI .i64 aQ)]) (fun (aQ,aZ)=>⟨[(0,dC ((cW (cI .i64)).f aZ))],[],1⟩) (PE cx (.exit 0) (fun aN=>[(5,.ow 0 0 1 ((i64.wrap ((i64.wrap (((aY).length:Int)+((a8).length:Int)))+(1:Int))).toNat))]) fun aN=>⟨[(0,dC ((cW (cI .i64)).f aN))],[],1⟩) hy ?_ ?_ ?_
 exact wk h0 [1] (wR rfl (wR rfl (wR rfl (wR rfl wTn)))) (vC rfl wVn) wLn
 clear hy h
 rintro⟨aQ,aZ⟩ y h
 dsimp only[iS] at h
 refine AW.seq (ra hx ?_)
 refine cdh h rfl (fun lL h=>?_) (fun lL h=>?_)
 refine AW.skip (AW.seq (AW.block (AW.seq (ra hx ?_))))
 refine AW.block ?_
 obtain⟨wu,hy,h⟩:=ah h
 refine lp (S:=Int×(List Int)) (X:=(List Int)) (fun (gr,qo)=>[(0,dL (cI .i64) aY),(1,dL (cI .i64) a8),(5,.ow 0 0 1 ((i64.wrap ((i64.wrap (((aY).length:Int)+((a8).length:Int)))+(1:Int))).toNat)),(6,dI .i64 aQ),(7,dI .i64 gr)]) (fun (gr,qo)=>⟨[(0,dC ((cW (cI .i64)).f qo))],[],1⟩) (PE cx (.exit 2) (fun wu=>[(0,dL (cI .i64) aY),(1,dL (cI .i64) a8),(5,.ow 0 0 1 ((i64.wrap ((i64.wrap (((aY).length:Int)+((a8).length:Int)))+(1:Int))).toNat)),(6,dI .i64 aQ)]) fun wu=>⟨[(0,dC ((cW (cI .i64)).f wu))],[],1⟩) hy ?_ ?_ ?_
 exact wk h0 [0] (wR rfl (wR rfl (wR rfl (wR rfl (wR rfl wTn))))) (vC rfl wVn) wLn
 clear hy h
 rintro⟨gr,qo⟩ y h
 dsimp only[ic] at h
 refine AW.seq (ra hx ?_)
 refine cdh h rfl (fun bn h=>?_) (fun bn h=>?_)
 refine AW.skip (AW.seq (AW.block (rqd [] hx fun K hK=>?_)))
 iterate 8 refine sa ?_
 obtain⟨E2,h⟩:=az h
 have No:(i64.wrap (aQ+gr)).toNat<(qo).length:=by omega
 refine s1 (om ⟨E2.1,E2.2.1⟩ bK aR) ?_
 refine s1 (a6 (an.seqW (cI .i64) qo ((i64.wrap (aQ+gr)).toNat) No) aR) ?_
 iterate 2 refine sa ?_
 obtain⟨hc6,h⟩:=az h
 have hn7:(aQ).toNat<(aY).length:=by omega
 refine s1 (eh hc6 bK aR) ?_
 refine s1 (nf (c:=(cI .i64)) (l:=aY) (n:=(aQ).toNat) (o:=0) aR hn7) ?_
 iterate 2 refine sa ?_
 obtain⟨H5,h⟩:=az h
 have HW:(gr).toNat<(a8).length:=by omega
 refine s1 (eh H5 bK aR) ?_
 refine s1 (nf (c:=(cI .i64)) (l:=a8) (n:=(gr).toNat) (o:=0) aR HW) ?_
 iterate 2 refine sa ?_
 obtain⟨Gc,h⟩:=az h
 have Nv:(i64.wrap (aQ+gr)).toNat<(qo).length:=by omega
 refine s1 (om ⟨Gc.1,Gc.2.1⟩ bK aR) ?_
 obtain⟨i9,uR,h⟩:=ah h
 replace uR:=eG uR
 refine s0 (sf (b':=i64.wrap (((qo)[(i64.wrap (aQ+gr)).toNat]!)+(i64.wrap (((aY)[(aQ).toNat]!)*((a8)[(gr).toNat]!))))) (an.seqW (cI .i64) qo ((i64.wrap (aQ+gr)).toNat) Nv) aR uR) ?_
 refine .nil (hK _ _ (rb hx ?_))
 cases h
 exact PS.l (pe0 h0 [0])
 refine AW.exit ?_
 try dsimp only
 try simp only[bk,reduceIte,Nat.reduceEqDiff,reduceCtorEq]
 cases h
 exact PS.r ⟨by nofun,PE.i (wk h0 [0] (wR rfl (wR rfl (wR rfl (wR rfl wTn)))) (vC rfl wVn) wLn)⟩
 rintro ex tm' hp' ⟨rfl,hw⟩
 try dsimp only
 try simp only[bk,reduceIte,Nat.reduceEqDiff,reduceCtorEq]
 refine AW.weak hw ?_
 iterate 2 refine ra hx ?_
 refine AW.block ?_
 obtain⟨wq,hy,h⟩:=ah h
 refine lp (S:=Int×Int×(List Int)) (X:=(List Int)) (fun (nd,nD,rl)=>[(0,dL (cI .i64) aY),(1,dL (cI .i64) a8),(5,.ow 0 0 1 ((i64.wrap ((i64.wrap (((aY).length:Int)+((a8).length:Int)))+(1:Int))).toNat)),(6,dI .i64 aQ),(8,dI .i64 nd),(9,dI .i64 nD)]) (fun (nd,nD,rl)=>⟨[(0,dC ((cW (cI .i64)).f rl))],[],1⟩) (PE cx (.exit 4) (fun wq=>[(0,dL (cI .i64) aY),(1,dL (cI .i64) a8),(5,.ow 0 0 1 ((i64.wrap ((i64.wrap (((aY).length:Int)+((a8).length:Int)))+(1:Int))).toNat)),(6,dI .i64 aQ)]) fun wq=>⟨[(0,dC ((cW (cI .i64)).f wq))],[],1⟩) hy ?_ ?_ ?_
 exact wk h0 [0] (wR rfl (wR rfl (wR rfl (wR rfl (wR rfl (wR rfl wTn)))))) (vC rfl wVn) wLn
 clear hy h
 rintro⟨nd,nD,rl⟩ y h
 dsimp only[fL] at h
 refine AW.seq (ra hx ?_)
 refine cdh h rfl (fun xz h=>?_) (fun xz h=>?_)
 refine AW.skip (AW.seq (AW.block (rs hx fun K hK=>?_)))
 iterate 2 refine sa ?_
 obtain⟨xw,h⟩:=az h
 have yT:(nD).toNat<(rl).length:=by omega
 refine s1 (om ⟨xw.1,xw.2.1⟩ bK aR) ?_
 refine s1 (a6 (an.seqW (cI .i64) rl ((nD).toNat) yT) aR) ?_
 iterate 2 refine sa ?_
 obtain⟨p7,xp,h⟩:=ah h
 replace xp:=eG xp
 refine s2 (d2:=dI .i64 p7) ke (fK (congrArg (dI .i64) xp)) ?_
 refine .nil (hK _ _ (rs hx fun K hK=>?_))
 iterate 4 refine sa ?_
 obtain⟨uT,h⟩:=az h
 have B4:(nD).toNat<(rl).length:=by omega
 refine s1 (om ⟨uT.1,uT.2.1⟩ bK aR) ?_
 refine s0 (aO (b':=Int.tmod p7 (65536:Int)) (an.seqW (cI .i64) rl ((nD).toNat) B4) aR) ?_
 refine .nil (hK _ _ ?_)
 iterate 2 refine rb hx ?_
 cases h
 exact PS.l (pe0 h0 [0])
 refine AW.exit ?_
 try dsimp only
 try simp only[bk,reduceIte,Nat.reduceEqDiff,reduceCtorEq]
 cases h
 exact PS.r ⟨by nofun,PE.i (wk h0 [0] (wR rfl (wR rfl (wR rfl (wR rfl wTn)))) (vC rfl wVn) wLn)⟩
 rintro ex tm' hp' ⟨rfl,hw⟩
 try dsimp only
 try simp only[bk,reduceIte,Nat.reduceEqDiff,reduceCtorEq]
 refine AW.weak hw (rb hx ?_)
 cases h
 exact PS.l (pe0 h0 [0])
 refine AW.exit ?_
 try dsimp only
 try simp only[bk,reduceIte,Nat.reduceEqDiff,reduceCtorEq]
 cases h
 exact PS.r ⟨by nofun,PE.i (wk h0 [0] (wR rfl wTn) (vC rfl wVn) wLn)⟩
 rintro ex tm' hp' ⟨rfl,hw⟩
 try dsimp only
 try simp only[bk,reduceIte,Nat.reduceEqDiff,reduceCtorEq]
 refine AW.weak hw (rs hx fun K hK=>?_)
 refine sa ?_
 obtain⟨v5,h⟩:=az h
 refine fzO (cI .i64) (n:=(i64.wrap ((i64.wrap (((aY).length:Int)+((a8).length:Int)))+(1:Int))).toNat) 0 [5,70] v5 ?_ (all2 rfl (all1 rfl))
 refine scb h je fun Ly h=>?_
 refine sa ?_
 refine .nil (hK _ _ (AW.ret ?_))
 cases h
 exact rv1
def jG(aY:List Int)(a8:List Int):Int→Option (Int⊕(Bool⊕Unit)):=fun aV=>cnd (decide ((0:Int)≤aV)) (bnd (cZ aY aV) fun x4=>bnd (cZ a8 aV) fun x6=>cnd (decide (x4≠x6)) (bnd (cZ aY aV) fun x9=>bnd (cZ a8 aV) fun t9=>some (.inr (.inl (decide (x9<t9))))) (some (.inl (i64.wrap (aV - (1:Int)))))) (some (.inr (.inr ())))
def mY(aY:List Int)(a8:List Int):Option Bool:=bnd (some (i64.wrap ((max ((aY).length:Int) ((a8).length:Int)) - (1:Int)))) fun x1=>bnd (a7 (jG aY a8) x1) fun y13=>match y13 with| .inl r=>some r| .inr ()=>some false
theorem Dk {aY:List Int}{a8:List Int}{r:Bool}(h:mY aY a8=some r):aB prog 171 [dL (cI .i64) aY,dL (cI .i64) a8] (dB r):=by
 refine bJ (rs:=[.tmp 4]) (fun cx hx h0=>?_) func171
 unfold mY at h
 refine ra hx ?_
 refine AW.seq (rs hx fun K hK=>?_)
 iterate 6 refine sa ?_
 obtain⟨x1,yP,h⟩:=ah h
 replace yP:=eG yP
 refine s2 (d2:=dI .i64 x1) ke (fK (congrArg (dI .i64) yP)) ?_
 refine .nil (hK _ _ (AW.block ?_))
 obtain⟨y,hy,h⟩:=ah h
 refine lp (S:=Int) (X:=Bool⊕Unit) (fun aV=>[(0,dL (cI .i64) aY),(1,dL (cI .i64) a8),(5,dI .i64 aV)]) (fun aV=>⟨[],[],0⟩) (PS (PR [.tmp 4] fun r=>dB r) (PE cx (.exit 0) (fun ()=>[]) fun ()=>⟨[],[],0⟩)) hy ?_ ?_ ?_
 exact wk h0 [] (wR rfl (wR rfl (wR rfl wTn))) wVn wLn
 clear hy h
 rintro aV y h
 dsimp only[jG] at h
 refine AW.seq (ra hx ?_)
 refine cdh h rfl (fun bn h=>?_) (fun bn h=>?_)
 refine AW.skip (AW.seq (AW.block (rs hx fun K hK=>?_)))
 iterate 2 refine sa ?_
 refine scb h fq fun x4 h=>?_
 iterate 2 refine sa ?_
 refine scb h fq fun x6 h=>?_
 refine sa ?_
 refine .nil (hK _ _ (cdh h rfl (fun pg h=>?_) (fun pg h=>?_)))
 refine rs hx fun K hK=>?_
 iterate 2 refine sa ?_
 refine scb h fq fun x9 h=>?_
 iterate 2 refine sa ?_
 refine scb h fq fun t9 h=>?_
 iterate 2 refine sa ?_
 refine .nil (hK _ _ (AW.ret ?_))
 cases h
 refine PS.r ⟨by nofun,PS.l (PR.i ?_)⟩
 exact rv1
 refine AW.skip (rb hx ?_)
 cases h
 exact PS.l (pe0 h0 [])
 refine AW.exit ?_
 try dsimp only
 try simp only[bk,reduceIte,Nat.reduceEqDiff,reduceCtorEq]
 cases h
 exact PS.r ⟨by nofun,PS.r (PE.i (wk h0 [] wTn wVn wLn))⟩
 rcases y with r|⟨⟩
 rintro ex tm' hp' ⟨rfl,hw⟩
 cases h
 exact hw
 rintro ex tm' hp' ⟨rfl,hw⟩
 try dsimp only
 try simp only[bk,reduceIte,Nat.reduceEqDiff,reduceCtorEq]
 refine AW.weak hw (ra hx ?_)
 refine AW.ret ?_
 cases h
 exact rv1
def ie(aY:List Int)(a8:List Int):(List Int)×Int×Int→Option (((List Int)×Int×Int)⊕((List Int))):=fun (cO,bm,dH)=>cnd (decide (dH<((aY).length:Int))) (gd (0≤dH∧dH<((aY).length:Int)) (bnd (cZ a8 dH) fun x4=>bnd (some (i64.wrap ((i64.wrap (((aY)[(dH).toNat]!) - x4)) - bm))) fun x6=>bnd (S:=Int×Int) (cnd (decide (x6<(0:Int))) (some (((1:Int),i64.wrap (x6+(65536:Int))))) (some (((0:Int),x6)))) fun (i7,oO)=>gd ((cO++[oO]).length*8≤140737488355328) (some (.inl (cO++[oO],i7,i64.wrap (dH+(1:Int))))))) (some (.inr cO))
def jS(aY:List Int)(a8:List Int):Option (List Int):=bnd (a7 (ie aY a8) (([]:List Int),(0:Int),(0:Int))) fun bW=>bnd (eE bW) fun i9=>some i9
theorem ug {aY:List Int}{a8:List Int}{r:List Int}(h:jS aY a8=some r):aB prog 172 [dL (cI .i64) aY,dL (cI .i64) a8] (dL (cI .i64) r):=by
 refine bJ (rs:=[.tmp 4]) (fun cx hx h0=>?_) func172
 unfold jS at h
 refine rs hx fun K hK=>?_
 refine s1 (d:=dO 0 (cI .i64) ([]:List Int)) (d8 bK aR) ?_
 refine .nil (hK _ _ (rs hx fun K hK=>?_))
 refine s1 (d:=dO 1 (cI .i64) ([]:List Int)) (d8 bK aR) ?_
 refine .nil (hK _ _ (ra hx ?_))
 refine AW.seq (ra hx ?_)
 refine AW.block ?_
 obtain⟨bW,hy,h⟩:=ah h
 refine lp (S:=(List Int)×Int×Int) (X:=(List Int)) (fun (cO,bm,dH)=>[(0,dL (cI .i64) aY),(1,dL (cI .i64) a8),(5,dO 0 (cI .i64) cO),(6,dI .i64 bm),(7,dI .i64 dH)]) (fun (cO,bm,dH)=>⟨[],[(0,(cO).length,1,3)],1⟩) (PE cx (.exit 0) (fun bW=>[(5,dO 0 (cI .i64) bW)]) fun bW=>⟨[],[(0,(bW).length,1,3)],1⟩) hy ?_ ?_ ?_
 exact wk h0 [1] (wR rfl (wR rfl (wR rfl (wR rfl (wR rfl wTn))))) wVn (wL rfl rfl wLn)
 clear hy h
 rintro⟨cO,bm,dH⟩ y h
 dsimp only[ie] at h
 refine AW.seq (ra hx ?_)
 refine cdh h rfl (fun cQ h=>?_) (fun cQ h=>?_)
 refine AW.skip (AW.seq (AW.block (rsd [158] hx fun K hK=>?_)))
 iterate 2 refine sa ?_
 obtain⟨mR,h⟩:=az h
 have pH:(dH).toNat<(aY).length:=by omega
 refine s1 (eh mR bK aR) ?_
 refine s1 (nf (c:=(cI .i64)) (l:=aY) (n:=(dH).toNat) (o:=0) aR pH) ?_
 iterate 2 refine sa ?_
 refine cqb h fq fun x4 h=>?_
 iterate 3 refine sa ?_
 obtain⟨x6,sZ,h⟩:=ah h
 replace sZ:=eG sZ
 refine s2 (d2:=dI .i64 x6) ke (fK (congrArg (dI .i64) sZ)) ?_
 refine .nil (hK _ _ (ra hx ?_))
 refine AW.seq ?_
 obtain⟨y,hy,h⟩:=ah h
 refine jn ((PE cx .normal (fun (i7,oO)=>[(0,dL (cI .i64) aY),(1,dL (cI .i64) a8),(5,dO 0 (cI .i64) cO),(6,dI .i64 i7),(7,dI .i64 dH),(8,dI .i64 oO)]) fun (i7,oO)=>⟨[],[(0,(cO).length,1,3)],1⟩) y) ?_ ?_
 replace h:=hy
 refine ra hx ?_
 refine cdh h rfl (fun pg h=>?_) (fun pg h=>?_)
 refine ra hx ?_
 refine rb hx ?_
 cases h
 exact pe0 h0 [0]
 refine AW.skip ?_
 cases h
 exact pe0 h0 [0]
 obtain⟨i7,oO⟩:=y
 rintro ex tm' hp' ⟨rfl,hw⟩
 refine AW.weak hw (rq hx fun K hK=>?_)
 iterate 2 refine sa ?_
 refine s1 (d:=dO 1 (cI .i64) [oO]) (jL bK aR) ?_
 obtain⟨Gc,h⟩:=az h
 refine s1 (d:=dO 0 (cI .i64) (cO++[oO])) (j4 bK aR Gc) ?_
 refine sa ?_
 refine .nil (hK _ _ (rb hx ?_))
 cases h
 exact PS.l (pe0 h0 [0])
 refine AW.exit ?_
 try dsimp only
 try simp only[bk,reduceIte,Nat.reduceEqDiff,reduceCtorEq]
 cases h
 exact PS.r ⟨by nofun,PE.i (wk h0 [0] (wR rfl wTn) wVn (wL rfl rfl wLn))⟩
 rintro ex tm' hp' ⟨rfl,hw⟩
 try dsimp only
 try simp only[bk,reduceIte,Nat.reduceEqDiff,reduceCtorEq]
 refine AW.weak hw (rs hx fun K hK=>?_)
 refine sa ?_
 refine scb h je fun i9 h=>?_
 refine sa ?_
 refine .nil (hK _ _ (AW.ret ?_))
 cases h
 exact rv1
def gA(a8:List Int)(pm:List Int):Int×(List Int)→Option ((Int×(List Int))⊕(Int×(List Int))):=fun (l4,Bk)=>bnd (mY pm Bk) fun wA=>cnd wA (bnd (jS Bk a8) fun I7=>some (.inl (i64.wrap (l4 - (1:Int)),I7))) (some (.inr (l4,Bk)))
def gB(aY:List Int)(a8:List Int)(x6:Int):(List Int)×Int×(List Int)→Option (((List Int)×Int×(List Int))⊕((List Int)×(List Int))):=fun (bT,lr,tB)=>cnd (decide ((0:Int)≤lr)) (gd (0≤lr∧lr<((aY).length:Int)) (gd (([(aY)[(lr).toNat]!]++bT).length*8≤140737488355328) (bnd (eE ([(aY)[(lr).toNat]!]++bT)) fun pm=>bnd (gC pm ((a8).length:Int)) fun yH=>bnd (gC pm (i64.wrap (((a8).length:Int) - (1:Int)))) fun p7=>bnd (gC pm (i64.wrap (((a8).length:Int) - (2:Int)))) fun Dd=>gd (x6≠0) (bnd (some (min (65535:Int) (i64.wrap (Int.tdiv (i64.wrap ((i64.wrap ((i64.wrap (yH*(4294967296:Int)))+(i64.wrap (p7*(65536:Int)))))+Dd)) x6)))) fun EU=>bnd (lS a8 [EU]) fun Ly=>bnd (a7 (gA a8 pm) (EU,Ly)) fun (tW,wt)=>gd (0≤lr∧lr<(((((aY).length:Int)).toNat:Nat):Int)∧lr<((tB).length:Int)) (bnd (jS pm wt) fun x35=>some (.inl (x35,i64.wrap (lr - (1:Int)),(tB).set ((lr).toNat) tW))))))) (some (.inr (bT,tB)))
def iU(aY:List Int)(a8:List Int):Option ((List Int)×(List Int)):=gd (0≤((aY).length:Int)∧((aY).length:Int)≤1000000) (gd (0≤i64.wrap (((a8).length:Int) - (1:Int))∧i64.wrap (((a8).length:Int) - (1:Int))<((a8).length:Int)) (bnd (gC a8 (i64.wrap (((a8).length:Int) - (2:Int)))) fun x4=>bnd (some (i64.wrap ((i64.wrap (((a8)[(i64.wrap (((a8).length:Int) - (1:Int))).toNat]!)*(65536:Int)))+x4))) fun x6=>bnd (some (i64.wrap (((aY).length:Int) - (1:Int)))) fun x8=>bnd (a7 (gB aY a8 x6) (([]:List Int),x8,List.replicate (((aY).length:Int)).toNat (0:Int))) fun (wv,tY)=>gd ((((aY).length:Int)).toNat=(tY).length) (bnd (eE tY) fun yf=>some (yf,wv))))
theorem zC {aY:List Int}{a8:List Int}{r:(List Int)×(List Int)}(h:iU aY a8=some r):aB prog 154 [dL (cI .i64) aY,dL (cI .i64) a8] (.tu [dL (cI .i64) r.1,dL (cI .i64) r.2]):=by
 refine bJ (rs:=[.tmp 4,.tmp 5]) (fun cx hx h0=>?_) func154
 unfold iU at h
 refine rs hx fun K hK=>?_
 refine s1 (d:=dO 0 (cI .i64) ([]:List Int)) (d8 bK aR) ?_
 refine s1 (d:=dO 1 (cI .i64) ([]:List Int)) (d8 bK aR) ?_
 refine .nil (hK _ _ (rs hx fun K hK=>?_))
 iterate 2 refine sa ?_
 obtain⟨JJ,h⟩:=az h
 refine q1 (sMk (c:=(cI .i64)) (z0:=(0:Int)) tok JJ bK aR (by first|rfl|kernel_rfl)) ?_
 refine sa ?_
 refine .nil (hK _ _ (ra hx ?_))
 refine rsd [175] hx fun K hK=>?_
 iterate 3 refine sa ?_
 obtain⟨mR,h⟩:=az h
 have pH:(i64.wrap (((a8).length:Int) - (1:Int))).toNat<(a8).length:=by omega
 refine s1 (eh mR bK aR) ?_
 refine s1 (nf (c:=(cI .i64)) (l:=a8) (n:=(i64.wrap (((a8).length:Int) - (1:Int))).toNat) (o:=0) aR pH) ?_
 iterate 4 refine sa ?_
 refine cqb h ry fun x4 h=>?_
 refine sa ?_
 obtain⟨x6,sZ,h⟩:=ah h
 replace sZ:=eG sZ
 refine s2 (d2:=dI .i64 x6) ke (fK (congrArg (dI .i64) sZ)) ?_
 refine .nil (hK _ _ (rs hx fun K hK=>?_))
 refine s1 (d:=dO 3 (cI .i64) ([]:List Int)) (d8 bK aR) ?_
 refine .nil (hK _ _ (AW.seq (rs hx fun K hK=>?_)))
 iterate 3 refine sa ?_
 obtain⟨x8,Lz,h⟩:=ah h
 replace Lz:=eG Lz
 refine s2 (d2:=dI .i64 x8) ke (fK (congrArg (dI .i64) Lz)) ?_
 refine .nil (hK _ _ (AW.block ?_))
 obtain⟨y,hy,h⟩:=ah h
 refine lp (S:=(List Int)×Int×(List Int)) (X:=(List Int)×(List Int)) (fun (bT,lr,tB)=>[(0,dL (cI .i64) aY),(1,dL (cI .i64) a8),(6,.ow 0 0 1 ((((aY).length:Int)).toNat)),(7,dI .i64 ((a8).length:Int)),(8,dI .i64 x6),(9,dL (cI .i64) bT),(10,dI .i64 lr)]) (fun (bT,lr,tB)=>⟨[(0,dC ((cW (cI .i64)).f tB))],[],1⟩) (PE cx (.exit 0) (fun (wv,tY)=>[(6,.ow 0 0 1 ((((aY).length:Int)).toNat)),(9,dL (cI .i64) wv)]) fun (wv,tY)=>⟨[(0,dC ((cW (cI .i64)).f tY))],[],1⟩) hy ?_ ?_ ?_
 exact wk h0 [2] (wR rfl (wR rfl (wR rfl (wR rfl (wR rfl (wT rfl (qd _) rfl rfl (wR rfl wTn))))))) (vC rfl wVn) wLn
 clear hy h
 rintro⟨bT,lr,tB⟩ y h
 dsimp only[gB] at h
 refine AW.seq (ra hx ?_)
 refine cdh h rfl (fun gz h=>?_) (fun gz h=>?_)
 refine AW.skip (AW.seq (AW.block (rs hx fun K hK=>?_)))
 iterate 2 refine sa ?_
 obtain⟨Al,h⟩:=az h
 have Ns:(lr).toNat<(aY).length:=by omega
 refine s1 (eh Al bK aR) ?_
 refine s1 (nf (c:=(cI .i64)) (l:=aY) (n:=(lr).toNat) (o:=0) aR Ns) ?_
 refine s1 (d:=dO 1 (cI .i64) [(aY)[(lr).toNat]!]) (jL bK aR) ?_
 refine sa ?_
 obtain⟨Ak,h⟩:=az h
 refine s1 (d:=dO 1 (cI .i64) ([(aY)[(lr).toNat]!]++bT)) (j4 bK aR Ak) ?_
 refine scb h je fun pm h=>?_
 refine sa ?_
 refine .nil (hK _ _ (rs hx fun K hK=>?_))
 iterate 2 refine sa ?_
 refine scb h ry fun yH h=>?_
 iterate 4 refine sa ?_
 refine scb h ry fun p7 h=>?_
 iterate 5 refine sa ?_
 refine scb h ry fun Dd h=>?_
 iterate 2 refine sa ?_
 obtain⟨DV,h⟩:=az h
 refine s1 (GW DV) ?_
 refine sa ?_
 obtain⟨EU,hx24,h⟩:=ah h
 replace hx24:=eG hx24
 refine s2 (d2:=dI .i64 EU) ke (fK (congrArg (dI .i64) hx24)) ?_
 refine .nil (hK _ _ (rs hx fun K hK=>?_))
 iterate 2 refine sa ?_
 refine s1 (d:=dO 2 (cI .i64) [EU]) (jL bK aR) ?_
 refine scb h BQ fun Ly h=>?_
 refine sa ?_
 refine .nil (hK _ _ (AW.seq (AW.block ?_)))
 obtain⟨y,hy,h⟩:=ah h
 refine lp (S:=Int×(List Int)) (X:=Int×(List Int)) (fun (l4,Bk)=>[(0,dL (cI .i64) aY),(1,dL (cI .i64) a8),(6,.ow 0 0 1 ((((aY).length:Int)).toNat)),(7,dI .i64 ((a8).length:Int)),(8,dI .i64 x6),(9,dL (cI .i64) pm),(10,dI .i64 lr),(11,dI .i64 l4),(12,dL (cI .i64) Bk)]) (fun (l4,Bk)=>⟨[(0,dC ((cW (cI .i64)).f tB))],[],1⟩) (PE cx (.exit 2) (fun (tW,wt)=>[(0,dL (cI .i64) aY),(1,dL (cI .i64) a8),(6,.ow 0 0 1 ((((aY).length:Int)).toNat)),(7,dI .i64 ((a8).length:Int)),(8,dI .i64 x6),(9,dL (cI .i64) pm),(10,dI .i64 lr),(11,dI .i64 tW),(12,dL (cI .i64) wt)]) fun (tW,wt)=>⟨[(0,dC ((cW (cI .i64)).f tB))],[],1⟩) hy ?_ ?_ ?_
 exact wk h0 [0] (wR rfl (wR rfl (wR rfl (wR rfl (wR rfl (wR rfl (wR rfl (wR rfl (wR rfl wTn))))))))) (vC rfl wVn) wLn
 clear hy h
 rintro⟨l4,Bk⟩ y h
 dsimp only[gA] at h
 refine AW.seq (rs hx fun K hK=>?_)
 iterate 2 refine sa ?_
 refine scb h Dk fun wA h=>?_
 refine .nil (hK _ _ (cdh h rfl (fun hb29 h=>?_) (fun hb29 h=>?_)))
 refine AW.skip (AW.block (ra hx ?_))
 refine rq hx fun K hK=>?_
 iterate 2 refine sa ?_
 refine scb h ug fun I7 h=>?_
 refine sa ?_
 refine .nil (hK _ _ ?_)
 cases h
 exact PS.l (pe0 h0 [0])
 refine AW.exit ?_
 try dsimp only
 try simp only[bk,reduceIte,Nat.reduceEqDiff,reduceCtorEq]
 cases h
 exact PS.r ⟨by nofun,PE.i (wk h0 [0] (wR rfl (wR rfl (wR rfl (wR rfl (wR rfl (wR rfl (wR rfl (wR rfl (wR rfl wTn))))))))) (vC rfl wVn) wLn)⟩
 obtain⟨tW,wt⟩:=y
 rintro ex tm' hp' ⟨rfl,hw⟩
 try dsimp only
 try simp only[bk,reduceIte,Nat.reduceEqDiff,reduceCtorEq]
 refine AW.weak hw (rs hx fun K hK=>?_)
 iterate 3 refine sa ?_
 obtain⟨hc33,h⟩:=az h
 have hn34:(lr).toNat<(tB).length:=by omega
 refine s1 (om ⟨hc33.1,hc33.2.1⟩ bK aR) ?_
 refine s0 (aO (b':=tW) (an.seqW (cI .i64) tB ((lr).toNat) hn34) aR) ?_
 refine .nil (hK _ _ (rq hx fun K hK=>?_))
 iterate 2 refine sa ?_
 refine scb h ug fun x35 h=>?_
 refine sa ?_
 refine .nil (hK _ _ (rb hx ?_))
 cases h
 exact PS.l (pe0 h0 [0])
 refine AW.exit ?_
 try dsimp only
 try simp only[bk,reduceIte,Nat.reduceEqDiff,reduceCtorEq]
 cases h
 exact PS.r ⟨by nofun,PE.i (wk h0 [0] (wR rfl (wR rfl wTn)) (vC rfl wVn) wLn)⟩
 obtain⟨wv,tY⟩:=y
 rintro ex tm' hp' ⟨rfl,hw⟩
 try dsimp only
 try simp only[bk,reduceIte,Nat.reduceEqDiff,reduceCtorEq]
 refine AW.weak hw (rs hx fun K hK=>?_)
 refine sa ?_
 obtain⟨hc38,h⟩:=az h
 refine fzO (cI .i64) (n:=(((aY).length:Int)).toNat) 0 [6,81] hc38 ?_ (all2 rfl (all1 rfl))
 refine scb h je fun yf h=>?_
 iterate 3 refine sa ?_
 refine .nil (hK _ _ (AW.ret ?_))
 cases h
 exact rv2
def gW :Int×Int→Option ((Int×Int)⊕Int):=fun (mC,yG)=>cnd (decide (yG≠(0:Int))) (gd (yG≠0) (some (.inl (yG,Int.tmod mC yG)))) (some (.inr mC))
def gV :(List Int)×(List Int)→Option (((List Int)×(List Int))⊕((List Int))):=fun (C4,Bh)=>cnd (decide ((0:Int)<((Bh).length:Int))) (bnd (iU C4 Bh) fun oP=>some (.inl (Bh,oP.2))) (some (.inr C4))
def ob(aY:ar)(a8:ar):Option ar:=bnd (kW aY) fun x1=>bnd (kW a8) fun x3=>bnd (S:=Bool) (cnd x1.2 (some (x3.2)) (some (false))) fun aQ=>cnd aQ (bnd (a7 (gW) (x1.1,x3.1)) fun ww=>bnd (nL ww) fun t9=>bnd (oc t9) fun qq=>some qq) (bnd (S:=Bool) (bnd (db aY) fun uC=>cnd (!uC) (some (true)) (bnd (db a8) fun p7=>some (!p7))) fun l4=>cnd l4 (bnd (kD) fun nq=>some nq) (bnd (dZ aY) fun wB=>bnd (dZ a8) fun x26=>bnd (a7 (gV) (wB,x26)) fun wn=>bnd (eF false wn) fun BD=>some BD))
theorem Fb {aY:ar}{a8:ar}{r:ar}(h:ob aY a8=some r):aB prog 120 [dG ap aY,dG ap a8] (dG ap r):=by
 refine bJ (rs:=[.cell 4 32]) (fun cx hx h0=>?_) func120
 unfold ob at h
 refine rs hx fun K hK=>?_
 iterate 2 refine sa ?_
 refine s1 (bq (F:=ap.f br) aA) ?_
 refine .nil (hK _ _ (rs hx fun K hK=>?_))
 refine s1 (d:=dG ap aY) (aD (an.id _ _) aA) ?_
 refine scb h vu fun x1 h=>?_
 iterate 5 refine sa ?_
 refine .nil (hK _ _ (rs hx fun K hK=>?_))
 refine s1 (d:=dG ap a8) (aD (an.id _ _) aA) ?_
 refine scb h vu fun x3 h=>?_
 iterate 5 refine sa ?_
 refine .nil (hK _ _ ?_)
 iterate 2 refine AW.seq ?_
 obtain⟨aQ,hy,h⟩:=ah h
 refine jn ((PE cx .normal (fun aQ=>[(2,.pt 0 0),(3,.pt 1 0),(4,.pt 2 0),(5,dI .i64 x1.1),(7,dI .i64 x3.1),(27,dB aQ)]) fun aQ=>⟨[(0,dC (ap.f aY)),(1,dC (ap.f a8)),(2,dC (ap.f br))],[],3⟩) aQ) ?_ ?_
 replace h:=hy
 refine rq hx fun K hK=>?_
 iterate 2 refine sa ?_
 rcases bP x1.2 with pI|pI
 replace h:=ba pI h
 refine ga pI ?_
 refine s1 (am pI) ?_
 refine .nil (hK _ _ ?_)
 cases h
 exact pe0 h0 [0,1,2]
 replace h:=bb pI h
 refine aK rfl rfl pI ?_
 refine s1 (ax pI) ?_
 refine .nil (hK _ _ ?_)
 cases h
 exact pe0 h0 [0,1,2]
 rintro ex tm' hp' ⟨rfl,hw⟩
 refine AW.weak hw (cdh h rfl (fun v6 h=>?_) (fun v6 h=>?_))
 refine AW.seq (AW.block ?_)
 obtain⟨ww,hy,h⟩:=ah h
 refine lp (S:=Int×Int) (X:=Int) (fun (mC,yG)=>[(4,.pt 0 0),(5,dI .i64 mC),(7,dI .i64 yG)]) (fun (mC,yG)=>⟨[(0,dC (ap.f br))],[],1⟩) (PE cx (.exit 0) (fun ww=>[(4,.pt 0 0),(5,dI .i64 ww)]) fun ww=>⟨[(0,dC (ap.f br))],[],1⟩) hy ?_ ?_ ?_
 exact wk h0 [2] (wR rfl (wR rfl (wR rfl wTn))) (vC rfl wVn) wLn
 clear hy h
 rintro⟨mC,yG⟩ y h
 dsimp only[gW] at h
 refine AW.seq (ra hx ?_)
 refine cdh h rfl (fun pg h=>?_) (fun pg h=>?_)
 refine AW.skip (AW.block (rs hx fun K hK=>?_))
 iterate 2 refine sa ?_
 obtain⟨hc9,h⟩:=az h
 refine s1 (uB hc9) ?_
 refine sa ?_
 refine .nil (hK _ _ (ra hx ?_))
 refine rb hx ?_
 cases h
 exact PS.l (pe0 h0 [0])
 refine AW.exit ?_
 try dsimp only
 try simp only[bk,reduceIte,Nat.reduceEqDiff,reduceCtorEq]
 cases h
 exact PS.r ⟨by nofun,PE.i (wk h0 [0] (wR rfl (wR rfl wTn)) (vC rfl wVn) wLn)⟩
 rintro ex tm' hp' ⟨rfl,hw⟩
 try dsimp only
 try simp only[bk,reduceIte,Nat.reduceEqDiff,reduceCtorEq]
 refine AW.weak hw (rs hx fun K hK=>?_)
 refine sa ?_
 refine scb h zD fun t9 h=>?_
 refine scb h Fc fun qq h=>?_
 refine s0 (aO (b':=qq) (an.id _ _) aA) ?_
 refine .nil (hK _ _ (AW.ret ?_))
 cases h
 exact rv1
 refine AW.skip ?_
 iterate 2 refine AW.seq ?_
 obtain⟨l4,hy,h⟩:=ah h
 refine jn ((PE cx .normal (fun l4=>[(2,.pt 0 0),(3,.pt 1 0),(4,.pt 2 0),(45,dB l4)]) fun l4=>⟨[(0,dC (ap.f aY)),(1,dC (ap.f a8)),(2,dC (ap.f br))],[],3⟩) l4) ?_ ?_
 replace h:=hy
 refine rq hx fun K hK=>?_
 refine s1 (d:=dG ap aY) (aD (an.id _ _) aA) ?_
 refine scb h gY fun uC h=>?_
 iterate 2 refine sa ?_
 rcases bP (!uC) with xy|xy
 replace h:=ba xy h
 iterate 3 refine aK rfl rfl xy ?_
 refine s1 (am xy) ?_
 refine .nil (hK _ _ ?_)
 cases h
 exact pe0 h0 [0,1,2]
 replace h:=bb xy h
 refine g1 (d:=dG ap a8) xy (aD (an.id _ _) aA) ?_
 obtain⟨p7,xp,h⟩:=ah h
 refine g1 xy (c9 rfl (gY xp) (by simp only[e8,gL,js,lE,iC,iB];exact bh _ _) (lA (fb _ _) lAn) (.inl rfl)) ?_
 refine ga xy ?_
 refine s1 (ax xy) ?_
 refine .nil (hK _ _ ?_)
 cases h
 exact pe0 h0 [0,1,2]
 rintro ex tm' hp' ⟨rfl,hw⟩
 refine AW.weak hw (cdh h rfl (fun D4 h=>?_) (fun D4 h=>?_))
 refine rs hx fun K hK=>?_
 refine scb h sM fun nq h=>?_
 refine s0 (aO (b':=nq) (an.id _ _) aA) ?_
 refine .nil (hK _ _ (AW.ret ?_))
 cases h
 exact rv1
 refine AW.skip (rs hx fun K hK=>?_)
 refine s1 (d:=dG ap aY) (aD (an.id _ _) aA) ?_
 refine scb h kj fun wB h=>?_
 refine sa ?_
 refine .nil (hK _ _ (rs hx fun K hK=>?_))
 refine s1 (d:=dG ap a8) (aD (an.id _ _) aA) ?_
 refine scb h kj fun x26 h=>?_
 refine sa ?_
 refine .nil (hK _ _ (AW.seq (AW.block ?_)))
 obtain⟨wn,hy,h⟩:=ah h
 refine lp (S:=(List Int)×(List Int)) (X:=(List Int)) (fun (C4,Bh)=>[(4,.pt 0 0),(10,dL (cI .i64) C4),(11,dL (cI .i64) Bh)]) (fun (C4,Bh)=>⟨[(0,dC (ap.f br))],[],1⟩) (PE cx (.exit 2) (fun wn=>[(4,.pt 0 0),(10,dL (cI .i64) wn)]) fun wn=>⟨[(0,dC (ap.f br))],[],1⟩) hy ?_ ?_ ?_
 exact wk h0 [2] (wR rfl (wR rfl (wR rfl wTn))) (vC rfl wVn) wLn
 clear hy h
 rintro⟨C4,Bh⟩ y h
 dsimp only[gV] at h
 refine AW.seq (ra hx ?_)
 refine cdh h rfl (fun hb28 h=>?_) (fun hb28 h=>?_)
 refine AW.skip (AW.block (rs hx fun K hK=>?_))
 iterate 2 refine sa ?_
 refine scb h zC fun oP h=>?_
 iterate 5 refine sa ?_
 refine .nil (hK _ _ (ra hx ?_))
 refine rb hx ?_
 cases h
 exact PS.l (pe0 h0 [0])
 refine AW.exit ?_
 try dsimp only
 try simp only[bk,reduceIte,Nat.reduceEqDiff,reduceCtorEq]
 cases h
 exact PS.r ⟨by nofun,PE.i (wk h0 [0] (wR rfl (wR rfl wTn)) (vC rfl wVn) wLn)⟩
 rintro ex tm' hp' ⟨rfl,hw⟩
 try dsimp only
 try simp only[bk,reduceIte,Nat.reduceEqDiff,reduceCtorEq]
 refine AW.weak hw (rs hx fun K hK=>?_)
 refine sa ?_
 refine scb h mH fun BD h=>?_
 refine s0 (aO (b':=BD) (an.id _ _) aA) ?_
 refine .nil (hK _ _ (AW.ret ?_))
 cases h
 exact rv1
def m3(bj:ar):Option Int:=bnd (S:=Bool) (bnd (db bj) fun x1=>cnd (!x1) (some (true)) (bnd (dZ bj) fun x4=>some (decide (((x4).length:Int)=(0:Int))))) fun bQ=>cnd bQ (some (0:Int)) (cnd bj.vNeg (some (-1:Int)) (some (1:Int)))
theorem Dl {bj:ar}{r:Int}(h:m3 bj=some r):aB prog 119 [dG ap bj] (dI .i64 r):=by
 refine bJ (rs:=[.tmp 2]) (fun cx hx h0=>?_) func119
 unfold m3 at h
 refine ra hx ?_
 iterate 2 refine AW.seq ?_
 obtain⟨bQ,hy,h⟩:=ah h
 refine jn ((PE cx .normal (fun bQ=>[(1,.pt 0 0),(11,dB bQ)]) fun bQ=>⟨[(0,dC (ap.f bj))],[],1⟩) bQ) ?_ ?_
 replace h:=hy
 refine rq hx fun K hK=>?_
 refine s1 (d:=dG ap bj) (aD (an.id _ _) aA) ?_
 refine scb h gY fun x1 h=>?_
 iterate 2 refine sa ?_
 rcases bP (!x1) with bn|bn
 replace h:=ba bn h
 iterate 4 refine aK rfl rfl bn ?_
 refine s1 (am bn) ?_
 refine .nil (hK _ _ ?_)
 cases h
 exact pe0 h0 [0]
 replace h:=bb bn h
 refine g1 (d:=dG ap bj) bn (aD (an.id _ _) aA) ?_
 obtain⟨x4,uQ,h⟩:=ah h
 refine g1 bn (c9 rfl (kj uQ) (by simp only[e8,gL,js,lE,iC,iB];exact bh _ _) (lA (fb _ _) lAn) (.inl rfl)) ?_
 iterate 2 refine ga bn ?_
 refine s1 (ax bn) ?_
 refine .nil (hK _ _ ?_)
 cases h
 exact pe0 h0 [0]
 rintro ex tm' hp' ⟨rfl,hw⟩
 refine AW.weak hw (cdh h rfl (fun v6 h=>?_) (fun v6 h=>?_))
 refine ra hx ?_
 refine AW.ret ?_
 cases h
 exact rv1
 refine AW.skip (AW.seq (rs hx fun K hK=>?_))
 refine sa ?_
 refine s1 (a6 (bp bj) ge) ?_
 refine .nil (hK _ _ (cdh h rfl (fun pg h=>?_) (fun pg h=>?_)))
 refine ra hx ?_
 refine AW.ret ?_
 cases h
 exact rv1
 refine AW.skip (ra hx ?_)
 refine AW.ret ?_
 cases h
 exact rv1
def oa(fV:List Int)(eK:Int):Option Int:=bnd (cZ fV (i64.wrap (Int.tdiv eK (16:Int)))) fun x1=>gd (0≤Int.tmod eK (16:Int)) (some (Int.tmod (kA .i64 x1 (Int.tmod eK (16:Int))) (2:Int)))
theorem Fa {fV:List Int}{eK:Int}{r:Int}(h:oa fV eK=some r):aB prog 125 [dL (cI .i64) fV,dI .i64 eK] (dI .i64 r):=by
 refine bJ (rs:=[.tmp 4]) (fun cx hx h0=>?_) func125
 unfold oa at h
 refine ra hx ?_
 refine rs hx fun K hK=>?_
 iterate 3 refine sa ?_
 refine scb h fq fun x1 h=>?_
 iterate 2 refine sa ?_
 obtain⟨K6,h⟩:=az h
 refine s1 (OT K6) ?_
 iterate 2 refine sa ?_
 refine .nil (hK _ _ (AW.ret ?_))
 cases h
 exact rv1
def kX(x4:List Int):Int→Option (Int⊕Int):=fun dh=>bnd (S:=Bool) (cnd (decide ((0:Int)<dh)) (bnd (oa x4 (i64.wrap (dh - (1:Int)))) fun x9=>some (decide (x9=(0:Int)))) (some (false))) fun mB=>cnd mB (some (.inl (i64.wrap (dh - (1:Int))))) (some (.inr dh))
def eb(bj:ar):Option Int:=bnd (db bj) fun x1=>cnd (!x1) (some (0:Int)) (bnd (dZ bj) fun x4=>bnd (some (i64.wrap ((16:Int)*((x4).length:Int)))) fun x6=>bnd (a7 (kX x4) x6) fun se=>some se)
theorem vw {bj:ar}{r:Int}(h:eb bj=some r):aB prog 83 [dG ap bj] (dI .i64 r):=by
 refine bJ (rs:=[.tmp 2]) (fun cx hx h0=>?_) func83
 unfold eb at h
 refine ra hx ?_
 refine AW.seq (rs hx fun K hK=>?_)
 refine s1 (d:=dG ap bj) (aD (an.id _ _) aA) ?_
 refine scb h gY fun x1 h=>?_
 refine sa ?_
 refine .nil (hK _ _ (cdh h rfl (fun bn h=>?_) (fun bn h=>?_)))
 refine ra hx ?_
 refine AW.ret ?_
 cases h
 exact rv1
 refine AW.skip (rs hx fun K hK=>?_)
 refine s1 (d:=dG ap bj) (aD (an.id _ _) aA) ?_
 refine scb h kj fun x4 h=>?_
 refine sa ?_
 refine .nil (hK _ _ (rs hx fun K hK=>?_))
 iterate 3 refine sa ?_
 obtain⟨x6,sZ,h⟩:=ah h
 replace sZ:=eG sZ
 refine s2 (d2:=dI .i64 x6) ke (fK (congrArg (dI .i64) sZ)) ?_
 refine .nil (hK _ _ (AW.seq (AW.block ?_)))
 obtain⟨se,hy,h⟩:=ah h
 refine lp (S:=Int) (X:=Int) (fun dh=>[(3,dL (cI .i64) x4),(4,dI .i64 dh)]) (fun dh=>⟨[],[],0⟩) (PE cx (.exit 0) (fun se=>[(4,dI .i64 se)]) fun se=>⟨[],[],0⟩) hy ?_ ?_ ?_
 exact wk h0 [] (wR rfl (wR rfl wTn)) wVn wLn
 clear hy h
 rintro dh y h
 dsimp only[kX] at h
 iterate 2 refine AW.seq ?_
 obtain⟨mB,hy,h⟩:=ah h
 refine jn ((PE cx .normal (fun mB=>[(3,dL (cI .i64) x4),(4,dI .i64 dh),(21,dB mB)]) fun mB=>⟨[],[],0⟩) mB) ?_ ?_
 replace h:=hy
 refine rq hx fun K hK=>?_
 iterate 3 refine sa ?_
 rcases bP (decide ((0:Int)<dh)) with pg|pg
 replace h:=ba pg h
 iterate 3 refine ga pg ?_
 obtain⟨x9,xr,h⟩:=ah h
 refine g1 pg (c9 rfl (Fa xr) rfl (lA (av _) (lA (av _) lAn)) (.inl rfl)) ?_
 refine ga pg ?_
 refine s1 (am pg) ?_
 refine .nil (hK _ _ ?_)
 cases h
 exact pe0 h0 []
 replace h:=bb pg h
 iterate 5 refine aK rfl rfl pg ?_
 refine s1 (ax pg) ?_
 refine .nil (hK _ _ ?_)
 cases h
 exact pe0 h0 []
 rintro ex tm' hp' ⟨rfl,hw⟩
 refine AW.weak hw (cdh h rfl (fun td h=>?_) (fun td h=>?_))
 refine AW.skip (AW.block (rb hx ?_))
 cases h
 exact PS.l (pe0 h0 [])
 refine AW.exit ?_
 try dsimp only
 try simp only[bk,reduceIte,Nat.reduceEqDiff,reduceCtorEq]
 cases h
 exact PS.r ⟨by nofun,PE.i (wk h0 [] (wR rfl wTn) wVn wLn)⟩
 rintro ex tm' hp' ⟨rfl,hw⟩
 try dsimp only
 try simp only[bk,reduceIte,Nat.reduceEqDiff,reduceCtorEq]
 refine AW.weak hw (ra hx ?_)
 refine AW.ret ?_
 cases h
 exact rv1
end
end Go.Proofs.YtgfcnncojhkcoaaGreat
