/-
  Lemmas, part 3. Conditions: none.
-/
import Derived.Test.YtgfcnncojhkcoaaGreatY2
set_option linter.all false
set_option maxRecDepth 100000
set_option maxHeartbeats 4000000
namespace Go.Proofs.YtgfcnncojhkcoaaGreat
open Go.RowKit Go.IntKind Tryz
noncomputable section
def ie(aW:aq)(a6:aq)(x8:Int)(bm:Int):Int×Int×(Vector Int 32)→Option ((Int×Int×(Vector Int 32))⊕(Int×(Vector Int 32))):=fun (Dm,mh,wV)=>cnd (decide (mh<x8)) (gd (0≤bm∧bm<16) (gd (0≤mh∧mh<16) (gd (0≤i64.wrap (bm+mh)∧i64.wrap (bm+mh)<32) (bnd (some (u64.wrap (Dm+(u64.wrap ((u64.wrap ((u64.wrap ((aW.vW)[(bm).toNat]!))*(u64.wrap ((a6.vW)[(mh).toNat]!))))+(u64.wrap ((wV)[(i64.wrap (bm+mh)).toNat]!))))))) fun pK=>gd (0≤i64.wrap (bm+mh)∧i64.wrap (bm+mh)<32) (bnd (some ((wV).set! (i64.wrap (bm+mh)).toNat (u32.wrap (pK)))) fun sL=>some (.inl (lf .u64 pK (32:Int),i64.wrap (mh+(1:Int)),sL))))))) (some (.inr (Dm,wV)))
def ig(aW:aq)(a6:aq)(x6:Int)(x8:Int):Int×(Vector Int 32)→Option ((Int×(Vector Int 32))⊕((Vector Int 32))):=fun (bm,j5)=>cnd (decide (bm<x6)) (bnd (a7 (ie aW a6 x8 bm) ((0:Int),(0:Int),j5)) fun (t9,t8)=>gd (0≤i64.wrap (bm+x8)∧i64.wrap (bm+x8)<32) (bnd (some ((t8).set! (i64.wrap (bm+x8)).toNat (u32.wrap (t9)))) fun w9=>some (.inl (i64.wrap (bm+(1:Int)),w9)))) (some (.inr j5))
def iA(aW:aq)(a6:aq):Option aq:=bnd (cN [aW,a6]) fun x1=>cnd (!x1) (bnd (dT) fun x4=>some x4) (bnd (eo aW.vW) fun x6=>bnd (eo a6.vW) fun x8=>bnd (a7 (ig aW a6 x6 x8) ((0:Int),(Vector.replicate 32 (0:Int)))) fun dK=>cnd (decide (¬(vOf 16 (List.take 16 (List.drop 16 (dK).toList))=#v[(0:Int),0,0,0,0,0,0,0,0,0,0,0,0,0,0,0]))) (bnd (dT) fun x31=>some x31) (bnd (bE (!(aW.vNeg == a6.vNeg)) (vOf 16 (List.take 16 (List.drop 0 (dK).toList)))) fun zX=>some zX))
theorem kP {aW:aq}{a6:aq}{r:aq}(h:iA aW a6=some r):aC prog 90 [dG ap aW,dG ap a6] (dG ap r):=by
 refine bQ (rs:=[.cell 4 32]) (fun cx hx h0=>?_) func90
 unfold iA at h
 refine rs hx fun K hK=>?_
 iterate 2 refine sa ?_
 refine s1 (bp (F:=ap.f bz) ax) ?_
 refine .nil (hK _ _ (AW.seq (rs hx fun K hK=>?_)))
 refine s1 (d:=dG ap aW) (aE (ao.id _ _) ax) ?_
 refine s1 (d:=dG ap a6) (aE (ao.id _ _) ax) ?_
 refine s1 (qm ([aW,a6]:List aq) ap pP ax) ?_
 refine scb h gl fun x1 h=>?_
 refine sa ?_
 refine .nil (hK _ _ (cdh h rfl (fun bo h=>?_) (fun bo h=>?_)))
 refine rs hx fun K hK=>?_
 refine scb h gB fun x4 h=>?_
 refine s0 (aO (b':=x4) (ao.id _ _) ax) ?_
 refine .nil (hK _ _ (AW.ret ?_))
 cases h
 exact rv1
 refine AW.skip (rs hx fun K hK=>?_)
 refine s1 (bp (F:=(cA 32 (cI .u32)).f (Vector.replicate 32 (0:Int))) uV) ?_
 refine .nil (hK _ _ (rsd [128] hx fun K hK=>?_))
 refine sa ?_
 refine s1 (aE (aT aW) aF) ?_
 refine cqb h jE fun x6 h=>?_
 refine sa ?_
 refine s1 (aE (aT a6) aF) ?_
 refine cqb h jE fun x8 h=>?_
 iterate 2 refine sa ?_
 refine .nil (hK _ _ (AW.seq (ra hx ?_)))
 refine AW.block ?_
 obtain⟨dK,hy,h⟩:=ah h
 refine lp (S:=Int×(Vector Int 32)) (X:=(Vector Int 32)) (fun (bm,j5)=>[(2,.pt 0 0),(3,.pt 1 0),(4,.pt 2 0),(5,.pt 3 0),(7,dI .i64 x8),(23,dI .i64 x6),(24,dI .i64 bm)]) (fun (bm,j5)=>⟨[(0,dC (ap.f aW)),(1,dC (ap.f a6)),(2,dC (ap.f bz)),(3,dC ((cA 32 (cI .u32)).f j5))],[],4⟩) (PE cx (.exit 0) (fun dK=>[(2,.pt 0 0),(3,.pt 1 0),(4,.pt 2 0),(5,.pt 3 0)]) fun dK=>⟨[(0,dC (ap.f aW)),(1,dC (ap.f a6)),(2,dC (ap.f bz)),(3,dC ((cA 32 (cI .u32)).f dK))],[],4⟩) hy ?_ ?_ ?_
 exact wk h0 [0,1,2,4] (wR rfl (wR rfl (wR rfl (wR rfl (wR rfl (wR rfl (wR rfl wTn))))))) (vC rfl (vC rfl (vC rfl (vC rfl wVn)))) wLn
 clear hy h
 rintro⟨bm,j5⟩ y h
 dsimp only[ig] at h
 refine ra hx ?_
 refine AW.seq (cdh h rfl (fun fa h=>?_) (fun fa h=>?_))
 refine AW.skip (AW.seq (AW.block ?_))
 iterate 2 refine ra hx ?_
 refine AW.seq (ra hx ?_)
 refine AW.block ?_
 obtain⟨y,hy,h⟩:=ah h
 refine lp (S:=Int×Int×(Vector Int 32)) (X:=Int×(Vector Int 32)) (fun (Dm,mh,wV)=>[(2,.pt 0 0),(3,.pt 1 0),(4,.pt 2 0),(5,.pt 3 0),(7,dI .i64 x8),(8,dI .i64 bm),(9,dI .u64 Dm),(23,dI .i64 x6),(24,dI .i64 bm),(27,dI .i64 x8),(28,dI .i64 mh)]) (fun (Dm,mh,wV)=>⟨[(0,dC (ap.f aW)),(1,dC (ap.f a6)),(2,dC (ap.f bz)),(3,dC ((cA 32 (cI .u32)).f wV))],[],4⟩) (PE cx (.exit 2) (fun (t9,t8)=>[(2,.pt 0 0),(3,.pt 1 0),(4,.pt 2 0),(5,.pt 3 0),(7,dI .i64 x8),(8,dI .i64 bm),(9,dI .u64 t9),(23,dI .i64 x6),(24,dI .i64 bm)]) fun (t9,t8)=>⟨[(0,dC (ap.f aW)),(1,dC (ap.f a6)),(2,dC (ap.f bz)),(3,dC ((cA 32 (cI .u32)).f t8))],[],4⟩) hy ?_ ?_ ?_
 exact wk h0 [0,1,2,3] (wR rfl (wR rfl (wR rfl (wR rfl (wR rfl (wR rfl (wR rfl (wR rfl (wR rfl (wR rfl (wR rfl wTn))))))))))) (vC rfl (vC rfl (vC rfl (vC rfl wVn)))) wLn
 clear hy h
 rintro⟨Dm,mh,wV⟩ y h
 dsimp only[ie] at h
 refine ra hx ?_
 refine AW.seq (cdh h rfl (fun N9 h=>?_) (fun N9 h=>?_))
 refine AW.skip (AW.seq (AW.block (ra hx ?_)))
 refine rsd [] hx fun K hK=>?_
 iterate 3 refine sa ?_
 obtain⟨N8,h⟩:=aD h
 have Ic:(bm).toNat<16:=by omega
 refine s1 (ck N8 aF aI) ?_
 refine s1 (a4 (ao.comp (aT aW) (ao.vec (cI .u32) aW.vW (bm).toNat Ic) (fun _=>rfl)) aI) ?_
 iterate 3 refine sa ?_
 obtain⟨hc14,h⟩:=aD h
 have NK:(mh).toNat<16:=by omega
 refine s1 (ck hc14 aF aI) ?_
 refine s1 (a4 (ao.comp (aT a6) (ao.vec (cI .u32) a6.vW (mh).toNat NK) (fun _=>rfl)) aI) ?_
 iterate 5 refine sa ?_
 obtain⟨Gs,h⟩:=aD h
 have Ib:(i64.wrap (bm+mh)).toNat<32:=by omega
 refine s1 (ck Gs uV aI) ?_
 refine s1 (a4 (ao.comp (ao.id _ _) (ao.vec (cI .u32) wV (i64.wrap (bm+mh)).toNat Ib) (fun _=>rfl)) aI) ?_
 iterate 3 refine sa ?_
 obtain⟨pK,xR,h⟩:=ah h
 replace xR:=cv xR
 refine s2 (d2:=dI .u64 pK) kO (fR (congrArg (dI .u64) xR)) ?_
 refine .nil (hK _ _ (rs hx fun K hK=>?_))
 iterate 5 refine sa ?_
 obtain⟨Ln,h⟩:=aD h
 have NJ:(i64.wrap (bm+mh)).toNat<32:=by omega
 refine s1 (ck Ln uV aI) ?_
 obtain⟨sL,hx23,h⟩:=ah h
 replace hx23:=cv hx23
 refine s0 (jT (b':=u32.wrap (pK)) (ao.comp (ao.id _ _) (ao.vec (cI .u32) wV (i64.wrap (bm+mh)).toNat NJ) (fun _=>rfl)) aI hx23) ?_
 refine .nil (hK _ _ ?_)
 iterate 2 refine rb hx ?_
 cases h
 exact PS.l (pe0 h0 [0,1,2,3])
 refine AW.exit ?_
 try dsimp only
 try simp only[aN,reduceIte,Nat.reduceEqDiff,reduceCtorEq]
 cases h
 exact PS.r ⟨by nofun,PE.i (wk h0 [0,1,2,3] (wR rfl (wR rfl (wR rfl (wR rfl (wR rfl (wR rfl (wR rfl (wR rfl (wR rfl wTn))))))))) (vC rfl (vC rfl (vC rfl (vC rfl wVn)))) wLn)⟩
 obtain⟨t9,t8⟩:=y
 rintro ex tm' hp' ⟨rfl,hw⟩
 try dsimp only
 try simp only[aN,reduceIte,Nat.reduceEqDiff,reduceCtorEq]
 refine AW.weak hw (rq hx fun K hK=>?_)
 iterate 5 refine sa ?_
 obtain⟨hc25,h⟩:=aD h
 have NI:(i64.wrap (bm+x8)).toNat<32:=by omega
 refine s1 (ck hc25 uV aI) ?_
 obtain⟨w9,H2,h⟩:=ah h
 replace H2:=cv H2
 refine s0 (jT (b':=u32.wrap (t9)) (ao.comp (ao.id _ _) (ao.vec (cI .u32) t8 (i64.wrap (bm+x8)).toNat NI) (fun _=>rfl)) aI H2) ?_
 refine .nil (hK _ _ (rb hx ?_))
 cases h
 exact PS.l (pe0 h0 [0,1,2,3])
 refine AW.exit ?_
 try dsimp only
 try simp only[aN,reduceIte,Nat.reduceEqDiff,reduceCtorEq]
 cases h
 exact PS.r ⟨by nofun,PE.i (wk h0 [0,1,2,3] (wR rfl (wR rfl (wR rfl (wR rfl wTn)))) (vC rfl (vC rfl (vC rfl (vC rfl wVn)))) wLn)⟩
 rintro ex tm' hp' ⟨rfl,hw⟩
 try dsimp only
 try simp only[aN,reduceIte,Nat.reduceEqDiff,reduceCtorEq]
 refine AW.weak hw (AW.seq (rs hx fun K hK=>?_))
 refine q1 (slA (n:=32) (l:=(16:Int)) (h:=(32:Int)) tok (by decide) uV aI ⟨_,rfl⟩ rfl) ?_
 refine q1 (sPtr tok rfl aF) ?_
 refine s1 (d:=dG al_cV (vOf 16 (List.take 16 (List.drop 16 (dK).toList)))) (aE (ao.sub (o:=16) 16 (cI .u32) dK 16 (by decide) (by first|rfl|decide)) aF) ?_
 refine s1 (d:=dG al_cV (#v[(0:Int),0,0,0,0,0,0,0,0,0,0,0,0,0,0,0])) (lx aF aI) ?_
 refine s1 (sw tok 2 (by decide) (EqC.arr (EqC.int (d:=0) aI) aF aI) aF) ?_
 refine .nil (hK _ _ (cdh h rfl (fun hb30 h=>?_) (fun hb30 h=>?_)))
 refine rs hx fun K hK=>?_
 refine scb h gB fun x31 h=>?_
 refine s0 (aO (b':=x31) (ao.id _ _) ax) ?_
 refine .nil (hK _ _ (AW.ret ?_))
 cases h
 exact rv1
 refine AW.skip (rsd [111] hx fun K hK=>?_)
 refine sa ?_
 refine s1 (a4 (bu aW) gp) ?_
 refine sa ?_
 refine s1 (a4 (bu a6) gp) ?_
 refine sa ?_
 refine q1 (slA (n:=32) (l:=(0:Int)) (h:=(16:Int)) tok (by decide) uV aI rfl ⟨_,rfl⟩) ?_
 refine q1 (sPtr tok rfl aF) ?_
 refine s1 (d:=dG al_cV (vOf 16 (List.take 16 (List.drop 0 (dK).toList)))) (aE (ao.sub (o:=0) 16 (cI .u32) dK 0 (by decide) (by first|rfl|decide)) aF) ?_
 obtain⟨zX,H0,h⟩:=ah h
 refine sq tok (cT H0) (by simp only[cp,dh,jy,fO,dX,dW];exact⟨rfl,bc _ _⟩) (lA (an _) (lA (fm _ _) lAn)) (.inl (gP _ _)) ?_
 refine s0 (aO (b':=zX) (ao.id _ _) ax) ?_
 refine .nil (hK _ _ (AW.ret ?_))
 cases h
 exact rv1
def fh(bn:Int):Option Int:=bnd (lI bn) fun x1=>some (i64.wrap ((32:Int) - x1))
theorem sM {bn:Int}{r:Int}(h:fh bn=some r):aC prog 164 [dI .u32 bn] (dI .i64 r):=by
 refine bQ (rs:=[.tmp 2]) (fun cx hx h0=>?_) func164
 unfold fh at h
 refine ra hx ?_
 refine rs hx fun K hK=>?_
 refine sa ?_
 refine scb h v8 fun x1 h=>?_
 iterate 2 refine sa ?_
 refine .nil (hK _ _ (AW.ret ?_))
 cases h
 exact rv1
def iY(mR:Vector Int 16)(c8:Int)(jK:Int)(bJ:Vector Int 17)(x9:Int):Int×Int→Option ((Int×Int)⊕Int):=fun (cR,bq)=>bnd (S:=Bool) (cnd (decide (bq<(4294967296:Int))) (cnd (decide ((4294967296:Int)≤cR)) (some (true)) (gd (0≤i64.wrap (c8 - (2:Int))∧i64.wrap (c8 - (2:Int))<16) (gd (0≤i64.wrap ((i64.wrap (jK+c8)) - (2:Int))∧i64.wrap ((i64.wrap (jK+c8)) - (2:Int))<17) (some (decide ((ior .u64 (u9 .u64 bq (32:Int)) (u64.wrap ((bJ)[(i64.wrap ((i64.wrap (jK+c8)) - (2:Int))).toNat]!)))<(u64.wrap (cR*(u64.wrap ((mR)[(i64.wrap (c8 - (2:Int))).toNat]!)))))))))) (some (false))) fun g8=>cnd g8 (some (.inl (u64.wrap (cR - (1:Int)),u64.wrap (bq+x9)))) (some (.inr cR))
def ic(mR:Vector Int 16)(c8:Int)(jK:Int)(bJ:Vector Int 17):Option Int:=gd (0≤i64.wrap (jK+c8)∧i64.wrap (jK+c8)<17) (gd (0≤i64.wrap ((i64.wrap (jK+c8)) - (1:Int))∧i64.wrap ((i64.wrap (jK+c8)) - (1:Int))<17) (bnd (some (ior .u64 (u9 .u64 (u64.wrap ((bJ)[(i64.wrap (jK+c8)).toNat]!)) (32:Int)) (u64.wrap ((bJ)[(i64.wrap ((i64.wrap (jK+c8)) - (1:Int))).toNat]!)))) fun x5=>gd (0≤i64.wrap (c8 - (1:Int))∧i64.wrap (c8 - (1:Int))<16) (bnd (some (u64.wrap ((mR)[(i64.wrap (c8 - (1:Int))).toNat]!))) fun x9=>gd (x9≠0) (gd (x9≠0) (bnd (a7 (iY mR c8 jK bJ x9) (u64.wrap (Int.tdiv x5 x9),Int.tmod x5 x9)) fun bY=>some bY)))))
theorem zk {mR:Vector Int 16}{c8:Int}{jK:Int}{bJ:Vector Int 17}{r:Int}(h:ic mR c8 jK bJ=some r):HC prog 166 [.pt 0 0,dG al_cV mR,dI .i64 c8,dI .i64 jK] ⟨[(0,dC ((cA 17 (cI .u32)).f bJ))],[],1⟩ (dI .u64 r) ⟨[(0,dC ((cA 17 (cI .u32)).f bJ))],[],1⟩:=by
 refine HC.of (rs:=[.tmp 8]) tok func166 rfl rfl (bg rfl) rfl (fun cx hx h1 hok=>?_)
 have h0:cx.hp0.next=1:=by rw[h1]
 simp only[ee,Nat.reduceAdd,br]
 unfold ic at h
 refine ra hx ?_
 refine rsd [] hx fun K hK=>?_
 iterate 5 refine sa ?_
 obtain⟨JX,h⟩:=aD h
 have Gp:(i64.wrap (jK+c8)).toNat<17:=by omega
 refine s1 (ck JX lS aI) ?_
 refine s1 (a4 (ao.comp (ao.id _ _) (ao.vec (cI .u32) bJ (i64.wrap (jK+c8)).toNat Gp) (fun _=>rfl)) aI) ?_
 iterate 8 refine sa ?_
 obtain⟨N6,h⟩:=aD h
 have hn4:(i64.wrap ((i64.wrap (jK+c8)) - (1:Int))).toNat<17:=by omega
 refine s1 (ck N6 lS aI) ?_
 refine s1 (a4 (ao.comp (ao.id _ _) (ao.vec (cI .u32) bJ (i64.wrap ((i64.wrap (jK+c8)) - (1:Int))).toNat hn4) (fun _=>rfl)) aI) ?_
 iterate 2 refine sa ?_
 obtain⟨x5,D5,h⟩:=ah h
 replace D5:=cv D5
 refine s2 (d2:=dI .u64 x5) kO (fR (congrArg (dI .u64) D5)) ?_
 refine .nil (hK _ _ (rs hx fun K hK=>?_))
 iterate 2 refine sa ?_
 obtain⟨N5,h⟩:=aD h
 have NG:(i64.wrap (c8 - (1:Int))).toNat<16:=by omega
 refine s1 (ck N5 aF aI) ?_
 refine s1 (a4 (ao.comp (ao.id _ _) (ao.vec (cI .u32) mR (i64.wrap (c8 - (1:Int))).toNat NG) (fun _=>rfl)) aI) ?_
 refine sa ?_
 obtain⟨x9,xT,h⟩:=ah h
 replace xT:=cv xT
 refine s2 (d2:=dI .u64 x9) kO (fR (congrArg (dI .u64) xT)) ?_
 refine .nil (hK _ _ (rsd [] hx fun K hK=>?_))
 iterate 2 refine sa ?_
 obtain⟨Ij,h⟩:=aD h
 refine s1 (G7 Ij) ?_
 iterate 2 refine sa ?_
 obtain⟨N8,h⟩:=aD h
 refine s1 (Dp N8) ?_
 iterate 2 refine sa ?_
 refine .nil (hK _ _ (AW.seq (AW.block ?_)))
 obtain⟨bY,hy,h⟩:=ah h
 refine lp (S:=Int×Int) (X:=Int) (fun (cR,bq)=>[(0,.pt 0 0),(2,dI .i64 c8),(3,dI .i64 jK),(5,.pt 1 0),(10,dI .u64 x9),(11,dI .u64 cR),(12,dI .u64 bq)]) (fun (cR,bq)=>⟨[(0,dC ((cA 17 (cI .u32)).f bJ)),(1,dC (al_cV.f mR))],[],2⟩) (PE cx (.exit 0) (fun bY=>[(11,dI .u64 bY)]) fun bY=>⟨[(0,dC ((cA 17 (cI .u32)).f bJ))],[],1⟩) hy ?_ ?_ ?_
 exact wkN h0 [1] (wR rfl (wR rfl (wR rfl (wR rfl (wR rfl (wR rfl (wR rfl wTn))))))) (vC rfl (vC rfl wVn)) wLn
 clear hy h
 rintro⟨cR,bq⟩ y h
 dsimp only[iY] at h
 iterate 2 refine AW.seq ?_
 obtain⟨g8,hy,h⟩:=ah h
 refine jn ((PE cx .normal (fun g8=>[(0,.pt 0 0),(2,dI .i64 c8),(3,dI .i64 jK),(5,.pt 1 0),(10,dI .u64 x9),(11,dI .u64 cR),(12,dI .u64 bq),(70,dB g8)]) fun g8=>⟨[(0,dC ((cA 17 (cI .u32)).f bJ)),(1,dC (al_cV.f mR))],[],2⟩) g8) ?_ ?_
 replace h:=hy
 refine rqd [] hx fun K hK=>?_
 iterate 3 refine sa ?_
 rcases aX (decide (bq<(4294967296:Int))) with nZ|nZ
 replace h:=aZ nZ h
 iterate 3 refine ga nZ ?_
 rcases aX (decide ((4294967296:Int)≤cR)) with iR|iR
 replace h:=aZ iR h
 iterate 20 refine aH rfl rfl iR ?_
 refine g1 nZ (al iR) ?_
 refine s1 (al nZ) ?_
 refine .nil (hK _ _ ?_)
 cases h
 exact PE.i (wkN h0 [1] (wR rfl (wR rfl (wR rfl (wR rfl (wR rfl (wR rfl (wR rfl (wR rfl wTn)))))))) (vC rfl (vC rfl wVn)) wLn)
 replace h:=a3 iR h
 iterate 3 refine ga iR ?_
 obtain⟨Ii,h⟩:=aD h
 have zy:(i64.wrap (c8 - (2:Int))).toNat<16:=by omega
 refine g1 iR (ck Ii aF aI) ?_
 refine g1 iR (a4 (ao.comp (ao.id _ _) (ao.vec (cI .u32) mR (i64.wrap (c8 - (2:Int))).toNat zy) (fun _=>rfl)) aI) ?_
 iterate 3 refine ga iR ?_
 refine g1 iR (O9 (b:=(32:Int)) (by decide)) ?_
 iterate 6 refine ga iR ?_
 obtain⟨hc17,h⟩:=aD h
 have hn18:(i64.wrap ((i64.wrap (jK+c8)) - (2:Int))).toNat<17:=by omega
 refine g1 iR (ck hc17 lS aI) ?_
 refine g1 iR (a4 (ao.comp (ao.id _ _) (ao.vec (cI .u32) bJ (i64.wrap ((i64.wrap (jK+c8)) - (2:Int))).toNat hn18) (fun _=>rfl)) aI) ?_
 refine ga iR ?_
 refine g1 iR T_or ?_
 refine ga iR ?_
 refine g1 nZ (au iR) ?_
 refine s1 (al nZ) ?_
 refine .nil (hK _ _ ?_)
 cases h
 exact PE.i (wkN h0 [1] (wR rfl (wR rfl (wR rfl (wR rfl (wR rfl (wR rfl (wR rfl (wR rfl wTn)))))))) (vC rfl (vC rfl wVn)) wLn)
 replace h:=a3 nZ h
 iterate 3 refine aH rfl rfl nZ ?_
 iterate 20 refine MS rfl rfl ?_
 refine aH rfl rfl nZ ?_
 refine s1 (au nZ) ?_
 refine .nil (hK _ _ ?_)
 cases h
 exact PE.i (wkN h0 [1] (wR rfl (wR rfl (wR rfl (wR rfl (wR rfl (wR rfl (wR rfl (wR rfl wTn)))))))) (vC rfl (vC rfl wVn)) wLn)
 rintro ex tm' hp' ⟨rfl,hw⟩
 refine AW.weak hw (cdh h rfl (fun ve h=>?_) (fun ve h=>?_))
 refine AW.skip (AW.block (ra hx ?_))
 refine rb hx ?_
 cases h
 exact PS.l (PE.i (wkN h0 [1] (wR rfl (wR rfl (wR rfl (wR rfl (wR rfl (wR rfl (wR rfl wTn))))))) (vC rfl (vC rfl wVn)) wLn))
 refine AW.exit ?_
 try dsimp only
 try simp only[aN,reduceIte,Nat.reduceEqDiff,reduceCtorEq]
 cases h
 exact PS.r ⟨by nofun,PE.i (wkN h0 [] (wR rfl wTn) (vC rfl wVn) wLn)⟩
 rintro ex tm' hp' ⟨rfl,hw⟩
 try dsimp only
 try simp only[aN,reduceIte,Nat.reduceEqDiff,reduceCtorEq]
 refine AW.weak hw (ra hx ?_)
 refine AW.ret ?_
 cases h
 exact rH1 (wkN h0 [] (wR rfl wTn) (vC rfl wVn) wLn)
def ix(mR:Vector Int 16)(c8:Int)(jK:Int)(Al:Int):Int×Int×Int×(Vector Int 17)→Option ((Int×Int×Int×(Vector Int 17))⊕(Int×Int×(Vector Int 17))):=fun (aK,aS,jQ,EY)=>cnd (decide (jQ<c8)) (gd (0≤jQ∧jQ<16) (bnd (some (u64.wrap (aK+(u64.wrap (Al*(u64.wrap ((mR)[(jQ).toNat]!))))))) fun x4=>gd (0≤i64.wrap (jK+jQ)∧i64.wrap (jK+jQ)<17) (bnd (some (u64.wrap ((u64.wrap ((u64.wrap ((EY)[(i64.wrap (jK+jQ)).toNat]!)) - (u64.wrap (u32.wrap (x4))))) - aS))) fun x8=>gd (0≤i64.wrap (jK+jQ)∧i64.wrap (jK+jQ)<17) (bnd (some ((EY).set! (i64.wrap (jK+jQ)).toNat (u32.wrap (x8)))) fun jA=>some (.inl (lf .u64 x4 (32:Int),lf .u64 x8 (63:Int),i64.wrap (jQ+(1:Int)),jA)))))) (some (.inr (aK,aS,EY)))
def i9(mR:Vector Int 16)(c8:Int)(jK:Int)(Al:Int)(bJ:Vector Int 17):Option (Bool×(Vector Int 17)):=bnd (a7 (ix mR c8 jK Al) ((0:Int),(0:Int),(0:Int),bJ)) fun (aG,gZ,tM)=>gd (0≤i64.wrap (jK+c8)∧i64.wrap (jK+c8)<17) (bnd (some (u64.wrap ((u64.wrap ((u64.wrap ((tM)[(i64.wrap (jK+c8)).toNat]!)) - aG)) - gZ))) fun po=>gd (0≤i64.wrap (jK+c8)∧i64.wrap (jK+c8)<17) (bnd (some ((tM).set! (i64.wrap (jK+c8)).toNat (u32.wrap (po)))) fun B0=>some (decide ((lf .u64 po (63:Int))=(1:Int)),B0)))
theorem z6 {mR:Vector Int 16}{c8:Int}{jK:Int}{Al:Int}{bJ:Vector Int 17}{r:Bool×(Vector Int 17)}(h:i9 mR c8 jK Al bJ=some r):HC prog 167 [.pt 0 0,dG al_cV mR,dI .i64 c8,dI .i64 jK,dI .u64 Al] ⟨[(0,dC ((cA 17 (cI .u32)).f bJ))],[],1⟩ (dB r.1) ⟨[(0,dC ((cA 17 (cI .u32)).f r.2))],[],1⟩:=by
 refine HC.of (rs:=[.tmp 10]) tok func167 rfl rfl (bg rfl) rfl (fun cx hx h1 hok=>?_)
 have h0:cx.hp0.next=1:=by rw[h1]
 simp only[ee,Nat.reduceAdd,br]
 unfold i9 at h
 iterate 2 refine ra hx ?_
 refine AW.seq (ra hx ?_)
 refine AW.block ?_
 obtain⟨y,hy,h⟩:=ah h
 refine lp (S:=Int×Int×Int×(Vector Int 17)) (X:=Int×Int×(Vector Int 17)) (fun (aK,aS,jQ,EY)=>[(0,.pt 0 0),(2,dI .i64 c8),(3,dI .i64 jK),(4,dI .u64 Al),(6,.pt 1 0),(11,dI .u64 aK),(12,dI .u64 aS),(16,dI .i64 c8),(17,dI .i64 jQ)]) (fun (aK,aS,jQ,EY)=>⟨[(0,dC ((cA 17 (cI .u32)).f EY)),(1,dC (al_cV.f mR))],[],2⟩) (PE cx (.exit 0) (fun (aG,gZ,tM)=>[(0,.pt 0 0),(2,dI .i64 c8),(3,dI .i64 jK),(11,dI .u64 aG),(12,dI .u64 gZ)]) fun (aG,gZ,tM)=>⟨[(0,dC ((cA 17 (cI .u32)).f tM))],[],1⟩) hy ?_ ?_ ?_
 exact wkN h0 [1] (wR rfl (wR rfl (wR rfl (wR rfl (wR rfl (wR rfl (wR rfl (wR rfl (wR rfl wTn))))))))) (vC rfl (vC rfl wVn)) wLn
 clear hy h
 rintro⟨aK,aS,jQ,EY⟩ y h
 dsimp only[ix] at h
 refine ra hx ?_
 refine AW.seq (cdh h rfl (fun cH h=>?_) (fun cH h=>?_))
 refine AW.skip (AW.seq (AW.block (ra hx ?_)))
 refine rs hx fun K hK=>?_
 iterate 3 refine sa ?_
 obtain⟨nb,h⟩:=aD h
 have p8:(jQ).toNat<16:=by omega
 refine s1 (ck nb aF aI) ?_
 refine s1 (a4 (ao.comp (ao.id _ _) (ao.vec (cI .u32) mR (jQ).toNat p8) (fun _=>rfl)) aI) ?_
 iterate 3 refine sa ?_
 obtain⟨x4,va,h⟩:=ah h
 replace va:=cv va
 refine s2 (d2:=dI .u64 x4) kO (fR (congrArg (dI .u64) va)) ?_
 refine .nil (hK _ _ (rs hx fun K hK=>?_))
 iterate 5 refine sa ?_
 obtain⟨hc6,h⟩:=aD h
 have hn7:(i64.wrap (jK+jQ)).toNat<17:=by omega
 refine s1 (ck hc6 lS aI) ?_
 refine s1 (a4 (ao.comp (ao.id _ _) (ao.vec (cI .u32) EY (i64.wrap (jK+jQ)).toNat hn7) (fun _=>rfl)) aI) ?_
 iterate 7 refine sa ?_
 obtain⟨x8,LR,h⟩:=ah h
 replace LR:=cv LR
 refine s2 (d2:=dI .u64 x8) kO (fR (congrArg (dI .u64) LR)) ?_
 refine .nil (hK _ _ (rs hx fun K hK=>?_))
 iterate 7 refine sa ?_
 obtain⟨Gt,h⟩:=aD h
 have NM:(i64.wrap (jK+jQ)).toNat<17:=by omega
 refine s1 (ck Gt lS aI) ?_
 obtain⟨jA,vb,h⟩:=ah h
 replace vb:=cv vb
 refine s0 (jT (b':=u32.wrap (x8)) (ao.comp (ao.id _ _) (ao.vec (cI .u32) EY (i64.wrap (jK+jQ)).toNat NM) (fun _=>rfl)) aI vb) ?_
 refine .nil (hK _ _ (ra hx ?_))
 iterate 2 refine rb hx ?_
 cases h
 exact PS.l (PE.i (wkN h0 [1] (wR rfl (wR rfl (wR rfl (wR rfl (wR rfl (wR rfl (wR rfl (wR rfl (wR rfl wTn))))))))) (vC rfl (vC rfl wVn)) wLn))
 refine AW.exit ?_
 try dsimp only
 try simp only[aN,reduceIte,Nat.reduceEqDiff,reduceCtorEq]
 cases h
 exact PS.r ⟨by nofun,PE.i (wkN h0 [] (wR rfl (wR rfl (wR rfl (wR rfl (wR rfl wTn))))) (vC rfl wVn) wLn)⟩
 obtain⟨aG,gZ,tM⟩:=y
 rintro ex tm' hp' ⟨rfl,hw⟩
 try dsimp only
 try simp only[aN,reduceIte,Nat.reduceEqDiff,reduceCtorEq]
 refine AW.weak hw (rs hx fun K hK=>?_)
 iterate 5 refine sa ?_
 obtain⟨Ii,h⟩:=aD h
 have zy:(i64.wrap (jK+c8)).toNat<17:=by omega
 refine s1 (ck Ii lS aI) ?_
 refine s1 (a4 (ao.comp (ao.id _ _) (ao.vec (cI .u32) tM (i64.wrap (jK+c8)).toNat zy) (fun _=>rfl)) aI) ?_
 iterate 5 refine sa ?_
 obtain⟨po,AB,h⟩:=ah h
 replace AB:=cv AB
 refine s2 (d2:=dI .u64 po) kO (fR (congrArg (dI .u64) AB)) ?_
 refine .nil (hK _ _ (rs hx fun K hK=>?_))
 iterate 7 refine sa ?_
 obtain⟨hc19,h⟩:=aD h
 have hn20:(i64.wrap (jK+c8)).toNat<17:=by omega
 refine s1 (ck hc19 lS aI) ?_
 obtain⟨B0,Nj,h⟩:=ah h
 replace Nj:=cv Nj
 refine s0 (jT (b':=u32.wrap (po)) (ao.comp (ao.id _ _) (ao.vec (cI .u32) tM (i64.wrap (jK+c8)).toNat hn20) (fun _=>rfl)) aI Nj) ?_
 refine .nil (hK _ _ (ra hx ?_))
 refine AW.ret ?_
 cases h
 exact rH1 (wkN h0 [] (wR rfl wTn) (vC rfl wVn) wLn)
def iz(mR:Vector Int 16)(c8:Int)(jK:Int):Int×Int×(Vector Int 17)→Option ((Int×Int×(Vector Int 17))⊕(Int×(Vector Int 17))):=fun (aK,aS,jQ)=>cnd (decide (aS<c8)) (gd (0≤i64.wrap (jK+aS)∧i64.wrap (jK+aS)<17) (gd (0≤aS∧aS<16) (bnd (some (u64.wrap (aK+(u64.wrap ((u64.wrap ((jQ)[(i64.wrap (jK+aS)).toNat]!))+(u64.wrap ((mR)[(aS).toNat]!))))))) fun x6=>gd (0≤i64.wrap (jK+aS)∧i64.wrap (jK+aS)<17) (bnd (some ((jQ).set! (i64.wrap (jK+aS)).toNat (u32.wrap (x6)))) fun mU=>some (.inl (lf .u64 x6 (32:Int),i64.wrap (aS+(1:Int)),mU)))))) (some (.inr (aK,jQ)))
def jd(mR:Vector Int 16)(c8:Int)(jK:Int)(bJ:Vector Int 17):Option (Vector Int 17):=bnd (a7 (iz mR c8 jK) ((0:Int),(0:Int),bJ)) fun (aG,gZ)=>gd (0≤i64.wrap (jK+c8)∧i64.wrap (jK+c8)<17) (gd (0≤i64.wrap (jK+c8)∧i64.wrap (jK+c8)<17) (bnd (some ((gZ).set! (i64.wrap (jK+c8)).toNat (u32.wrap (((gZ)[(i64.wrap (jK+c8)).toNat]!)+(u32.wrap (aG)))))) fun po=>some po))
theorem z7 {mR:Vector Int 16}{c8:Int}{jK:Int}{bJ:Vector Int 17}{r:Vector Int 17}(h:jd mR c8 jK bJ=some r):HC prog 168 [.pt 0 0,dG al_cV mR,dI .i64 c8,dI .i64 jK] ⟨[(0,dC ((cA 17 (cI .u32)).f bJ))],[],1⟩ (.tu []) ⟨[(0,dC ((cA 17 (cI .u32)).f r))],[],1⟩:=by
 refine HC.of (rs:=[]) tok func168 rfl rfl (bg rfl) rfl (fun cx hx h1 hok=>?_)
 have h0:cx.hp0.next=1:=by rw[h1]
 simp only[ee,Nat.reduceAdd,br]
 unfold jd at h
 iterate 2 refine ra hx ?_
 refine AW.seq (ra hx ?_)
 refine AW.block ?_
 obtain⟨y,hy,h⟩:=ah h
 refine lp (S:=Int×Int×(Vector Int 17)) (X:=Int×(Vector Int 17)) (fun (aK,aS,jQ)=>[(0,.pt 0 0),(2,dI .i64 c8),(3,dI .i64 jK),(5,.pt 1 0),(8,dI .u64 aK),(10,dI .i64 c8),(11,dI .i64 aS)]) (fun (aK,aS,jQ)=>⟨[(0,dC ((cA 17 (cI .u32)).f jQ)),(1,dC (al_cV.f mR))],[],2⟩) (PE cx (.exit 0) (fun (aG,gZ)=>[(0,.pt 0 0),(2,dI .i64 c8),(3,dI .i64 jK),(8,dI .u64 aG)]) fun (aG,gZ)=>⟨[(0,dC ((cA 17 (cI .u32)).f gZ))],[],1⟩) hy ?_ ?_ ?_
 exact wkN h0 [1] (wR rfl (wR rfl (wR rfl (wR rfl (wR rfl (wR rfl (wR rfl wTn))))))) (vC rfl (vC rfl wVn)) wLn
 clear hy h
 rintro⟨aK,aS,jQ⟩ y h
 dsimp only[iz] at h
 refine ra hx ?_
 refine AW.seq (cdh h rfl (fun cH h=>?_) (fun cH h=>?_))
 refine AW.skip (AW.seq (AW.block (ra hx ?_)))
 refine rsd [] hx fun K hK=>?_
 iterate 6 refine sa ?_
 obtain⟨nb,h⟩:=aD h
 have p8:(i64.wrap (jK+aS)).toNat<17:=by omega
 refine s1 (ck nb lS aI) ?_
 refine s1 (a4 (ao.comp (ao.id _ _) (ao.vec (cI .u32) jQ (i64.wrap (jK+aS)).toNat p8) (fun _=>rfl)) aI) ?_
 iterate 2 refine sa ?_
 obtain⟨Fh,h⟩:=aD h
 have NH:(aS).toNat<16:=by omega
 refine s1 (ck Fh aF aI) ?_
 refine s1 (a4 (ao.comp (ao.id _ _) (ao.vec (cI .u32) mR (aS).toNat NH) (fun _=>rfl)) aI) ?_
 iterate 3 refine sa ?_
 obtain⟨x6,sO,h⟩:=ah h
 replace sO:=cv sO
 refine s2 (d2:=dI .u64 x6) kO (fR (congrArg (dI .u64) sO)) ?_
 refine .nil (hK _ _ (rs hx fun K hK=>?_))
 iterate 7 refine sa ?_
 obtain⟨Ih,h⟩:=aD h
 have Ia:(i64.wrap (jK+aS)).toNat<17:=by omega
 refine s1 (ck Ih lS aI) ?_
 obtain⟨mU,ww,h⟩:=ah h
 replace ww:=cv ww
 refine s0 (jT (b':=u32.wrap (x6)) (ao.comp (ao.id _ _) (ao.vec (cI .u32) jQ (i64.wrap (jK+aS)).toNat Ia) (fun _=>rfl)) aI ww) ?_
 refine .nil (hK _ _ ?_)
 iterate 2 refine rb hx ?_
 cases h
 exact PS.l (PE.i (wkN h0 [1] (wR rfl (wR rfl (wR rfl (wR rfl (wR rfl (wR rfl (wR rfl wTn))))))) (vC rfl (vC rfl wVn)) wLn))
 refine AW.exit ?_
 try dsimp only
 try simp only[aN,reduceIte,Nat.reduceEqDiff,reduceCtorEq]
 cases h
 exact PS.r ⟨by nofun,PE.i (wkN h0 [] (wR rfl (wR rfl (wR rfl (wR rfl wTn)))) (vC rfl wVn) wLn)⟩
 obtain⟨aG,gZ⟩:=y
 rintro ex tm' hp' ⟨rfl,hw⟩
 try dsimp only
 try simp only[aN,reduceIte,Nat.reduceEqDiff,reduceCtorEq]
 refine AW.weak hw (rqd [] hx fun K hK=>?_)
 iterate 5 refine sa ?_
 obtain⟨hc13,h⟩:=aD h
 have hn14:(i64.wrap (jK+c8)).toNat<17:=by omega
 refine s1 (ck hc13 lS aI) ?_
 refine s1 (a4 (ao.comp (ao.id _ _) (ao.vec (cI .u32) gZ (i64.wrap (jK+c8)).toNat hn14) (fun _=>rfl)) aI) ?_
 iterate 4 refine sa ?_
 obtain⟨Ii,h⟩:=aD h
 have zy:(i64.wrap (jK+c8)).toNat<17:=by omega
 refine s1 (ck Ii lS aI) ?_
 obtain⟨po,AB,h⟩:=ah h
 replace AB:=cv AB
 refine s0 (jT (b':=u32.wrap (((gZ)[(i64.wrap (jK+c8)).toNat]!)+(u32.wrap (aG)))) (ao.comp (ao.id _ _) (ao.vec (cI .u32) gZ (i64.wrap (jK+c8)).toNat zy) (fun _=>rfl)) aI AB) ?_
 refine .nil (hK _ _ ?_)
 cases h
 exact rH0 (wkN h0 [] wTn (vC rfl wVn) wLn)
def eE(x1:Int)(xa:(Vector Int 16)×Int):Int×(Vector Int 16)×(Vector Int 17)→Option ((Int×(Vector Int 16)×(Vector Int 17))⊕((Vector Int 16)×(Vector Int 17))):=fun (qk,zg,BG)=>cnd (decide ((0:Int)≤qk)) (bnd (ic xa.1 x1 qk BG) fun Fk=>bnd (S:=Int×(Vector Int 17)) (bnd (i9 xa.1 x1 qk Fk BG) fun zY=>cnd zY.1 (bnd (jd xa.1 x1 qk zY.2) fun zX=>some ((u64.wrap (Fk - (1:Int)),zX))) (some ((Fk,zY.2)))) fun (Dj,G5)=>gd (0≤qk∧qk<16) (some (.inl (i64.wrap (qk - (1:Int)),(zg).set! (qk).toNat (u32.wrap (Dj)),G5)))) (some (.inr (zg,BG)))
def fq(aW:Vector Int 16)(a6:Vector Int 16):Option ((Vector Int 16)×(Vector Int 16)):=bnd (eo a6) fun x1=>bnd (eo aW) fun x3=>bnd (j8 aW a6) fun x5=>cnd (decide (x5<(0:Int))) (bnd (some (#v[(0:Int),0,0,0,0,0,0,0,0,0,0,0,0,0,0,0])) fun x8=>some (x8,aW)) (cnd (decide (x1=(1:Int))) (bnd (l6 aW ((a6)[((0:Int)).toNat]!)) fun jA=>bnd (some (#v[jA.2,0,0,0,0,0,0,0,0,0,0,0,0,0,0,0])) fun pL=>some (jA.1,pL)) (gd (0≤i64.wrap (x1 - (1:Int))∧i64.wrap (x1 - (1:Int))<16) (bnd (fh ((a6)[(i64.wrap (x1 - (1:Int))).toNat]!)) fun pK=>bnd (n0 a6 pK) fun xa=>bnd (n0 aW pK) fun sL=>bnd (some (vOf 17 (lCp ((Vector.replicate 17 (0:Int))).toList 0 (List.take 17 (List.take 16 (List.drop 0 (sL.1).toList)))))) fun vT=>bnd (a7 (eE x1 xa) (i64.wrap (x3 - x1),(bS),(vT).set! ((16:Int)).toNat sL.2)) fun (sv,su)=>bnd (ng (vOf 16 (List.take 16 (List.drop 0 (su).toList))) pK) fun Ds=>some (sv,Ds))))
theorem rf {aW:Vector Int 16}{a6:Vector Int 16}{r:(Vector Int 16)×(Vector Int 16)}(h:fq aW a6=some r):aC prog 130 [dG al_cV aW,dG al_cV a6] (.tu [dG al_cV r.1,dG al_cV r.2]):=by
 refine bQ (rs:=[.cell 4 30,.cell 5 30]) (fun cx hx h0=>?_) func130
 unfold fq at h
 refine rs hx fun K hK=>?_
 iterate 2 refine sa ?_
 iterate 2 refine s1 (bp (F:=al_cV.f (bS)) aF) ?_
 refine .nil (hK _ _ (rsd [128] hx fun K hK=>?_))
 refine s1 (d:=dG al_cV a6) (aE (ao.id _ _) aF) ?_
 refine cqb h jE fun x1 h=>?_
 refine s1 (d:=dG al_cV aW) (aE (ao.id _ _) aF) ?_
 refine cqb h jE fun x3 h=>?_
 iterate 2 refine sa ?_
 refine .nil (hK _ _ (AW.seq (rs hx fun K hK=>?_)))
 refine s1 (d:=dG al_cV aW) (aE (ao.id _ _) aF) ?_
 refine s1 (d:=dG al_cV a6) (aE (ao.id _ _) aF) ?_
 refine scb h uo fun x5 h=>?_
 refine sa ?_
 refine .nil (hK _ _ (cdh h rfl (fun xY h=>?_) (fun xY h=>?_)))
 refine AW.seq ?_
 obtain⟨x8,LR,h⟩:=ah h
 replace LR:=cv LR
 refine jn (PE cx .normal (fun (_:Unit)=>[(4,.pt 0 0),(5,.pt 1 0)]) (fun (_:Unit)=>⟨[(0,dC (al_cV.f x8)),(1,dC (al_cV.f aW))],[],2⟩) ()) ?_ ?_
 refine dw (DW.split 1 2 (by decide) ?_ ?_)
 refine dwg [] [0,1,2,3] hx (by kernel_rfl) (by kernel_rfl) (by kernel_rfl) fun K hK=>?_
 dsimp only[d6,mT,m7,List.map]
 refine s1 (d:=dG al_cV (#v[(0:Int),0,0,0,0,0,0,0,0,0,0,0,0,0,0,0])) (lx aF aI) ?_
 refine s1 (d:=dG al_cV aW) (aE (ao.id _ _) aF) ?_
 refine s0 (jT (b':=#v[(0:Int),0,0,0,0,0,0,0,0,0,0,0,0,0,0,0]) (ao.id _ _) aF LR) ?_
 refine s0 (aO (b':=aW) (ao.id _ _) aF) ?_
 exact .nil (hK _ _ (pe0 h0 [2,3]))
 refine dwg [] [0,2,1,3] hx (by kernel_rfl) (by kernel_rfl) (by kernel_rfl) fun K hK=>?_
 dsimp only[d6,mT,m7,List.map]
 refine s1 (d:=dG al_cV (#v[(0:Int),0,0,0,0,0,0,0,0,0,0,0,0,0,0,0])) (lx aF aI) ?_
 refine s0 (jT (b':=#v[(0:Int),0,0,0,0,0,0,0,0,0,0,0,0,0,0,0]) (ao.id _ _) aF LR) ?_
 refine s1 (d:=dG al_cV aW) (aE (ao.id _ _) aF) ?_
 refine s0 (aO (b':=aW) (ao.id _ _) aF) ?_
 exact .nil (hK _ _ (pe0 h0 [2,3]))
 rintro ex tm' hp' ⟨rfl,hw⟩
 refine AW.weak hw (AW.ret ?_)
 cases h
 exact rv2
 refine AW.skip (AW.seq (ra hx ?_))
 refine cdh h rfl (fun fa h=>?_) (fun fa h=>?_)
 refine rs hx fun K hK=>?_
 refine s1 (d:=dG al_cV aW) (aE (ao.id _ _) aF) ?_
 have NM:((0:Int)).toNat<16:=by omega
 refine s1 (ck (by decide:0≤(0:Int)∧(0:Int)<((16:Nat):Int)) aF aI) ?_
 refine s1 (a4 (ao.comp (ao.id _ _) (ao.vec (cI .u32) a6 ((0:Int)).toNat NM) (fun _=>rfl)) aI) ?_
 refine scb h B5 fun jA h=>?_
 iterate 3 refine sa ?_
 refine s1 (bp (F:=al_cV.f (bS)) aF) ?_
 refine s0 (aO (b':=jA.1) (ao.id _ _) aF) ?_
 refine sa ?_
 refine .nil (hK _ _ (rs hx fun K hK=>?_))
 refine s1 (d:=dG al_cV jA.1) (aE (ao.id _ _) aF) ?_
 refine sa ?_
 refine s1 (d:=dG al_cV (#v[jA.2,0,0,0,0,0,0,0,0,0,0,0,0,0,0,0])) (lx aF aI) ?_
 refine s0 (aO (b':=jA.1) (ao.id _ _) aF) ?_
 obtain⟨pL,xS,h⟩:=ah h
 replace xS:=cv xS
 refine s0 (jT (b':=#v[jA.2,0,0,0,0,0,0,0,0,0,0,0,0,0,0,0]) (ao.id _ _) aF xS) ?_
 refine .nil (hK _ _ (AW.ret ?_))
 cases h
 exact rv2
 refine AW.skip (rs hx fun K hK=>?_)
 iterate 2 refine sa ?_
 obtain⟨Gs,h⟩:=aD h
 have Ib:(i64.wrap (x1 - (1:Int))).toNat<16:=by omega
 refine s1 (ck Gs aF aI) ?_
 refine s1 (a4 (ao.comp (ao.id _ _) (ao.vec (cI .u32) a6 (i64.wrap (x1 - (1:Int))).toNat Ib) (fun _=>rfl)) aI) ?_
 refine scb h sM fun pK h=>?_
 refine sa ?_
 refine .nil (hK _ _ (rs hx fun K hK=>?_))
 refine s1 (d:=dG al_cV a6) (aE (ao.id _ _) aF) ?_
 refine sa ?_
 refine scb h z5 fun xa h=>?_
 iterate 3 refine sa ?_
 refine s1 (bp (F:=al_cV.f (bS)) aF) ?_
 refine s0 (aO (b':=xa.1) (ao.id _ _) aF) ?_
 refine sa ?_
 refine .nil (hK _ _ (rs hx fun K hK=>?_))
 refine s1 (d:=dG al_cV aW) (aE (ao.id _ _) aF) ?_
 refine sa ?_
 refine scb h z5 fun sL h=>?_
 iterate 3 refine sa ?_
 refine s1 (bp (F:=al_cV.f (bS)) aF) ?_
 refine s0 (aO (b':=sL.1) (ao.id _ _) aF) ?_
 refine sa ?_
 refine .nil (hK _ _ (rs hx fun K hK=>?_))
 refine s1 (bp (F:=(cA 17 (cI .u32)).f (Vector.replicate 17 (0:Int))) lS) ?_
 refine .nil (hK _ _ (rsd [] hx fun K hK=>?_))
 refine q1 (slA (n:=17) (l:=(0:Int)) (h:=(17:Int)) tok (by decide) lS aI rfl rfl) ?_
 refine q1 (slA (n:=16) (l:=(0:Int)) (h:=(16:Int)) tok (by decide) aF aI rfl rfl) ?_
 obtain⟨vT,hx25,h⟩:=ah h
 replace hx25:=cv hx25
 refine q1 (hp':=⟨[(6,dC ((cA 17 (cI .u32)).f vT)),(6,dC ((cA 17 (cI .u32)).f (Vector.replicate 17 (0:Int)))),(5,dC (al_cV.f sL.1)),(5,dC (al_cV.f (bS))),(4,dC (al_cV.f xa.1)),(4,dC (al_cV.f (bS))),(3,dC (al_cV.f (bS))),(2,dC (al_cV.f (bS))),(1,dC (al_cV.f a6)),(0,dC (al_cV.f aW))],[],7⟩) (sCpA (c:=(cI .u32)) (v:=(Vector.replicate 17 (0:Int))) (s:=(List.take 16 (List.drop 0 (sL.1).toList))) tok Mi aI (tO.arr (c:=(cI .u32)) (v:=sL.1) rfl 0 (by decide)) (by simp only[eI,gi,mC];omega) rfl 0 (by decide) (congrArg (fun q=>(6,dC ((cA 17 (cI .u32)).f q))::_) hx25)) ?_
 refine .nil (hK _ _ (rs hx fun K hK=>?_))
 refine sa ?_
 have NI:((16:Int)).toNat<17:=by omega
 refine s1 (ck (by decide:0≤(16:Int)∧(16:Int)<((17:Nat):Int)) lS aI) ?_
 refine s0 (aO (b':=sL.2) (ao.comp (ao.id _ _) (ao.vec (cI .u32) vT ((16:Int)).toNat NI) (fun _=>rfl)) aI) ?_
 refine .nil (hK _ _ (AW.seq (ra hx ?_)))
 refine AW.block ?_
 obtain⟨y,hy,h⟩:=ah h
 refine lp (S:=Int×(Vector Int 16)×(Vector Int 17)) (X:=(Vector Int 16)×(Vector Int 17)) (fun (qk,zg,BG)=>[(4,.pt 0 0),(5,.pt 1 0),(6,dI .i64 x1),(10,dI .i64 pK),(11,.pt 2 0),(15,.pt 3 0),(16,dI .i64 qk)]) (fun (qk,zg,BG)=>⟨[(0,dC (al_cV.f zg)),(1,dC (al_cV.f (bS))),(2,dC (al_cV.f xa.1)),(3,dC ((cA 17 (cI .u32)).f BG))],[],4⟩) (PE cx (.exit 0) (fun (sv,su)=>[(4,.pt 0 0),(5,.pt 1 0),(10,dI .i64 pK),(15,.pt 2 0)]) fun (sv,su)=>⟨[(0,dC (al_cV.f sv)),(1,dC (al_cV.f (bS))),(2,dC ((cA 17 (cI .u32)).f su))],[],3⟩) hy ?_ ?_ ?_
 exact wk h0 [2,3,4,6] (wR rfl (wR rfl (wR rfl (wR rfl (wR rfl (wR rfl (wR rfl wTn))))))) (vC rfl (vC rfl (vC rfl (vC rfl wVn)))) wLn
 clear hy h
 rintro⟨qk,zg,BG⟩ y h
 dsimp only[eE] at h
 refine AW.seq (ra hx ?_)
 refine cdh h rfl (fun hb27 h=>?_) (fun hb27 h=>?_)
 refine AW.skip (AW.seq (AW.block (rs hx fun K hK=>?_)))
 refine s1 (d:=dG al_cV xa.1) (aE (ao.id _ _) aF) ?_
 iterate 2 refine sa ?_
 obtain⟨Fk,hx29,h⟩:=ah h
 refine s1 (E1 [3] rfl (zk hx29) (fA (an _) (fAG (an _) (fA (an _) (fA (an _) fAn)))) (vC rfl wVn) wLn (rvC rvN) rfl rfl) ?_
 refine sa ?_
 refine .nil (hK _ _ (AW.seq ?_))
 obtain⟨y,hy,h⟩:=ah h
 refine jn ((PE cx .normal (fun (Dj,G5)=>[(4,.pt 0 0),(5,.pt 1 0),(6,dI .i64 x1),(10,dI .i64 pK),(11,.pt 2 0),(15,.pt 3 0),(16,dI .i64 qk),(17,dI .u64 Dj)]) fun (Dj,G5)=>⟨[(0,dC (al_cV.f zg)),(1,dC (al_cV.f (bS))),(2,dC (al_cV.f xa.1)),(3,dC ((cA 17 (cI .u32)).f G5))],[],4⟩) y) ?_ ?_
 replace h:=hy
 refine rs hx fun K hK=>?_
 refine s1 (d:=dG al_cV xa.1) (aE (ao.id _ _) aF) ?_
 iterate 3 refine sa ?_
 obtain⟨zY,hx31,h⟩:=ah h
 refine s1 (E1 [3] rfl (z6 hx31) (fA (an _) (fAG (an _) (fA (an _) (fA (an _) (fA (an _) fAn))))) (vC rfl wVn) wLn (rvC rvN) rfl rfl) ?_
 refine .nil (hK _ _ (cdh h rfl (fun AT h=>?_) (fun AT h=>?_)))
 refine ra hx ?_
 refine rq hx fun K hK=>?_
 refine s1 (d:=dG al_cV xa.1) (aE (ao.id _ _) aF) ?_
 iterate 2 refine sa ?_
 obtain⟨zX,H0,h⟩:=ah h
 refine s1 (E1 [3] rfl (z7 H0) (fA (an _) (fAG (an _) (fA (an _) (fA (an _) fAn)))) (vC rfl wVn) wLn (rvC rvN) rfl rfl) ?_
 refine .nil (hK _ _ ?_)
 cases h
 exact pe0 h0 [0,1,2,3]
 refine AW.skip ?_
 cases h
 exact pe0 h0 [0,1,2,3]
 obtain⟨Dj,G5⟩:=y
 rintro ex tm' hp' ⟨rfl,hw⟩
 refine AW.weak hw (rq hx fun K hK=>?_)
 iterate 3 refine sa ?_
 obtain⟨hc36,h⟩:=aD h
 have hn37:(qk).toNat<16:=by omega
 refine s1 (ck hc36 aF aI) ?_
 refine s0 (aO (b':=u32.wrap (Dj)) (ao.comp (ao.id _ _) (ao.vec (cI .u32) zg (qk).toNat hn37) (fun _=>rfl)) aI) ?_
 refine .nil (hK _ _ (rb hx ?_))
 cases h
 exact PS.l (pe0 h0 [0,1,2,3])
 refine AW.exit ?_
 try dsimp only
 try simp only[aN,reduceIte,Nat.reduceEqDiff,reduceCtorEq]
 cases h
 exact PS.r ⟨by nofun,PE.i (wk h0 [0,1,3] (wR rfl (wR rfl (wR rfl (wR rfl wTn)))) (vC rfl (vC rfl (vC rfl wVn))) wLn)⟩
 obtain⟨sv,su⟩:=y
 rintro ex tm' hp' ⟨rfl,hw⟩
 try dsimp only
 try simp only[aN,reduceIte,Nat.reduceEqDiff,reduceCtorEq]
 refine AW.weak hw (rsd [169] hx fun K hK=>?_)
 refine s1 (d:=dG al_cV sv) (aE (ao.id _ _) aF) ?_
 refine q1 (slA (n:=17) (l:=(0:Int)) (h:=(16:Int)) tok (by decide) lS aI rfl ⟨_,rfl⟩) ?_
 refine q1 (sPtr tok rfl aF) ?_
 refine s1 (d:=dG al_cV (vOf 16 (List.take 16 (List.drop 0 (su).toList)))) (aE (ao.sub (o:=0) 16 (cI .u32) su 0 (by decide) (by first|rfl|decide)) aF) ?_
 refine sa ?_
 obtain⟨Ds,hx40,h⟩:=ah h
 refine sq tok (Dv hx40) (by simp only[cp,dh,jy,fO,dX,dW];exact⟨bc _ _,rfl⟩) (lA (fm _ _) (lA (an _) lAn)) (.inl (gP _ _)) ?_
 refine s0 (aO (b':=sv) (ao.id _ _) aF) ?_
 refine s0 (aO (b':=Ds) (ao.id _ _) aF) ?_
 refine .nil (hK _ _ (AW.ret ?_))
 cases h
 exact rv2
def oC(bn:aq):Option aq:=bnd (cN [bn]) fun x1=>cnd (!x1) (bnd (dT) fun x4=>some x4) (bnd (bE false bn.vW) fun x6=>some x6)
theorem Fp {bn:aq}{r:aq}(h:oC bn=some r):aC prog 131 [dG ap bn] (dG ap r):=by
 refine bQ (rs:=[.cell 2 32]) (fun cx hx h0=>?_) func131
 unfold oC at h
 refine rs hx fun K hK=>?_
 refine sa ?_
 refine s1 (bp (F:=ap.f bz) ax) ?_
 refine .nil (hK _ _ (AW.seq (rs hx fun K hK=>?_)))
 refine s1 (d:=dG ap bn) (aE (ao.id _ _) ax) ?_
 refine s1 (qm ([bn]:List aq) ap pP ax) ?_
 refine scb h gl fun x1 h=>?_
 refine sa ?_
 refine .nil (hK _ _ (cdh h rfl (fun bo h=>?_) (fun bo h=>?_)))
 refine rs hx fun K hK=>?_
 refine scb h gB fun x4 h=>?_
 refine s0 (aO (b':=x4) (ao.id _ _) ax) ?_
 refine .nil (hK _ _ (AW.ret ?_))
 cases h
 exact rv1
 refine AW.skip (rs hx fun K hK=>?_)
 refine sa ?_
 refine s1 (aE (aT bn) aF) ?_
 refine scb h cT fun x6 h=>?_
 refine s0 (aO (b':=x6) (ao.id _ _) ax) ?_
 refine .nil (hK _ _ (AW.ret ?_))
 cases h
 exact rv1
def ii :Int×Int→Option ((Int×Int)⊕Int):=fun (bm,j5)=>cnd (decide (j5≠(0:Int))) (gd (j5≠0) (some (.inl (j5,Int.tmod bm j5)))) (some (.inr bm))
def cr(JB:aq→aq→Option aq)(aW:aq)(a6:aq):Option aq:=bnd (cN [aW,a6]) fun x1=>cnd (!x1) (bnd (dT) fun x4=>some x4) (bnd (S:=Bool) (bnd (eo aW.vW) fun x6=>cnd (decide (x6≤(2:Int))) (bnd (eo a6.vW) fun x9=>some (decide (x9≤(2:Int)))) (some (false))) fun mP=>cnd mP (bnd (some (ior .u64 (u9 .u64 (u64.wrap ((aW.vW)[((1:Int)).toNat]!)) (32:Int)) (u64.wrap ((aW.vW)[((0:Int)).toNat]!)))) fun po=>bnd (some (ior .u64 (u9 .u64 (u64.wrap ((a6.vW)[((1:Int)).toNat]!)) (32:Int)) (u64.wrap ((a6.vW)[((0:Int)).toNat]!)))) fun Dt=>bnd (a7 (ii) (po,Dt)) fun dK=>bnd (bE false (#v[u32.wrap (dK),u32.wrap (lf .u64 dK (32:Int)),0,0,0,0,0,0,0,0,0,0,0,0,0,0])) fun vT=>some vT) (cnd (decide (¬(a6.vW=#v[(0:Int),0,0,0,0,0,0,0,0,0,0,0,0,0,0,0]))) (bnd (fq aW.vW a6.vW) fun w9=>bnd (bE false a6.vW) fun xc=>bnd (bE false w9.2) fun x31=>bnd (JB xc x31) fun zX=>some zX) (bnd (oC aW) fun x35=>some x35)))
theorem B6 {JB:aq→aq→Option aq}(ih:∀{aW:aq} {a6:aq} {r:aq},JB aW a6=some r→aC prog 93 [dG ap aW,dG ap a6] (dG ap r)){aW:aq}{a6:aq}{r:aq}(h:cr JB aW a6=some r):aC prog 93 [dG ap aW,dG ap a6] (dG ap r):=by
 refine bQ (rs:=[.cell 4 32]) (fun cx hx h0=>?_) func93
 unfold cr at h
 refine rs hx fun K hK=>?_
 iterate 2 refine sa ?_
 refine s1 (bp (F:=ap.f bz) ax) ?_
 refine .nil (hK _ _ (AW.seq (rs hx fun K hK=>?_)))
 refine s1 (d:=dG ap aW) (aE (ao.id _ _) ax) ?_
 refine s1 (d:=dG ap a6) (aE (ao.id _ _) ax) ?_
 refine s1 (qm ([aW,a6]:List aq) ap pP ax) ?_
 refine scb h gl fun x1 h=>?_
 refine sa ?_
 refine .nil (hK _ _ (cdh h rfl (fun bo h=>?_) (fun bo h=>?_)))
 refine rs hx fun K hK=>?_
 refine scb h gB fun x4 h=>?_
 refine s0 (aO (b':=x4) (ao.id _ _) ax) ?_
 refine .nil (hK _ _ (AW.ret ?_))
 cases h
 exact rv1
 refine AW.skip ?_
 iterate 2 refine AW.seq ?_
 obtain⟨mP,hy,h⟩:=ah h
 refine jn ((PE cx .normal (fun mP=>[(2,.pt 0 0),(3,.pt 1 0),(4,.pt 2 0),(26,dB mP)]) fun mP=>⟨[(0,dC (ap.f aW)),(1,dC (ap.f a6)),(2,dC (ap.f bz))],[],3⟩) mP) ?_ ?_
 replace h:=hy
 refine rq hx fun K hK=>?_
 refine sa ?_
 refine s1 (aE (aT aW) aF) ?_
 refine scb h jE fun x6 h=>?_
 iterate 2 refine sa ?_
 rcases aX (decide (x6≤(2:Int))) with qD|qD
 replace h:=aZ qD h
 refine ga qD ?_
 refine g1 qD (aE (aT a6) aF) ?_
 obtain⟨x9,xT,h⟩:=ah h
 refine g1 qD (eC rfl (jE xT) (by simp only[cp,dh,jy,fO,dX,dW];exact bc _ _) (lA (fm _ _) lAn) (.inl rfl)) ?_
 refine ga qD ?_
 refine s1 (al qD) ?_
 refine .nil (hK _ _ ?_)
 cases h
 exact pe0 h0 [0,1,2]
 replace h:=a3 qD h
 iterate 4 refine aH rfl rfl qD ?_
 refine s1 (au qD) ?_
 refine .nil (hK _ _ ?_)
 cases h
 exact pe0 h0 [0,1,2]
 rintro ex tm' hp' ⟨rfl,hw⟩
 refine AW.weak hw (cdh h rfl (fun nd h=>?_) (fun nd h=>?_))
 refine rsd [] hx fun K hK=>?_
 refine sa ?_
 have Ic:((1:Int)).toNat<16:=by omega
 refine s1 (ck (by decide:0≤(1:Int)∧(1:Int)<((16:Nat):Int)) aF aI) ?_
 refine s1 (a4 (ao.comp (aT aW) (ao.vec (cI .u32) aW.vW ((1:Int)).toNat Ic) (fun _=>rfl)) aI) ?_
 iterate 3 refine sa ?_
 have hn14:((0:Int)).toNat<16:=by omega
 refine s1 (ck (by decide:0≤(0:Int)∧(0:Int)<((16:Nat):Int)) aF aI) ?_
 refine s1 (a4 (ao.comp (aT aW) (ao.vec (cI .u32) aW.vW ((0:Int)).toNat hn14) (fun _=>rfl)) aI) ?_
 iterate 3 refine sa ?_
 have NK:((1:Int)).toNat<16:=by omega
 refine s1 (ck (by decide:0≤(1:Int)∧(1:Int)<((16:Nat):Int)) aF aI) ?_
 refine s1 (a4 (ao.comp (aT a6) (ao.vec (cI .u32) a6.vW ((1:Int)).toNat NK) (fun _=>rfl)) aI) ?_
 iterate 3 refine sa ?_
 have zy:((0:Int)).toNat<16:=by omega
 refine s1 (ck (by decide:0≤(0:Int)∧(0:Int)<((16:Nat):Int)) aF aI) ?_
 refine s1 (a4 (ao.comp (aT a6) (ao.vec (cI .u32) a6.vW ((0:Int)).toNat zy) (fun _=>rfl)) aI) ?_
 iterate 2 refine sa ?_
 obtain⟨po,AB,h⟩:=ah h
 replace AB:=cv AB
 refine s2 (d2:=dI .u64 po) kO (fR (congrArg (dI .u64) AB)) ?_
 obtain⟨Dt,Nk,h⟩:=ah h
 replace Nk:=cv Nk
 refine s2 (d2:=dI .u64 Dt) kO (fR (congrArg (dI .u64) Nk)) ?_
 refine .nil (hK _ _ (AW.seq (AW.block ?_)))
 obtain⟨dK,hy,h⟩:=ah h
 refine lp (S:=Int×Int) (X:=Int) (fun (bm,j5)=>[(4,.pt 0 0),(5,dI .u64 bm),(6,dI .u64 j5)]) (fun (bm,j5)=>⟨[(0,dC (ap.f bz))],[],1⟩) (PE cx (.exit 0) (fun dK=>[(4,.pt 0 0),(5,dI .u64 dK)]) fun dK=>⟨[(0,dC (ap.f bz))],[],1⟩) hy ?_ ?_ ?_
 exact wk h0 [2] (wR rfl (wR rfl (wR rfl wTn))) (vC rfl wVn) wLn
 clear hy h
 rintro⟨bm,j5⟩ y h
 dsimp only[ii] at h
 refine AW.seq (ra hx ?_)
 refine cdh h rfl (fun Ef h=>?_) (fun Ef h=>?_)
 refine AW.skip (AW.block (rqd [] hx fun K hK=>?_))
 iterate 3 refine sa ?_
 obtain⟨Eb,h⟩:=aD h
 refine s1 (Dp Eb) ?_
 iterate 2 refine sa ?_
 refine .nil (hK _ _ ?_)
 cases h
 exact PS.l (pe0 h0 [0])
 refine AW.exit ?_
 try dsimp only
 try simp only[aN,reduceIte,Nat.reduceEqDiff,reduceCtorEq]
 cases h
 exact PS.r ⟨by nofun,PE.i (wk h0 [0] (wR rfl (wR rfl wTn)) (vC rfl wVn) wLn)⟩
 rintro ex tm' hp' ⟨rfl,hw⟩
 try dsimp only
 try simp only[aN,reduceIte,Nat.reduceEqDiff,reduceCtorEq]
 refine AW.weak hw (rs hx fun K hK=>?_)
 iterate 5 refine sa ?_
 refine s1 (d:=dG al_cV (#v[u32.wrap (dK),u32.wrap (lf .u64 dK (32:Int)),0,0,0,0,0,0,0,0,0,0,0,0,0,0])) (lx aF aI) ?_
 refine scb h cT fun vT h=>?_
 refine s0 (aO (b':=vT) (ao.id _ _) ax) ?_
 refine .nil (hK _ _ (AW.ret ?_))
 cases h
 exact rv1
 refine AW.skip ?_
 iterate 2 refine AW.seq ?_
 refine jn (PE cx .normal (fun (_:Unit)=>[(2,.pt 0 0),(4,.pt 1 0),(7,.pt 2 0),(8,.pt 3 0)]) (fun (_:Unit)=>⟨[(0,dC (ap.f aW)),(1,dC (ap.f bz)),(2,dC (al_cV.f aW.vW)),(3,dC (al_cV.f a6.vW))],[],4⟩) ()) ?_ ?_
 refine dw (DW.split 4 5 (by decide) ?_ ?_)
 refine DW.split 3 6 (by decide) ?_ ?_
 refine dwg [] [0,1,2,3,4,5,6,7] hx (by kernel_rfl) (by kernel_rfl) (by kernel_rfl) fun K hK=>?_
 dsimp only[d6,mT,m7,List.map]
 refine sa ?_
 refine s1 (aE (aT aW) aF) ?_
 refine sa ?_
 refine s1 (aE (aT a6) aF) ?_
 iterate 2 refine s1 (bp (F:=al_cV.f (bS)) aF) ?_
 refine s0 (aO (b':=aW.vW) (ao.id _ _) aF) ?_
 refine s0 (aO (b':=a6.vW) (ao.id _ _) aF) ?_
 exact .nil (hK _ _ (pe0 h0 [0,2,3,4]))
 refine dwg [] [0,1,2,4,5,6,3,7] hx (by kernel_rfl) (by kernel_rfl) (by kernel_rfl) fun K hK=>?_
 dsimp only[d6,mT,m7,List.map]
 refine sa ?_
 refine s1 (aE (aT aW) aF) ?_
 refine sa ?_
 iterate 2 refine s1 (bp (F:=al_cV.f (bS)) aF) ?_
 refine s0 (aO (b':=aW.vW) (ao.id _ _) aF) ?_
 refine s1 (aE (aT a6) aF) ?_
 refine s0 (aO (b':=a6.vW) (ao.id _ _) aF) ?_
 exact .nil (hK _ _ (pe0 h0 [0,2,3,4]))
 refine DW.split 3 6 (by decide) ?_ ?_
 refine dwg [] [0,1,2,3,5,4,6,7] hx (by kernel_rfl) (by kernel_rfl) (by kernel_rfl) fun K hK=>?_
 dsimp only[d6,mT,m7,List.map]
 refine sa ?_
 refine s1 (aE (aT aW) aF) ?_
 refine sa ?_
 refine s1 (aE (aT a6) aF) ?_
 iterate 2 refine s1 (bp (F:=al_cV.f (bS)) aF) ?_
 refine s0 (aO (b':=aW.vW) (ao.id _ _) aF) ?_
 refine s0 (aO (b':=a6.vW) (ao.id _ _) aF) ?_
 exact .nil (hK _ _ (pe0 h0 [0,2,4,3]))
 refine dwg [] [0,1,2,5,4,6,3,7] hx (by kernel_rfl) (by kernel_rfl) (by kernel_rfl) fun K hK=>?_
 dsimp only[d6,mT,m7,List.map]
 refine sa ?_
 refine s1 (aE (aT aW) aF) ?_
 refine sa ?_
 iterate 2 refine s1 (bp (F:=al_cV.f (bS)) aF) ?_
 refine s0 (aO (b':=aW.vW) (ao.id _ _) aF) ?_
 refine s1 (aE (aT a6) aF) ?_
 refine s0 (aO (b':=a6.vW) (ao.id _ _) aF) ?_
 exact .nil (hK _ _ (pe0 h0 [0,2,4,3]))
 rintro ex tm' hp' ⟨rfl,hw⟩
 refine AW.weak hw (rs hx fun K hK=>?_)
 refine s1 (d:=dG al_cV a6.vW) (aE (ao.id _ _) aF) ?_
 refine s1 (d:=dG al_cV (#v[(0:Int),0,0,0,0,0,0,0,0,0,0,0,0,0,0,0])) (lx aF aI) ?_
 refine s1 (sw tok 2 (by decide) (EqC.arr (EqC.int (d:=0) aI) aF aI) aF) ?_
 refine .nil (hK _ _ (cdh h rfl (fun hb26 h=>?_) (fun hb26 h=>?_)))
 refine rs hx fun K hK=>?_
 refine s1 (d:=dG al_cV aW.vW) (aE (ao.id _ _) aF) ?_
 refine s1 (d:=dG al_cV a6.vW) (aE (ao.id _ _) aF) ?_
 refine scb h rf fun w9 h=>?_
 iterate 3 refine sa ?_
 iterate 2 refine s1 (bp (F:=al_cV.f (bS)) aF) ?_
 refine s0 (aO (b':=w9.1) (ao.id _ _) aF) ?_
 refine s0 (aO (b':=w9.2) (ao.id _ _) aF) ?_
 refine .nil (hK _ _ (rsd [111,93] hx fun K hK=>?_))
 refine s1 (d:=dG al_cV a6.vW) (aE (ao.id _ _) aF) ?_
 refine cqb h cT fun xc h=>?_
 refine s1 (d:=dG al_cV w9.2) (aE (ao.id _ _) aF) ?_
 refine cqb h cT fun x31 h=>?_
 refine cqb h ih fun zX h=>?_
 refine s0 (aO (b':=zX) (ao.id _ _) ax) ?_
 refine .nil (hK _ _ (AW.ret ?_))
 cases h
 exact rv1
 refine AW.skip (rs hx fun K hK=>?_)
 refine s1 (d:=dG ap aW) (aE (ao.id _ _) ax) ?_
 refine scb h Fp fun x35 h=>?_
 refine s0 (aO (b':=x35) (ao.id _ _) ax) ?_
 refine .nil (hK _ _ (AW.ret ?_))
 cases h
 exact rv1
def gF:Nat→aq→aq→Option aq
 |0=>fun _ _=>none
 |n+1=>cr (gF n)
theorem ut:∀(n:Nat) {aW:aq} {a6:aq} {r:aq},gF n aW a6=some r→aC prog 93 [dG ap aW,dG ap a6] (dG ap r)
 |0,_,_,_,h=>by cases h
 |n+1,_,_,_,h=>B6 (ut n) h
def mI(aW:aq)(a6:aq):Option aq:=gF 1000 aW a6
theorem sW {aW:aq}{a6:aq}{r:aq}(h:mI aW a6=some r):aC prog 93 [dG ap aW,dG ap a6] (dG ap r):=ut 1000 h
def jX(aW:aq)(a6:aq):Option (aq×aq):=bnd (S:=Bool) (bnd (cN [aW,a6]) fun x1=>cnd (!x1) (some (true)) (bnd (gt a6) fun x4=>some (decide (x4=(0:Int))))) fun bM=>cnd bM (bnd (dT) fun x8=>bnd (dT) fun mU=>some (x8,mU)) (bnd (S:=Unit⊕(aq×aq)) (bnd (ka aW) fun jA=>bnd (S:=Bool) (cnd jA.2 (some (decide (jA.1≠(-9223372036854775808:Int)))) (some (false))) fun c6=>cnd c6 (bnd (ka a6) fun po=>bnd (S:=Bool) (cnd po.2 (some (decide (po.1≠(-9223372036854775808:Int)))) (some (false))) fun mO=>cnd mO (gd (po.1≠0) (gd (po.1≠0) (bnd (S:=Int×Int) (bnd (S:=Bool) (cnd (decide ((Int.tmod jA.1 po.1)≠(0:Int))) (some (!((decide ((Int.tmod jA.1 po.1)<(0:Int))) == (decide (po.1<(0:Int)))))) (some (false))) fun zh=>cnd zh (bnd (some (i64.wrap ((i64.wrap (Int.tdiv jA.1 po.1)) - (1:Int)))) fun w9=>bnd (some (i64.wrap ((Int.tmod jA.1 po.1)+po.1))) fun xc=>some ((w9,xc))) (some ((i64.wrap (Int.tdiv jA.1 po.1),Int.tmod jA.1 po.1)))) fun (fW,pl)=>bnd (eM fW) fun x32=>bnd (eM pl) fun x34=>some (.inr (x32,x34))))) (some (.inl ()))) (some (.inl ()))) fun y36=>match y36 with| .inl ()=>bnd (fq aW.vW a6.vW) fun zH=>bnd (bE (!(aW.vNeg == a6.vNeg)) zH.1) fun Ds=>bnd (S:=(Vector Int 16)×aq) (bnd (S:=Bool) (cnd (decide (¬(zH.2=#v[(0:Int),0,0,0,0,0,0,0,0,0,0,0,0,0,0,0]))) (some (!(aW.vNeg == a6.vNeg))) (some (false))) fun ze=>cnd ze (bnd (eM (1:Int)) fun x44=>bnd (mH Ds x44) fun x46=>bnd (gD a6.vW zH.2) fun x48=>some ((x48,x46))) (some ((zH.2,Ds)))) fun (zf,wS)=>bnd (bE a6.vNeg zf) fun x51=>some (wS,x51)| .inr r=>some r)
theorem zm {aW:aq}{a6:aq}{r:aq×aq}(h:jX aW a6=some r):aC prog 159 [dG ap aW,dG ap a6] (.tu [dG ap r.1,dG ap r.2]):=by
 refine bQ (rs:=[.cell 4 32,.cell 5 32]) (fun cx hx h0=>?_) func159
 unfold jX at h
 refine rs hx fun K hK=>?_
 iterate 2 refine sa ?_
 iterate 2 refine s1 (bp (F:=ap.f bz) ax) ?_
 refine .nil (hK _ _ ?_)
 iterate 2 refine AW.seq ?_
 obtain⟨bM,hy,h⟩:=ah h
 refine jn ((PE cx .normal (fun bM=>[(2,.pt 0 0),(3,.pt 1 0),(4,.pt 2 0),(5,.pt 3 0),(24,dB bM)]) fun bM=>⟨[(0,dC (ap.f aW)),(1,dC (ap.f a6)),(2,dC (ap.f bz)),(3,dC (ap.f bz))],[],4⟩) bM) ?_ ?_
 replace h:=hy
 refine rq hx fun K hK=>?_
 refine s1 (d:=dG ap aW) (aE (ao.id _ _) ax) ?_
 refine s1 (d:=dG ap a6) (aE (ao.id _ _) ax) ?_
 refine s1 (qm ([aW,a6]:List aq) ap pP ax) ?_
 refine scb h gl fun x1 h=>?_
 iterate 2 refine sa ?_
 rcases aX (!x1) with bo|bo
 replace h:=aZ bo h
 iterate 3 refine aH rfl rfl bo ?_
 refine s1 (al bo) ?_
 refine .nil (hK _ _ ?_)
 cases h
 exact pe0 h0 [0,1,2,3]
 replace h:=a3 bo h
 refine g1 (d:=dG ap a6) bo (aE (ao.id _ _) ax) ?_
 obtain⟨x4,va,h⟩:=ah h
 refine g1 bo (eC rfl (mV va) (by simp only[cp,dh,jy,fO,dX,dW];exact bc _ _) (lA (fm _ _) lAn) (.inl rfl)) ?_
 refine ga bo ?_
 refine s1 (au bo) ?_
 refine .nil (hK _ _ ?_)
 cases h
 exact pe0 h0 [0,1,2,3]
 rintro ex tm' hp' ⟨rfl,hw⟩
 refine AW.weak hw (cdh h rfl (fun xY h=>?_) (fun xY h=>?_))
 refine rs hx fun K hK=>?_
 refine scb h gB fun x8 h=>?_
 refine scb h gB fun mU h=>?_
 refine s0 (aO (b':=x8) (ao.id _ _) ax) ?_
 refine s0 (aO (b':=mU) (ao.id _ _) ax) ?_
 refine .nil (hK _ _ (AW.ret ?_))
 cases h
 exact rv2
 refine AW.skip (AW.seq ?_)
 obtain⟨y,hy,h⟩:=ah h
 refine jn ((PS (PE cx .normal (fun ()=>[(2,.pt 0 0),(3,.pt 1 0),(4,.pt 2 0),(5,.pt 3 0)]) fun ()=>⟨[(0,dC (ap.f aW)),(1,dC (ap.f a6)),(2,dC (ap.f bz)),(3,dC (ap.f bz))],[],4⟩) (PR [.cell 4 32,.cell 5 32] fun r=>.tu [dG ap r.1,dG ap r.2])) y) ?_ ?_
 replace h:=hy
 refine rs hx fun K hK=>?_
 refine s1 (d:=dG ap aW) (aE (ao.id _ _) ax) ?_
 refine scb h ur fun jA h=>?_
 iterate 5 refine sa ?_
 refine .nil (hK _ _ (AW.seq ?_))
 obtain⟨c6,hy,h⟩:=ah h
 refine jn ((PE cx .normal (fun c6=>[(2,.pt 0 0),(3,.pt 1 0),(4,.pt 2 0),(5,.pt 3 0),(6,dI .i64 jA.1),(36,dB c6)]) fun c6=>⟨[(0,dC (ap.f aW)),(1,dC (ap.f a6)),(2,dC (ap.f bz)),(3,dC (ap.f bz))],[],4⟩) c6) ?_ ?_
 replace h:=hy
 refine rq hx fun K hK=>?_
 iterate 2 refine sa ?_
 rcases aX jA.2 with iR|iR
 replace h:=aZ iR h
 iterate 2 refine ga iR ?_
 refine s1 (al iR) ?_
 refine .nil (hK _ _ ?_)
 cases h
 exact pe0 h0 [0,1,2,3]
 replace h:=a3 iR h
 iterate 2 refine aH rfl rfl iR ?_
 refine s1 (au iR) ?_
 refine .nil (hK _ _ ?_)
 cases h
 exact pe0 h0 [0,1,2,3]
 rintro ex tm' hp' ⟨rfl,hw⟩
 refine AW.weak hw (cdh h rfl (fun Iv h=>?_) (fun Iv h=>?_))
 refine rs hx fun K hK=>?_
 refine s1 (d:=dG ap a6) (aE (ao.id _ _) ax) ?_
 refine scb h ur fun po h=>?_
 iterate 5 refine sa ?_
 refine .nil (hK _ _ (AW.seq ?_))
 obtain⟨mO,hy,h⟩:=ah h
 refine jn ((PE cx .normal (fun mO=>[(2,.pt 0 0),(3,.pt 1 0),(4,.pt 2 0),(5,.pt 3 0),(6,dI .i64 jA.1),(8,dI .i64 po.1),(46,dB mO)]) fun mO=>⟨[(0,dC (ap.f aW)),(1,dC (ap.f a6)),(2,dC (ap.f bz)),(3,dC (ap.f bz))],[],4⟩) mO) ?_ ?_
 replace h:=hy
 refine rq hx fun K hK=>?_
 iterate 2 refine sa ?_
 rcases aX po.2 with AU|AU
 replace h:=aZ AU h
 iterate 2 refine ga AU ?_
 refine s1 (al AU) ?_
 refine .nil (hK _ _ ?_)
 cases h
 exact pe0 h0 [0,1,2,3]
 replace h:=a3 AU h
 iterate 2 refine aH rfl rfl AU ?_
 refine s1 (au AU) ?_
 refine .nil (hK _ _ ?_)
 cases h
 exact pe0 h0 [0,1,2,3]
 rintro ex tm' hp' ⟨rfl,hw⟩
 refine AW.weak hw (cdh h rfl (fun Ef h=>?_) (fun Ef h=>?_))
 refine rsd [] hx fun K hK=>?_
 iterate 2 refine sa ?_
 obtain⟨Eb,h⟩:=aD h
 refine s1 (G7 Eb) ?_
 iterate 2 refine sa ?_
 obtain⟨hc23,h⟩:=aD h
 refine s1 (Dp hc23) ?_
 iterate 2 refine sa ?_
 refine .nil (hK _ _ (AW.seq ?_))
 obtain⟨y,hy,h⟩:=ah h
 refine jn ((PE cx .normal (fun (fW,pl)=>[(4,.pt 0 0),(5,.pt 1 0),(10,dI .i64 fW),(11,dI .i64 pl)]) fun (fW,pl)=>⟨[(0,dC (ap.f bz)),(1,dC (ap.f bz))],[],2⟩) y) ?_ ?_
 replace h:=hy
 refine AW.seq ?_
 obtain⟨zh,hy,h⟩:=ah h
 refine jn ((PE cx .normal (fun zh=>[(4,.pt 0 0),(5,.pt 1 0),(8,dI .i64 po.1),(10,dI .i64 (i64.wrap (Int.tdiv jA.1 po.1))),(11,dI .i64 (Int.tmod jA.1 po.1)),(61,dB zh)]) fun zh=>⟨[(0,dC (ap.f bz)),(1,dC (ap.f bz))],[],2⟩) zh) ?_ ?_
 replace h:=hy
 refine rq hx fun K hK=>?_
 iterate 3 refine sa ?_
 rcases aX (decide ((Int.tmod jA.1 po.1)≠(0:Int))) with xZ|xZ
 replace h:=aZ xZ h
 iterate 5 refine ga xZ ?_
 refine s1 (al xZ) ?_
 refine .nil (hK _ _ ?_)
 cases h
 exact pe0 h0 [2,3]
 replace h:=a3 xZ h
 iterate 5 refine aH rfl rfl xZ ?_
 refine s1 (au xZ) ?_
 refine .nil (hK _ _ ?_)
 cases h
 exact pe0 h0 [2,3]
 rintro ex tm' hp' ⟨rfl,hw⟩
 refine AW.weak hw (cdh h rfl (fun hb26 h=>?_) (fun hb26 h=>?_))
 refine rq hx fun K hK=>?_
 iterate 5 refine sa ?_
 obtain⟨w9,H2,h⟩:=ah h
 replace H2:=cv H2
 refine s2 (d2:=dI .i64 w9) kO (fR (congrArg (dI .i64) H2)) ?_
 obtain⟨xc,hx30,h⟩:=ah h
 replace hx30:=cv hx30
 refine s2 (d2:=dI .i64 xc) kO (fR (congrArg (dI .i64) hx30)) ?_
 refine .nil (hK _ _ ?_)
 cases h
 exact pe0 h0 [0,1]
 refine AW.skip ?_
 cases h
 exact pe0 h0 [0,1]
 obtain⟨fW,pl⟩:=y
 rintro ex tm' hp' ⟨rfl,hw⟩
 refine AW.weak hw (rs hx fun K hK=>?_)
 refine sa ?_
 refine scb h mn fun x32 h=>?_
 refine sa ?_
 refine scb h mn fun x34 h=>?_
 refine s0 (aO (b':=x32) (ao.id _ _) ax) ?_
 refine s0 (aO (b':=x34) (ao.id _ _) ax) ?_
 refine .nil (hK _ _ (AW.ret ?_))
 cases h
 refine PS.r (PR.i ?_)
 exact rv2
 refine AW.skip ?_
 cases h
 exact PS.l (pe0 h0 [0,1,2,3])
 refine AW.skip ?_
 cases h
 exact PS.l (pe0 h0 [0,1,2,3])
 rcases y with⟨⟩|r
 rintro ex tm' hp' ⟨rfl,hw⟩
 refine AW.weak hw (rs hx fun K hK=>?_)
 refine sa ?_
 refine s1 (aE (aT aW) aF) ?_
 refine sa ?_
 refine s1 (aE (aT a6) aF) ?_
 refine scb h rf fun zH h=>?_
 iterate 3 refine sa ?_
 iterate 2 refine s1 (bp (F:=al_cV.f (bS)) aF) ?_
 refine s0 (aO (b':=zH.1) (ao.id _ _) aF) ?_
 refine s0 (aO (b':=zH.2) (ao.id _ _) aF) ?_
 refine .nil (hK _ _ (rs hx fun K hK=>?_))
 refine sa ?_
 refine s1 (a4 (bu aW) gp) ?_
 refine sa ?_
 refine s1 (a4 (bu a6) gp) ?_
 refine sa ?_
 refine s1 (d:=dG al_cV zH.1) (aE (ao.id _ _) aF) ?_
 refine scb h cT fun Ds h=>?_
 refine s1 (bp (F:=ap.f bz) ax) ?_
 refine s0 (aO (b':=Ds) (ao.id _ _) ax) ?_
 refine .nil (hK _ _ (AW.seq ?_))
 obtain⟨y,hy,h⟩:=ah h
 refine jn ((PE cx .normal (fun (zf,wS)=>[(3,.pt 0 0),(4,.pt 1 0),(5,.pt 2 0),(13,.pt 3 0),(14,.pt 4 0)]) fun (zf,wS)=>⟨[(0,dC (ap.f a6)),(1,dC (ap.f bz)),(2,dC (ap.f bz)),(3,dC (al_cV.f zf)),(4,dC (ap.f wS))],[],5⟩) y) ?_ ?_
 replace h:=hy
 refine AW.seq ?_
 obtain⟨ze,hy,h⟩:=ah h
 refine jn ((PE cx .normal (fun ze=>[(3,.pt 0 0),(4,.pt 1 0),(5,.pt 2 0),(13,.pt 3 0),(14,.pt 4 0),(95,dB ze)]) fun ze=>⟨[(0,dC (ap.f a6)),(1,dC (ap.f bz)),(2,dC (ap.f bz)),(3,dC (al_cV.f zH.2)),(4,dC (ap.f Ds))],[],5⟩) ze) ?_ ?_
 replace h:=hy
 refine rq hx fun K hK=>?_
 refine s1 (d:=dG al_cV zH.2) (aE (ao.id _ _) aF) ?_
 refine s1 (d:=dG al_cV (#v[(0:Int),0,0,0,0,0,0,0,0,0,0,0,0,0,0,0])) (lx aF aI) ?_
 refine s1 (sw tok 2 (by decide) (EqC.arr (EqC.int (d:=0) aI) aF aI) aF) ?_
 refine sa ?_
 rcases aX (decide (¬(zH.2=#v[(0:Int),0,0,0,0,0,0,0,0,0,0,0,0,0,0,0]))) with rW|rW
 replace h:=aZ rW h
 refine ga rW ?_
 refine g1 rW (a4 (bu aW) gp) ?_
 refine ga rW ?_
 refine g1 rW (a4 (bu a6) gp) ?_
 refine ga rW ?_
 refine s1 (al rW) ?_
 refine .nil (hK _ _ ?_)
 cases h
 exact pe0 h0 [1,2,3,5,6]
 replace h:=a3 rW h
 iterate 5 refine aH rfl rfl rW ?_
 refine s1 (au rW) ?_
 refine .nil (hK _ _ ?_)
 cases h
 exact pe0 h0 [1,2,3,5,6]
 rintro ex tm' hp' ⟨rfl,hw⟩
 refine AW.weak hw (cdh h rfl (fun Ee h=>?_) (fun Ee h=>?_))
 refine rqd [105,177,162] hx fun K hK=>?_
 refine s1 (d:=dG ap Ds) (aE (ao.id _ _) ax) ?_
 refine cqb h mn fun x44 h=>?_
 refine cqb h Fo fun x46 h=>?_
 refine sa ?_
 refine s1 (aE (aT a6) aF) ?_
 refine s1 (d:=dG al_cV zH.2) (aE (ao.id _ _) aF) ?_
 refine cqb h qN fun x48 h=>?_
 refine s0 (aO (b':=x46) (ao.id _ _) ax) ?_
 refine s0 (aO (b':=x48) (ao.id _ _) aF) ?_
 refine .nil (hK _ _ ?_)
 cases h
 exact pe0 h0 [0,1,2,3,4]
 refine AW.skip ?_
 cases h
 exact pe0 h0 [0,1,2,3,4]
 obtain⟨zf,wS⟩:=y
 rintro ex tm' hp' ⟨rfl,hw⟩
 refine AW.weak hw (rsd [111] hx fun K hK=>?_)
 refine s1 (d:=dG ap wS) (aE (ao.id _ _) ax) ?_
 refine sa ?_
 refine s1 (a4 (bu a6) gp) ?_
 refine s1 (d:=dG al_cV zf) (aE (ao.id _ _) aF) ?_
 refine cqb h cT fun x51 h=>?_
 refine s0 (aO (b':=wS) (ao.id _ _) ax) ?_
 refine s0 (aO (b':=x51) (ao.id _ _) ax) ?_
 refine .nil (hK _ _ (AW.ret ?_))
 cases h
 exact rv2
 rintro ex tm' hp' ⟨rfl,hw⟩
 cases h
 exact hw
def jB(aW:aq)(a6:aq):Option aq:=bnd (jX aW a6) fun x1=>some x1.1
theorem mE {aW:aq}{a6:aq}{r:aq}(h:jB aW a6=some r):aC prog 126 [dG ap aW,dG ap a6] (dG ap r):=by
 refine bQ (rs:=[.cell 4 32]) (fun cx hx h0=>?_) func126
 unfold jB at h
 refine rs hx fun K hK=>?_
 iterate 2 refine sa ?_
 refine s1 (bp (F:=ap.f bz) ax) ?_
 refine .nil (hK _ _ (rs hx fun K hK=>?_))
 refine s1 (d:=dG ap aW) (aE (ao.id _ _) ax) ?_
 refine s1 (d:=dG ap a6) (aE (ao.id _ _) ax) ?_
 refine scb h zm fun x1 h=>?_
 iterate 3 refine sa ?_
 iterate 2 refine s1 (bp (F:=ap.f bz) ax) ?_
 refine s0 (aO (b':=x1.1) (ao.id _ _) ax) ?_
 refine s0 (aO (b':=x1.2) (ao.id _ _) ax) ?_
 refine .nil (hK _ _ (rs hx fun K hK=>?_))
 refine s1 (d:=dG ap x1.1) (aE (ao.id _ _) ax) ?_
 refine s0 (aO (b':=x1.1) (ao.id _ _) ax) ?_
 refine .nil (hK _ _ (AW.ret ?_))
 cases h
 exact rv1
section
theorem vsub {b n A:Nat}(m o:Nat)(h:o+m≤n):vOf m (List.take m (List.drop o (vN b n A).toList))=vN b m (A / b ^ o):=by
 have hl:(List.take m (List.drop o (vN b n A).toList)).length=m:=by
  rw[eI,gi,mC];omega
 apply m4
 intro j hj
 rw[iQ hj]
 have e1:=v9 (vOf m (List.take m (List.drop o (vN b n A).toList))) hj
 rw[uU hl] at e1
 rw[←e1,eG _ j (by omega),List.getElem_take,List.getElem_drop]
 have e2:=iQ (b:=b) (A:=A) (j:=o+j) (n:=n) (by omega)
 rw[←v9 (vN b n A) (by omega),eG _ (o+j) (by rw[mC];omega)] at e2
 rw[e2]
 unfold dg
 rw[gA,f9]
section
variable {b R a B i k:Nat}
def qo(b R a B i k:Nat):Nat:=R % b ^ (i+k)+a*(B % b ^ k)*b ^ i
def vO(b R a B i k:Nat):Nat:=R / b ^ (i+k)*b ^ (i+k)+qo b R a B i k % b ^ (i+k)
theorem Dq:qo b R a B i (k+1)=qo b R a B i k+b ^ (i+k)*(dg b R (i+k)+a*dg b B k):=by
 unfold qo
 rw[show i+(k+1)=i+k+1 from rfl,ge,ge (A:=B),ss,ss,bj,gA b i k]
 have:a*(b ^ k*dg b B k)*b ^ i=b ^ i*b ^ k*(a*dg b B k):=by
  simp only[eU,yz,cj]
 rw[this];omega
theorem KA(hb:0<b)(ha:a<b):qo b R a B i k / b ^ (i+k)<b:=by
 have hp:0<b ^ (i+k):=cJ hb
 rw[nR hp]
 unfold qo
 have h1:=dv R hp
 have h2:a*(B % b ^ k)*b ^ i≤(b - 1)*b ^ (i+k):=by
  rw[gA,eU]
  refine pC (by omega) ?_
  rw[cj (b ^ i)]
  exact cg _ (kz (dv _ (cJ hb)))
 have h3:(b - 1)*b ^ (i+k)+b ^ (i+k)=b*b ^ (i+k):=by
  rw[←rC];congr 1;omega
 omega
theorem Orow_dg(hb:0<b):dg b (vO b R a B i k) (i+k)=dg b R (i+k):=by
 unfold vO dg
 rw[cj (R / _),vH (cJ hb),dt (dv _ (cJ hb)),mf]
theorem LJ(hb:0<b):up1 b (vO b R a B i k) (i+k) (qo b R a B i (k+1) / b ^ (i+k) % b)=vO b R a B i (k+1):=by
 have hp:0<b ^ (i+k):=cJ hb
 have e1:vO b R a B i k / b ^ (i+k+1)=R / b ^ (i+k+1):=by
  rw[eF,←f9,←f9]
  congr 1
  unfold vO
  rw[cj (R / _),vH hp,dt (dv _ hp),mf]
 have e2:vO b R a B i k % b ^ (i+k)=qo b R a B i (k+1) % b ^ (i+k):=by
  rw[Dq,yy]
  unfold vO
  rw[cj (R / _),Nat.mul_add_mod,yx]
 unfold up1
 rw[e1,e2]
 show _=R / b ^ (i+k+1)*b ^ (i+k+1)+qo b R a B i (k+1) % b ^ (i+k+1)
 rw[ge (A:=qo b R a B i (k+1)),cj (b ^ (i+k)) (dg _ _ _)]
 unfold dg
 omega
end
theorem Mul_row {A B i m:Nat}(hi:i<16)(hm:m≤16)(hB:B<4294967296 ^ m)(x y:aq)(hx:x.vW=W A)(hy:y.vW=W B):
  ∃c:Nat,c<4294967296∧∃O:Nat,a7 (ie x y (m:Int) (i:Int)) ((0:Int),(0:Int),vN 4294967296 32 (A % 4294967296 ^ i*B))=some ((c:Int),vN 4294967296 32 O)∧up1 4294967296 O (i+m) c=A % 4294967296 ^ (i+1)*B:=by
 have hb:0<(4294967296:Nat):=by decide
 have hR:A % 4294967296 ^ i*B<4294967296 ^ (i+m):=by
  rw[gA]
  exact Nat.mul_lt_mul_of_lt_of_le (dv _ (cJ hb)) (kz hB) (cJ hb)
 generalize hRR:A % 4294967296 ^ i*B=R at hR ⊢
 have ha:=@dgl A i
 have hl:=pX (b:=ie x y (m:Int) (i:Int)) (s0:=((0:Int),(0:Int),vN 4294967296 32 R)) (fun k=>((qo 4294967296 R (dg 4294967296 A i) B i k / 4294967296 ^ (i+k):Nat),(k:Int),vN 4294967296 32 (vO 4294967296 R (dg 4294967296 A i) B i k))) m ((qo 4294967296 R (dg 4294967296 A i) B i m / 4294967296 ^ (i+m):Nat),vN 4294967296 32 (vO 4294967296 R (dg 4294967296 A i) B i m))
  (by
   have e1:qo 4294967296 R (dg 4294967296 A i) B i 0=R % 4294967296 ^ i:=by unfold qo;simp[lZ]
   have e2:vO 4294967296 R (dg 4294967296 A i) B i 0=R:=by
    unfold vO;rw[e1,mf,yx,cj];exact nQ _ _
   rw[e1,e2,mf,dt (dv _ (cJ hb))]
   rfl)
  (fun k hk=>by
   have hk16:k<16:=by omega
   have hc:=KA (b:=4294967296) (R:=R) (a:=dg 4294967296 A i) (B:=B) (i:=i) (k:=k) hb ha
   have hbk:=@dgl B k
   have hr:=@dgl R (i+k)
   have JS:dg 4294967296 A i*dg 4294967296 B k≤4294967295*4294967295:=pC (by omega) (by omega)
   have Cm:qo 4294967296 R (dg 4294967296 A i) B i (k+1) / 4294967296 ^ (i+k)=qo 4294967296 R (dg 4294967296 A i) B i k / 4294967296 ^ (i+k)+(dg 4294967296 A i*dg 4294967296 B k+dg 4294967296 R (i+k)):=by
    rw[Dq,vG _ _ (cJ hb),ls (dg 4294967296 R (i+k))]
   have zw:qo 4294967296 R (dg 4294967296 A i) B i (k+1) / 4294967296 ^ (i+(k+1))=qo 4294967296 R (dg 4294967296 A i) B i (k+1) / 4294967296 ^ (i+k) / 4294967296:=by
    rw[f9,←eF];rfl
   have qZ:=LJ (b:=4294967296) (R:=R) (a:=dg 4294967296 A i) (B:=B) (i:=i) (k:=k) hb
   rw[zw]
   generalize qo 4294967296 R (dg 4294967296 A i) B i (k+1) / 4294967296 ^ (i+k)=x1 at Cm qZ ⊢
   generalize qo 4294967296 R (dg 4294967296 A i) B i k / 4294967296 ^ (i+k)=c at Cm hc ⊢
   have eik:i64.wrap ((i:Int)+(k:Int))=((i+k:Nat):Int):=by rw[cb];omega
   dsimp only[ie]
   rw[bw _ _,aJ,aJ,eik,aJ,ab,aJ,ab,bL,bL,bL,hx,hy,fX hi,fX hk16,iQ (by omega),Orow_dg hb,
    gK (n:=dg 4294967296 A i) (by omega),gK (n:=dg 4294967296 B k) (by omega),gK (n:=dg 4294967296 R (i+k)) (by omega),←oa,gK (n:=dg 4294967296 A i*dg 4294967296 B k) (by omega),←kw,gK,←kw,gK,←Cm,uy,xr,xo hb (dv _ hb) (by omega),qZ,cb]
   rfl)
  (by
   dsimp only[ie]
   rw[bx _ _])
 refine⟨_,KA hb ha,_,hl,?_⟩
 have e1:qo 4294967296 R (dg 4294967296 A i) B i m=R+dg 4294967296 A i*B*4294967296 ^ i:=by
  unfold qo;rw[dJ hR,dJ hB]
 have e2:vO 4294967296 R (dg 4294967296 A i) B i m=qo 4294967296 R (dg 4294967296 A i) B i m % 4294967296 ^ (i+m):=by
  unfold vO;rw[dt hR,fj,br]
 have hO:vO 4294967296 R (dg 4294967296 A i) B i m<4294967296 ^ (i+m):=by rw[e2];exact dv _ (cJ hb)
 unfold up1
 rw[dt (bT hO (ib hb (dH _))),fj,br,dJ hO,e2,cj (_ / _),nQ,e1,←hRR,ge (A:=A),bj]
 congr 1
 simp only[eU,yz,cj]
theorem Ph {A B n m:Nat}(hn:n≤16)(hm:m≤16)(hA:A<4294967296 ^ n)(hB:B<4294967296 ^ m)(x y:aq)(hx:x.vW=W A)(hy:y.vW=W B):
  a7 (ig x y (n:Int) (m:Int)) ((0:Int),Vector.replicate 32 (0:Int))=some (vN 4294967296 32 (A*B)):=by
 have hb:0<(4294967296:Nat):=by decide
 have hl:=pX (b:=ig x y (n:Int) (m:Int)) (s0:=((0:Int),Vector.replicate 32 (0:Int))) (fun i=>((i:Int),vN 4294967296 32 (A % 4294967296 ^ i*B))) n (vN 4294967296 32 (A % 4294967296 ^ n*B))
  (by simp only[fE,lZ,fj,qy];rfl)
  (fun i hi=>by
   obtain⟨c,hc,O,h1,h2⟩:=Mul_row (i:=i) (by omega) hm hB x y hx hy
   have eim:i64.wrap ((i:Int)+(m:Int))=((i+m:Nat):Int):=by rw[cb];omega
   dsimp only[ig]
   rw[bw _ _,h1,ab]
   dsimp only
   rw[eim,aJ,ab,bL,xq hc,xo hb hc (by omega),h2,cb]
   rfl)
  (by
   dsimp only[ig]
   rw[bx _ _])
 rw[hl,dJ hA]
theorem Hh {a c:Int}(ha:a.natAbs<LIM)(hc:c.natAbs<LIM):iA (enc a) (enc c)=some (enc (a*c)):=by
 obtain⟨n,hn,hn1,Gp⟩:=yE ha
 obtain⟨m,hm,Li,hm2⟩:=yE hc
 have JS:a.natAbs*c.natAbs<4294967296 ^ 16*4294967296 ^ 16:=yw ha hc
 unfold iA
 rw[sy,bN ha,bN hc,ab]
 simp only[dX,ej,a9]
 rw[lO ha,lO hc,hn1,ab,Li,ab,Ph hn hm Gp.1 hm2.1 (enc a) (enc c) (lO ha) (lO hc),ab,vsub 16 16 (by omega),vsub 16 0 (by omega),z16,nr ha,nr hc,fE,mB]
 have hq:a.natAbs*c.natAbs / 4294967296 ^ 16<LIM:=GY JS
 have hz:(vN 4294967296 16 (a.natAbs*c.natAbs / 4294967296 ^ 16)=W 0)↔a.natAbs*c.natAbs<LIM:=by
  rw[BL hq ue,EV (by decide)];rfl
 simp only[hz]
 by_cases h:a.natAbs*c.natAbs<LIM
 ·rw[bx _ _ (by simpa using h),iO h,ab]
  congr 2
  rcases Int.natAbs_eq a with e1|e1 <;> rcases Int.natAbs_eq c with e2|e2 <;> skip
  all_goals
   by_cases ha0:a<0 <;> by_cases hc0:c<0 <;> simp only[ha0,hc0,qY,qX,BC,ej,tL,lr,cond_false,Bool.true_beq,Bool.false_beq,oa]
  all_goals (first|(exfalso;omega)|(have ea:(a.natAbs:Int)=a:=(by omega);have ec:(c.natAbs:Int)=c:=(by omega);rw[ea,ec])|(have ea:(a.natAbs:Int)=-a:=(by omega);have ec:(c.natAbs:Int)=c:=(by omega);rw[ea,ec,Int.neg_mul,Int.neg_neg])|(have ea:(a.natAbs:Int)=a:=(by omega);have ec:(c.natAbs:Int)=-c:=(by omega);rw[ea,ec,Int.mul_neg,Int.neg_neg])|(have ea:(a.natAbs:Int)=-a:=(by omega);have ec:(c.natAbs:Int)=-c:=(by omega);rw[ea,ec,Int.neg_mul_neg])|skip)
 ·rw[bw _ _ (by simpa using h),KM,ab,A4 (by rw[vE];exact h)]
end
theorem set16(x y:Int):(#v[x,y,0,0,0,0,0,0,0,0,0,0,0,0,0,0]:Vector Int 16)=((W 0).set! 0 x).set! 1 y:=by
 rw[←z16];rfl
theorem O5 {u:Nat}(hu:u<18446744073709551616):(#v[((u % 4294967296:Nat):Int),((u / 4294967296:Nat):Int),0,0,0,0,0,0,0,0,0,0,0,0,0,0]:Vector Int 16)=W u:=by
 have hb:0<(4294967296:Nat):=by decide
 have hx:u % 4294967296<4294967296:=dv _ hb
 have hy:u / 4294967296<4294967296:=by omega
 rw[set16]
 unfold W
 rw[xo hb hx (by omega)]
 have e1:up1 4294967296 0 0 (u % 4294967296)=u % 4294967296:=by
  have:=Hu (b:=4294967296) (A:=0) (p:=0) (x:=u % 4294967296)
  rw[kI (by decide)] at this
  omega
 have h:=Hu (b:=4294967296) (A:=u % 4294967296) (p:=1) (x:=u / 4294967296)
 rw[kI (by rw[tK];exact hx),tK,fj,mf,Nat.mod_add_div'] at h
 rw[e1,xo hb hy (by omega),h]
theorem E8 {n:Int}(h1:-9223372036854775808≤n)(h2:n≤9223372036854775807):eM n=some (enc n):=by
 have hu:n.natAbs<18446744073709551616:=by omega
 have hL:n.natAbs<LIM:=bT hu (by decide)
 have hc:cnd (decide (n<(0:Int))) (some (u64.wrap (0 - (u64.wrap n)))) (some (u64.wrap n))=some ((n.natAbs:Nat):Int):=by
  rw[i5]
  split
  ·congr 1;rw[IntKind.wrap_u64,IntKind.wrap_u64];omega
  ·congr 1;rw[IntKind.wrap_u64];omega
 unfold eM
 rw[hc,ab,xr,uy,xq,O5 hu,iO hL,ab]
 congr 2
 by_cases h:n<0
 ·simp only[h,qY,lr];omega
 ·simp only[h,qX,cond_false];omega
theorem uW {x k l:Nat}(hx:2 ^ k≤x)(h:szp 2 (x / 2 ^ k) l):szp 2 x (l+k):=by
 have hp:0<2 ^ k:=cJ (by decide)
 have h0:0<x / 2 ^ k:=BB hx hp
 have hl:0<l:=by
  rcases iS l with h1|h1
  ·subst h1;have:=h.1;simp at this;omega
  ·exact h1
 refine⟨?_,fun _=>?_⟩
 ·rw[gA];exact (nR hp).1 h.1
 ·have:=h.2 hl
  rw[show l+k - 1=(l - 1)+k from by omega,gA]
  exact (n9 hp).1 this
def Ge:ByteArray:=⟨#[0,1,2,2,3,3,3,3,4,4,4,4,4,4,4,4,5,5,5,5,5,5,5,5,5,5,5,5,5,5,5,5,6,6,6,6,6,6,6,6,6,6,6,6,6,6,6,6,6,6,6,6,6,6,6,6,6,6,6,6,6,6,6,6,7,7,7,7,7,7,7,7,7,7,7,7,7,7,7,7,7,7,7,7,7,7,7,7,7,7,7,7,7,7,7,7,7,7,7,7,7,7,7,7,7,7,7,7,7,7,7,7,7,7,7,7,7,7,7,7,7,7,7,7,7,7,7,7,8,8,8,8,8,8,8,8,8,8,8,8,8,8,8,8,8,8,8,8,8,8,8,8,8,8,8,8,8,8,8,8,8,8,8,8,8,8,8,8,8,8,8,8,8,8,8,8,8,8,8,8,8,8,8,8,8,8,8,8,8,8,8,8,8,8,8,8,8,8,8,8,8,8,8,8,8,8,8,8,8,8,8,8,8,8,8,8,8,8,8,8,8,8,8,8,8,8,8,8,8,8,8,8,8,8,8,8,8,8,8,8,8,8,8,8,8,8,8,8,8,8,8,8,8,8,8,8]⟩
theorem CY:∀y:Nat,y<256→(Ge.data.toList.getD y 0).toNat≤8∧y<2 ^ (Ge.data.toList.getD y 0).toNat∧(0<(Ge.data.toList.getD y 0).toNat→2 ^ ((Ge.data.toList.getD y 0).toNat - 1)≤y):=by decide +kernel
theorem Lb:Ge.size=256:=by decide +kernel
theorem len_tab(y:Nat)(hy:y<256):∃l:Nat,sAt Ge y=(l:Int)∧l≤8∧szp 2 y l:=
 ⟨_,rfl,(CY y hy).1,(CY y hy).2⟩
theorem Pi(x:Int):lI x=bnd (S:=Int×Int) (cnd (decide ((65536:Int)≤x)) (some ((lf .u32 x (16:Int),(16:Int)))) (some ((x,(0:Int))))) fun (jR,EZ)=>bnd (S:=Int×Int) (cnd (decide ((256:Int)≤jR)) (some ((lf .u32 jR (8:Int),i64.wrap (EZ+(8:Int))))) (some ((jR,EZ)))) fun (j6,BK)=>gd (0≤u8.wrap (j6)∧u8.wrap (j6)<(Ge.size:Int)) (bnd (some (i64.wrap (BK+(i64.wrap (sAt Ge (u8.wrap (j6)).toNat))))) fun x6=>some x6):=rfl
theorem u8n {n:Nat}(h:n<256):u8.wrap (n:Int)=(n:Int):=by
 rw[IntKind.wrap_u8];omega
theorem KK {x:Nat}(hx:x<4294967296):∃l:Nat,lI (x:Int)=some (l:Int)∧l≤32∧szp 2 x l:=by
 have h16:∃(y n:Nat),cnd (decide ((65536:Int)≤(x:Int))) (some ((lf .u32 (x:Int) (16:Int),(16:Int)))) (some (((x:Int),(0:Int))))=some ((y:Int),(n:Int))∧y<65536∧n≤16∧∀l,szp 2 y l→szp 2 x (l+n):=by
  rw[i5]
  split
  ·rename_i h
   exact⟨x / 2 ^ 16,16,by rw[show (16:Int)=((16:Nat):Int) from rfl,xN .u32 x 16 (by decide)],by omega,by omega,fun l hl=>uW (by omega) hl⟩
  ·exact⟨x,0,rfl,by omega,by omega,fun l hl=>hl⟩
 obtain⟨y,n,e1,hy,hn,hs⟩:=h16
 have h8:∃(z m:Nat),cnd (decide ((256:Int)≤(y:Int))) (some ((lf .u32 (y:Int) (8:Int),i64.wrap ((n:Int)+(8:Int))))) (some (((y:Int),(n:Int))))=some ((z:Int),(m:Int))∧z<256∧m≤24∧∀l,szp 2 z l→szp 2 x (l+m):=by
  rw[i5]
  split
  ·rename_i h
   refine⟨y / 2 ^ 8,n+8,?_,by omega,by omega,fun l hl=>?_⟩
   ·rw[show (8:Int)=((8:Nat):Int) from rfl,xN .u32 y 8 (by decide),cb];rfl
   ·rw[show l+(n+8)=(l+8)+n from by omega]
    exact hs _ (uW (by omega) hl)
  ·exact⟨y,n,rfl,by omega,by omega,hs⟩
 obtain⟨z,m,e2,hz,hm,H6⟩:=h8
 obtain⟨l,zA,vZ,Lj⟩:=len_tab z hz
 refine⟨l+m,?_,by omega,H6 l Lj⟩
 rw[Pi,e1,ab]
 dsimp only
 rw[e2,ab]
 dsimp only
 rw[u8n hz,Lb,aJ,bL,zA,cb (z:=(l:Int)) (by omega),cb,ab]
 congr 1
 omega
theorem G_Lead {x:Nat}(hx:x<4294967296):∃l:Nat,fh (x:Int)=some (((32 - l:Nat)):Int)∧l≤32∧szp 2 x l:=by
 obtain⟨l,h1,h2,h3⟩:=KK hx
 refine⟨l,?_,h2,h3⟩
 unfold fh
 rw[h1,ab,cb]
 congr 1
 omega
theorem G_Bits {a:Int}(ha:a.natAbs<LIM):∃l:Nat,l≤512∧nh (enc a)=some (l:Int)∧szp 2 a.natAbs l:=by
 obtain⟨n,hn,h1,h2⟩:=yE ha
 unfold nh
 rw[lO ha,h1,ab,w8,bN ha,ab,ej,a9,ab]
 cases n with
 |zero=>
  refine⟨0,by omega,?_,?_⟩
  ·rw[bw _ _];rfl
  ·have:=h2.1
   exact⟨by simpa using this,fun h=>by omega⟩
 |succ k=>
  have hk:k<16:=by omega
  rw[bx _ _,show i64.wrap (((k+1:Nat):Int) - 1)=(k:Int) from by rw[cb];omega,aJ,bL,fX hk]
  obtain⟨l,h3,h4,h5⟩:=KK (x:=dg 4294967296 a.natAbs k) dgl
  have hd:dg 4294967296 a.natAbs k=a.natAbs / 2 ^ (32*k):=by
   unfold dg
   have e:(4294967296:Nat) ^ k=2 ^ (32*k):=by rw[Df]
   rw[←e,dJ]
   rw[nR (cJ (by decide)),cj,←eF];exact h2.1
  have zT:2 ^ (32*k)≤a.natAbs:=by
   have:=h2.2 (by omega)
   rw[yv] at this
   rwa[Df]
  refine⟨l+32*k,by omega,?_,?_⟩
  ·rw[h3,ab,show i64.wrap ((32:Int)*(k:Int))=((32*k:Nat):Int) from by rw[cb];omega,cb]
   congr 1;omega
  ·rw[hd] at h5;exact uW zT h5
theorem M2 {A:Nat}(hA:A<18446744073709551616):ior .u64 (u9 .u64 (u64.wrap ((W A)[((1:Int)).toNat]!)) (32:Int)) (u64.wrap ((W A)[((0:Int)).toNat]!))=(A:Int):=by
 have e1:(W A)[((1:Int)).toNat]! =(dg 4294967296 A 1:Int):=fX (by decide)
 have e0:(W A)[((0:Int)).toNat]! =(dg 4294967296 A 0:Int):=fX (by decide)
 have h1:=@dgl A 1
 have h0:=@dgl A 0
 rw[e1,e0,gK,gK,FK h1,Gg h0 h1]
 have e:dg 4294967296 A 1*4294967296+dg 4294967296 A 0=A:=by
  unfold dg
  rw[tK,fE,mB]
  omega
 rw[e]
theorem KI {a:Int}(ha:a.natAbs<LIM):ka (enc a)=some (if -9223372036854775808≤a∧a<9223372036854775808 then (a,true) else (0,false)):=by
 obtain⟨l,hl,h1,h2⟩:=G_Bits ha
 have e64:(2:Nat) ^ 64=18446744073709551616:=by decide
 have hl64:64<l↔¬a.natAbs<18446744073709551616:=by
  constructor
  ·intro h h3
   have:=Hw (b:=2) (by decide) h2 (k:=64) (by rw[e64];exact h3)
   omega
  ·intro h
   rcases ci 64 l with h3|h3
   ·exact h3
   ·have h4:=h2.1
    have h5:2 ^ l≤2 ^ 64:=ib (by decide) h3
    rw[e64] at h5
    exact absurd (bT h4 h5) h
 unfold ka
 rw[w8,bN ha,ab,ej,a9,h1,ab,ab]
 by_cases h:a.natAbs<18446744073709551616
 ·rw[bx _ _ (by have:=mt hl64.1 (fun hh=>hh h);omega),ab,lO ha,M2 h,nr ha]
  by_cases hn:a<0
  ·simp only[hn,qY,gX,ej,a9,ab]
   by_cases h3:a.natAbs≤9223372036854775808
   ·rw[bw _ _,ifp_,show (0:Int) - (a.natAbs:Int)=a from by omega,IntKind.wrap_u64]
    rw[show i64.wrap (a % 18446744073709551616)=a from by rw[IntKind.wrap_i64];omega]
   ·rw[bx _ _,ifn_]
  ·rw[jw hn,a9,ab,a9,tL,gX,ab]
   have ea:(a.natAbs:Int)=a:=by omega
   rw[ea]
   by_cases h3:a<9223372036854775808
   ·rw[bw _ _ h3,az ⟨by omega,h3⟩,cb ⟨by omega,by omega⟩]
   ·rw[bx _ _ h3,ay (fun hh=>h3 hh.2)]
 ·rw[bw _ _ (by have:=hl64.2 h;omega),ifn_]
def vF(n:Nat)(f:Nat→Nat):Vector Int n:=Vector.ofFn fun i=>(f i.val:Int)
theorem s5 {n j:Nat}{f:Nat→Nat}(h:j<n):(vF n f)[j]! =(f j:Int):=by
 rw[eG (vF n f) j h]
 unfold vF
 rw[I8]
theorem Me {n:Nat}{f g:Nat→Nat}(h:∀j,j<n→f j=g j):vF n f=vF n g:=by
 apply m4
 intro j hj
 rw[s5 hj,s5 hj,h j hj]
theorem vF_set {n p x:Nat}{f:Nat→Nat}:(vF n f).set! p (x:Int)=vF n (fun j=>if j=p then x else f j):=by
 apply m4
 intro j hj
 rw[oq hj,s5 hj,s5 hj]
 split <;> rfl
theorem vF_dg {b n A:Nat}:vF n (dg b A)=vN b n A:=rfl
theorem Ei {X V n d:Nat}(hn:2≤n)(hV:2147483648*4294967296 ^ (n - 1)≤V)(hX:X<V*4294967296)
  (AJ:min (X / 4294967296 ^ (n - 2) / (V / 4294967296 ^ (n - 2))) 4294967295≤d) (Hl:d*(V / 4294967296 ^ (n - 2))≤X / 4294967296 ^ (n - 2)):X / V≤d∧d≤X / V+1:=by
 have hp:0<4294967296 ^ (n - 2):=cJ (by decide)
 have e1:(4294967296:Nat) ^ (n - 1)=4294967296 ^ (n - 2)*4294967296:=by rw[←eF];congr 1;omega
 rw[e1] at hV
 generalize 4294967296 ^ (n - 2)=P at*
 have Eg:0<V:=bT (rB (by decide) (rB hp (by decide))) hV
 have hv2:2147483648*4294967296≤V / P:=by
  rw[n9 hp]
  calc 2147483648*4294967296*P=2147483648*(P*4294967296):=by rw[eU,cj 4294967296 P]
   _≤V:=hV
 have hv20:0<V / P:=by omega
 have hVP:=nQ V P
 have hVm:=dv V hp
 have hXP:=nQ X P
 have hXm:=dv X hp
 have hq1:X / V≤X / P / (V / P):=by
  rw[f9]
  refine Nat.div_le_div_left ?_ (rB hp hv20)
  omega
 have hq2:X / V<4294967296:=(nR Eg).2 (by rw[cj];exact hX)
 refine⟨by omega,?_⟩
 -- d V is not much more than X
 have LY:d*(V / P)*P≤X:=by
  have:=cg P Hl
  rw[cj (X / P)] at this
  omega
 have hXP2:X / P<(V / P+1)*4294967296:=by
  rw[nR hp]
  have h1:V<(V / P+1)*P:=by rw[bj,de,cj (V / P)];omega
  calc X<V*4294967296:=hX
   _≤(V / P+1)*P*4294967296:=cg _ (kz h1)
   _=(V / P+1)*4294967296*P:=by rw[eU,cj P,←eU]
 have hdb:d≤4294967296:=by
  rcases ci 4294967296 d with h|h
  ·have:4294967297*(V / P)≤d*(V / P):=cg _ h
   omega
  ·exact h
 have h2:d*(V % P)≤4294967296*P:=pC hdb (kz hVm)
 have h3:d*V=d*(V / P)*P+d*(V % P):=by
  conv=>lhs;rw[←hVP]
  rw[ss,cj P,eU]
 have h4:d*V≤X+V:=by
  rw[h3]
  have h6:4294967296*P≤V:=by
   refine cU ?_ hV
   rw[cj P,←eU]
   exact cg _ (by decide)
  exact Nat.add_le_add LY (cU h2 h6)
 rcases iS d with h0|h0
 ·rw[h0];exact dZ _
 ·have h5:(d - 1)*V≤X:=by rw[Nat.sub_mul,de];omega
  have:=(n9 Eg).2 h5
  omega
theorem gA1 {y r u z:Nat}(h:r*4294967296+u<z):(y+r)*4294967296+u<y*4294967296+z:=by
 rw[bj,l4];exact tJ h _
theorem gA2 {y r u z:Nat}(h:z≤r*4294967296+u):y*4294967296+z≤(y+r)*4294967296+u:=by
 rw[bj,l4];exact Nat.add_le_add_left h _
theorem gA3 {y r u z:Nat}(h:4294967296≤r)(hz:z≤4294967295*4294967295):y*4294967296+z≤(y+r)*4294967296+u:=by
 have h1:z≤r*4294967296:=cU hz (cU (pC (by decide) (by decide)) (cg _ h))
 rw[bj,l4]
 exact Nat.add_le_add_left (cU h1 (n8 _ _)) _
theorem nN {n:Nat}(h:n≤34359738368:=by omega):n<18446744073709551616:=by omega
theorem lt64p {n:Nat}(h:n≤4294967295*4294967295):n<18446744073709551616:=by omega
theorem guessB {d r f x0 x1:Nat}(h:d*f+r=x0*4294967296+x1)(hf:2147483648≤f)(h0:x0<4294967296)(h1:x1<4294967296):d≤8589934592:=by
 have:=tI d hf
 omega
theorem guessT {x0 x1 f:Nat}(h0:x0<4294967296)(h1:x1<4294967296):(x0*4294967296+x1) / f<18446744073709551616:=
 fb (tH _ _) (by omega)
theorem G_guess {U V n j:Nat}(hn:2≤n)(zy:n≤16)(hj:j+n≤16)(hV:2147483648*4294967296 ^ (n - 1)≤V)(Hn:V<4294967296 ^ n)(hU:U / 4294967296 ^ j<V*4294967296):
  ∃d:Nat,d<4294967296∧ic (W V) (n:Int) (j:Int) (vN 4294967296 17 U)=some (d:Int)∧U / 4294967296 ^ j / V≤d∧d≤U / 4294967296 ^ j / V+1:=by
 have hb:0<(4294967296:Nat):=by decide
 generalize hX:U / 4294967296 ^ j=X at hU
 -- the digits that it looks at
 have du:∀i,dg 4294967296 U (j+i)=dg 4294967296 X i:=fun i=>by
  unfold dg;rw[←hX,f9,←gA]
 have hXlt:X<4294967296 ^ (n+1):=by
  rw[eF];exact bT hU (cg _ (kz Hn))
 have s1:=cm (b:=4294967296) (A:=X) (k:=n - 2)
 have s2:=cm (b:=4294967296) (A:=X) (k:=n - 1)
 have s3:=cm (b:=4294967296) (A:=X) (k:=n)
 rw[dt hXlt,fj,br] at s3
 rw[show n - 2+1=n - 1 from by omega] at s1
 rw[show n - 1+1=n from by omega,s3] at s2
 have w1:=cm (b:=4294967296) (A:=V) (k:=n - 2)
 have w2:=cm (b:=4294967296) (A:=V) (k:=n - 1)
 rw[show n - 2+1=n - 1 from by omega] at w1
 rw[show n - 1+1=n from by omega,dt Hn,fj,br] at w2
 have xb:=@dgl X n
 have Cm:=@dgl X (n - 1)
 have zw:=@dgl X (n - 2)
 have hv1:=@dgl V (n - 1)
 have hv2:=@dgl V (n - 2)
 have Ig:2147483648≤dg 4294967296 V (n - 1):=by
  rw[←w2,n9 (cJ hb)];exact hV
 -- the two highest digits against the highest one
 have hp:0<4294967296 ^ (n - 2):=cJ hb
 have htop:X / 4294967296 ^ (n - 1)≤V / 4294967296 ^ (n - 2):=by
  have e1:(4294967296:Nat) ^ (n - 1)=4294967296 ^ (n - 2)*4294967296:=by rw[←eF];congr 1;omega
  have h1:X / 4294967296 ^ (n - 1)*4294967296 ^ (n - 1)≤X:=I7 _ _
  rw[n9 hp]
  rw[e1] at h1
  have h2:X / 4294967296 ^ (n - 1)*4294967296 ^ (n - 2)*4294967296<V*4294967296:=by
   rw[eU]
   exact fb (by rw[e1];exact h1) hU
  exact kz (Nat.lt_of_mul_lt_mul_right h2)
 rw[s2,w1,w2] at htop
 obtain⟨x,hl,d,rfl,hdb,AJ,Hl⟩:=uD (b:=iY (W V) (n:Int) (j:Int) (vN 4294967296 17 U) ((dg 4294967296 V (n - 1):Nat):Int)) (fun s=>∃d r:Nat,s=((d:Int),(r:Int))∧d*dg 4294967296 V (n - 1)+r=X / 4294967296 ^ (n - 1)∧min (X / 4294967296 ^ (n - 2) / (V / 4294967296 ^ (n - 2))) 4294967295≤d) (fun s=>4294967296 - s.2.toNat)
  (fun x=>∃d:Nat,x=(d:Int)∧d<4294967296∧min (X / 4294967296 ^ (n - 2) / (V / 4294967296 ^ (n - 2))) 4294967295≤d∧d*(V / 4294967296 ^ (n - 2))≤X / 4294967296 ^ (n - 2))
  (by
   rintro s ⟨d,r,rfl,hdr,AJ⟩
   have hmul:d*(V / 4294967296 ^ (n - 2))=d*dg 4294967296 V (n - 1)*4294967296+d*dg 4294967296 V (n - 2):=by
    rw[w1,w2,ss,eU]
   have hdB:d≤8589934592:=guessB (by rw[hdr,s2]) Ig xb Cm
   have ei2:i64.wrap ((n:Int) - (2:Int))=((n - 2:Nat):Int):=by rw[cb];omega
   have eij2:i64.wrap ((i64.wrap ((j:Int)+(n:Int))) - (2:Int))=((j+(n - 2):Nat):Int):=by rw[cb (z:=(j:Int)+(n:Int)) (by omega),cb];omega
   dsimp only[iY]
   by_cases hr:r<4294967296
   ·rw[bw _ _]
    by_cases hd:4294967296≤d
    ·left
     refine⟨(((d - 1:Nat):Int),((r+dg 4294967296 V (n - 1):Nat):Int)),?_,⟨d - 1,_,rfl,?_,by omega⟩,by show 4294967296 - (_:Nat)<4294967296 - (_:Nat);rw[bL,bL];omega⟩
     ·rw[bw _ _,ab,gX,show (d:Int) - 1=((d - 1:Nat):Int) from by omega,gK (nN),←kw,gK (nN)]
     ·rw[Nat.sub_mul,de]
      have:dg 4294967296 V (n - 1)≤d*dg 4294967296 V (n - 1):=BA _ (by omega)
      omega
    ·have B2:d*dg 4294967296 V (n - 2)≤4294967295*4294967295:=pC (by omega) (by omega)
     rw[bx _ _,ei2,aJ,eij2,aJ,bL,bL,iQ (by omega),fX (by omega),du,gK (n:=dg 4294967296 X (n - 2)) (nN),gK (n:=dg 4294967296 V (n - 2)) (nN),FK hr,Gg zw hr,←oa,gK (lt64p B2),ab]
     by_cases hc:r*4294967296+dg 4294967296 X (n - 2)<d*dg 4294967296 V (n - 2)
     ·left
      have Ea:0<d:=by
       rcases iS d with h|h
       ·subst h;omega
       ·exact h
      refine⟨(((d - 1:Nat):Int),((r+dg 4294967296 V (n - 1):Nat):Int)),?_,⟨d - 1,_,rfl,?_,?_⟩,by show 4294967296 - (_:Nat)<4294967296 - (_:Nat);rw[bL,bL];omega⟩
      ·rw[bw _ _,show (d:Int) - 1=((d - 1:Nat):Int) from by omega,gK (nN),←kw,gK (nN)]
      ·rw[Nat.sub_mul,de]
       have:dg 4294967296 V (n - 1)≤d*dg 4294967296 V (n - 1):=BA _ Ea
       omega
      ·have hgt:X / 4294967296 ^ (n - 2)<d*(V / 4294967296 ^ (n - 2)):=by rw[hmul,s1,←hdr];exact gA1 hc
       have:=(nR (x:=X / 4294967296 ^ (n - 2)) (y:=d) (k:=V / 4294967296 ^ (n - 2)) (by rw[w1,w2];omega)).2 hgt
       omega
     ·right
      refine⟨_,by rw[bx _ _],d,rfl,by omega,AJ,?_⟩
      rw[hmul,s1,←hdr];exact gA2 (Nat.le_of_not_lt hc)
   ·right
    have hdlt:d<4294967296:=by
     rcases ci d 4294967296 with h|h
     ·exact h
     ·have:4294967296*dg 4294967296 V (n - 1)≤d*dg 4294967296 V (n - 1):=cg _ h
      omega
    have B2:d*dg 4294967296 V (n - 2)≤4294967295*4294967295:=pC (by omega) (by omega)
    refine⟨_,by rw[bx _ _,ab,a9],d,rfl,hdlt,AJ,?_⟩
    rw[hmul,s1,←hdr];exact gA3 (Nat.le_of_not_lt hr) B2)
  (((X / 4294967296 ^ (n - 1) / dg 4294967296 V (n - 1):Nat):Int),((X / 4294967296 ^ (n - 1) % dg 4294967296 V (n - 1):Nat):Int))
  ⟨_,_,rfl,by rw[cj];exact nQ _ _,by
   have h0:X / 4294967296 ^ (n - 2) / (V / 4294967296 ^ (n - 2))≤X / 4294967296 ^ (n - 1) / dg 4294967296 V (n - 1):=by
    rw[n9 (by omega)]
    have h1:=I7 (X / 4294967296 ^ (n - 2)) (V / 4294967296 ^ (n - 2))
    generalize X / 4294967296 ^ (n - 2) / (V / 4294967296 ^ (n - 2))=q at h1 ⊢
    rw[w1,w2,s1,ss,←eU] at h1
    generalize q*dg 4294967296 V (n - 1)=y at h1 ⊢
    omega
   omega⟩
 obtain⟨h1,h2⟩:=Ei hn hV hU AJ Hl
 refine⟨d,hdb,?_,h1,h2⟩
 have ejn:i64.wrap ((j:Int)+(n:Int))=((j+n:Nat):Int):=by rw[cb];omega
 have ejn1:i64.wrap (((j+n:Nat):Int) - (1:Int))=((j+(n - 1):Nat):Int):=by rw[cb];omega
 have en1:i64.wrap ((n:Int) - (1:Int))=((n - 1:Nat):Int):=by rw[cb];omega
 unfold ic
 rw[ejn,aJ,ejn1,aJ,en1,bL,bL,bL,iQ (by omega),iQ (by omega),fX (by omega),du,du,gK (n:=dg 4294967296 X n) (nN),gK (n:=dg 4294967296 X (n - 1)) (nN),gK (n:=dg 4294967296 V (n - 1)) (nN),FK xb,Gg Cm xb,ab,aJ,ab,aJ,aJ,←qW,←qV]
 rw[gK (guessT xb Cm),←s2,hl,ab]
def ws(j i U D p:Nat):Nat:=if p<j then dg 4294967296 U p else if p<j+i then dg 4294967296 D (p - j) else dg 4294967296 U p
theorem mix0 {j U D:Nat}:ws j 0 U D=dg 4294967296 U:=by
 funext p
 unfold ws
 split
 ·rfl
 ·rw[ifn_]
theorem DY {j i U D:Nat}:ws j i U D (j+i)=dg 4294967296 U (j+i):=by
 unfold ws
 rw[ifn_,ifn_]
theorem zQ {n j i U D:Nat}:(vF n (ws j i U D)).set! (j+i) (dg 4294967296 D i:Int)=vF n (ws j (i+1) U D):=by
 rw[vF_set]
 apply Me
 intro p hp
 by_cases h:p=j+i
 ·subst h
  rw[az rfl]
  unfold ws
  rw[ifn_,ifp_]
  congr 1;omega
 ·rw[ay h]
  unfold ws
  by_cases h1:p<j
  ·rw[az h1,az h1]
  ·rw[ay h1,ay h1]
   by_cases h2:p<j+i
   ·rw[az h2,ifp_]
   ·rw[ay h2,ifn_]
theorem JH {n j i U D:Nat}(hU:U<4294967296 ^ (i+j))(hD:D<4294967296 ^ i):vF n (ws j i U D)=vN 4294967296 n (D*4294967296 ^ j+U % 4294967296 ^ j):=by
 have hb:0<(4294967296:Nat):=by decide
 rw[←vF_dg]
 apply Me
 intro p _
 unfold ws
 by_cases h1:p<j
 ·rw[az h1,←mw (A:=D*_+_) h1,I6,yx,mw h1]
 ·rw[ay h1]
  have e:dg 4294967296 (D*4294967296 ^ j+U % 4294967296 ^ j) p=dg 4294967296 D (p - j):=by
   obtain⟨q,rfl⟩:∃q,p=j+q:=⟨p - j,by omega⟩
   unfold dg
   rw[gA,←f9,cj D,vH (cJ hb),dt (dv _ (cJ hb)),mf,Bl]
  rw[e]
  by_cases h2:p<j+i
  ·rw[az h2]
  ·rw[ay h2,kI (bT hU (ib hb (by omega))),kI (bT hD (ib hb (by omega)))]
theorem GR {D P i:Nat}:∃x:Nat,u64.wrap (u64.wrap ((dg 4294967296 (D+P) i:Int) - (dg 4294967296 P i:Int)) - (((D % 4294967296 ^ i+P % 4294967296 ^ i) / 4294967296 ^ i:Nat):Int))=(x:Int)∧x / 9223372036854775808=(D % 4294967296 ^ (i+1)+P % 4294967296 ^ (i+1)) / 4294967296 ^ (i+1)∧x % 4294967296=dg 4294967296 D i:=by
 have hc:=ny (b:=4294967296) (A:=D) (B:=P) (k:=i) (by decide)
 obtain⟨h1,h2⟩:=oc (b:=4294967296) (A:=D) (B:=P) (k:=i) (by decide)
 have ha:=@dgl D i
 have hb:=@dgl P i
 have hd:=@dgl (D+P) i
 generalize (D % 4294967296 ^ i+P % 4294967296 ^ i) / 4294967296 ^ i=c at h1 h2 hc ⊢
 generalize (D % 4294967296 ^ (i+1)+P % 4294967296 ^ (i+1)) / 4294967296 ^ (i+1)=c' at h2 ⊢
 rw[IntKind.wrap_u64,IntKind.wrap_u64]
 exact⟨((((dg 4294967296 (D+P) i:Int) - (dg 4294967296 P i:Int)) % 18446744073709551616 - (c:Int)) % 18446744073709551616).toNat,by omega,by omega,by omega⟩
theorem lt64m {c p d:Nat}(hc:c≤d)(hp:p<4294967296)(hd:d<4294967296):c+p*d<18446744073709551616:=by
 have h1:p*d≤4294967295*4294967295:=pC (by omega) (by omega)
 omega
theorem Pn {U V D n j d:Nat}(zy:n≤16)(hj:j+n≤16)(Hn:V<4294967296 ^ n)(hU:U<4294967296 ^ (n+1+j))(hd:d<4294967296)(hD:D<4294967296 ^ (n+1))
  (hDZ:D+V*d=U / 4294967296 ^ j+(if U / 4294967296 ^ j<V*d then 4294967296 ^ (n+1) else 0)):
  i9 (W V) (n:Int) (j:Int) (d:Int) (vN 4294967296 17 U)=some (decide (U / 4294967296 ^ j<V*d),vN 4294967296 17 (D*4294967296 ^ j+U % 4294967296 ^ j)):=by
 have hb:0<(4294967296:Nat):=by decide
 generalize hZ:U / 4294967296 ^ j=Z at hDZ ⊢
 have Ls:Z<4294967296 ^ (n+1):=by
  rw[←hZ];exact GY (by rw[←gA,ls];exact hU)
 have dz:∀i,i<n+1→dg 4294967296 (D+V*d) i=dg 4294967296 U (j+i):=fun i hi=>by
  have e1:dg 4294967296 U (j+i)=dg 4294967296 Z i:=by
   unfold dg;rw[←hZ,f9,←gA]
  rw[e1,←mw (A:=D+V*d) hi,←mw (A:=Z) hi,hDZ]
  split
  ·rw[Nat.add_mod_right]
  ·rw[mf]
 have hcle:∀i,V % 4294967296 ^ i*d / 4294967296 ^ i≤d:=fun i=>
  cU (I5 (cg d (kz (dv V (cJ hb))))) (by rw[I4 _ (cJ hb)];exact aL _)
 have hl:=pX (b:=ix (W V) (n:Int) (j:Int) (d:Int)) (s0:=((0:Int),(0:Int),(0:Int),vN 4294967296 17 U)) (fun i=>((V % 4294967296 ^ i*d / 4294967296 ^ i:Nat),((D % 4294967296 ^ i+V*d % 4294967296 ^ i) / 4294967296 ^ i:Nat),(i:Int),vF 17 (ws j i U D))) n ((V % 4294967296 ^ n*d / 4294967296 ^ n:Nat),((D % 4294967296 ^ n+V*d % 4294967296 ^ n) / 4294967296 ^ n:Nat),vF 17 (ws j n U D))
  (by simp only[fE,lZ,fj,Nat.zero_div,mix0];rfl)
  (fun i hi=>by
   obtain⟨h1,h2⟩:=CT (b:=4294967296) (A:=V) (k:=i) (m:=d) hb
   obtain⟨x,Cm,zw,Ni⟩:=GR (D:=D) (P:=V*d) (i:=i)
   have bF:=lt64m (hcle i) (@dgl V i) hd
   have hp:=@dgl (V*d) i
   have hz:=@dgl U (j+i)
   have hv:=@dgl V i
   have eij:i64.wrap ((j:Int)+(i:Int))=((j+i:Nat):Int):=by rw[cb];omega
   rw[dz i (by omega)] at Cm
   have hvd:dg 4294967296 V i*d<18446744073709551616:=fb (Nat.le_add_left _ _) bF
   dsimp only[ix]
   rw[bw _ _,aJ,ab,eij,aJ,ab,aJ,ab,bL,bL,fX (by omega),s5 (by omega),DY,gK (n:=dg 4294967296 V i) (nN),←oa,cj d,gK hvd,←kw,gK bF,xr,h1,uy,h2,gK (n:=dg 4294967296 (V*d) i) (nN),gK (n:=dg 4294967296 U (j+i)) (nN),Cm,Ms,zw,xr,Ni,zQ,cb]
   rfl)
  (by
   dsimp only[ix]
   rw[bx _ _])
 obtain⟨x,Cm,zw,Ni⟩:=GR (D:=D) (P:=V*d) (i:=n)
 have hP:V*d<4294967296 ^ (n+1):=by
  rw[eF];exact yw Hn hd
 have Fg:V % 4294967296 ^ n*d / 4294967296 ^ n=dg 4294967296 (V*d) n:=by
  rw[dJ Hn]
  unfold dg
  rw[dJ]
  exact GY (by rw[←eF];exact hP)
 have hbor:(D % 4294967296 ^ (n+1)+V*d % 4294967296 ^ (n+1)) / 4294967296 ^ (n+1)=if Z<V*d then 1 else 0:=by
  rw[dJ hD,dJ hP,hDZ]
  split
  ·rw[Nat.add_div_right _ (cJ hb),dt Ls]
  ·rw[mf,dt Ls]
 have ejn:i64.wrap ((j:Int)+(n:Int))=((j+n:Nat):Int):=by rw[cb];omega
 have hz:=@dgl U (j+n)
 rw[dz n (by omega)] at Cm
 unfold i9
 rw[hl,ab]
 dsimp only
 rw[ejn,aJ,ab,aJ,ab,bL,s5 (by omega),DY,gK (n:=dg 4294967296 U (j+n)) (nN),Fg,Cm,Ms,zw,xr,Ni,zQ,JH hU hD,hbor]
 congr 2
 by_cases h:Z<V*d
 ·simp[h]
 ·simp[h]
theorem G_give {U V D n j:Nat}(zy:n≤16)(hj:j+n≤16)(Hn:V<4294967296 ^ n)(hU:U<4294967296 ^ (n+1+j))(hD:D=(U / 4294967296 ^ j+V) % 4294967296 ^ (n+1)):
  jd (W V) (n:Int) (j:Int) (vN 4294967296 17 U)=some (vN 4294967296 17 (D*4294967296 ^ j+U % 4294967296 ^ j)):=by
 have hb:0<(4294967296:Nat):=by decide
 have hDlt:D<4294967296 ^ (n+1):=by rw[hD];exact dv _ (cJ hb)
 generalize hZ:U / 4294967296 ^ j=Z at hD
 have dz:∀i,dg 4294967296 U (j+i)=dg 4294967296 Z i:=fun i=>by
  unfold dg;rw[←hZ,f9,←gA]
 have dD:∀i,i<n+1→dg 4294967296 (Z+V) i=dg 4294967296 D i:=fun i hi=>by rw[hD,mw hi]
 have hl:=pX (b:=iz (W V) (n:Int) (j:Int)) (s0:=((0:Int),(0:Int),vN 4294967296 17 U)) (fun i=>(((Z % 4294967296 ^ i+V % 4294967296 ^ i) / 4294967296 ^ i:Nat),(i:Int),vF 17 (ws j i U D))) n (((Z % 4294967296 ^ n+V % 4294967296 ^ n) / 4294967296 ^ n:Nat),vF 17 (ws j n U D))
  (by simp only[fE,lZ,mix0];rfl)
  (fun i hi=>by
   have hc:=ny (b:=4294967296) (A:=Z) (B:=V) (k:=i) hb
   obtain⟨h1,h2⟩:=oc (b:=4294967296) (A:=Z) (B:=V) (k:=i) hb
   have hz:=@dgl Z i
   have hv:=@dgl V i
   have eij:i64.wrap ((j:Int)+(i:Int))=((j+i:Nat):Int):=by rw[cb];omega
   generalize (Z % 4294967296 ^ i+V % 4294967296 ^ i) / 4294967296 ^ i=c at h1 h2 hc ⊢
   generalize (Z % 4294967296 ^ (i+1)+V % 4294967296 ^ (i+1)) / 4294967296 ^ (i+1)=c' at h2 ⊢
   dsimp only[iz]
   rw[bw _ _,eij,aJ,aJ,ab,aJ,ab,bL,bL,fX (by omega),s5 (by omega),DY,dz,gK (n:=dg 4294967296 V i) (nN),gK (n:=dg 4294967296 Z i) (nN),←kw,gK (nN),←kw,gK (nN),←l4,uy,xr,h1,h2,dD i (by omega),zQ,cb]
   rfl)
  (by
   dsimp only[iz]
   rw[bx _ _])
 have hc:=ny (b:=4294967296) (A:=Z) (B:=V) (k:=n) hb
 obtain⟨h1,h2⟩:=oc (b:=4294967296) (A:=Z) (B:=V) (k:=n) hb
 rw[kI Hn,mf,dD n (by omega)] at h1
 have hz:=@dgl Z n
 have ejn:i64.wrap ((j:Int)+(n:Int))=((j+n:Nat):Int):=by rw[cb];omega
 unfold jd
 rw[hl,ab]
 dsimp only
 generalize (Z % 4294967296 ^ n+V % 4294967296 ^ n) / 4294967296 ^ n=c at h1 hc ⊢
 rw[ejn,aJ,aJ,ab,bL,s5 (by omega),DY,dz,xq (n:=c) (by omega),←kw,ls (dg 4294967296 Z n),xr,h1,zQ,JH hU hDlt]
theorem K1 {U V n j:Nat}(hn:2≤n)(hj:j+n≤16)(hV:2147483648*4294967296 ^ (n - 1)≤V)(Hn:V<4294967296 ^ n)(hU:U / 4294967296 ^ j<V*4294967296):
  (bnd (ic (W V) (n:Int) (j:Int) (vN 4294967296 17 U)) fun Fk=>bnd (S:=Int×(Vector Int 17)) (bnd (i9 (W V) (n:Int) (j:Int) Fk (vN 4294967296 17 U)) fun zY=>cnd zY.1 (bnd (jd (W V) (n:Int) (j:Int) zY.2) fun zX=>some ((u64.wrap (Fk - (1:Int)),zX))) (some ((Fk,zY.2)))) fun y=>some y)=some (((U / 4294967296 ^ j / V:Nat):Int),vN 4294967296 17 (U / 4294967296 ^ j % V*4294967296 ^ j+U % 4294967296 ^ j))∧U / 4294967296 ^ j / V<4294967296:=by
 have hb:0<(4294967296:Nat):=by decide
 obtain⟨d,hdb,hg,LY,Gr⟩:=G_guess hn (by omega) hj hV Hn hU
 have Eg:0<V:=bT (rB (by decide) (cJ hb)) hV
 have hp:0<4294967296 ^ j:=cJ hb
 have Ls:U / 4294967296 ^ j<4294967296 ^ (n+1):=by
  rw[eF];exact bT hU (cg _ (kz Hn))
 have hUlt:U<4294967296 ^ (n+1+j):=by
  rw[gA];exact (nR hp).1 Ls
 have hVd:V*d<4294967296 ^ (n+1):=by
  rw[eF];exact yw Hn hdb
 have hq:U / 4294967296 ^ j / V<4294967296:=by omega
 refine⟨?_,hq⟩
 have hm:=nQ (U / 4294967296 ^ j) V
 have hml:=dv (U / 4294967296 ^ j) Eg
 rw[hg,ab]
 by_cases bF:U / 4294967296 ^ j<V*d
 ·-- one too many
  have hdq:d=U / 4294967296 ^ j / V+1:=by
   rcases ci (U / 4294967296 ^ j / V) d with h|h
   ·omega
   ·have h1:V*d≤V*(U / 4294967296 ^ j / V):=tI _ h
    omega
  have ht:=Pn (U:=U) (V:=V) (D:=U / 4294967296 ^ j+4294967296 ^ (n+1) - V*d) (n:=n) (j:=j) (d:=d) (by omega) hj Hn hUlt hdb (by omega) (by rw[az bF];omega)
  rw[ht,dU bF,ab,gX]
  dsimp only
  generalize hD:U / 4294967296 ^ j+4294967296 ^ (n+1) - V*d=D
  have hDlt:D<4294967296 ^ (n+1):=by omega
  have e1:(D*4294967296 ^ j+U % 4294967296 ^ j) / 4294967296 ^ j=D:=by
   rw[cj,vH hp,dt (dv _ hp),mf]
  have e2:(D*4294967296 ^ j+U % 4294967296 ^ j) % 4294967296 ^ j=U % 4294967296 ^ j:=by
   rw[I6,yx]
  have e3:(D+V) % 4294967296 ^ (n+1)=U / 4294967296 ^ j % V:=by
   have:D+V=U / 4294967296 ^ j % V+4294967296 ^ (n+1):=by
    rw[hdq,ss,sr] at hD bF
    omega
   rw[this,Nat.add_mod_right,dJ]
   exact fb (Nat.mod_le _ _) Ls
  have hgv:=G_give (U:=D*4294967296 ^ j+U % 4294967296 ^ j) (V:=V) (D:=U / 4294967296 ^ j % V) (n:=n) (j:=j) (by omega) hj Hn (by
   rw[gA]
   have h1:(D+1)*4294967296 ^ j≤4294967296 ^ (n+1)*4294967296 ^ j:=cg _ hDlt
   rw[bj,de] at h1
   have:=dv U hp
   omega) (by rw[e1,e3])
  rw[hgv,ab,ab,e2,show ((d:Nat):Int) - 1=((U / 4294967296 ^ j / V:Nat):Int) from by omega,gK (nN)]
 ·have hdq:d=U / 4294967296 ^ j / V:=by
   have h1:d≤U / 4294967296 ^ j / V:=(n9 Eg).2 (by rw[cj];omega)
   omega
  have ht:=Pn (U:=U) (V:=V) (D:=U / 4294967296 ^ j % V) (n:=n) (j:=j) (d:=d) (by omega) hj Hn hUlt hdb (fb (Nat.mod_le _ _) Ls) (by rw[ay bF,hdq];omega)
  rw[ht,jw bF,ab,a9,ab,hdq]
theorem MG {U V n k:Nat}(hn:2≤n)(hk:k+n≤17)(hV:2147483648*4294967296 ^ (n - 1)≤V)(Hn:V<4294967296 ^ n)(hU:U / 4294967296 ^ k<V)(y:Int):
  a7 (eE (n:Int) (W V,y)) ((k:Int) - 1,W 0,vN 4294967296 17 U)=some (W (U / V),vN 4294967296 17 (U % V)):=by
 have hb:0<(4294967296:Nat):=by decide
 have Eg:0<V:=bT (rB (by decide) (cJ hb)) hV
 have hl:=M3 (b:=eE (n:Int) (W V,y)) (s0:=((k:Int) - 1,W 0,vN 4294967296 17 U)) (fun i=>((i:Int) - 1,vN 4294967296 16 (U / V / 4294967296 ^ i*4294967296 ^ i),vN 4294967296 17 (U / 4294967296 ^ i % V*4294967296 ^ i+U % 4294967296 ^ i))) k (vN 4294967296 16 (U / V / 4294967296 ^ 0*4294967296 ^ 0),vN 4294967296 17 (U / 4294967296 ^ 0 % V*4294967296 ^ 0+U % 4294967296 ^ 0))
  (by
   have e1:U / V / 4294967296 ^ k=0:=by
    rw[f9,cj,←f9,dt hU]
   have e2:U / 4294967296 ^ k % V*4294967296 ^ k+U % 4294967296 ^ k=U:=by
    rw[dJ hU,cj];exact nQ _ _
   rw[e1,e2,fj])
  (fun i hi=>by
   have hp:0<4294967296 ^ i:=cJ hb
   obtain⟨h1,h2⟩:=uY (b:=4294967296) (A:=U) (k:=i) (d:=V) hb Eg
   have eR1:(U / 4294967296 ^ (i+1) % V*4294967296 ^ (i+1)+U % 4294967296 ^ (i+1)) / 4294967296 ^ i=U / 4294967296 ^ (i+1) % V*4294967296+dg 4294967296 U i:=by
    rw[ge,eF,←eU,Bz,ls (U % _),←l4,cj (4294967296 ^ i) (dg _ _ _),←bj,cj (_+_) (4294967296 ^ i),vH hp,dt (dv _ hp),mf]
   have eR2:(U / 4294967296 ^ (i+1) % V*4294967296 ^ (i+1)+U % 4294967296 ^ (i+1)) % 4294967296 ^ i=U % 4294967296 ^ i:=by
    rw[ge,eF,←eU,Bz,ls (U % _),←l4,cj (4294967296 ^ i) (dg _ _ _),←bj,I6,yx]
   have bF:(U / 4294967296 ^ (i+1) % V*4294967296 ^ (i+1)+U % 4294967296 ^ (i+1)) / 4294967296 ^ i<V*4294967296:=by
    rw[eR1]
    have h3:=dv (U / 4294967296 ^ (i+1)) Eg
    have h4:(U / 4294967296 ^ (i+1) % V+1)*4294967296≤V*4294967296:=cg _ h3
    rw[bj,de] at h4
    exact bT (tJ dgl _) h4
   obtain⟨hq,hqb⟩:=K1 (j:=i) hn (by omega) hV Hn bF
   rw[eR1,h1,h2,eR2] at hq
   rw[eR1,h1] at hqb
   have ei:((i+1:Nat):Int) - 1=(i:Int):=by omega
   dsimp only[eE]
   rw[ei,bw _ _]
   -- the digit
   revert hq
   generalize vN 4294967296 17 (U / 4294967296 ^ (i+1) % V*4294967296 ^ (i+1)+U % 4294967296 ^ (i+1))=uv
   intro hq
   obtain⟨d,e1,hq⟩:=ah hq
   rw[vk] at hq
   rw[e1,ab,hq,ab]
   dsimp only
   rw[aJ,bL,xq hqb,Jl hb (by omega),cb])
  (by
   dsimp only[eE]
   rw[bx _ _])
 rw[hl]
 simp only[fE,mB,sr,lZ,mf]
theorem build17 {A s:Nat}(hA:A<LIM)(hs:s<32):(vOf 17 (lCp (Vector.replicate 17 (0:Int)).toList 0 (List.take 17 (List.take 16 (List.drop 0 (W (A*2 ^ s)).toList))))).set! ((16:Int)).toNat ((A % 4294967296 ^ 16*2 ^ s / 4294967296 ^ 16:Nat):Int)=vN 4294967296 17 (A*2 ^ s):=by
 have hb:0<(4294967296:Nat):=by decide
 have H6:2 ^ s≤2 ^ 31:=ib (by decide) (by omega)
 have hs3:0<2 ^ s:=cJ (by decide)
 have hc:A % 4294967296 ^ 16*2 ^ s / 4294967296 ^ 16<2 ^ s:=xG hb hs3
 have h16:(W (A*2 ^ s)).toList.length=16:=mC
 have hl:lCp (Vector.replicate 17 (0:Int)).toList 0 (List.take 17 (List.take 16 (List.drop 0 (W (A*2 ^ s)).toList)))=(W (A*2 ^ s)).toList++[0]:=by
  rw[qg,jD (i:=17) (by simp),jD (by simp)]
  unfold lCp
  rw[h16,EU,ph]
  rfl
 have hll:((W (A*2 ^ s)).toList++[(0:Int)]).length=17:=by rw[eT,h16];rfl
 rw[hl]
 apply m4
 intro j hj
 rw[oq hj,iQ hj]
 by_cases h:j=16
 ·subst h
  rw[az (by rfl)]
  have JZ:A<4294967296 ^ 16:=hA
  rw[dJ JZ] at hc ⊢
  unfold dg
  rw[dJ (by omega)]
 ·rw[ay (by simpa using h),←v9 (vOf 17 _) hj,uU hll,eG _ j (by rw[hll];omega),List.getElem_append_left (by rw[h16];omega)]
  have e2:=iQ (b:=4294967296) (A:=A*2 ^ s) (j:=j) (n:=16) (by omega)
  rw[←v9 _ (by omega),eG _ j (by rw[h16];omega)] at e2
  exact e2
theorem BX {A B:Nat}(hA:A<LIM)(hB:B<LIM)(Gz:0<B):fq (W A) (W B)=some (W (A / B),W (A % B)):=by
 have hb:0<(4294967296:Nat):=by decide
 obtain⟨n,hn,hn1,Gp,p8⟩:=yE hB
 obtain⟨m,hm,Li,hm2,hm3⟩:=yE hA
 have hn0:0<n:=by
  rcases iS n with h|h
  ·subst h;simp at Gp;omega
  ·exact h
 unfold fq
 rw[hn1,ab,Li,ab,KF hA hB,ab]
 by_cases bF:A<B
 ·rw[bw _ _ (by unfold FU;rw[az bF];omega),ab,z16,dt bF,dJ bF]
 ·rw[bx _ _ (by unfold FU;rw[ay bF];split <;> omega)]
  by_cases h1:n=1
  ·subst h1
   have hBb:B<4294967296:=by simpa using Gp
   have e0:(W B)[((0:Int)).toNat]! =(B:Int):=by
    have:(W B)[((0:Int)).toNat]! =(dg 4294967296 B 0:Int):=fX (by decide)
    rw[this]
    unfold dg
    rw[fE,mB,dJ hBb]
   have hr:A % B<4294967296:=yu (dv _ Gz) hBb
   rw[bw _ _,e0,G_short hA Gz hBb,ab,ab]
   have:=O5 (u:=A % B) (by omega)
   rw[dJ hr,dt hr] at this
   dsimp only
   rw[←this]
   rfl
  ·have h2:2≤n:=by omega
   have hk:n - 1<16:=by omega
   have hBd:B / 4294967296 ^ (n - 1)=dg 4294967296 B (n - 1):=by
    have:=cm (b:=4294967296) (A:=B) (k:=n - 1)
    rw[show n - 1+1=n from by omega,dt Gp,fj,br] at this
    exact this
   obtain⟨l,zA,vZ,Lj,hl4⟩:=G_Lead (x:=dg 4294967296 B (n - 1)) dgl
   have hp:0<4294967296 ^ (n - 1):=cJ hb
   have LY:1≤dg 4294967296 B (n - 1):=by rw[←hBd];exact (n9 hp).2 (by rw[de];exact p8 hn0)
   have hl0:0<l:=by
    rcases iS l with h|h
    ·subst h;simp at Lj;omega
    ·exact h
   have hl5:=hl4 hl0
   have hs:32 - l<32:=by omega
   have epow:2 ^ l*2 ^ (32 - l)=4294967296:=by rw[←gA,show l+(32 - l)=32 from by omega]
   have epow2:2 ^ (l - 1)*2 ^ (32 - l)=2147483648:=by rw[←gA,show l - 1+(32 - l)=31 from by omega]
   have hS:0<2 ^ (32 - l):=cJ (by decide)
   have epn:(4294967296:Nat) ^ n=4294967296 ^ (n - 1)*4294967296:=by rw[←eF];congr 1;omega
   have hVlo:2147483648*4294967296 ^ (n - 1)≤B*2 ^ (32 - l):=by
    have h3:2 ^ (l - 1)*4294967296 ^ (n - 1)≤B:=(n9 hp).1 (by rw[hBd];exact hl5)
    calc 2147483648*4294967296 ^ (n - 1)=2 ^ (l - 1)*4294967296 ^ (n - 1)*2 ^ (32 - l):=by rw[←epow2,Bz]
     _≤B*2 ^ (32 - l):=cg _ h3
   have hVhi:B*2 ^ (32 - l)<4294967296 ^ n:=by
    have h3:B<2 ^ l*4294967296 ^ (n - 1):=(nR hp).1 (by rw[hBd];exact Lj)
    calc B*2 ^ (32 - l)<2 ^ l*4294967296 ^ (n - 1)*2 ^ (32 - l):=I3 h3 hS
     _=4294967296 ^ n:=by rw[Bz,epow,cj,←epn]
   have Eg:0<B*2 ^ (32 - l):=rB Gz hS
   have hmn:n≤m:=by
    rcases ci m n with h|h
    ·have h3:4294967296 ^ m≤4294967296 ^ (n - 1):=ib hb (by omega)
     have h4:=p8 hn0
     omega
    ·exact h
   have hUk:A*2 ^ (32 - l) / 4294967296 ^ (m - n+1)<B*2 ^ (32 - l):=by
    rw[nR (cJ hb)]
    have h3:A<B*4294967296 ^ (m - n+1):=by
     have h4:4294967296 ^ (n - 1)*4294967296 ^ (m - n+1)≤B*4294967296 ^ (m - n+1):=cg _ (p8 hn0)
     rw[←gA,show n - 1+(m - n+1)=m from by omega] at h4
     omega
    calc A*2 ^ (32 - l)<B*4294967296 ^ (m - n+1)*2 ^ (32 - l):=I3 h3 hS
     _=B*2 ^ (32 - l)*4294967296 ^ (m - n+1):=Bz _ _ _
   have eidx:i64.wrap ((m:Int) - (n:Int))=((m - n+1:Nat):Int) - 1:=by rw[cb];omega
   rw[bx _ _,show i64.wrap ((n:Int) - 1)=((n - 1:Nat):Int) from by rw[cb];omega,aJ,bL,fX hk,zA,ab,G_up hs,ab,G_up hs,ab,ab]
   dsimp only
   rw[build17 hA hs,eidx,r16,MG h2 (by omega) hVlo hVhi hUk,ab]
   dsimp only
   have hmod:A*2 ^ (32 - l) % (B*2 ^ (32 - l))<4294967296 ^ 16:=bT (dv _ Eg) (cU (kz hVhi) (ib hb hn))
   rw[vsub 16 0 (by omega),fE,mB,G_down hmod hs,ab,Nat.mul_mod_mul_right,I2 _ hS,Nat.mul_div_mul_right _ _ hS]
theorem wC(x y:Nat):Nat.gcd x y=Nat.gcd y (x % y):=by
 rw[Nat.gcd_comm x y,Nat.gcd_rec,Nat.gcd_comm]
theorem Pk(x y:Nat):a7 ii ((x:Int),(y:Int))=some ((Nat.gcd x y:Nat):Int):=by
 induction y using Nat.strongRecOn generalizing x with
 |_ y ih=>
  by_cases hy:y=0
  ·subst hy
   rw[ET]
   exact fQ (by dsimp only[ii];rw[bx _ _ (by simp)])
  ·have h1:ii ((x:Int),(y:Int))=some (.inl ((y:Int),((x % y:Nat):Int))):=by
    dsimp only[ii]
    rw[bw _ _,aJ,←qV]
   rw[j7 h1,ih (x % y) (dv _ (by omega)) y,←wC]
theorem s7 {A:Nat}(hA:A<LIM):∃n:Nat,eo (W A)=some (n:Int)∧(n≤2↔A<18446744073709551616):=by
 obtain⟨n,hn,h1,h2⟩:=yE hA
 have e:(4294967296:Nat) ^ 2=18446744073709551616:=by decide
 refine⟨n,h1,fun h=>?_,fun h=>Hw (by decide) h2 (by rw[e];exact h)⟩
 have h3:4294967296 ^ n≤4294967296 ^ 2:=ib (by decide) h
 rw[e] at h3
 exact bT h2.1 h3
theorem G_Abs {a:Int}(ha:a.natAbs<LIM):oC (enc a)=some (enc (a.natAbs:Int)):=by
 unfold oC
 rw[w8,bN ha,ab,ej,a9,lO ha,iO ha,ab]
 rfl
theorem uf {a c:Int}(ha:a.natAbs<LIM)(hc:c.natAbs<LIM)(h1:a.natAbs<18446744073709551616)(h2:c.natAbs<18446744073709551616)(p:aq→aq→Option aq):
  cr p (enc a) (enc c)=some (enc (Nat.gcd a.natAbs c.natAbs:Nat)):=by
 obtain⟨n,hn1,Gp⟩:=s7 ha
 obtain⟨m,Li,hm2⟩:=s7 hc
 have hg:Nat.gcd a.natAbs c.natAbs<18446744073709551616:=by
  rcases iS a.natAbs with h|h
  ·rw[h,I1];exact h2
  ·exact fb (yr _ h) h1
 have hgL:Nat.gcd a.natAbs c.natAbs<LIM:=bT hg (by decide)
 unfold cr
 rw[sy,bN ha,bN hc,ab]
 simp only[dX,ej,a9,lO ha,lO hc]
 rw[hn1,ab,bw _ _ (by have:=Gp.2 h1;omega),Li,ab,ab,bw _ _ (by have:=hm2.2 h2;omega),M2 h1,M2 h2,ab,ab,Pk,ab,xr,uy,xq,O5 hg,iO hgL,ab]
 rfl
theorem Hd {a:Int}(ha:a.natAbs<LIM)(p:aq→aq→Option aq):cr p (enc a) (enc 0)=some (enc (Nat.gcd a.natAbs 0:Nat)):=by
 by_cases h1:a.natAbs<18446744073709551616
 ·exact uf ha (by decide) h1 (by decide) p
 ·obtain⟨n,hn1,Gp⟩:=s7 ha
  have hc:(0:Int).natAbs<LIM:=by decide
  unfold cr
  rw[sy,bN ha,bN hc,ab]
  simp only[dX,ej,a9,lO ha,lO hc]
  rw[hn1,ab,bx _ _ (by have:=mt Gp.1 h1;omega),ab,a9,bx _ _ (by rw[z16];exact fun h=>h rfl),G_Abs ha,ab,ET]
theorem He {a c:Int}(ha:a.natAbs<LIM)(hc:c.natAbs<LIM)(h0:c.natAbs≠0)(h1:¬(a.natAbs<18446744073709551616∧c.natAbs<18446744073709551616))(p:aq→aq→Option aq):
  cr p (enc a) (enc c)=p (enc (c.natAbs:Int)) (enc ((a.natAbs % c.natAbs:Nat):Int)):=by
 obtain⟨n,hn1,Gp⟩:=s7 ha
 obtain⟨m,Li,hm2⟩:=s7 hc
 have hr:a.natAbs % c.natAbs<LIM:=fb (Nat.mod_le _ _) ha
 unfold cr
 rw[sy,bN ha,bN hc,ab]
 simp only[dX,ej,a9,lO ha,lO hc]
 rw[hn1,ab,Li,ab]
 have yW:(cnd (decide ((n:Int)≤(2:Int))) (some (decide ((m:Int)≤(2:Int)))) (some (false)))=some false:=by
  rw[i5]
  split
  ·rename_i h
   congr 1
   have h2:=Gp.1 (by omega)
   exact jw fun h3=>h1 ⟨h2,hm2.1 (by omega)⟩
  ·rfl
 rw[yW,ab,a9,z16,bw _ _ (by rw[BL hc ue];exact h0),BX ha hc (by omega),ab,iO hc,ab]
 dsimp only
 rw[iO hr,ab,vk]
 rfl
theorem Lo {x y:Nat}(hy:0<y)(hxy:y≤x):2*(y*(x % y))<x*y:=by
 have h1:=nQ x y
 have h2:=dv x hy
 have h3:0<x / y:=BB hxy hy
 have h4:y≤y*(x / y):=yq _ h3
 have h5:2*(x % y)<x:=by omega
 have h6:2*(x % y)*y<x*y:=I3 h5 hy
 calc 2*(y*(x % y))=2*(x % y)*y:=by rw[cj y,eU]
  _<x*y:=h6
theorem KD(n:Nat):∀{a c:Int},a.natAbs<LIM→c.natAbs<LIM→c.natAbs≤a.natAbs→a.natAbs*c.natAbs<18446744073709551616*2 ^ n→gF (n+2) (enc a) (enc c)=some (enc (Nat.gcd a.natAbs c.natAbs:Nat)):=by
 induction n with
 |zero=>
  intro a c ha hc hle hp
  show cr _ _ _=_
  by_cases h0:c.natAbs=0
  ·obtain rfl:c=0:=by omega
   exact Hd ha _
  ·have h1:a.natAbs≤a.natAbs*c.natAbs:=yq _ (by omega)
   exact uf ha hc (by omega) (by omega) _
 |succ n ih=>
  intro a c ha hc hle hp
  show cr (gF (n+2)) _ _=_
  by_cases h0:c.natAbs=0
  ·obtain rfl:c=0:=by omega
   exact Hd ha _
  ·by_cases h1:a.natAbs<18446744073709551616∧c.natAbs<18446744073709551616
   ·exact uf ha hc h1.1 h1.2 _
   ·have h2:=Lo (sm h0) hle
    have h3:=dv a.natAbs (sm h0)
    rw[He ha hc h0 h1,ih (by rw[eh];exact hc) (by rw[eh];omega) (by rw[eh,eh];omega) (by rw[eh,eh];rw[eF] at hp;omega),eh,eh,←wC]
theorem KL {a c:Int}(ha:a.natAbs<LIM)(hc:c.natAbs<LIM):mI (enc a) (enc c)=some (enc (Nat.gcd a.natAbs c.natAbs:Nat)):=by
 have e:LIM*LIM≤18446744073709551616*2 ^ 960:=by decide +kernel
 have mono:∀(n:Nat) {x y r:aq},gF n x y=some r→∀m,n≤m→gF m x y=some r:=by
  have step:∀{p q:aq→aq→Option aq},(∀{x y r},p x y=some r→q x y=some r)→∀{x y r},cr p x y=some r→cr q x y=some r:=by
   intro p q hpq x y r h
   unfold cr at h ⊢
   obtain⟨b,h1,h⟩:=ah h
   rw[h1,ab]
   cases b with
   |false=>exact h
   |true=>
    rw[ej,a9] at h ⊢
    obtain⟨b2,h2,h⟩:=ah h
    rw[h2,ab]
    cases b2 with
    |true=>exact h
    |false=>
     rw[a9] at h ⊢
     cases hd:decide (¬(y.vW=#v[(0:Int),0,0,0,0,0,0,0,0,0,0,0,0,0,0,0])) with
     |false=>rw[hd] at h;exact h
     |true=>
      rw[hd,gX] at h
      rw[gX]
      obtain⟨q1,h3,h⟩:=ah h
      rw[h3,ab]
      obtain⟨q2,h4,h⟩:=ah h
      rw[h4,ab]
      obtain⟨q3,h5,h⟩:=ah h
      rw[h5,ab]
      obtain⟨q4,h6,h⟩:=ah h
      rw[hpq h6,ab]
      exact h
  intro n
  induction n with
  |zero=>intro x y r h;cases h
  |succ n ih=>
   intro x y r h m hm
   obtain⟨m,rfl⟩:∃k,m=k+1:=⟨m - 1,by omega⟩
   exact step (fun h=>ih h m (by omega)) h
 unfold mI
 by_cases hle:c.natAbs≤a.natAbs
 ·refine mono 962 (KD 960 ha hc hle ?_) 1000 (by decide)
  exact bT (yw ha hc) e
 ·by_cases h1:a.natAbs<18446744073709551616∧c.natAbs<18446744073709551616
  ·exact uf ha hc h1.1 h1.2 _
  ·refine mono 963 ?_ 1000 (by decide)
   show cr (gF 962) _ _=_
   rw[He ha hc (by omega) h1,dJ (by omega),KD 960 (by rw[eh];exact hc) (by rw[eh];exact ha) (by rw[eh,eh];omega) (by rw[eh,eh];exact bT (yw hc ha) e),eh,eh,Nat.gcd_comm]
theorem pH {x y:Int}(hy:y≠0)(q r:Int)(h:q*y+r=x)(hr:0≤r∧r<y∨y<r∧r≤0):q=x.fdiv y∧r=x.fmod y:=by
 have h2:x.fdiv y*y+x.fmod y=x:=Int.fdiv_mul_add_fmod x y
 have hf:0≤x.fmod y∧x.fmod y<y∨y<x.fmod y∧x.fmod y≤0:=by
  rcases Int.lt_or_gt_of_ne hy with h|h
  ·right
   have h3:=Int.neg_fmod_neg x y
   have h4:=ES (-x) (b:=-y) (by omega)
   have h5:=ER (-x) (b:=-y) (by omega)
   omega
  ·left;exact⟨ES _ h,ER _ h⟩
 have hq:q=x.fdiv y:=by
  have h3:(q - x.fdiv y)*y=x.fmod y - r:=by rw[Int.sub_mul];omega
  rcases I0 (q - x.fdiv y) 0 with h4|h4|h4
  ·exfalso
   rcases hr with hr|hr <;> rcases hf with hf|hf
   ·have:(q - x.fdiv y)*y≤(-1)*y:=O3 (by omega) (by omega)
    omega
   ·omega
   ·omega
   ·have:(-1)*y≤(q - x.fdiv y)*y:=O2 (by omega) (by omega)
    omega
  ·omega
  ·exfalso
   rcases hr with hr|hr <;> rcases hf with hf|hf
   ·have:1*y≤(q - x.fdiv y)*y:=O3 (by omega) (by omega)
    omega
   ·omega
   ·omega
   ·have:(q - x.fdiv y)*y≤1*y:=O2 (by omega) (by omega)
    omega
 subst hq
 exact⟨rfl,by omega⟩
theorem FF {x y:Int}(hy:y≠0):x.tmod y<y.natAbs∧-(y.natAbs:Int)<x.tmod y:=by
 have h1:=Int.natAbs_tmod x y
 have h2:=dv x.natAbs (show 0<y.natAbs by omega)
 rw[←h1] at h2
 omega
theorem KX {x y:Int}(hy:y≠0):(cnd (decide (x.tmod y≠0)) (some (!((decide (x.tmod y<0)) == (decide (y<0))))) (some false))=some (decide (x.fdiv y≠x.tdiv y))∧(x.fdiv y≠x.tdiv y→x.fdiv y=x.tdiv y - 1∧x.fmod y=x.tmod y+y)∧(x.fdiv y=x.tdiv y→x.fmod y=x.tmod y):=by
 have e1:x.tdiv y*y+x.tmod y=x:=Int.tdiv_mul_add_tmod x y
 have e2:x.fdiv y*y+x.fmod y=x:=Int.fdiv_mul_add_fmod x y
 have hm:=FF (x:=x) hy
 rw[i5]
 by_cases h1:x.tmod y=0
 ·obtain⟨h2,h3⟩:=pH (x:=x) hy (x.tdiv y) (x.tmod y) e1 (by omega)
  rw[ay (by simp[h1])]
  exact⟨by simp[h2],fun h=>absurd h2.symm h,fun _=>h3.symm⟩
 ·rw[az h1]
  by_cases h2:(x.tmod y<0)↔(y<0)
  ·obtain⟨h3,h4⟩:=pH (x:=x) hy (x.tdiv y) (x.tmod y) e1 (by omega)
   refine⟨?_,fun h=>absurd h3.symm h,fun _=>h4.symm⟩
   rw[mA.2 h2,BC]
   simp[h3]
  ·obtain⟨h3,h4⟩:=pH (x:=x) hy (x.tdiv y - 1) (x.tmod y+y) (by rw[Int.sub_mul];omega) (by omega)
   have h5:(decide (x.tmod y<0) == decide (y<0))=false:=EQ.2 fun h=>h2 (mA.1 h)
   have h6:x.fdiv y≠x.tdiv y:=by omega
   refine⟨?_,fun _=>⟨h3.symm,h4.symm⟩,fun h=>absurd h h6⟩
   rw[h5]
   simp[h6]
theorem Mh {x y:Int}(hx:-9223372036854775807≤x∧x≤9223372036854775807):-9223372036854775807≤x.tdiv y∧x.tdiv y≤9223372036854775807:=by
 have h1:(x.tdiv y).natAbs=x.natAbs / y.natAbs:=Int.natAbs_tdiv ..
 have h2:x.natAbs / y.natAbs≤x.natAbs:=tH _ _
 omega
theorem Ot {x y:Int}(hx:-9223372036854775807≤x∧x≤9223372036854775807)(LQ:-9223372036854775807≤y∧y≤9223372036854775807)(hy:y≠0):
  (bnd (S:=Int×Int) (bnd (S:=Bool) (cnd (decide ((Int.tmod x y)≠(0:Int))) (some (!((decide ((Int.tmod x y)<(0:Int))) == (decide (y<(0:Int)))))) (some (false))) fun zh=>cnd zh (bnd (some (i64.wrap ((i64.wrap (Int.tdiv x y)) - (1:Int)))) fun w9=>bnd (some (i64.wrap ((Int.tmod x y)+y))) fun xc=>some ((w9,xc))) (some ((i64.wrap (Int.tdiv x y),Int.tmod x y)))) fun (fW,pl)=>bnd (eM fW) fun x32=>bnd (eM pl) fun x34=>some ((.inr (x32,x34)):Unit⊕(aq×aq)))=some (.inr (enc (x.fdiv y),enc (x.fmod y))):=by
 obtain⟨h1,h2,h3⟩:=KX (x:=x) hy
 have hq:=Mh (y:=y) hx
 have hm:=FF (x:=x) hy
 rw[h1,ab]
 by_cases h:x.fdiv y=x.tdiv y
 ·have hf:=h3 h
  rw[bx _ _ (fun hh=>hh h),ab,KQ]
  dsimp only
  rw[E8 (by omega) (by omega),ab,E8 (by omega) (by omega),ab,h,hf]
 ·obtain⟨h4,h5⟩:=h2 h
  have hf:x.fmod y≤9223372036854775807∧-9223372036854775807≤x.fmod y:=by
   have:-(y.natAbs:Int)≤x.fmod y∧x.fmod y≤y.natAbs:=by
    rcases Int.lt_or_gt_of_ne hy with hl|hl
    ·have h7:=ES (-x) (b:=-y) (by omega)
     have h8:=ER (-x) (b:=-y) (by omega)
     have h9:=Int.neg_fmod_neg x y
     omega
    ·have h7:=ES x (b:=y) (by omega)
     have h8:=ER x (b:=y) (by omega)
     omega
   omega
  rw[bw _ _ h,KQ (z:=Int.tdiv x y) (by omega),ab,ab,KQ,KQ,←h4,←h5]
  dsimp only
  rw[ab]
  dsimp only
  rw[E8 (by omega) (by omega),ab,E8 (by omega) (by omega),ab]
theorem LL {a c:Int}(ha:a.natAbs<LIM)(hc:c.natAbs<LIM)(h0:c≠0):jX (enc a) (enc c)=some (enc (a.fdiv c),enc (a.fmod c)):=by
 have slow:∀r:Unit⊕(aq×aq),r=.inl ()→(match r with| .inl ()=>bnd (fq (enc a).vW (enc c).vW) fun zH=>bnd (bE (!((enc a).vNeg == (enc c).vNeg)) zH.1) fun Ds=>bnd (S:=(Vector Int 16)×aq) (bnd (S:=Bool) (cnd (decide (¬(zH.2=#v[(0:Int),0,0,0,0,0,0,0,0,0,0,0,0,0,0,0]))) (some (!((enc a).vNeg == (enc c).vNeg))) (some (false))) fun ze=>cnd ze (bnd (eM (1:Int)) fun x44=>bnd (mH Ds x44) fun x46=>bnd (gD (enc c).vW zH.2) fun x48=>some ((x48,x46))) (some ((zH.2,Ds)))) fun (zf,wS)=>bnd (bE (enc c).vNeg zf) fun x51=>some (wS,x51)| .inr r=>some r)=some (enc (a.fdiv c),enc (a.fmod c)):=by
  rintro r rfl
  dsimp only
  have hr:=dv a.natAbs (show 0<c.natAbs by omega)
  have hq:a.natAbs / c.natAbs≤a.natAbs:=tH _ _
  have hdm:=nQ a.natAbs c.natAbs
  rw[lO ha,lO hc,nr ha,nr hc,BX ha hc (by omega),ab]
  dsimp only
  rw[iO (fb hq ha),ab,z16]
  simp only[BL (yu hr hc) ue]
  have hdm2:(c.natAbs:Int)*((a.natAbs / c.natAbs:Nat):Int)+((a.natAbs % c.natAbs:Nat):Int)=(a.natAbs:Int):=by rw[←oa,←kw,hdm]
  generalize hQ:a.natAbs / c.natAbs=Q at hdm2 hq ⊢
  generalize hR:a.natAbs % c.natAbs=R at hdm2 hr ⊢
  by_cases hs:decide (a<0)=decide (c<0)
  ·have LU:=mA.1 hs
   rw[hs,BC,ej]
   rw[show (cnd (decide (¬(R=0))) (some false) (some false))=some false from by rw[OG],ab,a9,ab]
   dsimp only[cond_false]
   rw[iO (yu hr hc),ab]
   obtain⟨h1,h2⟩:=pH (x:=a) h0 (Q:Int) (bif decide (c<0) then -(R:Int) else (R:Int)) (by
    by_cases Fg:c<0
    ·rw[dU Fg,lr]
     have e:c=-(c.natAbs:Int):=by omega
     have e2:a=-(a.natAbs:Int):=by omega
     rw[e2,←hdm2]
     conv=>lhs;rw[e]
     rw[Int.mul_neg,sk];omega
    ·rw[jw Fg,cond_false]
     have e:c=(c.natAbs:Int):=by omega
     have e2:a=(a.natAbs:Int):=by omega
     rw[e2,←hdm2]
     conv=>lhs;rw[e]
     rw[sk]) (by
    by_cases Fg:c<0
    ·rw[dU Fg,lr];omega
    ·rw[jw Fg,cond_false];omega)
   rw[←h1,←h2]
  ·have LU:¬((a<0)↔(c<0)):=fun h=>hs (mA.2 h)
   have hb:(decide (a<0) == decide (c<0))=false:=EQ.2 hs
   rw[hb,tL,lr]
   have hmul:-(Q:Int)*c=(if c<0 then 1 else -1)*((c.natAbs:Int)*(Q:Int)):=by
    split
    ·have e:c=-(c.natAbs:Int):=by omega
     conv=>lhs;rw[e]
     rw[Int.neg_mul_neg,Int.one_mul,sk]
    ·have e:c=(c.natAbs:Int):=by omega
     conv=>lhs;rw[e]
     rw[Int.neg_mul,Int.neg_mul,Int.one_mul,sk]
   by_cases Ho:R=0
   ·rw[bx _ _ (by simpa using Ho),ab,a9,ab]
    dsimp only
    rw[iO (yu hr hc),ab]
    obtain⟨h1,h2⟩:=pH (x:=a) h0 (-(Q:Int)) 0 (by rw[hmul];subst Ho;split <;> omega) (by omega)
    rw[←h1,←h2]
    subst Ho
    cases decide (c<0) <;> rfl
   ·have hQ1:((-(Q:Int)).natAbs)<LIM:=by rw[Int.natAbs_neg,eh];exact fb hq ha
    rw[bw _ _ Ho,ab,gX,E8 (by decide) (by decide),ab,G_Sub hQ1 (by decide),ab,E7 (kz hr),ab,ab]
    dsimp only
    rw[iO (fb (Nat.sub_le _ _) hc),ab]
    obtain⟨h1,h2⟩:=pH (x:=a) h0 (-(Q:Int) - 1) (bif decide (c<0) then -((c.natAbs - R:Nat):Int) else ((c.natAbs - R:Nat):Int)) (by
     rw[Int.sub_mul,hmul]
     by_cases Fg:c<0
     ·rw[dU Fg,lr,az Fg];omega
     ·rw[jw Fg,cond_false,ay Fg];omega) (by
     by_cases Fg:c<0
     ·rw[dU Fg,lr];omega
     ·rw[jw Fg,cond_false];omega)
    rw[←h1,←h2]
 unfold jX
 rw[sy,bN ha,bN hc,ab,dX,ej,a9,yF hc,ab,ab,bx _ _ (by rw[IZ];exact h0),KI ha,ab]
 have NN:∀z:Int,(bnd (S:=Bool) (cnd (if -9223372036854775808≤z∧z<9223372036854775808 then (z,true) else (0,false):Int×Bool).2 (some (decide ((if -9223372036854775808≤z∧z<9223372036854775808 then (z,true) else (0,false):Int×Bool).1≠(-9223372036854775808:Int)))) (some (false))) fun a=>some a)=some (decide (-9223372036854775807≤z∧z≤9223372036854775807)):=by
  intro z
  rw[vk]
  split
  ·rw[gX];congr 1;exact mA.2 (by omega)
  ·rw[a9];congr 1;exact (def_).symm
 have e1:=NN a
 have e2:=NN c
 rw[vk] at e1 e2
 rw[e1,ab,i5]
 split
 ·rename_i h1
  rw[KI hc,ab,e2,ab,i5]
  split
  ·rename_i h2
   rw[ifp_,ifp_,aJ h0,aJ h0,Ot h1 h2 h0,ab]
  ·rw[ab];exact slow _ rfl
 ·rw[ab];exact slow _ rfl
theorem KJ {a c:Int}(ha:a.natAbs<LIM)(hc:c.natAbs<LIM)(h0:c≠0):jB (enc a) (enc c)=some (enc (a.fdiv c)):=by
 unfold jB
 rw[LL ha hc h0,ab]
def ji(bn:aq):Bool×Int→Option ((Bool×Int)⊕Bool):=fun (aK,aS)=>cnd (decide (aS<(16:Int))) (bnd (S:=Bool) (cnd aK (gd (0≤aS∧aS<16) (some (decide (((bn.vW)[(aS).toNat]!)=(0:Int))))) (some (false))) fun cQ=>some (.inl (cQ,i64.wrap (aS+(1:Int))))) (some (.inr aK))
def oh(bn:aq):Option Bool:=bnd (a7 (ji bn) (true,(0:Int))) fun aG=>cnd bn.vBad (bnd (S:=Bool) (cnd aG (some (!bn.vNeg)) (some (false))) fun fW=>some fW) (bnd (S:=Bool) (cnd (!aG) (some (true)) (some (!bn.vNeg))) fun gj=>some gj)
theorem Cb {bn:aq}{r:Bool}(h:oh bn=some r):aC prog 152 [dG ap bn] (dB r):=by
 refine bQ (rs:=[.tmp 2]) (fun cx hx h0=>?_) func152
 unfold oh at h
 iterate 2 refine ra hx ?_
 refine AW.seq (ra hx ?_)
 refine AW.block ?_
 obtain⟨aG,hy,h⟩:=ah h
 refine lp (S:=Bool×Int) (X:=Bool) (fun (aK,aS)=>[(1,.pt 0 0),(3,dB aK),(4,dI .i64 aS)]) (fun (aK,aS)=>⟨[(0,dC (ap.f bn))],[],1⟩) (PE cx (.exit 0) (fun aG=>[(1,.pt 0 0),(3,dB aG)]) fun aG=>⟨[(0,dC (ap.f bn))],[],1⟩) hy ?_ ?_ ?_
 exact wk h0 [0] (wR rfl (wR rfl (wR rfl wTn))) (vC rfl wVn) wLn
 clear hy h
 rintro⟨aK,aS⟩ y h
 dsimp only[ji] at h
 refine AW.seq (ra hx ?_)
 refine cdh h rfl (fun cH h=>?_) (fun cH h=>?_)
 refine AW.skip (AW.seq ?_)
 obtain⟨cQ,hy,h⟩:=ah h
 refine jn ((PE cx .normal (fun cQ=>[(1,.pt 0 0),(3,dB cQ),(4,dI .i64 aS)]) fun cQ=>⟨[(0,dC (ap.f bn))],[],1⟩) cQ) ?_ ?_
 replace h:=hy
 refine AW.block (rq hx fun K hK=>?_)
 iterate 2 refine sa ?_
 rcases aX aK with ly|ly
 replace h:=aZ ly h
 iterate 2 refine ga ly ?_
 obtain⟨N6,h⟩:=aD h
 have hn4:(aS).toNat<16:=by omega
 refine g1 ly (ck N6 aF aI) ?_
 refine g1 ly (a4 (ao.comp (aT bn) (ao.vec (cI .u32) bn.vW (aS).toNat hn4) (fun _=>rfl)) aI) ?_
 refine ga ly ?_
 refine s1 (al ly) ?_
 refine sa ?_
 refine .nil (hK _ _ ?_)
 cases h
 exact pe0 h0 [0]
 replace h:=a3 ly h
 iterate 5 refine aH rfl rfl ly ?_
 refine s1 (au ly) ?_
 refine sa ?_
 refine .nil (hK _ _ ?_)
 cases h
 exact pe0 h0 [0]
 rintro ex tm' hp' ⟨rfl,hw⟩
 refine AW.weak hw (rb hx ?_)
 cases h
 exact PS.l (pe0 h0 [0])
 refine AW.exit ?_
 try dsimp only
 try simp only[aN,reduceIte,Nat.reduceEqDiff,reduceCtorEq]
 cases h
 exact PS.r ⟨by nofun,PE.i (wk h0 [0] (wR rfl (wR rfl wTn)) (vC rfl wVn) wLn)⟩
 rintro ex tm' hp' ⟨rfl,hw⟩
 try dsimp only
 try simp only[aN,reduceIte,Nat.reduceEqDiff,reduceCtorEq]
 refine AW.weak hw (AW.seq (rs hx fun K hK=>?_))
 refine sa ?_
 refine s1 (a4 (iv bn) gp) ?_
 refine .nil (hK _ _ (cdh h rfl (fun xY h=>?_) (fun xY h=>?_)))
 refine AW.seq ?_
 obtain⟨fW,hy,h⟩:=ah h
 refine jn ((PE cx .normal (fun fW=>[(2,dB fW)]) fun fW=>⟨[],[],0⟩) fW) ?_ ?_
 replace h:=hy
 refine rq hx fun K hK=>?_
 iterate 2 refine sa ?_
 rcases aX aG with qD|qD
 replace h:=aZ qD h
 refine ga qD ?_
 refine g1 qD (a4 (bu bn) gp) ?_
 refine ga qD ?_
 refine s1 (al qD) ?_
 refine sa ?_
 refine .nil (hK _ _ ?_)
 cases h
 exact pe0 h0 []
 replace h:=a3 qD h
 iterate 3 refine aH rfl rfl qD ?_
 refine s1 (au qD) ?_
 refine sa ?_
 refine .nil (hK _ _ ?_)
 cases h
 exact pe0 h0 []
 rintro ex tm' hp' ⟨rfl,hw⟩
 refine AW.weak hw (AW.ret ?_)
 cases h
 exact rv1
 refine AW.skip (AW.seq ?_)
 obtain⟨gj,hy,h⟩:=ah h
 refine jn ((PE cx .normal (fun gj=>[(2,dB gj)]) fun gj=>⟨[],[],0⟩) gj) ?_ ?_
 replace h:=hy
 refine rq hx fun K hK=>?_
 iterate 3 refine sa ?_
 rcases aX (!aG) with fa|fa
 replace h:=aZ fa h
 iterate 3 refine aH rfl rfl fa ?_
 refine s1 (al fa) ?_
 refine sa ?_
 refine .nil (hK _ _ ?_)
 cases h
 exact pe0 h0 []
 replace h:=a3 fa h
 refine ga fa ?_
 refine g1 fa (a4 (bu bn) gp) ?_
 refine ga fa ?_
 refine s1 (au fa) ?_
 refine sa ?_
 refine .nil (hK _ _ ?_)
 cases h
 exact pe0 h0 []
 rintro ex tm' hp' ⟨rfl,hw⟩
 refine AW.weak hw (AW.ret ?_)
 cases h
 exact rv1
def da(bn:aq):Option Bool:=bnd (oh bn) fun x1=>bnd (S:=Bool) (cnd x1 (some (!bn.vBad)) (some (false))) fun kA=>some kA
theorem io {bn:aq}{r:Bool}(h:da bn=some r):aC prog 118 [dG ap bn] (dB r):=by
 refine bQ (rs:=[.tmp 2]) (fun cx hx h0=>?_) func118
 unfold da at h
 refine ra hx ?_
 refine rs hx fun K hK=>?_
 refine s1 (d:=dG ap bn) (aE (ao.id _ _) ax) ?_
 refine scb h Cb fun x1 h=>?_
 refine sa ?_
 refine .nil (hK _ _ (AW.seq ?_))
 obtain⟨kA,hy,h⟩:=ah h
 refine jn ((PE cx .normal (fun kA=>[(2,dB kA)]) fun kA=>⟨[],[],0⟩) kA) ?_ ?_
 replace h:=hy
 refine rq hx fun K hK=>?_
 iterate 2 refine sa ?_
 rcases aX x1 with bo|bo
 replace h:=aZ bo h
 refine ga bo ?_
 refine g1 bo (a4 (iv bn) gp) ?_
 refine ga bo ?_
 refine s1 (al bo) ?_
 refine sa ?_
 refine .nil (hK _ _ ?_)
 cases h
 exact pe0 h0 []
 replace h:=a3 bo h
 iterate 3 refine aH rfl rfl bo ?_
 refine s1 (au bo) ?_
 refine sa ?_
 refine .nil (hK _ _ ?_)
 cases h
 exact pe0 h0 []
 rintro ex tm' hp' ⟨rfl,hw⟩
 refine AW.weak hw (AW.ret ?_)
 cases h
 exact rv1
def lE(bn:aq):Int→Option (Int⊕((Int×Bool)⊕Unit)):=fun cQ=>cnd (decide (cQ<(16:Int))) (gd (0≤cQ∧cQ<16) (cnd (decide (((bn.vW)[(cQ).toNat]!)≠(0:Int))) (some (.inr (.inl ((0:Int),false)))) (some (.inl (i64.wrap (cQ+(1:Int))))))) (some (.inr (.inr ())))
def lG(bn:aq):Option (Int×Bool):=bnd (da bn) fun x1=>bnd (S:=Bool) (cnd (!x1) (some (true)) (some (decide ((1073741824:Int)≤((bn.vW)[((1:Int)).toNat]!))))) fun aV=>cnd aV (some ((0:Int),false)) (bnd (a7 (lE bn) (2:Int)) fun y11=>match y11 with| .inl r=>some r| .inr ()=>bnd (some (i64.wrap ((i64.wrap ((i64.wrap ((bn.vW)[((1:Int)).toNat]!))*(4294967296:Int)))+(i64.wrap ((bn.vW)[((0:Int)).toNat]!))))) fun pL=>cnd bn.vNeg (some (i64.wrap (0 - pL),true)) (some (pL,true)))
theorem v6 {bn:aq}{r:Int×Bool}(h:lG bn=some r):aC prog 149 [dG ap bn] (.tu [dI .i64 r.1,dB r.2]):=by
 refine bQ (rs:=[.tmp 2,.tmp 3]) (fun cx hx h0=>?_) func149
 unfold lG at h
 refine ra hx ?_
 refine rs hx fun K hK=>?_
 refine s1 (d:=dG ap bn) (aE (ao.id _ _) ax) ?_
 refine scb h io fun x1 h=>?_
 refine sa ?_
 refine .nil (hK _ _ ?_)
 iterate 2 refine AW.seq ?_
 obtain⟨aV,hy,h⟩:=ah h
 refine jn ((PE cx .normal (fun aV=>[(1,.pt 0 0),(16,dB aV)]) fun aV=>⟨[(0,dC (ap.f bn))],[],1⟩) aV) ?_ ?_
 replace h:=hy
 refine rq hx fun K hK=>?_
 iterate 3 refine sa ?_
 rcases aX (!x1) with bo|bo
 replace h:=aZ bo h
 iterate 4 refine aH rfl rfl bo ?_
 refine s1 (al bo) ?_
 refine .nil (hK _ _ ?_)
 cases h
 exact pe0 h0 [0]
 replace h:=a3 bo h
 refine ga bo ?_
 have hn4:((1:Int)).toNat<16:=by omega
 refine g1 bo (ck (by decide:0≤(1:Int)∧(1:Int)<((16:Nat):Int)) aF aI) ?_
 refine g1 bo (a4 (ao.comp (aT bn) (ao.vec (cI .u32) bn.vW ((1:Int)).toNat hn4) (fun _=>rfl)) aI) ?_
 refine ga bo ?_
 refine s1 (au bo) ?_
 refine .nil (hK _ _ ?_)
 cases h
 exact pe0 h0 [0]
 rintro ex tm' hp' ⟨rfl,hw⟩
 refine AW.weak hw (cdh h rfl (fun eW h=>?_) (fun eW h=>?_))
 refine ra hx ?_
 refine AW.ret ?_
 cases h
 exact rv2
 refine AW.skip (AW.seq (ra hx ?_))
 refine AW.block ?_
 obtain⟨y,hy,h⟩:=ah h
 refine lp (S:=Int) (X:=(Int×Bool)⊕Unit) (fun cQ=>[(1,.pt 0 0),(5,dI .i64 cQ)]) (fun cQ=>⟨[(0,dC (ap.f bn))],[],1⟩) (PS (PR [.tmp 2,.tmp 3] fun r=>.tu [dI .i64 r.1,dB r.2]) (PE cx (.exit 0) (fun ()=>[(1,.pt 0 0)]) fun ()=>⟨[(0,dC (ap.f bn))],[],1⟩)) hy ?_ ?_ ?_
 exact wk h0 [0] (wR rfl (wR rfl wTn)) (vC rfl wVn) wLn
 clear hy h
 rintro cQ y h
 dsimp only[lE] at h
 refine AW.seq (ra hx ?_)
 refine cdh h rfl (fun xY h=>?_) (fun xY h=>?_)
 refine AW.skip (AW.seq (AW.block (rs hx fun K hK=>?_)))
 iterate 2 refine sa ?_
 obtain⟨Ih,h⟩:=aD h
 have Ia:(cQ).toNat<16:=by omega
 refine s1 (ck Ih aF aI) ?_
 refine s1 (a4 (ao.comp (aT bn) (ao.vec (cI .u32) bn.vW (cQ).toNat Ia) (fun _=>rfl)) aI) ?_
 refine sa ?_
 refine .nil (hK _ _ (cdh h rfl (fun fa h=>?_) (fun fa h=>?_)))
 refine ra hx ?_
 refine AW.ret ?_
 cases h
 refine PS.r ⟨by nofun,PS.l (PR.i ?_)⟩
 exact rv2
 refine AW.skip (rb hx ?_)
 cases h
 exact PS.l (pe0 h0 [0])
 refine AW.exit ?_
 try dsimp only
 try simp only[aN,reduceIte,Nat.reduceEqDiff,reduceCtorEq]
 cases h
 exact PS.r ⟨by nofun,PS.r (PE.i (wk h0 [0] (wR rfl wTn) (vC rfl wVn) wLn))⟩
 rcases y with r|⟨⟩
 rintro ex tm' hp' ⟨rfl,hw⟩
 cases h
 exact hw
 rintro ex tm' hp' ⟨rfl,hw⟩
 try dsimp only
 try simp only[aN,reduceIte,Nat.reduceEqDiff,reduceCtorEq]
 refine AW.weak hw (rs hx fun K hK=>?_)
 refine sa ?_
 have NL:((1:Int)).toNat<16:=by omega
 refine s1 (ck (by decide:0≤(1:Int)∧(1:Int)<((16:Nat):Int)) aF aI) ?_
 refine s1 (a4 (ao.comp (aT bn) (ao.vec (cI .u32) bn.vW ((1:Int)).toNat NL) (fun _=>rfl)) aI) ?_
 iterate 3 refine sa ?_
 have Ic:((0:Int)).toNat<16:=by omega
 refine s1 (ck (by decide:0≤(0:Int)∧(0:Int)<((16:Nat):Int)) aF aI) ?_
 refine s1 (a4 (ao.comp (aT bn) (ao.vec (cI .u32) bn.vW ((0:Int)).toNat Ic) (fun _=>rfl)) aI) ?_
 iterate 2 refine sa ?_
 obtain⟨pL,xS,h⟩:=ah h
 replace xS:=cv xS
 refine s2 (d2:=dI .i64 pL) kO (fR (congrArg (dI .i64) xS)) ?_
 refine .nil (hK _ _ (AW.seq (rs hx fun K hK=>?_)))
 refine sa ?_
 refine s1 (a4 (bu bn) gp) ?_
 refine .nil (hK _ _ (cdh h rfl (fun Iv h=>?_) (fun Iv h=>?_)))
 refine ra hx ?_
 refine AW.ret ?_
 cases h
 exact rv2
 refine AW.skip (ra hx ?_)
 refine AW.ret ?_
 cases h
 exact rv2
def jZ(f8:List Int):Int→Option (Int⊕Int):=fun aV=>bnd (S:=Bool) (cnd (decide ((0:Int)<aV)) (gd (0≤i64.wrap (aV - (1:Int))∧i64.wrap (aV - (1:Int))<((f8).length:Int)) (some (decide (((f8)[(i64.wrap (aV - (1:Int))).toNat]!)=(0:Int))))) (some (false))) fun mQ=>cnd mQ (some (.inl (i64.wrap (aV - (1:Int))))) (some (.inr aV))
def eN(f8:List Int):Option (List Int):=bnd (a7 (jZ f8) ((f8).length:Int)) fun nC=>gd (0≤(0:Int)∧(0:Int)≤nC∧nC≤((f8).length:Int)) (some (Hy f8 (0:Int) nC))
theorem jF {f8:List Int}{r:List Int}(h:eN f8=some r):aC prog 157 [dL (cI .i64) f8] (dL (cI .i64) r):=by
 refine bQ (rs:=[.tmp 2]) (fun cx hx h0=>?_) func157
 unfold eN at h
 refine rs hx fun K hK=>?_
 refine s1 (d:=dO 0 (cI .i64) ([]:List Int)) (ek bV aY) ?_
 refine .nil (hK _ _ (ra hx ?_))
 refine AW.seq (AW.block ?_)
 obtain⟨nC,hy,h⟩:=ah h
 refine lp (S:=Int) (X:=Int) (fun aV=>[(0,dL (cI .i64) f8),(3,dI .i64 aV)]) (fun aV=>⟨[],[],0⟩) (PE cx (.exit 0) (fun nC=>[(0,dL (cI .i64) f8),(3,dI .i64 nC)]) fun nC=>⟨[],[],0⟩) hy ?_ ?_ ?_
 exact wk h0 [] (wR rfl (wR rfl wTn)) wVn wLn
 clear hy h
 rintro aV y h
 dsimp only[jZ] at h
 iterate 2 refine AW.seq ?_
 obtain⟨mQ,hy,h⟩:=ah h
 refine jn ((PE cx .normal (fun mQ=>[(0,dL (cI .i64) f8),(3,dI .i64 aV),(15,dB mQ)]) fun mQ=>⟨[],[],0⟩) mQ) ?_ ?_
 replace h:=hy
 refine rq hx fun K hK=>?_
 iterate 3 refine sa ?_
 rcases aX (decide ((0:Int)<aV)) with cH|cH
 replace h:=aZ cH h
 iterate 3 refine ga cH ?_
 obtain⟨nb,h⟩:=aD h
 have p8:(i64.wrap (aV - (1:Int))).toNat<(f8).length:=by omega
 refine g1 cH (gk nb bV aY) ?_
 refine g1 cH (oL (c:=(cI .i64)) (l:=f8) (n:=(i64.wrap (aV - (1:Int))).toNat) (o:=0) aY p8) ?_
 refine ga cH ?_
 refine s1 (al cH) ?_
 refine .nil (hK _ _ ?_)
 cases h
 exact pe0 h0 []
 replace h:=a3 cH h
 iterate 6 refine aH rfl rfl cH ?_
 refine s1 (au cH) ?_
 refine .nil (hK _ _ ?_)
 cases h
 exact pe0 h0 []
 rintro ex tm' hp' ⟨rfl,hw⟩
 refine AW.weak hw (cdh h rfl (fun oT h=>?_) (fun oT h=>?_))
 refine AW.skip (AW.block (rb hx ?_))
 cases h
 exact PS.l (pe0 h0 [])
 refine AW.exit ?_
 try dsimp only
 try simp only[aN,reduceIte,Nat.reduceEqDiff,reduceCtorEq]
 cases h
 exact PS.r ⟨by nofun,PE.i (wk h0 [] (wR rfl (wR rfl wTn)) wVn wLn)⟩
 rintro ex tm' hp' ⟨rfl,hw⟩
 try dsimp only
 try simp only[aN,reduceIte,Nat.reduceEqDiff,reduceCtorEq]
 refine AW.weak hw (rs hx fun K hK=>?_)
 iterate 2 refine sa ?_
 obtain⟨N5,h⟩:=aD h
 refine s1 (T_sl (c:=(cI .i64)) (l:=f8) (a:=(0:Int)) (b:=nC) N5 bV aY) ?_
 refine sa ?_
 refine .nil (hK _ _ (AW.ret ?_))
 cases h
 exact rv1
def lj :Option aq:=some (⟨true,false,(bS)⟩:aq)
theorem sX  {r:aq}(h:lj=some r):aC prog 132 [] (dG ap r):=by
 refine bQ (rs:=[.cell 0 32]) (fun cx hx h0=>?_) func132
 unfold lj at h
 refine rs hx fun K hK=>?_
 refine s1 (bp (F:=ap.f bz) ax) ?_
 refine .nil (hK _ _ (rs hx fun K hK=>?_))
 refine s1 (d:=dG ap (⟨true,false,(bS)⟩:aq)) (jz (FL.cons (y:=true) (iv bz) rfl rfl (FL.nil _)) ax) ?_
 refine s0 (aO (b':=(⟨true,false,(bS)⟩:aq)) (ao.id _ _) ax) ?_
 refine .nil (hK _ _ (AW.ret ?_))
 cases h
 exact rv1
def fx(x1:List Int):Int×aq→Option ((Int×aq)⊕aq):=fun (bm,j5)=>cnd (decide (bm<((x1).length:Int))) (bnd (S:=aq) (cnd (decide ((Int.tmod bm (2:Int))=(0:Int))) (gd (0≤i64.wrap (Int.tdiv bm (2:Int))∧i64.wrap (Int.tdiv bm (2:Int))<16) (gd (0≤bm∧bm<((x1).length:Int)) (gd (0≤i64.wrap (Int.tdiv bm (2:Int))∧i64.wrap (Int.tdiv bm (2:Int))<16) (bnd (some ((⟨j5.vBad,j5.vNeg,(j5.vW).set! (i64.wrap (Int.tdiv bm (2:Int))).toNat (u32.wrap (((j5.vW)[(i64.wrap (Int.tdiv bm (2:Int))).toNat]!)+(u32.wrap ((x1)[(bm).toNat]!))))⟩:aq))) fun pK=>some (pK))))) (gd (0≤i64.wrap (Int.tdiv bm (2:Int))∧i64.wrap (Int.tdiv bm (2:Int))<16) (gd (0≤bm∧bm<((x1).length:Int)) (gd (0≤i64.wrap (Int.tdiv bm (2:Int))∧i64.wrap (Int.tdiv bm (2:Int))<16) (bnd (some ((⟨j5.vBad,j5.vNeg,(j5.vW).set! (i64.wrap (Int.tdiv bm (2:Int))).toNat (u32.wrap (((j5.vW)[(i64.wrap (Int.tdiv bm (2:Int))).toNat]!)+(u32.wrap ((u32.wrap ((x1)[(bm).toNat]!))*(65536:Int)))))⟩:aq))) fun KO=>some (KO)))))) fun Dn=>some (.inl (i64.wrap (bm+(1:Int)),Dn))) (some (.inr j5))
def eO(s9:Bool)(f8:List Int):Option aq:=bnd (eN f8) fun x1=>cnd (decide ((32:Int)<((x1).length:Int))) (bnd (lj) fun x4=>some x4) (bnd (S:=aq) (cnd s9 (bnd (some ((⟨false,decide ((0:Int)<((x1).length:Int)),(bS)⟩:aq))) fun x7=>some (x7)) (some ((⟨false,false,(bS)⟩:aq)))) fun g8=>bnd (a7 (fx x1) ((0:Int),g8)) fun dK=>some dK)
theorem mX {s9:Bool}{f8:List Int}{r:aq}(h:eO s9 f8=some r):aC prog 147 [dB s9,dL (cI .i64) f8] (dG ap r):=by
 refine bQ (rs:=[.cell 4 32]) (fun cx hx h0=>?_) func147
 unfold eO at h
 refine rs hx fun K hK=>?_
 refine s1 (bp (F:=ap.f bz) ax) ?_
 refine .nil (hK _ _ (rs hx fun K hK=>?_))
 refine sa ?_
 refine scb h jF fun x1 h=>?_
 refine sa ?_
 refine .nil (hK _ _ (AW.seq (ra hx ?_)))
 refine cdh h rfl (fun bo h=>?_) (fun bo h=>?_)
 refine rs hx fun K hK=>?_
 refine scb h sX fun x4 h=>?_
 refine s0 (aO (b':=x4) (ao.id _ _) ax) ?_
 refine .nil (hK _ _ (AW.ret ?_))
 cases h
 exact rv1
 refine AW.skip (AW.seq ?_)
 obtain⟨g8,hy,h⟩:=ah h
 refine jn ((PE cx .normal (fun g8=>[(4,.pt 0 0),(5,dL (cI .i64) x1),(6,.pt 1 0)]) fun g8=>⟨[(0,dC (ap.f bz)),(1,dC (ap.f g8))],[],2⟩) g8) ?_ ?_
 replace h:=hy
 refine rq hx fun K hK=>?_
 iterate 2 refine sa ?_
 rcases aX s9 with eW|eW
 replace h:=aZ eW h
 iterate 3 refine ga eW ?_
 refine s1 (al eW) ?_
 refine s1 (d:=dG ap (⟨false,decide ((0:Int)<((x1).length:Int)),(bS)⟩:aq)) (jz (FL.cons (y:=decide ((0:Int)<((x1).length:Int))) (bu bz) rfl rfl (FL.nil _)) ax) ?_
 refine s1 (bp (F:=ap.f bz) ax) ?_
 obtain⟨x7,zu,h⟩:=ah h
 replace zu:=cv zu
 refine s0 (jT (b':=(⟨false,decide ((0:Int)<((x1).length:Int)),(bS)⟩:aq)) (ao.id _ _) ax zu) ?_
 refine .nil (hK _ _ ?_)
 cases h
 exact pe0 h0 [0,1]
 replace h:=a3 eW h
 iterate 3 refine aH rfl rfl eW ?_
 refine s1 (au eW) ?_
 refine s1 (d:=dG ap bz) (jz (FL.cons (y:=false) (bu bz) rfl rfl (FL.nil _)) ax) ?_
 refine s1 (bp (F:=ap.f bz) ax) ?_
 refine s0 (aO (b':=bz) (ao.id _ _) ax) ?_
 refine .nil (hK _ _ ?_)
 cases h
 exact pe0 h0 [0,1]
 rintro ex tm' hp' ⟨rfl,hw⟩
 refine AW.weak hw (AW.seq (ra hx ?_))
 refine AW.block ?_
 obtain⟨dK,hy,h⟩:=ah h
 refine lp (S:=Int×aq) (X:=aq) (fun (bm,j5)=>[(4,.pt 0 0),(5,dL (cI .i64) x1),(6,.pt 1 0),(7,dI .i64 bm)]) (fun (bm,j5)=>⟨[(0,dC (ap.f bz)),(1,dC (ap.f j5))],[],2⟩) (PE cx (.exit 0) (fun dK=>[(4,.pt 0 0),(6,.pt 1 0)]) fun dK=>⟨[(0,dC (ap.f bz)),(1,dC (ap.f dK))],[],2⟩) hy ?_ ?_ ?_
 exact wk h0 [0,1] (wR rfl (wR rfl (wR rfl (wR rfl wTn)))) (vC rfl (vC rfl wVn)) wLn
 clear hy h
 rintro⟨bm,j5⟩ y h
 dsimp only[fx] at h
 refine AW.seq (ra hx ?_)
 refine cdh h rfl (fun fa h=>?_) (fun fa h=>?_)
 refine AW.skip (AW.seq ?_)
 obtain⟨Dn,hy,h⟩:=ah h
 refine jn ((PE cx .normal (fun Dn=>[(4,.pt 0 0),(5,dL (cI .i64) x1),(6,.pt 1 0),(7,dI .i64 bm)]) fun Dn=>⟨[(0,dC (ap.f bz)),(1,dC (ap.f Dn))],[],2⟩) Dn) ?_ ?_
 replace h:=hy
 refine AW.block (ra hx ?_)
 refine cdh h rfl (fun N9 h=>?_) (fun N9 h=>?_)
 refine rqd [] hx fun K hK=>?_
 iterate 5 refine sa ?_
 obtain⟨N8,h⟩:=aD h
 have Ic:(i64.wrap (Int.tdiv bm (2:Int))).toNat<16:=by omega
 refine s1 (ck N8 aF aI) ?_
 refine s1 (a4 (ao.comp (aT j5) (ao.vec (cI .u32) j5.vW (i64.wrap (Int.tdiv bm (2:Int))).toNat Ic) (fun _=>rfl)) aI) ?_
 iterate 2 refine sa ?_
 obtain⟨hc14,h⟩:=aD h
 have NK:(bm).toNat<(x1).length:=by omega
 refine s1 (gk hc14 bV aY) ?_
 refine s1 (oL (c:=(cI .i64)) (l:=x1) (n:=(bm).toNat) (o:=0) aY NK) ?_
 iterate 3 refine sa ?_
 obtain⟨Gs,h⟩:=aD h
 have Ib:(i64.wrap (Int.tdiv bm (2:Int))).toNat<16:=by omega
 refine s1 (ck Gs aF aI) ?_
 obtain⟨pK,xR,h⟩:=ah h
 replace xR:=cv xR
 refine s0 (jT (b':=u32.wrap (((j5.vW)[(i64.wrap (Int.tdiv bm (2:Int))).toNat]!)+(u32.wrap ((x1)[(bm).toNat]!)))) (ao.comp (aT j5) (ao.vec (cI .u32) j5.vW (i64.wrap (Int.tdiv bm (2:Int))).toNat Ib) (fun _=>rfl)) aI xR) ?_
 refine .nil (hK _ _ ?_)
 cases h
 exact pe0 h0 [0,1]
 refine rqd [] hx fun K hK=>?_
 iterate 5 refine sa ?_
 obtain⟨Ln,h⟩:=aD h
 have NJ:(i64.wrap (Int.tdiv bm (2:Int))).toNat<16:=by omega
 refine s1 (ck Ln aF aI) ?_
 refine s1 (a4 (ao.comp (aT j5) (ao.vec (cI .u32) j5.vW (i64.wrap (Int.tdiv bm (2:Int))).toNat NJ) (fun _=>rfl)) aI) ?_
 iterate 2 refine sa ?_
 obtain⟨Eb,h⟩:=aD h
 have hn23:(bm).toNat<(x1).length:=by omega
 refine s1 (gk Eb bV aY) ?_
 refine s1 (oL (c:=(cI .i64)) (l:=x1) (n:=(bm).toNat) (o:=0) aY hn23) ?_
 iterate 4 refine sa ?_
 obtain⟨N7,h⟩:=aD h
 have hn25:(i64.wrap (Int.tdiv bm (2:Int))).toNat<16:=by omega
 refine s1 (ck N7 aF aI) ?_
 obtain⟨KO,hx27,h⟩:=ah h
 replace hx27:=cv hx27
 refine s0 (jT (b':=u32.wrap (((j5.vW)[(i64.wrap (Int.tdiv bm (2:Int))).toNat]!)+(u32.wrap ((u32.wrap ((x1)[(bm).toNat]!))*(65536:Int))))) (ao.comp (aT j5) (ao.vec (cI .u32) j5.vW (i64.wrap (Int.tdiv bm (2:Int))).toNat hn25) (fun _=>rfl)) aI hx27) ?_
 refine .nil (hK _ _ ?_)
 cases h
 exact pe0 h0 [0,1]
 rintro ex tm' hp' ⟨rfl,hw⟩
 refine AW.weak hw (rb hx ?_)
 cases h
 exact PS.l (pe0 h0 [0,1])
 refine AW.exit ?_
 try dsimp only
 try simp only[aN,reduceIte,Nat.reduceEqDiff,reduceCtorEq]
 cases h
 exact PS.r ⟨by nofun,PE.i (wk h0 [0,1] (wR rfl (wR rfl wTn)) (vC rfl (vC rfl wVn)) wLn)⟩
 rintro ex tm' hp' ⟨rfl,hw⟩
 try dsimp only
 try simp only[aN,reduceIte,Nat.reduceEqDiff,reduceCtorEq]
 refine AW.weak hw (rs hx fun K hK=>?_)
 refine s1 (d:=dG ap dK) (aE (ao.id _ _) ax) ?_
 refine s0 (aO (b':=dK) (ao.id _ _) ax) ?_
 refine .nil (hK _ _ (AW.ret ?_))
 cases h
 exact rv1
def c5(f8:List Int)(kE:Int):Option Int:=cnd (decide (kE<((f8).length:Int))) (gd (0≤kE∧kE<((f8).length:Int)) (some ((f8)[(kE).toNat]!))) (some (0:Int))
theorem fF {f8:List Int}{kE:Int}{r:Int}(h:c5 f8 kE=some r):aC prog 158 [dL (cI .i64) f8,dI .i64 kE] (dI .i64 r):=by
 refine bQ (rs:=[.tmp 4]) (fun cx hx h0=>?_) func158
 unfold c5 at h
 refine ra hx ?_
 refine AW.seq (ra hx ?_)
 refine cdh h rfl (fun cH h=>?_) (fun cH h=>?_)
 refine rs hx fun K hK=>?_
 iterate 2 refine sa ?_
 obtain⟨nb,h⟩:=aD h
 have p8:(kE).toNat<(f8).length:=by omega
 refine s1 (gk nb bV aY) ?_
 refine s1 (oL (c:=(cI .i64)) (l:=f8) (n:=(kE).toNat) (o:=0) aY p8) ?_
 refine sa ?_
 refine .nil (hK _ _ (AW.ret ?_))
 cases h
 exact rv1
 refine AW.skip (ra hx ?_)
 refine AW.ret ?_
 cases h
 exact rv1
def jg(aW:List Int)(a6:List Int):(List Int)×Int×Int→Option (((List Int)×Int×Int)⊕((List Int))):=fun (cR,bq,dA)=>cnd (decide (dA<(i64.wrap ((max ((aW).length:Int) ((a6).length:Int))+(1:Int))))) (bnd (c5 aW dA) fun x2=>bnd (c5 a6 dA) fun x4=>bnd (some (i64.wrap ((i64.wrap (x2+x4))+bq))) fun x6=>gd ((cR++[Int.tmod x6 (65536:Int)]).length*8≤140737488355328) (some (.inl (cR++[Int.tmod x6 (65536:Int)],i64.wrap (Int.tdiv x6 (65536:Int)),i64.wrap (dA+(1:Int)))))) (some (.inr cR))
def nj(aW:List Int)(a6:List Int):Option (List Int):=bnd (a7 (jg aW a6) (([]:List Int),(0:Int),(0:Int))) fun bY=>bnd (eN bY) fun mU=>some mU
theorem Dz {aW:List Int}{a6:List Int}{r:List Int}(h:nj aW a6=some r):aC prog 148 [dL (cI .i64) aW,dL (cI .i64) a6] (dL (cI .i64) r):=by
 refine bQ (rs:=[.tmp 4]) (fun cx hx h0=>?_) func148
 unfold nj at h
 refine rs hx fun K hK=>?_
 refine s1 (d:=dO 0 (cI .i64) ([]:List Int)) (ek bV aY) ?_
 refine .nil (hK _ _ (rs hx fun K hK=>?_))
 refine s1 (d:=dO 1 (cI .i64) ([]:List Int)) (ek bV aY) ?_
 refine .nil (hK _ _ (ra hx ?_))
 refine AW.seq (ra hx ?_)
 refine AW.block ?_
 obtain⟨bY,hy,h⟩:=ah h
 refine lp (S:=(List Int)×Int×Int) (X:=(List Int)) (fun (cR,bq,dA)=>[(0,dL (cI .i64) aW),(1,dL (cI .i64) a6),(5,dO 0 (cI .i64) cR),(6,dI .i64 bq),(7,dI .i64 dA)]) (fun (cR,bq,dA)=>⟨[],[(0,(cR).length,1,3)],1⟩) (PE cx (.exit 0) (fun bY=>[(5,dO 0 (cI .i64) bY)]) fun bY=>⟨[],[(0,(bY).length,1,3)],1⟩) hy ?_ ?_ ?_
 exact wk h0 [1] (wR rfl (wR rfl (wR rfl (wR rfl (wR rfl wTn))))) wVn (wL rfl rfl wLn)
 clear hy h
 rintro⟨cR,bq,dA⟩ y h
 dsimp only[jg] at h
 refine AW.seq (ra hx ?_)
 refine cdh h rfl (fun cH h=>?_) (fun cH h=>?_)
 refine AW.skip (AW.seq (AW.block (rs hx fun K hK=>?_)))
 iterate 2 refine sa ?_
 refine scb h fF fun x2 h=>?_
 iterate 2 refine sa ?_
 refine scb h fF fun x4 h=>?_
 iterate 3 refine sa ?_
 obtain⟨x6,sO,h⟩:=ah h
 replace sO:=cv sO
 refine s2 (d2:=dI .i64 x6) kO (fR (congrArg (dI .i64) sO)) ?_
 refine .nil (hK _ _ (rs hx fun K hK=>?_))
 iterate 3 refine sa ?_
 refine s1 (d:=dO 1 (cI .i64) [Int.tmod x6 (65536:Int)]) (iW bV aY) ?_
 obtain⟨Ih,h⟩:=aD h
 refine s1 (d:=dO 0 (cI .i64) (cR++[Int.tmod x6 (65536:Int)])) (iT bV aY Ih) ?_
 refine sa ?_
 refine .nil (hK _ _ ?_)
 iterate 2 refine rb hx ?_
 cases h
 exact PS.l (pe0 h0 [0])
 refine AW.exit ?_
 try dsimp only
 try simp only[aN,reduceIte,Nat.reduceEqDiff,reduceCtorEq]
 cases h
 exact PS.r ⟨by nofun,PE.i (wk h0 [0] (wR rfl wTn) wVn (wL rfl rfl wLn))⟩
 rintro ex tm' hp' ⟨rfl,hw⟩
 try dsimp only
 try simp only[aN,reduceIte,Nat.reduceEqDiff,reduceCtorEq]
 refine AW.weak hw (rs hx fun K hK=>?_)
 refine sa ?_
 refine scb h jF fun mU h=>?_
 refine sa ?_
 refine .nil (hK _ _ (AW.ret ?_))
 cases h
 exact rv1
def n3(c8:Int):Option aq:=cnd (decide ((0:Int)≤c8)) (bnd (eO false [Int.tmod c8 (65536:Int),Int.tmod (i64.wrap (Int.tdiv c8 (65536:Int))) (65536:Int),Int.tmod (i64.wrap (Int.tdiv c8 (4294967296:Int))) (65536:Int),i64.wrap (Int.tdiv c8 (281474976710656:Int))]) fun x2=>some x2) (bnd (some (i64.wrap (0 - (i64.wrap (c8+(1:Int)))))) fun x4=>bnd (nj [Int.tmod x4 (65536:Int),Int.tmod (i64.wrap (Int.tdiv x4 (65536:Int))) (65536:Int),Int.tmod (i64.wrap (Int.tdiv x4 (4294967296:Int))) (65536:Int),i64.wrap (Int.tdiv x4 (281474976710656:Int))] [(1:Int)]) fun x6=>bnd (eO true x6) fun x8=>some x8)
theorem z9 {c8:Int}{r:aq}(h:n3 c8=some r):aC prog 115 [dI .i64 c8] (dG ap r):=by
 refine bQ (rs:=[.cell 2 32]) (fun cx hx h0=>?_) func115
 unfold n3 at h
 refine rs hx fun K hK=>?_
 refine s1 (bp (F:=ap.f bz) ax) ?_
 refine .nil (hK _ _ (AW.seq (ra hx ?_)))
 refine cdh h rfl (fun cH h=>?_) (fun cH h=>?_)
 refine rs hx fun K hK=>?_
 iterate 10 refine sa ?_
 refine s1 (d:=dO 1 (cI .i64) [Int.tmod c8 (65536:Int),Int.tmod (i64.wrap (Int.tdiv c8 (65536:Int))) (65536:Int),Int.tmod (i64.wrap (Int.tdiv c8 (4294967296:Int))) (65536:Int),i64.wrap (Int.tdiv c8 (281474976710656:Int))]) (iW bV aY) ?_
 refine scb h mX fun x2 h=>?_
 refine s0 (aO (b':=x2) (ao.id _ _) ax) ?_
 refine .nil (hK _ _ (AW.ret ?_))
 cases h
 exact rv1
 refine AW.skip (rs hx fun K hK=>?_)
 iterate 3 refine sa ?_
 obtain⟨x4,va,h⟩:=ah h
 replace va:=cv va
 refine s2 (d2:=dI .i64 x4) kO (fR (congrArg (dI .i64) va)) ?_
 refine .nil (hK _ _ (rs hx fun K hK=>?_))
 iterate 10 refine sa ?_
 refine s1 (d:=dO 1 (cI .i64) [Int.tmod x4 (65536:Int),Int.tmod (i64.wrap (Int.tdiv x4 (65536:Int))) (65536:Int),Int.tmod (i64.wrap (Int.tdiv x4 (4294967296:Int))) (65536:Int),i64.wrap (Int.tdiv x4 (281474976710656:Int))]) (iW bV aY) ?_
 refine s1 (d:=dO 2 (cI .i64) [(1:Int)]) (iW bV aY) ?_
 refine scb h Dz fun x6 h=>?_
 refine scb h mX fun x8 h=>?_
 refine s0 (aO (b':=x8) (ao.id _ _) ax) ?_
 refine .nil (hK _ _ (AW.ret ?_))
 cases h
 exact rv1
def iE(bn:aq):(List Int)×Int→Option (((List Int)×Int)⊕((List Int))):=fun (aK,aS)=>cnd (decide (aS<(16:Int))) (gd (0≤aS∧aS<16) (gd (0≤aS∧aS<16) (gd ((aK++[i64.wrap (Int.tmod ((bn.vW)[(aS).toNat]!) (65536:Int)),i64.wrap (u32.wrap (Int.tdiv ((bn.vW)[(aS).toNat]!) (65536:Int)))]).length*8≤140737488355328) (some (.inl (aK++[i64.wrap (Int.tmod ((bn.vW)[(aS).toNat]!) (65536:Int)),i64.wrap (u32.wrap (Int.tdiv ((bn.vW)[(aS).toNat]!) (65536:Int)))],i64.wrap (aS+(1:Int)))))))) (some (.inr aK))
def d7(bn:aq):Option (List Int):=bnd (a7 (iE bn) (([]:List Int),(0:Int))) fun aG=>bnd (eN aG) fun x8=>some x8
theorem kQ {bn:aq}{r:List Int}(h:d7 bn=some r):aC prog 124 [dG ap bn] (dL (cI .i64) r):=by
 refine bQ (rs:=[.tmp 2]) (fun cx hx h0=>?_) func124
 unfold d7 at h
 refine rs hx fun K hK=>?_
 refine sa ?_
 refine s1 (d:=dO 1 (cI .i64) ([]:List Int)) (ek bV aY) ?_
 refine .nil (hK _ _ (rs hx fun K hK=>?_))
 refine s1 (d:=dO 2 (cI .i64) ([]:List Int)) (ek bV aY) ?_
 refine .nil (hK _ _ (AW.seq (ra hx ?_)))
 refine AW.block ?_
 obtain⟨aG,hy,h⟩:=ah h
 refine lp (S:=(List Int)×Int) (X:=(List Int)) (fun (aK,aS)=>[(1,.pt 0 0),(3,dO 1 (cI .i64) aK),(4,dI .i64 aS)]) (fun (aK,aS)=>⟨[(0,dC (ap.f bn))],[(1,(aK).length,1,3)],2⟩) (PE cx (.exit 0) (fun aG=>[(3,dO 0 (cI .i64) aG)]) fun aG=>⟨[],[(0,(aG).length,1,3)],1⟩) hy ?_ ?_ ?_
 exact wk h0 [0,2] (wR rfl (wR rfl (wR rfl wTn))) (vC rfl wVn) (wL rfl rfl wLn)
 clear hy h
 rintro⟨aK,aS⟩ y h
 dsimp only[iE] at h
 refine AW.seq (ra hx ?_)
 refine cdh h rfl (fun cH h=>?_) (fun cH h=>?_)
 refine AW.skip (AW.seq (AW.block (rqd [] hx fun K hK=>?_)))
 iterate 3 refine sa ?_
 obtain⟨nb,h⟩:=aD h
 have p8:(aS).toNat<16:=by omega
 refine s1 (ck nb aF aI) ?_
 refine s1 (a4 (ao.comp (aT bn) (ao.vec (cI .u32) bn.vW (aS).toNat p8) (fun _=>rfl)) aI) ?_
 iterate 4 refine sa ?_
 obtain⟨Fh,h⟩:=aD h
 have NH:(aS).toNat<16:=by omega
 refine s1 (ck Fh aF aI) ?_
 refine s1 (a4 (ao.comp (aT bn) (ao.vec (cI .u32) bn.vW (aS).toNat NH) (fun _=>rfl)) aI) ?_
 iterate 2 refine sa ?_
 refine s1 (yC bV aY) ?_
 obtain⟨hc6,h⟩:=aD h
 refine s1 (d:=dO 1 (cI .i64) (aK++[i64.wrap (Int.tmod ((bn.vW)[(aS).toNat]!) (65536:Int)),i64.wrap (u32.wrap (Int.tdiv ((bn.vW)[(aS).toNat]!) (65536:Int)))])) (iT bV aY hc6) ?_
 refine sa ?_
 refine .nil (hK _ _ (rb hx ?_))
 cases h
 exact PS.l (pe0 h0 [0,1])
 refine AW.exit ?_
 try dsimp only
 try simp only[aN,reduceIte,Nat.reduceEqDiff,reduceCtorEq]
 cases h
 exact PS.r ⟨by nofun,PE.i (wk h0 [1] (wR rfl wTn) wVn (wL rfl rfl wLn))⟩
 rintro ex tm' hp' ⟨rfl,hw⟩
 try dsimp only
 try simp only[aN,reduceIte,Nat.reduceEqDiff,reduceCtorEq]
 refine AW.weak hw (rs hx fun K hK=>?_)
 refine sa ?_
 refine scb h jF fun x8 h=>?_
 refine sa ?_
 refine .nil (hK _ _ (AW.ret ?_))
 cases h
 exact rv1
def oG(bn:aq):Option aq:=bnd (da bn) fun x1=>cnd (!x1) (bnd (lj) fun x4=>some x4) (bnd (d7 bn) fun x6=>bnd (eO false x6) fun x8=>some x8)
theorem Fu {bn:aq}{r:aq}(h:oG bn=some r):aC prog 153 [dG ap bn] (dG ap r):=by
 refine bQ (rs:=[.cell 2 32]) (fun cx hx h0=>?_) func153
 unfold oG at h
 refine rs hx fun K hK=>?_
 refine sa ?_
 refine s1 (bp (F:=ap.f bz) ax) ?_
 refine .nil (hK _ _ (AW.seq (rs hx fun K hK=>?_)))
 refine s1 (d:=dG ap bn) (aE (ao.id _ _) ax) ?_
 refine scb h io fun x1 h=>?_
 refine sa ?_
 refine .nil (hK _ _ (cdh h rfl (fun bo h=>?_) (fun bo h=>?_)))
 refine rs hx fun K hK=>?_
 refine scb h sX fun x4 h=>?_
 refine s0 (aO (b':=x4) (ao.id _ _) ax) ?_
 refine .nil (hK _ _ (AW.ret ?_))
 cases h
 exact rv1
 refine AW.skip (rs hx fun K hK=>?_)
 refine s1 (d:=dG ap bn) (aE (ao.id _ _) ax) ?_
 refine scb h kQ fun x6 h=>?_
 refine scb h mX fun x8 h=>?_
 refine s0 (aO (b':=x8) (ao.id _ _) ax) ?_
 refine .nil (hK _ _ (AW.ret ?_))
 cases h
 exact rv1
def gT(f8:List Int)(kE:Int):Option Int:=cnd (decide (kE<(0:Int))) (some (0:Int)) (bnd (c5 f8 kE) fun x2=>some x2)
theorem rJ {f8:List Int}{kE:Int}{r:Int}(h:gT f8 kE=some r):aC prog 175 [dL (cI .i64) f8,dI .i64 kE] (dI .i64 r):=by
 refine bQ (rs:=[.tmp 4]) (fun cx hx h0=>?_) func175
 unfold gT at h
 refine ra hx ?_
 refine AW.seq (ra hx ?_)
 refine cdh h rfl (fun cH h=>?_) (fun cH h=>?_)
 refine ra hx ?_
 refine AW.ret ?_
 cases h
 exact rv1
 refine AW.skip (rs hx fun K hK=>?_)
 iterate 2 refine sa ?_
 refine scb h fF fun x2 h=>?_
 refine sa ?_
 refine .nil (hK _ _ (AW.ret ?_))
 cases h
 exact rv1
def iC(aW:List Int)(a6:List Int)(aK:Int):Int×(List Int)→Option ((Int×(List Int))⊕((List Int))):=fun (gI,qM)=>cnd (decide (gI<((a6).length:Int))) (gd (0≤i64.wrap (aK+gI)∧i64.wrap (aK+gI)<(((i64.wrap ((i64.wrap (((aW).length:Int)+((a6).length:Int)))+(1:Int))).toNat:Nat):Int)∧i64.wrap (aK+gI)<((qM).length:Int)) (gd (0≤aK∧aK<((aW).length:Int)) (gd (0≤gI∧gI<((a6).length:Int)) (gd (0≤i64.wrap (aK+gI)∧i64.wrap (aK+gI)<(((i64.wrap ((i64.wrap (((aW).length:Int)+((a6).length:Int)))+(1:Int))).toNat:Nat):Int)∧i64.wrap (aK+gI)<((qM).length:Int)) (bnd (some ((qM).set ((i64.wrap (aK+gI)).toNat) (i64.wrap (((qM)[(i64.wrap (aK+gI)).toNat]!)+(i64.wrap (((aW)[(aK).toNat]!)*((a6)[(gI).toNat]!))))))) fun jA=>some (.inl (i64.wrap (gI+(1:Int)),jA))))))) (some (.inr qM))
def fS(aW:List Int)(a6:List Int):Int×Int×(List Int)→Option ((Int×Int×(List Int))⊕((List Int))):=fun (G6,nS,rE)=>cnd (decide (nS<(((i64.wrap ((i64.wrap (((aW).length:Int)+((a6).length:Int)))+(1:Int))).toNat:Nat):Int))) (gd (0≤nS∧nS<(((i64.wrap ((i64.wrap (((aW).length:Int)+((a6).length:Int)))+(1:Int))).toNat:Nat):Int)∧nS<((rE).length:Int)) (bnd (some (i64.wrap (((rE)[(nS).toNat]!)+G6))) fun pK=>gd (0≤nS∧nS<(((i64.wrap ((i64.wrap (((aW).length:Int)+((a6).length:Int)))+(1:Int))).toNat:Nat):Int)∧nS<((rE).length:Int)) (some (.inl (i64.wrap (Int.tdiv pK (65536:Int)),i64.wrap (nS+(1:Int)),(rE).set ((nS).toNat) (Int.tmod pK (65536:Int))))))) (some (.inr rE))
def jf(aW:List Int)(a6:List Int):Int×(List Int)→Option ((Int×(List Int))⊕((List Int))):=fun (aK,aS)=>cnd (decide (aK<((aW).length:Int))) (bnd (a7 (iC aW a6 aK) ((0:Int),aS)) fun wY=>bnd (a7 (fS aW a6) ((0:Int),(0:Int),wY)) fun wU=>some (.inl (i64.wrap (aK+(1:Int)),wU))) (some (.inr aS))
def ma(aW:List Int)(a6:List Int):Option (List Int):=gd (0≤i64.wrap ((i64.wrap (((aW).length:Int)+((a6).length:Int)))+(1:Int))∧i64.wrap ((i64.wrap (((aW).length:Int)+((a6).length:Int)))+(1:Int))≤1000000) (bnd (a7 (jf aW a6) ((0:Int),List.replicate (i64.wrap ((i64.wrap (((aW).length:Int)+((a6).length:Int)))+(1:Int))).toNat (0:Int))) fun aG=>gd ((i64.wrap ((i64.wrap (((aW).length:Int)+((a6).length:Int)))+(1:Int))).toNat=(aG).length) (bnd (eN aG) fun LP=>some LP))
theorem Ca {aW:List Int}{a6:List Int}{r:List Int}(h:ma aW a6=some r):aC prog 151 [dL (cI .i64) aW,dL (cI .i64) a6] (dL (cI .i64) r):=by
 refine bQ (rs:=[.tmp 4]) (fun cx hx h0=>?_) func151
 unfold ma at h
 refine rs hx fun K hK=>?_
 refine s1 (d:=dO 0 (cI .i64) ([]:List Int)) (ek bV aY) ?_
 refine .nil (hK _ _ (rs hx fun K hK=>?_))
 iterate 6 refine sa ?_
 obtain⟨JX,h⟩:=aD h
 refine q1 (sMk (c:=(cI .i64)) (z0:=(0:Int)) tok JX bV aY (by first|rfl|kernel_rfl)) ?_
 refine sa ?_
 refine .nil (hK _ _ (AW.seq (ra hx ?_)))
 refine AW.block ?_
 obtain⟨aG,hy,h⟩:=ah h
 refine lp (S:=Int×(List Int)) (X:=(List Int)) (fun (aK,aS)=>[(0,dL (cI .i64) aW),(1,dL (cI .i64) a6),(5,.ow 0 0 1 ((i64.wrap ((i64.wrap (((aW).length:Int)+((a6).length:Int)))+(1:Int))).toNat)),(6,dI .i64 aK)]) (fun (aK,aS)=>⟨[(0,dC ((cW (cI .i64)).f aS))],[],1⟩) (PE cx (.exit 0) (fun aG=>[(5,.ow 0 0 1 ((i64.wrap ((i64.wrap (((aW).length:Int)+((a6).length:Int)))+(1:Int))).toNat))]) fun aG=>⟨[(0,dC ((cW (cI .i64)).f aG))],[],1⟩) hy ?_ ?_ ?_
 exact wk h0 [1] (wR rfl (wR rfl (wR rfl (wR rfl wTn)))) (vC rfl wVn) wLn
 clear hy h
 rintro⟨aK,aS⟩ y h
 dsimp only[jf] at h
 refine AW.seq (ra hx ?_)
 refine cdh h rfl (fun ly h=>?_) (fun ly h=>?_)
 refine AW.skip (AW.seq (AW.block (AW.seq (ra hx ?_))))
 refine AW.block ?_
 obtain⟨wY,hy,h⟩:=ah h
 refine lp (S:=Int×(List Int)) (X:=(List Int)) (fun (gI,qM)=>[(0,dL (cI .i64) aW),(1,dL (cI .i64) a6),(5,.ow 0 0 1 ((i64.wrap ((i64.wrap (((aW).length:Int)+((a6).length:Int)))+(1:Int))).toNat)),(6,dI .i64 aK),(7,dI .i64 gI)]) (fun (gI,qM)=>⟨[(0,dC ((cW (cI .i64)).f qM))],[],1⟩) (PE cx (.exit 2) (fun wY=>[(0,dL (cI .i64) aW),(1,dL (cI .i64) a6),(5,.ow 0 0 1 ((i64.wrap ((i64.wrap (((aW).length:Int)+((a6).length:Int)))+(1:Int))).toNat)),(6,dI .i64 aK)]) fun wY=>⟨[(0,dC ((cW (cI .i64)).f wY))],[],1⟩) hy ?_ ?_ ?_
 exact wk h0 [0] (wR rfl (wR rfl (wR rfl (wR rfl (wR rfl wTn))))) (vC rfl wVn) wLn
 clear hy h
 rintro⟨gI,qM⟩ y h
 dsimp only[iC] at h
 refine AW.seq (ra hx ?_)
 refine cdh h rfl (fun bo h=>?_) (fun bo h=>?_)
 refine AW.skip (AW.seq (AW.block (rqd [] hx fun K hK=>?_)))
 iterate 8 refine sa ?_
 obtain⟨Fh,h⟩:=aD h
 have NH:(i64.wrap (aK+gI)).toNat<(qM).length:=by omega
 refine s1 (w5 ⟨Fh.1,Fh.2.1⟩ bV aY) ?_
 refine s1 (a4 (ao.seqW (cI .i64) qM ((i64.wrap (aK+gI)).toNat) NH) aY) ?_
 iterate 2 refine sa ?_
 obtain⟨hc6,h⟩:=aD h
 have hn7:(aK).toNat<(aW).length:=by omega
 refine s1 (gk hc6 bV aY) ?_
 refine s1 (oL (c:=(cI .i64)) (l:=aW) (n:=(aK).toNat) (o:=0) aY hn7) ?_
 iterate 2 refine sa ?_
 obtain⟨Ih,h⟩:=aD h
 have Ia:(gI).toNat<(a6).length:=by omega
 refine s1 (gk Ih bV aY) ?_
 refine s1 (oL (c:=(cI .i64)) (l:=a6) (n:=(gI).toNat) (o:=0) aY Ia) ?_
 iterate 2 refine sa ?_
 obtain⟨Gt,h⟩:=aD h
 have NM:(i64.wrap (aK+gI)).toNat<(qM).length:=by omega
 refine s1 (w5 ⟨Gt.1,Gt.2.1⟩ bV aY) ?_
 obtain⟨jA,vb,h⟩:=ah h
 replace vb:=cv vb
 refine s0 (T_stVw (b':=i64.wrap (((qM)[(i64.wrap (aK+gI)).toNat]!)+(i64.wrap (((aW)[(aK).toNat]!)*((a6)[(gI).toNat]!))))) (ao.seqW (cI .i64) qM ((i64.wrap (aK+gI)).toNat) NM) aY vb) ?_
 refine .nil (hK _ _ (rb hx ?_))
 cases h
 exact PS.l (pe0 h0 [0])
 refine AW.exit ?_
 try dsimp only
 try simp only[aN,reduceIte,Nat.reduceEqDiff,reduceCtorEq]
 cases h
 exact PS.r ⟨by nofun,PE.i (wk h0 [0] (wR rfl (wR rfl (wR rfl (wR rfl wTn)))) (vC rfl wVn) wLn)⟩
 rintro ex tm' hp' ⟨rfl,hw⟩
 try dsimp only
 try simp only[aN,reduceIte,Nat.reduceEqDiff,reduceCtorEq]
 refine AW.weak hw ?_
 iterate 2 refine ra hx ?_
 refine AW.block ?_
 obtain⟨wU,hy,h⟩:=ah h
 refine lp (S:=Int×Int×(List Int)) (X:=(List Int)) (fun (G6,nS,rE)=>[(0,dL (cI .i64) aW),(1,dL (cI .i64) a6),(5,.ow 0 0 1 ((i64.wrap ((i64.wrap (((aW).length:Int)+((a6).length:Int)))+(1:Int))).toNat)),(6,dI .i64 aK),(8,dI .i64 G6),(9,dI .i64 nS)]) (fun (G6,nS,rE)=>⟨[(0,dC ((cW (cI .i64)).f rE))],[],1⟩) (PE cx (.exit 4) (fun wU=>[(0,dL (cI .i64) aW),(1,dL (cI .i64) a6),(5,.ow 0 0 1 ((i64.wrap ((i64.wrap (((aW).length:Int)+((a6).length:Int)))+(1:Int))).toNat)),(6,dI .i64 aK)]) fun wU=>⟨[(0,dC ((cW (cI .i64)).f wU))],[],1⟩) hy ?_ ?_ ?_
 exact wk h0 [0] (wR rfl (wR rfl (wR rfl (wR rfl (wR rfl (wR rfl wTn)))))) (vC rfl wVn) wLn
 clear hy h
 rintro⟨G6,nS,rE⟩ y h
 dsimp only[fS] at h
 refine AW.seq (ra hx ?_)
 refine cdh h rfl (fun qS h=>?_) (fun qS h=>?_)
 refine AW.skip (AW.seq (AW.block (rs hx fun K hK=>?_)))
 iterate 2 refine sa ?_
 obtain⟨Gs,h⟩:=aD h
 have Ib:(nS).toNat<(rE).length:=by omega
 refine s1 (w5 ⟨Gs.1,Gs.2.1⟩ bV aY) ?_
 refine s1 (a4 (ao.seqW (cI .i64) rE ((nS).toNat) Ib) aY) ?_
 iterate 2 refine sa ?_
 obtain⟨pK,xR,h⟩:=ah h
 replace xR:=cv xR
 refine s2 (d2:=dI .i64 pK) kO (fR (congrArg (dI .i64) xR)) ?_
 refine .nil (hK _ _ (rs hx fun K hK=>?_))
 iterate 4 refine sa ?_
 obtain⟨Ln,h⟩:=aD h
 have NJ:(nS).toNat<(rE).length:=by omega
 refine s1 (w5 ⟨Ln.1,Ln.2.1⟩ bV aY) ?_
 refine s0 (aO (b':=Int.tmod pK (65536:Int)) (ao.seqW (cI .i64) rE ((nS).toNat) NJ) aY) ?_
 refine .nil (hK _ _ ?_)
 iterate 2 refine rb hx ?_
 cases h
 exact PS.l (pe0 h0 [0])
 refine AW.exit ?_
 try dsimp only
 try simp only[aN,reduceIte,Nat.reduceEqDiff,reduceCtorEq]
 cases h
 exact PS.r ⟨by nofun,PE.i (wk h0 [0] (wR rfl (wR rfl (wR rfl (wR rfl wTn)))) (vC rfl wVn) wLn)⟩
 rintro ex tm' hp' ⟨rfl,hw⟩
 try dsimp only
 try simp only[aN,reduceIte,Nat.reduceEqDiff,reduceCtorEq]
 refine AW.weak hw (rb hx ?_)
 cases h
 exact PS.l (pe0 h0 [0])
 refine AW.exit ?_
 try dsimp only
 try simp only[aN,reduceIte,Nat.reduceEqDiff,reduceCtorEq]
 cases h
 exact PS.r ⟨by nofun,PE.i (wk h0 [0] (wR rfl wTn) (vC rfl wVn) wLn)⟩
 rintro ex tm' hp' ⟨rfl,hw⟩
 try dsimp only
 try simp only[aN,reduceIte,Nat.reduceEqDiff,reduceCtorEq]
 refine AW.weak hw (rs hx fun K hK=>?_)
 refine sa ?_
 obtain⟨N7,h⟩:=aD h
 refine fzO (cI .i64) (n:=(i64.wrap ((i64.wrap (((aW).length:Int)+((a6).length:Int)))+(1:Int))).toNat) 0 [5,70] N7 ?_ (all2 rfl (all1 rfl))
 refine scb h jF fun LP h=>?_
 refine sa ?_
 refine .nil (hK _ _ (AW.ret ?_))
 cases h
 exact rv1
def j3(aW:List Int)(a6:List Int):Int→Option (Int⊕(Bool⊕Unit)):=fun aV=>cnd (decide ((0:Int)≤aV)) (bnd (c5 aW aV) fun x4=>bnd (c5 a6 aV) fun x6=>cnd (decide (x4≠x6)) (bnd (c5 aW aV) fun x9=>bnd (c5 a6 aV) fun om=>some (.inr (.inl (decide (x9<om))))) (some (.inl (i64.wrap (aV - (1:Int)))))) (some (.inr (.inr ())))
def nk(aW:List Int)(a6:List Int):Option Bool:=bnd (some (i64.wrap ((max ((aW).length:Int) ((a6).length:Int)) - (1:Int)))) fun x1=>bnd (a7 (j3 aW a6) x1) fun y13=>match y13 with| .inl r=>some r| .inr ()=>some false
theorem DA {aW:List Int}{a6:List Int}{r:Bool}(h:nk aW a6=some r):aC prog 171 [dL (cI .i64) aW,dL (cI .i64) a6] (dB r):=by
 refine bQ (rs:=[.tmp 4]) (fun cx hx h0=>?_) func171
 unfold nk at h
 refine ra hx ?_
 refine AW.seq (rs hx fun K hK=>?_)
 iterate 6 refine sa ?_
 obtain⟨x1,zw,h⟩:=ah h
 replace zw:=cv zw
 refine s2 (d2:=dI .i64 x1) kO (fR (congrArg (dI .i64) zw)) ?_
 refine .nil (hK _ _ (AW.block ?_))
 obtain⟨y,hy,h⟩:=ah h
 refine lp (S:=Int) (X:=Bool⊕Unit) (fun aV=>[(0,dL (cI .i64) aW),(1,dL (cI .i64) a6),(5,dI .i64 aV)]) (fun aV=>⟨[],[],0⟩) (PS (PR [.tmp 4] fun r=>dB r) (PE cx (.exit 0) (fun ()=>[]) fun ()=>⟨[],[],0⟩)) hy ?_ ?_ ?_
 exact wk h0 [] (wR rfl (wR rfl (wR rfl wTn))) wVn wLn
 clear hy h
 rintro aV y h
 dsimp only[j3] at h
 refine AW.seq (ra hx ?_)
 refine cdh h rfl (fun bo h=>?_) (fun bo h=>?_)
 refine AW.skip (AW.seq (AW.block (rs hx fun K hK=>?_)))
 iterate 2 refine sa ?_
 refine scb h fF fun x4 h=>?_
 iterate 2 refine sa ?_
 refine scb h fF fun x6 h=>?_
 refine sa ?_
 refine .nil (hK _ _ (cdh h rfl (fun qD h=>?_) (fun qD h=>?_)))
 refine rs hx fun K hK=>?_
 iterate 2 refine sa ?_
 refine scb h fF fun x9 h=>?_
 iterate 2 refine sa ?_
 refine scb h fF fun om h=>?_
 iterate 2 refine sa ?_
 refine .nil (hK _ _ (AW.ret ?_))
 cases h
 refine PS.r ⟨by nofun,PS.l (PR.i ?_)⟩
 exact rv1
 refine AW.skip (rb hx ?_)
 cases h
 exact PS.l (pe0 h0 [])
 refine AW.exit ?_
 try dsimp only
 try simp only[aN,reduceIte,Nat.reduceEqDiff,reduceCtorEq]
 cases h
 exact PS.r ⟨by nofun,PS.r (PE.i (wk h0 [] wTn wVn wLn))⟩
 rcases y with r|⟨⟩
 rintro ex tm' hp' ⟨rfl,hw⟩
 cases h
 exact hw
 rintro ex tm' hp' ⟨rfl,hw⟩
 try dsimp only
 try simp only[aN,reduceIte,Nat.reduceEqDiff,reduceCtorEq]
 refine AW.weak hw (ra hx ?_)
 refine AW.ret ?_
 cases h
 exact rv1
def iD(aW:List Int)(a6:List Int):(List Int)×Int×Int→Option (((List Int)×Int×Int)⊕((List Int))):=fun (cR,bq,dA)=>cnd (decide (dA<((aW).length:Int))) (gd (0≤dA∧dA<((aW).length:Int)) (bnd (c5 a6 dA) fun x4=>bnd (some (i64.wrap ((i64.wrap (((aW)[(dA).toNat]!) - x4)) - bq))) fun x6=>bnd (S:=Int×Int) (cnd (decide (x6<(0:Int))) (some (((1:Int),i64.wrap (x6+(65536:Int))))) (some (((0:Int),x6)))) fun (fW,pl)=>gd ((cR++[pl]).length*8≤140737488355328) (some (.inl (cR++[pl],fW,i64.wrap (dA+(1:Int))))))) (some (.inr cR))
def ke(aW:List Int)(a6:List Int):Option (List Int):=bnd (a7 (iD aW a6) (([]:List Int),(0:Int),(0:Int))) fun bY=>bnd (eN bY) fun jA=>some jA
theorem uw {aW:List Int}{a6:List Int}{r:List Int}(h:ke aW a6=some r):aC prog 172 [dL (cI .i64) aW,dL (cI .i64) a6] (dL (cI .i64) r):=by
 refine bQ (rs:=[.tmp 4]) (fun cx hx h0=>?_) func172
 unfold ke at h
 refine rs hx fun K hK=>?_
 refine s1 (d:=dO 0 (cI .i64) ([]:List Int)) (ek bV aY) ?_
 refine .nil (hK _ _ (rs hx fun K hK=>?_))
 refine s1 (d:=dO 1 (cI .i64) ([]:List Int)) (ek bV aY) ?_
 refine .nil (hK _ _ (ra hx ?_))
 refine AW.seq (ra hx ?_)
 refine AW.block ?_
 obtain⟨bY,hy,h⟩:=ah h
 refine lp (S:=(List Int)×Int×Int) (X:=(List Int)) (fun (cR,bq,dA)=>[(0,dL (cI .i64) aW),(1,dL (cI .i64) a6),(5,dO 0 (cI .i64) cR),(6,dI .i64 bq),(7,dI .i64 dA)]) (fun (cR,bq,dA)=>⟨[],[(0,(cR).length,1,3)],1⟩) (PE cx (.exit 0) (fun bY=>[(5,dO 0 (cI .i64) bY)]) fun bY=>⟨[],[(0,(bY).length,1,3)],1⟩) hy ?_ ?_ ?_
 exact wk h0 [1] (wR rfl (wR rfl (wR rfl (wR rfl (wR rfl wTn))))) wVn (wL rfl rfl wLn)
 clear hy h
 rintro⟨cR,bq,dA⟩ y h
 dsimp only[iD] at h
 refine AW.seq (ra hx ?_)
 refine cdh h rfl (fun cH h=>?_) (fun cH h=>?_)
 refine AW.skip (AW.seq (AW.block (rsd [158] hx fun K hK=>?_)))
 iterate 2 refine sa ?_
 obtain⟨nb,h⟩:=aD h
 have p8:(dA).toNat<(aW).length:=by omega
 refine s1 (gk nb bV aY) ?_
 refine s1 (oL (c:=(cI .i64)) (l:=aW) (n:=(dA).toNat) (o:=0) aY p8) ?_
 iterate 2 refine sa ?_
 refine cqb h fF fun x4 h=>?_
 iterate 3 refine sa ?_
 obtain⟨x6,sO,h⟩:=ah h
 replace sO:=cv sO
 refine s2 (d2:=dI .i64 x6) kO (fR (congrArg (dI .i64) sO)) ?_
 refine .nil (hK _ _ (ra hx ?_))
 refine AW.seq ?_
 obtain⟨y,hy,h⟩:=ah h
 refine jn ((PE cx .normal (fun (fW,pl)=>[(0,dL (cI .i64) aW),(1,dL (cI .i64) a6),(5,dO 0 (cI .i64) cR),(6,dI .i64 fW),(7,dI .i64 dA),(8,dI .i64 pl)]) fun (fW,pl)=>⟨[],[(0,(cR).length,1,3)],1⟩) y) ?_ ?_
 replace h:=hy
 refine ra hx ?_
 refine cdh h rfl (fun qD h=>?_) (fun qD h=>?_)
 refine ra hx ?_
 refine rb hx ?_
 cases h
 exact pe0 h0 [0]
 refine AW.skip ?_
 cases h
 exact pe0 h0 [0]
 obtain⟨fW,pl⟩:=y
 rintro ex tm' hp' ⟨rfl,hw⟩
 refine AW.weak hw (rq hx fun K hK=>?_)
 iterate 2 refine sa ?_
 refine s1 (d:=dO 1 (cI .i64) [pl]) (iW bV aY) ?_
 obtain⟨Gt,h⟩:=aD h
 refine s1 (d:=dO 0 (cI .i64) (cR++[pl])) (iT bV aY Gt) ?_
 refine sa ?_
 refine .nil (hK _ _ (rb hx ?_))
 cases h
 exact PS.l (pe0 h0 [0])
 refine AW.exit ?_
 try dsimp only
 try simp only[aN,reduceIte,Nat.reduceEqDiff,reduceCtorEq]
 cases h
 exact PS.r ⟨by nofun,PE.i (wk h0 [0] (wR rfl wTn) wVn (wL rfl rfl wLn))⟩
 rintro ex tm' hp' ⟨rfl,hw⟩
 try dsimp only
 try simp only[aN,reduceIte,Nat.reduceEqDiff,reduceCtorEq]
 refine AW.weak hw (rs hx fun K hK=>?_)
 refine sa ?_
 refine scb h jF fun jA h=>?_
 refine sa ?_
 refine .nil (hK _ _ (AW.ret ?_))
 cases h
 exact rv1
def gR(a6:List Int)(pL:List Int):Int×(List Int)→Option ((Int×(List Int))⊕(Int×(List Int))):=fun (mi,BI)=>bnd (nk pL BI) fun w9=>cnd w9 (bnd (ke BI a6) fun zY=>some (.inl (i64.wrap (mi - (1:Int)),zY))) (some (.inr (mi,BI)))
def gS(aW:List Int)(a6:List Int)(x6:Int):(List Int)×Int×(List Int)→Option (((List Int)×Int×(List Int))⊕((List Int)×(List Int))):=fun (c6,lR,tN)=>cnd (decide ((0:Int)≤lR)) (gd (0≤lR∧lR<((aW).length:Int)) (gd (([(aW)[(lR).toNat]!]++c6).length*8≤140737488355328) (bnd (eN ([(aW)[(lR).toNat]!]++c6)) fun pL=>bnd (gT pL ((a6).length:Int)) fun zj=>bnd (gT pL (i64.wrap (((a6).length:Int) - (1:Int)))) fun pK=>bnd (gT pL (i64.wrap (((a6).length:Int) - (2:Int)))) fun xa=>gd (x6≠0) (bnd (some (min (65535:Int) (i64.wrap (Int.tdiv (i64.wrap ((i64.wrap ((i64.wrap (zj*(4294967296:Int)))+(i64.wrap (pK*(65536:Int)))))+xa)) x6)))) fun Fa=>bnd (ma a6 [Fa]) fun LP=>bnd (a7 (gR a6 pL) (Fa,LP)) fun (ua,wX)=>gd (0≤lR∧lR<(((((aW).length:Int)).toNat:Nat):Int)∧lR<((tN).length:Int)) (bnd (ke pL wX) fun x35=>some (.inl (x35,i64.wrap (lR - (1:Int)),(tN).set ((lR).toNat) ua))))))) (some (.inr (c6,tN)))
def jh(aW:List Int)(a6:List Int):Option ((List Int)×(List Int)):=gd (0≤((aW).length:Int)∧((aW).length:Int)≤1000000) (gd (0≤i64.wrap (((a6).length:Int) - (1:Int))∧i64.wrap (((a6).length:Int) - (1:Int))<((a6).length:Int)) (bnd (gT a6 (i64.wrap (((a6).length:Int) - (2:Int)))) fun x4=>bnd (some (i64.wrap ((i64.wrap (((a6)[(i64.wrap (((a6).length:Int) - (1:Int))).toNat]!)*(65536:Int)))+x4))) fun x6=>bnd (some (i64.wrap (((aW).length:Int) - (1:Int)))) fun x8=>bnd (a7 (gS aW a6 x6) (([]:List Int),x8,List.replicate (((aW).length:Int)).toNat (0:Int))) fun (wZ,uc)=>gd ((((aW).length:Int)).toNat=(uc).length) (bnd (eN uc) fun Ds=>some (Ds,wZ))))
theorem z8 {aW:List Int}{a6:List Int}{r:(List Int)×(List Int)}(h:jh aW a6=some r):aC prog 154 [dL (cI .i64) aW,dL (cI .i64) a6] (.tu [dL (cI .i64) r.1,dL (cI .i64) r.2]):=by
 refine bQ (rs:=[.tmp 4,.tmp 5]) (fun cx hx h0=>?_) func154
 unfold jh at h
 refine rs hx fun K hK=>?_
 refine s1 (d:=dO 0 (cI .i64) ([]:List Int)) (ek bV aY) ?_
 refine s1 (d:=dO 1 (cI .i64) ([]:List Int)) (ek bV aY) ?_
 refine .nil (hK _ _ (rs hx fun K hK=>?_))
 iterate 2 refine sa ?_
 obtain⟨JX,h⟩:=aD h
 refine q1 (sMk (c:=(cI .i64)) (z0:=(0:Int)) tok JX bV aY (by first|rfl|kernel_rfl)) ?_
 refine sa ?_
 refine .nil (hK _ _ (ra hx ?_))
 refine rsd [175] hx fun K hK=>?_
 iterate 3 refine sa ?_
 obtain⟨nb,h⟩:=aD h
 have p8:(i64.wrap (((a6).length:Int) - (1:Int))).toNat<(a6).length:=by omega
 refine s1 (gk nb bV aY) ?_
 refine s1 (oL (c:=(cI .i64)) (l:=a6) (n:=(i64.wrap (((a6).length:Int) - (1:Int))).toNat) (o:=0) aY p8) ?_
 iterate 4 refine sa ?_
 refine cqb h rJ fun x4 h=>?_
 refine sa ?_
 obtain⟨x6,sO,h⟩:=ah h
 replace sO:=cv sO
 refine s2 (d2:=dI .i64 x6) kO (fR (congrArg (dI .i64) sO)) ?_
 refine .nil (hK _ _ (rs hx fun K hK=>?_))
 refine s1 (d:=dO 3 (cI .i64) ([]:List Int)) (ek bV aY) ?_
 refine .nil (hK _ _ (AW.seq (rs hx fun K hK=>?_)))
 iterate 3 refine sa ?_
 obtain⟨x8,LR,h⟩:=ah h
 replace LR:=cv LR
 refine s2 (d2:=dI .i64 x8) kO (fR (congrArg (dI .i64) LR)) ?_
 refine .nil (hK _ _ (AW.block ?_))
 obtain⟨y,hy,h⟩:=ah h
 refine lp (S:=(List Int)×Int×(List Int)) (X:=(List Int)×(List Int)) (fun (c6,lR,tN)=>[(0,dL (cI .i64) aW),(1,dL (cI .i64) a6),(6,.ow 0 0 1 ((((aW).length:Int)).toNat)),(7,dI .i64 ((a6).length:Int)),(8,dI .i64 x6),(9,dL (cI .i64) c6),(10,dI .i64 lR)]) (fun (c6,lR,tN)=>⟨[(0,dC ((cW (cI .i64)).f tN))],[],1⟩) (PE cx (.exit 0) (fun (wZ,uc)=>[(6,.ow 0 0 1 ((((aW).length:Int)).toNat)),(9,dL (cI .i64) wZ)]) fun (wZ,uc)=>⟨[(0,dC ((cW (cI .i64)).f uc))],[],1⟩) hy ?_ ?_ ?_
 exact wk h0 [2] (wR rfl (wR rfl (wR rfl (wR rfl (wR rfl (wT rfl (qC _) rfl rfl (wR rfl wTn))))))) (vC rfl wVn) wLn
 clear hy h
 rintro⟨c6,lR,tN⟩ y h
 dsimp only[gS] at h
 refine AW.seq (ra hx ?_)
 refine cdh h rfl (fun fa h=>?_) (fun fa h=>?_)
 refine AW.skip (AW.seq (AW.block (rs hx fun K hK=>?_)))
 iterate 2 refine sa ?_
 obtain⟨Ij,h⟩:=aD h
 have NL:(lR).toNat<(aW).length:=by omega
 refine s1 (gk Ij bV aY) ?_
 refine s1 (oL (c:=(cI .i64)) (l:=aW) (n:=(lR).toNat) (o:=0) aY NL) ?_
 refine s1 (d:=dO 1 (cI .i64) [(aW)[(lR).toNat]!]) (iW bV aY) ?_
 refine sa ?_
 obtain⟨hc13,h⟩:=aD h
 refine s1 (d:=dO 1 (cI .i64) ([(aW)[(lR).toNat]!]++c6)) (iT bV aY hc13) ?_
 refine scb h jF fun pL h=>?_
 refine sa ?_
 refine .nil (hK _ _ (rs hx fun K hK=>?_))
 iterate 2 refine sa ?_
 refine scb h rJ fun zj h=>?_
 iterate 4 refine sa ?_
 refine scb h rJ fun pK h=>?_
 iterate 5 refine sa ?_
 refine scb h rJ fun xa h=>?_
 iterate 2 refine sa ?_
 obtain⟨Eb,h⟩:=aD h
 refine s1 (G7 Eb) ?_
 refine sa ?_
 obtain⟨Fa,hx24,h⟩:=ah h
 replace hx24:=cv hx24
 refine s2 (d2:=dI .i64 Fa) kO (fR (congrArg (dI .i64) hx24)) ?_
 refine .nil (hK _ _ (rs hx fun K hK=>?_))
 iterate 2 refine sa ?_
 refine s1 (d:=dO 2 (cI .i64) [Fa]) (iW bV aY) ?_
 refine scb h Ca fun LP h=>?_
 refine sa ?_
 refine .nil (hK _ _ (AW.seq (AW.block ?_)))
 obtain⟨y,hy,h⟩:=ah h
 refine lp (S:=Int×(List Int)) (X:=Int×(List Int)) (fun (mi,BI)=>[(0,dL (cI .i64) aW),(1,dL (cI .i64) a6),(6,.ow 0 0 1 ((((aW).length:Int)).toNat)),(7,dI .i64 ((a6).length:Int)),(8,dI .i64 x6),(9,dL (cI .i64) pL),(10,dI .i64 lR),(11,dI .i64 mi),(12,dL (cI .i64) BI)]) (fun (mi,BI)=>⟨[(0,dC ((cW (cI .i64)).f tN))],[],1⟩) (PE cx (.exit 2) (fun (ua,wX)=>[(0,dL (cI .i64) aW),(1,dL (cI .i64) a6),(6,.ow 0 0 1 ((((aW).length:Int)).toNat)),(7,dI .i64 ((a6).length:Int)),(8,dI .i64 x6),(9,dL (cI .i64) pL),(10,dI .i64 lR),(11,dI .i64 ua),(12,dL (cI .i64) wX)]) fun (ua,wX)=>⟨[(0,dC ((cW (cI .i64)).f tN))],[],1⟩) hy ?_ ?_ ?_
 exact wk h0 [0] (wR rfl (wR rfl (wR rfl (wR rfl (wR rfl (wR rfl (wR rfl (wR rfl (wR rfl wTn))))))))) (vC rfl wVn) wLn
 clear hy h
 rintro⟨mi,BI⟩ y h
 dsimp only[gR] at h
 refine AW.seq (rs hx fun K hK=>?_)
 iterate 2 refine sa ?_
 refine scb h DA fun w9 h=>?_
 refine .nil (hK _ _ (cdh h rfl (fun hb29 h=>?_) (fun hb29 h=>?_)))
 refine AW.skip (AW.block (ra hx ?_))
 refine rq hx fun K hK=>?_
 iterate 2 refine sa ?_
 refine scb h uw fun zY h=>?_
 refine sa ?_
 refine .nil (hK _ _ ?_)
 cases h
 exact PS.l (pe0 h0 [0])
 refine AW.exit ?_
 try dsimp only
 try simp only[aN,reduceIte,Nat.reduceEqDiff,reduceCtorEq]
 cases h
 exact PS.r ⟨by nofun,PE.i (wk h0 [0] (wR rfl (wR rfl (wR rfl (wR rfl (wR rfl (wR rfl (wR rfl (wR rfl (wR rfl wTn))))))))) (vC rfl wVn) wLn)⟩
 obtain⟨ua,wX⟩:=y
 rintro ex tm' hp' ⟨rfl,hw⟩
 try dsimp only
 try simp only[aN,reduceIte,Nat.reduceEqDiff,reduceCtorEq]
 refine AW.weak hw (rs hx fun K hK=>?_)
 iterate 3 refine sa ?_
 obtain⟨hc33,h⟩:=aD h
 have hn34:(lR).toNat<(tN).length:=by omega
 refine s1 (w5 ⟨hc33.1,hc33.2.1⟩ bV aY) ?_
 refine s0 (aO (b':=ua) (ao.seqW (cI .i64) tN ((lR).toNat) hn34) aY) ?_
 refine .nil (hK _ _ (rq hx fun K hK=>?_))
 iterate 2 refine sa ?_
 refine scb h uw fun x35 h=>?_
 refine sa ?_
 refine .nil (hK _ _ (rb hx ?_))
 cases h
 exact PS.l (pe0 h0 [0])
 refine AW.exit ?_
 try dsimp only
 try simp only[aN,reduceIte,Nat.reduceEqDiff,reduceCtorEq]
 cases h
 exact PS.r ⟨by nofun,PE.i (wk h0 [0] (wR rfl (wR rfl wTn)) (vC rfl wVn) wLn)⟩
 obtain⟨wZ,uc⟩:=y
 rintro ex tm' hp' ⟨rfl,hw⟩
 try dsimp only
 try simp only[aN,reduceIte,Nat.reduceEqDiff,reduceCtorEq]
 refine AW.weak hw (rs hx fun K hK=>?_)
 refine sa ?_
 obtain⟨hc38,h⟩:=aD h
 refine fzO (cI .i64) (n:=(((aW).length:Int)).toNat) 0 [6,81] hc38 ?_ (all2 rfl (all1 rfl))
 refine scb h jF fun Ds h=>?_
 iterate 3 refine sa ?_
 refine .nil (hK _ _ (AW.ret ?_))
 cases h
 exact rv2
def ik :Int×Int→Option ((Int×Int)⊕Int):=fun (mP,zi)=>cnd (decide (zi≠(0:Int))) (gd (zi≠0) (some (.inl (zi,Int.tmod mP zi)))) (some (.inr mP))
def ij :(List Int)×(List Int)→Option (((List Int)×(List Int))⊕((List Int))):=fun (Dk,BF)=>cnd (decide ((0:Int)<((BF).length:Int))) (bnd (jh Dk BF) fun xc=>some (.inl (BF,xc.2))) (some (.inr Dk))
def oF(aW:aq)(a6:aq):Option aq:=bnd (lG aW) fun x1=>bnd (lG a6) fun x3=>bnd (S:=Bool) (cnd x1.2 (some (x3.2)) (some (false))) fun aK=>cnd aK (bnd (a7 (ik) (x1.1,x3.1)) fun w4=>bnd (n3 w4) fun om=>bnd (oG om) fun qv=>some qv) (bnd (S:=Bool) (bnd (da aW) fun ul=>cnd (!ul) (some (true)) (bnd (da a6) fun pK=>some (!pK))) fun mi=>cnd mi (bnd (lj) fun sL=>some sL) (bnd (d7 aW) fun vT=>bnd (d7 a6) fun KO=>bnd (a7 (ij) (vT,KO)) fun wQ=>bnd (eO false wQ) fun x32=>some x32))
theorem Ft {aW:aq}{a6:aq}{r:aq}(h:oF aW a6=some r):aC prog 120 [dG ap aW,dG ap a6] (dG ap r):=by
 refine bQ (rs:=[.cell 4 32]) (fun cx hx h0=>?_) func120
 unfold oF at h
 refine rs hx fun K hK=>?_
 iterate 2 refine sa ?_
 refine s1 (bp (F:=ap.f bz) ax) ?_
 refine .nil (hK _ _ (rs hx fun K hK=>?_))
 refine s1 (d:=dG ap aW) (aE (ao.id _ _) ax) ?_
 refine scb h v6 fun x1 h=>?_
 iterate 5 refine sa ?_
 refine .nil (hK _ _ (rs hx fun K hK=>?_))
 refine s1 (d:=dG ap a6) (aE (ao.id _ _) ax) ?_
 refine scb h v6 fun x3 h=>?_
 iterate 5 refine sa ?_
 refine .nil (hK _ _ ?_)
 iterate 2 refine AW.seq ?_
 obtain⟨aK,hy,h⟩:=ah h
 refine jn ((PE cx .normal (fun aK=>[(2,.pt 0 0),(3,.pt 1 0),(4,.pt 2 0),(5,dI .i64 x1.1),(7,dI .i64 x3.1),(27,dB aK)]) fun aK=>⟨[(0,dC (ap.f aW)),(1,dC (ap.f a6)),(2,dC (ap.f bz))],[],3⟩) aK) ?_ ?_
 replace h:=hy
 refine rq hx fun K hK=>?_
 iterate 2 refine sa ?_
 rcases aX x1.2 with oT|oT
 replace h:=aZ oT h
 refine ga oT ?_
 refine s1 (al oT) ?_
 refine .nil (hK _ _ ?_)
 cases h
 exact pe0 h0 [0,1,2]
 replace h:=a3 oT h
 refine aH rfl rfl oT ?_
 refine s1 (au oT) ?_
 refine .nil (hK _ _ ?_)
 cases h
 exact pe0 h0 [0,1,2]
 rintro ex tm' hp' ⟨rfl,hw⟩
 refine AW.weak hw (cdh h rfl (fun xY h=>?_) (fun xY h=>?_))
 refine AW.seq (AW.block ?_)
 obtain⟨w4,hy,h⟩:=ah h
 refine lp (S:=Int×Int) (X:=Int) (fun (mP,zi)=>[(4,.pt 0 0),(5,dI .i64 mP),(7,dI .i64 zi)]) (fun (mP,zi)=>⟨[(0,dC (ap.f bz))],[],1⟩) (PE cx (.exit 0) (fun w4=>[(4,.pt 0 0),(5,dI .i64 w4)]) fun w4=>⟨[(0,dC (ap.f bz))],[],1⟩) hy ?_ ?_ ?_
 exact wk h0 [2] (wR rfl (wR rfl (wR rfl wTn))) (vC rfl wVn) wLn
 clear hy h
 rintro⟨mP,zi⟩ y h
 dsimp only[ik] at h
 refine AW.seq (ra hx ?_)
 refine cdh h rfl (fun qD h=>?_) (fun qD h=>?_)
 refine AW.skip (AW.block (rs hx fun K hK=>?_))
 iterate 2 refine sa ?_
 obtain⟨hc9,h⟩:=aD h
 refine s1 (Dp hc9) ?_
 refine sa ?_
 refine .nil (hK _ _ (ra hx ?_))
 refine rb hx ?_
 cases h
 exact PS.l (pe0 h0 [0])
 refine AW.exit ?_
 try dsimp only
 try simp only[aN,reduceIte,Nat.reduceEqDiff,reduceCtorEq]
 cases h
 exact PS.r ⟨by nofun,PE.i (wk h0 [0] (wR rfl (wR rfl wTn)) (vC rfl wVn) wLn)⟩
 rintro ex tm' hp' ⟨rfl,hw⟩
 try dsimp only
 try simp only[aN,reduceIte,Nat.reduceEqDiff,reduceCtorEq]
 refine AW.weak hw (rs hx fun K hK=>?_)
 refine sa ?_
 refine scb h z9 fun om h=>?_
 refine scb h Fu fun qv h=>?_
 refine s0 (aO (b':=qv) (ao.id _ _) ax) ?_
 refine .nil (hK _ _ (AW.ret ?_))
 cases h
 exact rv1
 refine AW.skip ?_
 iterate 2 refine AW.seq ?_
 obtain⟨mi,hy,h⟩:=ah h
 refine jn ((PE cx .normal (fun mi=>[(2,.pt 0 0),(3,.pt 1 0),(4,.pt 2 0),(45,dB mi)]) fun mi=>⟨[(0,dC (ap.f aW)),(1,dC (ap.f a6)),(2,dC (ap.f bz))],[],3⟩) mi) ?_ ?_
 replace h:=hy
 refine rq hx fun K hK=>?_
 refine s1 (d:=dG ap aW) (aE (ao.id _ _) ax) ?_
 refine scb h io fun ul h=>?_
 iterate 2 refine sa ?_
 rcases aX (!ul) with tr|tr
 replace h:=aZ tr h
 iterate 3 refine aH rfl rfl tr ?_
 refine s1 (al tr) ?_
 refine .nil (hK _ _ ?_)
 cases h
 exact pe0 h0 [0,1,2]
 replace h:=a3 tr h
 refine g1 (d:=dG ap a6) tr (aE (ao.id _ _) ax) ?_
 obtain⟨pK,xR,h⟩:=ah h
 refine g1 tr (eC rfl (io xR) (by simp only[cp,dh,jy,fO,dX,dW];exact bc _ _) (lA (fm _ _) lAn) (.inl rfl)) ?_
 refine ga tr ?_
 refine s1 (au tr) ?_
 refine .nil (hK _ _ ?_)
 cases h
 exact pe0 h0 [0,1,2]
 rintro ex tm' hp' ⟨rfl,hw⟩
 refine AW.weak hw (cdh h rfl (fun Ef h=>?_) (fun Ef h=>?_))
 refine rs hx fun K hK=>?_
 refine scb h sX fun sL h=>?_
 refine s0 (aO (b':=sL) (ao.id _ _) ax) ?_
 refine .nil (hK _ _ (AW.ret ?_))
 cases h
 exact rv1
 refine AW.skip (rs hx fun K hK=>?_)
 refine s1 (d:=dG ap aW) (aE (ao.id _ _) ax) ?_
 refine scb h kQ fun vT h=>?_
 refine sa ?_
 refine .nil (hK _ _ (rs hx fun K hK=>?_))
 refine s1 (d:=dG ap a6) (aE (ao.id _ _) ax) ?_
 refine scb h kQ fun KO h=>?_
 refine sa ?_
 refine .nil (hK _ _ (AW.seq (AW.block ?_)))
 obtain⟨wQ,hy,h⟩:=ah h
 refine lp (S:=(List Int)×(List Int)) (X:=(List Int)) (fun (Dk,BF)=>[(4,.pt 0 0),(10,dL (cI .i64) Dk),(11,dL (cI .i64) BF)]) (fun (Dk,BF)=>⟨[(0,dC (ap.f bz))],[],1⟩) (PE cx (.exit 2) (fun wQ=>[(4,.pt 0 0),(10,dL (cI .i64) wQ)]) fun wQ=>⟨[(0,dC (ap.f bz))],[],1⟩) hy ?_ ?_ ?_
 exact wk h0 [2] (wR rfl (wR rfl (wR rfl wTn))) (vC rfl wVn) wLn
 clear hy h
 rintro⟨Dk,BF⟩ y h
 dsimp only[ij] at h
 refine AW.seq (ra hx ?_)
 refine cdh h rfl (fun hb28 h=>?_) (fun hb28 h=>?_)
 refine AW.skip (AW.block (rs hx fun K hK=>?_))
 iterate 2 refine sa ?_
 refine scb h z8 fun xc h=>?_
 iterate 5 refine sa ?_
 refine .nil (hK _ _ (ra hx ?_))
 refine rb hx ?_
 cases h
 exact PS.l (pe0 h0 [0])
 refine AW.exit ?_
 try dsimp only
 try simp only[aN,reduceIte,Nat.reduceEqDiff,reduceCtorEq]
 cases h
 exact PS.r ⟨by nofun,PE.i (wk h0 [0] (wR rfl (wR rfl wTn)) (vC rfl wVn) wLn)⟩
 rintro ex tm' hp' ⟨rfl,hw⟩
 try dsimp only
 try simp only[aN,reduceIte,Nat.reduceEqDiff,reduceCtorEq]
 refine AW.weak hw (rs hx fun K hK=>?_)
 refine sa ?_
 refine scb h mX fun x32 h=>?_
 refine s0 (aO (b':=x32) (ao.id _ _) ax) ?_
 refine .nil (hK _ _ (AW.ret ?_))
 cases h
 exact rv1
def nl(bn:aq):Option Int:=bnd (S:=Bool) (bnd (da bn) fun x1=>cnd (!x1) (some (true)) (bnd (d7 bn) fun x4=>some (decide (((x4).length:Int)=(0:Int))))) fun bM=>cnd bM (some (0:Int)) (cnd bn.vNeg (some (-1:Int)) (some (1:Int)))
theorem DB {bn:aq}{r:Int}(h:nl bn=some r):aC prog 119 [dG ap bn] (dI .i64 r):=by
 refine bQ (rs:=[.tmp 2]) (fun cx hx h0=>?_) func119
 unfold nl at h
 refine ra hx ?_
 iterate 2 refine AW.seq ?_
 obtain⟨bM,hy,h⟩:=ah h
 refine jn ((PE cx .normal (fun bM=>[(1,.pt 0 0),(11,dB bM)]) fun bM=>⟨[(0,dC (ap.f bn))],[],1⟩) bM) ?_ ?_
 replace h:=hy
 refine rq hx fun K hK=>?_
 refine s1 (d:=dG ap bn) (aE (ao.id _ _) ax) ?_
 refine scb h io fun x1 h=>?_
 iterate 2 refine sa ?_
 rcases aX (!x1) with bo|bo
 replace h:=aZ bo h
 iterate 4 refine aH rfl rfl bo ?_
 refine s1 (al bo) ?_
 refine .nil (hK _ _ ?_)
 cases h
 exact pe0 h0 [0]
 replace h:=a3 bo h
 refine g1 (d:=dG ap bn) bo (aE (ao.id _ _) ax) ?_
 obtain⟨x4,va,h⟩:=ah h
 refine g1 bo (eC rfl (kQ va) (by simp only[cp,dh,jy,fO,dX,dW];exact bc _ _) (lA (fm _ _) lAn) (.inl rfl)) ?_
 iterate 2 refine ga bo ?_
 refine s1 (au bo) ?_
 refine .nil (hK _ _ ?_)
 cases h
 exact pe0 h0 [0]
 rintro ex tm' hp' ⟨rfl,hw⟩
 refine AW.weak hw (cdh h rfl (fun xY h=>?_) (fun xY h=>?_))
 refine ra hx ?_
 refine AW.ret ?_
 cases h
 exact rv1
 refine AW.skip (AW.seq (rs hx fun K hK=>?_))
 refine sa ?_
 refine s1 (a4 (bu bn) gp) ?_
 refine .nil (hK _ _ (cdh h rfl (fun qD h=>?_) (fun qD h=>?_)))
 refine ra hx ?_
 refine AW.ret ?_
 cases h
 exact rv1
 refine AW.skip (ra hx ?_)
 refine AW.ret ?_
 cases h
 exact rv1
def oE(f8:List Int)(kE:Int):Option Int:=bnd (c5 f8 (i64.wrap (Int.tdiv kE (16:Int)))) fun x1=>gd (0≤Int.tmod kE (16:Int)) (some (Int.tmod (lf .i64 x1 (Int.tmod kE (16:Int))) (2:Int)))
theorem Fs {f8:List Int}{kE:Int}{r:Int}(h:oE f8 kE=some r):aC prog 125 [dL (cI .i64) f8,dI .i64 kE] (dI .i64 r):=by
 refine bQ (rs:=[.tmp 4]) (fun cx hx h0=>?_) func125
 unfold oE at h
 refine ra hx ?_
 refine rs hx fun K hK=>?_
 iterate 3 refine sa ?_
 refine scb h fF fun x1 h=>?_
 iterate 2 refine sa ?_
 obtain⟨N6,h⟩:=aD h
 refine s1 (O8 N6) ?_
 iterate 2 refine sa ?_
 refine .nil (hK _ _ (AW.ret ?_))
 cases h
 exact rv1
def lH(x4:List Int):Int→Option (Int⊕Int):=fun cQ=>bnd (S:=Bool) (cnd (decide ((0:Int)<cQ)) (bnd (oE x4 (i64.wrap (cQ - (1:Int)))) fun x9=>some (decide (x9=(0:Int)))) (some (false))) fun mO=>cnd mO (some (.inl (i64.wrap (cQ - (1:Int))))) (some (.inr cQ))
def et(bn:aq):Option Int:=bnd (da bn) fun x1=>cnd (!x1) (some (0:Int)) (bnd (d7 bn) fun x4=>bnd (some (i64.wrap ((16:Int)*((x4).length:Int)))) fun x6=>bnd (a7 (lH x4) x6) fun lK=>some lK)
theorem v7 {bn:aq}{r:Int}(h:et bn=some r):aC prog 83 [dG ap bn] (dI .i64 r):=by
 refine bQ (rs:=[.tmp 2]) (fun cx hx h0=>?_) func83
 unfold et at h
 refine ra hx ?_
 refine AW.seq (rs hx fun K hK=>?_)
 refine s1 (d:=dG ap bn) (aE (ao.id _ _) ax) ?_
 refine scb h io fun x1 h=>?_
 refine sa ?_
 refine .nil (hK _ _ (cdh h rfl (fun bo h=>?_) (fun bo h=>?_)))
 refine ra hx ?_
 refine AW.ret ?_
 cases h
 exact rv1
 refine AW.skip (rs hx fun K hK=>?_)
 refine s1 (d:=dG ap bn) (aE (ao.id _ _) ax) ?_
 refine scb h kQ fun x4 h=>?_
 refine sa ?_
 refine .nil (hK _ _ (rs hx fun K hK=>?_))
 iterate 3 refine sa ?_
 obtain⟨x6,sO,h⟩:=ah h
 replace sO:=cv sO
 refine s2 (d2:=dI .i64 x6) kO (fR (congrArg (dI .i64) sO)) ?_
 refine .nil (hK _ _ (AW.seq (AW.block ?_)))
 obtain⟨lK,hy,h⟩:=ah h
 refine lp (S:=Int) (X:=Int) (fun cQ=>[(3,dL (cI .i64) x4),(4,dI .i64 cQ)]) (fun cQ=>⟨[],[],0⟩) (PE cx (.exit 0) (fun lK=>[(4,dI .i64 lK)]) fun lK=>⟨[],[],0⟩) hy ?_ ?_ ?_
 exact wk h0 [] (wR rfl (wR rfl wTn)) wVn wLn
 clear hy h
 rintro cQ y h
 dsimp only[lH] at h
 iterate 2 refine AW.seq ?_
 obtain⟨mO,hy,h⟩:=ah h
 refine jn ((PE cx .normal (fun mO=>[(3,dL (cI .i64) x4),(4,dI .i64 cQ),(21,dB mO)]) fun mO=>⟨[],[],0⟩) mO) ?_ ?_
 replace h:=hy
 refine rq hx fun K hK=>?_
 iterate 3 refine sa ?_
 rcases aX (decide ((0:Int)<cQ)) with qD|qD
 replace h:=aZ qD h
 iterate 3 refine ga qD ?_
 obtain⟨x9,xT,h⟩:=ah h
 refine g1 qD (eC rfl (Fs xT) rfl (lA (an _) (lA (an _) lAn)) (.inl rfl)) ?_
 refine ga qD ?_
 refine s1 (al qD) ?_
 refine .nil (hK _ _ ?_)
 cases h
 exact pe0 h0 []
 replace h:=a3 qD h
 iterate 5 refine aH rfl rfl qD ?_
 refine s1 (au qD) ?_
 refine .nil (hK _ _ ?_)
 cases h
 exact pe0 h0 []
 rintro ex tm' hp' ⟨rfl,hw⟩
 refine AW.weak hw (cdh h rfl (fun nd h=>?_) (fun nd h=>?_))
 refine AW.skip (AW.block (rb hx ?_))
 cases h
 exact PS.l (pe0 h0 [])
 refine AW.exit ?_
 try dsimp only
 try simp only[aN,reduceIte,Nat.reduceEqDiff,reduceCtorEq]
 cases h
 exact PS.r ⟨by nofun,PE.i (wk h0 [] (wR rfl wTn) wVn wLn)⟩
 rintro ex tm' hp' ⟨rfl,hw⟩
 try dsimp only
 try simp only[aN,reduceIte,Nat.reduceEqDiff,reduceCtorEq]
 refine AW.weak hw (ra hx ?_)
 refine AW.ret ?_
 cases h
 exact rv1
end
end Go.Proofs.YtgfcnncojhkcoaaGreat
