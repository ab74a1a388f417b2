/-
  Lemmas, part 3. Conditions: none.
-/
import Derived.Test.YtgfcnncojhkcoaaGreatU2
set_option linter.all false
set_option maxRecDepth 100000
set_option maxHeartbeats 4000000
namespace Go.Proofs.YtgfcnncojhkcoaaGreat
open Go.RowKit Go.IntKind Tryz
noncomputable section
def ib(aY:aq)(a9:aq)(x8:Int)(bh:Int):Int×Int×(Vector Int 32)→Option ((Int×Int×(Vector Int 32))⊕(Int×(Vector Int 32))):=fun (DC,mE,xc)=>cnd (decide (mE<x8)) (gd (0≤bh∧bh<16) (gd (0≤mE∧mE<16) (gd (0≤i64.wrap (bh+mE)∧i64.wrap (bh+mE)<32) (bnd (some (u64.wrap (DC+(u64.wrap ((u64.wrap ((u64.wrap ((aY.vW)[(bh).toNat]!))*(u64.wrap ((a9.vW)[(mE).toNat]!))))+(u64.wrap ((xc)[(i64.wrap (bh+mE)).toNat]!))))))) fun oa=>gd (0≤i64.wrap (bh+mE)∧i64.wrap (bh+mE)<32) (bnd (some ((xc).set! (i64.wrap (bh+mE)).toNat (u32.wrap (oa)))) fun oL=>some (.inl (lE .u64 oa (32:Int),i64.wrap (mE+(1:Int)),oL))))))) (some (.inr (DC,xc)))
def ic(aY:aq)(a9:aq)(x6:Int)(x8:Int):Int×(Vector Int 32)→Option ((Int×(Vector Int 32))⊕((Vector Int 32))):=fun (bh,kz)=>cnd (decide (bh<x6)) (bnd (a5 (ib aY a9 x8 bh) ((0:Int),(0:Int),kz)) fun (uu,ut)=>gd (0≤i64.wrap (bh+x8)∧i64.wrap (bh+x8)<32) (bnd (some ((ut).set! (i64.wrap (bh+x8)).toNat (u32.wrap (uu)))) fun xo=>some (.inl (i64.wrap (bh+(1:Int)),xo)))) (some (.inr kz))
def ix(aY:aq)(a9:aq):Option aq:=bnd (cN [aY,a9]) fun x1=>cnd (!x1) (bnd (dY) fun x4=>some x4) (bnd (eu aY.vW) fun x6=>bnd (eu a9.vW) fun x8=>bnd (a5 (ic aY a9 x6 x8) ((0:Int),(Vector.replicate 32 (0:Int)))) fun dM=>cnd (decide (¬(vOf 16 (List.take 16 (List.drop 16 (dM).toList))=#v[(0:Int),0,0,0,0,0,0,0,0,0,0,0,0,0,0,0]))) (bnd (dY) fun JA=>some JA) (bnd (bF (!(aY.vNeg == a9.vNeg)) (vOf 16 (List.take 16 (List.drop 0 (dM).toList)))) fun uF=>some uF))
theorem lm {aY:aq}{a9:aq}{r:aq}(h:ix aY a9=some r):aB prog 90 [dG ap aY,dG ap a9] (dG ap r):=by
 refine bL (rs:=[.cell 4 32]) (fun cx hx h0=>?_) func90
 unfold ix at h
 refine rs hx fun K hK=>?_
 iterate 2 refine sa ?_
 refine s1 (bo (F:=ap.f bx) az) ?_
 refine .nil (hK _ _ (AW.seq (rs hx fun K hK=>?_)))
 refine s1 (d:=dG ap aY) (aF (an.id _ _) az) ?_
 refine s1 (d:=dG ap a9) (aF (an.id _ _) az) ?_
 refine s1 (qG ([aY,a9]:List aq) ap qg az) ?_
 refine scb h gl fun x1 h=>?_
 refine sa ?_
 refine .nil (hK _ _ (cdh h rfl (fun bm h=>?_) (fun bm h=>?_)))
 refine rs hx fun K hK=>?_
 refine scb h gz fun x4 h=>?_
 refine s0 (aO (b':=x4) (an.id _ _) az) ?_
 refine .nil (hK _ _ (AW.ret ?_))
 cases h
 exact rv1
 refine AW.skip (rs hx fun K hK=>?_)
 refine s1 (bo (F:=(cA 32 (cI .u32)).f (Vector.replicate 32 (0:Int))) vg) ?_
 refine .nil (hK _ _ (rsd [128] hx fun K hK=>?_))
 refine sa ?_
 refine s1 (aF (aU aY) aE) ?_
 refine cqb h jN fun x6 h=>?_
 refine sa ?_
 refine s1 (aF (aU a9) aE) ?_
 refine cqb h jN fun x8 h=>?_
 iterate 2 refine sa ?_
 refine .nil (hK _ _ (AW.seq (ra hx ?_)))
 refine AW.block ?_
 obtain⟨dM,hy,h⟩:=ah h
 refine lp (S:=Int×(Vector Int 32)) (X:=(Vector Int 32)) (fun (bh,kz)=>[(2,.pt 0 0),(3,.pt 1 0),(4,.pt 2 0),(5,.pt 3 0),(7,dI .i64 x8),(23,dI .i64 x6),(24,dI .i64 bh)]) (fun (bh,kz)=>⟨[(0,dC (ap.f aY)),(1,dC (ap.f a9)),(2,dC (ap.f bx)),(3,dC ((cA 32 (cI .u32)).f kz))],[],4⟩) (PE cx (.exit 0) (fun dM=>[(2,.pt 0 0),(3,.pt 1 0),(4,.pt 2 0),(5,.pt 3 0)]) fun dM=>⟨[(0,dC (ap.f aY)),(1,dC (ap.f a9)),(2,dC (ap.f bx)),(3,dC ((cA 32 (cI .u32)).f dM))],[],4⟩) hy ?_ ?_ ?_
 exact wk h0 [0,1,2,4] (wR rfl (wR rfl (wR rfl (wR rfl (wR rfl (wR rfl (wR rfl wTn))))))) (vC rfl (vC rfl (vC rfl (vC rfl wVn)))) wLn
 clear hy h
 rintro⟨bh,kz⟩ y h
 dsimp only[ic] at h
 refine ra hx ?_
 refine AW.seq (cdh h rfl (fun fh h=>?_) (fun fh h=>?_))
 refine AW.skip (AW.seq (AW.block ?_))
 iterate 2 refine ra hx ?_
 refine AW.seq (ra hx ?_)
 refine AW.block ?_
 obtain⟨y,hy,h⟩:=ah h
 refine lp (S:=Int×Int×(Vector Int 32)) (X:=Int×(Vector Int 32)) (fun (DC,mE,xc)=>[(2,.pt 0 0),(3,.pt 1 0),(4,.pt 2 0),(5,.pt 3 0),(7,dI .i64 x8),(8,dI .i64 bh),(9,dI .u64 DC),(23,dI .i64 x6),(24,dI .i64 bh),(27,dI .i64 x8),(28,dI .i64 mE)]) (fun (DC,mE,xc)=>⟨[(0,dC (ap.f aY)),(1,dC (ap.f a9)),(2,dC (ap.f bx)),(3,dC ((cA 32 (cI .u32)).f xc))],[],4⟩) (PE cx (.exit 2) (fun (uu,ut)=>[(2,.pt 0 0),(3,.pt 1 0),(4,.pt 2 0),(5,.pt 3 0),(7,dI .i64 x8),(8,dI .i64 bh),(9,dI .u64 uu),(23,dI .i64 x6),(24,dI .i64 bh)]) fun (uu,ut)=>⟨[(0,dC (ap.f aY)),(1,dC (ap.f a9)),(2,dC (ap.f bx)),(3,dC ((cA 32 (cI .u32)).f ut))],[],4⟩) hy ?_ ?_ ?_
 exact wk h0 [0,1,2,3] (wR rfl (wR rfl (wR rfl (wR rfl (wR rfl (wR rfl (wR rfl (wR rfl (wR rfl (wR rfl (wR rfl wTn))))))))))) (vC rfl (vC rfl (vC rfl (vC rfl wVn)))) wLn
 clear hy h
 rintro⟨DC,mE,xc⟩ y h
 dsimp only[ib] at h
 refine ra hx ?_
 refine AW.seq (cdh h rfl (fun Ok h=>?_) (fun Ok h=>?_))
 refine AW.skip (AW.seq (AW.block (ra hx ?_)))
 refine rsd [] hx fun K hK=>?_
 iterate 3 refine sa ?_
 obtain⟨Oi,h⟩:=aC h
 have It:(bh).toNat<16:=by omega
 refine s1 (cl Oi aE aH) ?_
 refine s1 (a8 (an.comp (aU aY) (an.vec (cI .u32) aY.vW (bh).toNat It) (fun _=>rfl)) aH) ?_
 iterate 3 refine sa ?_
 obtain⟨hc14,h⟩:=aC h
 have NU:(mE).toNat<16:=by omega
 refine s1 (cl hc14 aE aH) ?_
 refine s1 (a8 (an.comp (aU a9) (an.vec (cI .u32) a9.vW (mE).toNat NU) (fun _=>rfl)) aH) ?_
 iterate 5 refine sa ?_
 obtain⟨GL,h⟩:=aC h
 have Is:(i64.wrap (bh+mE)).toNat<32:=by omega
 refine s1 (cl GL vg aH) ?_
 refine s1 (a8 (an.comp (an.id _ _) (an.vec (cI .u32) xc (i64.wrap (bh+mE)).toNat Is) (fun _=>rfl)) aH) ?_
 iterate 3 refine sa ?_
 obtain⟨oa,yc,h⟩:=ah h
 replace yc:=co yc
 refine s2 (d2:=dI .u64 oa) li (fT (congrArg (dI .u64) yc)) ?_
 refine .nil (hK _ _ (rs hx fun K hK=>?_))
 iterate 5 refine sa ?_
 obtain⟨LB,h⟩:=aC h
 have NT:(i64.wrap (bh+mE)).toNat<32:=by omega
 refine s1 (cl LB vg aH) ?_
 obtain⟨oL,hx23,h⟩:=ah h
 replace hx23:=co hx23
 refine s0 (j6 (b':=u32.wrap (oa)) (an.comp (an.id _ _) (an.vec (cI .u32) xc (i64.wrap (bh+mE)).toNat NT) (fun _=>rfl)) aH hx23) ?_
 refine .nil (hK _ _ ?_)
 iterate 2 refine rb hx ?_
 cases h
 exact PS.l (pe0 h0 [0,1,2,3])
 refine AW.exit ?_
 try dsimp only
 try simp only[aM,reduceIte,Nat.reduceEqDiff,reduceCtorEq]
 cases h
 exact PS.r ⟨by nofun,PE.i (wk h0 [0,1,2,3] (wR rfl (wR rfl (wR rfl (wR rfl (wR rfl (wR rfl (wR rfl (wR rfl (wR rfl wTn))))))))) (vC rfl (vC rfl (vC rfl (vC rfl wVn)))) wLn)⟩
 obtain⟨uu,ut⟩:=y
 rintro ex tm' hp' ⟨rfl,hw⟩
 try dsimp only
 try simp only[aM,reduceIte,Nat.reduceEqDiff,reduceCtorEq]
 refine AW.weak hw (rq hx fun K hK=>?_)
 iterate 5 refine sa ?_
 obtain⟨hc25,h⟩:=aC h
 have NS:(i64.wrap (bh+x8)).toNat<32:=by omega
 refine s1 (cl hc25 vg aH) ?_
 obtain⟨xo,Ik,h⟩:=ah h
 replace Ik:=co Ik
 refine s0 (j6 (b':=u32.wrap (uu)) (an.comp (an.id _ _) (an.vec (cI .u32) ut (i64.wrap (bh+x8)).toNat NS) (fun _=>rfl)) aH Ik) ?_
 refine .nil (hK _ _ (rb hx ?_))
 cases h
 exact PS.l (pe0 h0 [0,1,2,3])
 refine AW.exit ?_
 try dsimp only
 try simp only[aM,reduceIte,Nat.reduceEqDiff,reduceCtorEq]
 cases h
 exact PS.r ⟨by nofun,PE.i (wk h0 [0,1,2,3] (wR rfl (wR rfl (wR rfl (wR rfl wTn)))) (vC rfl (vC rfl (vC rfl (vC rfl wVn)))) wLn)⟩
 rintro ex tm' hp' ⟨rfl,hw⟩
 try dsimp only
 try simp only[aM,reduceIte,Nat.reduceEqDiff,reduceCtorEq]
 refine AW.weak hw (AW.seq (rs hx fun K hK=>?_))
 refine q1 (slA (n:=32) (l:=(16:Int)) (h:=(32:Int)) tok (by decide) vg aH ⟨_,rfl⟩ rfl) ?_
 refine q1 (sPtr tok rfl aE) ?_
 refine s1 (d:=dG al_cV (vOf 16 (List.take 16 (List.drop 16 (dM).toList)))) (aF (an.sub (o:=16) 16 (cI .u32) dM 16 (by decide) (by first|rfl|decide)) aE) ?_
 refine s1 (d:=dG al_cV (#v[(0:Int),0,0,0,0,0,0,0,0,0,0,0,0,0,0,0])) (lQ aE aH) ?_
 refine s1 (yM tok 2 (by decide) (EqC.arr (EqC.int (d:=0) aH) aE aH) aE) ?_
 refine .nil (hK _ _ (cdh h rfl (fun hb30 h=>?_) (fun hb30 h=>?_)))
 refine rs hx fun K hK=>?_
 refine scb h gz fun JA h=>?_
 refine s0 (aO (b':=JA) (an.id _ _) az) ?_
 refine .nil (hK _ _ (AW.ret ?_))
 cases h
 exact rv1
 refine AW.skip (rsd [111] hx fun K hK=>?_)
 refine sa ?_
 refine s1 (a8 (bw aY) gp) ?_
 refine sa ?_
 refine s1 (a8 (bw a9) gp) ?_
 refine sa ?_
 refine q1 (slA (n:=32) (l:=(0:Int)) (h:=(16:Int)) tok (by decide) vg aH rfl ⟨_,rfl⟩) ?_
 refine q1 (sPtr tok rfl aE) ?_
 refine s1 (d:=dG al_cV (vOf 16 (List.take 16 (List.drop 0 (dM).toList)))) (aF (an.sub (o:=0) 16 (cI .u32) dM 0 (by decide) (by first|rfl|decide)) aE) ?_
 obtain⟨uF,Ij,h⟩:=ah h
 refine sq tok (cT Ij) (by simp only[cD,dT,jZ,gj,eh,eC];exact⟨rfl,bn _ _⟩) (lA (ao _) (lA (eK _ _) lAn)) (.inl (jf _ _)) ?_
 refine s0 (aO (b':=uF) (an.id _ _) az) ?_
 refine .nil (hK _ _ (AW.ret ?_))
 cases h
 exact rv1
def fx(bj:Int):Option Int:=bnd (lZ bj) fun x1=>some (i64.wrap ((32:Int) - x1))
theorem s9 {bj:Int}{r:Int}(h:fx bj=some r):aB prog 164 [dI .u32 bj] (dI .i64 r):=by
 refine bL (rs:=[.tmp 2]) (fun cx hx h0=>?_) func164
 unfold fx at h
 refine ra hx ?_
 refine rs hx fun K hK=>?_
 refine sa ?_
 refine scb h wn fun x1 h=>?_
 iterate 2 refine sa ?_
 refine .nil (hK _ _ (AW.ret ?_))
 cases h
 exact rv1
def iV(lj:Vector Int 16)(db:Int)(jT:Int)(bM:Vector Int 17)(x9:Int):Int×Int→Option ((Int×Int)⊕Int):=fun (cR,bp)=>bnd (S:=Bool) (cnd (decide (bp<(4294967296:Int))) (cnd (decide ((4294967296:Int)≤cR)) (some (true)) (gd (0≤i64.wrap (db - (2:Int))∧i64.wrap (db - (2:Int))<16) (gd (0≤i64.wrap ((i64.wrap (jT+db)) - (2:Int))∧i64.wrap ((i64.wrap (jT+db)) - (2:Int))<17) (some (decide ((ior .u64 (vt .u64 bp (32:Int)) (u64.wrap ((bM)[(i64.wrap ((i64.wrap (jT+db)) - (2:Int))).toNat]!)))<(u64.wrap (cR*(u64.wrap ((lj)[(i64.wrap (db - (2:Int))).toNat]!)))))))))) (some (false))) fun gZ=>cnd gZ (some (.inl (u64.wrap (cR - (1:Int)),u64.wrap (bp+x9)))) (some (.inr cR))
def ia(lj:Vector Int 16)(db:Int)(jT:Int)(bM:Vector Int 17):Option Int:=gd (0≤i64.wrap (jT+db)∧i64.wrap (jT+db)<17) (gd (0≤i64.wrap ((i64.wrap (jT+db)) - (1:Int))∧i64.wrap ((i64.wrap (jT+db)) - (1:Int))<17) (bnd (some (ior .u64 (vt .u64 (u64.wrap ((bM)[(i64.wrap (jT+db)).toNat]!)) (32:Int)) (u64.wrap ((bM)[(i64.wrap ((i64.wrap (jT+db)) - (1:Int))).toNat]!)))) fun x5=>gd (0≤i64.wrap (db - (1:Int))∧i64.wrap (db - (1:Int))<16) (bnd (some (u64.wrap ((lj)[(i64.wrap (db - (1:Int))).toNat]!))) fun x9=>gd (x9≠0) (gd (x9≠0) (bnd (a5 (iV lj db jT bM x9) (u64.wrap (Int.tdiv x5 x9),Int.tmod x5 x9)) fun b8=>some b8)))))
theorem zC {lj:Vector Int 16}{db:Int}{jT:Int}{bM:Vector Int 17}{r:Int}(h:ia lj db jT bM=some r):HC prog 166 [.pt 0 0,dG al_cV lj,dI .i64 db,dI .i64 jT] ⟨[(0,dC ((cA 17 (cI .u32)).f bM))],[],1⟩ (dI .u64 r) ⟨[(0,dC ((cA 17 (cI .u32)).f bM))],[],1⟩:=by
 refine HC.of (rs:=[.tmp 8]) tok func166 rfl rfl (bg rfl) rfl (fun cx hx h1 hok=>?_)
 have h0:cx.hp0.next=1:=by rw[h1]
 simp only[eg,Nat.reduceAdd,bq]
 unfold ia at h
 refine ra hx ?_
 refine rsd [] hx fun K hK=>?_
 iterate 5 refine sa ?_
 obtain⟨Kg,h⟩:=aC h
 have GJ:(i64.wrap (jT+db)).toNat<17:=by omega
 refine s1 (cl Kg me aH) ?_
 refine s1 (a8 (an.comp (an.id _ _) (an.vec (cI .u32) bM (i64.wrap (jT+db)).toNat GJ) (fun _=>rfl)) aH) ?_
 iterate 8 refine sa ?_
 obtain⟨Of,h⟩:=aC h
 have hn4:(i64.wrap ((i64.wrap (jT+db)) - (1:Int))).toNat<17:=by omega
 refine s1 (cl Of me aH) ?_
 refine s1 (a8 (an.comp (an.id _ _) (an.vec (cI .u32) bM (i64.wrap ((i64.wrap (jT+db)) - (1:Int))).toNat hn4) (fun _=>rfl)) aH) ?_
 iterate 2 refine sa ?_
 obtain⟨x5,Em,h⟩:=ah h
 replace Em:=co Em
 refine s2 (d2:=dI .u64 x5) li (fT (congrArg (dI .u64) Em)) ?_
 refine .nil (hK _ _ (rs hx fun K hK=>?_))
 iterate 2 refine sa ?_
 obtain⟨Oe,h⟩:=aC h
 have NQ:(i64.wrap (db - (1:Int))).toNat<16:=by omega
 refine s1 (cl Oe aE aH) ?_
 refine s1 (a8 (an.comp (an.id _ _) (an.vec (cI .u32) lj (i64.wrap (db - (1:Int))).toNat NQ) (fun _=>rfl)) aH) ?_
 refine sa ?_
 obtain⟨x9,ye,h⟩:=ah h
 replace ye:=co ye
 refine s2 (d2:=dI .u64 x9) li (fT (congrArg (dI .u64) ye)) ?_
 refine .nil (hK _ _ (rsd [] hx fun K hK=>?_))
 iterate 2 refine sa ?_
 obtain⟨IA,h⟩:=aC h
 refine s1 (Hr IA) ?_
 iterate 2 refine sa ?_
 obtain⟨Oi,h⟩:=aC h
 refine s1 (DI Oi) ?_
 iterate 2 refine sa ?_
 refine .nil (hK _ _ (AW.seq (AW.block ?_)))
 obtain⟨b8,hy,h⟩:=ah h
 refine lp (S:=Int×Int) (X:=Int) (fun (cR,bp)=>[(0,.pt 0 0),(2,dI .i64 db),(3,dI .i64 jT),(5,.pt 1 0),(10,dI .u64 x9),(11,dI .u64 cR),(12,dI .u64 bp)]) (fun (cR,bp)=>⟨[(0,dC ((cA 17 (cI .u32)).f bM)),(1,dC (al_cV.f lj))],[],2⟩) (PE cx (.exit 0) (fun b8=>[(11,dI .u64 b8)]) fun b8=>⟨[(0,dC ((cA 17 (cI .u32)).f bM))],[],1⟩) hy ?_ ?_ ?_
 exact wkN h0 [1] (wR rfl (wR rfl (wR rfl (wR rfl (wR rfl (wR rfl (wR rfl wTn))))))) (vC rfl (vC rfl wVn)) wLn
 clear hy h
 rintro⟨cR,bp⟩ y h
 dsimp only[iV] at h
 iterate 2 refine AW.seq ?_
 obtain⟨gZ,hy,h⟩:=ah h
 refine jn ((PE cx .normal (fun gZ=>[(0,.pt 0 0),(2,dI .i64 db),(3,dI .i64 jT),(5,.pt 1 0),(10,dI .u64 x9),(11,dI .u64 cR),(12,dI .u64 bp),(70,dB gZ)]) fun gZ=>⟨[(0,dC ((cA 17 (cI .u32)).f bM)),(1,dC (al_cV.f lj))],[],2⟩) gZ) ?_ ?_
 replace h:=hy
 refine rqd [] hx fun K hK=>?_
 iterate 3 refine sa ?_
 rcases aZ (decide (bp<(4294967296:Int))) with vE|vE
 replace h:=a3 vE h
 iterate 3 refine ga vE ?_
 rcases aZ (decide ((4294967296:Int)≤cR)) with nF|nF
 replace h:=a3 nF h
 iterate 20 refine aI rfl rfl nF ?_
 refine g1 vE (al nF) ?_
 refine s1 (al vE) ?_
 refine .nil (hK _ _ ?_)
 cases h
 exact PE.i (wkN h0 [1] (wR rfl (wR rfl (wR rfl (wR rfl (wR rfl (wR rfl (wR rfl (wR rfl wTn)))))))) (vC rfl (vC rfl wVn)) wLn)
 replace h:=a4 nF h
 iterate 3 refine ga nF ?_
 obtain⟨Oh,h⟩:=aC h
 have Cz:(i64.wrap (db - (2:Int))).toNat<16:=by omega
 refine g1 nF (cl Oh aE aH) ?_
 refine g1 nF (a8 (an.comp (an.id _ _) (an.vec (cI .u32) lj (i64.wrap (db - (2:Int))).toNat Cz) (fun _=>rfl)) aH) ?_
 iterate 3 refine ga nF ?_
 refine g1 nF (Pn (b:=(32:Int)) (by decide)) ?_
 iterate 6 refine ga nF ?_
 obtain⟨hc17,h⟩:=aC h
 have hn18:(i64.wrap ((i64.wrap (jT+db)) - (2:Int))).toNat<17:=by omega
 refine g1 nF (cl hc17 me aH) ?_
 refine g1 nF (a8 (an.comp (an.id _ _) (an.vec (cI .u32) bM (i64.wrap ((i64.wrap (jT+db)) - (2:Int))).toNat hn18) (fun _=>rfl)) aH) ?_
 refine ga nF ?_
 refine g1 nF T_or ?_
 refine ga nF ?_
 refine g1 vE (au nF) ?_
 refine s1 (al vE) ?_
 refine .nil (hK _ _ ?_)
 cases h
 exact PE.i (wkN h0 [1] (wR rfl (wR rfl (wR rfl (wR rfl (wR rfl (wR rfl (wR rfl (wR rfl wTn)))))))) (vC rfl (vC rfl wVn)) wLn)
 replace h:=a4 vE h
 iterate 3 refine aI rfl rfl vE ?_
 iterate 20 refine M6 rfl rfl ?_
 refine aI rfl rfl vE ?_
 refine s1 (au vE) ?_
 refine .nil (hK _ _ ?_)
 cases h
 exact PE.i (wkN h0 [1] (wR rfl (wR rfl (wR rfl (wR rfl (wR rfl (wR rfl (wR rfl (wR rfl wTn)))))))) (vC rfl (vC rfl wVn)) wLn)
 rintro ex tm' hp' ⟨rfl,hw⟩
 refine AW.weak hw (cdh h rfl (fun vB h=>?_) (fun vB h=>?_))
 refine AW.skip (AW.block (ra hx ?_))
 refine rb hx ?_
 cases h
 exact PS.l (PE.i (wkN h0 [1] (wR rfl (wR rfl (wR rfl (wR rfl (wR rfl (wR rfl (wR rfl wTn))))))) (vC rfl (vC rfl wVn)) wLn))
 refine AW.exit ?_
 try dsimp only
 try simp only[aM,reduceIte,Nat.reduceEqDiff,reduceCtorEq]
 cases h
 exact PS.r ⟨by nofun,PE.i (wkN h0 [] (wR rfl wTn) (vC rfl wVn) wLn)⟩
 rintro ex tm' hp' ⟨rfl,hw⟩
 try dsimp only
 try simp only[aM,reduceIte,Nat.reduceEqDiff,reduceCtorEq]
 refine AW.weak hw (ra hx ?_)
 refine AW.ret ?_
 cases h
 exact rH1 (wkN h0 [] (wR rfl wTn) (vC rfl wVn) wLn)
def iu(lj:Vector Int 16)(db:Int)(jT:Int)(Ay:Int):Int×Int×Int×(Vector Int 17)→Option ((Int×Int×Int×(Vector Int 17))⊕(Int×Int×(Vector Int 17))):=fun (aK,aT,j3,Fe)=>cnd (decide (j3<db)) (gd (0≤j3∧j3<16) (bnd (some (u64.wrap (aK+(u64.wrap (Ay*(u64.wrap ((lj)[(j3).toNat]!))))))) fun x4=>gd (0≤i64.wrap (jT+j3)∧i64.wrap (jT+j3)<17) (bnd (some (u64.wrap ((u64.wrap ((u64.wrap ((Fe)[(i64.wrap (jT+j3)).toNat]!)) - (u64.wrap (u32.wrap (x4))))) - aT))) fun x8=>gd (0≤i64.wrap (jT+j3)∧i64.wrap (jT+j3)<17) (bnd (some ((Fe).set! (i64.wrap (jT+j3)).toNat (u32.wrap (x8)))) fun jG=>some (.inl (lE .u64 x4 (32:Int),lE .u64 x8 (63:Int),i64.wrap (j3+(1:Int)),jG)))))) (some (.inr (aK,aT,Fe)))
def jh(lj:Vector Int 16)(db:Int)(jT:Int)(Ay:Int)(bM:Vector Int 17):Option (Bool×(Vector Int 17)):=bnd (a5 (iu lj db jT Ay) ((0:Int),(0:Int),(0:Int),bM)) fun (aG,gW,t6)=>gd (0≤i64.wrap (jT+db)∧i64.wrap (jT+db)<17) (bnd (some (u64.wrap ((u64.wrap ((u64.wrap ((t6)[(i64.wrap (jT+db)).toNat]!)) - aG)) - gW))) fun pQ=>gd (0≤i64.wrap (jT+db)∧i64.wrap (jT+db)<17) (bnd (some ((t6).set! (i64.wrap (jT+db)).toNat (u32.wrap (pQ)))) fun B9=>some (decide ((lE .u64 pQ (63:Int))=(1:Int)),B9)))
theorem Ah {lj:Vector Int 16}{db:Int}{jT:Int}{Ay:Int}{bM:Vector Int 17}{r:Bool×(Vector Int 17)}(h:jh lj db jT Ay bM=some r):HC prog 167 [.pt 0 0,dG al_cV lj,dI .i64 db,dI .i64 jT,dI .u64 Ay] ⟨[(0,dC ((cA 17 (cI .u32)).f bM))],[],1⟩ (dB r.1) ⟨[(0,dC ((cA 17 (cI .u32)).f r.2))],[],1⟩:=by
 refine HC.of (rs:=[.tmp 10]) tok func167 rfl rfl (bg rfl) rfl (fun cx hx h1 hok=>?_)
 have h0:cx.hp0.next=1:=by rw[h1]
 simp only[eg,Nat.reduceAdd,bq]
 unfold jh at h
 iterate 2 refine ra hx ?_
 refine AW.seq (ra hx ?_)
 refine AW.block ?_
 obtain⟨y,hy,h⟩:=ah h
 refine lp (S:=Int×Int×Int×(Vector Int 17)) (X:=Int×Int×(Vector Int 17)) (fun (aK,aT,j3,Fe)=>[(0,.pt 0 0),(2,dI .i64 db),(3,dI .i64 jT),(4,dI .u64 Ay),(6,.pt 1 0),(11,dI .u64 aK),(12,dI .u64 aT),(16,dI .i64 db),(17,dI .i64 j3)]) (fun (aK,aT,j3,Fe)=>⟨[(0,dC ((cA 17 (cI .u32)).f Fe)),(1,dC (al_cV.f lj))],[],2⟩) (PE cx (.exit 0) (fun (aG,gW,t6)=>[(0,.pt 0 0),(2,dI .i64 db),(3,dI .i64 jT),(11,dI .u64 aG),(12,dI .u64 gW)]) fun (aG,gW,t6)=>⟨[(0,dC ((cA 17 (cI .u32)).f t6))],[],1⟩) hy ?_ ?_ ?_
 exact wkN h0 [1] (wR rfl (wR rfl (wR rfl (wR rfl (wR rfl (wR rfl (wR rfl (wR rfl (wR rfl wTn))))))))) (vC rfl (vC rfl wVn)) wLn
 clear hy h
 rintro⟨aK,aT,j3,Fe⟩ y h
 dsimp only[iu] at h
 refine ra hx ?_
 refine AW.seq (cdh h rfl (fun cE h=>?_) (fun cE h=>?_))
 refine AW.skip (AW.seq (AW.block (ra hx ?_)))
 refine rs hx fun K hK=>?_
 iterate 3 refine sa ?_
 obtain⟨ni,h⟩:=aC h
 have pU:(j3).toNat<16:=by omega
 refine s1 (cl ni aE aH) ?_
 refine s1 (a8 (an.comp (an.id _ _) (an.vec (cI .u32) lj (j3).toNat pU) (fun _=>rfl)) aH) ?_
 iterate 3 refine sa ?_
 obtain⟨x4,vu,h⟩:=ah h
 replace vu:=co vu
 refine s2 (d2:=dI .u64 x4) li (fT (congrArg (dI .u64) vu)) ?_
 refine .nil (hK _ _ (rs hx fun K hK=>?_))
 iterate 5 refine sa ?_
 obtain⟨hc6,h⟩:=aC h
 have hn7:(i64.wrap (jT+j3)).toNat<17:=by omega
 refine s1 (cl hc6 me aH) ?_
 refine s1 (a8 (an.comp (an.id _ _) (an.vec (cI .u32) Fe (i64.wrap (jT+j3)).toNat hn7) (fun _=>rfl)) aH) ?_
 iterate 7 refine sa ?_
 obtain⟨x8,L4,h⟩:=ah h
 replace L4:=co L4
 refine s2 (d2:=dI .u64 x8) li (fT (congrArg (dI .u64) L4)) ?_
 refine .nil (hK _ _ (rs hx fun K hK=>?_))
 iterate 7 refine sa ?_
 obtain⟨GM,h⟩:=aC h
 have NW:(i64.wrap (jT+j3)).toNat<17:=by omega
 refine s1 (cl GM me aH) ?_
 obtain⟨jG,vw,h⟩:=ah h
 replace vw:=co vw
 refine s0 (j6 (b':=u32.wrap (x8)) (an.comp (an.id _ _) (an.vec (cI .u32) Fe (i64.wrap (jT+j3)).toNat NW) (fun _=>rfl)) aH vw) ?_
 refine .nil (hK _ _ (ra hx ?_))
 iterate 2 refine rb hx ?_
 cases h
 exact PS.l (PE.i (wkN h0 [1] (wR rfl (wR rfl (wR rfl (wR rfl (wR rfl (wR rfl (wR rfl (wR rfl (wR rfl wTn))))))))) (vC rfl (vC rfl wVn)) wLn))
 refine AW.exit ?_
 try dsimp only
 try simp only[aM,reduceIte,Nat.reduceEqDiff,reduceCtorEq]
 cases h
 exact PS.r ⟨by nofun,PE.i (wkN h0 [] (wR rfl (wR rfl (wR rfl (wR rfl (wR rfl wTn))))) (vC rfl wVn) wLn)⟩
 obtain⟨aG,gW,t6⟩:=y
 rintro ex tm' hp' ⟨rfl,hw⟩
 try dsimp only
 try simp only[aM,reduceIte,Nat.reduceEqDiff,reduceCtorEq]
 refine AW.weak hw (rs hx fun K hK=>?_)
 iterate 5 refine sa ?_
 obtain⟨Oh,h⟩:=aC h
 have Cz:(i64.wrap (jT+db)).toNat<17:=by omega
 refine s1 (cl Oh me aH) ?_
 refine s1 (a8 (an.comp (an.id _ _) (an.vec (cI .u32) t6 (i64.wrap (jT+db)).toNat Cz) (fun _=>rfl)) aH) ?_
 iterate 5 refine sa ?_
 obtain⟨pQ,AP,h⟩:=ah h
 replace AP:=co AP
 refine s2 (d2:=dI .u64 pQ) li (fT (congrArg (dI .u64) AP)) ?_
 refine .nil (hK _ _ (rs hx fun K hK=>?_))
 iterate 7 refine sa ?_
 obtain⟨hc19,h⟩:=aC h
 have hn20:(i64.wrap (jT+db)).toNat<17:=by omega
 refine s1 (cl hc19 me aH) ?_
 obtain⟨B9,Nw,h⟩:=ah h
 replace Nw:=co Nw
 refine s0 (j6 (b':=u32.wrap (pQ)) (an.comp (an.id _ _) (an.vec (cI .u32) t6 (i64.wrap (jT+db)).toNat hn20) (fun _=>rfl)) aH Nw) ?_
 refine .nil (hK _ _ (ra hx ?_))
 refine AW.ret ?_
 cases h
 exact rH1 (wkN h0 [] (wR rfl wTn) (vC rfl wVn) wLn)
def iw(lj:Vector Int 16)(db:Int)(jT:Int):Int×Int×(Vector Int 17)→Option ((Int×Int×(Vector Int 17))⊕(Int×(Vector Int 17))):=fun (aK,aT,j3)=>cnd (decide (aT<db)) (gd (0≤i64.wrap (jT+aT)∧i64.wrap (jT+aT)<17) (gd (0≤aT∧aT<16) (bnd (some (u64.wrap (aK+(u64.wrap ((u64.wrap ((j3)[(i64.wrap (jT+aT)).toNat]!))+(u64.wrap ((lj)[(aT).toNat]!))))))) fun x6=>gd (0≤i64.wrap (jT+aT)∧i64.wrap (jT+aT)<17) (bnd (some ((j3).set! (i64.wrap (jT+aT)).toNat (u32.wrap (x6)))) fun nl=>some (.inl (lE .u64 x6 (32:Int),i64.wrap (aT+(1:Int)),nl)))))) (some (.inr (aK,j3)))
def jm(lj:Vector Int 16)(db:Int)(jT:Int)(bM:Vector Int 17):Option (Vector Int 17):=bnd (a5 (iw lj db jT) ((0:Int),(0:Int),bM)) fun (aG,gW)=>gd (0≤i64.wrap (jT+db)∧i64.wrap (jT+db)<17) (gd (0≤i64.wrap (jT+db)∧i64.wrap (jT+db)<17) (bnd (some ((gW).set! (i64.wrap (jT+db)).toNat (u32.wrap (((gW)[(i64.wrap (jT+db)).toNat]!)+(u32.wrap (aG)))))) fun pQ=>some pQ))
theorem Ai {lj:Vector Int 16}{db:Int}{jT:Int}{bM:Vector Int 17}{r:Vector Int 17}(h:jm lj db jT bM=some r):HC prog 168 [.pt 0 0,dG al_cV lj,dI .i64 db,dI .i64 jT] ⟨[(0,dC ((cA 17 (cI .u32)).f bM))],[],1⟩ (.tu []) ⟨[(0,dC ((cA 17 (cI .u32)).f r))],[],1⟩:=by
 refine HC.of (rs:=[]) tok func168 rfl rfl (bg rfl) rfl (fun cx hx h1 hok=>?_)
 have h0:cx.hp0.next=1:=by rw[h1]
 simp only[eg,Nat.reduceAdd,bq]
 unfold jm at h
 iterate 2 refine ra hx ?_
 refine AW.seq (ra hx ?_)
 refine AW.block ?_
 obtain⟨y,hy,h⟩:=ah h
 refine lp (S:=Int×Int×(Vector Int 17)) (X:=Int×(Vector Int 17)) (fun (aK,aT,j3)=>[(0,.pt 0 0),(2,dI .i64 db),(3,dI .i64 jT),(5,.pt 1 0),(8,dI .u64 aK),(10,dI .i64 db),(11,dI .i64 aT)]) (fun (aK,aT,j3)=>⟨[(0,dC ((cA 17 (cI .u32)).f j3)),(1,dC (al_cV.f lj))],[],2⟩) (PE cx (.exit 0) (fun (aG,gW)=>[(0,.pt 0 0),(2,dI .i64 db),(3,dI .i64 jT),(8,dI .u64 aG)]) fun (aG,gW)=>⟨[(0,dC ((cA 17 (cI .u32)).f gW))],[],1⟩) hy ?_ ?_ ?_
 exact wkN h0 [1] (wR rfl (wR rfl (wR rfl (wR rfl (wR rfl (wR rfl (wR rfl wTn))))))) (vC rfl (vC rfl wVn)) wLn
 clear hy h
 rintro⟨aK,aT,j3⟩ y h
 dsimp only[iw] at h
 refine ra hx ?_
 refine AW.seq (cdh h rfl (fun cE h=>?_) (fun cE h=>?_))
 refine AW.skip (AW.seq (AW.block (ra hx ?_)))
 refine rsd [] hx fun K hK=>?_
 iterate 6 refine sa ?_
 obtain⟨ni,h⟩:=aC h
 have pU:(i64.wrap (jT+aT)).toNat<17:=by omega
 refine s1 (cl ni me aH) ?_
 refine s1 (a8 (an.comp (an.id _ _) (an.vec (cI .u32) j3 (i64.wrap (jT+aT)).toNat pU) (fun _=>rfl)) aH) ?_
 iterate 2 refine sa ?_
 obtain⟨Fy,h⟩:=aC h
 have NR:(aT).toNat<16:=by omega
 refine s1 (cl Fy aE aH) ?_
 refine s1 (a8 (an.comp (an.id _ _) (an.vec (cI .u32) lj (aT).toNat NR) (fun _=>rfl)) aH) ?_
 iterate 3 refine sa ?_
 obtain⟨x6,te,h⟩:=ah h
 replace te:=co te
 refine s2 (d2:=dI .u64 x6) li (fT (congrArg (dI .u64) te)) ?_
 refine .nil (hK _ _ (rs hx fun K hK=>?_))
 iterate 7 refine sa ?_
 obtain⟨Iz,h⟩:=aC h
 have Ir:(i64.wrap (jT+aT)).toNat<17:=by omega
 refine s1 (cl Iz me aH) ?_
 obtain⟨nl,wK,h⟩:=ah h
 replace wK:=co wK
 refine s0 (j6 (b':=u32.wrap (x6)) (an.comp (an.id _ _) (an.vec (cI .u32) j3 (i64.wrap (jT+aT)).toNat Ir) (fun _=>rfl)) aH wK) ?_
 refine .nil (hK _ _ ?_)
 iterate 2 refine rb hx ?_
 cases h
 exact PS.l (PE.i (wkN h0 [1] (wR rfl (wR rfl (wR rfl (wR rfl (wR rfl (wR rfl (wR rfl wTn))))))) (vC rfl (vC rfl wVn)) wLn))
 refine AW.exit ?_
 try dsimp only
 try simp only[aM,reduceIte,Nat.reduceEqDiff,reduceCtorEq]
 cases h
 exact PS.r ⟨by nofun,PE.i (wkN h0 [] (wR rfl (wR rfl (wR rfl (wR rfl wTn)))) (vC rfl wVn) wLn)⟩
 obtain⟨aG,gW⟩:=y
 rintro ex tm' hp' ⟨rfl,hw⟩
 try dsimp only
 try simp only[aM,reduceIte,Nat.reduceEqDiff,reduceCtorEq]
 refine AW.weak hw (rqd [] hx fun K hK=>?_)
 iterate 5 refine sa ?_
 obtain⟨hc13,h⟩:=aC h
 have hn14:(i64.wrap (jT+db)).toNat<17:=by omega
 refine s1 (cl hc13 me aH) ?_
 refine s1 (a8 (an.comp (an.id _ _) (an.vec (cI .u32) gW (i64.wrap (jT+db)).toNat hn14) (fun _=>rfl)) aH) ?_
 iterate 4 refine sa ?_
 obtain⟨Oh,h⟩:=aC h
 have Cz:(i64.wrap (jT+db)).toNat<17:=by omega
 refine s1 (cl Oh me aH) ?_
 obtain⟨pQ,AP,h⟩:=ah h
 replace AP:=co AP
 refine s0 (j6 (b':=u32.wrap (((gW)[(i64.wrap (jT+db)).toNat]!)+(u32.wrap (aG)))) (an.comp (an.id _ _) (an.vec (cI .u32) gW (i64.wrap (jT+db)).toNat Cz) (fun _=>rfl)) aH AP) ?_
 refine .nil (hK _ _ ?_)
 cases h
 exact rH0 (wkN h0 [] wTn (vC rfl wVn) wLn)
def eF(x1:Int)(xq:(Vector Int 16)×Int):Int×(Vector Int 16)×(Vector Int 17)→Option ((Int×(Vector Int 16)×(Vector Int 17))⊕((Vector Int 16)×(Vector Int 17))):=fun (qE,zx,BP)=>cnd (decide ((0:Int)≤qE)) (bnd (ia xq.1 x1 qE BP) fun x28=>bnd (S:=Int×(Vector Int 17)) (bnd (jh xq.1 x1 qE x28 BP) fun JB=>cnd JB.1 (bnd (jm xq.1 x1 qE JB.2) fun uF=>some ((u64.wrap (x28 - (1:Int)),uF))) (some ((x28,JB.2)))) fun (DA,Ho)=>gd (0≤qE∧qE<16) (some (.inl (i64.wrap (qE - (1:Int)),(zx).set! (qE).toNat (u32.wrap (DA)),Ho)))) (some (.inr (zx,BP)))
def fB(aY:Vector Int 16)(a9:Vector Int 16):Option ((Vector Int 16)×(Vector Int 16)):=bnd (eu a9) fun x1=>bnd (eu aY) fun x3=>bnd (kC aY a9) fun x5=>cnd (decide (x5<(0:Int))) (bnd (some (#v[(0:Int),0,0,0,0,0,0,0,0,0,0,0,0,0,0,0])) fun x8=>some (x8,aY)) (cnd (decide (x1=(1:Int))) (bnd (ms aY ((a9)[((0:Int)).toNat]!)) fun jG=>bnd (some (#v[jG.2,0,0,0,0,0,0,0,0,0,0,0,0,0,0,0])) fun pF=>some (jG.1,pF)) (gd (0≤i64.wrap (x1 - (1:Int))∧i64.wrap (x1 - (1:Int))<16) (bnd (fx ((a9)[(i64.wrap (x1 - (1:Int))).toNat]!)) fun oa=>bnd (oz a9 oa) fun xq=>bnd (oz aY oa) fun oL=>bnd (some (vOf 17 (lCp ((Vector.replicate 17 (0:Int))).toList 0 (List.take 17 (List.take 16 (List.drop 0 (oL.1).toList)))))) fun HN=>bnd (a5 (eF x1 xq) (i64.wrap (x3 - x1),(bU),(HN).set! ((16:Int)).toNat oL.2)) fun (sQ,sP)=>bnd (nH (vOf 16 (List.take 16 (List.drop 0 (sP).toList))) oa) fun HF=>some (sQ,HF))))
theorem rB {aY:Vector Int 16}{a9:Vector Int 16}{r:(Vector Int 16)×(Vector Int 16)}(h:fB aY a9=some r):aB prog 130 [dG al_cV aY,dG al_cV a9] (.tu [dG al_cV r.1,dG al_cV r.2]):=by
 refine bL (rs:=[.cell 4 30,.cell 5 30]) (fun cx hx h0=>?_) func130
 unfold fB at h
 refine rs hx fun K hK=>?_
 iterate 2 refine sa ?_
 iterate 2 refine s1 (bo (F:=al_cV.f (bU)) aE) ?_
 refine .nil (hK _ _ (rsd [128] hx fun K hK=>?_))
 refine s1 (d:=dG al_cV a9) (aF (an.id _ _) aE) ?_
 refine cqb h jN fun x1 h=>?_
 refine s1 (d:=dG al_cV aY) (aF (an.id _ _) aE) ?_
 refine cqb h jN fun x3 h=>?_
 iterate 2 refine sa ?_
 refine .nil (hK _ _ (AW.seq (rs hx fun K hK=>?_)))
 refine s1 (d:=dG al_cV aY) (aF (an.id _ _) aE) ?_
 refine s1 (d:=dG al_cV a9) (aF (an.id _ _) aE) ?_
 refine scb h uI fun x5 h=>?_
 refine sa ?_
 refine .nil (hK _ _ (cdh h rfl (fun tg h=>?_) (fun tg h=>?_)))
 refine AW.seq ?_
 obtain⟨x8,L4,h⟩:=ah h
 replace L4:=co L4
 refine jn (PE cx .normal (fun (_:Unit)=>[(4,.pt 0 0),(5,.pt 1 0)]) (fun (_:Unit)=>⟨[(0,dC (al_cV.f x8)),(1,dC (al_cV.f aY))],[],2⟩) ()) ?_ ?_
 refine dw (DW.split 1 2 (by decide) ?_ ?_)
 refine dwg [] [0,1,2,3] hx (by kernel_rfl) (by kernel_rfl) (by kernel_rfl) fun K hK=>?_
 dsimp only[d8,nj,nA,List.map]
 refine s1 (d:=dG al_cV (#v[(0:Int),0,0,0,0,0,0,0,0,0,0,0,0,0,0,0])) (lQ aE aH) ?_
 refine s1 (d:=dG al_cV aY) (aF (an.id _ _) aE) ?_
 refine s0 (j6 (b':=#v[(0:Int),0,0,0,0,0,0,0,0,0,0,0,0,0,0,0]) (an.id _ _) aE L4) ?_
 refine s0 (aO (b':=aY) (an.id _ _) aE) ?_
 exact .nil (hK _ _ (pe0 h0 [2,3]))
 refine dwg [] [0,2,1,3] hx (by kernel_rfl) (by kernel_rfl) (by kernel_rfl) fun K hK=>?_
 dsimp only[d8,nj,nA,List.map]
 refine s1 (d:=dG al_cV (#v[(0:Int),0,0,0,0,0,0,0,0,0,0,0,0,0,0,0])) (lQ aE aH) ?_
 refine s0 (j6 (b':=#v[(0:Int),0,0,0,0,0,0,0,0,0,0,0,0,0,0,0]) (an.id _ _) aE L4) ?_
 refine s1 (d:=dG al_cV aY) (aF (an.id _ _) aE) ?_
 refine s0 (aO (b':=aY) (an.id _ _) aE) ?_
 exact .nil (hK _ _ (pe0 h0 [2,3]))
 rintro ex tm' hp' ⟨rfl,hw⟩
 refine AW.weak hw (AW.ret ?_)
 cases h
 exact rv2
 refine AW.skip (AW.seq (ra hx ?_))
 refine cdh h rfl (fun fh h=>?_) (fun fh h=>?_)
 refine rs hx fun K hK=>?_
 refine s1 (d:=dG al_cV aY) (aF (an.id _ _) aE) ?_
 have NW:((0:Int)).toNat<16:=by omega
 refine s1 (cl (by decide:0≤(0:Int)∧(0:Int)<((16:Nat):Int)) aE aH) ?_
 refine s1 (a8 (an.comp (an.id _ _) (an.vec (cI .u32) a9 ((0:Int)).toNat NW) (fun _=>rfl)) aH) ?_
 refine scb h Cf fun jG h=>?_
 iterate 3 refine sa ?_
 refine s1 (bo (F:=al_cV.f (bU)) aE) ?_
 refine s0 (aO (b':=jG.1) (an.id _ _) aE) ?_
 refine sa ?_
 refine .nil (hK _ _ (rs hx fun K hK=>?_))
 refine s1 (d:=dG al_cV jG.1) (aF (an.id _ _) aE) ?_
 refine sa ?_
 refine s1 (d:=dG al_cV (#v[jG.2,0,0,0,0,0,0,0,0,0,0,0,0,0,0,0])) (lQ aE aH) ?_
 refine s0 (aO (b':=jG.1) (an.id _ _) aE) ?_
 obtain⟨pF,yd,h⟩:=ah h
 replace yd:=co yd
 refine s0 (j6 (b':=#v[jG.2,0,0,0,0,0,0,0,0,0,0,0,0,0,0,0]) (an.id _ _) aE yd) ?_
 refine .nil (hK _ _ (AW.ret ?_))
 cases h
 exact rv2
 refine AW.skip (rs hx fun K hK=>?_)
 iterate 2 refine sa ?_
 obtain⟨GL,h⟩:=aC h
 have Is:(i64.wrap (x1 - (1:Int))).toNat<16:=by omega
 refine s1 (cl GL aE aH) ?_
 refine s1 (a8 (an.comp (an.id _ _) (an.vec (cI .u32) a9 (i64.wrap (x1 - (1:Int))).toNat Is) (fun _=>rfl)) aH) ?_
 refine scb h s9 fun oa h=>?_
 refine sa ?_
 refine .nil (hK _ _ (rs hx fun K hK=>?_))
 refine s1 (d:=dG al_cV a9) (aF (an.id _ _) aE) ?_
 refine sa ?_
 refine scb h Ag fun xq h=>?_
 iterate 3 refine sa ?_
 refine s1 (bo (F:=al_cV.f (bU)) aE) ?_
 refine s0 (aO (b':=xq.1) (an.id _ _) aE) ?_
 refine sa ?_
 refine .nil (hK _ _ (rs hx fun K hK=>?_))
 refine s1 (d:=dG al_cV aY) (aF (an.id _ _) aE) ?_
 refine sa ?_
 refine scb h Ag fun oL h=>?_
 iterate 3 refine sa ?_
 refine s1 (bo (F:=al_cV.f (bU)) aE) ?_
 refine s0 (aO (b':=oL.1) (an.id _ _) aE) ?_
 refine sa ?_
 refine .nil (hK _ _ (rs hx fun K hK=>?_))
 refine s1 (bo (F:=(cA 17 (cI .u32)).f (Vector.replicate 17 (0:Int))) me) ?_
 refine .nil (hK _ _ (rsd [] hx fun K hK=>?_))
 refine q1 (slA (n:=17) (l:=(0:Int)) (h:=(17:Int)) tok (by decide) me aH rfl rfl) ?_
 refine q1 (slA (n:=16) (l:=(0:Int)) (h:=(16:Int)) tok (by decide) aE aH rfl rfl) ?_
 obtain⟨HN,hx25,h⟩:=ah h
 replace hx25:=co hx25
 refine q1 (hp':=⟨[(6,dC ((cA 17 (cI .u32)).f HN)),(6,dC ((cA 17 (cI .u32)).f (Vector.replicate 17 (0:Int)))),(5,dC (al_cV.f oL.1)),(5,dC (al_cV.f (bU))),(4,dC (al_cV.f xq.1)),(4,dC (al_cV.f (bU))),(3,dC (al_cV.f (bU))),(2,dC (al_cV.f (bU))),(1,dC (al_cV.f a9)),(0,dC (al_cV.f aY))],[],7⟩) (sCpA (c:=(cI .u32)) (v:=(Vector.replicate 17 (0:Int))) (s:=(List.take 16 (List.drop 0 (oL.1).toList))) tok Mu aH (t8.arr (c:=(cI .u32)) (v:=oL.1) rfl 0 (by decide)) (by simp only[eL,gi,mY];omega) rfl 0 (by decide) (congrArg (fun q=>(6,dC ((cA 17 (cI .u32)).f q))::_) hx25)) ?_
 refine .nil (hK _ _ (rs hx fun K hK=>?_))
 refine sa ?_
 have NS:((16:Int)).toNat<17:=by omega
 refine s1 (cl (by decide:0≤(16:Int)∧(16:Int)<((17:Nat):Int)) me aH) ?_
 refine s0 (aO (b':=oL.2) (an.comp (an.id _ _) (an.vec (cI .u32) HN ((16:Int)).toNat NS) (fun _=>rfl)) aH) ?_
 refine .nil (hK _ _ (AW.seq (ra hx ?_)))
 refine AW.block ?_
 obtain⟨y,hy,h⟩:=ah h
 refine lp (S:=Int×(Vector Int 16)×(Vector Int 17)) (X:=(Vector Int 16)×(Vector Int 17)) (fun (qE,zx,BP)=>[(4,.pt 0 0),(5,.pt 1 0),(6,dI .i64 x1),(10,dI .i64 oa),(11,.pt 2 0),(15,.pt 3 0),(16,dI .i64 qE)]) (fun (qE,zx,BP)=>⟨[(0,dC (al_cV.f zx)),(1,dC (al_cV.f (bU))),(2,dC (al_cV.f xq.1)),(3,dC ((cA 17 (cI .u32)).f BP))],[],4⟩) (PE cx (.exit 0) (fun (sQ,sP)=>[(4,.pt 0 0),(5,.pt 1 0),(10,dI .i64 oa),(15,.pt 2 0)]) fun (sQ,sP)=>⟨[(0,dC (al_cV.f sQ)),(1,dC (al_cV.f (bU))),(2,dC ((cA 17 (cI .u32)).f sP))],[],3⟩) hy ?_ ?_ ?_
 exact wk h0 [2,3,4,6] (wR rfl (wR rfl (wR rfl (wR rfl (wR rfl (wR rfl (wR rfl wTn))))))) (vC rfl (vC rfl (vC rfl (vC rfl wVn)))) wLn
 clear hy h
 rintro⟨qE,zx,BP⟩ y h
 dsimp only[eF] at h
 refine AW.seq (ra hx ?_)
 refine cdh h rfl (fun hb27 h=>?_) (fun hb27 h=>?_)
 refine AW.skip (AW.seq (AW.block (rs hx fun K hK=>?_)))
 refine s1 (d:=dG al_cV xq.1) (aF (an.id _ _) aE) ?_
 iterate 2 refine sa ?_
 obtain⟨x28,hx29,h⟩:=ah h
 refine s1 (Fh [3] rfl (zC hx29) (fA (ao _) (fAG (ao _) (fA (ao _) (fA (ao _) fAn)))) (vC rfl wVn) wLn (rvC rvN) rfl rfl) ?_
 refine sa ?_
 refine .nil (hK _ _ (AW.seq ?_))
 obtain⟨y,hy,h⟩:=ah h
 refine jn ((PE cx .normal (fun (DA,Ho)=>[(4,.pt 0 0),(5,.pt 1 0),(6,dI .i64 x1),(10,dI .i64 oa),(11,.pt 2 0),(15,.pt 3 0),(16,dI .i64 qE),(17,dI .u64 DA)]) fun (DA,Ho)=>⟨[(0,dC (al_cV.f zx)),(1,dC (al_cV.f (bU))),(2,dC (al_cV.f xq.1)),(3,dC ((cA 17 (cI .u32)).f Ho))],[],4⟩) y) ?_ ?_
 replace h:=hy
 refine rs hx fun K hK=>?_
 refine s1 (d:=dG al_cV xq.1) (aF (an.id _ _) aE) ?_
 iterate 3 refine sa ?_
 obtain⟨JB,hx31,h⟩:=ah h
 refine s1 (Fh [3] rfl (Ah hx31) (fA (ao _) (fAG (ao _) (fA (ao _) (fA (ao _) (fA (ao _) fAn))))) (vC rfl wVn) wLn (rvC rvN) rfl rfl) ?_
 refine .nil (hK _ _ (cdh h rfl (fun hb32 h=>?_) (fun hb32 h=>?_)))
 refine ra hx ?_
 refine rq hx fun K hK=>?_
 refine s1 (d:=dG al_cV xq.1) (aF (an.id _ _) aE) ?_
 iterate 2 refine sa ?_
 obtain⟨uF,Ij,h⟩:=ah h
 refine s1 (Fh [3] rfl (Ai Ij) (fA (ao _) (fAG (ao _) (fA (ao _) (fA (ao _) fAn)))) (vC rfl wVn) wLn (rvC rvN) rfl rfl) ?_
 refine .nil (hK _ _ ?_)
 cases h
 exact pe0 h0 [0,1,2,3]
 refine AW.skip ?_
 cases h
 exact pe0 h0 [0,1,2,3]
 obtain⟨DA,Ho⟩:=y
 rintro ex tm' hp' ⟨rfl,hw⟩
 refine AW.weak hw (rq hx fun K hK=>?_)
 iterate 3 refine sa ?_
 obtain⟨hc36,h⟩:=aC h
 have hn37:(qE).toNat<16:=by omega
 refine s1 (cl hc36 aE aH) ?_
 refine s0 (aO (b':=u32.wrap (DA)) (an.comp (an.id _ _) (an.vec (cI .u32) zx (qE).toNat hn37) (fun _=>rfl)) aH) ?_
 refine .nil (hK _ _ (rb hx ?_))
 cases h
 exact PS.l (pe0 h0 [0,1,2,3])
 refine AW.exit ?_
 try dsimp only
 try simp only[aM,reduceIte,Nat.reduceEqDiff,reduceCtorEq]
 cases h
 exact PS.r ⟨by nofun,PE.i (wk h0 [0,1,3] (wR rfl (wR rfl (wR rfl (wR rfl wTn)))) (vC rfl (vC rfl (vC rfl wVn))) wLn)⟩
 obtain⟨sQ,sP⟩:=y
 rintro ex tm' hp' ⟨rfl,hw⟩
 try dsimp only
 try simp only[aM,reduceIte,Nat.reduceEqDiff,reduceCtorEq]
 refine AW.weak hw (rsd [169] hx fun K hK=>?_)
 refine s1 (d:=dG al_cV sQ) (aF (an.id _ _) aE) ?_
 refine q1 (slA (n:=17) (l:=(0:Int)) (h:=(16:Int)) tok (by decide) me aH rfl ⟨_,rfl⟩) ?_
 refine q1 (sPtr tok rfl aE) ?_
 refine s1 (d:=dG al_cV (vOf 16 (List.take 16 (List.drop 0 (sP).toList)))) (aF (an.sub (o:=0) 16 (cI .u32) sP 0 (by decide) (by first|rfl|decide)) aE) ?_
 refine sa ?_
 obtain⟨HF,hx40,h⟩:=ah h
 refine sq tok (DL hx40) (by simp only[cD,dT,jZ,gj,eh,eC];exact⟨bn _ _,rfl⟩) (lA (eK _ _) (lA (ao _) lAn)) (.inl (jf _ _)) ?_
 refine s0 (aO (b':=sQ) (an.id _ _) aE) ?_
 refine s0 (aO (b':=HF) (an.id _ _) aE) ?_
 refine .nil (hK _ _ (AW.ret ?_))
 cases h
 exact rv2
def oZ(bj:aq):Option aq:=bnd (cN [bj]) fun x1=>cnd (!x1) (bnd (dY) fun x4=>some x4) (bnd (bF false bj.vW) fun x6=>some x6)
theorem FE {bj:aq}{r:aq}(h:oZ bj=some r):aB prog 131 [dG ap bj] (dG ap r):=by
 refine bL (rs:=[.cell 2 32]) (fun cx hx h0=>?_) func131
 unfold oZ at h
 refine rs hx fun K hK=>?_
 refine sa ?_
 refine s1 (bo (F:=ap.f bx) az) ?_
 refine .nil (hK _ _ (AW.seq (rs hx fun K hK=>?_)))
 refine s1 (d:=dG ap bj) (aF (an.id _ _) az) ?_
 refine s1 (qG ([bj]:List aq) ap qg az) ?_
 refine scb h gl fun x1 h=>?_
 refine sa ?_
 refine .nil (hK _ _ (cdh h rfl (fun bm h=>?_) (fun bm h=>?_)))
 refine rs hx fun K hK=>?_
 refine scb h gz fun x4 h=>?_
 refine s0 (aO (b':=x4) (an.id _ _) az) ?_
 refine .nil (hK _ _ (AW.ret ?_))
 cases h
 exact rv1
 refine AW.skip (rs hx fun K hK=>?_)
 refine sa ?_
 refine s1 (aF (aU bj) aE) ?_
 refine scb h cT fun x6 h=>?_
 refine s0 (aO (b':=x6) (an.id _ _) az) ?_
 refine .nil (hK _ _ (AW.ret ?_))
 cases h
 exact rv1
def ie :Int×Int→Option ((Int×Int)⊕Int):=fun (bh,kz)=>cnd (decide (kz≠(0:Int))) (gd (kz≠0) (some (.inl (kz,Int.tmod bh kz)))) (some (.inr bh))
def cp(JW:aq→aq→Option aq)(aY:aq)(a9:aq):Option aq:=bnd (cN [aY,a9]) fun x1=>cnd (!x1) (bnd (dY) fun x4=>some x4) (bnd (S:=Bool) (bnd (eu aY.vW) fun x6=>cnd (decide (x6≤(2:Int))) (bnd (eu a9.vW) fun x9=>some (decide (x9≤(2:Int)))) (some (false))) fun ng=>cnd ng (bnd (some (ior .u64 (vt .u64 (u64.wrap ((aY.vW)[((1:Int)).toNat]!)) (32:Int)) (u64.wrap ((aY.vW)[((0:Int)).toNat]!)))) fun pQ=>bnd (some (ior .u64 (vt .u64 (u64.wrap ((a9.vW)[((1:Int)).toNat]!)) (32:Int)) (u64.wrap ((a9.vW)[((0:Int)).toNat]!)))) fun JC=>bnd (a5 (ie) (pQ,JC)) fun dM=>bnd (bF false (#v[u32.wrap (dM),u32.wrap (lE .u64 dM (32:Int)),0,0,0,0,0,0,0,0,0,0,0,0,0,0])) fun HN=>some HN) (cnd (decide (¬(a9.vW=#v[(0:Int),0,0,0,0,0,0,0,0,0,0,0,0,0,0,0]))) (bnd (fB aY.vW a9.vW) fun xo=>bnd (bF false a9.vW) fun v8=>bnd (bF false xo.2) fun JA=>bnd (JW v8 JA) fun uF=>some uF) (bnd (oZ aY) fun x35=>some x35)))
theorem Cg {JW:aq→aq→Option aq}(ih:∀{aY:aq} {a9:aq} {r:aq},JW aY a9=some r→aB prog 93 [dG ap aY,dG ap a9] (dG ap r)){aY:aq}{a9:aq}{r:aq}(h:cp JW aY a9=some r):aB prog 93 [dG ap aY,dG ap a9] (dG ap r):=by
 refine bL (rs:=[.cell 4 32]) (fun cx hx h0=>?_) func93
 unfold cp at h
 refine rs hx fun K hK=>?_
 iterate 2 refine sa ?_
 refine s1 (bo (F:=ap.f bx) az) ?_
 refine .nil (hK _ _ (AW.seq (rs hx fun K hK=>?_)))
 refine s1 (d:=dG ap aY) (aF (an.id _ _) az) ?_
 refine s1 (d:=dG ap a9) (aF (an.id _ _) az) ?_
 refine s1 (qG ([aY,a9]:List aq) ap qg az) ?_
 refine scb h gl fun x1 h=>?_
 refine sa ?_
 refine .nil (hK _ _ (cdh h rfl (fun bm h=>?_) (fun bm h=>?_)))
 refine rs hx fun K hK=>?_
 refine scb h gz fun x4 h=>?_
 refine s0 (aO (b':=x4) (an.id _ _) az) ?_
 refine .nil (hK _ _ (AW.ret ?_))
 cases h
 exact rv1
 refine AW.skip ?_
 iterate 2 refine AW.seq ?_
 obtain⟨ng,hy,h⟩:=ah h
 refine jn ((PE cx .normal (fun ng=>[(2,.pt 0 0),(3,.pt 1 0),(4,.pt 2 0),(26,dB ng)]) fun ng=>⟨[(0,dC (ap.f aY)),(1,dC (ap.f a9)),(2,dC (ap.f bx))],[],3⟩) ng) ?_ ?_
 replace h:=hy
 refine rq hx fun K hK=>?_
 refine sa ?_
 refine s1 (aF (aU aY) aE) ?_
 refine scb h jN fun x6 h=>?_
 iterate 2 refine sa ?_
 rcases aZ (decide (x6≤(2:Int))) with oe|oe
 replace h:=a3 oe h
 refine ga oe ?_
 refine g1 oe (aF (aU a9) aE) ?_
 obtain⟨x9,ye,h⟩:=ah h
 refine g1 oe (dP rfl (jN ye) (by simp only[cD,dT,jZ,gj,eh,eC];exact bn _ _) (lA (eK _ _) lAn) (.inl rfl)) ?_
 refine ga oe ?_
 refine s1 (al oe) ?_
 refine .nil (hK _ _ ?_)
 cases h
 exact pe0 h0 [0,1,2]
 replace h:=a4 oe h
 iterate 4 refine aI rfl rfl oe ?_
 refine s1 (au oe) ?_
 refine .nil (hK _ _ ?_)
 cases h
 exact pe0 h0 [0,1,2]
 rintro ex tm' hp' ⟨rfl,hw⟩
 refine AW.weak hw (cdh h rfl (fun tL h=>?_) (fun tL h=>?_))
 refine rsd [] hx fun K hK=>?_
 refine sa ?_
 have It:((1:Int)).toNat<16:=by omega
 refine s1 (cl (by decide:0≤(1:Int)∧(1:Int)<((16:Nat):Int)) aE aH) ?_
 refine s1 (a8 (an.comp (aU aY) (an.vec (cI .u32) aY.vW ((1:Int)).toNat It) (fun _=>rfl)) aH) ?_
 iterate 3 refine sa ?_
 have hn14:((0:Int)).toNat<16:=by omega
 refine s1 (cl (by decide:0≤(0:Int)∧(0:Int)<((16:Nat):Int)) aE aH) ?_
 refine s1 (a8 (an.comp (aU aY) (an.vec (cI .u32) aY.vW ((0:Int)).toNat hn14) (fun _=>rfl)) aH) ?_
 iterate 3 refine sa ?_
 have NU:((1:Int)).toNat<16:=by omega
 refine s1 (cl (by decide:0≤(1:Int)∧(1:Int)<((16:Nat):Int)) aE aH) ?_
 refine s1 (a8 (an.comp (aU a9) (an.vec (cI .u32) a9.vW ((1:Int)).toNat NU) (fun _=>rfl)) aH) ?_
 iterate 3 refine sa ?_
 have Cz:((0:Int)).toNat<16:=by omega
 refine s1 (cl (by decide:0≤(0:Int)∧(0:Int)<((16:Nat):Int)) aE aH) ?_
 refine s1 (a8 (an.comp (aU a9) (an.vec (cI .u32) a9.vW ((0:Int)).toNat Cz) (fun _=>rfl)) aH) ?_
 iterate 2 refine sa ?_
 obtain⟨pQ,AP,h⟩:=ah h
 replace AP:=co AP
 refine s2 (d2:=dI .u64 pQ) li (fT (congrArg (dI .u64) AP)) ?_
 obtain⟨JC,hx20,h⟩:=ah h
 replace hx20:=co hx20
 refine s2 (d2:=dI .u64 JC) li (fT (congrArg (dI .u64) hx20)) ?_
 refine .nil (hK _ _ (AW.seq (AW.block ?_)))
 obtain⟨dM,hy,h⟩:=ah h
 refine lp (S:=Int×Int) (X:=Int) (fun (bh,kz)=>[(4,.pt 0 0),(5,dI .u64 bh),(6,dI .u64 kz)]) (fun (bh,kz)=>⟨[(0,dC (ap.f bx))],[],1⟩) (PE cx (.exit 0) (fun dM=>[(4,.pt 0 0),(5,dI .u64 dM)]) fun dM=>⟨[(0,dC (ap.f bx))],[],1⟩) hy ?_ ?_ ?_
 exact wk h0 [2] (wR rfl (wR rfl (wR rfl wTn))) (vC rfl wVn) wLn
 clear hy h
 rintro⟨bh,kz⟩ y h
 dsimp only[ie] at h
 refine AW.seq (ra hx ?_)
 refine cdh h rfl (fun Ex h=>?_) (fun Ex h=>?_)
 refine AW.skip (AW.block (rqd [] hx fun K hK=>?_))
 iterate 3 refine sa ?_
 obtain⟨Et,h⟩:=aC h
 refine s1 (DI Et) ?_
 iterate 2 refine sa ?_
 refine .nil (hK _ _ ?_)
 cases h
 exact PS.l (pe0 h0 [0])
 refine AW.exit ?_
 try dsimp only
 try simp only[aM,reduceIte,Nat.reduceEqDiff,reduceCtorEq]
 cases h
 exact PS.r ⟨by nofun,PE.i (wk h0 [0] (wR rfl (wR rfl wTn)) (vC rfl wVn) wLn)⟩
 rintro ex tm' hp' ⟨rfl,hw⟩
 try dsimp only
 try simp only[aM,reduceIte,Nat.reduceEqDiff,reduceCtorEq]
 refine AW.weak hw (rs hx fun K hK=>?_)
 iterate 5 refine sa ?_
 refine s1 (d:=dG al_cV (#v[u32.wrap (dM),u32.wrap (lE .u64 dM (32:Int)),0,0,0,0,0,0,0,0,0,0,0,0,0,0])) (lQ aE aH) ?_
 refine scb h cT fun HN h=>?_
 refine s0 (aO (b':=HN) (an.id _ _) az) ?_
 refine .nil (hK _ _ (AW.ret ?_))
 cases h
 exact rv1
 refine AW.skip ?_
 iterate 2 refine AW.seq ?_
 refine jn (PE cx .normal (fun (_:Unit)=>[(2,.pt 0 0),(4,.pt 1 0),(7,.pt 2 0),(8,.pt 3 0)]) (fun (_:Unit)=>⟨[(0,dC (ap.f aY)),(1,dC (ap.f bx)),(2,dC (al_cV.f aY.vW)),(3,dC (al_cV.f a9.vW))],[],4⟩) ()) ?_ ?_
 refine dw (DW.split 4 5 (by decide) ?_ ?_)
 refine DW.split 3 6 (by decide) ?_ ?_
 refine dwg [] [0,1,2,3,4,5,6,7] hx (by kernel_rfl) (by kernel_rfl) (by kernel_rfl) fun K hK=>?_
 dsimp only[d8,nj,nA,List.map]
 refine sa ?_
 refine s1 (aF (aU aY) aE) ?_
 refine sa ?_
 refine s1 (aF (aU a9) aE) ?_
 iterate 2 refine s1 (bo (F:=al_cV.f (bU)) aE) ?_
 refine s0 (aO (b':=aY.vW) (an.id _ _) aE) ?_
 refine s0 (aO (b':=a9.vW) (an.id _ _) aE) ?_
 exact .nil (hK _ _ (pe0 h0 [0,2,3,4]))
 refine dwg [] [0,1,2,4,5,6,3,7] hx (by kernel_rfl) (by kernel_rfl) (by kernel_rfl) fun K hK=>?_
 dsimp only[d8,nj,nA,List.map]
 refine sa ?_
 refine s1 (aF (aU aY) aE) ?_
 refine sa ?_
 iterate 2 refine s1 (bo (F:=al_cV.f (bU)) aE) ?_
 refine s0 (aO (b':=aY.vW) (an.id _ _) aE) ?_
 refine s1 (aF (aU a9) aE) ?_
 refine s0 (aO (b':=a9.vW) (an.id _ _) aE) ?_
 exact .nil (hK _ _ (pe0 h0 [0,2,3,4]))
 refine DW.split 3 6 (by decide) ?_ ?_
 refine dwg [] [0,1,2,3,5,4,6,7] hx (by kernel_rfl) (by kernel_rfl) (by kernel_rfl) fun K hK=>?_
 dsimp only[d8,nj,nA,List.map]
 refine sa ?_
 refine s1 (aF (aU aY) aE) ?_
 refine sa ?_
 refine s1 (aF (aU a9) aE) ?_
 iterate 2 refine s1 (bo (F:=al_cV.f (bU)) aE) ?_
 refine s0 (aO (b':=aY.vW) (an.id _ _) aE) ?_
 refine s0 (aO (b':=a9.vW) (an.id _ _) aE) ?_
 exact .nil (hK _ _ (pe0 h0 [0,2,4,3]))
 refine dwg [] [0,1,2,5,4,6,3,7] hx (by kernel_rfl) (by kernel_rfl) (by kernel_rfl) fun K hK=>?_
 dsimp only[d8,nj,nA,List.map]
 refine sa ?_
 refine s1 (aF (aU aY) aE) ?_
 refine sa ?_
 iterate 2 refine s1 (bo (F:=al_cV.f (bU)) aE) ?_
 refine s0 (aO (b':=aY.vW) (an.id _ _) aE) ?_
 refine s1 (aF (aU a9) aE) ?_
 refine s0 (aO (b':=a9.vW) (an.id _ _) aE) ?_
 exact .nil (hK _ _ (pe0 h0 [0,2,4,3]))
 rintro ex tm' hp' ⟨rfl,hw⟩
 refine AW.weak hw (rs hx fun K hK=>?_)
 refine s1 (d:=dG al_cV a9.vW) (aF (an.id _ _) aE) ?_
 refine s1 (d:=dG al_cV (#v[(0:Int),0,0,0,0,0,0,0,0,0,0,0,0,0,0,0])) (lQ aE aH) ?_
 refine s1 (yM tok 2 (by decide) (EqC.arr (EqC.int (d:=0) aH) aE aH) aE) ?_
 refine .nil (hK _ _ (cdh h rfl (fun A4 h=>?_) (fun A4 h=>?_)))
 refine rs hx fun K hK=>?_
 refine s1 (d:=dG al_cV aY.vW) (aF (an.id _ _) aE) ?_
 refine s1 (d:=dG al_cV a9.vW) (aF (an.id _ _) aE) ?_
 refine scb h rB fun xo h=>?_
 iterate 3 refine sa ?_
 iterate 2 refine s1 (bo (F:=al_cV.f (bU)) aE) ?_
 refine s0 (aO (b':=xo.1) (an.id _ _) aE) ?_
 refine s0 (aO (b':=xo.2) (an.id _ _) aE) ?_
 refine .nil (hK _ _ (rsd [111,93] hx fun K hK=>?_))
 refine s1 (d:=dG al_cV a9.vW) (aF (an.id _ _) aE) ?_
 refine cqb h cT fun v8 h=>?_
 refine s1 (d:=dG al_cV xo.2) (aF (an.id _ _) aE) ?_
 refine cqb h cT fun JA h=>?_
 refine cqb h ih fun uF h=>?_
 refine s0 (aO (b':=uF) (an.id _ _) az) ?_
 refine .nil (hK _ _ (AW.ret ?_))
 cases h
 exact rv1
 refine AW.skip (rs hx fun K hK=>?_)
 refine s1 (d:=dG ap aY) (aF (an.id _ _) az) ?_
 refine scb h FE fun x35 h=>?_
 refine s0 (aO (b':=x35) (an.id _ _) az) ?_
 refine .nil (hK _ _ (AW.ret ?_))
 cases h
 exact rv1
def gC:Nat→aq→aq→Option aq
 |0=>fun _ _=>none
 |n+1=>cp (gC n)
theorem uL:∀(n:Nat) {aY:aq} {a9:aq} {r:aq},gC n aY a9=some r→aB prog 93 [dG ap aY,dG ap a9] (dG ap r)
 |0,_,_,_,h=>by cases h
 |n+1,_,_,_,h=>Cg (uL n) h
def m7(aY:aq)(a9:aq):Option aq:=gC 1000 aY a9
theorem tw {aY:aq}{a9:aq}{r:aq}(h:m7 aY a9=some r):aB prog 93 [dG ap aY,dG ap a9] (dG ap r):=uL 1000 h
def kb(aY:aq)(a9:aq):Option (aq×aq):=bnd (S:=Bool) (bnd (cN [aY,a9]) fun x1=>cnd (!x1) (some (true)) (bnd (gr a9) fun x4=>some (decide (x4=(0:Int))))) fun bB=>cnd bB (bnd (dY) fun x8=>bnd (dY) fun nl=>some (x8,nl)) (bnd (S:=Unit⊕(aq×aq)) (bnd (kE aY) fun jG=>bnd (S:=Bool) (cnd jG.2 (some (decide (jG.1≠(-9223372036854775808:Int)))) (some (false))) fun c9=>cnd c9 (bnd (kE a9) fun pQ=>bnd (S:=Bool) (cnd pQ.2 (some (decide (pQ.1≠(-9223372036854775808:Int)))) (some (false))) fun nf=>cnd nf (gd (pQ.1≠0) (gd (pQ.1≠0) (bnd (S:=Int×Int) (bnd (S:=Bool) (cnd (decide ((Int.tmod jG.1 pQ.1)≠(0:Int))) (some (!((decide ((Int.tmod jG.1 pQ.1)<(0:Int))) == (decide (pQ.1<(0:Int)))))) (some (false))) fun zy=>cnd zy (bnd (some (i64.wrap ((i64.wrap (Int.tdiv jG.1 pQ.1)) - (1:Int)))) fun xo=>bnd (some (i64.wrap ((Int.tmod jG.1 pQ.1)+pQ.1))) fun v8=>some ((xo,v8))) (some ((i64.wrap (Int.tdiv jG.1 pQ.1),Int.tmod jG.1 pQ.1)))) fun (jE,pP)=>bnd (eN jE) fun x32=>bnd (eN pP) fun x34=>some (.inr (x32,x34))))) (some (.inl ()))) (some (.inl ()))) fun y36=>match y36 with| .inl ()=>bnd (fB aY.vW a9.vW) fun zT=>bnd (bF (!(aY.vNeg == a9.vNeg)) zT.1) fun HF=>bnd (S:=(Vector Int 16)×aq) (bnd (S:=Bool) (cnd (decide (¬(zT.2=#v[(0:Int),0,0,0,0,0,0,0,0,0,0,0,0,0,0,0]))) (some (!(aY.vNeg == a9.vNeg))) (some (false))) fun qD=>cnd qD (bnd (eN (1:Int)) fun x44=>bnd (m6 HF x44) fun x46=>bnd (gB a9.vW zT.2) fun x48=>some ((x48,x46))) (some ((zT.2,HF)))) fun (zw,xa)=>bnd (bF a9.vNeg zw) fun zB=>some (xa,zB)| .inr r=>some r)
theorem zD {aY:aq}{a9:aq}{r:aq×aq}(h:kb aY a9=some r):aB prog 159 [dG ap aY,dG ap a9] (.tu [dG ap r.1,dG ap r.2]):=by
 refine bL (rs:=[.cell 4 32,.cell 5 32]) (fun cx hx h0=>?_) func159
 unfold kb at h
 refine rs hx fun K hK=>?_
 iterate 2 refine sa ?_
 iterate 2 refine s1 (bo (F:=ap.f bx) az) ?_
 refine .nil (hK _ _ ?_)
 iterate 2 refine AW.seq ?_
 obtain⟨bB,hy,h⟩:=ah h
 refine jn ((PE cx .normal (fun bB=>[(2,.pt 0 0),(3,.pt 1 0),(4,.pt 2 0),(5,.pt 3 0),(24,dB bB)]) fun bB=>⟨[(0,dC (ap.f aY)),(1,dC (ap.f a9)),(2,dC (ap.f bx)),(3,dC (ap.f bx))],[],4⟩) bB) ?_ ?_
 replace h:=hy
 refine rq hx fun K hK=>?_
 refine s1 (d:=dG ap aY) (aF (an.id _ _) az) ?_
 refine s1 (d:=dG ap a9) (aF (an.id _ _) az) ?_
 refine s1 (qG ([aY,a9]:List aq) ap qg az) ?_
 refine scb h gl fun x1 h=>?_
 iterate 2 refine sa ?_
 rcases aZ (!x1) with bm|bm
 replace h:=a3 bm h
 iterate 3 refine aI rfl rfl bm ?_
 refine s1 (al bm) ?_
 refine .nil (hK _ _ ?_)
 cases h
 exact pe0 h0 [0,1,2,3]
 replace h:=a4 bm h
 refine g1 (d:=dG ap a9) bm (aF (an.id _ _) az) ?_
 obtain⟨x4,vu,h⟩:=ah h
 refine g1 bm (dP rfl (np vu) (by simp only[cD,dT,jZ,gj,eh,eC];exact bn _ _) (lA (eK _ _) lAn) (.inl rfl)) ?_
 refine ga bm ?_
 refine s1 (au bm) ?_
 refine .nil (hK _ _ ?_)
 cases h
 exact pe0 h0 [0,1,2,3]
 rintro ex tm' hp' ⟨rfl,hw⟩
 refine AW.weak hw (cdh h rfl (fun tg h=>?_) (fun tg h=>?_))
 refine rs hx fun K hK=>?_
 refine scb h gz fun x8 h=>?_
 refine scb h gz fun nl h=>?_
 refine s0 (aO (b':=x8) (an.id _ _) az) ?_
 refine s0 (aO (b':=nl) (an.id _ _) az) ?_
 refine .nil (hK _ _ (AW.ret ?_))
 cases h
 exact rv2
 refine AW.skip (AW.seq ?_)
 obtain⟨y,hy,h⟩:=ah h
 refine jn ((PS (PE cx .normal (fun ()=>[(2,.pt 0 0),(3,.pt 1 0),(4,.pt 2 0),(5,.pt 3 0)]) fun ()=>⟨[(0,dC (ap.f aY)),(1,dC (ap.f a9)),(2,dC (ap.f bx)),(3,dC (ap.f bx))],[],4⟩) (PR [.cell 4 32,.cell 5 32] fun r=>.tu [dG ap r.1,dG ap r.2])) y) ?_ ?_
 replace h:=hy
 refine rs hx fun K hK=>?_
 refine s1 (d:=dG ap aY) (aF (an.id _ _) az) ?_
 refine scb h uK fun jG h=>?_
 iterate 5 refine sa ?_
 refine .nil (hK _ _ (AW.seq ?_))
 obtain⟨c9,hy,h⟩:=ah h
 refine jn ((PE cx .normal (fun c9=>[(2,.pt 0 0),(3,.pt 1 0),(4,.pt 2 0),(5,.pt 3 0),(6,dI .i64 jG.1),(36,dB c9)]) fun c9=>⟨[(0,dC (ap.f aY)),(1,dC (ap.f a9)),(2,dC (ap.f bx)),(3,dC (ap.f bx))],[],4⟩) c9) ?_ ?_
 replace h:=hy
 refine rq hx fun K hK=>?_
 iterate 2 refine sa ?_
 rcases aZ jG.2 with nF|nF
 replace h:=a3 nF h
 iterate 2 refine ga nF ?_
 refine s1 (al nF) ?_
 refine .nil (hK _ _ ?_)
 cases h
 exact pe0 h0 [0,1,2,3]
 replace h:=a4 nF h
 iterate 2 refine aI rfl rfl nF ?_
 refine s1 (au nF) ?_
 refine .nil (hK _ _ ?_)
 cases h
 exact pe0 h0 [0,1,2,3]
 rintro ex tm' hp' ⟨rfl,hw⟩
 refine AW.weak hw (cdh h rfl (fun IJ h=>?_) (fun IJ h=>?_))
 refine rs hx fun K hK=>?_
 refine s1 (d:=dG ap a9) (aF (an.id _ _) az) ?_
 refine scb h uK fun pQ h=>?_
 iterate 5 refine sa ?_
 refine .nil (hK _ _ (AW.seq ?_))
 obtain⟨nf,hy,h⟩:=ah h
 refine jn ((PE cx .normal (fun nf=>[(2,.pt 0 0),(3,.pt 1 0),(4,.pt 2 0),(5,.pt 3 0),(6,dI .i64 jG.1),(8,dI .i64 pQ.1),(46,dB nf)]) fun nf=>⟨[(0,dC (ap.f aY)),(1,dC (ap.f a9)),(2,dC (ap.f bx)),(3,dC (ap.f bx))],[],4⟩) nf) ?_ ?_
 replace h:=hy
 refine rq hx fun K hK=>?_
 iterate 2 refine sa ?_
 rcases aZ pQ.2 with A5|A5
 replace h:=a3 A5 h
 iterate 2 refine ga A5 ?_
 refine s1 (al A5) ?_
 refine .nil (hK _ _ ?_)
 cases h
 exact pe0 h0 [0,1,2,3]
 replace h:=a4 A5 h
 iterate 2 refine aI rfl rfl A5 ?_
 refine s1 (au A5) ?_
 refine .nil (hK _ _ ?_)
 cases h
 exact pe0 h0 [0,1,2,3]
 rintro ex tm' hp' ⟨rfl,hw⟩
 refine AW.weak hw (cdh h rfl (fun Ex h=>?_) (fun Ex h=>?_))
 refine rsd [] hx fun K hK=>?_
 iterate 2 refine sa ?_
 obtain⟨Et,h⟩:=aC h
 refine s1 (Hr Et) ?_
 iterate 2 refine sa ?_
 obtain⟨hc23,h⟩:=aC h
 refine s1 (DI hc23) ?_
 iterate 2 refine sa ?_
 refine .nil (hK _ _ (AW.seq ?_))
 obtain⟨y,hy,h⟩:=ah h
 refine jn ((PE cx .normal (fun (jE,pP)=>[(4,.pt 0 0),(5,.pt 1 0),(10,dI .i64 jE),(11,dI .i64 pP)]) fun (jE,pP)=>⟨[(0,dC (ap.f bx)),(1,dC (ap.f bx))],[],2⟩) y) ?_ ?_
 replace h:=hy
 refine AW.seq ?_
 obtain⟨zy,hy,h⟩:=ah h
 refine jn ((PE cx .normal (fun zy=>[(4,.pt 0 0),(5,.pt 1 0),(8,dI .i64 pQ.1),(10,dI .i64 (i64.wrap (Int.tdiv jG.1 pQ.1))),(11,dI .i64 (Int.tmod jG.1 pQ.1)),(61,dB zy)]) fun zy=>⟨[(0,dC (ap.f bx)),(1,dC (ap.f bx))],[],2⟩) zy) ?_ ?_
 replace h:=hy
 refine rq hx fun K hK=>?_
 iterate 3 refine sa ?_
 rcases aZ (decide ((Int.tmod jG.1 pQ.1)≠(0:Int))) with rk|rk
 replace h:=a3 rk h
 iterate 5 refine ga rk ?_
 refine s1 (al rk) ?_
 refine .nil (hK _ _ ?_)
 cases h
 exact pe0 h0 [2,3]
 replace h:=a4 rk h
 iterate 5 refine aI rfl rfl rk ?_
 refine s1 (au rk) ?_
 refine .nil (hK _ _ ?_)
 cases h
 exact pe0 h0 [2,3]
 rintro ex tm' hp' ⟨rfl,hw⟩
 refine AW.weak hw (cdh h rfl (fun A4 h=>?_) (fun A4 h=>?_))
 refine rq hx fun K hK=>?_
 iterate 5 refine sa ?_
 obtain⟨xo,Ik,h⟩:=ah h
 replace Ik:=co Ik
 refine s2 (d2:=dI .i64 xo) li (fT (congrArg (dI .i64) Ik)) ?_
 obtain⟨v8,hx30,h⟩:=ah h
 replace hx30:=co hx30
 refine s2 (d2:=dI .i64 v8) li (fT (congrArg (dI .i64) hx30)) ?_
 refine .nil (hK _ _ ?_)
 cases h
 exact pe0 h0 [0,1]
 refine AW.skip ?_
 cases h
 exact pe0 h0 [0,1]
 obtain⟨jE,pP⟩:=y
 rintro ex tm' hp' ⟨rfl,hw⟩
 refine AW.weak hw (rs hx fun K hK=>?_)
 refine sa ?_
 refine scb h mL fun x32 h=>?_
 refine sa ?_
 refine scb h mL fun x34 h=>?_
 refine s0 (aO (b':=x32) (an.id _ _) az) ?_
 refine s0 (aO (b':=x34) (an.id _ _) az) ?_
 refine .nil (hK _ _ (AW.ret ?_))
 cases h
 refine PS.r (PR.i ?_)
 exact rv2
 refine AW.skip ?_
 cases h
 exact PS.l (pe0 h0 [0,1,2,3])
 refine AW.skip ?_
 cases h
 exact PS.l (pe0 h0 [0,1,2,3])
 rcases y with⟨⟩|r
 rintro ex tm' hp' ⟨rfl,hw⟩
 refine AW.weak hw (rs hx fun K hK=>?_)
 refine sa ?_
 refine s1 (aF (aU aY) aE) ?_
 refine sa ?_
 refine s1 (aF (aU a9) aE) ?_
 refine scb h rB fun zT h=>?_
 iterate 3 refine sa ?_
 iterate 2 refine s1 (bo (F:=al_cV.f (bU)) aE) ?_
 refine s0 (aO (b':=zT.1) (an.id _ _) aE) ?_
 refine s0 (aO (b':=zT.2) (an.id _ _) aE) ?_
 refine .nil (hK _ _ (rs hx fun K hK=>?_))
 refine sa ?_
 refine s1 (a8 (bw aY) gp) ?_
 refine sa ?_
 refine s1 (a8 (bw a9) gp) ?_
 refine sa ?_
 refine s1 (d:=dG al_cV zT.1) (aF (an.id _ _) aE) ?_
 refine scb h cT fun HF h=>?_
 refine s1 (bo (F:=ap.f bx) az) ?_
 refine s0 (aO (b':=HF) (an.id _ _) az) ?_
 refine .nil (hK _ _ (AW.seq ?_))
 obtain⟨y,hy,h⟩:=ah h
 refine jn ((PE cx .normal (fun (zw,xa)=>[(3,.pt 0 0),(4,.pt 1 0),(5,.pt 2 0),(13,.pt 3 0),(14,.pt 4 0)]) fun (zw,xa)=>⟨[(0,dC (ap.f a9)),(1,dC (ap.f bx)),(2,dC (ap.f bx)),(3,dC (al_cV.f zw)),(4,dC (ap.f xa))],[],5⟩) y) ?_ ?_
 replace h:=hy
 refine AW.seq ?_
 obtain⟨qD,hy,h⟩:=ah h
 refine jn ((PE cx .normal (fun qD=>[(3,.pt 0 0),(4,.pt 1 0),(5,.pt 2 0),(13,.pt 3 0),(14,.pt 4 0),(95,dB qD)]) fun qD=>⟨[(0,dC (ap.f a9)),(1,dC (ap.f bx)),(2,dC (ap.f bx)),(3,dC (al_cV.f zT.2)),(4,dC (ap.f HF))],[],5⟩) qD) ?_ ?_
 replace h:=hy
 refine rq hx fun K hK=>?_
 refine s1 (d:=dG al_cV zT.2) (aF (an.id _ _) aE) ?_
 refine s1 (d:=dG al_cV (#v[(0:Int),0,0,0,0,0,0,0,0,0,0,0,0,0,0,0])) (lQ aE aH) ?_
 refine s1 (yM tok 2 (by decide) (EqC.arr (EqC.int (d:=0) aH) aE aH) aE) ?_
 refine sa ?_
 rcases aZ (decide (¬(zT.2=#v[(0:Int),0,0,0,0,0,0,0,0,0,0,0,0,0,0,0]))) with sC|sC
 replace h:=a3 sC h
 refine ga sC ?_
 refine g1 sC (a8 (bw aY) gp) ?_
 refine ga sC ?_
 refine g1 sC (a8 (bw a9) gp) ?_
 refine ga sC ?_
 refine s1 (al sC) ?_
 refine .nil (hK _ _ ?_)
 cases h
 exact pe0 h0 [1,2,3,5,6]
 replace h:=a4 sC h
 iterate 5 refine aI rfl rfl sC ?_
 refine s1 (au sC) ?_
 refine .nil (hK _ _ ?_)
 cases h
 exact pe0 h0 [1,2,3,5,6]
 rintro ex tm' hp' ⟨rfl,hw⟩
 refine AW.weak hw (cdh h rfl (fun Eu h=>?_) (fun Eu h=>?_))
 refine rqd [105,177,162] hx fun K hK=>?_
 refine s1 (d:=dG ap HF) (aF (an.id _ _) az) ?_
 refine cqb h mL fun x44 h=>?_
 refine cqb h FD fun x46 h=>?_
 refine sa ?_
 refine s1 (aF (aU a9) aE) ?_
 refine s1 (d:=dG al_cV zT.2) (aF (an.id _ _) aE) ?_
 refine cqb h rf fun x48 h=>?_
 refine s0 (aO (b':=x46) (an.id _ _) az) ?_
 refine s0 (aO (b':=x48) (an.id _ _) aE) ?_
 refine .nil (hK _ _ ?_)
 cases h
 exact pe0 h0 [0,1,2,3,4]
 refine AW.skip ?_
 cases h
 exact pe0 h0 [0,1,2,3,4]
 obtain⟨zw,xa⟩:=y
 rintro ex tm' hp' ⟨rfl,hw⟩
 refine AW.weak hw (rsd [111] hx fun K hK=>?_)
 refine s1 (d:=dG ap xa) (aF (an.id _ _) az) ?_
 refine sa ?_
 refine s1 (a8 (bw a9) gp) ?_
 refine s1 (d:=dG al_cV zw) (aF (an.id _ _) aE) ?_
 refine cqb h cT fun zB h=>?_
 refine s0 (aO (b':=xa) (an.id _ _) az) ?_
 refine s0 (aO (b':=zB) (an.id _ _) az) ?_
 refine .nil (hK _ _ (AW.ret ?_))
 cases h
 exact rv2
 rintro ex tm' hp' ⟨rfl,hw⟩
 cases h
 exact hw
def jJ(aY:aq)(a9:aq):Option aq:=bnd (kb aY a9) fun x1=>some x1.1
theorem m4 {aY:aq}{a9:aq}{r:aq}(h:jJ aY a9=some r):aB prog 126 [dG ap aY,dG ap a9] (dG ap r):=by
 refine bL (rs:=[.cell 4 32]) (fun cx hx h0=>?_) func126
 unfold jJ at h
 refine rs hx fun K hK=>?_
 iterate 2 refine sa ?_
 refine s1 (bo (F:=ap.f bx) az) ?_
 refine .nil (hK _ _ (rs hx fun K hK=>?_))
 refine s1 (d:=dG ap aY) (aF (an.id _ _) az) ?_
 refine s1 (d:=dG ap a9) (aF (an.id _ _) az) ?_
 refine scb h zD fun x1 h=>?_
 iterate 3 refine sa ?_
 iterate 2 refine s1 (bo (F:=ap.f bx) az) ?_
 refine s0 (aO (b':=x1.1) (an.id _ _) az) ?_
 refine s0 (aO (b':=x1.2) (an.id _ _) az) ?_
 refine .nil (hK _ _ (rs hx fun K hK=>?_))
 refine s1 (d:=dG ap x1.1) (aF (an.id _ _) az) ?_
 refine s0 (aO (b':=x1.1) (an.id _ _) az) ?_
 refine .nil (hK _ _ (AW.ret ?_))
 cases h
 exact rv1
section
theorem vsub {b n A:Nat}(m o:Nat)(h:o+m≤n):vOf m (List.take m (List.drop o (vN b n A).toList))=vN b m (A / b ^ o):=by
 have hl:(List.take m (List.drop o (vN b n A).toList)).length=m:=by
  rw[eL,gi,mY];omega
 apply nz
 intro j hj
 rw[iQ hj]
 have e1:=wo (vOf m (List.take m (List.drop o (vN b n A).toList))) hj
 rw[vf hl] at e1
 rw[←e1,gF _ j (by omega),List.getElem_take,List.getElem_drop]
 have e2:=iQ (b:=b) (A:=A) (j:=o+j) (n:=n) (by omega)
 rw[←wo (vN b n A) (by omega),gF _ (o+j) (by rw[mY];omega)] at e2
 rw[e2]
 unfold dg
 rw[gy,gb]
section
variable {b R a B i k:Nat}
def qI(b R a B i k:Nat):Nat:=R % b ^ (i+k)+a*(B % b ^ k)*b ^ i
def v5(b R a B i k:Nat):Nat:=R / b ^ (i+k)*b ^ (i+k)+qI b R a B i k % b ^ (i+k)
theorem DJ:qI b R a B i (k+1)=qI b R a B i k+b ^ (i+k)*(dg b R (i+k)+a*dg b B k):=by
 unfold qI
 rw[show i+(k+1)=i+k+1 from rfl,ge,ge (A:=B),sO,sO,bk,gy b i k]
 have:a*(b ^ k*dg b B k)*b ^ i=b ^ i*b ^ k*(a*dg b B k):=by
  simp only[eV,yJ,cj]
 rw[this];omega
theorem KS(hb:0<b)(ha:a<b):qI b R a B i k / b ^ (i+k)<b:=by
 have hp:0<b ^ (i+k):=cJ hb
 rw[oh hp]
 unfold qI
 have h1:=dA R hp
 have h2:a*(B % b ^ k)*b ^ i≤(b - 1)*b ^ (i+k):=by
  rw[gy,eV]
  refine pY (by omega) ?_
  rw[cj (b ^ i)]
  exact ci _ (kQ (dA _ (cJ hb)))
 have h3:(b - 1)*b ^ (i+k)+b ^ (i+k)=b*b ^ (i+k):=by
  rw[←rV];congr 1;omega
 omega
theorem Orow_dg(hb:0<b):dg b (v5 b R a B i k) (i+k)=dg b R (i+k):=by
 unfold v5 dg
 rw[cj (R / _),vZ (cJ hb),dv (dA _ (cJ hb)),lc]
theorem LX(hb:0<b):up1 b (v5 b R a B i k) (i+k) (qI b R a B i (k+1) / b ^ (i+k) % b)=v5 b R a B i (k+1):=by
 have hp:0<b ^ (i+k):=cJ hb
 have e1:v5 b R a B i k / b ^ (i+k+1)=R / b ^ (i+k+1):=by
  rw[eH,←gb,←gb]
  congr 1
  unfold v5
  rw[cj (R / _),vZ hp,dv (dA _ hp),lc]
 have e2:v5 b R a B i k % b ^ (i+k)=qI b R a B i (k+1) % b ^ (i+k):=by
  rw[DJ,yI]
  unfold v5
  rw[cj (R / _),Nat.mul_add_mod,yH]
 unfold up1
 rw[e1,e2]
 show _=R / b ^ (i+k+1)*b ^ (i+k+1)+qI b R a B i (k+1) % b ^ (i+k+1)
 rw[ge (A:=qI b R a B i (k+1)),cj (b ^ (i+k)) (dg _ _ _)]
 unfold dg
 omega
end
theorem Mul_row {A B i m:Nat}(hi:i<16)(hm:m≤16)(hB:B<4294967296 ^ m)(x y:aq)(hx:x.vW=W A)(hy:y.vW=W B):
  ∃c:Nat,c<4294967296∧∃O:Nat,a5 (ib x y (m:Int) (i:Int)) ((0:Int),(0:Int),vN 4294967296 32 (A % 4294967296 ^ i*B))=some ((c:Int),vN 4294967296 32 O)∧up1 4294967296 O (i+m) c=A % 4294967296 ^ (i+1)*B:=by
 have hb:0<(4294967296:Nat):=by decide
 have hR:A % 4294967296 ^ i*B<4294967296 ^ (i+m):=by
  rw[gy]
  exact Nat.mul_lt_mul_of_lt_of_le (dA _ (cJ hb)) (kQ hB) (cJ hb)
 generalize hRR:A % 4294967296 ^ i*B=R at hR ⊢
 have ha:=@dgl A i
 have hl:=qm (b:=ib x y (m:Int) (i:Int)) (s0:=((0:Int),(0:Int),vN 4294967296 32 R)) (fun k=>((qI 4294967296 R (dg 4294967296 A i) B i k / 4294967296 ^ (i+k):Nat),(k:Int),vN 4294967296 32 (v5 4294967296 R (dg 4294967296 A i) B i k))) m ((qI 4294967296 R (dg 4294967296 A i) B i m / 4294967296 ^ (i+m):Nat),vN 4294967296 32 (v5 4294967296 R (dg 4294967296 A i) B i m))
  (by
   have e1:qI 4294967296 R (dg 4294967296 A i) B i 0=R % 4294967296 ^ i:=by unfold qI;simp[mm]
   have e2:v5 4294967296 R (dg 4294967296 A i) B i 0=R:=by
    unfold v5;rw[e1,lc,yH,cj];exact og _ _
   rw[e1,e2,lc,dv (dA _ (cJ hb))]
   rfl)
  (fun k hk=>by
   have hk16:k<16:=by omega
   have hc:=KS (b:=4294967296) (R:=R) (a:=dg 4294967296 A i) (B:=B) (i:=i) (k:=k) hb ha
   have hbk:=@dgl B k
   have hr:=@dgl R (i+k)
   have Kb:dg 4294967296 A i*dg 4294967296 B k≤4294967295*4294967295:=pY (by omega) (by omega)
   have Cy:qI 4294967296 R (dg 4294967296 A i) B i (k+1) / 4294967296 ^ (i+k)=qI 4294967296 R (dg 4294967296 A i) B i k / 4294967296 ^ (i+k)+(dg 4294967296 A i*dg 4294967296 B k+dg 4294967296 R (i+k)):=by
    rw[DJ,vY _ _ (cJ hb),pi (dg 4294967296 R (i+k))]
   have yb:qI 4294967296 R (dg 4294967296 A i) B i (k+1) / 4294967296 ^ (i+(k+1))=qI 4294967296 R (dg 4294967296 A i) B i (k+1) / 4294967296 ^ (i+k) / 4294967296:=by
    rw[gb,←eH];rfl
   have rx:=LX (b:=4294967296) (R:=R) (a:=dg 4294967296 A i) (B:=B) (i:=i) (k:=k) hb
   rw[yb]
   generalize qI 4294967296 R (dg 4294967296 A i) B i (k+1) / 4294967296 ^ (i+k)=x1 at Cy rx ⊢
   generalize qI 4294967296 R (dg 4294967296 A i) B i k / 4294967296 ^ (i+k)=c at Cy hc ⊢
   have eik:i64.wrap ((i:Int)+(k:Int))=((i+k:Nat):Int):=by rw[cd];omega
   dsimp only[ib]
   rw[bt _ _,aJ,aJ,eik,aJ,ab,aJ,ab,bH,bH,bH,hx,hy,fY hi,fY hk16,iQ (by omega),Orow_dg hb,
    gJ (n:=dg 4294967296 A i) (by omega),gJ (n:=dg 4294967296 B k) (by omega),gJ (n:=dg 4294967296 R (i+k)) (by omega),←oH,gJ (n:=dg 4294967296 A i*dg 4294967296 B k) (by omega),←kP,gJ,←kP,gJ,←Cy,uO,xD,xA hb (dA _ hb) (by omega),rx,cd]
   rfl)
  (by
   dsimp only[ib]
   rw[bu _ _])
 refine⟨_,KS hb ha,_,hl,?_⟩
 have e1:qI 4294967296 R (dg 4294967296 A i) B i m=R+dg 4294967296 A i*B*4294967296 ^ i:=by
  unfold qI;rw[dK hR,dK hB]
 have e2:v5 4294967296 R (dg 4294967296 A i) B i m=qI 4294967296 R (dg 4294967296 A i) B i m % 4294967296 ^ (i+m):=by
  unfold v5;rw[dv hR,fe,bq]
 have hO:v5 4294967296 R (dg 4294967296 A i) B i m<4294967296 ^ (i+m):=by rw[e2];exact dA _ (cJ hb)
 unfold up1
 rw[dv (bW hO (g9 hb (dJ _))),fe,bq,dK hO,e2,cj (_ / _),og,e1,←hRR,ge (A:=A),bk]
 congr 1
 simp only[eV,yJ,cj]
theorem PA {A B n m:Nat}(hn:n≤16)(hm:m≤16)(hA:A<4294967296 ^ n)(hB:B<4294967296 ^ m)(x y:aq)(hx:x.vW=W A)(hy:y.vW=W B):
  a5 (ic x y (n:Int) (m:Int)) ((0:Int),Vector.replicate 32 (0:Int))=some (vN 4294967296 32 (A*B)):=by
 have hb:0<(4294967296:Nat):=by decide
 have hl:=qm (b:=ic x y (n:Int) (m:Int)) (s0:=((0:Int),Vector.replicate 32 (0:Int))) (fun i=>((i:Int),vN 4294967296 32 (A % 4294967296 ^ i*B))) n (vN 4294967296 32 (A % 4294967296 ^ n*B))
  (by simp only[fI,mm,fe,qP];rfl)
  (fun i hi=>by
   obtain⟨c,hc,O,h1,h2⟩:=Mul_row (i:=i) (by omega) hm hB x y hx hy
   have eim:i64.wrap ((i:Int)+(m:Int))=((i+m:Nat):Int):=by rw[cd];omega
   dsimp only[ic]
   rw[bt _ _,h1,ab]
   dsimp only
   rw[eim,aJ,ab,bH,xC hc,xA hb hc (by omega),h2,cd]
   rfl)
  (by
   dsimp only[ic]
   rw[bu _ _])
 rw[hl,dK hA]
theorem HB {a c:Int}(ha:a.natAbs<LIM)(hc:c.natAbs<LIM):ix (enc a) (enc c)=some (enc (a*c)):=by
 obtain⟨n,hn,hn1,GJ⟩:=yR ha
 obtain⟨m,hm,Lw,hm2⟩:=yR hc
 have Kb:a.natAbs*c.natAbs<4294967296 ^ 16*4294967296 ^ 16:=yG ha hc
 unfold ix
 rw[sT,bQ ha,bQ hc,ab]
 simp only[eh,eo,ba]
 rw[l9 ha,l9 hc,hn1,ab,Lw,ab,PA hn hm GJ.1 hm2.1 (enc a) (enc c) (l9 ha) (l9 hc),ab,vsub 16 16 (by omega),vsub 16 0 (by omega),z16,nQ ha,nQ hc,fI,mX]
 have hq:a.natAbs*c.natAbs / 4294967296 ^ 16<LIM:=Hj Kb
 have hz:(vN 4294967296 16 (a.natAbs*c.natAbs / 4294967296 ^ 16)=W 0)↔a.natAbs*c.natAbs<LIM:=by
  rw[BU hq uA,Fb (by decide)];rfl
 simp only[hz]
 by_cases h:a.natAbs*c.natAbs<LIM
 ·rw[bu _ _ (by simpa using h),iO h,ab]
  congr 2
  rcases Int.natAbs_eq a with e1|e1 <;> rcases Int.natAbs_eq c with e2|e2 <;> skip
  all_goals
   by_cases ha0:a<0 <;> by_cases hc0:c<0 <;> simp only[ha0,hc0,ru,rt,BL,eo,t5,lO,cond_false,Bool.true_beq,Bool.false_beq,oH]
  all_goals (first|(exfalso;omega)|(have ea:(a.natAbs:Int)=a:=(by omega);have ec:(c.natAbs:Int)=c:=(by omega);rw[ea,ec])|(have ea:(a.natAbs:Int)=-a:=(by omega);have ec:(c.natAbs:Int)=c:=(by omega);rw[ea,ec,Int.neg_mul,Int.neg_neg])|(have ea:(a.natAbs:Int)=a:=(by omega);have ec:(c.natAbs:Int)=-c:=(by omega);rw[ea,ec,Int.mul_neg,Int.neg_neg])|(have ea:(a.natAbs:Int)=-a:=(by omega);have ec:(c.natAbs:Int)=-c:=(by omega);rw[ea,ec,Int.neg_mul_neg])|skip)
 ·rw[bt _ _ (by simpa using h),K3,ab,Bd (by rw[vX];exact h)]
end
theorem set16(x y:Int):(#v[x,y,0,0,0,0,0,0,0,0,0,0,0,0,0,0]:Vector Int 16)=((W 0).set! 0 x).set! 1 y:=by
 rw[←z16];rfl
theorem Pi {u:Nat}(hu:u<18446744073709551616):(#v[((u % 4294967296:Nat):Int),((u / 4294967296:Nat):Int),0,0,0,0,0,0,0,0,0,0,0,0,0,0]:Vector Int 16)=W u:=by
 have hb:0<(4294967296:Nat):=by decide
 have hx:u % 4294967296<4294967296:=dA _ hb
 have hy:u / 4294967296<4294967296:=by omega
 rw[set16]
 unfold W
 rw[xA hb hx (by omega)]
 have e1:up1 4294967296 0 0 (u % 4294967296)=u % 4294967296:=by
  have:=HT (b:=4294967296) (A:=0) (p:=0) (x:=u % 4294967296)
  rw[kZ (by decide)] at this
  omega
 have h:=HT (b:=4294967296) (A:=u % 4294967296) (p:=1) (x:=u / 4294967296)
 rw[kZ (by rw[t4];exact hx),t4,fe,lc,Nat.mod_add_div'] at h
 rw[e1,xA hb hy (by omega),h]
theorem Fm {n:Int}(h1:-9223372036854775808≤n)(h2:n≤9223372036854775807):eN n=some (enc n):=by
 have hu:n.natAbs<18446744073709551616:=by omega
 have hL:n.natAbs<LIM:=bW hu (by decide)
 have hc:cnd (decide (n<(0:Int))) (some (u64.wrap (0 - (u64.wrap n)))) (some (u64.wrap n))=some ((n.natAbs:Nat):Int):=by
  rw[jb]
  split
  ·congr 1;rw[IntKind.wrap_u64,IntKind.wrap_u64];omega
  ·congr 1;rw[IntKind.wrap_u64];omega
 unfold eN
 rw[hc,ab,xD,uO,xC,Pi hu,iO hL,ab]
 congr 2
 by_cases h:n<0
 ·simp only[h,ru,lO];omega
 ·simp only[h,rt,cond_false];omega
theorem vh {x k l:Nat}(hx:2 ^ k≤x)(h:szp 2 (x / 2 ^ k) l):szp 2 x (l+k):=by
 have hp:0<2 ^ k:=cJ (by decide)
 have h0:0<x / 2 ^ k:=BK hx hp
 have hl:0<l:=by
  rcases ma l with h1|h1
  ·subst h1;have:=h.1;simp at this;omega
  ·exact h1
 refine⟨?_,fun _=>?_⟩
 ·rw[gy];exact (oh hp).1 h.1
 ·have:=h.2 hl
  rw[show l+k - 1=(l - 1)+k from by omega,gy]
  exact (oG hp).1 this
def Gy:ByteArray:=⟨#[0,1,2,2,3,3,3,3,4,4,4,4,4,4,4,4,5,5,5,5,5,5,5,5,5,5,5,5,5,5,5,5,6,6,6,6,6,6,6,6,6,6,6,6,6,6,6,6,6,6,6,6,6,6,6,6,6,6,6,6,6,6,6,6,7,7,7,7,7,7,7,7,7,7,7,7,7,7,7,7,7,7,7,7,7,7,7,7,7,7,7,7,7,7,7,7,7,7,7,7,7,7,7,7,7,7,7,7,7,7,7,7,7,7,7,7,7,7,7,7,7,7,7,7,7,7,7,7,8,8,8,8,8,8,8,8,8,8,8,8,8,8,8,8,8,8,8,8,8,8,8,8,8,8,8,8,8,8,8,8,8,8,8,8,8,8,8,8,8,8,8,8,8,8,8,8,8,8,8,8,8,8,8,8,8,8,8,8,8,8,8,8,8,8,8,8,8,8,8,8,8,8,8,8,8,8,8,8,8,8,8,8,8,8,8,8,8,8,8,8,8,8,8,8,8,8,8,8,8,8,8,8,8,8,8,8,8,8,8,8,8,8,8,8,8,8,8,8,8,8,8,8,8,8,8,8]⟩
theorem Dg:∀y:Nat,y<256→(Gy.data.toList.getD y 0).toNat≤8∧y<2 ^ (Gy.data.toList.getD y 0).toNat∧(0<(Gy.data.toList.getD y 0).toNat→2 ^ ((Gy.data.toList.getD y 0).toNat - 1)≤y):=by decide +kernel
theorem Lq:Gy.size=256:=by decide +kernel
theorem len_tab(y:Nat)(hy:y<256):∃l:Nat,sAt Gy y=(l:Int)∧l≤8∧szp 2 y l:=
 ⟨_,rfl,(Dg y hy).1,(Dg y hy).2⟩
theorem PB(x:Int):lZ x=bnd (S:=Int×Int) (cnd (decide ((65536:Int)≤x)) (some ((lE .u32 x (16:Int),(16:Int)))) (some ((x,(0:Int))))) fun (j4,Ff)=>bnd (S:=Int×Int) (cnd (decide ((256:Int)≤j4)) (some ((lE .u32 j4 (8:Int),i64.wrap (Ff+(8:Int))))) (some ((j4,Ff)))) fun (kA,BT)=>gd (0≤u8.wrap (kA)∧u8.wrap (kA)<(Gy.size:Int)) (bnd (some (i64.wrap (BT+(i64.wrap (sAt Gy (u8.wrap (kA)).toNat))))) fun x6=>some x6):=rfl
theorem u8n {n:Nat}(h:n<256):u8.wrap (n:Int)=(n:Int):=by
 rw[IntKind.wrap_u8];omega
theorem K1 {x:Nat}(hx:x<4294967296):∃l:Nat,lZ (x:Int)=some (l:Int)∧l≤32∧szp 2 x l:=by
 have h16:∃(y n:Nat),cnd (decide ((65536:Int)≤(x:Int))) (some ((lE .u32 (x:Int) (16:Int),(16:Int)))) (some (((x:Int),(0:Int))))=some ((y:Int),(n:Int))∧y<65536∧n≤16∧∀l,szp 2 y l→szp 2 x (l+n):=by
  rw[jb]
  split
  ·rename_i h
   exact⟨x / 2 ^ 16,16,by rw[show (16:Int)=((16:Nat):Int) from rfl,xW .u32 x 16 (by decide)],by omega,by omega,fun l hl=>vh (by omega) hl⟩
  ·exact⟨x,0,rfl,by omega,by omega,fun l hl=>hl⟩
 obtain⟨y,n,e1,hy,hn,hs⟩:=h16
 have h8:∃(z m:Nat),cnd (decide ((256:Int)≤(y:Int))) (some ((lE .u32 (y:Int) (8:Int),i64.wrap ((n:Int)+(8:Int))))) (some (((y:Int),(n:Int))))=some ((z:Int),(m:Int))∧z<256∧m≤24∧∀l,szp 2 z l→szp 2 x (l+m):=by
  rw[jb]
  split
  ·rename_i h
   refine⟨y / 2 ^ 8,n+8,?_,by omega,by omega,fun l hl=>?_⟩
   ·rw[show (8:Int)=((8:Nat):Int) from rfl,xW .u32 y 8 (by decide),cd];rfl
   ·rw[show l+(n+8)=(l+8)+n from by omega]
    exact hs _ (vh (by omega) hl)
  ·exact⟨y,n,rfl,by omega,by omega,hs⟩
 obtain⟨z,m,e2,hz,hm,L7⟩:=h8
 obtain⟨l,zM,wd,Lx⟩:=len_tab z hz
 refine⟨l+m,?_,by omega,L7 l Lx⟩
 rw[PB,e1,ab]
 dsimp only
 rw[e2,ab]
 dsimp only
 rw[u8n hz,Lq,aJ,bH,zM,cd (z:=(l:Int)) (by omega),cd,ab]
 congr 1
 omega
theorem G_Lead {x:Nat}(hx:x<4294967296):∃l:Nat,fx (x:Int)=some (((32 - l:Nat)):Int)∧l≤32∧szp 2 x l:=by
 obtain⟨l,h1,h2,h3⟩:=K1 hx
 refine⟨l,?_,h2,h3⟩
 unfold fx
 rw[h1,ab,cd]
 congr 1
 omega
theorem G_Bits {a:Int}(ha:a.natAbs<LIM):∃l:Nat,l≤512∧nI (enc a)=some (l:Int)∧szp 2 a.natAbs l:=by
 obtain⟨n,hn,h1,h2⟩:=yR ha
 unfold nI
 rw[l9 ha,h1,ab,xn,bQ ha,ab,eo,ba,ab]
 cases n with
 |zero=>
  refine⟨0,by omega,?_,?_⟩
  ·rw[bt _ _];rfl
  ·have:=h2.1
   exact⟨by simpa using this,fun h=>by omega⟩
 |succ k=>
  have hk:k<16:=by omega
  rw[bu _ _,show i64.wrap (((k+1:Nat):Int) - 1)=(k:Int) from by rw[cd];omega,aJ,bH,fY hk]
  obtain⟨l,h3,h4,h5⟩:=K1 (x:=dg 4294967296 a.natAbs k) dgl
  have hd:dg 4294967296 a.natAbs k=a.natAbs / 2 ^ (32*k):=by
   unfold dg
   have e:(4294967296:Nat) ^ k=2 ^ (32*k):=by rw[Dw]
   rw[←e,dK]
   rw[oh (cJ (by decide)),cj,←eH];exact h2.1
  have z8:2 ^ (32*k)≤a.natAbs:=by
   have:=h2.2 (by omega)
   rw[Bu] at this
   rwa[Dw]
  refine⟨l+32*k,by omega,?_,?_⟩
  ·rw[h3,ab,show i64.wrap ((32:Int)*(k:Int))=((32*k:Nat):Int) from by rw[cd];omega,cd]
   congr 1;omega
  ·rw[hd] at h5;exact vh z8 h5
theorem Nh {A:Nat}(hA:A<18446744073709551616):ior .u64 (vt .u64 (u64.wrap ((W A)[((1:Int)).toNat]!)) (32:Int)) (u64.wrap ((W A)[((0:Int)).toNat]!))=(A:Int):=by
 have e1:(W A)[((1:Int)).toNat]! =(dg 4294967296 A 1:Int):=fY (by decide)
 have e0:(W A)[((0:Int)).toNat]! =(dg 4294967296 A 0:Int):=fY (by decide)
 have h1:=@dgl A 1
 have h0:=@dgl A 0
 rw[e1,e0,gJ,gJ,F5 h1,GC h0 h1]
 have e:dg 4294967296 A 1*4294967296+dg 4294967296 A 0=A:=by
  unfold dg
  rw[t4,fI,mX]
  omega
 rw[e]
theorem KZ {a:Int}(ha:a.natAbs<LIM):kE (enc a)=some (if -9223372036854775808≤a∧a<9223372036854775808 then (a,true) else (0,false)):=by
 obtain⟨l,hl,h1,h2⟩:=G_Bits ha
 have e64:(2:Nat) ^ 64=18446744073709551616:=by decide
 have hl64:64<l↔¬a.natAbs<18446744073709551616:=by
  constructor
  ·intro h h3
   have:=HV (b:=2) (by decide) h2 (k:=64) (by rw[e64];exact h3)
   omega
  ·intro h
   rcases ck 64 l with h3|h3
   ·exact h3
   ·have h4:=h2.1
    have h5:2 ^ l≤2 ^ 64:=g9 (by decide) h3
    rw[e64] at h5
    exact absurd (bW h4 h5) h
 unfold kE
 rw[xn,bQ ha,ab,eo,ba,h1,ab,ab]
 by_cases h:a.natAbs<18446744073709551616
 ·rw[bu _ _ (by have:=mt hl64.1 (fun hh=>hh h);omega),ab,l9 ha,Nh h,nQ ha]
  by_cases hn:a<0
  ·simp only[hn,ru,gU,eo,ba,ab]
   by_cases h3:a.natAbs≤9223372036854775808
   ·rw[bt _ _,ifp_,show (0:Int) - (a.natAbs:Int)=a from by omega,IntKind.wrap_u64]
    rw[show i64.wrap (a % 18446744073709551616)=a from by rw[IntKind.wrap_i64];omega]
   ·rw[bu _ _,ifn_]
  ·rw[gG hn,ba,ab,ba,t5,gU,ab]
   have ea:(a.natAbs:Int)=a:=by omega
   rw[ea]
   by_cases h3:a<9223372036854775808
   ·rw[bt _ _ h3,ay ⟨by omega,h3⟩,cd ⟨by omega,by omega⟩]
   ·rw[bu _ _ h3,aA (fun hh=>h3 hh.2)]
 ·rw[bt _ _ (by have:=hl64.2 h;omega),ifn_]
def vF(n:Nat)(f:Nat→Nat):Vector Int n:=Vector.ofFn fun i=>(f i.val:Int)
theorem tD {n j:Nat}{f:Nat→Nat}(h:j<n):(vF n f)[j]! =(f j:Int):=by
 rw[gF (vF n f) j h]
 unfold vF
 rw[Jp]
theorem Mr {n:Nat}{f g:Nat→Nat}(h:∀j,j<n→f j=g j):vF n f=vF n g:=by
 apply nz
 intro j hj
 rw[tD hj,tD hj,h j hj]
theorem vF_set {n p x:Nat}{f:Nat→Nat}:(vF n f).set! p (x:Int)=vF n (fun j=>if j=p then x else f j):=by
 apply nz
 intro j hj
 rw[oT hj,tD hj,tD hj]
 split <;> rfl
theorem vF_dg {b n A:Nat}:vF n (dg b A)=vN b n A:=rfl
theorem EA {X V n d:Nat}(hn:2≤n)(hV:2147483648*4294967296 ^ (n - 1)≤V)(hX:X<V*4294967296)
  (A0:min (X / 4294967296 ^ (n - 2) / (V / 4294967296 ^ (n - 2))) 4294967295≤d) (HH:d*(V / 4294967296 ^ (n - 2))≤X / 4294967296 ^ (n - 2)):X / V≤d∧d≤X / V+1:=by
 have hp:0<4294967296 ^ (n - 2):=cJ (by decide)
 have e1:(4294967296:Nat) ^ (n - 1)=4294967296 ^ (n - 2)*4294967296:=by rw[←eH];congr 1;omega
 rw[e1] at hV
 generalize 4294967296 ^ (n - 2)=P at*
 have Ey:0<V:=bW (rU (by decide) (rU hp (by decide))) hV
 have hv2:2147483648*4294967296≤V / P:=by
  rw[oG hp]
  calc 2147483648*4294967296*P=2147483648*(P*4294967296):=by rw[eV,cj 4294967296 P]
   _≤V:=hV
 have hv20:0<V / P:=by omega
 have hVP:=og V P
 have hVm:=dA V hp
 have hXP:=og X P
 have hXm:=dA X hp
 have hq1:X / V≤X / P / (V / P):=by
  rw[gb]
  refine Nat.div_le_div_left ?_ (rU hp hv20)
  omega
 have hq2:X / V<4294967296:=(oh Ey).2 (by rw[cj];exact hX)
 refine⟨by omega,?_⟩
 -- d V is not much more than X
 have Mc:d*(V / P)*P≤X:=by
  have:=ci P HH
  rw[cj (X / P)] at this
  omega
 have hXP2:X / P<(V / P+1)*4294967296:=by
  rw[oh hp]
  have h1:V<(V / P+1)*P:=by rw[bk,dh,cj (V / P)];omega
  calc X<V*4294967296:=hX
   _≤(V / P+1)*P*4294967296:=ci _ (kQ h1)
   _=(V / P+1)*4294967296*P:=by rw[eV,cj P,←eV]
 have hdb:d≤4294967296:=by
  rcases ck 4294967296 d with h|h
  ·have:4294967297*(V / P)≤d*(V / P):=ci _ h
   omega
  ·exact h
 have h2:d*(V % P)≤4294967296*P:=pY hdb (kQ hVm)
 have h3:d*V=d*(V / P)*P+d*(V % P):=by
  conv=>lhs;rw[←hVP]
  rw[sO,cj P,eV]
 have h4:d*V≤X+V:=by
  rw[h3]
  have h6:4294967296*P≤V:=by
   refine cX ?_ hV
   rw[cj P,←eV]
   exact ci _ (by decide)
  exact Nat.add_le_add Mc (cX h2 h6)
 rcases ma d with h0|h0
 ·rw[h0];exact dU _
 ·have h5:(d - 1)*V≤X:=by rw[Nat.sub_mul,dh];omega
  have:=(oG Ey).2 h5
  omega
theorem gA1 {y r u z:Nat}(h:r*4294967296+u<z):(y+r)*4294967296+u<y*4294967296+z:=by
 rw[bk,pK];exact t3 h _
theorem gA2 {y r u z:Nat}(h:z≤r*4294967296+u):y*4294967296+z≤(y+r)*4294967296+u:=by
 rw[bk,pK];exact Nat.add_le_add_left h _
theorem gA3 {y r u z:Nat}(h:4294967296≤r)(hz:z≤4294967295*4294967295):y*4294967296+z≤(y+r)*4294967296+u:=by
 have h1:z≤r*4294967296:=cX hz (cX (pY (by decide) (by decide)) (ci _ h))
 rw[bk,pK]
 exact Nat.add_le_add_left (cX h1 (oF _ _)) _
theorem oc {n:Nat}(h:n≤34359738368:=by omega):n<18446744073709551616:=by omega
theorem lt64p {n:Nat}(h:n≤4294967295*4294967295):n<18446744073709551616:=by omega
theorem guessB {d r f x0 x1:Nat}(h:d*f+r=x0*4294967296+x1)(hf:2147483648≤f)(h0:x0<4294967296)(h1:x1<4294967296):d≤8589934592:=by
 have:=tZ d hf
 omega
theorem guessT {x0 x1 f:Nat}(h0:x0<4294967296)(h1:x1<4294967296):(x0*4294967296+x1) / f<18446744073709551616:=
 fj (tY _ _) (by omega)
theorem G_guess {U V n j:Nat}(hn:2≤n)(Cz:n≤16)(hj:j+n≤16)(hV:2147483648*4294967296 ^ (n - 1)≤V)(HJ:V<4294967296 ^ n)(hU:U / 4294967296 ^ j<V*4294967296):
  ∃d:Nat,d<4294967296∧ia (W V) (n:Int) (j:Int) (vN 4294967296 17 U)=some (d:Int)∧U / 4294967296 ^ j / V≤d∧d≤U / 4294967296 ^ j / V+1:=by
 have hb:0<(4294967296:Nat):=by decide
 generalize hX:U / 4294967296 ^ j=X at hU
 -- the digits that it looks at
 have du:∀i,dg 4294967296 U (j+i)=dg 4294967296 X i:=fun i=>by
  unfold dg;rw[←hX,gb,←gy]
 have hXlt:X<4294967296 ^ (n+1):=by
  rw[eH];exact bW hU (ci _ (kQ HJ))
 have s1:=cm (b:=4294967296) (A:=X) (k:=n - 2)
 have s2:=cm (b:=4294967296) (A:=X) (k:=n - 1)
 have s3:=cm (b:=4294967296) (A:=X) (k:=n)
 rw[dv hXlt,fe,bq] at s3
 rw[show n - 2+1=n - 1 from by omega] at s1
 rw[show n - 1+1=n from by omega,s3] at s2
 have w1:=cm (b:=4294967296) (A:=V) (k:=n - 2)
 have w2:=cm (b:=4294967296) (A:=V) (k:=n - 1)
 rw[show n - 2+1=n - 1 from by omega] at w1
 rw[show n - 1+1=n from by omega,dv HJ,fe,bq] at w2
 have xp:=@dgl X n
 have Cy:=@dgl X (n - 1)
 have yb:=@dgl X (n - 2)
 have hv1:=@dgl V (n - 1)
 have hv2:=@dgl V (n - 2)
 have Iy:2147483648≤dg 4294967296 V (n - 1):=by
  rw[←w2,oG (cJ hb)];exact hV
 -- the two highest digits against the highest one
 have hp:0<4294967296 ^ (n - 2):=cJ hb
 have htop:X / 4294967296 ^ (n - 1)≤V / 4294967296 ^ (n - 2):=by
  have e1:(4294967296:Nat) ^ (n - 1)=4294967296 ^ (n - 2)*4294967296:=by rw[←eH];congr 1;omega
  have h1:X / 4294967296 ^ (n - 1)*4294967296 ^ (n - 1)≤X:=Jo _ _
  rw[oG hp]
  rw[e1] at h1
  have h2:X / 4294967296 ^ (n - 1)*4294967296 ^ (n - 2)*4294967296<V*4294967296:=by
   rw[eV]
   exact fj (by rw[e1];exact h1) hU
  exact kQ (Nat.lt_of_mul_lt_mul_right h2)
 rw[s2,w1,w2] at htop
 obtain⟨x,hl,d,rfl,hdb,A0,HH⟩:=uT (b:=iV (W V) (n:Int) (j:Int) (vN 4294967296 17 U) ((dg 4294967296 V (n - 1):Nat):Int)) (fun s=>∃d r:Nat,s=((d:Int),(r:Int))∧d*dg 4294967296 V (n - 1)+r=X / 4294967296 ^ (n - 1)∧min (X / 4294967296 ^ (n - 2) / (V / 4294967296 ^ (n - 2))) 4294967295≤d) (fun s=>4294967296 - s.2.toNat)
  (fun x=>∃d:Nat,x=(d:Int)∧d<4294967296∧min (X / 4294967296 ^ (n - 2) / (V / 4294967296 ^ (n - 2))) 4294967295≤d∧d*(V / 4294967296 ^ (n - 2))≤X / 4294967296 ^ (n - 2))
  (by
   rintro s ⟨d,r,rfl,hdr,A0⟩
   have hmul:d*(V / 4294967296 ^ (n - 2))=d*dg 4294967296 V (n - 1)*4294967296+d*dg 4294967296 V (n - 2):=by
    rw[w1,w2,sO,eV]
   have hdB:d≤8589934592:=guessB (by rw[hdr,s2]) Iy xp Cy
   have ei2:i64.wrap ((n:Int) - (2:Int))=((n - 2:Nat):Int):=by rw[cd];omega
   have eij2:i64.wrap ((i64.wrap ((j:Int)+(n:Int))) - (2:Int))=((j+(n - 2):Nat):Int):=by rw[cd (z:=(j:Int)+(n:Int)) (by omega),cd];omega
   dsimp only[iV]
   by_cases hr:r<4294967296
   ·rw[bt _ _]
    by_cases hd:4294967296≤d
    ·left
     refine⟨(((d - 1:Nat):Int),((r+dg 4294967296 V (n - 1):Nat):Int)),?_,⟨d - 1,_,rfl,?_,by omega⟩,by show 4294967296 - (_:Nat)<4294967296 - (_:Nat);rw[bH,bH];omega⟩
     ·rw[bt _ _,ab,gU,show (d:Int) - 1=((d - 1:Nat):Int) from by omega,gJ (oc),←kP,gJ (oc)]
     ·rw[Nat.sub_mul,dh]
      have:dg 4294967296 V (n - 1)≤d*dg 4294967296 V (n - 1):=BJ _ (by omega)
      omega
    ·have Cb:d*dg 4294967296 V (n - 2)≤4294967295*4294967295:=pY (by omega) (by omega)
     rw[bu _ _,ei2,aJ,eij2,aJ,bH,bH,iQ (by omega),fY (by omega),du,gJ (n:=dg 4294967296 X (n - 2)) (oc),gJ (n:=dg 4294967296 V (n - 2)) (oc),F5 hr,GC yb hr,←oH,gJ (lt64p Cb),ab]
     by_cases hc:r*4294967296+dg 4294967296 X (n - 2)<d*dg 4294967296 V (n - 2)
     ·left
      have Es:0<d:=by
       rcases ma d with h|h
       ·subst h;omega
       ·exact h
      refine⟨(((d - 1:Nat):Int),((r+dg 4294967296 V (n - 1):Nat):Int)),?_,⟨d - 1,_,rfl,?_,?_⟩,by show 4294967296 - (_:Nat)<4294967296 - (_:Nat);rw[bH,bH];omega⟩
      ·rw[bt _ _,show (d:Int) - 1=((d - 1:Nat):Int) from by omega,gJ (oc),←kP,gJ (oc)]
      ·rw[Nat.sub_mul,dh]
       have:dg 4294967296 V (n - 1)≤d*dg 4294967296 V (n - 1):=BJ _ Es
       omega
      ·have hgt:X / 4294967296 ^ (n - 2)<d*(V / 4294967296 ^ (n - 2)):=by rw[hmul,s1,←hdr];exact gA1 hc
       have:=(oh (x:=X / 4294967296 ^ (n - 2)) (y:=d) (k:=V / 4294967296 ^ (n - 2)) (by rw[w1,w2];omega)).2 hgt
       omega
     ·right
      refine⟨_,by rw[bu _ _],d,rfl,by omega,A0,?_⟩
      rw[hmul,s1,←hdr];exact gA2 (Nat.le_of_not_lt hc)
   ·right
    have hdlt:d<4294967296:=by
     rcases ck d 4294967296 with h|h
     ·exact h
     ·have:4294967296*dg 4294967296 V (n - 1)≤d*dg 4294967296 V (n - 1):=ci _ h
      omega
    have Cb:d*dg 4294967296 V (n - 2)≤4294967295*4294967295:=pY (by omega) (by omega)
    refine⟨_,by rw[bu _ _,ab,ba],d,rfl,hdlt,A0,?_⟩
    rw[hmul,s1,←hdr];exact gA3 (Nat.le_of_not_lt hr) Cb)
  (((X / 4294967296 ^ (n - 1) / dg 4294967296 V (n - 1):Nat):Int),((X / 4294967296 ^ (n - 1) % dg 4294967296 V (n - 1):Nat):Int))
  ⟨_,_,rfl,by rw[cj];exact og _ _,by
   have h0:X / 4294967296 ^ (n - 2) / (V / 4294967296 ^ (n - 2))≤X / 4294967296 ^ (n - 1) / dg 4294967296 V (n - 1):=by
    rw[oG (by omega)]
    have h1:=Jo (X / 4294967296 ^ (n - 2)) (V / 4294967296 ^ (n - 2))
    generalize X / 4294967296 ^ (n - 2) / (V / 4294967296 ^ (n - 2))=q at h1 ⊢
    rw[w1,w2,s1,sO,←eV] at h1
    generalize q*dg 4294967296 V (n - 1)=y at h1 ⊢
    omega
   omega⟩
 obtain⟨h1,h2⟩:=EA hn hV hU A0 HH
 refine⟨d,hdb,?_,h1,h2⟩
 have ejn:i64.wrap ((j:Int)+(n:Int))=((j+n:Nat):Int):=by rw[cd];omega
 have ejn1:i64.wrap (((j+n:Nat):Int) - (1:Int))=((j+(n - 1):Nat):Int):=by rw[cd];omega
 have en1:i64.wrap ((n:Int) - (1:Int))=((n - 1:Nat):Int):=by rw[cd];omega
 unfold ia
 rw[ejn,aJ,ejn1,aJ,en1,bH,bH,bH,iQ (by omega),iQ (by omega),fY (by omega),du,du,gJ (n:=dg 4294967296 X n) (oc),gJ (n:=dg 4294967296 X (n - 1)) (oc),gJ (n:=dg 4294967296 V (n - 1)) (oc),F5 xp,GC Cy xp,ab,aJ,ab,aJ,aJ,←rr,←rp]
 rw[gJ (guessT xp Cy),←s2,hl,ab]
def wF(j i U D p:Nat):Nat:=if p<j then dg 4294967296 U p else if p<j+i then dg 4294967296 D (p - j) else dg 4294967296 U p
theorem mix0 {j U D:Nat}:wF j 0 U D=dg 4294967296 U:=by
 funext p
 unfold wF
 split
 ·rfl
 ·rw[ifn_]
theorem Eg {j i U D:Nat}:wF j i U D (j+i)=dg 4294967296 U (j+i):=by
 unfold wF
 rw[ifn_,ifn_]
theorem z5 {n j i U D:Nat}:(vF n (wF j i U D)).set! (j+i) (dg 4294967296 D i:Int)=vF n (wF j (i+1) U D):=by
 rw[vF_set]
 apply Mr
 intro p hp
 by_cases h:p=j+i
 ·subst h
  rw[ay rfl]
  unfold wF
  rw[ifn_,ifp_]
  congr 1;omega
 ·rw[aA h]
  unfold wF
  by_cases h1:p<j
  ·rw[ay h1,ay h1]
  ·rw[aA h1,aA h1]
   by_cases h2:p<j+i
   ·rw[ay h2,ifp_]
   ·rw[aA h2,ifn_]
theorem JZ {n j i U D:Nat}(hU:U<4294967296 ^ (i+j))(hD:D<4294967296 ^ i):vF n (wF j i U D)=vN 4294967296 n (D*4294967296 ^ j+U % 4294967296 ^ j):=by
 have hb:0<(4294967296:Nat):=by decide
 rw[←vF_dg]
 apply Mr
 intro p _
 unfold wF
 by_cases h1:p<j
 ·rw[ay h1,←mR (A:=D*_+_) h1,Jn,yH,mR h1]
 ·rw[aA h1]
  have e:dg 4294967296 (D*4294967296 ^ j+U % 4294967296 ^ j) p=dg 4294967296 D (p - j):=by
   obtain⟨q,rfl⟩:∃q,p=j+q:=⟨p - j,by omega⟩
   unfold dg
   rw[gy,←gb,cj D,vZ (cJ hb),dv (dA _ (cJ hb)),lc,Fa]
  rw[e]
  by_cases h2:p<j+i
  ·rw[ay h2]
  ·rw[aA h2,kZ (bW hU (g9 hb (by omega))),kZ (bW hD (g9 hb (by omega)))]
theorem Hc {D P i:Nat}:∃x:Nat,u64.wrap (u64.wrap ((dg 4294967296 (D+P) i:Int) - (dg 4294967296 P i:Int)) - (((D % 4294967296 ^ i+P % 4294967296 ^ i) / 4294967296 ^ i:Nat):Int))=(x:Int)∧x / 9223372036854775808=(D % 4294967296 ^ (i+1)+P % 4294967296 ^ (i+1)) / 4294967296 ^ (i+1)∧x % 4294967296=dg 4294967296 D i:=by
 have hc:=nR (b:=4294967296) (A:=D) (B:=P) (k:=i) (by decide)
 obtain⟨h1,h2⟩:=oJ (b:=4294967296) (A:=D) (B:=P) (k:=i) (by decide)
 have ha:=@dgl D i
 have hb:=@dgl P i
 have hd:=@dgl (D+P) i
 generalize (D % 4294967296 ^ i+P % 4294967296 ^ i) / 4294967296 ^ i=c at h1 h2 hc ⊢
 generalize (D % 4294967296 ^ (i+1)+P % 4294967296 ^ (i+1)) / 4294967296 ^ (i+1)=c' at h2 ⊢
 rw[IntKind.wrap_u64,IntKind.wrap_u64]
 exact⟨((((dg 4294967296 (D+P) i:Int) - (dg 4294967296 P i:Int)) % 18446744073709551616 - (c:Int)) % 18446744073709551616).toNat,by omega,by omega,by omega⟩
theorem lt64m {c p d:Nat}(hc:c≤d)(hp:p<4294967296)(hd:d<4294967296):c+p*d<18446744073709551616:=by
 have h1:p*d≤4294967295*4294967295:=pY (by omega) (by omega)
 omega
theorem PG {U V D n j d:Nat}(Cz:n≤16)(hj:j+n≤16)(HJ:V<4294967296 ^ n)(hU:U<4294967296 ^ (n+1+j))(hd:d<4294967296)(hD:D<4294967296 ^ (n+1))
  (hDZ:D+V*d=U / 4294967296 ^ j+(if U / 4294967296 ^ j<V*d then 4294967296 ^ (n+1) else 0)):
  jh (W V) (n:Int) (j:Int) (d:Int) (vN 4294967296 17 U)=some (decide (U / 4294967296 ^ j<V*d),vN 4294967296 17 (D*4294967296 ^ j+U % 4294967296 ^ j)):=by
 have hb:0<(4294967296:Nat):=by decide
 generalize hZ:U / 4294967296 ^ j=Z at hDZ ⊢
 have LG:Z<4294967296 ^ (n+1):=by
  rw[←hZ];exact Hj (by rw[←gy,pi];exact hU)
 have dz:∀i,i<n+1→dg 4294967296 (D+V*d) i=dg 4294967296 U (j+i):=fun i hi=>by
  have e1:dg 4294967296 U (j+i)=dg 4294967296 Z i:=by
   unfold dg;rw[←hZ,gb,←gy]
  rw[e1,←mR (A:=D+V*d) hi,←mR (A:=Z) hi,hDZ]
  split
  ·rw[Nat.add_mod_right]
  ·rw[lc]
 have hcle:∀i,V % 4294967296 ^ i*d / 4294967296 ^ i≤d:=fun i=>
  cX (Jm (ci d (kQ (dA V (cJ hb))))) (by rw[Jl _ (cJ hb)];exact aL _)
 have hl:=qm (b:=iu (W V) (n:Int) (j:Int) (d:Int)) (s0:=((0:Int),(0:Int),(0:Int),vN 4294967296 17 U)) (fun i=>((V % 4294967296 ^ i*d / 4294967296 ^ i:Nat),((D % 4294967296 ^ i+V*d % 4294967296 ^ i) / 4294967296 ^ i:Nat),(i:Int),vF 17 (wF j i U D))) n ((V % 4294967296 ^ n*d / 4294967296 ^ n:Nat),((D % 4294967296 ^ n+V*d % 4294967296 ^ n) / 4294967296 ^ n:Nat),vF 17 (wF j n U D))
  (by simp only[fI,mm,fe,Nat.zero_div,mix0];rfl)
  (fun i hi=>by
   obtain⟨h1,h2⟩:=Da (b:=4294967296) (A:=V) (k:=i) (m:=d) hb
   obtain⟨x,Cy,yb,Nv⟩:=Hc (D:=D) (P:=V*d) (i:=i)
   have bI:=lt64m (hcle i) (@dgl V i) hd
   have hp:=@dgl (V*d) i
   have hz:=@dgl U (j+i)
   have hv:=@dgl V i
   have eij:i64.wrap ((j:Int)+(i:Int))=((j+i:Nat):Int):=by rw[cd];omega
   rw[dz i (by omega)] at Cy
   have hvd:dg 4294967296 V i*d<18446744073709551616:=fj (Nat.le_add_left _ _) bI
   dsimp only[iu]
   rw[bt _ _,aJ,ab,eij,aJ,ab,aJ,ab,bH,bH,fY (by omega),tD (by omega),Eg,gJ (n:=dg 4294967296 V i) (oc),←oH,cj d,gJ hvd,←kP,gJ bI,xD,h1,uO,h2,gJ (n:=dg 4294967296 (V*d) i) (oc),gJ (n:=dg 4294967296 U (j+i)) (oc),Cy,ME,yb,xD,Nv,z5,cd]
   rfl)
  (by
   dsimp only[iu]
   rw[bu _ _])
 obtain⟨x,Cy,yb,Nv⟩:=Hc (D:=D) (P:=V*d) (i:=n)
 have hP:V*d<4294967296 ^ (n+1):=by
  rw[eH];exact yG HJ hd
 have Fx:V % 4294967296 ^ n*d / 4294967296 ^ n=dg 4294967296 (V*d) n:=by
  rw[dK HJ]
  unfold dg
  rw[dK]
  exact Hj (by rw[←eH];exact hP)
 have hbor:(D % 4294967296 ^ (n+1)+V*d % 4294967296 ^ (n+1)) / 4294967296 ^ (n+1)=if Z<V*d then 1 else 0:=by
  rw[dK hD,dK hP,hDZ]
  split
  ·rw[Nat.add_div_right _ (cJ hb),dv LG]
  ·rw[lc,dv LG]
 have ejn:i64.wrap ((j:Int)+(n:Int))=((j+n:Nat):Int):=by rw[cd];omega
 have hz:=@dgl U (j+n)
 rw[dz n (by omega)] at Cy
 unfold jh
 rw[hl,ab]
 dsimp only
 rw[ejn,aJ,ab,aJ,ab,bH,tD (by omega),Eg,gJ (n:=dg 4294967296 U (j+n)) (oc),Fx,Cy,ME,yb,xD,Nv,z5,JZ hU hD,hbor]
 congr 2
 by_cases h:Z<V*d
 ·simp[h]
 ·simp[h]
theorem G_give {U V D n j:Nat}(Cz:n≤16)(hj:j+n≤16)(HJ:V<4294967296 ^ n)(hU:U<4294967296 ^ (n+1+j))(hD:D=(U / 4294967296 ^ j+V) % 4294967296 ^ (n+1)):
  jm (W V) (n:Int) (j:Int) (vN 4294967296 17 U)=some (vN 4294967296 17 (D*4294967296 ^ j+U % 4294967296 ^ j)):=by
 have hb:0<(4294967296:Nat):=by decide
 have hDlt:D<4294967296 ^ (n+1):=by rw[hD];exact dA _ (cJ hb)
 generalize hZ:U / 4294967296 ^ j=Z at hD
 have dz:∀i,dg 4294967296 U (j+i)=dg 4294967296 Z i:=fun i=>by
  unfold dg;rw[←hZ,gb,←gy]
 have dD:∀i,i<n+1→dg 4294967296 (Z+V) i=dg 4294967296 D i:=fun i hi=>by rw[hD,mR hi]
 have hl:=qm (b:=iw (W V) (n:Int) (j:Int)) (s0:=((0:Int),(0:Int),vN 4294967296 17 U)) (fun i=>(((Z % 4294967296 ^ i+V % 4294967296 ^ i) / 4294967296 ^ i:Nat),(i:Int),vF 17 (wF j i U D))) n (((Z % 4294967296 ^ n+V % 4294967296 ^ n) / 4294967296 ^ n:Nat),vF 17 (wF j n U D))
  (by simp only[fI,mm,mix0];rfl)
  (fun i hi=>by
   have hc:=nR (b:=4294967296) (A:=Z) (B:=V) (k:=i) hb
   obtain⟨h1,h2⟩:=oJ (b:=4294967296) (A:=Z) (B:=V) (k:=i) hb
   have hz:=@dgl Z i
   have hv:=@dgl V i
   have eij:i64.wrap ((j:Int)+(i:Int))=((j+i:Nat):Int):=by rw[cd];omega
   generalize (Z % 4294967296 ^ i+V % 4294967296 ^ i) / 4294967296 ^ i=c at h1 h2 hc ⊢
   generalize (Z % 4294967296 ^ (i+1)+V % 4294967296 ^ (i+1)) / 4294967296 ^ (i+1)=c' at h2 ⊢
   dsimp only[iw]
   rw[bt _ _,eij,aJ,aJ,ab,aJ,ab,bH,bH,fY (by omega),tD (by omega),Eg,dz,gJ (n:=dg 4294967296 V i) (oc),gJ (n:=dg 4294967296 Z i) (oc),←kP,gJ (oc),←kP,gJ (oc),←pK,uO,xD,h1,h2,dD i (by omega),z5,cd]
   rfl)
  (by
   dsimp only[iw]
   rw[bu _ _])
 have hc:=nR (b:=4294967296) (A:=Z) (B:=V) (k:=n) hb
 obtain⟨h1,h2⟩:=oJ (b:=4294967296) (A:=Z) (B:=V) (k:=n) hb
 rw[kZ HJ,lc,dD n (by omega)] at h1
 have hz:=@dgl Z n
 have ejn:i64.wrap ((j:Int)+(n:Int))=((j+n:Nat):Int):=by rw[cd];omega
 unfold jm
 rw[hl,ab]
 dsimp only
 generalize (Z % 4294967296 ^ n+V % 4294967296 ^ n) / 4294967296 ^ n=c at h1 hc ⊢
 rw[ejn,aJ,aJ,ab,bH,tD (by omega),Eg,dz,xC (n:=c) (by omega),←kP,pi (dg 4294967296 Z n),xD,h1,z5,JZ hU hDlt]
theorem Lh {U V n j:Nat}(hn:2≤n)(hj:j+n≤16)(hV:2147483648*4294967296 ^ (n - 1)≤V)(HJ:V<4294967296 ^ n)(hU:U / 4294967296 ^ j<V*4294967296):
  (bnd (ia (W V) (n:Int) (j:Int) (vN 4294967296 17 U)) fun x28=>bnd (S:=Int×(Vector Int 17)) (bnd (jh (W V) (n:Int) (j:Int) x28 (vN 4294967296 17 U)) fun JB=>cnd JB.1 (bnd (jm (W V) (n:Int) (j:Int) JB.2) fun uF=>some ((u64.wrap (x28 - (1:Int)),uF))) (some ((x28,JB.2)))) fun y=>some y)=some (((U / 4294967296 ^ j / V:Nat):Int),vN 4294967296 17 (U / 4294967296 ^ j % V*4294967296 ^ j+U % 4294967296 ^ j))∧U / 4294967296 ^ j / V<4294967296:=by
 have hb:0<(4294967296:Nat):=by decide
 obtain⟨d,hdb,hg,Mc,GK⟩:=G_guess hn (by omega) hj hV HJ hU
 have Ey:0<V:=bW (rU (by decide) (cJ hb)) hV
 have hp:0<4294967296 ^ j:=cJ hb
 have LG:U / 4294967296 ^ j<4294967296 ^ (n+1):=by
  rw[eH];exact bW hU (ci _ (kQ HJ))
 have hUlt:U<4294967296 ^ (n+1+j):=by
  rw[gy];exact (oh hp).1 LG
 have hVd:V*d<4294967296 ^ (n+1):=by
  rw[eH];exact yG HJ hdb
 have hq:U / 4294967296 ^ j / V<4294967296:=by omega
 refine⟨?_,hq⟩
 have hm:=og (U / 4294967296 ^ j) V
 have hml:=dA (U / 4294967296 ^ j) Ey
 rw[hg,ab]
 by_cases bI:U / 4294967296 ^ j<V*d
 ·-- one too many
  have hdq:d=U / 4294967296 ^ j / V+1:=by
   rcases ck (U / 4294967296 ^ j / V) d with h|h
   ·omega
   ·have h1:V*d≤V*(U / 4294967296 ^ j / V):=tZ _ h
    omega
  have ht:=PG (U:=U) (V:=V) (D:=U / 4294967296 ^ j+4294967296 ^ (n+1) - V*d) (n:=n) (j:=j) (d:=d) (by omega) hj HJ hUlt hdb (by omega) (by rw[ay bI];omega)
  rw[ht,cV bI,ab,gU]
  dsimp only
  generalize hD:U / 4294967296 ^ j+4294967296 ^ (n+1) - V*d=D
  have hDlt:D<4294967296 ^ (n+1):=by omega
  have e1:(D*4294967296 ^ j+U % 4294967296 ^ j) / 4294967296 ^ j=D:=by
   rw[cj,vZ hp,dv (dA _ hp),lc]
  have e2:(D*4294967296 ^ j+U % 4294967296 ^ j) % 4294967296 ^ j=U % 4294967296 ^ j:=by
   rw[Jn,yH]
  have e3:(D+V) % 4294967296 ^ (n+1)=U / 4294967296 ^ j % V:=by
   have:D+V=U / 4294967296 ^ j % V+4294967296 ^ (n+1):=by
    rw[hdq,sO,pE] at hD bI
    omega
   rw[this,Nat.add_mod_right,dK]
   exact fj (Nat.mod_le _ _) LG
  have hgv:=G_give (U:=D*4294967296 ^ j+U % 4294967296 ^ j) (V:=V) (D:=U / 4294967296 ^ j % V) (n:=n) (j:=j) (by omega) hj HJ (by
   rw[gy]
   have h1:(D+1)*4294967296 ^ j≤4294967296 ^ (n+1)*4294967296 ^ j:=ci _ hDlt
   rw[bk,dh] at h1
   have:=dA U hp
   omega) (by rw[e1,e3])
  rw[hgv,ab,ab,e2,show ((d:Nat):Int) - 1=((U / 4294967296 ^ j / V:Nat):Int) from by omega,gJ (oc)]
 ·have hdq:d=U / 4294967296 ^ j / V:=by
   have h1:d≤U / 4294967296 ^ j / V:=(oG Ey).2 (by rw[cj];omega)
   omega
  have ht:=PG (U:=U) (V:=V) (D:=U / 4294967296 ^ j % V) (n:=n) (j:=j) (d:=d) (by omega) hj HJ hUlt hdb (fj (Nat.mod_le _ _) LG) (by rw[aA bI,hdq];omega)
  rw[ht,gG bI,ab,ba,ab,hdq]
theorem MR {U V n k:Nat}(hn:2≤n)(hk:k+n≤17)(hV:2147483648*4294967296 ^ (n - 1)≤V)(HJ:V<4294967296 ^ n)(hU:U / 4294967296 ^ k<V)(y:Int):
  a5 (eF (n:Int) (W V,y)) ((k:Int) - 1,W 0,vN 4294967296 17 U)=some (W (U / V),vN 4294967296 17 (U % V)):=by
 have hb:0<(4294967296:Nat):=by decide
 have Ey:0<V:=bW (rU (by decide) (cJ hb)) hV
 have hl:=Ni (b:=eF (n:Int) (W V,y)) (s0:=((k:Int) - 1,W 0,vN 4294967296 17 U)) (fun i=>((i:Int) - 1,vN 4294967296 16 (U / V / 4294967296 ^ i*4294967296 ^ i),vN 4294967296 17 (U / 4294967296 ^ i % V*4294967296 ^ i+U % 4294967296 ^ i))) k (vN 4294967296 16 (U / V / 4294967296 ^ 0*4294967296 ^ 0),vN 4294967296 17 (U / 4294967296 ^ 0 % V*4294967296 ^ 0+U % 4294967296 ^ 0))
  (by
   have e1:U / V / 4294967296 ^ k=0:=by
    rw[gb,cj,←gb,dv hU]
   have e2:U / 4294967296 ^ k % V*4294967296 ^ k+U % 4294967296 ^ k=U:=by
    rw[dK hU,cj];exact og _ _
   rw[e1,e2,fe])
  (fun i hi=>by
   have hp:0<4294967296 ^ i:=cJ hb
   obtain⟨h1,h2⟩:=vi (b:=4294967296) (A:=U) (k:=i) (d:=V) hb Ey
   have eR1:(U / 4294967296 ^ (i+1) % V*4294967296 ^ (i+1)+U % 4294967296 ^ (i+1)) / 4294967296 ^ i=U / 4294967296 ^ (i+1) % V*4294967296+dg 4294967296 U i:=by
    rw[ge,eH,←eV,BI,pi (U % _),←pK,cj (4294967296 ^ i) (dg _ _ _),←bk,cj (_+_) (4294967296 ^ i),vZ hp,dv (dA _ hp),lc]
   have eR2:(U / 4294967296 ^ (i+1) % V*4294967296 ^ (i+1)+U % 4294967296 ^ (i+1)) % 4294967296 ^ i=U % 4294967296 ^ i:=by
    rw[ge,eH,←eV,BI,pi (U % _),←pK,cj (4294967296 ^ i) (dg _ _ _),←bk,Jn,yH]
   have bI:(U / 4294967296 ^ (i+1) % V*4294967296 ^ (i+1)+U % 4294967296 ^ (i+1)) / 4294967296 ^ i<V*4294967296:=by
    rw[eR1]
    have h3:=dA (U / 4294967296 ^ (i+1)) Ey
    have h4:(U / 4294967296 ^ (i+1) % V+1)*4294967296≤V*4294967296:=ci _ h3
    rw[bk,dh] at h4
    exact bW (t3 dgl _) h4
   obtain⟨hq,hqb⟩:=Lh (j:=i) hn (by omega) hV HJ bI
   rw[eR1,h1,h2,eR2] at hq
   rw[eR1,h1] at hqb
   have ei:((i+1:Nat):Int) - 1=(i:Int):=by omega
   dsimp only[eF]
   rw[ei,bt _ _]
   -- the digit
   revert hq
   generalize vN 4294967296 17 (U / 4294967296 ^ (i+1) % V*4294967296 ^ (i+1)+U % 4294967296 ^ (i+1))=uv
   intro hq
   obtain⟨d,e1,hq⟩:=ah hq
   rw[vM] at hq
   rw[e1,ab,hq,ab]
   dsimp only
   rw[aJ,bH,xC hqb,JG hb (by omega),cd])
  (by
   dsimp only[eF]
   rw[bu _ _])
 rw[hl]
 simp only[fI,mX,pE,mm,lc]
theorem build17 {A s:Nat}(hA:A<LIM)(hs:s<32):(vOf 17 (lCp (Vector.replicate 17 (0:Int)).toList 0 (List.take 17 (List.take 16 (List.drop 0 (W (A*2 ^ s)).toList))))).set! ((16:Int)).toNat ((A % 4294967296 ^ 16*2 ^ s / 4294967296 ^ 16:Nat):Int)=vN 4294967296 17 (A*2 ^ s):=by
 have hb:0<(4294967296:Nat):=by decide
 have L7:2 ^ s≤2 ^ 31:=g9 (by decide) (by omega)
 have hs3:0<2 ^ s:=cJ (by decide)
 have hc:A % 4294967296 ^ 16*2 ^ s / 4294967296 ^ 16<2 ^ s:=xP hb hs3
 have h16:(W (A*2 ^ s)).toList.length=16:=mY
 have hl:lCp (Vector.replicate 17 (0:Int)).toList 0 (List.take 17 (List.take 16 (List.drop 0 (W (A*2 ^ s)).toList)))=(W (A*2 ^ s)).toList++[0]:=by
  rw[qA,jL (i:=17) (by simp),jL (by simp)]
  unfold lCp
  rw[h16,E9,pN]
  rfl
 have hll:((W (A*2 ^ s)).toList++[(0:Int)]).length=17:=by rw[eU,h16];rfl
 rw[hl]
 apply nz
 intro j hj
 rw[oT hj,iQ hj]
 by_cases h:j=16
 ·subst h
  rw[ay (by rfl)]
  have Ki:A<4294967296 ^ 16:=hA
  rw[dK Ki] at hc ⊢
  unfold dg
  rw[dK (by omega)]
 ·rw[aA (by simpa using h),←wo (vOf 17 _) hj,vf hll,gF _ j (by rw[hll];omega),List.getElem_append_left (by rw[h16];omega)]
  have e2:=iQ (b:=4294967296) (A:=A*2 ^ s) (j:=j) (n:=16) (by omega)
  rw[←wo _ (by omega),gF _ j (by rw[h16];omega)] at e2
  exact e2
theorem B6 {A B:Nat}(hA:A<LIM)(hB:B<LIM)(GT:0<B):fB (W A) (W B)=some (W (A / B),W (A % B)):=by
 have hb:0<(4294967296:Nat):=by decide
 obtain⟨n,hn,hn1,GJ,pU⟩:=yR hB
 obtain⟨m,hm,Lw,hm2,hm3⟩:=yR hA
 have hn0:0<n:=by
  rcases ma n with h|h
  ·subst h;simp at GJ;omega
  ·exact h
 unfold fB
 rw[hn1,ab,Lw,ab,KW hA hB,ab]
 by_cases bI:A<B
 ·rw[bt _ _ (by unfold Gf;rw[ay bI];omega),ab,z16,dv bI,dK bI]
 ·rw[bu _ _ (by unfold Gf;rw[aA bI];split <;> omega)]
  by_cases h1:n=1
  ·subst h1
   have hBb:B<4294967296:=by simpa using GJ
   have e0:(W B)[((0:Int)).toNat]! =(B:Int):=by
    have:(W B)[((0:Int)).toNat]! =(dg 4294967296 B 0:Int):=fY (by decide)
    rw[this]
    unfold dg
    rw[fI,mX,dK hBb]
   have hr:A % B<4294967296:=yF (dA _ GT) hBb
   rw[bt _ _,e0,G_short hA GT hBb,ab,ab]
   have:=Pi (u:=A % B) (by omega)
   rw[dK hr,dv hr] at this
   dsimp only
   rw[←this]
   rfl
  ·have h2:2≤n:=by omega
   have hk:n - 1<16:=by omega
   have hBd:B / 4294967296 ^ (n - 1)=dg 4294967296 B (n - 1):=by
    have:=cm (b:=4294967296) (A:=B) (k:=n - 1)
    rw[show n - 1+1=n from by omega,dv GJ,fe,bq] at this
    exact this
   obtain⟨l,zM,wd,Lx,hl4⟩:=G_Lead (x:=dg 4294967296 B (n - 1)) dgl
   have hp:0<4294967296 ^ (n - 1):=cJ hb
   have Mc:1≤dg 4294967296 B (n - 1):=by rw[←hBd];exact (oG hp).2 (by rw[dh];exact pU hn0)
   have hl0:0<l:=by
    rcases ma l with h|h
    ·subst h;simp at Lx;omega
    ·exact h
   have hl5:=hl4 hl0
   have hs:32 - l<32:=by omega
   have epow:2 ^ l*2 ^ (32 - l)=4294967296:=by rw[←gy,show l+(32 - l)=32 from by omega]
   have epow2:2 ^ (l - 1)*2 ^ (32 - l)=2147483648:=by rw[←gy,show l - 1+(32 - l)=31 from by omega]
   have hS:0<2 ^ (32 - l):=cJ (by decide)
   have epn:(4294967296:Nat) ^ n=4294967296 ^ (n - 1)*4294967296:=by rw[←eH];congr 1;omega
   have hVlo:2147483648*4294967296 ^ (n - 1)≤B*2 ^ (32 - l):=by
    have h3:2 ^ (l - 1)*4294967296 ^ (n - 1)≤B:=(oG hp).1 (by rw[hBd];exact hl5)
    calc 2147483648*4294967296 ^ (n - 1)=2 ^ (l - 1)*4294967296 ^ (n - 1)*2 ^ (32 - l):=by rw[←epow2,BI]
     _≤B*2 ^ (32 - l):=ci _ h3
   have hVhi:B*2 ^ (32 - l)<4294967296 ^ n:=by
    have h3:B<2 ^ l*4294967296 ^ (n - 1):=(oh hp).1 (by rw[hBd];exact Lx)
    calc B*2 ^ (32 - l)<2 ^ l*4294967296 ^ (n - 1)*2 ^ (32 - l):=Jk h3 hS
     _=4294967296 ^ n:=by rw[BI,epow,cj,←epn]
   have Ey:0<B*2 ^ (32 - l):=rU GT hS
   have hmn:n≤m:=by
    rcases ck m n with h|h
    ·have h3:4294967296 ^ m≤4294967296 ^ (n - 1):=g9 hb (by omega)
     have h4:=pU hn0
     omega
    ·exact h
   have hUk:A*2 ^ (32 - l) / 4294967296 ^ (m - n+1)<B*2 ^ (32 - l):=by
    rw[oh (cJ hb)]
    have h3:A<B*4294967296 ^ (m - n+1):=by
     have h4:4294967296 ^ (n - 1)*4294967296 ^ (m - n+1)≤B*4294967296 ^ (m - n+1):=ci _ (pU hn0)
     rw[←gy,show n - 1+(m - n+1)=m from by omega] at h4
     omega
    calc A*2 ^ (32 - l)<B*4294967296 ^ (m - n+1)*2 ^ (32 - l):=Jk h3 hS
     _=B*2 ^ (32 - l)*4294967296 ^ (m - n+1):=BI _ _ _
   have eidx:i64.wrap ((m:Int) - (n:Int))=((m - n+1:Nat):Int) - 1:=by rw[cd];omega
   rw[bu _ _,show i64.wrap ((n:Int) - 1)=((n - 1:Nat):Int) from by rw[cd];omega,aJ,bH,fY hk,zM,ab,G_up hs,ab,G_up hs,ab,ab]
   dsimp only
   rw[build17 hA hs,eidx,r16,MR h2 (by omega) hVlo hVhi hUk,ab]
   dsimp only
   have hmod:A*2 ^ (32 - l) % (B*2 ^ (32 - l))<4294967296 ^ 16:=bW (dA _ Ey) (cX (kQ hVhi) (g9 hb hn))
   rw[vsub 16 0 (by omega),fI,mX,G_down hmod hs,ab,Nat.mul_mod_mul_right,Jj _ hS,Nat.mul_div_mul_right _ _ hS]
theorem wV(x y:Nat):Nat.gcd x y=Nat.gcd y (x % y):=by
 rw[Nat.gcd_comm x y,Nat.gcd_rec,Nat.gcd_comm]
theorem PD(x y:Nat):a5 ie ((x:Int),(y:Int))=some ((Nat.gcd x y:Nat):Int):=by
 induction y using Nat.strongRecOn generalizing x with
 |_ y ih=>
  by_cases hy:y=0
  ·subst hy
   rw[E8]
   exact fS (by dsimp only[ie];rw[bu _ _ (by simp)])
  ·have h1:ie ((x:Int),(y:Int))=some (.inl ((y:Int),((x % y:Nat):Int))):=by
    dsimp only[ie]
    rw[bt _ _,aJ,←rp]
   rw[kB h1,ih (x % y) (dA _ (by omega)) y,←wV]
theorem tF {A:Nat}(hA:A<LIM):∃n:Nat,eu (W A)=some (n:Int)∧(n≤2↔A<18446744073709551616):=by
 obtain⟨n,hn,h1,h2⟩:=yR hA
 have e:(4294967296:Nat) ^ 2=18446744073709551616:=by decide
 refine⟨n,h1,fun h=>?_,fun h=>HV (by decide) h2 (by rw[e];exact h)⟩
 have h3:4294967296 ^ n≤4294967296 ^ 2:=g9 (by decide) h
 rw[e] at h3
 exact bW h2.1 h3
theorem G_Abs {a:Int}(ha:a.natAbs<LIM):oZ (enc a)=some (enc (a.natAbs:Int)):=by
 unfold oZ
 rw[xn,bQ ha,ab,eo,ba,l9 ha,iO ha,ab]
 rfl
theorem uB {a c:Int}(ha:a.natAbs<LIM)(hc:c.natAbs<LIM)(h1:a.natAbs<18446744073709551616)(h2:c.natAbs<18446744073709551616)(p:aq→aq→Option aq):
  cp p (enc a) (enc c)=some (enc (Nat.gcd a.natAbs c.natAbs:Nat)):=by
 obtain⟨n,hn1,GJ⟩:=tF ha
 obtain⟨m,Lw,hm2⟩:=tF hc
 have hg:Nat.gcd a.natAbs c.natAbs<18446744073709551616:=by
  rcases ma a.natAbs with h|h
  ·rw[h,Ji];exact h2
  ·exact fj (yE _ h) h1
 have hgL:Nat.gcd a.natAbs c.natAbs<LIM:=bW hg (by decide)
 unfold cp
 rw[sT,bQ ha,bQ hc,ab]
 simp only[eh,eo,ba,l9 ha,l9 hc]
 rw[hn1,ab,bt _ _ (by have:=GJ.2 h1;omega),Lw,ab,ab,bt _ _ (by have:=hm2.2 h2;omega),Nh h1,Nh h2,ab,ab,PD,ab,xD,uO,xC,Pi hg,iO hgL,ab]
 rfl
theorem Hx {a:Int}(ha:a.natAbs<LIM)(p:aq→aq→Option aq):cp p (enc a) (enc 0)=some (enc (Nat.gcd a.natAbs 0:Nat)):=by
 by_cases h1:a.natAbs<18446744073709551616
 ·exact uB ha (by decide) h1 (by decide) p
 ·obtain⟨n,hn1,GJ⟩:=tF ha
  have hc:(0:Int).natAbs<LIM:=by decide
  unfold cp
  rw[sT,bQ ha,bQ hc,ab]
  simp only[eh,eo,ba,l9 ha,l9 hc]
  rw[hn1,ab,bu _ _ (by have:=mt GJ.1 h1;omega),ab,ba,bu _ _ (by rw[z16];exact fun h=>h rfl),G_Abs ha,ab,E8]
theorem Hy {a c:Int}(ha:a.natAbs<LIM)(hc:c.natAbs<LIM)(h0:c.natAbs≠0)(h1:¬(a.natAbs<18446744073709551616∧c.natAbs<18446744073709551616))(p:aq→aq→Option aq):
  cp p (enc a) (enc c)=p (enc (c.natAbs:Int)) (enc ((a.natAbs % c.natAbs:Nat):Int)):=by
 obtain⟨n,hn1,GJ⟩:=tF ha
 obtain⟨m,Lw,hm2⟩:=tF hc
 have hr:a.natAbs % c.natAbs<LIM:=fj (Nat.mod_le _ _) ha
 unfold cp
 rw[sT,bQ ha,bQ hc,ab]
 simp only[eh,eo,ba,l9 ha,l9 hc]
 rw[hn1,ab,Lw,ab]
 have zh:(cnd (decide ((n:Int)≤(2:Int))) (some (decide ((m:Int)≤(2:Int)))) (some (false)))=some false:=by
  rw[jb]
  split
  ·rename_i h
   congr 1
   have h2:=GJ.1 (by omega)
   exact gG fun h3=>h1 ⟨h2,hm2.1 (by omega)⟩
  ·rfl
 rw[zh,ab,ba,z16,bt _ _ (by rw[BU hc uA];exact h0),B6 ha hc (by omega),ab,iO hc,ab]
 dsimp only
 rw[iO hr,ab,vM]
 rfl
theorem LC {x y:Nat}(hy:0<y)(hxy:y≤x):2*(y*(x % y))<x*y:=by
 have h1:=og x y
 have h2:=dA x hy
 have h3:0<x / y:=BK hxy hy
 have h4:y≤y*(x / y):=yD _ h3
 have h5:2*(x % y)<x:=by omega
 have h6:2*(x % y)*y<x*y:=Jk h5 hy
 calc 2*(y*(x % y))=2*(x % y)*y:=by rw[cj y,eV]
  _<x*y:=h6
theorem KU(n:Nat):∀{a c:Int},a.natAbs<LIM→c.natAbs<LIM→c.natAbs≤a.natAbs→a.natAbs*c.natAbs<18446744073709551616*2 ^ n→gC (n+2) (enc a) (enc c)=some (enc (Nat.gcd a.natAbs c.natAbs:Nat)):=by
 induction n with
 |zero=>
  intro a c ha hc hle hp
  show cp _ _ _=_
  by_cases h0:c.natAbs=0
  ·obtain rfl:c=0:=by omega
   exact Hx ha _
  ·have h1:a.natAbs≤a.natAbs*c.natAbs:=yD _ (by omega)
   exact uB ha hc (by omega) (by omega) _
 |succ n ih=>
  intro a c ha hc hle hp
  show cp (gC (n+2)) _ _=_
  by_cases h0:c.natAbs=0
  ·obtain rfl:c=0:=by omega
   exact Hx ha _
  ·by_cases h1:a.natAbs<18446744073709551616∧c.natAbs<18446744073709551616
   ·exact uB ha hc h1.1 h1.2 _
   ·have h2:=LC (sN h0) hle
    have h3:=dA a.natAbs (sN h0)
    rw[Hy ha hc h0 h1,ih (by rw[ek];exact hc) (by rw[ek];omega) (by rw[ek,ek];omega) (by rw[ek,ek];rw[eH] at hp;omega),ek,ek,←wV]
theorem K2 {a c:Int}(ha:a.natAbs<LIM)(hc:c.natAbs<LIM):m7 (enc a) (enc c)=some (enc (Nat.gcd a.natAbs c.natAbs:Nat)):=by
 have e:LIM*LIM≤18446744073709551616*2 ^ 960:=by decide +kernel
 have mono:∀(n:Nat) {x y r:aq},gC n x y=some r→∀m,n≤m→gC m x y=some r:=by
  have step:∀{p q:aq→aq→Option aq},(∀{x y r},p x y=some r→q x y=some r)→∀{x y r},cp p x y=some r→cp q x y=some r:=by
   intro p q hpq x y r h
   unfold cp at h ⊢
   obtain⟨b,h1,h⟩:=ah h
   rw[h1,ab]
   cases b with
   |false=>exact h
   |true=>
    rw[eo,ba] at h ⊢
    obtain⟨b2,h2,h⟩:=ah h
    rw[h2,ab]
    cases b2 with
    |true=>exact h
    |false=>
     rw[ba] at h ⊢
     cases hd:decide (¬(y.vW=#v[(0:Int),0,0,0,0,0,0,0,0,0,0,0,0,0,0,0])) with
     |false=>rw[hd] at h;exact h
     |true=>
      rw[hd,gU] at h
      rw[gU]
      obtain⟨q1,h3,h⟩:=ah h
      rw[h3,ab]
      obtain⟨q2,h4,h⟩:=ah h
      rw[h4,ab]
      obtain⟨q3,h5,h⟩:=ah h
      rw[h5,ab]
      obtain⟨q4,h6,h⟩:=ah h
      rw[hpq h6,ab]
      exact h
  intro n
  induction n with
  |zero=>intro x y r h;cases h
  |succ n ih=>
   intro x y r h m hm
   obtain⟨m,rfl⟩:∃k,m=k+1:=⟨m - 1,by omega⟩
   exact step (fun h=>ih h m (by omega)) h
 unfold m7
 by_cases hle:c.natAbs≤a.natAbs
 ·refine mono 962 (KU 960 ha hc hle ?_) 1000 (by decide)
  exact bW (yG ha hc) e
 ·by_cases h1:a.natAbs<18446744073709551616∧c.natAbs<18446744073709551616
  ·exact uB ha hc h1.1 h1.2 _
  ·refine mono 963 ?_ 1000 (by decide)
   show cp (gC 962) _ _=_
   rw[Hy ha hc (by omega) h1,dK (by omega),KU 960 (by rw[ek];exact hc) (by rw[ek];exact ha) (by rw[ek,ek];omega) (by rw[ek,ek];exact bW (yG hc ha) e),ek,ek,Nat.gcd_comm]
theorem p9 {x y:Int}(hy:y≠0)(q r:Int)(h:q*y+r=x)(hr:0≤r∧r<y∨y<r∧r≤0):q=x.fdiv y∧r=x.fmod y:=by
 have h2:x.fdiv y*y+x.fmod y=x:=Int.fdiv_mul_add_fmod x y
 have hf:0≤x.fmod y∧x.fmod y<y∨y<x.fmod y∧x.fmod y≤0:=by
  rcases Int.lt_or_gt_of_ne hy with h|h
  ·right
   have h3:=Int.neg_fmod_neg x y
   have h4:=E7 (-x) (b:=-y) (by omega)
   have h5:=E6 (-x) (b:=-y) (by omega)
   omega
  ·left;exact⟨E7 _ h,E6 _ h⟩
 have hq:q=x.fdiv y:=by
  have h3:(q - x.fdiv y)*y=x.fmod y - r:=by rw[Int.sub_mul];omega
  rcases Jh (q - x.fdiv y) 0 with h4|h4|h4
  ·exfalso
   rcases hr with hr|hr <;> rcases hf with hf|hf
   ·have:(q - x.fdiv y)*y≤(-1)*y:=Pg (by omega) (by omega)
    omega
   ·omega
   ·omega
   ·have:(-1)*y≤(q - x.fdiv y)*y:=Pf (by omega) (by omega)
    omega
  ·omega
  ·exfalso
   rcases hr with hr|hr <;> rcases hf with hf|hf
   ·have:1*y≤(q - x.fdiv y)*y:=Pg (by omega) (by omega)
    omega
   ·omega
   ·omega
   ·have:(q - x.fdiv y)*y≤1*y:=Pf (by omega) (by omega)
    omega
 subst hq
 exact⟨rfl,by omega⟩
theorem FX {x y:Int}(hy:y≠0):x.tmod y<y.natAbs∧-(y.natAbs:Int)<x.tmod y:=by
 have h1:=Int.natAbs_tmod x y
 have h2:=dA x.natAbs (show 0<y.natAbs by omega)
 rw[←h1] at h2
 omega
theorem Ld {x y:Int}(hy:y≠0):(cnd (decide (x.tmod y≠0)) (some (!((decide (x.tmod y<0)) == (decide (y<0))))) (some false))=some (decide (x.fdiv y≠x.tdiv y))∧(x.fdiv y≠x.tdiv y→x.fdiv y=x.tdiv y - 1∧x.fmod y=x.tmod y+y)∧(x.fdiv y=x.tdiv y→x.fmod y=x.tmod y):=by
 have e1:x.tdiv y*y+x.tmod y=x:=Int.tdiv_mul_add_tmod x y
 have e2:x.fdiv y*y+x.fmod y=x:=Int.fdiv_mul_add_fmod x y
 have hm:=FX (x:=x) hy
 rw[jb]
 by_cases h1:x.tmod y=0
 ·obtain⟨h2,h3⟩:=p9 (x:=x) hy (x.tdiv y) (x.tmod y) e1 (by omega)
  rw[aA (by simp[h1])]
  exact⟨by simp[h2],fun h=>absurd h2.symm h,fun _=>h3.symm⟩
 ·rw[ay h1]
  by_cases h2:(x.tmod y<0)↔(y<0)
  ·obtain⟨h3,h4⟩:=p9 (x:=x) hy (x.tdiv y) (x.tmod y) e1 (by omega)
   refine⟨?_,fun h=>absurd h3.symm h,fun _=>h4.symm⟩
   rw[mW.2 h2,BL]
   simp[h3]
  ·obtain⟨h3,h4⟩:=p9 (x:=x) hy (x.tdiv y - 1) (x.tmod y+y) (by rw[Int.sub_mul];omega) (by omega)
   have h5:(decide (x.tmod y<0) == decide (y<0))=false:=E5.2 fun h=>h2 (mW.1 h)
   have h6:x.fdiv y≠x.tdiv y:=by omega
   refine⟨?_,fun _=>⟨h3.symm,h4.symm⟩,fun h=>absurd h h6⟩
   rw[h5]
   simp[h6]
theorem Mt {x y:Int}(hx:-9223372036854775807≤x∧x≤9223372036854775807):-9223372036854775807≤x.tdiv y∧x.tdiv y≤9223372036854775807:=by
 have h1:(x.tdiv y).natAbs=x.natAbs / y.natAbs:=Int.natAbs_tdiv ..
 have h2:x.natAbs / y.natAbs≤x.natAbs:=tY _ _
 omega
theorem OG {x y:Int}(hx:-9223372036854775807≤x∧x≤9223372036854775807)(L3:-9223372036854775807≤y∧y≤9223372036854775807)(hy:y≠0):
  (bnd (S:=Int×Int) (bnd (S:=Bool) (cnd (decide ((Int.tmod x y)≠(0:Int))) (some (!((decide ((Int.tmod x y)<(0:Int))) == (decide (y<(0:Int)))))) (some (false))) fun zy=>cnd zy (bnd (some (i64.wrap ((i64.wrap (Int.tdiv x y)) - (1:Int)))) fun xo=>bnd (some (i64.wrap ((Int.tmod x y)+y))) fun v8=>some ((xo,v8))) (some ((i64.wrap (Int.tdiv x y),Int.tmod x y)))) fun (jE,pP)=>bnd (eN jE) fun x32=>bnd (eN pP) fun x34=>some ((.inr (x32,x34)):Unit⊕(aq×aq)))=some (.inr (enc (x.fdiv y),enc (x.fmod y))):=by
 obtain⟨h1,h2,h3⟩:=Ld (x:=x) hy
 have hq:=Mt (y:=y) hx
 have hm:=FX (x:=x) hy
 rw[h1,ab]
 by_cases h:x.fdiv y=x.tdiv y
 ·have hf:=h3 h
  rw[bu _ _ (fun hh=>hh h),ab,K6]
  dsimp only
  rw[Fm (by omega) (by omega),ab,Fm (by omega) (by omega),ab,h,hf]
 ·obtain⟨h4,h5⟩:=h2 h
  have hf:x.fmod y≤9223372036854775807∧-9223372036854775807≤x.fmod y:=by
   have:-(y.natAbs:Int)≤x.fmod y∧x.fmod y≤y.natAbs:=by
    rcases Int.lt_or_gt_of_ne hy with hl|hl
    ·have h7:=E7 (-x) (b:=-y) (by omega)
     have h8:=E6 (-x) (b:=-y) (by omega)
     have h9:=Int.neg_fmod_neg x y
     omega
    ·have h7:=E7 x (b:=y) (by omega)
     have h8:=E6 x (b:=y) (by omega)
     omega
   omega
  rw[bt _ _ h,K6 (z:=Int.tdiv x y) (by omega),ab,ab,K6,K6,←h4,←h5]
  dsimp only
  rw[ab]
  dsimp only
  rw[Fm (by omega) (by omega),ab,Fm (by omega) (by omega),ab]
theorem LZ {a c:Int}(ha:a.natAbs<LIM)(hc:c.natAbs<LIM)(h0:c≠0):kb (enc a) (enc c)=some (enc (a.fdiv c),enc (a.fmod c)):=by
 have slow:∀r:Unit⊕(aq×aq),r=.inl ()→(match r with| .inl ()=>bnd (fB (enc a).vW (enc c).vW) fun zT=>bnd (bF (!((enc a).vNeg == (enc c).vNeg)) zT.1) fun HF=>bnd (S:=(Vector Int 16)×aq) (bnd (S:=Bool) (cnd (decide (¬(zT.2=#v[(0:Int),0,0,0,0,0,0,0,0,0,0,0,0,0,0,0]))) (some (!((enc a).vNeg == (enc c).vNeg))) (some (false))) fun qD=>cnd qD (bnd (eN (1:Int)) fun x44=>bnd (m6 HF x44) fun x46=>bnd (gB (enc c).vW zT.2) fun x48=>some ((x48,x46))) (some ((zT.2,HF)))) fun (zw,xa)=>bnd (bF (enc c).vNeg zw) fun zB=>some (xa,zB)| .inr r=>some r)=some (enc (a.fdiv c),enc (a.fmod c)):=by
  rintro r rfl
  dsimp only
  have hr:=dA a.natAbs (show 0<c.natAbs by omega)
  have hq:a.natAbs / c.natAbs≤a.natAbs:=tY _ _
  have hdm:=og a.natAbs c.natAbs
  rw[l9 ha,l9 hc,nQ ha,nQ hc,B6 ha hc (by omega),ab]
  dsimp only
  rw[iO (fj hq ha),ab,z16]
  simp only[BU (yF hr hc) uA]
  have hdm2:(c.natAbs:Int)*((a.natAbs / c.natAbs:Nat):Int)+((a.natAbs % c.natAbs:Nat):Int)=(a.natAbs:Int):=by rw[←oH,←kP,hdm]
  generalize hQ:a.natAbs / c.natAbs=Q at hdm2 hq ⊢
  generalize hR:a.natAbs % c.natAbs=R at hdm2 hr ⊢
  by_cases hs:decide (a<0)=decide (c<0)
  ·have L8:=mW.1 hs
   rw[hs,BL,eo]
   rw[show (cnd (decide (¬(R=0))) (some false) (some false))=some false from by rw[OU],ab,ba,ab]
   dsimp only[cond_false]
   rw[iO (yF hr hc),ab]
   obtain⟨h1,h2⟩:=p9 (x:=a) h0 (Q:Int) (bif decide (c<0) then -(R:Int) else (R:Int)) (by
    by_cases Fx:c<0
    ·rw[cV Fx,lO]
     have e:c=-(c.natAbs:Int):=by omega
     have e2:a=-(a.natAbs:Int):=by omega
     rw[e2,←hdm2]
     conv=>lhs;rw[e]
     rw[Int.mul_neg,sM];omega
    ·rw[gG Fx,cond_false]
     have e:c=(c.natAbs:Int):=by omega
     have e2:a=(a.natAbs:Int):=by omega
     rw[e2,←hdm2]
     conv=>lhs;rw[e]
     rw[sM]) (by
    by_cases Fx:c<0
    ·rw[cV Fx,lO];omega
    ·rw[gG Fx,cond_false];omega)
   rw[←h1,←h2]
  ·have L8:¬((a<0)↔(c<0)):=fun h=>hs (mW.2 h)
   have hb:(decide (a<0) == decide (c<0))=false:=E5.2 hs
   rw[hb,t5,lO]
   have hmul:-(Q:Int)*c=(if c<0 then 1 else -1)*((c.natAbs:Int)*(Q:Int)):=by
    split
    ·have e:c=-(c.natAbs:Int):=by omega
     conv=>lhs;rw[e]
     rw[Int.neg_mul_neg,Int.one_mul,sM]
    ·have e:c=(c.natAbs:Int):=by omega
     conv=>lhs;rw[e]
     rw[Int.neg_mul,Int.neg_mul,Int.one_mul,sM]
   by_cases HK:R=0
   ·rw[bu _ _ (by simpa using HK),ab,ba,ab]
    dsimp only
    rw[iO (yF hr hc),ab]
    obtain⟨h1,h2⟩:=p9 (x:=a) h0 (-(Q:Int)) 0 (by rw[hmul];subst HK;split <;> omega) (by omega)
    rw[←h1,←h2]
    subst HK
    cases decide (c<0) <;> rfl
   ·have hQ1:((-(Q:Int)).natAbs)<LIM:=by rw[Int.natAbs_neg,ek];exact fj hq ha
    rw[bt _ _ HK,ab,gU,Fm (by decide) (by decide),ab,G_Sub hQ1 (by decide),ab,Fl (kQ hr),ab,ab]
    dsimp only
    rw[iO (fj (Nat.sub_le _ _) hc),ab]
    obtain⟨h1,h2⟩:=p9 (x:=a) h0 (-(Q:Int) - 1) (bif decide (c<0) then -((c.natAbs - R:Nat):Int) else ((c.natAbs - R:Nat):Int)) (by
     rw[Int.sub_mul,hmul]
     by_cases Fx:c<0
     ·rw[cV Fx,lO,ay Fx];omega
     ·rw[gG Fx,cond_false,aA Fx];omega) (by
     by_cases Fx:c<0
     ·rw[cV Fx,lO];omega
     ·rw[gG Fx,cond_false];omega)
    rw[←h1,←h2]
 unfold kb
 rw[sT,bQ ha,bQ hc,ab,eh,eo,ba,yS hc,ab,ab,bu _ _ (by rw[Jg];exact h0),KZ ha,ab]
 have NX:∀z:Int,(bnd (S:=Bool) (cnd (if -9223372036854775808≤z∧z<9223372036854775808 then (z,true) else (0,false):Int×Bool).2 (some (decide ((if -9223372036854775808≤z∧z<9223372036854775808 then (z,true) else (0,false):Int×Bool).1≠(-9223372036854775808:Int)))) (some (false))) fun a=>some a)=some (decide (-9223372036854775807≤z∧z≤9223372036854775807)):=by
  intro z
  rw[vM]
  split
  ·rw[gU];congr 1;exact mW.2 (by omega)
  ·rw[ba];congr 1;exact (def_).symm
 have e1:=NX a
 have e2:=NX c
 rw[vM] at e1 e2
 rw[e1,ab,jb]
 split
 ·rename_i h1
  rw[KZ hc,ab,e2,ab,jb]
  split
  ·rename_i h2
   rw[ifp_,ifp_,aJ h0,aJ h0,OG h1 h2 h0,ab]
  ·rw[ab];exact slow _ rfl
 ·rw[ab];exact slow _ rfl
theorem K0 {a c:Int}(ha:a.natAbs<LIM)(hc:c.natAbs<LIM)(h0:c≠0):jJ (enc a) (enc c)=some (enc (a.fdiv c)):=by
 unfold jJ
 rw[LZ ha hc h0,ab]
def js(bj:aq):Bool×Int→Option ((Bool×Int)⊕Bool):=fun (aK,aT)=>cnd (decide (aT<(16:Int))) (bnd (S:=Bool) (cnd aK (gd (0≤aT∧aT<16) (some (decide (((bj.vW)[(aT).toNat]!)=(0:Int))))) (some (false))) fun cQ=>some (.inl (cQ,i64.wrap (aT+(1:Int))))) (some (.inr aK))
def oP(bj:aq):Option Bool:=bnd (a5 (js bj) (true,(0:Int))) fun aG=>cnd bj.vBad (bnd (S:=Bool) (cnd aG (some (!bj.vNeg)) (some (false))) fun jE=>some jE) (bnd (S:=Bool) (cnd (!aG) (some (true)) (some (!bj.vNeg))) fun gk=>some gk)
theorem Cl {bj:aq}{r:Bool}(h:oP bj=some r):aB prog 152 [dG ap bj] (dB r):=by
 refine bL (rs:=[.tmp 2]) (fun cx hx h0=>?_) func152
 unfold oP at h
 iterate 2 refine ra hx ?_
 refine AW.seq (ra hx ?_)
 refine AW.block ?_
 obtain⟨aG,hy,h⟩:=ah h
 refine lp (S:=Bool×Int) (X:=Bool) (fun (aK,aT)=>[(1,.pt 0 0),(3,dB aK),(4,dI .i64 aT)]) (fun (aK,aT)=>⟨[(0,dC (ap.f bj))],[],1⟩) (PE cx (.exit 0) (fun aG=>[(1,.pt 0 0),(3,dB aG)]) fun aG=>⟨[(0,dC (ap.f bj))],[],1⟩) hy ?_ ?_ ?_
 exact wk h0 [0] (wR rfl (wR rfl (wR rfl wTn))) (vC rfl wVn) wLn
 clear hy h
 rintro⟨aK,aT⟩ y h
 dsimp only[js] at h
 refine AW.seq (ra hx ?_)
 refine cdh h rfl (fun cE h=>?_) (fun cE h=>?_)
 refine AW.skip (AW.seq ?_)
 obtain⟨cQ,hy,h⟩:=ah h
 refine jn ((PE cx .normal (fun cQ=>[(1,.pt 0 0),(3,dB cQ),(4,dI .i64 aT)]) fun cQ=>⟨[(0,dC (ap.f bj))],[],1⟩) cQ) ?_ ?_
 replace h:=hy
 refine AW.block (rq hx fun K hK=>?_)
 iterate 2 refine sa ?_
 rcases aZ aK with lR|lR
 replace h:=a3 lR h
 iterate 2 refine ga lR ?_
 obtain⟨Of,h⟩:=aC h
 have hn4:(aT).toNat<16:=by omega
 refine g1 lR (cl Of aE aH) ?_
 refine g1 lR (a8 (an.comp (aU bj) (an.vec (cI .u32) bj.vW (aT).toNat hn4) (fun _=>rfl)) aH) ?_
 refine ga lR ?_
 refine s1 (al lR) ?_
 refine sa ?_
 refine .nil (hK _ _ ?_)
 cases h
 exact pe0 h0 [0]
 replace h:=a4 lR h
 iterate 5 refine aI rfl rfl lR ?_
 refine s1 (au lR) ?_
 refine sa ?_
 refine .nil (hK _ _ ?_)
 cases h
 exact pe0 h0 [0]
 rintro ex tm' hp' ⟨rfl,hw⟩
 refine AW.weak hw (rb hx ?_)
 cases h
 exact PS.l (pe0 h0 [0])
 refine AW.exit ?_
 try dsimp only
 try simp only[aM,reduceIte,Nat.reduceEqDiff,reduceCtorEq]
 cases h
 exact PS.r ⟨by nofun,PE.i (wk h0 [0] (wR rfl (wR rfl wTn)) (vC rfl wVn) wLn)⟩
 rintro ex tm' hp' ⟨rfl,hw⟩
 try dsimp only
 try simp only[aM,reduceIte,Nat.reduceEqDiff,reduceCtorEq]
 refine AW.weak hw (AW.seq (rs hx fun K hK=>?_))
 refine sa ?_
 refine s1 (a8 (iq bj) gp) ?_
 refine .nil (hK _ _ (cdh h rfl (fun tg h=>?_) (fun tg h=>?_)))
 refine AW.seq ?_
 obtain⟨jE,hy,h⟩:=ah h
 refine jn ((PE cx .normal (fun jE=>[(2,dB jE)]) fun jE=>⟨[],[],0⟩) jE) ?_ ?_
 replace h:=hy
 refine rq hx fun K hK=>?_
 iterate 2 refine sa ?_
 rcases aZ aG with oe|oe
 replace h:=a3 oe h
 refine ga oe ?_
 refine g1 oe (a8 (bw bj) gp) ?_
 refine ga oe ?_
 refine s1 (al oe) ?_
 refine sa ?_
 refine .nil (hK _ _ ?_)
 cases h
 exact pe0 h0 []
 replace h:=a4 oe h
 iterate 3 refine aI rfl rfl oe ?_
 refine s1 (au oe) ?_
 refine sa ?_
 refine .nil (hK _ _ ?_)
 cases h
 exact pe0 h0 []
 rintro ex tm' hp' ⟨rfl,hw⟩
 refine AW.weak hw (AW.ret ?_)
 cases h
 exact rv1
 refine AW.skip (AW.seq ?_)
 obtain⟨gk,hy,h⟩:=ah h
 refine jn ((PE cx .normal (fun gk=>[(2,dB gk)]) fun gk=>⟨[],[],0⟩) gk) ?_ ?_
 replace h:=hy
 refine rq hx fun K hK=>?_
 iterate 3 refine sa ?_
 rcases aZ (!aG) with fh|fh
 replace h:=a3 fh h
 iterate 3 refine aI rfl rfl fh ?_
 refine s1 (al fh) ?_
 refine sa ?_
 refine .nil (hK _ _ ?_)
 cases h
 exact pe0 h0 []
 replace h:=a4 fh h
 refine ga fh ?_
 refine g1 fh (a8 (bw bj) gp) ?_
 refine ga fh ?_
 refine s1 (au fh) ?_
 refine sa ?_
 refine .nil (hK _ _ ?_)
 cases h
 exact pe0 h0 []
 rintro ex tm' hp' ⟨rfl,hw⟩
 refine AW.weak hw (AW.ret ?_)
 cases h
 exact rv1
def dc(bj:aq):Option Bool:=bnd (oP bj) fun x1=>bnd (S:=Bool) (cnd x1 (some (!bj.vBad)) (some (false))) fun kS=>some kS
theorem il {bj:aq}{r:Bool}(h:dc bj=some r):aB prog 118 [dG ap bj] (dB r):=by
 refine bL (rs:=[.tmp 2]) (fun cx hx h0=>?_) func118
 unfold dc at h
 refine ra hx ?_
 refine rs hx fun K hK=>?_
 refine s1 (d:=dG ap bj) (aF (an.id _ _) az) ?_
 refine scb h Cl fun x1 h=>?_
 refine sa ?_
 refine .nil (hK _ _ (AW.seq ?_))
 obtain⟨kS,hy,h⟩:=ah h
 refine jn ((PE cx .normal (fun kS=>[(2,dB kS)]) fun kS=>⟨[],[],0⟩) kS) ?_ ?_
 replace h:=hy
 refine rq hx fun K hK=>?_
 iterate 2 refine sa ?_
 rcases aZ x1 with bm|bm
 replace h:=a3 bm h
 refine ga bm ?_
 refine g1 bm (a8 (iq bj) gp) ?_
 refine ga bm ?_
 refine s1 (al bm) ?_
 refine sa ?_
 refine .nil (hK _ _ ?_)
 cases h
 exact pe0 h0 []
 replace h:=a4 bm h
 iterate 3 refine aI rfl rfl bm ?_
 refine s1 (au bm) ?_
 refine sa ?_
 refine .nil (hK _ _ ?_)
 cases h
 exact pe0 h0 []
 rintro ex tm' hp' ⟨rfl,hw⟩
 refine AW.weak hw (AW.ret ?_)
 cases h
 exact rv1
def lV(bj:aq):Int→Option (Int⊕((Int×Bool)⊕Unit)):=fun cQ=>cnd (decide (cQ<(16:Int))) (gd (0≤cQ∧cQ<16) (cnd (decide (((bj.vW)[(cQ).toNat]!)≠(0:Int))) (some (.inr (.inl ((0:Int),false)))) (some (.inl (i64.wrap (cQ+(1:Int))))))) (some (.inr (.inr ())))
def lW(bj:aq):Option (Int×Bool):=bnd (dc bj) fun x1=>bnd (S:=Bool) (cnd (!x1) (some (true)) (some (decide ((1073741824:Int)≤((bj.vW)[((1:Int)).toNat]!))))) fun aS=>cnd aS (some ((0:Int),false)) (bnd (a5 (lV bj) (2:Int)) fun y11=>match y11 with| .inl r=>some r| .inr ()=>bnd (some (i64.wrap ((i64.wrap ((i64.wrap ((bj.vW)[((1:Int)).toNat]!))*(4294967296:Int)))+(i64.wrap ((bj.vW)[((0:Int)).toNat]!))))) fun pF=>cnd bj.vNeg (some (i64.wrap (0 - pF),true)) (some (pF,true)))
theorem wj {bj:aq}{r:Int×Bool}(h:lW bj=some r):aB prog 149 [dG ap bj] (.tu [dI .i64 r.1,dB r.2]):=by
 refine bL (rs:=[.tmp 2,.tmp 3]) (fun cx hx h0=>?_) func149
 unfold lW at h
 refine ra hx ?_
 refine rs hx fun K hK=>?_
 refine s1 (d:=dG ap bj) (aF (an.id _ _) az) ?_
 refine scb h il fun x1 h=>?_
 refine sa ?_
 refine .nil (hK _ _ ?_)
 iterate 2 refine AW.seq ?_
 obtain⟨aS,hy,h⟩:=ah h
 refine jn ((PE cx .normal (fun aS=>[(1,.pt 0 0),(16,dB aS)]) fun aS=>⟨[(0,dC (ap.f bj))],[],1⟩) aS) ?_ ?_
 replace h:=hy
 refine rq hx fun K hK=>?_
 iterate 3 refine sa ?_
 rcases aZ (!x1) with bm|bm
 replace h:=a3 bm h
 iterate 4 refine aI rfl rfl bm ?_
 refine s1 (al bm) ?_
 refine .nil (hK _ _ ?_)
 cases h
 exact pe0 h0 [0]
 replace h:=a4 bm h
 refine ga bm ?_
 have hn4:((1:Int)).toNat<16:=by omega
 refine g1 bm (cl (by decide:0≤(1:Int)∧(1:Int)<((16:Nat):Int)) aE aH) ?_
 refine g1 bm (a8 (an.comp (aU bj) (an.vec (cI .u32) bj.vW ((1:Int)).toNat hn4) (fun _=>rfl)) aH) ?_
 refine ga bm ?_
 refine s1 (au bm) ?_
 refine .nil (hK _ _ ?_)
 cases h
 exact pe0 h0 [0]
 rintro ex tm' hp' ⟨rfl,hw⟩
 refine AW.weak hw (cdh h rfl (fun dy h=>?_) (fun dy h=>?_))
 refine ra hx ?_
 refine AW.ret ?_
 cases h
 exact rv2
 refine AW.skip (AW.seq (ra hx ?_))
 refine AW.block ?_
 obtain⟨y,hy,h⟩:=ah h
 refine lp (S:=Int) (X:=(Int×Bool)⊕Unit) (fun cQ=>[(1,.pt 0 0),(5,dI .i64 cQ)]) (fun cQ=>⟨[(0,dC (ap.f bj))],[],1⟩) (PS (PR [.tmp 2,.tmp 3] fun r=>.tu [dI .i64 r.1,dB r.2]) (PE cx (.exit 0) (fun ()=>[(1,.pt 0 0)]) fun ()=>⟨[(0,dC (ap.f bj))],[],1⟩)) hy ?_ ?_ ?_
 exact wk h0 [0] (wR rfl (wR rfl wTn)) (vC rfl wVn) wLn
 clear hy h
 rintro cQ y h
 dsimp only[lV] at h
 refine AW.seq (ra hx ?_)
 refine cdh h rfl (fun tg h=>?_) (fun tg h=>?_)
 refine AW.skip (AW.seq (AW.block (rs hx fun K hK=>?_)))
 iterate 2 refine sa ?_
 obtain⟨Iz,h⟩:=aC h
 have Ir:(cQ).toNat<16:=by omega
 refine s1 (cl Iz aE aH) ?_
 refine s1 (a8 (an.comp (aU bj) (an.vec (cI .u32) bj.vW (cQ).toNat Ir) (fun _=>rfl)) aH) ?_
 refine sa ?_
 refine .nil (hK _ _ (cdh h rfl (fun fh h=>?_) (fun fh h=>?_)))
 refine ra hx ?_
 refine AW.ret ?_
 cases h
 refine PS.r ⟨by nofun,PS.l (PR.i ?_)⟩
 exact rv2
 refine AW.skip (rb hx ?_)
 cases h
 exact PS.l (pe0 h0 [0])
 refine AW.exit ?_
 try dsimp only
 try simp only[aM,reduceIte,Nat.reduceEqDiff,reduceCtorEq]
 cases h
 exact PS.r ⟨by nofun,PS.r (PE.i (wk h0 [0] (wR rfl wTn) (vC rfl wVn) wLn))⟩
 rcases y with r|⟨⟩
 rintro ex tm' hp' ⟨rfl,hw⟩
 cases h
 exact hw
 rintro ex tm' hp' ⟨rfl,hw⟩
 try dsimp only
 try simp only[aM,reduceIte,Nat.reduceEqDiff,reduceCtorEq]
 refine AW.weak hw (rs hx fun K hK=>?_)
 refine sa ?_
 have NV:((1:Int)).toNat<16:=by omega
 refine s1 (cl (by decide:0≤(1:Int)∧(1:Int)<((16:Nat):Int)) aE aH) ?_
 refine s1 (a8 (an.comp (aU bj) (an.vec (cI .u32) bj.vW ((1:Int)).toNat NV) (fun _=>rfl)) aH) ?_
 iterate 3 refine sa ?_
 have It:((0:Int)).toNat<16:=by omega
 refine s1 (cl (by decide:0≤(0:Int)∧(0:Int)<((16:Nat):Int)) aE aH) ?_
 refine s1 (a8 (an.comp (aU bj) (an.vec (cI .u32) bj.vW ((0:Int)).toNat It) (fun _=>rfl)) aH) ?_
 iterate 2 refine sa ?_
 obtain⟨pF,yd,h⟩:=ah h
 replace yd:=co yd
 refine s2 (d2:=dI .i64 pF) li (fT (congrArg (dI .i64) yd)) ?_
 refine .nil (hK _ _ (AW.seq (rs hx fun K hK=>?_)))
 refine sa ?_
 refine s1 (a8 (bw bj) gp) ?_
 refine .nil (hK _ _ (cdh h rfl (fun IJ h=>?_) (fun IJ h=>?_)))
 refine ra hx ?_
 refine AW.ret ?_
 cases h
 exact rv2
 refine AW.skip (ra hx ?_)
 refine AW.ret ?_
 cases h
 exact rv2
def kg(eJ:List Int):Int→Option (Int⊕Int):=fun aS=>bnd (S:=Bool) (cnd (decide ((0:Int)<aS)) (gd (0≤i64.wrap (aS - (1:Int))∧i64.wrap (aS - (1:Int))<((eJ).length:Int)) (some (decide (((eJ)[(i64.wrap (aS - (1:Int))).toNat]!)=(0:Int))))) (some (false))) fun nh=>cnd nh (some (.inl (i64.wrap (aS - (1:Int))))) (some (.inr aS))
def eO(eJ:List Int):Option (List Int):=bnd (a5 (kg eJ) ((eJ).length:Int)) fun nX=>gd (0≤(0:Int)∧(0:Int)≤nX∧nX≤((eJ).length:Int)) (some (HX eJ (0:Int) nX))
theorem jO {eJ:List Int}{r:List Int}(h:eO eJ=some r):aB prog 157 [dL (cI .i64) eJ] (dL (cI .i64) r):=by
 refine bL (rs:=[.tmp 2]) (fun cx hx h0=>?_) func157
 unfold eO at h
 refine rs hx fun K hK=>?_
 refine s1 (d:=dO 0 (cI .i64) ([]:List Int)) (ep b7 a6) ?_
 refine .nil (hK _ _ (ra hx ?_))
 refine AW.seq (AW.block ?_)
 obtain⟨nX,hy,h⟩:=ah h
 refine lp (S:=Int) (X:=Int) (fun aS=>[(0,dL (cI .i64) eJ),(3,dI .i64 aS)]) (fun aS=>⟨[],[],0⟩) (PE cx (.exit 0) (fun nX=>[(0,dL (cI .i64) eJ),(3,dI .i64 nX)]) fun nX=>⟨[],[],0⟩) hy ?_ ?_ ?_
 exact wk h0 [] (wR rfl (wR rfl wTn)) wVn wLn
 clear hy h
 rintro aS y h
 dsimp only[kg] at h
 iterate 2 refine AW.seq ?_
 obtain⟨nh,hy,h⟩:=ah h
 refine jn ((PE cx .normal (fun nh=>[(0,dL (cI .i64) eJ),(3,dI .i64 aS),(15,dB nh)]) fun nh=>⟨[],[],0⟩) nh) ?_ ?_
 replace h:=hy
 refine rq hx fun K hK=>?_
 iterate 3 refine sa ?_
 rcases aZ (decide ((0:Int)<aS)) with cE|cE
 replace h:=a3 cE h
 iterate 3 refine ga cE ?_
 obtain⟨ni,h⟩:=aC h
 have pU:(i64.wrap (aS - (1:Int))).toNat<(eJ).length:=by omega
 refine g1 cE (fZ ni b7 a6) ?_
 refine g1 cE (pm (c:=(cI .i64)) (l:=eJ) (n:=(i64.wrap (aS - (1:Int))).toNat) (o:=0) a6 pU) ?_
 refine ga cE ?_
 refine s1 (al cE) ?_
 refine .nil (hK _ _ ?_)
 cases h
 exact pe0 h0 []
 replace h:=a4 cE h
 iterate 6 refine aI rfl rfl cE ?_
 refine s1 (au cE) ?_
 refine .nil (hK _ _ ?_)
 cases h
 exact pe0 h0 []
 rintro ex tm' hp' ⟨rfl,hw⟩
 refine AW.weak hw (cdh h rfl (fun nE h=>?_) (fun nE h=>?_))
 refine AW.skip (AW.block (rb hx ?_))
 cases h
 exact PS.l (pe0 h0 [])
 refine AW.exit ?_
 try dsimp only
 try simp only[aM,reduceIte,Nat.reduceEqDiff,reduceCtorEq]
 cases h
 exact PS.r ⟨by nofun,PE.i (wk h0 [] (wR rfl (wR rfl wTn)) wVn wLn)⟩
 rintro ex tm' hp' ⟨rfl,hw⟩
 try dsimp only
 try simp only[aM,reduceIte,Nat.reduceEqDiff,reduceCtorEq]
 refine AW.weak hw (rs hx fun K hK=>?_)
 iterate 2 refine sa ?_
 obtain⟨Oe,h⟩:=aC h
 refine s1 (T_sl (c:=(cI .i64)) (l:=eJ) (a:=(0:Int)) (b:=nX) Oe b7 a6) ?_
 refine sa ?_
 refine .nil (hK _ _ (AW.ret ?_))
 cases h
 exact rv1
def lI :Option aq:=some (⟨true,false,(bU)⟩:aq)
theorem tx  {r:aq}(h:lI=some r):aB prog 132 [] (dG ap r):=by
 refine bL (rs:=[.cell 0 32]) (fun cx hx h0=>?_) func132
 unfold lI at h
 refine rs hx fun K hK=>?_
 refine s1 (bo (F:=ap.f bx) az) ?_
 refine .nil (hK _ _ (rs hx fun K hK=>?_))
 refine s1 (d:=dG ap (⟨true,false,(bU)⟩:aq)) (jF (FL.cons (y:=true) (iq bx) rfl rfl (FL.nil _)) az) ?_
 refine s0 (aO (b':=(⟨true,false,(bU)⟩:aq)) (an.id _ _) az) ?_
 refine .nil (hK _ _ (AW.ret ?_))
 cases h
 exact rv1
def fE(x1:List Int):Int×aq→Option ((Int×aq)⊕aq):=fun (bh,kz)=>cnd (decide (bh<((x1).length:Int))) (bnd (S:=aq) (cnd (decide ((Int.tmod bh (2:Int))=(0:Int))) (gd (0≤i64.wrap (Int.tdiv bh (2:Int))∧i64.wrap (Int.tdiv bh (2:Int))<16) (gd (0≤bh∧bh<((x1).length:Int)) (gd (0≤i64.wrap (Int.tdiv bh (2:Int))∧i64.wrap (Int.tdiv bh (2:Int))<16) (bnd (some ((⟨kz.vBad,kz.vNeg,(kz.vW).set! (i64.wrap (Int.tdiv bh (2:Int))).toNat (u32.wrap (((kz.vW)[(i64.wrap (Int.tdiv bh (2:Int))).toNat]!)+(u32.wrap ((x1)[(bh).toNat]!))))⟩:aq))) fun oa=>some (oa))))) (gd (0≤i64.wrap (Int.tdiv bh (2:Int))∧i64.wrap (Int.tdiv bh (2:Int))<16) (gd (0≤bh∧bh<((x1).length:Int)) (gd (0≤i64.wrap (Int.tdiv bh (2:Int))∧i64.wrap (Int.tdiv bh (2:Int))<16) (bnd (some ((⟨kz.vBad,kz.vNeg,(kz.vW).set! (i64.wrap (Int.tdiv bh (2:Int))).toNat (u32.wrap (((kz.vW)[(i64.wrap (Int.tdiv bh (2:Int))).toNat]!)+(u32.wrap ((u32.wrap ((x1)[(bh).toNat]!))*(65536:Int)))))⟩:aq))) fun x26=>some (x26)))))) fun DF=>some (.inl (i64.wrap (bh+(1:Int)),DF))) (some (.inr kz))
def eQ(tH:Bool)(eJ:List Int):Option aq:=bnd (eO eJ) fun x1=>cnd (decide ((32:Int)<((x1).length:Int))) (bnd (lI) fun x4=>some x4) (bnd (S:=aq) (cnd tH (bnd (some ((⟨false,decide ((0:Int)<((x1).length:Int)),(bU)⟩:aq))) fun x7=>some (x7)) (some ((⟨false,false,(bU)⟩:aq)))) fun gZ=>bnd (a5 (fE x1) ((0:Int),gZ)) fun dM=>some dM)
theorem nq {tH:Bool}{eJ:List Int}{r:aq}(h:eQ tH eJ=some r):aB prog 147 [dB tH,dL (cI .i64) eJ] (dG ap r):=by
 refine bL (rs:=[.cell 4 32]) (fun cx hx h0=>?_) func147
 unfold eQ at h
 refine rs hx fun K hK=>?_
 refine s1 (bo (F:=ap.f bx) az) ?_
 refine .nil (hK _ _ (rs hx fun K hK=>?_))
 refine sa ?_
 refine scb h jO fun x1 h=>?_
 refine sa ?_
 refine .nil (hK _ _ (AW.seq (ra hx ?_)))
 refine cdh h rfl (fun bm h=>?_) (fun bm h=>?_)
 refine rs hx fun K hK=>?_
 refine scb h tx fun x4 h=>?_
 refine s0 (aO (b':=x4) (an.id _ _) az) ?_
 refine .nil (hK _ _ (AW.ret ?_))
 cases h
 exact rv1
 refine AW.skip (AW.seq ?_)
 obtain⟨gZ,hy,h⟩:=ah h
 refine jn ((PE cx .normal (fun gZ=>[(4,.pt 0 0),(5,dL (cI .i64) x1),(6,.pt 1 0)]) fun gZ=>⟨[(0,dC (ap.f bx)),(1,dC (ap.f gZ))],[],2⟩) gZ) ?_ ?_
 replace h:=hy
 refine rq hx fun K hK=>?_
 iterate 2 refine sa ?_
 rcases aZ tH with dy|dy
 replace h:=a3 dy h
 iterate 3 refine ga dy ?_
 refine s1 (al dy) ?_
 refine s1 (d:=dG ap (⟨false,decide ((0:Int)<((x1).length:Int)),(bU)⟩:aq)) (jF (FL.cons (y:=decide ((0:Int)<((x1).length:Int))) (bw bx) rfl rfl (FL.nil _)) az) ?_
 refine s1 (bo (F:=ap.f bx) az) ?_
 obtain⟨x7,xZ,h⟩:=ah h
 replace xZ:=co xZ
 refine s0 (j6 (b':=(⟨false,decide ((0:Int)<((x1).length:Int)),(bU)⟩:aq)) (an.id _ _) az xZ) ?_
 refine .nil (hK _ _ ?_)
 cases h
 exact pe0 h0 [0,1]
 replace h:=a4 dy h
 iterate 3 refine aI rfl rfl dy ?_
 refine s1 (au dy) ?_
 refine s1 (d:=dG ap bx) (jF (FL.cons (y:=false) (bw bx) rfl rfl (FL.nil _)) az) ?_
 refine s1 (bo (F:=ap.f bx) az) ?_
 refine s0 (aO (b':=bx) (an.id _ _) az) ?_
 refine .nil (hK _ _ ?_)
 cases h
 exact pe0 h0 [0,1]
 rintro ex tm' hp' ⟨rfl,hw⟩
 refine AW.weak hw (AW.seq (ra hx ?_))
 refine AW.block ?_
 obtain⟨dM,hy,h⟩:=ah h
 refine lp (S:=Int×aq) (X:=aq) (fun (bh,kz)=>[(4,.pt 0 0),(5,dL (cI .i64) x1),(6,.pt 1 0),(7,dI .i64 bh)]) (fun (bh,kz)=>⟨[(0,dC (ap.f bx)),(1,dC (ap.f kz))],[],2⟩) (PE cx (.exit 0) (fun dM=>[(4,.pt 0 0),(6,.pt 1 0)]) fun dM=>⟨[(0,dC (ap.f bx)),(1,dC (ap.f dM))],[],2⟩) hy ?_ ?_ ?_
 exact wk h0 [0,1] (wR rfl (wR rfl (wR rfl (wR rfl wTn)))) (vC rfl (vC rfl wVn)) wLn
 clear hy h
 rintro⟨bh,kz⟩ y h
 dsimp only[fE] at h
 refine AW.seq (ra hx ?_)
 refine cdh h rfl (fun fh h=>?_) (fun fh h=>?_)
 refine AW.skip (AW.seq ?_)
 obtain⟨DF,hy,h⟩:=ah h
 refine jn ((PE cx .normal (fun DF=>[(4,.pt 0 0),(5,dL (cI .i64) x1),(6,.pt 1 0),(7,dI .i64 bh)]) fun DF=>⟨[(0,dC (ap.f bx)),(1,dC (ap.f DF))],[],2⟩) DF) ?_ ?_
 replace h:=hy
 refine AW.block (ra hx ?_)
 refine cdh h rfl (fun Ok h=>?_) (fun Ok h=>?_)
 refine rqd [] hx fun K hK=>?_
 iterate 5 refine sa ?_
 obtain⟨Oi,h⟩:=aC h
 have It:(i64.wrap (Int.tdiv bh (2:Int))).toNat<16:=by omega
 refine s1 (cl Oi aE aH) ?_
 refine s1 (a8 (an.comp (aU kz) (an.vec (cI .u32) kz.vW (i64.wrap (Int.tdiv bh (2:Int))).toNat It) (fun _=>rfl)) aH) ?_
 iterate 2 refine sa ?_
 obtain⟨hc14,h⟩:=aC h
 have NU:(bh).toNat<(x1).length:=by omega
 refine s1 (fZ hc14 b7 a6) ?_
 refine s1 (pm (c:=(cI .i64)) (l:=x1) (n:=(bh).toNat) (o:=0) a6 NU) ?_
 iterate 3 refine sa ?_
 obtain⟨GL,h⟩:=aC h
 have Is:(i64.wrap (Int.tdiv bh (2:Int))).toNat<16:=by omega
 refine s1 (cl GL aE aH) ?_
 obtain⟨oa,yc,h⟩:=ah h
 replace yc:=co yc
 refine s0 (j6 (b':=u32.wrap (((kz.vW)[(i64.wrap (Int.tdiv bh (2:Int))).toNat]!)+(u32.wrap ((x1)[(bh).toNat]!)))) (an.comp (aU kz) (an.vec (cI .u32) kz.vW (i64.wrap (Int.tdiv bh (2:Int))).toNat Is) (fun _=>rfl)) aH yc) ?_
 refine .nil (hK _ _ ?_)
 cases h
 exact pe0 h0 [0,1]
 refine rqd [] hx fun K hK=>?_
 iterate 5 refine sa ?_
 obtain⟨LB,h⟩:=aC h
 have NT:(i64.wrap (Int.tdiv bh (2:Int))).toNat<16:=by omega
 refine s1 (cl LB aE aH) ?_
 refine s1 (a8 (an.comp (aU kz) (an.vec (cI .u32) kz.vW (i64.wrap (Int.tdiv bh (2:Int))).toNat NT) (fun _=>rfl)) aH) ?_
 iterate 2 refine sa ?_
 obtain⟨Et,h⟩:=aC h
 have hn23:(bh).toNat<(x1).length:=by omega
 refine s1 (fZ Et b7 a6) ?_
 refine s1 (pm (c:=(cI .i64)) (l:=x1) (n:=(bh).toNat) (o:=0) a6 hn23) ?_
 iterate 4 refine sa ?_
 obtain⟨Og,h⟩:=aC h
 have hn25:(i64.wrap (Int.tdiv bh (2:Int))).toNat<16:=by omega
 refine s1 (cl Og aE aH) ?_
 obtain⟨x26,hx27,h⟩:=ah h
 replace hx27:=co hx27
 refine s0 (j6 (b':=u32.wrap (((kz.vW)[(i64.wrap (Int.tdiv bh (2:Int))).toNat]!)+(u32.wrap ((u32.wrap ((x1)[(bh).toNat]!))*(65536:Int))))) (an.comp (aU kz) (an.vec (cI .u32) kz.vW (i64.wrap (Int.tdiv bh (2:Int))).toNat hn25) (fun _=>rfl)) aH hx27) ?_
 refine .nil (hK _ _ ?_)
 cases h
 exact pe0 h0 [0,1]
 rintro ex tm' hp' ⟨rfl,hw⟩
 refine AW.weak hw (rb hx ?_)
 cases h
 exact PS.l (pe0 h0 [0,1])
 refine AW.exit ?_
 try dsimp only
 try simp only[aM,reduceIte,Nat.reduceEqDiff,reduceCtorEq]
 cases h
 exact PS.r ⟨by nofun,PE.i (wk h0 [0,1] (wR rfl (wR rfl wTn)) (vC rfl (vC rfl wVn)) wLn)⟩
 rintro ex tm' hp' ⟨rfl,hw⟩
 try dsimp only
 try simp only[aM,reduceIte,Nat.reduceEqDiff,reduceCtorEq]
 refine AW.weak hw (rs hx fun K hK=>?_)
 refine s1 (d:=dG ap dM) (aF (an.id _ _) az) ?_
 refine s0 (aO (b':=dM) (an.id _ _) az) ?_
 refine .nil (hK _ _ (AW.ret ?_))
 cases h
 exact rv1
def c7(eJ:List Int)(jg:Int):Option Int:=cnd (decide (jg<((eJ).length:Int))) (gd (0≤jg∧jg<((eJ).length:Int)) (some ((eJ)[(jg).toNat]!))) (some (0:Int))
theorem fJ {eJ:List Int}{jg:Int}{r:Int}(h:c7 eJ jg=some r):aB prog 158 [dL (cI .i64) eJ,dI .i64 jg] (dI .i64 r):=by
 refine bL (rs:=[.tmp 4]) (fun cx hx h0=>?_) func158
 unfold c7 at h
 refine ra hx ?_
 refine AW.seq (ra hx ?_)
 refine cdh h rfl (fun cE h=>?_) (fun cE h=>?_)
 refine rs hx fun K hK=>?_
 iterate 2 refine sa ?_
 obtain⟨ni,h⟩:=aC h
 have pU:(jg).toNat<(eJ).length:=by omega
 refine s1 (fZ ni b7 a6) ?_
 refine s1 (pm (c:=(cI .i64)) (l:=eJ) (n:=(jg).toNat) (o:=0) a6 pU) ?_
 refine sa ?_
 refine .nil (hK _ _ (AW.ret ?_))
 cases h
 exact rv1
 refine AW.skip (ra hx ?_)
 refine AW.ret ?_
 cases h
 exact rv1
def jq(aY:List Int)(a9:List Int):(List Int)×Int×Int→Option (((List Int)×Int×Int)⊕((List Int))):=fun (cR,bp,dE)=>cnd (decide (dE<(i64.wrap ((max ((aY).length:Int) ((a9).length:Int))+(1:Int))))) (bnd (c7 aY dE) fun x2=>bnd (c7 a9 dE) fun x4=>bnd (some (i64.wrap ((i64.wrap (x2+x4))+bp))) fun x6=>gd ((cR++[Int.tmod x6 (65536:Int)]).length*8≤140737488355328) (some (.inl (cR++[Int.tmod x6 (65536:Int)],i64.wrap (Int.tdiv x6 (65536:Int)),i64.wrap (dE+(1:Int)))))) (some (.inr cR))
def nK(aY:List Int)(a9:List Int):Option (List Int):=bnd (a5 (jq aY a9) (([]:List Int),(0:Int),(0:Int))) fun b8=>bnd (eO b8) fun nl=>some nl
theorem DP {aY:List Int}{a9:List Int}{r:List Int}(h:nK aY a9=some r):aB prog 148 [dL (cI .i64) aY,dL (cI .i64) a9] (dL (cI .i64) r):=by
 refine bL (rs:=[.tmp 4]) (fun cx hx h0=>?_) func148
 unfold nK at h
 refine rs hx fun K hK=>?_
 refine s1 (d:=dO 0 (cI .i64) ([]:List Int)) (ep b7 a6) ?_
 refine .nil (hK _ _ (rs hx fun K hK=>?_))
 refine s1 (d:=dO 1 (cI .i64) ([]:List Int)) (ep b7 a6) ?_
 refine .nil (hK _ _ (ra hx ?_))
 refine AW.seq (ra hx ?_)
 refine AW.block ?_
 obtain⟨b8,hy,h⟩:=ah h
 refine lp (S:=(List Int)×Int×Int) (X:=(List Int)) (fun (cR,bp,dE)=>[(0,dL (cI .i64) aY),(1,dL (cI .i64) a9),(5,dO 0 (cI .i64) cR),(6,dI .i64 bp),(7,dI .i64 dE)]) (fun (cR,bp,dE)=>⟨[],[(0,(cR).length,1,3)],1⟩) (PE cx (.exit 0) (fun b8=>[(5,dO 0 (cI .i64) b8)]) fun b8=>⟨[],[(0,(b8).length,1,3)],1⟩) hy ?_ ?_ ?_
 exact wk h0 [1] (wR rfl (wR rfl (wR rfl (wR rfl (wR rfl wTn))))) wVn (wL rfl rfl wLn)
 clear hy h
 rintro⟨cR,bp,dE⟩ y h
 dsimp only[jq] at h
 refine AW.seq (ra hx ?_)
 refine cdh h rfl (fun cE h=>?_) (fun cE h=>?_)
 refine AW.skip (AW.seq (AW.block (rs hx fun K hK=>?_)))
 iterate 2 refine sa ?_
 refine scb h fJ fun x2 h=>?_
 iterate 2 refine sa ?_
 refine scb h fJ fun x4 h=>?_
 iterate 3 refine sa ?_
 obtain⟨x6,te,h⟩:=ah h
 replace te:=co te
 refine s2 (d2:=dI .i64 x6) li (fT (congrArg (dI .i64) te)) ?_
 refine .nil (hK _ _ (rs hx fun K hK=>?_))
 iterate 3 refine sa ?_
 refine s1 (d:=dO 1 (cI .i64) [Int.tmod x6 (65536:Int)]) (iM b7 a6) ?_
 obtain⟨Iz,h⟩:=aC h
 refine s1 (d:=dO 0 (cI .i64) (cR++[Int.tmod x6 (65536:Int)])) (iS b7 a6 Iz) ?_
 refine sa ?_
 refine .nil (hK _ _ ?_)
 iterate 2 refine rb hx ?_
 cases h
 exact PS.l (pe0 h0 [0])
 refine AW.exit ?_
 try dsimp only
 try simp only[aM,reduceIte,Nat.reduceEqDiff,reduceCtorEq]
 cases h
 exact PS.r ⟨by nofun,PE.i (wk h0 [0] (wR rfl wTn) wVn (wL rfl rfl wLn))⟩
 rintro ex tm' hp' ⟨rfl,hw⟩
 try dsimp only
 try simp only[aM,reduceIte,Nat.reduceEqDiff,reduceCtorEq]
 refine AW.weak hw (rs hx fun K hK=>?_)
 refine sa ?_
 refine scb h jO fun nl h=>?_
 refine sa ?_
 refine .nil (hK _ _ (AW.ret ?_))
 cases h
 exact rv1
def oA(db:Int):Option aq:=cnd (decide ((0:Int)≤db)) (bnd (eQ false [Int.tmod db (65536:Int),Int.tmod (i64.wrap (Int.tdiv db (65536:Int))) (65536:Int),Int.tmod (i64.wrap (Int.tdiv db (4294967296:Int))) (65536:Int),i64.wrap (Int.tdiv db (281474976710656:Int))]) fun x2=>some x2) (bnd (some (i64.wrap (0 - (i64.wrap (db+(1:Int)))))) fun x4=>bnd (nK [Int.tmod x4 (65536:Int),Int.tmod (i64.wrap (Int.tdiv x4 (65536:Int))) (65536:Int),Int.tmod (i64.wrap (Int.tdiv x4 (4294967296:Int))) (65536:Int),i64.wrap (Int.tdiv x4 (281474976710656:Int))] [(1:Int)]) fun x6=>bnd (eQ true x6) fun x8=>some x8)
theorem Ak {db:Int}{r:aq}(h:oA db=some r):aB prog 115 [dI .i64 db] (dG ap r):=by
 refine bL (rs:=[.cell 2 32]) (fun cx hx h0=>?_) func115
 unfold oA at h
 refine rs hx fun K hK=>?_
 refine s1 (bo (F:=ap.f bx) az) ?_
 refine .nil (hK _ _ (AW.seq (ra hx ?_)))
 refine cdh h rfl (fun cE h=>?_) (fun cE h=>?_)
 refine rs hx fun K hK=>?_
 iterate 10 refine sa ?_
 refine s1 (d:=dO 1 (cI .i64) [Int.tmod db (65536:Int),Int.tmod (i64.wrap (Int.tdiv db (65536:Int))) (65536:Int),Int.tmod (i64.wrap (Int.tdiv db (4294967296:Int))) (65536:Int),i64.wrap (Int.tdiv db (281474976710656:Int))]) (iM b7 a6) ?_
 refine scb h nq fun x2 h=>?_
 refine s0 (aO (b':=x2) (an.id _ _) az) ?_
 refine .nil (hK _ _ (AW.ret ?_))
 cases h
 exact rv1
 refine AW.skip (rs hx fun K hK=>?_)
 iterate 3 refine sa ?_
 obtain⟨x4,vu,h⟩:=ah h
 replace vu:=co vu
 refine s2 (d2:=dI .i64 x4) li (fT (congrArg (dI .i64) vu)) ?_
 refine .nil (hK _ _ (rs hx fun K hK=>?_))
 iterate 10 refine sa ?_
 refine s1 (d:=dO 1 (cI .i64) [Int.tmod x4 (65536:Int),Int.tmod (i64.wrap (Int.tdiv x4 (65536:Int))) (65536:Int),Int.tmod (i64.wrap (Int.tdiv x4 (4294967296:Int))) (65536:Int),i64.wrap (Int.tdiv x4 (281474976710656:Int))]) (iM b7 a6) ?_
 refine s1 (d:=dO 2 (cI .i64) [(1:Int)]) (iM b7 a6) ?_
 refine scb h DP fun x6 h=>?_
 refine scb h nq fun x8 h=>?_
 refine s0 (aO (b':=x8) (an.id _ _) az) ?_
 refine .nil (hK _ _ (AW.ret ?_))
 cases h
 exact rv1
def iB(bj:aq):(List Int)×Int→Option (((List Int)×Int)⊕((List Int))):=fun (aK,aT)=>cnd (decide (aT<(16:Int))) (gd (0≤aT∧aT<16) (gd (0≤aT∧aT<16) (gd ((aK++[i64.wrap (Int.tmod ((bj.vW)[(aT).toNat]!) (65536:Int)),i64.wrap (u32.wrap (Int.tdiv ((bj.vW)[(aT).toNat]!) (65536:Int)))]).length*8≤140737488355328) (some (.inl (aK++[i64.wrap (Int.tmod ((bj.vW)[(aT).toNat]!) (65536:Int)),i64.wrap (u32.wrap (Int.tdiv ((bj.vW)[(aT).toNat]!) (65536:Int)))],i64.wrap (aT+(1:Int)))))))) (some (.inr aK))
def d9(bj:aq):Option (List Int):=bnd (a5 (iB bj) (([]:List Int),(0:Int))) fun aG=>bnd (eO aG) fun x8=>some x8
theorem ln {bj:aq}{r:List Int}(h:d9 bj=some r):aB prog 124 [dG ap bj] (dL (cI .i64) r):=by
 refine bL (rs:=[.tmp 2]) (fun cx hx h0=>?_) func124
 unfold d9 at h
 refine rs hx fun K hK=>?_
 refine sa ?_
 refine s1 (d:=dO 1 (cI .i64) ([]:List Int)) (ep b7 a6) ?_
 refine .nil (hK _ _ (rs hx fun K hK=>?_))
 refine s1 (d:=dO 2 (cI .i64) ([]:List Int)) (ep b7 a6) ?_
 refine .nil (hK _ _ (AW.seq (ra hx ?_)))
 refine AW.block ?_
 obtain⟨aG,hy,h⟩:=ah h
 refine lp (S:=(List Int)×Int) (X:=(List Int)) (fun (aK,aT)=>[(1,.pt 0 0),(3,dO 1 (cI .i64) aK),(4,dI .i64 aT)]) (fun (aK,aT)=>⟨[(0,dC (ap.f bj))],[(1,(aK).length,1,3)],2⟩) (PE cx (.exit 0) (fun aG=>[(3,dO 0 (cI .i64) aG)]) fun aG=>⟨[],[(0,(aG).length,1,3)],1⟩) hy ?_ ?_ ?_
 exact wk h0 [0,2] (wR rfl (wR rfl (wR rfl wTn))) (vC rfl wVn) (wL rfl rfl wLn)
 clear hy h
 rintro⟨aK,aT⟩ y h
 dsimp only[iB] at h
 refine AW.seq (ra hx ?_)
 refine cdh h rfl (fun cE h=>?_) (fun cE h=>?_)
 refine AW.skip (AW.seq (AW.block (rqd [] hx fun K hK=>?_)))
 iterate 3 refine sa ?_
 obtain⟨ni,h⟩:=aC h
 have pU:(aT).toNat<16:=by omega
 refine s1 (cl ni aE aH) ?_
 refine s1 (a8 (an.comp (aU bj) (an.vec (cI .u32) bj.vW (aT).toNat pU) (fun _=>rfl)) aH) ?_
 iterate 4 refine sa ?_
 obtain⟨Fy,h⟩:=aC h
 have NR:(aT).toNat<16:=by omega
 refine s1 (cl Fy aE aH) ?_
 refine s1 (a8 (an.comp (aU bj) (an.vec (cI .u32) bj.vW (aT).toNat NR) (fun _=>rfl)) aH) ?_
 iterate 2 refine sa ?_
 refine s1 (yN b7 a6) ?_
 obtain⟨hc6,h⟩:=aC h
 refine s1 (d:=dO 1 (cI .i64) (aK++[i64.wrap (Int.tmod ((bj.vW)[(aT).toNat]!) (65536:Int)),i64.wrap (u32.wrap (Int.tdiv ((bj.vW)[(aT).toNat]!) (65536:Int)))])) (iS b7 a6 hc6) ?_
 refine sa ?_
 refine .nil (hK _ _ (rb hx ?_))
 cases h
 exact PS.l (pe0 h0 [0,1])
 refine AW.exit ?_
 try dsimp only
 try simp only[aM,reduceIte,Nat.reduceEqDiff,reduceCtorEq]
 cases h
 exact PS.r ⟨by nofun,PE.i (wk h0 [1] (wR rfl wTn) wVn (wL rfl rfl wLn))⟩
 rintro ex tm' hp' ⟨rfl,hw⟩
 try dsimp only
 try simp only[aM,reduceIte,Nat.reduceEqDiff,reduceCtorEq]
 refine AW.weak hw (rs hx fun K hK=>?_)
 refine sa ?_
 refine scb h jO fun x8 h=>?_
 refine sa ?_
 refine .nil (hK _ _ (AW.ret ?_))
 cases h
 exact rv1
def pd(bj:aq):Option aq:=bnd (dc bj) fun x1=>cnd (!x1) (bnd (lI) fun x4=>some x4) (bnd (d9 bj) fun x6=>bnd (eQ false x6) fun x8=>some x8)
theorem FI {bj:aq}{r:aq}(h:pd bj=some r):aB prog 153 [dG ap bj] (dG ap r):=by
 refine bL (rs:=[.cell 2 32]) (fun cx hx h0=>?_) func153
 unfold pd at h
 refine rs hx fun K hK=>?_
 refine sa ?_
 refine s1 (bo (F:=ap.f bx) az) ?_
 refine .nil (hK _ _ (AW.seq (rs hx fun K hK=>?_)))
 refine s1 (d:=dG ap bj) (aF (an.id _ _) az) ?_
 refine scb h il fun x1 h=>?_
 refine sa ?_
 refine .nil (hK _ _ (cdh h rfl (fun bm h=>?_) (fun bm h=>?_)))
 refine rs hx fun K hK=>?_
 refine scb h tx fun x4 h=>?_
 refine s0 (aO (b':=x4) (an.id _ _) az) ?_
 refine .nil (hK _ _ (AW.ret ?_))
 cases h
 exact rv1
 refine AW.skip (rs hx fun K hK=>?_)
 refine s1 (d:=dG ap bj) (aF (an.id _ _) az) ?_
 refine scb h ln fun x6 h=>?_
 refine scb h nq fun x8 h=>?_
 refine s0 (aO (b':=x8) (an.id _ _) az) ?_
 refine .nil (hK _ _ (AW.ret ?_))
 cases h
 exact rv1
def gQ(eJ:List Int)(jg:Int):Option Int:=cnd (decide (jg<(0:Int))) (some (0:Int)) (bnd (c7 eJ jg) fun x2=>some x2)
theorem sh {eJ:List Int}{jg:Int}{r:Int}(h:gQ eJ jg=some r):aB prog 175 [dL (cI .i64) eJ,dI .i64 jg] (dI .i64 r):=by
 refine bL (rs:=[.tmp 4]) (fun cx hx h0=>?_) func175
 unfold gQ at h
 refine ra hx ?_
 refine AW.seq (ra hx ?_)
 refine cdh h rfl (fun cE h=>?_) (fun cE h=>?_)
 refine ra hx ?_
 refine AW.ret ?_
 cases h
 exact rv1
 refine AW.skip (rs hx fun K hK=>?_)
 iterate 2 refine sa ?_
 refine scb h fJ fun x2 h=>?_
 refine sa ?_
 refine .nil (hK _ _ (AW.ret ?_))
 cases h
 exact rv1
def iz(aY:List Int)(a9:List Int)(aK:Int):Int×(List Int)→Option ((Int×(List Int))⊕((List Int))):=fun (gH,q9)=>cnd (decide (gH<((a9).length:Int))) (gd (0≤i64.wrap (aK+gH)∧i64.wrap (aK+gH)<(((i64.wrap ((i64.wrap (((aY).length:Int)+((a9).length:Int)))+(1:Int))).toNat:Nat):Int)∧i64.wrap (aK+gH)<((q9).length:Int)) (gd (0≤aK∧aK<((aY).length:Int)) (gd (0≤gH∧gH<((a9).length:Int)) (gd (0≤i64.wrap (aK+gH)∧i64.wrap (aK+gH)<(((i64.wrap ((i64.wrap (((aY).length:Int)+((a9).length:Int)))+(1:Int))).toNat:Nat):Int)∧i64.wrap (aK+gH)<((q9).length:Int)) (bnd (some ((q9).set ((i64.wrap (aK+gH)).toNat) (i64.wrap (((q9)[(i64.wrap (aK+gH)).toNat]!)+(i64.wrap (((aY)[(aK).toNat]!)*((a9)[(gH).toNat]!))))))) fun jG=>some (.inl (i64.wrap (gH+(1:Int)),jG))))))) (some (.inr q9))
def fU(aY:List Int)(a9:List Int):Int×Int×(List Int)→Option ((Int×Int×(List Int))⊕((List Int))):=fun (Hq,oi,rY)=>cnd (decide (oi<(((i64.wrap ((i64.wrap (((aY).length:Int)+((a9).length:Int)))+(1:Int))).toNat:Nat):Int))) (gd (0≤oi∧oi<(((i64.wrap ((i64.wrap (((aY).length:Int)+((a9).length:Int)))+(1:Int))).toNat:Nat):Int)∧oi<((rY).length:Int)) (bnd (some (i64.wrap (((rY)[(oi).toNat]!)+Hq))) fun oa=>gd (0≤oi∧oi<(((i64.wrap ((i64.wrap (((aY).length:Int)+((a9).length:Int)))+(1:Int))).toNat:Nat):Int)∧oi<((rY).length:Int)) (some (.inl (i64.wrap (Int.tdiv oa (65536:Int)),i64.wrap (oi+(1:Int)),(rY).set ((oi).toNat) (Int.tmod oa (65536:Int))))))) (some (.inr rY))
def jp(aY:List Int)(a9:List Int):Int×(List Int)→Option ((Int×(List Int))⊕((List Int))):=fun (aK,aT)=>cnd (decide (aK<((aY).length:Int))) (bnd (a5 (iz aY a9 aK) ((0:Int),aT)) fun xg=>bnd (a5 (fU aY a9) ((0:Int),(0:Int),xg)) fun xb=>some (.inl (i64.wrap (aK+(1:Int)),xb))) (some (.inr aT))
def my(aY:List Int)(a9:List Int):Option (List Int):=gd (0≤i64.wrap ((i64.wrap (((aY).length:Int)+((a9).length:Int)))+(1:Int))∧i64.wrap ((i64.wrap (((aY).length:Int)+((a9).length:Int)))+(1:Int))≤1000000) (bnd (a5 (jp aY a9) ((0:Int),List.replicate (i64.wrap ((i64.wrap (((aY).length:Int)+((a9).length:Int)))+(1:Int))).toNat (0:Int))) fun aG=>gd ((i64.wrap ((i64.wrap (((aY).length:Int)+((a9).length:Int)))+(1:Int))).toNat=(aG).length) (bnd (eO aG) fun L2=>some L2))
theorem Ck {aY:List Int}{a9:List Int}{r:List Int}(h:my aY a9=some r):aB prog 151 [dL (cI .i64) aY,dL (cI .i64) a9] (dL (cI .i64) r):=by
 refine bL (rs:=[.tmp 4]) (fun cx hx h0=>?_) func151
 unfold my at h
 refine rs hx fun K hK=>?_
 refine s1 (d:=dO 0 (cI .i64) ([]:List Int)) (ep b7 a6) ?_
 refine .nil (hK _ _ (rs hx fun K hK=>?_))
 iterate 6 refine sa ?_
 obtain⟨Kg,h⟩:=aC h
 refine q1 (sMk (c:=(cI .i64)) (z0:=(0:Int)) tok Kg b7 a6 (by first|rfl|kernel_rfl)) ?_
 refine sa ?_
 refine .nil (hK _ _ (AW.seq (ra hx ?_)))
 refine AW.block ?_
 obtain⟨aG,hy,h⟩:=ah h
 refine lp (S:=Int×(List Int)) (X:=(List Int)) (fun (aK,aT)=>[(0,dL (cI .i64) aY),(1,dL (cI .i64) a9),(5,.ow 0 0 1 ((i64.wrap ((i64.wrap (((aY).length:Int)+((a9).length:Int)))+(1:Int))).toNat)),(6,dI .i64 aK)]) (fun (aK,aT)=>⟨[(0,dC ((cW (cI .i64)).f aT))],[],1⟩) (PE cx (.exit 0) (fun aG=>[(5,.ow 0 0 1 ((i64.wrap ((i64.wrap (((aY).length:Int)+((a9).length:Int)))+(1:Int))).toNat))]) fun aG=>⟨[(0,dC ((cW (cI .i64)).f aG))],[],1⟩) hy ?_ ?_ ?_
 exact wk h0 [1] (wR rfl (wR rfl (wR rfl (wR rfl wTn)))) (vC rfl wVn) wLn
 clear hy h
 rintro⟨aK,aT⟩ y h
 dsimp only[jp] at h
 refine AW.seq (ra hx ?_)
 refine cdh h rfl (fun lR h=>?_) (fun lR h=>?_)
 refine AW.skip (AW.seq (AW.block (AW.seq (ra hx ?_))))
 refine AW.block ?_
 obtain⟨xg,hy,h⟩:=ah h
 refine lp (S:=Int×(List Int)) (X:=(List Int)) (fun (gH,q9)=>[(0,dL (cI .i64) aY),(1,dL (cI .i64) a9),(5,.ow 0 0 1 ((i64.wrap ((i64.wrap (((aY).length:Int)+((a9).length:Int)))+(1:Int))).toNat)),(6,dI .i64 aK),(7,dI .i64 gH)]) (fun (gH,q9)=>⟨[(0,dC ((cW (cI .i64)).f q9))],[],1⟩) (PE cx (.exit 2) (fun xg=>[(0,dL (cI .i64) aY),(1,dL (cI .i64) a9),(5,.ow 0 0 1 ((i64.wrap ((i64.wrap (((aY).length:Int)+((a9).length:Int)))+(1:Int))).toNat)),(6,dI .i64 aK)]) fun xg=>⟨[(0,dC ((cW (cI .i64)).f xg))],[],1⟩) hy ?_ ?_ ?_
 exact wk h0 [0] (wR rfl (wR rfl (wR rfl (wR rfl (wR rfl wTn))))) (vC rfl wVn) wLn
 clear hy h
 rintro⟨gH,q9⟩ y h
 dsimp only[iz] at h
 refine AW.seq (ra hx ?_)
 refine cdh h rfl (fun bm h=>?_) (fun bm h=>?_)
 refine AW.skip (AW.seq (AW.block (rqd [] hx fun K hK=>?_)))
 iterate 8 refine sa ?_
 obtain⟨Fy,h⟩:=aC h
 have NR:(i64.wrap (aK+gH)).toNat<(q9).length:=by omega
 refine s1 (xj ⟨Fy.1,Fy.2.1⟩ b7 a6) ?_
 refine s1 (a8 (an.seqW (cI .i64) q9 ((i64.wrap (aK+gH)).toNat) NR) a6) ?_
 iterate 2 refine sa ?_
 obtain⟨hc6,h⟩:=aC h
 have hn7:(aK).toNat<(aY).length:=by omega
 refine s1 (fZ hc6 b7 a6) ?_
 refine s1 (pm (c:=(cI .i64)) (l:=aY) (n:=(aK).toNat) (o:=0) a6 hn7) ?_
 iterate 2 refine sa ?_
 obtain⟨Iz,h⟩:=aC h
 have Ir:(gH).toNat<(a9).length:=by omega
 refine s1 (fZ Iz b7 a6) ?_
 refine s1 (pm (c:=(cI .i64)) (l:=a9) (n:=(gH).toNat) (o:=0) a6 Ir) ?_
 iterate 2 refine sa ?_
 obtain⟨GM,h⟩:=aC h
 have NW:(i64.wrap (aK+gH)).toNat<(q9).length:=by omega
 refine s1 (xj ⟨GM.1,GM.2.1⟩ b7 a6) ?_
 obtain⟨jG,vw,h⟩:=ah h
 replace vw:=co vw
 refine s0 (T_stVw (b':=i64.wrap (((q9)[(i64.wrap (aK+gH)).toNat]!)+(i64.wrap (((aY)[(aK).toNat]!)*((a9)[(gH).toNat]!))))) (an.seqW (cI .i64) q9 ((i64.wrap (aK+gH)).toNat) NW) a6 vw) ?_
 refine .nil (hK _ _ (rb hx ?_))
 cases h
 exact PS.l (pe0 h0 [0])
 refine AW.exit ?_
 try dsimp only
 try simp only[aM,reduceIte,Nat.reduceEqDiff,reduceCtorEq]
 cases h
 exact PS.r ⟨by nofun,PE.i (wk h0 [0] (wR rfl (wR rfl (wR rfl (wR rfl wTn)))) (vC rfl wVn) wLn)⟩
 rintro ex tm' hp' ⟨rfl,hw⟩
 try dsimp only
 try simp only[aM,reduceIte,Nat.reduceEqDiff,reduceCtorEq]
 refine AW.weak hw ?_
 iterate 2 refine ra hx ?_
 refine AW.block ?_
 obtain⟨xb,hy,h⟩:=ah h
 refine lp (S:=Int×Int×(List Int)) (X:=(List Int)) (fun (Hq,oi,rY)=>[(0,dL (cI .i64) aY),(1,dL (cI .i64) a9),(5,.ow 0 0 1 ((i64.wrap ((i64.wrap (((aY).length:Int)+((a9).length:Int)))+(1:Int))).toNat)),(6,dI .i64 aK),(8,dI .i64 Hq),(9,dI .i64 oi)]) (fun (Hq,oi,rY)=>⟨[(0,dC ((cW (cI .i64)).f rY))],[],1⟩) (PE cx (.exit 4) (fun xb=>[(0,dL (cI .i64) aY),(1,dL (cI .i64) a9),(5,.ow 0 0 1 ((i64.wrap ((i64.wrap (((aY).length:Int)+((a9).length:Int)))+(1:Int))).toNat)),(6,dI .i64 aK)]) fun xb=>⟨[(0,dC ((cW (cI .i64)).f xb))],[],1⟩) hy ?_ ?_ ?_
 exact wk h0 [0] (wR rfl (wR rfl (wR rfl (wR rfl (wR rfl (wR rfl wTn)))))) (vC rfl wVn) wLn
 clear hy h
 rintro⟨Hq,oi,rY⟩ y h
 dsimp only[fU] at h
 refine AW.seq (ra hx ?_)
 refine cdh h rfl (fun A6 h=>?_) (fun A6 h=>?_)
 refine AW.skip (AW.seq (AW.block (rs hx fun K hK=>?_)))
 iterate 2 refine sa ?_
 obtain⟨GL,h⟩:=aC h
 have Is:(oi).toNat<(rY).length:=by omega
 refine s1 (xj ⟨GL.1,GL.2.1⟩ b7 a6) ?_
 refine s1 (a8 (an.seqW (cI .i64) rY ((oi).toNat) Is) a6) ?_
 iterate 2 refine sa ?_
 obtain⟨oa,yc,h⟩:=ah h
 replace yc:=co yc
 refine s2 (d2:=dI .i64 oa) li (fT (congrArg (dI .i64) yc)) ?_
 refine .nil (hK _ _ (rs hx fun K hK=>?_))
 iterate 4 refine sa ?_
 obtain⟨LB,h⟩:=aC h
 have NT:(oi).toNat<(rY).length:=by omega
 refine s1 (xj ⟨LB.1,LB.2.1⟩ b7 a6) ?_
 refine s0 (aO (b':=Int.tmod oa (65536:Int)) (an.seqW (cI .i64) rY ((oi).toNat) NT) a6) ?_
 refine .nil (hK _ _ ?_)
 iterate 2 refine rb hx ?_
 cases h
 exact PS.l (pe0 h0 [0])
 refine AW.exit ?_
 try dsimp only
 try simp only[aM,reduceIte,Nat.reduceEqDiff,reduceCtorEq]
 cases h
 exact PS.r ⟨by nofun,PE.i (wk h0 [0] (wR rfl (wR rfl (wR rfl (wR rfl wTn)))) (vC rfl wVn) wLn)⟩
 rintro ex tm' hp' ⟨rfl,hw⟩
 try dsimp only
 try simp only[aM,reduceIte,Nat.reduceEqDiff,reduceCtorEq]
 refine AW.weak hw (rb hx ?_)
 cases h
 exact PS.l (pe0 h0 [0])
 refine AW.exit ?_
 try dsimp only
 try simp only[aM,reduceIte,Nat.reduceEqDiff,reduceCtorEq]
 cases h
 exact PS.r ⟨by nofun,PE.i (wk h0 [0] (wR rfl wTn) (vC rfl wVn) wLn)⟩
 rintro ex tm' hp' ⟨rfl,hw⟩
 try dsimp only
 try simp only[aM,reduceIte,Nat.reduceEqDiff,reduceCtorEq]
 refine AW.weak hw (rs hx fun K hK=>?_)
 refine sa ?_
 obtain⟨Og,h⟩:=aC h
 refine fzO (cI .i64) (n:=(i64.wrap ((i64.wrap (((aY).length:Int)+((a9).length:Int)))+(1:Int))).toNat) 0 [5,70] Og ?_ (all2 rfl (all1 rfl))
 refine scb h jO fun L2 h=>?_
 refine sa ?_
 refine .nil (hK _ _ (AW.ret ?_))
 cases h
 exact rv1
def kj(aY:List Int)(a9:List Int):Int→Option (Int⊕(Bool⊕Unit)):=fun aS=>cnd (decide ((0:Int)≤aS)) (bnd (c7 aY aS) fun x4=>bnd (c7 a9 aS) fun x6=>cnd (decide (x4≠x6)) (bnd (c7 aY aS) fun x9=>bnd (c7 a9 aS) fun s8=>some (.inr (.inl (decide (x9<s8))))) (some (.inl (i64.wrap (aS - (1:Int)))))) (some (.inr (.inr ())))
def nL(aY:List Int)(a9:List Int):Option Bool:=bnd (some (i64.wrap ((max ((aY).length:Int) ((a9).length:Int)) - (1:Int)))) fun x1=>bnd (a5 (kj aY a9) x1) fun y13=>match y13 with| .inl r=>some r| .inr ()=>some false
theorem DQ {aY:List Int}{a9:List Int}{r:Bool}(h:nL aY a9=some r):aB prog 171 [dL (cI .i64) aY,dL (cI .i64) a9] (dB r):=by
 refine bL (rs:=[.tmp 4]) (fun cx hx h0=>?_) func171
 unfold nL at h
 refine ra hx ?_
 refine AW.seq (rs hx fun K hK=>?_)
 iterate 6 refine sa ?_
 obtain⟨x1,yb,h⟩:=ah h
 replace yb:=co yb
 refine s2 (d2:=dI .i64 x1) li (fT (congrArg (dI .i64) yb)) ?_
 refine .nil (hK _ _ (AW.block ?_))
 obtain⟨y,hy,h⟩:=ah h
 refine lp (S:=Int) (X:=Bool⊕Unit) (fun aS=>[(0,dL (cI .i64) aY),(1,dL (cI .i64) a9),(5,dI .i64 aS)]) (fun aS=>⟨[],[],0⟩) (PS (PR [.tmp 4] fun r=>dB r) (PE cx (.exit 0) (fun ()=>[]) fun ()=>⟨[],[],0⟩)) hy ?_ ?_ ?_
 exact wk h0 [] (wR rfl (wR rfl (wR rfl wTn))) wVn wLn
 clear hy h
 rintro aS y h
 dsimp only[kj] at h
 refine AW.seq (ra hx ?_)
 refine cdh h rfl (fun bm h=>?_) (fun bm h=>?_)
 refine AW.skip (AW.seq (AW.block (rs hx fun K hK=>?_)))
 iterate 2 refine sa ?_
 refine scb h fJ fun x4 h=>?_
 iterate 2 refine sa ?_
 refine scb h fJ fun x6 h=>?_
 refine sa ?_
 refine .nil (hK _ _ (cdh h rfl (fun oe h=>?_) (fun oe h=>?_)))
 refine rs hx fun K hK=>?_
 iterate 2 refine sa ?_
 refine scb h fJ fun x9 h=>?_
 iterate 2 refine sa ?_
 refine scb h fJ fun s8 h=>?_
 iterate 2 refine sa ?_
 refine .nil (hK _ _ (AW.ret ?_))
 cases h
 refine PS.r ⟨by nofun,PS.l (PR.i ?_)⟩
 exact rv1
 refine AW.skip (rb hx ?_)
 cases h
 exact PS.l (pe0 h0 [])
 refine AW.exit ?_
 try dsimp only
 try simp only[aM,reduceIte,Nat.reduceEqDiff,reduceCtorEq]
 cases h
 exact PS.r ⟨by nofun,PS.r (PE.i (wk h0 [] wTn wVn wLn))⟩
 rcases y with r|⟨⟩
 rintro ex tm' hp' ⟨rfl,hw⟩
 cases h
 exact hw
 rintro ex tm' hp' ⟨rfl,hw⟩
 try dsimp only
 try simp only[aM,reduceIte,Nat.reduceEqDiff,reduceCtorEq]
 refine AW.weak hw (ra hx ?_)
 refine AW.ret ?_
 cases h
 exact rv1
def iA(aY:List Int)(a9:List Int):(List Int)×Int×Int→Option (((List Int)×Int×Int)⊕((List Int))):=fun (cR,bp,dE)=>cnd (decide (dE<((aY).length:Int))) (gd (0≤dE∧dE<((aY).length:Int)) (bnd (c7 a9 dE) fun x4=>bnd (some (i64.wrap ((i64.wrap (((aY)[(dE).toNat]!) - x4)) - bp))) fun x6=>bnd (S:=Int×Int) (cnd (decide (x6<(0:Int))) (some (((1:Int),i64.wrap (x6+(65536:Int))))) (some (((0:Int),x6)))) fun (jE,pP)=>gd ((cR++[pP]).length*8≤140737488355328) (some (.inl (cR++[pP],jE,i64.wrap (dE+(1:Int))))))) (some (.inr cR))
def kH(aY:List Int)(a9:List Int):Option (List Int):=bnd (a5 (iA aY a9) (([]:List Int),(0:Int),(0:Int))) fun b8=>bnd (eO b8) fun jG=>some jG
theorem uN {aY:List Int}{a9:List Int}{r:List Int}(h:kH aY a9=some r):aB prog 172 [dL (cI .i64) aY,dL (cI .i64) a9] (dL (cI .i64) r):=by
 refine bL (rs:=[.tmp 4]) (fun cx hx h0=>?_) func172
 unfold kH at h
 refine rs hx fun K hK=>?_
 refine s1 (d:=dO 0 (cI .i64) ([]:List Int)) (ep b7 a6) ?_
 refine .nil (hK _ _ (rs hx fun K hK=>?_))
 refine s1 (d:=dO 1 (cI .i64) ([]:List Int)) (ep b7 a6) ?_
 refine .nil (hK _ _ (ra hx ?_))
 refine AW.seq (ra hx ?_)
 refine AW.block ?_
 obtain⟨b8,hy,h⟩:=ah h
 refine lp (S:=(List Int)×Int×Int) (X:=(List Int)) (fun (cR,bp,dE)=>[(0,dL (cI .i64) aY),(1,dL (cI .i64) a9),(5,dO 0 (cI .i64) cR),(6,dI .i64 bp),(7,dI .i64 dE)]) (fun (cR,bp,dE)=>⟨[],[(0,(cR).length,1,3)],1⟩) (PE cx (.exit 0) (fun b8=>[(5,dO 0 (cI .i64) b8)]) fun b8=>⟨[],[(0,(b8).length,1,3)],1⟩) hy ?_ ?_ ?_
 exact wk h0 [1] (wR rfl (wR rfl (wR rfl (wR rfl (wR rfl wTn))))) wVn (wL rfl rfl wLn)
 clear hy h
 rintro⟨cR,bp,dE⟩ y h
 dsimp only[iA] at h
 refine AW.seq (ra hx ?_)
 refine cdh h rfl (fun cE h=>?_) (fun cE h=>?_)
 refine AW.skip (AW.seq (AW.block (rsd [158] hx fun K hK=>?_)))
 iterate 2 refine sa ?_
 obtain⟨ni,h⟩:=aC h
 have pU:(dE).toNat<(aY).length:=by omega
 refine s1 (fZ ni b7 a6) ?_
 refine s1 (pm (c:=(cI .i64)) (l:=aY) (n:=(dE).toNat) (o:=0) a6 pU) ?_
 iterate 2 refine sa ?_
 refine cqb h fJ fun x4 h=>?_
 iterate 3 refine sa ?_
 obtain⟨x6,te,h⟩:=ah h
 replace te:=co te
 refine s2 (d2:=dI .i64 x6) li (fT (congrArg (dI .i64) te)) ?_
 refine .nil (hK _ _ (ra hx ?_))
 refine AW.seq ?_
 obtain⟨y,hy,h⟩:=ah h
 refine jn ((PE cx .normal (fun (jE,pP)=>[(0,dL (cI .i64) aY),(1,dL (cI .i64) a9),(5,dO 0 (cI .i64) cR),(6,dI .i64 jE),(7,dI .i64 dE),(8,dI .i64 pP)]) fun (jE,pP)=>⟨[],[(0,(cR).length,1,3)],1⟩) y) ?_ ?_
 replace h:=hy
 refine ra hx ?_
 refine cdh h rfl (fun oe h=>?_) (fun oe h=>?_)
 refine ra hx ?_
 refine rb hx ?_
 cases h
 exact pe0 h0 [0]
 refine AW.skip ?_
 cases h
 exact pe0 h0 [0]
 obtain⟨jE,pP⟩:=y
 rintro ex tm' hp' ⟨rfl,hw⟩
 refine AW.weak hw (rq hx fun K hK=>?_)
 iterate 2 refine sa ?_
 refine s1 (d:=dO 1 (cI .i64) [pP]) (iM b7 a6) ?_
 obtain⟨GM,h⟩:=aC h
 refine s1 (d:=dO 0 (cI .i64) (cR++[pP])) (iS b7 a6 GM) ?_
 refine sa ?_
 refine .nil (hK _ _ (rb hx ?_))
 cases h
 exact PS.l (pe0 h0 [0])
 refine AW.exit ?_
 try dsimp only
 try simp only[aM,reduceIte,Nat.reduceEqDiff,reduceCtorEq]
 cases h
 exact PS.r ⟨by nofun,PE.i (wk h0 [0] (wR rfl wTn) wVn (wL rfl rfl wLn))⟩
 rintro ex tm' hp' ⟨rfl,hw⟩
 try dsimp only
 try simp only[aM,reduceIte,Nat.reduceEqDiff,reduceCtorEq]
 refine AW.weak hw (rs hx fun K hK=>?_)
 refine sa ?_
 refine scb h jO fun jG h=>?_
 refine sa ?_
 refine .nil (hK _ _ (AW.ret ?_))
 cases h
 exact rv1
def gO(a9:List Int)(pF:List Int):Int×(List Int)→Option ((Int×(List Int))⊕(Int×(List Int))):=fun (mF,BR)=>bnd (nL pF BR) fun xo=>cnd xo (bnd (kH BR a9) fun JB=>some (.inl (i64.wrap (mF - (1:Int)),JB))) (some (.inr (mF,BR)))
def gP(aY:List Int)(a9:List Int)(x6:Int):(List Int)×Int×(List Int)→Option (((List Int)×Int×(List Int))⊕((List Int)×(List Int))):=fun (c9,mc,t7)=>cnd (decide ((0:Int)≤mc)) (gd (0≤mc∧mc<((aY).length:Int)) (gd (([(aY)[(mc).toNat]!]++c9).length*8≤140737488355328) (bnd (eO ([(aY)[(mc).toNat]!]++c9)) fun pF=>bnd (gQ pF ((a9).length:Int)) fun tp=>bnd (gQ pF (i64.wrap (((a9).length:Int) - (1:Int)))) fun oa=>bnd (gQ pF (i64.wrap (((a9).length:Int) - (2:Int)))) fun xq=>gd (x6≠0) (bnd (some (min (65535:Int) (i64.wrap (Int.tdiv (i64.wrap ((i64.wrap ((i64.wrap (tp*(4294967296:Int)))+(i64.wrap (oa*(65536:Int)))))+xq)) x6)))) fun Fp=>bnd (my a9 [Fp]) fun L2=>bnd (a5 (gO a9 pF) (Fp,L2)) fun (uw,xf)=>gd (0≤mc∧mc<(((((aY).length:Int)).toNat:Nat):Int)∧mc<((t7).length:Int)) (bnd (kH pF xf) fun x35=>some (.inl (x35,i64.wrap (mc - (1:Int)),(t7).set ((mc).toNat) uw))))))) (some (.inr (c9,t7)))
def jr(aY:List Int)(a9:List Int):Option ((List Int)×(List Int)):=gd (0≤((aY).length:Int)∧((aY).length:Int)≤1000000) (gd (0≤i64.wrap (((a9).length:Int) - (1:Int))∧i64.wrap (((a9).length:Int) - (1:Int))<((a9).length:Int)) (bnd (gQ a9 (i64.wrap (((a9).length:Int) - (2:Int)))) fun x4=>bnd (some (i64.wrap ((i64.wrap (((a9)[(i64.wrap (((a9).length:Int) - (1:Int))).toNat]!)*(65536:Int)))+x4))) fun x6=>bnd (some (i64.wrap (((aY).length:Int) - (1:Int)))) fun x8=>bnd (a5 (gP aY a9 x6) (([]:List Int),x8,List.replicate (((aY).length:Int)).toNat (0:Int))) fun (xh,uy)=>gd ((((aY).length:Int)).toNat=(uy).length) (bnd (eO uy) fun HF=>some (HF,xh))))
theorem Aj {aY:List Int}{a9:List Int}{r:(List Int)×(List Int)}(h:jr aY a9=some r):aB prog 154 [dL (cI .i64) aY,dL (cI .i64) a9] (.tu [dL (cI .i64) r.1,dL (cI .i64) r.2]):=by
 refine bL (rs:=[.tmp 4,.tmp 5]) (fun cx hx h0=>?_) func154
 unfold jr at h
 refine rs hx fun K hK=>?_
 refine s1 (d:=dO 0 (cI .i64) ([]:List Int)) (ep b7 a6) ?_
 refine s1 (d:=dO 1 (cI .i64) ([]:List Int)) (ep b7 a6) ?_
 refine .nil (hK _ _ (rs hx fun K hK=>?_))
 iterate 2 refine sa ?_
 obtain⟨Kg,h⟩:=aC h
 refine q1 (sMk (c:=(cI .i64)) (z0:=(0:Int)) tok Kg b7 a6 (by first|rfl|kernel_rfl)) ?_
 refine sa ?_
 refine .nil (hK _ _ (ra hx ?_))
 refine rsd [175] hx fun K hK=>?_
 iterate 3 refine sa ?_
 obtain⟨ni,h⟩:=aC h
 have pU:(i64.wrap (((a9).length:Int) - (1:Int))).toNat<(a9).length:=by omega
 refine s1 (fZ ni b7 a6) ?_
 refine s1 (pm (c:=(cI .i64)) (l:=a9) (n:=(i64.wrap (((a9).length:Int) - (1:Int))).toNat) (o:=0) a6 pU) ?_
 iterate 4 refine sa ?_
 refine cqb h sh fun x4 h=>?_
 refine sa ?_
 obtain⟨x6,te,h⟩:=ah h
 replace te:=co te
 refine s2 (d2:=dI .i64 x6) li (fT (congrArg (dI .i64) te)) ?_
 refine .nil (hK _ _ (rs hx fun K hK=>?_))
 refine s1 (d:=dO 3 (cI .i64) ([]:List Int)) (ep b7 a6) ?_
 refine .nil (hK _ _ (AW.seq (rs hx fun K hK=>?_)))
 iterate 3 refine sa ?_
 obtain⟨x8,L4,h⟩:=ah h
 replace L4:=co L4
 refine s2 (d2:=dI .i64 x8) li (fT (congrArg (dI .i64) L4)) ?_
 refine .nil (hK _ _ (AW.block ?_))
 obtain⟨y,hy,h⟩:=ah h
 refine lp (S:=(List Int)×Int×(List Int)) (X:=(List Int)×(List Int)) (fun (c9,mc,t7)=>[(0,dL (cI .i64) aY),(1,dL (cI .i64) a9),(6,.ow 0 0 1 ((((aY).length:Int)).toNat)),(7,dI .i64 ((a9).length:Int)),(8,dI .i64 x6),(9,dL (cI .i64) c9),(10,dI .i64 mc)]) (fun (c9,mc,t7)=>⟨[(0,dC ((cW (cI .i64)).f t7))],[],1⟩) (PE cx (.exit 0) (fun (xh,uy)=>[(6,.ow 0 0 1 ((((aY).length:Int)).toNat)),(9,dL (cI .i64) xh)]) fun (xh,uy)=>⟨[(0,dC ((cW (cI .i64)).f uy))],[],1⟩) hy ?_ ?_ ?_
 exact wk h0 [2] (wR rfl (wR rfl (wR rfl (wR rfl (wR rfl (wT rfl (qT _) rfl rfl (wR rfl wTn))))))) (vC rfl wVn) wLn
 clear hy h
 rintro⟨c9,mc,t7⟩ y h
 dsimp only[gP] at h
 refine AW.seq (ra hx ?_)
 refine cdh h rfl (fun fh h=>?_) (fun fh h=>?_)
 refine AW.skip (AW.seq (AW.block (rs hx fun K hK=>?_)))
 iterate 2 refine sa ?_
 obtain⟨IA,h⟩:=aC h
 have NV:(mc).toNat<(aY).length:=by omega
 refine s1 (fZ IA b7 a6) ?_
 refine s1 (pm (c:=(cI .i64)) (l:=aY) (n:=(mc).toNat) (o:=0) a6 NV) ?_
 refine s1 (d:=dO 1 (cI .i64) [(aY)[(mc).toNat]!]) (iM b7 a6) ?_
 refine sa ?_
 obtain⟨hc13,h⟩:=aC h
 refine s1 (d:=dO 1 (cI .i64) ([(aY)[(mc).toNat]!]++c9)) (iS b7 a6 hc13) ?_
 refine scb h jO fun pF h=>?_
 refine sa ?_
 refine .nil (hK _ _ (rs hx fun K hK=>?_))
 iterate 2 refine sa ?_
 refine scb h sh fun tp h=>?_
 iterate 4 refine sa ?_
 refine scb h sh fun oa h=>?_
 iterate 5 refine sa ?_
 refine scb h sh fun xq h=>?_
 iterate 2 refine sa ?_
 obtain⟨Et,h⟩:=aC h
 refine s1 (Hr Et) ?_
 refine sa ?_
 obtain⟨Fp,hx24,h⟩:=ah h
 replace hx24:=co hx24
 refine s2 (d2:=dI .i64 Fp) li (fT (congrArg (dI .i64) hx24)) ?_
 refine .nil (hK _ _ (rs hx fun K hK=>?_))
 iterate 2 refine sa ?_
 refine s1 (d:=dO 2 (cI .i64) [Fp]) (iM b7 a6) ?_
 refine scb h Ck fun L2 h=>?_
 refine sa ?_
 refine .nil (hK _ _ (AW.seq (AW.block ?_)))
 obtain⟨y,hy,h⟩:=ah h
 refine lp (S:=Int×(List Int)) (X:=Int×(List Int)) (fun (mF,BR)=>[(0,dL (cI .i64) aY),(1,dL (cI .i64) a9),(6,.ow 0 0 1 ((((aY).length:Int)).toNat)),(7,dI .i64 ((a9).length:Int)),(8,dI .i64 x6),(9,dL (cI .i64) pF),(10,dI .i64 mc),(11,dI .i64 mF),(12,dL (cI .i64) BR)]) (fun (mF,BR)=>⟨[(0,dC ((cW (cI .i64)).f t7))],[],1⟩) (PE cx (.exit 2) (fun (uw,xf)=>[(0,dL (cI .i64) aY),(1,dL (cI .i64) a9),(6,.ow 0 0 1 ((((aY).length:Int)).toNat)),(7,dI .i64 ((a9).length:Int)),(8,dI .i64 x6),(9,dL (cI .i64) pF),(10,dI .i64 mc),(11,dI .i64 uw),(12,dL (cI .i64) xf)]) fun (uw,xf)=>⟨[(0,dC ((cW (cI .i64)).f t7))],[],1⟩) hy ?_ ?_ ?_
 exact wk h0 [0] (wR rfl (wR rfl (wR rfl (wR rfl (wR rfl (wR rfl (wR rfl (wR rfl (wR rfl wTn))))))))) (vC rfl wVn) wLn
 clear hy h
 rintro⟨mF,BR⟩ y h
 dsimp only[gO] at h
 refine AW.seq (rs hx fun K hK=>?_)
 iterate 2 refine sa ?_
 refine scb h DQ fun xo h=>?_
 refine .nil (hK _ _ (cdh h rfl (fun hb29 h=>?_) (fun hb29 h=>?_)))
 refine AW.skip (AW.block (ra hx ?_))
 refine rq hx fun K hK=>?_
 iterate 2 refine sa ?_
 refine scb h uN fun JB h=>?_
 refine sa ?_
 refine .nil (hK _ _ ?_)
 cases h
 exact PS.l (pe0 h0 [0])
 refine AW.exit ?_
 try dsimp only
 try simp only[aM,reduceIte,Nat.reduceEqDiff,reduceCtorEq]
 cases h
 exact PS.r ⟨by nofun,PE.i (wk h0 [0] (wR rfl (wR rfl (wR rfl (wR rfl (wR rfl (wR rfl (wR rfl (wR rfl (wR rfl wTn))))))))) (vC rfl wVn) wLn)⟩
 obtain⟨uw,xf⟩:=y
 rintro ex tm' hp' ⟨rfl,hw⟩
 try dsimp only
 try simp only[aM,reduceIte,Nat.reduceEqDiff,reduceCtorEq]
 refine AW.weak hw (rs hx fun K hK=>?_)
 iterate 3 refine sa ?_
 obtain⟨hc33,h⟩:=aC h
 have hn34:(mc).toNat<(t7).length:=by omega
 refine s1 (xj ⟨hc33.1,hc33.2.1⟩ b7 a6) ?_
 refine s0 (aO (b':=uw) (an.seqW (cI .i64) t7 ((mc).toNat) hn34) a6) ?_
 refine .nil (hK _ _ (rq hx fun K hK=>?_))
 iterate 2 refine sa ?_
 refine scb h uN fun x35 h=>?_
 refine sa ?_
 refine .nil (hK _ _ (rb hx ?_))
 cases h
 exact PS.l (pe0 h0 [0])
 refine AW.exit ?_
 try dsimp only
 try simp only[aM,reduceIte,Nat.reduceEqDiff,reduceCtorEq]
 cases h
 exact PS.r ⟨by nofun,PE.i (wk h0 [0] (wR rfl (wR rfl wTn)) (vC rfl wVn) wLn)⟩
 obtain⟨xh,uy⟩:=y
 rintro ex tm' hp' ⟨rfl,hw⟩
 try dsimp only
 try simp only[aM,reduceIte,Nat.reduceEqDiff,reduceCtorEq]
 refine AW.weak hw (rs hx fun K hK=>?_)
 refine sa ?_
 obtain⟨hc38,h⟩:=aC h
 refine fzO (cI .i64) (n:=(((aY).length:Int)).toNat) 0 [6,81] hc38 ?_ (all2 rfl (all1 rfl))
 refine scb h jO fun HF h=>?_
 iterate 3 refine sa ?_
 refine .nil (hK _ _ (AW.ret ?_))
 cases h
 exact rv2
def ii :Int×Int→Option ((Int×Int)⊕Int):=fun (ng,zA)=>cnd (decide (zA≠(0:Int))) (gd (zA≠0) (some (.inl (zA,Int.tmod ng zA)))) (some (.inr ng))
def ig :(List Int)×(List Int)→Option (((List Int)×(List Int))⊕((List Int))):=fun (rX,BO)=>cnd (decide ((0:Int)<((BO).length:Int))) (bnd (jr rX BO) fun v8=>some (.inl (BO,v8.2))) (some (.inr rX))
def pc(aY:aq)(a9:aq):Option aq:=bnd (lW aY) fun x1=>bnd (lW a9) fun x3=>bnd (S:=Bool) (cnd x1.2 (some (x3.2)) (some (false))) fun aK=>cnd aK (bnd (a5 (ii) (x1.1,x3.1)) fun xi=>bnd (oA xi) fun s8=>bnd (pd s8) fun qN=>some qN) (bnd (S:=Bool) (bnd (dc aY) fun uG=>cnd (!uG) (some (true)) (bnd (dc a9) fun oa=>some (!oa))) fun mF=>cnd mF (bnd (lI) fun oL=>some oL) (bnd (d9 aY) fun HN=>bnd (d9 a9) fun x26=>bnd (a5 (ig) (HN,x26)) fun w9=>bnd (eQ false w9) fun x32=>some x32))
theorem FH {aY:aq}{a9:aq}{r:aq}(h:pc aY a9=some r):aB prog 120 [dG ap aY,dG ap a9] (dG ap r):=by
 refine bL (rs:=[.cell 4 32]) (fun cx hx h0=>?_) func120
 unfold pc at h
 refine rs hx fun K hK=>?_
 iterate 2 refine sa ?_
 refine s1 (bo (F:=ap.f bx) az) ?_
 refine .nil (hK _ _ (rs hx fun K hK=>?_))
 refine s1 (d:=dG ap aY) (aF (an.id _ _) az) ?_
 refine scb h wj fun x1 h=>?_
 iterate 5 refine sa ?_
 refine .nil (hK _ _ (rs hx fun K hK=>?_))
 refine s1 (d:=dG ap a9) (aF (an.id _ _) az) ?_
 refine scb h wj fun x3 h=>?_
 iterate 5 refine sa ?_
 refine .nil (hK _ _ ?_)
 iterate 2 refine AW.seq ?_
 obtain⟨aK,hy,h⟩:=ah h
 refine jn ((PE cx .normal (fun aK=>[(2,.pt 0 0),(3,.pt 1 0),(4,.pt 2 0),(5,dI .i64 x1.1),(7,dI .i64 x3.1),(27,dB aK)]) fun aK=>⟨[(0,dC (ap.f aY)),(1,dC (ap.f a9)),(2,dC (ap.f bx))],[],3⟩) aK) ?_ ?_
 replace h:=hy
 refine rq hx fun K hK=>?_
 iterate 2 refine sa ?_
 rcases aZ x1.2 with nE|nE
 replace h:=a3 nE h
 refine ga nE ?_
 refine s1 (al nE) ?_
 refine .nil (hK _ _ ?_)
 cases h
 exact pe0 h0 [0,1,2]
 replace h:=a4 nE h
 refine aI rfl rfl nE ?_
 refine s1 (au nE) ?_
 refine .nil (hK _ _ ?_)
 cases h
 exact pe0 h0 [0,1,2]
 rintro ex tm' hp' ⟨rfl,hw⟩
 refine AW.weak hw (cdh h rfl (fun tg h=>?_) (fun tg h=>?_))
 refine AW.seq (AW.block ?_)
 obtain⟨xi,hy,h⟩:=ah h
 refine lp (S:=Int×Int) (X:=Int) (fun (ng,zA)=>[(4,.pt 0 0),(5,dI .i64 ng),(7,dI .i64 zA)]) (fun (ng,zA)=>⟨[(0,dC (ap.f bx))],[],1⟩) (PE cx (.exit 0) (fun xi=>[(4,.pt 0 0),(5,dI .i64 xi)]) fun xi=>⟨[(0,dC (ap.f bx))],[],1⟩) hy ?_ ?_ ?_
 exact wk h0 [2] (wR rfl (wR rfl (wR rfl wTn))) (vC rfl wVn) wLn
 clear hy h
 rintro⟨ng,zA⟩ y h
 dsimp only[ii] at h
 refine AW.seq (ra hx ?_)
 refine cdh h rfl (fun oe h=>?_) (fun oe h=>?_)
 refine AW.skip (AW.block (rs hx fun K hK=>?_))
 iterate 2 refine sa ?_
 obtain⟨hc9,h⟩:=aC h
 refine s1 (DI hc9) ?_
 refine sa ?_
 refine .nil (hK _ _ (ra hx ?_))
 refine rb hx ?_
 cases h
 exact PS.l (pe0 h0 [0])
 refine AW.exit ?_
 try dsimp only
 try simp only[aM,reduceIte,Nat.reduceEqDiff,reduceCtorEq]
 cases h
 exact PS.r ⟨by nofun,PE.i (wk h0 [0] (wR rfl (wR rfl wTn)) (vC rfl wVn) wLn)⟩
 rintro ex tm' hp' ⟨rfl,hw⟩
 try dsimp only
 try simp only[aM,reduceIte,Nat.reduceEqDiff,reduceCtorEq]
 refine AW.weak hw (rs hx fun K hK=>?_)
 refine sa ?_
 refine scb h Ak fun s8 h=>?_
 refine scb h FI fun qN h=>?_
 refine s0 (aO (b':=qN) (an.id _ _) az) ?_
 refine .nil (hK _ _ (AW.ret ?_))
 cases h
 exact rv1
 refine AW.skip ?_
 iterate 2 refine AW.seq ?_
 obtain⟨mF,hy,h⟩:=ah h
 refine jn ((PE cx .normal (fun mF=>[(2,.pt 0 0),(3,.pt 1 0),(4,.pt 2 0),(45,dB mF)]) fun mF=>⟨[(0,dC (ap.f aY)),(1,dC (ap.f a9)),(2,dC (ap.f bx))],[],3⟩) mF) ?_ ?_
 replace h:=hy
 refine rq hx fun K hK=>?_
 refine s1 (d:=dG ap aY) (aF (an.id _ _) az) ?_
 refine scb h il fun uG h=>?_
 iterate 2 refine sa ?_
 rcases aZ (!uG) with yj|yj
 replace h:=a3 yj h
 iterate 3 refine aI rfl rfl yj ?_
 refine s1 (al yj) ?_
 refine .nil (hK _ _ ?_)
 cases h
 exact pe0 h0 [0,1,2]
 replace h:=a4 yj h
 refine g1 (d:=dG ap a9) yj (aF (an.id _ _) az) ?_
 obtain⟨oa,yc,h⟩:=ah h
 refine g1 yj (dP rfl (il yc) (by simp only[cD,dT,jZ,gj,eh,eC];exact bn _ _) (lA (eK _ _) lAn) (.inl rfl)) ?_
 refine ga yj ?_
 refine s1 (au yj) ?_
 refine .nil (hK _ _ ?_)
 cases h
 exact pe0 h0 [0,1,2]
 rintro ex tm' hp' ⟨rfl,hw⟩
 refine AW.weak hw (cdh h rfl (fun Ex h=>?_) (fun Ex h=>?_))
 refine rs hx fun K hK=>?_
 refine scb h tx fun oL h=>?_
 refine s0 (aO (b':=oL) (an.id _ _) az) ?_
 refine .nil (hK _ _ (AW.ret ?_))
 cases h
 exact rv1
 refine AW.skip (rs hx fun K hK=>?_)
 refine s1 (d:=dG ap aY) (aF (an.id _ _) az) ?_
 refine scb h ln fun HN h=>?_
 refine sa ?_
 refine .nil (hK _ _ (rs hx fun K hK=>?_))
 refine s1 (d:=dG ap a9) (aF (an.id _ _) az) ?_
 refine scb h ln fun x26 h=>?_
 refine sa ?_
 refine .nil (hK _ _ (AW.seq (AW.block ?_)))
 obtain⟨w9,hy,h⟩:=ah h
 refine lp (S:=(List Int)×(List Int)) (X:=(List Int)) (fun (rX,BO)=>[(4,.pt 0 0),(10,dL (cI .i64) rX),(11,dL (cI .i64) BO)]) (fun (rX,BO)=>⟨[(0,dC (ap.f bx))],[],1⟩) (PE cx (.exit 2) (fun w9=>[(4,.pt 0 0),(10,dL (cI .i64) w9)]) fun w9=>⟨[(0,dC (ap.f bx))],[],1⟩) hy ?_ ?_ ?_
 exact wk h0 [2] (wR rfl (wR rfl (wR rfl wTn))) (vC rfl wVn) wLn
 clear hy h
 rintro⟨rX,BO⟩ y h
 dsimp only[ig] at h
 refine AW.seq (ra hx ?_)
 refine cdh h rfl (fun hb28 h=>?_) (fun hb28 h=>?_)
 refine AW.skip (AW.block (rs hx fun K hK=>?_))
 iterate 2 refine sa ?_
 refine scb h Aj fun v8 h=>?_
 iterate 5 refine sa ?_
 refine .nil (hK _ _ (ra hx ?_))
 refine rb hx ?_
 cases h
 exact PS.l (pe0 h0 [0])
 refine AW.exit ?_
 try dsimp only
 try simp only[aM,reduceIte,Nat.reduceEqDiff,reduceCtorEq]
 cases h
 exact PS.r ⟨by nofun,PE.i (wk h0 [0] (wR rfl (wR rfl wTn)) (vC rfl wVn) wLn)⟩
 rintro ex tm' hp' ⟨rfl,hw⟩
 try dsimp only
 try simp only[aM,reduceIte,Nat.reduceEqDiff,reduceCtorEq]
 refine AW.weak hw (rs hx fun K hK=>?_)
 refine sa ?_
 refine scb h nq fun x32 h=>?_
 refine s0 (aO (b':=x32) (an.id _ _) az) ?_
 refine .nil (hK _ _ (AW.ret ?_))
 cases h
 exact rv1
def nM(bj:aq):Option Int:=bnd (S:=Bool) (bnd (dc bj) fun x1=>cnd (!x1) (some (true)) (bnd (d9 bj) fun x4=>some (decide (((x4).length:Int)=(0:Int))))) fun bB=>cnd bB (some (0:Int)) (cnd bj.vNeg (some (-1:Int)) (some (1:Int)))
theorem DR {bj:aq}{r:Int}(h:nM bj=some r):aB prog 119 [dG ap bj] (dI .i64 r):=by
 refine bL (rs:=[.tmp 2]) (fun cx hx h0=>?_) func119
 unfold nM at h
 refine ra hx ?_
 iterate 2 refine AW.seq ?_
 obtain⟨bB,hy,h⟩:=ah h
 refine jn ((PE cx .normal (fun bB=>[(1,.pt 0 0),(11,dB bB)]) fun bB=>⟨[(0,dC (ap.f bj))],[],1⟩) bB) ?_ ?_
 replace h:=hy
 refine rq hx fun K hK=>?_
 refine s1 (d:=dG ap bj) (aF (an.id _ _) az) ?_
 refine scb h il fun x1 h=>?_
 iterate 2 refine sa ?_
 rcases aZ (!x1) with bm|bm
 replace h:=a3 bm h
 iterate 4 refine aI rfl rfl bm ?_
 refine s1 (al bm) ?_
 refine .nil (hK _ _ ?_)
 cases h
 exact pe0 h0 [0]
 replace h:=a4 bm h
 refine g1 (d:=dG ap bj) bm (aF (an.id _ _) az) ?_
 obtain⟨x4,vu,h⟩:=ah h
 refine g1 bm (dP rfl (ln vu) (by simp only[cD,dT,jZ,gj,eh,eC];exact bn _ _) (lA (eK _ _) lAn) (.inl rfl)) ?_
 iterate 2 refine ga bm ?_
 refine s1 (au bm) ?_
 refine .nil (hK _ _ ?_)
 cases h
 exact pe0 h0 [0]
 rintro ex tm' hp' ⟨rfl,hw⟩
 refine AW.weak hw (cdh h rfl (fun tg h=>?_) (fun tg h=>?_))
 refine ra hx ?_
 refine AW.ret ?_
 cases h
 exact rv1
 refine AW.skip (AW.seq (rs hx fun K hK=>?_))
 refine sa ?_
 refine s1 (a8 (bw bj) gp) ?_
 refine .nil (hK _ _ (cdh h rfl (fun oe h=>?_) (fun oe h=>?_)))
 refine ra hx ?_
 refine AW.ret ?_
 cases h
 exact rv1
 refine AW.skip (ra hx ?_)
 refine AW.ret ?_
 cases h
 exact rv1
def pb(eJ:List Int)(jg:Int):Option Int:=bnd (c7 eJ (i64.wrap (Int.tdiv jg (16:Int)))) fun x1=>gd (0≤Int.tmod jg (16:Int)) (some (Int.tmod (lE .i64 x1 (Int.tmod jg (16:Int))) (2:Int)))
theorem FG {eJ:List Int}{jg:Int}{r:Int}(h:pb eJ jg=some r):aB prog 125 [dL (cI .i64) eJ,dI .i64 jg] (dI .i64 r):=by
 refine bL (rs:=[.tmp 4]) (fun cx hx h0=>?_) func125
 unfold pb at h
 refine ra hx ?_
 refine rs hx fun K hK=>?_
 iterate 3 refine sa ?_
 refine scb h fJ fun x1 h=>?_
 iterate 2 refine sa ?_
 obtain⟨Of,h⟩:=aC h
 refine s1 (Pm Of) ?_
 iterate 2 refine sa ?_
 refine .nil (hK _ _ (AW.ret ?_))
 cases h
 exact rv1
def lX(x4:List Int):Int→Option (Int⊕Int):=fun cQ=>bnd (S:=Bool) (cnd (decide ((0:Int)<cQ)) (bnd (pb x4 (i64.wrap (cQ - (1:Int)))) fun x9=>some (decide (x9=(0:Int)))) (some (false))) fun nf=>cnd nf (some (.inl (i64.wrap (cQ - (1:Int))))) (some (.inr cQ))
def ew(bj:aq):Option Int:=bnd (dc bj) fun x1=>cnd (!x1) (some (0:Int)) (bnd (d9 bj) fun x4=>bnd (some (i64.wrap ((16:Int)*((x4).length:Int)))) fun x6=>bnd (a5 (lX x4) x6) fun l5=>some l5)
theorem wl {bj:aq}{r:Int}(h:ew bj=some r):aB prog 83 [dG ap bj] (dI .i64 r):=by
 refine bL (rs:=[.tmp 2]) (fun cx hx h0=>?_) func83
 unfold ew at h
 refine ra hx ?_
 refine AW.seq (rs hx fun K hK=>?_)
 refine s1 (d:=dG ap bj) (aF (an.id _ _) az) ?_
 refine scb h il fun x1 h=>?_
 refine sa ?_
 refine .nil (hK _ _ (cdh h rfl (fun bm h=>?_) (fun bm h=>?_)))
 refine ra hx ?_
 refine AW.ret ?_
 cases h
 exact rv1
 refine AW.skip (rs hx fun K hK=>?_)
 refine s1 (d:=dG ap bj) (aF (an.id _ _) az) ?_
 refine scb h ln fun x4 h=>?_
 refine sa ?_
 refine .nil (hK _ _ (rs hx fun K hK=>?_))
 iterate 3 refine sa ?_
 obtain⟨x6,te,h⟩:=ah h
 replace te:=co te
 refine s2 (d2:=dI .i64 x6) li (fT (congrArg (dI .i64) te)) ?_
 refine .nil (hK _ _ (AW.seq (AW.block ?_)))
 obtain⟨l5,hy,h⟩:=ah h
 refine lp (S:=Int) (X:=Int) (fun cQ=>[(3,dL (cI .i64) x4),(4,dI .i64 cQ)]) (fun cQ=>⟨[],[],0⟩) (PE cx (.exit 0) (fun l5=>[(4,dI .i64 l5)]) fun l5=>⟨[],[],0⟩) hy ?_ ?_ ?_
 exact wk h0 [] (wR rfl (wR rfl wTn)) wVn wLn
 clear hy h
 rintro cQ y h
 dsimp only[lX] at h
 iterate 2 refine AW.seq ?_
 obtain⟨nf,hy,h⟩:=ah h
 refine jn ((PE cx .normal (fun nf=>[(3,dL (cI .i64) x4),(4,dI .i64 cQ),(21,dB nf)]) fun nf=>⟨[],[],0⟩) nf) ?_ ?_
 replace h:=hy
 refine rq hx fun K hK=>?_
 iterate 3 refine sa ?_
 rcases aZ (decide ((0:Int)<cQ)) with oe|oe
 replace h:=a3 oe h
 iterate 3 refine ga oe ?_
 obtain⟨x9,ye,h⟩:=ah h
 refine g1 oe (dP rfl (FG ye) rfl (lA (ao _) (lA (ao _) lAn)) (.inl rfl)) ?_
 refine ga oe ?_
 refine s1 (al oe) ?_
 refine .nil (hK _ _ ?_)
 cases h
 exact pe0 h0 []
 replace h:=a4 oe h
 iterate 5 refine aI rfl rfl oe ?_
 refine s1 (au oe) ?_
 refine .nil (hK _ _ ?_)
 cases h
 exact pe0 h0 []
 rintro ex tm' hp' ⟨rfl,hw⟩
 refine AW.weak hw (cdh h rfl (fun tL h=>?_) (fun tL h=>?_))
 refine AW.skip (AW.block (rb hx ?_))
 cases h
 exact PS.l (pe0 h0 [])
 refine AW.exit ?_
 try dsimp only
 try simp only[aM,reduceIte,Nat.reduceEqDiff,reduceCtorEq]
 cases h
 exact PS.r ⟨by nofun,PE.i (wk h0 [] (wR rfl wTn) wVn wLn)⟩
 rintro ex tm' hp' ⟨rfl,hw⟩
 try dsimp only
 try simp only[aM,reduceIte,Nat.reduceEqDiff,reduceCtorEq]
 refine AW.weak hw (ra hx ?_)
 refine AW.ret ?_
 cases h
 exact rv1
end
end Go.Proofs.YtgfcnncojhkcoaaGreat
