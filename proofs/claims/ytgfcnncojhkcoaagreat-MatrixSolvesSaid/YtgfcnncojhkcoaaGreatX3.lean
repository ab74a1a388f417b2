/-
  Lemmas, part 3. Conditions: none.
-/
import Derived.Test.YtgfcnncojhkcoaaGreatX2
set_option linter.all false
set_option maxRecDepth 100000
set_option maxHeartbeats 4000000
namespace Go.Proofs.YtgfcnncojhkcoaaGreat
open Go.RowKit Go.IntKind Tryz
noncomputable section
def iW(aS:ay)(aU:ay)(x8:Int)(ba:Int):Int×Int×(Vector Int 32)→Option ((Int×Int×(Vector Int 32))⊕(Int×(Vector Int 32))):=fun (E1,nF,yO)=>cnd (decide (nF<x8)) (gd (0≤ba∧ba<16) (gd (0≤nF∧nF<16) (gd (0≤i64.wrap (ba+nF)∧i64.wrap (ba+nF)<32) (bnd (some (u64.wrap (E1+(u64.wrap ((u64.wrap ((u64.wrap ((aS.vW)[(ba).toNat]!))*(u64.wrap ((aU.vW)[(nF).toNat]!))))+(u64.wrap ((yO)[(i64.wrap (ba+nF)).toNat]!))))))) fun nt=>gd (0≤i64.wrap (ba+nF)∧i64.wrap (ba+nF)<32) (bnd (some ((yO).set! (i64.wrap (ba+nF)).toNat (u32.wrap (nt)))) fun rQ=>some (.inl (mv .u64 nt (32:Int),i64.wrap (nF+(1:Int)),rQ))))))) (some (.inr (E1,yO)))
def iX(aS:ay)(aU:ay)(x6:Int)(x8:Int):Int×(Vector Int 32)→Option ((Int×(Vector Int 32))⊕((Vector Int 32))):=fun (ba,iq)=>cnd (decide (ba<x6)) (bnd (bf (iW aS aU x8 ba) ((0:Int),(0:Int),iq)) fun (wi,wh)=>gd (0≤i64.wrap (ba+x8)∧i64.wrap (ba+x8)<32) (bnd (some ((wh).set! (i64.wrap (ba+x8)).toNat (u32.wrap (wi)))) fun uC=>some (.inl (i64.wrap (ba+(1:Int)),uC)))) (some (.inr iq))
def ja(aS:ay)(aU:ay):Option ay:=bnd (dU [aS,aU]) fun x1=>cnd (!x1) (bnd (eN) fun x4=>some x4) (bnd (e6 aS.vW) fun x6=>bnd (e6 aU.vW) fun x8=>bnd (bf (iX aS aU x6 x8) ((0:Int),(Vector.replicate 32 (0:Int)))) fun cH=>cnd (decide (¬(vOf 16 (List.take 16 (List.drop 16 (cH).toList))=#v[(0:Int),0,0,0,0,0,0,0,0,0,0,0,0,0,0,0]))) (bnd (eN) fun IU=>some IU) (bnd (b8 (!(aS.vNeg == aU.vNeg)) (vOf 16 (List.take 16 (List.drop 0 (cH).toList)))) fun ze=>some ze))
theorem mn {aS:ay}{aU:ay}{r:ay}(h:ja aS aU=some r):aB prog 90 [dG an aS,dG an aU] (dG an r):=by
 refine bC (rs:=[.cell 4 32]) (fun cx hx h0=>?_) func90
 unfold ja at h
 refine rai hx ?_
 refine AW.seq (rs hx fun K hK=>?_)
 iterate 2 refine sbi ?_
 refine s1 (qI ([aS,aU]:List ay) an rj qza0) ?_
 refine scb h g6 fun x1 h=>?_
 refine nbi hK ?_
 refine cdh h rfl (fun a8 h=>?_) (fun a8 h=>?_)
 refine rs hx fun K hK=>?_
 refine scb h ij fun x4 h=>?_
 refine nbi hK ?_
 exact AW.ret (rtv h)
 refine AW.skip (rs hx fun K hK=>?_)
 refine s1 (bq (F:=(cA 32 (cI .u32)).f (Vector.replicate 32 (0:Int))) xg) ?_
 refine nl hK ?_
 refine rsd [128] hx fun K hK=>?_
 refine mbi ?_
 refine cqb h kP fun x6 h=>?_
 refine mbi ?_
 refine cqb h kP fun x8 h=>?_
 refine nbi hK ?_
 refine AW.seq (ra hx ?_)
 refine AW.block ?_
 obtain⟨cH,hy,h⟩:=ah h
 refine lp (S:=Int×(Vector Int 32)) (X:=(Vector Int 32)) (fun (ba,iq)=>[(2,.pt 0 0),(3,.pt 1 0),(4,.pt 2 0),(5,.pt 3 0),(7,dI .i64 x8),(23,dI .i64 x6),(24,dI .i64 ba)]) (fun (ba,iq)=>⟨[(0,dC (an.f aS)),(1,dC (an.f aU)),(2,dC (an.f bu)),(3,dC ((cA 32 (cI .u32)).f iq))],[],4⟩) (PE cx (.exit 0) (fun cH=>[(2,.pt 0 0),(3,.pt 1 0),(4,.pt 2 0),(5,.pt 3 0)]) fun cH=>⟨[(0,dC (an.f aS)),(1,dC (an.f aU)),(2,dC (an.f bu)),(3,dC ((cA 32 (cI .u32)).f cH))],[],4⟩) hy ?_ ?_ ?_
 exact wk0 h0 [0,1,2,4]
 clear hy h
 rintro⟨ba,iq⟩ y h
 dsimp only[iX] at h
 refine ra hx ?_
 refine AW.seq (cdh h rfl (fun eH h=>?_) (fun eH h=>?_))
 refine AW.skip (AW.seq (AW.block ?_))
 iterate 2 refine ra hx ?_
 refine AW.seq (ra hx ?_)
 refine AW.block ?_
 obtain⟨y,hy,h⟩:=ah h
 refine lp (S:=Int×Int×(Vector Int 32)) (X:=Int×(Vector Int 32)) (fun (E1,nF,yO)=>[(2,.pt 0 0),(3,.pt 1 0),(4,.pt 2 0),(5,.pt 3 0),(7,dI .i64 x8),(8,dI .i64 ba),(9,dI .u64 E1),(23,dI .i64 x6),(24,dI .i64 ba),(27,dI .i64 x8),(28,dI .i64 nF)]) (fun (E1,nF,yO)=>⟨[(0,dC (an.f aS)),(1,dC (an.f aU)),(2,dC (an.f bu)),(3,dC ((cA 32 (cI .u32)).f yO))],[],4⟩) (PE cx (.exit 2) (fun (wi,wh)=>[(2,.pt 0 0),(3,.pt 1 0),(4,.pt 2 0),(5,.pt 3 0),(7,dI .i64 x8),(8,dI .i64 ba),(9,dI .u64 wi),(23,dI .i64 x6),(24,dI .i64 ba)]) fun (wi,wh)=>⟨[(0,dC (an.f aS)),(1,dC (an.f aU)),(2,dC (an.f bu)),(3,dC ((cA 32 (cI .u32)).f wh))],[],4⟩) hy ?_ ?_ ?_
 exact wk0 h0 [0,1,2,3]
 clear hy h
 rintro⟨E1,nF,yO⟩ y h
 dsimp only[iW] at h
 refine ra hx ?_
 refine AW.seq (cdh h rfl (fun FU h=>?_) (fun FU h=>?_))
 refine AW.skip (AW.seq (AW.block (ra hx ?_)))
 refine rsd [] hx fun K hK=>?_
 iterate 3 refine sa ?_
 obtain⟨JP,h⟩:=az h
 iterate 5 refine sbi ?_
 obtain⟨JO,h⟩:=az h
 iterate 7 refine sbi ?_
 obtain⟨D5,h⟩:=az h
 iterate 5 refine sbi ?_
 obtain⟨nt,xo,h⟩:=ah h
 replace xo:=cP xo
 refine s2 (d2:=dI .u64 nt) l9 (gv (congrArg (dI .u64) xo)) ?_
 refine nl hK ?_
 refine rs hx fun K hK=>?_
 iterate 5 refine sa ?_
 obtain⟨MA,h⟩:=az h
 have OS:(i64.wrap (ba+nF)).toNat<32:=by omega
 refine sbi ?_
 obtain⟨rQ,Oy,h⟩:=ah h
 replace Oy:=cP Oy
 refine s0 (kD (b':=u32.wrap (nt)) (ao.comp (ao.id _ _) (ao.vec (cI .u32) yO (i64.wrap (ba+nF)).toNat OS) (fun _=>rfl)) aP Oy) ?_
 refine nl hK ?_
 iterate 2 refine rb hx ?_
 exact pel h h0 [0,1,2,3]
 exact AW.exit (per h h0 [0,1,2,3])
 obtain⟨wi,wh⟩:=y
 refine lw0 ?_
 refine rq hx fun K hK=>?_
 iterate 5 refine sa ?_
 obtain⟨hc25,h⟩:=az h
 have OR:(i64.wrap (ba+x8)).toNat<32:=by omega
 refine sbi ?_
 obtain⟨uC,FC,h⟩:=ah h
 replace FC:=cP FC
 refine s0 (kD (b':=u32.wrap (wi)) (ao.comp (ao.id _ _) (ao.vec (cI .u32) wh (i64.wrap (ba+x8)).toNat OR) (fun _=>rfl)) aP FC) ?_
 refine nl hK ?_
 refine rb hx ?_
 exact pel h h0 [0,1,2,3]
 exact AW.exit (per h h0 [0,1,2,3])
 refine lw0 ?_
 refine AW.seq (rs hx fun K hK=>?_)
 refine q1 (slA (n:=32) (l:=(16:Int)) (h:=(32:Int)) tok (by decide) xg aP ⟨_,rfl⟩ rfl) ?_
 refine q1 (sPtr tok rfl aH) ?_
 refine s1 (d:=dG al_cV (vOf 16 (List.take 16 (List.drop 16 (cH).toList)))) (aA (ao.sub (o:=16) 16 (cI .u32) cH 16 (by decide) (by first|rfl|decide)) aH) ?_
 refine s1 (d:=dG al_cV (#v[(0:Int),0,0,0,0,0,0,0,0,0,0,0,0,0,0,0])) (mO aH aP) ?_
 refine s1 (xG tok 2 (by decide) (EqC.arr (EqC.int (d:=0) aP) aH aP) aH) ?_
 refine nl hK ?_
 refine cdh h rfl (fun Pe h=>?_) (fun Pe h=>?_)
 refine rs hx fun K hK=>?_
 refine scb h ij fun IU h=>?_
 refine nbi hK ?_
 exact AW.ret (rtv h)
 refine AW.skip (rsd [111] hx fun K hK=>?_)
 iterate 5 refine sbi ?_
 refine q1 (slA (n:=32) (l:=(0:Int)) (h:=(16:Int)) tok (by decide) xg aP rfl ⟨_,rfl⟩) ?_
 refine q1 (sPtr tok rfl aH) ?_
 refine s1 (d:=dG al_cV (vOf 16 (List.take 16 (List.drop 0 (cH).toList)))) (aA (ao.sub (o:=0) 16 (cI .u32) cH 0 (by decide) (by first|rfl|decide)) aH) ?_
 obtain⟨ze,Jx,h⟩:=ah h
 refine sq tok (d7 Jx) (by simp only[bN,cl,cF,cZ,ck,cr];exact⟨rfl,aM _ _⟩) (lA (al _) (lA (dT _ _) lAn)) (.inl (eE _ _)) ?_
 refine nbi hK ?_
 exact AW.ret (rtv h)
def gh(bm:Int):Option Int:=bnd (m5 bm) fun x1=>some (i64.wrap ((32:Int) - x1))
theorem uD {bm:Int}{r:Int}(h:gh bm=some r):aB prog 164 [dI .u32 bm] (dI .i64 r):=by
 refine bC (rs:=[.tmp 2]) (fun cx hx h0=>?_) func164
 unfold gh at h
 refine ra hx ?_
 refine rs hx fun K hK=>?_
 refine sa ?_
 refine scb h yd fun x1 h=>?_
 refine nbi hK ?_
 exact AW.ret (rtv h)
def jJ(iJ:Vector Int 16)(ce:Int)(kY:Int)(bZ:Vector Int 17)(x9:Int):Int×Int→Option ((Int×Int)⊕Int):=fun (d6,bP)=>bnd (S:=Bool) (cnd (decide (bP<(4294967296:Int))) (cnd (decide ((4294967296:Int)≤d6)) (some (true)) (gd (0≤i64.wrap (ce - (2:Int))∧i64.wrap (ce - (2:Int))<16) (gd (0≤i64.wrap ((i64.wrap (kY+ce)) - (2:Int))∧i64.wrap ((i64.wrap (kY+ce)) - (2:Int))<17) (some (decide ((ior .u64 (xm .u64 bP (32:Int)) (u64.wrap ((bZ)[(i64.wrap ((i64.wrap (kY+ce)) - (2:Int))).toNat]!)))<(u64.wrap (d6*(u64.wrap ((iJ)[(i64.wrap (ce - (2:Int))).toNat]!)))))))))) (some (false))) fun fJ=>cnd fJ (some (.inl (u64.wrap (d6 - (1:Int)),u64.wrap (bP+x9)))) (some (.inr d6))
def iV(iJ:Vector Int 16)(ce:Int)(kY:Int)(bZ:Vector Int 17):Option Int:=gd (0≤i64.wrap (kY+ce)∧i64.wrap (kY+ce)<17) (gd (0≤i64.wrap ((i64.wrap (kY+ce)) - (1:Int))∧i64.wrap ((i64.wrap (kY+ce)) - (1:Int))<17) (bnd (some (ior .u64 (xm .u64 (u64.wrap ((bZ)[(i64.wrap (kY+ce)).toNat]!)) (32:Int)) (u64.wrap ((bZ)[(i64.wrap ((i64.wrap (kY+ce)) - (1:Int))).toNat]!)))) fun x5=>gd (0≤i64.wrap (ce - (1:Int))∧i64.wrap (ce - (1:Int))<16) (bnd (some (u64.wrap ((iJ)[(i64.wrap (ce - (1:Int))).toNat]!))) fun x9=>gd (x9≠0) (gd (x9≠0) (bnd (bf (jJ iJ ce kY bZ x9) (u64.wrap (Int.tdiv x5 x9),Int.tmod x5 x9)) fun cJ=>some cJ)))))
theorem AX {iJ:Vector Int 16}{ce:Int}{kY:Int}{bZ:Vector Int 17}{r:Int}(h:iV iJ ce kY bZ=some r):HC prog 166 [.pt 0 0,dG al_cV iJ,dI .i64 ce,dI .i64 kY] ⟨[(0,dC ((cA 17 (cI .u32)).f bZ))],[],1⟩ (dI .u64 r) ⟨[(0,dC ((cA 17 (cI .u32)).f bZ))],[],1⟩:=by
 refine HC.of (rs:=[.tmp 8]) tok func166 rfl rfl (dM rfl) rfl (fun cx hx h1 hok=>?_)
 have h0:cx.hp0.next=1:=by rw[h1]
 simp only[eC,Nat.reduceAdd,dA]
 unfold iV at h
 refine ra hx ?_
 refine rsd [] hx fun K hK=>?_
 iterate 5 refine sa ?_
 obtain⟨G0,h⟩:=az h
 iterate 10 refine sbi ?_
 obtain⟨Pb,h⟩:=az h
 iterate 4 refine sbi ?_
 obtain⟨x5,FB,h⟩:=ah h
 replace FB:=cP FB
 refine s2 (d2:=dI .u64 x5) l9 (gv (congrArg (dI .u64) FB)) ?_
 refine nl hK ?_
 refine rs hx fun K hK=>?_
 iterate 2 refine sa ?_
 obtain⟨Pa,h⟩:=az h
 iterate 3 refine sbi ?_
 obtain⟨x9,xq,h⟩:=ah h
 replace xq:=cP xq
 refine s2 (d2:=dI .u64 x9) l9 (gv (congrArg (dI .u64) xq)) ?_
 refine nl hK ?_
 refine rsd [] hx fun K hK=>?_
 iterate 2 refine sa ?_
 obtain⟨vb,h⟩:=az h
 refine s1 (E4 vb) ?_
 iterate 2 refine sa ?_
 obtain⟨JP,h⟩:=az h
 refine s1 (Dg JP) ?_
 refine nbi hK ?_
 refine AW.seq (AW.block ?_)
 obtain⟨cJ,hy,h⟩:=ah h
 refine lp (S:=Int×Int) (X:=Int) (fun (d6,bP)=>[(0,.pt 0 0),(2,dI .i64 ce),(3,dI .i64 kY),(5,.pt 1 0),(10,dI .u64 x9),(11,dI .u64 d6),(12,dI .u64 bP)]) (fun (d6,bP)=>⟨[(0,dC ((cA 17 (cI .u32)).f bZ)),(1,dC (al_cV.f iJ))],[],2⟩) (PE cx (.exit 0) (fun cJ=>[(11,dI .u64 cJ)]) fun cJ=>⟨[(0,dC ((cA 17 (cI .u32)).f bZ))],[],1⟩) hy ?_ ?_ ?_
 exact wkN h0 [1] (wR rfl (wR rfl (wR rfl (wR rfl (wR rfl (wR rfl (wR rfl wTn))))))) (vC rfl (vC rfl wVn)) wLn
 clear hy h
 rintro⟨d6,bP⟩ y h
 dsimp only[jJ] at h
 iterate 2 refine AW.seq ?_
 obtain⟨fJ,hy,h⟩:=ah h
 refine jn ((PE cx .normal (fun fJ=>[(0,.pt 0 0),(2,dI .i64 ce),(3,dI .i64 kY),(5,.pt 1 0),(10,dI .u64 x9),(11,dI .u64 d6),(12,dI .u64 bP),(70,dB fJ)]) fun fJ=>⟨[(0,dC ((cA 17 (cI .u32)).f bZ)),(1,dC (al_cV.f iJ))],[],2⟩) fJ) ?_ ?_
 replace h:=hy
 refine rqd [] hx fun K hK=>?_
 refine mbi ?_
 rcases cnd_s h with⟨xu,h⟩|⟨xu,h⟩
 refine mbi ?_
 rcases cnd_s h with⟨oH,h⟩|⟨oH,h⟩
 refine nbi hK ?_
 cases h
 exact PE.i (wkN h0 [1] (wR rfl (wR rfl (wR rfl (wR rfl (wR rfl (wR rfl (wR rfl (wR rfl wTn)))))))) (vC rfl (vC rfl wVn)) wLn)
 iterate 3 refine ga oH ?_
 obtain⟨tV,h⟩:=az h
 iterate 2 refine gbi ?_
 iterate 3 refine ga oH ?_
 refine g1 oH (Qm (b:=(32:Int)) (by decide)) ?_
 iterate 6 refine ga oH ?_
 obtain⟨hc17,h⟩:=az h
 iterate 2 refine gbi ?_
 refine ga oH ?_
 refine g1 oH T_or ?_
 refine nbi hK ?_
 cases h
 exact PE.i (wkN h0 [1] (wR rfl (wR rfl (wR rfl (wR rfl (wR rfl (wR rfl (wR rfl (wR rfl wTn)))))))) (vC rfl (vC rfl wVn)) wLn)
 iterate 3 refine aJ rfl rfl xu ?_
 iterate 20 refine nn_t rfl rfl ?_
 refine nbi hK ?_
 cases h
 exact PE.i (wkN h0 [1] (wR rfl (wR rfl (wR rfl (wR rfl (wR rfl (wR rfl (wR rfl (wR rfl wTn)))))))) (vC rfl (vC rfl wVn)) wLn)
 refine lw0 ?_
 refine cdh h rfl (fun xt h=>?_) (fun xt h=>?_)
 refine AW.skip (AW.block (ra hx ?_))
 refine rb hx ?_
 cases h
 exact PS.l (PE.i (wkN h0 [1] (wR rfl (wR rfl (wR rfl (wR rfl (wR rfl (wR rfl (wR rfl wTn))))))) (vC rfl (vC rfl wVn)) wLn))
 refine AW.exit ?_
 try dsimp only
 try simp only[aO,reduceIte,Nat.reduceEqDiff,reduceCtorEq]
 cases h
 exact PS.r ⟨by nofun,PE.i (wkN h0 [] (wR rfl wTn) (vC rfl wVn) wLn)⟩
 refine lw0 ?_
 refine ra hx ?_
 refine AW.ret ?_
 cases h
 exact rH1 (wkN h0 [] (wR rfl wTn) (vC rfl wVn) wLn)
def i7(iJ:Vector Int 16)(ce:Int)(kY:Int)(tM:Int):Int×Int×Int×(Vector Int 17)→Option ((Int×Int×Int×(Vector Int 17))⊕(Int×Int×(Vector Int 17))):=fun (aL,a6,lr,GF)=>cnd (decide (lr<ce)) (gd (0≤lr∧lr<16) (bnd (some (u64.wrap (aL+(u64.wrap (tM*(u64.wrap ((iJ)[(lr).toNat]!))))))) fun x4=>gd (0≤i64.wrap (kY+lr)∧i64.wrap (kY+lr)<17) (bnd (some (u64.wrap ((u64.wrap ((u64.wrap ((GF)[(i64.wrap (kY+lr)).toNat]!)) - (u64.wrap (u32.wrap (x4))))) - a6))) fun x8=>gd (0≤i64.wrap (kY+lr)∧i64.wrap (kY+lr)<17) (bnd (some ((GF).set! (i64.wrap (kY+lr)).toNat (u32.wrap (x8)))) fun ii=>some (.inl (mv .u64 x4 (32:Int),mv .u64 x8 (63:Int),i64.wrap (lr+(1:Int)),ii)))))) (some (.inr (aL,a6,GF)))
def jU(iJ:Vector Int 16)(ce:Int)(kY:Int)(tM:Int)(bZ:Vector Int 17):Option (Bool×(Vector Int 17)):=bnd (bf (i7 iJ ce kY tM) ((0:Int),(0:Int),(0:Int),bZ)) fun (aD,iG,vB)=>gd (0≤i64.wrap (kY+ce)∧i64.wrap (kY+ce)<17) (bnd (some (u64.wrap ((u64.wrap ((u64.wrap ((vB)[(i64.wrap (kY+ce)).toNat]!)) - aD)) - iG))) fun ny=>gd (0≤i64.wrap (kY+ce)∧i64.wrap (kY+ce)<17) (bnd (some ((vB).set! (i64.wrap (kY+ce)).toNat (u32.wrap (ny)))) fun uP=>some (decide ((mv .u64 ny (63:Int))=(1:Int)),uP)))
theorem BF {iJ:Vector Int 16}{ce:Int}{kY:Int}{tM:Int}{bZ:Vector Int 17}{r:Bool×(Vector Int 17)}(h:jU iJ ce kY tM bZ=some r):HC prog 167 [.pt 0 0,dG al_cV iJ,dI .i64 ce,dI .i64 kY,dI .u64 tM] ⟨[(0,dC ((cA 17 (cI .u32)).f bZ))],[],1⟩ (dB r.1) ⟨[(0,dC ((cA 17 (cI .u32)).f r.2))],[],1⟩:=by
 refine HC.of (rs:=[.tmp 10]) tok func167 rfl rfl (dM rfl) rfl (fun cx hx h1 hok=>?_)
 have h0:cx.hp0.next=1:=by rw[h1]
 simp only[eC,Nat.reduceAdd,dA]
 unfold jU at h
 iterate 2 refine ra hx ?_
 refine AW.seq (ra hx ?_)
 refine AW.block ?_
 obtain⟨y,hy,h⟩:=ah h
 refine lp (S:=Int×Int×Int×(Vector Int 17)) (X:=Int×Int×(Vector Int 17)) (fun (aL,a6,lr,GF)=>[(0,.pt 0 0),(2,dI .i64 ce),(3,dI .i64 kY),(4,dI .u64 tM),(6,.pt 1 0),(11,dI .u64 aL),(12,dI .u64 a6),(16,dI .i64 ce),(17,dI .i64 lr)]) (fun (aL,a6,lr,GF)=>⟨[(0,dC ((cA 17 (cI .u32)).f GF)),(1,dC (al_cV.f iJ))],[],2⟩) (PE cx (.exit 0) (fun (aD,iG,vB)=>[(0,.pt 0 0),(2,dI .i64 ce),(3,dI .i64 kY),(11,dI .u64 aD),(12,dI .u64 iG)]) fun (aD,iG,vB)=>⟨[(0,dC ((cA 17 (cI .u32)).f vB))],[],1⟩) hy ?_ ?_ ?_
 exact wkN h0 [1] (wR rfl (wR rfl (wR rfl (wR rfl (wR rfl (wR rfl (wR rfl (wR rfl (wR rfl wTn))))))))) (vC rfl (vC rfl wVn)) wLn
 clear hy h
 rintro⟨aL,a6,lr,GF⟩ y h
 dsimp only[i7] at h
 refine ra hx ?_
 refine AW.seq (cdh h rfl (fun cE h=>?_) (fun cE h=>?_))
 refine AW.skip (AW.seq (AW.block (ra hx ?_)))
 refine rs hx fun K hK=>?_
 iterate 3 refine sa ?_
 obtain⟨pg,h⟩:=az h
 iterate 5 refine sbi ?_
 obtain⟨x4,pk,h⟩:=ah h
 replace pk:=cP pk
 refine s2 (d2:=dI .u64 x4) l9 (gv (congrArg (dI .u64) pk)) ?_
 refine nl hK ?_
 refine rs hx fun K hK=>?_
 iterate 5 refine sa ?_
 obtain⟨Mz,h⟩:=az h
 iterate 9 refine sbi ?_
 obtain⟨x8,IW,h⟩:=ah h
 replace IW:=cP IW
 refine s2 (d2:=dI .u64 x8) l9 (gv (congrArg (dI .u64) IW)) ?_
 refine nl hK ?_
 refine rs hx fun K hK=>?_
 iterate 7 refine sa ?_
 obtain⟨z3,h⟩:=az h
 have H6:(i64.wrap (kY+lr)).toNat<17:=by omega
 refine sbi ?_
 obtain⟨ii,tS,h⟩:=ah h
 replace tS:=cP tS
 refine s0 (kD (b':=u32.wrap (x8)) (ao.comp (ao.id _ _) (ao.vec (cI .u32) GF (i64.wrap (kY+lr)).toNat H6) (fun _=>rfl)) aP tS) ?_
 refine nl hK ?_
 refine ra hx ?_
 iterate 2 refine rb hx ?_
 cases h
 exact PS.l (PE.i (wkN h0 [1] (wR rfl (wR rfl (wR rfl (wR rfl (wR rfl (wR rfl (wR rfl (wR rfl (wR rfl wTn))))))))) (vC rfl (vC rfl wVn)) wLn))
 refine AW.exit ?_
 try dsimp only
 try simp only[aO,reduceIte,Nat.reduceEqDiff,reduceCtorEq]
 cases h
 exact PS.r ⟨by nofun,PE.i (wkN h0 [] (wR rfl (wR rfl (wR rfl (wR rfl (wR rfl wTn))))) (vC rfl wVn) wLn)⟩
 obtain⟨aD,iG,vB⟩:=y
 refine lw0 ?_
 refine rs hx fun K hK=>?_
 iterate 5 refine sa ?_
 obtain⟨tV,h⟩:=az h
 iterate 7 refine sbi ?_
 obtain⟨ny,xp,h⟩:=ah h
 replace xp:=cP xp
 refine s2 (d2:=dI .u64 ny) l9 (gv (congrArg (dI .u64) xp)) ?_
 refine nl hK ?_
 refine rs hx fun K hK=>?_
 iterate 7 refine sa ?_
 obtain⟨FN,h⟩:=az h
 have Ms:(i64.wrap (kY+ce)).toNat<17:=by omega
 refine sbi ?_
 obtain⟨uP,Oz,h⟩:=ah h
 replace Oz:=cP Oz
 refine s0 (kD (b':=u32.wrap (ny)) (ao.comp (ao.id _ _) (ao.vec (cI .u32) vB (i64.wrap (kY+ce)).toNat Ms) (fun _=>rfl)) aP Oz) ?_
 refine nl hK ?_
 refine ra hx ?_
 refine AW.ret ?_
 cases h
 exact rH1 (wkN h0 [] (wR rfl wTn) (vC rfl wVn) wLn)
def i9(iJ:Vector Int 16)(ce:Int)(kY:Int):Int×Int×(Vector Int 17)→Option ((Int×Int×(Vector Int 17))⊕(Int×(Vector Int 17))):=fun (aL,a6,lr)=>cnd (decide (a6<ce)) (gd (0≤i64.wrap (kY+a6)∧i64.wrap (kY+a6)<17) (gd (0≤a6∧a6<16) (bnd (some (u64.wrap (aL+(u64.wrap ((u64.wrap ((lr)[(i64.wrap (kY+a6)).toNat]!))+(u64.wrap ((iJ)[(a6).toNat]!))))))) fun x6=>gd (0≤i64.wrap (kY+a6)∧i64.wrap (kY+a6)<17) (bnd (some ((lr).set! (i64.wrap (kY+a6)).toNat (u32.wrap (x6)))) fun fb=>some (.inl (mv .u64 x6 (32:Int),i64.wrap (a6+(1:Int)),fb)))))) (some (.inr (aL,lr)))
def jY(iJ:Vector Int 16)(ce:Int)(kY:Int)(bZ:Vector Int 17):Option (Vector Int 17):=bnd (bf (i9 iJ ce kY) ((0:Int),(0:Int),bZ)) fun (aD,iG)=>gd (0≤i64.wrap (kY+ce)∧i64.wrap (kY+ce)<17) (gd (0≤i64.wrap (kY+ce)∧i64.wrap (kY+ce)<17) (bnd (some ((iG).set! (i64.wrap (kY+ce)).toNat (u32.wrap (((iG)[(i64.wrap (kY+ce)).toNat]!)+(u32.wrap (aD)))))) fun ny=>some ny))
theorem BG {iJ:Vector Int 16}{ce:Int}{kY:Int}{bZ:Vector Int 17}{r:Vector Int 17}(h:jY iJ ce kY bZ=some r):HC prog 168 [.pt 0 0,dG al_cV iJ,dI .i64 ce,dI .i64 kY] ⟨[(0,dC ((cA 17 (cI .u32)).f bZ))],[],1⟩ (.tu []) ⟨[(0,dC ((cA 17 (cI .u32)).f r))],[],1⟩:=by
 refine HC.of (rs:=[]) tok func168 rfl rfl (dM rfl) rfl (fun cx hx h1 hok=>?_)
 have h0:cx.hp0.next=1:=by rw[h1]
 simp only[eC,Nat.reduceAdd,dA]
 unfold jY at h
 iterate 2 refine ra hx ?_
 refine AW.seq (ra hx ?_)
 refine AW.block ?_
 obtain⟨y,hy,h⟩:=ah h
 refine lp (S:=Int×Int×(Vector Int 17)) (X:=Int×(Vector Int 17)) (fun (aL,a6,lr)=>[(0,.pt 0 0),(2,dI .i64 ce),(3,dI .i64 kY),(5,.pt 1 0),(8,dI .u64 aL),(10,dI .i64 ce),(11,dI .i64 a6)]) (fun (aL,a6,lr)=>⟨[(0,dC ((cA 17 (cI .u32)).f lr)),(1,dC (al_cV.f iJ))],[],2⟩) (PE cx (.exit 0) (fun (aD,iG)=>[(0,.pt 0 0),(2,dI .i64 ce),(3,dI .i64 kY),(8,dI .u64 aD)]) fun (aD,iG)=>⟨[(0,dC ((cA 17 (cI .u32)).f iG))],[],1⟩) hy ?_ ?_ ?_
 exact wkN h0 [1] (wR rfl (wR rfl (wR rfl (wR rfl (wR rfl (wR rfl (wR rfl wTn))))))) (vC rfl (vC rfl wVn)) wLn
 clear hy h
 rintro⟨aL,a6,lr⟩ y h
 dsimp only[i9] at h
 refine ra hx ?_
 refine AW.seq (cdh h rfl (fun cE h=>?_) (fun cE h=>?_))
 refine AW.skip (AW.seq (AW.block (ra hx ?_)))
 refine rsd [] hx fun K hK=>?_
 iterate 6 refine sa ?_
 obtain⟨pg,h⟩:=az h
 iterate 4 refine sbi ?_
 obtain⟨Bv,h⟩:=az h
 iterate 5 refine sbi ?_
 obtain⟨x6,td,h⟩:=ah h
 replace td:=cP td
 refine s2 (d2:=dI .u64 x6) l9 (gv (congrArg (dI .u64) td)) ?_
 refine nl hK ?_
 refine rs hx fun K hK=>?_
 iterate 7 refine sa ?_
 obtain⟨FM,h⟩:=az h
 have FH:(i64.wrap (kY+a6)).toNat<17:=by omega
 refine sbi ?_
 obtain⟨fb,ww,h⟩:=ah h
 replace ww:=cP ww
 refine s0 (kD (b':=u32.wrap (x6)) (ao.comp (ao.id _ _) (ao.vec (cI .u32) lr (i64.wrap (kY+a6)).toNat FH) (fun _=>rfl)) aP ww) ?_
 refine nl hK ?_
 iterate 2 refine rb hx ?_
 cases h
 exact PS.l (PE.i (wkN h0 [1] (wR rfl (wR rfl (wR rfl (wR rfl (wR rfl (wR rfl (wR rfl wTn))))))) (vC rfl (vC rfl wVn)) wLn))
 refine AW.exit ?_
 try dsimp only
 try simp only[aO,reduceIte,Nat.reduceEqDiff,reduceCtorEq]
 cases h
 exact PS.r ⟨by nofun,PE.i (wkN h0 [] (wR rfl (wR rfl (wR rfl (wR rfl wTn)))) (vC rfl wVn) wLn)⟩
 obtain⟨aD,iG⟩:=y
 refine lw0 ?_
 refine rqd [] hx fun K hK=>?_
 iterate 5 refine sa ?_
 obtain⟨Ck,h⟩:=az h
 iterate 6 refine sbi ?_
 obtain⟨tV,h⟩:=az h
 have tf:(i64.wrap (kY+ce)).toNat<17:=by omega
 refine sbi ?_
 obtain⟨ny,xp,h⟩:=ah h
 replace xp:=cP xp
 refine s0 (kD (b':=u32.wrap (((iG)[(i64.wrap (kY+ce)).toNat]!)+(u32.wrap (aD)))) (ao.comp (ao.id _ _) (ao.vec (cI .u32) iG (i64.wrap (kY+ce)).toNat tf) (fun _=>rfl)) aP xp) ?_
 refine nl hK ?_
 cases h
 exact rH0 (wkN h0 [] wTn (vC rfl wVn) wLn)
def fq(x1:Int)(Au:(Vector Int 16)×Int):Int×(Vector Int 16)×(Vector Int 17)→Option ((Int×(Vector Int 16)×(Vector Int 17))⊕((Vector Int 16)×(Vector Int 17))):=fun (rK,AT,Da)=>cnd (decide ((0:Int)≤rK)) (bnd (iV Au.1 x1 rK Da) fun Nf=>bnd (S:=Int×(Vector Int 17)) (bnd (jU Au.1 x1 rK Nf Da) fun KP=>cnd KP.1 (bnd (jY Au.1 x1 rK KP.2) fun ze=>some ((u64.wrap (Nf - (1:Int)),ze))) (some ((Nf,KP.2)))) fun (E0,ID)=>gd (0≤rK∧rK<16) (some (.inl (i64.wrap (rK - (1:Int)),(AT).set! (rK).toNat (u32.wrap (E0)),ID)))) (some (.inr (AT,Da)))
def gi(aS:Vector Int 16)(aU:Vector Int 16):Option ((Vector Int 16)×(Vector Int 16)):=bnd (e6 aU) fun x1=>bnd (e6 aS) fun x3=>bnd (lT aS aU) fun x5=>cnd (decide (x5<(0:Int))) (bnd (some (#v[(0:Int),0,0,0,0,0,0,0,0,0,0,0,0,0,0,0])) fun x8=>some (x8,aS)) (cnd (decide (x1=(1:Int))) (bnd (nA aS ((aU)[((0:Int)).toNat]!)) fun ii=>bnd (some (#v[ii.2,0,0,0,0,0,0,0,0,0,0,0,0,0,0,0])) fun og=>some (ii.1,og)) (gd (0≤i64.wrap (x1 - (1:Int))∧i64.wrap (x1 - (1:Int))<16) (bnd (gh ((aU)[(i64.wrap (x1 - (1:Int))).toNat]!)) fun nt=>bnd (pN aU nt) fun Au=>bnd (pN aS nt) fun rQ=>bnd (some (vOf 17 (lCp ((Vector.replicate 17 (0:Int))).toList 0 (List.take 17 (List.take 16 (List.drop 0 (rQ.1).toList)))))) fun Dz=>bnd (bf (fq x1 Au) (i64.wrap (x3 - x1),(cw),(Dz).set! ((16:Int)).toNat rQ.2)) fun (uf,ue)=>bnd (oJ (vOf 16 (List.take 16 (List.drop 0 (ue).toList))) nt) fun IT=>some (uf,IT))))
theorem sV {aS:Vector Int 16}{aU:Vector Int 16}{r:(Vector Int 16)×(Vector Int 16)}(h:gi aS aU=some r):aB prog 130 [dG al_cV aS,dG al_cV aU] (.tu [dG al_cV r.1,dG al_cV r.2]):=by
 refine bC (rs:=[.cell 4 30,.cell 5 30]) (fun cx hx h0=>?_) func130
 unfold gi at h
 refine rai hx ?_
 refine rsd [128] hx fun K hK=>?_
 refine mbi ?_
 refine cqb h kP fun x1 h=>?_
 refine mbi ?_
 refine cqb h kP fun x3 h=>?_
 refine nbi hK ?_
 refine AW.seq (rs hx fun K hK=>?_)
 refine mbi ?_
 refine scb h wB fun x5 h=>?_
 refine nbi hK ?_
 refine cdh h rfl (fun nh h=>?_) (fun nh h=>?_)
 refine AW.seq ?_
 obtain⟨x8,IW,h⟩:=ah h
 replace IW:=cP IW
 refine jn (PE cx .normal (fun (_:Unit)=>[(4,.pt 0 0),(5,.pt 1 0)]) (fun (_:Unit)=>⟨[(0,dC (al_cV.f x8)),(1,dC (al_cV.f aS))],[],2⟩) ()) ?_ ?_
 refine dw (DW.split 1 2 (by decide) ?_ ?_)
 refine dwg [] [0,1,2,3] hx (by kernel_rfl) (by kernel_rfl) (by kernel_rfl) fun K hK=>?_
 dsimp only[eJ,nE,nS,List.map]
 refine s1 (d:=dG al_cV (#v[(0:Int),0,0,0,0,0,0,0,0,0,0,0,0,0,0,0])) (mO aH aP) ?_
 refine sbi ?_
 refine s0 (kD (b':=#v[(0:Int),0,0,0,0,0,0,0,0,0,0,0,0,0,0,0]) (ao.id _ _) aH IW) ?_
 refine tzi ?_
 exact .nil (hK _ _ (pe0 h0 [2,3]))
 refine dwg [] [0,2,1,3] hx (by kernel_rfl) (by kernel_rfl) (by kernel_rfl) fun K hK=>?_
 dsimp only[eJ,nE,nS,List.map]
 refine s1 (d:=dG al_cV (#v[(0:Int),0,0,0,0,0,0,0,0,0,0,0,0,0,0,0])) (mO aH aP) ?_
 refine s0 (kD (b':=#v[(0:Int),0,0,0,0,0,0,0,0,0,0,0,0,0,0,0]) (ao.id _ _) aH IW) ?_
 refine sbi ?_
 refine tzi ?_
 exact .nil (hK _ _ (pe0 h0 [2,3]))
 refine lw0 ?_
 refine AW.ret ?_
 cases h
 exact rv2
 refine AW.skip (AW.seq (ra hx ?_))
 refine cdh h rfl (fun eH h=>?_) (fun eH h=>?_)
 refine rs hx fun K hK=>?_
 refine sbi ?_
 refine s1 (c7 (by decide:0≤(0:Int)∧(0:Int)<((16:Nat):Int)) aH aP) ?_
 refine mbi ?_
 refine scb h DH fun ii h=>?_
 refine nbi hK ?_
 refine rs hx fun K hK=>?_
 iterate 2 refine sbi ?_
 refine s1 (d:=dG al_cV (#v[ii.2,0,0,0,0,0,0,0,0,0,0,0,0,0,0,0])) (mO aH aP) ?_
 refine tzi ?_
 obtain⟨og,zW,h⟩:=ah h
 replace zW:=cP zW
 refine s0 (kD (b':=#v[ii.2,0,0,0,0,0,0,0,0,0,0,0,0,0,0,0]) (ao.id _ _) aH zW) ?_
 refine nl hK ?_
 refine AW.ret ?_
 cases h
 exact rv2
 refine AW.skip (rs hx fun K hK=>?_)
 iterate 2 refine sa ?_
 obtain⟨D5,h⟩:=az h
 refine mbi ?_
 refine scb h uD fun nt h=>?_
 refine nbi hK ?_
 refine rs hx fun K hK=>?_
 refine mbi ?_
 refine scb h BE fun Au h=>?_
 refine nbi hK ?_
 refine rs hx fun K hK=>?_
 refine mbi ?_
 refine scb h BE fun rQ h=>?_
 refine nbi hK ?_
 refine rs hx fun K hK=>?_
 refine s1 (bq (F:=(cA 17 (cI .u32)).f (Vector.replicate 17 (0:Int))) ng) ?_
 refine nl hK ?_
 refine rsd [] hx fun K hK=>?_
 refine q1 (slA (n:=17) (l:=(0:Int)) (h:=(17:Int)) tok (by decide) ng aP rfl rfl) ?_
 refine q1 (slA (n:=16) (l:=(0:Int)) (h:=(16:Int)) tok (by decide) aH aP rfl rfl) ?_
 obtain⟨Dz,hx25,h⟩:=ah h
 replace hx25:=cP hx25
 refine q1 (hp':=⟨[(6,dC ((cA 17 (cI .u32)).f Dz)),(6,dC ((cA 17 (cI .u32)).f (Vector.replicate 17 (0:Int)))),(5,dC (al_cV.f rQ.1)),(5,dC (al_cV.f (cw))),(4,dC (al_cV.f Au.1)),(4,dC (al_cV.f (cw))),(3,dC (al_cV.f (cw))),(2,dC (al_cV.f (cw))),(1,dC (al_cV.f aU)),(0,dC (al_cV.f aS))],[],7⟩) (sCpA (c:=(cI .u32)) (v:=(Vector.replicate 17 (0:Int))) (s:=(List.take 16 (List.drop 0 (rQ.1).toList))) tok Ns aP (vJ.arr (c:=(cI .u32)) (v:=rQ.1) rfl 0 (by decide)) (by simp only[ff,gY,rG];omega) rfl 0 (by decide) (congrArg (fun q=>(6,dC ((cA 17 (cI .u32)).f q))::_) hx25)) ?_
 refine nl hK ?_
 refine rs hx fun K hK=>?_
 refine sa ?_
 have OR:((16:Int)).toNat<17:=by omega
 refine s1 (c7 (by decide:0≤(16:Int)∧(16:Int)<((17:Nat):Int)) ng aP) ?_
 refine s0 (aN (b':=rQ.2) (ao.comp (ao.id _ _) (ao.vec (cI .u32) Dz ((16:Int)).toNat OR) (fun _=>rfl)) aP) ?_
 refine nl hK ?_
 refine AW.seq (ra hx ?_)
 refine AW.block ?_
 obtain⟨y,hy,h⟩:=ah h
 refine lp (S:=Int×(Vector Int 16)×(Vector Int 17)) (X:=(Vector Int 16)×(Vector Int 17)) (fun (rK,AT,Da)=>[(4,.pt 0 0),(5,.pt 1 0),(6,dI .i64 x1),(10,dI .i64 nt),(11,.pt 2 0),(15,.pt 3 0),(16,dI .i64 rK)]) (fun (rK,AT,Da)=>⟨[(0,dC (al_cV.f AT)),(1,dC (al_cV.f (cw))),(2,dC (al_cV.f Au.1)),(3,dC ((cA 17 (cI .u32)).f Da))],[],4⟩) (PE cx (.exit 0) (fun (uf,ue)=>[(4,.pt 0 0),(5,.pt 1 0),(10,dI .i64 nt),(15,.pt 2 0)]) fun (uf,ue)=>⟨[(0,dC (al_cV.f uf)),(1,dC (al_cV.f (cw))),(2,dC ((cA 17 (cI .u32)).f ue))],[],3⟩) hy ?_ ?_ ?_
 exact wk0 h0 [2,3,4,6]
 clear hy h
 rintro⟨rK,AT,Da⟩ y h
 dsimp only[fq] at h
 refine AW.seq (ra hx ?_)
 refine cdh h rfl (fun hb27 h=>?_) (fun hb27 h=>?_)
 refine AW.skip (AW.seq (AW.block (rs hx fun K hK=>?_)))
 iterate 3 refine sbi ?_
 obtain⟨Nf,hx29,h⟩:=ah h
 refine s1 (Bz [3] rfl (AX hx29) (fA (al _) (fAG (al _) (fA (al _) (fA (al _) fAn)))) (vC rfl wVn) wLn (rvC rvN) rfl rfl) ?_
 refine nbi hK ?_
 refine AW.seq ?_
 obtain⟨y,hy,h⟩:=ah h
 refine jn ((PE cx .normal (fun (E0,ID)=>[(4,.pt 0 0),(5,.pt 1 0),(6,dI .i64 x1),(10,dI .i64 nt),(11,.pt 2 0),(15,.pt 3 0),(16,dI .i64 rK),(17,dI .u64 E0)]) fun (E0,ID)=>⟨[(0,dC (al_cV.f AT)),(1,dC (al_cV.f (cw))),(2,dC (al_cV.f Au.1)),(3,dC ((cA 17 (cI .u32)).f ID))],[],4⟩) y) ?_ ?_
 replace h:=hy
 refine rs hx fun K hK=>?_
 iterate 4 refine sbi ?_
 obtain⟨KP,hx31,h⟩:=ah h
 refine s1 (Bz [3] rfl (BF hx31) (fA (al _) (fAG (al _) (fA (al _) (fA (al _) (fA (al _) fAn))))) (vC rfl wVn) wLn (rvC rvN) rfl rfl) ?_
 refine nl hK ?_
 refine cdh h rfl (fun hb32 h=>?_) (fun hb32 h=>?_)
 refine ra hx ?_
 refine rq hx fun K hK=>?_
 iterate 3 refine sbi ?_
 obtain⟨ze,Jx,h⟩:=ah h
 refine s1 (Bz [3] rfl (BG Jx) (fA (al _) (fAG (al _) (fA (al _) (fA (al _) fAn)))) (vC rfl wVn) wLn (rvC rvN) rfl rfl) ?_
 refine nl hK ?_
 exact pe1 h h0 [0,1,2,3]
 exact AW.skip (pe1 h h0 [0,1,2,3])
 obtain⟨E0,ID⟩:=y
 refine lw0 ?_
 refine rq hx fun K hK=>?_
 iterate 3 refine sa ?_
 obtain⟨hc36,h⟩:=az h
 have hn37:(rK).toNat<16:=by omega
 refine sbi ?_
 refine s0 (aN (b':=u32.wrap (E0)) (ao.comp (ao.id _ _) (ao.vec (cI .u32) AT (rK).toNat hn37) (fun _=>rfl)) aP) ?_
 refine nl hK ?_
 refine rb hx ?_
 exact pel h h0 [0,1,2,3]
 exact AW.exit (per h h0 [0,1,3])
 obtain⟨uf,ue⟩:=y
 refine lw0 ?_
 refine rsd [169] hx fun K hK=>?_
 refine sbi ?_
 refine q1 (slA (n:=17) (l:=(0:Int)) (h:=(16:Int)) tok (by decide) ng aP rfl ⟨_,rfl⟩) ?_
 refine q1 (sPtr tok rfl aH) ?_
 refine s1 (d:=dG al_cV (vOf 16 (List.take 16 (List.drop 0 (ue).toList)))) (aA (ao.sub (o:=0) 16 (cI .u32) ue 0 (by decide) (by first|rfl|decide)) aH) ?_
 refine sa ?_
 obtain⟨IT,hx40,h⟩:=ah h
 refine sq tok (E9 hx40) (by simp only[bN,cl,cF,cZ,ck,cr];exact⟨aM _ _,rfl⟩) (lA (dT _ _) (lA (al _) lAn)) (.inl (eE _ _)) ?_
 refine nbi hK ?_
 refine AW.ret ?_
 cases h
 exact rv2
def qk(bm:ay):Option ay:=bnd (dU [bm]) fun x1=>cnd (!x1) (bnd (eN) fun x4=>some x4) (bnd (b8 false bm.vW) fun x6=>some x6)
theorem G8 {bm:ay}{r:ay}(h:qk bm=some r):aB prog 131 [dG an bm] (dG an r):=by
 refine bC (rs:=[.cell 2 32]) (fun cx hx h0=>?_) func131
 unfold qk at h
 refine rai hx ?_
 refine AW.seq (rs hx fun K hK=>?_)
 refine sbi ?_
 refine s1 (qI ([bm]:List ay) an rj qza0) ?_
 refine scb h g6 fun x1 h=>?_
 refine nbi hK ?_
 refine cdh h rfl (fun a8 h=>?_) (fun a8 h=>?_)
 refine rs hx fun K hK=>?_
 refine scb h ij fun x4 h=>?_
 refine nbi hK ?_
 exact AW.ret (rtv h)
 refine AW.skip (rs hx fun K hK=>?_)
 refine mbi ?_
 refine scb h d7 fun x6 h=>?_
 refine nbi hK ?_
 exact AW.ret (rtv h)
def iY :Int×Int→Option ((Int×Int)⊕Int):=fun (ba,iq)=>cnd (decide (iq≠(0:Int))) (gd (iq≠0) (some (.inl (iq,Int.tmod ba iq)))) (some (.inr ba))
def db(K3:ay→ay→Option ay)(aS:ay)(aU:ay):Option ay:=bnd (dU [aS,aU]) fun x1=>cnd (!x1) (bnd (eN) fun x4=>some x4) (bnd (S:=Bool) (bnd (e6 aS.vW) fun x6=>cnd (decide (x6≤(2:Int))) (bnd (e6 aU.vW) fun x9=>some (decide (x9≤(2:Int)))) (some (false))) fun kC=>cnd kC (bnd (some (ior .u64 (xm .u64 (u64.wrap ((aS.vW)[((1:Int)).toNat]!)) (32:Int)) (u64.wrap ((aS.vW)[((0:Int)).toNat]!)))) fun ny=>bnd (some (ior .u64 (xm .u64 (u64.wrap ((aU.vW)[((1:Int)).toNat]!)) (32:Int)) (u64.wrap ((aU.vW)[((0:Int)).toNat]!)))) fun sP=>bnd (bf (iY) (ny,sP)) fun cH=>bnd (b8 false (#v[u32.wrap (cH),u32.wrap (mv .u64 cH (32:Int)),0,0,0,0,0,0,0,0,0,0,0,0,0,0])) fun Dz=>some Dz) (cnd (decide (¬(aU.vW=#v[(0:Int),0,0,0,0,0,0,0,0,0,0,0,0,0,0,0]))) (bnd (gi aS.vW aU.vW) fun uC=>bnd (b8 false aU.vW) fun uN=>bnd (b8 false uC.2) fun IU=>bnd (K3 uN IU) fun ze=>some ze) (bnd (qk aS) fun M0=>some M0)))
theorem DI {K3:ay→ay→Option ay}(ih:∀{aS:ay} {aU:ay} {r:ay},K3 aS aU=some r→aB prog 93 [dG an aS,dG an aU] (dG an r)){aS:ay}{aU:ay}{r:ay}(h:db K3 aS aU=some r):aB prog 93 [dG an aS,dG an aU] (dG an r):=by
 refine bC (rs:=[.cell 4 32]) (fun cx hx h0=>?_) func93
 unfold db at h
 refine rai hx ?_
 refine AW.seq (rs hx fun K hK=>?_)
 iterate 2 refine sbi ?_
 refine s1 (qI ([aS,aU]:List ay) an rj qza0) ?_
 refine scb h g6 fun x1 h=>?_
 refine nbi hK ?_
 refine cdh h rfl (fun a8 h=>?_) (fun a8 h=>?_)
 refine rs hx fun K hK=>?_
 refine scb h ij fun x4 h=>?_
 refine nbi hK ?_
 exact AW.ret (rtv h)
 refine AW.skip ?_
 iterate 2 refine AW.seq ?_
 obtain⟨kC,hy,h⟩:=ah h
 refine jn ((PE cx .normal (fun kC=>[(2,.pt 0 0),(3,.pt 1 0),(4,.pt 2 0),(26,dB kC)]) fun kC=>⟨[(0,dC (an.f aS)),(1,dC (an.f aU)),(2,dC (an.f bu))],[],3⟩) kC) ?_ ?_
 replace h:=hy
 refine rq hx fun K hK=>?_
 refine mbi ?_
 refine scb h kP fun x6 h=>?_
 refine mbi ?_
 rcases cnd_s h with⟨py,h⟩|⟨py,h⟩
 refine ga py ?_
 refine gbi ?_
 refine gcb h kP fun x9 h=>?_
 refine nbi hK ?_
 exact pe1 h h0 [0,1,2]
 refine nbi hK ?_
 exact pe1 h h0 [0,1,2]
 refine lw0 ?_
 refine cdh h rfl (fun mw h=>?_) (fun mw h=>?_)
 refine rsd [] hx fun K hK=>?_
 refine sa ?_
 refine s1 (c7 (by decide:0≤(1:Int)∧(1:Int)<((16:Nat):Int)) aH aP) ?_
 iterate 4 refine sbi ?_
 refine s1 (c7 (by decide:0≤(0:Int)∧(0:Int)<((16:Nat):Int)) aH aP) ?_
 iterate 4 refine sbi ?_
 refine s1 (c7 (by decide:0≤(1:Int)∧(1:Int)<((16:Nat):Int)) aH aP) ?_
 iterate 4 refine sbi ?_
 refine s1 (c7 (by decide:0≤(0:Int)∧(0:Int)<((16:Nat):Int)) aH aP) ?_
 iterate 3 refine sbi ?_
 obtain⟨ny,xp,h⟩:=ah h
 replace xp:=cP xp
 refine s2 (d2:=dI .u64 ny) l9 (gv (congrArg (dI .u64) xp)) ?_
 obtain⟨sP,FD,h⟩:=ah h
 replace FD:=cP FD
 refine s2 (d2:=dI .u64 sP) l9 (gv (congrArg (dI .u64) FD)) ?_
 refine nl hK ?_
 refine AW.seq (AW.block ?_)
 obtain⟨cH,hy,h⟩:=ah h
 refine lp (S:=Int×Int) (X:=Int) (fun (ba,iq)=>[(4,.pt 0 0),(5,dI .u64 ba),(6,dI .u64 iq)]) (fun (ba,iq)=>⟨[(0,dC (an.f bu))],[],1⟩) (PE cx (.exit 0) (fun cH=>[(4,.pt 0 0),(5,dI .u64 cH)]) fun cH=>⟨[(0,dC (an.f bu))],[],1⟩) hy ?_ ?_ ?_
 exact wk0 h0 [2]
 clear hy h
 rintro⟨ba,iq⟩ y h
 dsimp only[iY] at h
 refine AW.seq (ra hx ?_)
 refine cdh h rfl (fun FR h=>?_) (fun FR h=>?_)
 refine AW.skip (AW.block (rqd [] hx fun K hK=>?_))
 iterate 3 refine sa ?_
 obtain⟨Cj,h⟩:=az h
 refine s1 (Dg Cj) ?_
 refine nbi hK ?_
 exact pel h h0 [0]
 exact AW.exit (per h h0 [0])
 refine lw0 ?_
 refine rs hx fun K hK=>?_
 iterate 5 refine sa ?_
 refine s1 (d:=dG al_cV (#v[u32.wrap (cH),u32.wrap (mv .u64 cH (32:Int)),0,0,0,0,0,0,0,0,0,0,0,0,0,0])) (mO aH aP) ?_
 refine scb h d7 fun Dz h=>?_
 refine nbi hK ?_
 exact AW.ret (rtv h)
 refine AW.skip ?_
 iterate 2 refine AW.seq ?_
 refine jn (PE cx .normal (fun (_:Unit)=>[(2,.pt 0 0),(4,.pt 1 0),(7,.pt 2 0),(8,.pt 3 0)]) (fun (_:Unit)=>⟨[(0,dC (an.f aS)),(1,dC (an.f bu)),(2,dC (al_cV.f aS.vW)),(3,dC (al_cV.f aU.vW))],[],4⟩) ()) ?_ ?_
 refine dw (DW.split 4 5 (by decide) ?_ ?_)
 refine DW.split 3 6 (by decide) ?_ ?_
 refine dwg [] [0,1,2,3,4,5,6,7] hx (by kernel_rfl) (by kernel_rfl) (by kernel_rfl) fun K hK=>?_
 dsimp only[eJ,nE,nS,List.map]
 iterate 6 refine sbi ?_
 iterate 2 refine tzi ?_
 exact .nil (hK _ _ (pe0 h0 [0,2,3,4]))
 refine dwg [] [0,1,2,4,5,6,3,7] hx (by kernel_rfl) (by kernel_rfl) (by kernel_rfl) fun K hK=>?_
 dsimp only[eJ,nE,nS,List.map]
 iterate 5 refine sbi ?_
 refine tzi ?_
 refine sbi ?_
 refine tzi ?_
 exact .nil (hK _ _ (pe0 h0 [0,2,3,4]))
 refine DW.split 3 6 (by decide) ?_ ?_
 refine dwg [] [0,1,2,3,5,4,6,7] hx (by kernel_rfl) (by kernel_rfl) (by kernel_rfl) fun K hK=>?_
 dsimp only[eJ,nE,nS,List.map]
 iterate 6 refine sbi ?_
 iterate 2 refine tzi ?_
 exact .nil (hK _ _ (pe0 h0 [0,2,4,3]))
 refine dwg [] [0,1,2,5,4,6,3,7] hx (by kernel_rfl) (by kernel_rfl) (by kernel_rfl) fun K hK=>?_
 dsimp only[eJ,nE,nS,List.map]
 iterate 5 refine sbi ?_
 refine tzi ?_
 refine sbi ?_
 refine tzi ?_
 exact .nil (hK _ _ (pe0 h0 [0,2,4,3]))
 refine lw0 ?_
 refine rs hx fun K hK=>?_
 refine sbi ?_
 refine s1 (d:=dG al_cV (#v[(0:Int),0,0,0,0,0,0,0,0,0,0,0,0,0,0,0])) (mO aH aP) ?_
 refine s1 (xG tok 2 (by decide) (EqC.arr (EqC.int (d:=0) aP) aH aP) aH) ?_
 refine nl hK ?_
 refine cdh h rfl (fun hb26 h=>?_) (fun hb26 h=>?_)
 refine rs hx fun K hK=>?_
 refine mbi ?_
 refine scb h sV fun uC h=>?_
 refine nbi hK ?_
 refine rsd [111,93] hx fun K hK=>?_
 refine mbi ?_
 refine cqb h d7 fun uN h=>?_
 refine mbi ?_
 refine cqb h d7 fun IU h=>?_
 refine cqb h ih fun ze h=>?_
 refine nbi hK ?_
 exact AW.ret (rtv h)
 refine AW.skip (rs hx fun K hK=>?_)
 refine mbi ?_
 refine scb h G8 fun M0 h=>?_
 refine nbi hK ?_
 exact AW.ret (rtv h)
def il:Nat→ay→ay→Option ay
 |0=>fun _ _=>none
 |n+1=>db (il n)
theorem wF:∀(n:Nat) {aS:ay} {aU:ay} {r:ay},il n aS aU=some r→aB prog 93 [dG an aS,dG an aU] (dG an r)
 |0,_,_,_,h=>by cases h
 |n+1,_,_,_,h=>DI (wF n) h
def n8(aS:ay)(aU:ay):Option ay:=il 1000 aS aU
theorem uS {aS:ay}{aU:ay}{r:ay}(h:n8 aS aU=some r):aB prog 93 [dG an aS,dG an aU] (dG an r):=wF 1000 h
def lE(aS:ay)(aU:ay):Option (ay×ay):=bnd (S:=Bool) (bnd (dU [aS,aU]) fun x1=>cnd (!x1) (some (true)) (bnd (g9 aU) fun x4=>some (decide (x4=(0:Int))))) fun a7=>cnd a7 (bnd (eN) fun x8=>bnd (eN) fun fb=>some (x8,fb)) (bnd (S:=Unit⊕(ay×ay)) (bnd (lV aS) fun ii=>bnd (S:=Bool) (cnd ii.2 (some (decide (ii.1≠(-9223372036854775808:Int)))) (some (false))) fun eh=>cnd eh (bnd (lV aU) fun ny=>bnd (S:=Bool) (cnd ny.2 (some (decide (ny.1≠(-9223372036854775808:Int)))) (some (false))) fun od=>cnd od (gd (ny.1≠0) (gd (ny.1≠0) (bnd (S:=Int×Int) (bnd (S:=Bool) (cnd (decide ((Int.tmod ii.1 ny.1)≠(0:Int))) (some (!((decide ((Int.tmod ii.1 ny.1)<(0:Int))) == (decide (ny.1<(0:Int)))))) (some (false))) fun rM=>cnd rM (bnd (some (i64.wrap ((i64.wrap (Int.tdiv ii.1 ny.1)) - (1:Int)))) fun uC=>bnd (some (i64.wrap ((Int.tmod ii.1 ny.1)+ny.1))) fun uN=>some ((uC,uN))) (some ((i64.wrap (Int.tdiv ii.1 ny.1),Int.tmod ii.1 ny.1)))) fun (cD,iT)=>bnd (fM cD) fun M1=>bnd (fM iT) fun Nd=>some (.inr (M1,Nd))))) (some (.inl ()))) (some (.inl ()))) fun y36=>match y36 with| .inl ()=>bnd (gi aS.vW aU.vW) fun wz=>bnd (b8 (!(aS.vNeg == aU.vNeg)) wz.1) fun IT=>bnd (S:=(Vector Int 16)×ay) (bnd (S:=Bool) (cnd (decide (¬(wz.2=#v[(0:Int),0,0,0,0,0,0,0,0,0,0,0,0,0,0,0]))) (some (!(aS.vNeg == aU.vNeg))) (some (false))) fun AQ=>cnd AQ (bnd (fM (1:Int)) fun MZ=>bnd (n7 IT MZ) fun G4=>bnd (ik aU.vW wz.2) fun G3=>some ((G3,G4))) (some ((wz.2,IT)))) fun (AS,yM)=>bnd (b8 aU.vNeg AS) fun x51=>some (yM,x51)| .inr r=>some r)
theorem AY {aS:ay}{aU:ay}{r:ay×ay}(h:lE aS aU=some r):aB prog 159 [dG an aS,dG an aU] (.tu [dG an r.1,dG an r.2]):=by
 refine bC (rs:=[.cell 4 32,.cell 5 32]) (fun cx hx h0=>?_) func159
 unfold lE at h
 refine rai hx ?_
 iterate 2 refine AW.seq ?_
 obtain⟨a7,hy,h⟩:=ah h
 refine jn ((PE cx .normal (fun a7=>[(2,.pt 0 0),(3,.pt 1 0),(4,.pt 2 0),(5,.pt 3 0),(24,dB a7)]) fun a7=>⟨[(0,dC (an.f aS)),(1,dC (an.f aU)),(2,dC (an.f bu)),(3,dC (an.f bu))],[],4⟩) a7) ?_ ?_
 replace h:=hy
 refine rq hx fun K hK=>?_
 iterate 2 refine sbi ?_
 refine s1 (qI ([aS,aU]:List ay) an rj qza0) ?_
 refine scb h g6 fun x1 h=>?_
 refine mbi ?_
 rcases cnd_s h with⟨a8,h⟩|⟨a8,h⟩
 refine nbi hK ?_
 exact pe1 h h0 [0,1,2,3]
 refine gbi ?_
 refine gcb h ol fun x4 h=>?_
 refine nbi hK ?_
 exact pe1 h h0 [0,1,2,3]
 refine lw0 ?_
 refine cdh h rfl (fun nh h=>?_) (fun nh h=>?_)
 refine rs hx fun K hK=>?_
 refine scb h ij fun x8 h=>?_
 refine scb h ij fun fb h=>?_
 refine nbi hK ?_
 refine AW.ret ?_
 cases h
 exact rv2
 refine AW.skip (AW.seq ?_)
 obtain⟨y,hy,h⟩:=ah h
 refine jn ((PS (PE cx .normal (fun ()=>[(2,.pt 0 0),(3,.pt 1 0),(4,.pt 2 0),(5,.pt 3 0)]) fun ()=>⟨[(0,dC (an.f aS)),(1,dC (an.f aU)),(2,dC (an.f bu)),(3,dC (an.f bu))],[],4⟩) (PR [.cell 4 32,.cell 5 32] fun r=>.tu [dG an r.1,dG an r.2])) y) ?_ ?_
 replace h:=hy
 refine rs hx fun K hK=>?_
 refine mbi ?_
 refine scb h wD fun ii h=>?_
 refine nbi hK ?_
 refine AW.seq ?_
 obtain⟨eh,hy,h⟩:=ah h
 refine jn ((PE cx .normal (fun eh=>[(2,.pt 0 0),(3,.pt 1 0),(4,.pt 2 0),(5,.pt 3 0),(6,dI .i64 ii.1),(36,dB eh)]) fun eh=>⟨[(0,dC (an.f aS)),(1,dC (an.f aU)),(2,dC (an.f bu)),(3,dC (an.f bu))],[],4⟩) eh) ?_ ?_
 replace h:=hy
 refine rq hx fun K hK=>?_
 refine mbi ?_
 rcases cnd_s h with⟨oH,h⟩|⟨oH,h⟩
 refine nbi hK ?_
 exact pe1 h h0 [0,1,2,3]
 refine nbi hK ?_
 exact pe1 h h0 [0,1,2,3]
 refine lw0 ?_
 refine cdh h rfl (fun FT h=>?_) (fun FT h=>?_)
 refine rs hx fun K hK=>?_
 refine mbi ?_
 refine scb h wD fun ny h=>?_
 refine nbi hK ?_
 refine AW.seq ?_
 obtain⟨od,hy,h⟩:=ah h
 refine jn ((PE cx .normal (fun od=>[(2,.pt 0 0),(3,.pt 1 0),(4,.pt 2 0),(5,.pt 3 0),(6,dI .i64 ii.1),(8,dI .i64 ny.1),(46,dB od)]) fun od=>⟨[(0,dC (an.f aS)),(1,dC (an.f aU)),(2,dC (an.f bu)),(3,dC (an.f bu))],[],4⟩) od) ?_ ?_
 replace h:=hy
 refine rq hx fun K hK=>?_
 refine mbi ?_
 rcases cnd_s h with⟨Co,h⟩|⟨Co,h⟩
 refine nbi hK ?_
 exact pe1 h h0 [0,1,2,3]
 refine nbi hK ?_
 exact pe1 h h0 [0,1,2,3]
 refine lw0 ?_
 refine cdh h rfl (fun FR h=>?_) (fun FR h=>?_)
 refine rsd [] hx fun K hK=>?_
 iterate 2 refine sa ?_
 obtain⟨Cj,h⟩:=az h
 refine s1 (E4 Cj) ?_
 iterate 2 refine sa ?_
 obtain⟨hc23,h⟩:=az h
 refine s1 (Dg hc23) ?_
 refine nbi hK ?_
 refine AW.seq ?_
 obtain⟨y,hy,h⟩:=ah h
 refine jn ((PE cx .normal (fun (cD,iT)=>[(4,.pt 0 0),(5,.pt 1 0),(10,dI .i64 cD),(11,dI .i64 iT)]) fun (cD,iT)=>⟨[(0,dC (an.f bu)),(1,dC (an.f bu))],[],2⟩) y) ?_ ?_
 replace h:=hy
 refine AW.seq ?_
 obtain⟨rM,hy,h⟩:=ah h
 refine jn ((PE cx .normal (fun rM=>[(4,.pt 0 0),(5,.pt 1 0),(8,dI .i64 ny.1),(10,dI .i64 (i64.wrap (Int.tdiv ii.1 ny.1))),(11,dI .i64 (Int.tmod ii.1 ny.1)),(61,dB rM)]) fun rM=>⟨[(0,dC (an.f bu)),(1,dC (an.f bu))],[],2⟩) rM) ?_ ?_
 replace h:=hy
 refine rq hx fun K hK=>?_
 refine mbi ?_
 rcases cnd_s h with⟨z4,h⟩|⟨z4,h⟩
 refine nbi hK ?_
 exact pe1 h h0 [2,3]
 refine nbi hK ?_
 exact pe1 h h0 [2,3]
 refine lw0 ?_
 refine cdh h rfl (fun hb26 h=>?_) (fun hb26 h=>?_)
 refine rq hx fun K hK=>?_
 iterate 5 refine sa ?_
 obtain⟨uC,FC,h⟩:=ah h
 replace FC:=cP FC
 refine s2 (d2:=dI .i64 uC) l9 (gv (congrArg (dI .i64) FC)) ?_
 obtain⟨uN,hx30,h⟩:=ah h
 replace hx30:=cP hx30
 refine s2 (d2:=dI .i64 uN) l9 (gv (congrArg (dI .i64) hx30)) ?_
 refine nl hK ?_
 exact pe1 h h0 [0,1]
 exact AW.skip (pe1 h h0 [0,1])
 obtain⟨cD,iT⟩:=y
 refine lw0 ?_
 refine rs hx fun K hK=>?_
 refine sa ?_
 refine scb h nO fun M1 h=>?_
 refine sa ?_
 refine scb h nO fun Nd h=>?_
 refine nbi hK ?_
 refine AW.ret ?_
 cases h
 refine PS.r (PR.i ?_)
 exact rv2
 exact AW.skip (pel h h0 [0,1,2,3])
 exact AW.skip (pel h h0 [0,1,2,3])
 rcases y with⟨⟩|r
 rintro ex tm' hp' ⟨rfl,hw⟩
 refine AW.weak hw (rs hx fun K hK=>?_)
 refine mbi ?_
 refine scb h sV fun wz h=>?_
 refine nbi hK ?_
 refine rs hx fun K hK=>?_
 refine mbi ?_
 refine scb h d7 fun IT h=>?_
 refine nbi hK ?_
 refine AW.seq ?_
 obtain⟨y,hy,h⟩:=ah h
 refine jn ((PE cx .normal (fun (AS,yM)=>[(3,.pt 0 0),(4,.pt 1 0),(5,.pt 2 0),(13,.pt 3 0),(14,.pt 4 0)]) fun (AS,yM)=>⟨[(0,dC (an.f aU)),(1,dC (an.f bu)),(2,dC (an.f bu)),(3,dC (al_cV.f AS)),(4,dC (an.f yM))],[],5⟩) y) ?_ ?_
 replace h:=hy
 refine AW.seq ?_
 obtain⟨AQ,hy,h⟩:=ah h
 refine jn ((PE cx .normal (fun AQ=>[(3,.pt 0 0),(4,.pt 1 0),(5,.pt 2 0),(13,.pt 3 0),(14,.pt 4 0),(95,dB AQ)]) fun AQ=>⟨[(0,dC (an.f aU)),(1,dC (an.f bu)),(2,dC (an.f bu)),(3,dC (al_cV.f wz.2)),(4,dC (an.f IT))],[],5⟩) AQ) ?_ ?_
 replace h:=hy
 refine rq hx fun K hK=>?_
 refine sbi ?_
 refine s1 (d:=dG al_cV (#v[(0:Int),0,0,0,0,0,0,0,0,0,0,0,0,0,0,0])) (mO aH aP) ?_
 refine s1 (xG tok 2 (by decide) (EqC.arr (EqC.int (d:=0) aP) aH aP) aH) ?_
 refine sa ?_
 rcases cnd_s h with⟨tW,h⟩|⟨tW,h⟩
 refine nbi hK ?_
 exact pe1 h h0 [1,2,3,5,6]
 refine nbi hK ?_
 exact pe1 h h0 [1,2,3,5,6]
 refine lw0 ?_
 refine cdh h rfl (fun FP h=>?_) (fun FP h=>?_)
 refine rqd [105,177,162] hx fun K hK=>?_
 refine mbi ?_
 refine cqb h nO fun MZ h=>?_
 refine cqb h G7 fun G4 h=>?_
 refine mbi ?_
 refine cqb h sC fun G3 h=>?_
 refine nbi hK ?_
 exact pe1 h h0 [0,1,2,3,4]
 exact AW.skip (pe1 h h0 [0,1,2,3,4])
 obtain⟨AS,yM⟩:=y
 refine lw0 ?_
 refine rsd [111] hx fun K hK=>?_
 refine mbi ?_
 refine cqb h d7 fun x51 h=>?_
 refine nbi hK ?_
 refine AW.ret ?_
 cases h
 exact rv2
 rintro ex tm' hp' ⟨rfl,hw⟩
 cases h
 exact hw
def kI(aS:ay)(aU:ay):Option ay:=bnd (lE aS aU) fun x1=>some x1.1
theorem n3 {aS:ay}{aU:ay}{r:ay}(h:kI aS aU=some r):aB prog 126 [dG an aS,dG an aU] (dG an r):=by
 refine bC (rs:=[.cell 4 32]) (fun cx hx h0=>?_) func126
 unfold kI at h
 refine rai hx ?_
 refine rs hx fun K hK=>?_
 refine mbi ?_
 refine scb h AY fun x1 h=>?_
 refine nbi hK ?_
 refine rai hx ?_
 exact AW.ret (rtv h)
section
theorem vsub {b n A:Nat}(m o:Nat)(h:o+m≤n):vOf m (List.take m (List.drop o (vN b n A).toList))=vN b m (A / b ^ o):=by
 have hl:(List.take m (List.drop o (vN b n A).toList)).length=m:=by
  rw[ff,gY,rG];omega
 apply oz
 intro j hj
 rw[jB hj]
 have e1:=ye (vOf m (List.take m (List.drop o (vN b n A).toList))) hj
 rw[xf hl] at e1
 rw[←e1,iR _ j (by omega),List.getElem_take,List.getElem_drop]
 have e2:=jB (b:=b) (A:=A) (j:=o+j) (n:=n) (by omega)
 rw[←ye (vN b n A) (by omega),iR _ (o+j) (by rw[rG];omega)] at e2
 rw[e2]
 unfold dg
 rw[lO,lN]
section
variable {b R a B i k:Nat}
def rO(b R a B i k:Nat):Nat:=R % b ^ (i+k)+a*(B % b ^ k)*b ^ i
def xL(b R a B i k:Nat):Nat:=R / b ^ (i+k)*b ^ (i+k)+rO b R a B i k % b ^ (i+k)
theorem E5:rO b R a B i (k+1)=rO b R a B i k+b ^ (i+k)*(dg b R (i+k)+a*dg b B k):=by
 unfold rO
 rw[show i+(k+1)=i+k+1 from rfl,gS,gS (A:=B),yE,yE,cO,lO b i k]
 have:a*(b ^ k*dg b B k)*b ^ i=b ^ i*b ^ k*(a*dg b B k):=by
  simp only[jx,ET,cY]
 rw[this];omega
theorem LK(hb:0<b)(ha:a<b):rO b R a B i k / b ^ (i+k)<b:=by
 have hp:0<b ^ (i+k):=dP hb
 rw[pz hp]
 unfold rO
 have h1:=ey R hp
 have h2:a*(B % b ^ k)*b ^ i≤(b - 1)*b ^ (i+k):=by
  rw[lO,jx]
  refine iS (by omega) ?_
  rw[cY (b ^ i)]
  exact c6 _ (oW (ey _ (dP hb)))
 have h3:(b - 1)*b ^ (i+k)+b ^ (i+k)=b*b ^ (i+k):=by
  rw[←qu];congr 1;omega
 omega
theorem Orow_dg(hb:0<b):dg b (xL b R a B i k) (i+k)=dg b R (i+k):=by
 unfold xL dg
 rw[cY (R / _),CJ (dP hb),gD (ey _ (dP hb)),mi]
theorem MU(hb:0<b):up1 b (xL b R a B i k) (i+k) (rO b R a B i (k+1) / b ^ (i+k) % b)=xL b R a B i (k+1):=by
 have hp:0<b ^ (i+k):=dP hb
 have e1:xL b R a B i k / b ^ (i+k+1)=R / b ^ (i+k+1):=by
  rw[fe,←lN,←lN]
  congr 1
  unfold xL
  rw[cY (R / _),CJ hp,gD (ey _ hp),mi]
 have e2:xL b R a B i k % b ^ (i+k)=rO b R a B i (k+1) % b ^ (i+k):=by
  rw[E5,ES]
  unfold xL
  rw[cY (R / _),Nat.mul_add_mod,ER]
 unfold up1
 rw[e1,e2]
 show _=R / b ^ (i+k+1)*b ^ (i+k+1)+rO b R a B i (k+1) % b ^ (i+k+1)
 rw[gS (A:=rO b R a B i (k+1)),cY (b ^ (i+k)) (dg _ _ _)]
 unfold dg
 omega
end
theorem Mul_row {A B i m:Nat}(hi:i<16)(hm:m≤16)(hB:B<4294967296 ^ m)(x y:ay)(hx:x.vW=W A)(hy:y.vW=W B):
  ∃c:Nat,c<4294967296∧∃O:Nat,bf (iW x y (m:Int) (i:Int)) ((0:Int),(0:Int),vN 4294967296 32 (A % 4294967296 ^ i*B))=some ((c:Int),vN 4294967296 32 O)∧up1 4294967296 O (i+m) c=A % 4294967296 ^ (i+1)*B:=by
 have hb:0<(4294967296:Nat):=by decide
 have hR:A % 4294967296 ^ i*B<4294967296 ^ (i+m):=by
  rw[lO]
  exact Nat.mul_lt_mul_of_lt_of_le (ey _ (dP hb)) (oW hB) (dP hb)
 generalize hRR:A % 4294967296 ^ i*B=R at hR ⊢
 have ha:=@dgl A i
 have hl:=rr (b:=iW x y (m:Int) (i:Int)) (s0:=((0:Int),(0:Int),vN 4294967296 32 R)) (fun k=>((rO 4294967296 R (dg 4294967296 A i) B i k / 4294967296 ^ (i+k):Nat),(k:Int),vN 4294967296 32 (xL 4294967296 R (dg 4294967296 A i) B i k))) m ((rO 4294967296 R (dg 4294967296 A i) B i m / 4294967296 ^ (i+m):Nat),vN 4294967296 32 (xL 4294967296 R (dg 4294967296 A i) B i m))
  (by
   have e1:rO 4294967296 R (dg 4294967296 A i) B i 0=R % 4294967296 ^ i:=by unfold rO;simp[qN]
   have e2:xL 4294967296 R (dg 4294967296 A i) B i 0=R:=by
    unfold xL;rw[e1,mi,ER,cY];exact oV _ _
   rw[e1,e2,mi,gD (ey _ (dP hb))]
   rfl)
  (fun k hk=>by
   have hk16:k<16:=by omega
   have hc:=LK (b:=4294967296) (R:=R) (a:=dg 4294967296 A i) (B:=B) (i:=i) (k:=k) hb ha
   have hbk:=@dgl B k
   have hr:=@dgl R (i+k)
   have Lf:dg 4294967296 A i*dg 4294967296 B k≤4294967295*4294967295:=iS (by omega) (by omega)
   have DZ:rO 4294967296 R (dg 4294967296 A i) B i (k+1) / 4294967296 ^ (i+k)=rO 4294967296 R (dg 4294967296 A i) B i k / 4294967296 ^ (i+k)+(dg 4294967296 A i*dg 4294967296 B k+dg 4294967296 R (i+k)):=by
    rw[E5,CI _ _ (dP hb),qr (dg 4294967296 R (i+k))]
   have zV:rO 4294967296 R (dg 4294967296 A i) B i (k+1) / 4294967296 ^ (i+(k+1))=rO 4294967296 R (dg 4294967296 A i) B i (k+1) / 4294967296 ^ (i+k) / 4294967296:=by
    rw[lN,←fe];rfl
   have sR:=MU (b:=4294967296) (R:=R) (a:=dg 4294967296 A i) (B:=B) (i:=i) (k:=k) hb
   rw[zV]
   generalize rO 4294967296 R (dg 4294967296 A i) B i (k+1) / 4294967296 ^ (i+k)=x1 at DZ sR ⊢
   generalize rO 4294967296 R (dg 4294967296 A i) B i k / 4294967296 ^ (i+k)=c at DZ hc ⊢
   have eik:i64.wrap ((i:Int)+(k:Int))=((i+k:Nat):Int):=by rw[cG];omega
   dsimp only[iW]
   rw[bF _ _,aI,aI,eik,aI,ab,aI,ab,bh,bh,bh,hx,hy,gN hi,gN hk16,jB (by omega),Orow_dg hb,
    iu (n:=dg 4294967296 A i) (by omega),iu (n:=dg 4294967296 B k) (by omega),iu (n:=dg 4294967296 R (i+k)) (by omega),←qq,iu (n:=dg 4294967296 A i*dg 4294967296 B k) (by omega),←oc,iu,←oc,iu,←DZ,wM,zx,zt hb (ey _ hb) (by omega),sR,cG]
   rfl)
  (by
   dsimp only[iW]
   rw[bA _ _])
 refine⟨_,LK hb ha,_,hl,?_⟩
 have e1:rO 4294967296 R (dg 4294967296 A i) B i m=R+dg 4294967296 A i*B*4294967296 ^ i:=by
  unfold rO;rw[gL hR,gL hB]
 have e2:xL 4294967296 R (dg 4294967296 A i) B i m=rO 4294967296 R (dg 4294967296 A i) B i m % 4294967296 ^ (i+m):=by
  unfold xL;rw[gD hR,gb,dA]
 have hO:xL 4294967296 R (dg 4294967296 A i) B i m<4294967296 ^ (i+m):=by rw[e2];exact ey _ (dP hb)
 unfold up1
 rw[gD (cm hO (na hb (gM _))),gb,dA,gL hO,e2,cY (_ / _),oV,e1,←hRR,gS (A:=A),cO]
 congr 1
 simp only[jx,ET,cY]
theorem QA {A B n m:Nat}(hn:n≤16)(hm:m≤16)(hA:A<4294967296 ^ n)(hB:B<4294967296 ^ m)(x y:ay)(hx:x.vW=W A)(hy:y.vW=W B):
  bf (iX x y (n:Int) (m:Int)) ((0:Int),Vector.replicate 32 (0:Int))=some (vN 4294967296 32 (A*B)):=by
 have hb:0<(4294967296:Nat):=by decide
 have hl:=rr (b:=iX x y (n:Int) (m:Int)) (s0:=((0:Int),Vector.replicate 32 (0:Int))) (fun i=>((i:Int),vN 4294967296 32 (A % 4294967296 ^ i*B))) n (vN 4294967296 32 (A % 4294967296 ^ n*B))
  (by simp only[kz,qN,gb,rY];rfl)
  (fun i hi=>by
   obtain⟨c,hc,O,h1,h2⟩:=Mul_row (i:=i) (by omega) hm hB x y hx hy
   have eim:i64.wrap ((i:Int)+(m:Int))=((i+m:Nat):Int):=by rw[cG];omega
   dsimp only[iX]
   rw[bF _ _,h1,ab]
   dsimp only
   rw[eim,aI,ab,bh,zw hc,zt hb hc (by omega),h2,cG]
   rfl)
  (by
   dsimp only[iX]
   rw[bA _ _])
 rw[hl,gL hA]
theorem IP {a c:Int}(ha:a.natAbs<LIM)(hc:c.natAbs<LIM):ja (enc a) (enc c)=some (enc (a*c)):=by
 obtain⟨n,hn,hn1,H5⟩:=Aq ha
 obtain⟨m,hm,Mt,hm2⟩:=Aq hc
 have Lf:a.natAbs*c.natAbs<4294967296 ^ 16*4294967296 ^ 16:=CH ha hc
 unfold ja
 rw[ui,bD ha,bD hc,ab]
 simp only[ck,fc,a9]
 rw[m9 ha,m9 hc,hn1,ab,Mt,ab,QA hn hm H5.1 hm2.1 (enc a) (enc c) (m9 ha) (m9 hc),ab,vsub 16 16 (by omega),vsub 16 0 (by omega),z16,iL ha,iL hc,kz,rF]
 have hq:a.natAbs*c.natAbs / 4294967296 ^ 16<LIM:=C6 Lf
 have hz:(vN 4294967296 16 (a.natAbs*c.natAbs / 4294967296 ^ 16)=W 0)↔a.natAbs*c.natAbs<LIM:=by
  rw[Df hq wq,GD (by decide)];rfl
 simp only[hz]
 by_cases h:a.natAbs*c.natAbs<LIM
 ·rw[bA _ _ (by simpa using h),jz h,ab]
  congr 2
  rcases Int.natAbs_eq a with e1|e1 <;> rcases Int.natAbs_eq c with e2|e2 <;> skip
  all_goals
   by_cases ha0:a<0 <;> by_cases hc0:c<0 <;> simp only[ha0,hc0,o0,oZ,vA,fc,pU,ig,cond_false,Bool.true_beq,Bool.false_beq,qq]
  all_goals (first|(exfalso;omega)|(have ea:(a.natAbs:Int)=a:=(by omega);have ec:(c.natAbs:Int)=c:=(by omega);rw[ea,ec])|(have ea:(a.natAbs:Int)=-a:=(by omega);have ec:(c.natAbs:Int)=c:=(by omega);rw[ea,ec,C5,Int.neg_neg])|(have ea:(a.natAbs:Int)=a:=(by omega);have ec:(c.natAbs:Int)=-c:=(by omega);rw[ea,ec,An,Int.neg_neg])|(have ea:(a.natAbs:Int)=-a:=(by omega);have ec:(c.natAbs:Int)=-c:=(by omega);rw[ea,ec,GC])|skip)
 ·rw[bF _ _ (by simpa using h),LW,ab,Cu (by rw[vz];exact h)]
end
theorem set16(x y:Int):(#v[x,y,0,0,0,0,0,0,0,0,0,0,0,0,0,0]:Vector Int 16)=((W 0).set! 0 x).set! 1 y:=by
 rw[←z16];rfl
theorem Qi {u:Nat}(hu:u<18446744073709551616):(#v[((u % 4294967296:Nat):Int),((u / 4294967296:Nat):Int),0,0,0,0,0,0,0,0,0,0,0,0,0,0]:Vector Int 16)=W u:=by
 have hb:0<(4294967296:Nat):=by decide
 have hx:u % 4294967296<4294967296:=ey _ hb
 have hy:u / 4294967296<4294967296:=by omega
 rw[set16]
 unfold W
 rw[zt hb hx (by omega)]
 have e1:up1 4294967296 0 0 (u % 4294967296)=u % 4294967296:=by
  have:=I7 (b:=4294967296) (A:=0) (p:=0) (x:=u % 4294967296)
  rw[mh (by decide)] at this
  omega
 have h:=I7 (b:=4294967296) (A:=u % 4294967296) (p:=1) (x:=u / 4294967296)
 rw[mh (by rw[vy];exact hx),vy,gb,mi,Nat.mod_add_div'] at h
 rw[e1,zt hb hy (by omega),h]
theorem GR {n:Int}(h1:-9223372036854775808≤n)(h2:n≤9223372036854775807):fM n=some (enc n):=by
 have hu:n.natAbs<18446744073709551616:=by omega
 have hL:n.natAbs<LIM:=cm hu (by decide)
 have hc:cnd (decide (n<(0:Int))) (some (u64.wrap (0 - (u64.wrap n)))) (some (u64.wrap n))=some ((n.natAbs:Nat):Int):=by
  rw[fU]
  split
  ·congr 1;rw[IntKind.wrap_u64,IntKind.wrap_u64];omega
  ·congr 1;rw[IntKind.wrap_u64];omega
 unfold fM
 rw[hc,ab,zx,wM,zw,Qi hu,jz hL,ab]
 congr 2
 by_cases h:n<0
 ·simp only[h,o0,ig];omega
 ·simp only[h,oZ,cond_false];omega
theorem xh {x k l:Nat}(hx:2 ^ k≤x)(h:szp 2 (x / 2 ^ k) l):szp 2 x (l+k):=by
 have hp:0<2 ^ k:=dP (by decide)
 have h0:0<x / 2 ^ k:=C4 hx hp
 have hl:0<l:=by
  rcases kN l with h1|h1
  ·subst h1;have:=h.1;simp at this;omega
  ·exact h1
 refine⟨?_,fun _=>?_⟩
 ·rw[lO];exact (pz hp).1 h.1
 ·have:=h.2 hl
  rw[show l+k - 1=(l - 1)+k from by omega,lO]
  exact (pT hp).1 this
def HS:ByteArray:=⟨#[0,1,2,2,3,3,3,3,4,4,4,4,4,4,4,4,5,5,5,5,5,5,5,5,5,5,5,5,5,5,5,5,6,6,6,6,6,6,6,6,6,6,6,6,6,6,6,6,6,6,6,6,6,6,6,6,6,6,6,6,6,6,6,6,7,7,7,7,7,7,7,7,7,7,7,7,7,7,7,7,7,7,7,7,7,7,7,7,7,7,7,7,7,7,7,7,7,7,7,7,7,7,7,7,7,7,7,7,7,7,7,7,7,7,7,7,7,7,7,7,7,7,7,7,7,7,7,7,8,8,8,8,8,8,8,8,8,8,8,8,8,8,8,8,8,8,8,8,8,8,8,8,8,8,8,8,8,8,8,8,8,8,8,8,8,8,8,8,8,8,8,8,8,8,8,8,8,8,8,8,8,8,8,8,8,8,8,8,8,8,8,8,8,8,8,8,8,8,8,8,8,8,8,8,8,8,8,8,8,8,8,8,8,8,8,8,8,8,8,8,8,8,8,8,8,8,8,8,8,8,8,8,8,8,8,8,8,8,8,8,8,8,8,8,8,8,8,8,8,8,8,8,8,8,8,8]⟩
theorem EG:∀y:Nat,y<256→(HS.data.toList.getD y 0).toNat≤8∧y<2 ^ (HS.data.toList.getD y 0).toNat∧(0<(HS.data.toList.getD y 0).toNat→2 ^ ((HS.data.toList.getD y 0).toNat - 1)≤y):=by decide +kernel
theorem Mj:HS.size=256:=by decide +kernel
theorem len_tab(y:Nat)(hy:y<256):∃l:Nat,sAt HS y=(l:Int)∧l≤8∧szp 2 y l:=
 ⟨_,rfl,(EG y hy).1,(EG y hy).2⟩
theorem QB(x:Int):m5 x=bnd (S:=Int×Int) (cnd (decide ((65536:Int)≤x)) (some ((mv .u32 x (16:Int),(16:Int)))) (some ((x,(0:Int))))) fun (gF,GG)=>bnd (S:=Int×Int) (cnd (decide ((256:Int)≤gF)) (some ((mv .u32 gF (8:Int),i64.wrap (GG+(8:Int))))) (some ((gF,GG)))) fun (lP,De)=>gd (0≤u8.wrap (lP)∧u8.wrap (lP)<(HS.size:Int)) (bnd (some (i64.wrap (De+(i64.wrap (sAt HS (u8.wrap (lP)).toNat))))) fun x6=>some x6):=rfl
theorem u8n {n:Nat}(h:n<256):u8.wrap (n:Int)=(n:Int):=by
 rw[IntKind.wrap_u8];omega
theorem LU {x:Nat}(hx:x<4294967296):∃l:Nat,m5 (x:Int)=some (l:Int)∧l≤32∧szp 2 x l:=by
 have h16:∃(y n:Nat),cnd (decide ((65536:Int)≤(x:Int))) (some ((mv .u32 (x:Int) (16:Int),(16:Int)))) (some (((x:Int),(0:Int))))=some ((y:Int),(n:Int))∧y<65536∧n≤16∧∀l,szp 2 y l→szp 2 x (l+n):=by
  rw[fU]
  split
  ·rename_i h
   exact⟨x / 2 ^ 16,16,by rw[show (16:Int)=((16:Nat):Int) from rfl,zR .u32 x 16 (by decide)],by omega,by omega,fun l hl=>xh (by omega) hl⟩
  ·exact⟨x,0,rfl,by omega,by omega,fun l hl=>hl⟩
 obtain⟨y,n,e1,hy,hn,hs⟩:=h16
 have h8:∃(z m:Nat),cnd (decide ((256:Int)≤(y:Int))) (some ((mv .u32 (y:Int) (8:Int),i64.wrap ((n:Int)+(8:Int))))) (some (((y:Int),(n:Int))))=some ((z:Int),(m:Int))∧z<256∧m≤24∧∀l,szp 2 z l→szp 2 x (l+m):=by
  rw[fU]
  split
  ·rename_i h
   refine⟨y / 2 ^ 8,n+8,?_,by omega,by omega,fun l hl=>?_⟩
   ·rw[show (8:Int)=((8:Nat):Int) from rfl,zR .u32 y 8 (by decide),cG];rfl
   ·rw[show l+(n+8)=(l+8)+n from by omega]
    exact hs _ (xh (by omega) hl)
  ·exact⟨y,n,rfl,by omega,by omega,hs⟩
 obtain⟨z,m,e2,hz,hm,JC⟩:=h8
 obtain⟨l,EI,A7,Mu⟩:=len_tab z hz
 refine⟨l+m,?_,by omega,JC l Mu⟩
 rw[QB,e1,ab]
 dsimp only
 rw[e2,ab]
 dsimp only
 rw[u8n hz,Mj,aI,bh,EI,cG (z:=(l:Int)) (by omega),cG,ab]
 congr 1
 omega
theorem G_Lead {x:Nat}(hx:x<4294967296):∃l:Nat,gh (x:Int)=some (((32 - l:Nat)):Int)∧l≤32∧szp 2 x l:=by
 obtain⟨l,h1,h2,h3⟩:=LU hx
 refine⟨l,?_,h2,h3⟩
 unfold gh
 rw[h1,ab,cG]
 congr 1
 omega
theorem G_Bits {a:Int}(ha:a.natAbs<LIM):∃l:Nat,l≤512∧oK (enc a)=some (l:Int)∧szp 2 a.natAbs l:=by
 obtain⟨n,hn,h1,h2⟩:=Aq ha
 unfold oK
 rw[m9 ha,h1,ab,qza7,bD ha,ab,fc,a9,ab]
 cases n with
 |zero=>
  refine⟨0,by omega,?_,?_⟩
  ·rw[bF _ _];rfl
  ·have:=h2.1
   exact⟨by simpa using this,fun h=>by omega⟩
 |succ k=>
  have hk:k<16:=by omega
  rw[bA _ _,show i64.wrap (((k+1:Nat):Int) - 1)=(k:Int) from by rw[cG];omega,aI,bh,gN hk]
  obtain⟨l,h3,h4,h5⟩:=LU (x:=dg 4294967296 a.natAbs k) dgl
  have hd:dg 4294967296 a.natAbs k=a.natAbs / 2 ^ (32*k):=by
   unfold dg
   have e:(4294967296:Nat) ^ k=2 ^ (32*k):=by rw[Am]
   rw[←e,gL]
   rw[pz (dP (by decide)),cY,←fe];exact h2.1
  have A8:2 ^ (32*k)≤a.natAbs:=by
   have:=h2.2 (by omega)
   rw[Al] at this
   rwa[Am]
  refine⟨l+32*k,by omega,?_,?_⟩
  ·rw[h3,ab,show i64.wrap ((32:Int)*(k:Int))=((32*k:Nat):Int) from by rw[cG];omega,cG]
   congr 1;omega
  ·rw[hd] at h5;exact xh A8 h5
theorem Oj {A:Nat}(hA:A<18446744073709551616):ior .u64 (xm .u64 (u64.wrap ((W A)[((1:Int)).toNat]!)) (32:Int)) (u64.wrap ((W A)[((0:Int)).toNat]!))=(A:Int):=by
 have e1:(W A)[((1:Int)).toNat]! =(dg 4294967296 A 1:Int):=gN (by decide)
 have e0:(W A)[((0:Int)).toNat]! =(dg 4294967296 A 0:Int):=gN (by decide)
 have h1:=@dgl A 1
 have h0:=@dgl A 0
 rw[e1,e0,iu,iu,Hw h1,HU h0 h1]
 have e:dg 4294967296 A 1*4294967296+dg 4294967296 A 0=A:=by
  unfold dg
  rw[vy,kz,rF]
  omega
 rw[e]
theorem LS {a:Int}(ha:a.natAbs<LIM):lV (enc a)=some (if -9223372036854775808≤a∧a<9223372036854775808 then (a,true) else (0,false)):=by
 obtain⟨l,hl,h1,h2⟩:=G_Bits ha
 have e64:(2:Nat) ^ 64=18446744073709551616:=by decide
 have hl64:64<l↔¬a.natAbs<18446744073709551616:=by
  constructor
  ·intro h h3
   have:=I9 (b:=2) (by decide) h2 (k:=64) (by rw[e64];exact h3)
   omega
  ·intro h
   rcases cc 64 l with h3|h3
   ·exact h3
   ·have h4:=h2.1
    have h5:2 ^ l≤2 ^ 64:=na (by decide) h3
    rw[e64] at h5
    exact absurd (cm h4 h5) h
 unfold lV
 rw[qza7,bD ha,ab,fc,a9,h1,ab,ab]
 by_cases h:a.natAbs<18446744073709551616
 ·rw[bA _ _ (by have:=mt hl64.1 (fun hh=>hh h);omega),ab,m9 ha,Oj h,iL ha]
  by_cases hn:a<0
  ·simp only[hn,o0,ew,fc,a9,ab]
   by_cases h3:a.natAbs≤9223372036854775808
   ·rw[bF _ _,ifp_,show (0:Int) - (a.natAbs:Int)=a from by omega,IntKind.wrap_u64]
    rw[show i64.wrap (a % 18446744073709551616)=a from by rw[IntKind.wrap_i64];omega]
   ·rw[bA _ _,ifn_]
  ·rw[gX hn,a9,ab,a9,pU,ew,ab]
   have ea:(a.natAbs:Int)=a:=by omega
   rw[ea]
   by_cases h3:a<9223372036854775808
   ·rw[bF _ _ h3,aQ ⟨by omega,h3⟩,cG ⟨by omega,by omega⟩]
   ·rw[bA _ _ h3,aV (fun hh=>h3 hh.2)]
 ·rw[bF _ _ (by have:=hl64.2 h;omega),ifn_]
def vF(n:Nat)(f:Nat→Nat):Vector Int n:=Vector.ofFn fun i=>(f i.val:Int)
theorem u4 {n j:Nat}{f:Nat→Nat}(h:j<n):(vF n f)[j]! =(f j:Int):=by
 rw[iR (vF n f) j h]
 unfold vF
 rw[KF]
theorem Np {n:Nat}{f g:Nat→Nat}(h:∀j,j<n→f j=g j):vF n f=vF n g:=by
 apply oz
 intro j hj
 rw[u4 hj,u4 hj,h j hj]
theorem vF_set {n p x:Nat}{f:Nat→Nat}:(vF n f).set! p (x:Int)=vF n (fun j=>if j=p then x else f j):=by
 apply oz
 intro j hj
 rw[qg hj,u4 hj,u4 hj]
 split <;> rfl
theorem vF_dg {b n A:Nat}:vF n (dg b A)=vN b n A:=rfl
theorem FY {X V n d:Nat}(hn:2≤n)(hV:2147483648*4294967296 ^ (n - 1)≤V)(hX:X<V*4294967296)
  (Cg:min (X / 4294967296 ^ (n - 2) / (V / 4294967296 ^ (n - 2))) 4294967295≤d) (IY:d*(V / 4294967296 ^ (n - 2))≤X / 4294967296 ^ (n - 2)):X / V≤d∧d≤X / V+1:=by
 have hp:0<4294967296 ^ (n - 2):=dP (by decide)
 have e1:(4294967296:Nat) ^ (n - 1)=4294967296 ^ (n - 2)*4294967296:=by rw[←fe];congr 1;omega
 rw[e1] at hV
 generalize 4294967296 ^ (n - 2)=P at*
 have FV:0<V:=cm (sr (by decide) (sr hp (by decide))) hV
 have hv2:2147483648*4294967296≤V / P:=by
  rw[pT hp]
  calc 2147483648*4294967296*P=2147483648*(P*4294967296):=by rw[jx,cY 4294967296 P]
   _≤V:=hV
 have hv20:0<V / P:=by omega
 have hVP:=oV V P
 have hVm:=ey V hp
 have hXP:=oV X P
 have hXm:=ey X hp
 have hq1:X / V≤X / P / (V / P):=by
  rw[lN]
  refine Nat.div_le_div_left ?_ (sr hp hv20)
  omega
 have hq2:X / V<4294967296:=(pz FV).2 (by rw[cY];exact hX)
 refine⟨by omega,?_⟩
 -- d V is not much more than X
 have M6:d*(V / P)*P≤X:=by
  have:=c6 P IY
  rw[cY (X / P)] at this
  omega
 have hXP2:X / P<(V / P+1)*4294967296:=by
  rw[pz hp]
  have h1:V<(V / P+1)*P:=by rw[cO,fm,cY (V / P)];omega
  calc X<V*4294967296:=hX
   _≤(V / P+1)*P*4294967296:=c6 _ (oW h1)
   _=(V / P+1)*4294967296*P:=by rw[jx,cY P,←jx]
 have hdb:d≤4294967296:=by
  rcases cc 4294967296 d with h|h
  ·have:4294967297*(V / P)≤d*(V / P):=c6 _ h
   omega
  ·exact h
 have h2:d*(V % P)≤4294967296*P:=iS hdb (oW hVm)
 have h3:d*V=d*(V / P)*P+d*(V % P):=by
  conv=>lhs;rw[←hVP]
  rw[yE,cY P,jx]
 have h4:d*V≤X+V:=by
  rw[h3]
  have h6:4294967296*P≤V:=by
   refine da ?_ hV
   rw[cY P,←jx]
   exact c6 _ (by decide)
  exact Nat.add_le_add M6 (da h2 h6)
 rcases kN d with h0|h0
 ·rw[h0];exact fH _
 ·have h5:(d - 1)*V≤X:=by rw[Nat.sub_mul,fm];omega
  have:=(pT FV).2 h5
  omega
theorem gA1 {y r u z:Nat}(h:r*4294967296+u<z):(y+r)*4294967296+u<y*4294967296+z:=by
 rw[cO,nq];exact vw h _
theorem gA2 {y r u z:Nat}(h:z≤r*4294967296+u):y*4294967296+z≤(y+r)*4294967296+u:=by
 rw[cO,nq];exact Nat.add_le_add_left h _
theorem gA3 {y r u z:Nat}(h:4294967296≤r)(hz:z≤4294967295*4294967295):y*4294967296+z≤(y+r)*4294967296+u:=by
 have h1:z≤r*4294967296:=da hz (da (iS (by decide) (by decide)) (c6 _ h))
 rw[cO,nq]
 exact Nat.add_le_add_left (da h1 (pS _ _)) _
theorem pq {n:Nat}(h:n≤34359738368:=by omega):n<18446744073709551616:=by omega
theorem lt64p {n:Nat}(h:n≤4294967295*4294967295):n<18446744073709551616:=by omega
theorem guessB {d r f x0 x1:Nat}(h:d*f+r=x0*4294967296+x1)(hf:2147483648≤f)(h0:x0<4294967296)(h1:x1<4294967296):d≤8589934592:=by
 have:=ud d hf
 omega
theorem guessT {x0 x1 f:Nat}(h0:x0<4294967296)(h1:x1<4294967296):(x0*4294967296+x1) / f<18446744073709551616:=
 qza1 (pR _ _) (by omega)
theorem G_guess {U V n j:Nat}(hn:2≤n)(tf:n≤16)(hj:j+n≤16)(hV:2147483648*4294967296 ^ (n - 1)≤V)(I0:V<4294967296 ^ n)(hU:U / 4294967296 ^ j<V*4294967296):
  ∃d:Nat,d<4294967296∧iV (W V) (n:Int) (j:Int) (vN 4294967296 17 U)=some (d:Int)∧U / 4294967296 ^ j / V≤d∧d≤U / 4294967296 ^ j / V+1:=by
 have hb:0<(4294967296:Nat):=by decide
 generalize hX:U / 4294967296 ^ j=X at hU
 -- the digits that it looks at
 have du:∀i,dg 4294967296 U (j+i)=dg 4294967296 X i:=fun i=>by
  unfold dg;rw[←hX,lN,←lO]
 have hXlt:X<4294967296 ^ (n+1):=by
  rw[fe];exact cm hU (c6 _ (oW I0))
 have s1:=c9 (b:=4294967296) (A:=X) (k:=n - 2)
 have s2:=c9 (b:=4294967296) (A:=X) (k:=n - 1)
 have s3:=c9 (b:=4294967296) (A:=X) (k:=n)
 rw[gD hXlt,gb,dA] at s3
 rw[show n - 2+1=n - 1 from by omega] at s1
 rw[show n - 1+1=n from by omega,s3] at s2
 have w1:=c9 (b:=4294967296) (A:=V) (k:=n - 2)
 have w2:=c9 (b:=4294967296) (A:=V) (k:=n - 1)
 rw[show n - 2+1=n - 1 from by omega] at w1
 rw[show n - 1+1=n from by omega,gD I0,gb,dA] at w2
 have zc:=@dgl X n
 have DZ:=@dgl X (n - 1)
 have zV:=@dgl X (n - 2)
 have hv1:=@dgl V (n - 1)
 have hv2:=@dgl V (n - 2)
 have JM:2147483648≤dg 4294967296 V (n - 1):=by
  rw[←w2,pT (dP hb)];exact hV
 -- the two highest digits against the highest one
 have hp:0<4294967296 ^ (n - 2):=dP hb
 have htop:X / 4294967296 ^ (n - 1)≤V / 4294967296 ^ (n - 2):=by
  have e1:(4294967296:Nat) ^ (n - 1)=4294967296 ^ (n - 2)*4294967296:=by rw[←fe];congr 1;omega
  have h1:X / 4294967296 ^ (n - 1)*4294967296 ^ (n - 1)≤X:=KE _ _
  rw[pT hp]
  rw[e1] at h1
  have h2:X / 4294967296 ^ (n - 1)*4294967296 ^ (n - 2)*4294967296<V*4294967296:=by
   rw[jx]
   exact qza1 (by rw[e1];exact h1) hU
  exact oW (Nat.lt_of_mul_lt_mul_right h2)
 rw[s2,w1,w2] at htop
 obtain⟨x,hl,d,rfl,hdb,Cg,IY⟩:=wS (b:=jJ (W V) (n:Int) (j:Int) (vN 4294967296 17 U) ((dg 4294967296 V (n - 1):Nat):Int)) (fun s=>∃d r:Nat,s=((d:Int),(r:Int))∧d*dg 4294967296 V (n - 1)+r=X / 4294967296 ^ (n - 1)∧min (X / 4294967296 ^ (n - 2) / (V / 4294967296 ^ (n - 2))) 4294967295≤d) (fun s=>4294967296 - s.2.toNat)
  (fun x=>∃d:Nat,x=(d:Int)∧d<4294967296∧min (X / 4294967296 ^ (n - 2) / (V / 4294967296 ^ (n - 2))) 4294967295≤d∧d*(V / 4294967296 ^ (n - 2))≤X / 4294967296 ^ (n - 2))
  (by
   rintro s ⟨d,r,rfl,hdr,Cg⟩
   have hmul:d*(V / 4294967296 ^ (n - 2))=d*dg 4294967296 V (n - 1)*4294967296+d*dg 4294967296 V (n - 2):=by
    rw[w1,w2,yE,jx]
   have hdB:d≤8589934592:=guessB (by rw[hdr,s2]) JM zc DZ
   have ei2:i64.wrap ((n:Int) - (2:Int))=((n - 2:Nat):Int):=by rw[cG];omega
   have eij2:i64.wrap ((i64.wrap ((j:Int)+(n:Int))) - (2:Int))=((j+(n - 2):Nat):Int):=by rw[cG (z:=(j:Int)+(n:Int)) (by omega),cG];omega
   dsimp only[jJ]
   by_cases hr:r<4294967296
   ·rw[bF _ _]
    by_cases hd:4294967296≤d
    ·left
     refine⟨(((d - 1:Nat):Int),((r+dg 4294967296 V (n - 1):Nat):Int)),?_,⟨d - 1,_,rfl,?_,by omega⟩,by show 4294967296 - (_:Nat)<4294967296 - (_:Nat);rw[bh,bh];omega⟩
     ·rw[bF _ _,ab,ew,show (d:Int) - 1=((d - 1:Nat):Int) from by omega,iu (pq),←oc,iu (pq)]
     ·rw[Nat.sub_mul,fm]
      have:dg 4294967296 V (n - 1)≤d*dg 4294967296 V (n - 1):=C3 _ (by omega)
      omega
    ·have DB:d*dg 4294967296 V (n - 2)≤4294967295*4294967295:=iS (by omega) (by omega)
     rw[bA _ _,ei2,aI,eij2,aI,bh,bh,jB (by omega),gN (by omega),du,iu (n:=dg 4294967296 X (n - 2)) (pq),iu (n:=dg 4294967296 V (n - 2)) (pq),Hw hr,HU zV hr,←qq,iu (lt64p DB),ab]
     by_cases hc:r*4294967296+dg 4294967296 X (n - 2)<d*dg 4294967296 V (n - 2)
     ·left
      have DC:0<d:=by
       rcases kN d with h|h
       ·subst h;omega
       ·exact h
      refine⟨(((d - 1:Nat):Int),((r+dg 4294967296 V (n - 1):Nat):Int)),?_,⟨d - 1,_,rfl,?_,?_⟩,by show 4294967296 - (_:Nat)<4294967296 - (_:Nat);rw[bh,bh];omega⟩
      ·rw[bF _ _,show (d:Int) - 1=((d - 1:Nat):Int) from by omega,iu (pq),←oc,iu (pq)]
      ·rw[Nat.sub_mul,fm]
       have:dg 4294967296 V (n - 1)≤d*dg 4294967296 V (n - 1):=C3 _ DC
       omega
      ·have hgt:X / 4294967296 ^ (n - 2)<d*(V / 4294967296 ^ (n - 2)):=by rw[hmul,s1,←hdr];exact gA1 hc
       have:=(pz (x:=X / 4294967296 ^ (n - 2)) (y:=d) (k:=V / 4294967296 ^ (n - 2)) (by rw[w1,w2];omega)).2 hgt
       omega
     ·right
      refine⟨_,by rw[bA _ _],d,rfl,by omega,Cg,?_⟩
      rw[hmul,s1,←hdr];exact gA2 (Nat.le_of_not_lt hc)
   ·right
    have hdlt:d<4294967296:=by
     rcases cc d 4294967296 with h|h
     ·exact h
     ·have:4294967296*dg 4294967296 V (n - 1)≤d*dg 4294967296 V (n - 1):=c6 _ h
      omega
    have DB:d*dg 4294967296 V (n - 2)≤4294967295*4294967295:=iS (by omega) (by omega)
    refine⟨_,by rw[bA _ _,ab,a9],d,rfl,hdlt,Cg,?_⟩
    rw[hmul,s1,←hdr];exact gA3 (Nat.le_of_not_lt hr) DB)
  (((X / 4294967296 ^ (n - 1) / dg 4294967296 V (n - 1):Nat):Int),((X / 4294967296 ^ (n - 1) % dg 4294967296 V (n - 1):Nat):Int))
  ⟨_,_,rfl,by rw[cY];exact oV _ _,by
   have h0:X / 4294967296 ^ (n - 2) / (V / 4294967296 ^ (n - 2))≤X / 4294967296 ^ (n - 1) / dg 4294967296 V (n - 1):=by
    rw[pT (by omega)]
    have h1:=KE (X / 4294967296 ^ (n - 2)) (V / 4294967296 ^ (n - 2))
    generalize X / 4294967296 ^ (n - 2) / (V / 4294967296 ^ (n - 2))=q at h1 ⊢
    rw[w1,w2,s1,yE,←jx] at h1
    generalize q*dg 4294967296 V (n - 1)=y at h1 ⊢
    omega
   omega⟩
 obtain⟨h1,h2⟩:=FY hn hV hU Cg IY
 refine⟨d,hdb,?_,h1,h2⟩
 have ejn:i64.wrap ((j:Int)+(n:Int))=((j+n:Nat):Int):=by rw[cG];omega
 have ejn1:i64.wrap (((j+n:Nat):Int) - (1:Int))=((j+(n - 1):Nat):Int):=by rw[cG];omega
 have en1:i64.wrap ((n:Int) - (1:Int))=((n - 1:Nat):Int):=by rw[cG];omega
 unfold iV
 rw[ejn,aI,ejn1,aI,en1,bh,bh,bh,jB (by omega),jB (by omega),gN (by omega),du,du,iu (n:=dg 4294967296 X n) (pq),iu (n:=dg 4294967296 X (n - 1)) (pq),iu (n:=dg 4294967296 V (n - 1)) (pq),Hw zc,HU DZ zc,ab,aI,ab,aI,aI,←sM,←sL]
 rw[iu (guessT zc DZ),←s2,hl,ab]
def yq(j i U D p:Nat):Nat:=if p<j then dg 4294967296 U p else if p<j+i then dg 4294967296 D (p - j) else dg 4294967296 U p
theorem mix0 {j U D:Nat}:yq j 0 U D=dg 4294967296 U:=by
 funext p
 unfold yq
 split
 ·rfl
 ·rw[ifn_]
theorem Fw {j i U D:Nat}:yq j i U D (j+i)=dg 4294967296 U (j+i):=by
 unfold yq
 rw[ifn_,ifn_]
theorem Bs {n j i U D:Nat}:(vF n (yq j i U D)).set! (j+i) (dg 4294967296 D i:Int)=vF n (yq j (i+1) U D):=by
 rw[vF_set]
 apply Np
 intro p hp
 by_cases h:p=j+i
 ·subst h
  rw[aQ rfl]
  unfold yq
  rw[ifn_,ifp_]
  congr 1;omega
 ·rw[aV h]
  unfold yq
  by_cases h1:p<j
  ·rw[aQ h1,aQ h1]
  ·rw[aV h1,aV h1]
   by_cases h2:p<j+i
   ·rw[aQ h2,ifp_]
   ·rw[aV h2,ifn_]
theorem K5 {n j i U D:Nat}(hU:U<4294967296 ^ (i+j))(hD:D<4294967296 ^ i):vF n (yq j i U D)=vN 4294967296 n (D*4294967296 ^ j+U % 4294967296 ^ j):=by
 have hb:0<(4294967296:Nat):=by decide
 rw[←vF_dg]
 apply Np
 intro p _
 unfold yq
 by_cases h1:p<j
 ·rw[aQ h1,←nV (A:=D*_+_) h1,KD,ER,nV h1]
 ·rw[aV h1]
  have e:dg 4294967296 (D*4294967296 ^ j+U % 4294967296 ^ j) p=dg 4294967296 D (p - j):=by
   obtain⟨q,rfl⟩:∃q,p=j+q:=⟨p - j,by omega⟩
   unfold dg
   rw[lO,←lN,cY D,CJ (dP hb),gD (ey _ (dP hb)),mi,C2]
  rw[e]
  by_cases h2:p<j+i
  ·rw[aQ h2]
  ·rw[aV h2,mh (cm hU (na hb (by omega))),mh (cm hD (na hb (by omega)))]
theorem Iu {D P i:Nat}:∃x:Nat,u64.wrap (u64.wrap ((dg 4294967296 (D+P) i:Int) - (dg 4294967296 P i:Int)) - (((D % 4294967296 ^ i+P % 4294967296 ^ i) / 4294967296 ^ i:Nat):Int))=(x:Int)∧x / 9223372036854775808=(D % 4294967296 ^ (i+1)+P % 4294967296 ^ (i+1)) / 4294967296 ^ (i+1)∧x % 4294967296=dg 4294967296 D i:=by
 have hc:=oQ (b:=4294967296) (A:=D) (B:=P) (k:=i) (by decide)
 obtain⟨h1,h2⟩:=pW (b:=4294967296) (A:=D) (B:=P) (k:=i) (by decide)
 have ha:=@dgl D i
 have hb:=@dgl P i
 have hd:=@dgl (D+P) i
 generalize (D % 4294967296 ^ i+P % 4294967296 ^ i) / 4294967296 ^ i=c at h1 h2 hc ⊢
 generalize (D % 4294967296 ^ (i+1)+P % 4294967296 ^ (i+1)) / 4294967296 ^ (i+1)=c' at h2 ⊢
 rw[IntKind.wrap_u64,IntKind.wrap_u64]
 exact⟨((((dg 4294967296 (D+P) i:Int) - (dg 4294967296 P i:Int)) % 18446744073709551616 - (c:Int)) % 18446744073709551616).toNat,by omega,by omega,by omega⟩
theorem lt64m {c p d:Nat}(hc:c≤d)(hp:p<4294967296)(hd:d<4294967296):c+p*d<18446744073709551616:=by
 have h1:p*d≤4294967295*4294967295:=iS (by omega) (by omega)
 omega
theorem QF {U V D n j d:Nat}(tf:n≤16)(hj:j+n≤16)(I0:V<4294967296 ^ n)(hU:U<4294967296 ^ (n+1+j))(hd:d<4294967296)(hD:D<4294967296 ^ (n+1))
  (hDZ:D+V*d=U / 4294967296 ^ j+(if U / 4294967296 ^ j<V*d then 4294967296 ^ (n+1) else 0)):
  jU (W V) (n:Int) (j:Int) (d:Int) (vN 4294967296 17 U)=some (decide (U / 4294967296 ^ j<V*d),vN 4294967296 17 (D*4294967296 ^ j+U % 4294967296 ^ j)):=by
 have hb:0<(4294967296:Nat):=by decide
 generalize hZ:U / 4294967296 ^ j=Z at hDZ ⊢
 have ME:Z<4294967296 ^ (n+1):=by
  rw[←hZ];exact C6 (by rw[←lO,qr];exact hU)
 have dz:∀i,i<n+1→dg 4294967296 (D+V*d) i=dg 4294967296 U (j+i):=fun i hi=>by
  have e1:dg 4294967296 U (j+i)=dg 4294967296 Z i:=by
   unfold dg;rw[←hZ,lN,←lO]
  rw[e1,←nV (A:=D+V*d) hi,←nV (A:=Z) hi,hDZ]
  split
  ·rw[Nat.add_mod_right]
  ·rw[mi]
 have hcle:∀i,V % 4294967296 ^ i*d / 4294967296 ^ i≤d:=fun i=>
  da (KC (c6 d (oW (ey V (dP hb))))) (by rw[KB _ (dP hb)];exact bI _)
 have hl:=rr (b:=i7 (W V) (n:Int) (j:Int) (d:Int)) (s0:=((0:Int),(0:Int),(0:Int),vN 4294967296 17 U)) (fun i=>((V % 4294967296 ^ i*d / 4294967296 ^ i:Nat),((D % 4294967296 ^ i+V*d % 4294967296 ^ i) / 4294967296 ^ i:Nat),(i:Int),vF 17 (yq j i U D))) n ((V % 4294967296 ^ n*d / 4294967296 ^ n:Nat),((D % 4294967296 ^ n+V*d % 4294967296 ^ n) / 4294967296 ^ n:Nat),vF 17 (yq j n U D))
  (by simp only[kz,qN,gb,Nat.zero_div,mix0];rfl)
  (fun i hi=>by
   obtain⟨h1,h2⟩:=EA (b:=4294967296) (A:=V) (k:=i) (m:=d) hb
   obtain⟨x,DZ,zV,Mm⟩:=Iu (D:=D) (P:=V*d) (i:=i)
   have cg:=lt64m (hcle i) (@dgl V i) hd
   have hp:=@dgl (V*d) i
   have hz:=@dgl U (j+i)
   have hv:=@dgl V i
   have eij:i64.wrap ((j:Int)+(i:Int))=((j+i:Nat):Int):=by rw[cG];omega
   rw[dz i (by omega)] at DZ
   have hvd:dg 4294967296 V i*d<18446744073709551616:=qza1 (Nat.le_add_left _ _) cg
   dsimp only[i7]
   rw[bF _ _,aI,ab,eij,aI,ab,aI,ab,bh,bh,gN (by omega),u4 (by omega),Fw,iu (n:=dg 4294967296 V i) (pq),←qq,cY d,iu hvd,←oc,iu cg,zx,h1,wM,h2,iu (n:=dg 4294967296 (V*d) i) (pq),iu (n:=dg 4294967296 U (j+i)) (pq),DZ,NA,zV,zx,Mm,Bs,cG]
   rfl)
  (by
   dsimp only[i7]
   rw[bA _ _])
 obtain⟨x,DZ,zV,Mm⟩:=Iu (D:=D) (P:=V*d) (i:=n)
 have hP:V*d<4294967296 ^ (n+1):=by
  rw[fe];exact CH I0 hd
 have GZ:V % 4294967296 ^ n*d / 4294967296 ^ n=dg 4294967296 (V*d) n:=by
  rw[gL I0]
  unfold dg
  rw[gL]
  exact C6 (by rw[←fe];exact hP)
 have hbor:(D % 4294967296 ^ (n+1)+V*d % 4294967296 ^ (n+1)) / 4294967296 ^ (n+1)=if Z<V*d then 1 else 0:=by
  rw[gL hD,gL hP,hDZ]
  split
  ·rw[Nat.add_div_right _ (dP hb),gD ME]
  ·rw[mi,gD ME]
 have ejn:i64.wrap ((j:Int)+(n:Int))=((j+n:Nat):Int):=by rw[cG];omega
 have hz:=@dgl U (j+n)
 rw[dz n (by omega)] at DZ
 unfold jU
 rw[hl,ab]
 dsimp only
 rw[ejn,aI,ab,aI,ab,bh,u4 (by omega),Fw,iu (n:=dg 4294967296 U (j+n)) (pq),GZ,DZ,NA,zV,zx,Mm,Bs,K5 hU hD,hbor]
 congr 2
 by_cases h:Z<V*d
 ·simp[h]
 ·simp[h]
theorem G_give {U V D n j:Nat}(tf:n≤16)(hj:j+n≤16)(I0:V<4294967296 ^ n)(hU:U<4294967296 ^ (n+1+j))(hD:D=(U / 4294967296 ^ j+V) % 4294967296 ^ (n+1)):
  jY (W V) (n:Int) (j:Int) (vN 4294967296 17 U)=some (vN 4294967296 17 (D*4294967296 ^ j+U % 4294967296 ^ j)):=by
 have hb:0<(4294967296:Nat):=by decide
 have hDlt:D<4294967296 ^ (n+1):=by rw[hD];exact ey _ (dP hb)
 generalize hZ:U / 4294967296 ^ j=Z at hD
 have dz:∀i,dg 4294967296 U (j+i)=dg 4294967296 Z i:=fun i=>by
  unfold dg;rw[←hZ,lN,←lO]
 have dD:∀i,i<n+1→dg 4294967296 (Z+V) i=dg 4294967296 D i:=fun i hi=>by rw[hD,nV hi]
 have hl:=rr (b:=i9 (W V) (n:Int) (j:Int)) (s0:=((0:Int),(0:Int),vN 4294967296 17 U)) (fun i=>(((Z % 4294967296 ^ i+V % 4294967296 ^ i) / 4294967296 ^ i:Nat),(i:Int),vF 17 (yq j i U D))) n (((Z % 4294967296 ^ n+V % 4294967296 ^ n) / 4294967296 ^ n:Nat),vF 17 (yq j n U D))
  (by simp only[kz,qN,mix0];rfl)
  (fun i hi=>by
   have hc:=oQ (b:=4294967296) (A:=Z) (B:=V) (k:=i) hb
   obtain⟨h1,h2⟩:=pW (b:=4294967296) (A:=Z) (B:=V) (k:=i) hb
   have hz:=@dgl Z i
   have hv:=@dgl V i
   have eij:i64.wrap ((j:Int)+(i:Int))=((j+i:Nat):Int):=by rw[cG];omega
   generalize (Z % 4294967296 ^ i+V % 4294967296 ^ i) / 4294967296 ^ i=c at h1 h2 hc ⊢
   generalize (Z % 4294967296 ^ (i+1)+V % 4294967296 ^ (i+1)) / 4294967296 ^ (i+1)=c' at h2 ⊢
   dsimp only[i9]
   rw[bF _ _,eij,aI,aI,ab,aI,ab,bh,bh,gN (by omega),u4 (by omega),Fw,dz,iu (n:=dg 4294967296 V i) (pq),iu (n:=dg 4294967296 Z i) (pq),←oc,iu (pq),←oc,iu (pq),←nq,wM,zx,h1,h2,dD i (by omega),Bs,cG]
   rfl)
  (by
   dsimp only[i9]
   rw[bA _ _])
 have hc:=oQ (b:=4294967296) (A:=Z) (B:=V) (k:=n) hb
 obtain⟨h1,h2⟩:=pW (b:=4294967296) (A:=Z) (B:=V) (k:=n) hb
 rw[mh I0,mi,dD n (by omega)] at h1
 have hz:=@dgl Z n
 have ejn:i64.wrap ((j:Int)+(n:Int))=((j+n:Nat):Int):=by rw[cG];omega
 unfold jY
 rw[hl,ab]
 dsimp only
 generalize (Z % 4294967296 ^ n+V % 4294967296 ^ n) / 4294967296 ^ n=c at h1 hc ⊢
 rw[ejn,aI,aI,ab,bh,u4 (by omega),Fw,dz,zw (n:=c) (by omega),←oc,qr (dg 4294967296 Z n),zx,h1,Bs,K5 hU hDlt]
theorem L9 {U V n j:Nat}(hn:2≤n)(hj:j+n≤16)(hV:2147483648*4294967296 ^ (n - 1)≤V)(I0:V<4294967296 ^ n)(hU:U / 4294967296 ^ j<V*4294967296):
  (bnd (iV (W V) (n:Int) (j:Int) (vN 4294967296 17 U)) fun Nf=>bnd (S:=Int×(Vector Int 17)) (bnd (jU (W V) (n:Int) (j:Int) Nf (vN 4294967296 17 U)) fun KP=>cnd KP.1 (bnd (jY (W V) (n:Int) (j:Int) KP.2) fun ze=>some ((u64.wrap (Nf - (1:Int)),ze))) (some ((Nf,KP.2)))) fun y=>some y)=some (((U / 4294967296 ^ j / V:Nat):Int),vN 4294967296 17 (U / 4294967296 ^ j % V*4294967296 ^ j+U % 4294967296 ^ j))∧U / 4294967296 ^ j / V<4294967296:=by
 have hb:0<(4294967296:Nat):=by decide
 obtain⟨d,hdb,hg,M6,H7⟩:=G_guess hn (by omega) hj hV I0 hU
 have FV:0<V:=cm (sr (by decide) (dP hb)) hV
 have hp:0<4294967296 ^ j:=dP hb
 have ME:U / 4294967296 ^ j<4294967296 ^ (n+1):=by
  rw[fe];exact cm hU (c6 _ (oW I0))
 have hUlt:U<4294967296 ^ (n+1+j):=by
  rw[lO];exact (pz hp).1 ME
 have hVd:V*d<4294967296 ^ (n+1):=by
  rw[fe];exact CH I0 hdb
 have hq:U / 4294967296 ^ j / V<4294967296:=by omega
 refine⟨?_,hq⟩
 have hm:=oV (U / 4294967296 ^ j) V
 have hml:=ey (U / 4294967296 ^ j) FV
 rw[hg,ab]
 by_cases cg:U / 4294967296 ^ j<V*d
 ·-- one too many
  have hdq:d=U / 4294967296 ^ j / V+1:=by
   rcases cc (U / 4294967296 ^ j / V) d with h|h
   ·omega
   ·have h1:V*d≤V*(U / 4294967296 ^ j / V):=ud _ h
    omega
  have ht:=QF (U:=U) (V:=V) (D:=U / 4294967296 ^ j+4294967296 ^ (n+1) - V*d) (n:=n) (j:=j) (d:=d) (by omega) hj I0 hUlt hdb (by omega) (by rw[aQ cg];omega)
  rw[ht,iP cg,ab,ew]
  dsimp only
  generalize hD:U / 4294967296 ^ j+4294967296 ^ (n+1) - V*d=D
  have hDlt:D<4294967296 ^ (n+1):=by omega
  have e1:(D*4294967296 ^ j+U % 4294967296 ^ j) / 4294967296 ^ j=D:=by
   rw[cY,CJ hp,gD (ey _ hp),mi]
  have e2:(D*4294967296 ^ j+U % 4294967296 ^ j) % 4294967296 ^ j=U % 4294967296 ^ j:=by
   rw[KD,ER]
  have e3:(D+V) % 4294967296 ^ (n+1)=U / 4294967296 ^ j % V:=by
   have:D+V=U / 4294967296 ^ j % V+4294967296 ^ (n+1):=by
    rw[hdq,yE,uc] at hD cg
    omega
   rw[this,Nat.add_mod_right,gL]
   exact qza1 (Nat.mod_le _ _) ME
  have hgv:=G_give (U:=D*4294967296 ^ j+U % 4294967296 ^ j) (V:=V) (D:=U / 4294967296 ^ j % V) (n:=n) (j:=j) (by omega) hj I0 (by
   rw[lO]
   have h1:(D+1)*4294967296 ^ j≤4294967296 ^ (n+1)*4294967296 ^ j:=c6 _ hDlt
   rw[cO,fm] at h1
   have:=ey U hp
   omega) (by rw[e1,e3])
  rw[hgv,ab,ab,e2,show ((d:Nat):Int) - 1=((U / 4294967296 ^ j / V:Nat):Int) from by omega,iu (pq)]
 ·have hdq:d=U / 4294967296 ^ j / V:=by
   have h1:d≤U / 4294967296 ^ j / V:=(pT FV).2 (by rw[cY];omega)
   omega
  have ht:=QF (U:=U) (V:=V) (D:=U / 4294967296 ^ j % V) (n:=n) (j:=j) (d:=d) (by omega) hj I0 hUlt hdb (qza1 (Nat.mod_le _ _) ME) (by rw[aV cg,hdq];omega)
  rw[ht,gX cg,ab,a9,ab,hdq]
theorem NN {U V n k:Nat}(hn:2≤n)(hk:k+n≤17)(hV:2147483648*4294967296 ^ (n - 1)≤V)(I0:V<4294967296 ^ n)(hU:U / 4294967296 ^ k<V)(y:Int):
  bf (fq (n:Int) (W V,y)) ((k:Int) - 1,W 0,vN 4294967296 17 U)=some (W (U / V),vN 4294967296 17 (U % V)):=by
 have hb:0<(4294967296:Nat):=by decide
 have FV:0<V:=cm (sr (by decide) (dP hb)) hV
 have hl:=Ok (b:=fq (n:Int) (W V,y)) (s0:=((k:Int) - 1,W 0,vN 4294967296 17 U)) (fun i=>((i:Int) - 1,vN 4294967296 16 (U / V / 4294967296 ^ i*4294967296 ^ i),vN 4294967296 17 (U / 4294967296 ^ i % V*4294967296 ^ i+U % 4294967296 ^ i))) k (vN 4294967296 16 (U / V / 4294967296 ^ 0*4294967296 ^ 0),vN 4294967296 17 (U / 4294967296 ^ 0 % V*4294967296 ^ 0+U % 4294967296 ^ 0))
  (by
   have e1:U / V / 4294967296 ^ k=0:=by
    rw[lN,cY,←lN,gD hU]
   have e2:U / 4294967296 ^ k % V*4294967296 ^ k+U % 4294967296 ^ k=U:=by
    rw[gL hU,cY];exact oV _ _
   rw[e1,e2,gb])
  (fun i hi=>by
   have hp:0<4294967296 ^ i:=dP hb
   obtain⟨h1,h2⟩:=xi (b:=4294967296) (A:=U) (k:=i) (d:=V) hb FV
   have eR1:(U / 4294967296 ^ (i+1) % V*4294967296 ^ (i+1)+U % 4294967296 ^ (i+1)) / 4294967296 ^ i=U / 4294967296 ^ (i+1) % V*4294967296+dg 4294967296 U i:=by
    rw[gS,fe,←jx,C0,qr (U % _),←nq,cY (4294967296 ^ i) (dg _ _ _),←cO,cY (_+_) (4294967296 ^ i),CJ hp,gD (ey _ hp),mi]
   have eR2:(U / 4294967296 ^ (i+1) % V*4294967296 ^ (i+1)+U % 4294967296 ^ (i+1)) % 4294967296 ^ i=U % 4294967296 ^ i:=by
    rw[gS,fe,←jx,C0,qr (U % _),←nq,cY (4294967296 ^ i) (dg _ _ _),←cO,KD,ER]
   have cg:(U / 4294967296 ^ (i+1) % V*4294967296 ^ (i+1)+U % 4294967296 ^ (i+1)) / 4294967296 ^ i<V*4294967296:=by
    rw[eR1]
    have h3:=ey (U / 4294967296 ^ (i+1)) FV
    have h4:(U / 4294967296 ^ (i+1) % V+1)*4294967296≤V*4294967296:=c6 _ h3
    rw[cO,fm] at h4
    exact cm (vw dgl _) h4
   obtain⟨hq,hqb⟩:=L9 (j:=i) hn (by omega) hV I0 cg
   rw[eR1,h1,h2,eR2] at hq
   rw[eR1,h1] at hqb
   have ei:((i+1:Nat):Int) - 1=(i:Int):=by omega
   dsimp only[fq]
   rw[ei,bF _ _]
   -- the digit
   revert hq
   generalize vN 4294967296 17 (U / 4294967296 ^ (i+1) % V*4294967296 ^ (i+1)+U % 4294967296 ^ (i+1))=uv
   intro hq
   obtain⟨d,e1,hq⟩:=ah hq
   rw[oT] at hq
   rw[e1,ab,hq,ab]
   dsimp only
   rw[aI,bh,zw hqb,KT hb (by omega),cG])
  (by
   dsimp only[fq]
   rw[bA _ _])
 rw[hl]
 simp only[kz,rF,uc,qN,mi]
theorem build17 {A s:Nat}(hA:A<LIM)(hs:s<32):(vOf 17 (lCp (Vector.replicate 17 (0:Int)).toList 0 (List.take 17 (List.take 16 (List.drop 0 (W (A*2 ^ s)).toList))))).set! ((16:Int)).toNat ((A % 4294967296 ^ 16*2 ^ s / 4294967296 ^ 16:Nat):Int)=vN 4294967296 17 (A*2 ^ s):=by
 have hb:0<(4294967296:Nat):=by decide
 have JC:2 ^ s≤2 ^ 31:=na (by decide) (by omega)
 have hs3:0<2 ^ s:=dP (by decide)
 have hc:A % 4294967296 ^ 16*2 ^ s / 4294967296 ^ 16<2 ^ s:=zJ hb hs3
 have h16:(W (A*2 ^ s)).toList.length=16:=rG
 have hl:lCp (Vector.replicate 17 (0:Int)).toList 0 (List.take 17 (List.take 16 (List.drop 0 (W (A*2 ^ s)).toList)))=(W (A*2 ^ s)).toList++[0]:=by
  rw[nZ,kO (i:=17) (by simp),kO (by simp)]
  unfold lCp
  rw[h16,GB,pB]
  rfl
 have hll:((W (A*2 ^ s)).toList++[(0:Int)]).length=17:=by rw[fg,h16];rfl
 rw[hl]
 apply oz
 intro j hj
 rw[qg hj,jB hj]
 by_cases h:j=16
 ·subst h
  rw[aQ (by rfl)]
  have Lj:A<4294967296 ^ 16:=hA
  rw[gL Lj] at hc ⊢
  unfold dg
  rw[gL (by omega)]
 ·rw[aV (by simpa using h),←ye (vOf 17 _) hj,xf hll,iR _ j (by rw[hll];omega),List.getElem_append_left (by rw[h16];omega)]
  have e2:=jB (b:=4294967296) (A:=A*2 ^ s) (j:=j) (n:=16) (by omega)
  rw[←ye _ (by omega),iR _ j (by rw[h16];omega)] at e2
  exact e2
theorem Dw {A B:Nat}(hA:A<LIM)(hB:B<LIM)(Id:0<B):gi (W A) (W B)=some (W (A / B),W (A % B)):=by
 have hb:0<(4294967296:Nat):=by decide
 obtain⟨n,hn,hn1,H5,rz⟩:=Aq hB
 obtain⟨m,hm,Mt,hm2,hm3⟩:=Aq hA
 have hn0:0<n:=by
  rcases kN n with h|h
  ·subst h;simp at H5;omega
  ·exact h
 unfold gi
 rw[hn1,ab,Mt,ab,LO hA hB,ab]
 by_cases cg:A<B
 ·rw[bF _ _ (by unfold HB;rw[aQ cg];omega),ab,z16,gD cg,gL cg]
 ·rw[bA _ _ (by unfold HB;rw[aV cg];split <;> omega)]
  by_cases h1:n=1
  ·subst h1
   have Ph:B<4294967296:=by simpa using H5
   have e0:(W B)[((0:Int)).toNat]! =(B:Int):=by
    have:(W B)[((0:Int)).toNat]! =(dg 4294967296 B 0:Int):=gN (by decide)
    rw[this]
    unfold dg
    rw[kz,rF,gL Ph]
   have hr:A % B<4294967296:=Ak (ey _ Id) Ph
   rw[bF _ _,e0,G_short hA Id Ph,ab,ab]
   have:=Qi (u:=A % B) (by omega)
   rw[gL hr,gD hr] at this
   dsimp only
   rw[←this]
   rfl
  ·have h2:2≤n:=by omega
   have hk:n - 1<16:=by omega
   have hBd:B / 4294967296 ^ (n - 1)=dg 4294967296 B (n - 1):=by
    have:=c9 (b:=4294967296) (A:=B) (k:=n - 1)
    rw[show n - 1+1=n from by omega,gD H5,gb,dA] at this
    exact this
   obtain⟨l,EI,A7,Mu,hl4⟩:=G_Lead (x:=dg 4294967296 B (n - 1)) dgl
   have hp:0<4294967296 ^ (n - 1):=dP hb
   have M6:1≤dg 4294967296 B (n - 1):=by rw[←hBd];exact (pT hp).2 (by rw[fm];exact rz hn0)
   have hl0:0<l:=by
    rcases kN l with h|h
    ·subst h;simp at Mu;omega
    ·exact h
   have hl5:=hl4 hl0
   have hs:32 - l<32:=by omega
   have epow:2 ^ l*2 ^ (32 - l)=4294967296:=by rw[←lO,show l+(32 - l)=32 from by omega]
   have epow2:2 ^ (l - 1)*2 ^ (32 - l)=2147483648:=by rw[←lO,show l - 1+(32 - l)=31 from by omega]
   have hS:0<2 ^ (32 - l):=dP (by decide)
   have epn:(4294967296:Nat) ^ n=4294967296 ^ (n - 1)*4294967296:=by rw[←fe];congr 1;omega
   have hVlo:2147483648*4294967296 ^ (n - 1)≤B*2 ^ (32 - l):=by
    have h3:2 ^ (l - 1)*4294967296 ^ (n - 1)≤B:=(pT hp).1 (by rw[hBd];exact hl5)
    calc 2147483648*4294967296 ^ (n - 1)=2 ^ (l - 1)*4294967296 ^ (n - 1)*2 ^ (32 - l):=by rw[←epow2,C0]
     _≤B*2 ^ (32 - l):=c6 _ h3
   have hVhi:B*2 ^ (32 - l)<4294967296 ^ n:=by
    have h3:B<2 ^ l*4294967296 ^ (n - 1):=(pz hp).1 (by rw[hBd];exact Mu)
    calc B*2 ^ (32 - l)<2 ^ l*4294967296 ^ (n - 1)*2 ^ (32 - l):=KA h3 hS
     _=4294967296 ^ n:=by rw[C0,epow,cY,←epn]
   have FV:0<B*2 ^ (32 - l):=sr Id hS
   have hmn:n≤m:=by
    rcases cc m n with h|h
    ·have h3:4294967296 ^ m≤4294967296 ^ (n - 1):=na hb (by omega)
     have h4:=rz hn0
     omega
    ·exact h
   have hUk:A*2 ^ (32 - l) / 4294967296 ^ (m - n+1)<B*2 ^ (32 - l):=by
    rw[pz (dP hb)]
    have h3:A<B*4294967296 ^ (m - n+1):=by
     have h4:4294967296 ^ (n - 1)*4294967296 ^ (m - n+1)≤B*4294967296 ^ (m - n+1):=c6 _ (rz hn0)
     rw[←lO,show n - 1+(m - n+1)=m from by omega] at h4
     omega
    calc A*2 ^ (32 - l)<B*4294967296 ^ (m - n+1)*2 ^ (32 - l):=KA h3 hS
     _=B*2 ^ (32 - l)*4294967296 ^ (m - n+1):=C0 _ _ _
   have eidx:i64.wrap ((m:Int) - (n:Int))=((m - n+1:Nat):Int) - 1:=by rw[cG];omega
   rw[bA _ _,show i64.wrap ((n:Int) - 1)=((n - 1:Nat):Int) from by rw[cG];omega,aI,bh,gN hk,EI,ab,G_up hs,ab,G_up hs,ab,ab]
   dsimp only
   rw[build17 hA hs,eidx,r16,NN h2 (by omega) hVlo hVhi hUk,ab]
   dsimp only
   have hmod:A*2 ^ (32 - l) % (B*2 ^ (32 - l))<4294967296 ^ 16:=cm (ey _ FV) (da (oW hVhi) (na hb hn))
   rw[vsub 16 0 (by omega),kz,rF,G_down hmod hs,ab,Nat.mul_mod_mul_right,Kz _ hS,Nat.mul_div_mul_right _ _ hS]
theorem yy(x y:Nat):Nat.gcd x y=Nat.gcd y (x % y):=by
 rw[Nat.gcd_comm x y,Nat.gcd_rec,Nat.gcd_comm]
theorem QE(x y:Nat):bf iY ((x:Int),(y:Int))=some ((Nat.gcd x y:Nat):Int):=by
 induction y using Nat.strongRecOn generalizing x with
 |_ y ih=>
  by_cases hy:y=0
  ·subst hy
   rw[GA]
   exact eF (by dsimp only[iY];rw[bA _ _ (by simp)])
  ·have h1:iY ((x:Int),(y:Int))=some (.inl ((y:Int),((x % y:Nat):Int))):=by
    dsimp only[iY]
    rw[bF _ _,aI,←sL]
   rw[lS h1,ih (x % y) (ey _ (by omega)) y,←yy]
theorem u5 {A:Nat}(hA:A<LIM):∃n:Nat,e6 (W A)=some (n:Int)∧(n≤2↔A<18446744073709551616):=by
 obtain⟨n,hn,h1,h2⟩:=Aq hA
 have e:(4294967296:Nat) ^ 2=18446744073709551616:=by decide
 refine⟨n,h1,fun h=>?_,fun h=>I9 (by decide) h2 (by rw[e];exact h)⟩
 have h3:4294967296 ^ n≤4294967296 ^ 2:=na (by decide) h
 rw[e] at h3
 exact cm h2.1 h3
theorem G_Abs {a:Int}(ha:a.natAbs<LIM):qk (enc a)=some (enc (a.natAbs:Int)):=by
 unfold qk
 rw[qza7,bD ha,ab,fc,a9,m9 ha,jz ha,ab]
 rfl
theorem wr {a c:Int}(ha:a.natAbs<LIM)(hc:c.natAbs<LIM)(h1:a.natAbs<18446744073709551616)(h2:c.natAbs<18446744073709551616)(p:ay→ay→Option ay):
  db p (enc a) (enc c)=some (enc (Nat.gcd a.natAbs c.natAbs:Nat)):=by
 obtain⟨n,hn1,H5⟩:=u5 ha
 obtain⟨m,Mt,hm2⟩:=u5 hc
 have hg:Nat.gcd a.natAbs c.natAbs<18446744073709551616:=by
  rcases kN a.natAbs with h|h
  ·rw[h,Ky];exact h2
  ·exact qza1 (xF _ h) h1
 have hgL:Nat.gcd a.natAbs c.natAbs<LIM:=cm hg (by decide)
 unfold db
 rw[ui,bD ha,bD hc,ab]
 simp only[ck,fc,a9,m9 ha,m9 hc]
 rw[hn1,ab,bF _ _ (by have:=H5.2 h1;omega),Mt,ab,ab,bF _ _ (by have:=hm2.2 h2;omega),Oj h1,Oj h2,ab,ab,QE,ab,zx,wM,zw,Qi hg,jz hgL,ab]
 rfl
theorem IK {a:Int}(ha:a.natAbs<LIM)(p:ay→ay→Option ay):db p (enc a) (enc 0)=some (enc (Nat.gcd a.natAbs 0:Nat)):=by
 by_cases h1:a.natAbs<18446744073709551616
 ·exact wr ha (by decide) h1 (by decide) p
 ·obtain⟨n,hn1,H5⟩:=u5 ha
  have hc:(0:Int).natAbs<LIM:=by decide
  unfold db
  rw[ui,bD ha,bD hc,ab]
  simp only[ck,fc,a9,m9 ha,m9 hc]
  rw[hn1,ab,bA _ _ (by have:=mt H5.1 h1;omega),ab,a9,bA _ _ (by rw[z16];exact fun h=>h rfl),G_Abs ha,ab,GA]
theorem IL {a c:Int}(ha:a.natAbs<LIM)(hc:c.natAbs<LIM)(h0:c.natAbs≠0)(h1:¬(a.natAbs<18446744073709551616∧c.natAbs<18446744073709551616))(p:ay→ay→Option ay):
  db p (enc a) (enc c)=p (enc (c.natAbs:Int)) (enc ((a.natAbs % c.natAbs:Nat):Int)):=by
 obtain⟨n,hn1,H5⟩:=u5 ha
 obtain⟨m,Mt,hm2⟩:=u5 hc
 have hr:a.natAbs % c.natAbs<LIM:=qza1 (Nat.mod_le _ _) ha
 unfold db
 rw[ui,bD ha,bD hc,ab]
 simp only[ck,fc,a9,m9 ha,m9 hc]
 rw[hn1,ab,Mt,ab]
 have AI:(cnd (decide ((n:Int)≤(2:Int))) (some (decide ((m:Int)≤(2:Int)))) (some (false)))=some false:=by
  rw[fU]
  split
  ·rename_i h
   congr 1
   have h2:=H5.1 (by omega)
   exact gX fun h3=>h1 ⟨h2,hm2.1 (by omega)⟩
  ·rfl
 rw[AI,ab,a9,z16,bF _ _ (by rw[Df hc wq];exact h0),Dw ha hc (by omega),ab,jz hc,ab]
 dsimp only
 rw[jz hr,ab,oT]
 rfl
theorem MB {x y:Nat}(hy:0<y)(hxy:y≤x):2*(y*(x % y))<x*y:=by
 have h1:=oV x y
 have h2:=ey x hy
 have h3:0<x / y:=C4 hxy hy
 have h4:y≤y*(x / y):=Aj _ h3
 have h5:2*(x % y)<x:=by omega
 have h6:2*(x % y)*y<x*y:=KA h5 hy
 calc 2*(y*(x % y))=2*(x % y)*y:=by rw[cY y,jx]
  _<x*y:=h6
theorem LN(n:Nat):∀{a c:Int},a.natAbs<LIM→c.natAbs<LIM→c.natAbs≤a.natAbs→a.natAbs*c.natAbs<18446744073709551616*2 ^ n→il (n+2) (enc a) (enc c)=some (enc (Nat.gcd a.natAbs c.natAbs:Nat)):=by
 induction n with
 |zero=>
  intro a c ha hc hle hp
  show db _ _ _=_
  by_cases h0:c.natAbs=0
  ·obtain rfl:c=0:=by omega
   exact IK ha _
  ·have h1:a.natAbs≤a.natAbs*c.natAbs:=Aj _ (by omega)
   exact wr ha hc (by omega) (by omega) _
 |succ n ih=>
  intro a c ha hc hle hp
  show db (il (n+2)) _ _=_
  by_cases h0:c.natAbs=0
  ·obtain rfl:c=0:=by omega
   exact IK ha _
  ·by_cases h1:a.natAbs<18446744073709551616∧c.natAbs<18446744073709551616
   ·exact wr ha hc h1.1 h1.2 _
   ·have h2:=MB (yH h0) hle
    have h3:=ey a.natAbs (yH h0)
    rw[IL ha hc h0 h1,ih (by rw[dY];exact hc) (by rw[dY];omega) (by rw[dY,dY];omega) (by rw[dY,dY];rw[fe] at hp;omega),dY,dY,←yy]
theorem LV {a c:Int}(ha:a.natAbs<LIM)(hc:c.natAbs<LIM):n8 (enc a) (enc c)=some (enc (Nat.gcd a.natAbs c.natAbs:Nat)):=by
 have e:LIM*LIM≤18446744073709551616*2 ^ 960:=by decide +kernel
 have mono:∀(n:Nat) {x y r:ay},il n x y=some r→∀m,n≤m→il m x y=some r:=by
  have step:∀{p q:ay→ay→Option ay},(∀{x y r},p x y=some r→q x y=some r)→∀{x y r},db p x y=some r→db q x y=some r:=by
   intro p q hpq x y r h
   unfold db at h ⊢
   obtain⟨b,h1,h⟩:=ah h
   rw[h1,ab]
   cases b with
   |false=>exact h
   |true=>
    rw[fc,a9] at h ⊢
    obtain⟨b2,h2,h⟩:=ah h
    rw[h2,ab]
    cases b2 with
    |true=>exact h
    |false=>
     rw[a9] at h ⊢
     cases hd:decide (¬(y.vW=#v[(0:Int),0,0,0,0,0,0,0,0,0,0,0,0,0,0,0])) with
     |false=>rw[hd] at h;exact h
     |true=>
      rw[hd,ew] at h
      rw[ew]
      obtain⟨q1,h3,h⟩:=ah h
      rw[h3,ab]
      obtain⟨q2,h4,h⟩:=ah h
      rw[h4,ab]
      obtain⟨q3,h5,h⟩:=ah h
      rw[h5,ab]
      obtain⟨q4,h6,h⟩:=ah h
      rw[hpq h6,ab]
      exact h
  intro n
  induction n with
  |zero=>intro x y r h;cases h
  |succ n ih=>
   intro x y r h m hm
   obtain⟨m,rfl⟩:∃k,m=k+1:=⟨m - 1,by omega⟩
   exact step (fun h=>ih h m (by omega)) h
 unfold n8
 by_cases hle:c.natAbs≤a.natAbs
 ·refine mono 962 (LN 960 ha hc hle ?_) 1000 (by decide)
  exact cm (CH ha hc) e
 ·by_cases h1:a.natAbs<18446744073709551616∧c.natAbs<18446744073709551616
  ·exact wr ha hc h1.1 h1.2 _
  ·refine mono 963 ?_ 1000 (by decide)
   show db (il 962) _ _=_
   rw[IL ha hc (by omega) h1,gL (by omega),LN 960 (by rw[dY];exact hc) (by rw[dY];exact ha) (by rw[dY,dY];omega) (by rw[dY,dY];exact cm (CH hc ha) e),dY,dY,Nat.gcd_comm]
theorem m7 {x y:Int}(hy:y≠0)(q r:Int)(h:q*y+r=x)(hr:0≤r∧r<y∨y<r∧r≤0):q=x.fdiv y∧r=x.fmod y:=by
 have h2:x.fdiv y*y+x.fmod y=x:=Int.fdiv_mul_add_fmod x y
 have hf:0≤x.fmod y∧x.fmod y<y∨y<x.fmod y∧x.fmod y≤0:=by
  rcases Int.lt_or_gt_of_ne hy with h|h
  ·right
   have h3:=Int.neg_fmod_neg x y
   have h4:=Gz (-x) (b:=-y) (by omega)
   have h5:=Gy (-x) (b:=-y) (by omega)
   omega
  ·left;exact⟨Gz _ h,Gy _ h⟩
 have hq:q=x.fdiv y:=by
  have h3:(q - x.fdiv y)*y=x.fmod y - r:=by rw[Int.sub_mul];omega
  rcases Kx (q - x.fdiv y) 0 with h4|h4|h4
  ·exfalso
   rcases hr with hr|hr <;> rcases hf with hf|hf
   ·have:(q - x.fdiv y)*y≤(-1)*y:=Qg (by omega) (by omega)
    omega
   ·omega
   ·omega
   ·have:(-1)*y≤(q - x.fdiv y)*y:=Qf (by omega) (by omega)
    omega
  ·omega
  ·exfalso
   rcases hr with hr|hr <;> rcases hf with hf|hf
   ·have:1*y≤(q - x.fdiv y)*y:=Qg (by omega) (by omega)
    omega
   ·omega
   ·omega
   ·have:(q - x.fdiv y)*y≤1*y:=Qf (by omega) (by omega)
    omega
 subst hq
 exact⟨rfl,by omega⟩
theorem Hq {x y:Int}(hy:y≠0):x.tmod y<y.natAbs∧-(y.natAbs:Int)<x.tmod y:=by
 have h1:=Int.natAbs_tmod x y
 have h2:=ey x.natAbs (show 0<y.natAbs by omega)
 rw[←h1] at h2
 omega
theorem zy {x y:Int}(hy:y≠0):(cnd (decide (x.tmod y≠0)) (some (!((decide (x.tmod y<0)) == (decide (y<0))))) (some false))=some (decide (x.fdiv y≠x.tdiv y))∧(x.fdiv y≠x.tdiv y→x.fdiv y=x.tdiv y - 1∧x.fmod y=x.tmod y+y)∧(x.fdiv y=x.tdiv y→x.fmod y=x.tmod y):=by
 have e1:x.tdiv y*y+x.tmod y=x:=Int.tdiv_mul_add_tmod x y
 have e2:x.fdiv y*y+x.fmod y=x:=Int.fdiv_mul_add_fmod x y
 have hm:=Hq (x:=x) hy
 rw[fU]
 by_cases h1:x.tmod y=0
 ·obtain⟨h2,h3⟩:=m7 (x:=x) hy (x.tdiv y) (x.tmod y) e1 (by omega)
  rw[aV (by simp[h1])]
  exact⟨by simp[h2],fun h=>absurd h2.symm h,fun _=>h3.symm⟩
 ·rw[aQ h1]
  by_cases h2:(x.tmod y<0)↔(y<0)
  ·obtain⟨h3,h4⟩:=m7 (x:=x) hy (x.tdiv y) (x.tmod y) e1 (by omega)
   refine⟨?_,fun h=>absurd h3.symm h,fun _=>h4.symm⟩
   rw[mJ.2 h2,vA]
   simp[h3]
  ·obtain⟨h3,h4⟩:=m7 (x:=x) hy (x.tdiv y - 1) (x.tmod y+y) (by rw[Int.sub_mul];omega) (by omega)
   have h5:(decide (x.tmod y<0) == decide (y<0))=false:=Ai.2 fun h=>h2 (mJ.1 h)
   have h6:x.fdiv y≠x.tdiv y:=by omega
   refine⟨?_,fun _=>⟨h3.symm,h4.symm⟩,fun h=>absurd h h6⟩
   rw[h5]
   simp[h6]
theorem Hr {x y:Int}(hx:-9223372036854775807≤x∧x≤9223372036854775807):-9223372036854775807≤x.tdiv y∧x.tdiv y≤9223372036854775807:=by
 have h1:(x.tdiv y).natAbs=x.natAbs / y.natAbs:=Int.natAbs_tdiv ..
 have h2:x.natAbs / y.natAbs≤x.natAbs:=pR _ _
 omega
theorem PC {x y:Int}(hx:-9223372036854775807≤x∧x≤9223372036854775807)(Lb:-9223372036854775807≤y∧y≤9223372036854775807)(hy:y≠0):
  (bnd (S:=Int×Int) (bnd (S:=Bool) (cnd (decide ((Int.tmod x y)≠(0:Int))) (some (!((decide ((Int.tmod x y)<(0:Int))) == (decide (y<(0:Int)))))) (some (false))) fun rM=>cnd rM (bnd (some (i64.wrap ((i64.wrap (Int.tdiv x y)) - (1:Int)))) fun uC=>bnd (some (i64.wrap ((Int.tmod x y)+y))) fun uN=>some ((uC,uN))) (some ((i64.wrap (Int.tdiv x y),Int.tmod x y)))) fun (cD,iT)=>bnd (fM cD) fun M1=>bnd (fM iT) fun Nd=>some ((.inr (M1,Nd)):Unit⊕(ay×ay)))=some (.inr (enc (x.fdiv y),enc (x.fmod y))):=by
 obtain⟨h1,h2,h3⟩:=zy (x:=x) hy
 have hq:=Hr (y:=y) hx
 have hm:=Hq (x:=x) hy
 rw[h1,ab]
 by_cases h:x.fdiv y=x.tdiv y
 ·have hf:=h3 h
  rw[bA _ _ (fun hh=>hh h),ab,LZ]
  dsimp only
  rw[GR (by omega) (by omega),ab,GR (by omega) (by omega),ab,h,hf]
 ·obtain⟨h4,h5⟩:=h2 h
  have hf:x.fmod y≤9223372036854775807∧-9223372036854775807≤x.fmod y:=by
   have:-(y.natAbs:Int)≤x.fmod y∧x.fmod y≤y.natAbs:=by
    rcases Int.lt_or_gt_of_ne hy with hl|hl
    ·have h7:=Gz (-x) (b:=-y) (by omega)
     have h8:=Gy (-x) (b:=-y) (by omega)
     have h9:=Int.neg_fmod_neg x y
     omega
    ·have h7:=Gz x (b:=y) (by omega)
     have h8:=Gy x (b:=y) (by omega)
     omega
   omega
  rw[bF _ _ h,LZ (z:=Int.tdiv x y) (by omega),ab,ab,LZ,LZ,←h4,←h5]
  dsimp only
  rw[ab]
  dsimp only
  rw[GR (by omega) (by omega),ab,GR (by omega) (by omega),ab]
theorem MW {a c:Int}(ha:a.natAbs<LIM)(hc:c.natAbs<LIM)(h0:c≠0):lE (enc a) (enc c)=some (enc (a.fdiv c),enc (a.fmod c)):=by
 have slow:∀r:Unit⊕(ay×ay),r=.inl ()→(match r with| .inl ()=>bnd (gi (enc a).vW (enc c).vW) fun wz=>bnd (b8 (!((enc a).vNeg == (enc c).vNeg)) wz.1) fun IT=>bnd (S:=(Vector Int 16)×ay) (bnd (S:=Bool) (cnd (decide (¬(wz.2=#v[(0:Int),0,0,0,0,0,0,0,0,0,0,0,0,0,0,0]))) (some (!((enc a).vNeg == (enc c).vNeg))) (some (false))) fun AQ=>cnd AQ (bnd (fM (1:Int)) fun MZ=>bnd (n7 IT MZ) fun G4=>bnd (ik (enc c).vW wz.2) fun G3=>some ((G3,G4))) (some ((wz.2,IT)))) fun (AS,yM)=>bnd (b8 (enc c).vNeg AS) fun x51=>some (yM,x51)| .inr r=>some r)=some (enc (a.fdiv c),enc (a.fmod c)):=by
  rintro r rfl
  dsimp only
  have hr:=ey a.natAbs (show 0<c.natAbs by omega)
  have hq:a.natAbs / c.natAbs≤a.natAbs:=pR _ _
  have hdm:=oV a.natAbs c.natAbs
  rw[m9 ha,m9 hc,iL ha,iL hc,Dw ha hc (by omega),ab]
  dsimp only
  rw[jz (qza1 hq ha),ab,z16]
  simp only[Df (Ak hr hc) wq]
  have JN:(c.natAbs:Int)*((a.natAbs / c.natAbs:Nat):Int)+((a.natAbs % c.natAbs:Nat):Int)=(a.natAbs:Int):=by rw[←qq,←oc,hdm]
  generalize hQ:a.natAbs / c.natAbs=Q at JN hq ⊢
  generalize hR:a.natAbs % c.natAbs=R at JN hr ⊢
  by_cases hs:decide (a<0)=decide (c<0)
  ·have IX:=mJ.1 hs
   rw[hs,vA,fc]
   rw[show (cnd (decide (¬(R=0))) (some false) (some false))=some false from by rw[PQ],ab,a9,ab]
   dsimp only[cond_false]
   rw[jz (Ak hr hc),ab]
   obtain⟨h1,h2⟩:=m7 (x:=a) h0 (Q:Int) (bif decide (c<0) then -(R:Int) else (R:Int)) (by
    by_cases GZ:c<0
    ·rw[iP GZ,ig]
     have e:c=-(c.natAbs:Int):=by omega
     have e2:a=-(a.natAbs:Int):=by omega
     rw[e2,←JN]
     conv=>lhs;rw[e]
     rw[An,rJ];omega
    ·rw[gX GZ,cond_false]
     have e:c=(c.natAbs:Int):=by omega
     have e2:a=(a.natAbs:Int):=by omega
     rw[e2,←JN]
     conv=>lhs;rw[e]
     rw[rJ]) (by
    by_cases GZ:c<0
    ·rw[iP GZ,ig];omega
    ·rw[gX GZ,cond_false];omega)
   rw[←h1,←h2]
  ·have IX:¬((a<0)↔(c<0)):=fun h=>hs (mJ.2 h)
   have hb:(decide (a<0) == decide (c<0))=false:=Ai.2 hs
   rw[hb,pU,ig]
   have hmul:-(Q:Int)*c=(if c<0 then 1 else -1)*((c.natAbs:Int)*(Q:Int)):=by
    split
    ·have e:c=-(c.natAbs:Int):=by omega
     conv=>lhs;rw[e]
     rw[GC,CZ,rJ]
    ·have e:c=(c.natAbs:Int):=by omega
     conv=>lhs;rw[e]
     rw[C5,C5,CZ,rJ]
   by_cases I1:R=0
   ·rw[bA _ _ (by simpa using I1),ab,a9,ab]
    dsimp only
    rw[jz (Ak hr hc),ab]
    obtain⟨h1,h2⟩:=m7 (x:=a) h0 (-(Q:Int)) 0 (by rw[hmul];subst I1;split <;> omega) (by omega)
    rw[←h1,←h2]
    subst I1
    cases decide (c<0) <;> rfl
   ·have hQ1:((-(Q:Int)).natAbs)<LIM:=by rw[Int.natAbs_neg,dY];exact qza1 hq ha
    rw[bF _ _ I1,ab,ew,GR (by decide) (by decide),ab,G_Sub hQ1 (by decide),ab,GP (oW hr),ab,ab]
    dsimp only
    rw[jz (qza1 (Nat.sub_le _ _) hc),ab]
    obtain⟨h1,h2⟩:=m7 (x:=a) h0 (-(Q:Int) - 1) (bif decide (c<0) then -((c.natAbs - R:Nat):Int) else ((c.natAbs - R:Nat):Int)) (by
     rw[Int.sub_mul,hmul]
     by_cases GZ:c<0
     ·rw[iP GZ,ig,aQ GZ];omega
     ·rw[gX GZ,cond_false,aV GZ];omega) (by
     by_cases GZ:c<0
     ·rw[iP GZ,ig];omega
     ·rw[gX GZ,cond_false];omega)
    rw[←h1,←h2]
 unfold lE
 rw[ui,bD ha,bD hc,ab,ck,fc,a9,Ar hc,ab,ab,bA _ _ (by rw[Kw];exact h0),LS ha,ab]
 have OU:∀z:Int,(bnd (S:=Bool) (cnd (if -9223372036854775808≤z∧z<9223372036854775808 then (z,true) else (0,false):Int×Bool).2 (some (decide ((if -9223372036854775808≤z∧z<9223372036854775808 then (z,true) else (0,false):Int×Bool).1≠(-9223372036854775808:Int)))) (some (false))) fun a=>some a)=some (decide (-9223372036854775807≤z∧z≤9223372036854775807)):=by
  intro z
  rw[oT]
  split
  ·rw[ew];congr 1;exact mJ.2 (by omega)
  ·rw[a9];congr 1;exact (def_).symm
 have e1:=OU a
 have e2:=OU c
 rw[oT] at e1 e2
 rw[e1,ab,fU]
 split
 ·rename_i h1
  rw[LS hc,ab,e2,ab,fU]
  split
  ·rename_i h2
   rw[ifp_,ifp_,aI h0,aI h0,PC h1 h2 h0,ab]
  ·rw[ab];exact slow _ rfl
 ·rw[ab];exact slow _ rfl
theorem LT {a c:Int}(ha:a.natAbs<LIM)(hc:c.natAbs<LIM)(h0:c≠0):kI (enc a) (enc c)=some (enc (a.fdiv c)):=by
 unfold kI
 rw[MW ha hc h0,ab]
end
end Go.Proofs.YtgfcnncojhkcoaaGreat
