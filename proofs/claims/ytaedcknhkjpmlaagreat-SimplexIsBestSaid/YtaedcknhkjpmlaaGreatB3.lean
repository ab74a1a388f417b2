/-
  Lemmas, part 3. Conditions: none.
-/
import Derived.Test.YtaedcknhkjpmlaaGreatB2
set_option linter.all false
set_option maxRecDepth 100000
set_option maxHeartbeats 4000000
namespace Go.Proofs.YtaedcknhkjpmlaaGreat
open Go.RowKit Go.IntKind Tryz
noncomputable section
def i7(aI:ao)(aQ:ao)(x8:Int)(bt:Int):Int×Int×(Vector Int 32)→Option ((Int×Int×(Vector Int 32))⊕(Int×(Vector Int 32))):=fun (HA,qy,CN)=>cnd (decide (qy<x8)) (gd (0≤bt∧bt<16) (gd (0≤qy∧qy<16) (gd (0≤i64.wrap (bt+qy)∧i64.wrap (bt+qy)<32) (bnd (some (u64.wrap (HA+(u64.wrap ((u64.wrap ((u64.wrap ((aI.vW)[(bt).toNat]!))*(u64.wrap ((aQ.vW)[(qy).toNat]!))))+(u64.wrap ((CN)[(i64.wrap (bt+qy)).toNat]!))))))) fun sE=>gd (0≤i64.wrap (bt+qy)∧i64.wrap (bt+qy)<32) (bnd (some ((CN).set! (i64.wrap (bt+qy)).toNat (u32.wrap (sE)))) fun CR=>some (.inl (mh .u64 sE (32:Int),i64.wrap (qy+(1:Int)),CR))))))) (some (.inr (HA,CN)))
def i8(aI:ao)(aQ:ao)(x6:Int)(x8:Int):Int×(Vector Int 32)→Option ((Int×(Vector Int 32))⊕((Vector Int 32))):=fun (bt,my)=>cnd (decide (bt<x6)) (bnd (bq (i7 aI aQ x8 bt) ((0:Int),(0:Int),my)) fun (xJ,xI)=>gd (0≤i64.wrap (bt+x8)∧i64.wrap (bt+x8)<32) (bnd (some ((xI).set! (i64.wrap (bt+x8)).toNat (u32.wrap (xJ)))) fun AV=>some (.inl (i64.wrap (bt+(1:Int)),AV)))) (some (.inr my))
def jr(aI:ao)(aQ:ao):Option ao:=bnd (cv [aI,aQ]) fun x1=>cnd (!x1) (bnd (d9) fun x4=>some x4) (bnd (eK aI.vW) fun x6=>bnd (eK aQ.vW) fun x8=>bnd (bq (i8 aI aQ x6 x8) ((0:Int),(Vector.replicate 32 (0:Int)))) fun eM=>cnd (decide (¬(vOf 16 (List.take 16 (List.drop 16 (eM).toList))=#v[(0:Int),0,0,0,0,0,0,0,0,0,0,0,0,0,0,0]))) (bnd (d9) fun HP=>some HP) (bnd (bG (!(aI.vNeg == aQ.vNeg)) (vOf 16 (List.take 16 (List.drop 0 (eM).toList)))) fun LQ=>some LQ))
theorem l9 {aI:ao}{aQ:ao}{r:ao}(h:jr aI aQ=some r):aq prog 94 [dG ap aI,dG ap aQ] (dG ap r):=by
 refine bh (rs:=[.cell 4 41]) (fun cx hx h0=>?_) func94
 unfold jr at h
 refine rai hx ?_
 refine AW.seq (rs hx fun K hK=>?_)
 iterate 2 refine sbi ?_
 refine s1 (lj ([aI,aQ]:List ao) ap qD fc) ?_
 refine scb h fb fun x1 h=>?_
 refine nbi hK ?_
 refine cdh h rfl (fun fG h=>?_) (fun fG h=>?_)
 refine rs hx fun K hK=>?_
 refine scb h gl fun x4 h=>?_
 refine nbi hK ?_
 exact AW.ret (rtv h)
 refine AW.skip (rs hx fun K hK=>?_)
 refine s1 (yD (F:=(cA 32 (cI .u32)).f (Vector.replicate 32 (0:Int))) H2) ?_
 refine nl hK ?_
 refine rsd [148] hx fun K hK=>?_
 refine mbi ?_
 refine cqb h kQ fun x6 h=>?_
 refine mbi ?_
 refine cqb h kQ fun x8 h=>?_
 refine nbi hK ?_
 refine AW.seq (ra hx ?_)
 refine AW.block ?_
 obtain⟨eM,hy,h⟩:=ae h
 refine lp (S:=Int×(Vector Int 32)) (X:=(Vector Int 32)) (fun (bt,my)=>[(2,.pt 0 0),(3,.pt 1 0),(4,.pt 2 0),(5,.pt 3 0),(7,dI .i64 x8),(23,dI .i64 x6),(24,dI .i64 bt)]) (fun (bt,my)=>⟨[(0,dC (ap.f aI)),(1,dC (ap.f aQ)),(2,dC (ap.f cj)),(3,dC ((cA 32 (cI .u32)).f my))],[],4⟩) (PE cx (.exit 0) (fun eM=>[(2,.pt 0 0),(3,.pt 1 0),(4,.pt 2 0),(5,.pt 3 0)]) fun eM=>⟨[(0,dC (ap.f aI)),(1,dC (ap.f aQ)),(2,dC (ap.f cj)),(3,dC ((cA 32 (cI .u32)).f eM))],[],4⟩) hy ?_ ?_ ?_
 exact wk0 h0 [0,1,2,4]
 clear hy h
 rintro⟨bt,my⟩ y h
 dsimp only[i8] at h
 refine ra hx ?_
 refine AW.seq (cdh h rfl (fun nK h=>?_) (fun nK h=>?_))
 refine AW.skip (AW.seq (AW.block ?_))
 iterate 2 refine ra hx ?_
 refine AW.seq (ra hx ?_)
 refine AW.block ?_
 obtain⟨y,hy,h⟩:=ae h
 refine lp (S:=Int×Int×(Vector Int 32)) (X:=Int×(Vector Int 32)) (fun (HA,qy,CN)=>[(2,.pt 0 0),(3,.pt 1 0),(4,.pt 2 0),(5,.pt 3 0),(7,dI .i64 x8),(8,dI .i64 bt),(9,dI .u64 HA),(23,dI .i64 x6),(24,dI .i64 bt),(27,dI .i64 x8),(28,dI .i64 qy)]) (fun (HA,qy,CN)=>⟨[(0,dC (ap.f aI)),(1,dC (ap.f aQ)),(2,dC (ap.f cj)),(3,dC ((cA 32 (cI .u32)).f CN))],[],4⟩) (PE cx (.exit 2) (fun (xJ,xI)=>[(2,.pt 0 0),(3,.pt 1 0),(4,.pt 2 0),(5,.pt 3 0),(7,dI .i64 x8),(8,dI .i64 bt),(9,dI .u64 xJ),(23,dI .i64 x6),(24,dI .i64 bt)]) fun (xJ,xI)=>⟨[(0,dC (ap.f aI)),(1,dC (ap.f aQ)),(2,dC (ap.f cj)),(3,dC ((cA 32 (cI .u32)).f xI))],[],4⟩) hy ?_ ?_ ?_
 exact wk0 h0 [0,1,2,3]
 clear hy h
 rintro⟨HA,qy,CN⟩ y h
 dsimp only[i7] at h
 refine ra hx ?_
 refine AW.seq (cdh h rfl (fun wh h=>?_) (fun wh h=>?_))
 refine AW.skip (AW.seq (AW.block (ra hx ?_)))
 refine rsd [] hx fun K hK=>?_
 iterate 3 refine sa ?_
 obtain⟨hc12,h⟩:=ay h
 iterate 5 refine sbi ?_
 obtain⟨hc14,h⟩:=ay h
 iterate 7 refine sbi ?_
 obtain⟨Qr,h⟩:=ay h
 iterate 5 refine sbi ?_
 obtain⟨sE,Ec,h⟩:=ae h
 replace Ec:=bC Ec
 refine s2 (d2:=dI .u64 sE) lH (gq (congrArg (dI .u64) Ec)) ?_
 refine nl hK ?_
 refine rs hx fun K hK=>?_
 iterate 5 refine sa ?_
 obtain⟨hc20,h⟩:=ay h
 have hn21:(i64.wrap (bt+qy)).toNat<32:=by omega
 refine sbi ?_
 obtain⟨CR,MG,h⟩:=ae h
 replace MG:=bC MG
 refine s0 (nR (b':=u32.wrap (sE)) (bV.comp (bV.id _ _) (bV.vec (cI .u32) CN (i64.wrap (bt+qy)).toNat hn21) (fun _=>rfl)) bQ MG) ?_
 refine nl hK ?_
 iterate 2 refine rb hx ?_
 exact pel h h0 [0,1,2,3]
 exact AW.exit (per h h0 [0,1,2,3])
 obtain⟨xJ,xI⟩:=y
 refine lw0 ?_
 refine rq hx fun K hK=>?_
 iterate 5 refine sa ?_
 obtain⟨hc25,h⟩:=ay h
 have hn26:(i64.wrap (bt+x8)).toNat<32:=by omega
 refine sbi ?_
 obtain⟨AV,Ix,h⟩:=ae h
 replace Ix:=bC Ix
 refine s0 (nR (b':=u32.wrap (xJ)) (bV.comp (bV.id _ _) (bV.vec (cI .u32) xI (i64.wrap (bt+x8)).toNat hn26) (fun _=>rfl)) bQ Ix) ?_
 refine nl hK ?_
 refine rb hx ?_
 exact pel h h0 [0,1,2,3]
 exact AW.exit (per h h0 [0,1,2,3])
 refine lw0 ?_
 refine AW.seq (rs hx fun K hK=>?_)
 refine q1 (slA (n:=32) (l:=(16:Int)) (h:=(32:Int)) tok (by decide) H2 bQ ⟨_,rfl⟩ rfl) ?_
 refine q1 (sPtr tok rfl cU) ?_
 refine s1 (d:=dG (cA 16 (cI .u32)) (vOf 16 (List.take 16 (List.drop 16 (eM).toList)))) (AQ (bV.sub (o:=16) 16 (cI .u32) eM 16 (by decide) (by first|rfl|decide)) cU) ?_
 refine s1 (d:=dG (cA 16 (cI .u32)) (#v[(0:Int),0,0,0,0,0,0,0,0,0,0,0,0,0,0,0])) (mz cU bQ) ?_
 refine s1 (xj tok 2 (by decide) (EqC.arr (EqC.int (d:=0) bQ) cU bQ) cU) ?_
 refine nl hK ?_
 refine cdh h rfl (fun Tw h=>?_) (fun Tw h=>?_)
 refine rs hx fun K hK=>?_
 refine scb h gl fun HP h=>?_
 refine nbi hK ?_
 exact AW.ret (rtv h)
 refine AW.skip (rsd [145] hx fun K hK=>?_)
 iterate 5 refine sbi ?_
 refine q1 (slA (n:=32) (l:=(0:Int)) (h:=(16:Int)) tok (by decide) H2 bQ rfl ⟨_,rfl⟩) ?_
 refine q1 (sPtr tok rfl cU) ?_
 refine s1 (d:=dG (cA 16 (cI .u32)) (vOf 16 (List.take 16 (List.drop 0 (eM).toList)))) (AQ (bV.sub (o:=0) 16 (cI .u32) eM 0 (by decide) (by first|rfl|decide)) cU) ?_
 obtain⟨LQ,Qg,h⟩:=ae h
 refine sq tok (de Qg) (by simp only[iW,l8,f5,ic,eI,b8];exact⟨rfl,cm _ _⟩) (lA (au _) (lA (nJ _ _) lAn)) (.inl (jJ _ _)) ?_
 refine nbi hK ?_
 exact AW.ret (rtv h)
def fM(aM:Int):Option Int:=bnd (mK aM) fun x1=>some (i64.wrap ((32:Int) - x1))
theorem v5 {aM:Int}{r:Int}(h:fM aM=some r):aq prog 188 [dI .u32 aM] (dI .i64 r):=by
 refine bh (rs:=[.tmp 2]) (fun cx hx h0=>?_) func188
 unfold fM at h
 refine ra hx ?_
 refine rs hx fun K hK=>?_
 refine sa ?_
 refine scb h zT fun x1 h=>?_
 refine nbi hK ?_
 exact AW.ret (rtv h)
def jR(CU:Vector Int 16)(c0:Int)(nd:Int)(oY:Vector Int 17)(x9:Int):Int×Int→Option ((Int×Int)⊕Int):=fun (dA,bP)=>bnd (S:=Bool) (cnd (decide (bP<(4294967296:Int))) (cnd (decide ((4294967296:Int)≤dA)) (some (true)) (gd (0≤i64.wrap (c0 - (2:Int))∧i64.wrap (c0 - (2:Int))<16) (gd (0≤i64.wrap ((i64.wrap (nd+c0)) - (2:Int))∧i64.wrap ((i64.wrap (nd+c0)) - (2:Int))<17) (some (decide ((ior .u64 (za .u64 bP (32:Int)) (u64.wrap ((oY)[(i64.wrap ((i64.wrap (nd+c0)) - (2:Int))).toNat]!)))<(u64.wrap (dA*(u64.wrap ((CU)[(i64.wrap (c0 - (2:Int))).toNat]!)))))))))) (some (false))) fun ey=>cnd ey (some (.inl (u64.wrap (dA - (1:Int)),u64.wrap (bP+x9)))) (some (.inr dA))
def iY(CU:Vector Int 16)(c0:Int)(nd:Int)(oY:Vector Int 17):Option Int:=gd (0≤i64.wrap (nd+c0)∧i64.wrap (nd+c0)<17) (gd (0≤i64.wrap ((i64.wrap (nd+c0)) - (1:Int))∧i64.wrap ((i64.wrap (nd+c0)) - (1:Int))<17) (bnd (some (ior .u64 (za .u64 (u64.wrap ((oY)[(i64.wrap (nd+c0)).toNat]!)) (32:Int)) (u64.wrap ((oY)[(i64.wrap ((i64.wrap (nd+c0)) - (1:Int))).toNat]!)))) fun x5=>gd (0≤i64.wrap (c0 - (1:Int))∧i64.wrap (c0 - (1:Int))<16) (bnd (some (u64.wrap ((CU)[(i64.wrap (c0 - (1:Int))).toNat]!))) fun x9=>gd (x9≠0) (gd (x9≠0) (bnd (bq (jR CU c0 nd oY x9) (u64.wrap (Int.tdiv x5 x9),Int.tmod x5 x9)) fun cl=>some cl)))))
theorem CS {CU:Vector Int 16}{c0:Int}{nd:Int}{oY:Vector Int 17}{r:Int}(h:iY CU c0 nd oY=some r):HC prog 190 [.pt 0 0,dG (cA 16 (cI .u32)) CU,dI .i64 c0,dI .i64 nd] ⟨[(0,dC ((cA 17 (cI .u32)).f oY))],[],1⟩ (dI .u64 r) ⟨[(0,dC ((cA 17 (cI .u32)).f oY))],[],1⟩:=by
 refine HC.of (rs:=[.tmp 8]) tok func190 rfl rfl (a9 rfl) rfl (fun cx hx h1 hok=>?_)
 have h0:cx.hp0.next=1:=by rw[h1]
 simp only[fC,Nat.reduceAdd,br]
 unfold iY at h
 refine ra hx ?_
 refine rsd [] hx fun K hK=>?_
 iterate 5 refine sa ?_
 obtain⟨LW,h⟩:=ay h
 iterate 10 refine sbi ?_
 obtain⟨hc3,h⟩:=ay h
 iterate 4 refine sbi ?_
 obtain⟨x5,Gu,h⟩:=ae h
 replace Gu:=bC Gu
 refine s2 (d2:=dI .u64 x5) lH (gq (congrArg (dI .u64) Gu)) ?_
 refine nl hK ?_
 refine rs hx fun K hK=>?_
 iterate 2 refine sa ?_
 obtain⟨hc7,h⟩:=ay h
 iterate 3 refine sbi ?_
 obtain⟨x9,MH,h⟩:=ae h
 replace MH:=bC MH
 refine s2 (d2:=dI .u64 x9) lH (gq (congrArg (dI .u64) MH)) ?_
 refine nl hK ?_
 refine rsd [] hx fun K hK=>?_
 iterate 2 refine sa ?_
 obtain⟨Tt,h⟩:=ay h
 refine s1 (HG Tt) ?_
 iterate 2 refine sa ?_
 obtain⟨hc12,h⟩:=ay h
 refine s1 (Fk hc12) ?_
 refine nbi hK ?_
 refine AW.seq (AW.block ?_)
 obtain⟨cl,hy,h⟩:=ae h
 refine lp (S:=Int×Int) (X:=Int) (fun (dA,bP)=>[(0,.pt 0 0),(2,dI .i64 c0),(3,dI .i64 nd),(5,.pt 1 0),(10,dI .u64 x9),(11,dI .u64 dA),(12,dI .u64 bP)]) (fun (dA,bP)=>⟨[(0,dC ((cA 17 (cI .u32)).f oY)),(1,dC ((cA 16 (cI .u32)).f CU))],[],2⟩) (PE cx (.exit 0) (fun cl=>[(11,dI .u64 cl)]) fun cl=>⟨[(0,dC ((cA 17 (cI .u32)).f oY))],[],1⟩) hy ?_ ?_ ?_
 exact wkN h0 [1] (wR rfl (wR rfl (wR rfl (wR rfl (wR rfl (wR rfl (wR rfl wTn))))))) (vC rfl (vC rfl wVn)) wLn
 clear hy h
 rintro⟨dA,bP⟩ y h
 dsimp only[jR] at h
 iterate 2 refine AW.seq ?_
 obtain⟨ey,hy,h⟩:=ae h
 refine jn ((PE cx .normal (fun ey=>[(0,.pt 0 0),(2,dI .i64 c0),(3,dI .i64 nd),(5,.pt 1 0),(10,dI .u64 x9),(11,dI .u64 dA),(12,dI .u64 bP),(70,dB ey)]) fun ey=>⟨[(0,dC ((cA 17 (cI .u32)).f oY)),(1,dC ((cA 16 (cI .u32)).f CU))],[],2⟩) ey) ?_ ?_
 replace h:=hy
 refine rqd [] hx fun K hK=>?_
 refine mbi ?_
 rcases aE h with⟨GB,h⟩|⟨GB,h⟩
 refine mbi ?_
 rcases aE h with⟨uO,h⟩|⟨uO,h⟩
 refine nbi hK ?_
 cases h
 exact PE.i (wkN h0 [1] (wR rfl (wR rfl (wR rfl (wR rfl (wR rfl (wR rfl (wR rfl (wR rfl wTn)))))))) (vC rfl (vC rfl wVn)) wLn)
 iterate 3 refine ga uO ?_
 obtain⟨hc15,h⟩:=ay h
 iterate 2 refine gbi ?_
 iterate 3 refine ga uO ?_
 refine g1 uO (U1 (b:=(32:Int)) (by decide)) ?_
 iterate 6 refine ga uO ?_
 obtain⟨hc17,h⟩:=ay h
 iterate 2 refine gbi ?_
 refine ga uO ?_
 refine g1 uO T_or ?_
 refine nbi hK ?_
 cases h
 exact PE.i (wkN h0 [1] (wR rfl (wR rfl (wR rfl (wR rfl (wR rfl (wR rfl (wR rfl (wR rfl wTn)))))))) (vC rfl (vC rfl wVn)) wLn)
 iterate 3 refine D0 rfl rfl GB ?_
 iterate 20 refine Sn rfl rfl ?_
 refine nbi hK ?_
 cases h
 exact PE.i (wkN h0 [1] (wR rfl (wR rfl (wR rfl (wR rfl (wR rfl (wR rfl (wR rfl (wR rfl wTn)))))))) (vC rfl (vC rfl wVn)) wLn)
 refine lw0 ?_
 refine cdh h rfl (fun TA h=>?_) (fun TA h=>?_)
 refine AW.skip (AW.block (ra hx ?_))
 refine rb hx ?_
 cases h
 exact PS.l (PE.i (wkN h0 [1] (wR rfl (wR rfl (wR rfl (wR rfl (wR rfl (wR rfl (wR rfl wTn))))))) (vC rfl (vC rfl wVn)) wLn))
 refine AW.exit ?_
 try dsimp only
 try simp only[ve,reduceIte,Nat.reduceEqDiff,reduceCtorEq]
 cases h
 exact PS.r ⟨by nofun,PE.i (wkN h0 [] (wR rfl wTn) (vC rfl wVn) wLn)⟩
 refine lw0 ?_
 refine ra hx ?_
 refine AW.ret ?_
 cases h
 exact rH1 (wkN h0 [] (wR rfl wTn) (vC rfl wVn) wLn)
def jo(CU:Vector Int 16)(c0:Int)(nd:Int)(Aa:Int):Int×Int×Int×(Vector Int 17)→Option ((Int×Int×Int×(Vector Int 17))⊕(Int×Int×(Vector Int 17))):=fun (aP,bp,mQ,Lx)=>cnd (decide (mQ<c0)) (gd (0≤mQ∧mQ<16) (bnd (some (u64.wrap (aP+(u64.wrap (Aa*(u64.wrap ((CU)[(mQ).toNat]!))))))) fun x4=>gd (0≤i64.wrap (nd+mQ)∧i64.wrap (nd+mQ)<17) (bnd (some (u64.wrap ((u64.wrap ((u64.wrap ((Lx)[(i64.wrap (nd+mQ)).toNat]!)) - (u64.wrap (u32.wrap (x4))))) - bp))) fun x8=>gd (0≤i64.wrap (nd+mQ)∧i64.wrap (nd+mQ)<17) (bnd (some ((Lx).set! (i64.wrap (nd+mQ)).toNat (u32.wrap (x8)))) fun nC=>some (.inl (mh .u64 x4 (32:Int),mh .u64 x8 (63:Int),i64.wrap (mQ+(1:Int)),nC)))))) (some (.inr (aP,bp,Lx)))
def j3(CU:Vector Int 16)(c0:Int)(nd:Int)(Aa:Int)(oY:Vector Int 17):Option (Bool×(Vector Int 17)):=bnd (bq (jo CU c0 nd Aa) ((0:Int),(0:Int),(0:Int),oY)) fun (be,kE,zB)=>gd (0≤i64.wrap (nd+c0)∧i64.wrap (nd+c0)<17) (bnd (some (u64.wrap ((u64.wrap ((u64.wrap ((zB)[(i64.wrap (nd+c0)).toNat]!)) - be)) - kE))) fun o3=>gd (0≤i64.wrap (nd+c0)∧i64.wrap (nd+c0)<17) (bnd (some ((zB).set! (i64.wrap (nd+c0)).toNat (u32.wrap (o3)))) fun wm=>some (decide ((mh .u64 o3 (63:Int))=(1:Int)),wm)))
theorem Dy {CU:Vector Int 16}{c0:Int}{nd:Int}{Aa:Int}{oY:Vector Int 17}{r:Bool×(Vector Int 17)}(h:j3 CU c0 nd Aa oY=some r):HC prog 191 [.pt 0 0,dG (cA 16 (cI .u32)) CU,dI .i64 c0,dI .i64 nd,dI .u64 Aa] ⟨[(0,dC ((cA 17 (cI .u32)).f oY))],[],1⟩ (dB r.1) ⟨[(0,dC ((cA 17 (cI .u32)).f r.2))],[],1⟩:=by
 refine HC.of (rs:=[.tmp 10]) tok func191 rfl rfl (a9 rfl) rfl (fun cx hx h1 hok=>?_)
 have h0:cx.hp0.next=1:=by rw[h1]
 simp only[fC,Nat.reduceAdd,br]
 unfold j3 at h
 iterate 2 refine ra hx ?_
 refine AW.seq (ra hx ?_)
 refine AW.block ?_
 obtain⟨y,hy,h⟩:=ae h
 refine lp (S:=Int×Int×Int×(Vector Int 17)) (X:=Int×Int×(Vector Int 17)) (fun (aP,bp,mQ,Lx)=>[(0,.pt 0 0),(2,dI .i64 c0),(3,dI .i64 nd),(4,dI .u64 Aa),(6,.pt 1 0),(11,dI .u64 aP),(12,dI .u64 bp),(16,dI .i64 c0),(17,dI .i64 mQ)]) (fun (aP,bp,mQ,Lx)=>⟨[(0,dC ((cA 17 (cI .u32)).f Lx)),(1,dC ((cA 16 (cI .u32)).f CU))],[],2⟩) (PE cx (.exit 0) (fun (be,kE,zB)=>[(0,.pt 0 0),(2,dI .i64 c0),(3,dI .i64 nd),(11,dI .u64 be),(12,dI .u64 kE)]) fun (be,kE,zB)=>⟨[(0,dC ((cA 17 (cI .u32)).f zB))],[],1⟩) hy ?_ ?_ ?_
 exact wkN h0 [1] (wR rfl (wR rfl (wR rfl (wR rfl (wR rfl (wR rfl (wR rfl (wR rfl (wR rfl wTn))))))))) (vC rfl (vC rfl wVn)) wLn
 clear hy h
 rintro⟨aP,bp,mQ,Lx⟩ y h
 dsimp only[jo] at h
 refine ra hx ?_
 refine AW.seq (cdh h rfl (fun fJ h=>?_) (fun fJ h=>?_))
 refine AW.skip (AW.seq (AW.block (ra hx ?_)))
 refine rs hx fun K hK=>?_
 iterate 3 refine sa ?_
 obtain⟨q8,h⟩:=ay h
 iterate 5 refine sbi ?_
 obtain⟨x4,Qf,h⟩:=ae h
 replace Qf:=bC Qf
 refine s2 (d2:=dI .u64 x4) lH (gq (congrArg (dI .u64) Qf)) ?_
 refine nl hK ?_
 refine rs hx fun K hK=>?_
 iterate 5 refine sa ?_
 obtain⟨hc6,h⟩:=ay h
 iterate 9 refine sbi ?_
 obtain⟨x8,Q8,h⟩:=ae h
 replace Q8:=bC Q8
 refine s2 (d2:=dI .u64 x8) lH (gq (congrArg (dI .u64) Q8)) ?_
 refine nl hK ?_
 refine rs hx fun K hK=>?_
 iterate 7 refine sa ?_
 obtain⟨MU,h⟩:=ay h
 have hn11:(i64.wrap (nd+mQ)).toNat<17:=by omega
 refine sbi ?_
 obtain⟨nC,BJ,h⟩:=ae h
 replace BJ:=bC BJ
 refine s0 (nR (b':=u32.wrap (x8)) (bV.comp (bV.id _ _) (bV.vec (cI .u32) Lx (i64.wrap (nd+mQ)).toNat hn11) (fun _=>rfl)) bQ BJ) ?_
 refine nl hK ?_
 refine ra hx ?_
 iterate 2 refine rb hx ?_
 cases h
 exact PS.l (PE.i (wkN h0 [1] (wR rfl (wR rfl (wR rfl (wR rfl (wR rfl (wR rfl (wR rfl (wR rfl (wR rfl wTn))))))))) (vC rfl (vC rfl wVn)) wLn))
 refine AW.exit ?_
 try dsimp only
 try simp only[ve,reduceIte,Nat.reduceEqDiff,reduceCtorEq]
 cases h
 exact PS.r ⟨by nofun,PE.i (wkN h0 [] (wR rfl (wR rfl (wR rfl (wR rfl (wR rfl wTn))))) (vC rfl wVn) wLn)⟩
 obtain⟨be,kE,zB⟩:=y
 refine lw0 ?_
 refine rs hx fun K hK=>?_
 iterate 5 refine sa ?_
 obtain⟨hc15,h⟩:=ay h
 iterate 7 refine sbi ?_
 obtain⟨o3,v9,h⟩:=ae h
 replace v9:=bC v9
 refine s2 (d2:=dI .u64 o3) lH (gq (congrArg (dI .u64) v9)) ?_
 refine nl hK ?_
 refine rs hx fun K hK=>?_
 iterate 7 refine sa ?_
 obtain⟨hc19,h⟩:=ay h
 have hn20:(i64.wrap (nd+c0)).toNat<17:=by omega
 refine sbi ?_
 obtain⟨wm,SN,h⟩:=ae h
 replace SN:=bC SN
 refine s0 (nR (b':=u32.wrap (o3)) (bV.comp (bV.id _ _) (bV.vec (cI .u32) zB (i64.wrap (nd+c0)).toNat hn20) (fun _=>rfl)) bQ SN) ?_
 refine nl hK ?_
 refine ra hx ?_
 refine AW.ret ?_
 cases h
 exact rH1 (wkN h0 [] (wR rfl wTn) (vC rfl wVn) wLn)
def jq(CU:Vector Int 16)(c0:Int)(nd:Int):Int×Int×(Vector Int 17)→Option ((Int×Int×(Vector Int 17))⊕(Int×(Vector Int 17))):=fun (aP,bp,mQ)=>cnd (decide (bp<c0)) (gd (0≤i64.wrap (nd+bp)∧i64.wrap (nd+bp)<17) (gd (0≤bp∧bp<16) (bnd (some (u64.wrap (aP+(u64.wrap ((u64.wrap ((mQ)[(i64.wrap (nd+bp)).toNat]!))+(u64.wrap ((CU)[(bp).toNat]!))))))) fun x6=>gd (0≤i64.wrap (nd+bp)∧i64.wrap (nd+bp)<17) (bnd (some ((mQ).set! (i64.wrap (nd+bp)).toNat (u32.wrap (x6)))) fun n7=>some (.inl (mh .u64 x6 (32:Int),i64.wrap (bp+(1:Int)),n7)))))) (some (.inr (aP,mQ)))
def j7(CU:Vector Int 16)(c0:Int)(nd:Int)(oY:Vector Int 17):Option (Vector Int 17):=bnd (bq (jq CU c0 nd) ((0:Int),(0:Int),oY)) fun (be,kE)=>gd (0≤i64.wrap (nd+c0)∧i64.wrap (nd+c0)<17) (gd (0≤i64.wrap (nd+c0)∧i64.wrap (nd+c0)<17) (bnd (some ((kE).set! (i64.wrap (nd+c0)).toNat (u32.wrap (((kE)[(i64.wrap (nd+c0)).toNat]!)+(u32.wrap (be)))))) fun o3=>some o3))
theorem Dz {CU:Vector Int 16}{c0:Int}{nd:Int}{oY:Vector Int 17}{r:Vector Int 17}(h:j7 CU c0 nd oY=some r):HC prog 192 [.pt 0 0,dG (cA 16 (cI .u32)) CU,dI .i64 c0,dI .i64 nd] ⟨[(0,dC ((cA 17 (cI .u32)).f oY))],[],1⟩ (.tu []) ⟨[(0,dC ((cA 17 (cI .u32)).f r))],[],1⟩:=by
 refine HC.of (rs:=[]) tok func192 rfl rfl (a9 rfl) rfl (fun cx hx h1 hok=>?_)
 have h0:cx.hp0.next=1:=by rw[h1]
 simp only[fC,Nat.reduceAdd,br]
 unfold j7 at h
 iterate 2 refine ra hx ?_
 refine AW.seq (ra hx ?_)
 refine AW.block ?_
 obtain⟨y,hy,h⟩:=ae h
 refine lp (S:=Int×Int×(Vector Int 17)) (X:=Int×(Vector Int 17)) (fun (aP,bp,mQ)=>[(0,.pt 0 0),(2,dI .i64 c0),(3,dI .i64 nd),(5,.pt 1 0),(8,dI .u64 aP),(10,dI .i64 c0),(11,dI .i64 bp)]) (fun (aP,bp,mQ)=>⟨[(0,dC ((cA 17 (cI .u32)).f mQ)),(1,dC ((cA 16 (cI .u32)).f CU))],[],2⟩) (PE cx (.exit 0) (fun (be,kE)=>[(0,.pt 0 0),(2,dI .i64 c0),(3,dI .i64 nd),(8,dI .u64 be)]) fun (be,kE)=>⟨[(0,dC ((cA 17 (cI .u32)).f kE))],[],1⟩) hy ?_ ?_ ?_
 exact wkN h0 [1] (wR rfl (wR rfl (wR rfl (wR rfl (wR rfl (wR rfl (wR rfl wTn))))))) (vC rfl (vC rfl wVn)) wLn
 clear hy h
 rintro⟨aP,bp,mQ⟩ y h
 dsimp only[jq] at h
 refine ra hx ?_
 refine AW.seq (cdh h rfl (fun fJ h=>?_) (fun fJ h=>?_))
 refine AW.skip (AW.seq (AW.block (ra hx ?_)))
 refine rsd [] hx fun K hK=>?_
 iterate 6 refine sa ?_
 obtain⟨q8,h⟩:=ay h
 iterate 4 refine sbi ?_
 obtain⟨OU,h⟩:=ay h
 iterate 5 refine sbi ?_
 obtain⟨x6,v8,h⟩:=ae h
 replace v8:=bC v8
 refine s2 (d2:=dI .u64 x6) lH (gq (congrArg (dI .u64) v8)) ?_
 refine nl hK ?_
 refine rs hx fun K hK=>?_
 iterate 7 refine sa ?_
 obtain⟨hc8,h⟩:=ay h
 have hn9:(i64.wrap (nd+bp)).toNat<17:=by omega
 refine sbi ?_
 obtain⟨n7,Gw,h⟩:=ae h
 replace Gw:=bC Gw
 refine s0 (nR (b':=u32.wrap (x6)) (bV.comp (bV.id _ _) (bV.vec (cI .u32) mQ (i64.wrap (nd+bp)).toNat hn9) (fun _=>rfl)) bQ Gw) ?_
 refine nl hK ?_
 iterate 2 refine rb hx ?_
 cases h
 exact PS.l (PE.i (wkN h0 [1] (wR rfl (wR rfl (wR rfl (wR rfl (wR rfl (wR rfl (wR rfl wTn))))))) (vC rfl (vC rfl wVn)) wLn))
 refine AW.exit ?_
 try dsimp only
 try simp only[ve,reduceIte,Nat.reduceEqDiff,reduceCtorEq]
 cases h
 exact PS.r ⟨by nofun,PE.i (wkN h0 [] (wR rfl (wR rfl (wR rfl (wR rfl wTn)))) (vC rfl wVn) wLn)⟩
 obtain⟨be,kE⟩:=y
 refine lw0 ?_
 refine rqd [] hx fun K hK=>?_
 iterate 5 refine sa ?_
 obtain⟨hc13,h⟩:=ay h
 iterate 6 refine sbi ?_
 obtain⟨hc15,h⟩:=ay h
 have Ql:(i64.wrap (nd+c0)).toNat<17:=by omega
 refine sbi ?_
 obtain⟨o3,v9,h⟩:=ae h
 replace v9:=bC v9
 refine s0 (nR (b':=u32.wrap (((kE)[(i64.wrap (nd+c0)).toNat]!)+(u32.wrap (be)))) (bV.comp (bV.id _ _) (bV.vec (cI .u32) kE (i64.wrap (nd+c0)).toNat Ql) (fun _=>rfl)) bQ v9) ?_
 refine nl hK ?_
 cases h
 exact rH0 (wkN h0 [] wTn (vC rfl wVn) wLn)
def eS(x1:Int)(C7:(Vector Int 16)×Int):Int×(Vector Int 16)×(Vector Int 17)→Option ((Int×(Vector Int 16)×(Vector Int 17))⊕((Vector Int 16)×(Vector Int 17))):=fun (ss,CM,Ff)=>cnd (decide ((0:Int)≤ss)) (bnd (iY C7.1 x1 ss Ff) fun LZ=>bnd (S:=Int×(Vector Int 17)) (bnd (j3 C7.1 x1 ss LZ Ff) fun Rn=>cnd Rn.1 (bnd (j7 C7.1 x1 ss Rn.2) fun LQ=>some ((u64.wrap (LZ - (1:Int)),LQ))) (some ((LZ,Rn.2)))) fun (ul,Ly)=>gd (0≤ss∧ss<16) (some (.inl (i64.wrap (ss - (1:Int)),(CM).set! (ss).toNat (u32.wrap (ul)),Ly)))) (some (.inr (CM,Ff)))
def fT(aI:Vector Int 16)(aQ:Vector Int 16):Option ((Vector Int 16)×(Vector Int 16)):=bnd (eK aQ) fun x1=>bnd (eK aI) fun x3=>bnd (ii aI aQ) fun x5=>cnd (decide (x5<(0:Int))) (bnd (some (#v[(0:Int),0,0,0,0,0,0,0,0,0,0,0,0,0,0,0])) fun x8=>some (x8,aI)) (cnd (decide (x1=(1:Int))) (bnd (nj aI ((aQ)[((0:Int)).toNat]!)) fun nC=>bnd (some (#v[nC.2,0,0,0,0,0,0,0,0,0,0,0,0,0,0,0])) fun qc=>some (nC.1,qc)) (gd (0≤i64.wrap (x1 - (1:Int))∧i64.wrap (x1 - (1:Int))<16) (bnd (fM ((aQ)[(i64.wrap (x1 - (1:Int))).toNat]!)) fun sE=>bnd (pD aQ sE) fun C7=>bnd (pD aI sE) fun CR=>bnd (some (vOf 17 (lCp ((Vector.replicate 17 (0:Int))).toList 0 (List.take 17 (List.take 16 (List.drop 0 (CR.1).toList)))))) fun AX=>bnd (bq (eS x1 C7) (i64.wrap (x3 - x1),(ee),(AX).set! ((16:Int)).toNat CR.2)) fun (AJ,vh)=>bnd (oy (vOf 16 (List.take 16 (List.drop 0 (vh).toList))) sE) fun LP=>some (AJ,LP))))
theorem tS {aI:Vector Int 16}{aQ:Vector Int 16}{r:(Vector Int 16)×(Vector Int 16)}(h:fT aI aQ=some r):aq prog 162 [dG (cA 16 (cI .u32)) aI,dG (cA 16 (cI .u32)) aQ] (.tu [dG (cA 16 (cI .u32)) r.1,dG (cA 16 (cI .u32)) r.2]):=by
 refine bh (rs:=[.cell 4 39,.cell 5 39]) (fun cx hx h0=>?_) func162
 unfold fT at h
 refine rai hx ?_
 refine rsd [148] hx fun K hK=>?_
 refine mbi ?_
 refine cqb h kQ fun x1 h=>?_
 refine mbi ?_
 refine cqb h kQ fun x3 h=>?_
 refine nbi hK ?_
 refine AW.seq (rs hx fun K hK=>?_)
 refine mbi ?_
 refine scb h pR fun x5 h=>?_
 refine nbi hK ?_
 refine cdh h rfl (fun sZ h=>?_) (fun sZ h=>?_)
 refine AW.seq ?_
 obtain⟨x8,Q8,h⟩:=ae h
 replace Q8:=bC Q8
 refine jn (PE cx .normal (fun (_:Unit)=>[(4,.pt 0 0),(5,.pt 1 0)]) (fun (_:Unit)=>⟨[(0,dC ((cA 16 (cI .u32)).f x8)),(1,dC ((cA 16 (cI .u32)).f aI))],[],2⟩) ()) ?_ ?_
 refine dw (DW.split 1 2 (by decide) ?_ ?_)
 refine dwg [] [0,1,2,3] hx (by kernel_rfl) (by kernel_rfl) (by kernel_rfl) fun K hK=>?_
 dsimp only[d8,mP,mZ,List.map]
 refine s1 (d:=dG (cA 16 (cI .u32)) (#v[(0:Int),0,0,0,0,0,0,0,0,0,0,0,0,0,0,0])) (mz cU bQ) ?_
 refine sbi ?_
 refine s0 (nR (b':=#v[(0:Int),0,0,0,0,0,0,0,0,0,0,0,0,0,0,0]) (bV.id _ _) cU Q8) ?_
 refine tzi ?_
 exact .nil (hK _ _ (pe0 h0 [2,3]))
 refine dwg [] [0,2,1,3] hx (by kernel_rfl) (by kernel_rfl) (by kernel_rfl) fun K hK=>?_
 dsimp only[d8,mP,mZ,List.map]
 refine s1 (d:=dG (cA 16 (cI .u32)) (#v[(0:Int),0,0,0,0,0,0,0,0,0,0,0,0,0,0,0])) (mz cU bQ) ?_
 refine s0 (nR (b':=#v[(0:Int),0,0,0,0,0,0,0,0,0,0,0,0,0,0,0]) (bV.id _ _) cU Q8) ?_
 refine sbi ?_
 refine tzi ?_
 exact .nil (hK _ _ (pe0 h0 [2,3]))
 refine lw0 ?_
 refine AW.ret ?_
 cases h
 exact rv2
 refine AW.skip (AW.seq (ra hx ?_))
 refine cdh h rfl (fun nK h=>?_) (fun nK h=>?_)
 refine rs hx fun K hK=>?_
 refine sbi ?_
 refine s1 (vT (by decide:0≤(0:Int)∧(0:Int)<((16:Nat):Int)) cU bQ) ?_
 refine mbi ?_
 refine scb h F8 fun nC h=>?_
 refine nbi hK ?_
 refine rs hx fun K hK=>?_
 iterate 2 refine sbi ?_
 refine s1 (d:=dG (cA 16 (cI .u32)) (#v[nC.2,0,0,0,0,0,0,0,0,0,0,0,0,0,0,0])) (mz cU bQ) ?_
 refine tzi ?_
 obtain⟨qc,zb,h⟩:=ae h
 replace zb:=bC zb
 refine s0 (nR (b':=#v[nC.2,0,0,0,0,0,0,0,0,0,0,0,0,0,0,0]) (bV.id _ _) cU zb) ?_
 refine nl hK ?_
 refine AW.ret ?_
 cases h
 exact rv2
 refine AW.skip (rs hx fun K hK=>?_)
 iterate 2 refine sa ?_
 obtain⟨Qr,h⟩:=ay h
 refine mbi ?_
 refine scb h v5 fun sE h=>?_
 refine nbi hK ?_
 refine rs hx fun K hK=>?_
 refine mbi ?_
 refine scb h Dx fun C7 h=>?_
 refine nbi hK ?_
 refine rs hx fun K hK=>?_
 refine mbi ?_
 refine scb h Dx fun CR h=>?_
 refine nbi hK ?_
 refine rs hx fun K hK=>?_
 refine s1 (yD (F:=(cA 17 (cI .u32)).f (Vector.replicate 17 (0:Int))) DG) ?_
 refine nl hK ?_
 refine rsd [] hx fun K hK=>?_
 refine q1 (slA (n:=17) (l:=(0:Int)) (h:=(17:Int)) tok (by decide) DG bQ rfl rfl) ?_
 refine q1 (slA (n:=16) (l:=(0:Int)) (h:=(16:Int)) tok (by decide) cU bQ rfl rfl) ?_
 obtain⟨AX,SM,h⟩:=ae h
 replace SM:=bC SM
 refine q1 (hp':=⟨[(6,dC ((cA 17 (cI .u32)).f AX)),(6,dC ((cA 17 (cI .u32)).f (Vector.replicate 17 (0:Int)))),(5,dC ((cA 16 (cI .u32)).f CR.1)),(5,dC ((cA 16 (cI .u32)).f (ee))),(4,dC ((cA 16 (cI .u32)).f C7.1)),(4,dC ((cA 16 (cI .u32)).f (ee))),(3,dC ((cA 16 (cI .u32)).f (ee))),(2,dC ((cA 16 (cI .u32)).f (ee))),(1,dC ((cA 16 (cI .u32)).f aQ)),(0,dC ((cA 16 (cI .u32)).f aI))],[],7⟩) (sCpA (c:=(cI .u32)) (v:=(Vector.replicate 17 (0:Int))) (s:=(List.take 16 (List.drop 0 (CR.1).toList))) tok RC bQ (xm.arr (c:=(cI .u32)) (v:=CR.1) rfl 0 (by decide)) (by simp only[eg,fa,nP];omega) rfl 0 (by decide) (congrArg (fun q=>(6,dC ((cA 17 (cI .u32)).f q))::_) SM)) ?_
 refine nl hK ?_
 refine rs hx fun K hK=>?_
 refine sa ?_
 have hn26:((16:Int)).toNat<17:=by omega
 refine s1 (vT (by decide:0≤(16:Int)∧(16:Int)<((17:Nat):Int)) DG bQ) ?_
 refine s0 (yB (b':=CR.2) (bV.comp (bV.id _ _) (bV.vec (cI .u32) AX ((16:Int)).toNat hn26) (fun _=>rfl)) bQ) ?_
 refine nl hK ?_
 refine AW.seq (ra hx ?_)
 refine AW.block ?_
 obtain⟨y,hy,h⟩:=ae h
 refine lp (S:=Int×(Vector Int 16)×(Vector Int 17)) (X:=(Vector Int 16)×(Vector Int 17)) (fun (ss,CM,Ff)=>[(4,.pt 0 0),(5,.pt 1 0),(6,dI .i64 x1),(10,dI .i64 sE),(11,.pt 2 0),(15,.pt 3 0),(16,dI .i64 ss)]) (fun (ss,CM,Ff)=>⟨[(0,dC ((cA 16 (cI .u32)).f CM)),(1,dC ((cA 16 (cI .u32)).f (ee))),(2,dC ((cA 16 (cI .u32)).f C7.1)),(3,dC ((cA 17 (cI .u32)).f Ff))],[],4⟩) (PE cx (.exit 0) (fun (AJ,vh)=>[(4,.pt 0 0),(5,.pt 1 0),(10,dI .i64 sE),(15,.pt 2 0)]) fun (AJ,vh)=>⟨[(0,dC ((cA 16 (cI .u32)).f AJ)),(1,dC ((cA 16 (cI .u32)).f (ee))),(2,dC ((cA 17 (cI .u32)).f vh))],[],3⟩) hy ?_ ?_ ?_
 exact wk0 h0 [2,3,4,6]
 clear hy h
 rintro⟨ss,CM,Ff⟩ y h
 dsimp only[eS] at h
 refine AW.seq (ra hx ?_)
 refine cdh h rfl (fun Tx h=>?_) (fun Tx h=>?_)
 refine AW.skip (AW.seq (AW.block (rs hx fun K hK=>?_)))
 iterate 3 refine sbi ?_
 obtain⟨LZ,SL,h⟩:=ae h
 refine s1 (Js [3] rfl (CS SL) (fA (au _) (fAG (au _) (fA (au _) (fA (au _) fAn)))) (vC rfl wVn) wLn (rvC rvN) rfl rfl) ?_
 refine nbi hK ?_
 refine AW.seq ?_
 obtain⟨y,hy,h⟩:=ae h
 refine jn ((PE cx .normal (fun (ul,Ly)=>[(4,.pt 0 0),(5,.pt 1 0),(6,dI .i64 x1),(10,dI .i64 sE),(11,.pt 2 0),(15,.pt 3 0),(16,dI .i64 ss),(17,dI .u64 ul)]) fun (ul,Ly)=>⟨[(0,dC ((cA 16 (cI .u32)).f CM)),(1,dC ((cA 16 (cI .u32)).f (ee))),(2,dC ((cA 16 (cI .u32)).f C7.1)),(3,dC ((cA 17 (cI .u32)).f Ly))],[],4⟩) y) ?_ ?_
 replace h:=hy
 refine rs hx fun K hK=>?_
 iterate 4 refine sbi ?_
 obtain⟨Rn,hx31,h⟩:=ae h
 refine s1 (Js [3] rfl (Dy hx31) (fA (au _) (fAG (au _) (fA (au _) (fA (au _) (fA (au _) fAn))))) (vC rfl wVn) wLn (rvC rvN) rfl rfl) ?_
 refine nl hK ?_
 refine cdh h rfl (fun hb32 h=>?_) (fun hb32 h=>?_)
 refine ra hx ?_
 refine rq hx fun K hK=>?_
 iterate 3 refine sbi ?_
 obtain⟨LQ,Qg,h⟩:=ae h
 refine s1 (Js [3] rfl (Dz Qg) (fA (au _) (fAG (au _) (fA (au _) (fA (au _) fAn)))) (vC rfl wVn) wLn (rvC rvN) rfl rfl) ?_
 refine nl hK ?_
 exact pe1 h h0 [0,1,2,3]
 exact AW.skip (pe1 h h0 [0,1,2,3])
 obtain⟨ul,Ly⟩:=y
 refine lw0 ?_
 refine rq hx fun K hK=>?_
 iterate 3 refine sa ?_
 obtain⟨hc36,h⟩:=ay h
 have hn37:(ss).toNat<16:=by omega
 refine sbi ?_
 refine s0 (yB (b':=u32.wrap (ul)) (bV.comp (bV.id _ _) (bV.vec (cI .u32) CM (ss).toNat hn37) (fun _=>rfl)) bQ) ?_
 refine nl hK ?_
 refine rb hx ?_
 exact pel h h0 [0,1,2,3]
 exact AW.exit (per h h0 [0,1,3])
 obtain⟨AJ,vh⟩:=y
 refine lw0 ?_
 refine rsd [193] hx fun K hK=>?_
 refine sbi ?_
 refine q1 (slA (n:=17) (l:=(0:Int)) (h:=(16:Int)) tok (by decide) DG bQ rfl ⟨_,rfl⟩) ?_
 refine q1 (sPtr tok rfl cU) ?_
 refine s1 (d:=dG (cA 16 (cI .u32)) (vOf 16 (List.take 16 (List.drop 0 (vh).toList)))) (AQ (bV.sub (o:=0) 16 (cI .u32) vh 0 (by decide) (by first|rfl|decide)) cU) ?_
 refine sa ?_
 obtain⟨LP,hx40,h⟩:=ae h
 refine sq tok (HS hx40) (by simp only[iW,l8,f5,ic,eI,b8];exact⟨cm _ _,rfl⟩) (lA (nJ _ _) (lA (au _) lAn)) (.inl (jJ _ _)) ?_
 refine nbi hK ?_
 refine AW.ret ?_
 cases h
 exact rv2
def qn(aM:ao):Option ao:=bnd (cv [aM]) fun x1=>cnd (!x1) (bnd (d9) fun x4=>some x4) (bnd (bG false aM.vW) fun x6=>some x6)
theorem JT {aM:ao}{r:ao}(h:qn aM=some r):aq prog 163 [dG ap aM] (dG ap r):=by
 refine bh (rs:=[.cell 2 41]) (fun cx hx h0=>?_) func163
 unfold qn at h
 refine rai hx ?_
 refine AW.seq (rs hx fun K hK=>?_)
 refine sbi ?_
 refine s1 (lj ([aM]:List ao) ap qD fc) ?_
 refine scb h fb fun x1 h=>?_
 refine nbi hK ?_
 refine cdh h rfl (fun fG h=>?_) (fun fG h=>?_)
 refine rs hx fun K hK=>?_
 refine scb h gl fun x4 h=>?_
 refine nbi hK ?_
 exact AW.ret (rtv h)
 refine AW.skip (rs hx fun K hK=>?_)
 refine mbi ?_
 refine scb h de fun x6 h=>?_
 refine nbi hK ?_
 exact AW.ret (rtv h)
def i9 :Int×Int→Option ((Int×Int)⊕Int):=fun (bt,my)=>cnd (decide (my≠(0:Int))) (gd (my≠0) (some (.inl (my,Int.tmod bt my)))) (some (.inr bt))
def cE(Ov:ao→ao→Option ao)(aI:ao)(aQ:ao):Option ao:=bnd (cv [aI,aQ]) fun x1=>cnd (!x1) (bnd (d9) fun x4=>some x4) (bnd (S:=Bool) (bnd (eK aI.vW) fun x6=>cnd (decide (x6≤(2:Int))) (bnd (eK aQ.vW) fun x9=>some (decide (x9≤(2:Int)))) (some (false))) fun uu=>cnd uu (bnd (some (ior .u64 (za .u64 (u64.wrap ((aI.vW)[((1:Int)).toNat]!)) (32:Int)) (u64.wrap ((aI.vW)[((0:Int)).toNat]!)))) fun o3=>bnd (some (ior .u64 (za .u64 (u64.wrap ((aQ.vW)[((1:Int)).toNat]!)) (32:Int)) (u64.wrap ((aQ.vW)[((0:Int)).toNat]!)))) fun vU=>bnd (bq (i9) (o3,vU)) fun eM=>bnd (bG false (#v[u32.wrap (eM),u32.wrap (mh .u64 eM (32:Int)),0,0,0,0,0,0,0,0,0,0,0,0,0,0])) fun AX=>some AX) (cnd (decide (¬(aQ.vW=#v[(0:Int),0,0,0,0,0,0,0,0,0,0,0,0,0,0,0]))) (bnd (fT aI.vW aQ.vW) fun AV=>bnd (bG false aQ.vW) fun AT=>bnd (bG false AV.2) fun HP=>bnd (Ov AT HP) fun LQ=>some LQ) (bnd (qn aI) fun zH=>some zH)))
theorem F9 {Ov:ao→ao→Option ao}(ih:∀{aI:ao} {aQ:ao} {r:ao},Ov aI aQ=some r→aq prog 122 [dG ap aI,dG ap aQ] (dG ap r)){aI:ao}{aQ:ao}{r:ao}(h:cE Ov aI aQ=some r):aq prog 122 [dG ap aI,dG ap aQ] (dG ap r):=by
 refine bh (rs:=[.cell 4 41]) (fun cx hx h0=>?_) func122
 unfold cE at h
 refine rai hx ?_
 refine AW.seq (rs hx fun K hK=>?_)
 iterate 2 refine sbi ?_
 refine s1 (lj ([aI,aQ]:List ao) ap qD fc) ?_
 refine scb h fb fun x1 h=>?_
 refine nbi hK ?_
 refine cdh h rfl (fun fG h=>?_) (fun fG h=>?_)
 refine rs hx fun K hK=>?_
 refine scb h gl fun x4 h=>?_
 refine nbi hK ?_
 exact AW.ret (rtv h)
 refine AW.skip ?_
 iterate 2 refine AW.seq ?_
 obtain⟨uu,hy,h⟩:=ae h
 refine jn ((PE cx .normal (fun uu=>[(2,.pt 0 0),(3,.pt 1 0),(4,.pt 2 0),(26,dB uu)]) fun uu=>⟨[(0,dC (ap.f aI)),(1,dC (ap.f aQ)),(2,dC (ap.f cj))],[],3⟩) uu) ?_ ?_
 replace h:=hy
 refine rq hx fun K hK=>?_
 refine mbi ?_
 refine scb h kQ fun x6 h=>?_
 refine mbi ?_
 rcases aE h with⟨ua,h⟩|⟨ua,h⟩
 refine ga ua ?_
 refine gbi ?_
 refine gcb h kQ fun x9 h=>?_
 refine nbi hK ?_
 exact pe1 h h0 [0,1,2]
 refine nbi hK ?_
 exact pe1 h h0 [0,1,2]
 refine lw0 ?_
 refine cdh h rfl (fun BK h=>?_) (fun BK h=>?_)
 refine rsd [] hx fun K hK=>?_
 refine sa ?_
 refine s1 (vT (by decide:0≤(1:Int)∧(1:Int)<((16:Nat):Int)) cU bQ) ?_
 iterate 4 refine sbi ?_
 refine s1 (vT (by decide:0≤(0:Int)∧(0:Int)<((16:Nat):Int)) cU bQ) ?_
 iterate 4 refine sbi ?_
 refine s1 (vT (by decide:0≤(1:Int)∧(1:Int)<((16:Nat):Int)) cU bQ) ?_
 iterate 4 refine sbi ?_
 refine s1 (vT (by decide:0≤(0:Int)∧(0:Int)<((16:Nat):Int)) cU bQ) ?_
 iterate 3 refine sbi ?_
 obtain⟨o3,v9,h⟩:=ae h
 replace v9:=bC v9
 refine s2 (d2:=dI .u64 o3) lH (gq (congrArg (dI .u64) v9)) ?_
 obtain⟨vU,Gv,h⟩:=ae h
 replace Gv:=bC Gv
 refine s2 (d2:=dI .u64 vU) lH (gq (congrArg (dI .u64) Gv)) ?_
 refine nl hK ?_
 refine AW.seq (AW.block ?_)
 obtain⟨eM,hy,h⟩:=ae h
 refine lp (S:=Int×Int) (X:=Int) (fun (bt,my)=>[(4,.pt 0 0),(5,dI .u64 bt),(6,dI .u64 my)]) (fun (bt,my)=>⟨[(0,dC (ap.f cj))],[],1⟩) (PE cx (.exit 0) (fun eM=>[(4,.pt 0 0),(5,dI .u64 eM)]) fun eM=>⟨[(0,dC (ap.f cj))],[],1⟩) hy ?_ ?_ ?_
 exact wk0 h0 [2]
 clear hy h
 rintro⟨bt,my⟩ y h
 dsimp only[i9] at h
 refine AW.seq (ra hx ?_)
 refine cdh h rfl (fun Er h=>?_) (fun Er h=>?_)
 refine AW.skip (AW.block (rqd [] hx fun K hK=>?_))
 iterate 3 refine sa ?_
 obtain⟨Qq,h⟩:=ay h
 refine s1 (Fk Qq) ?_
 refine nbi hK ?_
 exact pel h h0 [0]
 exact AW.exit (per h h0 [0])
 refine lw0 ?_
 refine rs hx fun K hK=>?_
 iterate 5 refine sa ?_
 refine s1 (d:=dG (cA 16 (cI .u32)) (#v[u32.wrap (eM),u32.wrap (mh .u64 eM (32:Int)),0,0,0,0,0,0,0,0,0,0,0,0,0,0])) (mz cU bQ) ?_
 refine scb h de fun AX h=>?_
 refine nbi hK ?_
 exact AW.ret (rtv h)
 refine AW.skip ?_
 iterate 2 refine AW.seq ?_
 refine jn (PE cx .normal (fun (_:Unit)=>[(2,.pt 0 0),(4,.pt 1 0),(7,.pt 2 0),(8,.pt 3 0)]) (fun (_:Unit)=>⟨[(0,dC (ap.f aI)),(1,dC (ap.f cj)),(2,dC ((cA 16 (cI .u32)).f aI.vW)),(3,dC ((cA 16 (cI .u32)).f aQ.vW))],[],4⟩) ()) ?_ ?_
 refine dw (DW.split 4 5 (by decide) ?_ ?_)
 refine DW.split 3 6 (by decide) ?_ ?_
 refine dwg [] [0,1,2,3,4,5,6,7] hx (by kernel_rfl) (by kernel_rfl) (by kernel_rfl) fun K hK=>?_
 dsimp only[d8,mP,mZ,List.map]
 iterate 6 refine sbi ?_
 iterate 2 refine tzi ?_
 exact .nil (hK _ _ (pe0 h0 [0,2,3,4]))
 refine dwg [] [0,1,2,4,5,6,3,7] hx (by kernel_rfl) (by kernel_rfl) (by kernel_rfl) fun K hK=>?_
 dsimp only[d8,mP,mZ,List.map]
 iterate 5 refine sbi ?_
 refine tzi ?_
 refine sbi ?_
 refine tzi ?_
 exact .nil (hK _ _ (pe0 h0 [0,2,3,4]))
 refine DW.split 3 6 (by decide) ?_ ?_
 refine dwg [] [0,1,2,3,5,4,6,7] hx (by kernel_rfl) (by kernel_rfl) (by kernel_rfl) fun K hK=>?_
 dsimp only[d8,mP,mZ,List.map]
 iterate 6 refine sbi ?_
 iterate 2 refine tzi ?_
 exact .nil (hK _ _ (pe0 h0 [0,2,4,3]))
 refine dwg [] [0,1,2,5,4,6,3,7] hx (by kernel_rfl) (by kernel_rfl) (by kernel_rfl) fun K hK=>?_
 dsimp only[d8,mP,mZ,List.map]
 iterate 5 refine sbi ?_
 refine tzi ?_
 refine sbi ?_
 refine tzi ?_
 exact .nil (hK _ _ (pe0 h0 [0,2,4,3]))
 refine lw0 ?_
 refine rs hx fun K hK=>?_
 refine sbi ?_
 refine s1 (d:=dG (cA 16 (cI .u32)) (#v[(0:Int),0,0,0,0,0,0,0,0,0,0,0,0,0,0,0])) (mz cU bQ) ?_
 refine s1 (xj tok 2 (by decide) (EqC.arr (EqC.int (d:=0) bQ) cU bQ) cU) ?_
 refine nl hK ?_
 refine cdh h rfl (fun IE h=>?_) (fun IE h=>?_)
 refine rs hx fun K hK=>?_
 refine mbi ?_
 refine scb h tS fun AV h=>?_
 refine nbi hK ?_
 refine rsd [145,122] hx fun K hK=>?_
 refine mbi ?_
 refine cqb h de fun AT h=>?_
 refine mbi ?_
 refine cqb h de fun HP h=>?_
 refine cqb h ih fun LQ h=>?_
 refine nbi hK ?_
 exact AW.ret (rtv h)
 refine AW.skip (rs hx fun K hK=>?_)
 refine mbi ?_
 refine scb h JT fun zH h=>?_
 refine nbi hK ?_
 exact AW.ret (rtv h)
def ik:Nat→ao→ao→Option ao
 |0=>fun _ _=>none
 |n+1=>cE (ik n)
theorem yb:∀(n:Nat) {aI:ao} {aQ:ao} {r:ao},ik n aI aQ=some r→aq prog 122 [dG ap aI,dG ap aQ] (dG ap r)
 |0,_,_,_,h=>by cases h
 |n+1,_,_,_,h=>F9 (yb n) h
def nX(aI:ao)(aQ:ao):Option ao:=ik 1000 aI aQ
theorem wq {aI:ao}{aQ:ao}{r:ao}(h:nX aI aQ=some r):aq prog 122 [dG ap aI,dG ap aQ] (dG ap r):=yb 1000 h
def iZ(aI:ao)(aQ:ao):Option (ao×ao):=bnd (S:=Bool) (bnd (cv [aI,aQ]) fun x1=>cnd (!x1) (some (true)) (bnd (fe aQ) fun x4=>some (decide (x4=(0:Int))))) fun dK=>cnd dK (bnd (d9) fun x8=>bnd (d9) fun n7=>some (x8,n7)) (bnd (S:=Unit⊕(ao×ao)) (bnd (lJ aI) fun nC=>bnd (S:=Bool) (cnd nC.2 (some (decide (nC.1≠(-9223372036854775808:Int)))) (some (false))) fun eh=>cnd eh (bnd (lJ aQ) fun o3=>bnd (S:=Bool) (cnd o3.2 (some (decide (o3.1≠(-9223372036854775808:Int)))) (some (false))) fun n4=>cnd n4 (gd (o3.1≠0) (gd (o3.1≠0) (bnd (S:=Int×Int) (bnd (S:=Bool) (cnd (decide ((Int.tmod nC.1 o3.1)≠(0:Int))) (some (!((decide ((Int.tmod nC.1 o3.1)<(0:Int))) == (decide (o3.1<(0:Int)))))) (some (false))) fun su=>cnd su (bnd (some (i64.wrap ((i64.wrap (Int.tdiv nC.1 o3.1)) - (1:Int)))) fun AV=>bnd (some (i64.wrap ((Int.tmod nC.1 o3.1)+o3.1))) fun AT=>some ((AV,AT))) (some ((i64.wrap (Int.tdiv nC.1 o3.1),Int.tmod nC.1 o3.1)))) fun (kF,qU)=>bnd (gU kF) fun x32=>bnd (gU qU) fun x34=>some (.inr (x32,x34))))) (some (.inl ()))) (some (.inl ()))) fun y36=>match y36 with| .inl ()=>bnd (fT aI.vW aQ.vW) fun GN=>bnd (bG (!(aI.vNeg == aQ.vNeg)) GN.1) fun LP=>bnd (S:=(Vector Int 16)×ao) (bnd (S:=Bool) (cnd (decide (¬(GN.2=#v[(0:Int),0,0,0,0,0,0,0,0,0,0,0,0,0,0,0]))) (some (!(aI.vNeg == aQ.vNeg))) (some (false))) fun CL=>cnd CL (bnd (gU (1:Int)) fun PH=>bnd (nV LP PH) fun x46=>bnd (ij aQ.vW GN.2) fun x48=>some ((x48,x46))) (some ((GN.2,LP)))) fun (tn,jQ)=>bnd (bG aQ.vNeg tn) fun x51=>some (jQ,x51)| .inr r=>some r)
theorem vp {aI:ao}{aQ:ao}{r:ao×ao}(h:iZ aI aQ=some r):aq prog 150 [dG ap aI,dG ap aQ] (.tu [dG ap r.1,dG ap r.2]):=by
 refine bh (rs:=[.cell 4 41,.cell 5 41]) (fun cx hx h0=>?_) func150
 unfold iZ at h
 refine rai hx ?_
 iterate 2 refine AW.seq ?_
 obtain⟨dK,hy,h⟩:=ae h
 refine jn ((PE cx .normal (fun dK=>[(2,.pt 0 0),(3,.pt 1 0),(4,.pt 2 0),(5,.pt 3 0),(24,dB dK)]) fun dK=>⟨[(0,dC (ap.f aI)),(1,dC (ap.f aQ)),(2,dC (ap.f cj)),(3,dC (ap.f cj))],[],4⟩) dK) ?_ ?_
 replace h:=hy
 refine rq hx fun K hK=>?_
 iterate 2 refine sbi ?_
 refine s1 (lj ([aI,aQ]:List ao) ap qD fc) ?_
 refine scb h fb fun x1 h=>?_
 refine mbi ?_
 rcases aE h with⟨fG,h⟩|⟨fG,h⟩
 refine nbi hK ?_
 exact pe1 h h0 [0,1,2,3]
 refine gbi ?_
 refine gcb h kR fun x4 h=>?_
 refine nbi hK ?_
 exact pe1 h h0 [0,1,2,3]
 refine lw0 ?_
 refine cdh h rfl (fun sZ h=>?_) (fun sZ h=>?_)
 refine rs hx fun K hK=>?_
 refine scb h gl fun x8 h=>?_
 refine scb h gl fun n7 h=>?_
 refine nbi hK ?_
 refine AW.ret ?_
 cases h
 exact rv2
 refine AW.skip (AW.seq ?_)
 obtain⟨y,hy,h⟩:=ae h
 refine jn ((PS (PE cx .normal (fun ()=>[(2,.pt 0 0),(3,.pt 1 0),(4,.pt 2 0),(5,.pt 3 0)]) fun ()=>⟨[(0,dC (ap.f aI)),(1,dC (ap.f aQ)),(2,dC (ap.f cj)),(3,dC (ap.f cj))],[],4⟩) (PR [.cell 4 41,.cell 5 41] fun r=>.tu [dG ap r.1,dG ap r.2])) y) ?_ ?_
 replace h:=hy
 refine rs hx fun K hK=>?_
 refine mbi ?_
 refine scb h ya fun nC h=>?_
 refine nbi hK ?_
 refine AW.seq ?_
 obtain⟨eh,hy,h⟩:=ae h
 refine jn ((PE cx .normal (fun eh=>[(2,.pt 0 0),(3,.pt 1 0),(4,.pt 2 0),(5,.pt 3 0),(6,dI .i64 nC.1),(36,dB eh)]) fun eh=>⟨[(0,dC (ap.f aI)),(1,dC (ap.f aQ)),(2,dC (ap.f cj)),(3,dC (ap.f cj))],[],4⟩) eh) ?_ ?_
 replace h:=hy
 refine rq hx fun K hK=>?_
 refine mbi ?_
 rcases aE h with⟨uO,h⟩|⟨uO,h⟩
 refine nbi hK ?_
 exact pe1 h h0 [0,1,2,3]
 refine nbi hK ?_
 exact pe1 h h0 [0,1,2,3]
 refine lw0 ?_
 refine cdh h rfl (fun tD h=>?_) (fun tD h=>?_)
 refine rs hx fun K hK=>?_
 refine mbi ?_
 refine scb h ya fun o3 h=>?_
 refine nbi hK ?_
 refine AW.seq ?_
 obtain⟨n4,hy,h⟩:=ae h
 refine jn ((PE cx .normal (fun n4=>[(2,.pt 0 0),(3,.pt 1 0),(4,.pt 2 0),(5,.pt 3 0),(6,dI .i64 nC.1),(8,dI .i64 o3.1),(46,dB n4)]) fun n4=>⟨[(0,dC (ap.f aI)),(1,dC (ap.f aQ)),(2,dC (ap.f cj)),(3,dC (ap.f cj))],[],4⟩) n4) ?_ ?_
 replace h:=hy
 refine rq hx fun K hK=>?_
 refine mbi ?_
 rcases aE h with⟨MV,h⟩|⟨MV,h⟩
 refine nbi hK ?_
 exact pe1 h h0 [0,1,2,3]
 refine nbi hK ?_
 exact pe1 h h0 [0,1,2,3]
 refine lw0 ?_
 refine cdh h rfl (fun Er h=>?_) (fun Er h=>?_)
 refine rsd [] hx fun K hK=>?_
 iterate 2 refine sa ?_
 obtain⟨Qq,h⟩:=ay h
 refine s1 (HG Qq) ?_
 iterate 2 refine sa ?_
 obtain⟨hc23,h⟩:=ay h
 refine s1 (Fk hc23) ?_
 refine nbi hK ?_
 refine AW.seq ?_
 obtain⟨y,hy,h⟩:=ae h
 refine jn ((PE cx .normal (fun (kF,qU)=>[(4,.pt 0 0),(5,.pt 1 0),(10,dI .i64 kF),(11,dI .i64 qU)]) fun (kF,qU)=>⟨[(0,dC (ap.f cj)),(1,dC (ap.f cj))],[],2⟩) y) ?_ ?_
 replace h:=hy
 refine AW.seq ?_
 obtain⟨su,hy,h⟩:=ae h
 refine jn ((PE cx .normal (fun su=>[(4,.pt 0 0),(5,.pt 1 0),(8,dI .i64 o3.1),(10,dI .i64 (i64.wrap (Int.tdiv nC.1 o3.1))),(11,dI .i64 (Int.tmod nC.1 o3.1)),(61,dB su)]) fun su=>⟨[(0,dC (ap.f cj)),(1,dC (ap.f cj))],[],2⟩) su) ?_ ?_
 replace h:=hy
 refine rq hx fun K hK=>?_
 refine mbi ?_
 rcases aE h with⟨Tz,h⟩|⟨Tz,h⟩
 refine nbi hK ?_
 exact pe1 h h0 [2,3]
 refine nbi hK ?_
 exact pe1 h h0 [2,3]
 refine lw0 ?_
 refine cdh h rfl (fun IE h=>?_) (fun IE h=>?_)
 refine rq hx fun K hK=>?_
 iterate 5 refine sa ?_
 obtain⟨AV,Ix,h⟩:=ae h
 replace Ix:=bC Ix
 refine s2 (d2:=dI .i64 AV) lH (gq (congrArg (dI .i64) Ix)) ?_
 obtain⟨AT,MF,h⟩:=ae h
 replace MF:=bC MF
 refine s2 (d2:=dI .i64 AT) lH (gq (congrArg (dI .i64) MF)) ?_
 refine nl hK ?_
 exact pe1 h h0 [0,1]
 exact AW.skip (pe1 h h0 [0,1])
 obtain⟨kF,qU⟩:=y
 refine lw0 ?_
 refine rs hx fun K hK=>?_
 refine sa ?_
 refine scb h rC fun x32 h=>?_
 refine sa ?_
 refine scb h rC fun x34 h=>?_
 refine nbi hK ?_
 refine AW.ret ?_
 cases h
 refine PS.r (PR.i ?_)
 exact rv2
 exact AW.skip (pel h h0 [0,1,2,3])
 exact AW.skip (pel h h0 [0,1,2,3])
 rcases y with⟨⟩|r
 rintro ex tm' hp' ⟨rfl,hw⟩
 refine AW.weak hw (rs hx fun K hK=>?_)
 refine mbi ?_
 refine scb h tS fun GN h=>?_
 refine nbi hK ?_
 refine rs hx fun K hK=>?_
 refine mbi ?_
 refine scb h de fun LP h=>?_
 refine nbi hK ?_
 refine AW.seq ?_
 obtain⟨y,hy,h⟩:=ae h
 refine jn ((PE cx .normal (fun (tn,jQ)=>[(3,.pt 0 0),(4,.pt 1 0),(5,.pt 2 0),(13,.pt 3 0),(14,.pt 4 0)]) fun (tn,jQ)=>⟨[(0,dC (ap.f aQ)),(1,dC (ap.f cj)),(2,dC (ap.f cj)),(3,dC ((cA 16 (cI .u32)).f tn)),(4,dC (ap.f jQ))],[],5⟩) y) ?_ ?_
 replace h:=hy
 refine AW.seq ?_
 obtain⟨CL,hy,h⟩:=ae h
 refine jn ((PE cx .normal (fun CL=>[(3,.pt 0 0),(4,.pt 1 0),(5,.pt 2 0),(13,.pt 3 0),(14,.pt 4 0),(95,dB CL)]) fun CL=>⟨[(0,dC (ap.f aQ)),(1,dC (ap.f cj)),(2,dC (ap.f cj)),(3,dC ((cA 16 (cI .u32)).f GN.2)),(4,dC (ap.f LP))],[],5⟩) CL) ?_ ?_
 replace h:=hy
 refine rq hx fun K hK=>?_
 refine sbi ?_
 refine s1 (d:=dG (cA 16 (cI .u32)) (#v[(0:Int),0,0,0,0,0,0,0,0,0,0,0,0,0,0,0])) (mz cU bQ) ?_
 refine s1 (xj tok 2 (by decide) (EqC.arr (EqC.int (d:=0) bQ) cU bQ) cU) ?_
 refine sa ?_
 rcases aE h with⟨hb41,h⟩|⟨hb41,h⟩
 refine nbi hK ?_
 exact pe1 h h0 [1,2,3,5,6]
 refine nbi hK ?_
 exact pe1 h h0 [1,2,3,5,6]
 refine lw0 ?_
 refine cdh h rfl (fun hb43 h=>?_) (fun hb43 h=>?_)
 refine rqd [91,181,165] hx fun K hK=>?_
 refine mbi ?_
 refine cqb h rC fun PH h=>?_
 refine cqb h JR fun x46 h=>?_
 refine mbi ?_
 refine cqb h tr fun x48 h=>?_
 refine nbi hK ?_
 exact pe1 h h0 [0,1,2,3,4]
 exact AW.skip (pe1 h h0 [0,1,2,3,4])
 obtain⟨tn,jQ⟩:=y
 refine lw0 ?_
 refine rsd [145] hx fun K hK=>?_
 refine mbi ?_
 refine cqb h de fun x51 h=>?_
 refine nbi hK ?_
 refine AW.ret ?_
 cases h
 exact rv2
 rintro ex tm' hp' ⟨rfl,hw⟩
 cases h
 exact hw
def gt(aI:ao)(aQ:ao):Option ao:=bnd (iZ aI aQ) fun x1=>some x1.1
theorem jf {aI:ao}{aQ:ao}{r:ao}(h:gt aI aQ=some r):aq prog 97 [dG ap aI,dG ap aQ] (dG ap r):=by
 refine bh (rs:=[.cell 4 41]) (fun cx hx h0=>?_) func97
 unfold gt at h
 refine rai hx ?_
 refine rs hx fun K hK=>?_
 refine mbi ?_
 refine scb h vp fun x1 h=>?_
 refine nbi hK ?_
 refine rai hx ?_
 exact AW.ret (rtv h)
def nW(aI:ao)(aQ:ao):Option ao:=bnd (iZ aI aQ) fun x1=>some x1.2
theorem sK {aI:ao}{aQ:ao}{r:ao}(h:nW aI aQ=some r):aq prog 98 [dG ap aI,dG ap aQ] (dG ap r):=by
 refine bh (rs:=[.cell 4 41]) (fun cx hx h0=>?_) func98
 unfold nW at h
 refine rai hx ?_
 refine rs hx fun K hK=>?_
 refine mbi ?_
 refine scb h vp fun x1 h=>?_
 refine nbi hK ?_
 refine rai hx ?_
 exact AW.ret (rtv h)
def qm(aI:ao)(aQ:ao):Option Int:=bnd (cv [aI]) fun x1=>bnd (cv [aQ]) fun x3=>bnd (S:=Bool) (cnd (!x1) (some (!x3)) (some (false))) fun QV=>cnd QV (some (0:Int)) (cnd (!x1) (some (-1:Int)) (cnd (!x3) (some (1:Int)) (cnd (!(aI.vNeg == aQ.vNeg)) (cnd aI.vNeg (some (-1:Int)) (some (1:Int))) (cnd aI.vNeg (bnd (ii aQ.vW aI.vW) fun qA=>some qA) (bnd (ii aI.vW aQ.vW) fun JM=>some JM)))))
theorem JS {aI:ao}{aQ:ao}{r:Int}(h:qm aI aQ=some r):aq prog 96 [dG ap aI,dG ap aQ] (dI .i64 r):=by
 refine bh (rs:=[.tmp 4]) (fun cx hx h0=>?_) func96
 unfold qm at h
 refine ra hx ?_
 refine rsd [147] hx fun K hK=>?_
 refine sbi ?_
 refine s1 (Jt ([aI]:List ao) ap qD fc) ?_
 refine cqb h fb fun x1 h=>?_
 refine sbi ?_
 refine s1 (Jt ([aQ]:List ao) ap qD fc) ?_
 refine cqb h fb fun x3 h=>?_
 refine nbi hK ?_
 refine AW.seq (AW.block (AW.seq ?_))
 obtain⟨QV,hy,h⟩:=ae h
 refine jn ((PE cx .normal (fun QV=>[(2,.pt 0 0),(3,.pt 1 0),(5,dB x1),(6,dB x3),(13,dB QV)]) fun QV=>⟨[(0,dC (ap.f aI)),(1,dC (ap.f aQ))],[],2⟩) QV) ?_ ?_
 replace h:=hy
 refine rq hx fun K hK=>?_
 refine mbi ?_
 rcases aE h with⟨rX,h⟩|⟨rX,h⟩
 refine nbi hK ?_
 exact pe1 h h0 [0,1]
 refine nbi hK ?_
 exact pe1 h h0 [0,1]
 refine lw0 ?_
 refine cdh h rfl (fun sZ h=>?_) (fun sZ h=>?_)
 refine ra hx ?_
 exact AW.ret (rtv h)
 refine ra hx ?_
 refine cdh h rfl (fun ua h=>?_) (fun ua h=>?_)
 refine ra hx ?_
 exact AW.ret (rtv h)
 refine ra hx ?_
 refine cdh h rfl (fun KN h=>?_) (fun KN h=>?_)
 refine ra hx ?_
 exact AW.ret (rtv h)
 refine rai hx ?_
 refine cdh h rfl (fun nK h=>?_) (fun nK h=>?_)
 refine AW.seq (rai hx ?_)
 refine cdh h rfl (fun wh h=>?_) (fun wh h=>?_)
 refine ra hx ?_
 exact AW.ret (rtv h)
 refine AW.skip (ra hx ?_)
 exact AW.ret (rtv h)
 refine rai hx ?_
 refine cdh h rfl (fun BK h=>?_) (fun BK h=>?_)
 refine rs hx fun K hK=>?_
 refine mbi ?_
 refine scb h pR fun qA h=>?_
 refine nbi hK ?_
 exact AW.ret (rtv h)
 refine AW.skip (rs hx fun K hK=>?_)
 refine mbi ?_
 refine scb h pR fun JM h=>?_
 refine nbi hK ?_
 exact AW.ret (rtv h)
section
theorem vsub {b n A:Nat}(m o:Nat)(h:o+m≤n):vOf m (List.take m (List.drop o (vN b n A).toList))=vN b m (A / b ^ o):=by
 have hl:(List.take m (List.drop o (vN b n A).toList)).length=m:=by
  rw[eg,fa,nP];omega
 apply oi
 intro j hj
 rw[jI hj]
 have e1:=zU (vOf m (List.take m (List.drop o (vN b n A).toList))) hj
 rw[yN hl] at e1
 rw[←e1,bL _ j (by omega),List.getElem_take,List.getElem_drop]
 have e2:=jI (b:=b) (A:=A) (j:=o+j) (n:=n) (by omega)
 rw[←zU (vN b n A) (by omega),bL _ (o+j) (by rw[nP];omega)] at e2
 rw[e2]
 unfold dg
 rw[ie,gY]
section
variable {b R a B i k:Nat}
def sw(b R a B i k:Nat):Nat:=R % b ^ (i+k)+a*(B % b ^ k)*b ^ i
def zD(b R a B i k:Nat):Nat:=R / b ^ (i+k)*b ^ (i+k)+sw b R a B i k % b ^ (i+k)
theorem HH:sw b R a B i (k+1)=sw b R a B i k+b ^ (i+k)*(dg b R (i+k)+a*dg b B k):=by
 unfold sw
 rw[show i+(k+1)=i+k+1 from rfl,g6,g6 (A:=B),vd,vd,bX,ie b i k]
 have:a*(b ^ k*dg b B k)*b ^ i=b ^ i*b ^ k*(a*dg b B k):=by
  simp only[e7,xa,bx]
 rw[this];omega
theorem Pr(hb:0<b)(ha:a<b):sw b R a B i k / b ^ (i+k)<b:=by
 have hp:0<b ^ (i+k):=bO hb
 rw[lR hp]
 unfold sw
 have h1:=ej R hp
 have h2:a*(B % b ^ k)*b ^ i≤(b - 1)*b ^ (i+k):=by
  rw[ie,e7]
  refine kD (by omega) ?_
  rw[bx (b ^ i)]
  exact cK _ (mw (ej _ (bO hb)))
 have h3:(b - 1)*b ^ (i+k)+b ^ (i+k)=b*b ^ (i+k):=by
  rw[←qL];congr 1;omega
 omega
theorem Orow_dg(hb:0<b):dg b (zD b R a B i k) (i+k)=dg b R (i+k):=by
 unfold zD dg
 rw[bx (R / _),E5 (bO hb),eC (ej _ (bO hb)),iM]
theorem QZ(hb:0<b):up1 b (zD b R a B i k) (i+k) (sw b R a B i (k+1) / b ^ (i+k) % b)=zD b R a B i (k+1):=by
 have hp:0<b ^ (i+k):=bO hb
 have e1:zD b R a B i k / b ^ (i+k+1)=R / b ^ (i+k+1):=by
  rw[cz,←gY,←gY]
  congr 1
  unfold zD
  rw[bx (R / _),E5 hp,eC (ej _ hp),iM]
 have e2:zD b R a B i k % b ^ (i+k)=sw b R a B i (k+1) % b ^ (i+k):=by
  rw[HH,Ca]
  unfold zD
  rw[bx (R / _),Nat.mul_add_mod,B8]
 unfold up1
 rw[e1,e2]
 show _=R / b ^ (i+k+1)*b ^ (i+k+1)+sw b R a B i (k+1) % b ^ (i+k+1)
 rw[g6 (A:=sw b R a B i (k+1)),bx (b ^ (i+k)) (dg _ _ _)]
 unfold dg
 omega
end
theorem Mul_row {A B i m:Nat}(hi:i<16)(hm:m≤16)(hB:B<4294967296 ^ m)(x y:ao)(hx:x.vW=W A)(hy:y.vW=W B):
  ∃c:Nat,c<4294967296∧∃O:Nat,bq (i7 x y (m:Int) (i:Int)) ((0:Int),(0:Int),vN 4294967296 32 (A % 4294967296 ^ i*B))=some ((c:Int),vN 4294967296 32 O)∧up1 4294967296 O (i+m) c=A % 4294967296 ^ (i+1)*B:=by
 have hb:0<(4294967296:Nat):=by decide
 have hR:A % 4294967296 ^ i*B<4294967296 ^ (i+m):=by
  rw[ie]
  exact Nat.mul_lt_mul_of_lt_of_le (ej _ (bO hb)) (mw hB) (bO hb)
 generalize hRR:A % 4294967296 ^ i*B=R at hR ⊢
 have ha:=@dgl A i
 have hl:=rR (b:=i7 x y (m:Int) (i:Int)) (s0:=((0:Int),(0:Int),vN 4294967296 32 R)) (fun k=>((sw 4294967296 R (dg 4294967296 A i) B i k / 4294967296 ^ (i+k):Nat),(k:Int),vN 4294967296 32 (zD 4294967296 R (dg 4294967296 A i) B i k))) m ((sw 4294967296 R (dg 4294967296 A i) B i m / 4294967296 ^ (i+m):Nat),vN 4294967296 32 (zD 4294967296 R (dg 4294967296 A i) B i m))
  (by
   have e1:sw 4294967296 R (dg 4294967296 A i) B i 0=R % 4294967296 ^ i:=by unfold sw;simp[m9]
   have e2:zD 4294967296 R (dg 4294967296 A i) B i 0=R:=by
    unfold zD;rw[e1,iM,B8,bx];exact lS _ _
   rw[e1,e2,iM,eC (ej _ (bO hb))]
   rfl)
  (fun k hk=>by
   have hk16:k<16:=by omega
   have hc:=Pr (b:=4294967296) (R:=R) (a:=dg 4294967296 A i) (B:=B) (i:=i) (k:=k) hb ha
   have hbk:=@dgl B k
   have hr:=@dgl R (i+k)
   have OJ:dg 4294967296 A i*dg 4294967296 B k≤4294967295*4294967295:=kD (by omega) (by omega)
   have Hb:sw 4294967296 R (dg 4294967296 A i) B i (k+1) / 4294967296 ^ (i+k)=sw 4294967296 R (dg 4294967296 A i) B i k / 4294967296 ^ (i+k)+(dg 4294967296 A i*dg 4294967296 B k+dg 4294967296 R (i+k)):=by
    rw[HH,zy _ _ (bO hb),qw (dg 4294967296 R (i+k))]
   have xy:sw 4294967296 R (dg 4294967296 A i) B i (k+1) / 4294967296 ^ (i+(k+1))=sw 4294967296 R (dg 4294967296 A i) B i (k+1) / 4294967296 ^ (i+k) / 4294967296:=by
    rw[gY,←cz];rfl
   have ru:=QZ (b:=4294967296) (R:=R) (a:=dg 4294967296 A i) (B:=B) (i:=i) (k:=k) hb
   rw[xy]
   generalize sw 4294967296 R (dg 4294967296 A i) B i (k+1) / 4294967296 ^ (i+k)=x1 at Hb ru ⊢
   generalize sw 4294967296 R (dg 4294967296 A i) B i k / 4294967296 ^ (i+k)=c at Hb hc ⊢
   have eik:i64.wrap ((i:Int)+(k:Int))=((i+k:Nat):Int):=by rw[bY];omega
   dsimp only[i7]
   rw[cy _ _,aB,aB,eik,aB,ab,aB,ab,bW,bW,bW,hx,hy,gN hi,gN hk16,jI (by omega),Orow_dg hb,
    iu (n:=dg 4294967296 A i) (by omega),iu (n:=dg 4294967296 B k) (by omega),iu (n:=dg 4294967296 R (i+k)) (by omega),←ig,iu (n:=dg 4294967296 A i*dg 4294967296 B k) (by omega),←kB,iu,←kB,iu,←Hb,yf,Ba,A5 hb (ej _ hb) (by omega),ru,bY]
   rfl)
  (by
   dsimp only[i7]
   rw[ci _ _])
 refine⟨_,Pr hb ha,_,hl,?_⟩
 have e1:sw 4294967296 R (dg 4294967296 A i) B i m=R+dg 4294967296 A i*B*4294967296 ^ i:=by
  unfold sw;rw[ep hR,ep hB]
 have e2:zD 4294967296 R (dg 4294967296 A i) B i m=sw 4294967296 R (dg 4294967296 A i) B i m % 4294967296 ^ (i+m):=by
  unfold zD;rw[eC hR,gL,br]
 have hO:zD 4294967296 R (dg 4294967296 A i) B i m<4294967296 ^ (i+m):=by rw[e2];exact ej _ (bO hb)
 unfold up1
 rw[eC (bH hO (gX hb (jD _))),gL,br,ep hO,e2,bx (_ / _),lS,e1,←hRR,g6 (A:=A),bX]
 congr 1
 simp only[e7,xa,bx]
theorem Vm {A B n m:Nat}(hn:n≤16)(hm:m≤16)(hA:A<4294967296 ^ n)(hB:B<4294967296 ^ m)(x y:ao)(hx:x.vW=W A)(hy:y.vW=W B):
  bq (i8 x y (n:Int) (m:Int)) ((0:Int),Vector.replicate 32 (0:Int))=some (vN 4294967296 32 (A*B)):=by
 have hb:0<(4294967296:Nat):=by decide
 have hl:=rR (b:=i8 x y (n:Int) (m:Int)) (s0:=((0:Int),Vector.replicate 32 (0:Int))) (fun i=>((i:Int),vN 4294967296 32 (A % 4294967296 ^ i*B))) n (vN 4294967296 32 (A % 4294967296 ^ n*B))
  (by simp only[f4,m9,gL,sR];rfl)
  (fun i hi=>by
   obtain⟨c,hc,O,h1,h2⟩:=Mul_row (i:=i) (by omega) hm hB x y hx hy
   have eim:i64.wrap ((i:Int)+(m:Int))=((i+m:Nat):Int):=by rw[bY];omega
   dsimp only[i8]
   rw[cy _ _,h1,ab]
   dsimp only
   rw[eim,aB,ab,bW,A9 hc,A5 hb hc (by omega),h2,bY]
   rfl)
  (by
   dsimp only[i8]
   rw[ci _ _])
 rw[hl,ep hA]
theorem LN {a c:Int}(ha:a.natAbs<LIM)(hc:c.natAbs<LIM):jr (enc a) (enc c)=some (enc (a*c)):=by
 obtain⟨n,hn,Te,FP⟩:=Cg ha
 obtain⟨m,hm,hm1,Tg⟩:=Cg hc
 have OJ:a.natAbs*c.natAbs<4294967296 ^ 16*4294967296 ^ 16:=B7 ha hc
 unfold jr
 rw[vn,bf ha,bf hc,ab]
 simp only[eI,cG,aF]
 rw[lZ ha,lZ hc,Te,ab,hm1,ab,Vm hn hm FP.1 Tg.1 (enc a) (enc c) (lZ ha) (lZ hc),ab,vsub 16 16 (by omega),vsub 16 0 (by omega),z16,jT ha,jT hc,f4,m8]
 have hq:a.natAbs*c.natAbs / 4294967296 ^ 16<LIM:=Jh OJ
 have hz:(vN 4294967296 16 (a.natAbs*c.natAbs / 4294967296 ^ 16)=W 0)↔a.natAbs*c.natAbs<LIM:=by
  rw[Fj hq xN,Ji (by decide)];rfl
 simp only[hz]
 by_cases h:a.natAbs*c.natAbs<LIM
 ·rw[ci _ _ (by simpa using h),jG h,ab]
  congr 2
  rcases Int.natAbs_eq a with e1|e1 <;> rcases Int.natAbs_eq c with e2|e2 <;> skip
  all_goals
   by_cases ha0:a<0 <;> by_cases hc0:c<0 <;> simp only[ha0,hc0,sn,si,E7,cG,qM,kA,cond_false,Bool.true_beq,Bool.false_beq,ig]
  all_goals (first|(exfalso;omega)|(have ea:(a.natAbs:Int)=a:=(by omega);have ec:(c.natAbs:Int)=c:=(by omega);rw[ea,ec])|(have ea:(a.natAbs:Int)=-a:=(by omega);have ec:(c.natAbs:Int)=c:=(by omega);rw[ea,ec,E4,Int.neg_neg])|(have ea:(a.natAbs:Int)=a:=(by omega);have ec:(c.natAbs:Int)=-c:=(by omega);rw[ea,ec,B6,Int.neg_neg])|(have ea:(a.natAbs:Int)=-a:=(by omega);have ec:(c.natAbs:Int)=-c:=(by omega);rw[ea,ec,Int.neg_mul_neg])|skip)
 ·rw[cy _ _ (by simpa using h),HO,ab,Ey (by rw[oP];exact h)]
end
theorem set16(x y:Int):(#v[x,y,0,0,0,0,0,0,0,0,0,0,0,0,0,0]:Vector Int 16)=((W 0).set! 0 x).set! 1 y:=by
 rw[←z16];rfl
theorem UX {u:Nat}(hu:u<18446744073709551616):(#v[((u % 4294967296:Nat):Int),((u / 4294967296:Nat):Int),0,0,0,0,0,0,0,0,0,0,0,0,0,0]:Vector Int 16)=W u:=by
 have hb:0<(4294967296:Nat):=by decide
 have hx:u % 4294967296<4294967296:=ej _ hb
 have hy:u / 4294967296<4294967296:=by omega
 rw[set16]
 unfold W
 rw[A5 hb hx (by omega)]
 have e1:up1 4294967296 0 0 (u % 4294967296)=u % 4294967296:=by
  have:=L9 (b:=4294967296) (A:=0) (p:=0) (x:=u % 4294967296)
  rw[l5 (by decide)] at this
  omega
 have h:=L9 (b:=4294967296) (A:=u % 4294967296) (p:=1) (x:=u / 4294967296)
 rw[l5 (by rw[w7];exact hx),w7,gL,iM,Nat.mod_add_div'] at h
 rw[e1,A5 hb hy (by omega),h]
theorem N1 {n:Int}(h1:-9223372036854775808≤n)(h2:n≤9223372036854775807):gU n=some (enc n):=by
 have hu:n.natAbs<18446744073709551616:=by omega
 have hL:n.natAbs<LIM:=bH hu (by decide)
 have hc:cnd (decide (n<(0:Int))) (some (u64.wrap (0 - (u64.wrap n)))) (some (u64.wrap n))=some ((n.natAbs:Nat):Int):=by
  rw[fH]
  split
  ·congr 1;rw[IntKind.wrap_u64,IntKind.wrap_u64];omega
  ·congr 1;rw[IntKind.wrap_u64];omega
 unfold gU
 rw[hc,ab,Ba,yf,A9,UX hu,jG hL,ab]
 congr 2
 by_cases h:n<0
 ·simp only[h,sn,kA];omega
 ·simp only[h,si,cond_false];omega
theorem yP {x k l:Nat}(hx:2 ^ k≤x)(h:szp 2 (x / 2 ^ k) l):szp 2 x (l+k):=by
 have hp:0<2 ^ k:=bO (by decide)
 have h0:0<x / 2 ^ k:=E3 hx hp
 have hl:0<l:=by
  rcases sd l with h1|h1
  ·subst h1;have:=h.1;simp at this;omega
  ·exact h1
 refine⟨?_,fun _=>?_⟩
 ·rw[ie];exact (lR hp).1 h.1
 ·have:=h.2 hl
  rw[show l+k - 1=(l - 1)+k from by omega,ie]
  exact (pN hp).1 this
def Ky:ByteArray:=⟨#[0,1,2,2,3,3,3,3,4,4,4,4,4,4,4,4,5,5,5,5,5,5,5,5,5,5,5,5,5,5,5,5,6,6,6,6,6,6,6,6,6,6,6,6,6,6,6,6,6,6,6,6,6,6,6,6,6,6,6,6,6,6,6,6,7,7,7,7,7,7,7,7,7,7,7,7,7,7,7,7,7,7,7,7,7,7,7,7,7,7,7,7,7,7,7,7,7,7,7,7,7,7,7,7,7,7,7,7,7,7,7,7,7,7,7,7,7,7,7,7,7,7,7,7,7,7,7,7,8,8,8,8,8,8,8,8,8,8,8,8,8,8,8,8,8,8,8,8,8,8,8,8,8,8,8,8,8,8,8,8,8,8,8,8,8,8,8,8,8,8,8,8,8,8,8,8,8,8,8,8,8,8,8,8,8,8,8,8,8,8,8,8,8,8,8,8,8,8,8,8,8,8,8,8,8,8,8,8,8,8,8,8,8,8,8,8,8,8,8,8,8,8,8,8,8,8,8,8,8,8,8,8,8,8,8,8,8,8,8,8,8,8,8,8,8,8,8,8,8,8,8,8,8,8,8,8]⟩
theorem G9:∀y:Nat,y<256→(Ky.data.toList.getD y 0).toNat≤8∧y<2 ^ (Ky.data.toList.getD y 0).toNat∧(0<(Ky.data.toList.getD y 0).toNat→2 ^ ((Ky.data.toList.getD y 0).toNat - 1)≤y):=by decide +kernel
theorem P8:Ky.size=256:=by decide +kernel
theorem len_tab(y:Nat)(hy:y<256):∃l:Nat,sAt Ky y=(l:Int)∧l≤8∧szp 2 y l:=
 ⟨_,rfl,(G9 y hy).1,(G9 y hy).2⟩
theorem Vo(x:Int):mK x=bnd (S:=Int×Int) (cnd (decide ((65536:Int)≤x)) (some ((mh .u32 x (16:Int),(16:Int)))) (some ((x,(0:Int))))) fun (bi,Jq)=>bnd (S:=Int×Int) (cnd (decide ((256:Int)≤bi)) (some ((mh .u32 bi (8:Int),i64.wrap (Jq+(8:Int))))) (some ((bi,Jq)))) fun (pe,Fi)=>gd (0≤u8.wrap (pe)∧u8.wrap (pe)<(Ky.size:Int)) (bnd (some (i64.wrap (Fi+(i64.wrap (sAt Ky (u8.wrap (pe)).toNat))))) fun x6=>some x6):=rfl
theorem u8n {n:Nat}(h:n<256):u8.wrap (n:Int)=(n:Int):=by
 rw[IntKind.wrap_u8];omega
theorem PD {x:Nat}(hx:x<4294967296):∃l:Nat,mK (x:Int)=some (l:Int)∧l≤32∧szp 2 x l:=by
 have h16:∃(y n:Nat),cnd (decide ((65536:Int)≤(x:Int))) (some ((mh .u32 (x:Int) (16:Int),(16:Int)))) (some (((x:Int),(0:Int))))=some ((y:Int),(n:Int))∧y<65536∧n≤16∧∀l,szp 2 y l→szp 2 x (l+n):=by
  rw[fH]
  split
  ·rename_i h
   exact⟨x / 2 ^ 16,16,by rw[show (16:Int)=((16:Nat):Int) from rfl,BE .u32 x 16 (by decide)],by omega,by omega,fun l hl=>yP (by omega) hl⟩
  ·exact⟨x,0,rfl,by omega,by omega,fun l hl=>hl⟩
 obtain⟨y,n,e1,hy,hn,hs⟩:=h16
 have h8:∃(z m:Nat),cnd (decide ((256:Int)≤(y:Int))) (some ((mh .u32 (y:Int) (8:Int),i64.wrap ((n:Int)+(8:Int))))) (some (((y:Int),(n:Int))))=some ((z:Int),(m:Int))∧z<256∧m≤24∧∀l,szp 2 z l→szp 2 x (l+m):=by
  rw[fH]
  split
  ·rename_i h
   refine⟨y / 2 ^ 8,n+8,?_,by omega,by omega,fun l hl=>?_⟩
   ·rw[show (8:Int)=((8:Nat):Int) from rfl,BE .u32 y 8 (by decide),bY];rfl
   ·rw[show l+(n+8)=(l+8)+n from by omega]
    exact hs _ (yP (by omega) hl)
  ·exact⟨y,n,rfl,by omega,by omega,hs⟩
 obtain⟨z,m,e2,hz,hm,LT⟩:=h8
 obtain⟨l,hl1,FR,hl3⟩:=len_tab z hz
 refine⟨l+m,?_,by omega,LT l hl3⟩
 rw[Vo,e1,ab]
 dsimp only
 rw[e2,ab]
 dsimp only
 rw[u8n hz,P8,aB ⟨by omega,by omega⟩,bW,hl1,bY (z:=(l:Int)) (by omega),bY,ab]
 congr 1
 omega
theorem G_Lead {x:Nat}(hx:x<4294967296):∃l:Nat,fM (x:Int)=some (((32 - l:Nat)):Int)∧l≤32∧szp 2 x l:=by
 obtain⟨l,h1,h2,h3⟩:=PD hx
 refine⟨l,?_,h2,h3⟩
 unfold fM
 rw[h1,ab,bY]
 congr 1
 omega
theorem G_Bits {a:Int}(ha:a.natAbs<LIM):∃l:Nat,l≤512∧oz (enc a)=some (l:Int)∧szp 2 a.natAbs l:=by
 obtain⟨n,hn,h1,h2⟩:=Cg ha
 unfold oz
 rw[lZ ha,h1,ab,tq,bf ha,ab,cG,aF,ab]
 cases n with
 |zero=>
  refine⟨0,by omega,?_,?_⟩
  ·rw[cy _ _];rfl
  ·have:=h2.1
   exact⟨by simpa using this,fun h=>by omega⟩
 |succ k=>
  have hk:k<16:=by omega
  rw[ci _ _,show i64.wrap (((k+1:Nat):Int) - 1)=(k:Int) from by rw[bY];omega,aB,bW,gN hk]
  obtain⟨l,h3,h4,h5⟩:=PD (x:=dg 4294967296 a.natAbs k) dgl
  have hd:dg 4294967296 a.natAbs k=a.natAbs / 2 ^ (32*k):=by
   unfold dg
   have e:(4294967296:Nat) ^ k=2 ^ (32*k):=by rw[B5]
   rw[←e,ep]
   rw[lR (bO (by decide)),bx,←cz];exact h2.1
  have vI:2 ^ (32*k)≤a.natAbs:=by
   have:=h2.2 (by omega)
   rw[vb] at this
   rwa[B5]
  refine⟨l+32*k,by omega,?_,?_⟩
  ·rw[h3,ab,show i64.wrap ((32:Int)*(k:Int))=((32*k:Nat):Int) from by rw[bY];omega,bY]
   congr 1;omega
  ·rw[hd] at h5;exact yP vI h5
theorem Sr {A:Nat}(hA:A<18446744073709551616):ior .u64 (za .u64 (u64.wrap ((W A)[((1:Int)).toNat]!)) (32:Int)) (u64.wrap ((W A)[((0:Int)).toNat]!))=(A:Int):=by
 have e1:(W A)[((1:Int)).toNat]! =(dg 4294967296 A 1:Int):=gN (by decide)
 have e0:(W A)[((0:Int)).toNat]! =(dg 4294967296 A 0:Int):=gN (by decide)
 have h1:=@dgl A 1
 have h0:=@dgl A 0
 rw[e1,e0,iu,iu,Ki h1,KA h0 h1]
 have e:dg 4294967296 A 1*4294967296+dg 4294967296 A 0=A:=by
  unfold dg
  rw[w7,f4,m8]
  omega
 rw[e]
theorem PB {a:Int}(ha:a.natAbs<LIM):lJ (enc a)=some (if -9223372036854775808≤a∧a<9223372036854775808 then (a,true) else (0,false)):=by
 obtain⟨l,hl,h1,h2⟩:=G_Bits ha
 have e64:(2:Nat) ^ 64=18446744073709551616:=by decide
 have hl64:64<l↔¬a.natAbs<18446744073709551616:=by
  constructor
  ·intro h h3
   have:=Mb (b:=2) (by decide) h2 (k:=64) (by rw[e64];exact h3)
   omega
  ·intro h
   rcases dX 64 l with h3|h3
   ·exact h3
   ·have h4:=h2.1
    have h5:2 ^ l≤2 ^ 64:=gX (by decide) h3
    rw[e64] at h5
    exact absurd (bH h4 h5) h
 unfold lJ
 rw[tq,bf ha,ab,cG,aF,h1,ab,ab]
 by_cases h:a.natAbs<18446744073709551616
 ·rw[ci _ _ (by have:=mt hl64.1 (fun hh=>hh h);omega),ab,lZ ha,Sr h,jT ha]
  by_cases hn:a<0
  ·simp only[hn,sn,fO,cG,aF,ab]
   by_cases h3:a.natAbs≤9223372036854775808
   ·rw[cy _ _,ai (by omega),show (0:Int) - (a.natAbs:Int)=a from by omega,IntKind.wrap_u64]
    rw[show i64.wrap (a % 18446744073709551616)=a from by rw[IntKind.wrap_i64];omega]
   ·rw[ci _ _,ah (by omega)]
  ·rw[a8 hn,aF,ab,aF,qM,fO,ab]
   have ea:(a.natAbs:Int)=a:=by omega
   rw[ea]
   by_cases h3:a<9223372036854775808
   ·rw[cy _ _ h3,ai ⟨by omega,h3⟩,bY ⟨by omega,by omega⟩]
   ·rw[ci _ _ h3,ah (fun hh=>h3 hh.2)]
 ·rw[cy _ _ (by have:=hl64.2 h;omega),ah (by omega)]
def vF(n:Nat)(f:Nat→Nat):Vector Int n:=Vector.ofFn fun i=>(f i.val:Int)
theorem wB {n j:Nat}{f:Nat→Nat}(h:j<n):(vF n f)[j]! =(f j:Int):=by
 rw[bL (vF n f) j h]
 unfold vF
 rw[NL]
theorem Rz {n:Nat}{f g:Nat→Nat}(h:∀j,j<n→f j=g j):vF n f=vF n g:=by
 apply oi
 intro j hj
 rw[wB hj,wB hj,h j hj]
theorem vF_set {n p x:Nat}{f:Nat→Nat}:(vF n f).set! p (x:Int)=vF n (fun j=>if j=p then x else f j):=by
 apply oi
 intro j hj
 rw[qf hj,wB hj,wB hj]
 split <;> rfl
theorem vF_dg {b n A:Nat}:vF n (dg b A)=vN b n A:=rfl
theorem II {X V n d:Nat}(hn:2≤n)(hV:2147483648*4294967296 ^ (n - 1)≤V)(hX:X<V*4294967296)
  (Em:min (X / 4294967296 ^ (n - 2) / (V / 4294967296 ^ (n - 2))) 4294967295≤d) (ON:d*(V / 4294967296 ^ (n - 2))≤X / 4294967296 ^ (n - 2)):X / V≤d∧d≤X / V+1:=by
 have hp:0<4294967296 ^ (n - 2):=bO (by decide)
 have e1:(4294967296:Nat) ^ (n - 1)=4294967296 ^ (n - 2)*4294967296:=by rw[←cz];congr 1;omega
 rw[e1] at hV
 generalize 4294967296 ^ (n - 2)=P at*
 have FY:0<V:=bH (yy (by decide) (yy hp (by decide))) hV
 have SP:2147483648*4294967296≤V / P:=by
  rw[pN hp]
  calc 2147483648*4294967296*P=2147483648*(P*4294967296):=by rw[e7,bx 4294967296 P]
   _≤V:=hV
 have hv20:0<V / P:=by omega
 have hVP:=lS V P
 have hVm:=ej V hp
 have hXP:=lS X P
 have hXm:=ej X hp
 have hq1:X / V≤X / P / (V / P):=by
  rw[gY]
  refine Nat.div_le_div_left ?_ (yy hp hv20)
  omega
 have hq2:X / V<4294967296:=(lR FY).2 (by rw[bx];exact hX)
 refine⟨by omega,?_⟩
 -- d V is not much more than X
 have Di:d*(V / P)*P≤X:=by
  have:=cK P ON
  rw[bx (X / P)] at this
  omega
 have hXP2:X / P<(V / P+1)*4294967296:=by
  rw[lR hp]
  have h1:V<(V / P+1)*P:=by rw[bX,e8,bx (V / P)];omega
  calc X<V*4294967296:=hX
   _≤(V / P+1)*P*4294967296:=cK _ (mw h1)
   _=(V / P+1)*4294967296*P:=by rw[e7,bx P,←e7]
 have hdb:d≤4294967296:=by
  rcases dX 4294967296 d with h|h
  ·have:4294967297*(V / P)≤d*(V / P):=cK _ h
   omega
  ·exact h
 have h2:d*(V % P)≤4294967296*P:=kD hdb (mw hVm)
 have h3:d*V=d*(V / P)*P+d*(V % P):=by
  conv=>lhs;rw[←hVP]
  rw[vd,bx P,e7]
 have h4:d*V≤X+V:=by
  rw[h3]
  have h6:4294967296*P≤V:=by
   refine dv ?_ hV
   rw[bx P,←e7]
   exact cK _ (by decide)
  exact Nat.add_le_add Di (dv h2 h6)
 rcases sd d with h0|h0
 ·rw[h0];exact cr _
 ·have h5:(d - 1)*V≤X:=by rw[Nat.sub_mul,e8];omega
  have:=(pN FY).2 h5
  omega
theorem gA1 {y r u z:Nat}(h:r*4294967296+u<z):(y+r)*4294967296+u<y*4294967296+z:=by
 rw[bX,xW];exact E8 h _
theorem gA2 {y r u z:Nat}(h:z≤r*4294967296+u):y*4294967296+z≤(y+r)*4294967296+u:=by
 rw[bX,xW];exact Nat.add_le_add_left h _
theorem gA3 {y r u z:Nat}(h:4294967296≤r)(hz:z≤4294967295*4294967295):y*4294967296+z≤(y+r)*4294967296+u:=by
 have h1:z≤r*4294967296:=dv hz (dv (kD (by decide) (by decide)) (cK _ h))
 rw[bX,xW]
 exact Nat.add_le_add_left (dv h1 (tg _ _)) _
theorem o7 {n:Nat}(h:n≤34359738368:=by omega):n<18446744073709551616:=by omega
theorem lt64p {n:Nat}(h:n≤4294967295*4294967295):n<18446744073709551616:=by omega
theorem guessB {d r f x0 x1:Nat}(h:d*f+r=x0*4294967296+x1)(hf:2147483648≤f)(h0:x0<4294967296)(h1:x1<4294967296):d≤8589934592:=by
 have:=AD d hf
 omega
theorem guessT {x0 x1 f:Nat}(h0:x0<4294967296)(h1:x1<4294967296):(x0*4294967296+x1) / f<18446744073709551616:=
 dq (oQ _ _) (by omega)
theorem G_guess {U V n j:Nat}(hn:2≤n)(Ql:n≤16)(hj:j+n≤16)(hV:2147483648*4294967296 ^ (n - 1)≤V)(GC:V<4294967296 ^ n)(hU:U / 4294967296 ^ j<V*4294967296):
  ∃d:Nat,d<4294967296∧iY (W V) (n:Int) (j:Int) (vN 4294967296 17 U)=some (d:Int)∧U / 4294967296 ^ j / V≤d∧d≤U / 4294967296 ^ j / V+1:=by
 have hb:0<(4294967296:Nat):=by decide
 generalize hX:U / 4294967296 ^ j=X at hU
 -- rI digits that it looks at
 have du:∀i,dg 4294967296 U (j+i)=dg 4294967296 X i:=fun i=>by
  unfold dg;rw[←hX,gY,←ie]
 have hXlt:X<4294967296 ^ (n+1):=by
  rw[cz];exact bH hU (cK _ (mw GC))
 have s1:=cw (b:=4294967296) (A:=X) (k:=n - 2)
 have s2:=cw (b:=4294967296) (A:=X) (k:=n - 1)
 have s3:=cw (b:=4294967296) (A:=X) (k:=n)
 rw[eC hXlt,gL,br] at s3
 rw[show n - 2+1=n - 1 from by omega] at s1
 rw[show n - 1+1=n from by omega,s3] at s2
 have w1:=cw (b:=4294967296) (A:=V) (k:=n - 2)
 have w2:=cw (b:=4294967296) (A:=V) (k:=n - 1)
 rw[show n - 2+1=n - 1 from by omega] at w1
 rw[show n - 1+1=n from by omega,eC GC,gL,br] at w2
 have FJ:=@dgl X n
 have Hb:=@dgl X (n - 1)
 have xy:=@dgl X (n - 2)
 have hv1:=@dgl V (n - 1)
 have SP:=@dgl V (n - 2)
 have MR:2147483648≤dg 4294967296 V (n - 1):=by
  rw[←w2,pN (bO hb)];exact hV
 -- rI two highest digits against rI highest one
 have hp:0<4294967296 ^ (n - 2):=bO hb
 have htop:X / 4294967296 ^ (n - 1)≤V / 4294967296 ^ (n - 2):=by
  have e1:(4294967296:Nat) ^ (n - 1)=4294967296 ^ (n - 2)*4294967296:=by rw[←cz];congr 1;omega
  have h1:X / 4294967296 ^ (n - 1)*4294967296 ^ (n - 1)≤X:=NF _ _
  rw[pN hp]
  rw[e1] at h1
  have h2:X / 4294967296 ^ (n - 1)*4294967296 ^ (n - 2)*4294967296<V*4294967296:=by
   rw[e7]
   exact dq (by rw[e1];exact h1) hU
  exact mw (Nat.lt_of_mul_lt_mul_right h2)
 rw[s2,w1,w2] at htop
 obtain⟨x,hl,d,rfl,hdb,Em,ON⟩:=vE (b:=jR (W V) (n:Int) (j:Int) (vN 4294967296 17 U) ((dg 4294967296 V (n - 1):Nat):Int)) (fun s=>∃d r:Nat,s=((d:Int),(r:Int))∧d*dg 4294967296 V (n - 1)+r=X / 4294967296 ^ (n - 1)∧min (X / 4294967296 ^ (n - 2) / (V / 4294967296 ^ (n - 2))) 4294967295≤d) (fun s=>4294967296 - s.2.toNat)
  (fun x=>∃d:Nat,x=(d:Int)∧d<4294967296∧min (X / 4294967296 ^ (n - 2) / (V / 4294967296 ^ (n - 2))) 4294967295≤d∧d*(V / 4294967296 ^ (n - 2))≤X / 4294967296 ^ (n - 2))
  (by
   rintro s ⟨d,r,rfl,hdr,Em⟩
   have hmul:d*(V / 4294967296 ^ (n - 2))=d*dg 4294967296 V (n - 1)*4294967296+d*dg 4294967296 V (n - 2):=by
    rw[w1,w2,vd,e7]
   have hdB:d≤8589934592:=guessB (by rw[hdr,s2]) MR FJ Hb
   have ei2:i64.wrap ((n:Int) - (2:Int))=((n - 2:Nat):Int):=by rw[bY];omega
   have eij2:i64.wrap ((i64.wrap ((j:Int)+(n:Int))) - (2:Int))=((j+(n - 2):Nat):Int):=by rw[bY (z:=(j:Int)+(n:Int)) (by omega),bY];omega
   dsimp only[jR]
   by_cases hr:r<4294967296
   ·rw[cy _ _]
    by_cases hd:4294967296≤d
    ·left
     refine⟨(((d - 1:Nat):Int),((r+dg 4294967296 V (n - 1):Nat):Int)),?_,⟨d - 1,_,rfl,?_,by omega⟩,by show 4294967296 - (_:Nat)<4294967296 - (_:Nat);rw[bW,bW];omega⟩
     ·rw[cy _ _,ab,fO,show (d:Int) - 1=((d - 1:Nat):Int) from by omega,iu (o7),←kB,iu (o7)]
     ·rw[Nat.sub_mul,e8]
      have:dg 4294967296 V (n - 1)≤d*dg 4294967296 V (n - 1):=va _ (by omega)
      omega
    ·have FU:d*dg 4294967296 V (n - 2)≤4294967295*4294967295:=kD (by omega) (by omega)
     rw[ci _ _,ei2,aB,eij2,aB,bW,bW,jI (by omega),gN (by omega),du,iu (n:=dg 4294967296 X (n - 2)) (o7),iu (n:=dg 4294967296 V (n - 2)) (o7),Ki hr,KA xy hr,←ig,iu (lt64p FU),ab]
     by_cases hc:r*4294967296+dg 4294967296 X (n - 2)<d*dg 4294967296 V (n - 2)
     ·left
      have wn:0<d:=by
       rcases sd d with h|h
       ·subst h;omega
       ·exact h
      refine⟨(((d - 1:Nat):Int),((r+dg 4294967296 V (n - 1):Nat):Int)),?_,⟨d - 1,_,rfl,?_,?_⟩,by show 4294967296 - (_:Nat)<4294967296 - (_:Nat);rw[bW,bW];omega⟩
      ·rw[cy _ _,show (d:Int) - 1=((d - 1:Nat):Int) from by omega,iu (o7),←kB,iu (o7)]
      ·rw[Nat.sub_mul,e8]
       have:dg 4294967296 V (n - 1)≤d*dg 4294967296 V (n - 1):=va _ wn
       omega
      ·have hgt:X / 4294967296 ^ (n - 2)<d*(V / 4294967296 ^ (n - 2)):=by rw[hmul,s1,←hdr];exact gA1 hc
       have:=(lR (x:=X / 4294967296 ^ (n - 2)) (y:=d) (k:=V / 4294967296 ^ (n - 2)) (by rw[w1,w2];omega)).2 hgt
       omega
     ·right
      refine⟨_,by rw[ci _ _],d,rfl,by omega,Em,?_⟩
      rw[hmul,s1,←hdr];exact gA2 (Nat.le_of_not_lt hc)
   ·right
    have hdlt:d<4294967296:=by
     rcases dX d 4294967296 with h|h
     ·exact h
     ·have:4294967296*dg 4294967296 V (n - 1)≤d*dg 4294967296 V (n - 1):=cK _ h
      omega
    have FU:d*dg 4294967296 V (n - 2)≤4294967295*4294967295:=kD (by omega) (by omega)
    refine⟨_,by rw[ci _ _,ab,aF],d,rfl,hdlt,Em,?_⟩
    rw[hmul,s1,←hdr];exact gA3 (Nat.le_of_not_lt hr) FU)
  (((X / 4294967296 ^ (n - 1) / dg 4294967296 V (n - 1):Nat):Int),((X / 4294967296 ^ (n - 1) % dg 4294967296 V (n - 1):Nat):Int))
  ⟨_,_,rfl,by rw[bx];exact lS _ _,by
   have h0:X / 4294967296 ^ (n - 2) / (V / 4294967296 ^ (n - 2))≤X / 4294967296 ^ (n - 1) / dg 4294967296 V (n - 1):=by
    rw[pN (by omega)]
    have h1:=NF (X / 4294967296 ^ (n - 2)) (V / 4294967296 ^ (n - 2))
    generalize X / 4294967296 ^ (n - 2) / (V / 4294967296 ^ (n - 2))=q at h1 ⊢
    rw[w1,w2,s1,vd,←e7] at h1
    generalize q*dg 4294967296 V (n - 1)=y at h1 ⊢
    omega
   omega⟩
 obtain⟨h1,h2⟩:=II hn hV hU Em ON
 refine⟨d,hdb,?_,h1,h2⟩
 have ejn:i64.wrap ((j:Int)+(n:Int))=((j+n:Nat):Int):=by rw[bY];omega
 have ejn1:i64.wrap (((j+n:Nat):Int) - (1:Int))=((j+(n - 1):Nat):Int):=by rw[bY];omega
 have en1:i64.wrap ((n:Int) - (1:Int))=((n - 1:Nat):Int):=by rw[bY];omega
 unfold iY
 rw[ejn,aB,ejn1,aB,en1,bW,bW,bW,jI (by omega),jI (by omega),gN (by omega),du,du,iu (n:=dg 4294967296 X n) (o7),iu (n:=dg 4294967296 X (n - 1)) (o7),iu (n:=dg 4294967296 V (n - 1)) (o7),Ki FJ,KA Hb FJ,ab,aB,ab,aB,aB,←tI,←tH]
 rw[iu (guessT FJ Hb),←s2,hl,ab]
def Ag(j i U D p:Nat):Nat:=if p<j then dg 4294967296 U p else if p<j+i then dg 4294967296 D (p - j) else dg 4294967296 U p
theorem mix0 {j U D:Nat}:Ag j 0 U D=dg 4294967296 U:=by
 funext p
 unfold Ag
 split
 ·rfl
 ·rw[ah (by omega)]
theorem Io {j i U D:Nat}:Ag j i U D (j+i)=dg 4294967296 U (j+i):=by
 unfold Ag
 rw[ah (by omega),ah (by omega)]
theorem Df {n j i U D:Nat}:(vF n (Ag j i U D)).set! (j+i) (dg 4294967296 D i:Int)=vF n (Ag j (i+1) U D):=by
 rw[vF_set]
 apply Rz
 intro p hp
 by_cases h:p=j+i
 ·subst h
  rw[ai rfl]
  unfold Ag
  rw[ah (by omega),ai (by omega)]
  congr 1;omega
 ·rw[ah h]
  unfold Ag
  by_cases h1:p<j
  ·rw[ai h1,ai h1]
  ·rw[ah h1,ah h1]
   by_cases h2:p<j+i
   ·rw[ai h2,ai (by omega)]
   ·rw[ah h2,ah (by omega)]
theorem Oz {n j i U D:Nat}(hU:U<4294967296 ^ (i+j))(hD:D<4294967296 ^ i):vF n (Ag j i U D)=vN 4294967296 n (D*4294967296 ^ j+U % 4294967296 ^ j):=by
 have hb:0<(4294967296:Nat):=by decide
 rw[←vF_dg]
 apply Rz
 intro p _
 unfold Ag
 by_cases h1:p<j
 ·rw[ai h1,←nM (A:=D*_+_) h1,NE,B8,nM h1]
 ·rw[ah h1]
  have e:dg 4294967296 (D*4294967296 ^ j+U % 4294967296 ^ j) p=dg 4294967296 D (p - j):=by
   obtain⟨q,rfl⟩:∃q,p=j+q:=⟨p - j,by omega⟩
   unfold dg
   rw[ie,←gY,bx D,E5 (bO hb),eC (ej _ (bO hb)),iM,Nat.add_sub_cancel_left]
  rw[e]
  by_cases h2:p<j+i
  ·rw[ai h2]
  ·rw[ah h2,l5 (bH hU (gX hb (by omega))),l5 (bH hD (gX hb (by omega)))]
theorem Lg {D P i:Nat}:∃x:Nat,u64.wrap (u64.wrap ((dg 4294967296 (D+P) i:Int) - (dg 4294967296 P i:Int)) - (((D % 4294967296 ^ i+P % 4294967296 ^ i) / 4294967296 ^ i:Nat):Int))=(x:Int)∧x / 9223372036854775808=(D % 4294967296 ^ (i+1)+P % 4294967296 ^ (i+1)) / 4294967296 ^ (i+1)∧x % 4294967296=dg 4294967296 D i:=by
 have hc:=oJ (b:=4294967296) (A:=D) (B:=P) (k:=i) (by decide)
 obtain⟨h1,h2⟩:=pQ (b:=4294967296) (A:=D) (B:=P) (k:=i) (by decide)
 have ha:=@dgl D i
 have hb:=@dgl P i
 have hd:=@dgl (D+P) i
 generalize (D % 4294967296 ^ i+P % 4294967296 ^ i) / 4294967296 ^ i=c at h1 h2 hc ⊢
 generalize (D % 4294967296 ^ (i+1)+P % 4294967296 ^ (i+1)) / 4294967296 ^ (i+1)=c' at h2 ⊢
 rw[IntKind.wrap_u64,IntKind.wrap_u64]
 exact⟨((((dg 4294967296 (D+P) i:Int) - (dg 4294967296 P i:Int)) % 18446744073709551616 - (c:Int)) % 18446744073709551616).toNat,by omega,by omega,by omega⟩
theorem lt64m {c p d:Nat}(hc:c≤d)(hp:p<4294967296)(hd:d<4294967296):c+p*d<18446744073709551616:=by
 have h1:p*d≤4294967295*4294967295:=kD (by omega) (by omega)
 omega
theorem Vv {U V D n j d:Nat}(Ql:n≤16)(hj:j+n≤16)(GC:V<4294967296 ^ n)(hU:U<4294967296 ^ (n+1+j))(hd:d<4294967296)(hD:D<4294967296 ^ (n+1))
  (Ri:D+V*d=U / 4294967296 ^ j+(if U / 4294967296 ^ j<V*d then 4294967296 ^ (n+1) else 0)):
  j3 (W V) (n:Int) (j:Int) (d:Int) (vN 4294967296 17 U)=some (decide (U / 4294967296 ^ j<V*d),vN 4294967296 17 (D*4294967296 ^ j+U % 4294967296 ^ j)):=by
 have hb:0<(4294967296:Nat):=by decide
 generalize hZ:U / 4294967296 ^ j=Z at Ri ⊢
 have Qx:Z<4294967296 ^ (n+1):=by
  rw[←hZ];exact Jh (by rw[←ie,qw];exact hU)
 have dz:∀i,i<n+1→dg 4294967296 (D+V*d) i=dg 4294967296 U (j+i):=fun i hi=>by
  have e1:dg 4294967296 U (j+i)=dg 4294967296 Z i:=by
   unfold dg;rw[←hZ,gY,←ie]
  rw[e1,←nM (A:=D+V*d) hi,←nM (A:=Z) hi,Ri]
  split
  ·rw[Nat.add_mod_right]
  ·rw[iM]
 have hcle:∀i,V % 4294967296 ^ i*d / 4294967296 ^ i≤d:=fun i=>
  dv (NG (cK d (mw (ej V (bO hb))))) (by rw[ND _ (bO hb)];exact ax _)
 have hl:=rR (b:=jo (W V) (n:Int) (j:Int) (d:Int)) (s0:=((0:Int),(0:Int),(0:Int),vN 4294967296 17 U)) (fun i=>((V % 4294967296 ^ i*d / 4294967296 ^ i:Nat),((D % 4294967296 ^ i+V*d % 4294967296 ^ i) / 4294967296 ^ i:Nat),(i:Int),vF 17 (Ag j i U D))) n ((V % 4294967296 ^ n*d / 4294967296 ^ n:Nat),((D % 4294967296 ^ n+V*d % 4294967296 ^ n) / 4294967296 ^ n:Nat),vF 17 (Ag j n U D))
  (by simp only[f4,m9,gL,Nat.zero_div,mix0];rfl)
  (fun i hi=>by
   obtain⟨h1,h2⟩:=G6 (b:=4294967296) (A:=V) (k:=i) (m:=d) hb
   obtain⟨x,Hb,xy,hx3⟩:=Lg (D:=D) (P:=V*d) (i:=i)
   have bI:=lt64m (hcle i) (@dgl V i) hd
   have hp:=@dgl (V*d) i
   have hz:=@dgl U (j+i)
   have hv:=@dgl V i
   have eij:i64.wrap ((j:Int)+(i:Int))=((j+i:Nat):Int):=by rw[bY];omega
   rw[dz i (by omega)] at Hb
   have hvd:dg 4294967296 V i*d<18446744073709551616:=dq (Nat.le_add_left _ _) bI
   dsimp only[jo]
   rw[cy _ _,aB,ab,eij,aB,ab,aB,ab,bW,bW,gN (by omega),wB (by omega),Io,iu (n:=dg 4294967296 V i) (o7),←ig,bx d,iu hvd,←kB,iu bI,Ba,h1,yf,h2,iu (n:=dg 4294967296 (V*d) i) (o7),iu (n:=dg 4294967296 U (j+i)) (o7),Hb,RN,xy,Ba,hx3,Df,bY]
   rfl)
  (by
   dsimp only[jo]
   rw[ci _ _])
 obtain⟨x,Hb,xy,hx3⟩:=Lg (D:=D) (P:=V*d) (i:=n)
 have hP:V*d<4294967296 ^ (n+1):=by
  rw[cz];exact B7 GC hd
 have Dj:V % 4294967296 ^ n*d / 4294967296 ^ n=dg 4294967296 (V*d) n:=by
  rw[ep GC]
  unfold dg
  rw[ep]
  exact Jh (by rw[←cz];exact hP)
 have hbor:(D % 4294967296 ^ (n+1)+V*d % 4294967296 ^ (n+1)) / 4294967296 ^ (n+1)=if Z<V*d then 1 else 0:=by
  rw[ep hD,ep hP,Ri]
  split
  ·rw[Nat.add_div_right _ (bO hb),eC Qx]
  ·rw[iM,eC Qx]
 have ejn:i64.wrap ((j:Int)+(n:Int))=((j+n:Nat):Int):=by rw[bY];omega
 have hz:=@dgl U (j+n)
 rw[dz n (by omega)] at Hb
 unfold j3
 rw[hl,ab]
 dsimp only
 rw[ejn,aB,ab,aB,ab,bW,wB (by omega),Io,iu (n:=dg 4294967296 U (j+n)) (o7),Dj,Hb,RN,xy,Ba,hx3,Df,Oz hU hD,hbor]
 congr 2
 by_cases h:Z<V*d
 ·simp[h]
 ·simp[h]
theorem G_give {U V D n j:Nat}(Ql:n≤16)(hj:j+n≤16)(GC:V<4294967296 ^ n)(hU:U<4294967296 ^ (n+1+j))(hD:D=(U / 4294967296 ^ j+V) % 4294967296 ^ (n+1)):
  j7 (W V) (n:Int) (j:Int) (vN 4294967296 17 U)=some (vN 4294967296 17 (D*4294967296 ^ j+U % 4294967296 ^ j)):=by
 have hb:0<(4294967296:Nat):=by decide
 have hDlt:D<4294967296 ^ (n+1):=by rw[hD];exact ej _ (bO hb)
 generalize hZ:U / 4294967296 ^ j=Z at hD
 have dz:∀i,dg 4294967296 U (j+i)=dg 4294967296 Z i:=fun i=>by
  unfold dg;rw[←hZ,gY,←ie]
 have dD:∀i,i<n+1→dg 4294967296 (Z+V) i=dg 4294967296 D i:=fun i hi=>by rw[hD,nM hi]
 have hl:=rR (b:=jq (W V) (n:Int) (j:Int)) (s0:=((0:Int),(0:Int),vN 4294967296 17 U)) (fun i=>(((Z % 4294967296 ^ i+V % 4294967296 ^ i) / 4294967296 ^ i:Nat),(i:Int),vF 17 (Ag j i U D))) n (((Z % 4294967296 ^ n+V % 4294967296 ^ n) / 4294967296 ^ n:Nat),vF 17 (Ag j n U D))
  (by simp only[f4,m9,mix0];rfl)
  (fun i hi=>by
   have hc:=oJ (b:=4294967296) (A:=Z) (B:=V) (k:=i) hb
   obtain⟨h1,h2⟩:=pQ (b:=4294967296) (A:=Z) (B:=V) (k:=i) hb
   have hz:=@dgl Z i
   have hv:=@dgl V i
   have eij:i64.wrap ((j:Int)+(i:Int))=((j+i:Nat):Int):=by rw[bY];omega
   generalize (Z % 4294967296 ^ i+V % 4294967296 ^ i) / 4294967296 ^ i=c at h1 h2 hc ⊢
   generalize (Z % 4294967296 ^ (i+1)+V % 4294967296 ^ (i+1)) / 4294967296 ^ (i+1)=c' at h2 ⊢
   dsimp only[jq]
   rw[cy _ _,eij,aB,aB,ab,aB,ab,bW,bW,gN (by omega),wB (by omega),Io,dz,iu (n:=dg 4294967296 V i) (o7),iu (n:=dg 4294967296 Z i) (o7),←kB,iu (o7),←kB,iu (o7),←xW,yf,Ba,h1,h2,dD i (by omega),Df,bY]
   rfl)
  (by
   dsimp only[jq]
   rw[ci _ _])
 have hc:=oJ (b:=4294967296) (A:=Z) (B:=V) (k:=n) hb
 obtain⟨h1,h2⟩:=pQ (b:=4294967296) (A:=Z) (B:=V) (k:=n) hb
 rw[l5 GC,iM,dD n (by omega)] at h1
 have hz:=@dgl Z n
 have ejn:i64.wrap ((j:Int)+(n:Int))=((j+n:Nat):Int):=by rw[bY];omega
 unfold j7
 rw[hl,ab]
 dsimp only
 generalize (Z % 4294967296 ^ n+V % 4294967296 ^ n) / 4294967296 ^ n=c at h1 hc ⊢
 rw[ejn,aB,aB,ab,bW,wB (by omega),Io,dz,A9 (n:=c) (by omega),←kB,qw (dg 4294967296 Z n),Ba,h1,Df,Oz hU hDlt]
theorem PZ {U V n j:Nat}(hn:2≤n)(hj:j+n≤16)(hV:2147483648*4294967296 ^ (n - 1)≤V)(GC:V<4294967296 ^ n)(hU:U / 4294967296 ^ j<V*4294967296):
  (bnd (iY (W V) (n:Int) (j:Int) (vN 4294967296 17 U)) fun LZ=>bnd (S:=Int×(Vector Int 17)) (bnd (j3 (W V) (n:Int) (j:Int) LZ (vN 4294967296 17 U)) fun Rn=>cnd Rn.1 (bnd (j7 (W V) (n:Int) (j:Int) Rn.2) fun LQ=>some ((u64.wrap (LZ - (1:Int)),LQ))) (some ((LZ,Rn.2)))) fun y=>some y)=some (((U / 4294967296 ^ j / V:Nat):Int),vN 4294967296 17 (U / 4294967296 ^ j % V*4294967296 ^ j+U % 4294967296 ^ j))∧U / 4294967296 ^ j / V<4294967296:=by
 have hb:0<(4294967296:Nat):=by decide
 obtain⟨d,hdb,hg,Di,yo⟩:=G_guess hn (by omega) hj hV GC hU
 have FY:0<V:=bH (yy (by decide) (bO hb)) hV
 have hp:0<4294967296 ^ j:=bO hb
 have Qx:U / 4294967296 ^ j<4294967296 ^ (n+1):=by
  rw[cz];exact bH hU (cK _ (mw GC))
 have hUlt:U<4294967296 ^ (n+1+j):=by
  rw[ie];exact (lR hp).1 Qx
 have hVd:V*d<4294967296 ^ (n+1):=by
  rw[cz];exact B7 GC hdb
 have hq:U / 4294967296 ^ j / V<4294967296:=by omega
 refine⟨?_,hq⟩
 have hm:=lS (U / 4294967296 ^ j) V
 have hml:=ej (U / 4294967296 ^ j) FY
 rw[hg,ab]
 by_cases bI:U / 4294967296 ^ j<V*d
 ·-- one too many
  have hdq:d=U / 4294967296 ^ j / V+1:=by
   rcases dX (U / 4294967296 ^ j / V) d with h|h
   ·omega
   ·have h1:V*d≤V*(U / 4294967296 ^ j / V):=AD _ h
    omega
  have ht:=Vv (U:=U) (V:=V) (D:=U / 4294967296 ^ j+4294967296 ^ (n+1) - V*d) (n:=n) (j:=j) (d:=d) (by omega) hj GC hUlt hdb (by omega) (by rw[ai bI];omega)
  rw[ht,aA bI,ab,fO]
  dsimp only
  generalize hD:U / 4294967296 ^ j+4294967296 ^ (n+1) - V*d=D
  have hDlt:D<4294967296 ^ (n+1):=by omega
  have e1:(D*4294967296 ^ j+U % 4294967296 ^ j) / 4294967296 ^ j=D:=by
   rw[bx,E5 hp,eC (ej _ hp),iM]
  have e2:(D*4294967296 ^ j+U % 4294967296 ^ j) % 4294967296 ^ j=U % 4294967296 ^ j:=by
   rw[NE,B8]
  have e3:(D+V) % 4294967296 ^ (n+1)=U / 4294967296 ^ j % V:=by
   have:D+V=U / 4294967296 ^ j % V+4294967296 ^ (n+1):=by
    rw[hdq,vd,yz] at hD bI
    omega
   rw[this,Nat.add_mod_right,ep]
   exact dq (Nat.mod_le _ _) Qx
  have hgv:=G_give (U:=D*4294967296 ^ j+U % 4294967296 ^ j) (V:=V) (D:=U / 4294967296 ^ j % V) (n:=n) (j:=j) (by omega) hj GC (by
   rw[ie]
   have h1:(D+1)*4294967296 ^ j≤4294967296 ^ (n+1)*4294967296 ^ j:=cK _ hDlt
   rw[bX,e8] at h1
   have:=ej U hp
   omega) (by rw[e1,e3])
  rw[hgv,ab,ab,e2,show ((d:Nat):Int) - 1=((U / 4294967296 ^ j / V:Nat):Int) from by omega,iu (o7)]
 ·have hdq:d=U / 4294967296 ^ j / V:=by
   have h1:d≤U / 4294967296 ^ j / V:=(pN FY).2 (by rw[bx];omega)
   omega
  have ht:=Vv (U:=U) (V:=V) (D:=U / 4294967296 ^ j % V) (n:=n) (j:=j) (d:=d) (by omega) hj GC hUlt hdb (dq (Nat.mod_le _ _) Qx) (by rw[ah bI,hdq];omega)
  rw[ht,a8 bI,ab,aF,ab,hdq]
theorem R4 {U V n k:Nat}(hn:2≤n)(hk:k+n≤17)(hV:2147483648*4294967296 ^ (n - 1)≤V)(GC:V<4294967296 ^ n)(hU:U / 4294967296 ^ k<V)(y:Int):
  bq (eS (n:Int) (W V,y)) ((k:Int) - 1,W 0,vN 4294967296 17 U)=some (W (U / V),vN 4294967296 17 (U % V)):=by
 have hb:0<(4294967296:Nat):=by decide
 have FY:0<V:=bH (yy (by decide) (bO hb)) hV
 have hl:=Ss (b:=eS (n:Int) (W V,y)) (s0:=((k:Int) - 1,W 0,vN 4294967296 17 U)) (fun i=>((i:Int) - 1,vN 4294967296 16 (U / V / 4294967296 ^ i*4294967296 ^ i),vN 4294967296 17 (U / 4294967296 ^ i % V*4294967296 ^ i+U % 4294967296 ^ i))) k (vN 4294967296 16 (U / V / 4294967296 ^ 0*4294967296 ^ 0),vN 4294967296 17 (U / 4294967296 ^ 0 % V*4294967296 ^ 0+U % 4294967296 ^ 0))
  (by
   have e1:U / V / 4294967296 ^ k=0:=by
    rw[gY,bx,←gY,eC hU]
   have e2:U / 4294967296 ^ k % V*4294967296 ^ k+U % 4294967296 ^ k=U:=by
    rw[ep hU,bx];exact lS _ _
   rw[e1,e2,gL])
  (fun i hi=>by
   have hp:0<4294967296 ^ i:=bO hb
   obtain⟨h1,h2⟩:=yT (b:=4294967296) (A:=U) (k:=i) (d:=V) hb FY
   have eR1:(U / 4294967296 ^ (i+1) % V*4294967296 ^ (i+1)+U % 4294967296 ^ (i+1)) / 4294967296 ^ i=U / 4294967296 ^ (i+1) % V*4294967296+dg 4294967296 U i:=by
    rw[g6,cz,←e7,E2,qw (U % _),←xW,bx (4294967296 ^ i) (dg _ _ _),←bX,bx (_+_) (4294967296 ^ i),E5 hp,eC (ej _ hp),iM]
   have eR2:(U / 4294967296 ^ (i+1) % V*4294967296 ^ (i+1)+U % 4294967296 ^ (i+1)) % 4294967296 ^ i=U % 4294967296 ^ i:=by
    rw[g6,cz,←e7,E2,qw (U % _),←xW,bx (4294967296 ^ i) (dg _ _ _),←bX,NE,B8]
   have bI:(U / 4294967296 ^ (i+1) % V*4294967296 ^ (i+1)+U % 4294967296 ^ (i+1)) / 4294967296 ^ i<V*4294967296:=by
    rw[eR1]
    have h3:=ej (U / 4294967296 ^ (i+1)) FY
    have h4:(U / 4294967296 ^ (i+1) % V+1)*4294967296≤V*4294967296:=cK _ h3
    rw[bX,e8] at h4
    exact bH (E8 dgl _) h4
   obtain⟨hq,hqb⟩:=PZ (j:=i) hn (by omega) hV GC bI
   rw[eR1,h1,h2,eR2] at hq
   rw[eR1,h1] at hqb
   have ei:((i+1:Nat):Int) - 1=(i:Int):=by omega
   dsimp only[eS]
   rw[ei,cy _ _]
   -- rI digit
   revert hq
   generalize vN 4294967296 17 (U / 4294967296 ^ (i+1) % V*4294967296 ^ (i+1)+U % 4294967296 ^ (i+1))=uv
   intro hq
   obtain⟨d,e1,hq⟩:=ae hq
   rw[uX] at hq
   rw[e1,ab,hq,ab]
   dsimp only
   rw[aB,bW,A9 hqb,Oa hb (by omega),bY])
  (by
   dsimp only[eS]
   rw[ci _ _])
 rw[hl]
 simp only[f4,m8,yz,m9,iM]
theorem build17 {A s:Nat}(hA:A<LIM)(hs:s<32):(vOf 17 (lCp (Vector.replicate 17 (0:Int)).toList 0 (List.take 17 (List.take 16 (List.drop 0 (W (A*2 ^ s)).toList))))).set! ((16:Int)).toNat ((A % 4294967296 ^ 16*2 ^ s / 4294967296 ^ 16:Nat):Int)=vN 4294967296 17 (A*2 ^ s):=by
 have hb:0<(4294967296:Nat):=by decide
 have LT:2 ^ s≤2 ^ 31:=gX (by decide) (by omega)
 have hs3:0<2 ^ s:=bO (by decide)
 have hc:A % 4294967296 ^ 16*2 ^ s / 4294967296 ^ 16<2 ^ s:=Bw hb hs3
 have h16:(W (A*2 ^ s)).toList.length=16:=nP
 have hl:lCp (Vector.replicate 17 (0:Int)).toList 0 (List.take 17 (List.take 16 (List.drop 0 (W (A*2 ^ s)).toList)))=(W (A*2 ^ s)).toList++[0]:=by
  rw[qS,g9 (i:=17) (by simp),g9 (by simp)]
  unfold lCp
  rw[h16,EP,nB]
  rfl
 have MQ:((W (A*2 ^ s)).toList++[(0:Int)]).length=17:=by rw[cD,h16];rfl
 rw[hl]
 apply oi
 intro j hj
 rw[qf hj,jI hj]
 by_cases h:j=16
 ·subst h
  rw[ai (by rfl)]
  have OZ:A<4294967296 ^ 16:=hA
  rw[ep OZ] at hc ⊢
  unfold dg
  rw[ep (by omega)]
 ·rw[ah (by simpa using h),←zU (vOf 17 _) hj,yN MQ,bL _ j (by rw[MQ];omega),List.getElem_append_left (by rw[h16];omega)]
  have e2:=jI (b:=4294967296) (A:=A*2 ^ s) (j:=j) (n:=16) (by omega)
  rw[←zU _ (by omega),bL _ j (by rw[h16];omega)] at e2
  exact e2
theorem FA {A B:Nat}(hA:A<LIM)(hB:B<LIM)(IH:0<B):fT (W A) (W B)=some (W (A / B),W (A % B)):=by
 have hb:0<(4294967296:Nat):=by decide
 obtain⟨n,hn,Te,FP,xT⟩:=Cg hB
 obtain⟨m,hm,hm1,Tg,hm3⟩:=Cg hA
 have hn0:0<n:=by
  rcases sd n with h|h
  ·subst h;simp at FP;omega
  ·exact h
 unfold fT
 rw[Te,ab,hm1,ab,Dv hA hB,ab]
 by_cases bI:A<B
 ·rw[cy _ _ (by unfold Ii;rw[ai bI];omega),ab,z16,eC bI,ep bI]
 ·rw[ci _ _ (by unfold Ii;rw[ah bI];split <;> omega)]
  by_cases h1:n=1
  ·subst h1
   have hBb:B<4294967296:=by simpa using FP
   have e0:(W B)[((0:Int)).toNat]! =(B:Int):=by
    have:(W B)[((0:Int)).toNat]! =(dg 4294967296 B 0:Int):=gN (by decide)
    rw[this]
    unfold dg
    rw[f4,m8,ep hBb]
   have hr:A % B<4294967296:=B1 (ej _ IH) hBb
   rw[cy _ _,e0,G_short hA IH hBb,ab,ab]
   have:=UX (u:=A % B) (by omega)
   rw[ep hr,eC hr] at this
   dsimp only
   rw[←this]
   rfl
  ·have h2:2≤n:=by omega
   have hk:n - 1<16:=by omega
   have hBd:B / 4294967296 ^ (n - 1)=dg 4294967296 B (n - 1):=by
    have:=cw (b:=4294967296) (A:=B) (k:=n - 1)
    rw[show n - 1+1=n from by omega,eC FP,gL,br] at this
    exact this
   obtain⟨l,hl1,FR,hl3,hl4⟩:=G_Lead (x:=dg 4294967296 B (n - 1)) dgl
   have hp:0<4294967296 ^ (n - 1):=bO hb
   have Di:1≤dg 4294967296 B (n - 1):=by rw[←hBd];exact (pN hp).2 (by rw[e8];exact xT hn0)
   have hl0:0<l:=by
    rcases sd l with h|h
    ·subst h;simp at hl3;omega
    ·exact h
   have hl5:=hl4 hl0
   have hs:32 - l<32:=by omega
   have epow:2 ^ l*2 ^ (32 - l)=4294967296:=by rw[←ie,show l+(32 - l)=32 from by omega]
   have epow2:2 ^ (l - 1)*2 ^ (32 - l)=2147483648:=by rw[←ie,show l - 1+(32 - l)=31 from by omega]
   have hS:0<2 ^ (32 - l):=bO (by decide)
   have epn:(4294967296:Nat) ^ n=4294967296 ^ (n - 1)*4294967296:=by rw[←cz];congr 1;omega
   have hVlo:2147483648*4294967296 ^ (n - 1)≤B*2 ^ (32 - l):=by
    have h3:2 ^ (l - 1)*4294967296 ^ (n - 1)≤B:=(pN hp).1 (by rw[hBd];exact hl5)
    calc 2147483648*4294967296 ^ (n - 1)=2 ^ (l - 1)*4294967296 ^ (n - 1)*2 ^ (32 - l):=by rw[←epow2,E2]
     _≤B*2 ^ (32 - l):=cK _ h3
   have hVhi:B*2 ^ (32 - l)<4294967296 ^ n:=by
    have h3:B<2 ^ l*4294967296 ^ (n - 1):=(lR hp).1 (by rw[hBd];exact hl3)
    calc B*2 ^ (32 - l)<2 ^ l*4294967296 ^ (n - 1)*2 ^ (32 - l):=NC h3 hS
     _=4294967296 ^ n:=by rw[E2,epow,bx,←epn]
   have FY:0<B*2 ^ (32 - l):=yy IH hS
   have hmn:n≤m:=by
    rcases dX m n with h|h
    ·have h3:4294967296 ^ m≤4294967296 ^ (n - 1):=gX hb (by omega)
     have h4:=xT hn0
     omega
    ·exact h
   have hUk:A*2 ^ (32 - l) / 4294967296 ^ (m - n+1)<B*2 ^ (32 - l):=by
    rw[lR (bO hb)]
    have h3:A<B*4294967296 ^ (m - n+1):=by
     have h4:4294967296 ^ (n - 1)*4294967296 ^ (m - n+1)≤B*4294967296 ^ (m - n+1):=cK _ (xT hn0)
     rw[←ie,show n - 1+(m - n+1)=m from by omega] at h4
     omega
    calc A*2 ^ (32 - l)<B*4294967296 ^ (m - n+1)*2 ^ (32 - l):=NC h3 hS
     _=B*2 ^ (32 - l)*4294967296 ^ (m - n+1):=E2 _ _ _
   have eidx:i64.wrap ((m:Int) - (n:Int))=((m - n+1:Nat):Int) - 1:=by rw[bY];omega
   rw[ci _ _,show i64.wrap ((n:Int) - 1)=((n - 1:Nat):Int) from by rw[bY];omega,aB,bW,gN hk,hl1,ab,G_up hs,ab,G_up hs,ab,ab]
   dsimp only
   rw[build17 hA hs,eidx,r16,R4 h2 (by omega) hVlo hVhi hUk,ab]
   dsimp only
   have hmod:A*2 ^ (32 - l) % (B*2 ^ (32 - l))<4294967296 ^ 16:=bH (ej _ FY) (dv (mw hVhi) (gX hb hn))
   rw[vsub 16 0 (by omega),f4,m8,G_down hmod hs,ab,Nat.mul_mod_mul_right,NB _ hS,Nat.mul_div_mul_right _ _ hS]
theorem At(x y:Nat):Nat.gcd x y=Nat.gcd y (x % y):=by
 rw[Nat.gcd_comm x y,Nat.gcd_rec,Nat.gcd_comm]
theorem Vu(x y:Nat):bq i9 ((x:Int),(y:Int))=some ((Nat.gcd x y:Nat):Int):=by
 induction y using Nat.strongRecOn generalizing x with
 |_ y ih=>
  by_cases hy:y=0
  ·subst hy
   rw[Jg]
   exact nS (by dsimp only[i9];rw[ci _ _ (by simp)])
  ·have h1:i9 ((x:Int),(y:Int))=some (.inl ((y:Int),((x % y:Nat):Int))):=by
    dsimp only[i9]
    rw[cy _ _,aB,←tH]
   rw[pw h1,ih (x % y) (ej _ (by omega)) y,←At]
theorem wE {A:Nat}(hA:A<LIM):∃n:Nat,eK (W A)=some (n:Int)∧(n≤2↔A<18446744073709551616):=by
 obtain⟨n,hn,h1,h2⟩:=Cg hA
 have e:(4294967296:Nat) ^ 2=18446744073709551616:=by decide
 refine⟨n,h1,fun h=>?_,fun h=>Mb (by decide) h2 (by rw[e];exact h)⟩
 have h3:4294967296 ^ n≤4294967296 ^ 2:=gX (by decide) h
 rw[e] at h3
 exact bH h2.1 h3
theorem G_Abs {a:Int}(ha:a.natAbs<LIM):qn (enc a)=some (enc (a.natAbs:Int)):=by
 unfold qn
 rw[tq,bf ha,ab,cG,aF,lZ ha,jG ha,ab]
 rfl
theorem xO {a c:Int}(ha:a.natAbs<LIM)(hc:c.natAbs<LIM)(h1:a.natAbs<18446744073709551616)(h2:c.natAbs<18446744073709551616)(p:ao→ao→Option ao):
  cE p (enc a) (enc c)=some (enc (Nat.gcd a.natAbs c.natAbs:Nat)):=by
 obtain⟨n,Te,FP⟩:=wE ha
 obtain⟨m,hm1,Tg⟩:=wE hc
 have hg:Nat.gcd a.natAbs c.natAbs<18446744073709551616:=by
  rcases sd a.natAbs with h|h
  ·rw[h,NA];exact h2
  ·exact dq (B0 _ h) h1
 have hgL:Nat.gcd a.natAbs c.natAbs<LIM:=bH hg (by decide)
 unfold cE
 rw[vn,bf ha,bf hc,ab]
 simp only[eI,cG,aF,lZ ha,lZ hc]
 rw[Te,ab,cy _ _ (by have:=FP.2 h1;omega),hm1,ab,ab,cy _ _ (by have:=Tg.2 h2;omega),Sr h1,Sr h2,ab,ab,Vu,ab,Ba,yf,A9,UX hg,jG hgL,ab]
 rfl
theorem LG {a:Int}(ha:a.natAbs<LIM)(p:ao→ao→Option ao):cE p (enc a) (enc 0)=some (enc (Nat.gcd a.natAbs 0:Nat)):=by
 by_cases h1:a.natAbs<18446744073709551616
 ·exact xO ha (by decide) h1 (by decide) p
 ·obtain⟨n,Te,FP⟩:=wE ha
  have hc:(0:Int).natAbs<LIM:=by decide
  unfold cE
  rw[vn,bf ha,bf hc,ab]
  simp only[eI,cG,aF,lZ ha,lZ hc]
  rw[Te,ab,ci _ _ (by have:=mt FP.1 h1;omega),ab,aF,ci _ _ (by rw[z16];exact fun h=>h rfl),G_Abs ha,ab,Jg]
theorem LH {a c:Int}(ha:a.natAbs<LIM)(hc:c.natAbs<LIM)(h0:c.natAbs≠0)(h1:¬(a.natAbs<18446744073709551616∧c.natAbs<18446744073709551616))(p:ao→ao→Option ao):
  cE p (enc a) (enc c)=p (enc (c.natAbs:Int)) (enc ((a.natAbs % c.natAbs:Nat):Int)):=by
 obtain⟨n,Te,FP⟩:=wE ha
 obtain⟨m,hm1,Tg⟩:=wE hc
 have hr:a.natAbs % c.natAbs<LIM:=dq (Nat.mod_le _ _) ha
 unfold cE
 rw[vn,bf ha,bf hc,ab]
 simp only[eI,cG,aF,lZ ha,lZ hc]
 rw[Te,ab,hm1,ab]
 have KM:(cnd (decide ((n:Int)≤(2:Int))) (some (decide ((m:Int)≤(2:Int)))) (some (false)))=some false:=by
  rw[fH]
  split
  ·rename_i h
   congr 1
   have h2:=FP.1 (by omega)
   exact a8 fun h3=>h1 ⟨h2,Tg.1 (by omega)⟩
  ·rfl
 rw[KM,ab,aF,z16,cy _ _ (by rw[Fj hc xN];exact h0),FA ha hc (by omega),ab,jG hc,ab]
 dsimp only
 rw[jG hr,ab,uX]
 rfl
theorem Qt {x y:Nat}(hy:0<y)(hxy:y≤x):2*(y*(x % y))<x*y:=by
 have h1:=lS x y
 have h2:=ej x hy
 have h3:0<x / y:=E3 hxy hy
 have h4:y≤y*(x / y):=Ht _ h3
 have h5:2*(x % y)<x:=by omega
 have h6:2*(x % y)*y<x*y:=NC h5 hy
 calc 2*(y*(x % y))=2*(x % y)*y:=by rw[bx y,e7]
  _<x*y:=h6
theorem Px(n:Nat):∀{a c:Int},a.natAbs<LIM→c.natAbs<LIM→c.natAbs≤a.natAbs→a.natAbs*c.natAbs<18446744073709551616*2 ^ n→ik (n+2) (enc a) (enc c)=some (enc (Nat.gcd a.natAbs c.natAbs:Nat)):=by
 induction n with
 |zero=>
  intro a c ha hc hle hp
  show cE _ _ _=_
  by_cases h0:c.natAbs=0
  ·obtain rfl:c=0:=by omega
   exact LG ha _
  ·have h1:a.natAbs≤a.natAbs*c.natAbs:=Ht _ (by omega)
   exact xO ha hc (by omega) (by omega) _
 |succ n ih=>
  intro a c ha hc hle hp
  show cE (ik (n+2)) _ _=_
  by_cases h0:c.natAbs=0
  ·obtain rfl:c=0:=by omega
   exact LG ha _
  ·by_cases h1:a.natAbs<18446744073709551616∧c.natAbs<18446744073709551616
   ·exact xO ha hc h1.1 h1.2 _
   ·have h2:=Qt (zx h0) hle
    have h3:=ej a.natAbs (zx h0)
    rw[LH ha hc h0 h1,ih (by rw[dT];exact hc) (by rw[dT];omega) (by rw[dT,dT];omega) (by rw[dT,dT];rw[cz] at hp;omega),dT,dT,←At]
theorem PF {a c:Int}(ha:a.natAbs<LIM)(hc:c.natAbs<LIM):nX (enc a) (enc c)=some (enc (Nat.gcd a.natAbs c.natAbs:Nat)):=by
 have e:LIM*LIM≤18446744073709551616*2 ^ 960:=by decide +kernel
 have mono:∀(n:Nat) {x y r:ao},ik n x y=some r→∀m,n≤m→ik m x y=some r:=by
  have step:∀{p q:ao→ao→Option ao},(∀{x y r},p x y=some r→q x y=some r)→∀{x y r},cE p x y=some r→cE q x y=some r:=by
   intro p q hpq x y r h
   unfold cE at h ⊢
   obtain⟨b,h1,h⟩:=ae h
   rw[h1,ab]
   cases b with
   |false=>exact h
   |true=>
    rw[cG,aF] at h ⊢
    obtain⟨b2,h2,h⟩:=ae h
    rw[h2,ab]
    cases b2 with
    |true=>exact h
    |false=>
     rw[aF] at h ⊢
     cases hd:decide (¬(y.vW=#v[(0:Int),0,0,0,0,0,0,0,0,0,0,0,0,0,0,0])) with
     |false=>rw[hd] at h;exact h
     |true=>
      rw[hd,fO] at h
      rw[fO]
      obtain⟨q1,h3,h⟩:=ae h
      rw[h3,ab]
      obtain⟨q2,h4,h⟩:=ae h
      rw[h4,ab]
      obtain⟨q3,h5,h⟩:=ae h
      rw[h5,ab]
      obtain⟨q4,h6,h⟩:=ae h
      rw[hpq h6,ab]
      exact h
  intro n
  induction n with
  |zero=>intro x y r h;cases h
  |succ n ih=>
   intro x y r h m hm
   obtain⟨m,rfl⟩:∃k,m=k+1:=⟨m - 1,by omega⟩
   exact step (fun h=>ih h m (by omega)) h
 unfold nX
 by_cases hle:c.natAbs≤a.natAbs
 ·refine mono 962 (Px 960 ha hc hle ?_) 1000 (by decide)
  exact bH (B7 ha hc) e
 ·by_cases h1:a.natAbs<18446744073709551616∧c.natAbs<18446744073709551616
  ·exact xO ha hc h1.1 h1.2 _
  ·refine mono 963 ?_ 1000 (by decide)
   show cE (ik 962) _ _=_
   rw[LH ha hc (by omega) h1,ep (by omega),Px 960 (by rw[dT];exact hc) (by rw[dT];exact ha) (by rw[dT,dT];omega) (by rw[dT,dT];exact bH (B7 hc ha) e),dT,dT,Nat.gcd_comm]
theorem mL {x y:Int}(hy:y≠0)(q r:Int)(h:q*y+r=x)(hr:0≤r∧r<y∨y<r∧r≤0):q=x.fdiv y∧r=x.fmod y:=by
 have h2:x.fdiv y*y+x.fmod y=x:=Int.fdiv_mul_add_fmod x y
 have hf:0≤x.fmod y∧x.fmod y<y∨y<x.fmod y∧x.fmod y≤0:=by
  rcases Int.lt_or_gt_of_ne hy with h|h
  ·right
   have h3:=Int.neg_fmod_neg x y
   have h4:=w6 (-x) (b:=-y) (by omega)
   have h5:=zw (-x) (b:=-y) (by omega)
   omega
  ·left;exact⟨w6 _ h,zw _ h⟩
 have hq:q=x.fdiv y:=by
  have h3:(q - x.fdiv y)*y=x.fmod y - r:=by rw[Int.sub_mul];omega
  rcases w9 (q - x.fdiv y) 0 with h4|h4|h4
  ·exfalso
   rcases hr with hr|hr <;> rcases hf with hf|hf
   ·have:(q - x.fdiv y)*y≤(-1)*y:=Jf (by omega) (by omega)
    omega
   ·omega
   ·omega
   ·have:(-1)*y≤(q - x.fdiv y)*y:=UR (by omega) (by omega)
    omega
  ·omega
  ·exfalso
   rcases hr with hr|hr <;> rcases hf with hf|hf
   ·have:1*y≤(q - x.fdiv y)*y:=Jf (by omega) (by omega)
    omega
   ·omega
   ·omega
   ·have:(q - x.fdiv y)*y≤1*y:=UR (by omega) (by omega)
    omega
 subst hq
 exact⟨rfl,by omega⟩
theorem Kc {x y:Int}(hy:y≠0):x.tmod y<y.natAbs∧-(y.natAbs:Int)<x.tmod y:=by
 have h1:=Int.natAbs_tmod x y
 have h2:=ej x.natAbs (show 0<y.natAbs by omega)
 rw[←h1] at h2
 omega
theorem Bc {x y:Int}(hy:y≠0):(cnd (decide (x.tmod y≠0)) (some (!((decide (x.tmod y<0)) == (decide (y<0))))) (some false))=some (decide (x.fdiv y≠x.tdiv y))∧(x.fdiv y≠x.tdiv y→x.fdiv y=x.tdiv y - 1∧x.fmod y=x.tmod y+y)∧(x.fdiv y=x.tdiv y→x.fmod y=x.tmod y):=by
 have e1:x.tdiv y*y+x.tmod y=x:=Int.tdiv_mul_add_tmod x y
 have e2:x.fdiv y*y+x.fmod y=x:=Int.fdiv_mul_add_fmod x y
 have hm:=Kc (x:=x) hy
 rw[fH]
 by_cases h1:x.tmod y=0
 ·obtain⟨h2,h3⟩:=mL (x:=x) hy (x.tdiv y) (x.tmod y) e1 (by omega)
  rw[ah (by simp[h1])]
  exact⟨by simp[h2],fun h=>absurd h2.symm h,fun _=>h3.symm⟩
 ·rw[ai h1]
  by_cases h2:(x.tmod y<0)↔(y<0)
  ·obtain⟨h3,h4⟩:=mL (x:=x) hy (x.tdiv y) (x.tmod y) e1 (by omega)
   refine⟨?_,fun h=>absurd h3.symm h,fun _=>h4.symm⟩
   rw[li.2 h2,E7]
   simp[h3]
  ·obtain⟨h3,h4⟩:=mL (x:=x) hy (x.tdiv y - 1) (x.tmod y+y) (by rw[Int.sub_mul];omega) (by omega)
   have h5:(decide (x.tmod y<0) == decide (y<0))=false:=Lt.2 fun h=>h2 (li.1 h)
   have h6:x.fdiv y≠x.tdiv y:=by omega
   refine⟨?_,fun _=>⟨h3.symm,h4.symm⟩,fun h=>absurd h h6⟩
   rw[h5]
   simp[h6]
theorem Kd {x y:Int}(hx:-9223372036854775807≤x∧x≤9223372036854775807):-9223372036854775807≤x.tdiv y∧x.tdiv y≤9223372036854775807:=by
 have h1:(x.tdiv y).natAbs=x.natAbs / y.natAbs:=Int.natAbs_tdiv ..
 have h2:x.natAbs / y.natAbs≤x.natAbs:=oQ _ _
 omega
theorem T7 {x y:Int}(hx:-9223372036854775807≤x∧x≤9223372036854775807)(LS:-9223372036854775807≤y∧y≤9223372036854775807)(hy:y≠0):
  (bnd (S:=Int×Int) (bnd (S:=Bool) (cnd (decide ((Int.tmod x y)≠(0:Int))) (some (!((decide ((Int.tmod x y)<(0:Int))) == (decide (y<(0:Int)))))) (some (false))) fun su=>cnd su (bnd (some (i64.wrap ((i64.wrap (Int.tdiv x y)) - (1:Int)))) fun AV=>bnd (some (i64.wrap ((Int.tmod x y)+y))) fun AT=>some ((AV,AT))) (some ((i64.wrap (Int.tdiv x y),Int.tmod x y)))) fun (kF,qU)=>bnd (gU kF) fun x32=>bnd (gU qU) fun x34=>some ((.inr (x32,x34)):Unit⊕(ao×ao)))=some (.inr (enc (x.fdiv y),enc (x.fmod y))):=by
 obtain⟨h1,h2,h3⟩:=Bc (x:=x) hy
 have hq:=Kd (y:=y) hx
 have hm:=Kc (x:=x) hy
 rw[h1,ab]
 by_cases h:x.fdiv y=x.tdiv y
 ·have hf:=h3 h
  rw[ci _ _ (fun hh=>hh h),ab,Rt]
  dsimp only
  rw[N1 (by omega) (by omega),ab,N1 (by omega) (by omega),ab,h,hf]
 ·obtain⟨h4,h5⟩:=h2 h
  have hf:x.fmod y≤9223372036854775807∧-9223372036854775807≤x.fmod y:=by
   have:-(y.natAbs:Int)≤x.fmod y∧x.fmod y≤y.natAbs:=by
    rcases Int.lt_or_gt_of_ne hy with hl|hl
    ·have h7:=w6 (-x) (b:=-y) (by omega)
     have h8:=zw (-x) (b:=-y) (by omega)
     have h9:=Int.neg_fmod_neg x y
     omega
    ·have h7:=w6 x (b:=y) (by omega)
     have h8:=zw x (b:=y) (by omega)
     omega
   omega
  rw[cy _ _ h,Rt (z:=Int.tdiv x y) (by omega),ab,ab,Rt,Rt,←h4,←h5]
  dsimp only
  rw[ab]
  dsimp only
  rw[N1 (by omega) (by omega),ab,N1 (by omega) (by omega),ab]
theorem HN {a c:Int}(ha:a.natAbs<LIM)(hc:c.natAbs<LIM)(h0:c≠0):iZ (enc a) (enc c)=some (enc (a.fdiv c),enc (a.fmod c)):=by
 have Gl:∀r:Unit⊕(ao×ao),r=.inl ()→(match r with| .inl ()=>bnd (fT (enc a).vW (enc c).vW) fun GN=>bnd (bG (!((enc a).vNeg == (enc c).vNeg)) GN.1) fun LP=>bnd (S:=(Vector Int 16)×ao) (bnd (S:=Bool) (cnd (decide (¬(GN.2=#v[(0:Int),0,0,0,0,0,0,0,0,0,0,0,0,0,0,0]))) (some (!((enc a).vNeg == (enc c).vNeg))) (some (false))) fun CL=>cnd CL (bnd (gU (1:Int)) fun PH=>bnd (nV LP PH) fun x46=>bnd (ij (enc c).vW GN.2) fun x48=>some ((x48,x46))) (some ((GN.2,LP)))) fun (tn,jQ)=>bnd (bG (enc c).vNeg tn) fun x51=>some (jQ,x51)| .inr r=>some r)=some (enc (a.fdiv c),enc (a.fmod c)):=by
  rintro r rfl
  dsimp only
  have hr:=ej a.natAbs (show 0<c.natAbs by omega)
  have hq:a.natAbs / c.natAbs≤a.natAbs:=oQ _ _
  have hdm:=lS a.natAbs c.natAbs
  rw[lZ ha,lZ hc,jT ha,jT hc,FA ha hc (by omega),ab]
  dsimp only
  rw[jG (dq hq ha),ab,z16]
  simp only[Fj (B1 hr hc) xN]
  have MS:(c.natAbs:Int)*((a.natAbs / c.natAbs:Nat):Int)+((a.natAbs % c.natAbs:Nat):Int)=(a.natAbs:Int):=by rw[←ig,←kB,hdm]
  generalize hQ:a.natAbs / c.natAbs=Q at MS hq ⊢
  generalize hR:a.natAbs % c.natAbs=R at MS hr ⊢
  by_cases hs:decide (a<0)=decide (c<0)
  ·have KF:=li.1 hs
   rw[hs,E7,cG]
   rw[show (cnd (decide (¬(R=0))) (some false) (some false))=some false from by rw[Un],ab,aF,ab]
   dsimp only[cond_false]
   rw[jG (B1 hr hc),ab]
   obtain⟨h1,h2⟩:=mL (x:=a) h0 (Q:Int) (bif decide (c<0) then -(R:Int) else (R:Int)) (by
    by_cases Dj:c<0
    ·rw[aA Dj,kA]
     have e:c=-(c.natAbs:Int):=by omega
     have e2:a=-(a.natAbs:Int):=by omega
     rw[e2,←MS]
     conv=>lhs;rw[e]
     rw[B6,lh];omega
    ·rw[a8 Dj,cond_false]
     have e:c=(c.natAbs:Int):=by omega
     have e2:a=(a.natAbs:Int):=by omega
     rw[e2,←MS]
     conv=>lhs;rw[e]
     rw[lh]) (by
    by_cases Dj:c<0
    ·rw[aA Dj,kA];omega
    ·rw[a8 Dj,cond_false];omega)
   rw[←h1,←h2]
  ·have KF:¬((a<0)↔(c<0)):=fun h=>hs (li.2 h)
   have hb:(decide (a<0) == decide (c<0))=false:=Lt.2 hs
   rw[hb,qM,kA]
   have hmul:-(Q:Int)*c=(if c<0 then 1 else -1)*((c.natAbs:Int)*(Q:Int)):=by
    split
    ·have e:c=-(c.natAbs:Int):=by omega
     conv=>lhs;rw[e]
     rw[Int.neg_mul_neg,zu,lh]
    ·have e:c=(c.natAbs:Int):=by omega
     conv=>lhs;rw[e]
     rw[E4,E4,zu,lh]
   by_cases hR0:R=0
   ·rw[ci _ _ (by simpa using hR0),ab,aF,ab]
    dsimp only
    rw[jG (B1 hr hc),ab]
    obtain⟨h1,h2⟩:=mL (x:=a) h0 (-(Q:Int)) 0 (by rw[hmul];subst hR0;split <;> omega) (by omega)
    rw[←h1,←h2]
    subst hR0
    cases decide (c<0) <;> rfl
   ·have hQ1:((-(Q:Int)).natAbs)<LIM:=by rw[Int.natAbs_neg,dT];exact dq hq ha
    rw[cy _ _ hR0,ab,fO,N1 (by decide) (by decide),ab,G_Sub hQ1 (by decide),ab,JC (mw hr),ab,ab]
    dsimp only
    rw[jG (dq (Nat.sub_le _ _) hc),ab]
    obtain⟨h1,h2⟩:=mL (x:=a) h0 (-(Q:Int) - 1) (bif decide (c<0) then -((c.natAbs - R:Nat):Int) else ((c.natAbs - R:Nat):Int)) (by
     rw[Int.sub_mul,hmul]
     by_cases Dj:c<0
     ·rw[aA Dj,kA,ai Dj];omega
     ·rw[a8 Dj,cond_false,ah Dj];omega) (by
     by_cases Dj:c<0
     ·rw[aA Dj,kA];omega
     ·rw[a8 Dj,cond_false];omega)
    rw[←h1,←h2]
 unfold iZ
 rw[vn,bf ha,bf hc,ab,eI,cG,aF,xo hc,ab,ab,ci _ _ (by rw[BZ];exact h0),PB ha,ab]
 have Ei:∀z:Int,(bnd (S:=Bool) (cnd (if -9223372036854775808≤z∧z<9223372036854775808 then (z,true) else (0,false):Int×Bool).2 (some (decide ((if -9223372036854775808≤z∧z<9223372036854775808 then (z,true) else (0,false):Int×Bool).1≠(-9223372036854775808:Int)))) (some (false))) fun a=>some a)=some (decide (-9223372036854775807≤z∧z≤9223372036854775807)):=by
  intro z
  rw[uX]
  split
  ·rw[fO];congr 1;exact li.2 (by omega)
  ·rw[aF];congr 1;exact (a8 (by omega)).symm
 have e1:=Ei a
 have e2:=Ei c
 rw[uX] at e1 e2
 rw[e1,ab,fH]
 split
 ·rename_i h1
  rw[PB hc,ab,e2,ab,fH]
  split
  ·rename_i h2
   rw[ai (by omega),ai (by omega),aB h0,aB h0,T7 h1 h2 h0,ab]
  ·rw[ab];exact Gl _ rfl
 ·rw[ab];exact Gl _ rfl
theorem FC {a c:Int}(ha:a.natAbs<LIM)(hc:c.natAbs<LIM)(h0:c≠0):gt (enc a) (enc c)=some (enc (a.fdiv c)):=by
 unfold gt
 rw[HN ha hc h0,ab]
end
end Go.Proofs.YtaedcknhkjpmlaaGreat
