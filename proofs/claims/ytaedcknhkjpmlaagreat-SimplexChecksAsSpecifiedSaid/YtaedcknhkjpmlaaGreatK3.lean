/-
  Lemmas, part 3. Conditions: none.
-/
import Derived.Test.YtaedcknhkjpmlaaGreatK2
set_option linter.all false
set_option maxRecDepth 100000
namespace Go.Proofs.YtaedcknhkjpmlaaGreat
open Go.RowKit Go.IntKind
noncomputable section
def jd(aJ:av)(aQ:av)(x8:Int)(bB:Int):Int×Int×(Vector Int 32)→Option ((Int×Int×(Vector Int 32))⊕(Int×(Vector Int 32))):=fun (tw,nC,zu)=>cnd (decide (nC<x8)) (gd (0≤bB∧bB<16) (gd (0≤nC∧nC<16) (gd (0≤i64.wrap (bB+nC)∧i64.wrap (bB+nC)<32) (bnd (some (u64.wrap (tw+(u64.wrap ((u64.wrap ((u64.wrap ((aJ.vW)[(bB).toNat]!))*(u64.wrap ((aQ.vW)[(nC).toNat]!))))+(u64.wrap ((zu)[(i64.wrap (bB+nC)).toNat]!))))))) fun pG=>gd (0≤i64.wrap (bB+nC)∧i64.wrap (bB+nC)<32) (bnd (some ((zu).set! (i64.wrap (bB+nC)).toNat (u32.wrap (pG)))) fun wZ=>some (.inl (mR .u64 pG (32:Int),i64.wrap (nC+(1:Int)),wZ))))))) (some (.inr (tw,zu)))
def je(aJ:av)(aQ:av)(x6:Int)(x8:Int):Int×(Vector Int 32)→Option ((Int×(Vector Int 32))⊕((Vector Int 32))):=fun (bB,lN)=>cnd (decide (bB<x6)) (bnd (bL (jd aJ aQ x8 bB) ((0:Int),(0:Int),lN)) fun (wA,wz)=>gd (0≤i64.wrap (bB+x8)∧i64.wrap (bB+x8)<32) (bnd (some ((wz).set! (i64.wrap (bB+x8)).toNat (u32.wrap (wA)))) fun uP=>some (.inl (i64.wrap (bB+(1:Int)),uP)))) (some (.inr lN))
def jy(aJ:av)(aQ:av):Option av:=bnd (c0 [aJ,aQ]) fun x1=>cnd (!x1) (bnd (eW) fun x4=>some x4) (bnd (fb aJ.vW) fun x6=>bnd (fb aQ.vW) fun x8=>bnd (bL (je aJ aQ x6 x8) ((0:Int),(Vector.replicate 32 (0:Int)))) fun eL=>cnd (decide (¬(vOf 16 (List.take 16 (List.drop 16 (eL).toList))=#v[(0:Int),0,0,0,0,0,0,0,0,0,0,0,0,0,0,0]))) (bnd (eW) fun BB=>some BB) (bnd (bV (!(aJ.vNeg == aQ.vNeg)) (vOf 16 (List.take 16 (List.drop 0 (eL).toList)))) fun u3=>some u3))
set_option maxHeartbeats 4000000 in
theorem mr {aJ:av}{aQ:av}{r:av}(h:jy aJ aQ=some r):ax Tryz.prog 94 [dG aj aJ,dG aj aQ] (dG aj r):=by
 refine bC (rs:=[.cell 4 41]) (fun cx hx h0=>?_) Tryz.func94
 unfold jy at h
 refine rs hx fun K hK=>?_
 iterate 2 refine sa ?_
 refine s1 (be (F:=aj.f a6) am) ?_
 refine .nil (hK _ _ (AW.seq (rs hx fun K hK=>?_)))
 refine s1 (d:=dG aj aJ) (aq (ak.id _ _) am) ?_
 refine s1 (d:=dG aj aQ) (aq (ak.id _ _) am) ?_
 refine s1 (kJ ([aJ,aQ]:List av) aj pd am) ?_
 refine scb h fE fun x1 h=>?_
 refine sa ?_
 refine .nil (hK _ _ (cdh h rfl (fun a8 h=>?_) (fun a8 h=>?_)))
 refine rs hx fun K hK=>?_
 refine scb h ip fun x4 h=>?_
 refine s0 (aE (b':=x4) (ak.id _ _) am) ?_
 refine .nil (hK _ _ (AW.ret ?_))
 cases h
 exact rv1
 refine AW.skip (rs hx fun K hK=>?_)
 refine s1 (be (F:=(cA 32 (cI .u32)).f (Vector.replicate 32 (0:Int))) xJ) ?_
 refine .nil (hK _ _ (rsd [148] hx fun K hK=>?_))
 refine sa ?_
 refine s1 (aq (aY aJ) aA) ?_
 refine cqb h kP fun x6 h=>?_
 refine sa ?_
 refine s1 (aq (aY aQ) aA) ?_
 refine cqb h kP fun x8 h=>?_
 iterate 2 refine sa ?_
 refine .nil (hK _ _ (AW.seq (ra hx ?_)))
 refine AW.block ?_
 obtain⟨eL,hy,h⟩:=ae h
 refine lp (S:=Int×(Vector Int 32)) (X:=(Vector Int 32)) (fun (bB,lN)=>[(2,.pt 0 0),(3,.pt 1 0),(4,.pt 2 0),(5,.pt 3 0),(7,dI .i64 x8),(23,dI .i64 x6),(24,dI .i64 bB)]) (fun (bB,lN)=>⟨[(0,dC (aj.f aJ)),(1,dC (aj.f aQ)),(2,dC (aj.f a6)),(3,dC ((cA 32 (cI .u32)).f lN))],[],4⟩) (PE cx (.exit 0) (fun eL=>[(2,.pt 0 0),(3,.pt 1 0),(4,.pt 2 0),(5,.pt 3 0)]) fun eL=>⟨[(0,dC (aj.f aJ)),(1,dC (aj.f aQ)),(2,dC (aj.f a6)),(3,dC ((cA 32 (cI .u32)).f eL))],[],4⟩) hy ?_ ?_ ?_
 exact wk h0 [0,1,2,4] (wR rfl (wR rfl (wR rfl (wR rfl (wR rfl (wR rfl (wR rfl wTn))))))) (vC rfl (vC rfl (vC rfl (vC rfl wVn)))) wLn
 clear hy h
 rintro⟨bB,lN⟩ y h
 dsimp only[je] at h
 refine ra hx ?_
 refine AW.seq (cdh h rfl (fun dT h=>?_) (fun dT h=>?_))
 refine AW.skip (AW.seq (AW.block ?_))
 iterate 2 refine ra hx ?_
 refine AW.seq (ra hx ?_)
 refine AW.block ?_
 obtain⟨y,hy,h⟩:=ae h
 refine lp (S:=Int×Int×(Vector Int 32)) (X:=Int×(Vector Int 32)) (fun (tw,nC,zu)=>[(2,.pt 0 0),(3,.pt 1 0),(4,.pt 2 0),(5,.pt 3 0),(7,dI .i64 x8),(8,dI .i64 bB),(9,dI .u64 tw),(23,dI .i64 x6),(24,dI .i64 bB),(27,dI .i64 x8),(28,dI .i64 nC)]) (fun (tw,nC,zu)=>⟨[(0,dC (aj.f aJ)),(1,dC (aj.f aQ)),(2,dC (aj.f a6)),(3,dC ((cA 32 (cI .u32)).f zu))],[],4⟩) (PE cx (.exit 2) (fun (wA,wz)=>[(2,.pt 0 0),(3,.pt 1 0),(4,.pt 2 0),(5,.pt 3 0),(7,dI .i64 x8),(8,dI .i64 bB),(9,dI .u64 wA),(23,dI .i64 x6),(24,dI .i64 bB)]) fun (wA,wz)=>⟨[(0,dC (aj.f aJ)),(1,dC (aj.f aQ)),(2,dC (aj.f a6)),(3,dC ((cA 32 (cI .u32)).f wz))],[],4⟩) hy ?_ ?_ ?_
 exact wk h0 [0,1,2,3] (wR rfl (wR rfl (wR rfl (wR rfl (wR rfl (wR rfl (wR rfl (wR rfl (wR rfl (wR rfl (wR rfl wTn))))))))))) (vC rfl (vC rfl (vC rfl (vC rfl wVn)))) wLn
 clear hy h
 rintro⟨tw,nC,zu⟩ y h
 dsimp only[jd] at h
 refine ra hx ?_
 refine AW.seq (cdh h rfl (fun qH h=>?_) (fun qH h=>?_))
 refine AW.skip (AW.seq (AW.block (ra hx ?_)))
 refine rsd [] hx fun K hK=>?_
 iterate 3 refine sa ?_
 obtain⟨Pi,h⟩:=aD h
 have JJ:(bB).toNat<16:=by omega
 refine s1 (bY Pi aA aI) ?_
 refine s1 (aT (ak.comp (aY aJ) (ak.vec (cI .u32) aJ.vW (bB).toNat JJ) (fun _=>rfl)) aI) ?_
 iterate 3 refine sa ?_
 obtain⟨hc14,h⟩:=aD h
 have JI:(nC).toNat<16:=by omega
 refine s1 (bY hc14 aA aI) ?_
 refine s1 (aT (ak.comp (aY aQ) (ak.vec (cI .u32) aQ.vW (nC).toNat JI) (fun _=>rfl)) aI) ?_
 iterate 5 refine sa ?_
 obtain⟨H6,h⟩:=aD h
 have JH:(i64.wrap (bB+nC)).toNat<32:=by omega
 refine s1 (bY H6 xJ aI) ?_
 refine s1 (aT (ak.comp (ak.id _ _) (ak.vec (cI .u32) zu (i64.wrap (bB+nC)).toNat JH) (fun _=>rfl)) aI) ?_
 iterate 3 refine sa ?_
 obtain⟨pG,Ak,h⟩:=ae h
 replace Ak:=bW Ak
 refine s2 (d2:=dI .u64 pG) mp (gM (congrArg (dI .u64) Ak)) ?_
 refine .nil (hK _ _ (rs hx fun K hK=>?_))
 iterate 5 refine sa ?_
 obtain⟨Mo,h⟩:=aD h
 have OX:(i64.wrap (bB+nC)).toNat<32:=by omega
 refine s1 (bY Mo xJ aI) ?_
 obtain⟨wZ,Jy,h⟩:=ae h
 replace Jy:=bW Jy
 refine s0 (nS (b':=u32.wrap (pG)) (ak.comp (ak.id _ _) (ak.vec (cI .u32) zu (i64.wrap (bB+nC)).toNat OX) (fun _=>rfl)) aI Jy) ?_
 refine .nil (hK _ _ ?_)
 iterate 2 refine rb hx ?_
 cases h
 exact PS.l (pe0 h0 [0,1,2,3])
 refine AW.exit ?_
 try dsimp only
 try simp only[aS,reduceIte,Nat.reduceEqDiff,reduceCtorEq]
 cases h
 exact PS.r ⟨by nofun,PE.i (wk h0 [0,1,2,3] (wR rfl (wR rfl (wR rfl (wR rfl (wR rfl (wR rfl (wR rfl (wR rfl (wR rfl wTn))))))))) (vC rfl (vC rfl (vC rfl (vC rfl wVn)))) wLn)⟩
 obtain⟨wA,wz⟩:=y
 rintro ex tm' hp' ⟨rfl,hw⟩
 try dsimp only
 try simp only[aS,reduceIte,Nat.reduceEqDiff,reduceCtorEq]
 refine AW.weak hw (rq hx fun K hK=>?_)
 iterate 5 refine sa ?_
 obtain⟨hc25,h⟩:=aD h
 have OW:(i64.wrap (bB+x8)).toNat<32:=by omega
 refine s1 (bY hc25 xJ aI) ?_
 obtain⟨uP,Aj,h⟩:=ae h
 replace Aj:=bW Aj
 refine s0 (nS (b':=u32.wrap (wA)) (ak.comp (ak.id _ _) (ak.vec (cI .u32) wz (i64.wrap (bB+x8)).toNat OW) (fun _=>rfl)) aI Aj) ?_
 refine .nil (hK _ _ (rb hx ?_))
 cases h
 exact PS.l (pe0 h0 [0,1,2,3])
 refine AW.exit ?_
 try dsimp only
 try simp only[aS,reduceIte,Nat.reduceEqDiff,reduceCtorEq]
 cases h
 exact PS.r ⟨by nofun,PE.i (wk h0 [0,1,2,3] (wR rfl (wR rfl (wR rfl (wR rfl wTn)))) (vC rfl (vC rfl (vC rfl (vC rfl wVn)))) wLn)⟩
 rintro ex tm' hp' ⟨rfl,hw⟩
 try dsimp only
 try simp only[aS,reduceIte,Nat.reduceEqDiff,reduceCtorEq]
 refine AW.weak hw (AW.seq (rs hx fun K hK=>?_))
 refine q1 (slA (n:=32) (l:=(16:Int)) (h:=(32:Int)) tok (by decide) xJ aI ⟨_,rfl⟩ rfl) ?_
 refine q1 (sPtr tok rfl aA) ?_
 refine s1 (d:=dG (cA 16 (cI .u32)) (vOf 16 (List.take 16 (List.drop 16 (eL).toList)))) (aq (ak.sub (o:=16) 16 (cI .u32) eL 16 (by decide) (by first|rfl|decide)) aA) ?_
 refine s1 (d:=dG (cA 16 (cI .u32)) (#v[(0:Int),0,0,0,0,0,0,0,0,0,0,0,0,0,0,0])) (lP aA aI) ?_
 refine s1 (DD tok 2 (by decide) (EqC.arr (EqC.int (d:=0) aI) aA aI) aA) ?_
 refine .nil (hK _ _ (cdh h rfl (fun JV h=>?_) (fun JV h=>?_)))
 refine rs hx fun K hK=>?_
 refine scb h ip fun BB h=>?_
 refine s0 (aE (b':=BB) (ak.id _ _) am) ?_
 refine .nil (hK _ _ (AW.ret ?_))
 cases h
 exact rv1
 refine AW.skip (rsd [145] hx fun K hK=>?_)
 refine sa ?_
 refine s1 (aT (aN aJ) ey) ?_
 refine sa ?_
 refine s1 (aT (aN aQ) ey) ?_
 refine sa ?_
 refine q1 (slA (n:=32) (l:=(0:Int)) (h:=(16:Int)) tok (by decide) xJ aI rfl ⟨_,rfl⟩) ?_
 refine q1 (sPtr tok rfl aA) ?_
 refine s1 (d:=dG (cA 16 (cI .u32)) (vOf 16 (List.take 16 (List.drop 0 (eL).toList)))) (aq (ak.sub (o:=0) 16 (cI .u32) eL 0 (by decide) (by first|rfl|decide)) aA) ?_
 obtain⟨u3,HV,h⟩:=ae h
 refine sq tok (d7 HV) (by simp only[cP,dA,bX,bt,bc,bp];exact⟨rfl,aC _ _⟩) (lA (ap _) (lA (bZ _ _) lAn)) (.inl (ii _ _)) ?_
 refine s0 (aE (b':=u3) (ak.id _ _) am) ?_
 refine .nil (hK _ _ (AW.ret ?_))
 cases h
 exact rv1
def fY(aU:Int):Option Int:=bnd (mX aU) fun x1=>some (i64.wrap ((32:Int) - x1))
theorem uQ {aU:Int}{r:Int}(h:fY aU=some r):ax Tryz.prog 188 [dI .u32 aU] (dI .i64 r):=by
 refine bC (rs:=[.tmp 2]) (fun cx hx h0=>?_) Tryz.func188
 unfold fY at h
 refine ra hx ?_
 refine rs hx fun K hK=>?_
 refine sa ?_
 refine scb h yx fun x1 h=>?_
 iterate 2 refine sa ?_
 refine .nil (hK _ _ (AW.ret ?_))
 cases h
 exact rv1
def j5(yH:Vector Int 16)(cy:Int)(kV:Int)(nM:Vector Int 17)(x9:Int):Int×Int→Option ((Int×Int)⊕Int):=fun (d5,bH)=>bnd (S:=Bool) (cnd (decide (bH<(4294967296:Int))) (cnd (decide ((4294967296:Int)≤d5)) (some (true)) (gd (0≤i64.wrap (cy - (2:Int))∧i64.wrap (cy - (2:Int))<16) (gd (0≤i64.wrap ((i64.wrap (kV+cy)) - (2:Int))∧i64.wrap ((i64.wrap (kV+cy)) - (2:Int))<17) (some (decide ((ior .u64 (xP .u64 bH (32:Int)) (u64.wrap ((nM)[(i64.wrap ((i64.wrap (kV+cy)) - (2:Int))).toNat]!)))<(u64.wrap (d5*(u64.wrap ((yH)[(i64.wrap (cy - (2:Int))).toNat]!)))))))))) (some (false))) fun dp=>cnd dp (some (.inl (u64.wrap (d5 - (1:Int)),u64.wrap (bH+x9)))) (some (.inr d5))
def jb(yH:Vector Int 16)(cy:Int)(kV:Int)(nM:Vector Int 17):Option Int:=gd (0≤i64.wrap (kV+cy)∧i64.wrap (kV+cy)<17) (gd (0≤i64.wrap ((i64.wrap (kV+cy)) - (1:Int))∧i64.wrap ((i64.wrap (kV+cy)) - (1:Int))<17) (bnd (some (ior .u64 (xP .u64 (u64.wrap ((nM)[(i64.wrap (kV+cy)).toNat]!)) (32:Int)) (u64.wrap ((nM)[(i64.wrap ((i64.wrap (kV+cy)) - (1:Int))).toNat]!)))) fun x5=>gd (0≤i64.wrap (cy - (1:Int))∧i64.wrap (cy - (1:Int))<16) (bnd (some (u64.wrap ((yH)[(i64.wrap (cy - (1:Int))).toNat]!))) fun x9=>gd (x9≠0) (gd (x9≠0) (bnd (bL (j5 yH cy kV nM x9) (u64.wrap (Int.tdiv x5 x9),Int.tmod x5 x9)) fun cw=>some cw)))))
theorem Bm {yH:Vector Int 16}{cy:Int}{kV:Int}{nM:Vector Int 17}{r:Int}(h:jb yH cy kV nM=some r):HC Tryz.prog 190 [.pt 0 0,dG (cA 16 (cI .u32)) yH,dI .i64 cy,dI .i64 kV] ⟨[(0,dC ((cA 17 (cI .u32)).f nM))],[],1⟩ (dI .u64 r) ⟨[(0,dC ((cA 17 (cI .u32)).f nM))],[],1⟩:=by
 refine HC.of (rs:=[.tmp 8]) tok Tryz.func190 rfl rfl (dK rfl) rfl (fun cx hx h1 hok=>?_)
 have h0:cx.hp0.next=1:=by rw[h1]
 simp only[fS,Nat.reduceAdd,bJ]
 unfold jb at h
 refine ra hx ?_
 refine rsd [] hx fun K hK=>?_
 iterate 5 refine sa ?_
 obtain⟨JR,h⟩:=aD h
 have E4:(i64.wrap (kV+cy)).toNat<17:=by omega
 refine s1 (bY JR m8 aI) ?_
 refine s1 (aT (ak.comp (ak.id _ _) (ak.vec (cI .u32) nM (i64.wrap (kV+cy)).toNat E4) (fun _=>rfl)) aI) ?_
 iterate 8 refine sa ?_
 obtain⟨Pg,h⟩:=aD h
 have hn4:(i64.wrap ((i64.wrap (kV+cy)) - (1:Int))).toNat<17:=by omega
 refine s1 (bY Pg m8 aI) ?_
 refine s1 (aT (ak.comp (ak.id _ _) (ak.vec (cI .u32) nM (i64.wrap ((i64.wrap (kV+cy)) - (1:Int))).toNat hn4) (fun _=>rfl)) aI) ?_
 iterate 2 refine sa ?_
 obtain⟨x5,Bq,h⟩:=ae h
 replace Bq:=bW Bq
 refine s2 (d2:=dI .u64 x5) mp (gM (congrArg (dI .u64) Bq)) ?_
 refine .nil (hK _ _ (rs hx fun K hK=>?_))
 iterate 2 refine sa ?_
 obtain⟨JO,h⟩:=aD h
 have G6:(i64.wrap (cy - (1:Int))).toNat<16:=by omega
 refine s1 (bY JO aA aI) ?_
 refine s1 (aT (ak.comp (ak.id _ _) (ak.vec (cI .u32) yH (i64.wrap (cy - (1:Int))).toNat G6) (fun _=>rfl)) aI) ?_
 refine sa ?_
 obtain⟨x9,vw,h⟩:=ae h
 replace vw:=bW vw
 refine s2 (d2:=dI .u64 x9) mp (gM (congrArg (dI .u64) vw)) ?_
 refine .nil (hK _ _ (rsd [] hx fun K hK=>?_))
 iterate 2 refine sa ?_
 obtain⟨JQ,h⟩:=aD h
 refine s1 (Fo JQ) ?_
 iterate 2 refine sa ?_
 obtain⟨Pi,h⟩:=aD h
 refine s1 (DB Pi) ?_
 iterate 2 refine sa ?_
 refine .nil (hK _ _ (AW.seq (AW.block ?_)))
 obtain⟨cw,hy,h⟩:=ae h
 refine lp (S:=Int×Int) (X:=Int) (fun (d5,bH)=>[(0,.pt 0 0),(2,dI .i64 cy),(3,dI .i64 kV),(5,.pt 1 0),(10,dI .u64 x9),(11,dI .u64 d5),(12,dI .u64 bH)]) (fun (d5,bH)=>⟨[(0,dC ((cA 17 (cI .u32)).f nM)),(1,dC ((cA 16 (cI .u32)).f yH))],[],2⟩) (PE cx (.exit 0) (fun cw=>[(11,dI .u64 cw)]) fun cw=>⟨[(0,dC ((cA 17 (cI .u32)).f nM))],[],1⟩) hy ?_ ?_ ?_
 exact wkN h0 [1] (wR rfl (wR rfl (wR rfl (wR rfl (wR rfl (wR rfl (wR rfl wTn))))))) (vC rfl (vC rfl wVn)) wLn
 clear hy h
 rintro⟨d5,bH⟩ y h
 dsimp only[j5] at h
 iterate 2 refine AW.seq ?_
 obtain⟨dp,hy,h⟩:=ae h
 refine jn ((PE cx .normal (fun dp=>[(0,.pt 0 0),(2,dI .i64 cy),(3,dI .i64 kV),(5,.pt 1 0),(10,dI .u64 x9),(11,dI .u64 d5),(12,dI .u64 bH),(70,dB dp)]) fun dp=>⟨[(0,dC ((cA 17 (cI .u32)).f nM)),(1,dC ((cA 16 (cI .u32)).f yH))],[],2⟩) dp) ?_ ?_
 replace h:=hy
 refine rqd [] hx fun K hK=>?_
 iterate 3 refine sa ?_
 rcases az (decide (bH<(4294967296:Int))) with mm|mm
 replace h:=aO mm h
 iterate 3 refine ga mm ?_
 rcases az (decide ((4294967296:Int)≤d5)) with eM|eM
 replace h:=aO eM h
 iterate 20 refine aG rfl rfl eM ?_
 refine g1 mm (ar eM) ?_
 refine s1 (ar mm) ?_
 refine .nil (hK _ _ ?_)
 cases h
 exact PE.i (wkN h0 [1] (wR rfl (wR rfl (wR rfl (wR rfl (wR rfl (wR rfl (wR rfl (wR rfl wTn)))))))) (vC rfl (vC rfl wVn)) wLn)
 replace h:=aP eM h
 iterate 3 refine ga eM ?_
 obtain⟨Ph,h⟩:=aD h
 have Et:(i64.wrap (cy - (2:Int))).toNat<16:=by omega
 refine g1 eM (bY Ph aA aI) ?_
 refine g1 eM (aT (ak.comp (ak.id _ _) (ak.vec (cI .u32) yH (i64.wrap (cy - (2:Int))).toNat Et) (fun _=>rfl)) aI) ?_
 iterate 3 refine ga eM ?_
 refine g1 eM (Qu (b:=(32:Int)) (by decide)) ?_
 iterate 6 refine ga eM ?_
 obtain⟨hc17,h⟩:=aD h
 have hn18:(i64.wrap ((i64.wrap (kV+cy)) - (2:Int))).toNat<17:=by omega
 refine g1 eM (bY hc17 m8 aI) ?_
 refine g1 eM (aT (ak.comp (ak.id _ _) (ak.vec (cI .u32) nM (i64.wrap ((i64.wrap (kV+cy)) - (2:Int))).toNat hn18) (fun _=>rfl)) aI) ?_
 refine ga eM ?_
 refine g1 eM T_or ?_
 refine ga eM ?_
 refine g1 mm (an eM) ?_
 refine s1 (ar mm) ?_
 refine .nil (hK _ _ ?_)
 cases h
 exact PE.i (wkN h0 [1] (wR rfl (wR rfl (wR rfl (wR rfl (wR rfl (wR rfl (wR rfl (wR rfl wTn)))))))) (vC rfl (vC rfl wVn)) wLn)
 replace h:=aP mm h
 iterate 3 refine aG rfl rfl mm ?_
 iterate 20 refine nn_t rfl rfl ?_
 refine aG rfl rfl mm ?_
 refine s1 (an mm) ?_
 refine .nil (hK _ _ ?_)
 cases h
 exact PE.i (wkN h0 [1] (wR rfl (wR rfl (wR rfl (wR rfl (wR rfl (wR rfl (wR rfl (wR rfl wTn)))))))) (vC rfl (vC rfl wVn)) wLn)
 rintro ex tm' hp' ⟨rfl,hw⟩
 refine AW.weak hw (cdh h rfl (fun t4 h=>?_) (fun t4 h=>?_))
 refine AW.skip (AW.block (ra hx ?_))
 refine rb hx ?_
 cases h
 exact PS.l (PE.i (wkN h0 [1] (wR rfl (wR rfl (wR rfl (wR rfl (wR rfl (wR rfl (wR rfl wTn))))))) (vC rfl (vC rfl wVn)) wLn))
 refine AW.exit ?_
 try dsimp only
 try simp only[aS,reduceIte,Nat.reduceEqDiff,reduceCtorEq]
 cases h
 exact PS.r ⟨by nofun,PE.i (wkN h0 [] (wR rfl wTn) (vC rfl wVn) wLn)⟩
 rintro ex tm' hp' ⟨rfl,hw⟩
 try dsimp only
 try simp only[aS,reduceIte,Nat.reduceEqDiff,reduceCtorEq]
 refine AW.weak hw (ra hx ?_)
 refine AW.ret ?_
 cases h
 exact rH1 (wkN h0 [] (wR rfl wTn) (vC rfl wVn) wLn)
def jv(yH:Vector Int 16)(cy:Int)(kV:Int)(tV:Int):Int×Int×Int×(Vector Int 17)→Option ((Int×Int×Int×(Vector Int 17))⊕(Int×Int×(Vector Int 17))):=fun (aZ,bm,lq,GP)=>cnd (decide (lq<cy)) (gd (0≤lq∧lq<16) (bnd (some (u64.wrap (aZ+(u64.wrap (tV*(u64.wrap ((yH)[(lq).toNat]!))))))) fun x4=>gd (0≤i64.wrap (kV+lq)∧i64.wrap (kV+lq)<17) (bnd (some (u64.wrap ((u64.wrap ((u64.wrap ((GP)[(i64.wrap (kV+lq)).toNat]!)) - (u64.wrap (u32.wrap (x4))))) - bm))) fun x8=>gd (0≤i64.wrap (kV+lq)∧i64.wrap (kV+lq)<17) (bnd (some ((GP).set! (i64.wrap (kV+lq)).toNat (u32.wrap (x8)))) fun iE=>some (.inl (mR .u64 x4 (32:Int),mR .u64 x8 (63:Int),i64.wrap (lq+(1:Int)),iE)))))) (some (.inr (aZ,bm,GP)))
def ke(yH:Vector Int 16)(cy:Int)(kV:Int)(tV:Int)(nM:Vector Int 17):Option (Bool×(Vector Int 17)):=bnd (bL (jv yH cy kV tV) ((0:Int),(0:Int),(0:Int),nM)) fun (bj,iQ,v5)=>gd (0≤i64.wrap (kV+cy)∧i64.wrap (kV+cy)<17) (bnd (some (u64.wrap ((u64.wrap ((u64.wrap ((v5)[(i64.wrap (kV+cy)).toNat]!)) - bj)) - iQ))) fun nT=>gd (0≤i64.wrap (kV+cy)∧i64.wrap (kV+cy)<17) (bnd (some ((v5).set! (i64.wrap (kV+cy)).toNat (u32.wrap (nT)))) fun qR=>some (decide ((mR .u64 nT (63:Int))=(1:Int)),qR)))
theorem BZ {yH:Vector Int 16}{cy:Int}{kV:Int}{tV:Int}{nM:Vector Int 17}{r:Bool×(Vector Int 17)}(h:ke yH cy kV tV nM=some r):HC Tryz.prog 191 [.pt 0 0,dG (cA 16 (cI .u32)) yH,dI .i64 cy,dI .i64 kV,dI .u64 tV] ⟨[(0,dC ((cA 17 (cI .u32)).f nM))],[],1⟩ (dB r.1) ⟨[(0,dC ((cA 17 (cI .u32)).f r.2))],[],1⟩:=by
 refine HC.of (rs:=[.tmp 10]) tok Tryz.func191 rfl rfl (dK rfl) rfl (fun cx hx h1 hok=>?_)
 have h0:cx.hp0.next=1:=by rw[h1]
 simp only[fS,Nat.reduceAdd,bJ]
 unfold ke at h
 iterate 2 refine ra hx ?_
 refine AW.seq (ra hx ?_)
 refine AW.block ?_
 obtain⟨y,hy,h⟩:=ae h
 refine lp (S:=Int×Int×Int×(Vector Int 17)) (X:=Int×Int×(Vector Int 17)) (fun (aZ,bm,lq,GP)=>[(0,.pt 0 0),(2,dI .i64 cy),(3,dI .i64 kV),(4,dI .u64 tV),(6,.pt 1 0),(11,dI .u64 aZ),(12,dI .u64 bm),(16,dI .i64 cy),(17,dI .i64 lq)]) (fun (aZ,bm,lq,GP)=>⟨[(0,dC ((cA 17 (cI .u32)).f GP)),(1,dC ((cA 16 (cI .u32)).f yH))],[],2⟩) (PE cx (.exit 0) (fun (bj,iQ,v5)=>[(0,.pt 0 0),(2,dI .i64 cy),(3,dI .i64 kV),(11,dI .u64 bj),(12,dI .u64 iQ)]) fun (bj,iQ,v5)=>⟨[(0,dC ((cA 17 (cI .u32)).f v5))],[],1⟩) hy ?_ ?_ ?_
 exact wkN h0 [1] (wR rfl (wR rfl (wR rfl (wR rfl (wR rfl (wR rfl (wR rfl (wR rfl (wR rfl wTn))))))))) (vC rfl (vC rfl wVn)) wLn
 clear hy h
 rintro⟨aZ,bm,lq,GP⟩ y h
 dsimp only[jv] at h
 refine ra hx ?_
 refine AW.seq (cdh h rfl (fun cv h=>?_) (fun cv h=>?_))
 refine AW.skip (AW.seq (AW.block (ra hx ?_)))
 refine rs hx fun K hK=>?_
 iterate 3 refine sa ?_
 obtain⟨mq,h⟩:=aD h
 have qD:(lq).toNat<16:=by omega
 refine s1 (bY mq aA aI) ?_
 refine s1 (aT (ak.comp (ak.id _ _) (ak.vec (cI .u32) yH (lq).toNat qD) (fun _=>rfl)) aI) ?_
 iterate 3 refine sa ?_
 obtain⟨x4,qd,h⟩:=ae h
 replace qd:=bW qd
 refine s2 (d2:=dI .u64 x4) mp (gM (congrArg (dI .u64) qd)) ?_
 refine .nil (hK _ _ (rs hx fun K hK=>?_))
 iterate 5 refine sa ?_
 obtain⟨hc6,h⟩:=aD h
 have hn7:(i64.wrap (kV+lq)).toNat<17:=by omega
 refine s1 (bY hc6 m8 aI) ?_
 refine s1 (aT (ak.comp (ak.id _ _) (ak.vec (cI .u32) GP (i64.wrap (kV+lq)).toNat hn7) (fun _=>rfl)) aI) ?_
 iterate 7 refine sa ?_
 obtain⟨x8,KQ,h⟩:=ae h
 replace KQ:=bW KQ
 refine s2 (d2:=dI .u64 x8) mp (gM (congrArg (dI .u64) KQ)) ?_
 refine .nil (hK _ _ (rs hx fun K hK=>?_))
 iterate 7 refine sa ?_
 obtain⟨H7,h⟩:=aD h
 have O0:(i64.wrap (kV+lq)).toNat<17:=by omega
 refine s1 (bY H7 m8 aI) ?_
 obtain⟨iE,vu,h⟩:=ae h
 replace vu:=bW vu
 refine s0 (nS (b':=u32.wrap (x8)) (ak.comp (ak.id _ _) (ak.vec (cI .u32) GP (i64.wrap (kV+lq)).toNat O0) (fun _=>rfl)) aI vu) ?_
 refine .nil (hK _ _ (ra hx ?_))
 iterate 2 refine rb hx ?_
 cases h
 exact PS.l (PE.i (wkN h0 [1] (wR rfl (wR rfl (wR rfl (wR rfl (wR rfl (wR rfl (wR rfl (wR rfl (wR rfl wTn))))))))) (vC rfl (vC rfl wVn)) wLn))
 refine AW.exit ?_
 try dsimp only
 try simp only[aS,reduceIte,Nat.reduceEqDiff,reduceCtorEq]
 cases h
 exact PS.r ⟨by nofun,PE.i (wkN h0 [] (wR rfl (wR rfl (wR rfl (wR rfl (wR rfl wTn))))) (vC rfl wVn) wLn)⟩
 obtain⟨bj,iQ,v5⟩:=y
 rintro ex tm' hp' ⟨rfl,hw⟩
 try dsimp only
 try simp only[aS,reduceIte,Nat.reduceEqDiff,reduceCtorEq]
 refine AW.weak hw (rs hx fun K hK=>?_)
 iterate 5 refine sa ?_
 obtain⟨Ph,h⟩:=aD h
 have Et:(i64.wrap (kV+cy)).toNat<17:=by omega
 refine s1 (bY Ph m8 aI) ?_
 refine s1 (aT (ak.comp (ak.id _ _) (ak.vec (cI .u32) v5 (i64.wrap (kV+cy)).toNat Et) (fun _=>rfl)) aI) ?_
 iterate 5 refine sa ?_
 obtain⟨nT,ta,h⟩:=ae h
 replace ta:=bW ta
 refine s2 (d2:=dI .u64 nT) mp (gM (congrArg (dI .u64) ta)) ?_
 refine .nil (hK _ _ (rs hx fun K hK=>?_))
 iterate 7 refine sa ?_
 obtain⟨hc19,h⟩:=aD h
 have hn20:(i64.wrap (kV+cy)).toNat<17:=by omega
 refine s1 (bY hc19 m8 aI) ?_
 obtain⟨qR,Jz,h⟩:=ae h
 replace Jz:=bW Jz
 refine s0 (nS (b':=u32.wrap (nT)) (ak.comp (ak.id _ _) (ak.vec (cI .u32) v5 (i64.wrap (kV+cy)).toNat hn20) (fun _=>rfl)) aI Jz) ?_
 refine .nil (hK _ _ (ra hx ?_))
 refine AW.ret ?_
 cases h
 exact rH1 (wkN h0 [] (wR rfl wTn) (vC rfl wVn) wLn)
def jx(yH:Vector Int 16)(cy:Int)(kV:Int):Int×Int×(Vector Int 17)→Option ((Int×Int×(Vector Int 17))⊕(Int×(Vector Int 17))):=fun (aZ,bm,lq)=>cnd (decide (bm<cy)) (gd (0≤i64.wrap (kV+bm)∧i64.wrap (kV+bm)<17) (gd (0≤bm∧bm<16) (bnd (some (u64.wrap (aZ+(u64.wrap ((u64.wrap ((lq)[(i64.wrap (kV+bm)).toNat]!))+(u64.wrap ((yH)[(bm).toNat]!))))))) fun x6=>gd (0≤i64.wrap (kV+bm)∧i64.wrap (kV+bm)<17) (bnd (some ((lq).set! (i64.wrap (kV+bm)).toNat (u32.wrap (x6)))) fun jm=>some (.inl (mR .u64 x6 (32:Int),i64.wrap (bm+(1:Int)),jm)))))) (some (.inr (aZ,lq)))
def ku(yH:Vector Int 16)(cy:Int)(kV:Int)(nM:Vector Int 17):Option (Vector Int 17):=bnd (bL (jx yH cy kV) ((0:Int),(0:Int),nM)) fun (bj,iQ)=>gd (0≤i64.wrap (kV+cy)∧i64.wrap (kV+cy)<17) (gd (0≤i64.wrap (kV+cy)∧i64.wrap (kV+cy)<17) (bnd (some ((iQ).set! (i64.wrap (kV+cy)).toNat (u32.wrap (((iQ)[(i64.wrap (kV+cy)).toNat]!)+(u32.wrap (bj)))))) fun nT=>some nT))
theorem B0 {yH:Vector Int 16}{cy:Int}{kV:Int}{nM:Vector Int 17}{r:Vector Int 17}(h:ku yH cy kV nM=some r):HC Tryz.prog 192 [.pt 0 0,dG (cA 16 (cI .u32)) yH,dI .i64 cy,dI .i64 kV] ⟨[(0,dC ((cA 17 (cI .u32)).f nM))],[],1⟩ (.tu []) ⟨[(0,dC ((cA 17 (cI .u32)).f r))],[],1⟩:=by
 refine HC.of (rs:=[]) tok Tryz.func192 rfl rfl (dK rfl) rfl (fun cx hx h1 hok=>?_)
 have h0:cx.hp0.next=1:=by rw[h1]
 simp only[fS,Nat.reduceAdd,bJ]
 unfold ku at h
 iterate 2 refine ra hx ?_
 refine AW.seq (ra hx ?_)
 refine AW.block ?_
 obtain⟨y,hy,h⟩:=ae h
 refine lp (S:=Int×Int×(Vector Int 17)) (X:=Int×(Vector Int 17)) (fun (aZ,bm,lq)=>[(0,.pt 0 0),(2,dI .i64 cy),(3,dI .i64 kV),(5,.pt 1 0),(8,dI .u64 aZ),(10,dI .i64 cy),(11,dI .i64 bm)]) (fun (aZ,bm,lq)=>⟨[(0,dC ((cA 17 (cI .u32)).f lq)),(1,dC ((cA 16 (cI .u32)).f yH))],[],2⟩) (PE cx (.exit 0) (fun (bj,iQ)=>[(0,.pt 0 0),(2,dI .i64 cy),(3,dI .i64 kV),(8,dI .u64 bj)]) fun (bj,iQ)=>⟨[(0,dC ((cA 17 (cI .u32)).f iQ))],[],1⟩) hy ?_ ?_ ?_
 exact wkN h0 [1] (wR rfl (wR rfl (wR rfl (wR rfl (wR rfl (wR rfl (wR rfl wTn))))))) (vC rfl (vC rfl wVn)) wLn
 clear hy h
 rintro⟨aZ,bm,lq⟩ y h
 dsimp only[jx] at h
 refine ra hx ?_
 refine AW.seq (cdh h rfl (fun cv h=>?_) (fun cv h=>?_))
 refine AW.skip (AW.seq (AW.block (ra hx ?_)))
 refine rsd [] hx fun K hK=>?_
 iterate 6 refine sa ?_
 obtain⟨mq,h⟩:=aD h
 have qD:(i64.wrap (kV+bm)).toNat<17:=by omega
 refine s1 (bY mq m8 aI) ?_
 refine s1 (aT (ak.comp (ak.id _ _) (ak.vec (cI .u32) lq (i64.wrap (kV+bm)).toNat qD) (fun _=>rfl)) aI) ?_
 iterate 2 refine sa ?_
 obtain⟨D5,h⟩:=aD h
 have Mj:(bm).toNat<16:=by omega
 refine s1 (bY D5 aA aI) ?_
 refine s1 (aT (ak.comp (ak.id _ _) (ak.vec (cI .u32) yH (bm).toNat Mj) (fun _=>rfl)) aI) ?_
 iterate 3 refine sa ?_
 obtain⟨x6,rT,h⟩:=ae h
 replace rT:=bW rT
 refine s2 (d2:=dI .u64 x6) mp (gM (congrArg (dI .u64) rT)) ?_
 refine .nil (hK _ _ (rs hx fun K hK=>?_))
 iterate 7 refine sa ?_
 obtain⟨Gs,h⟩:=aD h
 have H3:(i64.wrap (kV+bm)).toNat<17:=by omega
 refine s1 (bY Gs m8 aI) ?_
 obtain⟨jm,yQ,h⟩:=ae h
 replace yQ:=bW yQ
 refine s0 (nS (b':=u32.wrap (x6)) (ak.comp (ak.id _ _) (ak.vec (cI .u32) lq (i64.wrap (kV+bm)).toNat H3) (fun _=>rfl)) aI yQ) ?_
 refine .nil (hK _ _ ?_)
 iterate 2 refine rb hx ?_
 cases h
 exact PS.l (PE.i (wkN h0 [1] (wR rfl (wR rfl (wR rfl (wR rfl (wR rfl (wR rfl (wR rfl wTn))))))) (vC rfl (vC rfl wVn)) wLn))
 refine AW.exit ?_
 try dsimp only
 try simp only[aS,reduceIte,Nat.reduceEqDiff,reduceCtorEq]
 cases h
 exact PS.r ⟨by nofun,PE.i (wkN h0 [] (wR rfl (wR rfl (wR rfl (wR rfl wTn)))) (vC rfl wVn) wLn)⟩
 obtain⟨bj,iQ⟩:=y
 rintro ex tm' hp' ⟨rfl,hw⟩
 try dsimp only
 try simp only[aS,reduceIte,Nat.reduceEqDiff,reduceCtorEq]
 refine AW.weak hw (rqd [] hx fun K hK=>?_)
 iterate 5 refine sa ?_
 obtain⟨hc13,h⟩:=aD h
 have OY:(i64.wrap (kV+cy)).toNat<17:=by omega
 refine s1 (bY hc13 m8 aI) ?_
 refine s1 (aT (ak.comp (ak.id _ _) (ak.vec (cI .u32) iQ (i64.wrap (kV+cy)).toNat OY) (fun _=>rfl)) aI) ?_
 iterate 4 refine sa ?_
 obtain⟨Ph,h⟩:=aD h
 have Et:(i64.wrap (kV+cy)).toNat<17:=by omega
 refine s1 (bY Ph m8 aI) ?_
 obtain⟨nT,ta,h⟩:=ae h
 replace ta:=bW ta
 refine s0 (nS (b':=u32.wrap (((iQ)[(i64.wrap (kV+cy)).toNat]!)+(u32.wrap (bj)))) (ak.comp (ak.id _ _) (ak.vec (cI .u32) iQ (i64.wrap (kV+cy)).toNat Et) (fun _=>rfl)) aI ta) ?_
 refine .nil (hK _ _ ?_)
 cases h
 exact rH0 (wkN h0 [] wTn (vC rfl wVn) wLn)
def fg(x1:Int)(yj:(Vector Int 16)×Int):Int×(Vector Int 16)×(Vector Int 17)→Option ((Int×(Vector Int 16)×(Vector Int 17))⊕((Vector Int 16)×(Vector Int 17))):=fun (rL,Bh,Dv)=>cnd (decide ((0:Int)≤rL)) (bnd (jb yj.1 x1 rL Dv) fun wY=>bnd (S:=Int×(Vector Int 17)) (bnd (ke yj.1 x1 rL wY Dv) fun I2=>cnd I2.1 (bnd (ku yj.1 x1 rL I2.2) fun u3=>some ((u64.wrap (wY - (1:Int)),u3))) (some ((wY,I2.2)))) fun (tq,IK)=>gd (0≤rL∧rL<16) (some (.inl (i64.wrap (rL - (1:Int)),(Bh).set! (rL).toNat (u32.wrap (tq)),IK)))) (some (.inr (Bh,Dv)))
def f8(aJ:Vector Int 16)(aQ:Vector Int 16):Option ((Vector Int 16)×(Vector Int 16)):=bnd (fb aQ) fun x1=>bnd (fb aJ) fun x3=>bnd (iu aJ aQ) fun x5=>cnd (decide (x5<(0:Int))) (bnd (some (#v[(0:Int),0,0,0,0,0,0,0,0,0,0,0,0,0,0,0])) fun x8=>some (x8,aJ)) (cnd (decide (x1=(1:Int))) (bnd (nt aJ ((aQ)[((0:Int)).toNat]!)) fun iE=>bnd (some (#v[iE.2,0,0,0,0,0,0,0,0,0,0,0,0,0,0,0])) fun m4=>some (iE.1,m4)) (gd (0≤i64.wrap (x1 - (1:Int))∧i64.wrap (x1 - (1:Int))<16) (bnd (fY ((aQ)[(i64.wrap (x1 - (1:Int))).toNat]!)) fun pG=>bnd (pi aQ pG) fun yj=>bnd (pi aJ pG) fun wZ=>bnd (some (vOf 17 (lCp ((Vector.replicate 17 (0:Int))).toList 0 (List.take 17 (List.take 16 (List.drop 0 (wZ.1).toList)))))) fun Bl=>bnd (bL (fg x1 yj) (i64.wrap (x3 - x1),(cH),(Bl).set! ((16:Int)).toNat wZ.2)) fun (uk,uj)=>bnd (oE (vOf 16 (List.take 16 (List.drop 0 (uj).toList))) pG) fun Bk=>some (uk,Bk))))
set_option maxHeartbeats 4000000 in
theorem sS {aJ:Vector Int 16}{aQ:Vector Int 16}{r:(Vector Int 16)×(Vector Int 16)}(h:f8 aJ aQ=some r):ax Tryz.prog 162 [dG (cA 16 (cI .u32)) aJ,dG (cA 16 (cI .u32)) aQ] (.tu [dG (cA 16 (cI .u32)) r.1,dG (cA 16 (cI .u32)) r.2]):=by
 refine bC (rs:=[.cell 4 39,.cell 5 39]) (fun cx hx h0=>?_) Tryz.func162
 unfold f8 at h
 refine rs hx fun K hK=>?_
 iterate 2 refine sa ?_
 iterate 2 refine s1 (be (F:=(cA 16 (cI .u32)).f (cH)) aA) ?_
 refine .nil (hK _ _ (rsd [148] hx fun K hK=>?_))
 refine s1 (d:=dG (cA 16 (cI .u32)) aQ) (aq (ak.id _ _) aA) ?_
 refine cqb h kP fun x1 h=>?_
 refine s1 (d:=dG (cA 16 (cI .u32)) aJ) (aq (ak.id _ _) aA) ?_
 refine cqb h kP fun x3 h=>?_
 iterate 2 refine sa ?_
 refine .nil (hK _ _ (AW.seq (rs hx fun K hK=>?_)))
 refine s1 (d:=dG (cA 16 (cI .u32)) aJ) (aq (ak.id _ _) aA) ?_
 refine s1 (d:=dG (cA 16 (cI .u32)) aQ) (aq (ak.id _ _) aA) ?_
 refine scb h pz fun x5 h=>?_
 refine sa ?_
 refine .nil (hK _ _ (cdh h rfl (fun nN h=>?_) (fun nN h=>?_)))
 refine AW.seq ?_
 obtain⟨x8,KQ,h⟩:=ae h
 replace KQ:=bW KQ
 refine jn (PE cx .normal (fun (_:Unit)=>[(4,.pt 0 0),(5,.pt 1 0)]) (fun (_:Unit)=>⟨[(0,dC ((cA 16 (cI .u32)).f x8)),(1,dC ((cA 16 (cI .u32)).f aJ))],[],2⟩) ()) ?_ ?_
 refine dw (DW.split 1 2 (by decide) ?_ ?_)
 refine dwg [] [0,1,2,3] hx (by kernel_rfl) (by kernel_rfl) (by kernel_rfl) fun K hK=>?_
 dsimp only[ez,mZ,na,List.map]
 refine s1 (d:=dG (cA 16 (cI .u32)) (#v[(0:Int),0,0,0,0,0,0,0,0,0,0,0,0,0,0,0])) (lP aA aI) ?_
 refine s1 (d:=dG (cA 16 (cI .u32)) aJ) (aq (ak.id _ _) aA) ?_
 refine s0 (nS (b':=#v[(0:Int),0,0,0,0,0,0,0,0,0,0,0,0,0,0,0]) (ak.id _ _) aA KQ) ?_
 refine s0 (aE (b':=aJ) (ak.id _ _) aA) ?_
 exact .nil (hK _ _ (pe0 h0 [2,3]))
 refine dwg [] [0,2,1,3] hx (by kernel_rfl) (by kernel_rfl) (by kernel_rfl) fun K hK=>?_
 dsimp only[ez,mZ,na,List.map]
 refine s1 (d:=dG (cA 16 (cI .u32)) (#v[(0:Int),0,0,0,0,0,0,0,0,0,0,0,0,0,0,0])) (lP aA aI) ?_
 refine s0 (nS (b':=#v[(0:Int),0,0,0,0,0,0,0,0,0,0,0,0,0,0,0]) (ak.id _ _) aA KQ) ?_
 refine s1 (d:=dG (cA 16 (cI .u32)) aJ) (aq (ak.id _ _) aA) ?_
 refine s0 (aE (b':=aJ) (ak.id _ _) aA) ?_
 exact .nil (hK _ _ (pe0 h0 [2,3]))
 rintro ex tm' hp' ⟨rfl,hw⟩
 refine AW.weak hw (AW.ret ?_)
 cases h
 exact rv2
 refine AW.skip (AW.seq (ra hx ?_))
 refine cdh h rfl (fun dT h=>?_) (fun dT h=>?_)
 refine rs hx fun K hK=>?_
 refine s1 (d:=dG (cA 16 (cI .u32)) aJ) (aq (ak.id _ _) aA) ?_
 have O0:((0:Int)).toNat<16:=by omega
 refine s1 (bY (by decide:0≤(0:Int)∧(0:Int)<((16:Nat):Int)) aA aI) ?_
 refine s1 (aT (ak.comp (ak.id _ _) (ak.vec (cI .u32) aQ ((0:Int)).toNat O0) (fun _=>rfl)) aI) ?_
 refine scb h Eb fun iE h=>?_
 iterate 3 refine sa ?_
 refine s1 (be (F:=(cA 16 (cI .u32)).f (cH)) aA) ?_
 refine s0 (aE (b':=iE.1) (ak.id _ _) aA) ?_
 refine sa ?_
 refine .nil (hK _ _ (rs hx fun K hK=>?_))
 refine s1 (d:=dG (cA 16 (cI .u32)) iE.1) (aq (ak.id _ _) aA) ?_
 refine sa ?_
 refine s1 (d:=dG (cA 16 (cI .u32)) (#v[iE.2,0,0,0,0,0,0,0,0,0,0,0,0,0,0,0])) (lP aA aI) ?_
 refine s0 (aE (b':=iE.1) (ak.id _ _) aA) ?_
 obtain⟨m4,vt,h⟩:=ae h
 replace vt:=bW vt
 refine s0 (nS (b':=#v[iE.2,0,0,0,0,0,0,0,0,0,0,0,0,0,0,0]) (ak.id _ _) aA vt) ?_
 refine .nil (hK _ _ (AW.ret ?_))
 cases h
 exact rv2
 refine AW.skip (rs hx fun K hK=>?_)
 iterate 2 refine sa ?_
 obtain⟨H6,h⟩:=aD h
 have JH:(i64.wrap (x1 - (1:Int))).toNat<16:=by omega
 refine s1 (bY H6 aA aI) ?_
 refine s1 (aT (ak.comp (ak.id _ _) (ak.vec (cI .u32) aQ (i64.wrap (x1 - (1:Int))).toNat JH) (fun _=>rfl)) aI) ?_
 refine scb h uQ fun pG h=>?_
 refine sa ?_
 refine .nil (hK _ _ (rs hx fun K hK=>?_))
 refine s1 (d:=dG (cA 16 (cI .u32)) aQ) (aq (ak.id _ _) aA) ?_
 refine sa ?_
 refine scb h BY fun yj h=>?_
 iterate 3 refine sa ?_
 refine s1 (be (F:=(cA 16 (cI .u32)).f (cH)) aA) ?_
 refine s0 (aE (b':=yj.1) (ak.id _ _) aA) ?_
 refine sa ?_
 refine .nil (hK _ _ (rs hx fun K hK=>?_))
 refine s1 (d:=dG (cA 16 (cI .u32)) aJ) (aq (ak.id _ _) aA) ?_
 refine sa ?_
 refine scb h BY fun wZ h=>?_
 iterate 3 refine sa ?_
 refine s1 (be (F:=(cA 16 (cI .u32)).f (cH)) aA) ?_
 refine s0 (aE (b':=wZ.1) (ak.id _ _) aA) ?_
 refine sa ?_
 refine .nil (hK _ _ (rs hx fun K hK=>?_))
 refine s1 (be (F:=(cA 17 (cI .u32)).f (Vector.replicate 17 (0:Int))) m8) ?_
 refine .nil (hK _ _ (rsd [] hx fun K hK=>?_))
 refine q1 (slA (n:=17) (l:=(0:Int)) (h:=(17:Int)) tok (by decide) m8 aI rfl rfl) ?_
 refine q1 (slA (n:=16) (l:=(0:Int)) (h:=(16:Int)) tok (by decide) aA aI rfl rfl) ?_
 obtain⟨Bl,Oy,h⟩:=ae h
 replace Oy:=bW Oy
 refine q1 (hp':=⟨[(6,dC ((cA 17 (cI .u32)).f Bl)),(6,dC ((cA 17 (cI .u32)).f (Vector.replicate 17 (0:Int)))),(5,dC ((cA 16 (cI .u32)).f wZ.1)),(5,dC ((cA 16 (cI .u32)).f (cH))),(4,dC ((cA 16 (cI .u32)).f yj.1)),(4,dC ((cA 16 (cI .u32)).f (cH))),(3,dC ((cA 16 (cI .u32)).f (cH))),(2,dC ((cA 16 (cI .u32)).f (cH))),(1,dC ((cA 16 (cI .u32)).f aQ)),(0,dC ((cA 16 (cI .u32)).f aJ))],[],7⟩) (sCpA (c:=(cI .u32)) (v:=(Vector.replicate 17 (0:Int))) (s:=(List.take 16 (List.drop 0 (wZ.1).toList))) tok Nn aI (v9.arr (c:=(cI .u32)) (v:=wZ.1) rfl 0 (by decide)) (by simp only[eH,fT,qu];omega) rfl 0 (by decide) (congrArg (fun q=>(6,dC ((cA 17 (cI .u32)).f q))::_) Oy)) ?_
 refine .nil (hK _ _ (rs hx fun K hK=>?_))
 refine sa ?_
 have OW:((16:Int)).toNat<17:=by omega
 refine s1 (bY (by decide:0≤(16:Int)∧(16:Int)<((17:Nat):Int)) m8 aI) ?_
 refine s0 (aE (b':=wZ.2) (ak.comp (ak.id _ _) (ak.vec (cI .u32) Bl ((16:Int)).toNat OW) (fun _=>rfl)) aI) ?_
 refine .nil (hK _ _ (AW.seq (ra hx ?_)))
 refine AW.block ?_
 obtain⟨y,hy,h⟩:=ae h
 refine lp (S:=Int×(Vector Int 16)×(Vector Int 17)) (X:=(Vector Int 16)×(Vector Int 17)) (fun (rL,Bh,Dv)=>[(4,.pt 0 0),(5,.pt 1 0),(6,dI .i64 x1),(10,dI .i64 pG),(11,.pt 2 0),(15,.pt 3 0),(16,dI .i64 rL)]) (fun (rL,Bh,Dv)=>⟨[(0,dC ((cA 16 (cI .u32)).f Bh)),(1,dC ((cA 16 (cI .u32)).f (cH))),(2,dC ((cA 16 (cI .u32)).f yj.1)),(3,dC ((cA 17 (cI .u32)).f Dv))],[],4⟩) (PE cx (.exit 0) (fun (uk,uj)=>[(4,.pt 0 0),(5,.pt 1 0),(10,dI .i64 pG),(15,.pt 2 0)]) fun (uk,uj)=>⟨[(0,dC ((cA 16 (cI .u32)).f uk)),(1,dC ((cA 16 (cI .u32)).f (cH))),(2,dC ((cA 17 (cI .u32)).f uj))],[],3⟩) hy ?_ ?_ ?_
 exact wk h0 [2,3,4,6] (wR rfl (wR rfl (wR rfl (wR rfl (wR rfl (wR rfl (wR rfl wTn))))))) (vC rfl (vC rfl (vC rfl (vC rfl wVn)))) wLn
 clear hy h
 rintro⟨rL,Bh,Dv⟩ y h
 dsimp only[fg] at h
 refine AW.seq (ra hx ?_)
 refine cdh h rfl (fun Pk h=>?_) (fun Pk h=>?_)
 refine AW.skip (AW.seq (AW.block (rs hx fun K hK=>?_)))
 refine s1 (d:=dG (cA 16 (cI .u32)) yj.1) (aq (ak.id _ _) aA) ?_
 iterate 2 refine sa ?_
 obtain⟨wY,Ox,h⟩:=ae h
 refine s1 (GS [3] rfl (Bm Ox) (fA (ap _) (fAG (ap _) (fA (ap _) (fA (ap _) fAn)))) (vC rfl wVn) wLn (rvC rvN) rfl rfl) ?_
 refine sa ?_
 refine .nil (hK _ _ (AW.seq ?_))
 obtain⟨y,hy,h⟩:=ae h
 refine jn ((PE cx .normal (fun (tq,IK)=>[(4,.pt 0 0),(5,.pt 1 0),(6,dI .i64 x1),(10,dI .i64 pG),(11,.pt 2 0),(15,.pt 3 0),(16,dI .i64 rL),(17,dI .u64 tq)]) fun (tq,IK)=>⟨[(0,dC ((cA 16 (cI .u32)).f Bh)),(1,dC ((cA 16 (cI .u32)).f (cH))),(2,dC ((cA 16 (cI .u32)).f yj.1)),(3,dC ((cA 17 (cI .u32)).f IK))],[],4⟩) y) ?_ ?_
 replace h:=hy
 refine rs hx fun K hK=>?_
 refine s1 (d:=dG (cA 16 (cI .u32)) yj.1) (aq (ak.id _ _) aA) ?_
 iterate 3 refine sa ?_
 obtain⟨I2,hx31,h⟩:=ae h
 refine s1 (GS [3] rfl (BZ hx31) (fA (ap _) (fAG (ap _) (fA (ap _) (fA (ap _) (fA (ap _) fAn))))) (vC rfl wVn) wLn (rvC rvN) rfl rfl) ?_
 refine .nil (hK _ _ (cdh h rfl (fun yU h=>?_) (fun yU h=>?_)))
 refine ra hx ?_
 refine rq hx fun K hK=>?_
 refine s1 (d:=dG (cA 16 (cI .u32)) yj.1) (aq (ak.id _ _) aA) ?_
 iterate 2 refine sa ?_
 obtain⟨u3,HV,h⟩:=ae h
 refine s1 (GS [3] rfl (B0 HV) (fA (ap _) (fAG (ap _) (fA (ap _) (fA (ap _) fAn)))) (vC rfl wVn) wLn (rvC rvN) rfl rfl) ?_
 refine .nil (hK _ _ ?_)
 cases h
 exact pe0 h0 [0,1,2,3]
 refine AW.skip ?_
 cases h
 exact pe0 h0 [0,1,2,3]
 obtain⟨tq,IK⟩:=y
 rintro ex tm' hp' ⟨rfl,hw⟩
 refine AW.weak hw (rq hx fun K hK=>?_)
 iterate 3 refine sa ?_
 obtain⟨hc36,h⟩:=aD h
 have hn37:(rL).toNat<16:=by omega
 refine s1 (bY hc36 aA aI) ?_
 refine s0 (aE (b':=u32.wrap (tq)) (ak.comp (ak.id _ _) (ak.vec (cI .u32) Bh (rL).toNat hn37) (fun _=>rfl)) aI) ?_
 refine .nil (hK _ _ (rb hx ?_))
 cases h
 exact PS.l (pe0 h0 [0,1,2,3])
 refine AW.exit ?_
 try dsimp only
 try simp only[aS,reduceIte,Nat.reduceEqDiff,reduceCtorEq]
 cases h
 exact PS.r ⟨by nofun,PE.i (wk h0 [0,1,3] (wR rfl (wR rfl (wR rfl (wR rfl wTn)))) (vC rfl (vC rfl (vC rfl wVn))) wLn)⟩
 obtain⟨uk,uj⟩:=y
 rintro ex tm' hp' ⟨rfl,hw⟩
 try dsimp only
 try simp only[aS,reduceIte,Nat.reduceEqDiff,reduceCtorEq]
 refine AW.weak hw (rsd [193] hx fun K hK=>?_)
 refine s1 (d:=dG (cA 16 (cI .u32)) uk) (aq (ak.id _ _) aA) ?_
 refine q1 (slA (n:=17) (l:=(0:Int)) (h:=(16:Int)) tok (by decide) m8 aI rfl ⟨_,rfl⟩) ?_
 refine q1 (sPtr tok rfl aA) ?_
 refine s1 (d:=dG (cA 16 (cI .u32)) (vOf 16 (List.take 16 (List.drop 0 (uj).toList)))) (aq (ak.sub (o:=0) 16 (cI .u32) uj 0 (by decide) (by first|rfl|decide)) aA) ?_
 refine sa ?_
 obtain⟨Bk,hx40,h⟩:=ae h
 refine sq tok (Fx hx40) (by simp only[cP,dA,bX,bt,bc,bp];exact⟨aC _ _,rfl⟩) (lA (bZ _ _) (lA (ap _) lAn)) (.inl (ii _ _)) ?_
 refine s0 (aE (b':=uk) (ak.id _ _) aA) ?_
 refine s0 (aE (b':=Bk) (ak.id _ _) aA) ?_
 refine .nil (hK _ _ (AW.ret ?_))
 cases h
 exact rv2
def pT(aU:av):Option av:=bnd (c0 [aU]) fun x1=>cnd (!x1) (bnd (eW) fun x4=>some x4) (bnd (bV false aU.vW) fun x6=>some x6)
theorem Hf {aU:av}{r:av}(h:pT aU=some r):ax Tryz.prog 163 [dG aj aU] (dG aj r):=by
 refine bC (rs:=[.cell 2 41]) (fun cx hx h0=>?_) Tryz.func163
 unfold pT at h
 refine rs hx fun K hK=>?_
 refine sa ?_
 refine s1 (be (F:=aj.f a6) am) ?_
 refine .nil (hK _ _ (AW.seq (rs hx fun K hK=>?_)))
 refine s1 (d:=dG aj aU) (aq (ak.id _ _) am) ?_
 refine s1 (kJ ([aU]:List av) aj pd am) ?_
 refine scb h fE fun x1 h=>?_
 refine sa ?_
 refine .nil (hK _ _ (cdh h rfl (fun a8 h=>?_) (fun a8 h=>?_)))
 refine rs hx fun K hK=>?_
 refine scb h ip fun x4 h=>?_
 refine s0 (aE (b':=x4) (ak.id _ _) am) ?_
 refine .nil (hK _ _ (AW.ret ?_))
 cases h
 exact rv1
 refine AW.skip (rs hx fun K hK=>?_)
 refine sa ?_
 refine s1 (aq (aY aU) aA) ?_
 refine scb h d7 fun x6 h=>?_
 refine s0 (aE (b':=x6) (ak.id _ _) am) ?_
 refine .nil (hK _ _ (AW.ret ?_))
 cases h
 exact rv1
def jf :Int×Int→Option ((Int×Int)⊕Int):=fun (bB,lN)=>cnd (decide (lN≠(0:Int))) (gd (lN≠0) (some (.inl (lN,Int.tmod bB lN)))) (some (.inr bB))
def c9(KB:av→av→Option av)(aJ:av)(aQ:av):Option av:=bnd (c0 [aJ,aQ]) fun x1=>cnd (!x1) (bnd (eW) fun x4=>some x4) (bnd (S:=Bool) (bnd (fb aJ.vW) fun x6=>cnd (decide (x6≤(2:Int))) (bnd (fb aQ.vW) fun x9=>some (decide (x9≤(2:Int)))) (some (false))) fun tC=>cnd tC (bnd (some (ior .u64 (xP .u64 (u64.wrap ((aJ.vW)[((1:Int)).toNat]!)) (32:Int)) (u64.wrap ((aJ.vW)[((0:Int)).toNat]!)))) fun nT=>bnd (some (ior .u64 (xP .u64 (u64.wrap ((aQ.vW)[((1:Int)).toNat]!)) (32:Int)) (u64.wrap ((aQ.vW)[((0:Int)).toNat]!)))) fun rP=>bnd (bL (jf) (nT,rP)) fun eL=>bnd (bV false (#v[u32.wrap (eL),u32.wrap (mR .u64 eL (32:Int)),0,0,0,0,0,0,0,0,0,0,0,0,0,0])) fun Bl=>some Bl) (cnd (decide (¬(aQ.vW=#v[(0:Int),0,0,0,0,0,0,0,0,0,0,0,0,0,0,0]))) (bnd (f8 aJ.vW aQ.vW) fun uP=>bnd (bV false aQ.vW) fun wX=>bnd (bV false uP.2) fun BB=>bnd (KB wX BB) fun u3=>some u3) (bnd (pT aJ) fun u2=>some u2)))
set_option maxHeartbeats 4000000 in
theorem Ec {KB:av→av→Option av}(ih:∀{aJ:av} {aQ:av} {r:av},KB aJ aQ=some r→ax Tryz.prog 122 [dG aj aJ,dG aj aQ] (dG aj r)){aJ:av}{aQ:av}{r:av}(h:c9 KB aJ aQ=some r):ax Tryz.prog 122 [dG aj aJ,dG aj aQ] (dG aj r):=by
 refine bC (rs:=[.cell 4 41]) (fun cx hx h0=>?_) Tryz.func122
 unfold c9 at h
 refine rs hx fun K hK=>?_
 iterate 2 refine sa ?_
 refine s1 (be (F:=aj.f a6) am) ?_
 refine .nil (hK _ _ (AW.seq (rs hx fun K hK=>?_)))
 refine s1 (d:=dG aj aJ) (aq (ak.id _ _) am) ?_
 refine s1 (d:=dG aj aQ) (aq (ak.id _ _) am) ?_
 refine s1 (kJ ([aJ,aQ]:List av) aj pd am) ?_
 refine scb h fE fun x1 h=>?_
 refine sa ?_
 refine .nil (hK _ _ (cdh h rfl (fun a8 h=>?_) (fun a8 h=>?_)))
 refine rs hx fun K hK=>?_
 refine scb h ip fun x4 h=>?_
 refine s0 (aE (b':=x4) (ak.id _ _) am) ?_
 refine .nil (hK _ _ (AW.ret ?_))
 cases h
 exact rv1
 refine AW.skip ?_
 iterate 2 refine AW.seq ?_
 obtain⟨tC,hy,h⟩:=ae h
 refine jn ((PE cx .normal (fun tC=>[(2,.pt 0 0),(3,.pt 1 0),(4,.pt 2 0),(26,dB tC)]) fun tC=>⟨[(0,dC (aj.f aJ)),(1,dC (aj.f aQ)),(2,dC (aj.f a6))],[],3⟩) tC) ?_ ?_
 replace h:=hy
 refine rq hx fun K hK=>?_
 refine sa ?_
 refine s1 (aq (aY aJ) aA) ?_
 refine scb h kP fun x6 h=>?_
 iterate 2 refine sa ?_
 rcases az (decide (x6≤(2:Int))) with ju|ju
 replace h:=aO ju h
 refine ga ju ?_
 refine g1 ju (aq (aY aQ) aA) ?_
 obtain⟨x9,vw,h⟩:=ae h
 refine g1 ju (bb rfl (kP vw) (by simp only[cP,dA,bX,bt,bc,bp];exact aC _ _) (lA (bZ _ _) lAn) (.inl rfl)) ?_
 refine ga ju ?_
 refine s1 (ar ju) ?_
 refine .nil (hK _ _ ?_)
 cases h
 exact pe0 h0 [0,1,2]
 replace h:=aP ju h
 iterate 4 refine aG rfl rfl ju ?_
 refine s1 (an ju) ?_
 refine .nil (hK _ _ ?_)
 cases h
 exact pe0 h0 [0,1,2]
 rintro ex tm' hp' ⟨rfl,hw⟩
 refine AW.weak hw (cdh h rfl (fun nh h=>?_) (fun nh h=>?_))
 refine rsd [] hx fun K hK=>?_
 refine sa ?_
 have JJ:((1:Int)).toNat<16:=by omega
 refine s1 (bY (by decide:0≤(1:Int)∧(1:Int)<((16:Nat):Int)) aA aI) ?_
 refine s1 (aT (ak.comp (aY aJ) (ak.vec (cI .u32) aJ.vW ((1:Int)).toNat JJ) (fun _=>rfl)) aI) ?_
 iterate 3 refine sa ?_
 have OY:((0:Int)).toNat<16:=by omega
 refine s1 (bY (by decide:0≤(0:Int)∧(0:Int)<((16:Nat):Int)) aA aI) ?_
 refine s1 (aT (ak.comp (aY aJ) (ak.vec (cI .u32) aJ.vW ((0:Int)).toNat OY) (fun _=>rfl)) aI) ?_
 iterate 3 refine sa ?_
 have JI:((1:Int)).toNat<16:=by omega
 refine s1 (bY (by decide:0≤(1:Int)∧(1:Int)<((16:Nat):Int)) aA aI) ?_
 refine s1 (aT (ak.comp (aY aQ) (ak.vec (cI .u32) aQ.vW ((1:Int)).toNat JI) (fun _=>rfl)) aI) ?_
 iterate 3 refine sa ?_
 have Et:((0:Int)).toNat<16:=by omega
 refine s1 (bY (by decide:0≤(0:Int)∧(0:Int)<((16:Nat):Int)) aA aI) ?_
 refine s1 (aT (ak.comp (aY aQ) (ak.vec (cI .u32) aQ.vW ((0:Int)).toNat Et) (fun _=>rfl)) aI) ?_
 iterate 2 refine sa ?_
 obtain⟨nT,ta,h⟩:=ae h
 replace ta:=bW ta
 refine s2 (d2:=dI .u64 nT) mp (gM (congrArg (dI .u64) ta)) ?_
 obtain⟨rP,wN,h⟩:=ae h
 replace wN:=bW wN
 refine s2 (d2:=dI .u64 rP) mp (gM (congrArg (dI .u64) wN)) ?_
 refine .nil (hK _ _ (AW.seq (AW.block ?_)))
 obtain⟨eL,hy,h⟩:=ae h
 refine lp (S:=Int×Int) (X:=Int) (fun (bB,lN)=>[(4,.pt 0 0),(5,dI .u64 bB),(6,dI .u64 lN)]) (fun (bB,lN)=>⟨[(0,dC (aj.f a6))],[],1⟩) (PE cx (.exit 0) (fun eL=>[(4,.pt 0 0),(5,dI .u64 eL)]) fun eL=>⟨[(0,dC (aj.f a6))],[],1⟩) hy ?_ ?_ ?_
 exact wk h0 [2] (wR rfl (wR rfl (wR rfl wTn))) (vC rfl wVn) wLn
 clear hy h
 rintro⟨bB,lN⟩ y h
 dsimp only[jf] at h
 refine AW.seq (ra hx ?_)
 refine cdh h rfl (fun vE h=>?_) (fun vE h=>?_)
 refine AW.skip (AW.block (rqd [] hx fun K hK=>?_))
 iterate 3 refine sa ?_
 obtain⟨JP,h⟩:=aD h
 refine s1 (DB JP) ?_
 iterate 2 refine sa ?_
 refine .nil (hK _ _ ?_)
 cases h
 exact PS.l (pe0 h0 [0])
 refine AW.exit ?_
 try dsimp only
 try simp only[aS,reduceIte,Nat.reduceEqDiff,reduceCtorEq]
 cases h
 exact PS.r ⟨by nofun,PE.i (wk h0 [0] (wR rfl (wR rfl wTn)) (vC rfl wVn) wLn)⟩
 rintro ex tm' hp' ⟨rfl,hw⟩
 try dsimp only
 try simp only[aS,reduceIte,Nat.reduceEqDiff,reduceCtorEq]
 refine AW.weak hw (rs hx fun K hK=>?_)
 iterate 5 refine sa ?_
 refine s1 (d:=dG (cA 16 (cI .u32)) (#v[u32.wrap (eL),u32.wrap (mR .u64 eL (32:Int)),0,0,0,0,0,0,0,0,0,0,0,0,0,0])) (lP aA aI) ?_
 refine scb h d7 fun Bl h=>?_
 refine s0 (aE (b':=Bl) (ak.id _ _) am) ?_
 refine .nil (hK _ _ (AW.ret ?_))
 cases h
 exact rv1
 refine AW.skip ?_
 iterate 2 refine AW.seq ?_
 refine jn (PE cx .normal (fun (_:Unit)=>[(2,.pt 0 0),(4,.pt 1 0),(7,.pt 2 0),(8,.pt 3 0)]) (fun (_:Unit)=>⟨[(0,dC (aj.f aJ)),(1,dC (aj.f a6)),(2,dC ((cA 16 (cI .u32)).f aJ.vW)),(3,dC ((cA 16 (cI .u32)).f aQ.vW))],[],4⟩) ()) ?_ ?_
 refine dw (DW.split 4 5 (by decide) ?_ ?_)
 refine DW.split 3 6 (by decide) ?_ ?_
 refine dwg [] [0,1,2,3,4,5,6,7] hx (by kernel_rfl) (by kernel_rfl) (by kernel_rfl) fun K hK=>?_
 dsimp only[ez,mZ,na,List.map]
 refine sa ?_
 refine s1 (aq (aY aJ) aA) ?_
 refine sa ?_
 refine s1 (aq (aY aQ) aA) ?_
 iterate 2 refine s1 (be (F:=(cA 16 (cI .u32)).f (cH)) aA) ?_
 refine s0 (aE (b':=aJ.vW) (ak.id _ _) aA) ?_
 refine s0 (aE (b':=aQ.vW) (ak.id _ _) aA) ?_
 exact .nil (hK _ _ (pe0 h0 [0,2,3,4]))
 refine dwg [] [0,1,2,4,5,6,3,7] hx (by kernel_rfl) (by kernel_rfl) (by kernel_rfl) fun K hK=>?_
 dsimp only[ez,mZ,na,List.map]
 refine sa ?_
 refine s1 (aq (aY aJ) aA) ?_
 refine sa ?_
 iterate 2 refine s1 (be (F:=(cA 16 (cI .u32)).f (cH)) aA) ?_
 refine s0 (aE (b':=aJ.vW) (ak.id _ _) aA) ?_
 refine s1 (aq (aY aQ) aA) ?_
 refine s0 (aE (b':=aQ.vW) (ak.id _ _) aA) ?_
 exact .nil (hK _ _ (pe0 h0 [0,2,3,4]))
 refine DW.split 3 6 (by decide) ?_ ?_
 refine dwg [] [0,1,2,3,5,4,6,7] hx (by kernel_rfl) (by kernel_rfl) (by kernel_rfl) fun K hK=>?_
 dsimp only[ez,mZ,na,List.map]
 refine sa ?_
 refine s1 (aq (aY aJ) aA) ?_
 refine sa ?_
 refine s1 (aq (aY aQ) aA) ?_
 iterate 2 refine s1 (be (F:=(cA 16 (cI .u32)).f (cH)) aA) ?_
 refine s0 (aE (b':=aJ.vW) (ak.id _ _) aA) ?_
 refine s0 (aE (b':=aQ.vW) (ak.id _ _) aA) ?_
 exact .nil (hK _ _ (pe0 h0 [0,2,4,3]))
 refine dwg [] [0,1,2,5,4,6,3,7] hx (by kernel_rfl) (by kernel_rfl) (by kernel_rfl) fun K hK=>?_
 dsimp only[ez,mZ,na,List.map]
 refine sa ?_
 refine s1 (aq (aY aJ) aA) ?_
 refine sa ?_
 iterate 2 refine s1 (be (F:=(cA 16 (cI .u32)).f (cH)) aA) ?_
 refine s0 (aE (b':=aJ.vW) (ak.id _ _) aA) ?_
 refine s1 (aq (aY aQ) aA) ?_
 refine s0 (aE (b':=aQ.vW) (ak.id _ _) aA) ?_
 exact .nil (hK _ _ (pe0 h0 [0,2,4,3]))
 rintro ex tm' hp' ⟨rfl,hw⟩
 refine AW.weak hw (rs hx fun K hK=>?_)
 refine s1 (d:=dG (cA 16 (cI .u32)) aQ.vW) (aq (ak.id _ _) aA) ?_
 refine s1 (d:=dG (cA 16 (cI .u32)) (#v[(0:Int),0,0,0,0,0,0,0,0,0,0,0,0,0,0,0])) (lP aA aI) ?_
 refine s1 (DD tok 2 (by decide) (EqC.arr (EqC.int (d:=0) aI) aA aI) aA) ?_
 refine .nil (hK _ _ (cdh h rfl (fun xU h=>?_) (fun xU h=>?_)))
 refine rs hx fun K hK=>?_
 refine s1 (d:=dG (cA 16 (cI .u32)) aJ.vW) (aq (ak.id _ _) aA) ?_
 refine s1 (d:=dG (cA 16 (cI .u32)) aQ.vW) (aq (ak.id _ _) aA) ?_
 refine scb h sS fun uP h=>?_
 iterate 3 refine sa ?_
 iterate 2 refine s1 (be (F:=(cA 16 (cI .u32)).f (cH)) aA) ?_
 refine s0 (aE (b':=uP.1) (ak.id _ _) aA) ?_
 refine s0 (aE (b':=uP.2) (ak.id _ _) aA) ?_
 refine .nil (hK _ _ (rsd [145,122] hx fun K hK=>?_))
 refine s1 (d:=dG (cA 16 (cI .u32)) aQ.vW) (aq (ak.id _ _) aA) ?_
 refine cqb h d7 fun wX h=>?_
 refine s1 (d:=dG (cA 16 (cI .u32)) uP.2) (aq (ak.id _ _) aA) ?_
 refine cqb h d7 fun BB h=>?_
 refine cqb h ih fun u3 h=>?_
 refine s0 (aE (b':=u3) (ak.id _ _) am) ?_
 refine .nil (hK _ _ (AW.ret ?_))
 cases h
 exact rv1
 refine AW.skip (rs hx fun K hK=>?_)
 refine s1 (d:=dG aj aJ) (aq (ak.id _ _) am) ?_
 refine scb h Hf fun u2 h=>?_
 refine s0 (aE (b':=u2) (ak.id _ _) am) ?_
 refine .nil (hK _ _ (AW.ret ?_))
 cases h
 exact rv1
def ix:Nat→av→av→Option av
 |0=>fun _ _=>none
 |n+1=>c9 (ix n)
theorem w7:∀(n:Nat) {aJ:av} {aQ:av} {r:av},ix n aJ aQ=some r→ax Tryz.prog 122 [dG aj aJ,dG aj aQ] (dG aj r)
 |0,_,_,_,h=>by cases h
 |n+1,_,_,_,h=>Ec (w7 n) h
def n0(aJ:av)(aQ:av):Option av:=ix 1000 aJ aQ
theorem u6 {aJ:av}{aQ:av}{r:av}(h:n0 aJ aQ=some r):ax Tryz.prog 122 [dG aj aJ,dG aj aQ] (dG aj r):=w7 1000 h
def jc(aJ:av)(aQ:av):Option (av×av):=bnd (S:=Bool) (bnd (c0 [aJ,aQ]) fun x1=>cnd (!x1) (some (true)) (bnd (fG aQ) fun x4=>some (decide (x4=(0:Int))))) fun cZ=>cnd cZ (bnd (eW) fun x8=>bnd (eW) fun jm=>some (x8,jm)) (bnd (S:=Unit⊕(av×av)) (bnd (lU aJ) fun iE=>bnd (S:=Bool) (cnd iE.2 (some (decide (iE.1≠(-9223372036854775808:Int)))) (some (false))) fun eE=>cnd eE (bnd (lU aQ) fun nT=>bnd (S:=Bool) (cnd nT.2 (some (decide (nT.1≠(-9223372036854775808:Int)))) (some (false))) fun tA=>cnd tA (gd (nT.1≠0) (gd (nT.1≠0) (bnd (S:=Int×Int) (bnd (S:=Bool) (cnd (decide ((Int.tmod iE.1 nT.1)≠(0:Int))) (some (!((decide ((Int.tmod iE.1 nT.1)<(0:Int))) == (decide (nT.1<(0:Int)))))) (some (false))) fun m6=>cnd m6 (bnd (some (i64.wrap ((i64.wrap (Int.tdiv iE.1 nT.1)) - (1:Int)))) fun uP=>bnd (some (i64.wrap ((Int.tmod iE.1 nT.1)+nT.1))) fun wX=>some ((uP,wX))) (some ((i64.wrap (Int.tdiv iE.1 nT.1),Int.tmod iE.1 nT.1)))) fun (kH,qy)=>bnd (g5 kH) fun Lz=>bnd (g5 qy) fun M9=>some (.inr (Lz,M9))))) (some (.inl ()))) (some (.inl ()))) fun y36=>match y36 with| .inl ()=>bnd (f8 aJ.vW aQ.vW) fun yl=>bnd (bV (!(aJ.vNeg == aQ.vNeg)) yl.1) fun Bk=>bnd (S:=(Vector Int 16)×av) (bnd (S:=Bool) (cnd (decide (¬(yl.2=#v[(0:Int),0,0,0,0,0,0,0,0,0,0,0,0,0,0,0]))) (some (!(aJ.vNeg == aQ.vNeg))) (some (false))) fun Bf=>cnd Bf (bnd (g5 (1:Int)) fun x44=>bnd (nY Bk x44) fun x46=>bnd (iv aQ.vW yl.2) fun x48=>some ((x48,x46))) (some ((yl.2,Bk)))) fun (Bg,zq)=>bnd (bV aQ.vNeg Bg) fun x51=>some (zq,x51)| .inr r=>some r)
set_option maxHeartbeats 4000000 in
theorem ux {aJ:av}{aQ:av}{r:av×av}(h:jc aJ aQ=some r):ax Tryz.prog 150 [dG aj aJ,dG aj aQ] (.tu [dG aj r.1,dG aj r.2]):=by
 refine bC (rs:=[.cell 4 41,.cell 5 41]) (fun cx hx h0=>?_) Tryz.func150
 unfold jc at h
 refine rs hx fun K hK=>?_
 iterate 2 refine sa ?_
 iterate 2 refine s1 (be (F:=aj.f a6) am) ?_
 refine .nil (hK _ _ ?_)
 iterate 2 refine AW.seq ?_
 obtain⟨cZ,hy,h⟩:=ae h
 refine jn ((PE cx .normal (fun cZ=>[(2,.pt 0 0),(3,.pt 1 0),(4,.pt 2 0),(5,.pt 3 0),(24,dB cZ)]) fun cZ=>⟨[(0,dC (aj.f aJ)),(1,dC (aj.f aQ)),(2,dC (aj.f a6)),(3,dC (aj.f a6))],[],4⟩) cZ) ?_ ?_
 replace h:=hy
 refine rq hx fun K hK=>?_
 refine s1 (d:=dG aj aJ) (aq (ak.id _ _) am) ?_
 refine s1 (d:=dG aj aQ) (aq (ak.id _ _) am) ?_
 refine s1 (kJ ([aJ,aQ]:List av) aj pd am) ?_
 refine scb h fE fun x1 h=>?_
 iterate 2 refine sa ?_
 rcases az (!x1) with a8|a8
 replace h:=aO a8 h
 iterate 3 refine aG rfl rfl a8 ?_
 refine s1 (ar a8) ?_
 refine .nil (hK _ _ ?_)
 cases h
 exact pe0 h0 [0,1,2,3]
 replace h:=aP a8 h
 refine g1 (d:=dG aj aQ) a8 (aq (ak.id _ _) am) ?_
 obtain⟨x4,qd,h⟩:=ae h
 refine g1 a8 (bb rfl (kQ qd) (by simp only[cP,dA,bX,bt,bc,bp];exact aC _ _) (lA (bZ _ _) lAn) (.inl rfl)) ?_
 refine ga a8 ?_
 refine s1 (an a8) ?_
 refine .nil (hK _ _ ?_)
 cases h
 exact pe0 h0 [0,1,2,3]
 rintro ex tm' hp' ⟨rfl,hw⟩
 refine AW.weak hw (cdh h rfl (fun nN h=>?_) (fun nN h=>?_))
 refine rs hx fun K hK=>?_
 refine scb h ip fun x8 h=>?_
 refine scb h ip fun jm h=>?_
 refine s0 (aE (b':=x8) (ak.id _ _) am) ?_
 refine s0 (aE (b':=jm) (ak.id _ _) am) ?_
 refine .nil (hK _ _ (AW.ret ?_))
 cases h
 exact rv2
 refine AW.skip (AW.seq ?_)
 obtain⟨y,hy,h⟩:=ae h
 refine jn ((PS (PE cx .normal (fun ()=>[(2,.pt 0 0),(3,.pt 1 0),(4,.pt 2 0),(5,.pt 3 0)]) fun ()=>⟨[(0,dC (aj.f aJ)),(1,dC (aj.f aQ)),(2,dC (aj.f a6)),(3,dC (aj.f a6))],[],4⟩) (PR [.cell 4 41,.cell 5 41] fun r=>.tu [dG aj r.1,dG aj r.2])) y) ?_ ?_
 replace h:=hy
 refine rs hx fun K hK=>?_
 refine s1 (d:=dG aj aJ) (aq (ak.id _ _) am) ?_
 refine scb h w6 fun iE h=>?_
 iterate 5 refine sa ?_
 refine .nil (hK _ _ (AW.seq ?_))
 obtain⟨eE,hy,h⟩:=ae h
 refine jn ((PE cx .normal (fun eE=>[(2,.pt 0 0),(3,.pt 1 0),(4,.pt 2 0),(5,.pt 3 0),(6,dI .i64 iE.1),(36,dB eE)]) fun eE=>⟨[(0,dC (aj.f aJ)),(1,dC (aj.f aQ)),(2,dC (aj.f a6)),(3,dC (aj.f a6))],[],4⟩) eE) ?_ ?_
 replace h:=hy
 refine rq hx fun K hK=>?_
 iterate 2 refine sa ?_
 rcases az iE.2 with eM|eM
 replace h:=aO eM h
 iterate 2 refine ga eM ?_
 refine s1 (ar eM) ?_
 refine .nil (hK _ _ ?_)
 cases h
 exact pe0 h0 [0,1,2,3]
 replace h:=aP eM h
 iterate 2 refine aG rfl rfl eM ?_
 refine s1 (an eM) ?_
 refine .nil (hK _ _ ?_)
 cases h
 exact pe0 h0 [0,1,2,3]
 rintro ex tm' hp' ⟨rfl,hw⟩
 refine AW.weak hw (cdh h rfl (fun oz h=>?_) (fun oz h=>?_))
 refine rs hx fun K hK=>?_
 refine s1 (d:=dG aj aQ) (aq (ak.id _ _) am) ?_
 refine scb h w6 fun nT h=>?_
 iterate 5 refine sa ?_
 refine .nil (hK _ _ (AW.seq ?_))
 obtain⟨tA,hy,h⟩:=ae h
 refine jn ((PE cx .normal (fun tA=>[(2,.pt 0 0),(3,.pt 1 0),(4,.pt 2 0),(5,.pt 3 0),(6,dI .i64 iE.1),(8,dI .i64 nT.1),(46,dB tA)]) fun tA=>⟨[(0,dC (aj.f aJ)),(1,dC (aj.f aQ)),(2,dC (aj.f a6)),(3,dC (aj.f a6))],[],4⟩) tA) ?_ ?_
 replace h:=hy
 refine rq hx fun K hK=>?_
 iterate 2 refine sa ?_
 rcases az nT.2 with uY|uY
 replace h:=aO uY h
 iterate 2 refine ga uY ?_
 refine s1 (ar uY) ?_
 refine .nil (hK _ _ ?_)
 cases h
 exact pe0 h0 [0,1,2,3]
 replace h:=aP uY h
 iterate 2 refine aG rfl rfl uY ?_
 refine s1 (an uY) ?_
 refine .nil (hK _ _ ?_)
 cases h
 exact pe0 h0 [0,1,2,3]
 rintro ex tm' hp' ⟨rfl,hw⟩
 refine AW.weak hw (cdh h rfl (fun vE h=>?_) (fun vE h=>?_))
 refine rsd [] hx fun K hK=>?_
 iterate 2 refine sa ?_
 obtain⟨JP,h⟩:=aD h
 refine s1 (Fo JP) ?_
 iterate 2 refine sa ?_
 obtain⟨hc23,h⟩:=aD h
 refine s1 (DB hc23) ?_
 iterate 2 refine sa ?_
 refine .nil (hK _ _ (AW.seq ?_))
 obtain⟨y,hy,h⟩:=ae h
 refine jn ((PE cx .normal (fun (kH,qy)=>[(4,.pt 0 0),(5,.pt 1 0),(10,dI .i64 kH),(11,dI .i64 qy)]) fun (kH,qy)=>⟨[(0,dC (aj.f a6)),(1,dC (aj.f a6))],[],2⟩) y) ?_ ?_
 replace h:=hy
 refine AW.seq ?_
 obtain⟨m6,hy,h⟩:=ae h
 refine jn ((PE cx .normal (fun m6=>[(4,.pt 0 0),(5,.pt 1 0),(8,dI .i64 nT.1),(10,dI .i64 (i64.wrap (Int.tdiv iE.1 nT.1))),(11,dI .i64 (Int.tmod iE.1 nT.1)),(61,dB m6)]) fun m6=>⟨[(0,dC (aj.f a6)),(1,dC (aj.f a6))],[],2⟩) m6) ?_ ?_
 replace h:=hy
 refine rq hx fun K hK=>?_
 iterate 3 refine sa ?_
 rcases az (decide ((Int.tmod iE.1 nT.1)≠(0:Int))) with qG|qG
 replace h:=aO qG h
 iterate 5 refine ga qG ?_
 refine s1 (ar qG) ?_
 refine .nil (hK _ _ ?_)
 cases h
 exact pe0 h0 [2,3]
 replace h:=aP qG h
 iterate 5 refine aG rfl rfl qG ?_
 refine s1 (an qG) ?_
 refine .nil (hK _ _ ?_)
 cases h
 exact pe0 h0 [2,3]
 rintro ex tm' hp' ⟨rfl,hw⟩
 refine AW.weak hw (cdh h rfl (fun xU h=>?_) (fun xU h=>?_))
 refine rq hx fun K hK=>?_
 iterate 5 refine sa ?_
 obtain⟨uP,Aj,h⟩:=ae h
 replace Aj:=bW Aj
 refine s2 (d2:=dI .i64 uP) mp (gM (congrArg (dI .i64) Aj)) ?_
 obtain⟨wX,Ow,h⟩:=ae h
 replace Ow:=bW Ow
 refine s2 (d2:=dI .i64 wX) mp (gM (congrArg (dI .i64) Ow)) ?_
 refine .nil (hK _ _ ?_)
 cases h
 exact pe0 h0 [0,1]
 refine AW.skip ?_
 cases h
 exact pe0 h0 [0,1]
 obtain⟨kH,qy⟩:=y
 rintro ex tm' hp' ⟨rfl,hw⟩
 refine AW.weak hw (rs hx fun K hK=>?_)
 refine sa ?_
 refine scb h qS fun Lz h=>?_
 refine sa ?_
 refine scb h qS fun M9 h=>?_
 refine s0 (aE (b':=Lz) (ak.id _ _) am) ?_
 refine s0 (aE (b':=M9) (ak.id _ _) am) ?_
 refine .nil (hK _ _ (AW.ret ?_))
 cases h
 refine PS.r (PR.i ?_)
 exact rv2
 refine AW.skip ?_
 cases h
 exact PS.l (pe0 h0 [0,1,2,3])
 refine AW.skip ?_
 cases h
 exact PS.l (pe0 h0 [0,1,2,3])
 rcases y with⟨⟩|r
 rintro ex tm' hp' ⟨rfl,hw⟩
 refine AW.weak hw (rs hx fun K hK=>?_)
 refine sa ?_
 refine s1 (aq (aY aJ) aA) ?_
 refine sa ?_
 refine s1 (aq (aY aQ) aA) ?_
 refine scb h sS fun yl h=>?_
 iterate 3 refine sa ?_
 iterate 2 refine s1 (be (F:=(cA 16 (cI .u32)).f (cH)) aA) ?_
 refine s0 (aE (b':=yl.1) (ak.id _ _) aA) ?_
 refine s0 (aE (b':=yl.2) (ak.id _ _) aA) ?_
 refine .nil (hK _ _ (rs hx fun K hK=>?_))
 refine sa ?_
 refine s1 (aT (aN aJ) ey) ?_
 refine sa ?_
 refine s1 (aT (aN aQ) ey) ?_
 refine sa ?_
 refine s1 (d:=dG (cA 16 (cI .u32)) yl.1) (aq (ak.id _ _) aA) ?_
 refine scb h d7 fun Bk h=>?_
 refine s1 (be (F:=aj.f a6) am) ?_
 refine s0 (aE (b':=Bk) (ak.id _ _) am) ?_
 refine .nil (hK _ _ (AW.seq ?_))
 obtain⟨y,hy,h⟩:=ae h
 refine jn ((PE cx .normal (fun (Bg,zq)=>[(3,.pt 0 0),(4,.pt 1 0),(5,.pt 2 0),(13,.pt 3 0),(14,.pt 4 0)]) fun (Bg,zq)=>⟨[(0,dC (aj.f aQ)),(1,dC (aj.f a6)),(2,dC (aj.f a6)),(3,dC ((cA 16 (cI .u32)).f Bg)),(4,dC (aj.f zq))],[],5⟩) y) ?_ ?_
 replace h:=hy
 refine AW.seq ?_
 obtain⟨Bf,hy,h⟩:=ae h
 refine jn ((PE cx .normal (fun Bf=>[(3,.pt 0 0),(4,.pt 1 0),(5,.pt 2 0),(13,.pt 3 0),(14,.pt 4 0),(95,dB Bf)]) fun Bf=>⟨[(0,dC (aj.f aQ)),(1,dC (aj.f a6)),(2,dC (aj.f a6)),(3,dC ((cA 16 (cI .u32)).f yl.2)),(4,dC (aj.f Bk))],[],5⟩) Bf) ?_ ?_
 replace h:=hy
 refine rq hx fun K hK=>?_
 refine s1 (d:=dG (cA 16 (cI .u32)) yl.2) (aq (ak.id _ _) aA) ?_
 refine s1 (d:=dG (cA 16 (cI .u32)) (#v[(0:Int),0,0,0,0,0,0,0,0,0,0,0,0,0,0,0])) (lP aA aI) ?_
 refine s1 (DD tok 2 (by decide) (EqC.arr (EqC.int (d:=0) aI) aA aI) aA) ?_
 refine sa ?_
 rcases az (decide (¬(yl.2=#v[(0:Int),0,0,0,0,0,0,0,0,0,0,0,0,0,0,0]))) with CU|CU
 replace h:=aO CU h
 refine ga CU ?_
 refine g1 CU (aT (aN aJ) ey) ?_
 refine ga CU ?_
 refine g1 CU (aT (aN aQ) ey) ?_
 refine ga CU ?_
 refine s1 (ar CU) ?_
 refine .nil (hK _ _ ?_)
 cases h
 exact pe0 h0 [1,2,3,5,6]
 replace h:=aP CU h
 iterate 5 refine aG rfl rfl CU ?_
 refine s1 (an CU) ?_
 refine .nil (hK _ _ ?_)
 cases h
 exact pe0 h0 [1,2,3,5,6]
 rintro ex tm' hp' ⟨rfl,hw⟩
 refine AW.weak hw (cdh h rfl (fun hb43 h=>?_) (fun hb43 h=>?_))
 refine rqd [91,181,165] hx fun K hK=>?_
 refine s1 (d:=dG aj Bk) (aq (ak.id _ _) am) ?_
 refine cqb h qS fun x44 h=>?_
 refine cqb h Hd fun x46 h=>?_
 refine sa ?_
 refine s1 (aq (aY aQ) aA) ?_
 refine s1 (d:=dG (cA 16 (cI .u32)) yl.2) (aq (ak.id _ _) aA) ?_
 refine cqb h sy fun x48 h=>?_
 refine s0 (aE (b':=x46) (ak.id _ _) am) ?_
 refine s0 (aE (b':=x48) (ak.id _ _) aA) ?_
 refine .nil (hK _ _ ?_)
 cases h
 exact pe0 h0 [0,1,2,3,4]
 refine AW.skip ?_
 cases h
 exact pe0 h0 [0,1,2,3,4]
 obtain⟨Bg,zq⟩:=y
 rintro ex tm' hp' ⟨rfl,hw⟩
 refine AW.weak hw (rsd [145] hx fun K hK=>?_)
 refine s1 (d:=dG aj zq) (aq (ak.id _ _) am) ?_
 refine sa ?_
 refine s1 (aT (aN aQ) ey) ?_
 refine s1 (d:=dG (cA 16 (cI .u32)) Bg) (aq (ak.id _ _) aA) ?_
 refine cqb h d7 fun x51 h=>?_
 refine s0 (aE (b':=zq) (ak.id _ _) am) ?_
 refine s0 (aE (b':=x51) (ak.id _ _) am) ?_
 refine .nil (hK _ _ (AW.ret ?_))
 cases h
 exact rv2
 rintro ex tm' hp' ⟨rfl,hw⟩
 cases h
 exact hw
def iw(aJ:av)(aQ:av):Option av:=bnd (jc aJ aQ) fun x1=>some x1.1
theorem kL {aJ:av}{aQ:av}{r:av}(h:iw aJ aQ=some r):ax Tryz.prog 97 [dG aj aJ,dG aj aQ] (dG aj r):=by
 refine bC (rs:=[.cell 4 41]) (fun cx hx h0=>?_) Tryz.func97
 unfold iw at h
 refine rs hx fun K hK=>?_
 iterate 2 refine sa ?_
 refine s1 (be (F:=aj.f a6) am) ?_
 refine .nil (hK _ _ (rs hx fun K hK=>?_))
 refine s1 (d:=dG aj aJ) (aq (ak.id _ _) am) ?_
 refine s1 (d:=dG aj aQ) (aq (ak.id _ _) am) ?_
 refine scb h ux fun x1 h=>?_
 iterate 3 refine sa ?_
 iterate 2 refine s1 (be (F:=aj.f a6) am) ?_
 refine s0 (aE (b':=x1.1) (ak.id _ _) am) ?_
 refine s0 (aE (b':=x1.2) (ak.id _ _) am) ?_
 refine .nil (hK _ _ (rs hx fun K hK=>?_))
 refine s1 (d:=dG aj x1.1) (aq (ak.id _ _) am) ?_
 refine s0 (aE (b':=x1.1) (ak.id _ _) am) ?_
 refine .nil (hK _ _ (AW.ret ?_))
 cases h
 exact rv1
def nZ(aJ:av)(aQ:av):Option av:=bnd (jc aJ aQ) fun x1=>some x1.2
theorem rZ {aJ:av}{aQ:av}{r:av}(h:nZ aJ aQ=some r):ax Tryz.prog 98 [dG aj aJ,dG aj aQ] (dG aj r):=by
 refine bC (rs:=[.cell 4 41]) (fun cx hx h0=>?_) Tryz.func98
 unfold nZ at h
 refine rs hx fun K hK=>?_
 iterate 2 refine sa ?_
 refine s1 (be (F:=aj.f a6) am) ?_
 refine .nil (hK _ _ (rs hx fun K hK=>?_))
 refine s1 (d:=dG aj aJ) (aq (ak.id _ _) am) ?_
 refine s1 (d:=dG aj aQ) (aq (ak.id _ _) am) ?_
 refine scb h ux fun x1 h=>?_
 iterate 3 refine sa ?_
 iterate 2 refine s1 (be (F:=aj.f a6) am) ?_
 refine s0 (aE (b':=x1.1) (ak.id _ _) am) ?_
 refine s0 (aE (b':=x1.2) (ak.id _ _) am) ?_
 refine .nil (hK _ _ (rs hx fun K hK=>?_))
 refine s1 (d:=dG aj x1.2) (aq (ak.id _ _) am) ?_
 refine s0 (aE (b':=x1.2) (ak.id _ _) am) ?_
 refine .nil (hK _ _ (AW.ret ?_))
 cases h
 exact rv1
def pS(aJ:av)(aQ:av):Option Int:=bnd (c0 [aJ]) fun x1=>bnd (c0 [aQ]) fun x3=>bnd (S:=Bool) (cnd (!x1) (some (!x3)) (some (false))) fun ML=>cnd ML (some (0:Int)) (cnd (!x1) (some (-1:Int)) (cnd (!x3) (some (1:Int)) (cnd (!(aJ.vNeg == aQ.vNeg)) (cnd aJ.vNeg (some (-1:Int)) (some (1:Int))) (cnd aJ.vNeg (bnd (iu aQ.vW aJ.vW) fun nD=>some nD) (bnd (iu aJ.vW aQ.vW) fun BC=>some BC)))))
set_option maxHeartbeats 4000000 in
theorem He {aJ:av}{aQ:av}{r:Int}(h:pS aJ aQ=some r):ax Tryz.prog 96 [dG aj aJ,dG aj aQ] (dI .i64 r):=by
 refine bC (rs:=[.tmp 4]) (fun cx hx h0=>?_) Tryz.func96
 unfold pS at h
 refine ra hx ?_
 refine rsd [147] hx fun K hK=>?_
 refine s1 (d:=dG aj aJ) (aq (ak.id _ _) am) ?_
 refine s1 (Lj ([aJ]:List av) aj pd am) ?_
 refine cqb h fE fun x1 h=>?_
 refine s1 (d:=dG aj aQ) (aq (ak.id _ _) am) ?_
 refine s1 (Lj ([aQ]:List av) aj pd am) ?_
 refine cqb h fE fun x3 h=>?_
 iterate 2 refine sa ?_
 refine .nil (hK _ _ (AW.seq (AW.block (AW.seq ?_))))
 obtain⟨ML,hy,h⟩:=ae h
 refine jn ((PE cx .normal (fun ML=>[(2,.pt 0 0),(3,.pt 1 0),(5,dB x1),(6,dB x3),(13,dB ML)]) fun ML=>⟨[(0,dC (aj.f aJ)),(1,dC (aj.f aQ))],[],2⟩) ML) ?_ ?_
 replace h:=hy
 refine rq hx fun K hK=>?_
 iterate 3 refine sa ?_
 rcases az (!x1) with dy|dy
 replace h:=aO dy h
 iterate 2 refine ga dy ?_
 refine s1 (ar dy) ?_
 refine sa ?_
 refine .nil (hK _ _ ?_)
 cases h
 exact pe0 h0 [0,1]
 replace h:=aP dy h
 iterate 2 refine aG rfl rfl dy ?_
 refine s1 (an dy) ?_
 refine sa ?_
 refine .nil (hK _ _ ?_)
 cases h
 exact pe0 h0 [0,1]
 rintro ex tm' hp' ⟨rfl,hw⟩
 refine AW.weak hw (cdh h rfl (fun nN h=>?_) (fun nN h=>?_))
 refine ra hx ?_
 refine AW.ret ?_
 cases h
 exact rv1
 refine ra hx ?_
 refine cdh h rfl (fun ju h=>?_) (fun ju h=>?_)
 refine ra hx ?_
 refine AW.ret ?_
 cases h
 exact rv1
 refine ra hx ?_
 refine cdh h rfl (fun wr h=>?_) (fun wr h=>?_)
 refine ra hx ?_
 refine AW.ret ?_
 cases h
 exact rv1
 refine rs hx fun K hK=>?_
 refine sa ?_
 refine s1 (aT (aN aJ) ey) ?_
 refine sa ?_
 refine s1 (aT (aN aQ) ey) ?_
 iterate 2 refine sa ?_
 refine .nil (hK _ _ (cdh h rfl (fun dT h=>?_) (fun dT h=>?_)))
 refine AW.seq (rs hx fun K hK=>?_)
 refine sa ?_
 refine s1 (aT (aN aJ) ey) ?_
 refine .nil (hK _ _ (cdh h rfl (fun qH h=>?_) (fun qH h=>?_)))
 refine ra hx ?_
 refine AW.ret ?_
 cases h
 exact rv1
 refine AW.skip (ra hx ?_)
 refine AW.ret ?_
 cases h
 exact rv1
 refine rs hx fun K hK=>?_
 refine sa ?_
 refine s1 (aT (aN aJ) ey) ?_
 refine sa ?_
 refine .nil (hK _ _ (cdh h rfl (fun nh h=>?_) (fun nh h=>?_)))
 refine rs hx fun K hK=>?_
 refine sa ?_
 refine s1 (aq (aY aQ) aA) ?_
 refine sa ?_
 refine s1 (aq (aY aJ) aA) ?_
 refine scb h pz fun nD h=>?_
 refine sa ?_
 refine .nil (hK _ _ (AW.ret ?_))
 cases h
 exact rv1
 refine AW.skip (rs hx fun K hK=>?_)
 refine sa ?_
 refine s1 (aq (aY aJ) aA) ?_
 refine sa ?_
 refine s1 (aq (aY aQ) aA) ?_
 refine scb h pz fun BC h=>?_
 refine sa ?_
 refine .nil (hK _ _ (AW.ret ?_))
 cases h
 exact rv1
section
theorem vsub {b n A:Nat}(m o:Nat)(h:o+m≤n):vOf m (List.take m (List.drop o (vN b n A).toList))=vN b m (A / b ^ o):=by
 have hl:(List.take m (List.drop o (vN b n A).toList)).length=m:=by
  rw[eH,fT,qu];omega
 apply og
 intro j hj
 rw[jT hj]
 have e1:=yy (vOf m (List.take m (List.drop o (vN b n A).toList))) hj
 rw[xG hl] at e1
 rw[←e1,cO _ j (by omega),List.getElem_take,List.getElem_drop]
 have e2:=jT (b:=b) (A:=A) (j:=o+j) (n:=n) (by omega)
 rw[←yy (vN b n A) (by omega),cO _ (o+j) (by rw[qu];omega)] at e2
 rw[e2]
 unfold dg
 rw[g8,g9]
section
variable {b R a B i k:Nat}
def rO(b R a B i k:Nat):Nat:=R % b ^ (i+k)+a*(B % b ^ k)*b ^ i
def yh(b R a B i k:Nat):Nat:=R / b ^ (i+k)*b ^ (i+k)+rO b R a B i k % b ^ (i+k)
theorem Fp:rO b R a B i (k+1)=rO b R a B i k+b ^ (i+k)*(dg b R (i+k)+a*dg b B k):=by
 unfold rO
 rw[show i+(k+1)=i+k+1 from rfl,ia,ia (A:=B),ui,ui,cz,g8 b i k]
 have:a*(b ^ k*dg b B k)*b ^ i=b ^ i*b ^ k*(a*dg b B k):=by
  simp only[fL,AA,db]
 rw[this];omega
theorem Ll(hb:0<b)(ha:a<b):rO b R a B i k / b ^ (i+k)<b:=by
 have hp:0<b ^ (i+k):=cr hb
 rw[mN hp]
 unfold rO
 have h1:=eO R hp
 have h2:a*(B % b ^ k)*b ^ i≤(b - 1)*b ^ (i+k):=by
  rw[g8,fL]
  refine uJ (by omega) ?_
  rw[db (b ^ i)]
  exact dZ _ (lj (eO _ (cr hb)))
 have h3:(b - 1)*b ^ (i+k)+b ^ (i+k)=b*b ^ (i+k):=by
  rw[←rK];congr 1;omega
 omega
theorem Orow_dg(hb:0<b):dg b (yh b R a B i k) (i+k)=dg b R (i+k):=by
 unfold yh dg
 rw[db (R / _),Nat.mul_add_div (cr hb),eV (eO _ (cr hb)),mK]
theorem MP(hb:0<b):up1 b (yh b R a B i k) (i+k) (rO b R a B i (k+1) / b ^ (i+k) % b)=yh b R a B i (k+1):=by
 have hp:0<b ^ (i+k):=cr hb
 have e1:yh b R a B i k / b ^ (i+k+1)=R / b ^ (i+k+1):=by
  rw[dM,←g9,←g9]
  congr 1
  unfold yh
  rw[db (R / _),Nat.mul_add_div hp,eV (eO _ hp),mK]
 have e2:yh b R a B i k % b ^ (i+k)=rO b R a B i (k+1) % b ^ (i+k):=by
  rw[Fp,AC]
  unfold yh
  rw[db (R / _),Nat.mul_add_mod,Nat.mod_mod]
 unfold up1
 rw[e1,e2]
 show _=R / b ^ (i+k+1)*b ^ (i+k+1)+rO b R a B i (k+1) % b ^ (i+k+1)
 rw[ia (A:=rO b R a B i (k+1)),db (b ^ (i+k)) (dg _ _ _)]
 unfold dg
 omega
end
theorem Mul_row {A B i m:Nat}(hi:i<16)(hm:m≤16)(hB:B<4294967296 ^ m)(x y:av)(hx:x.vW=W A)(hy:y.vW=W B):
  ∃c:Nat,c<4294967296∧∃O:Nat,bL (jd x y (m:Int) (i:Int)) ((0:Int),(0:Int),vN 4294967296 32 (A % 4294967296 ^ i*B))=some ((c:Int),vN 4294967296 32 O)∧up1 4294967296 O (i+m) c=A % 4294967296 ^ (i+1)*B:=by
 have hb:0<(4294967296:Nat):=by decide
 have hR:A % 4294967296 ^ i*B<4294967296 ^ (i+m):=by
  rw[g8]
  exact Nat.mul_lt_mul_of_lt_of_le (eO _ (cr hb)) (lj hB) (cr hb)
 generalize hRR:A % 4294967296 ^ i*B=R at hR ⊢
 have ha:=@dgl A i
 have hl:=rf (b:=jd x y (m:Int) (i:Int)) (s0:=((0:Int),(0:Int),vN 4294967296 32 R)) (fun k=>((rO 4294967296 R (dg 4294967296 A i) B i k / 4294967296 ^ (i+k):Nat),(k:Int),vN 4294967296 32 (yh 4294967296 R (dg 4294967296 A i) B i k))) m ((rO 4294967296 R (dg 4294967296 A i) B i m / 4294967296 ^ (i+m):Nat),vN 4294967296 32 (yh 4294967296 R (dg 4294967296 A i) B i m))
  (by
   have e1:rO 4294967296 R (dg 4294967296 A i) B i 0=R % 4294967296 ^ i:=by unfold rO;simp[np]
   have e2:yh 4294967296 R (dg 4294967296 A i) B i 0=R:=by
    unfold yh;rw[e1,mK,Nat.mod_mod,db];exact ln _ _
   rw[e1,e2,mK,eV (eO _ (cr hb))]
   rfl)
  (fun k hk=>by
   have hk16:k<16:=by omega
   have hc:=Ll (b:=4294967296) (R:=R) (a:=dg 4294967296 A i) (B:=B) (i:=i) (k:=k) hb ha
   have hbk:=@dgl B k
   have hr:=@dgl R (i+k)
   have KT:dg 4294967296 A i*dg 4294967296 B k≤4294967295*4294967295:=uJ (by omega) (by omega)
   have E3:rO 4294967296 R (dg 4294967296 A i) B i (k+1) / 4294967296 ^ (i+k)=rO 4294967296 R (dg 4294967296 A i) B i k / 4294967296 ^ (i+k)+(dg 4294967296 A i*dg 4294967296 B k+dg 4294967296 R (i+k)):=by
    rw[Fp,yd _ _ (cr hb),qx (dg 4294967296 R (i+k))]
   have wq:rO 4294967296 R (dg 4294967296 A i) B i (k+1) / 4294967296 ^ (i+(k+1))=rO 4294967296 R (dg 4294967296 A i) B i (k+1) / 4294967296 ^ (i+k) / 4294967296:=by
    rw[g9,←dM];rfl
   have rU:=MP (b:=4294967296) (R:=R) (a:=dg 4294967296 A i) (B:=B) (i:=i) (k:=k) hb
   rw[wq]
   generalize rO 4294967296 R (dg 4294967296 A i) B i (k+1) / 4294967296 ^ (i+k)=x1 at E3 rU ⊢
   generalize rO 4294967296 R (dg 4294967296 A i) B i k / 4294967296 ^ (i+k)=c at E3 hc ⊢
   have eik:i64.wrap ((i:Int)+(k:Int))=((i+k:Nat):Int):=by rw[b7 (by omega)];omega
   dsimp only[jd]
   rw[cE _ _ (by omega),aM (by omega),aM (by omega),eik,aM (by omega),aa,aM (by omega),aa,ct,ct,ct,hx,hy,gU hi,gU hk16,jT (by omega),Orow_dg hb,
    iD (n:=dg 4294967296 A i) (by omega),iD (n:=dg 4294967296 B k) (by omega),iD (n:=dg 4294967296 R (i+k)) (by omega),←jZ,iD (n:=dg 4294967296 A i*dg 4294967296 B k) (by omega),←jX,iD (by omega),←jX,iD (by omega),←E3,xb,zP,zL hb (eO _ hb) (by omega),rU,b7 (by omega)]
   rfl)
  (by
   dsimp only[jd]
   rw[co _ _ (by omega)])
 refine⟨_,Ll hb ha,_,hl,?_⟩
 have e1:rO 4294967296 R (dg 4294967296 A i) B i m=R+dg 4294967296 A i*B*4294967296 ^ i:=by
  unfold rO;rw[gS hR,gS hB]
 have e2:yh 4294967296 R (dg 4294967296 A i) B i m=rO 4294967296 R (dg 4294967296 A i) B i m % 4294967296 ^ (i+m):=by
  unfold yh;rw[eV hR,ic,bJ]
 have hO:yh 4294967296 R (dg 4294967296 A i) B i m<4294967296 ^ (i+m):=by rw[e2];exact eO _ (cr hb)
 unfold up1
 rw[eV (eD hO (i9 hb (jP _))),ic,bJ,gS hO,e2,db (_ / _),ln,e1,←hRR,ia (A:=A),cz]
 congr 1
 simp only[fL,AA,db]
theorem QH {A B n m:Nat}(hn:n≤16)(hm:m≤16)(hA:A<4294967296 ^ n)(hB:B<4294967296 ^ m)(x y:av)(hx:x.vW=W A)(hy:y.vW=W B):
  bL (je x y (n:Int) (m:Int)) ((0:Int),Vector.replicate 32 (0:Int))=some (vN 4294967296 32 (A*B)):=by
 have hb:0<(4294967296:Nat):=by decide
 have hl:=rf (b:=je x y (n:Int) (m:Int)) (s0:=((0:Int),Vector.replicate 32 (0:Int))) (fun i=>((i:Int),vN 4294967296 32 (A % 4294967296 ^ i*B))) n (vN 4294967296 32 (A % 4294967296 ^ n*B))
  (by simp only[gj,np,ic,r8];rfl)
  (fun i hi=>by
   obtain⟨c,hc,O,h1,h2⟩:=Mul_row (i:=i) (by omega) hm hB x y hx hy
   have eim:i64.wrap ((i:Int)+(m:Int))=((i+m:Nat):Int):=by rw[b7 (by omega)];omega
   dsimp only[je]
   rw[cE _ _ (by omega),h1,aa]
   dsimp only
   rw[eim,aM (by omega),aa,ct,zO hc,zL hb hc (by omega),h2,b7 (by omega)]
   rfl)
  (by
   dsimp only[je]
   rw[co _ _ (by omega)])
 rw[hl,gS hA]
theorem IV {a c:Int}(ha:a.natAbs<LIM)(hc:c.natAbs<LIM):jy (enc a) (enc c)=some (enc (a*c)):=by
 obtain⟨n,hn,hn1,E4⟩:=AH ha
 obtain⟨m,hm,hm1,O4⟩:=AH hc
 have KT:a.natAbs*c.natAbs<4294967296 ^ 16*4294967296 ^ 16:=ya ha hc
 unfold jy
 rw[uu,bh ha,bh hc,aa]
 simp only[bc,cj,aK]
 rw[mg ha,mg hc,hn1,aa,hm1,aa,QH hn hm E4.1 O4.1 (enc a) (enc c) (mg ha) (mg hc),aa,vsub 16 16 (by omega),vsub 16 0 (by omega),z16,fq ha,fq hc,gj,nl]
 have hq:a.natAbs*c.natAbs / 4294967296 ^ 16<LIM:=Nat.div_lt_of_lt_mul KT
 have hz:(vN 4294967296 16 (a.natAbs*c.natAbs / 4294967296 ^ 16)=W 0)↔a.natAbs*c.natAbs<LIM:=by
  rw[Dz hq wF,Nat.div_eq_zero_iff_lt (by decide)];rfl
 simp only[hz]
 by_cases h:a.natAbs*c.natAbs<LIM
 ·rw[co _ _ (by simpa using h),jR h,aa]
  congr 2
  rcases Int.natAbs_eq a with e1|e1 <;> rcases Int.natAbs_eq c with e2|e2 <;> skip
  all_goals
   by_cases ha0:a<0 <;> by_cases hc0:c<0 <;> simp only[ha0,hc0,nk,nj,vZ,cj,lm,fx,cond_false,Bool.true_beq,Bool.false_beq,jZ]
  all_goals (first|(exfalso;omega)|(have ea:(a.natAbs:Int)=a:=(by omega);have ec:(c.natAbs:Int)=c:=(by omega);rw[ea,ec])|(have ea:(a.natAbs:Int)=-a:=(by omega);have ec:(c.natAbs:Int)=c:=(by omega);rw[ea,ec,Int.neg_mul,Int.neg_neg])|(have ea:(a.natAbs:Int)=a:=(by omega);have ec:(c.natAbs:Int)=-c:=(by omega);rw[ea,ec,rJ,Int.neg_neg])|(have ea:(a.natAbs:Int)=-a:=(by omega);have ec:(c.natAbs:Int)=-c:=(by omega);rw[ea,ec,Int.neg_mul_neg])|skip)
 ·rw[cE _ _ (by simpa using h),Lx,aa,C4 (by rw[vU];exact h)]
end
theorem set16(x y:Int):(#v[x,y,0,0,0,0,0,0,0,0,0,0,0,0,0,0]:Vector Int 16)=((W 0).set! 0 x).set! 1 y:=by
 rw[←z16];rfl
theorem Qr {u:Nat}(hu:u<18446744073709551616):(#v[((u % 4294967296:Nat):Int),((u / 4294967296:Nat):Int),0,0,0,0,0,0,0,0,0,0,0,0,0,0]:Vector Int 16)=W u:=by
 have hb:0<(4294967296:Nat):=by decide
 have hx:u % 4294967296<4294967296:=eO _ hb
 have hy:u / 4294967296<4294967296:=by omega
 rw[set16]
 unfold W
 rw[zL hb hx (by omega)]
 have e1:up1 4294967296 0 0 (u % 4294967296)=u % 4294967296:=by
  have:=I7 (b:=4294967296) (A:=0) (p:=0) (x:=u % 4294967296)
  rw[mh (by decide)] at this
  omega
 have h:=I7 (b:=4294967296) (A:=u % 4294967296) (p:=1) (x:=u / 4294967296)
 rw[mh (by rw[Nat.pow_one];exact hx),Nat.pow_one,ic,mK,Nat.mod_add_div'] at h
 rw[e1,zL hb hy (by omega),h]
theorem Ki {n:Int}(h1:-9223372036854775808≤n)(h2:n≤9223372036854775807):g5 n=some (enc n):=by
 have hu:n.natAbs<18446744073709551616:=by omega
 have hL:n.natAbs<LIM:=eD hu (by decide)
 have hc:cnd (decide (n<(0:Int))) (some (u64.wrap (0 - (u64.wrap n)))) (some (u64.wrap n))=some ((n.natAbs:Nat):Int):=by
  rw[eg]
  split
  ·congr 1;rw[IntKind.wrap_u64,IntKind.wrap_u64];omega
  ·congr 1;rw[IntKind.wrap_u64];omega
 unfold g5
 rw[hc,aa,zP,xb,zO (by omega),Qr hu,jR hL,aa]
 congr 2
 by_cases h:n<0
 ·simp only[h,nk,fx];omega
 ·simp only[h,nj,cond_false];omega
theorem xK {x k l:Nat}(hx:2 ^ k≤x)(h:szp 2 (x / 2 ^ k) l):szp 2 x (l+k):=by
 have hp:0<2 ^ k:=cr (by decide)
 have h0:0<x / 2 ^ k:=Nat.div_pos hx hp
 have hl:0<l:=by
  rcases rF l with h1|h1
  ·subst h1;have:=h.1;simp at this;omega
  ·exact h1
 refine⟨?_,fun _=>?_⟩
 ·rw[g8];exact (mN hp).1 h.1
 ·have:=h.2 hl
  rw[show l+k - 1=(l - 1)+k from by omega,g8]
  exact (pq hp).1 this
def HQ:ByteArray:=⟨#[0,1,2,2,3,3,3,3,4,4,4,4,4,4,4,4,5,5,5,5,5,5,5,5,5,5,5,5,5,5,5,5,6,6,6,6,6,6,6,6,6,6,6,6,6,6,6,6,6,6,6,6,6,6,6,6,6,6,6,6,6,6,6,6,7,7,7,7,7,7,7,7,7,7,7,7,7,7,7,7,7,7,7,7,7,7,7,7,7,7,7,7,7,7,7,7,7,7,7,7,7,7,7,7,7,7,7,7,7,7,7,7,7,7,7,7,7,7,7,7,7,7,7,7,7,7,7,7,8,8,8,8,8,8,8,8,8,8,8,8,8,8,8,8,8,8,8,8,8,8,8,8,8,8,8,8,8,8,8,8,8,8,8,8,8,8,8,8,8,8,8,8,8,8,8,8,8,8,8,8,8,8,8,8,8,8,8,8,8,8,8,8,8,8,8,8,8,8,8,8,8,8,8,8,8,8,8,8,8,8,8,8,8,8,8,8,8,8,8,8,8,8,8,8,8,8,8,8,8,8,8,8,8,8,8,8,8,8,8,8,8,8,8,8,8,8,8,8,8,8,8,8,8,8,8,8]⟩
theorem E1:∀y:Nat,y<256→(HQ.data.toList.getD y 0).toNat≤8∧y<2 ^ (HQ.data.toList.getD y 0).toNat∧(0<(HQ.data.toList.getD y 0).toNat→2 ^ ((HQ.data.toList.getD y 0).toNat - 1)≤y):=by decide +kernel
theorem L8:HQ.size=256:=by decide +kernel
theorem len_tab(y:Nat)(hy:y<256):∃l:Nat,sAt HQ y=(l:Int)∧l≤8∧szp 2 y l:=
 ⟨_,rfl,(E1 y hy).1,(E1 y hy).2⟩
theorem QI(x:Int):mX x=bnd (S:=Int×Int) (cnd (decide ((65536:Int)≤x)) (some ((mR .u32 x (16:Int),(16:Int)))) (some ((x,(0:Int))))) fun (bI,GQ)=>bnd (S:=Int×Int) (cnd (decide ((256:Int)≤bI)) (some ((mR .u32 bI (8:Int),i64.wrap (GQ+(8:Int))))) (some ((bI,GQ)))) fun (lO,Dy)=>gd (0≤u8.wrap (lO)∧u8.wrap (lO)<(HQ.size:Int)) (bnd (some (i64.wrap (Dy+(i64.wrap (sAt HQ (u8.wrap (lO)).toNat))))) fun x6=>some x6):=rfl
theorem u8n {n:Nat}(h:n<256):u8.wrap (n:Int)=(n:Int):=by
 rw[IntKind.wrap_u8];omega
theorem Lv {x:Nat}(hx:x<4294967296):∃l:Nat,mX (x:Int)=some (l:Int)∧l≤32∧szp 2 x l:=by
 have h16:∃(y n:Nat),cnd (decide ((65536:Int)≤(x:Int))) (some ((mR .u32 (x:Int) (16:Int),(16:Int)))) (some (((x:Int),(0:Int))))=some ((y:Int),(n:Int))∧y<65536∧n≤16∧∀l,szp 2 y l→szp 2 x (l+n):=by
  rw[eg]
  split
  ·rename_i h
   exact⟨x / 2 ^ 16,16,by rw[show (16:Int)=((16:Nat):Int) from rfl,CE .u32 x 16 (by decide)],by omega,by omega,fun l hl=>xK (by omega) hl⟩
  ·exact⟨x,0,rfl,by omega,by omega,fun l hl=>hl⟩
 obtain⟨y,n,e1,hy,hn,hs⟩:=h16
 have h8:∃(z m:Nat),cnd (decide ((256:Int)≤(y:Int))) (some ((mR .u32 (y:Int) (8:Int),i64.wrap ((n:Int)+(8:Int))))) (some (((y:Int),(n:Int))))=some ((z:Int),(m:Int))∧z<256∧m≤24∧∀l,szp 2 z l→szp 2 x (l+m):=by
  rw[eg]
  split
  ·rename_i h
   refine⟨y / 2 ^ 8,n+8,?_,by omega,by omega,fun l hl=>?_⟩
   ·rw[show (8:Int)=((8:Nat):Int) from rfl,CE .u32 y 8 (by decide),b7 (by omega)];rfl
   ·rw[show l+(n+8)=(l+8)+n from by omega]
    exact hs _ (xK (by omega) hl)
  ·exact⟨y,n,rfl,by omega,by omega,hs⟩
 obtain⟨z,m,e2,hz,hm,MY⟩:=h8
 obtain⟨l,hl1,Gp,hl3⟩:=len_tab z hz
 refine⟨l+m,?_,by omega,MY l hl3⟩
 rw[QI,e1,aa]
 dsimp only
 rw[e2,aa]
 dsimp only
 rw[u8n hz,L8,aM ⟨by omega,by omega⟩,ct,hl1,b7 (z:=(l:Int)) (by omega),b7 (by omega),aa]
 congr 1
 omega
theorem G_Lead {x:Nat}(hx:x<4294967296):∃l:Nat,fY (x:Int)=some (((32 - l:Nat)):Int)∧l≤32∧szp 2 x l:=by
 obtain⟨l,h1,h2,h3⟩:=Lv hx
 refine⟨l,?_,h2,h3⟩
 unfold fY
 rw[h1,aa,b7 (by omega)]
 congr 1
 omega
theorem G_Bits {a:Int}(ha:a.natAbs<LIM):∃l:Nat,l≤512∧oF (enc a)=some (l:Int)∧szp 2 a.natAbs l:=by
 obtain⟨n,hn,h1,h2⟩:=AH ha
 unfold oF
 rw[mg ha,h1,aa,uw,bh ha,aa,cj,aK,aa]
 cases n with
 |zero=>
  refine⟨0,by omega,?_,?_⟩
  ·rw[cE _ _ (by omega)];rfl
  ·have:=h2.1
   exact⟨by simpa using this,fun h=>by omega⟩
 |succ k=>
  have hk:k<16:=by omega
  rw[co _ _ (by omega),show i64.wrap (((k+1:Nat):Int) - 1)=(k:Int) from by rw[b7 (by omega)];omega,aM (by omega),ct,gU hk]
  obtain⟨l,h3,h4,h5⟩:=Lv (x:=dg 4294967296 a.natAbs k) dgl
  have hd:dg 4294967296 a.natAbs k=a.natAbs / 2 ^ (32*k):=by
   unfold dg
   have e:(4294967296:Nat) ^ k=2 ^ (32*k):=by rw[Nat.pow_mul]
   rw[←e,gS]
   rw[mN (cr (by decide)),db,←dM];exact h2.1
  have uG:2 ^ (32*k)≤a.natAbs:=by
   have:=h2.2 (by omega)
   rw[AB] at this
   rwa[Nat.pow_mul]
  refine⟨l+32*k,by omega,?_,?_⟩
  ·rw[h3,aa,show i64.wrap ((32:Int)*(k:Int))=((32*k:Nat):Int) from by rw[b7 (by omega)];omega,b7 (by omega)]
   congr 1;omega
  ·rw[hd] at h5;exact xK uG h5
theorem N9 {A:Nat}(hA:A<18446744073709551616):ior .u64 (xP .u64 (u64.wrap ((W A)[((1:Int)).toNat]!)) (32:Int)) (u64.wrap ((W A)[((0:Int)).toNat]!))=(A:Int):=by
 have e1:(W A)[((1:Int)).toNat]! =(dg 4294967296 A 1:Int):=gU (by decide)
 have e0:(W A)[((0:Int)).toNat]! =(dg 4294967296 A 0:Int):=gU (by decide)
 have h1:=@dgl A 1
 have h0:=@dgl A 0
 rw[e1,e0,iD (by omega),iD (by omega),Hz h1,HT h0 h1]
 have e:dg 4294967296 A 1*4294967296+dg 4294967296 A 0=A:=by
  unfold dg
  rw[Nat.pow_one,gj,nl]
  omega
 rw[e]
theorem Lu {a:Int}(ha:a.natAbs<LIM):lU (enc a)=some (if -9223372036854775808≤a∧a<9223372036854775808 then (a,true) else (0,false)):=by
 obtain⟨l,hl,h1,h2⟩:=G_Bits ha
 have e64:(2:Nat) ^ 64=18446744073709551616:=by decide
 have hl64:64<l↔¬a.natAbs<18446744073709551616:=by
  constructor
  ·intro h h3
   have:=I9 (b:=2) (by decide) h2 (k:=64) (by rw[e64];exact h3)
   omega
  ·intro h
   rcases hE 64 l with h3|h3
   ·exact h3
   ·have h4:=h2.1
    have h5:2 ^ l≤2 ^ 64:=i9 (by decide) h3
    rw[e64] at h5
    exact absurd (eD h4 h5) h
 unfold lU
 rw[uw,bh ha,aa,cj,aK,h1,aa,aa]
 by_cases h:a.natAbs<18446744073709551616
 ·rw[co _ _ (by have:=mt hl64.1 (fun hh=>hh h);omega),aa,mg ha,N9 h,fq ha]
  by_cases hn:a<0
  ·simp only[hn,nk,c7,cj,aK,aa]
   by_cases h3:a.natAbs≤9223372036854775808
   ·rw[cE _ _ (by omega),if_pos (by omega),show (0:Int) - (a.natAbs:Int)=a from by omega,IntKind.wrap_u64]
    rw[show i64.wrap (a % 18446744073709551616)=a from by rw[IntKind.wrap_i64];omega]
   ·rw[co _ _ (by omega),if_neg (by omega)]
  ·rw[bf hn,aK,aa,aK,lm,c7,aa]
   have ea:(a.natAbs:Int)=a:=by omega
   rw[ea]
   by_cases h3:a<9223372036854775808
   ·rw[cE _ _ h3,if_pos ⟨by omega,h3⟩,b7 ⟨by omega,by omega⟩]
   ·rw[co _ _ h3,if_neg (fun hh=>h3 hh.2)]
 ·rw[cE _ _ (by have:=hl64.2 h;omega),if_neg (by omega)]
def vF(n:Nat)(f:Nat→Nat):Vector Int n:=Vector.ofFn fun i=>(f i.val:Int)
theorem vi {n j:Nat}{f:Nat→Nat}(h:j<n):(vF n f)[j]! =(f j:Int):=by
 rw[cO (vF n f) j h]
 unfold vF
 rw[Vector.getElem_ofFn]
theorem Nl {n:Nat}{f g:Nat→Nat}(h:∀j,j<n→f j=g j):vF n f=vF n g:=by
 apply og
 intro j hj
 rw[vi hj,vi hj,h j hj]
theorem vF_set {n p x:Nat}{f:Nat→Nat}:(vF n f).set! p (x:Int)=vF n (fun j=>if j=p then x else f j):=by
 apply og
 intro j hj
 rw[pI hj,vi hj,vi hj]
 split <;> rfl
theorem vF_dg {b n A:Nat}:vF n (dg b A)=vN b n A:=rfl
theorem Gx {X V n d:Nat}(hn:2≤n)(hV:2147483648*4294967296 ^ (n - 1)≤V)(hX:X<V*4294967296)
  (Eu:min (X / 4294967296 ^ (n - 2) / (V / 4294967296 ^ (n - 2))) 4294967295≤d) (KW:d*(V / 4294967296 ^ (n - 2))≤X / 4294967296 ^ (n - 2)):X / V≤d∧d≤X / V+1:=by
 have hp:0<4294967296 ^ (n - 2):=cr (by decide)
 have e1:(4294967296:Nat) ^ (n - 1)=4294967296 ^ (n - 2)*4294967296:=by rw[←dM];congr 1;omega
 rw[e1] at hV
 generalize 4294967296 ^ (n - 2)=P at*
 have D6:0<V:=eD (vP (by decide) (vP hp (by decide))) hV
 have OA:2147483648*4294967296≤V / P:=by
  rw[pq hp]
  calc 2147483648*4294967296*P=2147483648*(P*4294967296):=by rw[fL,db 4294967296 P]
   _≤V:=hV
 have hv20:0<V / P:=by omega
 have hVP:=ln V P
 have hVm:=eO V hp
 have hXP:=ln X P
 have hXm:=eO X hp
 have hq1:X / V≤X / P / (V / P):=by
  rw[g9]
  refine Nat.div_le_div_left ?_ (vP hp hv20)
  omega
 have hq2:X / V<4294967296:=(mN D6).2 (by rw[db];exact hX)
 refine⟨by omega,?_⟩
 -- d V is not much more than X
 have CQ:d*(V / P)*P≤X:=by
  have:=dZ P KW
  rw[db (X / P)] at this
  omega
 have hXP2:X / P<(V / P+1)*4294967296:=by
  rw[mN hp]
  have h1:V<(V / P+1)*P:=by rw[cz,kG,db (V / P)];omega
  calc X<V*4294967296:=hX
   _≤(V / P+1)*P*4294967296:=dZ _ (lj h1)
   _=(V / P+1)*4294967296*P:=by rw[fL,db P,←fL]
 have hdb:d≤4294967296:=by
  rcases hE 4294967296 d with h|h
  ·have:4294967297*(V / P)≤d*(V / P):=dZ _ h
   omega
  ·exact h
 have h2:d*(V % P)≤4294967296*P:=uJ hdb (lj hVm)
 have h3:d*V=d*(V / P)*P+d*(V % P):=by
  conv=>lhs;rw[←hVP]
  rw[ui,db P,fL]
 have h4:d*V≤X+V:=by
  rw[h3]
  have h6:4294967296*P≤V:=by
   refine dP ?_ hV
   rw[db P,←fL]
   exact dZ _ (by decide)
  exact Nat.add_le_add CQ (dP h2 h6)
 rcases rF d with h0|h0
 ·rw[h0];exact cX _
 ·have h5:(d - 1)*V≤X:=by rw[Nat.sub_mul,kG];omega
  have:=(pq D6).2 h5
  omega
theorem gA1 {y r u z:Nat}(h:r*4294967296+u<z):(y+r)*4294967296+u<y*4294967296+z:=by
 rw[cz,wV];exact Dq h _
theorem gA2 {y r u z:Nat}(h:z≤r*4294967296+u):y*4294967296+z≤(y+r)*4294967296+u:=by
 rw[cz,wV];exact Nat.add_le_add_left h _
theorem gA3 {y r u z:Nat}(h:4294967296≤r)(hz:z≤4294967295*4294967295):y*4294967296+z≤(y+r)*4294967296+u:=by
 have h1:z≤r*4294967296:=dP hz (dP (uJ (by decide) (by decide)) (dZ _ h))
 rw[cz,wV]
 exact Nat.add_le_add_left (dP h1 (tk _ _)) _
theorem oY {n:Nat}(h:n≤34359738368):n<18446744073709551616:=by omega
theorem lt64p {n:Nat}(h:n≤4294967295*4294967295):n<18446744073709551616:=by omega
theorem guessB {d r f x0 x1:Nat}(h:d*f+r=x0*4294967296+x1)(hf:2147483648≤f)(h0:x0<4294967296)(h1:x1<4294967296):d≤8589934592:=by
 have:=zh d hf
 omega
theorem guessT {x0 x1 f:Nat}(h0:x0<4294967296)(h1:x1<4294967296):(x0*4294967296+x1) / f<18446744073709551616:=
 cp (pw _ _) (by omega)
theorem G_guess {U V n j:Nat}(hn:2≤n)(Et:n≤16)(hj:j+n≤16)(hV:2147483648*4294967296 ^ (n - 1)≤V)(EB:V<4294967296 ^ n)(hU:U / 4294967296 ^ j<V*4294967296):
  ∃d:Nat,d<4294967296∧jb (W V) (n:Int) (j:Int) (vN 4294967296 17 U)=some (d:Int)∧U / 4294967296 ^ j / V≤d∧d≤U / 4294967296 ^ j / V+1:=by
 have hb:0<(4294967296:Nat):=by decide
 generalize hX:U / 4294967296 ^ j=X at hU
 -- the digits that it looks at
 have du:∀i,dg 4294967296 U (j+i)=dg 4294967296 X i:=fun i=>by
  unfold dg;rw[←hX,g9,←g8]
 have hXlt:X<4294967296 ^ (n+1):=by
  rw[dM];exact eD hU (dZ _ (lj EB))
 have s1:=c6 (b:=4294967296) (A:=X) (k:=n - 2)
 have s2:=c6 (b:=4294967296) (A:=X) (k:=n - 1)
 have s3:=c6 (b:=4294967296) (A:=X) (k:=n)
 rw[eV hXlt,ic,bJ] at s3
 rw[show n - 2+1=n - 1 from by omega] at s1
 rw[show n - 1+1=n from by omega,s3] at s2
 have w1:=c6 (b:=4294967296) (A:=V) (k:=n - 2)
 have w2:=c6 (b:=4294967296) (A:=V) (k:=n - 1)
 rw[show n - 2+1=n - 1 from by omega] at w1
 rw[show n - 1+1=n from by omega,eV EB,ic,bJ] at w2
 have DV:=@dgl X n
 have E3:=@dgl X (n - 1)
 have wq:=@dgl X (n - 2)
 have hv1:=@dgl V (n - 1)
 have OA:=@dgl V (n - 2)
 have JM:2147483648≤dg 4294967296 V (n - 1):=by
  rw[←w2,pq (cr hb)];exact hV
 -- the two highest digits against the highest one
 have hp:0<4294967296 ^ (n - 2):=cr hb
 have htop:X / 4294967296 ^ (n - 1)≤V / 4294967296 ^ (n - 2):=by
  have e1:(4294967296:Nat) ^ (n - 1)=4294967296 ^ (n - 2)*4294967296:=by rw[←dM];congr 1;omega
  have h1:X / 4294967296 ^ (n - 1)*4294967296 ^ (n - 1)≤X:=Nat.div_mul_le_self _ _
  rw[pq hp]
  rw[e1] at h1
  have h2:X / 4294967296 ^ (n - 1)*4294967296 ^ (n - 2)*4294967296<V*4294967296:=by
   rw[fL]
   exact cp (by rw[e1];exact h1) hU
  exact lj (Nat.lt_of_mul_lt_mul_right h2)
 rw[s2,w1,w2] at htop
 obtain⟨x,hl,d,rfl,hdb,Eu,KW⟩:=vp (b:=j5 (W V) (n:Int) (j:Int) (vN 4294967296 17 U) ((dg 4294967296 V (n - 1):Nat):Int)) (fun s=>∃d r:Nat,s=((d:Int),(r:Int))∧d*dg 4294967296 V (n - 1)+r=X / 4294967296 ^ (n - 1)∧min (X / 4294967296 ^ (n - 2) / (V / 4294967296 ^ (n - 2))) 4294967295≤d) (fun s=>4294967296 - s.2.toNat)
  (fun x=>∃d:Nat,x=(d:Int)∧d<4294967296∧min (X / 4294967296 ^ (n - 2) / (V / 4294967296 ^ (n - 2))) 4294967295≤d∧d*(V / 4294967296 ^ (n - 2))≤X / 4294967296 ^ (n - 2))
  (by
   rintro s ⟨d,r,rfl,hdr,Eu⟩
   have hmul:d*(V / 4294967296 ^ (n - 2))=d*dg 4294967296 V (n - 1)*4294967296+d*dg 4294967296 V (n - 2):=by
    rw[w1,w2,ui,fL]
   have hdB:d≤8589934592:=guessB (by rw[hdr,s2]) JM DV E3
   have ei2:i64.wrap ((n:Int) - (2:Int))=((n - 2:Nat):Int):=by rw[b7 (by omega)];omega
   have eij2:i64.wrap ((i64.wrap ((j:Int)+(n:Int))) - (2:Int))=((j+(n - 2):Nat):Int):=by rw[b7 (z:=(j:Int)+(n:Int)) (by omega),b7 (by omega)];omega
   dsimp only[j5]
   by_cases hr:r<4294967296
   ·rw[cE _ _ (by omega)]
    by_cases hd:4294967296≤d
    ·left
     refine⟨(((d - 1:Nat):Int),((r+dg 4294967296 V (n - 1):Nat):Int)),?_,⟨d - 1,_,rfl,?_,by omega⟩,by show 4294967296 - (_:Nat)<4294967296 - (_:Nat);rw[ct,ct];omega⟩
     ·rw[cE _ _ (by omega),aa,c7,show (d:Int) - 1=((d - 1:Nat):Int) from by omega,iD (oY (by omega)),←jX,iD (oY (by omega))]
     ·rw[Nat.sub_mul,kG]
      have:dg 4294967296 V (n - 1)≤d*dg 4294967296 V (n - 1):=Dn _ (by omega)
      omega
    ·have D3:d*dg 4294967296 V (n - 2)≤4294967295*4294967295:=uJ (by omega) (by omega)
     rw[co _ _ (by omega),ei2,aM (by omega),eij2,aM (by omega),ct,ct,jT (by omega),gU (by omega),du,iD (n:=dg 4294967296 X (n - 2)) (oY (by omega)),iD (n:=dg 4294967296 V (n - 2)) (oY (by omega)),Hz hr,HT wq hr,←jZ,iD (lt64p D3),aa]
     by_cases hc:r*4294967296+dg 4294967296 X (n - 2)<d*dg 4294967296 V (n - 2)
     ·left
      have vy:0<d:=by
       rcases rF d with h|h
       ·subst h;omega
       ·exact h
      refine⟨(((d - 1:Nat):Int),((r+dg 4294967296 V (n - 1):Nat):Int)),?_,⟨d - 1,_,rfl,?_,?_⟩,by show 4294967296 - (_:Nat)<4294967296 - (_:Nat);rw[ct,ct];omega⟩
      ·rw[cE _ _ (by omega),show (d:Int) - 1=((d - 1:Nat):Int) from by omega,iD (oY (by omega)),←jX,iD (oY (by omega))]
      ·rw[Nat.sub_mul,kG]
       have:dg 4294967296 V (n - 1)≤d*dg 4294967296 V (n - 1):=Dn _ vy
       omega
      ·have hgt:X / 4294967296 ^ (n - 2)<d*(V / 4294967296 ^ (n - 2)):=by rw[hmul,s1,←hdr];exact gA1 hc
       have:=(mN (x:=X / 4294967296 ^ (n - 2)) (y:=d) (k:=V / 4294967296 ^ (n - 2)) (by rw[w1,w2];omega)).2 hgt
       omega
     ·right
      refine⟨_,by rw[co _ _ (by omega)],d,rfl,by omega,Eu,?_⟩
      rw[hmul,s1,←hdr];exact gA2 (Nat.le_of_not_lt hc)
   ·right
    have hdlt:d<4294967296:=by
     rcases hE d 4294967296 with h|h
     ·exact h
     ·have:4294967296*dg 4294967296 V (n - 1)≤d*dg 4294967296 V (n - 1):=dZ _ h
      omega
    have D3:d*dg 4294967296 V (n - 2)≤4294967295*4294967295:=uJ (by omega) (by omega)
    refine⟨_,by rw[co _ _ (by omega),aa,aK],d,rfl,hdlt,Eu,?_⟩
    rw[hmul,s1,←hdr];exact gA3 (Nat.le_of_not_lt hr) D3)
  (((X / 4294967296 ^ (n - 1) / dg 4294967296 V (n - 1):Nat):Int),((X / 4294967296 ^ (n - 1) % dg 4294967296 V (n - 1):Nat):Int))
  ⟨_,_,rfl,by rw[db];exact ln _ _,by
   have h0:X / 4294967296 ^ (n - 2) / (V / 4294967296 ^ (n - 2))≤X / 4294967296 ^ (n - 1) / dg 4294967296 V (n - 1):=by
    rw[pq (by omega)]
    have h1:=Nat.div_mul_le_self (X / 4294967296 ^ (n - 2)) (V / 4294967296 ^ (n - 2))
    generalize X / 4294967296 ^ (n - 2) / (V / 4294967296 ^ (n - 2))=q at h1 ⊢
    rw[w1,w2,s1,ui,←fL] at h1
    generalize q*dg 4294967296 V (n - 1)=y at h1 ⊢
    omega
   omega⟩
 obtain⟨h1,h2⟩:=Gx hn hV hU Eu KW
 refine⟨d,hdb,?_,h1,h2⟩
 have ejn:i64.wrap ((j:Int)+(n:Int))=((j+n:Nat):Int):=by rw[b7 (by omega)];omega
 have ejn1:i64.wrap (((j+n:Nat):Int) - (1:Int))=((j+(n - 1):Nat):Int):=by rw[b7 (by omega)];omega
 have en1:i64.wrap ((n:Int) - (1:Int))=((n - 1:Nat):Int):=by rw[b7 (by omega)];omega
 unfold jb
 rw[ejn,aM (by omega),ejn1,aM (by omega),en1,ct,ct,ct,jT (by omega),jT (by omega),gU (by omega),du,du,iD (n:=dg 4294967296 X n) (oY (by omega)),iD (n:=dg 4294967296 X (n - 1)) (oY (by omega)),iD (n:=dg 4294967296 V (n - 1)) (oY (by omega)),Hz DV,HT E3 DV,aa,aM (by omega),aa,aM (by omega),aM (by omega),←sP,←sO]
 rw[iD (guessT DV E3),←s2,hl,aa]
def yM(j i U D p:Nat):Nat:=if p<j then dg 4294967296 U p else if p<j+i then dg 4294967296 D (p - j) else dg 4294967296 U p
theorem mix0 {j U D:Nat}:yM j 0 U D=dg 4294967296 U:=by
 funext p
 unfold yM
 split
 ·rfl
 ·rw[if_neg (by omega)]
theorem FZ {j i U D:Nat}:yM j i U D (j+i)=dg 4294967296 U (j+i):=by
 unfold yM
 rw[if_neg (by omega),if_neg (by omega)]
theorem BM {n j i U D:Nat}:(vF n (yM j i U D)).set! (j+i) (dg 4294967296 D i:Int)=vF n (yM j (i+1) U D):=by
 rw[vF_set]
 apply Nl
 intro p hp
 by_cases h:p=j+i
 ·subst h
  rw[if_pos rfl]
  unfold yM
  rw[if_neg (by omega),if_pos (by omega)]
  congr 1;omega
 ·rw[if_neg h]
  unfold yM
  by_cases h1:p<j
  ·rw[if_pos h1,if_pos h1]
  ·rw[if_neg h1,if_neg h1]
   by_cases h2:p<j+i
   ·rw[if_pos h2,if_pos (by omega)]
   ·rw[if_neg h2,if_neg (by omega)]
theorem KI {n j i U D:Nat}(hU:U<4294967296 ^ (i+j))(hD:D<4294967296 ^ i):vF n (yM j i U D)=vN 4294967296 n (D*4294967296 ^ j+U % 4294967296 ^ j):=by
 have hb:0<(4294967296:Nat):=by decide
 rw[←vF_dg]
 apply Nl
 intro p _
 unfold yM
 by_cases h1:p<j
 ·rw[if_pos h1,←nP (A:=D*_+_) h1,Nat.mul_add_mod_self_right,Nat.mod_mod,nP h1]
 ·rw[if_neg h1]
  have e:dg 4294967296 (D*4294967296 ^ j+U % 4294967296 ^ j) p=dg 4294967296 D (p - j):=by
   obtain⟨q,rfl⟩:∃q,p=j+q:=⟨p - j,by omega⟩
   unfold dg
   rw[g8,←g9,db D,Nat.mul_add_div (cr hb),eV (eO _ (cr hb)),mK,Nat.add_sub_cancel_left]
  rw[e]
  by_cases h2:p<j+i
  ·rw[if_pos h2]
  ·rw[if_neg h2,mh (eD hU (i9 hb (by omega))),mh (eD hD (i9 hb (by omega)))]
theorem IB {D P i:Nat}:∃x:Nat,u64.wrap (u64.wrap ((dg 4294967296 (D+P) i:Int) - (dg 4294967296 P i:Int)) - (((D % 4294967296 ^ i+P % 4294967296 ^ i) / 4294967296 ^ i:Nat):Int))=(x:Int)∧x / 9223372036854775808=(D % 4294967296 ^ (i+1)+P % 4294967296 ^ (i+1)) / 4294967296 ^ (i+1)∧x % 4294967296=dg 4294967296 D i:=by
 have hc:=oL (b:=4294967296) (A:=D) (B:=P) (k:=i) (by decide)
 obtain⟨h1,h2⟩:=py (b:=4294967296) (A:=D) (B:=P) (k:=i) (by decide)
 have ha:=@dgl D i
 have hb:=@dgl P i
 have hd:=@dgl (D+P) i
 generalize (D % 4294967296 ^ i+P % 4294967296 ^ i) / 4294967296 ^ i=c at h1 h2 hc ⊢
 generalize (D % 4294967296 ^ (i+1)+P % 4294967296 ^ (i+1)) / 4294967296 ^ (i+1)=c' at h2 ⊢
 rw[IntKind.wrap_u64,IntKind.wrap_u64]
 exact⟨((((dg 4294967296 (D+P) i:Int) - (dg 4294967296 P i:Int)) % 18446744073709551616 - (c:Int)) % 18446744073709551616).toNat,by omega,by omega,by omega⟩
theorem lt64m {c p d:Nat}(hc:c≤d)(hp:p<4294967296)(hd:d<4294967296):c+p*d<18446744073709551616:=by
 have h1:p*d≤4294967295*4294967295:=uJ (by omega) (by omega)
 omega
theorem QN {U V D n j d:Nat}(Et:n≤16)(hj:j+n≤16)(EB:V<4294967296 ^ n)(hU:U<4294967296 ^ (n+1+j))(hd:d<4294967296)(hD:D<4294967296 ^ (n+1))
  (hDZ:D+V*d=U / 4294967296 ^ j+(if U / 4294967296 ^ j<V*d then 4294967296 ^ (n+1) else 0)):
  ke (W V) (n:Int) (j:Int) (d:Int) (vN 4294967296 17 U)=some (decide (U / 4294967296 ^ j<V*d),vN 4294967296 17 (D*4294967296 ^ j+U % 4294967296 ^ j)):=by
 have hb:0<(4294967296:Nat):=by decide
 generalize hZ:U / 4294967296 ^ j=Z at hDZ ⊢
 have Ms:Z<4294967296 ^ (n+1):=by
  rw[←hZ];exact Nat.div_lt_of_lt_mul (by rw[←g8,qx];exact hU)
 have dz:∀i,i<n+1→dg 4294967296 (D+V*d) i=dg 4294967296 U (j+i):=fun i hi=>by
  have e1:dg 4294967296 U (j+i)=dg 4294967296 Z i:=by
   unfold dg;rw[←hZ,g9,←g8]
  rw[e1,←nP (A:=D+V*d) hi,←nP (A:=Z) hi,hDZ]
  split
  ·rw[Nat.add_mod_right]
  ·rw[mK]
 have hcle:∀i,V % 4294967296 ^ i*d / 4294967296 ^ i≤d:=fun i=>
  dP (Nat.div_le_div_right (dZ d (lj (eO V (cr hb))))) (by rw[Nat.mul_div_cancel_left _ (cr hb)];exact aB _)
 have hl:=rf (b:=jv (W V) (n:Int) (j:Int) (d:Int)) (s0:=((0:Int),(0:Int),(0:Int),vN 4294967296 17 U)) (fun i=>((V % 4294967296 ^ i*d / 4294967296 ^ i:Nat),((D % 4294967296 ^ i+V*d % 4294967296 ^ i) / 4294967296 ^ i:Nat),(i:Int),vF 17 (yM j i U D))) n ((V % 4294967296 ^ n*d / 4294967296 ^ n:Nat),((D % 4294967296 ^ n+V*d % 4294967296 ^ n) / 4294967296 ^ n:Nat),vF 17 (yM j n U D))
  (by simp only[gj,np,ic,Nat.zero_div,mix0];rfl)
  (fun i hi=>by
   obtain⟨h1,h2⟩:=EX (b:=4294967296) (A:=V) (k:=i) (m:=d) hb
   obtain⟨x,E3,wq,Gi⟩:=IB (D:=D) (P:=V*d) (i:=i)
   have b8:=lt64m (hcle i) (@dgl V i) hd
   have hp:=@dgl (V*d) i
   have hz:=@dgl U (j+i)
   have hv:=@dgl V i
   have eij:i64.wrap ((j:Int)+(i:Int))=((j+i:Nat):Int):=by rw[b7 (by omega)];omega
   rw[dz i (by omega)] at E3
   have hvd:dg 4294967296 V i*d<18446744073709551616:=cp (Nat.le_add_left _ _) b8
   dsimp only[jv]
   rw[cE _ _ (by omega),aM (by omega),aa,eij,aM (by omega),aa,aM (by omega),aa,ct,ct,gU (by omega),vi (by omega),FZ,iD (n:=dg 4294967296 V i) (oY (by omega)),←jZ,db d,iD hvd,←jX,iD b8,zP,h1,xb,h2,iD (n:=dg 4294967296 (V*d) i) (oY (by omega)),iD (n:=dg 4294967296 U (j+i)) (oY (by omega)),E3,Nz,wq,zP,Gi,BM,b7 (by omega)]
   rfl)
  (by
   dsimp only[jv]
   rw[co _ _ (by omega)])
 obtain⟨x,E3,wq,Gi⟩:=IB (D:=D) (P:=V*d) (i:=n)
 have hP:V*d<4294967296 ^ (n+1):=by
  rw[dM];exact ya EB hd
 have EA:V % 4294967296 ^ n*d / 4294967296 ^ n=dg 4294967296 (V*d) n:=by
  rw[gS EB]
  unfold dg
  rw[gS]
  exact Nat.div_lt_of_lt_mul (by rw[←dM];exact hP)
 have hbor:(D % 4294967296 ^ (n+1)+V*d % 4294967296 ^ (n+1)) / 4294967296 ^ (n+1)=if Z<V*d then 1 else 0:=by
  rw[gS hD,gS hP,hDZ]
  split
  ·rw[Nat.add_div_right _ (cr hb),eV Ms]
  ·rw[mK,eV Ms]
 have ejn:i64.wrap ((j:Int)+(n:Int))=((j+n:Nat):Int):=by rw[b7 (by omega)];omega
 have hz:=@dgl U (j+n)
 rw[dz n (by omega)] at E3
 unfold ke
 rw[hl,aa]
 dsimp only
 rw[ejn,aM (by omega),aa,aM (by omega),aa,ct,vi (by omega),FZ,iD (n:=dg 4294967296 U (j+n)) (oY (by omega)),EA,E3,Nz,wq,zP,Gi,BM,KI hU hD,hbor]
 congr 2
 by_cases h:Z<V*d
 ·simp[h]
 ·simp[h]
theorem G_give {U V D n j:Nat}(Et:n≤16)(hj:j+n≤16)(EB:V<4294967296 ^ n)(hU:U<4294967296 ^ (n+1+j))(hD:D=(U / 4294967296 ^ j+V) % 4294967296 ^ (n+1)):
  ku (W V) (n:Int) (j:Int) (vN 4294967296 17 U)=some (vN 4294967296 17 (D*4294967296 ^ j+U % 4294967296 ^ j)):=by
 have hb:0<(4294967296:Nat):=by decide
 have hDlt:D<4294967296 ^ (n+1):=by rw[hD];exact eO _ (cr hb)
 generalize hZ:U / 4294967296 ^ j=Z at hD
 have dz:∀i,dg 4294967296 U (j+i)=dg 4294967296 Z i:=fun i=>by
  unfold dg;rw[←hZ,g9,←g8]
 have dD:∀i,i<n+1→dg 4294967296 (Z+V) i=dg 4294967296 D i:=fun i hi=>by rw[hD,nP hi]
 have hl:=rf (b:=jx (W V) (n:Int) (j:Int)) (s0:=((0:Int),(0:Int),vN 4294967296 17 U)) (fun i=>(((Z % 4294967296 ^ i+V % 4294967296 ^ i) / 4294967296 ^ i:Nat),(i:Int),vF 17 (yM j i U D))) n (((Z % 4294967296 ^ n+V % 4294967296 ^ n) / 4294967296 ^ n:Nat),vF 17 (yM j n U D))
  (by simp only[gj,np,mix0];rfl)
  (fun i hi=>by
   have hc:=oL (b:=4294967296) (A:=Z) (B:=V) (k:=i) hb
   obtain⟨h1,h2⟩:=py (b:=4294967296) (A:=Z) (B:=V) (k:=i) hb
   have hz:=@dgl Z i
   have hv:=@dgl V i
   have eij:i64.wrap ((j:Int)+(i:Int))=((j+i:Nat):Int):=by rw[b7 (by omega)];omega
   generalize (Z % 4294967296 ^ i+V % 4294967296 ^ i) / 4294967296 ^ i=c at h1 h2 hc ⊢
   generalize (Z % 4294967296 ^ (i+1)+V % 4294967296 ^ (i+1)) / 4294967296 ^ (i+1)=c' at h2 ⊢
   dsimp only[jx]
   rw[cE _ _ (by omega),eij,aM (by omega),aM (by omega),aa,aM (by omega),aa,ct,ct,gU (by omega),vi (by omega),FZ,dz,iD (n:=dg 4294967296 V i) (oY (by omega)),iD (n:=dg 4294967296 Z i) (oY (by omega)),←jX,iD (oY (by omega)),←jX,iD (oY (by omega)),←wV,xb,zP,h1,h2,dD i (by omega),BM,b7 (by omega)]
   rfl)
  (by
   dsimp only[jx]
   rw[co _ _ (by omega)])
 have hc:=oL (b:=4294967296) (A:=Z) (B:=V) (k:=n) hb
 obtain⟨h1,h2⟩:=py (b:=4294967296) (A:=Z) (B:=V) (k:=n) hb
 rw[mh EB,mK,dD n (by omega)] at h1
 have hz:=@dgl Z n
 have ejn:i64.wrap ((j:Int)+(n:Int))=((j+n:Nat):Int):=by rw[b7 (by omega)];omega
 unfold ku
 rw[hl,aa]
 dsimp only
 generalize (Z % 4294967296 ^ n+V % 4294967296 ^ n) / 4294967296 ^ n=c at h1 hc ⊢
 rw[ejn,aM (by omega),aM (by omega),aa,ct,vi (by omega),FZ,dz,zO (n:=c) (by omega),←jX,qx (dg 4294967296 Z n),zP,h1,BM,KI hU hDlt]
theorem LQ {U V n j:Nat}(hn:2≤n)(hj:j+n≤16)(hV:2147483648*4294967296 ^ (n - 1)≤V)(EB:V<4294967296 ^ n)(hU:U / 4294967296 ^ j<V*4294967296):
  (bnd (jb (W V) (n:Int) (j:Int) (vN 4294967296 17 U)) fun wY=>bnd (S:=Int×(Vector Int 17)) (bnd (ke (W V) (n:Int) (j:Int) wY (vN 4294967296 17 U)) fun I2=>cnd I2.1 (bnd (ku (W V) (n:Int) (j:Int) I2.2) fun u3=>some ((u64.wrap (wY - (1:Int)),u3))) (some ((wY,I2.2)))) fun y=>some y)=some (((U / 4294967296 ^ j / V:Nat):Int),vN 4294967296 17 (U / 4294967296 ^ j % V*4294967296 ^ j+U % 4294967296 ^ j))∧U / 4294967296 ^ j / V<4294967296:=by
 have hb:0<(4294967296:Nat):=by decide
 obtain⟨d,hdb,hg,CQ,CP⟩:=G_guess hn (by omega) hj hV EB hU
 have D6:0<V:=eD (vP (by decide) (cr hb)) hV
 have hp:0<4294967296 ^ j:=cr hb
 have Ms:U / 4294967296 ^ j<4294967296 ^ (n+1):=by
  rw[dM];exact eD hU (dZ _ (lj EB))
 have hUlt:U<4294967296 ^ (n+1+j):=by
  rw[g8];exact (mN hp).1 Ms
 have hVd:V*d<4294967296 ^ (n+1):=by
  rw[dM];exact ya EB hdb
 have hq:U / 4294967296 ^ j / V<4294967296:=by omega
 refine⟨?_,hq⟩
 have hm:=ln (U / 4294967296 ^ j) V
 have hml:=eO (U / 4294967296 ^ j) D6
 rw[hg,aa]
 by_cases b8:U / 4294967296 ^ j<V*d
 ·-- one too many
  have hdq:d=U / 4294967296 ^ j / V+1:=by
   rcases hE (U / 4294967296 ^ j / V) d with h|h
   ·omega
   ·have h1:V*d≤V*(U / 4294967296 ^ j / V):=zh _ h
    omega
  have ht:=QN (U:=U) (V:=V) (D:=U / 4294967296 ^ j+4294967296 ^ (n+1) - V*d) (n:=n) (j:=j) (d:=d) (by omega) hj EB hUlt hdb (by omega) (by rw[if_pos b8];omega)
  rw[ht,aF b8,aa,c7]
  dsimp only
  generalize hD:U / 4294967296 ^ j+4294967296 ^ (n+1) - V*d=D
  have hDlt:D<4294967296 ^ (n+1):=by omega
  have e1:(D*4294967296 ^ j+U % 4294967296 ^ j) / 4294967296 ^ j=D:=by
   rw[db,Nat.mul_add_div hp,eV (eO _ hp),mK]
  have e2:(D*4294967296 ^ j+U % 4294967296 ^ j) % 4294967296 ^ j=U % 4294967296 ^ j:=by
   rw[Nat.mul_add_mod_self_right,Nat.mod_mod]
  have e3:(D+V) % 4294967296 ^ (n+1)=U / 4294967296 ^ j % V:=by
   have:D+V=U / 4294967296 ^ j % V+4294967296 ^ (n+1):=by
    rw[hdq,ui,xu] at hD b8
    omega
   rw[this,Nat.add_mod_right,gS]
   exact cp (Nat.mod_le _ _) Ms
  have hgv:=G_give (U:=D*4294967296 ^ j+U % 4294967296 ^ j) (V:=V) (D:=U / 4294967296 ^ j % V) (n:=n) (j:=j) (by omega) hj EB (by
   rw[g8]
   have h1:(D+1)*4294967296 ^ j≤4294967296 ^ (n+1)*4294967296 ^ j:=dZ _ hDlt
   rw[cz,kG] at h1
   have:=eO U hp
   omega) (by rw[e1,e3])
  rw[hgv,aa,aa,e2,show ((d:Nat):Int) - 1=((U / 4294967296 ^ j / V:Nat):Int) from by omega,iD (oY (by omega))]
 ·have hdq:d=U / 4294967296 ^ j / V:=by
   have h1:d≤U / 4294967296 ^ j / V:=(pq D6).2 (by rw[db];omega)
   omega
  have ht:=QN (U:=U) (V:=V) (D:=U / 4294967296 ^ j % V) (n:=n) (j:=j) (d:=d) (by omega) hj EB hUlt hdb (cp (Nat.mod_le _ _) Ms) (by rw[if_neg b8,hdq];omega)
  rw[ht,bf b8,aa,aK,aa,hdq]
theorem NL {U V n k:Nat}(hn:2≤n)(hk:k+n≤17)(hV:2147483648*4294967296 ^ (n - 1)≤V)(EB:V<4294967296 ^ n)(hU:U / 4294967296 ^ k<V)(y:Int):
  bL (fg (n:Int) (W V,y)) ((k:Int) - 1,W 0,vN 4294967296 17 U)=some (W (U / V),vN 4294967296 17 (U % V)):=by
 have hb:0<(4294967296:Nat):=by decide
 have D6:0<V:=eD (vP (by decide) (cr hb)) hV
 have hl:=Oa (b:=fg (n:Int) (W V,y)) (s0:=((k:Int) - 1,W 0,vN 4294967296 17 U)) (fun i=>((i:Int) - 1,vN 4294967296 16 (U / V / 4294967296 ^ i*4294967296 ^ i),vN 4294967296 17 (U / 4294967296 ^ i % V*4294967296 ^ i+U % 4294967296 ^ i))) k (vN 4294967296 16 (U / V / 4294967296 ^ 0*4294967296 ^ 0),vN 4294967296 17 (U / 4294967296 ^ 0 % V*4294967296 ^ 0+U % 4294967296 ^ 0))
  (by
   have e1:U / V / 4294967296 ^ k=0:=by
    rw[g9,db,←g9,eV hU]
   have e2:U / 4294967296 ^ k % V*4294967296 ^ k+U % 4294967296 ^ k=U:=by
    rw[gS hU,db];exact ln _ _
   rw[e1,e2,ic])
  (fun i hi=>by
   have hp:0<4294967296 ^ i:=cr hb
   obtain⟨h1,h2⟩:=xM (b:=4294967296) (A:=U) (k:=i) (d:=V) hb D6
   have eR1:(U / 4294967296 ^ (i+1) % V*4294967296 ^ (i+1)+U % 4294967296 ^ (i+1)) / 4294967296 ^ i=U / 4294967296 ^ (i+1) % V*4294967296+dg 4294967296 U i:=by
    rw[ia,dM,←fL,Nat.mul_right_comm,qx (U % _),←wV,db (4294967296 ^ i) (dg _ _ _),←cz,db (_+_) (4294967296 ^ i),Nat.mul_add_div hp,eV (eO _ hp),mK]
   have eR2:(U / 4294967296 ^ (i+1) % V*4294967296 ^ (i+1)+U % 4294967296 ^ (i+1)) % 4294967296 ^ i=U % 4294967296 ^ i:=by
    rw[ia,dM,←fL,Nat.mul_right_comm,qx (U % _),←wV,db (4294967296 ^ i) (dg _ _ _),←cz,Nat.mul_add_mod_self_right,Nat.mod_mod]
   have b8:(U / 4294967296 ^ (i+1) % V*4294967296 ^ (i+1)+U % 4294967296 ^ (i+1)) / 4294967296 ^ i<V*4294967296:=by
    rw[eR1]
    have h3:=eO (U / 4294967296 ^ (i+1)) D6
    have h4:(U / 4294967296 ^ (i+1) % V+1)*4294967296≤V*4294967296:=dZ _ h3
    rw[cz,kG] at h4
    exact eD (Dq dgl _) h4
   obtain⟨hq,hqb⟩:=LQ (j:=i) hn (by omega) hV EB b8
   rw[eR1,h1,h2,eR2] at hq
   rw[eR1,h1] at hqb
   have ei:((i+1:Nat):Int) - 1=(i:Int):=by omega
   dsimp only[fg]
   rw[ei,cE _ _ (by omega)]
   -- the digit
   revert hq
   generalize vN 4294967296 17 (U / 4294967296 ^ (i+1) % V*4294967296 ^ (i+1)+U % 4294967296 ^ (i+1))=uv
   intro hq
   obtain⟨d,e1,hq⟩:=ae hq
   rw[nQ] at hq
   rw[e1,aa,hq,aa]
   dsimp only
   rw[aM (by omega),ct,zO hqb,Ko hb (by omega),b7 (by omega)])
  (by
   dsimp only[fg]
   rw[co _ _ (by omega)])
 rw[hl]
 simp only[gj,nl,xu,np,mK]
theorem build17 {A s:Nat}(hA:A<LIM)(hs:s<32):(vOf 17 (lCp (Vector.replicate 17 (0:Int)).toList 0 (List.take 17 (List.take 16 (List.drop 0 (W (A*2 ^ s)).toList))))).set! ((16:Int)).toNat ((A % 4294967296 ^ 16*2 ^ s / 4294967296 ^ 16:Nat):Int)=vN 4294967296 17 (A*2 ^ s):=by
 have hb:0<(4294967296:Nat):=by decide
 have MY:2 ^ s≤2 ^ 31:=i9 (by decide) (by omega)
 have hs3:0<2 ^ s:=cr (by decide)
 have hc:A % 4294967296 ^ 16*2 ^ s / 4294967296 ^ 16<2 ^ s:=z9 hb hs3
 have h16:(W (A*2 ^ s)).toList.length=16:=qu
 have hl:lCp (Vector.replicate 17 (0:Int)).toList 0 (List.take 17 (List.take 16 (List.drop 0 (W (A*2 ^ s)).toList)))=(W (A*2 ^ s)).toList++[0]:=by
  rw[rB,iP (i:=17) (by simp),iP (by simp)]
  unfold lCp
  rw[h16,Dk,mL]
  rfl
 have O5:((W (A*2 ^ s)).toList++[(0:Int)]).length=17:=by rw[c8,h16];rfl
 rw[hl]
 apply og
 intro j hj
 rw[pI hj,jT hj]
 by_cases h:j=16
 ·subst h
  rw[if_pos (by rfl)]
  have KZ:A<4294967296 ^ 16:=hA
  rw[gS KZ] at hc ⊢
  unfold dg
  rw[gS (by omega)]
 ·rw[if_neg (by simpa using h),←yy (vOf 17 _) hj,xG O5,cO _ j (by rw[O5];omega),List.getElem_append_left (by rw[h16];omega)]
  have e2:=jT (b:=4294967296) (A:=A*2 ^ s) (j:=j) (n:=16) (by omega)
  rw[←yy _ (by omega),cO _ j (by rw[h16];omega)] at e2
  exact e2
theorem DN {A B:Nat}(hA:A<LIM)(hB:B<LIM)(Gw:0<B):f8 (W A) (W B)=some (W (A / B),W (A % B)):=by
 have hb:0<(4294967296:Nat):=by decide
 obtain⟨n,hn,hn1,E4,qD⟩:=AH hB
 obtain⟨m,hm,hm1,O4,hm3⟩:=AH hA
 have hn0:0<n:=by
  rcases rF n with h|h
  ·subst h;simp at E4;omega
  ·exact h
 unfold f8
 rw[hn1,aa,hm1,aa,BW hA hB,aa]
 by_cases b8:A<B
 ·rw[cE _ _ (by unfold FT;rw[if_pos b8];omega),aa,z16,eV b8,gS b8]
 ·rw[co _ _ (by unfold FT;rw[if_neg b8];split <;> omega)]
  by_cases h1:n=1
  ·subst h1
   have hBb:B<4294967296:=by simpa using E4
   have e0:(W B)[((0:Int)).toNat]! =(B:Int):=by
    have:(W B)[((0:Int)).toNat]! =(dg 4294967296 B 0:Int):=gU (by decide)
    rw[this]
    unfold dg
    rw[gj,nl,gS hBb]
   have hr:A % B<4294967296:=Nat.lt_trans (eO _ Gw) hBb
   rw[cE _ _ (by omega),e0,G_short hA Gw hBb,aa,aa]
   have:=Qr (u:=A % B) (by omega)
   rw[gS hr,eV hr] at this
   dsimp only
   rw[←this]
   rfl
  ·have h2:2≤n:=by omega
   have hk:n - 1<16:=by omega
   have hBd:B / 4294967296 ^ (n - 1)=dg 4294967296 B (n - 1):=by
    have:=c6 (b:=4294967296) (A:=B) (k:=n - 1)
    rw[show n - 1+1=n from by omega,eV E4,ic,bJ] at this
    exact this
   obtain⟨l,hl1,Gp,hl3,hl4⟩:=G_Lead (x:=dg 4294967296 B (n - 1)) dgl
   have hp:0<4294967296 ^ (n - 1):=cr hb
   have CQ:1≤dg 4294967296 B (n - 1):=by rw[←hBd];exact (pq hp).2 (by rw[kG];exact qD hn0)
   have hl0:0<l:=by
    rcases rF l with h|h
    ·subst h;simp at hl3;omega
    ·exact h
   have hl5:=hl4 hl0
   have hs:32 - l<32:=by omega
   have epow:2 ^ l*2 ^ (32 - l)=4294967296:=by rw[←g8,show l+(32 - l)=32 from by omega]
   have epow2:2 ^ (l - 1)*2 ^ (32 - l)=2147483648:=by rw[←g8,show l - 1+(32 - l)=31 from by omega]
   have hS:0<2 ^ (32 - l):=cr (by decide)
   have epn:(4294967296:Nat) ^ n=4294967296 ^ (n - 1)*4294967296:=by rw[←dM];congr 1;omega
   have hVlo:2147483648*4294967296 ^ (n - 1)≤B*2 ^ (32 - l):=by
    have h3:2 ^ (l - 1)*4294967296 ^ (n - 1)≤B:=(pq hp).1 (by rw[hBd];exact hl5)
    calc 2147483648*4294967296 ^ (n - 1)=2 ^ (l - 1)*4294967296 ^ (n - 1)*2 ^ (32 - l):=by rw[←epow2,Nat.mul_right_comm]
     _≤B*2 ^ (32 - l):=dZ _ h3
   have hVhi:B*2 ^ (32 - l)<4294967296 ^ n:=by
    have h3:B<2 ^ l*4294967296 ^ (n - 1):=(mN hp).1 (by rw[hBd];exact hl3)
    calc B*2 ^ (32 - l)<2 ^ l*4294967296 ^ (n - 1)*2 ^ (32 - l):=Nat.mul_lt_mul_of_pos_right h3 hS
     _=4294967296 ^ n:=by rw[Nat.mul_right_comm,epow,db,←epn]
   have D6:0<B*2 ^ (32 - l):=vP Gw hS
   have hmn:n≤m:=by
    rcases hE m n with h|h
    ·have h3:4294967296 ^ m≤4294967296 ^ (n - 1):=i9 hb (by omega)
     have h4:=qD hn0
     omega
    ·exact h
   have hUk:A*2 ^ (32 - l) / 4294967296 ^ (m - n+1)<B*2 ^ (32 - l):=by
    rw[mN (cr hb)]
    have h3:A<B*4294967296 ^ (m - n+1):=by
     have h4:4294967296 ^ (n - 1)*4294967296 ^ (m - n+1)≤B*4294967296 ^ (m - n+1):=dZ _ (qD hn0)
     rw[←g8,show n - 1+(m - n+1)=m from by omega] at h4
     omega
    calc A*2 ^ (32 - l)<B*4294967296 ^ (m - n+1)*2 ^ (32 - l):=Nat.mul_lt_mul_of_pos_right h3 hS
     _=B*2 ^ (32 - l)*4294967296 ^ (m - n+1):=Nat.mul_right_comm _ _ _
   have eidx:i64.wrap ((m:Int) - (n:Int))=((m - n+1:Nat):Int) - 1:=by rw[b7 (by omega)];omega
   rw[co _ _ (by omega),show i64.wrap ((n:Int) - 1)=((n - 1:Nat):Int) from by rw[b7 (by omega)];omega,aM (by omega),ct,gU hk,hl1,aa,G_up hs,aa,G_up hs,aa,aa]
   dsimp only
   rw[build17 hA hs,eidx,r16,NL h2 (by omega) hVlo hVhi hUk,aa]
   dsimp only
   have hmod:A*2 ^ (32 - l) % (B*2 ^ (32 - l))<4294967296 ^ 16:=eD (eO _ D6) (dP (lj hVhi) (i9 hb hn))
   rw[vsub 16 0 (by omega),gj,nl,G_down hmod hs,aa,Nat.mul_mod_mul_right,Nat.mul_div_cancel _ hS,Nat.mul_div_mul_right _ _ hS]
theorem yX(x y:Nat):Nat.gcd x y=Nat.gcd y (x % y):=by
 rw[Nat.gcd_comm x y,Nat.gcd_rec,Nat.gcd_comm]
theorem QM(x y:Nat):bL jf ((x:Int),(y:Int))=some ((Nat.gcd x y:Nat):Int):=by
 induction y using Nat.strongRecOn generalizing x with
 |_ y ih=>
  by_cases hy:y=0
  ·subst hy
   rw[Nat.gcd_zero_right]
   exact lS (by dsimp only[jf];rw[co _ _ (by simp)])
  ·have h1:jf ((x:Int),(y:Int))=some (.inl ((y:Int),((x % y:Nat):Int))):=by
    dsimp only[jf]
    rw[cE _ _ (by omega),aM (by omega),←sO]
   rw[nW h1,ih (x % y) (eO _ (by omega)) y,←yX]
theorem vl {A:Nat}(hA:A<LIM):∃n:Nat,fb (W A)=some (n:Int)∧(n≤2↔A<18446744073709551616):=by
 obtain⟨n,hn,h1,h2⟩:=AH hA
 have e:(4294967296:Nat) ^ 2=18446744073709551616:=by decide
 refine⟨n,h1,fun h=>?_,fun h=>I9 (by decide) h2 (by rw[e];exact h)⟩
 have h3:4294967296 ^ n≤4294967296 ^ 2:=i9 (by decide) h
 rw[e] at h3
 exact eD h2.1 h3
theorem G_Abs {a:Int}(ha:a.natAbs<LIM):pT (enc a)=some (enc (a.natAbs:Int)):=by
 unfold pT
 rw[uw,bh ha,aa,cj,aK,mg ha,jR ha,aa]
 rfl
theorem wH {a c:Int}(ha:a.natAbs<LIM)(hc:c.natAbs<LIM)(h1:a.natAbs<18446744073709551616)(h2:c.natAbs<18446744073709551616)(p:av→av→Option av):
  c9 p (enc a) (enc c)=some (enc (Nat.gcd a.natAbs c.natAbs:Nat)):=by
 obtain⟨n,hn1,E4⟩:=vl ha
 obtain⟨m,hm1,O4⟩:=vl hc
 have hg:Nat.gcd a.natAbs c.natAbs<18446744073709551616:=by
  rcases rF a.natAbs with h|h
  ·rw[h,Nat.gcd_zero_left];exact h2
  ·exact cp (vT _ h) h1
 have hgL:Nat.gcd a.natAbs c.natAbs<LIM:=eD hg (by decide)
 unfold c9
 rw[uu,bh ha,bh hc,aa]
 simp only[bc,cj,aK,mg ha,mg hc]
 rw[hn1,aa,cE _ _ (by have:=E4.2 h1;omega),hm1,aa,aa,cE _ _ (by have:=O4.2 h2;omega),N9 h1,N9 h2,aa,aa,QM,aa,zP,xb,zO (by omega),Qr hg,jR hgL,aa]
 rfl
theorem IR {a:Int}(ha:a.natAbs<LIM)(p:av→av→Option av):c9 p (enc a) (enc 0)=some (enc (Nat.gcd a.natAbs 0:Nat)):=by
 by_cases h1:a.natAbs<18446744073709551616
 ·exact wH ha (by decide) h1 (by decide) p
 ·obtain⟨n,hn1,E4⟩:=vl ha
  have hc:(0:Int).natAbs<LIM:=by decide
  unfold c9
  rw[uu,bh ha,bh hc,aa]
  simp only[bc,cj,aK,mg ha,mg hc]
  rw[hn1,aa,co _ _ (by have:=mt E4.1 h1;omega),aa,aK,co _ _ (by rw[z16];exact fun h=>h rfl),G_Abs ha,aa,Nat.gcd_zero_right]
theorem IS {a c:Int}(ha:a.natAbs<LIM)(hc:c.natAbs<LIM)(h0:c.natAbs≠0)(h1:¬(a.natAbs<18446744073709551616∧c.natAbs<18446744073709551616))(p:av→av→Option av):
  c9 p (enc a) (enc c)=p (enc (c.natAbs:Int)) (enc ((a.natAbs % c.natAbs:Nat):Int)):=by
 obtain⟨n,hn1,E4⟩:=vl ha
 obtain⟨m,hm1,O4⟩:=vl hc
 have hr:a.natAbs % c.natAbs<LIM:=cp (Nat.mod_le _ _) ha
 unfold c9
 rw[uu,bh ha,bh hc,aa]
 simp only[bc,cj,aK,mg ha,mg hc]
 rw[hn1,aa,hm1,aa]
 have H5:(cnd (decide ((n:Int)≤(2:Int))) (some (decide ((m:Int)≤(2:Int)))) (some (false)))=some false:=by
  rw[eg]
  split
  ·rename_i h
   congr 1
   have h2:=E4.1 (by omega)
   exact bf fun h3=>h1 ⟨h2,O4.1 (by omega)⟩
  ·rfl
 rw[H5,aa,aK,z16,cE _ _ (by rw[Dz hc wF];exact h0),DN ha hc (by omega),aa,jR hc,aa]
 dsimp only
 rw[jR hr,aa,nQ]
 rfl
theorem Mp {x y:Nat}(hy:0<y)(hxy:y≤x):2*(y*(x % y))<x*y:=by
 have h1:=ln x y
 have h2:=eO x hy
 have h3:0<x / y:=Nat.div_pos hxy hy
 have h4:y≤y*(x / y):=Fg _ h3
 have h5:2*(x % y)<x:=by omega
 have h6:2*(x % y)*y<x*y:=Nat.mul_lt_mul_of_pos_right h5 hy
 calc 2*(y*(x % y))=2*(x % y)*y:=by rw[db y,fL]
  _<x*y:=h6
theorem Lq(n:Nat):∀{a c:Int},a.natAbs<LIM→c.natAbs<LIM→c.natAbs≤a.natAbs→a.natAbs*c.natAbs<18446744073709551616*2 ^ n→ix (n+2) (enc a) (enc c)=some (enc (Nat.gcd a.natAbs c.natAbs:Nat)):=by
 induction n with
 |zero=>
  intro a c ha hc hle hp
  show c9 _ _ _=_
  by_cases h0:c.natAbs=0
  ·obtain rfl:c=0:=by omega
   exact IR ha _
  ·have h1:a.natAbs≤a.natAbs*c.natAbs:=Fg _ (by omega)
   exact wH ha hc (by omega) (by omega) _
 |succ n ih=>
  intro a c ha hc hle hp
  show c9 (ix (n+2)) _ _=_
  by_cases h0:c.natAbs=0
  ·obtain rfl:c=0:=by omega
   exact IR ha _
  ·by_cases h1:a.natAbs<18446744073709551616∧c.natAbs<18446744073709551616
   ·exact wH ha hc h1.1 h1.2 _
   ·have h2:=Mp (yc h0) hle
    have h3:=eO a.natAbs (yc h0)
    rw[IS ha hc h0 h1,ih (by rw[dQ];exact hc) (by rw[dQ];omega) (by rw[dQ,dQ];omega) (by rw[dQ,dQ];rw[dM] at hp;omega),dQ,dQ,←yX]
theorem Lw {a c:Int}(ha:a.natAbs<LIM)(hc:c.natAbs<LIM):n0 (enc a) (enc c)=some (enc (Nat.gcd a.natAbs c.natAbs:Nat)):=by
 have e:LIM*LIM≤18446744073709551616*2 ^ 960:=by decide +kernel
 have mono:∀(n:Nat) {x y r:av},ix n x y=some r→∀m,n≤m→ix m x y=some r:=by
  have step:∀{p q:av→av→Option av},(∀{x y r},p x y=some r→q x y=some r)→∀{x y r},c9 p x y=some r→c9 q x y=some r:=by
   intro p q hpq x y r h
   unfold c9 at h ⊢
   obtain⟨b,h1,h⟩:=ae h
   rw[h1,aa]
   cases b with
   |false=>exact h
   |true=>
    rw[cj,aK] at h ⊢
    obtain⟨b2,h2,h⟩:=ae h
    rw[h2,aa]
    cases b2 with
    |true=>exact h
    |false=>
     rw[aK] at h ⊢
     cases hd:decide (¬(y.vW=#v[(0:Int),0,0,0,0,0,0,0,0,0,0,0,0,0,0,0])) with
     |false=>rw[hd] at h;exact h
     |true=>
      rw[hd,c7] at h
      rw[c7]
      obtain⟨q1,h3,h⟩:=ae h
      rw[h3,aa]
      obtain⟨q2,h4,h⟩:=ae h
      rw[h4,aa]
      obtain⟨q3,h5,h⟩:=ae h
      rw[h5,aa]
      obtain⟨q4,h6,h⟩:=ae h
      rw[hpq h6,aa]
      exact h
  intro n
  induction n with
  |zero=>intro x y r h;cases h
  |succ n ih=>
   intro x y r h m hm
   obtain⟨m,rfl⟩:∃k,m=k+1:=⟨m - 1,by omega⟩
   exact step (fun h=>ih h m (by omega)) h
 unfold n0
 by_cases hle:c.natAbs≤a.natAbs
 ·refine mono 962 (Lq 960 ha hc hle ?_) 1000 (by decide)
  exact eD (ya ha hc) e
 ·by_cases h1:a.natAbs<18446744073709551616∧c.natAbs<18446744073709551616
  ·exact wH ha hc h1.1 h1.2 _
  ·refine mono 963 ?_ 1000 (by decide)
   show c9 (ix 962) _ _=_
   rw[IS ha hc (by omega) h1,gS (by omega),Lq 960 (by rw[dQ];exact hc) (by rw[dQ];exact ha) (by rw[dQ,dQ];omega) (by rw[dQ,dQ];exact eD (ya hc ha) e),dQ,dQ,Nat.gcd_comm]
theorem jl {x y:Int}(hy:y≠0)(q r:Int)(h:q*y+r=x)(hr:0≤r∧r<y∨y<r∧r≤0):q=x.fdiv y∧r=x.fmod y:=by
 have h2:x.fdiv y*y+x.fmod y=x:=Int.fdiv_mul_add_fmod x y
 have hf:0≤x.fmod y∧x.fmod y<y∨y<x.fmod y∧x.fmod y≤0:=by
  rcases Int.lt_or_gt_of_ne hy with h|h
  ·right
   have h3:=Int.neg_fmod_neg x y
   have h4:=sM (-x) (b:=-y) (by omega)
   have h5:=ug (-x) (b:=-y) (by omega)
   omega
  ·left;exact⟨sM _ h,ug _ h⟩
 have hq:q=x.fdiv y:=by
  have h3:(q - x.fdiv y)*y=x.fmod y - r:=by rw[Int.sub_mul];omega
  rcases yb (q - x.fdiv y) 0 with h4|h4|h4
  ·exfalso
   rcases hr with hr|hr <;> rcases hf with hf|hf
   ·have:(q - x.fdiv y)*y≤(-1)*y:=GM (by omega) (by omega)
    omega
   ·omega
   ·omega
   ·have:(-1)*y≤(q - x.fdiv y)*y:=Int.mul_le_mul_of_nonpos_right (by omega) (by omega)
    omega
  ·omega
  ·exfalso
   rcases hr with hr|hr <;> rcases hf with hf|hf
   ·have:1*y≤(q - x.fdiv y)*y:=GM (by omega) (by omega)
    omega
   ·omega
   ·omega
   ·have:(q - x.fdiv y)*y≤1*y:=Int.mul_le_mul_of_nonpos_right (by omega) (by omega)
    omega
 subst hq
 exact⟨rfl,by omega⟩
theorem Hv {x y:Int}(hy:y≠0):x.tmod y<y.natAbs∧-(y.natAbs:Int)<x.tmod y:=by
 have h1:=Int.natAbs_tmod x y
 have h2:=eO x.natAbs (show 0<y.natAbs by omega)
 rw[←h1] at h2
 omega
theorem zR {x y:Int}(hy:y≠0):(cnd (decide (x.tmod y≠0)) (some (!((decide (x.tmod y<0)) == (decide (y<0))))) (some false))=some (decide (x.fdiv y≠x.tdiv y))∧(x.fdiv y≠x.tdiv y→x.fdiv y=x.tdiv y - 1∧x.fmod y=x.tmod y+y)∧(x.fdiv y=x.tdiv y→x.fmod y=x.tmod y):=by
 have e1:x.tdiv y*y+x.tmod y=x:=Int.tdiv_mul_add_tmod x y
 have e2:x.fdiv y*y+x.fmod y=x:=Int.fdiv_mul_add_fmod x y
 have hm:=Hv (x:=x) hy
 rw[eg]
 by_cases h1:x.tmod y=0
 ·obtain⟨h2,h3⟩:=jl (x:=x) hy (x.tdiv y) (x.tmod y) e1 (by omega)
  rw[if_neg (by simp[h1])]
  exact⟨by simp[h2],fun h=>absurd h2.symm h,fun _=>h3.symm⟩
 ·rw[if_pos h1]
  by_cases h2:(x.tmod y<0)↔(y<0)
  ·obtain⟨h3,h4⟩:=jl (x:=x) hy (x.tdiv y) (x.tmod y) e1 (by omega)
   refine⟨?_,fun h=>absurd h3.symm h,fun _=>h4.symm⟩
   rw[im.2 h2,vZ]
   simp[h3]
  ·obtain⟨h3,h4⟩:=jl (x:=x) hy (x.tdiv y - 1) (x.tmod y+y) (by rw[Int.sub_mul];omega) (by omega)
   have h5:(decide (x.tmod y<0) == decide (y<0))=false:=Dp.2 fun h=>h2 (im.1 h)
   have h6:x.fdiv y≠x.tdiv y:=by omega
   refine⟨?_,fun _=>⟨h3.symm,h4.symm⟩,fun h=>absurd h h6⟩
   rw[h5]
   simp[h6]
theorem Hw {x y:Int}(hx:-9223372036854775807≤x∧x≤9223372036854775807):-9223372036854775807≤x.tdiv y∧x.tdiv y≤9223372036854775807:=by
 have h1:(x.tdiv y).natAbs=x.natAbs / y.natAbs:=Int.natAbs_tdiv ..
 have h2:x.natAbs / y.natAbs≤x.natAbs:=pw _ _
 omega
theorem PV {x y:Int}(hx:-9223372036854775807≤x∧x≤9223372036854775807)(KP:-9223372036854775807≤y∧y≤9223372036854775807)(hy:y≠0):
  (bnd (S:=Int×Int) (bnd (S:=Bool) (cnd (decide ((Int.tmod x y)≠(0:Int))) (some (!((decide ((Int.tmod x y)<(0:Int))) == (decide (y<(0:Int)))))) (some (false))) fun m6=>cnd m6 (bnd (some (i64.wrap ((i64.wrap (Int.tdiv x y)) - (1:Int)))) fun uP=>bnd (some (i64.wrap ((Int.tmod x y)+y))) fun wX=>some ((uP,wX))) (some ((i64.wrap (Int.tdiv x y),Int.tmod x y)))) fun (kH,qy)=>bnd (g5 kH) fun Lz=>bnd (g5 qy) fun M9=>some ((.inr (Lz,M9)):Unit⊕(av×av)))=some (.inr (enc (x.fdiv y),enc (x.fmod y))):=by
 obtain⟨h1,h2,h3⟩:=zR (x:=x) hy
 have hq:=Hw (y:=y) hx
 have hm:=Hv (x:=x) hy
 rw[h1,aa]
 by_cases h:x.fdiv y=x.tdiv y
 ·have hf:=h3 h
  rw[co _ _ (fun hh=>hh h),aa,Ng (by omega)]
  dsimp only
  rw[Ki (by omega) (by omega),aa,Ki (by omega) (by omega),aa,h,hf]
 ·obtain⟨h4,h5⟩:=h2 h
  have hf:x.fmod y≤9223372036854775807∧-9223372036854775807≤x.fmod y:=by
   have:-(y.natAbs:Int)≤x.fmod y∧x.fmod y≤y.natAbs:=by
    rcases Int.lt_or_gt_of_ne hy with hl|hl
    ·have h7:=sM (-x) (b:=-y) (by omega)
     have h8:=ug (-x) (b:=-y) (by omega)
     have h9:=Int.neg_fmod_neg x y
     omega
    ·have h7:=sM x (b:=y) (by omega)
     have h8:=ug x (b:=y) (by omega)
     omega
   omega
  rw[cE _ _ h,Ng (z:=Int.tdiv x y) (by omega),aa,aa,Ng (by omega),Ng (by omega),←h4,←h5]
  dsimp only
  rw[aa]
  dsimp only
  rw[Ki (by omega) (by omega),aa,Ki (by omega) (by omega),aa]
theorem Ft {a c:Int}(ha:a.natAbs<LIM)(hc:c.natAbs<LIM)(h0:c≠0):jc (enc a) (enc c)=some (enc (a.fdiv c),enc (a.fmod c)):=by
 have Ek:∀r:Unit⊕(av×av),r=.inl ()→(match r with| .inl ()=>bnd (f8 (enc a).vW (enc c).vW) fun yl=>bnd (bV (!((enc a).vNeg == (enc c).vNeg)) yl.1) fun Bk=>bnd (S:=(Vector Int 16)×av) (bnd (S:=Bool) (cnd (decide (¬(yl.2=#v[(0:Int),0,0,0,0,0,0,0,0,0,0,0,0,0,0,0]))) (some (!((enc a).vNeg == (enc c).vNeg))) (some (false))) fun Bf=>cnd Bf (bnd (g5 (1:Int)) fun x44=>bnd (nY Bk x44) fun x46=>bnd (iv (enc c).vW yl.2) fun x48=>some ((x48,x46))) (some ((yl.2,Bk)))) fun (Bg,zq)=>bnd (bV (enc c).vNeg Bg) fun x51=>some (zq,x51)| .inr r=>some r)=some (enc (a.fdiv c),enc (a.fmod c)):=by
  rintro r rfl
  dsimp only
  have hr:=eO a.natAbs (show 0<c.natAbs by omega)
  have hq:a.natAbs / c.natAbs≤a.natAbs:=pw _ _
  have hdm:=ln a.natAbs c.natAbs
  rw[mg ha,mg hc,fq ha,fq hc,DN ha hc (by omega),aa]
  dsimp only
  rw[jR (cp hq ha),aa,z16]
  simp only[Dz (Nat.lt_trans hr hc) wF]
  have Ez:(c.natAbs:Int)*((a.natAbs / c.natAbs:Nat):Int)+((a.natAbs % c.natAbs:Nat):Int)=(a.natAbs:Int):=by rw[←jZ,←jX,hdm]
  generalize hQ:a.natAbs / c.natAbs=Q at Ez hq ⊢
  generalize hR:a.natAbs % c.natAbs=R at Ez hr ⊢
  by_cases hs:decide (a<0)=decide (c<0)
  ·have HZ:=im.1 hs
   rw[hs,vZ,cj]
   rw[show (cnd (decide (¬(R=0))) (some false) (some false))=some false from by rw[P9],aa,aK,aa]
   dsimp only[cond_false]
   rw[jR (Nat.lt_trans hr hc),aa]
   obtain⟨h1,h2⟩:=jl (x:=a) h0 (Q:Int) (bif decide (c<0) then -(R:Int) else (R:Int)) (by
    by_cases EA:c<0
    ·rw[aF EA,fx]
     have e:c=-(c.natAbs:Int):=by omega
     have e2:a=-(a.natAbs:Int):=by omega
     rw[e2,←Ez]
     conv=>lhs;rw[e]
     rw[rJ,jW];omega
    ·rw[bf EA,cond_false]
     have e:c=(c.natAbs:Int):=by omega
     have e2:a=(a.natAbs:Int):=by omega
     rw[e2,←Ez]
     conv=>lhs;rw[e]
     rw[jW]) (by
    by_cases EA:c<0
    ·rw[aF EA,fx];omega
    ·rw[bf EA,cond_false];omega)
   rw[←h1,←h2]
  ·have HZ:¬((a<0)↔(c<0)):=fun h=>hs (im.2 h)
   have hb:(decide (a<0) == decide (c<0))=false:=Dp.2 hs
   rw[hb,lm,fx]
   have hmul:-(Q:Int)*c=(if c<0 then 1 else -1)*((c.natAbs:Int)*(Q:Int)):=by
    split
    ·have e:c=-(c.natAbs:Int):=by omega
     conv=>lhs;rw[e]
     rw[Int.neg_mul_neg,sL,jW]
    ·have e:c=(c.natAbs:Int):=by omega
     conv=>lhs;rw[e]
     rw[Int.neg_mul,Int.neg_mul,sL,jW]
   by_cases hR0:R=0
   ·rw[co _ _ (by simpa using hR0),aa,aK,aa]
    dsimp only
    rw[jR (Nat.lt_trans hr hc),aa]
    obtain⟨h1,h2⟩:=jl (x:=a) h0 (-(Q:Int)) 0 (by rw[hmul];subst hR0;split <;> omega) (by omega)
    rw[←h1,←h2]
    subst hR0
    cases decide (c<0) <;> rfl
   ·have hQ1:((-(Q:Int)).natAbs)<LIM:=by rw[Int.natAbs_neg,dQ];exact cp hq ha
    rw[cE _ _ hR0,aa,c7,Ki (by decide) (by decide),aa,G_Sub hQ1 (by decide),aa,G0 (lj hr),aa,aa]
    dsimp only
    rw[jR (cp (Nat.sub_le _ _) hc),aa]
    obtain⟨h1,h2⟩:=jl (x:=a) h0 (-(Q:Int) - 1) (bif decide (c<0) then -((c.natAbs - R:Nat):Int) else ((c.natAbs - R:Nat):Int)) (by
     rw[Int.sub_mul,hmul]
     by_cases EA:c<0
     ·rw[aF EA,fx,if_pos EA];omega
     ·rw[bf EA,cond_false,if_neg EA];omega) (by
     by_cases EA:c<0
     ·rw[aF EA,fx];omega
     ·rw[bf EA,cond_false];omega)
    rw[←h1,←h2]
 unfold jc
 rw[uu,bh ha,bh hc,aa,bc,cj,aK,wh hc,aa,aa,co _ _ (by rw[Ay];exact h0),Lu ha,aa]
 have O2:∀z:Int,(bnd (S:=Bool) (cnd (if -9223372036854775808≤z∧z<9223372036854775808 then (z,true) else (0,false):Int×Bool).2 (some (decide ((if -9223372036854775808≤z∧z<9223372036854775808 then (z,true) else (0,false):Int×Bool).1≠(-9223372036854775808:Int)))) (some (false))) fun a=>some a)=some (decide (-9223372036854775807≤z∧z≤9223372036854775807)):=by
  intro z
  rw[nQ]
  split
  ·rw[c7];congr 1;exact im.2 (by omega)
  ·rw[aK];congr 1;exact (bf (by omega)).symm
 have e1:=O2 a
 have e2:=O2 c
 rw[nQ] at e1 e2
 rw[e1,aa,eg]
 split
 ·rename_i h1
  rw[Lu hc,aa,e2,aa,eg]
  split
  ·rename_i h2
   rw[if_pos (by omega),if_pos (by omega),aM h0,aM h0,PV h1 h2 h0,aa]
  ·rw[aa];exact Ek _ rfl
 ·rw[aa];exact Ek _ rfl
theorem Fu {a c:Int}(ha:a.natAbs<LIM)(hc:c.natAbs<LIM)(h0:c≠0):iw (enc a) (enc c)=some (enc (a.fdiv c)):=by
 unfold iw
 rw[Ft ha hc h0,aa]
end
end Go.Proofs.YtaedcknhkjpmlaaGreat
