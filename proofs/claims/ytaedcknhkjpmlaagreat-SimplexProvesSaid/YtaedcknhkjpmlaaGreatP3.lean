/-
  Lemmas, part 3. Conditions: none.
-/
import Derived.Test.YtaedcknhkjpmlaaGreatP2
set_option linter.all false
set_option maxRecDepth 100000
set_option maxHeartbeats 4000000
namespace Go.Proofs.YtaedcknhkjpmlaaGreat
open Go.RowKit Go.IntKind Tryz
noncomputable section
def iO(aJ:ap)(aO:ap)(x8:Int)(bq:Int):Int×Int×(Vector Int 32)→Option ((Int×Int×(Vector Int 32))⊕(Int×(Vector Int 32))):=fun (GX,p8,Cf)=>cnd (decide (p8<x8)) (gd (0≤bq∧bq<16) (gd (0≤p8∧p8<16) (gd (0≤i64.wrap (bq+p8)∧i64.wrap (bq+p8)<32) (bnd (some (u64.wrap (GX+(u64.wrap ((u64.wrap ((u64.wrap ((aJ.vW)[(bq).toNat]!))*(u64.wrap ((aO.vW)[(p8).toNat]!))))+(u64.wrap ((Cf)[(i64.wrap (bq+p8)).toNat]!))))))) fun qx=>gd (0≤i64.wrap (bq+p8)∧i64.wrap (bq+p8)<32) (bnd (some ((Cf).set! (i64.wrap (bq+p8)).toNat (u32.wrap (qx)))) fun Ck=>some (.inl (l5 .u64 qx (32:Int),i64.wrap (p8+(1:Int)),Ck))))))) (some (.inr (GX,Cf)))
def iP(aJ:ap)(aO:ap)(x6:Int)(x8:Int):Int×(Vector Int 32)→Option ((Int×(Vector Int 32))⊕((Vector Int 32))):=fun (bq,ml)=>cnd (decide (bq<x6)) (bnd (bt (iO aJ aO x8 bq) ((0:Int),(0:Int),ml)) fun (xl,xj)=>gd (0≤i64.wrap (bq+x8)∧i64.wrap (bq+x8)<32) (bnd (some ((xj).set! (i64.wrap (bq+x8)).toNat (u32.wrap (xl)))) fun As=>some (.inl (i64.wrap (bq+(1:Int)),As)))) (some (.inr ml))
def jc(aJ:ap)(aO:ap):Option ap:=bnd (cp [aJ,aO]) fun x1=>cnd (!x1) (bnd (ey) fun x4=>some x4) (bnd (eF aJ.vW) fun x6=>bnd (eF aO.vW) fun x8=>bnd (bt (iP aJ aO x6 x8) ((0:Int),(Vector.replicate 32 (0:Int)))) fun eH=>cnd (decide (¬(vOf 16 (List.take 16 (List.drop 16 (eH).toList))=#v[(0:Int),0,0,0,0,0,0,0,0,0,0,0,0,0,0,0]))) (bnd (ey) fun G9=>some G9) (bnd (bF (!(aJ.vNeg == aO.vNeg)) (vOf 16 (List.take 16 (List.drop 0 (eH).toList)))) fun K7=>some K7))
theorem lS {aJ:ap}{aO:ap}{r:ap}(h:jc aJ aO=some r):ar prog 94 [dG aq aJ,dG aq aO] (dG aq r):=by
 refine bj (rs:=[.cell 4 41]) (fun cx hx h0=>?_) func94
 unfold jc at h
 refine rai hx ?_
 refine AW.seq (rs hx fun K hK=>?_)
 iterate 2 refine sbi ?_
 refine s1 (kT ([aJ,aO]:List ap) aq qf eY) ?_
 refine scb h eW fun x1 h=>?_
 refine nbi hK ?_
 refine cdh h rfl (fun fQ h=>?_) (fun fQ h=>?_)
 refine rs hx fun K hK=>?_
 refine scb h gZ fun x4 h=>?_
 refine nbi hK ?_
 exact AW.ret (rtv h)
 refine AW.skip (rs hx fun K hK=>?_)
 refine s1 (yd (F:=(cA 32 (cI .u32)).f (Vector.replicate 32 (0:Int))) Hj) ?_
 refine nl hK ?_
 refine rsd [148] hx fun K hK=>?_
 refine mbi ?_
 refine cqb h kB fun x6 h=>?_
 refine mbi ?_
 refine cqb h kB fun x8 h=>?_
 refine nbi hK ?_
 refine AW.seq (ra hx ?_)
 refine AW.block ?_
 obtain⟨eH,hy,h⟩:=ae h
 refine lp (S:=Int×(Vector Int 32)) (X:=(Vector Int 32)) (fun (bq,ml)=>[(2,.pt 0 0),(3,.pt 1 0),(4,.pt 2 0),(5,.pt 3 0),(7,dI .i64 x8),(23,dI .i64 x6),(24,dI .i64 bq)]) (fun (bq,ml)=>⟨[(0,dC (aq.f aJ)),(1,dC (aq.f aO)),(2,dC (aq.f b8)),(3,dC ((cA 32 (cI .u32)).f ml))],[],4⟩) (PE cx (.exit 0) (fun eH=>[(2,.pt 0 0),(3,.pt 1 0),(4,.pt 2 0),(5,.pt 3 0)]) fun eH=>⟨[(0,dC (aq.f aJ)),(1,dC (aq.f aO)),(2,dC (aq.f b8)),(3,dC ((cA 32 (cI .u32)).f eH))],[],4⟩) hy ?_ ?_ ?_
 exact wk0 h0 [0,1,2,4]
 clear hy h
 rintro⟨bq,ml⟩ y h
 dsimp only[iP] at h
 refine ra hx ?_
 refine AW.seq (cdh h rfl (fun nq h=>?_) (fun nq h=>?_))
 refine AW.skip (AW.seq (AW.block ?_))
 iterate 2 refine ra hx ?_
 refine AW.seq (ra hx ?_)
 refine AW.block ?_
 obtain⟨y,hy,h⟩:=ae h
 refine lp (S:=Int×Int×(Vector Int 32)) (X:=Int×(Vector Int 32)) (fun (GX,p8,Cf)=>[(2,.pt 0 0),(3,.pt 1 0),(4,.pt 2 0),(5,.pt 3 0),(7,dI .i64 x8),(8,dI .i64 bq),(9,dI .u64 GX),(23,dI .i64 x6),(24,dI .i64 bq),(27,dI .i64 x8),(28,dI .i64 p8)]) (fun (GX,p8,Cf)=>⟨[(0,dC (aq.f aJ)),(1,dC (aq.f aO)),(2,dC (aq.f b8)),(3,dC ((cA 32 (cI .u32)).f Cf))],[],4⟩) (PE cx (.exit 2) (fun (xl,xj)=>[(2,.pt 0 0),(3,.pt 1 0),(4,.pt 2 0),(5,.pt 3 0),(7,dI .i64 x8),(8,dI .i64 bq),(9,dI .u64 xl),(23,dI .i64 x6),(24,dI .i64 bq)]) fun (xl,xj)=>⟨[(0,dC (aq.f aJ)),(1,dC (aq.f aO)),(2,dC (aq.f b8)),(3,dC ((cA 32 (cI .u32)).f xj))],[],4⟩) hy ?_ ?_ ?_
 exact wk0 h0 [0,1,2,3]
 clear hy h
 rintro⟨GX,p8,Cf⟩ y h
 dsimp only[iO] at h
 refine ra hx ?_
 refine AW.seq (cdh h rfl (fun xx h=>?_) (fun xx h=>?_))
 refine AW.skip (AW.seq (AW.block (ra hx ?_)))
 refine rsd [] hx fun K hK=>?_
 iterate 3 refine sa ?_
 obtain⟨hc12,h⟩:=az h
 iterate 5 refine sbi ?_
 obtain⟨hc14,h⟩:=az h
 iterate 7 refine sbi ?_
 obtain⟨PC,h⟩:=az h
 iterate 5 refine sbi ?_
 obtain⟨qx,DC,h⟩:=ae h
 replace DC:=bB DC
 refine s2 (d2:=dI .u64 qx) li (f7 (congrArg (dI .u64) DC)) ?_
 refine nl hK ?_
 refine rs hx fun K hK=>?_
 iterate 5 refine sa ?_
 obtain⟨hc20,h⟩:=az h
 have hn21:(i64.wrap (bq+p8)).toNat<32:=by omega
 refine sbi ?_
 obtain⟨Ck,LO,h⟩:=ae h
 replace LO:=bB LO
 refine s0 (nD (b':=u32.wrap (qx)) (bT.comp (bT.id _ _) (bT.vec (cI .u32) Cf (i64.wrap (bq+p8)).toNat hn21) (fun _=>rfl)) bO LO) ?_
 refine nl hK ?_
 iterate 2 refine rb hx ?_
 exact pel h h0 [0,1,2,3]
 exact AW.exit (per h h0 [0,1,2,3])
 obtain⟨xl,xj⟩:=y
 refine lw0 ?_
 refine rq hx fun K hK=>?_
 iterate 5 refine sa ?_
 obtain⟨hc25,h⟩:=az h
 have hn26:(i64.wrap (bq+x8)).toNat<32:=by omega
 refine sbi ?_
 obtain⟨As,HO,h⟩:=ae h
 replace HO:=bB HO
 refine s0 (nD (b':=u32.wrap (xl)) (bT.comp (bT.id _ _) (bT.vec (cI .u32) xj (i64.wrap (bq+x8)).toNat hn26) (fun _=>rfl)) bO HO) ?_
 refine nl hK ?_
 refine rb hx ?_
 exact pel h h0 [0,1,2,3]
 exact AW.exit (per h h0 [0,1,2,3])
 refine lw0 ?_
 refine AW.seq (rs hx fun K hK=>?_)
 refine q1 (slA (n:=32) (l:=(16:Int)) (h:=(32:Int)) tok (by decide) Hj bO ⟨_,rfl⟩ rfl) ?_
 refine q1 (sPtr tok rfl cQ) ?_
 refine s1 (d:=dG (cA 16 (cI .u32)) (vOf 16 (List.take 16 (List.drop 16 (eH).toList)))) (Ap (bT.sub (o:=16) 16 (cI .u32) eH 16 (by decide) (by first|rfl|decide)) cQ) ?_
 refine s1 (d:=dG (cA 16 (cI .u32)) (#v[(0:Int),0,0,0,0,0,0,0,0,0,0,0,0,0,0,0])) (mm cQ bO) ?_
 refine s1 (wP tok 2 (by decide) (EqC.arr (EqC.int (d:=0) bO) cQ bO) cQ) ?_
 refine nl hK ?_
 refine cdh h rfl (fun SH h=>?_) (fun SH h=>?_)
 refine rs hx fun K hK=>?_
 refine scb h gZ fun G9 h=>?_
 refine nbi hK ?_
 exact AW.ret (rtv h)
 refine AW.skip (rsd [145] hx fun K hK=>?_)
 iterate 5 refine sbi ?_
 refine q1 (slA (n:=32) (l:=(0:Int)) (h:=(16:Int)) tok (by decide) Hj bO rfl ⟨_,rfl⟩) ?_
 refine q1 (sPtr tok rfl cQ) ?_
 refine s1 (d:=dG (cA 16 (cI .u32)) (vOf 16 (List.take 16 (List.drop 0 (eH).toList)))) (Ap (bT.sub (o:=0) 16 (cI .u32) eH 0 (by decide) (by first|rfl|decide)) cQ) ?_
 obtain⟨K7,Po,h⟩:=ae h
 refine sq tok (da Po) (by simp only[j4,m9,iK,kQ,fM,cj];exact⟨rfl,dW _ _⟩) (lA (ax _) (lA (ro _ _) lAn)) (.inl (kG _ _)) ?_
 refine nbi hK ?_
 exact AW.ret (rtv h)
def fx(aX:Int):Option Int:=bnd (mz aX) fun x1=>some (i64.wrap ((32:Int) - x1))
theorem vp {aX:Int}{r:Int}(h:fx aX=some r):ar prog 188 [dI .u32 aX] (dI .i64 r):=by
 refine bj (rs:=[.tmp 2]) (fun cx hx h0=>?_) func188
 unfold fx at h
 refine ra hx ?_
 refine rs hx fun K hK=>?_
 refine sa ?_
 refine scb h zo fun x1 h=>?_
 refine nbi hK ?_
 exact AW.ret (rtv h)
def jB(Co:Vector Int 16)(cZ:Int)(mU:Int)(oK:Vector Int 17)(x9:Int):Int×Int→Option ((Int×Int)⊕Int):=fun (dh,bM)=>bnd (S:=Bool) (cnd (decide (bM<(4294967296:Int))) (cnd (decide ((4294967296:Int)≤dh)) (some (true)) (gd (0≤i64.wrap (cZ - (2:Int))∧i64.wrap (cZ - (2:Int))<16) (gd (0≤i64.wrap ((i64.wrap (mU+cZ)) - (2:Int))∧i64.wrap ((i64.wrap (mU+cZ)) - (2:Int))<17) (some (decide ((ior .u64 (yz .u64 bM (32:Int)) (u64.wrap ((oK)[(i64.wrap ((i64.wrap (mU+cZ)) - (2:Int))).toNat]!)))<(u64.wrap (dh*(u64.wrap ((Co)[(i64.wrap (cZ - (2:Int))).toNat]!)))))))))) (some (false))) fun c8=>cnd c8 (some (.inl (u64.wrap (dh - (1:Int)),u64.wrap (bM+x9)))) (some (.inr dh))
def iM(Co:Vector Int 16)(cZ:Int)(mU:Int)(oK:Vector Int 17):Option Int:=gd (0≤i64.wrap (mU+cZ)∧i64.wrap (mU+cZ)<17) (gd (0≤i64.wrap ((i64.wrap (mU+cZ)) - (1:Int))∧i64.wrap ((i64.wrap (mU+cZ)) - (1:Int))<17) (bnd (some (ior .u64 (yz .u64 (u64.wrap ((oK)[(i64.wrap (mU+cZ)).toNat]!)) (32:Int)) (u64.wrap ((oK)[(i64.wrap ((i64.wrap (mU+cZ)) - (1:Int))).toNat]!)))) fun x5=>gd (0≤i64.wrap (cZ - (1:Int))∧i64.wrap (cZ - (1:Int))<16) (bnd (some (u64.wrap ((Co)[(i64.wrap (cZ - (1:Int))).toNat]!))) fun x9=>gd (x9≠0) (gd (x9≠0) (bnd (bt (jB Co cZ mU oK x9) (u64.wrap (Int.tdiv x5 x9),Int.tmod x5 x9)) fun ce=>some ce)))))
theorem Cl {Co:Vector Int 16}{cZ:Int}{mU:Int}{oK:Vector Int 17}{r:Int}(h:iM Co cZ mU oK=some r):HC prog 190 [.pt 0 0,dG (cA 16 (cI .u32)) Co,dI .i64 cZ,dI .i64 mU] ⟨[(0,dC ((cA 17 (cI .u32)).f oK))],[],1⟩ (dI .u64 r) ⟨[(0,dC ((cA 17 (cI .u32)).f oK))],[],1⟩:=by
 refine HC.of (rs:=[.tmp 8]) tok func190 rfl rfl (bc rfl) rfl (fun cx hx h1 hok=>?_)
 have h0:cx.hp0.next=1:=by rw[h1]
 simp only[fj,Nat.reduceAdd,bp]
 unfold iM at h
 refine ra hx ?_
 refine rsd [] hx fun K hK=>?_
 iterate 5 refine sa ?_
 obtain⟨N7,h⟩:=az h
 iterate 10 refine sbi ?_
 obtain⟨hc3,h⟩:=az h
 iterate 4 refine sbi ?_
 obtain⟨x5,HN,h⟩:=ae h
 replace HN:=bB HN
 refine s2 (d2:=dI .u64 x5) li (f7 (congrArg (dI .u64) HN)) ?_
 refine nl hK ?_
 refine rs hx fun K hK=>?_
 iterate 2 refine sa ?_
 obtain⟨hc7,h⟩:=az h
 iterate 3 refine sbi ?_
 obtain⟨x9,LP,h⟩:=ae h
 replace LP:=bB LP
 refine s2 (d2:=dI .u64 x9) li (f7 (congrArg (dI .u64) LP)) ?_
 refine nl hK ?_
 refine rsd [] hx fun K hK=>?_
 iterate 2 refine sa ?_
 obtain⟨SD,h⟩:=az h
 refine s1 (G2 SD) ?_
 iterate 2 refine sa ?_
 obtain⟨hc12,h⟩:=az h
 refine s1 (EQ hc12) ?_
 refine nbi hK ?_
 refine AW.seq (AW.block ?_)
 obtain⟨ce,hy,h⟩:=ae h
 refine lp (S:=Int×Int) (X:=Int) (fun (dh,bM)=>[(0,.pt 0 0),(2,dI .i64 cZ),(3,dI .i64 mU),(5,.pt 1 0),(10,dI .u64 x9),(11,dI .u64 dh),(12,dI .u64 bM)]) (fun (dh,bM)=>⟨[(0,dC ((cA 17 (cI .u32)).f oK)),(1,dC ((cA 16 (cI .u32)).f Co))],[],2⟩) (PE cx (.exit 0) (fun ce=>[(11,dI .u64 ce)]) fun ce=>⟨[(0,dC ((cA 17 (cI .u32)).f oK))],[],1⟩) hy ?_ ?_ ?_
 exact wkN h0 [1] (wR rfl (wR rfl (wR rfl (wR rfl (wR rfl (wR rfl (wR rfl wTn))))))) (vC rfl (vC rfl wVn)) wLn
 clear hy h
 rintro⟨dh,bM⟩ y h
 dsimp only[jB] at h
 iterate 2 refine AW.seq ?_
 obtain⟨c8,hy,h⟩:=ae h
 refine jn ((PE cx .normal (fun c8=>[(0,.pt 0 0),(2,dI .i64 cZ),(3,dI .i64 mU),(5,.pt 1 0),(10,dI .u64 x9),(11,dI .u64 dh),(12,dI .u64 bM),(70,dB c8)]) fun c8=>⟨[(0,dC ((cA 17 (cI .u32)).f oK)),(1,dC ((cA 16 (cI .u32)).f Co))],[],2⟩) c8) ?_ ?_
 replace h:=hy
 refine rqd [] hx fun K hK=>?_
 refine mbi ?_
 rcases aF h with⟨FV,h⟩|⟨FV,h⟩
 refine mbi ?_
 rcases aF h with⟨uq,h⟩|⟨uq,h⟩
 refine nbi hK ?_
 cases h
 exact PE.i (wkN h0 [1] (wR rfl (wR rfl (wR rfl (wR rfl (wR rfl (wR rfl (wR rfl (wR rfl wTn)))))))) (vC rfl (vC rfl wVn)) wLn)
 iterate 3 refine ga uq ?_
 obtain⟨hc15,h⟩:=az h
 iterate 2 refine gbi ?_
 iterate 3 refine ga uq ?_
 refine g1 uq (Ue (b:=(32:Int)) (by decide)) ?_
 iterate 6 refine ga uq ?_
 obtain⟨hc17,h⟩:=az h
 iterate 2 refine gbi ?_
 refine ga uq ?_
 refine g1 uq T_or ?_
 refine nbi hK ?_
 cases h
 exact PE.i (wkN h0 [1] (wR rfl (wR rfl (wR rfl (wR rfl (wR rfl (wR rfl (wR rfl (wR rfl wTn)))))))) (vC rfl (vC rfl wVn)) wLn)
 iterate 3 refine Pe rfl rfl FV ?_
 iterate 20 refine nn_t rfl rfl ?_
 refine nbi hK ?_
 cases h
 exact PE.i (wkN h0 [1] (wR rfl (wR rfl (wR rfl (wR rfl (wR rfl (wR rfl (wR rfl (wR rfl wTn)))))))) (vC rfl (vC rfl wVn)) wLn)
 refine lw0 ?_
 refine cdh h rfl (fun SK h=>?_) (fun SK h=>?_)
 refine AW.skip (AW.block (ra hx ?_))
 refine rb hx ?_
 cases h
 exact PS.l (PE.i (wkN h0 [1] (wR rfl (wR rfl (wR rfl (wR rfl (wR rfl (wR rfl (wR rfl wTn))))))) (vC rfl (vC rfl wVn)) wLn))
 refine AW.exit ?_
 try dsimp only
 try simp only[uJ,reduceIte,Nat.reduceEqDiff,reduceCtorEq]
 cases h
 exact PS.r ⟨by nofun,PE.i (wkN h0 [] (wR rfl wTn) (vC rfl wVn) wLn)⟩
 refine lw0 ?_
 refine ra hx ?_
 refine AW.ret ?_
 cases h
 exact rH1 (wkN h0 [] (wR rfl wTn) (vC rfl wVn) wLn)
def i9(Co:Vector Int 16)(cZ:Int)(mU:Int)(zG:Int):Int×Int×Int×(Vector Int 17)→Option ((Int×Int×Int×(Vector Int 17))⊕(Int×Int×(Vector Int 17))):=fun (aN,bn,mF,KN)=>cnd (decide (mF<cZ)) (gd (0≤mF∧mF<16) (bnd (some (u64.wrap (aN+(u64.wrap (zG*(u64.wrap ((Co)[(mF).toNat]!))))))) fun x4=>gd (0≤i64.wrap (mU+mF)∧i64.wrap (mU+mF)<17) (bnd (some (u64.wrap ((u64.wrap ((u64.wrap ((KN)[(i64.wrap (mU+mF)).toNat]!)) - (u64.wrap (u32.wrap (x4))))) - bn))) fun x8=>gd (0≤i64.wrap (mU+mF)∧i64.wrap (mU+mF)<17) (bnd (some ((KN).set! (i64.wrap (mU+mF)).toNat (u32.wrap (x8)))) fun nf=>some (.inl (l5 .u64 x4 (32:Int),l5 .u64 x8 (63:Int),i64.wrap (mF+(1:Int)),nf)))))) (some (.inr (aN,bn,KN)))
def jL(Co:Vector Int 16)(cZ:Int)(mU:Int)(zG:Int)(oK:Vector Int 17):Option (Bool×(Vector Int 17)):=bnd (bt (i9 Co cZ mU zG) ((0:Int),(0:Int),(0:Int),oK)) fun (a9,j8,yT)=>gd (0≤i64.wrap (mU+cZ)∧i64.wrap (mU+cZ)<17) (bnd (some (u64.wrap ((u64.wrap ((u64.wrap ((yT)[(i64.wrap (mU+cZ)).toNat]!)) - a9)) - j8))) fun pI=>gd (0≤i64.wrap (mU+cZ)∧i64.wrap (mU+cZ)<17) (bnd (some ((yT).set! (i64.wrap (mU+cZ)).toNat (u32.wrap (pI)))) fun vJ=>some (decide ((l5 .u64 pI (63:Int))=(1:Int)),vJ)))
theorem CX {Co:Vector Int 16}{cZ:Int}{mU:Int}{zG:Int}{oK:Vector Int 17}{r:Bool×(Vector Int 17)}(h:jL Co cZ mU zG oK=some r):HC prog 191 [.pt 0 0,dG (cA 16 (cI .u32)) Co,dI .i64 cZ,dI .i64 mU,dI .u64 zG] ⟨[(0,dC ((cA 17 (cI .u32)).f oK))],[],1⟩ (dB r.1) ⟨[(0,dC ((cA 17 (cI .u32)).f r.2))],[],1⟩:=by
 refine HC.of (rs:=[.tmp 10]) tok func191 rfl rfl (bc rfl) rfl (fun cx hx h1 hok=>?_)
 have h0:cx.hp0.next=1:=by rw[h1]
 simp only[fj,Nat.reduceAdd,bp]
 unfold jL at h
 iterate 2 refine ra hx ?_
 refine AW.seq (ra hx ?_)
 refine AW.block ?_
 obtain⟨y,hy,h⟩:=ae h
 refine lp (S:=Int×Int×Int×(Vector Int 17)) (X:=Int×Int×(Vector Int 17)) (fun (aN,bn,mF,KN)=>[(0,.pt 0 0),(2,dI .i64 cZ),(3,dI .i64 mU),(4,dI .u64 zG),(6,.pt 1 0),(11,dI .u64 aN),(12,dI .u64 bn),(16,dI .i64 cZ),(17,dI .i64 mF)]) (fun (aN,bn,mF,KN)=>⟨[(0,dC ((cA 17 (cI .u32)).f KN)),(1,dC ((cA 16 (cI .u32)).f Co))],[],2⟩) (PE cx (.exit 0) (fun (a9,j8,yT)=>[(0,.pt 0 0),(2,dI .i64 cZ),(3,dI .i64 mU),(11,dI .u64 a9),(12,dI .u64 j8)]) fun (a9,j8,yT)=>⟨[(0,dC ((cA 17 (cI .u32)).f yT))],[],1⟩) hy ?_ ?_ ?_
 exact wkN h0 [1] (wR rfl (wR rfl (wR rfl (wR rfl (wR rfl (wR rfl (wR rfl (wR rfl (wR rfl wTn))))))))) (vC rfl (vC rfl wVn)) wLn
 clear hy h
 rintro⟨aN,bn,mF,KN⟩ y h
 dsimp only[i9] at h
 refine ra hx ?_
 refine AW.seq (cdh h rfl (fun fR h=>?_) (fun fR h=>?_))
 refine AW.skip (AW.seq (AW.block (ra hx ?_)))
 refine rs hx fun K hK=>?_
 iterate 3 refine sa ?_
 obtain⟨qC,h⟩:=az h
 iterate 5 refine sbi ?_
 obtain⟨x4,Pn,h⟩:=ae h
 replace Pn:=bB Pn
 refine s2 (d2:=dI .u64 x4) li (f7 (congrArg (dI .u64) Pn)) ?_
 refine nl hK ?_
 refine rs hx fun K hK=>?_
 iterate 5 refine sa ?_
 obtain⟨hc6,h⟩:=az h
 iterate 9 refine sbi ?_
 obtain⟨x8,Qi,h⟩:=ae h
 replace Qi:=bB Qi
 refine s2 (d2:=dI .u64 x8) li (f7 (congrArg (dI .u64) Qi)) ?_
 refine nl hK ?_
 refine rs hx fun K hK=>?_
 iterate 7 refine sa ?_
 obtain⟨L8,h⟩:=az h
 have hn11:(i64.wrap (mU+mF)).toNat<17:=by omega
 refine sbi ?_
 obtain⟨nf,Bg,h⟩:=ae h
 replace Bg:=bB Bg
 refine s0 (nD (b':=u32.wrap (x8)) (bT.comp (bT.id _ _) (bT.vec (cI .u32) KN (i64.wrap (mU+mF)).toNat hn11) (fun _=>rfl)) bO Bg) ?_
 refine nl hK ?_
 refine ra hx ?_
 iterate 2 refine rb hx ?_
 cases h
 exact PS.l (PE.i (wkN h0 [1] (wR rfl (wR rfl (wR rfl (wR rfl (wR rfl (wR rfl (wR rfl (wR rfl (wR rfl wTn))))))))) (vC rfl (vC rfl wVn)) wLn))
 refine AW.exit ?_
 try dsimp only
 try simp only[uJ,reduceIte,Nat.reduceEqDiff,reduceCtorEq]
 cases h
 exact PS.r ⟨by nofun,PE.i (wkN h0 [] (wR rfl (wR rfl (wR rfl (wR rfl (wR rfl wTn))))) (vC rfl wVn) wLn)⟩
 obtain⟨a9,j8,yT⟩:=y
 refine lw0 ?_
 refine rs hx fun K hK=>?_
 iterate 5 refine sa ?_
 obtain⟨hc15,h⟩:=az h
 iterate 7 refine sbi ?_
 obtain⟨pI,vu,h⟩:=ae h
 replace vu:=bB vu
 refine s2 (d2:=dI .u64 pI) li (f7 (congrArg (dI .u64) vu)) ?_
 refine nl hK ?_
 refine rs hx fun K hK=>?_
 iterate 7 refine sa ?_
 obtain⟨hc19,h⟩:=az h
 have hn20:(i64.wrap (mU+cZ)).toNat<17:=by omega
 refine sbi ?_
 obtain⟨vJ,RY,h⟩:=ae h
 replace RY:=bB RY
 refine s0 (nD (b':=u32.wrap (pI)) (bT.comp (bT.id _ _) (bT.vec (cI .u32) yT (i64.wrap (mU+cZ)).toNat hn20) (fun _=>rfl)) bO RY) ?_
 refine nl hK ?_
 refine ra hx ?_
 refine AW.ret ?_
 cases h
 exact rH1 (wkN h0 [] (wR rfl wTn) (vC rfl wVn) wLn)
def jb(Co:Vector Int 16)(cZ:Int)(mU:Int):Int×Int×(Vector Int 17)→Option ((Int×Int×(Vector Int 17))⊕(Int×(Vector Int 17))):=fun (aN,bn,mF)=>cnd (decide (bn<cZ)) (gd (0≤i64.wrap (mU+bn)∧i64.wrap (mU+bn)<17) (gd (0≤bn∧bn<16) (bnd (some (u64.wrap (aN+(u64.wrap ((u64.wrap ((mF)[(i64.wrap (mU+bn)).toNat]!))+(u64.wrap ((Co)[(bn).toNat]!))))))) fun x6=>gd (0≤i64.wrap (mU+bn)∧i64.wrap (mU+bn)<17) (bnd (some ((mF).set! (i64.wrap (mU+bn)).toNat (u32.wrap (x6)))) fun mI=>some (.inl (l5 .u64 x6 (32:Int),i64.wrap (bn+(1:Int)),mI)))))) (some (.inr (aN,mF)))
def jP(Co:Vector Int 16)(cZ:Int)(mU:Int)(oK:Vector Int 17):Option (Vector Int 17):=bnd (bt (jb Co cZ mU) ((0:Int),(0:Int),oK)) fun (a9,j8)=>gd (0≤i64.wrap (mU+cZ)∧i64.wrap (mU+cZ)<17) (gd (0≤i64.wrap (mU+cZ)∧i64.wrap (mU+cZ)<17) (bnd (some ((j8).set! (i64.wrap (mU+cZ)).toNat (u32.wrap (((j8)[(i64.wrap (mU+cZ)).toNat]!)+(u32.wrap (a9)))))) fun pI=>some pI))
theorem CY {Co:Vector Int 16}{cZ:Int}{mU:Int}{oK:Vector Int 17}{r:Vector Int 17}(h:jP Co cZ mU oK=some r):HC prog 192 [.pt 0 0,dG (cA 16 (cI .u32)) Co,dI .i64 cZ,dI .i64 mU] ⟨[(0,dC ((cA 17 (cI .u32)).f oK))],[],1⟩ (.tu []) ⟨[(0,dC ((cA 17 (cI .u32)).f r))],[],1⟩:=by
 refine HC.of (rs:=[]) tok func192 rfl rfl (bc rfl) rfl (fun cx hx h1 hok=>?_)
 have h0:cx.hp0.next=1:=by rw[h1]
 simp only[fj,Nat.reduceAdd,bp]
 unfold jP at h
 iterate 2 refine ra hx ?_
 refine AW.seq (ra hx ?_)
 refine AW.block ?_
 obtain⟨y,hy,h⟩:=ae h
 refine lp (S:=Int×Int×(Vector Int 17)) (X:=Int×(Vector Int 17)) (fun (aN,bn,mF)=>[(0,.pt 0 0),(2,dI .i64 cZ),(3,dI .i64 mU),(5,.pt 1 0),(8,dI .u64 aN),(10,dI .i64 cZ),(11,dI .i64 bn)]) (fun (aN,bn,mF)=>⟨[(0,dC ((cA 17 (cI .u32)).f mF)),(1,dC ((cA 16 (cI .u32)).f Co))],[],2⟩) (PE cx (.exit 0) (fun (a9,j8)=>[(0,.pt 0 0),(2,dI .i64 cZ),(3,dI .i64 mU),(8,dI .u64 a9)]) fun (a9,j8)=>⟨[(0,dC ((cA 17 (cI .u32)).f j8))],[],1⟩) hy ?_ ?_ ?_
 exact wkN h0 [1] (wR rfl (wR rfl (wR rfl (wR rfl (wR rfl (wR rfl (wR rfl wTn))))))) (vC rfl (vC rfl wVn)) wLn
 clear hy h
 rintro⟨aN,bn,mF⟩ y h
 dsimp only[jb] at h
 refine ra hx ?_
 refine AW.seq (cdh h rfl (fun fR h=>?_) (fun fR h=>?_))
 refine AW.skip (AW.seq (AW.block (ra hx ?_)))
 refine rsd [] hx fun K hK=>?_
 iterate 6 refine sa ?_
 obtain⟨qC,h⟩:=az h
 iterate 4 refine sbi ?_
 obtain⟨N6,h⟩:=az h
 iterate 5 refine sbi ?_
 obtain⟨x6,vt,h⟩:=ae h
 replace vt:=bB vt
 refine s2 (d2:=dI .u64 x6) li (f7 (congrArg (dI .u64) vt)) ?_
 refine nl hK ?_
 refine rs hx fun K hK=>?_
 iterate 7 refine sa ?_
 obtain⟨hc8,h⟩:=az h
 have hn9:(i64.wrap (mU+bn)).toNat<17:=by omega
 refine sbi ?_
 obtain⟨mI,FO,h⟩:=ae h
 replace FO:=bB FO
 refine s0 (nD (b':=u32.wrap (x6)) (bT.comp (bT.id _ _) (bT.vec (cI .u32) mF (i64.wrap (mU+bn)).toNat hn9) (fun _=>rfl)) bO FO) ?_
 refine nl hK ?_
 iterate 2 refine rb hx ?_
 cases h
 exact PS.l (PE.i (wkN h0 [1] (wR rfl (wR rfl (wR rfl (wR rfl (wR rfl (wR rfl (wR rfl wTn))))))) (vC rfl (vC rfl wVn)) wLn))
 refine AW.exit ?_
 try dsimp only
 try simp only[uJ,reduceIte,Nat.reduceEqDiff,reduceCtorEq]
 cases h
 exact PS.r ⟨by nofun,PE.i (wkN h0 [] (wR rfl (wR rfl (wR rfl (wR rfl wTn)))) (vC rfl wVn) wLn)⟩
 obtain⟨a9,j8⟩:=y
 refine lw0 ?_
 refine rqd [] hx fun K hK=>?_
 iterate 5 refine sa ?_
 obtain⟨hc13,h⟩:=az h
 iterate 6 refine sbi ?_
 obtain⟨hc15,h⟩:=az h
 have hn16:(i64.wrap (mU+cZ)).toNat<17:=by omega
 refine sbi ?_
 obtain⟨pI,vu,h⟩:=ae h
 replace vu:=bB vu
 refine s0 (nD (b':=u32.wrap (((j8)[(i64.wrap (mU+cZ)).toNat]!)+(u32.wrap (a9)))) (bT.comp (bT.id _ _) (bT.vec (cI .u32) j8 (i64.wrap (mU+cZ)).toNat hn16) (fun _=>rfl)) bO vu) ?_
 refine nl hK ?_
 cases h
 exact rH0 (wkN h0 [] wTn (vC rfl wVn) wLn)
def eL(x1:Int)(Fo:(Vector Int 16)×Int):Int×(Vector Int 16)×(Vector Int 17)→Option ((Int×(Vector Int 16)×(Vector Int 17))⊕((Vector Int 16)×(Vector Int 17))):=fun (rR,Ce,EL)=>cnd (decide ((0:Int)≤rR)) (bnd (iM Fo.1 x1 rR EL) fun Le=>bnd (S:=Int×(Vector Int 17)) (bnd (jL Fo.1 x1 rR Le EL) fun Qx=>cnd Qx.1 (bnd (jP Fo.1 x1 rR Qx.2) fun K7=>some ((u64.wrap (Le - (1:Int)),K7))) (some ((Le,Qx.2)))) fun (tU,KO)=>gd (0≤rR∧rR<16) (some (.inl (i64.wrap (rR - (1:Int)),(Ce).set! (rR).toNat (u32.wrap (tU)),KO)))) (some (.inr (Ce,EL)))
def fF(aJ:Vector Int 16)(aO:Vector Int 16):Option ((Vector Int 16)×(Vector Int 16)):=bnd (eF aO) fun x1=>bnd (eF aJ) fun x3=>bnd (g5 aJ aO) fun x5=>cnd (decide (x5<(0:Int))) (bnd (some (#v[(0:Int),0,0,0,0,0,0,0,0,0,0,0,0,0,0,0])) fun x8=>some (x8,aJ)) (cnd (decide (x1=(1:Int))) (bnd (mX aJ ((aO)[((0:Int)).toNat]!)) fun nf=>bnd (some (#v[nf.2,0,0,0,0,0,0,0,0,0,0,0,0,0,0,0])) fun pJ=>some (nf.1,pJ)) (gd (0≤i64.wrap (x1 - (1:Int))∧i64.wrap (x1 - (1:Int))<16) (bnd (fx ((aO)[(i64.wrap (x1 - (1:Int))).toNat]!)) fun qx=>bnd (pb aO qx) fun Fo=>bnd (pb aJ qx) fun Ck=>bnd (some (vOf 17 (lCp ((Vector.replicate 17 (0:Int))).toList 0 (List.take 17 (List.take 16 (List.drop 0 (Ck.1).toList)))))) fun E7=>bnd (bt (eL x1 Fo) (i64.wrap (x3 - x1),(eb),(E7).set! ((16:Int)).toNat Ck.2)) fun (Ai,uL)=>bnd (n9 (vOf 16 (List.take 16 (List.drop 0 (uL).toList))) qx) fun K6=>some (Ai,K6))))
theorem th {aJ:Vector Int 16}{aO:Vector Int 16}{r:(Vector Int 16)×(Vector Int 16)}(h:fF aJ aO=some r):ar prog 162 [dG (cA 16 (cI .u32)) aJ,dG (cA 16 (cI .u32)) aO] (.tu [dG (cA 16 (cI .u32)) r.1,dG (cA 16 (cI .u32)) r.2]):=by
 refine bj (rs:=[.cell 4 39,.cell 5 39]) (fun cx hx h0=>?_) func162
 unfold fF at h
 refine rai hx ?_
 refine rsd [148] hx fun K hK=>?_
 refine mbi ?_
 refine cqb h kB fun x1 h=>?_
 refine mbi ?_
 refine cqb h kB fun x3 h=>?_
 refine nbi hK ?_
 refine AW.seq (rs hx fun K hK=>?_)
 refine mbi ?_
 refine scb h pw fun x5 h=>?_
 refine nbi hK ?_
 refine cdh h rfl (fun tI h=>?_) (fun tI h=>?_)
 refine AW.seq ?_
 obtain⟨x8,Qi,h⟩:=ae h
 replace Qi:=bB Qi
 refine jn (PE cx .normal (fun (_:Unit)=>[(4,.pt 0 0),(5,.pt 1 0)]) (fun (_:Unit)=>⟨[(0,dC ((cA 16 (cI .u32)).f x8)),(1,dC ((cA 16 (cI .u32)).f aJ))],[],2⟩) ()) ?_ ?_
 refine dw (DW.split 1 2 (by decide) ?_ ?_)
 refine dwg [] [0,1,2,3] hx (by kernel_rfl) (by kernel_rfl) (by kernel_rfl) fun K hK=>?_
 dsimp only[d8,mE,mP,List.map]
 refine s1 (d:=dG (cA 16 (cI .u32)) (#v[(0:Int),0,0,0,0,0,0,0,0,0,0,0,0,0,0,0])) (mm cQ bO) ?_
 refine sbi ?_
 refine s0 (nD (b':=#v[(0:Int),0,0,0,0,0,0,0,0,0,0,0,0,0,0,0]) (bT.id _ _) cQ Qi) ?_
 refine tzi ?_
 exact .nil (hK _ _ (pe0 h0 [2,3]))
 refine dwg [] [0,2,1,3] hx (by kernel_rfl) (by kernel_rfl) (by kernel_rfl) fun K hK=>?_
 dsimp only[d8,mE,mP,List.map]
 refine s1 (d:=dG (cA 16 (cI .u32)) (#v[(0:Int),0,0,0,0,0,0,0,0,0,0,0,0,0,0,0])) (mm cQ bO) ?_
 refine s0 (nD (b':=#v[(0:Int),0,0,0,0,0,0,0,0,0,0,0,0,0,0,0]) (bT.id _ _) cQ Qi) ?_
 refine sbi ?_
 refine tzi ?_
 exact .nil (hK _ _ (pe0 h0 [2,3]))
 refine lw0 ?_
 refine AW.ret ?_
 cases h
 exact rv2
 refine AW.skip (AW.seq (ra hx ?_))
 refine cdh h rfl (fun nq h=>?_) (fun nq h=>?_)
 refine rs hx fun K hK=>?_
 refine sbi ?_
 refine s1 (vm (by decide:0≤(0:Int)∧(0:Int)<((16:Nat):Int)) cQ bO) ?_
 refine mbi ?_
 refine scb h Ft fun nf h=>?_
 refine nbi hK ?_
 refine rs hx fun K hK=>?_
 iterate 2 refine sbi ?_
 refine s1 (d:=dG (cA 16 (cI .u32)) (#v[nf.2,0,0,0,0,0,0,0,0,0,0,0,0,0,0,0])) (mm cQ bO) ?_
 refine tzi ?_
 obtain⟨pJ,yA,h⟩:=ae h
 replace yA:=bB yA
 refine s0 (nD (b':=#v[nf.2,0,0,0,0,0,0,0,0,0,0,0,0,0,0,0]) (bT.id _ _) cQ yA) ?_
 refine nl hK ?_
 refine AW.ret ?_
 cases h
 exact rv2
 refine AW.skip (rs hx fun K hK=>?_)
 iterate 2 refine sa ?_
 obtain⟨PC,h⟩:=az h
 refine mbi ?_
 refine scb h vp fun qx h=>?_
 refine nbi hK ?_
 refine rs hx fun K hK=>?_
 refine mbi ?_
 refine scb h CW fun Fo h=>?_
 refine nbi hK ?_
 refine rs hx fun K hK=>?_
 refine mbi ?_
 refine scb h CW fun Ck h=>?_
 refine nbi hK ?_
 refine rs hx fun K hK=>?_
 refine s1 (yd (F:=(cA 17 (cI .u32)).f (Vector.replicate 17 (0:Int))) C7) ?_
 refine nl hK ?_
 refine rsd [] hx fun K hK=>?_
 refine q1 (slA (n:=17) (l:=(0:Int)) (h:=(17:Int)) tok (by decide) C7 bO rfl rfl) ?_
 refine q1 (slA (n:=16) (l:=(0:Int)) (h:=(16:Int)) tok (by decide) cQ bO rfl rfl) ?_
 obtain⟨E7,RX,h⟩:=ae h
 replace RX:=bB RX
 refine q1 (hp':=⟨[(6,dC ((cA 17 (cI .u32)).f E7)),(6,dC ((cA 17 (cI .u32)).f (Vector.replicate 17 (0:Int)))),(5,dC ((cA 16 (cI .u32)).f Ck.1)),(5,dC ((cA 16 (cI .u32)).f (eb))),(4,dC ((cA 16 (cI .u32)).f Fo.1)),(4,dC ((cA 16 (cI .u32)).f (eb))),(3,dC ((cA 16 (cI .u32)).f (eb))),(2,dC ((cA 16 (cI .u32)).f (eb))),(1,dC ((cA 16 (cI .u32)).f aO)),(0,dC ((cA 16 (cI .u32)).f aJ))],[],7⟩) (sCpA (c:=(cI .u32)) (v:=(Vector.replicate 17 (0:Int))) (s:=(List.take 16 (List.drop 0 (Ck.1).toList))) tok QO bO (wS.arr (c:=(cI .u32)) (v:=Ck.1) rfl 0 (by decide)) (by simp only[ee,eV,nB];omega) rfl 0 (by decide) (congrArg (fun q=>(6,dC ((cA 17 (cI .u32)).f q))::_) RX)) ?_
 refine nl hK ?_
 refine rs hx fun K hK=>?_
 refine sa ?_
 have hn26:((16:Int)).toNat<17:=by omega
 refine s1 (vm (by decide:0≤(16:Int)∧(16:Int)<((17:Nat):Int)) C7 bO) ?_
 refine s0 (yb (b':=Ck.2) (bT.comp (bT.id _ _) (bT.vec (cI .u32) E7 ((16:Int)).toNat hn26) (fun _=>rfl)) bO) ?_
 refine nl hK ?_
 refine AW.seq (ra hx ?_)
 refine AW.block ?_
 obtain⟨y,hy,h⟩:=ae h
 refine lp (S:=Int×(Vector Int 16)×(Vector Int 17)) (X:=(Vector Int 16)×(Vector Int 17)) (fun (rR,Ce,EL)=>[(4,.pt 0 0),(5,.pt 1 0),(6,dI .i64 x1),(10,dI .i64 qx),(11,.pt 2 0),(15,.pt 3 0),(16,dI .i64 rR)]) (fun (rR,Ce,EL)=>⟨[(0,dC ((cA 16 (cI .u32)).f Ce)),(1,dC ((cA 16 (cI .u32)).f (eb))),(2,dC ((cA 16 (cI .u32)).f Fo.1)),(3,dC ((cA 17 (cI .u32)).f EL))],[],4⟩) (PE cx (.exit 0) (fun (Ai,uL)=>[(4,.pt 0 0),(5,.pt 1 0),(10,dI .i64 qx),(15,.pt 2 0)]) fun (Ai,uL)=>⟨[(0,dC ((cA 16 (cI .u32)).f Ai)),(1,dC ((cA 16 (cI .u32)).f (eb))),(2,dC ((cA 17 (cI .u32)).f uL))],[],3⟩) hy ?_ ?_ ?_
 exact wk0 h0 [2,3,4,6]
 clear hy h
 rintro⟨rR,Ce,EL⟩ y h
 dsimp only[eL] at h
 refine AW.seq (ra hx ?_)
 refine cdh h rfl (fun SI h=>?_) (fun SI h=>?_)
 refine AW.skip (AW.seq (AW.block (rs hx fun K hK=>?_)))
 iterate 3 refine sbi ?_
 obtain⟨Le,RW,h⟩:=ae h
 refine s1 (IH [3] rfl (Cl RW) (fA (ax _) (fAG (ax _) (fA (ax _) (fA (ax _) fAn)))) (vC rfl wVn) wLn (rvC rvN) rfl rfl) ?_
 refine nbi hK ?_
 refine AW.seq ?_
 obtain⟨y,hy,h⟩:=ae h
 refine jn ((PE cx .normal (fun (tU,KO)=>[(4,.pt 0 0),(5,.pt 1 0),(6,dI .i64 x1),(10,dI .i64 qx),(11,.pt 2 0),(15,.pt 3 0),(16,dI .i64 rR),(17,dI .u64 tU)]) fun (tU,KO)=>⟨[(0,dC ((cA 16 (cI .u32)).f Ce)),(1,dC ((cA 16 (cI .u32)).f (eb))),(2,dC ((cA 16 (cI .u32)).f Fo.1)),(3,dC ((cA 17 (cI .u32)).f KO))],[],4⟩) y) ?_ ?_
 replace h:=hy
 refine rs hx fun K hK=>?_
 iterate 4 refine sbi ?_
 obtain⟨Qx,hx31,h⟩:=ae h
 refine s1 (IH [3] rfl (CX hx31) (fA (ax _) (fAG (ax _) (fA (ax _) (fA (ax _) (fA (ax _) fAn))))) (vC rfl wVn) wLn (rvC rvN) rfl rfl) ?_
 refine nl hK ?_
 refine cdh h rfl (fun hb32 h=>?_) (fun hb32 h=>?_)
 refine ra hx ?_
 refine rq hx fun K hK=>?_
 iterate 3 refine sbi ?_
 obtain⟨K7,Po,h⟩:=ae h
 refine s1 (IH [3] rfl (CY Po) (fA (ax _) (fAG (ax _) (fA (ax _) (fA (ax _) fAn)))) (vC rfl wVn) wLn (rvC rvN) rfl rfl) ?_
 refine nl hK ?_
 exact pe1 h h0 [0,1,2,3]
 exact AW.skip (pe1 h h0 [0,1,2,3])
 obtain⟨tU,KO⟩:=y
 refine lw0 ?_
 refine rq hx fun K hK=>?_
 iterate 3 refine sa ?_
 obtain⟨hc36,h⟩:=az h
 have hn37:(rR).toNat<16:=by omega
 refine sbi ?_
 refine s0 (yb (b':=u32.wrap (tU)) (bT.comp (bT.id _ _) (bT.vec (cI .u32) Ce (rR).toNat hn37) (fun _=>rfl)) bO) ?_
 refine nl hK ?_
 refine rb hx ?_
 exact pel h h0 [0,1,2,3]
 exact AW.exit (per h h0 [0,1,3])
 obtain⟨Ai,uL⟩:=y
 refine lw0 ?_
 refine rsd [193] hx fun K hK=>?_
 refine sbi ?_
 refine q1 (slA (n:=17) (l:=(0:Int)) (h:=(16:Int)) tok (by decide) C7 bO rfl ⟨_,rfl⟩) ?_
 refine q1 (sPtr tok rfl cQ) ?_
 refine s1 (d:=dG (cA 16 (cI .u32)) (vOf 16 (List.take 16 (List.drop 0 (uL).toList)))) (Ap (bT.sub (o:=0) 16 (cI .u32) uL 0 (by decide) (by first|rfl|decide)) cQ) ?_
 refine sa ?_
 obtain⟨K6,hx40,h⟩:=ae h
 refine sq tok (Hb hx40) (by simp only[j4,m9,iK,kQ,fM,cj];exact⟨dW _ _,rfl⟩) (lA (ro _ _) (lA (ax _) lAn)) (.inl (kG _ _)) ?_
 refine nbi hK ?_
 refine AW.ret ?_
 cases h
 exact rv2
def pT(aX:ap):Option ap:=bnd (cp [aX]) fun x1=>cnd (!x1) (bnd (ey) fun x4=>some x4) (bnd (bF false aX.vW) fun x6=>some x6)
theorem I9 {aX:ap}{r:ap}(h:pT aX=some r):ar prog 163 [dG aq aX] (dG aq r):=by
 refine bj (rs:=[.cell 2 41]) (fun cx hx h0=>?_) func163
 unfold pT at h
 refine rai hx ?_
 refine AW.seq (rs hx fun K hK=>?_)
 refine sbi ?_
 refine s1 (kT ([aX]:List ap) aq qf eY) ?_
 refine scb h eW fun x1 h=>?_
 refine nbi hK ?_
 refine cdh h rfl (fun fQ h=>?_) (fun fQ h=>?_)
 refine rs hx fun K hK=>?_
 refine scb h gZ fun x4 h=>?_
 refine nbi hK ?_
 exact AW.ret (rtv h)
 refine AW.skip (rs hx fun K hK=>?_)
 refine mbi ?_
 refine scb h da fun x6 h=>?_
 refine nbi hK ?_
 exact AW.ret (rtv h)
def iQ :Int×Int→Option ((Int×Int)⊕Int):=fun (bq,ml)=>cnd (decide (ml≠(0:Int))) (gd (ml≠0) (some (.inl (ml,Int.tmod bq ml)))) (some (.inr bq))
def cv(NE:ap→ap→Option ap)(aJ:ap)(aO:ap):Option ap:=bnd (cp [aJ,aO]) fun x1=>cnd (!x1) (bnd (ey) fun x4=>some x4) (bnd (S:=Bool) (bnd (eF aJ.vW) fun x6=>cnd (decide (x6≤(2:Int))) (bnd (eF aO.vW) fun x9=>some (decide (x9≤(2:Int)))) (some (false))) fun t0=>cnd t0 (bnd (some (ior .u64 (yz .u64 (u64.wrap ((aJ.vW)[((1:Int)).toNat]!)) (32:Int)) (u64.wrap ((aJ.vW)[((0:Int)).toNat]!)))) fun pI=>bnd (some (ior .u64 (yz .u64 (u64.wrap ((aO.vW)[((1:Int)).toNat]!)) (32:Int)) (u64.wrap ((aO.vW)[((0:Int)).toNat]!)))) fun vn=>bnd (bt (iQ) (pI,vn)) fun eH=>bnd (bF false (#v[u32.wrap (eH),u32.wrap (l5 .u64 eH (32:Int)),0,0,0,0,0,0,0,0,0,0,0,0,0,0])) fun E7=>some E7) (cnd (decide (¬(aO.vW=#v[(0:Int),0,0,0,0,0,0,0,0,0,0,0,0,0,0,0]))) (bnd (fF aJ.vW aO.vW) fun As=>bnd (bF false aO.vW) fun Cj=>bnd (bF false As.2) fun G9=>bnd (NE Cj G9) fun K7=>some K7) (bnd (pT aJ) fun za=>some za)))
theorem Fu {NE:ap→ap→Option ap}(ih:∀{aJ:ap} {aO:ap} {r:ap},NE aJ aO=some r→ar prog 122 [dG aq aJ,dG aq aO] (dG aq r)){aJ:ap}{aO:ap}{r:ap}(h:cv NE aJ aO=some r):ar prog 122 [dG aq aJ,dG aq aO] (dG aq r):=by
 refine bj (rs:=[.cell 4 41]) (fun cx hx h0=>?_) func122
 unfold cv at h
 refine rai hx ?_
 refine AW.seq (rs hx fun K hK=>?_)
 iterate 2 refine sbi ?_
 refine s1 (kT ([aJ,aO]:List ap) aq qf eY) ?_
 refine scb h eW fun x1 h=>?_
 refine nbi hK ?_
 refine cdh h rfl (fun fQ h=>?_) (fun fQ h=>?_)
 refine rs hx fun K hK=>?_
 refine scb h gZ fun x4 h=>?_
 refine nbi hK ?_
 exact AW.ret (rtv h)
 refine AW.skip ?_
 iterate 2 refine AW.seq ?_
 obtain⟨t0,hy,h⟩:=ae h
 refine jn ((PE cx .normal (fun t0=>[(2,.pt 0 0),(3,.pt 1 0),(4,.pt 2 0),(26,dB t0)]) fun t0=>⟨[(0,dC (aq.f aJ)),(1,dC (aq.f aO)),(2,dC (aq.f b8))],[],3⟩) t0) ?_ ?_
 replace h:=hy
 refine rq hx fun K hK=>?_
 refine mbi ?_
 refine scb h kB fun x6 h=>?_
 refine mbi ?_
 rcases aF h with⟨tH,h⟩|⟨tH,h⟩
 refine ga tH ?_
 refine gbi ?_
 refine gcb h kB fun x9 h=>?_
 refine nbi hK ?_
 exact pe1 h h0 [0,1,2]
 refine nbi hK ?_
 exact pe1 h h0 [0,1,2]
 refine lw0 ?_
 refine cdh h rfl (fun DS h=>?_) (fun DS h=>?_)
 refine rsd [] hx fun K hK=>?_
 refine sa ?_
 refine s1 (vm (by decide:0≤(1:Int)∧(1:Int)<((16:Nat):Int)) cQ bO) ?_
 iterate 4 refine sbi ?_
 refine s1 (vm (by decide:0≤(0:Int)∧(0:Int)<((16:Nat):Int)) cQ bO) ?_
 iterate 4 refine sbi ?_
 refine s1 (vm (by decide:0≤(1:Int)∧(1:Int)<((16:Nat):Int)) cQ bO) ?_
 iterate 4 refine sbi ?_
 refine s1 (vm (by decide:0≤(0:Int)∧(0:Int)<((16:Nat):Int)) cQ bO) ?_
 iterate 3 refine sbi ?_
 obtain⟨pI,vu,h⟩:=ae h
 replace vu:=bB vu
 refine s2 (d2:=dI .u64 pI) li (f7 (congrArg (dI .u64) vu)) ?_
 obtain⟨vn,FN,h⟩:=ae h
 replace FN:=bB FN
 refine s2 (d2:=dI .u64 vn) li (f7 (congrArg (dI .u64) FN)) ?_
 refine nl hK ?_
 refine AW.seq (AW.block ?_)
 obtain⟨eH,hy,h⟩:=ae h
 refine lp (S:=Int×Int) (X:=Int) (fun (bq,ml)=>[(4,.pt 0 0),(5,dI .u64 bq),(6,dI .u64 ml)]) (fun (bq,ml)=>⟨[(0,dC (aq.f b8))],[],1⟩) (PE cx (.exit 0) (fun eH=>[(4,.pt 0 0),(5,dI .u64 eH)]) fun eH=>⟨[(0,dC (aq.f b8))],[],1⟩) hy ?_ ?_ ?_
 exact wk0 h0 [2]
 clear hy h
 rintro⟨bq,ml⟩ y h
 dsimp only[iQ] at h
 refine AW.seq (ra hx ?_)
 refine cdh h rfl (fun DQ h=>?_) (fun DQ h=>?_)
 refine AW.skip (AW.block (rqd [] hx fun K hK=>?_))
 iterate 3 refine sa ?_
 obtain⟨PB,h⟩:=az h
 refine s1 (EQ PB) ?_
 refine nbi hK ?_
 exact pel h h0 [0]
 exact AW.exit (per h h0 [0])
 refine lw0 ?_
 refine rs hx fun K hK=>?_
 iterate 5 refine sa ?_
 refine s1 (d:=dG (cA 16 (cI .u32)) (#v[u32.wrap (eH),u32.wrap (l5 .u64 eH (32:Int)),0,0,0,0,0,0,0,0,0,0,0,0,0,0])) (mm cQ bO) ?_
 refine scb h da fun E7 h=>?_
 refine nbi hK ?_
 exact AW.ret (rtv h)
 refine AW.skip ?_
 iterate 2 refine AW.seq ?_
 refine jn (PE cx .normal (fun (_:Unit)=>[(2,.pt 0 0),(4,.pt 1 0),(7,.pt 2 0),(8,.pt 3 0)]) (fun (_:Unit)=>⟨[(0,dC (aq.f aJ)),(1,dC (aq.f b8)),(2,dC ((cA 16 (cI .u32)).f aJ.vW)),(3,dC ((cA 16 (cI .u32)).f aO.vW))],[],4⟩) ()) ?_ ?_
 refine dw (DW.split 4 5 (by decide) ?_ ?_)
 refine DW.split 3 6 (by decide) ?_ ?_
 refine dwg [] [0,1,2,3,4,5,6,7] hx (by kernel_rfl) (by kernel_rfl) (by kernel_rfl) fun K hK=>?_
 dsimp only[d8,mE,mP,List.map]
 iterate 6 refine sbi ?_
 iterate 2 refine tzi ?_
 exact .nil (hK _ _ (pe0 h0 [0,2,3,4]))
 refine dwg [] [0,1,2,4,5,6,3,7] hx (by kernel_rfl) (by kernel_rfl) (by kernel_rfl) fun K hK=>?_
 dsimp only[d8,mE,mP,List.map]
 iterate 5 refine sbi ?_
 refine tzi ?_
 refine sbi ?_
 refine tzi ?_
 exact .nil (hK _ _ (pe0 h0 [0,2,3,4]))
 refine DW.split 3 6 (by decide) ?_ ?_
 refine dwg [] [0,1,2,3,5,4,6,7] hx (by kernel_rfl) (by kernel_rfl) (by kernel_rfl) fun K hK=>?_
 dsimp only[d8,mE,mP,List.map]
 iterate 6 refine sbi ?_
 iterate 2 refine tzi ?_
 exact .nil (hK _ _ (pe0 h0 [0,2,4,3]))
 refine dwg [] [0,1,2,5,4,6,3,7] hx (by kernel_rfl) (by kernel_rfl) (by kernel_rfl) fun K hK=>?_
 dsimp only[d8,mE,mP,List.map]
 iterate 5 refine sbi ?_
 refine tzi ?_
 refine sbi ?_
 refine tzi ?_
 exact .nil (hK _ _ (pe0 h0 [0,2,4,3]))
 refine lw0 ?_
 refine rs hx fun K hK=>?_
 refine sbi ?_
 refine s1 (d:=dG (cA 16 (cI .u32)) (#v[(0:Int),0,0,0,0,0,0,0,0,0,0,0,0,0,0,0])) (mm cQ bO) ?_
 refine s1 (wP tok 2 (by decide) (EqC.arr (EqC.int (d:=0) bO) cQ bO) cQ) ?_
 refine nl hK ?_
 refine cdh h rfl (fun hb26 h=>?_) (fun hb26 h=>?_)
 refine rs hx fun K hK=>?_
 refine mbi ?_
 refine scb h th fun As h=>?_
 refine nbi hK ?_
 refine rsd [145,122] hx fun K hK=>?_
 refine mbi ?_
 refine cqb h da fun Cj h=>?_
 refine mbi ?_
 refine cqb h da fun G9 h=>?_
 refine cqb h ih fun K7 h=>?_
 refine nbi hK ?_
 exact AW.ret (rtv h)
 refine AW.skip (rs hx fun K hK=>?_)
 refine mbi ?_
 refine scb h I9 fun za h=>?_
 refine nbi hK ?_
 exact AW.ret (rtv h)
def g8:Nat→ap→ap→Option ap
 |0=>fun _ _=>none
 |n+1=>cv (g8 n)
theorem xE:∀(n:Nat) {aJ:ap} {aO:ap} {r:ap},g8 n aJ aO=some r→ar prog 122 [dG aq aJ,dG aq aO] (dG aq r)
 |0,_,_,_,h=>by cases h
 |n+1,_,_,_,h=>Fu (xE n) h
def nL(aJ:ap)(aO:ap):Option ap:=g8 1000 aJ aO
theorem vO {aJ:ap}{aO:ap}{r:ap}(h:nL aJ aO=some r):ar prog 122 [dG aq aJ,dG aq aO] (dG aq r):=xE 1000 h
def iN(aJ:ap)(aO:ap):Option (ap×ap):=bnd (S:=Bool) (bnd (cp [aJ,aO]) fun x1=>cnd (!x1) (some (true)) (bnd (eZ aO) fun x4=>some (decide (x4=(0:Int))))) fun dq=>cnd dq (bnd (ey) fun x8=>bnd (ey) fun mI=>some (x8,mI)) (bnd (S:=Unit⊕(ap×ap)) (bnd (lm aJ) fun nf=>bnd (S:=Bool) (cnd nf.2 (some (decide (nf.1≠(-9223372036854775808:Int)))) (some (false))) fun gD=>cnd gD (bnd (lm aO) fun pI=>bnd (S:=Bool) (cnd pI.2 (some (decide (pI.1≠(-9223372036854775808:Int)))) (some (false))) fun nQ=>cnd nQ (gd (pI.1≠0) (gd (pI.1≠0) (bnd (S:=Int×Int) (bnd (S:=Bool) (cnd (decide ((Int.tmod nf.1 pI.1)≠(0:Int))) (some (!((decide ((Int.tmod nf.1 pI.1)<(0:Int))) == (decide (pI.1<(0:Int)))))) (some (false))) fun rS=>cnd rS (bnd (some (i64.wrap ((i64.wrap (Int.tdiv nf.1 pI.1)) - (1:Int)))) fun As=>bnd (some (i64.wrap ((Int.tmod nf.1 pI.1)+pI.1))) fun Cj=>some ((As,Cj))) (some ((i64.wrap (Int.tdiv nf.1 pI.1),Int.tmod nf.1 pI.1)))) fun (j9,qw)=>bnd (gM j9) fun x32=>bnd (gM qw) fun x34=>some (.inr (x32,x34))))) (some (.inl ()))) (some (.inl ()))) fun y36=>match y36 with| .inl ()=>bnd (fF aJ.vW aO.vW) fun Ge=>bnd (bF (!(aJ.vNeg == aO.vNeg)) Ge.1) fun K6=>bnd (S:=(Vector Int 16)×ap) (bnd (S:=Bool) (cnd (decide (¬(Ge.2=#v[(0:Int),0,0,0,0,0,0,0,0,0,0,0,0,0,0,0]))) (some (!(aJ.vNeg == aO.vNeg))) (some (false))) fun Cb=>cnd Cb (bnd (gM (1:Int)) fun x44=>bnd (nJ K6 x44) fun x46=>bnd (g6 aO.vW Ge.2) fun x48=>some ((x48,x46))) (some ((Ge.2,K6)))) fun (EK,EJ)=>bnd (bF aO.vNeg EK) fun x51=>some (EJ,x51)| .inr r=>some r)
theorem uT {aJ:ap}{aO:ap}{r:ap×ap}(h:iN aJ aO=some r):ar prog 150 [dG aq aJ,dG aq aO] (.tu [dG aq r.1,dG aq r.2]):=by
 refine bj (rs:=[.cell 4 41,.cell 5 41]) (fun cx hx h0=>?_) func150
 unfold iN at h
 refine rai hx ?_
 iterate 2 refine AW.seq ?_
 obtain⟨dq,hy,h⟩:=ae h
 refine jn ((PE cx .normal (fun dq=>[(2,.pt 0 0),(3,.pt 1 0),(4,.pt 2 0),(5,.pt 3 0),(24,dB dq)]) fun dq=>⟨[(0,dC (aq.f aJ)),(1,dC (aq.f aO)),(2,dC (aq.f b8)),(3,dC (aq.f b8))],[],4⟩) dq) ?_ ?_
 replace h:=hy
 refine rq hx fun K hK=>?_
 iterate 2 refine sbi ?_
 refine s1 (kT ([aJ,aO]:List ap) aq qf eY) ?_
 refine scb h eW fun x1 h=>?_
 refine mbi ?_
 rcases aF h with⟨fQ,h⟩|⟨fQ,h⟩
 refine nbi hK ?_
 exact pe1 h h0 [0,1,2,3]
 refine gbi ?_
 refine gcb h kC fun x4 h=>?_
 refine nbi hK ?_
 exact pe1 h h0 [0,1,2,3]
 refine lw0 ?_
 refine cdh h rfl (fun tI h=>?_) (fun tI h=>?_)
 refine rs hx fun K hK=>?_
 refine scb h gZ fun x8 h=>?_
 refine scb h gZ fun mI h=>?_
 refine nbi hK ?_
 refine AW.ret ?_
 cases h
 exact rv2
 refine AW.skip (AW.seq ?_)
 obtain⟨y,hy,h⟩:=ae h
 refine jn ((PS (PE cx .normal (fun ()=>[(2,.pt 0 0),(3,.pt 1 0),(4,.pt 2 0),(5,.pt 3 0)]) fun ()=>⟨[(0,dC (aq.f aJ)),(1,dC (aq.f aO)),(2,dC (aq.f b8)),(3,dC (aq.f b8))],[],4⟩) (PR [.cell 4 41,.cell 5 41] fun r=>.tu [dG aq r.1,dG aq r.2])) y) ?_ ?_
 replace h:=hy
 refine rs hx fun K hK=>?_
 refine mbi ?_
 refine scb h xD fun nf h=>?_
 refine nbi hK ?_
 refine AW.seq ?_
 obtain⟨gD,hy,h⟩:=ae h
 refine jn ((PE cx .normal (fun gD=>[(2,.pt 0 0),(3,.pt 1 0),(4,.pt 2 0),(5,.pt 3 0),(6,dI .i64 nf.1),(36,dB gD)]) fun gD=>⟨[(0,dC (aq.f aJ)),(1,dC (aq.f aO)),(2,dC (aq.f b8)),(3,dC (aq.f b8))],[],4⟩) gD) ?_ ?_
 replace h:=hy
 refine rq hx fun K hK=>?_
 refine mbi ?_
 rcases aF h with⟨uq,h⟩|⟨uq,h⟩
 refine nbi hK ?_
 exact pe1 h h0 [0,1,2,3]
 refine nbi hK ?_
 exact pe1 h h0 [0,1,2,3]
 refine lw0 ?_
 refine cdh h rfl (fun ru h=>?_) (fun ru h=>?_)
 refine rs hx fun K hK=>?_
 refine mbi ?_
 refine scb h xD fun pI h=>?_
 refine nbi hK ?_
 refine AW.seq ?_
 obtain⟨nQ,hy,h⟩:=ae h
 refine jn ((PE cx .normal (fun nQ=>[(2,.pt 0 0),(3,.pt 1 0),(4,.pt 2 0),(5,.pt 3 0),(6,dI .i64 nf.1),(8,dI .i64 pI.1),(46,dB nQ)]) fun nQ=>⟨[(0,dC (aq.f aJ)),(1,dC (aq.f aO)),(2,dC (aq.f b8)),(3,dC (aq.f b8))],[],4⟩) nQ) ?_ ?_
 replace h:=hy
 refine rq hx fun K hK=>?_
 refine mbi ?_
 rcases aF h with⟨SL,h⟩|⟨SL,h⟩
 refine nbi hK ?_
 exact pe1 h h0 [0,1,2,3]
 refine nbi hK ?_
 exact pe1 h h0 [0,1,2,3]
 refine lw0 ?_
 refine cdh h rfl (fun DQ h=>?_) (fun DQ h=>?_)
 refine rsd [] hx fun K hK=>?_
 iterate 2 refine sa ?_
 obtain⟨PB,h⟩:=az h
 refine s1 (G2 PB) ?_
 iterate 2 refine sa ?_
 obtain⟨hc23,h⟩:=az h
 refine s1 (EQ hc23) ?_
 refine nbi hK ?_
 refine AW.seq ?_
 obtain⟨y,hy,h⟩:=ae h
 refine jn ((PE cx .normal (fun (j9,qw)=>[(4,.pt 0 0),(5,.pt 1 0),(10,dI .i64 j9),(11,dI .i64 qw)]) fun (j9,qw)=>⟨[(0,dC (aq.f b8)),(1,dC (aq.f b8))],[],2⟩) y) ?_ ?_
 replace h:=hy
 refine AW.seq ?_
 obtain⟨rS,hy,h⟩:=ae h
 refine jn ((PE cx .normal (fun rS=>[(4,.pt 0 0),(5,.pt 1 0),(8,dI .i64 pI.1),(10,dI .i64 (i64.wrap (Int.tdiv nf.1 pI.1))),(11,dI .i64 (Int.tmod nf.1 pI.1)),(61,dB rS)]) fun rS=>⟨[(0,dC (aq.f b8)),(1,dC (aq.f b8))],[],2⟩) rS) ?_ ?_
 replace h:=hy
 refine rq hx fun K hK=>?_
 refine mbi ?_
 rcases aF h with⟨SJ,h⟩|⟨SJ,h⟩
 refine nbi hK ?_
 exact pe1 h h0 [2,3]
 refine nbi hK ?_
 exact pe1 h h0 [2,3]
 refine lw0 ?_
 refine cdh h rfl (fun hb26 h=>?_) (fun hb26 h=>?_)
 refine rq hx fun K hK=>?_
 iterate 5 refine sa ?_
 obtain⟨As,HO,h⟩:=ae h
 replace HO:=bB HO
 refine s2 (d2:=dI .i64 As) li (f7 (congrArg (dI .i64) HO)) ?_
 obtain⟨Cj,RV,h⟩:=ae h
 replace RV:=bB RV
 refine s2 (d2:=dI .i64 Cj) li (f7 (congrArg (dI .i64) RV)) ?_
 refine nl hK ?_
 exact pe1 h h0 [0,1]
 exact AW.skip (pe1 h h0 [0,1])
 obtain⟨j9,qw⟩:=y
 refine lw0 ?_
 refine rs hx fun K hK=>?_
 refine sa ?_
 refine scb h qT fun x32 h=>?_
 refine sa ?_
 refine scb h qT fun x34 h=>?_
 refine nbi hK ?_
 refine AW.ret ?_
 cases h
 refine PS.r (PR.i ?_)
 exact rv2
 exact AW.skip (pel h h0 [0,1,2,3])
 exact AW.skip (pel h h0 [0,1,2,3])
 rcases y with⟨⟩|r
 rintro ex tm' hp' ⟨rfl,hw⟩
 refine AW.weak hw (rs hx fun K hK=>?_)
 refine mbi ?_
 refine scb h th fun Ge h=>?_
 refine nbi hK ?_
 refine rs hx fun K hK=>?_
 refine mbi ?_
 refine scb h da fun K6 h=>?_
 refine nbi hK ?_
 refine AW.seq ?_
 obtain⟨y,hy,h⟩:=ae h
 refine jn ((PE cx .normal (fun (EK,EJ)=>[(3,.pt 0 0),(4,.pt 1 0),(5,.pt 2 0),(13,.pt 3 0),(14,.pt 4 0)]) fun (EK,EJ)=>⟨[(0,dC (aq.f aO)),(1,dC (aq.f b8)),(2,dC (aq.f b8)),(3,dC ((cA 16 (cI .u32)).f EK)),(4,dC (aq.f EJ))],[],5⟩) y) ?_ ?_
 replace h:=hy
 refine AW.seq ?_
 obtain⟨Cb,hy,h⟩:=ae h
 refine jn ((PE cx .normal (fun Cb=>[(3,.pt 0 0),(4,.pt 1 0),(5,.pt 2 0),(13,.pt 3 0),(14,.pt 4 0),(95,dB Cb)]) fun Cb=>⟨[(0,dC (aq.f aO)),(1,dC (aq.f b8)),(2,dC (aq.f b8)),(3,dC ((cA 16 (cI .u32)).f Ge.2)),(4,dC (aq.f K6))],[],5⟩) Cb) ?_ ?_
 replace h:=hy
 refine rq hx fun K hK=>?_
 refine sbi ?_
 refine s1 (d:=dG (cA 16 (cI .u32)) (#v[(0:Int),0,0,0,0,0,0,0,0,0,0,0,0,0,0,0])) (mm cQ bO) ?_
 refine s1 (wP tok 2 (by decide) (EqC.arr (EqC.int (d:=0) bO) cQ bO) cQ) ?_
 refine sa ?_
 rcases aF h with⟨hb41,h⟩|⟨hb41,h⟩
 refine nbi hK ?_
 exact pe1 h h0 [1,2,3,5,6]
 refine nbi hK ?_
 exact pe1 h h0 [1,2,3,5,6]
 refine lw0 ?_
 refine cdh h rfl (fun hb43 h=>?_) (fun hb43 h=>?_)
 refine rqd [91,181,165] hx fun K hK=>?_
 refine mbi ?_
 refine cqb h qT fun x44 h=>?_
 refine cqb h I7 fun x46 h=>?_
 refine mbi ?_
 refine cqb h sP fun x48 h=>?_
 refine nbi hK ?_
 exact pe1 h h0 [0,1,2,3,4]
 exact AW.skip (pe1 h h0 [0,1,2,3,4])
 obtain⟨EK,EJ⟩:=y
 refine lw0 ?_
 refine rsd [145] hx fun K hK=>?_
 refine mbi ?_
 refine cqb h da fun x51 h=>?_
 refine nbi hK ?_
 refine AW.ret ?_
 cases h
 exact rv2
 rintro ex tm' hp' ⟨rfl,hw⟩
 cases h
 exact hw
def g7(aJ:ap)(aO:ap):Option ap:=bnd (iN aJ aO) fun x1=>some x1.1
theorem kg {aJ:ap}{aO:ap}{r:ap}(h:g7 aJ aO=some r):ar prog 97 [dG aq aJ,dG aq aO] (dG aq r):=by
 refine bj (rs:=[.cell 4 41]) (fun cx hx h0=>?_) func97
 unfold g7 at h
 refine rai hx ?_
 refine rs hx fun K hK=>?_
 refine mbi ?_
 refine scb h uT fun x1 h=>?_
 refine nbi hK ?_
 refine rai hx ?_
 exact AW.ret (rtv h)
def nK(aJ:ap)(aO:ap):Option ap:=bnd (iN aJ aO) fun x1=>some x1.2
theorem r9 {aJ:ap}{aO:ap}{r:ap}(h:nK aJ aO=some r):ar prog 98 [dG aq aJ,dG aq aO] (dG aq r):=by
 refine bj (rs:=[.cell 4 41]) (fun cx hx h0=>?_) func98
 unfold nK at h
 refine rai hx ?_
 refine rs hx fun K hK=>?_
 refine mbi ?_
 refine scb h uT fun x1 h=>?_
 refine nbi hK ?_
 refine rai hx ?_
 exact AW.ret (rtv h)
def pS(aJ:ap)(aO:ap):Option Int:=bnd (cp [aJ]) fun x1=>bnd (cp [aO]) fun x3=>bnd (S:=Bool) (cnd (!x1) (some (!x3)) (some (false))) fun P6=>cnd P6 (some (0:Int)) (cnd (!x1) (some (-1:Int)) (cnd (!x3) (some (1:Int)) (cnd (!(aJ.vNeg == aO.vNeg)) (cnd aJ.vNeg (some (-1:Int)) (some (1:Int))) (cnd aJ.vNeg (bnd (g5 aO.vW aJ.vW) fun qa=>some qa) (bnd (g5 aJ.vW aO.vW) fun I2=>some I2)))))
theorem I8 {aJ:ap}{aO:ap}{r:Int}(h:pS aJ aO=some r):ar prog 96 [dG aq aJ,dG aq aO] (dI .i64 r):=by
 refine bj (rs:=[.tmp 4]) (fun cx hx h0=>?_) func96
 unfold pS at h
 refine ra hx ?_
 refine rsd [147] hx fun K hK=>?_
 refine sbi ?_
 refine s1 (OG ([aJ]:List ap) aq qf eY) ?_
 refine cqb h eW fun x1 h=>?_
 refine sbi ?_
 refine s1 (OG ([aO]:List ap) aq qf eY) ?_
 refine cqb h eW fun x3 h=>?_
 refine nbi hK ?_
 refine AW.seq (AW.block (AW.seq ?_))
 obtain⟨P6,hy,h⟩:=ae h
 refine jn ((PE cx .normal (fun P6=>[(2,.pt 0 0),(3,.pt 1 0),(5,dB x1),(6,dB x3),(13,dB P6)]) fun P6=>⟨[(0,dC (aq.f aJ)),(1,dC (aq.f aO))],[],2⟩) P6) ?_ ?_
 replace h:=hy
 refine rq hx fun K hK=>?_
 refine mbi ?_
 rcases aF h with⟨rt,h⟩|⟨rt,h⟩
 refine nbi hK ?_
 exact pe1 h h0 [0,1]
 refine nbi hK ?_
 exact pe1 h h0 [0,1]
 refine lw0 ?_
 refine cdh h rfl (fun tI h=>?_) (fun tI h=>?_)
 refine ra hx ?_
 exact AW.ret (rtv h)
 refine ra hx ?_
 refine cdh h rfl (fun tH h=>?_) (fun tH h=>?_)
 refine ra hx ?_
 exact AW.ret (rtv h)
 refine ra hx ?_
 refine cdh h rfl (fun JW h=>?_) (fun JW h=>?_)
 refine ra hx ?_
 exact AW.ret (rtv h)
 refine rai hx ?_
 refine cdh h rfl (fun nq h=>?_) (fun nq h=>?_)
 refine AW.seq (rai hx ?_)
 refine cdh h rfl (fun xx h=>?_) (fun xx h=>?_)
 refine ra hx ?_
 exact AW.ret (rtv h)
 refine AW.skip (ra hx ?_)
 exact AW.ret (rtv h)
 refine rai hx ?_
 refine cdh h rfl (fun DS h=>?_) (fun DS h=>?_)
 refine rs hx fun K hK=>?_
 refine mbi ?_
 refine scb h pw fun qa h=>?_
 refine nbi hK ?_
 exact AW.ret (rtv h)
 refine AW.skip (rs hx fun K hK=>?_)
 refine mbi ?_
 refine scb h pw fun I2 h=>?_
 refine nbi hK ?_
 exact AW.ret (rtv h)
section
theorem vsub {b n A:Nat}(m o:Nat)(h:o+m≤n):vOf m (List.take m (List.drop o (vN b n A).toList))=vN b m (A / b ^ o):=by
 have hl:(List.take m (List.drop o (vN b n A).toList)).length=m:=by
  rw[ee,eV,nB];omega
 apply n4
 intro j hj
 rw[jt hj]
 have e1:=zp (vOf m (List.take m (List.drop o (vN b n A).toList))) hj
 rw[ym hl] at e1
 rw[←e1,bJ _ j (by omega),List.getElem_take,List.getElem_drop]
 have e2:=jt (b:=b) (A:=A) (j:=o+j) (n:=n) (by omega)
 rw[←zp (vN b n A) (by omega),bJ _ (o+j) (by rw[nB];omega)] at e2
 rw[e2]
 unfold dg
 rw[gX,gP]
section
variable {b R a B i k:Nat}
def rW(b R a B i k:Nat):Nat:=R % b ^ (i+k)+a*(B % b ^ k)*b ^ i
def yW(b R a B i k:Nat):Nat:=R / b ^ (i+k)*b ^ (i+k)+rW b R a B i k % b ^ (i+k)
theorem G3:rW b R a B i (k+1)=rW b R a B i k+b ^ (i+k)*(dg b R (i+k)+a*dg b B k):=by
 unfold rW
 rw[show i+(k+1)=i+k+1 from rfl,gQ,gQ (A:=B),uI,uI,bU,gX b i k]
 have:a*(b ^ k*dg b B k)*b ^ i=b ^ i*b ^ k*(a*dg b B k):=by
  simp only[eS,yP,bx]
 rw[this];omega
theorem OH(hb:0<b)(ha:a<b):rW b R a B i k / b ^ (i+k)<b:=by
 have hp:0<b ^ (i+k):=bL hb
 rw[lz hp]
 unfold rW
 have h1:=eg R hp
 have h2:a*(B % b ^ k)*b ^ i≤(b - 1)*b ^ (i+k):=by
  rw[gX,eS]
  refine kS (by omega) ?_
  rw[bx (b ^ i)]
  exact cG _ (mj (eg _ (bL hb)))
 have h3:(b - 1)*b ^ (i+k)+b ^ (i+k)=b*b ^ (i+k):=by
  rw[←qo];congr 1;omega
 omega
theorem Orow_dg(hb:0<b):dg b (yW b R a B i k) (i+k)=dg b R (i+k):=by
 unfold yW dg
 rw[bx (R / _),Ez (bL hb),eu (eg _ (bL hb)),iB]
theorem P9(hb:0<b):up1 b (yW b R a B i k) (i+k) (rW b R a B i (k+1) / b ^ (i+k) % b)=yW b R a B i (k+1):=by
 have hp:0<b ^ (i+k):=bL hb
 have e1:yW b R a B i k / b ^ (i+k+1)=R / b ^ (i+k+1):=by
  rw[cy,←gP,←gP]
  congr 1
  unfold yW
  rw[bx (R / _),Ez hp,eu (eg _ hp),iB]
 have e2:yW b R a B i k % b ^ (i+k)=rW b R a B i (k+1) % b ^ (i+k):=by
  rw[G3,BA]
  unfold yW
  rw[bx (R / _),Nat.mul_add_mod,Bz]
 unfold up1
 rw[e1,e2]
 show _=R / b ^ (i+k+1)*b ^ (i+k+1)+rW b R a B i (k+1) % b ^ (i+k+1)
 rw[gQ (A:=rW b R a B i (k+1)),bx (b ^ (i+k)) (dg _ _ _)]
 unfold dg
 omega
end
theorem Mul_row {A B i m:Nat}(hi:i<16)(hm:m≤16)(hB:B<4294967296 ^ m)(x y:ap)(hx:x.vW=W A)(hy:y.vW=W B):
  ∃c:Nat,c<4294967296∧∃O:Nat,bt (iO x y (m:Int) (i:Int)) ((0:Int),(0:Int),vN 4294967296 32 (A % 4294967296 ^ i*B))=some ((c:Int),vN 4294967296 32 O)∧up1 4294967296 O (i+m) c=A % 4294967296 ^ (i+1)*B:=by
 have hb:0<(4294967296:Nat):=by decide
 have hR:A % 4294967296 ^ i*B<4294967296 ^ (i+m):=by
  rw[gX]
  exact Nat.mul_lt_mul_of_lt_of_le (eg _ (bL hb)) (mj hB) (bL hb)
 generalize hRR:A % 4294967296 ^ i*B=R at hR ⊢
 have ha:=@dgl A i
 have hl:=rk (b:=iO x y (m:Int) (i:Int)) (s0:=((0:Int),(0:Int),vN 4294967296 32 R)) (fun k=>((rW 4294967296 R (dg 4294967296 A i) B i k / 4294967296 ^ (i+k):Nat),(k:Int),vN 4294967296 32 (yW 4294967296 R (dg 4294967296 A i) B i k))) m ((rW 4294967296 R (dg 4294967296 A i) B i m / 4294967296 ^ (i+m):Nat),vN 4294967296 32 (yW 4294967296 R (dg 4294967296 A i) B i m))
  (by
   have e1:rW 4294967296 R (dg 4294967296 A i) B i 0=R % 4294967296 ^ i:=by unfold rW;simp[mT]
   have e2:yW 4294967296 R (dg 4294967296 A i) B i 0=R:=by
    unfold yW;rw[e1,iB,Bz,bx];exact lD _ _
   rw[e1,e2,iB,eu (eg _ (bL hb))]
   rfl)
  (fun k hk=>by
   have hk16:k<16:=by omega
   have hc:=OH (b:=4294967296) (R:=R) (a:=dg 4294967296 A i) (B:=B) (i:=i) (k:=k) hb ha
   have hbk:=@dgl B k
   have hr:=@dgl R (i+k)
   have NT:dg 4294967296 A i*dg 4294967296 B k≤4294967295*4294967295:=kS (by omega) (by omega)
   have GB:rW 4294967296 R (dg 4294967296 A i) B i (k+1) / 4294967296 ^ (i+k)=rW 4294967296 R (dg 4294967296 A i) B i k / 4294967296 ^ (i+k)+(dg 4294967296 A i*dg 4294967296 B k+dg 4294967296 R (i+k)):=by
    rw[G3,yQ _ _ (bL hb),p6 (dg 4294967296 R (i+k))]
   have w7:rW 4294967296 R (dg 4294967296 A i) B i (k+1) / 4294967296 ^ (i+(k+1))=rW 4294967296 R (dg 4294967296 A i) B i (k+1) / 4294967296 ^ (i+k) / 4294967296:=by
    rw[gP,←cy];rfl
   have qN:=P9 (b:=4294967296) (R:=R) (a:=dg 4294967296 A i) (B:=B) (i:=i) (k:=k) hb
   rw[w7]
   generalize rW 4294967296 R (dg 4294967296 A i) B i (k+1) / 4294967296 ^ (i+k)=x1 at GB qN ⊢
   generalize rW 4294967296 R (dg 4294967296 A i) B i k / 4294967296 ^ (i+k)=c at GB hc ⊢
   have eik:i64.wrap ((i:Int)+(k:Int))=((i+k:Nat):Int):=by rw[bV];omega
   dsimp only[iO]
   rw[cw _ _,aC,aC,eik,aC,ab,aC,ab,bP,bP,bP,hx,hy,gE hi,gE hk16,jt (by omega),Orow_dg hb,
    ig (n:=dg 4294967296 A i) (by omega),ig (n:=dg 4294967296 B k) (by omega),ig (n:=dg 4294967296 R (i+k)) (by omega),←iJ,ig (n:=dg 4294967296 A i*dg 4294967296 B k) (by omega),←j6,ig,←j6,ig,←GB,xH,AC,Ax hb (eg _ hb) (by omega),qN,bV]
   rfl)
  (by
   dsimp only[iO]
   rw[cg _ _])
 refine⟨_,OH hb ha,_,hl,?_⟩
 have e1:rW 4294967296 R (dg 4294967296 A i) B i m=R+dg 4294967296 A i*B*4294967296 ^ i:=by
  unfold rW;rw[ej hR,ej hB]
 have e2:yW 4294967296 R (dg 4294967296 A i) B i m=rW 4294967296 R (dg 4294967296 A i) B i m % 4294967296 ^ (i+m):=by
  unfold yW;rw[eu hR,gv,bp]
 have hO:yW 4294967296 R (dg 4294967296 A i) B i m<4294967296 ^ (i+m):=by rw[e2];exact eg _ (bL hb)
 unfold up1
 rw[eu (bG hO (gY hb (jo _))),gv,bp,ej hO,e2,bx (_ / _),lD,e1,←hRR,gQ (A:=A),bU]
 congr 1
 simp only[eS,yP,bx]
theorem Uz {A B n m:Nat}(hn:n≤16)(hm:m≤16)(hA:A<4294967296 ^ n)(hB:B<4294967296 ^ m)(x y:ap)(hx:x.vW=W A)(hy:y.vW=W B):
  bt (iP x y (n:Int) (m:Int)) ((0:Int),Vector.replicate 32 (0:Int))=some (vN 4294967296 32 (A*B)):=by
 have hb:0<(4294967296:Nat):=by decide
 have hl:=rk (b:=iP x y (n:Int) (m:Int)) (s0:=((0:Int),Vector.replicate 32 (0:Int))) (fun i=>((i:Int),vN 4294967296 32 (A % 4294967296 ^ i*B))) n (vN 4294967296 32 (A % 4294967296 ^ n*B))
  (by simp only[fO,mT,gv,sh];rfl)
  (fun i hi=>by
   obtain⟨c,hc,O,h1,h2⟩:=Mul_row (i:=i) (by omega) hm hB x y hx hy
   have eim:i64.wrap ((i:Int)+(m:Int))=((i+m:Nat):Int):=by rw[bV];omega
   dsimp only[iP]
   rw[cw _ _,h1,ab]
   dsimp only
   rw[eim,aC,ab,bP,AB hc,Ax hb hc (by omega),h2,bV]
   rfl)
  (by
   dsimp only[iP]
   rw[cg _ _])
 rw[hl,ej hA]
theorem K4 {a c:Int}(ha:a.natAbs<LIM)(hc:c.natAbs<LIM):jc (enc a) (enc c)=some (enc (a*c)):=by
 obtain⟨n,hn,hn1,FQ⟩:=BE ha
 obtain⟨m,hm,hm1,Sq⟩:=BE hc
 have NT:a.natAbs*c.natAbs<4294967296 ^ 16*4294967296 ^ 16:=By ha hc
 unfold jc
 rw[uQ,ba ha,ba hc,ab]
 simp only[fM,cY,aH]
 rw[lM ha,lM hc,hn1,ab,hm1,ab,Uz hn hm FQ.1 Sq.1 (enc a) (enc c) (lM ha) (lM hc),ab,vsub 16 16 (by omega),vsub 16 0 (by omega),z16,jD ha,jD hc,fO,mS]
 have hq:a.natAbs*c.natAbs / 4294967296 ^ 16<LIM:=Iw NT
 have hz:(vN 4294967296 16 (a.natAbs*c.natAbs / 4294967296 ^ 16)=W 0)↔a.natAbs*c.natAbs<LIM:=by
  rw[EP hq xp,Ix (by decide)];rfl
 simp only[hz]
 by_cases h:a.natAbs*c.natAbs<LIM
 ·rw[cg _ _ (by simpa using h),jr h,ab]
  congr 2
  rcases Int.natAbs_eq a with e1|e1 <;> rcases Int.natAbs_eq c with e2|e2 <;> skip
  all_goals
   by_cases ha0:a<0 <;> by_cases hc0:c<0 <;> simp only[ha0,hc0,rP,rO,EA,cY,rN,j5,cond_false,Bool.true_beq,Bool.false_beq,iJ]
  all_goals (first|(exfalso;omega)|(have ea:(a.natAbs:Int)=a:=(by omega);have ec:(c.natAbs:Int)=c:=(by omega);rw[ea,ec])|(have ea:(a.natAbs:Int)=-a:=(by omega);have ec:(c.natAbs:Int)=c:=(by omega);rw[ea,ec,Ey,Int.neg_neg])|(have ea:(a.natAbs:Int)=a:=(by omega);have ec:(c.natAbs:Int)=-c:=(by omega);rw[ea,ec,Bx,Int.neg_neg])|(have ea:(a.natAbs:Int)=-a:=(by omega);have ec:(c.natAbs:Int)=-c:=(by omega);rw[ea,ec,Int.neg_mul_neg])|skip)
 ·rw[cw _ _ (by simpa using h),OR,ab,D0 (by rw[oy];exact h)]
end
theorem set16(x y:Int):(#v[x,y,0,0,0,0,0,0,0,0,0,0,0,0,0,0]:Vector Int 16)=((W 0).set! 0 x).set! 1 y:=by
 rw[←z16];rfl
theorem Ua {u:Nat}(hu:u<18446744073709551616):(#v[((u % 4294967296:Nat):Int),((u / 4294967296:Nat):Int),0,0,0,0,0,0,0,0,0,0,0,0,0,0]:Vector Int 16)=W u:=by
 have hb:0<(4294967296:Nat):=by decide
 have hx:u % 4294967296<4294967296:=eg _ hb
 have hy:u / 4294967296<4294967296:=by omega
 rw[set16]
 unfold W
 rw[Ax hb hx (by omega)]
 have e1:up1 4294967296 0 0 (u % 4294967296)=u % 4294967296:=by
  have:=Li (b:=4294967296) (A:=0) (p:=0) (x:=u % 4294967296)
  rw[lN (by decide)] at this
  omega
 have h:=Li (b:=4294967296) (A:=u % 4294967296) (p:=1) (x:=u / 4294967296)
 rw[lN (by rw[wE];exact hx),wE,gv,iB,Nat.mod_add_div'] at h
 rw[e1,Ax hb hy (by omega),h]
theorem Nc {n:Int}(h1:-9223372036854775808≤n)(h2:n≤9223372036854775807):gM n=some (enc n):=by
 have hu:n.natAbs<18446744073709551616:=by omega
 have hL:n.natAbs<LIM:=bG hu (by decide)
 have hc:cnd (decide (n<(0:Int))) (some (u64.wrap (0 - (u64.wrap n)))) (some (u64.wrap n))=some ((n.natAbs:Nat):Int):=by
  rw[fZ]
  split
  ·congr 1;rw[IntKind.wrap_u64,IntKind.wrap_u64];omega
  ·congr 1;rw[IntKind.wrap_u64];omega
 unfold gM
 rw[hc,ab,AC,xH,AB,Ua hu,jr hL,ab]
 congr 2
 by_cases h:n<0
 ·simp only[h,rP,j5];omega
 ·simp only[h,rO,cond_false];omega
theorem yo {x k l:Nat}(hx:2 ^ k≤x)(h:szp 2 (x / 2 ^ k) l):szp 2 x (l+k):=by
 have hp:0<2 ^ k:=bL (by decide)
 have h0:0<x / 2 ^ k:=Ex hx hp
 have hl:0<l:=by
  rcases rJ l with h1|h1
  ·subst h1;have:=h.1;simp at this;omega
  ·exact h1
 refine⟨?_,fun _=>?_⟩
 ·rw[gX];exact (lz hp).1 h.1
 ·have:=h.2 hl
  rw[show l+k - 1=(l - 1)+k from by omega,gX]
  exact (pm hp).1 this
def JK:ByteArray:=⟨#[0,1,2,2,3,3,3,3,4,4,4,4,4,4,4,4,5,5,5,5,5,5,5,5,5,5,5,5,5,5,5,5,6,6,6,6,6,6,6,6,6,6,6,6,6,6,6,6,6,6,6,6,6,6,6,6,6,6,6,6,6,6,6,6,7,7,7,7,7,7,7,7,7,7,7,7,7,7,7,7,7,7,7,7,7,7,7,7,7,7,7,7,7,7,7,7,7,7,7,7,7,7,7,7,7,7,7,7,7,7,7,7,7,7,7,7,7,7,7,7,7,7,7,7,7,7,7,7,8,8,8,8,8,8,8,8,8,8,8,8,8,8,8,8,8,8,8,8,8,8,8,8,8,8,8,8,8,8,8,8,8,8,8,8,8,8,8,8,8,8,8,8,8,8,8,8,8,8,8,8,8,8,8,8,8,8,8,8,8,8,8,8,8,8,8,8,8,8,8,8,8,8,8,8,8,8,8,8,8,8,8,8,8,8,8,8,8,8,8,8,8,8,8,8,8,8,8,8,8,8,8,8,8,8,8,8,8,8,8,8,8,8,8,8,8,8,8,8,8,8,8,8,8,8,8,8]⟩
theorem Gz:∀y:Nat,y<256→(JK.data.toList.getD y 0).toNat≤8∧y<2 ^ (JK.data.toList.getD y 0).toNat∧(0<(JK.data.toList.getD y 0).toNat→2 ^ ((JK.data.toList.getD y 0).toNat - 1)≤y):=by decide +kernel
theorem Pg:JK.size=256:=by decide +kernel
theorem len_tab(y:Nat)(hy:y<256):∃l:Nat,sAt JK y=(l:Int)∧l≤8∧szp 2 y l:=
 ⟨_,rfl,(Gz y hy).1,(Gz y hy).2⟩
theorem UB(x:Int):mz x=bnd (S:=Int×Int) (cnd (decide ((65536:Int)≤x)) (some ((l5 .u32 x (16:Int),(16:Int)))) (some ((x,(0:Int))))) fun (bo,IF)=>bnd (S:=Int×Int) (cnd (decide ((256:Int)≤bo)) (some ((l5 .u32 bo (8:Int),i64.wrap (IF+(8:Int))))) (some ((bo,IF)))) fun (oU,EO)=>gd (0≤u8.wrap (oU)∧u8.wrap (oU)<(JK.size:Int)) (bnd (some (i64.wrap (EO+(i64.wrap (sAt JK (u8.wrap (oU)).toNat))))) fun x6=>some x6):=rfl
theorem u8n {n:Nat}(h:n<256):u8.wrap (n:Int)=(n:Int):=by
 rw[IntKind.wrap_u8];omega
theorem OP {x:Nat}(hx:x<4294967296):∃l:Nat,mz (x:Int)=some (l:Int)∧l≤32∧szp 2 x l:=by
 have h16:∃(y n:Nat),cnd (decide ((65536:Int)≤(x:Int))) (some ((l5 .u32 (x:Int) (16:Int),(16:Int)))) (some (((x:Int),(0:Int))))=some ((y:Int),(n:Int))∧y<65536∧n≤16∧∀l,szp 2 y l→szp 2 x (l+n):=by
  rw[fZ]
  split
  ·rename_i h
   exact⟨x / 2 ^ 16,16,by rw[show (16:Int)=((16:Nat):Int) from rfl,Ba .u32 x 16 (by decide)],by omega,by omega,fun l hl=>yo (by omega) hl⟩
  ·exact⟨x,0,rfl,by omega,by omega,fun l hl=>hl⟩
 obtain⟨y,n,e1,hy,hn,hs⟩:=h16
 have h8:∃(z m:Nat),cnd (decide ((256:Int)≤(y:Int))) (some ((l5 .u32 (y:Int) (8:Int),i64.wrap ((n:Int)+(8:Int))))) (some (((y:Int),(n:Int))))=some ((z:Int),(m:Int))∧z<256∧m≤24∧∀l,szp 2 z l→szp 2 x (l+m):=by
  rw[fZ]
  split
  ·rename_i h
   refine⟨y / 2 ^ 8,n+8,?_,by omega,by omega,fun l hl=>?_⟩
   ·rw[show (8:Int)=((8:Nat):Int) from rfl,Ba .u32 y 8 (by decide),bV];rfl
   ·rw[show l+(n+8)=(l+8)+n from by omega]
    exact hs _ (yo (by omega) hl)
  ·exact⟨y,n,rfl,by omega,by omega,hs⟩
 obtain⟨z,m,e2,hz,hm,K9⟩:=h8
 obtain⟨l,hl1,Fg,hl3⟩:=len_tab z hz
 refine⟨l+m,?_,by omega,K9 l hl3⟩
 rw[UB,e1,ab]
 dsimp only
 rw[e2,ab]
 dsimp only
 rw[u8n hz,Pg,aC ⟨by omega,by omega⟩,bP,hl1,bV (z:=(l:Int)) (by omega),bV,ab]
 congr 1
 omega
theorem G_Lead {x:Nat}(hx:x<4294967296):∃l:Nat,fx (x:Int)=some (((32 - l:Nat)):Int)∧l≤32∧szp 2 x l:=by
 obtain⟨l,h1,h2,h3⟩:=OP hx
 refine⟨l,?_,h2,h3⟩
 unfold fx
 rw[h1,ab,bV]
 congr 1
 omega
theorem G_Bits {a:Int}(ha:a.natAbs<LIM):∃l:Nat,l≤512∧oa (enc a)=some (l:Int)∧szp 2 a.natAbs l:=by
 obtain⟨n,hn,h1,h2⟩:=BE ha
 unfold oa
 rw[lM ha,h1,ab,uR,ba ha,ab,cY,aH,ab]
 cases n with
 |zero=>
  refine⟨0,by omega,?_,?_⟩
  ·rw[cw _ _];rfl
  ·have:=h2.1
   exact⟨by simpa using this,fun h=>by omega⟩
 |succ k=>
  have hk:k<16:=by omega
  rw[cg _ _,show i64.wrap (((k+1:Nat):Int) - 1)=(k:Int) from by rw[bV];omega,aC,bP,gE hk]
  obtain⟨l,h3,h4,h5⟩:=OP (x:=dg 4294967296 a.natAbs k) dgl
  have hd:dg 4294967296 a.natAbs k=a.natAbs / 2 ^ (32*k):=by
   unfold dg
   have e:(4294967296:Nat) ^ k=2 ^ (32*k):=by rw[Bw]
   rw[←e,ej]
   rw[lz (bL (by decide)),bx,←cy];exact h2.1
  have vd:2 ^ (32*k)≤a.natAbs:=by
   have:=h2.2 (by omega)
   rw[uH] at this
   rwa[Bw]
  refine⟨l+32*k,by omega,?_,?_⟩
  ·rw[h3,ab,show i64.wrap ((32:Int)*(k:Int))=((32*k:Nat):Int) from by rw[bV];omega,bV]
   congr 1;omega
  ·rw[hd] at h5;exact yo vd h5
theorem RB {A:Nat}(hA:A<18446744073709551616):ior .u64 (yz .u64 (u64.wrap ((W A)[((1:Int)).toNat]!)) (32:Int)) (u64.wrap ((W A)[((0:Int)).toNat]!))=(A:Int):=by
 have e1:(W A)[((1:Int)).toNat]! =(dg 4294967296 A 1:Int):=gE (by decide)
 have e0:(W A)[((0:Int)).toNat]! =(dg 4294967296 A 0:Int):=gE (by decide)
 have h1:=@dgl A 1
 have h0:=@dgl A 0
 rw[e1,e0,ig,ig,Jw h1,JM h0 h1]
 have e:dg 4294967296 A 1*4294967296+dg 4294967296 A 0=A:=by
  unfold dg
  rw[wE,fO,mS]
  omega
 rw[e]
theorem OO {a:Int}(ha:a.natAbs<LIM):lm (enc a)=some (if -9223372036854775808≤a∧a<9223372036854775808 then (a,true) else (0,false)):=by
 obtain⟨l,hl,h1,h2⟩:=G_Bits ha
 have e64:(2:Nat) ^ 64=18446744073709551616:=by decide
 have hl64:64<l↔¬a.natAbs<18446744073709551616:=by
  constructor
  ·intro h h3
   have:=Lk (b:=2) (by decide) h2 (k:=64) (by rw[e64];exact h3)
   omega
  ·intro h
   rcases d6 64 l with h3|h3
   ·exact h3
   ·have h4:=h2.1
    have h5:2 ^ l≤2 ^ 64:=gY (by decide) h3
    rw[e64] at h5
    exact absurd (bG h4 h5) h
 unfold lm
 rw[uR,ba ha,ab,cY,aH,h1,ab,ab]
 by_cases h:a.natAbs<18446744073709551616
 ·rw[cg _ _ (by have:=mt hl64.1 (fun hh=>hh h);omega),ab,lM ha,RB h,jD ha]
  by_cases hn:a<0
  ·simp only[hn,rP,gj,cY,aH,ab]
   by_cases h3:a.natAbs≤9223372036854775808
   ·rw[cw _ _,ai (by omega),show (0:Int) - (a.natAbs:Int)=a from by omega,IntKind.wrap_u64]
    rw[show i64.wrap (a % 18446744073709551616)=a from by rw[IntKind.wrap_i64];omega]
   ·rw[cg _ _,ah (by omega)]
  ·rw[bk hn,aH,ab,aH,rN,gj,ab]
   have ea:(a.natAbs:Int)=a:=by omega
   rw[ea]
   by_cases h3:a<9223372036854775808
   ·rw[cw _ _ h3,ai ⟨by omega,h3⟩,bV ⟨by omega,by omega⟩]
   ·rw[cg _ _ h3,ah (fun hh=>h3 hh.2)]
 ·rw[cw _ _ (by have:=hl64.2 h;omega),ah (by omega)]
def vF(n:Nat)(f:Nat→Nat):Vector Int n:=Vector.ofFn fun i=>(f i.val:Int)
theorem wb {n j:Nat}{f:Nat→Nat}(h:j<n):(vF n f)[j]! =(f j:Int):=by
 rw[bJ (vF n f) j h]
 unfold vF
 rw[MW]
theorem QK {n:Nat}{f g:Nat→Nat}(h:∀j,j<n→f j=g j):vF n f=vF n g:=by
 apply n4
 intro j hj
 rw[wb hj,wb hj,h j hj]
theorem vF_set {n p x:Nat}{f:Nat→Nat}:(vF n f).set! p (x:Int)=vF n (fun j=>if j=p then x else f j):=by
 apply n4
 intro j hj
 rw[pL hj,wb hj,wb hj]
 split <;> rfl
theorem vF_dg {b n A:Nat}:vF n (dg b A)=vN b n A:=rfl
theorem HY {X V n d:Nat}(hn:2≤n)(hV:2147483648*4294967296 ^ (n - 1)≤V)(hX:X<V*4294967296)
  (DL:min (X / 4294967296 ^ (n - 2) / (V / 4294967296 ^ (n - 2))) 4294967295≤d) (NX:d*(V / 4294967296 ^ (n - 2))≤X / 4294967296 ^ (n - 2)):X / V≤d∧d≤X / V+1:=by
 have hp:0<4294967296 ^ (n - 2):=bL (by decide)
 have e1:(4294967296:Nat) ^ (n - 1)=4294967296 ^ (n - 2)*4294967296:=by rw[←cy];congr 1;omega
 rw[e1] at hV
 generalize 4294967296 ^ (n - 2)=P at*
 have Fm:0<V:=bG (xY (by decide) (xY hp (by decide))) hV
 have R0:2147483648*4294967296≤V / P:=by
  rw[pm hp]
  calc 2147483648*4294967296*P=2147483648*(P*4294967296):=by rw[eS,bx 4294967296 P]
   _≤V:=hV
 have hv20:0<V / P:=by omega
 have hVP:=lD V P
 have hVm:=eg V hp
 have hXP:=lD X P
 have hXm:=eg X hp
 have hq1:X / V≤X / P / (V / P):=by
  rw[gP]
  refine Nat.div_le_div_left ?_ (xY hp hv20)
  omega
 have hq2:X / V<4294967296:=(lz Fm).2 (by rw[bx];exact hX)
 refine⟨by omega,?_⟩
 -- d V is not much more than X
 have CJ:d*(V / P)*P≤X:=by
  have:=cG P NX
  rw[bx (X / P)] at this
  omega
 have hXP2:X / P<(V / P+1)*4294967296:=by
  rw[lz hp]
  have h1:V<(V / P+1)*P:=by rw[bU,eT,bx (V / P)];omega
  calc X<V*4294967296:=hX
   _≤(V / P+1)*P*4294967296:=cG _ (mj h1)
   _=(V / P+1)*4294967296*P:=by rw[eS,bx P,←eS]
 have hdb:d≤4294967296:=by
  rcases d6 4294967296 d with h|h
  ·have:4294967297*(V / P)≤d*(V / P):=cG _ h
   omega
  ·exact h
 have h2:d*(V % P)≤4294967296*P:=kS hdb (mj hVm)
 have h3:d*V=d*(V / P)*P+d*(V % P):=by
  conv=>lhs;rw[←hVP]
  rw[uI,bx P,eS]
 have h4:d*V≤X+V:=by
  rw[h3]
  have h6:4294967296*P≤V:=by
   refine dA ?_ hV
   rw[bx P,←eS]
   exact cG _ (by decide)
  exact Nat.add_le_add CJ (dA h2 h6)
 rcases rJ d with h0|h0
 ·rw[h0];exact cl _
 ·have h5:(d - 1)*V≤X:=by rw[Nat.sub_mul,eT];omega
  have:=(pm Fm).2 h5
  omega
theorem gA1 {y r u z:Nat}(h:r*4294967296+u<z):(y+r)*4294967296+u<y*4294967296+z:=by
 rw[bU,xz];exact EC h _
theorem gA2 {y r u z:Nat}(h:z≤r*4294967296+u):y*4294967296+z≤(y+r)*4294967296+u:=by
 rw[bU,xz];exact Nat.add_le_add_left h _
theorem gA3 {y r u z:Nat}(h:4294967296≤r)(hz:z≤4294967295*4294967295):y*4294967296+z≤(y+r)*4294967296+u:=by
 have h1:z≤r*4294967296:=dA hz (dA (kS (by decide) (by decide)) (cG _ h))
 rw[bU,xz]
 exact Nat.add_le_add_left (dA h1 (sK _ _)) _
theorem oP {n:Nat}(h:n≤34359738368:=by omega):n<18446744073709551616:=by omega
theorem lt64p {n:Nat}(h:n≤4294967295*4294967295):n<18446744073709551616:=by omega
theorem guessB {d r f x0 x1:Nat}(h:d*f+r=x0*4294967296+x1)(hf:2147483648≤f)(h0:x0<4294967296)(h1:x1<4294967296):d≤8589934592:=by
 have:=Ad d hf
 omega
theorem guessT {x0 x1 f:Nat}(h0:x0<4294967296)(h1:x1<4294967296):(x0*4294967296+x1) / f<18446744073709551616:=
 dM (oz _ _) (by omega)
theorem G_guess {U V n j:Nat}(hn:2≤n)(hn16:n≤16)(hj:j+n≤16)(hV:2147483648*4294967296 ^ (n - 1)≤V)(FX:V<4294967296 ^ n)(hU:U / 4294967296 ^ j<V*4294967296):
  ∃d:Nat,d<4294967296∧iM (W V) (n:Int) (j:Int) (vN 4294967296 17 U)=some (d:Int)∧U / 4294967296 ^ j / V≤d∧d≤U / 4294967296 ^ j / V+1:=by
 have hb:0<(4294967296:Nat):=by decide
 generalize hX:U / 4294967296 ^ j=X at hU
 -- rY digits that it looks at
 have du:∀i,dg 4294967296 U (j+i)=dg 4294967296 X i:=fun i=>by
  unfold dg;rw[←hX,gP,←gX]
 have hXlt:X<4294967296 ^ (n+1):=by
  rw[cy];exact bG hU (cG _ (mj FX))
 have s1:=cr (b:=4294967296) (A:=X) (k:=n - 2)
 have s2:=cr (b:=4294967296) (A:=X) (k:=n - 1)
 have s3:=cr (b:=4294967296) (A:=X) (k:=n)
 rw[eu hXlt,gv,bp] at s3
 rw[show n - 2+1=n - 1 from by omega] at s1
 rw[show n - 1+1=n from by omega,s3] at s2
 have w1:=cr (b:=4294967296) (A:=V) (k:=n - 2)
 have w2:=cr (b:=4294967296) (A:=V) (k:=n - 1)
 rw[show n - 2+1=n - 1 from by omega] at w1
 rw[show n - 1+1=n from by omega,eu FX,gv,bp] at w2
 have Fb:=@dgl X n
 have GB:=@dgl X (n - 1)
 have w7:=@dgl X (n - 2)
 have hv1:=@dgl V (n - 1)
 have R0:=@dgl V (n - 2)
 have LZ:2147483648≤dg 4294967296 V (n - 1):=by
  rw[←w2,pm (bL hb)];exact hV
 -- rY two highest digits against rY highest one
 have hp:0<4294967296 ^ (n - 2):=bL hb
 have htop:X / 4294967296 ^ (n - 1)≤V / 4294967296 ^ (n - 2):=by
  have e1:(4294967296:Nat) ^ (n - 1)=4294967296 ^ (n - 2)*4294967296:=by rw[←cy];congr 1;omega
  have h1:X / 4294967296 ^ (n - 1)*4294967296 ^ (n - 1)≤X:=MQ _ _
  rw[pm hp]
  rw[e1] at h1
  have h2:X / 4294967296 ^ (n - 1)*4294967296 ^ (n - 2)*4294967296<V*4294967296:=by
   rw[eS]
   exact dM (by rw[e1];exact h1) hU
  exact mj (Nat.lt_of_mul_lt_mul_right h2)
 rw[s2,w1,w2] at htop
 obtain⟨x,hl,d,rfl,hdb,DL,NX⟩:=u9 (b:=jB (W V) (n:Int) (j:Int) (vN 4294967296 17 U) ((dg 4294967296 V (n - 1):Nat):Int)) (fun s=>∃d r:Nat,s=((d:Int),(r:Int))∧d*dg 4294967296 V (n - 1)+r=X / 4294967296 ^ (n - 1)∧min (X / 4294967296 ^ (n - 2) / (V / 4294967296 ^ (n - 2))) 4294967295≤d) (fun s=>4294967296 - s.2.toNat)
  (fun x=>∃d:Nat,x=(d:Int)∧d<4294967296∧min (X / 4294967296 ^ (n - 2) / (V / 4294967296 ^ (n - 2))) 4294967295≤d∧d*(V / 4294967296 ^ (n - 2))≤X / 4294967296 ^ (n - 2))
  (by
   rintro s ⟨d,r,rfl,hdr,DL⟩
   have hmul:d*(V / 4294967296 ^ (n - 2))=d*dg 4294967296 V (n - 1)*4294967296+d*dg 4294967296 V (n - 2):=by
    rw[w1,w2,uI,eS]
   have hdB:d≤8589934592:=guessB (by rw[hdr,s2]) LZ Fb GB
   have ei2:i64.wrap ((n:Int) - (2:Int))=((n - 2:Nat):Int):=by rw[bV];omega
   have eij2:i64.wrap ((i64.wrap ((j:Int)+(n:Int))) - (2:Int))=((j+(n - 2):Nat):Int):=by rw[bV (z:=(j:Int)+(n:Int)) (by omega),bV];omega
   dsimp only[jB]
   by_cases hr:r<4294967296
   ·rw[cw _ _]
    by_cases hd:4294967296≤d
    ·left
     refine⟨(((d - 1:Nat):Int),((r+dg 4294967296 V (n - 1):Nat):Int)),?_,⟨d - 1,_,rfl,?_,by omega⟩,by show 4294967296 - (_:Nat)<4294967296 - (_:Nat);rw[bP,bP];omega⟩
     ·rw[cw _ _,ab,gj,show (d:Int) - 1=((d - 1:Nat):Int) from by omega,ig (oP),←j6,ig (oP)]
     ·rw[Nat.sub_mul,eT]
      have:dg 4294967296 V (n - 1)≤d*dg 4294967296 V (n - 1):=uG _ (by omega)
      omega
    ·have Fi:d*dg 4294967296 V (n - 2)≤4294967295*4294967295:=kS (by omega) (by omega)
     rw[cg _ _,ei2,aC,eij2,aC,bP,bP,jt (by omega),gE (by omega),du,ig (n:=dg 4294967296 X (n - 2)) (oP),ig (n:=dg 4294967296 V (n - 2)) (oP),Jw hr,JM w7 hr,←iJ,ig (lt64p Fi),ab]
     by_cases hc:r*4294967296+dg 4294967296 X (n - 2)<d*dg 4294967296 V (n - 2)
     ·left
      have vK:0<d:=by
       rcases rJ d with h|h
       ·subst h;omega
       ·exact h
      refine⟨(((d - 1:Nat):Int),((r+dg 4294967296 V (n - 1):Nat):Int)),?_,⟨d - 1,_,rfl,?_,?_⟩,by show 4294967296 - (_:Nat)<4294967296 - (_:Nat);rw[bP,bP];omega⟩
      ·rw[cw _ _,show (d:Int) - 1=((d - 1:Nat):Int) from by omega,ig (oP),←j6,ig (oP)]
      ·rw[Nat.sub_mul,eT]
       have:dg 4294967296 V (n - 1)≤d*dg 4294967296 V (n - 1):=uG _ vK
       omega
      ·have hgt:X / 4294967296 ^ (n - 2)<d*(V / 4294967296 ^ (n - 2)):=by rw[hmul,s1,←hdr];exact gA1 hc
       have:=(lz (x:=X / 4294967296 ^ (n - 2)) (y:=d) (k:=V / 4294967296 ^ (n - 2)) (by rw[w1,w2];omega)).2 hgt
       omega
     ·right
      refine⟨_,by rw[cg _ _],d,rfl,by omega,DL,?_⟩
      rw[hmul,s1,←hdr];exact gA2 (Nat.le_of_not_lt hc)
   ·right
    have hdlt:d<4294967296:=by
     rcases d6 d 4294967296 with h|h
     ·exact h
     ·have:4294967296*dg 4294967296 V (n - 1)≤d*dg 4294967296 V (n - 1):=cG _ h
      omega
    have Fi:d*dg 4294967296 V (n - 2)≤4294967295*4294967295:=kS (by omega) (by omega)
    refine⟨_,by rw[cg _ _,ab,aH],d,rfl,hdlt,DL,?_⟩
    rw[hmul,s1,←hdr];exact gA3 (Nat.le_of_not_lt hr) Fi)
  (((X / 4294967296 ^ (n - 1) / dg 4294967296 V (n - 1):Nat):Int),((X / 4294967296 ^ (n - 1) % dg 4294967296 V (n - 1):Nat):Int))
  ⟨_,_,rfl,by rw[bx];exact lD _ _,by
   have h0:X / 4294967296 ^ (n - 2) / (V / 4294967296 ^ (n - 2))≤X / 4294967296 ^ (n - 1) / dg 4294967296 V (n - 1):=by
    rw[pm (by omega)]
    have h1:=MQ (X / 4294967296 ^ (n - 2)) (V / 4294967296 ^ (n - 2))
    generalize X / 4294967296 ^ (n - 2) / (V / 4294967296 ^ (n - 2))=q at h1 ⊢
    rw[w1,w2,s1,uI,←eS] at h1
    generalize q*dg 4294967296 V (n - 1)=y at h1 ⊢
    omega
   omega⟩
 obtain⟨h1,h2⟩:=HY hn hV hU DL NX
 refine⟨d,hdb,?_,h1,h2⟩
 have ejn:i64.wrap ((j:Int)+(n:Int))=((j+n:Nat):Int):=by rw[bV];omega
 have ejn1:i64.wrap (((j+n:Nat):Int) - (1:Int))=((j+(n - 1):Nat):Int):=by rw[bV];omega
 have en1:i64.wrap ((n:Int) - (1:Int))=((n - 1:Nat):Int):=by rw[bV];omega
 unfold iM
 rw[ejn,aC,ejn1,aC,en1,bP,bP,bP,jt (by omega),jt (by omega),gE (by omega),du,du,ig (n:=dg 4294967296 X n) (oP),ig (n:=dg 4294967296 X (n - 1)) (oP),ig (n:=dg 4294967296 V (n - 1)) (oP),Jw Fb,JM GB Fb,ab,aC,ab,aC,aC,←s8,←s7]
 rw[ig (guessT Fb GB),←s2,hl,ab]
def zL(j i U D p:Nat):Nat:=if p<j then dg 4294967296 U p else if p<j+i then dg 4294967296 D (p - j) else dg 4294967296 U p
theorem mix0 {j U D:Nat}:zL j 0 U D=dg 4294967296 U:=by
 funext p
 unfold zL
 split
 ·rfl
 ·rw[ah (by omega)]
theorem HE {j i U D:Nat}:zL j i U D (j+i)=dg 4294967296 U (j+i):=by
 unfold zL
 rw[ah (by omega),ah (by omega)]
theorem CH {n j i U D:Nat}:(vF n (zL j i U D)).set! (j+i) (dg 4294967296 D i:Int)=vF n (zL j (i+1) U D):=by
 rw[vF_set]
 apply QK
 intro p hp
 by_cases h:p=j+i
 ·subst h
  rw[ai rfl]
  unfold zL
  rw[ah (by omega),ai (by omega)]
  congr 1;omega
 ·rw[ah h]
  unfold zL
  by_cases h1:p<j
  ·rw[ai h1,ai h1]
  ·rw[ah h1,ah h1]
   by_cases h2:p<j+i
   ·rw[ai h2,ai (by omega)]
   ·rw[ah h2,ah (by omega)]
theorem NI {n j i U D:Nat}(hU:U<4294967296 ^ (i+j))(hD:D<4294967296 ^ i):vF n (zL j i U D)=vN 4294967296 n (D*4294967296 ^ j+U % 4294967296 ^ j):=by
 have hb:0<(4294967296:Nat):=by decide
 rw[←vF_dg]
 apply QK
 intro p _
 unfold zL
 by_cases h1:p<j
 ·rw[ai h1,←nt (A:=D*_+_) h1,MP,Bz,nt h1]
 ·rw[ah h1]
  have e:dg 4294967296 (D*4294967296 ^ j+U % 4294967296 ^ j) p=dg 4294967296 D (p - j):=by
   obtain⟨q,rfl⟩:∃q,p=j+q:=⟨p - j,by omega⟩
   unfold dg
   rw[gX,←gP,bx D,Ez (bL hb),eu (eg _ (bL hb)),iB,Nat.add_sub_cancel_left]
  rw[e]
  by_cases h2:p<j+i
  ·rw[ai h2]
  ·rw[ah h2,lN (bG hU (gY hb (by omega))),lN (bG hD (gY hb (by omega)))]
theorem Ks {D P i:Nat}:∃x:Nat,u64.wrap (u64.wrap ((dg 4294967296 (D+P) i:Int) - (dg 4294967296 P i:Int)) - (((D % 4294967296 ^ i+P % 4294967296 ^ i) / 4294967296 ^ i:Nat):Int))=(x:Int)∧x / 9223372036854775808=(D % 4294967296 ^ (i+1)+P % 4294967296 ^ (i+1)) / 4294967296 ^ (i+1)∧x % 4294967296=dg 4294967296 D i:=by
 have hc:=oh (b:=4294967296) (A:=D) (B:=P) (k:=i) (by decide)
 obtain⟨h1,h2⟩:=pp (b:=4294967296) (A:=D) (B:=P) (k:=i) (by decide)
 have ha:=@dgl D i
 have hb:=@dgl P i
 have hd:=@dgl (D+P) i
 generalize (D % 4294967296 ^ i+P % 4294967296 ^ i) / 4294967296 ^ i=c at h1 h2 hc ⊢
 generalize (D % 4294967296 ^ (i+1)+P % 4294967296 ^ (i+1)) / 4294967296 ^ (i+1)=c' at h2 ⊢
 rw[IntKind.wrap_u64,IntKind.wrap_u64]
 exact⟨((((dg 4294967296 (D+P) i:Int) - (dg 4294967296 P i:Int)) % 18446744073709551616 - (c:Int)) % 18446744073709551616).toNat,by omega,by omega,by omega⟩
theorem lt64m {c p d:Nat}(hc:c≤d)(hp:p<4294967296)(hd:d<4294967296):c+p*d<18446744073709551616:=by
 have h1:p*d≤4294967295*4294967295:=kS (by omega) (by omega)
 omega
theorem UI {U V D n j d:Nat}(hn16:n≤16)(hj:j+n≤16)(FX:V<4294967296 ^ n)(hU:U<4294967296 ^ (n+1+j))(hd:d<4294967296)(hD:D<4294967296 ^ (n+1))
  (Qs:D+V*d=U / 4294967296 ^ j+(if U / 4294967296 ^ j<V*d then 4294967296 ^ (n+1) else 0)):
  jL (W V) (n:Int) (j:Int) (d:Int) (vN 4294967296 17 U)=some (decide (U / 4294967296 ^ j<V*d),vN 4294967296 17 (D*4294967296 ^ j+U % 4294967296 ^ j)):=by
 have hb:0<(4294967296:Nat):=by decide
 generalize hZ:U / 4294967296 ^ j=Z at Qs ⊢
 have PJ:Z<4294967296 ^ (n+1):=by
  rw[←hZ];exact Iw (by rw[←gX,p6];exact hU)
 have dz:∀i,i<n+1→dg 4294967296 (D+V*d) i=dg 4294967296 U (j+i):=fun i hi=>by
  have e1:dg 4294967296 U (j+i)=dg 4294967296 Z i:=by
   unfold dg;rw[←hZ,gP,←gX]
  rw[e1,←nt (A:=D+V*d) hi,←nt (A:=Z) hi,Qs]
  split
  ·rw[Nat.add_mod_right]
  ·rw[iB]
 have hcle:∀i,V % 4294967296 ^ i*d / 4294967296 ^ i≤d:=fun i=>
  dA (MR (cG d (mj (eg V (bL hb))))) (by rw[MO _ (bL hb)];exact ay _)
 have hl:=rk (b:=i9 (W V) (n:Int) (j:Int) (d:Int)) (s0:=((0:Int),(0:Int),(0:Int),vN 4294967296 17 U)) (fun i=>((V % 4294967296 ^ i*d / 4294967296 ^ i:Nat),((D % 4294967296 ^ i+V*d % 4294967296 ^ i) / 4294967296 ^ i:Nat),(i:Int),vF 17 (zL j i U D))) n ((V % 4294967296 ^ n*d / 4294967296 ^ n:Nat),((D % 4294967296 ^ n+V*d % 4294967296 ^ n) / 4294967296 ^ n:Nat),vF 17 (zL j n U D))
  (by simp only[fO,mT,gv,Nat.zero_div,mix0];rfl)
  (fun i hi=>by
   obtain⟨h1,h2⟩:=Gw (b:=4294967296) (A:=V) (k:=i) (m:=d) hb
   obtain⟨x,GB,w7,hx3⟩:=Ks (D:=D) (P:=V*d) (i:=i)
   have bH:=lt64m (hcle i) (@dgl V i) hd
   have hp:=@dgl (V*d) i
   have hz:=@dgl U (j+i)
   have hv:=@dgl V i
   have eij:i64.wrap ((j:Int)+(i:Int))=((j+i:Nat):Int):=by rw[bV];omega
   rw[dz i (by omega)] at GB
   have hvd:dg 4294967296 V i*d<18446744073709551616:=dM (Nat.le_add_left _ _) bH
   dsimp only[i9]
   rw[cw _ _,aC,ab,eij,aC,ab,aC,ab,bP,bP,gE (by omega),wb (by omega),HE,ig (n:=dg 4294967296 V i) (oP),←iJ,bx d,ig hvd,←j6,ig bH,AC,h1,xH,h2,ig (n:=dg 4294967296 (V*d) i) (oP),ig (n:=dg 4294967296 U (j+i)) (oP),GB,Q1,w7,AC,hx3,CH,bV]
   rfl)
  (by
   dsimp only[i9]
   rw[cg _ _])
 obtain⟨x,GB,w7,hx3⟩:=Ks (D:=D) (P:=V*d) (i:=n)
 have hP:V*d<4294967296 ^ (n+1):=by
  rw[cy];exact By FX hd
 have CK:V % 4294967296 ^ n*d / 4294967296 ^ n=dg 4294967296 (V*d) n:=by
  rw[ej FX]
  unfold dg
  rw[ej]
  exact Iw (by rw[←cy];exact hP)
 have hbor:(D % 4294967296 ^ (n+1)+V*d % 4294967296 ^ (n+1)) / 4294967296 ^ (n+1)=if Z<V*d then 1 else 0:=by
  rw[ej hD,ej hP,Qs]
  split
  ·rw[Nat.add_div_right _ (bL hb),eu PJ]
  ·rw[iB,eu PJ]
 have ejn:i64.wrap ((j:Int)+(n:Int))=((j+n:Nat):Int):=by rw[bV];omega
 have hz:=@dgl U (j+n)
 rw[dz n (by omega)] at GB
 unfold jL
 rw[hl,ab]
 dsimp only
 rw[ejn,aC,ab,aC,ab,bP,wb (by omega),HE,ig (n:=dg 4294967296 U (j+n)) (oP),CK,GB,Q1,w7,AC,hx3,CH,NI hU hD,hbor]
 congr 2
 by_cases h:Z<V*d
 ·simp[h]
 ·simp[h]
theorem G_give {U V D n j:Nat}(hn16:n≤16)(hj:j+n≤16)(FX:V<4294967296 ^ n)(hU:U<4294967296 ^ (n+1+j))(hD:D=(U / 4294967296 ^ j+V) % 4294967296 ^ (n+1)):
  jP (W V) (n:Int) (j:Int) (vN 4294967296 17 U)=some (vN 4294967296 17 (D*4294967296 ^ j+U % 4294967296 ^ j)):=by
 have hb:0<(4294967296:Nat):=by decide
 have hDlt:D<4294967296 ^ (n+1):=by rw[hD];exact eg _ (bL hb)
 generalize hZ:U / 4294967296 ^ j=Z at hD
 have dz:∀i,dg 4294967296 U (j+i)=dg 4294967296 Z i:=fun i=>by
  unfold dg;rw[←hZ,gP,←gX]
 have dD:∀i,i<n+1→dg 4294967296 (Z+V) i=dg 4294967296 D i:=fun i hi=>by rw[hD,nt hi]
 have hl:=rk (b:=jb (W V) (n:Int) (j:Int)) (s0:=((0:Int),(0:Int),vN 4294967296 17 U)) (fun i=>(((Z % 4294967296 ^ i+V % 4294967296 ^ i) / 4294967296 ^ i:Nat),(i:Int),vF 17 (zL j i U D))) n (((Z % 4294967296 ^ n+V % 4294967296 ^ n) / 4294967296 ^ n:Nat),vF 17 (zL j n U D))
  (by simp only[fO,mT,mix0];rfl)
  (fun i hi=>by
   have hc:=oh (b:=4294967296) (A:=Z) (B:=V) (k:=i) hb
   obtain⟨h1,h2⟩:=pp (b:=4294967296) (A:=Z) (B:=V) (k:=i) hb
   have hz:=@dgl Z i
   have hv:=@dgl V i
   have eij:i64.wrap ((j:Int)+(i:Int))=((j+i:Nat):Int):=by rw[bV];omega
   generalize (Z % 4294967296 ^ i+V % 4294967296 ^ i) / 4294967296 ^ i=c at h1 h2 hc ⊢
   generalize (Z % 4294967296 ^ (i+1)+V % 4294967296 ^ (i+1)) / 4294967296 ^ (i+1)=c' at h2 ⊢
   dsimp only[jb]
   rw[cw _ _,eij,aC,aC,ab,aC,ab,bP,bP,gE (by omega),wb (by omega),HE,dz,ig (n:=dg 4294967296 V i) (oP),ig (n:=dg 4294967296 Z i) (oP),←j6,ig (oP),←j6,ig (oP),←xz,xH,AC,h1,h2,dD i (by omega),CH,bV]
   rfl)
  (by
   dsimp only[jb]
   rw[cg _ _])
 have hc:=oh (b:=4294967296) (A:=Z) (B:=V) (k:=n) hb
 obtain⟨h1,h2⟩:=pp (b:=4294967296) (A:=Z) (B:=V) (k:=n) hb
 rw[lN FX,iB,dD n (by omega)] at h1
 have hz:=@dgl Z n
 have ejn:i64.wrap ((j:Int)+(n:Int))=((j+n:Nat):Int):=by rw[bV];omega
 unfold jP
 rw[hl,ab]
 dsimp only
 generalize (Z % 4294967296 ^ n+V % 4294967296 ^ n) / 4294967296 ^ n=c at h1 hc ⊢
 rw[ejn,aC,aC,ab,bP,wb (by omega),HE,dz,AB (n:=c) (by omega),←j6,p6 (dg 4294967296 Z n),AC,h1,CH,NI hU hDlt]
theorem O7 {U V n j:Nat}(hn:2≤n)(hj:j+n≤16)(hV:2147483648*4294967296 ^ (n - 1)≤V)(FX:V<4294967296 ^ n)(hU:U / 4294967296 ^ j<V*4294967296):
  (bnd (iM (W V) (n:Int) (j:Int) (vN 4294967296 17 U)) fun Le=>bnd (S:=Int×(Vector Int 17)) (bnd (jL (W V) (n:Int) (j:Int) Le (vN 4294967296 17 U)) fun Qx=>cnd Qx.1 (bnd (jP (W V) (n:Int) (j:Int) Qx.2) fun K7=>some ((u64.wrap (Le - (1:Int)),K7))) (some ((Le,Qx.2)))) fun y=>some y)=some (((U / 4294967296 ^ j / V:Nat):Int),vN 4294967296 17 (U / 4294967296 ^ j % V*4294967296 ^ j+U % 4294967296 ^ j))∧U / 4294967296 ^ j / V<4294967296:=by
 have hb:0<(4294967296:Nat):=by decide
 obtain⟨d,hdb,hg,CJ,xQ⟩:=G_guess hn (by omega) hj hV FX hU
 have Fm:0<V:=bG (xY (by decide) (bL hb)) hV
 have hp:0<4294967296 ^ j:=bL hb
 have PJ:U / 4294967296 ^ j<4294967296 ^ (n+1):=by
  rw[cy];exact bG hU (cG _ (mj FX))
 have hUlt:U<4294967296 ^ (n+1+j):=by
  rw[gX];exact (lz hp).1 PJ
 have hVd:V*d<4294967296 ^ (n+1):=by
  rw[cy];exact By FX hdb
 have hq:U / 4294967296 ^ j / V<4294967296:=by omega
 refine⟨?_,hq⟩
 have hm:=lD (U / 4294967296 ^ j) V
 have hml:=eg (U / 4294967296 ^ j) Fm
 rw[hg,ab]
 by_cases bH:U / 4294967296 ^ j<V*d
 ·-- one too many
  have hdq:d=U / 4294967296 ^ j / V+1:=by
   rcases d6 (U / 4294967296 ^ j / V) d with h|h
   ·omega
   ·have h1:V*d≤V*(U / 4294967296 ^ j / V):=Ad _ h
    omega
  have ht:=UI (U:=U) (V:=V) (D:=U / 4294967296 ^ j+4294967296 ^ (n+1) - V*d) (n:=n) (j:=j) (d:=d) (by omega) hj FX hUlt hdb (by omega) (by rw[ai bH];omega)
  rw[ht,aA bH,ab,gj]
  dsimp only
  generalize hD:U / 4294967296 ^ j+4294967296 ^ (n+1) - V*d=D
  have hDlt:D<4294967296 ^ (n+1):=by omega
  have e1:(D*4294967296 ^ j+U % 4294967296 ^ j) / 4294967296 ^ j=D:=by
   rw[bx,Ez hp,eu (eg _ hp),iB]
  have e2:(D*4294967296 ^ j+U % 4294967296 ^ j) % 4294967296 ^ j=U % 4294967296 ^ j:=by
   rw[MP,Bz]
  have e3:(D+V) % 4294967296 ^ (n+1)=U / 4294967296 ^ j % V:=by
   have:D+V=U / 4294967296 ^ j % V+4294967296 ^ (n+1):=by
    rw[hdq,uI,xZ] at hD bH
    omega
   rw[this,Nat.add_mod_right,ej]
   exact dM (Nat.mod_le _ _) PJ
  have hgv:=G_give (U:=D*4294967296 ^ j+U % 4294967296 ^ j) (V:=V) (D:=U / 4294967296 ^ j % V) (n:=n) (j:=j) (by omega) hj FX (by
   rw[gX]
   have h1:(D+1)*4294967296 ^ j≤4294967296 ^ (n+1)*4294967296 ^ j:=cG _ hDlt
   rw[bU,eT] at h1
   have:=eg U hp
   omega) (by rw[e1,e3])
  rw[hgv,ab,ab,e2,show ((d:Nat):Int) - 1=((U / 4294967296 ^ j / V:Nat):Int) from by omega,ig (oP)]
 ·have hdq:d=U / 4294967296 ^ j / V:=by
   have h1:d≤U / 4294967296 ^ j / V:=(pm Fm).2 (by rw[bx];omega)
   omega
  have ht:=UI (U:=U) (V:=V) (D:=U / 4294967296 ^ j % V) (n:=n) (j:=j) (d:=d) (by omega) hj FX hUlt hdb (dM (Nat.mod_le _ _) PJ) (by rw[ah bH,hdq];omega)
  rw[ht,bk bH,ab,aH,ab,hdq]
theorem Rg {U V n k:Nat}(hn:2≤n)(hk:k+n≤17)(hV:2147483648*4294967296 ^ (n - 1)≤V)(FX:V<4294967296 ^ n)(hU:U / 4294967296 ^ k<V)(y:Int):
  bt (eL (n:Int) (W V,y)) ((k:Int) - 1,W 0,vN 4294967296 17 U)=some (W (U / V),vN 4294967296 17 (U % V)):=by
 have hb:0<(4294967296:Nat):=by decide
 have Fm:0<V:=bG (xY (by decide) (bL hb)) hV
 have hl:=RC (b:=eL (n:Int) (W V,y)) (s0:=((k:Int) - 1,W 0,vN 4294967296 17 U)) (fun i=>((i:Int) - 1,vN 4294967296 16 (U / V / 4294967296 ^ i*4294967296 ^ i),vN 4294967296 17 (U / 4294967296 ^ i % V*4294967296 ^ i+U % 4294967296 ^ i))) k (vN 4294967296 16 (U / V / 4294967296 ^ 0*4294967296 ^ 0),vN 4294967296 17 (U / 4294967296 ^ 0 % V*4294967296 ^ 0+U % 4294967296 ^ 0))
  (by
   have e1:U / V / 4294967296 ^ k=0:=by
    rw[gP,bx,←gP,eu hU]
   have e2:U / 4294967296 ^ k % V*4294967296 ^ k+U % 4294967296 ^ k=U:=by
    rw[ej hU,bx];exact lD _ _
   rw[e1,e2,gv])
  (fun i hi=>by
   have hp:0<4294967296 ^ i:=bL hb
   obtain⟨h1,h2⟩:=yr (b:=4294967296) (A:=U) (k:=i) (d:=V) hb Fm
   have eR1:(U / 4294967296 ^ (i+1) % V*4294967296 ^ (i+1)+U % 4294967296 ^ (i+1)) / 4294967296 ^ i=U / 4294967296 ^ (i+1) % V*4294967296+dg 4294967296 U i:=by
    rw[gQ,cy,←eS,Ew,p6 (U % _),←xz,bx (4294967296 ^ i) (dg _ _ _),←bU,bx (_+_) (4294967296 ^ i),Ez hp,eu (eg _ hp),iB]
   have eR2:(U / 4294967296 ^ (i+1) % V*4294967296 ^ (i+1)+U % 4294967296 ^ (i+1)) % 4294967296 ^ i=U % 4294967296 ^ i:=by
    rw[gQ,cy,←eS,Ew,p6 (U % _),←xz,bx (4294967296 ^ i) (dg _ _ _),←bU,MP,Bz]
   have bH:(U / 4294967296 ^ (i+1) % V*4294967296 ^ (i+1)+U % 4294967296 ^ (i+1)) / 4294967296 ^ i<V*4294967296:=by
    rw[eR1]
    have h3:=eg (U / 4294967296 ^ (i+1)) Fm
    have h4:(U / 4294967296 ^ (i+1) % V+1)*4294967296≤V*4294967296:=cG _ h3
    rw[bU,eT] at h4
    exact bG (EC dgl _) h4
   obtain⟨hq,hqb⟩:=O7 (j:=i) hn (by omega) hV FX bH
   rw[eR1,h1,h2,eR2] at hq
   rw[eR1,h1] at hqb
   have ei:((i+1:Nat):Int) - 1=(i:Int):=by omega
   dsimp only[eL]
   rw[ei,cw _ _]
   -- rY digit
   revert hq
   generalize vN 4294967296 17 (U / 4294967296 ^ (i+1) % V*4294967296 ^ (i+1)+U % 4294967296 ^ (i+1))=uv
   intro hq
   obtain⟨d,e1,hq⟩:=ae hq
   rw[uz] at hq
   rw[e1,ab,hq,ab]
   dsimp only
   rw[aC,bP,AB hqb,Nl hb (by omega),bV])
  (by
   dsimp only[eL]
   rw[cg _ _])
 rw[hl]
 simp only[fO,mS,xZ,mT,iB]
theorem build17 {A s:Nat}(hA:A<LIM)(hs:s<32):(vOf 17 (lCp (Vector.replicate 17 (0:Int)).toList 0 (List.take 17 (List.take 16 (List.drop 0 (W (A*2 ^ s)).toList))))).set! ((16:Int)).toNat ((A % 4294967296 ^ 16*2 ^ s / 4294967296 ^ 16:Nat):Int)=vN 4294967296 17 (A*2 ^ s):=by
 have hb:0<(4294967296:Nat):=by decide
 have K9:2 ^ s≤2 ^ 31:=gY (by decide) (by omega)
 have hs3:0<2 ^ s:=bL (by decide)
 have hc:A % 4294967296 ^ 16*2 ^ s / 4294967296 ^ 16<2 ^ s:=AZ hb hs3
 have h16:(W (A*2 ^ s)).toList.length=16:=nB
 have hl:lCp (Vector.replicate 17 (0:Int)).toList 0 (List.take 17 (List.take 16 (List.drop 0 (W (A*2 ^ s)).toList)))=(W (A*2 ^ s)).toList++[0]:=by
  rw[qu,gU (i:=17) (by simp),gU (by simp)]
  unfold lCp
  rw[h16,Eh,nd]
  rfl
 have LY:((W (A*2 ^ s)).toList++[(0:Int)]).length=17:=by rw[cu,h16];rfl
 rw[hl]
 apply n4
 intro j hj
 rw[pL hj,jt hj]
 by_cases h:j=16
 ·subst h
  rw[ai (by rfl)]
  have Oc:A<4294967296 ^ 16:=hA
  rw[ej Oc] at hc ⊢
  unfold dg
  rw[ej (by omega)]
 ·rw[ah (by simpa using h),←zp (vOf 17 _) hj,ym LY,bJ _ j (by rw[LY];omega),List.getElem_append_left (by rw[h16];omega)]
  have e2:=jt (b:=4294967296) (A:=A*2 ^ s) (j:=j) (n:=16) (by omega)
  rw[←zp _ (by omega),bJ _ j (by rw[h16];omega)] at e2
  exact e2
theorem E3 {A B:Nat}(hA:A<LIM)(hB:B<LIM)(HX:0<B):fF (W A) (W B)=some (W (A / B),W (A % B)):=by
 have hb:0<(4294967296:Nat):=by decide
 obtain⟨n,hn,hn1,FQ,xw⟩:=BE hB
 obtain⟨m,hm,hm1,Sq,hm3⟩:=BE hA
 have hn0:0<n:=by
  rcases rJ n with h|h
  ·subst h;simp at FQ;omega
  ·exact h
 unfold fF
 rw[hn1,ab,hm1,ab,CU hA hB,ab]
 by_cases bH:A<B
 ·rw[cw _ _ (by unfold Hx;rw[ai bH];omega),ab,z16,eu bH,ej bH]
 ·rw[cg _ _ (by unfold Hx;rw[ah bH];split <;> omega)]
  by_cases h1:n=1
  ·subst h1
   have hBb:B<4294967296:=by simpa using FQ
   have e0:(W B)[((0:Int)).toNat]! =(B:Int):=by
    have:(W B)[((0:Int)).toNat]! =(dg 4294967296 B 0:Int):=gE (by decide)
    rw[this]
    unfold dg
    rw[fO,mS,ej hBb]
   have hr:A % B<4294967296:=Bv (eg _ HX) hBb
   rw[cw _ _,e0,G_short hA HX hBb,ab,ab]
   have:=Ua (u:=A % B) (by omega)
   rw[ej hr,eu hr] at this
   dsimp only
   rw[←this]
   rfl
  ·have h2:2≤n:=by omega
   have hk:n - 1<16:=by omega
   have hBd:B / 4294967296 ^ (n - 1)=dg 4294967296 B (n - 1):=by
    have:=cr (b:=4294967296) (A:=B) (k:=n - 1)
    rw[show n - 1+1=n from by omega,eu FQ,gv,bp] at this
    exact this
   obtain⟨l,hl1,Fg,hl3,hl4⟩:=G_Lead (x:=dg 4294967296 B (n - 1)) dgl
   have hp:0<4294967296 ^ (n - 1):=bL hb
   have CJ:1≤dg 4294967296 B (n - 1):=by rw[←hBd];exact (pm hp).2 (by rw[eT];exact xw hn0)
   have hl0:0<l:=by
    rcases rJ l with h|h
    ·subst h;simp at hl3;omega
    ·exact h
   have hl5:=hl4 hl0
   have hs:32 - l<32:=by omega
   have epow:2 ^ l*2 ^ (32 - l)=4294967296:=by rw[←gX,show l+(32 - l)=32 from by omega]
   have epow2:2 ^ (l - 1)*2 ^ (32 - l)=2147483648:=by rw[←gX,show l - 1+(32 - l)=31 from by omega]
   have hS:0<2 ^ (32 - l):=bL (by decide)
   have epn:(4294967296:Nat) ^ n=4294967296 ^ (n - 1)*4294967296:=by rw[←cy];congr 1;omega
   have hVlo:2147483648*4294967296 ^ (n - 1)≤B*2 ^ (32 - l):=by
    have h3:2 ^ (l - 1)*4294967296 ^ (n - 1)≤B:=(pm hp).1 (by rw[hBd];exact hl5)
    calc 2147483648*4294967296 ^ (n - 1)=2 ^ (l - 1)*4294967296 ^ (n - 1)*2 ^ (32 - l):=by rw[←epow2,Ew]
     _≤B*2 ^ (32 - l):=cG _ h3
   have hVhi:B*2 ^ (32 - l)<4294967296 ^ n:=by
    have h3:B<2 ^ l*4294967296 ^ (n - 1):=(lz hp).1 (by rw[hBd];exact hl3)
    calc B*2 ^ (32 - l)<2 ^ l*4294967296 ^ (n - 1)*2 ^ (32 - l):=MN h3 hS
     _=4294967296 ^ n:=by rw[Ew,epow,bx,←epn]
   have Fm:0<B*2 ^ (32 - l):=xY HX hS
   have hmn:n≤m:=by
    rcases d6 m n with h|h
    ·have h3:4294967296 ^ m≤4294967296 ^ (n - 1):=gY hb (by omega)
     have h4:=xw hn0
     omega
    ·exact h
   have hUk:A*2 ^ (32 - l) / 4294967296 ^ (m - n+1)<B*2 ^ (32 - l):=by
    rw[lz (bL hb)]
    have h3:A<B*4294967296 ^ (m - n+1):=by
     have h4:4294967296 ^ (n - 1)*4294967296 ^ (m - n+1)≤B*4294967296 ^ (m - n+1):=cG _ (xw hn0)
     rw[←gX,show n - 1+(m - n+1)=m from by omega] at h4
     omega
    calc A*2 ^ (32 - l)<B*4294967296 ^ (m - n+1)*2 ^ (32 - l):=MN h3 hS
     _=B*2 ^ (32 - l)*4294967296 ^ (m - n+1):=Ew _ _ _
   have eidx:i64.wrap ((m:Int) - (n:Int))=((m - n+1:Nat):Int) - 1:=by rw[bV];omega
   rw[cg _ _,show i64.wrap ((n:Int) - 1)=((n - 1:Nat):Int) from by rw[bV];omega,aC,bP,gE hk,hl1,ab,G_up hs,ab,G_up hs,ab,ab]
   dsimp only
   rw[build17 hA hs,eidx,r16,Rg h2 (by omega) hVlo hVhi hUk,ab]
   dsimp only
   have hmod:A*2 ^ (32 - l) % (B*2 ^ (32 - l))<4294967296 ^ 16:=bG (eg _ Fm) (dA (mj hVhi) (gY hb hn))
   rw[vsub 16 0 (by omega),fO,mS,G_down hmod hs,ab,Nat.mul_mod_mul_right,MM _ hS,Nat.mul_div_mul_right _ _ hS]
theorem zZ(x y:Nat):Nat.gcd x y=Nat.gcd y (x % y):=by
 rw[Nat.gcd_comm x y,Nat.gcd_rec,Nat.gcd_comm]
theorem UH(x y:Nat):bt iQ ((x:Int),(y:Int))=some ((Nat.gcd x y:Nat):Int):=by
 induction y using Nat.strongRecOn generalizing x with
 |_ y ih=>
  by_cases hy:y=0
  ·subst hy
   rw[Iv]
   exact nF (by dsimp only[iQ];rw[cg _ _ (by simp)])
  ·have h1:iQ ((x:Int),(y:Int))=some (.inl ((y:Int),((x % y:Nat):Int))):=by
    dsimp only[iQ]
    rw[cw _ _,aC,←s7]
   rw[o6 h1,ih (x % y) (eg _ (by omega)) y,←zZ]
theorem wg {A:Nat}(hA:A<LIM):∃n:Nat,eF (W A)=some (n:Int)∧(n≤2↔A<18446744073709551616):=by
 obtain⟨n,hn,h1,h2⟩:=BE hA
 have e:(4294967296:Nat) ^ 2=18446744073709551616:=by decide
 refine⟨n,h1,fun h=>?_,fun h=>Lk (by decide) h2 (by rw[e];exact h)⟩
 have h3:4294967296 ^ n≤4294967296 ^ 2:=gY (by decide) h
 rw[e] at h3
 exact bG h2.1 h3
theorem G_Abs {a:Int}(ha:a.natAbs<LIM):pT (enc a)=some (enc (a.natAbs:Int)):=by
 unfold pT
 rw[uR,ba ha,ab,cY,aH,lM ha,jr ha,ab]
 rfl
theorem xq {a c:Int}(ha:a.natAbs<LIM)(hc:c.natAbs<LIM)(h1:a.natAbs<18446744073709551616)(h2:c.natAbs<18446744073709551616)(p:ap→ap→Option ap):
  cv p (enc a) (enc c)=some (enc (Nat.gcd a.natAbs c.natAbs:Nat)):=by
 obtain⟨n,hn1,FQ⟩:=wg ha
 obtain⟨m,hm1,Sq⟩:=wg hc
 have hg:Nat.gcd a.natAbs c.natAbs<18446744073709551616:=by
  rcases rJ a.natAbs with h|h
  ·rw[h,ML];exact h2
  ·exact dM (Bu _ h) h1
 have hgL:Nat.gcd a.natAbs c.natAbs<LIM:=bG hg (by decide)
 unfold cv
 rw[uQ,ba ha,ba hc,ab]
 simp only[fM,cY,aH,lM ha,lM hc]
 rw[hn1,ab,cw _ _ (by have:=FQ.2 h1;omega),hm1,ab,ab,cw _ _ (by have:=Sq.2 h2;omega),RB h1,RB h2,ab,ab,UH,ab,AC,xH,AB,Ua hg,jr hgL,ab]
 rfl
theorem KY {a:Int}(ha:a.natAbs<LIM)(p:ap→ap→Option ap):cv p (enc a) (enc 0)=some (enc (Nat.gcd a.natAbs 0:Nat)):=by
 by_cases h1:a.natAbs<18446744073709551616
 ·exact xq ha (by decide) h1 (by decide) p
 ·obtain⟨n,hn1,FQ⟩:=wg ha
  have hc:(0:Int).natAbs<LIM:=by decide
  unfold cv
  rw[uQ,ba ha,ba hc,ab]
  simp only[fM,cY,aH,lM ha,lM hc]
  rw[hn1,ab,cg _ _ (by have:=mt FQ.1 h1;omega),ab,aH,cg _ _ (by rw[z16];exact fun h=>h rfl),G_Abs ha,ab,Iv]
theorem KZ {a c:Int}(ha:a.natAbs<LIM)(hc:c.natAbs<LIM)(h0:c.natAbs≠0)(h1:¬(a.natAbs<18446744073709551616∧c.natAbs<18446744073709551616))(p:ap→ap→Option ap):
  cv p (enc a) (enc c)=p (enc (c.natAbs:Int)) (enc ((a.natAbs % c.natAbs:Nat):Int)):=by
 obtain⟨n,hn1,FQ⟩:=wg ha
 obtain⟨m,hm1,Sq⟩:=wg hc
 have hr:a.natAbs % c.natAbs<LIM:=dM (Nat.mod_le _ _) ha
 unfold cv
 rw[uQ,ba ha,ba hc,ab]
 simp only[fM,cY,aH,lM ha,lM hc]
 rw[hn1,ab,hm1,ab]
 have JV:(cnd (decide ((n:Int)≤(2:Int))) (some (decide ((m:Int)≤(2:Int)))) (some (false)))=some false:=by
  rw[fZ]
  split
  ·rename_i h
   congr 1
   have h2:=FQ.1 (by omega)
   exact bk fun h3=>h1 ⟨h2,Sq.1 (by omega)⟩
  ·rfl
 rw[JV,ab,aH,z16,cw _ _ (by rw[EP hc xp];exact h0),E3 ha hc (by omega),ab,jr hc,ab]
 dsimp only
 rw[jr hr,ab,uz]
 rfl
theorem PF {x y:Nat}(hy:0<y)(hxy:y≤x):2*(y*(x % y))<x*y:=by
 have h1:=lD x y
 have h2:=eg x hy
 have h3:0<x / y:=Ex hxy hy
 have h4:y≤y*(x / y):=GT _ h3
 have h5:2*(x % y)<x:=by omega
 have h6:2*(x % y)*y<x*y:=MN h5 hy
 calc 2*(y*(x % y))=2*(x % y)*y:=by rw[bx y,eS]
  _<x*y:=h6
theorem OK(n:Nat):∀{a c:Int},a.natAbs<LIM→c.natAbs<LIM→c.natAbs≤a.natAbs→a.natAbs*c.natAbs<18446744073709551616*2 ^ n→g8 (n+2) (enc a) (enc c)=some (enc (Nat.gcd a.natAbs c.natAbs:Nat)):=by
 induction n with
 |zero=>
  intro a c ha hc hle hp
  show cv _ _ _=_
  by_cases h0:c.natAbs=0
  ·obtain rfl:c=0:=by omega
   exact KY ha _
  ·have h1:a.natAbs≤a.natAbs*c.natAbs:=GT _ (by omega)
   exact xq ha hc (by omega) (by omega) _
 |succ n ih=>
  intro a c ha hc hle hp
  show cv (g8 (n+2)) _ _=_
  by_cases h0:c.natAbs=0
  ·obtain rfl:c=0:=by omega
   exact KY ha _
  ·by_cases h1:a.natAbs<18446744073709551616∧c.natAbs<18446744073709551616
   ·exact xq ha hc h1.1 h1.2 _
   ·have h2:=PF (yO h0) hle
    have h3:=eg a.natAbs (yO h0)
    rw[KZ ha hc h0 h1,ih (by rw[dK];exact hc) (by rw[dK];omega) (by rw[dK,dK];omega) (by rw[dK,dK];rw[cy] at hp;omega),dK,dK,←zZ]
theorem OQ {a c:Int}(ha:a.natAbs<LIM)(hc:c.natAbs<LIM):nL (enc a) (enc c)=some (enc (Nat.gcd a.natAbs c.natAbs:Nat)):=by
 have e:LIM*LIM≤18446744073709551616*2 ^ 960:=by decide +kernel
 have mono:∀(n:Nat) {x y r:ap},g8 n x y=some r→∀m,n≤m→g8 m x y=some r:=by
  have step:∀{p q:ap→ap→Option ap},(∀{x y r},p x y=some r→q x y=some r)→∀{x y r},cv p x y=some r→cv q x y=some r:=by
   intro p q hpq x y r h
   unfold cv at h ⊢
   obtain⟨b,h1,h⟩:=ae h
   rw[h1,ab]
   cases b with
   |false=>exact h
   |true=>
    rw[cY,aH] at h ⊢
    obtain⟨b2,h2,h⟩:=ae h
    rw[h2,ab]
    cases b2 with
    |true=>exact h
    |false=>
     rw[aH] at h ⊢
     cases hd:decide (¬(y.vW=#v[(0:Int),0,0,0,0,0,0,0,0,0,0,0,0,0,0,0])) with
     |false=>rw[hd] at h;exact h
     |true=>
      rw[hd,gj] at h
      rw[gj]
      obtain⟨q1,h3,h⟩:=ae h
      rw[h3,ab]
      obtain⟨q2,h4,h⟩:=ae h
      rw[h4,ab]
      obtain⟨q3,h5,h⟩:=ae h
      rw[h5,ab]
      obtain⟨q4,h6,h⟩:=ae h
      rw[hpq h6,ab]
      exact h
  intro n
  induction n with
  |zero=>intro x y r h;cases h
  |succ n ih=>
   intro x y r h m hm
   obtain⟨m,rfl⟩:∃k,m=k+1:=⟨m - 1,by omega⟩
   exact step (fun h=>ih h m (by omega)) h
 unfold nL
 by_cases hle:c.natAbs≤a.natAbs
 ·refine mono 962 (OK 960 ha hc hle ?_) 1000 (by decide)
  exact bG (By ha hc) e
 ·by_cases h1:a.natAbs<18446744073709551616∧c.natAbs<18446744073709551616
  ·exact xq ha hc h1.1 h1.2 _
  ·refine mono 963 ?_ 1000 (by decide)
   show cv (g8 962) _ _=_
   rw[KZ ha hc (by omega) h1,ej (by omega),OK 960 (by rw[dK];exact hc) (by rw[dK];exact ha) (by rw[dK,dK];omega) (by rw[dK,dK];exact bG (By hc ha) e),dK,dK,Nat.gcd_comm]
theorem mA {x y:Int}(hy:y≠0)(q r:Int)(h:q*y+r=x)(hr:0≤r∧r<y∨y<r∧r≤0):q=x.fdiv y∧r=x.fmod y:=by
 have h2:x.fdiv y*y+x.fmod y=x:=Int.fdiv_mul_add_fmod x y
 have hf:0≤x.fmod y∧x.fmod y<y∨y<x.fmod y∧x.fmod y≤0:=by
  rcases Int.lt_or_gt_of_ne hy with h|h
  ·right
   have h3:=Int.neg_fmod_neg x y
   have h4:=wD (-x) (b:=-y) (by omega)
   have h5:=yN (-x) (b:=-y) (by omega)
   omega
  ·left;exact⟨wD _ h,yN _ h⟩
 have hq:q=x.fdiv y:=by
  have h3:(q - x.fdiv y)*y=x.fmod y - r:=by rw[Int.sub_mul];omega
  rcases wH (q - x.fdiv y) 0 with h4|h4|h4
  ·exfalso
   rcases hr with hr|hr <;> rcases hf with hf|hf
   ·have:(q - x.fdiv y)*y≤(-1)*y:=Iu (by omega) (by omega)
    omega
   ·omega
   ·omega
   ·have:(-1)*y≤(q - x.fdiv y)*y:=T4 (by omega) (by omega)
    omega
  ·omega
  ·exfalso
   rcases hr with hr|hr <;> rcases hf with hf|hf
   ·have:1*y≤(q - x.fdiv y)*y:=Iu (by omega) (by omega)
    omega
   ·omega
   ·omega
   ·have:(q - x.fdiv y)*y≤1*y:=T4 (by omega) (by omega)
    omega
 subst hq
 exact⟨rfl,by omega⟩
theorem Jr {x y:Int}(hy:y≠0):x.tmod y<y.natAbs∧-(y.natAbs:Int)<x.tmod y:=by
 have h1:=Int.natAbs_tmod x y
 have h2:=eg x.natAbs (show 0<y.natAbs by omega)
 rw[←h1] at h2
 omega
theorem AE {x y:Int}(hy:y≠0):(cnd (decide (x.tmod y≠0)) (some (!((decide (x.tmod y<0)) == (decide (y<0))))) (some false))=some (decide (x.fdiv y≠x.tdiv y))∧(x.fdiv y≠x.tdiv y→x.fdiv y=x.tdiv y - 1∧x.fmod y=x.tmod y+y)∧(x.fdiv y=x.tdiv y→x.fmod y=x.tmod y):=by
 have e1:x.tdiv y*y+x.tmod y=x:=Int.tdiv_mul_add_tmod x y
 have e2:x.fdiv y*y+x.fmod y=x:=Int.fdiv_mul_add_fmod x y
 have hm:=Jr (x:=x) hy
 rw[fZ]
 by_cases h1:x.tmod y=0
 ·obtain⟨h2,h3⟩:=mA (x:=x) hy (x.tdiv y) (x.tmod y) e1 (by omega)
  rw[ah (by simp[h1])]
  exact⟨by simp[h2],fun h=>absurd h2.symm h,fun _=>h3.symm⟩
 ·rw[ai h1]
  by_cases h2:(x.tmod y<0)↔(y<0)
  ·obtain⟨h3,h4⟩:=mA (x:=x) hy (x.tdiv y) (x.tmod y) e1 (by omega)
   refine⟨?_,fun h=>absurd h3.symm h,fun _=>h4.symm⟩
   rw[kR.2 h2,EA]
   simp[h3]
  ·obtain⟨h3,h4⟩:=mA (x:=x) hy (x.tdiv y - 1) (x.tmod y+y) (by rw[Int.sub_mul];omega) (by omega)
   have h5:(decide (x.tmod y<0) == decide (y<0))=false:=KI.2 fun h=>h2 (kR.1 h)
   have h6:x.fdiv y≠x.tdiv y:=by omega
   refine⟨?_,fun _=>⟨h3.symm,h4.symm⟩,fun h=>absurd h h6⟩
   rw[h5]
   simp[h6]
theorem Js {x y:Int}(hx:-9223372036854775807≤x∧x≤9223372036854775807):-9223372036854775807≤x.tdiv y∧x.tdiv y≤9223372036854775807:=by
 have h1:(x.tdiv y).natAbs=x.natAbs / y.natAbs:=Int.natAbs_tdiv ..
 have h2:x.natAbs / y.natAbs≤x.natAbs:=oz _ _
 omega
theorem Ti {x y:Int}(hx:-9223372036854775807≤x∧x≤9223372036854775807)(NQ:-9223372036854775807≤y∧y≤9223372036854775807)(hy:y≠0):
  (bnd (S:=Int×Int) (bnd (S:=Bool) (cnd (decide ((Int.tmod x y)≠(0:Int))) (some (!((decide ((Int.tmod x y)<(0:Int))) == (decide (y<(0:Int)))))) (some (false))) fun rS=>cnd rS (bnd (some (i64.wrap ((i64.wrap (Int.tdiv x y)) - (1:Int)))) fun As=>bnd (some (i64.wrap ((Int.tmod x y)+y))) fun Cj=>some ((As,Cj))) (some ((i64.wrap (Int.tdiv x y),Int.tmod x y)))) fun (j9,qw)=>bnd (gM j9) fun x32=>bnd (gM qw) fun x34=>some ((.inr (x32,x34)):Unit⊕(ap×ap)))=some (.inr (enc (x.fdiv y),enc (x.fmod y))):=by
 obtain⟨h1,h2,h3⟩:=AE (x:=x) hy
 have hq:=Js (y:=y) hx
 have hm:=Jr (x:=x) hy
 rw[h1,ab]
 by_cases h:x.fdiv y=x.tdiv y
 ·have hf:=h3 h
  rw[cg _ _ (fun hh=>hh h),ab,QE]
  dsimp only
  rw[Nc (by omega) (by omega),ab,Nc (by omega) (by omega),ab,h,hf]
 ·obtain⟨h4,h5⟩:=h2 h
  have hf:x.fmod y≤9223372036854775807∧-9223372036854775807≤x.fmod y:=by
   have:-(y.natAbs:Int)≤x.fmod y∧x.fmod y≤y.natAbs:=by
    rcases Int.lt_or_gt_of_ne hy with hl|hl
    ·have h7:=wD (-x) (b:=-y) (by omega)
     have h8:=yN (-x) (b:=-y) (by omega)
     have h9:=Int.neg_fmod_neg x y
     omega
    ·have h7:=wD x (b:=y) (by omega)
     have h8:=yN x (b:=y) (by omega)
     omega
   omega
  rw[cw _ _ h,QE (z:=Int.tdiv x y) (by omega),ab,ab,QE,QE,←h4,←h5]
  dsimp only
  rw[ab]
  dsimp only
  rw[Nc (by omega) (by omega),ab,Nc (by omega) (by omega),ab]
theorem G7 {a c:Int}(ha:a.natAbs<LIM)(hc:c.natAbs<LIM)(h0:c≠0):iN (enc a) (enc c)=some (enc (a.fdiv c),enc (a.fmod c)):=by
 have FE:∀r:Unit⊕(ap×ap),r=.inl ()→(match r with| .inl ()=>bnd (fF (enc a).vW (enc c).vW) fun Ge=>bnd (bF (!((enc a).vNeg == (enc c).vNeg)) Ge.1) fun K6=>bnd (S:=(Vector Int 16)×ap) (bnd (S:=Bool) (cnd (decide (¬(Ge.2=#v[(0:Int),0,0,0,0,0,0,0,0,0,0,0,0,0,0,0]))) (some (!((enc a).vNeg == (enc c).vNeg))) (some (false))) fun Cb=>cnd Cb (bnd (gM (1:Int)) fun x44=>bnd (nJ K6 x44) fun x46=>bnd (g6 (enc c).vW Ge.2) fun x48=>some ((x48,x46))) (some ((Ge.2,K6)))) fun (EK,EJ)=>bnd (bF (enc c).vNeg EK) fun x51=>some (EJ,x51)| .inr r=>some r)=some (enc (a.fdiv c),enc (a.fmod c)):=by
  rintro r rfl
  dsimp only
  have hr:=eg a.natAbs (show 0<c.natAbs by omega)
  have hq:a.natAbs / c.natAbs≤a.natAbs:=oz _ _
  have hdm:=lD a.natAbs c.natAbs
  rw[lM ha,lM hc,jD ha,jD hc,E3 ha hc (by omega),ab]
  dsimp only
  rw[jr (dM hq ha),ab,z16]
  simp only[EP (Bv hr hc) xp]
  have L6:(c.natAbs:Int)*((a.natAbs / c.natAbs:Nat):Int)+((a.natAbs % c.natAbs:Nat):Int)=(a.natAbs:Int):=by rw[←iJ,←j6,hdm]
  generalize hQ:a.natAbs / c.natAbs=Q at L6 hq ⊢
  generalize hR:a.natAbs % c.natAbs=R at L6 hr ⊢
  by_cases hs:decide (a<0)=decide (c<0)
  ·have Pr:=kR.1 hs
   rw[hs,EA,cY]
   rw[show (cnd (decide (¬(R=0))) (some false) (some false))=some false from by rw[TA],ab,aH,ab]
   dsimp only[cond_false]
   rw[jr (Bv hr hc),ab]
   obtain⟨h1,h2⟩:=mA (x:=a) h0 (Q:Int) (bif decide (c<0) then -(R:Int) else (R:Int)) (by
    by_cases CK:c<0
    ·rw[aA CK,j5]
     have e:c=-(c.natAbs:Int):=by omega
     have e2:a=-(a.natAbs:Int):=by omega
     rw[e2,←L6]
     conv=>lhs;rw[e]
     rw[Bx,kP];omega
    ·rw[bk CK,cond_false]
     have e:c=(c.natAbs:Int):=by omega
     have e2:a=(a.natAbs:Int):=by omega
     rw[e2,←L6]
     conv=>lhs;rw[e]
     rw[kP]) (by
    by_cases CK:c<0
    ·rw[aA CK,j5];omega
    ·rw[bk CK,cond_false];omega)
   rw[←h1,←h2]
  ·have Pr:¬((a<0)↔(c<0)):=fun h=>hs (kR.2 h)
   have hb:(decide (a<0) == decide (c<0))=false:=KI.2 hs
   rw[hb,rN,j5]
   have hmul:-(Q:Int)*c=(if c<0 then 1 else -1)*((c.natAbs:Int)*(Q:Int)):=by
    split
    ·have e:c=-(c.natAbs:Int):=by omega
     conv=>lhs;rw[e]
     rw[Int.neg_mul_neg,yM,kP]
    ·have e:c=(c.natAbs:Int):=by omega
     conv=>lhs;rw[e]
     rw[Ey,Ey,yM,kP]
   by_cases hR0:R=0
   ·rw[cg _ _ (by simpa using hR0),ab,aH,ab]
    dsimp only
    rw[jr (Bv hr hc),ab]
    obtain⟨h1,h2⟩:=mA (x:=a) h0 (-(Q:Int)) 0 (by rw[hmul];subst hR0;split <;> omega) (by omega)
    rw[←h1,←h2]
    subst hR0
    cases decide (c<0) <;> rfl
   ·have hQ1:((-(Q:Int)).natAbs)<LIM:=by rw[Int.natAbs_neg,dK];exact dM hq ha
    rw[cw _ _ hR0,ab,gj,Nc (by decide) (by decide),ab,G_Sub hQ1 (by decide),ab,IR (mj hr),ab,ab]
    dsimp only
    rw[jr (dM (Nat.sub_le _ _) hc),ab]
    obtain⟨h1,h2⟩:=mA (x:=a) h0 (-(Q:Int) - 1) (bif decide (c<0) then -((c.natAbs - R:Nat):Int) else ((c.natAbs - R:Nat):Int)) (by
     rw[Int.sub_mul,hmul]
     by_cases CK:c<0
     ·rw[aA CK,j5,ai CK];omega
     ·rw[bk CK,cond_false,ah CK];omega) (by
     by_cases CK:c<0
     ·rw[aA CK,j5];omega
     ·rw[bk CK,cond_false];omega)
    rw[←h1,←h2]
 unfold iN
 rw[uQ,ba ha,ba hc,ab,fM,cY,aH,wW hc,ab,ab,cg _ _ (by rw[Bt];exact h0),OO ha,ab]
 have DI:∀z:Int,(bnd (S:=Bool) (cnd (if -9223372036854775808≤z∧z<9223372036854775808 then (z,true) else (0,false):Int×Bool).2 (some (decide ((if -9223372036854775808≤z∧z<9223372036854775808 then (z,true) else (0,false):Int×Bool).1≠(-9223372036854775808:Int)))) (some (false))) fun a=>some a)=some (decide (-9223372036854775807≤z∧z≤9223372036854775807)):=by
  intro z
  rw[uz]
  split
  ·rw[gj];congr 1;exact kR.2 (by omega)
  ·rw[aH];congr 1;exact (bk (by omega)).symm
 have e1:=DI a
 have e2:=DI c
 rw[uz] at e1 e2
 rw[e1,ab,fZ]
 split
 ·rename_i h1
  rw[OO hc,ab,e2,ab,fZ]
  split
  ·rename_i h2
   rw[ai (by omega),ai (by omega),aC h0,aC h0,Ti h1 h2 h0,ab]
  ·rw[ab];exact FE _ rfl
 ·rw[ab];exact FE _ rfl
theorem G8 {a c:Int}(ha:a.natAbs<LIM)(hc:c.natAbs<LIM)(h0:c≠0):g7 (enc a) (enc c)=some (enc (a.fdiv c)):=by
 unfold g7
 rw[G7 ha hc h0,ab]
end
end Go.Proofs.YtaedcknhkjpmlaaGreat
