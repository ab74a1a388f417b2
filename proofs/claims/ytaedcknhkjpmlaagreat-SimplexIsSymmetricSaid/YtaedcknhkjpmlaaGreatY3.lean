/-
  Lemmas, part 3. Conditions: none.
-/
import Derived.Test.YtaedcknhkjpmlaaGreatY2
set_option linter.all false
set_option maxRecDepth 100000
set_option maxHeartbeats 4000000
namespace Go.Proofs.YtaedcknhkjpmlaaGreat
open Go.RowKit Go.IntKind Tryz
noncomputable section
def iX(aK:ap)(aQ:ap)(x8:Int)(aU:Int):Int×Int×(Vector Int 32)→Option ((Int×Int×(Vector Int 32))⊕(Int×(Vector Int 32))):=fun (Hv,qr,CN)=>cnd (decide (qr<x8)) (gd (0≤aU∧aU<16) (gd (0≤qr∧qr<16) (gd (0≤i64.wrap (aU+qr)∧i64.wrap (aU+qr)<32) (bnd (some (u64.wrap (Hv+(u64.wrap ((u64.wrap ((u64.wrap ((aK.vW)[(aU).toNat]!))*(u64.wrap ((aQ.vW)[(qr).toNat]!))))+(u64.wrap ((CN)[(i64.wrap (aU+qr)).toNat]!))))))) fun sG=>gd (0≤i64.wrap (aU+qr)∧i64.wrap (aU+qr)<32) (bnd (some ((CN).set! (i64.wrap (aU+qr)).toNat (u32.wrap (sG)))) fun CS=>some (.inl (me .u64 sG (32:Int),i64.wrap (qr+(1:Int)),CS))))))) (some (.inr (Hv,CN)))
def iY(aK:ap)(aQ:ap)(x6:Int)(x8:Int):Int×(Vector Int 32)→Option ((Int×(Vector Int 32))⊕((Vector Int 32))):=fun (aU,gM)=>cnd (decide (aU<x6)) (bnd (bo (iX aK aQ x8 aU) ((0:Int),(0:Int),gM)) fun (xI,xH)=>gd (0≤i64.wrap (aU+x8)∧i64.wrap (aU+x8)<32) (bnd (some ((xH).set! (i64.wrap (aU+x8)).toNat (u32.wrap (xI)))) fun AU=>some (.inl (i64.wrap (aU+(1:Int)),AU)))) (some (.inr gM))
def jl(aK:ap)(aQ:ap):Option ap:=bnd (cw [aK,aQ]) fun x1=>cnd (!x1) (bnd (eH) fun x4=>some x4) (bnd (eO aK.vW) fun x6=>bnd (eO aQ.vW) fun x8=>bnd (bo (iY aK aQ x6 x8) ((0:Int),(Vector.replicate 32 (0:Int)))) fun bD=>cnd (decide (¬(vOf 16 (List.take 16 (List.drop 16 (bD).toList))=#v[(0:Int),0,0,0,0,0,0,0,0,0,0,0,0,0,0,0]))) (bnd (eH) fun HI=>some HI) (bnd (bH (!(aK.vNeg == aQ.vNeg)) (vOf 16 (List.take 16 (List.drop 0 (bD).toList)))) fun LJ=>some LJ))
theorem l6 {aK:ap}{aQ:ap}{r:ap}(h:jl aK aQ=some r):ar prog 94 [dG aq aK,dG aq aQ] (dG aq r):=by
 refine bn (rs:=[.cell 4 41]) (fun cx hx h0=>?_) func94
 unfold jl at h
 refine rai hx ?_
 refine AW.seq (rs hx fun K hK=>?_)
 iterate 2 refine sbi ?_
 refine s1 (lh ([aK,aQ]:List ap) aq qz ff) ?_
 refine scb h fe fun x1 h=>?_
 refine nbi hK ?_
 refine cdh h rfl (fun fZ h=>?_) (fun fZ h=>?_)
 refine rs hx fun K hK=>?_
 refine scb h ib fun x4 h=>?_
 refine nbi hK ?_
 exact AW.ret (rtv h)
 refine AW.skip (rs hx fun K hK=>?_)
 refine s1 (yE (F:=(cA 32 (cI .u32)).f (Vector.replicate 32 (0:Int))) HV) ?_
 refine nl hK ?_
 refine rsd [148] hx fun K hK=>?_
 refine mbi ?_
 refine cqb h kL fun x6 h=>?_
 refine mbi ?_
 refine cqb h kL fun x8 h=>?_
 refine nbi hK ?_
 refine AW.seq (ra hx ?_)
 refine AW.block ?_
 obtain⟨bD,hy,h⟩:=ae h
 refine lp (S:=Int×(Vector Int 32)) (X:=(Vector Int 32)) (fun (aU,gM)=>[(2,.pt 0 0),(3,.pt 1 0),(4,.pt 2 0),(5,.pt 3 0),(7,dI .i64 x8),(23,dI .i64 x6),(24,dI .i64 aU)]) (fun (aU,gM)=>⟨[(0,dC (aq.f aK)),(1,dC (aq.f aQ)),(2,dC (aq.f ci)),(3,dC ((cA 32 (cI .u32)).f gM))],[],4⟩) (PE cx (.exit 0) (fun bD=>[(2,.pt 0 0),(3,.pt 1 0),(4,.pt 2 0),(5,.pt 3 0)]) fun bD=>⟨[(0,dC (aq.f aK)),(1,dC (aq.f aQ)),(2,dC (aq.f ci)),(3,dC ((cA 32 (cI .u32)).f bD))],[],4⟩) hy ?_ ?_ ?_
 exact wk0 h0 [0,1,2,4]
 clear hy h
 rintro⟨aU,gM⟩ y h
 dsimp only[iY] at h
 refine ra hx ?_
 refine AW.seq (cdh h rfl (fun nG h=>?_) (fun nG h=>?_))
 refine AW.skip (AW.seq (AW.block ?_))
 iterate 2 refine ra hx ?_
 refine AW.seq (ra hx ?_)
 refine AW.block ?_
 obtain⟨y,hy,h⟩:=ae h
 refine lp (S:=Int×Int×(Vector Int 32)) (X:=Int×(Vector Int 32)) (fun (Hv,qr,CN)=>[(2,.pt 0 0),(3,.pt 1 0),(4,.pt 2 0),(5,.pt 3 0),(7,dI .i64 x8),(8,dI .i64 aU),(9,dI .u64 Hv),(23,dI .i64 x6),(24,dI .i64 aU),(27,dI .i64 x8),(28,dI .i64 qr)]) (fun (Hv,qr,CN)=>⟨[(0,dC (aq.f aK)),(1,dC (aq.f aQ)),(2,dC (aq.f ci)),(3,dC ((cA 32 (cI .u32)).f CN))],[],4⟩) (PE cx (.exit 2) (fun (xI,xH)=>[(2,.pt 0 0),(3,.pt 1 0),(4,.pt 2 0),(5,.pt 3 0),(7,dI .i64 x8),(8,dI .i64 aU),(9,dI .u64 xI),(23,dI .i64 x6),(24,dI .i64 aU)]) fun (xI,xH)=>⟨[(0,dC (aq.f aK)),(1,dC (aq.f aQ)),(2,dC (aq.f ci)),(3,dC ((cA 32 (cI .u32)).f xH))],[],4⟩) hy ?_ ?_ ?_
 exact wk0 h0 [0,1,2,3]
 clear hy h
 rintro⟨Hv,qr,CN⟩ y h
 dsimp only[iX] at h
 refine ra hx ?_
 refine AW.seq (cdh h rfl (fun xU h=>?_) (fun xU h=>?_))
 refine AW.skip (AW.seq (AW.block (ra hx ?_)))
 refine rsd [] hx fun K hK=>?_
 iterate 3 refine sa ?_
 obtain⟨hc12,h⟩:=aA h
 iterate 5 refine sbi ?_
 obtain⟨hc14,h⟩:=aA h
 iterate 7 refine sbi ?_
 obtain⟨Qj,h⟩:=aA h
 iterate 5 refine sbi ?_
 obtain⟨sG,Ee,h⟩:=ae h
 replace Ee:=bw Ee
 refine s2 (d2:=dI .u64 sG) kE (fq (congrArg (dI .u64) Ee)) ?_
 refine nl hK ?_
 refine rs hx fun K hK=>?_
 iterate 5 refine sa ?_
 obtain⟨hc20,h⟩:=aA h
 have hn21:(i64.wrap (aU+qr)).toNat<32:=by omega
 refine sbi ?_
 obtain⟨CS,Mx,h⟩:=ae h
 replace Mx:=bw Mx
 refine s0 (nN (b':=u32.wrap (sG)) (bV.comp (bV.id _ _) (bV.vec (cI .u32) CN (i64.wrap (aU+qr)).toNat hn21) (fun _=>rfl)) bQ Mx) ?_
 refine nl hK ?_
 iterate 2 refine rb hx ?_
 exact pel h h0 [0,1,2,3]
 exact AW.exit (per h h0 [0,1,2,3])
 obtain⟨xI,xH⟩:=y
 refine lw0 ?_
 refine rq hx fun K hK=>?_
 iterate 5 refine sa ?_
 obtain⟨hc25,h⟩:=aA h
 have hn26:(i64.wrap (aU+x8)).toNat<32:=by omega
 refine sbi ?_
 obtain⟨AU,Ir,h⟩:=ae h
 replace Ir:=bw Ir
 refine s0 (nN (b':=u32.wrap (xI)) (bV.comp (bV.id _ _) (bV.vec (cI .u32) xH (i64.wrap (aU+x8)).toNat hn26) (fun _=>rfl)) bQ Ir) ?_
 refine nl hK ?_
 refine rb hx ?_
 exact pel h h0 [0,1,2,3]
 exact AW.exit (per h h0 [0,1,2,3])
 refine lw0 ?_
 refine AW.seq (rs hx fun K hK=>?_)
 refine q1 (slA (n:=32) (l:=(16:Int)) (h:=(32:Int)) tok (by decide) HV bQ ⟨_,rfl⟩ rfl) ?_
 refine q1 (sPtr tok rfl cY) ?_
 refine s1 (d:=dG (cA 16 (cI .u32)) (vOf 16 (List.take 16 (List.drop 16 (bD).toList)))) (AP (bV.sub (o:=16) 16 (cI .u32) bD 16 (by decide) (by first|rfl|decide)) cY) ?_
 refine s1 (d:=dG (cA 16 (cI .u32)) (#v[(0:Int),0,0,0,0,0,0,0,0,0,0,0,0,0,0,0])) (mw cY bQ) ?_
 refine s1 (xh tok 2 (by decide) (EqC.arr (EqC.int (d:=0) bQ) cY bQ) cY) ?_
 refine nl hK ?_
 refine cdh h rfl (fun MO h=>?_) (fun MO h=>?_)
 refine rs hx fun K hK=>?_
 refine scb h ib fun HI h=>?_
 refine nbi hK ?_
 exact AW.ret (rtv h)
 refine AW.skip (rsd [145] hx fun K hK=>?_)
 iterate 5 refine sbi ?_
 refine q1 (slA (n:=32) (l:=(0:Int)) (h:=(16:Int)) tok (by decide) HV bQ rfl ⟨_,rfl⟩) ?_
 refine q1 (sPtr tok rfl cY) ?_
 refine s1 (d:=dG (cA 16 (cI .u32)) (vOf 16 (List.take 16 (List.drop 0 (bD).toList)))) (AP (bV.sub (o:=0) 16 (cI .u32) bD 0 (by decide) (by first|rfl|decide)) cY) ?_
 obtain⟨LJ,Qa,h⟩:=ae h
 refine sq tok (dv Qa) (by simp only[jK,mZ,iJ,kr,fH,cm];exact⟨rfl,db _ _⟩) (lA (ax _) (lA (pm _ _) lAn)) (.inl (iR _ _)) ?_
 refine nbi hK ?_
 exact AW.ret (rtv h)
def fK(aZ:Int):Option Int:=bnd (mH aZ) fun x1=>some (i64.wrap ((32:Int) - x1))
theorem vZ {aZ:Int}{r:Int}(h:fK aZ=some r):ar prog 188 [dI .u32 aZ] (dI .i64 r):=by
 refine bn (rs:=[.tmp 2]) (fun cx hx h0=>?_) func188
 unfold fK at h
 refine ra hx ?_
 refine rs hx fun K hK=>?_
 refine sa ?_
 refine scb h zR fun x1 h=>?_
 refine nbi hK ?_
 exact AW.ret (rtv h)
def jL(CW:Vector Int 16)(cU:Int)(nd:Int)(oT:Vector Int 17)(x9:Int):Int×Int→Option ((Int×Int)⊕Int):=fun (dH,bP)=>bnd (S:=Bool) (cnd (decide (bP<(4294967296:Int))) (cnd (decide ((4294967296:Int)≤dH)) (some (true)) (gd (0≤i64.wrap (cU - (2:Int))∧i64.wrap (cU - (2:Int))<16) (gd (0≤i64.wrap ((i64.wrap (nd+cU)) - (2:Int))∧i64.wrap ((i64.wrap (nd+cU)) - (2:Int))<17) (some (decide ((ior .u64 (yY .u64 bP (32:Int)) (u64.wrap ((oT)[(i64.wrap ((i64.wrap (nd+cU)) - (2:Int))).toNat]!)))<(u64.wrap (dH*(u64.wrap ((CW)[(i64.wrap (cU - (2:Int))).toNat]!)))))))))) (some (false))) fun eC=>cnd eC (some (.inl (u64.wrap (dH - (1:Int)),u64.wrap (bP+x9)))) (some (.inr dH))
def iV(CW:Vector Int 16)(cU:Int)(nd:Int)(oT:Vector Int 17):Option Int:=gd (0≤i64.wrap (nd+cU)∧i64.wrap (nd+cU)<17) (gd (0≤i64.wrap ((i64.wrap (nd+cU)) - (1:Int))∧i64.wrap ((i64.wrap (nd+cU)) - (1:Int))<17) (bnd (some (ior .u64 (yY .u64 (u64.wrap ((oT)[(i64.wrap (nd+cU)).toNat]!)) (32:Int)) (u64.wrap ((oT)[(i64.wrap ((i64.wrap (nd+cU)) - (1:Int))).toNat]!)))) fun x5=>gd (0≤i64.wrap (cU - (1:Int))∧i64.wrap (cU - (1:Int))<16) (bnd (some (u64.wrap ((CW)[(i64.wrap (cU - (1:Int))).toNat]!))) fun x9=>gd (x9≠0) (gd (x9≠0) (bnd (bo (jL CW cU nd oT x9) (u64.wrap (Int.tdiv x5 x9),Int.tmod x5 x9)) fun cl=>some cl)))))
theorem CT {CW:Vector Int 16}{cU:Int}{nd:Int}{oT:Vector Int 17}{r:Int}(h:iV CW cU nd oT=some r):HC prog 190 [.pt 0 0,dG (cA 16 (cI .u32)) CW,dI .i64 cU,dI .i64 nd] ⟨[(0,dC ((cA 17 (cI .u32)).f oT))],[],1⟩ (dI .u64 r) ⟨[(0,dC ((cA 17 (cI .u32)).f oT))],[],1⟩:=by
 refine HC.of (rs:=[.tmp 8]) tok func190 rfl rfl (bi rfl) rfl (fun cx hx h1 hok=>?_)
 have h0:cx.hp0.next=1:=by rw[h1]
 simp only[fG,Nat.reduceAdd,bt]
 unfold iV at h
 refine ra hx ?_
 refine rsd [] hx fun K hK=>?_
 iterate 5 refine sa ?_
 obtain⟨OR,h⟩:=aA h
 iterate 10 refine sbi ?_
 obtain⟨hc3,h⟩:=aA h
 iterate 4 refine sbi ?_
 obtain⟨x5,Ip,h⟩:=ae h
 replace Ip:=bw Ip
 refine s2 (d2:=dI .u64 x5) kE (fq (congrArg (dI .u64) Ip)) ?_
 refine nl hK ?_
 refine rs hx fun K hK=>?_
 iterate 2 refine sa ?_
 obtain⟨hc7,h⟩:=aA h
 iterate 3 refine sbi ?_
 obtain⟨x9,My,h⟩:=ae h
 replace My:=bw My
 refine s2 (d2:=dI .u64 x9) kE (fq (congrArg (dI .u64) My)) ?_
 refine nl hK ?_
 refine rsd [] hx fun K hK=>?_
 iterate 2 refine sa ?_
 obtain⟨Tg,h⟩:=aA h
 refine s1 (HA Tg) ?_
 iterate 2 refine sa ?_
 obtain⟨hc12,h⟩:=aA h
 refine s1 (Fo hc12) ?_
 refine nbi hK ?_
 refine AW.seq (AW.block ?_)
 obtain⟨cl,hy,h⟩:=ae h
 refine lp (S:=Int×Int) (X:=Int) (fun (dH,bP)=>[(0,.pt 0 0),(2,dI .i64 cU),(3,dI .i64 nd),(5,.pt 1 0),(10,dI .u64 x9),(11,dI .u64 dH),(12,dI .u64 bP)]) (fun (dH,bP)=>⟨[(0,dC ((cA 17 (cI .u32)).f oT)),(1,dC ((cA 16 (cI .u32)).f CW))],[],2⟩) (PE cx (.exit 0) (fun cl=>[(11,dI .u64 cl)]) fun cl=>⟨[(0,dC ((cA 17 (cI .u32)).f oT))],[],1⟩) hy ?_ ?_ ?_
 exact wkN h0 [1] (wR rfl (wR rfl (wR rfl (wR rfl (wR rfl (wR rfl (wR rfl wTn))))))) (vC rfl (vC rfl wVn)) wLn
 clear hy h
 rintro⟨dH,bP⟩ y h
 dsimp only[jL] at h
 iterate 2 refine AW.seq ?_
 obtain⟨eC,hy,h⟩:=ae h
 refine jn ((PE cx .normal (fun eC=>[(0,.pt 0 0),(2,dI .i64 cU),(3,dI .i64 nd),(5,.pt 1 0),(10,dI .u64 x9),(11,dI .u64 dH),(12,dI .u64 bP),(70,dB eC)]) fun eC=>⟨[(0,dC ((cA 17 (cI .u32)).f oT)),(1,dC ((cA 16 (cI .u32)).f CW))],[],2⟩) eC) ?_ ?_
 replace h:=hy
 refine rqd [] hx fun K hK=>?_
 refine mbi ?_
 rcases aF h with⟨Gz,h⟩|⟨Gz,h⟩
 refine mbi ?_
 rcases aF h with⟨uP,h⟩|⟨uP,h⟩
 refine nbi hK ?_
 cases h
 exact PE.i (wkN h0 [1] (wR rfl (wR rfl (wR rfl (wR rfl (wR rfl (wR rfl (wR rfl (wR rfl wTn)))))))) (vC rfl (vC rfl wVn)) wLn)
 iterate 3 refine ga uP ?_
 obtain⟨hc15,h⟩:=aA h
 iterate 2 refine gbi ?_
 iterate 3 refine ga uP ?_
 refine g1 uP (UQ (b:=(32:Int)) (by decide)) ?_
 iterate 6 refine ga uP ?_
 obtain⟨hc17,h⟩:=aA h
 iterate 2 refine gbi ?_
 refine ga uP ?_
 refine g1 uP T_or ?_
 refine nbi hK ?_
 cases h
 exact PE.i (wkN h0 [1] (wR rfl (wR rfl (wR rfl (wR rfl (wR rfl (wR rfl (wR rfl (wR rfl wTn)))))))) (vC rfl (vC rfl wVn)) wLn)
 iterate 3 refine Mj rfl rfl Gz ?_
 iterate 20 refine nn_t rfl rfl ?_
 refine nbi hK ?_
 cases h
 exact PE.i (wkN h0 [1] (wR rfl (wR rfl (wR rfl (wR rfl (wR rfl (wR rfl (wR rfl (wR rfl wTn)))))))) (vC rfl (vC rfl wVn)) wLn)
 refine lw0 ?_
 refine cdh h rfl (fun Tl h=>?_) (fun Tl h=>?_)
 refine AW.skip (AW.block (ra hx ?_))
 refine rb hx ?_
 cases h
 exact PS.l (PE.i (wkN h0 [1] (wR rfl (wR rfl (wR rfl (wR rfl (wR rfl (wR rfl (wR rfl wTn))))))) (vC rfl (vC rfl wVn)) wLn))
 refine AW.exit ?_
 try dsimp only
 try simp only[vg,reduceIte,Nat.reduceEqDiff,reduceCtorEq]
 cases h
 exact PS.r ⟨by nofun,PE.i (wkN h0 [] (wR rfl wTn) (vC rfl wVn) wLn)⟩
 refine lw0 ?_
 refine ra hx ?_
 refine AW.ret ?_
 cases h
 exact rH1 (wkN h0 [] (wR rfl wTn) (vC rfl wVn) wLn)
def jh(CW:Vector Int 16)(cU:Int)(nd:Int)(Aa:Int):Int×Int×Int×(Vector Int 17)→Option ((Int×Int×Int×(Vector Int 17))⊕(Int×Int×(Vector Int 17))):=fun (aP,bq,mN,Lp)=>cnd (decide (mN<cU)) (gd (0≤mN∧mN<16) (bnd (some (u64.wrap (aP+(u64.wrap (Aa*(u64.wrap ((CW)[(mN).toNat]!))))))) fun x4=>gd (0≤i64.wrap (nd+mN)∧i64.wrap (nd+mN)<17) (bnd (some (u64.wrap ((u64.wrap ((u64.wrap ((Lp)[(i64.wrap (nd+mN)).toNat]!)) - (u64.wrap (u32.wrap (x4))))) - bq))) fun x8=>gd (0≤i64.wrap (nd+mN)∧i64.wrap (nd+mN)<17) (bnd (some ((Lp).set! (i64.wrap (nd+mN)).toNat (u32.wrap (x8)))) fun m9=>some (.inl (me .u64 x4 (32:Int),me .u64 x8 (63:Int),i64.wrap (mN+(1:Int)),m9)))))) (some (.inr (aP,bq,Lp)))
def jV(CW:Vector Int 16)(cU:Int)(nd:Int)(Aa:Int)(oT:Vector Int 17):Option (Bool×(Vector Int 17)):=bnd (bo (jh CW cU nd Aa) ((0:Int),(0:Int),(0:Int),oT)) fun (bf,kA,zy)=>gd (0≤i64.wrap (nd+cU)∧i64.wrap (nd+cU)<17) (bnd (some (u64.wrap ((u64.wrap ((u64.wrap ((zy)[(i64.wrap (nd+cU)).toNat]!)) - bf)) - kA))) fun pW=>gd (0≤i64.wrap (nd+cU)∧i64.wrap (nd+cU)<17) (bnd (some ((zy).set! (i64.wrap (nd+cU)).toNat (u32.wrap (pW)))) fun wh=>some (decide ((me .u64 pW (63:Int))=(1:Int)),wh)))
theorem DB {CW:Vector Int 16}{cU:Int}{nd:Int}{Aa:Int}{oT:Vector Int 17}{r:Bool×(Vector Int 17)}(h:jV CW cU nd Aa oT=some r):HC prog 191 [.pt 0 0,dG (cA 16 (cI .u32)) CW,dI .i64 cU,dI .i64 nd,dI .u64 Aa] ⟨[(0,dC ((cA 17 (cI .u32)).f oT))],[],1⟩ (dB r.1) ⟨[(0,dC ((cA 17 (cI .u32)).f r.2))],[],1⟩:=by
 refine HC.of (rs:=[.tmp 10]) tok func191 rfl rfl (bi rfl) rfl (fun cx hx h1 hok=>?_)
 have h0:cx.hp0.next=1:=by rw[h1]
 simp only[fG,Nat.reduceAdd,bt]
 unfold jV at h
 iterate 2 refine ra hx ?_
 refine AW.seq (ra hx ?_)
 refine AW.block ?_
 obtain⟨y,hy,h⟩:=ae h
 refine lp (S:=Int×Int×Int×(Vector Int 17)) (X:=Int×Int×(Vector Int 17)) (fun (aP,bq,mN,Lp)=>[(0,.pt 0 0),(2,dI .i64 cU),(3,dI .i64 nd),(4,dI .u64 Aa),(6,.pt 1 0),(11,dI .u64 aP),(12,dI .u64 bq),(16,dI .i64 cU),(17,dI .i64 mN)]) (fun (aP,bq,mN,Lp)=>⟨[(0,dC ((cA 17 (cI .u32)).f Lp)),(1,dC ((cA 16 (cI .u32)).f CW))],[],2⟩) (PE cx (.exit 0) (fun (bf,kA,zy)=>[(0,.pt 0 0),(2,dI .i64 cU),(3,dI .i64 nd),(11,dI .u64 bf),(12,dI .u64 kA)]) fun (bf,kA,zy)=>⟨[(0,dC ((cA 17 (cI .u32)).f zy))],[],1⟩) hy ?_ ?_ ?_
 exact wkN h0 [1] (wR rfl (wR rfl (wR rfl (wR rfl (wR rfl (wR rfl (wR rfl (wR rfl (wR rfl wTn))))))))) (vC rfl (vC rfl wVn)) wLn
 clear hy h
 rintro⟨aP,bq,mN,Lp⟩ y h
 dsimp only[jh] at h
 refine ra hx ?_
 refine AW.seq (cdh h rfl (fun f4 h=>?_) (fun f4 h=>?_))
 refine AW.skip (AW.seq (AW.block (ra hx ?_)))
 refine rs hx fun K hK=>?_
 iterate 3 refine sa ?_
 obtain⟨qU,h⟩:=aA h
 iterate 5 refine sbi ?_
 obtain⟨x4,P9,h⟩:=ae h
 replace P9:=bw P9
 refine s2 (d2:=dI .u64 x4) kE (fq (congrArg (dI .u64) P9)) ?_
 refine nl hK ?_
 refine rs hx fun K hK=>?_
 iterate 5 refine sa ?_
 obtain⟨hc6,h⟩:=aA h
 iterate 9 refine sbi ?_
 obtain⟨x8,QW,h⟩:=ae h
 replace QW:=bw QW
 refine s2 (d2:=dI .u64 x8) kE (fq (congrArg (dI .u64) QW)) ?_
 refine nl hK ?_
 refine rs hx fun K hK=>?_
 iterate 7 refine sa ?_
 obtain⟨MM,h⟩:=aA h
 have hn11:(i64.wrap (nd+mN)).toNat<17:=by omega
 refine sbi ?_
 obtain⟨m9,wI,h⟩:=ae h
 replace wI:=bw wI
 refine s0 (nN (b':=u32.wrap (x8)) (bV.comp (bV.id _ _) (bV.vec (cI .u32) Lp (i64.wrap (nd+mN)).toNat hn11) (fun _=>rfl)) bQ wI) ?_
 refine nl hK ?_
 refine ra hx ?_
 iterate 2 refine rb hx ?_
 cases h
 exact PS.l (PE.i (wkN h0 [1] (wR rfl (wR rfl (wR rfl (wR rfl (wR rfl (wR rfl (wR rfl (wR rfl (wR rfl wTn))))))))) (vC rfl (vC rfl wVn)) wLn))
 refine AW.exit ?_
 try dsimp only
 try simp only[vg,reduceIte,Nat.reduceEqDiff,reduceCtorEq]
 cases h
 exact PS.r ⟨by nofun,PE.i (wkN h0 [] (wR rfl (wR rfl (wR rfl (wR rfl (wR rfl wTn))))) (vC rfl wVn) wLn)⟩
 obtain⟨bf,kA,zy⟩:=y
 refine lw0 ?_
 refine rs hx fun K hK=>?_
 iterate 5 refine sa ?_
 obtain⟨hc15,h⟩:=aA h
 iterate 7 refine sbi ?_
 obtain⟨pW,v8,h⟩:=ae h
 replace v8:=bw v8
 refine s2 (d2:=dI .u64 pW) kE (fq (congrArg (dI .u64) v8)) ?_
 refine nl hK ?_
 refine rs hx fun K hK=>?_
 iterate 7 refine sa ?_
 obtain⟨hc19,h⟩:=aA h
 have hn20:(i64.wrap (nd+cU)).toNat<17:=by omega
 refine sbi ?_
 obtain⟨wh,SC,h⟩:=ae h
 replace SC:=bw SC
 refine s0 (nN (b':=u32.wrap (pW)) (bV.comp (bV.id _ _) (bV.vec (cI .u32) zy (i64.wrap (nd+cU)).toNat hn20) (fun _=>rfl)) bQ SC) ?_
 refine nl hK ?_
 refine ra hx ?_
 refine AW.ret ?_
 cases h
 exact rH1 (wkN h0 [] (wR rfl wTn) (vC rfl wVn) wLn)
def jj(CW:Vector Int 16)(cU:Int)(nd:Int):Int×Int×(Vector Int 17)→Option ((Int×Int×(Vector Int 17))⊕(Int×(Vector Int 17))):=fun (aP,bq,mN)=>cnd (decide (bq<cU)) (gd (0≤i64.wrap (nd+bq)∧i64.wrap (nd+bq)<17) (gd (0≤bq∧bq<16) (bnd (some (u64.wrap (aP+(u64.wrap ((u64.wrap ((mN)[(i64.wrap (nd+bq)).toNat]!))+(u64.wrap ((CW)[(bq).toNat]!))))))) fun x6=>gd (0≤i64.wrap (nd+bq)∧i64.wrap (nd+bq)<17) (bnd (some ((mN).set! (i64.wrap (nd+bq)).toNat (u32.wrap (x6)))) fun l5=>some (.inl (me .u64 x6 (32:Int),i64.wrap (bq+(1:Int)),l5)))))) (some (.inr (aP,mN)))
def jZ(CW:Vector Int 16)(cU:Int)(nd:Int)(oT:Vector Int 17):Option (Vector Int 17):=bnd (bo (jj CW cU nd) ((0:Int),(0:Int),oT)) fun (bf,kA)=>gd (0≤i64.wrap (nd+cU)∧i64.wrap (nd+cU)<17) (gd (0≤i64.wrap (nd+cU)∧i64.wrap (nd+cU)<17) (bnd (some ((kA).set! (i64.wrap (nd+cU)).toNat (u32.wrap (((kA)[(i64.wrap (nd+cU)).toNat]!)+(u32.wrap (bf)))))) fun pW=>some pW))
theorem DC {CW:Vector Int 16}{cU:Int}{nd:Int}{oT:Vector Int 17}{r:Vector Int 17}(h:jZ CW cU nd oT=some r):HC prog 192 [.pt 0 0,dG (cA 16 (cI .u32)) CW,dI .i64 cU,dI .i64 nd] ⟨[(0,dC ((cA 17 (cI .u32)).f oT))],[],1⟩ (.tu []) ⟨[(0,dC ((cA 17 (cI .u32)).f r))],[],1⟩:=by
 refine HC.of (rs:=[]) tok func192 rfl rfl (bi rfl) rfl (fun cx hx h1 hok=>?_)
 have h0:cx.hp0.next=1:=by rw[h1]
 simp only[fG,Nat.reduceAdd,bt]
 unfold jZ at h
 iterate 2 refine ra hx ?_
 refine AW.seq (ra hx ?_)
 refine AW.block ?_
 obtain⟨y,hy,h⟩:=ae h
 refine lp (S:=Int×Int×(Vector Int 17)) (X:=Int×(Vector Int 17)) (fun (aP,bq,mN)=>[(0,.pt 0 0),(2,dI .i64 cU),(3,dI .i64 nd),(5,.pt 1 0),(8,dI .u64 aP),(10,dI .i64 cU),(11,dI .i64 bq)]) (fun (aP,bq,mN)=>⟨[(0,dC ((cA 17 (cI .u32)).f mN)),(1,dC ((cA 16 (cI .u32)).f CW))],[],2⟩) (PE cx (.exit 0) (fun (bf,kA)=>[(0,.pt 0 0),(2,dI .i64 cU),(3,dI .i64 nd),(8,dI .u64 bf)]) fun (bf,kA)=>⟨[(0,dC ((cA 17 (cI .u32)).f kA))],[],1⟩) hy ?_ ?_ ?_
 exact wkN h0 [1] (wR rfl (wR rfl (wR rfl (wR rfl (wR rfl (wR rfl (wR rfl wTn))))))) (vC rfl (vC rfl wVn)) wLn
 clear hy h
 rintro⟨aP,bq,mN⟩ y h
 dsimp only[jj] at h
 refine ra hx ?_
 refine AW.seq (cdh h rfl (fun f4 h=>?_) (fun f4 h=>?_))
 refine AW.skip (AW.seq (AW.block (ra hx ?_)))
 refine rsd [] hx fun K hK=>?_
 iterate 6 refine sa ?_
 obtain⟨qU,h⟩:=aA h
 iterate 4 refine sbi ?_
 obtain⟨OQ,h⟩:=aA h
 iterate 5 refine sbi ?_
 obtain⟨x6,v7,h⟩:=ae h
 replace v7:=bw v7
 refine s2 (d2:=dI .u64 x6) kE (fq (congrArg (dI .u64) v7)) ?_
 refine nl hK ?_
 refine rs hx fun K hK=>?_
 iterate 7 refine sa ?_
 obtain⟨hc8,h⟩:=aA h
 have hn9:(i64.wrap (nd+bq)).toNat<17:=by omega
 refine sbi ?_
 obtain⟨l5,Gt,h⟩:=ae h
 replace Gt:=bw Gt
 refine s0 (nN (b':=u32.wrap (x6)) (bV.comp (bV.id _ _) (bV.vec (cI .u32) mN (i64.wrap (nd+bq)).toNat hn9) (fun _=>rfl)) bQ Gt) ?_
 refine nl hK ?_
 iterate 2 refine rb hx ?_
 cases h
 exact PS.l (PE.i (wkN h0 [1] (wR rfl (wR rfl (wR rfl (wR rfl (wR rfl (wR rfl (wR rfl wTn))))))) (vC rfl (vC rfl wVn)) wLn))
 refine AW.exit ?_
 try dsimp only
 try simp only[vg,reduceIte,Nat.reduceEqDiff,reduceCtorEq]
 cases h
 exact PS.r ⟨by nofun,PE.i (wkN h0 [] (wR rfl (wR rfl (wR rfl (wR rfl wTn)))) (vC rfl wVn) wLn)⟩
 obtain⟨bf,kA⟩:=y
 refine lw0 ?_
 refine rqd [] hx fun K hK=>?_
 iterate 5 refine sa ?_
 obtain⟨hc13,h⟩:=aA h
 iterate 6 refine sbi ?_
 obtain⟨hc15,h⟩:=aA h
 have Qf:(i64.wrap (nd+cU)).toNat<17:=by omega
 refine sbi ?_
 obtain⟨pW,v8,h⟩:=ae h
 replace v8:=bw v8
 refine s0 (nN (b':=u32.wrap (((kA)[(i64.wrap (nd+cU)).toNat]!)+(u32.wrap (bf)))) (bV.comp (bV.id _ _) (bV.vec (cI .u32) kA (i64.wrap (nd+cU)).toNat Qf) (fun _=>rfl)) bQ v8) ?_
 refine nl hK ?_
 cases h
 exact rH0 (wkN h0 [] wTn (vC rfl wVn) wLn)
def eW(x1:Int)(FY:(Vector Int 16)×Int):Int×(Vector Int 16)×(Vector Int 17)→Option ((Int×(Vector Int 16)×(Vector Int 17))⊕((Vector Int 16)×(Vector Int 17))):=fun (su,CM,Fi)=>cnd (decide ((0:Int)≤su)) (bnd (iV FY.1 x1 su Fi) fun HJ=>bnd (S:=Int×(Vector Int 17)) (bnd (jV FY.1 x1 su HJ Fi) fun Re=>cnd Re.1 (bnd (jZ FY.1 x1 su Re.2) fun LJ=>some ((u64.wrap (HJ - (1:Int)),LJ))) (some ((HJ,Re.2)))) fun (uj,Lq)=>gd (0≤su∧su<16) (some (.inl (i64.wrap (su - (1:Int)),(CM).set! (su).toNat (u32.wrap (uj)),Lq)))) (some (.inr (CM,Fi)))
def fQ(aK:Vector Int 16)(aQ:Vector Int 16):Option ((Vector Int 16)×(Vector Int 16)):=bnd (eO aQ) fun x1=>bnd (eO aK) fun x3=>bnd (ic aK aQ) fun x5=>cnd (decide (x5<(0:Int))) (bnd (some (#v[(0:Int),0,0,0,0,0,0,0,0,0,0,0,0,0,0,0])) fun x8=>some (x8,aK)) (cnd (decide (x1=(1:Int))) (bnd (ni aK ((aQ)[((0:Int)).toNat]!)) fun m9=>bnd (some (#v[m9.2,0,0,0,0,0,0,0,0,0,0,0,0,0,0,0])) fun pX=>some (m9.1,pX)) (gd (0≤i64.wrap (x1 - (1:Int))∧i64.wrap (x1 - (1:Int))<16) (bnd (fK ((aQ)[(i64.wrap (x1 - (1:Int))).toNat]!)) fun sG=>bnd (px aQ sG) fun FY=>bnd (px aK sG) fun CS=>bnd (some (vOf 17 (lCp ((Vector.replicate 17 (0:Int))).toList 0 (List.take 17 (List.take 16 (List.drop 0 (CS.1).toList)))))) fun zF=>bnd (bo (eW x1 FY) (i64.wrap (x3 - x1),(eo),(zF).set! ((16:Int)).toNat CS.2)) fun (AI,vj)=>bnd (oi (vOf 16 (List.take 16 (List.drop 0 (vj).toList))) sG) fun LI=>some (AI,LI))))
theorem tN {aK:Vector Int 16}{aQ:Vector Int 16}{r:(Vector Int 16)×(Vector Int 16)}(h:fQ aK aQ=some r):ar prog 162 [dG (cA 16 (cI .u32)) aK,dG (cA 16 (cI .u32)) aQ] (.tu [dG (cA 16 (cI .u32)) r.1,dG (cA 16 (cI .u32)) r.2]):=by
 refine bn (rs:=[.cell 4 39,.cell 5 39]) (fun cx hx h0=>?_) func162
 unfold fQ at h
 refine rai hx ?_
 refine rsd [148] hx fun K hK=>?_
 refine mbi ?_
 refine cqb h kL fun x1 h=>?_
 refine mbi ?_
 refine cqb h kL fun x3 h=>?_
 refine nbi hK ?_
 refine AW.seq (rs hx fun K hK=>?_)
 refine mbi ?_
 refine scb h pJ fun x5 h=>?_
 refine nbi hK ?_
 refine cdh h rfl (fun t8 h=>?_) (fun t8 h=>?_)
 refine AW.seq ?_
 obtain⟨x8,QW,h⟩:=ae h
 replace QW:=bw QW
 refine jn (PE cx .normal (fun (_:Unit)=>[(4,.pt 0 0),(5,.pt 1 0)]) (fun (_:Unit)=>⟨[(0,dC ((cA 16 (cI .u32)).f x8)),(1,dC ((cA 16 (cI .u32)).f aK))],[],2⟩) ()) ?_ ?_
 refine dw (DW.split 1 2 (by decide) ?_ ?_)
 refine dwg [] [0,1,2,3] hx (by kernel_rfl) (by kernel_rfl) (by kernel_rfl) fun K hK=>?_
 dsimp only[eh,mM,mW,List.map]
 refine s1 (d:=dG (cA 16 (cI .u32)) (#v[(0:Int),0,0,0,0,0,0,0,0,0,0,0,0,0,0,0])) (mw cY bQ) ?_
 refine sbi ?_
 refine s0 (nN (b':=#v[(0:Int),0,0,0,0,0,0,0,0,0,0,0,0,0,0,0]) (bV.id _ _) cY QW) ?_
 refine tzi ?_
 exact .nil (hK _ _ (pe0 h0 [2,3]))
 refine dwg [] [0,2,1,3] hx (by kernel_rfl) (by kernel_rfl) (by kernel_rfl) fun K hK=>?_
 dsimp only[eh,mM,mW,List.map]
 refine s1 (d:=dG (cA 16 (cI .u32)) (#v[(0:Int),0,0,0,0,0,0,0,0,0,0,0,0,0,0,0])) (mw cY bQ) ?_
 refine s0 (nN (b':=#v[(0:Int),0,0,0,0,0,0,0,0,0,0,0,0,0,0,0]) (bV.id _ _) cY QW) ?_
 refine sbi ?_
 refine tzi ?_
 exact .nil (hK _ _ (pe0 h0 [2,3]))
 refine lw0 ?_
 refine AW.ret ?_
 cases h
 exact rv2
 refine AW.skip (AW.seq (ra hx ?_))
 refine cdh h rfl (fun nG h=>?_) (fun nG h=>?_)
 refine rs hx fun K hK=>?_
 refine sbi ?_
 refine s1 (vU (by decide:0≤(0:Int)∧(0:Int)<((16:Nat):Int)) cY bQ) ?_
 refine mbi ?_
 refine scb h F8 fun m9 h=>?_
 refine nbi hK ?_
 refine rs hx fun K hK=>?_
 iterate 2 refine sbi ?_
 refine s1 (d:=dG (cA 16 (cI .u32)) (#v[m9.2,0,0,0,0,0,0,0,0,0,0,0,0,0,0,0])) (mw cY bQ) ?_
 refine tzi ?_
 obtain⟨pX,yZ,h⟩:=ae h
 replace yZ:=bw yZ
 refine s0 (nN (b':=#v[m9.2,0,0,0,0,0,0,0,0,0,0,0,0,0,0,0]) (bV.id _ _) cY yZ) ?_
 refine nl hK ?_
 refine AW.ret ?_
 cases h
 exact rv2
 refine AW.skip (rs hx fun K hK=>?_)
 iterate 2 refine sa ?_
 obtain⟨Qj,h⟩:=aA h
 refine mbi ?_
 refine scb h vZ fun sG h=>?_
 refine nbi hK ?_
 refine rs hx fun K hK=>?_
 refine mbi ?_
 refine scb h DA fun FY h=>?_
 refine nbi hK ?_
 refine rs hx fun K hK=>?_
 refine mbi ?_
 refine scb h DA fun CS h=>?_
 refine nbi hK ?_
 refine rs hx fun K hK=>?_
 refine s1 (yE (F:=(cA 17 (cI .u32)).f (Vector.replicate 17 (0:Int))) DI) ?_
 refine nl hK ?_
 refine rsd [] hx fun K hK=>?_
 refine q1 (slA (n:=17) (l:=(0:Int)) (h:=(17:Int)) tok (by decide) DI bQ rfl rfl) ?_
 refine q1 (slA (n:=16) (l:=(0:Int)) (h:=(16:Int)) tok (by decide) cY bQ rfl rfl) ?_
 obtain⟨zF,SB,h⟩:=ae h
 replace SB:=bw SB
 refine q1 (hp':=⟨[(6,dC ((cA 17 (cI .u32)).f zF)),(6,dC ((cA 17 (cI .u32)).f (Vector.replicate 17 (0:Int)))),(5,dC ((cA 16 (cI .u32)).f CS.1)),(5,dC ((cA 16 (cI .u32)).f (eo))),(4,dC ((cA 16 (cI .u32)).f FY.1)),(4,dC ((cA 16 (cI .u32)).f (eo))),(3,dC ((cA 16 (cI .u32)).f (eo))),(2,dC ((cA 16 (cI .u32)).f (eo))),(1,dC ((cA 16 (cI .u32)).f aQ)),(0,dC ((cA 16 (cI .u32)).f aK))],[],7⟩) (sCpA (c:=(cI .u32)) (v:=(Vector.replicate 17 (0:Int))) (s:=(List.take 16 (List.drop 0 (CS.1).toList))) tok Rt bQ (xl.arr (c:=(cI .u32)) (v:=CS.1) rfl 0 (by decide)) (by simp only[ep,fc,nL];omega) rfl 0 (by decide) (congrArg (fun q=>(6,dC ((cA 17 (cI .u32)).f q))::_) SB)) ?_
 refine nl hK ?_
 refine rs hx fun K hK=>?_
 refine sa ?_
 have hn26:((16:Int)).toNat<17:=by omega
 refine s1 (vU (by decide:0≤(16:Int)∧(16:Int)<((17:Nat):Int)) DI bQ) ?_
 refine s0 (yC (b':=CS.2) (bV.comp (bV.id _ _) (bV.vec (cI .u32) zF ((16:Int)).toNat hn26) (fun _=>rfl)) bQ) ?_
 refine nl hK ?_
 refine AW.seq (ra hx ?_)
 refine AW.block ?_
 obtain⟨y,hy,h⟩:=ae h
 refine lp (S:=Int×(Vector Int 16)×(Vector Int 17)) (X:=(Vector Int 16)×(Vector Int 17)) (fun (su,CM,Fi)=>[(4,.pt 0 0),(5,.pt 1 0),(6,dI .i64 x1),(10,dI .i64 sG),(11,.pt 2 0),(15,.pt 3 0),(16,dI .i64 su)]) (fun (su,CM,Fi)=>⟨[(0,dC ((cA 16 (cI .u32)).f CM)),(1,dC ((cA 16 (cI .u32)).f (eo))),(2,dC ((cA 16 (cI .u32)).f FY.1)),(3,dC ((cA 17 (cI .u32)).f Fi))],[],4⟩) (PE cx (.exit 0) (fun (AI,vj)=>[(4,.pt 0 0),(5,.pt 1 0),(10,dI .i64 sG),(15,.pt 2 0)]) fun (AI,vj)=>⟨[(0,dC ((cA 16 (cI .u32)).f AI)),(1,dC ((cA 16 (cI .u32)).f (eo))),(2,dC ((cA 17 (cI .u32)).f vj))],[],3⟩) hy ?_ ?_ ?_
 exact wk0 h0 [2,3,4,6]
 clear hy h
 rintro⟨su,CM,Fi⟩ y h
 dsimp only[eW] at h
 refine AW.seq (ra hx ?_)
 refine cdh h rfl (fun Tj h=>?_) (fun Tj h=>?_)
 refine AW.skip (AW.seq (AW.block (rs hx fun K hK=>?_)))
 iterate 3 refine sbi ?_
 obtain⟨HJ,Iq,h⟩:=ae h
 refine s1 (Jk [3] rfl (CT Iq) (fA (ax _) (fAG (ax _) (fA (ax _) (fA (ax _) fAn)))) (vC rfl wVn) wLn (rvC rvN) rfl rfl) ?_
 refine nbi hK ?_
 refine AW.seq ?_
 obtain⟨y,hy,h⟩:=ae h
 refine jn ((PE cx .normal (fun (uj,Lq)=>[(4,.pt 0 0),(5,.pt 1 0),(6,dI .i64 x1),(10,dI .i64 sG),(11,.pt 2 0),(15,.pt 3 0),(16,dI .i64 su),(17,dI .u64 uj)]) fun (uj,Lq)=>⟨[(0,dC ((cA 16 (cI .u32)).f CM)),(1,dC ((cA 16 (cI .u32)).f (eo))),(2,dC ((cA 16 (cI .u32)).f FY.1)),(3,dC ((cA 17 (cI .u32)).f Lq))],[],4⟩) y) ?_ ?_
 replace h:=hy
 refine rs hx fun K hK=>?_
 iterate 4 refine sbi ?_
 obtain⟨Re,hx31,h⟩:=ae h
 refine s1 (Jk [3] rfl (DB hx31) (fA (ax _) (fAG (ax _) (fA (ax _) (fA (ax _) (fA (ax _) fAn))))) (vC rfl wVn) wLn (rvC rvN) rfl rfl) ?_
 refine nl hK ?_
 refine cdh h rfl (fun hb32 h=>?_) (fun hb32 h=>?_)
 refine ra hx ?_
 refine rq hx fun K hK=>?_
 iterate 3 refine sbi ?_
 obtain⟨LJ,Qa,h⟩:=ae h
 refine s1 (Jk [3] rfl (DC Qa) (fA (ax _) (fAG (ax _) (fA (ax _) (fA (ax _) fAn)))) (vC rfl wVn) wLn (rvC rvN) rfl rfl) ?_
 refine nl hK ?_
 exact pe1 h h0 [0,1,2,3]
 exact AW.skip (pe1 h h0 [0,1,2,3])
 obtain⟨uj,Lq⟩:=y
 refine lw0 ?_
 refine rq hx fun K hK=>?_
 iterate 3 refine sa ?_
 obtain⟨hc36,h⟩:=aA h
 have hn37:(su).toNat<16:=by omega
 refine sbi ?_
 refine s0 (yC (b':=u32.wrap (uj)) (bV.comp (bV.id _ _) (bV.vec (cI .u32) CM (su).toNat hn37) (fun _=>rfl)) bQ) ?_
 refine nl hK ?_
 refine rb hx ?_
 exact pel h h0 [0,1,2,3]
 exact AW.exit (per h h0 [0,1,3])
 obtain⟨AI,vj⟩:=y
 refine lw0 ?_
 refine rsd [193] hx fun K hK=>?_
 refine sbi ?_
 refine q1 (slA (n:=17) (l:=(0:Int)) (h:=(16:Int)) tok (by decide) DI bQ rfl ⟨_,rfl⟩) ?_
 refine q1 (sPtr tok rfl cY) ?_
 refine s1 (d:=dG (cA 16 (cI .u32)) (vOf 16 (List.take 16 (List.drop 0 (vj).toList)))) (AP (bV.sub (o:=0) 16 (cI .u32) vj 0 (by decide) (by first|rfl|decide)) cY) ?_
 refine sa ?_
 obtain⟨LI,hx40,h⟩:=ae h
 refine sq tok (HM hx40) (by simp only[jK,mZ,iJ,kr,fH,cm];exact⟨db _ _,rfl⟩) (lA (pm _ _) (lA (ax _) lAn)) (.inl (iR _ _)) ?_
 refine nbi hK ?_
 refine AW.ret ?_
 cases h
 exact rv2
def qj(aZ:ap):Option ap:=bnd (cw [aZ]) fun x1=>cnd (!x1) (bnd (eH) fun x4=>some x4) (bnd (bH false aZ.vW) fun x6=>some x6)
theorem JK {aZ:ap}{r:ap}(h:qj aZ=some r):ar prog 163 [dG aq aZ] (dG aq r):=by
 refine bn (rs:=[.cell 2 41]) (fun cx hx h0=>?_) func163
 unfold qj at h
 refine rai hx ?_
 refine AW.seq (rs hx fun K hK=>?_)
 refine sbi ?_
 refine s1 (lh ([aZ]:List ap) aq qz ff) ?_
 refine scb h fe fun x1 h=>?_
 refine nbi hK ?_
 refine cdh h rfl (fun fZ h=>?_) (fun fZ h=>?_)
 refine rs hx fun K hK=>?_
 refine scb h ib fun x4 h=>?_
 refine nbi hK ?_
 exact AW.ret (rtv h)
 refine AW.skip (rs hx fun K hK=>?_)
 refine mbi ?_
 refine scb h dv fun x6 h=>?_
 refine nbi hK ?_
 exact AW.ret (rtv h)
def iZ :Int×Int→Option ((Int×Int)⊕Int):=fun (aU,gM)=>cnd (decide (gM≠(0:Int))) (gd (gM≠0) (some (.inl (gM,Int.tmod aU gM)))) (some (.inr aU))
def cE(On:ap→ap→Option ap)(aK:ap)(aQ:ap):Option ap:=bnd (cw [aK,aQ]) fun x1=>cnd (!x1) (bnd (eH) fun x4=>some x4) (bnd (S:=Bool) (bnd (eO aK.vW) fun x6=>cnd (decide (x6≤(2:Int))) (bnd (eO aQ.vW) fun x9=>some (decide (x9≤(2:Int)))) (some (false))) fun ur=>cnd ur (bnd (some (ior .u64 (yY .u64 (u64.wrap ((aK.vW)[((1:Int)).toNat]!)) (32:Int)) (u64.wrap ((aK.vW)[((0:Int)).toNat]!)))) fun pW=>bnd (some (ior .u64 (yY .u64 (u64.wrap ((aQ.vW)[((1:Int)).toNat]!)) (32:Int)) (u64.wrap ((aQ.vW)[((0:Int)).toNat]!)))) fun tL=>bnd (bo (iZ) (pW,tL)) fun bD=>bnd (bH false (#v[u32.wrap (bD),u32.wrap (me .u64 bD (32:Int)),0,0,0,0,0,0,0,0,0,0,0,0,0,0])) fun zF=>some zF) (cnd (decide (¬(aQ.vW=#v[(0:Int),0,0,0,0,0,0,0,0,0,0,0,0,0,0,0]))) (bnd (fQ aK.vW aQ.vW) fun AU=>bnd (bH false aQ.vW) fun CR=>bnd (bH false AU.2) fun HI=>bnd (On CR HI) fun LJ=>some LJ) (bnd (qj aK) fun th=>some th)))
theorem F9 {On:ap→ap→Option ap}(ih:∀{aK:ap} {aQ:ap} {r:ap},On aK aQ=some r→ar prog 122 [dG aq aK,dG aq aQ] (dG aq r)){aK:ap}{aQ:ap}{r:ap}(h:cE On aK aQ=some r):ar prog 122 [dG aq aK,dG aq aQ] (dG aq r):=by
 refine bn (rs:=[.cell 4 41]) (fun cx hx h0=>?_) func122
 unfold cE at h
 refine rai hx ?_
 refine AW.seq (rs hx fun K hK=>?_)
 iterate 2 refine sbi ?_
 refine s1 (lh ([aK,aQ]:List ap) aq qz ff) ?_
 refine scb h fe fun x1 h=>?_
 refine nbi hK ?_
 refine cdh h rfl (fun fZ h=>?_) (fun fZ h=>?_)
 refine rs hx fun K hK=>?_
 refine scb h ib fun x4 h=>?_
 refine nbi hK ?_
 exact AW.ret (rtv h)
 refine AW.skip ?_
 iterate 2 refine AW.seq ?_
 obtain⟨ur,hy,h⟩:=ae h
 refine jn ((PE cx .normal (fun ur=>[(2,.pt 0 0),(3,.pt 1 0),(4,.pt 2 0),(26,dB ur)]) fun ur=>⟨[(0,dC (aq.f aK)),(1,dC (aq.f aQ)),(2,dC (aq.f ci))],[],3⟩) ur) ?_ ?_
 replace h:=hy
 refine rq hx fun K hK=>?_
 refine mbi ?_
 refine scb h kL fun x6 h=>?_
 refine mbi ?_
 rcases aF h with⟨t7,h⟩|⟨t7,h⟩
 refine ga t7 ?_
 refine gbi ?_
 refine gcb h kL fun x9 h=>?_
 refine nbi hK ?_
 exact pe1 h h0 [0,1,2]
 refine nbi hK ?_
 exact pe1 h h0 [0,1,2]
 refine lw0 ?_
 refine cdh h rfl (fun Eu h=>?_) (fun Eu h=>?_)
 refine rsd [] hx fun K hK=>?_
 refine sa ?_
 refine s1 (vU (by decide:0≤(1:Int)∧(1:Int)<((16:Nat):Int)) cY bQ) ?_
 iterate 4 refine sbi ?_
 refine s1 (vU (by decide:0≤(0:Int)∧(0:Int)<((16:Nat):Int)) cY bQ) ?_
 iterate 4 refine sbi ?_
 refine s1 (vU (by decide:0≤(1:Int)∧(1:Int)<((16:Nat):Int)) cY bQ) ?_
 iterate 4 refine sbi ?_
 refine s1 (vU (by decide:0≤(0:Int)∧(0:Int)<((16:Nat):Int)) cY bQ) ?_
 iterate 3 refine sbi ?_
 obtain⟨pW,v8,h⟩:=ae h
 replace v8:=bw v8
 refine s2 (d2:=dI .u64 pW) kE (fq (congrArg (dI .u64) v8)) ?_
 obtain⟨tL,Al,h⟩:=ae h
 replace Al:=bw Al
 refine s2 (d2:=dI .u64 tL) kE (fq (congrArg (dI .u64) Al)) ?_
 refine nl hK ?_
 refine AW.seq (AW.block ?_)
 obtain⟨bD,hy,h⟩:=ae h
 refine lp (S:=Int×Int) (X:=Int) (fun (aU,gM)=>[(4,.pt 0 0),(5,dI .u64 aU),(6,dI .u64 gM)]) (fun (aU,gM)=>⟨[(0,dC (aq.f ci))],[],1⟩) (PE cx (.exit 0) (fun bD=>[(4,.pt 0 0),(5,dI .u64 bD)]) fun bD=>⟨[(0,dC (aq.f ci))],[],1⟩) hy ?_ ?_ ?_
 exact wk0 h0 [2]
 clear hy h
 rintro⟨aU,gM⟩ y h
 dsimp only[iZ] at h
 refine AW.seq (ra hx ?_)
 refine cdh h rfl (fun BH h=>?_) (fun BH h=>?_)
 refine AW.skip (AW.block (rqd [] hx fun K hK=>?_))
 iterate 3 refine sa ?_
 obtain⟨ML,h⟩:=aA h
 refine s1 (Fo ML) ?_
 refine nbi hK ?_
 exact pel h h0 [0]
 exact AW.exit (per h h0 [0])
 refine lw0 ?_
 refine rs hx fun K hK=>?_
 iterate 5 refine sa ?_
 refine s1 (d:=dG (cA 16 (cI .u32)) (#v[u32.wrap (bD),u32.wrap (me .u64 bD (32:Int)),0,0,0,0,0,0,0,0,0,0,0,0,0,0])) (mw cY bQ) ?_
 refine scb h dv fun zF h=>?_
 refine nbi hK ?_
 exact AW.ret (rtv h)
 refine AW.skip ?_
 iterate 2 refine AW.seq ?_
 refine jn (PE cx .normal (fun (_:Unit)=>[(2,.pt 0 0),(4,.pt 1 0),(7,.pt 2 0),(8,.pt 3 0)]) (fun (_:Unit)=>⟨[(0,dC (aq.f aK)),(1,dC (aq.f ci)),(2,dC ((cA 16 (cI .u32)).f aK.vW)),(3,dC ((cA 16 (cI .u32)).f aQ.vW))],[],4⟩) ()) ?_ ?_
 refine dw (DW.split 4 5 (by decide) ?_ ?_)
 refine DW.split 3 6 (by decide) ?_ ?_
 refine dwg [] [0,1,2,3,4,5,6,7] hx (by kernel_rfl) (by kernel_rfl) (by kernel_rfl) fun K hK=>?_
 dsimp only[eh,mM,mW,List.map]
 iterate 6 refine sbi ?_
 iterate 2 refine tzi ?_
 exact .nil (hK _ _ (pe0 h0 [0,2,3,4]))
 refine dwg [] [0,1,2,4,5,6,3,7] hx (by kernel_rfl) (by kernel_rfl) (by kernel_rfl) fun K hK=>?_
 dsimp only[eh,mM,mW,List.map]
 iterate 5 refine sbi ?_
 refine tzi ?_
 refine sbi ?_
 refine tzi ?_
 exact .nil (hK _ _ (pe0 h0 [0,2,3,4]))
 refine DW.split 3 6 (by decide) ?_ ?_
 refine dwg [] [0,1,2,3,5,4,6,7] hx (by kernel_rfl) (by kernel_rfl) (by kernel_rfl) fun K hK=>?_
 dsimp only[eh,mM,mW,List.map]
 iterate 6 refine sbi ?_
 iterate 2 refine tzi ?_
 exact .nil (hK _ _ (pe0 h0 [0,2,4,3]))
 refine dwg [] [0,1,2,5,4,6,3,7] hx (by kernel_rfl) (by kernel_rfl) (by kernel_rfl) fun K hK=>?_
 dsimp only[eh,mM,mW,List.map]
 iterate 5 refine sbi ?_
 refine tzi ?_
 refine sbi ?_
 refine tzi ?_
 exact .nil (hK _ _ (pe0 h0 [0,2,4,3]))
 refine lw0 ?_
 refine rs hx fun K hK=>?_
 refine sbi ?_
 refine s1 (d:=dG (cA 16 (cI .u32)) (#v[(0:Int),0,0,0,0,0,0,0,0,0,0,0,0,0,0,0])) (mw cY bQ) ?_
 refine s1 (xh tok 2 (by decide) (EqC.arr (EqC.int (d:=0) bQ) cY bQ) cY) ?_
 refine nl hK ?_
 refine cdh h rfl (fun hb26 h=>?_) (fun hb26 h=>?_)
 refine rs hx fun K hK=>?_
 refine mbi ?_
 refine scb h tN fun AU h=>?_
 refine nbi hK ?_
 refine rsd [145,122] hx fun K hK=>?_
 refine mbi ?_
 refine cqb h dv fun CR h=>?_
 refine mbi ?_
 refine cqb h dv fun HI h=>?_
 refine cqb h ih fun LJ h=>?_
 refine nbi hK ?_
 exact AW.ret (rtv h)
 refine AW.skip (rs hx fun K hK=>?_)
 refine mbi ?_
 refine scb h JK fun th h=>?_
 refine nbi hK ?_
 exact AW.ret (rtv h)
def ii:Nat→ap→ap→Option ap
 |0=>fun _ _=>none
 |n+1=>cE (ii n)
theorem yb:∀(n:Nat) {aK:ap} {aQ:ap} {r:ap},ii n aK aQ=some r→ar prog 122 [dG aq aK,dG aq aQ] (dG aq r)
 |0,_,_,_,h=>by cases h
 |n+1,_,_,_,h=>F9 (yb n) h
def nU(aK:ap)(aQ:ap):Option ap:=ii 1000 aK aQ
theorem wm {aK:ap}{aQ:ap}{r:ap}(h:nU aK aQ=some r):ar prog 122 [dG aq aK,dG aq aQ] (dG aq r):=yb 1000 h
def iW(aK:ap)(aQ:ap):Option (ap×ap):=bnd (S:=Bool) (bnd (cw [aK,aQ]) fun x1=>cnd (!x1) (some (true)) (bnd (fg aQ) fun x4=>some (decide (x4=(0:Int))))) fun dP=>cnd dP (bnd (eH) fun x8=>bnd (eH) fun l5=>some (x8,l5)) (bnd (S:=Unit⊕(ap×ap)) (bnd (lD aK) fun m9=>bnd (S:=Bool) (cnd m9.2 (some (decide (m9.1≠(-9223372036854775808:Int)))) (some (false))) fun gN=>cnd gN (bnd (lD aQ) fun pW=>bnd (S:=Bool) (cnd pW.2 (some (decide (pW.1≠(-9223372036854775808:Int)))) (some (false))) fun nZ=>cnd nZ (gd (pW.1≠0) (gd (pW.1≠0) (bnd (S:=Int×Int) (bnd (S:=Bool) (cnd (decide ((Int.tmod m9.1 pW.1)≠(0:Int))) (some (!((decide ((Int.tmod m9.1 pW.1)<(0:Int))) == (decide (pW.1<(0:Int)))))) (some (false))) fun sw=>cnd sw (bnd (some (i64.wrap ((i64.wrap (Int.tdiv m9.1 pW.1)) - (1:Int)))) fun AU=>bnd (some (i64.wrap ((Int.tmod m9.1 pW.1)+pW.1))) fun CR=>some ((AU,CR))) (some ((i64.wrap (Int.tdiv m9.1 pW.1),Int.tmod m9.1 pW.1)))) fun (kB,qP)=>bnd (gW kB) fun x32=>bnd (gW qP) fun x34=>some (.inr (x32,x34))))) (some (.inl ()))) (some (.inl ()))) fun y36=>match y36 with| .inl ()=>bnd (fQ aK.vW aQ.vW) fun xO=>bnd (bH (!(aK.vNeg == aQ.vNeg)) xO.1) fun LI=>bnd (S:=(Vector Int 16)×ap) (bnd (S:=Bool) (cnd (decide (¬(xO.2=#v[(0:Int),0,0,0,0,0,0,0,0,0,0,0,0,0,0,0]))) (some (!(aK.vNeg == aQ.vNeg))) (some (false))) fun CL=>cnd CL (bnd (gW (1:Int)) fun x44=>bnd (nS LI x44) fun x46=>bnd (ie aQ.vW xO.2) fun x48=>some ((x48,x46))) (some ((xO.2,LI)))) fun (Fh,Fg)=>bnd (bH aQ.vNeg Fh) fun Rc=>some (Fg,Rc)| .inr r=>some r)
theorem vr {aK:ap}{aQ:ap}{r:ap×ap}(h:iW aK aQ=some r):ar prog 150 [dG aq aK,dG aq aQ] (.tu [dG aq r.1,dG aq r.2]):=by
 refine bn (rs:=[.cell 4 41,.cell 5 41]) (fun cx hx h0=>?_) func150
 unfold iW at h
 refine rai hx ?_
 iterate 2 refine AW.seq ?_
 obtain⟨dP,hy,h⟩:=ae h
 refine jn ((PE cx .normal (fun dP=>[(2,.pt 0 0),(3,.pt 1 0),(4,.pt 2 0),(5,.pt 3 0),(24,dB dP)]) fun dP=>⟨[(0,dC (aq.f aK)),(1,dC (aq.f aQ)),(2,dC (aq.f ci)),(3,dC (aq.f ci))],[],4⟩) dP) ?_ ?_
 replace h:=hy
 refine rq hx fun K hK=>?_
 iterate 2 refine sbi ?_
 refine s1 (lh ([aK,aQ]:List ap) aq qz ff) ?_
 refine scb h fe fun x1 h=>?_
 refine mbi ?_
 rcases aF h with⟨fZ,h⟩|⟨fZ,h⟩
 refine nbi hK ?_
 exact pe1 h h0 [0,1,2,3]
 refine gbi ?_
 refine gcb h kM fun x4 h=>?_
 refine nbi hK ?_
 exact pe1 h h0 [0,1,2,3]
 refine lw0 ?_
 refine cdh h rfl (fun t8 h=>?_) (fun t8 h=>?_)
 refine rs hx fun K hK=>?_
 refine scb h ib fun x8 h=>?_
 refine scb h ib fun l5 h=>?_
 refine nbi hK ?_
 refine AW.ret ?_
 cases h
 exact rv2
 refine AW.skip (AW.seq ?_)
 obtain⟨y,hy,h⟩:=ae h
 refine jn ((PS (PE cx .normal (fun ()=>[(2,.pt 0 0),(3,.pt 1 0),(4,.pt 2 0),(5,.pt 3 0)]) fun ()=>⟨[(0,dC (aq.f aK)),(1,dC (aq.f aQ)),(2,dC (aq.f ci)),(3,dC (aq.f ci))],[],4⟩) (PR [.cell 4 41,.cell 5 41] fun r=>.tu [dG aq r.1,dG aq r.2])) y) ?_ ?_
 replace h:=hy
 refine rs hx fun K hK=>?_
 refine mbi ?_
 refine scb h ya fun m9 h=>?_
 refine nbi hK ?_
 refine AW.seq ?_
 obtain⟨gN,hy,h⟩:=ae h
 refine jn ((PE cx .normal (fun gN=>[(2,.pt 0 0),(3,.pt 1 0),(4,.pt 2 0),(5,.pt 3 0),(6,dI .i64 m9.1),(36,dB gN)]) fun gN=>⟨[(0,dC (aq.f aK)),(1,dC (aq.f aQ)),(2,dC (aq.f ci)),(3,dC (aq.f ci))],[],4⟩) gN) ?_ ?_
 replace h:=hy
 refine rq hx fun K hK=>?_
 refine mbi ?_
 rcases aF h with⟨uP,h⟩|⟨uP,h⟩
 refine nbi hK ?_
 exact pe1 h h0 [0,1,2,3]
 refine nbi hK ?_
 exact pe1 h h0 [0,1,2,3]
 refine lw0 ?_
 refine cdh h rfl (fun tz h=>?_) (fun tz h=>?_)
 refine rs hx fun K hK=>?_
 refine mbi ?_
 refine scb h ya fun pW h=>?_
 refine nbi hK ?_
 refine AW.seq ?_
 obtain⟨nZ,hy,h⟩:=ae h
 refine jn ((PE cx .normal (fun nZ=>[(2,.pt 0 0),(3,.pt 1 0),(4,.pt 2 0),(5,.pt 3 0),(6,dI .i64 m9.1),(8,dI .i64 pW.1),(46,dB nZ)]) fun nZ=>⟨[(0,dC (aq.f aK)),(1,dC (aq.f aQ)),(2,dC (aq.f ci)),(3,dC (aq.f ci))],[],4⟩) nZ) ?_ ?_
 replace h:=hy
 refine rq hx fun K hK=>?_
 refine mbi ?_
 rcases aF h with⟨Tn,h⟩|⟨Tn,h⟩
 refine nbi hK ?_
 exact pe1 h h0 [0,1,2,3]
 refine nbi hK ?_
 exact pe1 h h0 [0,1,2,3]
 refine lw0 ?_
 refine cdh h rfl (fun BH h=>?_) (fun BH h=>?_)
 refine rsd [] hx fun K hK=>?_
 iterate 2 refine sa ?_
 obtain⟨ML,h⟩:=aA h
 refine s1 (HA ML) ?_
 iterate 2 refine sa ?_
 obtain⟨hc23,h⟩:=aA h
 refine s1 (Fo hc23) ?_
 refine nbi hK ?_
 refine AW.seq ?_
 obtain⟨y,hy,h⟩:=ae h
 refine jn ((PE cx .normal (fun (kB,qP)=>[(4,.pt 0 0),(5,.pt 1 0),(10,dI .i64 kB),(11,dI .i64 qP)]) fun (kB,qP)=>⟨[(0,dC (aq.f ci)),(1,dC (aq.f ci))],[],2⟩) y) ?_ ?_
 replace h:=hy
 refine AW.seq ?_
 obtain⟨sw,hy,h⟩:=ae h
 refine jn ((PE cx .normal (fun sw=>[(4,.pt 0 0),(5,.pt 1 0),(8,dI .i64 pW.1),(10,dI .i64 (i64.wrap (Int.tdiv m9.1 pW.1))),(11,dI .i64 (Int.tmod m9.1 pW.1)),(61,dB sw)]) fun sw=>⟨[(0,dC (aq.f ci)),(1,dC (aq.f ci))],[],2⟩) sw) ?_ ?_
 replace h:=hy
 refine rq hx fun K hK=>?_
 refine mbi ?_
 rcases aF h with⟨Tk,h⟩|⟨Tk,h⟩
 refine nbi hK ?_
 exact pe1 h h0 [2,3]
 refine nbi hK ?_
 exact pe1 h h0 [2,3]
 refine lw0 ?_
 refine cdh h rfl (fun hb26 h=>?_) (fun hb26 h=>?_)
 refine rq hx fun K hK=>?_
 iterate 5 refine sa ?_
 obtain⟨AU,Ir,h⟩:=ae h
 replace Ir:=bw Ir
 refine s2 (d2:=dI .i64 AU) kE (fq (congrArg (dI .i64) Ir)) ?_
 obtain⟨CR,SA,h⟩:=ae h
 replace SA:=bw SA
 refine s2 (d2:=dI .i64 CR) kE (fq (congrArg (dI .i64) SA)) ?_
 refine nl hK ?_
 exact pe1 h h0 [0,1]
 exact AW.skip (pe1 h h0 [0,1])
 obtain⟨kB,qP⟩:=y
 refine lw0 ?_
 refine rs hx fun K hK=>?_
 refine sa ?_
 refine scb h rx fun x32 h=>?_
 refine sa ?_
 refine scb h rx fun x34 h=>?_
 refine nbi hK ?_
 refine AW.ret ?_
 cases h
 refine PS.r (PR.i ?_)
 exact rv2
 exact AW.skip (pel h h0 [0,1,2,3])
 exact AW.skip (pel h h0 [0,1,2,3])
 rcases y with⟨⟩|r
 rintro ex tm' hp' ⟨rfl,hw⟩
 refine AW.weak hw (rs hx fun K hK=>?_)
 refine mbi ?_
 refine scb h tN fun xO h=>?_
 refine nbi hK ?_
 refine rs hx fun K hK=>?_
 refine mbi ?_
 refine scb h dv fun LI h=>?_
 refine nbi hK ?_
 refine AW.seq ?_
 obtain⟨y,hy,h⟩:=ae h
 refine jn ((PE cx .normal (fun (Fh,Fg)=>[(3,.pt 0 0),(4,.pt 1 0),(5,.pt 2 0),(13,.pt 3 0),(14,.pt 4 0)]) fun (Fh,Fg)=>⟨[(0,dC (aq.f aQ)),(1,dC (aq.f ci)),(2,dC (aq.f ci)),(3,dC ((cA 16 (cI .u32)).f Fh)),(4,dC (aq.f Fg))],[],5⟩) y) ?_ ?_
 replace h:=hy
 refine AW.seq ?_
 obtain⟨CL,hy,h⟩:=ae h
 refine jn ((PE cx .normal (fun CL=>[(3,.pt 0 0),(4,.pt 1 0),(5,.pt 2 0),(13,.pt 3 0),(14,.pt 4 0),(95,dB CL)]) fun CL=>⟨[(0,dC (aq.f aQ)),(1,dC (aq.f ci)),(2,dC (aq.f ci)),(3,dC ((cA 16 (cI .u32)).f xO.2)),(4,dC (aq.f LI))],[],5⟩) CL) ?_ ?_
 replace h:=hy
 refine rq hx fun K hK=>?_
 refine sbi ?_
 refine s1 (d:=dG (cA 16 (cI .u32)) (#v[(0:Int),0,0,0,0,0,0,0,0,0,0,0,0,0,0,0])) (mw cY bQ) ?_
 refine s1 (xh tok 2 (by decide) (EqC.arr (EqC.int (d:=0) bQ) cY bQ) cY) ?_
 refine sa ?_
 rcases aF h with⟨hb41,h⟩|⟨hb41,h⟩
 refine nbi hK ?_
 exact pe1 h h0 [1,2,3,5,6]
 refine nbi hK ?_
 exact pe1 h h0 [1,2,3,5,6]
 refine lw0 ?_
 refine cdh h rfl (fun hb43 h=>?_) (fun hb43 h=>?_)
 refine rqd [91,181,165] hx fun K hK=>?_
 refine mbi ?_
 refine cqb h rx fun x44 h=>?_
 refine cqb h JI fun x46 h=>?_
 refine mbi ?_
 refine cqb h tj fun x48 h=>?_
 refine nbi hK ?_
 exact pe1 h h0 [0,1,2,3,4]
 exact AW.skip (pe1 h h0 [0,1,2,3,4])
 obtain⟨Fh,Fg⟩:=y
 refine lw0 ?_
 refine rsd [145] hx fun K hK=>?_
 refine mbi ?_
 refine cqb h dv fun Rc h=>?_
 refine nbi hK ?_
 refine AW.ret ?_
 cases h
 exact rv2
 rintro ex tm' hp' ⟨rfl,hw⟩
 cases h
 exact hw
def ig(aK:ap)(aQ:ap):Option ap:=bnd (iW aK aQ) fun x1=>some x1.1
theorem kF {aK:ap}{aQ:ap}{r:ap}(h:ig aK aQ=some r):ar prog 97 [dG aq aK,dG aq aQ] (dG aq r):=by
 refine bn (rs:=[.cell 4 41]) (fun cx hx h0=>?_) func97
 unfold ig at h
 refine rai hx ?_
 refine rs hx fun K hK=>?_
 refine mbi ?_
 refine scb h vr fun x1 h=>?_
 refine nbi hK ?_
 refine rai hx ?_
 exact AW.ret (rtv h)
def nT(aK:ap)(aQ:ap):Option ap:=bnd (iW aK aQ) fun x1=>some x1.2
theorem sM {aK:ap}{aQ:ap}{r:ap}(h:nT aK aQ=some r):ar prog 98 [dG aq aK,dG aq aQ] (dG aq r):=by
 refine bn (rs:=[.cell 4 41]) (fun cx hx h0=>?_) func98
 unfold nT at h
 refine rai hx ?_
 refine rs hx fun K hK=>?_
 refine mbi ?_
 refine scb h vr fun x1 h=>?_
 refine nbi hK ?_
 refine rai hx ?_
 exact AW.ret (rtv h)
def qi(aK:ap)(aQ:ap):Option Int:=bnd (cw [aK]) fun x1=>bnd (cw [aQ]) fun x3=>bnd (S:=Bool) (cnd (!x1) (some (!x3)) (some (false))) fun QK=>cnd QK (some (0:Int)) (cnd (!x1) (some (-1:Int)) (cnd (!x3) (some (1:Int)) (cnd (!(aK.vNeg == aQ.vNeg)) (cnd aK.vNeg (some (-1:Int)) (some (1:Int))) (cnd aK.vNeg (bnd (ic aQ.vW aK.vW) fun qw=>some qw) (bnd (ic aK.vW aQ.vW) fun JD=>some JD)))))
theorem JJ {aK:ap}{aQ:ap}{r:Int}(h:qi aK aQ=some r):ar prog 96 [dG aq aK,dG aq aQ] (dI .i64 r):=by
 refine bn (rs:=[.tmp 4]) (fun cx hx h0=>?_) func96
 unfold qi at h
 refine ra hx ?_
 refine rsd [147] hx fun K hK=>?_
 refine sbi ?_
 refine s1 (AQ ([aK]:List ap) aq qz ff) ?_
 refine cqb h fe fun x1 h=>?_
 refine sbi ?_
 refine s1 (AQ ([aQ]:List ap) aq qz ff) ?_
 refine cqb h fe fun x3 h=>?_
 refine nbi hK ?_
 refine AW.seq (AW.block (AW.seq ?_))
 obtain⟨QK,hy,h⟩:=ae h
 refine jn ((PE cx .normal (fun QK=>[(2,.pt 0 0),(3,.pt 1 0),(5,dB x1),(6,dB x3),(13,dB QK)]) fun QK=>⟨[(0,dC (aq.f aK)),(1,dC (aq.f aQ))],[],2⟩) QK) ?_ ?_
 replace h:=hy
 refine rq hx fun K hK=>?_
 refine mbi ?_
 rcases aF h with⟨rW,h⟩|⟨rW,h⟩
 refine nbi hK ?_
 exact pe1 h h0 [0,1]
 refine nbi hK ?_
 exact pe1 h h0 [0,1]
 refine lw0 ?_
 refine cdh h rfl (fun t8 h=>?_) (fun t8 h=>?_)
 refine ra hx ?_
 exact AW.ret (rtv h)
 refine ra hx ?_
 refine cdh h rfl (fun t7 h=>?_) (fun t7 h=>?_)
 refine ra hx ?_
 exact AW.ret (rtv h)
 refine ra hx ?_
 refine cdh h rfl (fun KD h=>?_) (fun KD h=>?_)
 refine ra hx ?_
 exact AW.ret (rtv h)
 refine rai hx ?_
 refine cdh h rfl (fun nG h=>?_) (fun nG h=>?_)
 refine AW.seq (rai hx ?_)
 refine cdh h rfl (fun xU h=>?_) (fun xU h=>?_)
 refine ra hx ?_
 exact AW.ret (rtv h)
 refine AW.skip (ra hx ?_)
 exact AW.ret (rtv h)
 refine rai hx ?_
 refine cdh h rfl (fun Eu h=>?_) (fun Eu h=>?_)
 refine rs hx fun K hK=>?_
 refine mbi ?_
 refine scb h pJ fun qw h=>?_
 refine nbi hK ?_
 exact AW.ret (rtv h)
 refine AW.skip (rs hx fun K hK=>?_)
 refine mbi ?_
 refine scb h pJ fun JD h=>?_
 refine nbi hK ?_
 exact AW.ret (rtv h)
section
theorem vsub {b n A:Nat}(m o:Nat)(h:o+m≤n):vOf m (List.take m (List.drop o (vN b n A).toList))=vN b m (A / b ^ o):=by
 have hl:(List.take m (List.drop o (vN b n A).toList)).length=m:=by
  rw[ep,fc,nL];omega
 apply od
 intro j hj
 rw[jD hj]
 have e1:=zS (vOf m (List.take m (List.drop o (vN b n A).toList))) hj
 rw[yO hl] at e1
 rw[←e1,bI _ j (by omega),List.getElem_take,List.getElem_drop]
 have e2:=jD (b:=b) (A:=A) (j:=o+j) (n:=n) (by omega)
 rw[←zS (vN b n A) (by omega),bI _ (o+j) (by rw[nL];omega)] at e2
 rw[e2]
 unfold dg
 rw[hJ,gZ]
section
variable {b R a B i k:Nat}
def sE(b R a B i k:Nat):Nat:=R % b ^ (i+k)+a*(B % b ^ k)*b ^ i
def zB(b R a B i k:Nat):Nat:=R / b ^ (i+k)*b ^ (i+k)+sE b R a B i k % b ^ (i+k)
theorem HB:sE b R a B i (k+1)=sE b R a B i k+b ^ (i+k)*(dg b R (i+k)+a*dg b B k):=by
 unfold sE
 rw[show i+(k+1)=i+k+1 from rfl,g5,g5 (A:=B),vf,vf,bR,hJ b i k]
 have:a*(b ^ k*dg b B k)*b ^ i=b ^ i*b ^ k*(a*dg b B k):=by
  simp only[fa,zt,bA]
 rw[this];omega
theorem Pn(hb:0<b)(ha:a<b):sE b R a B i k / b ^ (i+k)<b:=by
 have hp:0<b ^ (i+k):=bO hb
 rw[lM hp]
 unfold sE
 have h1:=eu R hp
 have h2:a*(B % b ^ k)*b ^ i≤(b - 1)*b ^ (i+k):=by
  rw[hJ,fa]
  refine lf (by omega) ?_
  rw[bA (b ^ i)]
  exact cM _ (mv (eu _ (bO hb)))
 have h3:(b - 1)*b ^ (i+k)+b ^ (i+k)=b*b ^ (i+k):=by
  rw[←qK];congr 1;omega
 omega
theorem Orow_dg(hb:0<b):dg b (zB b R a B i k) (i+k)=dg b R (i+k):=by
 unfold zB dg
 rw[bA (R / _),E6 (bO hb),eF (eu _ (bO hb)),iK]
theorem QO(hb:0<b):up1 b (zB b R a B i k) (i+k) (sE b R a B i (k+1) / b ^ (i+k) % b)=zB b R a B i (k+1):=by
 have hp:0<b ^ (i+k):=bO hb
 have e1:zB b R a B i k / b ^ (i+k+1)=R / b ^ (i+k+1):=by
  rw[cG,←gZ,←gZ]
  congr 1
  unfold zB
  rw[bA (R / _),E6 hp,eF (eu _ hp),iK]
 have e2:zB b R a B i k % b ^ (i+k)=sE b R a B i (k+1) % b ^ (i+k):=by
  rw[HB,B9]
  unfold zB
  rw[bA (R / _),Nat.mul_add_mod,B8]
 unfold up1
 rw[e1,e2]
 show _=R / b ^ (i+k+1)*b ^ (i+k+1)+sE b R a B i (k+1) % b ^ (i+k+1)
 rw[g5 (A:=sE b R a B i (k+1)),bA (b ^ (i+k)) (dg _ _ _)]
 unfold dg
 omega
end
theorem Mul_row {A B i m:Nat}(hi:i<16)(hm:m≤16)(hB:B<4294967296 ^ m)(x y:ap)(hx:x.vW=W A)(hy:y.vW=W B):
  ∃c:Nat,c<4294967296∧∃O:Nat,bo (iX x y (m:Int) (i:Int)) ((0:Int),(0:Int),vN 4294967296 32 (A % 4294967296 ^ i*B))=some ((c:Int),vN 4294967296 32 O)∧up1 4294967296 O (i+m) c=A % 4294967296 ^ (i+1)*B:=by
 have hb:0<(4294967296:Nat):=by decide
 have hR:A % 4294967296 ^ i*B<4294967296 ^ (i+m):=by
  rw[hJ]
  exact Nat.mul_lt_mul_of_lt_of_le (eu _ (bO hb)) (mv hB) (bO hb)
 generalize hRR:A % 4294967296 ^ i*B=R at hR ⊢
 have ha:=@dgl A i
 have hl:=rP (b:=iX x y (m:Int) (i:Int)) (s0:=((0:Int),(0:Int),vN 4294967296 32 R)) (fun k=>((sE 4294967296 R (dg 4294967296 A i) B i k / 4294967296 ^ (i+k):Nat),(k:Int),vN 4294967296 32 (zB 4294967296 R (dg 4294967296 A i) B i k))) m ((sE 4294967296 R (dg 4294967296 A i) B i m / 4294967296 ^ (i+m):Nat),vN 4294967296 32 (zB 4294967296 R (dg 4294967296 A i) B i m))
  (by
   have e1:sE 4294967296 R (dg 4294967296 A i) B i 0=R % 4294967296 ^ i:=by unfold sE;simp[m7]
   have e2:zB 4294967296 R (dg 4294967296 A i) B i 0=R:=by
    unfold zB;rw[e1,iK,B8,bA];exact lN _ _
   rw[e1,e2,iK,eF (eu _ (bO hb))]
   rfl)
  (fun k hk=>by
   have hk16:k<16:=by omega
   have hc:=Pn (b:=4294967296) (R:=R) (a:=dg 4294967296 A i) (B:=B) (i:=i) (k:=k) hb ha
   have hbk:=@dgl B k
   have hr:=@dgl R (i+k)
   have OF:dg 4294967296 A i*dg 4294967296 B k≤4294967295*4294967295:=lf (by omega) (by omega)
   have G5:sE 4294967296 R (dg 4294967296 A i) B i (k+1) / 4294967296 ^ (i+k)=sE 4294967296 R (dg 4294967296 A i) B i k / 4294967296 ^ (i+k)+(dg 4294967296 A i*dg 4294967296 B k+dg 4294967296 R (i+k)):=by
    rw[HB,zu _ _ (bO hb),o4 (dg 4294967296 R (i+k))]
   have xx:sE 4294967296 R (dg 4294967296 A i) B i (k+1) / 4294967296 ^ (i+(k+1))=sE 4294967296 R (dg 4294967296 A i) B i (k+1) / 4294967296 ^ (i+k) / 4294967296:=by
    rw[gZ,←cG];rfl
   have rm:=QO (b:=4294967296) (R:=R) (a:=dg 4294967296 A i) (B:=B) (i:=i) (k:=k) hb
   rw[xx]
   generalize sE 4294967296 R (dg 4294967296 A i) B i (k+1) / 4294967296 ^ (i+k)=x1 at G5 rm ⊢
   generalize sE 4294967296 R (dg 4294967296 A i) B i k / 4294967296 ^ (i+k)=c at G5 hc ⊢
   have eik:i64.wrap ((i:Int)+(k:Int))=((i+k:Nat):Int):=by rw[bX];omega
   dsimp only[iX]
   rw[cu _ _,aC,aC,eik,aC,ab,aC,ab,bW,bW,bW,hx,hy,gO hi,gO hk16,jD (by omega),Orow_dg hb,
    ip (n:=dg 4294967296 A i) (by omega),ip (n:=dg 4294967296 B k) (by omega),ip (n:=dg 4294967296 R (i+k)) (by omega),←iT,ip (n:=dg 4294967296 A i*dg 4294967296 B k) (by omega),←kw,ip,←kw,ip,←G5,yd,A8,A0 hb (eu _ hb) (by omega),rm,bX]
   rfl)
  (by
   dsimp only[iX]
   rw[ce _ _])
 refine⟨_,Pn hb ha,_,hl,?_⟩
 have e1:sE 4294967296 R (dg 4294967296 A i) B i m=R+dg 4294967296 A i*B*4294967296 ^ i:=by
  unfold sE;rw[ez hR,ez hB]
 have e2:zB 4294967296 R (dg 4294967296 A i) B i m=sE 4294967296 R (dg 4294967296 A i) B i m % 4294967296 ^ (i+m):=by
  unfold zB;rw[eF hR,gH,bt]
 have hO:zB 4294967296 R (dg 4294967296 A i) B i m<4294967296 ^ (i+m):=by rw[e2];exact eu _ (bO hb)
 unfold up1
 rw[eF (bJ hO (ia hb (jw _))),gH,bt,ez hO,e2,bA (_ / _),lN,e1,←hRR,g5 (A:=A),bR]
 congr 1
 simp only[fa,zt,bA]
theorem Vb {A B n m:Nat}(hn:n≤16)(hm:m≤16)(hA:A<4294967296 ^ n)(hB:B<4294967296 ^ m)(x y:ap)(hx:x.vW=W A)(hy:y.vW=W B):
  bo (iY x y (n:Int) (m:Int)) ((0:Int),Vector.replicate 32 (0:Int))=some (vN 4294967296 32 (A*B)):=by
 have hb:0<(4294967296:Nat):=by decide
 have hl:=rP (b:=iY x y (n:Int) (m:Int)) (s0:=((0:Int),Vector.replicate 32 (0:Int))) (fun i=>((i:Int),vN 4294967296 32 (A % 4294967296 ^ i*B))) n (vN 4294967296 32 (A % 4294967296 ^ n*B))
  (by simp only[fX,m7,gH,sS];rfl)
  (fun i hi=>by
   obtain⟨c,hc,O,h1,h2⟩:=Mul_row (i:=i) (by omega) hm hB x y hx hy
   have eim:i64.wrap ((i:Int)+(m:Int))=((i+m:Nat):Int):=by rw[bX];omega
   dsimp only[iY]
   rw[cu _ _,h1,ab]
   dsimp only
   rw[eim,aC,ab,bW,A7 hc,A0 hb hc (by omega),h2,bX]
   rfl)
  (by
   dsimp only[iY]
   rw[ce _ _])
 rw[hl,ez hA]
theorem LG {a c:Int}(ha:a.natAbs<LIM)(hc:c.natAbs<LIM):jl (enc a) (enc c)=some (enc (a*c)):=by
 obtain⟨n,hn,hn1,Gv⟩:=Cg ha
 obtain⟨m,hm,hm1,S4⟩:=Cg hc
 have OF:a.natAbs*c.natAbs<4294967296 ^ 16*4294967296 ^ 16:=B7 ha hc
 unfold jl
 rw[vo,bg ha,bg hc,ab]
 simp only[fH,c9,aI]
 rw[lU ha,lU hc,hn1,ab,hm1,ab,Vb hn hm Gv.1 S4.1 (enc a) (enc c) (lU ha) (lU hc),ab,vsub 16 16 (by omega),vsub 16 0 (by omega),z16,jN ha,jN hc,fX,m4]
 have hq:a.natAbs*c.natAbs / 4294967296 ^ 16<LIM:=I9 OF
 have hz:(vN 4294967296 16 (a.natAbs*c.natAbs / 4294967296 ^ 16)=W 0)↔a.natAbs*c.natAbs<LIM:=by
  rw[Fm hq xM,Ja (by decide)];rfl
 simp only[hz]
 by_cases h:a.natAbs*c.natAbs<LIM
 ·rw[ce _ _ (by simpa using h),jB h,ab]
  congr 2
  rcases Int.natAbs_eq a with e1|e1 <;> rcases Int.natAbs_eq c with e2|e2 <;> skip
  all_goals
   by_cases ha0:a<0 <;> by_cases hc0:c<0 <;> simp only[ha0,hc0,sn,si,E7,c9,sh,ku,cond_false,Bool.true_beq,Bool.false_beq,iT]
  all_goals (first|(exfalso;omega)|(have ea:(a.natAbs:Int)=a:=(by omega);have ec:(c.natAbs:Int)=c:=(by omega);rw[ea,ec])|(have ea:(a.natAbs:Int)=-a:=(by omega);have ec:(c.natAbs:Int)=c:=(by omega);rw[ea,ec,E5,Int.neg_neg])|(have ea:(a.natAbs:Int)=a:=(by omega);have ec:(c.natAbs:Int)=-c:=(by omega);rw[ea,ec,B6,Int.neg_neg])|(have ea:(a.natAbs:Int)=-a:=(by omega);have ec:(c.natAbs:Int)=-c:=(by omega);rw[ea,ec,Int.neg_mul_neg])|skip)
 ·rw[cu _ _ (by simpa using h),PA,ab,EB (by rw[oJ];exact h)]
end
theorem set16(x y:Int):(#v[x,y,0,0,0,0,0,0,0,0,0,0,0,0,0,0]:Vector Int 16)=((W 0).set! 0 x).set! 1 y:=by
 rw[←z16];rfl
theorem UM {u:Nat}(hu:u<18446744073709551616):(#v[((u % 4294967296:Nat):Int),((u / 4294967296:Nat):Int),0,0,0,0,0,0,0,0,0,0,0,0,0,0]:Vector Int 16)=W u:=by
 have hb:0<(4294967296:Nat):=by decide
 have hx:u % 4294967296<4294967296:=eu _ hb
 have hy:u / 4294967296<4294967296:=by omega
 rw[set16]
 unfold W
 rw[A0 hb hx (by omega)]
 have e1:up1 4294967296 0 0 (u % 4294967296)=u % 4294967296:=by
  have:=LT (b:=4294967296) (A:=0) (p:=0) (x:=u % 4294967296)
  rw[lV (by decide)] at this
  omega
 have h:=LT (b:=4294967296) (A:=u % 4294967296) (p:=1) (x:=u / 4294967296)
 rw[lV (by rw[w6];exact hx),w6,gH,iK,Nat.mod_add_div'] at h
 rw[e1,A0 hb hy (by omega),h]
theorem NU {n:Int}(h1:-9223372036854775808≤n)(h2:n≤9223372036854775807):gW n=some (enc n):=by
 have hu:n.natAbs<18446744073709551616:=by omega
 have hL:n.natAbs<LIM:=bJ hu (by decide)
 have hc:cnd (decide (n<(0:Int))) (some (u64.wrap (0 - (u64.wrap n)))) (some (u64.wrap n))=some ((n.natAbs:Nat):Int):=by
  rw[gf]
  split
  ·congr 1;rw[IntKind.wrap_u64,IntKind.wrap_u64];omega
  ·congr 1;rw[IntKind.wrap_u64];omega
 unfold gW
 rw[hc,ab,A8,yd,A7,UM hu,jB hL,ab]
 congr 2
 by_cases h:n<0
 ·simp only[h,sn,ku];omega
 ·simp only[h,si,cond_false];omega
theorem yQ {x k l:Nat}(hx:2 ^ k≤x)(h:szp 2 (x / 2 ^ k) l):szp 2 x (l+k):=by
 have hp:0<2 ^ k:=bO (by decide)
 have h0:0<x / 2 ^ k:=E4 hx hp
 have hl:0<l:=by
  rcases sd l with h1|h1
  ·subst h1;have:=h.1;simp at this;omega
  ·exact h1
 refine⟨?_,fun _=>?_⟩
 ·rw[hJ];exact (lM hp).1 h.1
 ·have:=h.2 hl
  rw[show l+k - 1=(l - 1)+k from by omega,hJ]
  exact (pG hp).1 this
def Km:ByteArray:=⟨#[0,1,2,2,3,3,3,3,4,4,4,4,4,4,4,4,5,5,5,5,5,5,5,5,5,5,5,5,5,5,5,5,6,6,6,6,6,6,6,6,6,6,6,6,6,6,6,6,6,6,6,6,6,6,6,6,6,6,6,6,6,6,6,6,7,7,7,7,7,7,7,7,7,7,7,7,7,7,7,7,7,7,7,7,7,7,7,7,7,7,7,7,7,7,7,7,7,7,7,7,7,7,7,7,7,7,7,7,7,7,7,7,7,7,7,7,7,7,7,7,7,7,7,7,7,7,7,7,8,8,8,8,8,8,8,8,8,8,8,8,8,8,8,8,8,8,8,8,8,8,8,8,8,8,8,8,8,8,8,8,8,8,8,8,8,8,8,8,8,8,8,8,8,8,8,8,8,8,8,8,8,8,8,8,8,8,8,8,8,8,8,8,8,8,8,8,8,8,8,8,8,8,8,8,8,8,8,8,8,8,8,8,8,8,8,8,8,8,8,8,8,8,8,8,8,8,8,8,8,8,8,8,8,8,8,8,8,8,8,8,8,8,8,8,8,8,8,8,8,8,8,8,8,8,8,8]⟩
theorem G3:∀y:Nat,y<256→(Km.data.toList.getD y 0).toNat≤8∧y<2 ^ (Km.data.toList.getD y 0).toNat∧(0<(Km.data.toList.getD y 0).toNat→2 ^ ((Km.data.toList.getD y 0).toNat - 1)≤y):=by decide +kernel
theorem P3:Km.size=256:=by decide +kernel
theorem len_tab(y:Nat)(hy:y<256):∃l:Nat,sAt Km y=(l:Int)∧l≤8∧szp 2 y l:=
 ⟨_,rfl,(G3 y hy).1,(G3 y hy).2⟩
theorem Vd(x:Int):mH x=bnd (S:=Int×Int) (cnd (decide ((65536:Int)≤x)) (some ((me .u32 x (16:Int),(16:Int)))) (some ((x,(0:Int))))) fun (br,Ji)=>bnd (S:=Int×Int) (cnd (decide ((256:Int)≤br)) (some ((me .u32 br (8:Int),i64.wrap (Ji+(8:Int))))) (some ((br,Ji)))) fun (o7,Fl)=>gd (0≤u8.wrap (o7)∧u8.wrap (o7)<(Km.size:Int)) (bnd (some (i64.wrap (Fl+(i64.wrap (sAt Km (u8.wrap (o7)).toNat))))) fun x6=>some x6):=rfl
theorem u8n {n:Nat}(h:n<256):u8.wrap (n:Int)=(n:Int):=by
 rw[IntKind.wrap_u8];omega
theorem Py {x:Nat}(hx:x<4294967296):∃l:Nat,mH (x:Int)=some (l:Int)∧l≤32∧szp 2 x l:=by
 have h16:∃(y n:Nat),cnd (decide ((65536:Int)≤(x:Int))) (some ((me .u32 (x:Int) (16:Int),(16:Int)))) (some (((x:Int),(0:Int))))=some ((y:Int),(n:Int))∧y<65536∧n≤16∧∀l,szp 2 y l→szp 2 x (l+n):=by
  rw[gf]
  split
  ·rename_i h
   exact⟨x / 2 ^ 16,16,by rw[show (16:Int)=((16:Nat):Int) from rfl,BC .u32 x 16 (by decide)],by omega,by omega,fun l hl=>yQ (by omega) hl⟩
  ·exact⟨x,0,rfl,by omega,by omega,fun l hl=>hl⟩
 obtain⟨y,n,e1,hy,hn,hs⟩:=h16
 have h8:∃(z m:Nat),cnd (decide ((256:Int)≤(y:Int))) (some ((me .u32 (y:Int) (8:Int),i64.wrap ((n:Int)+(8:Int))))) (some (((y:Int),(n:Int))))=some ((z:Int),(m:Int))∧z<256∧m≤24∧∀l,szp 2 z l→szp 2 x (l+m):=by
  rw[gf]
  split
  ·rename_i h
   refine⟨y / 2 ^ 8,n+8,?_,by omega,by omega,fun l hl=>?_⟩
   ·rw[show (8:Int)=((8:Nat):Int) from rfl,BC .u32 y 8 (by decide),bX];rfl
   ·rw[show l+(n+8)=(l+8)+n from by omega]
    exact hs _ (yQ (by omega) hl)
  ·exact⟨y,n,rfl,by omega,by omega,hs⟩
 obtain⟨z,m,e2,hz,hm,LL⟩:=h8
 obtain⟨l,hl1,FQ,hl3⟩:=len_tab z hz
 refine⟨l+m,?_,by omega,LL l hl3⟩
 rw[Vd,e1,ab]
 dsimp only
 rw[e2,ab]
 dsimp only
 rw[u8n hz,P3,aC ⟨by omega,by omega⟩,bW,hl1,bX (z:=(l:Int)) (by omega),bX,ab]
 congr 1
 omega
theorem G_Lead {x:Nat}(hx:x<4294967296):∃l:Nat,fK (x:Int)=some (((32 - l:Nat)):Int)∧l≤32∧szp 2 x l:=by
 obtain⟨l,h1,h2,h3⟩:=Py hx
 refine⟨l,?_,h2,h3⟩
 unfold fK
 rw[h1,ab,bX]
 congr 1
 omega
theorem G_Bits {a:Int}(ha:a.natAbs<LIM):∃l:Nat,l≤512∧om (enc a)=some (l:Int)∧szp 2 a.natAbs l:=by
 obtain⟨n,hn,h1,h2⟩:=Cg ha
 unfold om
 rw[lU ha,h1,ab,vp,bg ha,ab,c9,aI,ab]
 cases n with
 |zero=>
  refine⟨0,by omega,?_,?_⟩
  ·rw[cu _ _];rfl
  ·have:=h2.1
   exact⟨by simpa using this,fun h=>by omega⟩
 |succ k=>
  have hk:k<16:=by omega
  rw[ce _ _,show i64.wrap (((k+1:Nat):Int) - 1)=(k:Int) from by rw[bX];omega,aC,bW,gO hk]
  obtain⟨l,h3,h4,h5⟩:=Py (x:=dg 4294967296 a.natAbs k) dgl
  have hd:dg 4294967296 a.natAbs k=a.natAbs / 2 ^ (32*k):=by
   unfold dg
   have e:(4294967296:Nat) ^ k=2 ^ (32*k):=by rw[B5]
   rw[←e,ez]
   rw[lM (bO (by decide)),bA,←cG];exact h2.1
  have vL:2 ^ (32*k)≤a.natAbs:=by
   have:=h2.2 (by omega)
   rw[ve] at this
   rwa[B5]
  refine⟨l+32*k,by omega,?_,?_⟩
  ·rw[h3,ab,show i64.wrap ((32:Int)*(k:Int))=((32*k:Nat):Int) from by rw[bX];omega,bX]
   congr 1;omega
  ·rw[hd] at h5;exact yQ vL h5
theorem Sh {A:Nat}(hA:A<18446744073709551616):ior .u64 (yY .u64 (u64.wrap ((W A)[((1:Int)).toNat]!)) (32:Int)) (u64.wrap ((W A)[((0:Int)).toNat]!))=(A:Int):=by
 have e1:(W A)[((1:Int)).toNat]! =(dg 4294967296 A 1:Int):=gO (by decide)
 have e0:(W A)[((0:Int)).toNat]! =(dg 4294967296 A 0:Int):=gO (by decide)
 have h1:=@dgl A 1
 have h0:=@dgl A 0
 rw[e1,e0,ip,ip,J7 h1,Kp h0 h1]
 have e:dg 4294967296 A 1*4294967296+dg 4294967296 A 0=A:=by
  unfold dg
  rw[w6,fX,m4]
  omega
 rw[e]
theorem Px {a:Int}(ha:a.natAbs<LIM):lD (enc a)=some (if -9223372036854775808≤a∧a<9223372036854775808 then (a,true) else (0,false)):=by
 obtain⟨l,hl,h1,h2⟩:=G_Bits ha
 have e64:(2:Nat) ^ 64=18446744073709551616:=by decide
 have hl64:64<l↔¬a.natAbs<18446744073709551616:=by
  constructor
  ·intro h h3
   have:=LV (b:=2) (by decide) h2 (k:=64) (by rw[e64];exact h3)
   omega
  ·intro h
   rcases d6 64 l with h3|h3
   ·exact h3
   ·have h4:=h2.1
    have h5:2 ^ l≤2 ^ 64:=ia (by decide) h3
    rw[e64] at h5
    exact absurd (bJ h4 h5) h
 unfold lD
 rw[vp,bg ha,ab,c9,aI,h1,ab,ab]
 by_cases h:a.natAbs<18446744073709551616
 ·rw[ce _ _ (by have:=mt hl64.1 (fun hh=>hh h);omega),ab,lU ha,Sh h,jN ha]
  by_cases hn:a<0
  ·simp only[hn,sn,gv,c9,aI,ab]
   by_cases h3:a.natAbs≤9223372036854775808
   ·rw[cu _ _,ai (by omega),show (0:Int) - (a.natAbs:Int)=a from by omega,IntKind.wrap_u64]
    rw[show i64.wrap (a % 18446744073709551616)=a from by rw[IntKind.wrap_i64];omega]
   ·rw[ce _ _,ah (by omega)]
  ·rw[bp hn,aI,ab,aI,sh,gv,ab]
   have ea:(a.natAbs:Int)=a:=by omega
   rw[ea]
   by_cases h3:a<9223372036854775808
   ·rw[cu _ _ h3,ai ⟨by omega,h3⟩,bX ⟨by omega,by omega⟩]
   ·rw[ce _ _ h3,ah (fun hh=>h3 hh.2)]
 ·rw[cu _ _ (by have:=hl64.2 h;omega),ah (by omega)]
def vF(n:Nat)(f:Nat→Nat):Vector Int n:=Vector.ofFn fun i=>(f i.val:Int)
theorem wA {n j:Nat}{f:Nat→Nat}(h:j<n):(vF n f)[j]! =(f j:Int):=by
 rw[bI (vF n f) j h]
 unfold vF
 rw[NF]
theorem Rq {n:Nat}{f g:Nat→Nat}(h:∀j,j<n→f j=g j):vF n f=vF n g:=by
 apply od
 intro j hj
 rw[wA hj,wA hj,h j hj]
theorem vF_set {n p x:Nat}{f:Nat→Nat}:(vF n f).set! p (x:Int)=vF n (fun j=>if j=p then x else f j):=by
 apply od
 intro j hj
 rw[p6 hj,wA hj,wA hj]
 split <;> rfl
theorem vF_dg {b n A:Nat}:vF n (dg b A)=vN b n A:=rfl
theorem IA {X V n d:Nat}(hn:2≤n)(hV:2147483648*4294967296 ^ (n - 1)≤V)(hX:X<V*4294967296)
  (Eo:min (X / 4294967296 ^ (n - 2) / (V / 4294967296 ^ (n - 2))) 4294967295≤d) (OJ:d*(V / 4294967296 ^ (n - 2))≤X / 4294967296 ^ (n - 2)):X / V≤d∧d≤X / V+1:=by
 have hp:0<4294967296 ^ (n - 2):=bO (by decide)
 have e1:(4294967296:Nat) ^ (n - 1)=4294967296 ^ (n - 2)*4294967296:=by rw[←cG];congr 1;omega
 rw[e1] at hV
 generalize 4294967296 ^ (n - 2)=P at*
 have FX:0<V:=bJ (yw (by decide) (yw hp (by decide))) hV
 have SE:2147483648*4294967296≤V / P:=by
  rw[pG hp]
  calc 2147483648*4294967296*P=2147483648*(P*4294967296):=by rw[fa,bA 4294967296 P]
   _≤V:=hV
 have hv20:0<V / P:=by omega
 have hVP:=lN V P
 have hVm:=eu V hp
 have hXP:=lN X P
 have hXm:=eu X hp
 have hq1:X / V≤X / P / (V / P):=by
  rw[gZ]
  refine Nat.div_le_div_left ?_ (yw hp hv20)
  omega
 have hq2:X / V<4294967296:=(lM FX).2 (by rw[bA];exact hX)
 refine⟨by omega,?_⟩
 -- d V is not much more than X
 have Dm:d*(V / P)*P≤X:=by
  have:=cM P OJ
  rw[bA (X / P)] at this
  omega
 have hXP2:X / P<(V / P+1)*4294967296:=by
  rw[lM hp]
  have h1:V<(V / P+1)*P:=by rw[bR,eU,bA (V / P)];omega
  calc X<V*4294967296:=hX
   _≤(V / P+1)*P*4294967296:=cM _ (mv h1)
   _=(V / P+1)*4294967296*P:=by rw[fa,bA P,←fa]
 have hdb:d≤4294967296:=by
  rcases d6 4294967296 d with h|h
  ·have:4294967297*(V / P)≤d*(V / P):=cM _ h
   omega
  ·exact h
 have h2:d*(V % P)≤4294967296*P:=lf hdb (mv hVm)
 have h3:d*V=d*(V / P)*P+d*(V % P):=by
  conv=>lhs;rw[←hVP]
  rw[vf,bA P,fa]
 have h4:d*V≤X+V:=by
  rw[h3]
  have h6:4294967296*P≤V:=by
   refine dU ?_ hV
   rw[bA P,←fa]
   exact cM _ (by decide)
  exact Nat.add_le_add Dm (dU h2 h6)
 rcases sd d with h0|h0
 ·rw[h0];exact cr _
 ·have h5:(d - 1)*V≤X:=by rw[Nat.sub_mul,eU];omega
  have:=(pG FX).2 h5
  omega
theorem gA1 {y r u z:Nat}(h:r*4294967296+u<z):(y+r)*4294967296+u<y*4294967296+z:=by
 rw[bR,xW];exact E9 h _
theorem gA2 {y r u z:Nat}(h:z≤r*4294967296+u):y*4294967296+z≤(y+r)*4294967296+u:=by
 rw[bR,xW];exact Nat.add_le_add_left h _
theorem gA3 {y r u z:Nat}(h:4294967296≤r)(hz:z≤4294967295*4294967295):y*4294967296+z≤(y+r)*4294967296+u:=by
 have h1:z≤r*4294967296:=dU hz (dU (lf (by decide) (by decide)) (cM _ h))
 rw[bR,xW]
 exact Nat.add_le_add_left (dU h1 (te _ _)) _
theorem oZ {n:Nat}(h:n≤34359738368:=by omega):n<18446744073709551616:=by omega
theorem lt64p {n:Nat}(h:n≤4294967295*4294967295):n<18446744073709551616:=by omega
theorem guessB {d r f x0 x1:Nat}(h:d*f+r=x0*4294967296+x1)(hf:2147483648≤f)(h0:x0<4294967296)(h1:x1<4294967296):d≤8589934592:=by
 have:=AE d hf
 omega
theorem guessT {x0 x1 f:Nat}(h0:x0<4294967296)(h1:x1<4294967296):(x0*4294967296+x1) / f<18446744073709551616:=
 dY (oK _ _) (by omega)
theorem G_guess {U V n j:Nat}(hn:2≤n)(Qf:n≤16)(hj:j+n≤16)(hV:2147483648*4294967296 ^ (n - 1)≤V)(GA:V<4294967296 ^ n)(hU:U / 4294967296 ^ j<V*4294967296):
  ∃d:Nat,d<4294967296∧iV (W V) (n:Int) (j:Int) (vN 4294967296 17 U)=some (d:Int)∧U / 4294967296 ^ j / V≤d∧d≤U / 4294967296 ^ j / V+1:=by
 have hb:0<(4294967296:Nat):=by decide
 generalize hX:U / 4294967296 ^ j=X at hU
 -- qu digits that it looks at
 have du:∀i,dg 4294967296 U (j+i)=dg 4294967296 X i:=fun i=>by
  unfold dg;rw[←hX,gZ,←hJ]
 have hXlt:X<4294967296 ^ (n+1):=by
  rw[cG];exact bJ hU (cM _ (mv GA))
 have s1:=cy (b:=4294967296) (A:=X) (k:=n - 2)
 have s2:=cy (b:=4294967296) (A:=X) (k:=n - 1)
 have s3:=cy (b:=4294967296) (A:=X) (k:=n)
 rw[eF hXlt,gH,bt] at s3
 rw[show n - 2+1=n - 1 from by omega] at s1
 rw[show n - 1+1=n from by omega,s3] at s2
 have w1:=cy (b:=4294967296) (A:=V) (k:=n - 2)
 have w2:=cy (b:=4294967296) (A:=V) (k:=n - 1)
 rw[show n - 2+1=n - 1 from by omega] at w1
 rw[show n - 1+1=n from by omega,eF GA,gH,bt] at w2
 have FJ:=@dgl X n
 have G5:=@dgl X (n - 1)
 have xx:=@dgl X (n - 2)
 have hv1:=@dgl V (n - 1)
 have SE:=@dgl V (n - 2)
 have MI:2147483648≤dg 4294967296 V (n - 1):=by
  rw[←w2,pG (bO hb)];exact hV
 -- qu two highest digits against qu highest one
 have hp:0<4294967296 ^ (n - 2):=bO hb
 have htop:X / 4294967296 ^ (n - 1)≤V / 4294967296 ^ (n - 2):=by
  have e1:(4294967296:Nat) ^ (n - 1)=4294967296 ^ (n - 2)*4294967296:=by rw[←cG];congr 1;omega
  have h1:X / 4294967296 ^ (n - 1)*4294967296 ^ (n - 1)≤X:=Nz _ _
  rw[pG hp]
  rw[e1] at h1
  have h2:X / 4294967296 ^ (n - 1)*4294967296 ^ (n - 2)*4294967296<V*4294967296:=by
   rw[fa]
   exact dY (by rw[e1];exact h1) hU
  exact mv (Nat.lt_of_mul_lt_mul_right h2)
 rw[s2,w1,w2] at htop
 obtain⟨x,hl,d,rfl,hdb,Eo,OJ⟩:=vI (b:=jL (W V) (n:Int) (j:Int) (vN 4294967296 17 U) ((dg 4294967296 V (n - 1):Nat):Int)) (fun s=>∃d r:Nat,s=((d:Int),(r:Int))∧d*dg 4294967296 V (n - 1)+r=X / 4294967296 ^ (n - 1)∧min (X / 4294967296 ^ (n - 2) / (V / 4294967296 ^ (n - 2))) 4294967295≤d) (fun s=>4294967296 - s.2.toNat)
  (fun x=>∃d:Nat,x=(d:Int)∧d<4294967296∧min (X / 4294967296 ^ (n - 2) / (V / 4294967296 ^ (n - 2))) 4294967295≤d∧d*(V / 4294967296 ^ (n - 2))≤X / 4294967296 ^ (n - 2))
  (by
   rintro s ⟨d,r,rfl,hdr,Eo⟩
   have hmul:d*(V / 4294967296 ^ (n - 2))=d*dg 4294967296 V (n - 1)*4294967296+d*dg 4294967296 V (n - 2):=by
    rw[w1,w2,vf,fa]
   have hdB:d≤8589934592:=guessB (by rw[hdr,s2]) MI FJ G5
   have ei2:i64.wrap ((n:Int) - (2:Int))=((n - 2:Nat):Int):=by rw[bX];omega
   have eij2:i64.wrap ((i64.wrap ((j:Int)+(n:Int))) - (2:Int))=((j+(n - 2):Nat):Int):=by rw[bX (z:=(j:Int)+(n:Int)) (by omega),bX];omega
   dsimp only[jL]
   by_cases hr:r<4294967296
   ·rw[cu _ _]
    by_cases hd:4294967296≤d
    ·left
     refine⟨(((d - 1:Nat):Int),((r+dg 4294967296 V (n - 1):Nat):Int)),?_,⟨d - 1,_,rfl,?_,by omega⟩,by show 4294967296 - (_:Nat)<4294967296 - (_:Nat);rw[bW,bW];omega⟩
     ·rw[cu _ _,ab,gv,show (d:Int) - 1=((d - 1:Nat):Int) from by omega,ip (oZ),←kw,ip (oZ)]
     ·rw[Nat.sub_mul,eU]
      have:dg 4294967296 V (n - 1)≤d*dg 4294967296 V (n - 1):=vd _ (by omega)
      omega
    ·have FT:d*dg 4294967296 V (n - 2)≤4294967295*4294967295:=lf (by omega) (by omega)
     rw[ce _ _,ei2,aC,eij2,aC,bW,bW,jD (by omega),gO (by omega),du,ip (n:=dg 4294967296 X (n - 2)) (oZ),ip (n:=dg 4294967296 V (n - 2)) (oZ),J7 hr,Kp xx hr,←iT,ip (lt64p FT),ab]
     by_cases hc:r*4294967296+dg 4294967296 X (n - 2)<d*dg 4294967296 V (n - 2)
     ·left
      have wi:0<d:=by
       rcases sd d with h|h
       ·subst h;omega
       ·exact h
      refine⟨(((d - 1:Nat):Int),((r+dg 4294967296 V (n - 1):Nat):Int)),?_,⟨d - 1,_,rfl,?_,?_⟩,by show 4294967296 - (_:Nat)<4294967296 - (_:Nat);rw[bW,bW];omega⟩
      ·rw[cu _ _,show (d:Int) - 1=((d - 1:Nat):Int) from by omega,ip (oZ),←kw,ip (oZ)]
      ·rw[Nat.sub_mul,eU]
       have:dg 4294967296 V (n - 1)≤d*dg 4294967296 V (n - 1):=vd _ wi
       omega
      ·have hgt:X / 4294967296 ^ (n - 2)<d*(V / 4294967296 ^ (n - 2)):=by rw[hmul,s1,←hdr];exact gA1 hc
       have:=(lM (x:=X / 4294967296 ^ (n - 2)) (y:=d) (k:=V / 4294967296 ^ (n - 2)) (by rw[w1,w2];omega)).2 hgt
       omega
     ·right
      refine⟨_,by rw[ce _ _],d,rfl,by omega,Eo,?_⟩
      rw[hmul,s1,←hdr];exact gA2 (Nat.le_of_not_lt hc)
   ·right
    have hdlt:d<4294967296:=by
     rcases d6 d 4294967296 with h|h
     ·exact h
     ·have:4294967296*dg 4294967296 V (n - 1)≤d*dg 4294967296 V (n - 1):=cM _ h
      omega
    have FT:d*dg 4294967296 V (n - 2)≤4294967295*4294967295:=lf (by omega) (by omega)
    refine⟨_,by rw[ce _ _,ab,aI],d,rfl,hdlt,Eo,?_⟩
    rw[hmul,s1,←hdr];exact gA3 (Nat.le_of_not_lt hr) FT)
  (((X / 4294967296 ^ (n - 1) / dg 4294967296 V (n - 1):Nat):Int),((X / 4294967296 ^ (n - 1) % dg 4294967296 V (n - 1):Nat):Int))
  ⟨_,_,rfl,by rw[bA];exact lN _ _,by
   have h0:X / 4294967296 ^ (n - 2) / (V / 4294967296 ^ (n - 2))≤X / 4294967296 ^ (n - 1) / dg 4294967296 V (n - 1):=by
    rw[pG (by omega)]
    have h1:=Nz (X / 4294967296 ^ (n - 2)) (V / 4294967296 ^ (n - 2))
    generalize X / 4294967296 ^ (n - 2) / (V / 4294967296 ^ (n - 2))=q at h1 ⊢
    rw[w1,w2,s1,vf,←fa] at h1
    generalize q*dg 4294967296 V (n - 1)=y at h1 ⊢
    omega
   omega⟩
 obtain⟨h1,h2⟩:=IA hn hV hU Eo OJ
 refine⟨d,hdb,?_,h1,h2⟩
 have ejn:i64.wrap ((j:Int)+(n:Int))=((j+n:Nat):Int):=by rw[bX];omega
 have ejn1:i64.wrap (((j+n:Nat):Int) - (1:Int))=((j+(n - 1):Nat):Int):=by rw[bX];omega
 have en1:i64.wrap ((n:Int) - (1:Int))=((n - 1:Nat):Int):=by rw[bX];omega
 unfold iV
 rw[ejn,aC,ejn1,aC,en1,bW,bW,bW,jD (by omega),jD (by omega),gO (by omega),du,du,ip (n:=dg 4294967296 X n) (oZ),ip (n:=dg 4294967296 X (n - 1)) (oZ),ip (n:=dg 4294967296 V (n - 1)) (oZ),J7 FJ,Kp G5 FJ,ab,aC,ab,aC,aC,←tE,←tD]
 rw[ip (guessT FJ G5),←s2,hl,ab]
def Af(j i U D p:Nat):Nat:=if p<j then dg 4294967296 U p else if p<j+i then dg 4294967296 D (p - j) else dg 4294967296 U p
theorem mix0 {j U D:Nat}:Af j 0 U D=dg 4294967296 U:=by
 funext p
 unfold Af
 split
 ·rfl
 ·rw[ah (by omega)]
theorem Ih {j i U D:Nat}:Af j i U D (j+i)=dg 4294967296 U (j+i):=by
 unfold Af
 rw[ah (by omega),ah (by omega)]
theorem Dj {n j i U D:Nat}:(vF n (Af j i U D)).set! (j+i) (dg 4294967296 D i:Int)=vF n (Af j (i+1) U D):=by
 rw[vF_set]
 apply Rq
 intro p hp
 by_cases h:p=j+i
 ·subst h
  rw[ai rfl]
  unfold Af
  rw[ah (by omega),ai (by omega)]
  congr 1;omega
 ·rw[ah h]
  unfold Af
  by_cases h1:p<j
  ·rw[ai h1,ai h1]
  ·rw[ah h1,ah h1]
   by_cases h2:p<j+i
   ·rw[ai h2,ai (by omega)]
   ·rw[ah h2,ah (by omega)]
theorem Ou {n j i U D:Nat}(hU:U<4294967296 ^ (i+j))(hD:D<4294967296 ^ i):vF n (Af j i U D)=vN 4294967296 n (D*4294967296 ^ j+U % 4294967296 ^ j):=by
 have hb:0<(4294967296:Nat):=by decide
 rw[←vF_dg]
 apply Rq
 intro p _
 unfold Af
 by_cases h1:p<j
 ·rw[ai h1,←nI (A:=D*_+_) h1,Ny,B8,nI h1]
 ·rw[ah h1]
  have e:dg 4294967296 (D*4294967296 ^ j+U % 4294967296 ^ j) p=dg 4294967296 D (p - j):=by
   obtain⟨q,rfl⟩:∃q,p=j+q:=⟨p - j,by omega⟩
   unfold dg
   rw[hJ,←gZ,bA D,E6 (bO hb),eF (eu _ (bO hb)),iK,Nat.add_sub_cancel_left]
  rw[e]
  by_cases h2:p<j+i
  ·rw[ai h2]
  ·rw[ah h2,lV (bJ hU (ia hb (by omega))),lV (bJ hD (ia hb (by omega)))]
theorem K7 {D P i:Nat}:∃x:Nat,u64.wrap (u64.wrap ((dg 4294967296 (D+P) i:Int) - (dg 4294967296 P i:Int)) - (((D % 4294967296 ^ i+P % 4294967296 ^ i) / 4294967296 ^ i:Nat):Int))=(x:Int)∧x / 9223372036854775808=(D % 4294967296 ^ (i+1)+P % 4294967296 ^ (i+1)) / 4294967296 ^ (i+1)∧x % 4294967296=dg 4294967296 D i:=by
 have hc:=oD (b:=4294967296) (A:=D) (B:=P) (k:=i) (by decide)
 obtain⟨h1,h2⟩:=pI (b:=4294967296) (A:=D) (B:=P) (k:=i) (by decide)
 have ha:=@dgl D i
 have hb:=@dgl P i
 have hd:=@dgl (D+P) i
 generalize (D % 4294967296 ^ i+P % 4294967296 ^ i) / 4294967296 ^ i=c at h1 h2 hc ⊢
 generalize (D % 4294967296 ^ (i+1)+P % 4294967296 ^ (i+1)) / 4294967296 ^ (i+1)=c' at h2 ⊢
 rw[IntKind.wrap_u64,IntKind.wrap_u64]
 exact⟨((((dg 4294967296 (D+P) i:Int) - (dg 4294967296 P i:Int)) % 18446744073709551616 - (c:Int)) % 18446744073709551616).toNat,by omega,by omega,by omega⟩
theorem lt64m {c p d:Nat}(hc:c≤d)(hp:p<4294967296)(hd:d<4294967296):c+p*d<18446744073709551616:=by
 have h1:p*d≤4294967295*4294967295:=lf (by omega) (by omega)
 omega
theorem Vk {U V D n j d:Nat}(Qf:n≤16)(hj:j+n≤16)(GA:V<4294967296 ^ n)(hU:U<4294967296 ^ (n+1+j))(hd:d<4294967296)(hD:D<4294967296 ^ (n+1))
  (Q7:D+V*d=U / 4294967296 ^ j+(if U / 4294967296 ^ j<V*d then 4294967296 ^ (n+1) else 0)):
  jV (W V) (n:Int) (j:Int) (d:Int) (vN 4294967296 17 U)=some (decide (U / 4294967296 ^ j<V*d),vN 4294967296 17 (D*4294967296 ^ j+U % 4294967296 ^ j)):=by
 have hb:0<(4294967296:Nat):=by decide
 generalize hZ:U / 4294967296 ^ j=Z at Q7 ⊢
 have Qp:Z<4294967296 ^ (n+1):=by
  rw[←hZ];exact I9 (by rw[←hJ,o4];exact hU)
 have dz:∀i,i<n+1→dg 4294967296 (D+V*d) i=dg 4294967296 U (j+i):=fun i hi=>by
  have e1:dg 4294967296 U (j+i)=dg 4294967296 Z i:=by
   unfold dg;rw[←hZ,gZ,←hJ]
  rw[e1,←nI (A:=D+V*d) hi,←nI (A:=Z) hi,Q7]
  split
  ·rw[Nat.add_mod_right]
  ·rw[iK]
 have hcle:∀i,V % 4294967296 ^ i*d / 4294967296 ^ i≤d:=fun i=>
  dU (NA (cM d (mv (eu V (bO hb))))) (by rw[Nx _ (bO hb)];exact az _)
 have hl:=rP (b:=jh (W V) (n:Int) (j:Int) (d:Int)) (s0:=((0:Int),(0:Int),(0:Int),vN 4294967296 17 U)) (fun i=>((V % 4294967296 ^ i*d / 4294967296 ^ i:Nat),((D % 4294967296 ^ i+V*d % 4294967296 ^ i) / 4294967296 ^ i:Nat),(i:Int),vF 17 (Af j i U D))) n ((V % 4294967296 ^ n*d / 4294967296 ^ n:Nat),((D % 4294967296 ^ n+V*d % 4294967296 ^ n) / 4294967296 ^ n:Nat),vF 17 (Af j n U D))
  (by simp only[fX,m7,gH,Nat.zero_div,mix0];rfl)
  (fun i hi=>by
   obtain⟨h1,h2⟩:=G0 (b:=4294967296) (A:=V) (k:=i) (m:=d) hb
   obtain⟨x,G5,xx,hx3⟩:=K7 (D:=D) (P:=V*d) (i:=i)
   have bK:=lt64m (hcle i) (@dgl V i) hd
   have hp:=@dgl (V*d) i
   have hz:=@dgl U (j+i)
   have hv:=@dgl V i
   have eij:i64.wrap ((j:Int)+(i:Int))=((j+i:Nat):Int):=by rw[bX];omega
   rw[dz i (by omega)] at G5
   have hvd:dg 4294967296 V i*d<18446744073709551616:=dY (Nat.le_add_left _ _) bK
   dsimp only[jh]
   rw[cu _ _,aC,ab,eij,aC,ab,aC,ab,bW,bW,gO (by omega),wA (by omega),Ih,ip (n:=dg 4294967296 V i) (oZ),←iT,bA d,ip hvd,←kw,ip bK,A8,h1,yd,h2,ip (n:=dg 4294967296 (V*d) i) (oZ),ip (n:=dg 4294967296 U (j+i)) (oZ),G5,RD,xx,A8,hx3,Dj,bX]
   rfl)
  (by
   dsimp only[jh]
   rw[ce _ _])
 obtain⟨x,G5,xx,hx3⟩:=K7 (D:=D) (P:=V*d) (i:=n)
 have hP:V*d<4294967296 ^ (n+1):=by
  rw[cG];exact B7 GA hd
 have Do:V % 4294967296 ^ n*d / 4294967296 ^ n=dg 4294967296 (V*d) n:=by
  rw[ez GA]
  unfold dg
  rw[ez]
  exact I9 (by rw[←cG];exact hP)
 have hbor:(D % 4294967296 ^ (n+1)+V*d % 4294967296 ^ (n+1)) / 4294967296 ^ (n+1)=if Z<V*d then 1 else 0:=by
  rw[ez hD,ez hP,Q7]
  split
  ·rw[Nat.add_div_right _ (bO hb),eF Qp]
  ·rw[iK,eF Qp]
 have ejn:i64.wrap ((j:Int)+(n:Int))=((j+n:Nat):Int):=by rw[bX];omega
 have hz:=@dgl U (j+n)
 rw[dz n (by omega)] at G5
 unfold jV
 rw[hl,ab]
 dsimp only
 rw[ejn,aC,ab,aC,ab,bW,wA (by omega),Ih,ip (n:=dg 4294967296 U (j+n)) (oZ),Do,G5,RD,xx,A8,hx3,Dj,Ou hU hD,hbor]
 congr 2
 by_cases h:Z<V*d
 ·simp[h]
 ·simp[h]
theorem G_give {U V D n j:Nat}(Qf:n≤16)(hj:j+n≤16)(GA:V<4294967296 ^ n)(hU:U<4294967296 ^ (n+1+j))(hD:D=(U / 4294967296 ^ j+V) % 4294967296 ^ (n+1)):
  jZ (W V) (n:Int) (j:Int) (vN 4294967296 17 U)=some (vN 4294967296 17 (D*4294967296 ^ j+U % 4294967296 ^ j)):=by
 have hb:0<(4294967296:Nat):=by decide
 have hDlt:D<4294967296 ^ (n+1):=by rw[hD];exact eu _ (bO hb)
 generalize hZ:U / 4294967296 ^ j=Z at hD
 have dz:∀i,dg 4294967296 U (j+i)=dg 4294967296 Z i:=fun i=>by
  unfold dg;rw[←hZ,gZ,←hJ]
 have dD:∀i,i<n+1→dg 4294967296 (Z+V) i=dg 4294967296 D i:=fun i hi=>by rw[hD,nI hi]
 have hl:=rP (b:=jj (W V) (n:Int) (j:Int)) (s0:=((0:Int),(0:Int),vN 4294967296 17 U)) (fun i=>(((Z % 4294967296 ^ i+V % 4294967296 ^ i) / 4294967296 ^ i:Nat),(i:Int),vF 17 (Af j i U D))) n (((Z % 4294967296 ^ n+V % 4294967296 ^ n) / 4294967296 ^ n:Nat),vF 17 (Af j n U D))
  (by simp only[fX,m7,mix0];rfl)
  (fun i hi=>by
   have hc:=oD (b:=4294967296) (A:=Z) (B:=V) (k:=i) hb
   obtain⟨h1,h2⟩:=pI (b:=4294967296) (A:=Z) (B:=V) (k:=i) hb
   have hz:=@dgl Z i
   have hv:=@dgl V i
   have eij:i64.wrap ((j:Int)+(i:Int))=((j+i:Nat):Int):=by rw[bX];omega
   generalize (Z % 4294967296 ^ i+V % 4294967296 ^ i) / 4294967296 ^ i=c at h1 h2 hc ⊢
   generalize (Z % 4294967296 ^ (i+1)+V % 4294967296 ^ (i+1)) / 4294967296 ^ (i+1)=c' at h2 ⊢
   dsimp only[jj]
   rw[cu _ _,eij,aC,aC,ab,aC,ab,bW,bW,gO (by omega),wA (by omega),Ih,dz,ip (n:=dg 4294967296 V i) (oZ),ip (n:=dg 4294967296 Z i) (oZ),←kw,ip (oZ),←kw,ip (oZ),←xW,yd,A8,h1,h2,dD i (by omega),Dj,bX]
   rfl)
  (by
   dsimp only[jj]
   rw[ce _ _])
 have hc:=oD (b:=4294967296) (A:=Z) (B:=V) (k:=n) hb
 obtain⟨h1,h2⟩:=pI (b:=4294967296) (A:=Z) (B:=V) (k:=n) hb
 rw[lV GA,iK,dD n (by omega)] at h1
 have hz:=@dgl Z n
 have ejn:i64.wrap ((j:Int)+(n:Int))=((j+n:Nat):Int):=by rw[bX];omega
 unfold jZ
 rw[hl,ab]
 dsimp only
 generalize (Z % 4294967296 ^ n+V % 4294967296 ^ n) / 4294967296 ^ n=c at h1 hc ⊢
 rw[ejn,aC,aC,ab,bW,wA (by omega),Ih,dz,A7 (n:=c) (by omega),←kw,o4 (dg 4294967296 Z n),A8,h1,Dj,Ou hU hDlt]
theorem PU {U V n j:Nat}(hn:2≤n)(hj:j+n≤16)(hV:2147483648*4294967296 ^ (n - 1)≤V)(GA:V<4294967296 ^ n)(hU:U / 4294967296 ^ j<V*4294967296):
  (bnd (iV (W V) (n:Int) (j:Int) (vN 4294967296 17 U)) fun HJ=>bnd (S:=Int×(Vector Int 17)) (bnd (jV (W V) (n:Int) (j:Int) HJ (vN 4294967296 17 U)) fun Re=>cnd Re.1 (bnd (jZ (W V) (n:Int) (j:Int) Re.2) fun LJ=>some ((u64.wrap (HJ - (1:Int)),LJ))) (some ((HJ,Re.2)))) fun y=>some y)=some (((U / 4294967296 ^ j / V:Nat):Int),vN 4294967296 17 (U / 4294967296 ^ j % V*4294967296 ^ j+U % 4294967296 ^ j))∧U / 4294967296 ^ j / V<4294967296:=by
 have hb:0<(4294967296:Nat):=by decide
 obtain⟨d,hdb,hg,Dm,ym⟩:=G_guess hn (by omega) hj hV GA hU
 have FX:0<V:=bJ (yw (by decide) (bO hb)) hV
 have hp:0<4294967296 ^ j:=bO hb
 have Qp:U / 4294967296 ^ j<4294967296 ^ (n+1):=by
  rw[cG];exact bJ hU (cM _ (mv GA))
 have hUlt:U<4294967296 ^ (n+1+j):=by
  rw[hJ];exact (lM hp).1 Qp
 have hVd:V*d<4294967296 ^ (n+1):=by
  rw[cG];exact B7 GA hdb
 have hq:U / 4294967296 ^ j / V<4294967296:=by omega
 refine⟨?_,hq⟩
 have hm:=lN (U / 4294967296 ^ j) V
 have hml:=eu (U / 4294967296 ^ j) FX
 rw[hg,ab]
 by_cases bK:U / 4294967296 ^ j<V*d
 ·-- one too many
  have hdq:d=U / 4294967296 ^ j / V+1:=by
   rcases d6 (U / 4294967296 ^ j / V) d with h|h
   ·omega
   ·have h1:V*d≤V*(U / 4294967296 ^ j / V):=AE _ h
    omega
  have ht:=Vk (U:=U) (V:=V) (D:=U / 4294967296 ^ j+4294967296 ^ (n+1) - V*d) (n:=n) (j:=j) (d:=d) (by omega) hj GA hUlt hdb (by omega) (by rw[ai bK];omega)
  rw[ht,aB bK,ab,gv]
  dsimp only
  generalize hD:U / 4294967296 ^ j+4294967296 ^ (n+1) - V*d=D
  have hDlt:D<4294967296 ^ (n+1):=by omega
  have e1:(D*4294967296 ^ j+U % 4294967296 ^ j) / 4294967296 ^ j=D:=by
   rw[bA,E6 hp,eF (eu _ hp),iK]
  have e2:(D*4294967296 ^ j+U % 4294967296 ^ j) % 4294967296 ^ j=U % 4294967296 ^ j:=by
   rw[Ny,B8]
  have e3:(D+V) % 4294967296 ^ (n+1)=U / 4294967296 ^ j % V:=by
   have:D+V=U / 4294967296 ^ j % V+4294967296 ^ (n+1):=by
    rw[hdq,vf,yy] at hD bK
    omega
   rw[this,Nat.add_mod_right,ez]
   exact dY (Nat.mod_le _ _) Qp
  have hgv:=G_give (U:=D*4294967296 ^ j+U % 4294967296 ^ j) (V:=V) (D:=U / 4294967296 ^ j % V) (n:=n) (j:=j) (by omega) hj GA (by
   rw[hJ]
   have h1:(D+1)*4294967296 ^ j≤4294967296 ^ (n+1)*4294967296 ^ j:=cM _ hDlt
   rw[bR,eU] at h1
   have:=eu U hp
   omega) (by rw[e1,e3])
  rw[hgv,ab,ab,e2,show ((d:Nat):Int) - 1=((U / 4294967296 ^ j / V:Nat):Int) from by omega,ip (oZ)]
 ·have hdq:d=U / 4294967296 ^ j / V:=by
   have h1:d≤U / 4294967296 ^ j / V:=(pG FX).2 (by rw[bA];omega)
   omega
  have ht:=Vk (U:=U) (V:=V) (D:=U / 4294967296 ^ j % V) (n:=n) (j:=j) (d:=d) (by omega) hj GA hUlt hdb (dY (Nat.mod_le _ _) Qp) (by rw[ah bK,hdq];omega)
  rw[ht,bp bK,ab,aI,ab,hdq]
theorem RV {U V n k:Nat}(hn:2≤n)(hk:k+n≤17)(hV:2147483648*4294967296 ^ (n - 1)≤V)(GA:V<4294967296 ^ n)(hU:U / 4294967296 ^ k<V)(y:Int):
  bo (eW (n:Int) (W V,y)) ((k:Int) - 1,W 0,vN 4294967296 17 U)=some (W (U / V),vN 4294967296 17 (U % V)):=by
 have hb:0<(4294967296:Nat):=by decide
 have FX:0<V:=bJ (yw (by decide) (bO hb)) hV
 have hl:=Si (b:=eW (n:Int) (W V,y)) (s0:=((k:Int) - 1,W 0,vN 4294967296 17 U)) (fun i=>((i:Int) - 1,vN 4294967296 16 (U / V / 4294967296 ^ i*4294967296 ^ i),vN 4294967296 17 (U / 4294967296 ^ i % V*4294967296 ^ i+U % 4294967296 ^ i))) k (vN 4294967296 16 (U / V / 4294967296 ^ 0*4294967296 ^ 0),vN 4294967296 17 (U / 4294967296 ^ 0 % V*4294967296 ^ 0+U % 4294967296 ^ 0))
  (by
   have e1:U / V / 4294967296 ^ k=0:=by
    rw[gZ,bA,←gZ,eF hU]
   have e2:U / 4294967296 ^ k % V*4294967296 ^ k+U % 4294967296 ^ k=U:=by
    rw[ez hU,bA];exact lN _ _
   rw[e1,e2,gH])
  (fun i hi=>by
   have hp:0<4294967296 ^ i:=bO hb
   obtain⟨h1,h2⟩:=yS (b:=4294967296) (A:=U) (k:=i) (d:=V) hb FX
   have eR1:(U / 4294967296 ^ (i+1) % V*4294967296 ^ (i+1)+U % 4294967296 ^ (i+1)) / 4294967296 ^ i=U / 4294967296 ^ (i+1) % V*4294967296+dg 4294967296 U i:=by
    rw[g5,cG,←fa,E3,o4 (U % _),←xW,bA (4294967296 ^ i) (dg _ _ _),←bR,bA (_+_) (4294967296 ^ i),E6 hp,eF (eu _ hp),iK]
   have eR2:(U / 4294967296 ^ (i+1) % V*4294967296 ^ (i+1)+U % 4294967296 ^ (i+1)) % 4294967296 ^ i=U % 4294967296 ^ i:=by
    rw[g5,cG,←fa,E3,o4 (U % _),←xW,bA (4294967296 ^ i) (dg _ _ _),←bR,Ny,B8]
   have bK:(U / 4294967296 ^ (i+1) % V*4294967296 ^ (i+1)+U % 4294967296 ^ (i+1)) / 4294967296 ^ i<V*4294967296:=by
    rw[eR1]
    have h3:=eu (U / 4294967296 ^ (i+1)) FX
    have h4:(U / 4294967296 ^ (i+1) % V+1)*4294967296≤V*4294967296:=cM _ h3
    rw[bR,eU] at h4
    exact bJ (E9 dgl _) h4
   obtain⟨hq,hqb⟩:=PU (j:=i) hn (by omega) hV GA bK
   rw[eR1,h1,h2,eR2] at hq
   rw[eR1,h1] at hqb
   have ei:((i+1:Nat):Int) - 1=(i:Int):=by omega
   dsimp only[eW]
   rw[ei,cu _ _]
   -- qu digit
   revert hq
   generalize vN 4294967296 17 (U / 4294967296 ^ (i+1) % V*4294967296 ^ (i+1)+U % 4294967296 ^ (i+1))=uv
   intro hq
   obtain⟨d,e1,hq⟩:=ae hq
   rw[uY] at hq
   rw[e1,ab,hq,ab]
   dsimp only
   rw[aC,bW,A7 hqb,N4 hb (by omega),bX])
  (by
   dsimp only[eW]
   rw[ce _ _])
 rw[hl]
 simp only[fX,m4,yy,m7,iK]
theorem build17 {A s:Nat}(hA:A<LIM)(hs:s<32):(vOf 17 (lCp (Vector.replicate 17 (0:Int)).toList 0 (List.take 17 (List.take 16 (List.drop 0 (W (A*2 ^ s)).toList))))).set! ((16:Int)).toNat ((A % 4294967296 ^ 16*2 ^ s / 4294967296 ^ 16:Nat):Int)=vN 4294967296 17 (A*2 ^ s):=by
 have hb:0<(4294967296:Nat):=by decide
 have LL:2 ^ s≤2 ^ 31:=ia (by decide) (by omega)
 have hs3:0<2 ^ s:=bO (by decide)
 have hc:A % 4294967296 ^ 16*2 ^ s / 4294967296 ^ 16<2 ^ s:=Bu hb hs3
 have h16:(W (A*2 ^ s)).toList.length=16:=nL
 have hl:lCp (Vector.replicate 17 (0:Int)).toList 0 (List.take 17 (List.take 16 (List.drop 0 (W (A*2 ^ s)).toList)))=(W (A*2 ^ s)).toList++[0]:=by
  rw[qN,gJ (i:=17) (by simp),gJ (by simp)]
  unfold lCp
  rw[h16,ES,ny]
  rfl
 have MH:((W (A*2 ^ s)).toList++[(0:Int)]).length=17:=by rw[cD,h16];rfl
 rw[hl]
 apply od
 intro j hj
 rw[p6 hj,jD hj]
 by_cases h:j=16
 ·subst h
  rw[ai (by rfl)]
  have OW:A<4294967296 ^ 16:=hA
  rw[ez OW] at hc ⊢
  unfold dg
  rw[ez (by omega)]
 ·rw[ah (by simpa using h),←zS (vOf 17 _) hj,yO MH,bI _ j (by rw[MH];omega),List.getElem_append_left (by rw[h16];omega)]
  have e2:=jD (b:=4294967296) (A:=A*2 ^ s) (j:=j) (n:=16) (by omega)
  rw[←zS _ (by omega),bI _ j (by rw[h16];omega)] at e2
  exact e2
theorem FC {A B:Nat}(hA:A<LIM)(hB:B<LIM)(Iz:0<B):fQ (W A) (W B)=some (W (A / B),W (A % B)):=by
 have hb:0<(4294967296:Nat):=by decide
 obtain⟨n,hn,hn1,Gv,xT⟩:=Cg hB
 obtain⟨m,hm,hm1,S4,hm3⟩:=Cg hA
 have hn0:0<n:=by
  rcases sd n with h|h
  ·subst h;simp at Gv;omega
  ·exact h
 unfold fQ
 rw[hn1,ab,hm1,ab,Dy hA hB,ab]
 by_cases bK:A<B
 ·rw[cu _ _ (by unfold Ia;rw[ai bK];omega),ab,z16,eF bK,ez bK]
 ·rw[ce _ _ (by unfold Ia;rw[ah bK];split <;> omega)]
  by_cases h1:n=1
  ·subst h1
   have hBb:B<4294967296:=by simpa using Gv
   have e0:(W B)[((0:Int)).toNat]! =(B:Int):=by
    have:(W B)[((0:Int)).toNat]! =(dg 4294967296 B 0:Int):=gO (by decide)
    rw[this]
    unfold dg
    rw[fX,m4,ez hBb]
   have hr:A % B<4294967296:=B1 (eu _ Iz) hBb
   rw[cu _ _,e0,G_short hA Iz hBb,ab,ab]
   have:=UM (u:=A % B) (by omega)
   rw[ez hr,eF hr] at this
   dsimp only
   rw[←this]
   rfl
  ·have h2:2≤n:=by omega
   have hk:n - 1<16:=by omega
   have hBd:B / 4294967296 ^ (n - 1)=dg 4294967296 B (n - 1):=by
    have:=cy (b:=4294967296) (A:=B) (k:=n - 1)
    rw[show n - 1+1=n from by omega,eF Gv,gH,bt] at this
    exact this
   obtain⟨l,hl1,FQ,hl3,hl4⟩:=G_Lead (x:=dg 4294967296 B (n - 1)) dgl
   have hp:0<4294967296 ^ (n - 1):=bO hb
   have Dm:1≤dg 4294967296 B (n - 1):=by rw[←hBd];exact (pG hp).2 (by rw[eU];exact xT hn0)
   have hl0:0<l:=by
    rcases sd l with h|h
    ·subst h;simp at hl3;omega
    ·exact h
   have hl5:=hl4 hl0
   have hs:32 - l<32:=by omega
   have epow:2 ^ l*2 ^ (32 - l)=4294967296:=by rw[←hJ,show l+(32 - l)=32 from by omega]
   have epow2:2 ^ (l - 1)*2 ^ (32 - l)=2147483648:=by rw[←hJ,show l - 1+(32 - l)=31 from by omega]
   have hS:0<2 ^ (32 - l):=bO (by decide)
   have epn:(4294967296:Nat) ^ n=4294967296 ^ (n - 1)*4294967296:=by rw[←cG];congr 1;omega
   have hVlo:2147483648*4294967296 ^ (n - 1)≤B*2 ^ (32 - l):=by
    have h3:2 ^ (l - 1)*4294967296 ^ (n - 1)≤B:=(pG hp).1 (by rw[hBd];exact hl5)
    calc 2147483648*4294967296 ^ (n - 1)=2 ^ (l - 1)*4294967296 ^ (n - 1)*2 ^ (32 - l):=by rw[←epow2,E3]
     _≤B*2 ^ (32 - l):=cM _ h3
   have hVhi:B*2 ^ (32 - l)<4294967296 ^ n:=by
    have h3:B<2 ^ l*4294967296 ^ (n - 1):=(lM hp).1 (by rw[hBd];exact hl3)
    calc B*2 ^ (32 - l)<2 ^ l*4294967296 ^ (n - 1)*2 ^ (32 - l):=Nw h3 hS
     _=4294967296 ^ n:=by rw[E3,epow,bA,←epn]
   have FX:0<B*2 ^ (32 - l):=yw Iz hS
   have hmn:n≤m:=by
    rcases d6 m n with h|h
    ·have h3:4294967296 ^ m≤4294967296 ^ (n - 1):=ia hb (by omega)
     have h4:=xT hn0
     omega
    ·exact h
   have hUk:A*2 ^ (32 - l) / 4294967296 ^ (m - n+1)<B*2 ^ (32 - l):=by
    rw[lM (bO hb)]
    have h3:A<B*4294967296 ^ (m - n+1):=by
     have h4:4294967296 ^ (n - 1)*4294967296 ^ (m - n+1)≤B*4294967296 ^ (m - n+1):=cM _ (xT hn0)
     rw[←hJ,show n - 1+(m - n+1)=m from by omega] at h4
     omega
    calc A*2 ^ (32 - l)<B*4294967296 ^ (m - n+1)*2 ^ (32 - l):=Nw h3 hS
     _=B*2 ^ (32 - l)*4294967296 ^ (m - n+1):=E3 _ _ _
   have eidx:i64.wrap ((m:Int) - (n:Int))=((m - n+1:Nat):Int) - 1:=by rw[bX];omega
   rw[ce _ _,show i64.wrap ((n:Int) - 1)=((n - 1:Nat):Int) from by rw[bX];omega,aC,bW,gO hk,hl1,ab,G_up hs,ab,G_up hs,ab,ab]
   dsimp only
   rw[build17 hA hs,eidx,r16,RV h2 (by omega) hVlo hVhi hUk,ab]
   dsimp only
   have hmod:A*2 ^ (32 - l) % (B*2 ^ (32 - l))<4294967296 ^ 16:=bJ (eu _ FX) (dU (mv hVhi) (ia hb hn))
   rw[vsub 16 0 (by omega),fX,m4,G_down hmod hs,ab,Nat.mul_mod_mul_right,Nv _ hS,Nat.mul_div_mul_right _ _ hS]
theorem Au(x y:Nat):Nat.gcd x y=Nat.gcd y (x % y):=by
 rw[Nat.gcd_comm x y,Nat.gcd_rec,Nat.gcd_comm]
theorem Vj(x y:Nat):bo iZ ((x:Int),(y:Int))=some ((Nat.gcd x y:Nat):Int):=by
 induction y using Nat.strongRecOn generalizing x with
 |_ y ih=>
  by_cases hy:y=0
  ·subst hy
   rw[I8]
   exact nP (by dsimp only[iZ];rw[ce _ _ (by simp)])
  ·have h1:iZ ((x:Int),(y:Int))=some (.inl ((y:Int),((x % y:Nat):Int))):=by
    dsimp only[iZ]
    rw[cu _ _,aC,←tD]
   rw[pj h1,ih (x % y) (eu _ (by omega)) y,←Au]
theorem wE {A:Nat}(hA:A<LIM):∃n:Nat,eO (W A)=some (n:Int)∧(n≤2↔A<18446744073709551616):=by
 obtain⟨n,hn,h1,h2⟩:=Cg hA
 have e:(4294967296:Nat) ^ 2=18446744073709551616:=by decide
 refine⟨n,h1,fun h=>?_,fun h=>LV (by decide) h2 (by rw[e];exact h)⟩
 have h3:4294967296 ^ n≤4294967296 ^ 2:=ia (by decide) h
 rw[e] at h3
 exact bJ h2.1 h3
theorem G_Abs {a:Int}(ha:a.natAbs<LIM):qj (enc a)=some (enc (a.natAbs:Int)):=by
 unfold qj
 rw[vp,bg ha,ab,c9,aI,lU ha,jB ha,ab]
 rfl
theorem xN {a c:Int}(ha:a.natAbs<LIM)(hc:c.natAbs<LIM)(h1:a.natAbs<18446744073709551616)(h2:c.natAbs<18446744073709551616)(p:ap→ap→Option ap):
  cE p (enc a) (enc c)=some (enc (Nat.gcd a.natAbs c.natAbs:Nat)):=by
 obtain⟨n,hn1,Gv⟩:=wE ha
 obtain⟨m,hm1,S4⟩:=wE hc
 have hg:Nat.gcd a.natAbs c.natAbs<18446744073709551616:=by
  rcases sd a.natAbs with h|h
  ·rw[h,Nt];exact h2
  ·exact dY (B0 _ h) h1
 have hgL:Nat.gcd a.natAbs c.natAbs<LIM:=bJ hg (by decide)
 unfold cE
 rw[vo,bg ha,bg hc,ab]
 simp only[fH,c9,aI,lU ha,lU hc]
 rw[hn1,ab,cu _ _ (by have:=Gv.2 h1;omega),hm1,ab,ab,cu _ _ (by have:=S4.2 h2;omega),Sh h1,Sh h2,ab,ab,Vj,ab,A8,yd,A7,UM hg,jB hgL,ab]
 rfl
theorem Lz {a:Int}(ha:a.natAbs<LIM)(p:ap→ap→Option ap):cE p (enc a) (enc 0)=some (enc (Nat.gcd a.natAbs 0:Nat)):=by
 by_cases h1:a.natAbs<18446744073709551616
 ·exact xN ha (by decide) h1 (by decide) p
 ·obtain⟨n,hn1,Gv⟩:=wE ha
  have hc:(0:Int).natAbs<LIM:=by decide
  unfold cE
  rw[vo,bg ha,bg hc,ab]
  simp only[fH,c9,aI,lU ha,lU hc]
  rw[hn1,ab,ce _ _ (by have:=mt Gv.1 h1;omega),ab,aI,ce _ _ (by rw[z16];exact fun h=>h rfl),G_Abs ha,ab,I8]
theorem LA {a c:Int}(ha:a.natAbs<LIM)(hc:c.natAbs<LIM)(h0:c.natAbs≠0)(h1:¬(a.natAbs<18446744073709551616∧c.natAbs<18446744073709551616))(p:ap→ap→Option ap):
  cE p (enc a) (enc c)=p (enc (c.natAbs:Int)) (enc ((a.natAbs % c.natAbs:Nat):Int)):=by
 obtain⟨n,hn1,Gv⟩:=wE ha
 obtain⟨m,hm1,S4⟩:=wE hc
 have hr:a.natAbs % c.natAbs<LIM:=dY (Nat.mod_le _ _) ha
 unfold cE
 rw[vo,bg ha,bg hc,ab]
 simp only[fH,c9,aI,lU ha,lU hc]
 rw[hn1,ab,hm1,ab]
 have KB:(cnd (decide ((n:Int)≤(2:Int))) (some (decide ((m:Int)≤(2:Int)))) (some (false)))=some false:=by
  rw[gf]
  split
  ·rename_i h
   congr 1
   have h2:=Gv.1 (by omega)
   exact bp fun h3=>h1 ⟨h2,S4.1 (by omega)⟩
  ·rfl
 rw[KB,ab,aI,z16,cu _ _ (by rw[Fm hc xM];exact h0),FC ha hc (by omega),ab,jB hc,ab]
 dsimp only
 rw[jB hr,ab,uY]
 rfl
theorem Ql {x y:Nat}(hy:0<y)(hxy:y≤x):2*(y*(x % y))<x*y:=by
 have h1:=lN x y
 have h2:=eu x hy
 have h3:0<x / y:=E4 hxy hy
 have h4:y≤y*(x / y):=Hn _ h3
 have h5:2*(x % y)<x:=by omega
 have h6:2*(x % y)*y<x*y:=Nw h5 hy
 calc 2*(y*(x % y))=2*(x % y)*y:=by rw[bA y,fa]
  _<x*y:=h6
theorem Pr(n:Nat):∀{a c:Int},a.natAbs<LIM→c.natAbs<LIM→c.natAbs≤a.natAbs→a.natAbs*c.natAbs<18446744073709551616*2 ^ n→ii (n+2) (enc a) (enc c)=some (enc (Nat.gcd a.natAbs c.natAbs:Nat)):=by
 induction n with
 |zero=>
  intro a c ha hc hle hp
  show cE _ _ _=_
  by_cases h0:c.natAbs=0
  ·obtain rfl:c=0:=by omega
   exact Lz ha _
  ·have h1:a.natAbs≤a.natAbs*c.natAbs:=Hn _ (by omega)
   exact xN ha hc (by omega) (by omega) _
 |succ n ih=>
  intro a c ha hc hle hp
  show cE (ii (n+2)) _ _=_
  by_cases h0:c.natAbs=0
  ·obtain rfl:c=0:=by omega
   exact Lz ha _
  ·by_cases h1:a.natAbs<18446744073709551616∧c.natAbs<18446744073709551616
   ·exact xN ha hc h1.1 h1.2 _
   ·have h2:=Ql (zq h0) hle
    have h3:=eu a.natAbs (zq h0)
    rw[LA ha hc h0 h1,ih (by rw[dX];exact hc) (by rw[dX];omega) (by rw[dX,dX];omega) (by rw[dX,dX];rw[cG] at hp;omega),dX,dX,←Au]
theorem Pz {a c:Int}(ha:a.natAbs<LIM)(hc:c.natAbs<LIM):nU (enc a) (enc c)=some (enc (Nat.gcd a.natAbs c.natAbs:Nat)):=by
 have e:LIM*LIM≤18446744073709551616*2 ^ 960:=by decide +kernel
 have mono:∀(n:Nat) {x y r:ap},ii n x y=some r→∀m,n≤m→ii m x y=some r:=by
  have step:∀{p q:ap→ap→Option ap},(∀{x y r},p x y=some r→q x y=some r)→∀{x y r},cE p x y=some r→cE q x y=some r:=by
   intro p q hpq x y r h
   unfold cE at h ⊢
   obtain⟨b,h1,h⟩:=ae h
   rw[h1,ab]
   cases b with
   |false=>exact h
   |true=>
    rw[c9,aI] at h ⊢
    obtain⟨b2,h2,h⟩:=ae h
    rw[h2,ab]
    cases b2 with
    |true=>exact h
    |false=>
     rw[aI] at h ⊢
     cases hd:decide (¬(y.vW=#v[(0:Int),0,0,0,0,0,0,0,0,0,0,0,0,0,0,0])) with
     |false=>rw[hd] at h;exact h
     |true=>
      rw[hd,gv] at h
      rw[gv]
      obtain⟨q1,h3,h⟩:=ae h
      rw[h3,ab]
      obtain⟨q2,h4,h⟩:=ae h
      rw[h4,ab]
      obtain⟨q3,h5,h⟩:=ae h
      rw[h5,ab]
      obtain⟨q4,h6,h⟩:=ae h
      rw[hpq h6,ab]
      exact h
  intro n
  induction n with
  |zero=>intro x y r h;cases h
  |succ n ih=>
   intro x y r h m hm
   obtain⟨m,rfl⟩:∃k,m=k+1:=⟨m - 1,by omega⟩
   exact step (fun h=>ih h m (by omega)) h
 unfold nU
 by_cases hle:c.natAbs≤a.natAbs
 ·refine mono 962 (Pr 960 ha hc hle ?_) 1000 (by decide)
  exact bJ (B7 ha hc) e
 ·by_cases h1:a.natAbs<18446744073709551616∧c.natAbs<18446744073709551616
  ·exact xN ha hc h1.1 h1.2 _
  ·refine mono 963 ?_ 1000 (by decide)
   show cE (ii 962) _ _=_
   rw[LA ha hc (by omega) h1,ez (by omega),Pr 960 (by rw[dX];exact hc) (by rw[dX];exact ha) (by rw[dX,dX];omega) (by rw[dX,dX];exact bJ (B7 hc ha) e),dX,dX,Nat.gcd_comm]
theorem mI {x y:Int}(hy:y≠0)(q r:Int)(h:q*y+r=x)(hr:0≤r∧r<y∨y<r∧r≤0):q=x.fdiv y∧r=x.fmod y:=by
 have h2:x.fdiv y*y+x.fmod y=x:=Int.fdiv_mul_add_fmod x y
 have hf:0≤x.fmod y∧x.fmod y<y∨y<x.fmod y∧x.fmod y≤0:=by
  rcases Int.lt_or_gt_of_ne hy with h|h
  ·right
   have h3:=Int.neg_fmod_neg x y
   have h4:=w5 (-x) (b:=-y) (by omega)
   have h5:=zp (-x) (b:=-y) (by omega)
   omega
  ·left;exact⟨w5 _ h,zp _ h⟩
 have hq:q=x.fdiv y:=by
  have h3:(q - x.fdiv y)*y=x.fmod y - r:=by rw[Int.sub_mul];omega
  rcases w8 (q - x.fdiv y) 0 with h4|h4|h4
  ·exfalso
   rcases hr with hr|hr <;> rcases hf with hf|hf
   ·have:(q - x.fdiv y)*y≤(-1)*y:=I7 (by omega) (by omega)
    omega
   ·omega
   ·omega
   ·have:(-1)*y≤(q - x.fdiv y)*y:=UG (by omega) (by omega)
    omega
  ·omega
  ·exfalso
   rcases hr with hr|hr <;> rcases hf with hf|hf
   ·have:1*y≤(q - x.fdiv y)*y:=I7 (by omega) (by omega)
    omega
   ·omega
   ·omega
   ·have:(q - x.fdiv y)*y≤1*y:=UG (by omega) (by omega)
    omega
 subst hq
 exact⟨rfl,by omega⟩
theorem J2 {x y:Int}(hy:y≠0):x.tmod y<y.natAbs∧-(y.natAbs:Int)<x.tmod y:=by
 have h1:=Int.natAbs_tmod x y
 have h2:=eu x.natAbs (show 0<y.natAbs by omega)
 rw[←h1] at h2
 omega
theorem Ba {x y:Int}(hy:y≠0):(cnd (decide (x.tmod y≠0)) (some (!((decide (x.tmod y<0)) == (decide (y<0))))) (some false))=some (decide (x.fdiv y≠x.tdiv y))∧(x.fdiv y≠x.tdiv y→x.fdiv y=x.tdiv y - 1∧x.fmod y=x.tmod y+y)∧(x.fdiv y=x.tdiv y→x.fmod y=x.tmod y):=by
 have e1:x.tdiv y*y+x.tmod y=x:=Int.tdiv_mul_add_tmod x y
 have e2:x.fdiv y*y+x.fmod y=x:=Int.fdiv_mul_add_fmod x y
 have hm:=J2 (x:=x) hy
 rw[gf]
 by_cases h1:x.tmod y=0
 ·obtain⟨h2,h3⟩:=mI (x:=x) hy (x.tdiv y) (x.tmod y) e1 (by omega)
  rw[ah (by simp[h1])]
  exact⟨by simp[h2],fun h=>absurd h2.symm h,fun _=>h3.symm⟩
 ·rw[ai h1]
  by_cases h2:(x.tmod y<0)↔(y<0)
  ·obtain⟨h3,h4⟩:=mI (x:=x) hy (x.tdiv y) (x.tmod y) e1 (by omega)
   refine⟨?_,fun h=>absurd h3.symm h,fun _=>h4.symm⟩
   rw[kZ.2 h2,E7]
   simp[h3]
  ·obtain⟨h3,h4⟩:=mI (x:=x) hy (x.tdiv y - 1) (x.tmod y+y) (by rw[Int.sub_mul];omega) (by omega)
   have h5:(decide (x.tmod y<0) == decide (y<0))=false:=Ll.2 fun h=>h2 (kZ.1 h)
   have h6:x.fdiv y≠x.tdiv y:=by omega
   refine⟨?_,fun _=>⟨h3.symm,h4.symm⟩,fun h=>absurd h h6⟩
   rw[h5]
   simp[h6]
theorem J3 {x y:Int}(hx:-9223372036854775807≤x∧x≤9223372036854775807):-9223372036854775807≤x.tdiv y∧x.tdiv y≤9223372036854775807:=by
 have h1:(x.tdiv y).natAbs=x.natAbs / y.natAbs:=Int.natAbs_tdiv ..
 have h2:x.natAbs / y.natAbs≤x.natAbs:=oK _ _
 omega
theorem TW {x y:Int}(hx:-9223372036854775807≤x∧x≤9223372036854775807)(OB:-9223372036854775807≤y∧y≤9223372036854775807)(hy:y≠0):
  (bnd (S:=Int×Int) (bnd (S:=Bool) (cnd (decide ((Int.tmod x y)≠(0:Int))) (some (!((decide ((Int.tmod x y)<(0:Int))) == (decide (y<(0:Int)))))) (some (false))) fun sw=>cnd sw (bnd (some (i64.wrap ((i64.wrap (Int.tdiv x y)) - (1:Int)))) fun AU=>bnd (some (i64.wrap ((Int.tmod x y)+y))) fun CR=>some ((AU,CR))) (some ((i64.wrap (Int.tdiv x y),Int.tmod x y)))) fun (kB,qP)=>bnd (gW kB) fun x32=>bnd (gW qP) fun x34=>some ((.inr (x32,x34)):Unit⊕(ap×ap)))=some (.inr (enc (x.fdiv y),enc (x.fmod y))):=by
 obtain⟨h1,h2,h3⟩:=Ba (x:=x) hy
 have hq:=J3 (y:=y) hx
 have hm:=J2 (x:=x) hy
 rw[h1,ab]
 by_cases h:x.fdiv y=x.tdiv y
 ·have hf:=h3 h
  rw[ce _ _ (fun hh=>hh h),ab,Rk]
  dsimp only
  rw[NU (by omega) (by omega),ab,NU (by omega) (by omega),ab,h,hf]
 ·obtain⟨h4,h5⟩:=h2 h
  have hf:x.fmod y≤9223372036854775807∧-9223372036854775807≤x.fmod y:=by
   have:-(y.natAbs:Int)≤x.fmod y∧x.fmod y≤y.natAbs:=by
    rcases Int.lt_or_gt_of_ne hy with hl|hl
    ·have h7:=w5 (-x) (b:=-y) (by omega)
     have h8:=zp (-x) (b:=-y) (by omega)
     have h9:=Int.neg_fmod_neg x y
     omega
    ·have h7:=w5 x (b:=y) (by omega)
     have h8:=zp x (b:=y) (by omega)
     omega
   omega
  rw[cu _ _ h,Rk (z:=Int.tdiv x y) (by omega),ab,ab,Rk,Rk,←h4,←h5]
  dsimp only
  rw[ab]
  dsimp only
  rw[NU (by omega) (by omega),ab,NU (by omega) (by omega),ab]
theorem HG {a c:Int}(ha:a.natAbs<LIM)(hc:c.natAbs<LIM)(h0:c≠0):iW (enc a) (enc c)=some (enc (a.fdiv c),enc (a.fmod c)):=by
 have Gk:∀r:Unit⊕(ap×ap),r=.inl ()→(match r with| .inl ()=>bnd (fQ (enc a).vW (enc c).vW) fun xO=>bnd (bH (!((enc a).vNeg == (enc c).vNeg)) xO.1) fun LI=>bnd (S:=(Vector Int 16)×ap) (bnd (S:=Bool) (cnd (decide (¬(xO.2=#v[(0:Int),0,0,0,0,0,0,0,0,0,0,0,0,0,0,0]))) (some (!((enc a).vNeg == (enc c).vNeg))) (some (false))) fun CL=>cnd CL (bnd (gW (1:Int)) fun x44=>bnd (nS LI x44) fun x46=>bnd (ie (enc c).vW xO.2) fun x48=>some ((x48,x46))) (some ((xO.2,LI)))) fun (Fh,Fg)=>bnd (bH (enc c).vNeg Fh) fun Rc=>some (Fg,Rc)| .inr r=>some r)=some (enc (a.fdiv c),enc (a.fmod c)):=by
  rintro r rfl
  dsimp only
  have hr:=eu a.natAbs (show 0<c.natAbs by omega)
  have hq:a.natAbs / c.natAbs≤a.natAbs:=oK _ _
  have hdm:=lN a.natAbs c.natAbs
  rw[lU ha,lU hc,jN ha,jN hc,FC ha hc (by omega),ab]
  dsimp only
  rw[jB (dY hq ha),ab,z16]
  simp only[Fm (B1 hr hc) xM]
  have MJ:(c.natAbs:Int)*((a.natAbs / c.natAbs:Nat):Int)+((a.natAbs % c.natAbs:Nat):Int)=(a.natAbs:Int):=by rw[←iT,←kw,hdm]
  generalize hQ:a.natAbs / c.natAbs=Q at MJ hq ⊢
  generalize hR:a.natAbs % c.natAbs=R at MJ hr ⊢
  by_cases hs:decide (a<0)=decide (c<0)
  ·have Ku:=kZ.1 hs
   rw[hs,E7,c9]
   rw[show (cnd (decide (¬(R=0))) (some false) (some false))=some false from by rw[Uc],ab,aI,ab]
   dsimp only[cond_false]
   rw[jB (B1 hr hc),ab]
   obtain⟨h1,h2⟩:=mI (x:=a) h0 (Q:Int) (bif decide (c<0) then -(R:Int) else (R:Int)) (by
    by_cases Do:c<0
    ·rw[aB Do,ku]
     have e:c=-(c.natAbs:Int):=by omega
     have e2:a=-(a.natAbs:Int):=by omega
     rw[e2,←MJ]
     conv=>lhs;rw[e]
     rw[B6,kY];omega
    ·rw[bp Do,cond_false]
     have e:c=(c.natAbs:Int):=by omega
     have e2:a=(a.natAbs:Int):=by omega
     rw[e2,←MJ]
     conv=>lhs;rw[e]
     rw[kY]) (by
    by_cases Do:c<0
    ·rw[aB Do,ku];omega
    ·rw[bp Do,cond_false];omega)
   rw[←h1,←h2]
  ·have Ku:¬((a<0)↔(c<0)):=fun h=>hs (kZ.2 h)
   have hb:(decide (a<0) == decide (c<0))=false:=Ll.2 hs
   rw[hb,sh,ku]
   have hmul:-(Q:Int)*c=(if c<0 then 1 else -1)*((c.natAbs:Int)*(Q:Int)):=by
    split
    ·have e:c=-(c.natAbs:Int):=by omega
     conv=>lhs;rw[e]
     rw[Int.neg_mul_neg,zo,kY]
    ·have e:c=(c.natAbs:Int):=by omega
     conv=>lhs;rw[e]
     rw[E5,E5,zo,kY]
   by_cases hR0:R=0
   ·rw[ce _ _ (by simpa using hR0),ab,aI,ab]
    dsimp only
    rw[jB (B1 hr hc),ab]
    obtain⟨h1,h2⟩:=mI (x:=a) h0 (-(Q:Int)) 0 (by rw[hmul];subst hR0;split <;> omega) (by omega)
    rw[←h1,←h2]
    subst hR0
    cases decide (c<0) <;> rfl
   ·have hQ1:((-(Q:Int)).natAbs)<LIM:=by rw[Int.natAbs_neg,dX];exact dY hq ha
    rw[cu _ _ hR0,ab,gv,NU (by decide) (by decide),ab,G_Sub hQ1 (by decide),ab,Ju (mv hr),ab,ab]
    dsimp only
    rw[jB (dY (Nat.sub_le _ _) hc),ab]
    obtain⟨h1,h2⟩:=mI (x:=a) h0 (-(Q:Int) - 1) (bif decide (c<0) then -((c.natAbs - R:Nat):Int) else ((c.natAbs - R:Nat):Int)) (by
     rw[Int.sub_mul,hmul]
     by_cases Do:c<0
     ·rw[aB Do,ku,ai Do];omega
     ·rw[bp Do,cond_false,ah Do];omega) (by
     by_cases Do:c<0
     ·rw[aB Do,ku];omega
     ·rw[bp Do,cond_false];omega)
    rw[←h1,←h2]
 unfold iW
 rw[vo,bg ha,bg hc,ab,fH,c9,aI,xo hc,ab,ab,ce _ _ (by rw[BZ];exact h0),Px ha,ab]
 have Ek:∀z:Int,(bnd (S:=Bool) (cnd (if -9223372036854775808≤z∧z<9223372036854775808 then (z,true) else (0,false):Int×Bool).2 (some (decide ((if -9223372036854775808≤z∧z<9223372036854775808 then (z,true) else (0,false):Int×Bool).1≠(-9223372036854775808:Int)))) (some (false))) fun a=>some a)=some (decide (-9223372036854775807≤z∧z≤9223372036854775807)):=by
  intro z
  rw[uY]
  split
  ·rw[gv];congr 1;exact kZ.2 (by omega)
  ·rw[aI];congr 1;exact (bp (by omega)).symm
 have e1:=Ek a
 have e2:=Ek c
 rw[uY] at e1 e2
 rw[e1,ab,gf]
 split
 ·rename_i h1
  rw[Px hc,ab,e2,ab,gf]
  split
  ·rename_i h2
   rw[ai (by omega),ai (by omega),aC h0,aC h0,TW h1 h2 h0,ab]
  ·rw[ab];exact Gk _ rfl
 ·rw[ab];exact Gk _ rfl
theorem HH {a c:Int}(ha:a.natAbs<LIM)(hc:c.natAbs<LIM)(h0:c≠0):ig (enc a) (enc c)=some (enc (a.fdiv c)):=by
 unfold ig
 rw[HG ha hc h0,ab]
end
end Go.Proofs.YtaedcknhkjpmlaaGreat
