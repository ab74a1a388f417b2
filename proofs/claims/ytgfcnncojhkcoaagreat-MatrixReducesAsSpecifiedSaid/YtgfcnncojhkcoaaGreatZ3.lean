/-
  Lemmas, part 3. Conditions: none.
-/
import Derived.Test.YtgfcnncojhkcoaaGreatZ2
set_option linter.all false
set_option maxRecDepth 100000
set_option maxHeartbeats 4000000
namespace Go.Proofs.YtgfcnncojhkcoaaGreat
open Go.RowKit Go.IntKind Tryz
noncomputable section
def jg(a6:ap)(aZ:ap)(x8:Int)(bz:Int):Int×Int×(Vector Int 32)→Option ((Int×Int×(Vector Int 32))⊕(Int×(Vector Int 32))):=fun (Ge,rA,B3)=>cnd (decide (rA<x8)) (gd (0≤bz∧bz<16) (gd (0≤rA∧rA<16) (gd (0≤i64.wrap (bz+rA)∧i64.wrap (bz+rA)<32) (bnd (some (u64.wrap (Ge+(u64.wrap ((u64.wrap ((u64.wrap ((a6.vW)[(bz).toNat]!))*(u64.wrap ((aZ.vW)[(rA).toNat]!))))+(u64.wrap ((B3)[(i64.wrap (bz+rA)).toNat]!))))))) fun lh=>gd (0≤i64.wrap (bz+rA)∧i64.wrap (bz+rA)<32) (bnd (some ((B3).set! (i64.wrap (bz+rA)).toNat (u32.wrap (lh)))) fun vA=>some (.inl (mX .u64 lh (32:Int),i64.wrap (rA+(1:Int)),vA))))))) (some (.inr (Ge,B3)))
def jh(a6:ap)(aZ:ap)(x6:Int)(x8:Int):Int×(Vector Int 32)→Option ((Int×(Vector Int 32))⊕((Vector Int 32))):=fun (bz,nk)=>cnd (decide (bz<x6)) (bnd (aK (jg a6 aZ x8 bz) ((0:Int),(0:Int),nk)) fun (xo,xn)=>gd (0≤i64.wrap (bz+x8)∧i64.wrap (bz+x8)<32) (bnd (some ((xn).set! (i64.wrap (bz+x8)).toNat (u32.wrap (xo)))) fun yo=>some (.inl (i64.wrap (bz+(1:Int)),yo)))) (some (.inr nk))
def jA(a6:ap)(aZ:ap):Option ap:=bnd (dM [a6,aZ]) fun x1=>cnd (!x1) (bnd (eL) fun x4=>some x4) (bnd (eU a6.vW) fun x6=>bnd (eU aZ.vW) fun x8=>bnd (aK (jh a6 aZ x6 x8) ((0:Int),(Vector.replicate 32 (0:Int)))) fun eY=>cnd (decide (¬(vOf 16 (List.take 16 (List.drop 16 (eY).toList))=#v[(0:Int),0,0,0,0,0,0,0,0,0,0,0,0,0,0,0]))) (bnd (eL) fun Gn=>some Gn) (bnd (bO (!(a6.vNeg == aZ.vNeg)) (vOf 16 (List.take 16 (List.drop 0 (eY).toList)))) fun Aq=>some Aq))
theorem mQ {a6:ap}{aZ:ap}{r:ap}(h:jA a6 aZ=some r):ax prog 90 [dG az a6,dG az aZ] (dG az r):=by
 refine bn (rs:=[.cell 4 32]) (fun cx hx h0=>?_) func90
 unfold jA at h
 refine rai hx ?_
 refine AW.seq (rs hx fun K hK=>?_)
 iterate 2 refine sbi ?_
 refine s1 (s8 ([a6,aZ]:List ap) az tQ iO) ?_
 refine scb h ij fun x1 h=>?_
 refine nbi hK ?_
 refine cdh h rfl (fun cj h=>?_) (fun cj h=>?_)
 refine rs hx fun K hK=>?_
 refine scb h iz fun x4 h=>?_
 refine nbi hK ?_
 exact AW.ret (rtv h)
 refine AW.skip (rs hx fun K hK=>?_)
 refine s1 (lB (F:=(cA 32 (cI .u32)).f (Vector.replicate 32 (0:Int))) GB) ?_
 refine nl hK ?_
 refine rsd [128] hx fun K hK=>?_
 refine mbi ?_
 refine cqb h lD fun x6 h=>?_
 refine mbi ?_
 refine cqb h lD fun x8 h=>?_
 refine nbi hK ?_
 refine AW.seq (ra hx ?_)
 refine AW.block ?_
 obtain⟨eY,hy,h⟩:=ah h
 refine lp (S:=Int×(Vector Int 32)) (X:=(Vector Int 32)) (fun (bz,nk)=>[(2,.pt 0 0),(3,.pt 1 0),(4,.pt 2 0),(5,.pt 3 0),(7,dI .i64 x8),(23,dI .i64 x6),(24,dI .i64 bz)]) (fun (bz,nk)=>⟨[(0,dC (az.f a6)),(1,dC (az.f aZ)),(2,dC (az.f cE)),(3,dC ((cA 32 (cI .u32)).f nk))],[],4⟩) (PE cx (.exit 0) (fun eY=>[(2,.pt 0 0),(3,.pt 1 0),(4,.pt 2 0),(5,.pt 3 0)]) fun eY=>⟨[(0,dC (az.f a6)),(1,dC (az.f aZ)),(2,dC (az.f cE)),(3,dC ((cA 32 (cI .u32)).f eY))],[],4⟩) hy ?_ ?_ ?_
 exact wk0 h0 [0,1,2,4]
 clear hy h
 rintro⟨bz,nk⟩ y h
 dsimp only[jh] at h
 refine ra hx ?_
 refine AW.seq (cdh h rfl (fun jw h=>?_) (fun jw h=>?_))
 refine AW.skip (AW.seq (AW.block ?_))
 iterate 2 refine ra hx ?_
 refine AW.seq (ra hx ?_)
 refine AW.block ?_
 obtain⟨y,hy,h⟩:=ah h
 refine lp (S:=Int×Int×(Vector Int 32)) (X:=Int×(Vector Int 32)) (fun (Ge,rA,B3)=>[(2,.pt 0 0),(3,.pt 1 0),(4,.pt 2 0),(5,.pt 3 0),(7,dI .i64 x8),(8,dI .i64 bz),(9,dI .u64 Ge),(23,dI .i64 x6),(24,dI .i64 bz),(27,dI .i64 x8),(28,dI .i64 rA)]) (fun (Ge,rA,B3)=>⟨[(0,dC (az.f a6)),(1,dC (az.f aZ)),(2,dC (az.f cE)),(3,dC ((cA 32 (cI .u32)).f B3))],[],4⟩) (PE cx (.exit 2) (fun (xo,xn)=>[(2,.pt 0 0),(3,.pt 1 0),(4,.pt 2 0),(5,.pt 3 0),(7,dI .i64 x8),(8,dI .i64 bz),(9,dI .u64 xo),(23,dI .i64 x6),(24,dI .i64 bz)]) fun (xo,xn)=>⟨[(0,dC (az.f a6)),(1,dC (az.f aZ)),(2,dC (az.f cE)),(3,dC ((cA 32 (cI .u32)).f xn))],[],4⟩) hy ?_ ?_ ?_
 exact wk0 h0 [0,1,2,3]
 clear hy h
 rintro⟨Ge,rA,B3⟩ y h
 dsimp only[jg] at h
 refine ra hx ?_
 refine AW.seq (cdh h rfl (fun Hh h=>?_) (fun Hh h=>?_))
 refine AW.skip (AW.seq (AW.block (ra hx ?_)))
 refine rsd [] hx fun K hK=>?_
 iterate 3 refine sa ?_
 obtain⟨Cl,h⟩:=am h
 iterate 5 refine sbi ?_
 obtain⟨G4,h⟩:=am h
 iterate 7 refine sbi ?_
 obtain⟨Ox,h⟩:=am h
 iterate 5 refine sbi ?_
 obtain⟨lh,Dl,h⟩:=ah h
 replace Dl:=d5 Dl
 refine s2 (d2:=dI .u64 lh) mi (gD (congrArg (dI .u64) Dl)) ?_
 refine nl hK ?_
 refine rs hx fun K hK=>?_
 iterate 5 refine sa ?_
 obtain⟨Ov,h⟩:=am h
 have hn21:(i64.wrap (bz+rA)).toNat<32:=by omega
 refine sbi ?_
 obtain⟨vA,hx23,h⟩:=ah h
 replace hx23:=d5 hx23
 refine s0 (fq (b':=u32.wrap (lh)) (aX.comp (aX.id _ _) (aX.vec (cI .u32) B3 (i64.wrap (bz+rA)).toNat hn21) (fun _=>rfl)) bX hx23) ?_
 refine nl hK ?_
 iterate 2 refine rb hx ?_
 exact pel h h0 [0,1,2,3]
 exact AW.exit (per h h0 [0,1,2,3])
 obtain⟨xo,xn⟩:=y
 refine lw0 ?_
 refine rq hx fun K hK=>?_
 iterate 5 refine sa ?_
 obtain⟨hc25,h⟩:=am h
 have Lc:(i64.wrap (bz+x8)).toNat<32:=by omega
 refine sbi ?_
 obtain⟨yo,K3,h⟩:=ah h
 replace K3:=d5 K3
 refine s0 (fq (b':=u32.wrap (xo)) (aX.comp (aX.id _ _) (aX.vec (cI .u32) xn (i64.wrap (bz+x8)).toNat Lc) (fun _=>rfl)) bX K3) ?_
 refine nl hK ?_
 refine rb hx ?_
 exact pel h h0 [0,1,2,3]
 exact AW.exit (per h h0 [0,1,2,3])
 refine lw0 ?_
 refine AW.seq (rs hx fun K hK=>?_)
 refine q1 (slA (n:=32) (l:=(16:Int)) (h:=(32:Int)) tok (by decide) GB bX ⟨_,rfl⟩ rfl) ?_
 refine q1 (sPtr tok rfl da) ?_
 refine s1 (d:=dG al_cV (vOf 16 (List.take 16 (List.drop 16 (eY).toList)))) (nq (aX.sub (o:=16) 16 (cI .u32) eY 16 (by decide) (by first|rfl|decide)) da) ?_
 refine s1 (d:=dG al_cV (#v[(0:Int),0,0,0,0,0,0,0,0,0,0,0,0,0,0,0])) (nt da bX) ?_
 refine s1 (wY tok 2 (by decide) (EqC.arr (EqC.int (d:=0) bX) da bX) da) ?_
 refine nl hK ?_
 refine cdh h rfl (fun xG h=>?_) (fun xG h=>?_)
 refine rs hx fun K hK=>?_
 refine scb h iz fun Gn h=>?_
 refine nbi hK ?_
 exact AW.ret (rtv h)
 refine AW.skip (rsd [111] hx fun K hK=>?_)
 iterate 5 refine sbi ?_
 refine q1 (slA (n:=32) (l:=(0:Int)) (h:=(16:Int)) tok (by decide) GB bX rfl ⟨_,rfl⟩) ?_
 refine q1 (sPtr tok rfl da) ?_
 refine s1 (d:=dG al_cV (vOf 16 (List.take 16 (List.drop 0 (eY).toList)))) (nq (aX.sub (o:=0) 16 (cI .u32) eY 0 (by decide) (by first|rfl|decide)) da) ?_
 obtain⟨Aq,GW,h⟩:=ah h
 refine sq tok (dW GW) (by simp only[fx,i2,nZ,rW,j7,mf];exact⟨rfl,dH _ _⟩) (lA (ao _) (lA (tS _ _) lAn)) (.inl (lL _ _)) ?_
 refine nbi hK ?_
 exact AW.ret (rtv h)
def gi(bS:Int):Option Int:=bnd (nP bS) fun x1=>some (i64.wrap ((32:Int) - x1))
theorem vY {bS:Int}{r:Int}(h:gi bS=some r):ax prog 164 [dI .u32 bS] (dI .i64 r):=by
 refine bn (rs:=[.tmp 2]) (fun cx hx h0=>?_) func164
 unfold gi at h
 refine ra hx ?_
 refine rs hx fun K hK=>?_
 refine sa ?_
 refine scb h zu fun x1 h=>?_
 refine nbi hK ?_
 exact AW.ret (rtv h)
def ke(qk:Vector Int 16)(bF:Int)(oe:Int)(dU:Vector Int 17)(x9:Int):Int×Int→Option ((Int×Int)⊕Int):=fun (bo,bm)=>bnd (S:=Bool) (cnd (decide (bm<(4294967296:Int))) (cnd (decide ((4294967296:Int)≤bo)) (some (true)) (gd (0≤i64.wrap (bF - (2:Int))∧i64.wrap (bF - (2:Int))<16) (gd (0≤i64.wrap ((i64.wrap (oe+bF)) - (2:Int))∧i64.wrap ((i64.wrap (oe+bF)) - (2:Int))<17) (some (decide ((ior .u64 (yB .u64 bm (32:Int)) (u64.wrap ((dU)[(i64.wrap ((i64.wrap (oe+bF)) - (2:Int))).toNat]!)))<(u64.wrap (bo*(u64.wrap ((qk)[(i64.wrap (bF - (2:Int))).toNat]!)))))))))) (some (false))) fun gx=>cnd gx (some (.inl (u64.wrap (bo - (1:Int)),u64.wrap (bm+x9)))) (some (.inr bo))
def jf(qk:Vector Int 16)(bF:Int)(oe:Int)(dU:Vector Int 17):Option Int:=gd (0≤i64.wrap (oe+bF)∧i64.wrap (oe+bF)<17) (gd (0≤i64.wrap ((i64.wrap (oe+bF)) - (1:Int))∧i64.wrap ((i64.wrap (oe+bF)) - (1:Int))<17) (bnd (some (ior .u64 (yB .u64 (u64.wrap ((dU)[(i64.wrap (oe+bF)).toNat]!)) (32:Int)) (u64.wrap ((dU)[(i64.wrap ((i64.wrap (oe+bF)) - (1:Int))).toNat]!)))) fun x5=>gd (0≤i64.wrap (bF - (1:Int))∧i64.wrap (bF - (1:Int))<16) (bnd (some (u64.wrap ((qk)[(i64.wrap (bF - (1:Int))).toNat]!))) fun x9=>gd (x9≠0) (gd (x9≠0) (bnd (aK (ke qk bF oe dU x9) (u64.wrap (Int.tdiv x5 x9),Int.tmod x5 x9)) fun bw=>some bw)))))
theorem B8 {qk:Vector Int 16}{bF:Int}{oe:Int}{dU:Vector Int 17}{r:Int}(h:jf qk bF oe dU=some r):HC prog 166 [.pt 0 0,dG al_cV qk,dI .i64 bF,dI .i64 oe] ⟨[(0,dC ((cA 17 (cI .u32)).f dU))],[],1⟩ (dI .u64 r) ⟨[(0,dC ((cA 17 (cI .u32)).f dU))],[],1⟩:=by
 refine HC.of (rs:=[.tmp 8]) tok func166 rfl rfl (b7 rfl) rfl (fun cx hx h1 hok=>?_)
 have h0:cx.hp0.next=1:=by rw[h1]
 simp only[fj,Nat.reduceAdd,bB]
 unfold jf at h
 refine ra hx ?_
 refine rsd [] hx fun K hK=>?_
 iterate 5 refine sa ?_
 obtain⟨zQ,h⟩:=am h
 iterate 10 refine sbi ?_
 obtain⟨Ou,h⟩:=am h
 iterate 4 refine sbi ?_
 obtain⟨x5,Ce,h⟩:=ah h
 replace Ce:=d5 Ce
 refine s2 (d2:=dI .u64 x5) mi (gD (congrArg (dI .u64) Ce)) ?_
 refine nl hK ?_
 refine rs hx fun K hK=>?_
 iterate 2 refine sa ?_
 obtain⟨hc7,h⟩:=am h
 iterate 3 refine sbi ?_
 obtain⟨x9,GY,h⟩:=ah h
 replace GY:=d5 GY
 refine s2 (d2:=dI .u64 x9) mi (gD (congrArg (dI .u64) GY)) ?_
 refine nl hK ?_
 refine rsd [] hx fun K hK=>?_
 iterate 2 refine sa ?_
 obtain⟨Jy,h⟩:=am h
 refine s1 (Gj Jy) ?_
 iterate 2 refine sa ?_
 obtain⟨Cl,h⟩:=am h
 refine s1 (Eu Cl) ?_
 refine nbi hK ?_
 refine AW.seq (AW.block ?_)
 obtain⟨bw,hy,h⟩:=ah h
 refine lp (S:=Int×Int) (X:=Int) (fun (bo,bm)=>[(0,.pt 0 0),(2,dI .i64 bF),(3,dI .i64 oe),(5,.pt 1 0),(10,dI .u64 x9),(11,dI .u64 bo),(12,dI .u64 bm)]) (fun (bo,bm)=>⟨[(0,dC ((cA 17 (cI .u32)).f dU)),(1,dC (al_cV.f qk))],[],2⟩) (PE cx (.exit 0) (fun bw=>[(11,dI .u64 bw)]) fun bw=>⟨[(0,dC ((cA 17 (cI .u32)).f dU))],[],1⟩) hy ?_ ?_ ?_
 exact wkN h0 [1] (wR rfl (wR rfl (wR rfl (wR rfl (wR rfl (wR rfl (wR rfl wTn))))))) (vC rfl (vC rfl wVn)) wLn
 clear hy h
 rintro⟨bo,bm⟩ y h
 dsimp only[ke] at h
 iterate 2 refine AW.seq ?_
 obtain⟨gx,hy,h⟩:=ah h
 refine jn ((PE cx .normal (fun gx=>[(0,.pt 0 0),(2,dI .i64 bF),(3,dI .i64 oe),(5,.pt 1 0),(10,dI .u64 x9),(11,dI .u64 bo),(12,dI .u64 bm),(70,dB gx)]) fun gx=>⟨[(0,dC ((cA 17 (cI .u32)).f dU)),(1,dC (al_cV.f qk))],[],2⟩) gx) ?_ ?_
 replace h:=hy
 refine rqd [] hx fun K hK=>?_
 refine mbi ?_
 rcases bE h with⟨Co,h⟩|⟨Co,h⟩
 refine mbi ?_
 rcases bE h with⟨u7,h⟩|⟨u7,h⟩
 refine nbi hK ?_
 cases h
 exact PE.i (wkN h0 [1] (wR rfl (wR rfl (wR rfl (wR rfl (wR rfl (wR rfl (wR rfl (wR rfl wTn)))))))) (vC rfl (vC rfl wVn)) wLn)
 iterate 3 refine ga u7 ?_
 obtain⟨Oy,h⟩:=am h
 iterate 2 refine gbi ?_
 iterate 3 refine ga u7 ?_
 refine g1 u7 (Sm (b:=(32:Int)) (by decide)) ?_
 iterate 6 refine ga u7 ?_
 obtain⟨Ow,h⟩:=am h
 iterate 2 refine gbi ?_
 refine ga u7 ?_
 refine g1 u7 T_or ?_
 refine nbi hK ?_
 cases h
 exact PE.i (wkN h0 [1] (wR rfl (wR rfl (wR rfl (wR rfl (wR rfl (wR rfl (wR rfl (wR rfl wTn)))))))) (vC rfl (vC rfl wVn)) wLn)
 iterate 3 refine aT rfl rfl Co ?_
 iterate 20 refine nn_t rfl rfl ?_
 refine nbi hK ?_
 cases h
 exact PE.i (wkN h0 [1] (wR rfl (wR rfl (wR rfl (wR rfl (wR rfl (wR rfl (wR rfl (wR rfl wTn)))))))) (vC rfl (vC rfl wVn)) wLn)
 refine lw0 ?_
 refine cdh h rfl (fun wA h=>?_) (fun wA h=>?_)
 refine AW.skip (AW.block (ra hx ?_))
 refine rb hx ?_
 cases h
 exact PS.l (PE.i (wkN h0 [1] (wR rfl (wR rfl (wR rfl (wR rfl (wR rfl (wR rfl (wR rfl wTn))))))) (vC rfl (vC rfl wVn)) wLn))
 refine AW.exit ?_
 try dsimp only
 try simp only[bP,reduceIte,Nat.reduceEqDiff,reduceCtorEq]
 cases h
 exact PS.r ⟨by nofun,PE.i (wkN h0 [] (wR rfl wTn) (vC rfl wVn) wLn)⟩
 refine lw0 ?_
 refine ra hx ?_
 refine AW.ret ?_
 cases h
 exact rH1 (wkN h0 [] (wR rfl wTn) (vC rfl wVn) wLn)
def jx(qk:Vector Int 16)(bF:Int)(oe:Int)(zE:Int):Int×Int×Int×(Vector Int 17)→Option ((Int×Int×Int×(Vector Int 17))⊕(Int×Int×(Vector Int 17))):=fun (aG,aS,nR,Kc)=>cnd (decide (nR<bF)) (gd (0≤nR∧nR<16) (bnd (some (u64.wrap (aG+(u64.wrap (zE*(u64.wrap ((qk)[(nR).toNat]!))))))) fun x4=>gd (0≤i64.wrap (oe+nR)∧i64.wrap (oe+nR)<17) (bnd (some (u64.wrap ((u64.wrap ((u64.wrap ((Kc)[(i64.wrap (oe+nR)).toNat]!)) - (u64.wrap (u32.wrap (x4))))) - aS))) fun x8=>gd (0≤i64.wrap (oe+nR)∧i64.wrap (oe+nR)<17) (bnd (some ((Kc).set! (i64.wrap (oe+nR)).toNat (u32.wrap (x8)))) fun jW=>some (.inl (mX .u64 x4 (32:Int),mX .u64 x8 (63:Int),i64.wrap (nR+(1:Int)),jW)))))) (some (.inr (aG,aS,Kc)))
def kw(qk:Vector Int 16)(bF:Int)(oe:Int)(zE:Int)(dU:Vector Int 17):Option (Bool×(Vector Int 17)):=bnd (aK (jx qk bF oe zE) ((0:Int),(0:Int),(0:Int),dU)) fun (aE,lg,yS)=>gd (0≤i64.wrap (oe+bF)∧i64.wrap (oe+bF)<17) (bnd (some (u64.wrap ((u64.wrap ((u64.wrap ((yS)[(i64.wrap (oe+bF)).toNat]!)) - aE)) - lg))) fun pk=>gd (0≤i64.wrap (oe+bF)∧i64.wrap (oe+bF)<17) (bnd (some ((yS).set! (i64.wrap (oe+bF)).toNat (u32.wrap (pk)))) fun te=>some (decide ((mX .u64 pk (63:Int))=(1:Int)),te)))
theorem CN {qk:Vector Int 16}{bF:Int}{oe:Int}{zE:Int}{dU:Vector Int 17}{r:Bool×(Vector Int 17)}(h:kw qk bF oe zE dU=some r):HC prog 167 [.pt 0 0,dG al_cV qk,dI .i64 bF,dI .i64 oe,dI .u64 zE] ⟨[(0,dC ((cA 17 (cI .u32)).f dU))],[],1⟩ (dB r.1) ⟨[(0,dC ((cA 17 (cI .u32)).f r.2))],[],1⟩:=by
 refine HC.of (rs:=[.tmp 10]) tok func167 rfl rfl (b7 rfl) rfl (fun cx hx h1 hok=>?_)
 have h0:cx.hp0.next=1:=by rw[h1]
 simp only[fj,Nat.reduceAdd,bB]
 unfold kw at h
 iterate 2 refine ra hx ?_
 refine AW.seq (ra hx ?_)
 refine AW.block ?_
 obtain⟨y,hy,h⟩:=ah h
 refine lp (S:=Int×Int×Int×(Vector Int 17)) (X:=Int×Int×(Vector Int 17)) (fun (aG,aS,nR,Kc)=>[(0,.pt 0 0),(2,dI .i64 bF),(3,dI .i64 oe),(4,dI .u64 zE),(6,.pt 1 0),(11,dI .u64 aG),(12,dI .u64 aS),(16,dI .i64 bF),(17,dI .i64 nR)]) (fun (aG,aS,nR,Kc)=>⟨[(0,dC ((cA 17 (cI .u32)).f Kc)),(1,dC (al_cV.f qk))],[],2⟩) (PE cx (.exit 0) (fun (aE,lg,yS)=>[(0,.pt 0 0),(2,dI .i64 bF),(3,dI .i64 oe),(11,dI .u64 aE),(12,dI .u64 lg)]) fun (aE,lg,yS)=>⟨[(0,dC ((cA 17 (cI .u32)).f yS))],[],1⟩) hy ?_ ?_ ?_
 exact wkN h0 [1] (wR rfl (wR rfl (wR rfl (wR rfl (wR rfl (wR rfl (wR rfl (wR rfl (wR rfl wTn))))))))) (vC rfl (vC rfl wVn)) wLn
 clear hy h
 rintro⟨aG,aS,nR,Kc⟩ y h
 dsimp only[jx] at h
 refine ra hx ?_
 refine AW.seq (cdh h rfl (fun eF h=>?_) (fun eF h=>?_))
 refine AW.skip (AW.seq (AW.block (ra hx ?_)))
 refine rs hx fun K hK=>?_
 iterate 3 refine sa ?_
 obtain⟨rk,h⟩:=am h
 iterate 5 refine sbi ?_
 obtain⟨x4,Jq,h⟩:=ah h
 replace Jq:=d5 Jq
 refine s2 (d2:=dI .u64 x4) mi (gD (congrArg (dI .u64) Jq)) ?_
 refine nl hK ?_
 refine rs hx fun K hK=>?_
 iterate 5 refine sa ?_
 obtain⟨Re,h⟩:=am h
 iterate 9 refine sbi ?_
 obtain⟨x8,OY,h⟩:=ah h
 replace OY:=d5 OY
 refine s2 (d2:=dI .u64 x8) mi (gD (congrArg (dI .u64) OY)) ?_
 refine nl hK ?_
 refine rs hx fun K hK=>?_
 iterate 7 refine sa ?_
 obtain⟨G5,h⟩:=am h
 have QQ:(i64.wrap (oe+nR)).toNat<17:=by omega
 refine sbi ?_
 obtain⟨jW,Ba,h⟩:=ah h
 replace Ba:=d5 Ba
 refine s0 (fq (b':=u32.wrap (x8)) (aX.comp (aX.id _ _) (aX.vec (cI .u32) Kc (i64.wrap (oe+nR)).toNat QQ) (fun _=>rfl)) bX Ba) ?_
 refine nl hK ?_
 refine ra hx ?_
 iterate 2 refine rb hx ?_
 cases h
 exact PS.l (PE.i (wkN h0 [1] (wR rfl (wR rfl (wR rfl (wR rfl (wR rfl (wR rfl (wR rfl (wR rfl (wR rfl wTn))))))))) (vC rfl (vC rfl wVn)) wLn))
 refine AW.exit ?_
 try dsimp only
 try simp only[bP,reduceIte,Nat.reduceEqDiff,reduceCtorEq]
 cases h
 exact PS.r ⟨by nofun,PE.i (wkN h0 [] (wR rfl (wR rfl (wR rfl (wR rfl (wR rfl wTn))))) (vC rfl wVn) wLn)⟩
 obtain⟨aE,lg,yS⟩:=y
 refine lw0 ?_
 refine rs hx fun K hK=>?_
 iterate 5 refine sa ?_
 obtain⟨Oy,h⟩:=am h
 iterate 7 refine sbi ?_
 obtain⟨pk,yC,h⟩:=ah h
 replace yC:=d5 yC
 refine s2 (d2:=dI .u64 pk) mi (gD (congrArg (dI .u64) yC)) ?_
 refine nl hK ?_
 refine rs hx fun K hK=>?_
 iterate 7 refine sa ?_
 obtain⟨Lm,h⟩:=am h
 have Ld:(i64.wrap (oe+bF)).toNat<17:=by omega
 refine sbi ?_
 obtain⟨te,GX,h⟩:=ah h
 replace GX:=d5 GX
 refine s0 (fq (b':=u32.wrap (pk)) (aX.comp (aX.id _ _) (aX.vec (cI .u32) yS (i64.wrap (oe+bF)).toNat Ld) (fun _=>rfl)) bX GX) ?_
 refine nl hK ?_
 refine ra hx ?_
 refine AW.ret ?_
 cases h
 exact rH1 (wkN h0 [] (wR rfl wTn) (vC rfl wVn) wLn)
def jz(qk:Vector Int 16)(bF:Int)(oe:Int):Int×Int×(Vector Int 17)→Option ((Int×Int×(Vector Int 17))⊕(Int×(Vector Int 17))):=fun (aG,aS,nR)=>cnd (decide (aS<bF)) (gd (0≤i64.wrap (oe+aS)∧i64.wrap (oe+aS)<17) (gd (0≤aS∧aS<16) (bnd (some (u64.wrap (aG+(u64.wrap ((u64.wrap ((nR)[(i64.wrap (oe+aS)).toNat]!))+(u64.wrap ((qk)[(aS).toNat]!))))))) fun x6=>gd (0≤i64.wrap (oe+aS)∧i64.wrap (oe+aS)<17) (bnd (some ((nR).set! (i64.wrap (oe+aS)).toNat (u32.wrap (x6)))) fun iM=>some (.inl (mX .u64 x6 (32:Int),i64.wrap (aS+(1:Int)),iM)))))) (some (.inr (aG,nR)))
def kC(qk:Vector Int 16)(bF:Int)(oe:Int)(dU:Vector Int 17):Option (Vector Int 17):=bnd (aK (jz qk bF oe) ((0:Int),(0:Int),dU)) fun (aE,lg)=>gd (0≤i64.wrap (oe+bF)∧i64.wrap (oe+bF)<17) (gd (0≤i64.wrap (oe+bF)∧i64.wrap (oe+bF)<17) (bnd (some ((lg).set! (i64.wrap (oe+bF)).toNat (u32.wrap (((lg)[(i64.wrap (oe+bF)).toNat]!)+(u32.wrap (aE)))))) fun pk=>some pk))
theorem CO {qk:Vector Int 16}{bF:Int}{oe:Int}{dU:Vector Int 17}{r:Vector Int 17}(h:kC qk bF oe dU=some r):HC prog 168 [.pt 0 0,dG al_cV qk,dI .i64 bF,dI .i64 oe] ⟨[(0,dC ((cA 17 (cI .u32)).f dU))],[],1⟩ (.tu []) ⟨[(0,dC ((cA 17 (cI .u32)).f r))],[],1⟩:=by
 refine HC.of (rs:=[]) tok func168 rfl rfl (b7 rfl) rfl (fun cx hx h1 hok=>?_)
 have h0:cx.hp0.next=1:=by rw[h1]
 simp only[fj,Nat.reduceAdd,bB]
 unfold kC at h
 iterate 2 refine ra hx ?_
 refine AW.seq (ra hx ?_)
 refine AW.block ?_
 obtain⟨y,hy,h⟩:=ah h
 refine lp (S:=Int×Int×(Vector Int 17)) (X:=Int×(Vector Int 17)) (fun (aG,aS,nR)=>[(0,.pt 0 0),(2,dI .i64 bF),(3,dI .i64 oe),(5,.pt 1 0),(8,dI .u64 aG),(10,dI .i64 bF),(11,dI .i64 aS)]) (fun (aG,aS,nR)=>⟨[(0,dC ((cA 17 (cI .u32)).f nR)),(1,dC (al_cV.f qk))],[],2⟩) (PE cx (.exit 0) (fun (aE,lg)=>[(0,.pt 0 0),(2,dI .i64 bF),(3,dI .i64 oe),(8,dI .u64 aE)]) fun (aE,lg)=>⟨[(0,dC ((cA 17 (cI .u32)).f lg))],[],1⟩) hy ?_ ?_ ?_
 exact wkN h0 [1] (wR rfl (wR rfl (wR rfl (wR rfl (wR rfl (wR rfl (wR rfl wTn))))))) (vC rfl (vC rfl wVn)) wLn
 clear hy h
 rintro⟨aG,aS,nR⟩ y h
 dsimp only[jz] at h
 refine ra hx ?_
 refine AW.seq (cdh h rfl (fun eF h=>?_) (fun eF h=>?_))
 refine AW.skip (AW.seq (AW.block (ra hx ?_)))
 refine rsd [] hx fun K hK=>?_
 iterate 6 refine sa ?_
 obtain⟨rk,h⟩:=am h
 iterate 4 refine sbi ?_
 obtain⟨Ck,h⟩:=am h
 iterate 5 refine sbi ?_
 obtain⟨x6,tV,h⟩:=ah h
 replace tV:=d5 tV
 refine s2 (d2:=dI .u64 x6) mi (gD (congrArg (dI .u64) tV)) ?_
 refine nl hK ?_
 refine rs hx fun K hK=>?_
 iterate 7 refine sa ?_
 obtain⟨O4,h⟩:=am h
 have Ok:(i64.wrap (oe+aS)).toNat<17:=by omega
 refine sbi ?_
 obtain⟨iM,Cg,h⟩:=ah h
 replace Cg:=d5 Cg
 refine s0 (fq (b':=u32.wrap (x6)) (aX.comp (aX.id _ _) (aX.vec (cI .u32) nR (i64.wrap (oe+aS)).toNat Ok) (fun _=>rfl)) bX Cg) ?_
 refine nl hK ?_
 iterate 2 refine rb hx ?_
 cases h
 exact PS.l (PE.i (wkN h0 [1] (wR rfl (wR rfl (wR rfl (wR rfl (wR rfl (wR rfl (wR rfl wTn))))))) (vC rfl (vC rfl wVn)) wLn))
 refine AW.exit ?_
 try dsimp only
 try simp only[bP,reduceIte,Nat.reduceEqDiff,reduceCtorEq]
 cases h
 exact PS.r ⟨by nofun,PE.i (wkN h0 [] (wR rfl (wR rfl (wR rfl (wR rfl wTn)))) (vC rfl wVn) wLn)⟩
 obtain⟨aE,lg⟩:=y
 refine lw0 ?_
 refine rqd [] hx fun K hK=>?_
 iterate 5 refine sa ?_
 obtain⟨Ln,h⟩:=am h
 iterate 6 refine sbi ?_
 obtain⟨Oy,h⟩:=am h
 have E8:(i64.wrap (oe+bF)).toNat<17:=by omega
 refine sbi ?_
 obtain⟨pk,yC,h⟩:=ah h
 replace yC:=d5 yC
 refine s0 (fq (b':=u32.wrap (((lg)[(i64.wrap (oe+bF)).toNat]!)+(u32.wrap (aE)))) (aX.comp (aX.id _ _) (aX.vec (cI .u32) lg (i64.wrap (oe+bF)).toNat E8) (fun _=>rfl)) bX yC) ?_
 refine nl hK ?_
 cases h
 exact rH0 (wkN h0 [] wTn (vC rfl wVn) wLn)
def fb(x1:Int)(ua:(Vector Int 16)×Int):Int×(Vector Int 16)×(Vector Int 17)→Option ((Int×(Vector Int 16)×(Vector Int 17))⊕((Vector Int 16)×(Vector Int 17))):=fun (gv,B2,Eo)=>cnd (decide ((0:Int)≤gv)) (bnd (jf ua.1 x1 gv Eo) fun Ik=>bnd (S:=Int×(Vector Int 17)) (bnd (kw ua.1 x1 gv Ik Eo) fun Mu=>cnd Mu.1 (bnd (kC ua.1 x1 gv Mu.2) fun Aq=>some ((u64.wrap (Ik - (1:Int)),Aq))) (some ((Ik,Mu.2)))) fun (Ga,Kd)=>gd (0≤gv∧gv<16) (some (.inl (i64.wrap (gv - (1:Int)),(B2).set! (gv).toNat (u32.wrap (Ga)),Kd)))) (some (.inr (B2,Eo)))
def gl(a6:Vector Int 16)(aZ:Vector Int 16):Option ((Vector Int 16)×(Vector Int 16)):=bnd (eU aZ) fun x1=>bnd (eU a6) fun x3=>bnd (ml a6 aZ) fun x5=>cnd (decide (x5<(0:Int))) (bnd (some (#v[(0:Int),0,0,0,0,0,0,0,0,0,0,0,0,0,0,0])) fun x8=>some (x8,a6)) (cnd (decide (x1=(1:Int))) (bnd (og a6 ((aZ)[((0:Int)).toNat]!)) fun jW=>bnd (some (#v[jW.2,0,0,0,0,0,0,0,0,0,0,0,0,0,0,0])) fun nV=>some (jW.1,nV)) (gd (0≤i64.wrap (x1 - (1:Int))∧i64.wrap (x1 - (1:Int))<16) (bnd (gi ((aZ)[(i64.wrap (x1 - (1:Int))).toNat]!)) fun lh=>bnd (qG aZ lh) fun ua=>bnd (qG a6 lh) fun vA=>bnd (some (vOf 17 (lCp ((Vector.replicate 17 (0:Int))).toList 0 (List.take 17 (List.take 16 (List.drop 0 (vA.1).toList)))))) fun zg=>bnd (aK (fb x1 ua) (i64.wrap (x3 - x1),(cQ),(zg).set! ((16:Int)).toNat vA.2)) fun (Aa,vq)=>bnd (pK (vOf 16 (List.take 16 (List.drop 0 (vq).toList))) lh) fun NK=>some (Aa,NK))))
theorem uf {a6:Vector Int 16}{aZ:Vector Int 16}{r:(Vector Int 16)×(Vector Int 16)}(h:gl a6 aZ=some r):ax prog 130 [dG al_cV a6,dG al_cV aZ] (.tu [dG al_cV r.1,dG al_cV r.2]):=by
 refine bn (rs:=[.cell 4 30,.cell 5 30]) (fun cx hx h0=>?_) func130
 unfold gl at h
 refine rai hx ?_
 refine rsd [128] hx fun K hK=>?_
 refine mbi ?_
 refine cqb h lD fun x1 h=>?_
 refine mbi ?_
 refine cqb h lD fun x3 h=>?_
 refine nbi hK ?_
 refine AW.seq (rs hx fun K hK=>?_)
 refine mbi ?_
 refine scb h xJ fun x5 h=>?_
 refine nbi hK ?_
 refine cdh h rfl (fun tX h=>?_) (fun tX h=>?_)
 refine AW.seq ?_
 obtain⟨x8,OY,h⟩:=ah h
 replace OY:=d5 OY
 refine jn (PE cx .normal (fun (_:Unit)=>[(4,.pt 0 0),(5,.pt 1 0)]) (fun (_:Unit)=>⟨[(0,dC (al_cV.f x8)),(1,dC (al_cV.f a6))],[],2⟩) ()) ?_ ?_
 refine dw (DW.split 1 2 (by decide) ?_ ?_)
 refine dwg [] [0,1,2,3] hx (by kernel_rfl) (by kernel_rfl) (by kernel_rfl) fun K hK=>?_
 dsimp only[dt,lf,li,List.map]
 refine s1 (d:=dG al_cV (#v[(0:Int),0,0,0,0,0,0,0,0,0,0,0,0,0,0,0])) (nt da bX) ?_
 refine sbi ?_
 refine s0 (fq (b':=#v[(0:Int),0,0,0,0,0,0,0,0,0,0,0,0,0,0,0]) (aX.id _ _) da OY) ?_
 refine tzi ?_
 exact .nil (hK _ _ (pe0 h0 [2,3]))
 refine dwg [] [0,2,1,3] hx (by kernel_rfl) (by kernel_rfl) (by kernel_rfl) fun K hK=>?_
 dsimp only[dt,lf,li,List.map]
 refine s1 (d:=dG al_cV (#v[(0:Int),0,0,0,0,0,0,0,0,0,0,0,0,0,0,0])) (nt da bX) ?_
 refine s0 (fq (b':=#v[(0:Int),0,0,0,0,0,0,0,0,0,0,0,0,0,0,0]) (aX.id _ _) da OY) ?_
 refine sbi ?_
 refine tzi ?_
 exact .nil (hK _ _ (pe0 h0 [2,3]))
 refine lw0 ?_
 refine AW.ret ?_
 cases h
 exact rv2
 refine AW.skip (AW.seq (ra hx ?_))
 refine cdh h rfl (fun jw h=>?_) (fun jw h=>?_)
 refine rs hx fun K hK=>?_
 refine sbi ?_
 refine s1 (vU (by decide:0≤(0:Int)∧(0:Int)<((16:Nat):Int)) da bX) ?_
 refine mbi ?_
 refine scb h ES fun jW h=>?_
 refine nbi hK ?_
 refine rs hx fun K hK=>?_
 iterate 2 refine sbi ?_
 refine s1 (d:=dG al_cV (#v[jW.2,0,0,0,0,0,0,0,0,0,0,0,0,0,0,0])) (nt da bX) ?_
 refine tzi ?_
 obtain⟨nV,rJ,h⟩:=ah h
 replace rJ:=d5 rJ
 refine s0 (fq (b':=#v[jW.2,0,0,0,0,0,0,0,0,0,0,0,0,0,0,0]) (aX.id _ _) da rJ) ?_
 refine nl hK ?_
 refine AW.ret ?_
 cases h
 exact rv2
 refine AW.skip (rs hx fun K hK=>?_)
 iterate 2 refine sa ?_
 obtain⟨Ox,h⟩:=am h
 refine mbi ?_
 refine scb h vY fun lh h=>?_
 refine nbi hK ?_
 refine rs hx fun K hK=>?_
 refine mbi ?_
 refine scb h CM fun ua h=>?_
 refine nbi hK ?_
 refine rs hx fun K hK=>?_
 refine mbi ?_
 refine scb h CM fun vA h=>?_
 refine nbi hK ?_
 refine rs hx fun K hK=>?_
 refine s1 (lB (F:=(cA 17 (cI .u32)).f (Vector.replicate 17 (0:Int))) CW) ?_
 refine nl hK ?_
 refine rsd [] hx fun K hK=>?_
 refine q1 (slA (n:=17) (l:=(0:Int)) (h:=(17:Int)) tok (by decide) CW bX rfl rfl) ?_
 refine q1 (slA (n:=16) (l:=(0:Int)) (h:=(16:Int)) tok (by decide) da bX rfl rfl) ?_
 obtain⟨zg,hx25,h⟩:=ah h
 replace hx25:=d5 hx25
 refine q1 (hp':=⟨[(6,dC ((cA 17 (cI .u32)).f zg)),(6,dC ((cA 17 (cI .u32)).f (Vector.replicate 17 (0:Int)))),(5,dC (al_cV.f vA.1)),(5,dC (al_cV.f (cQ))),(4,dC (al_cV.f ua.1)),(4,dC (al_cV.f (cQ))),(3,dC (al_cV.f (cQ))),(2,dC (al_cV.f (cQ))),(1,dC (al_cV.f aZ)),(0,dC (al_cV.f a6))],[],7⟩) (sCpA (c:=(cI .u32)) (v:=(Vector.replicate 17 (0:Int))) (s:=(List.take 16 (List.drop 0 (vA.1).toList))) tok Pk bX (w4.arr (c:=(cI .u32)) (v:=vA.1) rfl 0 (by decide)) (by simp only[e6,ie,sY];omega) rfl 0 (by decide) (congrArg (fun q=>(6,dC ((cA 17 (cI .u32)).f q))::_) hx25)) ?_
 refine nl hK ?_
 refine rs hx fun K hK=>?_
 refine sa ?_
 have Lc:((16:Int)).toNat<17:=by omega
 refine s1 (vU (by decide:0≤(16:Int)∧(16:Int)<((17:Nat):Int)) CW bX) ?_
 refine s0 (ig (b':=vA.2) (aX.comp (aX.id _ _) (aX.vec (cI .u32) zg ((16:Int)).toNat Lc) (fun _=>rfl)) bX) ?_
 refine nl hK ?_
 refine AW.seq (ra hx ?_)
 refine AW.block ?_
 obtain⟨y,hy,h⟩:=ah h
 refine lp (S:=Int×(Vector Int 16)×(Vector Int 17)) (X:=(Vector Int 16)×(Vector Int 17)) (fun (gv,B2,Eo)=>[(4,.pt 0 0),(5,.pt 1 0),(6,dI .i64 x1),(10,dI .i64 lh),(11,.pt 2 0),(15,.pt 3 0),(16,dI .i64 gv)]) (fun (gv,B2,Eo)=>⟨[(0,dC (al_cV.f B2)),(1,dC (al_cV.f (cQ))),(2,dC (al_cV.f ua.1)),(3,dC ((cA 17 (cI .u32)).f Eo))],[],4⟩) (PE cx (.exit 0) (fun (Aa,vq)=>[(4,.pt 0 0),(5,.pt 1 0),(10,dI .i64 lh),(15,.pt 2 0)]) fun (Aa,vq)=>⟨[(0,dC (al_cV.f Aa)),(1,dC (al_cV.f (cQ))),(2,dC ((cA 17 (cI .u32)).f vq))],[],3⟩) hy ?_ ?_ ?_
 exact wk0 h0 [2,3,4,6]
 clear hy h
 rintro⟨gv,B2,Eo⟩ y h
 dsimp only[fb] at h
 refine AW.seq (ra hx ?_)
 refine cdh h rfl (fun xH h=>?_) (fun xH h=>?_)
 refine AW.skip (AW.seq (AW.block (rs hx fun K hK=>?_)))
 iterate 3 refine sbi ?_
 obtain⟨Ik,hx29,h⟩:=ah h
 refine s1 (H7 [3] rfl (B8 hx29) (fA (ao _) (fAG (ao _) (fA (ao _) (fA (ao _) fAn)))) (vC rfl wVn) wLn (rvC rvN) rfl rfl) ?_
 refine nbi hK ?_
 refine AW.seq ?_
 obtain⟨y,hy,h⟩:=ah h
 refine jn ((PE cx .normal (fun (Ga,Kd)=>[(4,.pt 0 0),(5,.pt 1 0),(6,dI .i64 x1),(10,dI .i64 lh),(11,.pt 2 0),(15,.pt 3 0),(16,dI .i64 gv),(17,dI .u64 Ga)]) fun (Ga,Kd)=>⟨[(0,dC (al_cV.f B2)),(1,dC (al_cV.f (cQ))),(2,dC (al_cV.f ua.1)),(3,dC ((cA 17 (cI .u32)).f Kd))],[],4⟩) y) ?_ ?_
 replace h:=hy
 refine rs hx fun K hK=>?_
 iterate 4 refine sbi ?_
 obtain⟨Mu,hx31,h⟩:=ah h
 refine s1 (H7 [3] rfl (CN hx31) (fA (ao _) (fAG (ao _) (fA (ao _) (fA (ao _) (fA (ao _) fAn))))) (vC rfl wVn) wLn (rvC rvN) rfl rfl) ?_
 refine nl hK ?_
 refine cdh h rfl (fun xF h=>?_) (fun xF h=>?_)
 refine ra hx ?_
 refine rq hx fun K hK=>?_
 iterate 3 refine sbi ?_
 obtain⟨Aq,GW,h⟩:=ah h
 refine s1 (H7 [3] rfl (CO GW) (fA (ao _) (fAG (ao _) (fA (ao _) (fA (ao _) fAn)))) (vC rfl wVn) wLn (rvC rvN) rfl rfl) ?_
 refine nl hK ?_
 exact pe1 h h0 [0,1,2,3]
 exact AW.skip (pe1 h h0 [0,1,2,3])
 obtain⟨Ga,Kd⟩:=y
 refine lw0 ?_
 refine rq hx fun K hK=>?_
 iterate 3 refine sa ?_
 obtain⟨Ot,h⟩:=am h
 have QJ:(gv).toNat<16:=by omega
 refine sbi ?_
 refine s0 (ig (b':=u32.wrap (Ga)) (aX.comp (aX.id _ _) (aX.vec (cI .u32) B2 (gv).toNat QJ) (fun _=>rfl)) bX) ?_
 refine nl hK ?_
 refine rb hx ?_
 exact pel h h0 [0,1,2,3]
 exact AW.exit (per h h0 [0,1,3])
 obtain⟨Aa,vq⟩:=y
 refine lw0 ?_
 refine rsd [169] hx fun K hK=>?_
 refine sbi ?_
 refine q1 (slA (n:=17) (l:=(0:Int)) (h:=(16:Int)) tok (by decide) CW bX rfl ⟨_,rfl⟩) ?_
 refine q1 (sPtr tok rfl da) ?_
 refine s1 (d:=dG al_cV (vOf 16 (List.take 16 (List.drop 0 (vq).toList)))) (nq (aX.sub (o:=0) 16 (cI .u32) vq 0 (by decide) (by first|rfl|decide)) da) ?_
 refine sa ?_
 obtain⟨NK,hx40,h⟩:=ah h
 refine sq tok (Gq hx40) (by simp only[fx,i2,nZ,rW,j7,mf];exact⟨dH _ _,rfl⟩) (lA (tS _ _) (lA (ao _) lAn)) (.inl (lL _ _)) ?_
 refine nbi hK ?_
 refine AW.ret ?_
 cases h
 exact rv2
def rl(bS:ap):Option ap:=bnd (dM [bS]) fun x1=>cnd (!x1) (bnd (eL) fun x4=>some x4) (bnd (bO false bS.vW) fun x6=>some x6)
theorem Iy {bS:ap}{r:ap}(h:rl bS=some r):ax prog 131 [dG az bS] (dG az r):=by
 refine bn (rs:=[.cell 2 32]) (fun cx hx h0=>?_) func131
 unfold rl at h
 refine rai hx ?_
 refine AW.seq (rs hx fun K hK=>?_)
 refine sbi ?_
 refine s1 (s8 ([bS]:List ap) az tQ iO) ?_
 refine scb h ij fun x1 h=>?_
 refine nbi hK ?_
 refine cdh h rfl (fun cj h=>?_) (fun cj h=>?_)
 refine rs hx fun K hK=>?_
 refine scb h iz fun x4 h=>?_
 refine nbi hK ?_
 exact AW.ret (rtv h)
 refine AW.skip (rs hx fun K hK=>?_)
 refine mbi ?_
 refine scb h dW fun x6 h=>?_
 refine nbi hK ?_
 exact AW.ret (rtv h)
def ji :Int×Int→Option ((Int×Int)⊕Int):=fun (bz,nk)=>cnd (decide (nk≠(0:Int))) (gd (nk≠0) (some (.inl (nk,Int.tmod bz nk)))) (some (.inr bz))
def cT(MG:ap→ap→Option ap)(a6:ap)(aZ:ap):Option ap:=bnd (dM [a6,aZ]) fun x1=>cnd (!x1) (bnd (eL) fun x4=>some x4) (bnd (S:=Bool) (bnd (eU a6.vW) fun x6=>cnd (decide (x6≤(2:Int))) (bnd (eU aZ.vW) fun x9=>some (decide (x9≤(2:Int)))) (some (false))) fun pi=>cnd pi (bnd (some (ior .u64 (yB .u64 (u64.wrap ((a6.vW)[((1:Int)).toNat]!)) (32:Int)) (u64.wrap ((a6.vW)[((0:Int)).toNat]!)))) fun pk=>bnd (some (ior .u64 (yB .u64 (u64.wrap ((aZ.vW)[((1:Int)).toNat]!)) (32:Int)) (u64.wrap ((aZ.vW)[((0:Int)).toNat]!)))) fun uK=>bnd (aK (ji) (pk,uK)) fun eY=>bnd (bO false (#v[u32.wrap (eY),u32.wrap (mX .u64 eY (32:Int)),0,0,0,0,0,0,0,0,0,0,0,0,0,0])) fun zg=>some zg) (cnd (decide (¬(aZ.vW=#v[(0:Int),0,0,0,0,0,0,0,0,0,0,0,0,0,0,0]))) (bnd (gl a6.vW aZ.vW) fun yo=>bnd (bO false aZ.vW) fun uJ=>bnd (bO false yo.2) fun Gn=>bnd (MG uJ Gn) fun Aq=>some Aq) (bnd (rl a6) fun KA=>some KA)))
theorem ET {MG:ap→ap→Option ap}(ih:∀{a6:ap} {aZ:ap} {r:ap},MG a6 aZ=some r→ax prog 93 [dG az a6,dG az aZ] (dG az r)){a6:ap}{aZ:ap}{r:ap}(h:cT MG a6 aZ=some r):ax prog 93 [dG az a6,dG az aZ] (dG az r):=by
 refine bn (rs:=[.cell 4 32]) (fun cx hx h0=>?_) func93
 unfold cT at h
 refine rai hx ?_
 refine AW.seq (rs hx fun K hK=>?_)
 iterate 2 refine sbi ?_
 refine s1 (s8 ([a6,aZ]:List ap) az tQ iO) ?_
 refine scb h ij fun x1 h=>?_
 refine nbi hK ?_
 refine cdh h rfl (fun cj h=>?_) (fun cj h=>?_)
 refine rs hx fun K hK=>?_
 refine scb h iz fun x4 h=>?_
 refine nbi hK ?_
 exact AW.ret (rtv h)
 refine AW.skip ?_
 iterate 2 refine AW.seq ?_
 obtain⟨pi,hy,h⟩:=ah h
 refine jn ((PE cx .normal (fun pi=>[(2,.pt 0 0),(3,.pt 1 0),(4,.pt 2 0),(26,dB pi)]) fun pi=>⟨[(0,dC (az.f a6)),(1,dC (az.f aZ)),(2,dC (az.f cE))],[],3⟩) pi) ?_ ?_
 replace h:=hy
 refine rq hx fun K hK=>?_
 refine mbi ?_
 refine scb h lD fun x6 h=>?_
 refine mbi ?_
 rcases bE h with⟨Bd,h⟩|⟨Bd,h⟩
 refine ga Bd ?_
 refine gbi ?_
 refine gcb h lD fun x9 h=>?_
 refine nbi hK ?_
 exact pe1 h h0 [0,1,2]
 refine nbi hK ?_
 exact pe1 h h0 [0,1,2]
 refine lw0 ?_
 refine cdh h rfl (fun wB h=>?_) (fun wB h=>?_)
 refine rsd [] hx fun K hK=>?_
 refine sa ?_
 refine s1 (vU (by decide:0≤(1:Int)∧(1:Int)<((16:Nat):Int)) da bX) ?_
 iterate 4 refine sbi ?_
 refine s1 (vU (by decide:0≤(0:Int)∧(0:Int)<((16:Nat):Int)) da bX) ?_
 iterate 4 refine sbi ?_
 refine s1 (vU (by decide:0≤(1:Int)∧(1:Int)<((16:Nat):Int)) da bX) ?_
 iterate 4 refine sbi ?_
 refine s1 (vU (by decide:0≤(0:Int)∧(0:Int)<((16:Nat):Int)) da bX) ?_
 iterate 3 refine sbi ?_
 obtain⟨pk,yC,h⟩:=ah h
 replace yC:=d5 yC
 refine s2 (d2:=dI .u64 pk) mi (gD (congrArg (dI .u64) yC)) ?_
 obtain⟨uK,Qp,h⟩:=ah h
 replace Qp:=d5 Qp
 refine s2 (d2:=dI .u64 uK) mi (gD (congrArg (dI .u64) Qp)) ?_
 refine nl hK ?_
 refine AW.seq (AW.block ?_)
 obtain⟨eY,hy,h⟩:=ah h
 refine lp (S:=Int×Int) (X:=Int) (fun (bz,nk)=>[(4,.pt 0 0),(5,dI .u64 bz),(6,dI .u64 nk)]) (fun (bz,nk)=>⟨[(0,dC (az.f cE))],[],1⟩) (PE cx (.exit 0) (fun eY=>[(4,.pt 0 0),(5,dI .u64 eY)]) fun eY=>⟨[(0,dC (az.f cE))],[],1⟩) hy ?_ ?_ ?_
 exact wk0 h0 [2]
 clear hy h
 rintro⟨bz,nk⟩ y h
 dsimp only[ji] at h
 refine AW.seq (ra hx ?_)
 refine cdh h rfl (fun He h=>?_) (fun He h=>?_)
 refine AW.skip (AW.block (rqd [] hx fun K hK=>?_))
 iterate 3 refine sa ?_
 obtain⟨Jx,h⟩:=am h
 refine s1 (Eu Jx) ?_
 refine nbi hK ?_
 exact pel h h0 [0]
 exact AW.exit (per h h0 [0])
 refine lw0 ?_
 refine rs hx fun K hK=>?_
 iterate 5 refine sa ?_
 refine s1 (d:=dG al_cV (#v[u32.wrap (eY),u32.wrap (mX .u64 eY (32:Int)),0,0,0,0,0,0,0,0,0,0,0,0,0,0])) (nt da bX) ?_
 refine scb h dW fun zg h=>?_
 refine nbi hK ?_
 exact AW.ret (rtv h)
 refine AW.skip ?_
 iterate 2 refine AW.seq ?_
 refine jn (PE cx .normal (fun (_:Unit)=>[(2,.pt 0 0),(4,.pt 1 0),(7,.pt 2 0),(8,.pt 3 0)]) (fun (_:Unit)=>⟨[(0,dC (az.f a6)),(1,dC (az.f cE)),(2,dC (al_cV.f a6.vW)),(3,dC (al_cV.f aZ.vW))],[],4⟩) ()) ?_ ?_
 refine dw (DW.split 4 5 (by decide) ?_ ?_)
 refine DW.split 3 6 (by decide) ?_ ?_
 refine dwg [] [0,1,2,3,4,5,6,7] hx (by kernel_rfl) (by kernel_rfl) (by kernel_rfl) fun K hK=>?_
 dsimp only[dt,lf,li,List.map]
 iterate 6 refine sbi ?_
 iterate 2 refine tzi ?_
 exact .nil (hK _ _ (pe0 h0 [0,2,3,4]))
 refine dwg [] [0,1,2,4,5,6,3,7] hx (by kernel_rfl) (by kernel_rfl) (by kernel_rfl) fun K hK=>?_
 dsimp only[dt,lf,li,List.map]
 iterate 5 refine sbi ?_
 refine tzi ?_
 refine sbi ?_
 refine tzi ?_
 exact .nil (hK _ _ (pe0 h0 [0,2,3,4]))
 refine DW.split 3 6 (by decide) ?_ ?_
 refine dwg [] [0,1,2,3,5,4,6,7] hx (by kernel_rfl) (by kernel_rfl) (by kernel_rfl) fun K hK=>?_
 dsimp only[dt,lf,li,List.map]
 iterate 6 refine sbi ?_
 iterate 2 refine tzi ?_
 exact .nil (hK _ _ (pe0 h0 [0,2,4,3]))
 refine dwg [] [0,1,2,5,4,6,3,7] hx (by kernel_rfl) (by kernel_rfl) (by kernel_rfl) fun K hK=>?_
 dsimp only[dt,lf,li,List.map]
 iterate 5 refine sbi ?_
 refine tzi ?_
 refine sbi ?_
 refine tzi ?_
 exact .nil (hK _ _ (pe0 h0 [0,2,4,3]))
 refine lw0 ?_
 refine rs hx fun K hK=>?_
 refine sbi ?_
 refine s1 (d:=dG al_cV (#v[(0:Int),0,0,0,0,0,0,0,0,0,0,0,0,0,0,0])) (nt da bX) ?_
 refine s1 (wY tok 2 (by decide) (EqC.arr (EqC.int (d:=0) bX) da bX) da) ?_
 refine nl hK ?_
 refine cdh h rfl (fun Lu h=>?_) (fun Lu h=>?_)
 refine rs hx fun K hK=>?_
 refine mbi ?_
 refine scb h uf fun yo h=>?_
 refine nbi hK ?_
 refine rsd [111,93] hx fun K hK=>?_
 refine mbi ?_
 refine cqb h dW fun uJ h=>?_
 refine mbi ?_
 refine cqb h dW fun Gn h=>?_
 refine cqb h ih fun Aq h=>?_
 refine nbi hK ?_
 exact AW.ret (rtv h)
 refine AW.skip (rs hx fun K hK=>?_)
 refine mbi ?_
 refine scb h Iy fun KA h=>?_
 refine nbi hK ?_
 exact AW.ret (rtv h)
def iC:Nat→ap→ap→Option ap
 |0=>fun _ _=>none
 |n+1=>cT (iC n)
theorem xM:∀(n:Nat) {a6:ap} {aZ:ap} {r:ap},iC n a6 aZ=some r→ax prog 93 [dG az a6,dG az aZ] (dG az r)
 |0,_,_,_,h=>by cases h
 |n+1,_,_,_,h=>ET (xM n) h
def oU(a6:ap)(aZ:ap):Option ap:=iC 1000 a6 aZ
theorem wa {a6:ap}{aZ:ap}{r:ap}(h:oU a6 aZ=some r):ax prog 93 [dG az a6,dG az aZ] (dG az r):=xM 1000 h
def l6(a6:ap)(aZ:ap):Option (ap×ap):=bnd (S:=Bool) (bnd (dM [a6,aZ]) fun x1=>cnd (!x1) (some (true)) (bnd (ir aZ) fun x4=>some (decide (x4=(0:Int))))) fun a8=>cnd a8 (bnd (eL) fun x8=>bnd (eL) fun iM=>some (x8,iM)) (bnd (S:=Unit⊕(ap×ap)) (bnd (mn a6) fun jW=>bnd (S:=Bool) (cnd jW.2 (some (decide (jW.1≠(-9223372036854775808:Int)))) (some (false))) fun bk=>cnd bk (bnd (mn aZ) fun pk=>bnd (S:=Bool) (cnd pk.2 (some (decide (pk.1≠(-9223372036854775808:Int)))) (some (false))) fun ph=>cnd ph (gd (pk.1≠0) (gd (pk.1≠0) (bnd (S:=Int×Int) (bnd (S:=Bool) (cnd (decide ((Int.tmod jW.1 pk.1)≠(0:Int))) (some (!((decide ((Int.tmod jW.1 pk.1)<(0:Int))) == (decide (pk.1<(0:Int)))))) (some (false))) fun aY=>cnd aY (bnd (some (i64.wrap ((i64.wrap (Int.tdiv jW.1 pk.1)) - (1:Int)))) fun yo=>bnd (some (i64.wrap ((Int.tmod jW.1 pk.1)+pk.1))) fun uJ=>some ((yo,uJ))) (some ((i64.wrap (Int.tdiv jW.1 pk.1),Int.tmod jW.1 pk.1)))) fun (cc,jb)=>bnd (fE cc) fun zf=>bnd (fE jb) fun Ij=>some (.inr (zf,Ij))))) (some (.inl ()))) (some (.inl ()))) fun y36=>match y36 with| .inl ()=>bnd (gl a6.vW aZ.vW) fun Cs=>bnd (bO (!(a6.vNeg == aZ.vNeg)) Cs.1) fun NK=>bnd (S:=(Vector Int 16)×ap) (bnd (S:=Bool) (cnd (decide (¬(Cs.2=#v[(0:Int),0,0,0,0,0,0,0,0,0,0,0,0,0,0,0]))) (some (!(a6.vNeg == aZ.vNeg))) (some (false))) fun f9=>cnd f9 (bnd (fE (1:Int)) fun x44=>bnd (oT NK x44) fun x46=>bnd (iB aZ.vW Cs.2) fun x48=>some ((x48,x46))) (some ((Cs.2,NK)))) fun (En,Em)=>bnd (bO aZ.vNeg En) fun x51=>some (Em,x51)| .inr r=>some r)
theorem B9 {a6:ap}{aZ:ap}{r:ap×ap}(h:l6 a6 aZ=some r):ax prog 159 [dG az a6,dG az aZ] (.tu [dG az r.1,dG az r.2]):=by
 refine bn (rs:=[.cell 4 32,.cell 5 32]) (fun cx hx h0=>?_) func159
 unfold l6 at h
 refine rai hx ?_
 iterate 2 refine AW.seq ?_
 obtain⟨a8,hy,h⟩:=ah h
 refine jn ((PE cx .normal (fun a8=>[(2,.pt 0 0),(3,.pt 1 0),(4,.pt 2 0),(5,.pt 3 0),(24,dB a8)]) fun a8=>⟨[(0,dC (az.f a6)),(1,dC (az.f aZ)),(2,dC (az.f cE)),(3,dC (az.f cE))],[],4⟩) a8) ?_ ?_
 replace h:=hy
 refine rq hx fun K hK=>?_
 iterate 2 refine sbi ?_
 refine s1 (s8 ([a6,aZ]:List ap) az tQ iO) ?_
 refine scb h ij fun x1 h=>?_
 refine mbi ?_
 rcases bE h with⟨cj,h⟩|⟨cj,h⟩
 refine nbi hK ?_
 exact pe1 h h0 [0,1,2,3]
 refine gbi ?_
 refine gcb h po fun x4 h=>?_
 refine nbi hK ?_
 exact pe1 h h0 [0,1,2,3]
 refine lw0 ?_
 refine cdh h rfl (fun tX h=>?_) (fun tX h=>?_)
 refine rs hx fun K hK=>?_
 refine scb h iz fun x8 h=>?_
 refine scb h iz fun iM h=>?_
 refine nbi hK ?_
 refine AW.ret ?_
 cases h
 exact rv2
 refine AW.skip (AW.seq ?_)
 obtain⟨y,hy,h⟩:=ah h
 refine jn ((PS (PE cx .normal (fun ()=>[(2,.pt 0 0),(3,.pt 1 0),(4,.pt 2 0),(5,.pt 3 0)]) fun ()=>⟨[(0,dC (az.f a6)),(1,dC (az.f aZ)),(2,dC (az.f cE)),(3,dC (az.f cE))],[],4⟩) (PR [.cell 4 32,.cell 5 32] fun r=>.tu [dG az r.1,dG az r.2])) y) ?_ ?_
 replace h:=hy
 refine rs hx fun K hK=>?_
 refine mbi ?_
 refine scb h xL fun jW h=>?_
 refine nbi hK ?_
 refine AW.seq ?_
 obtain⟨bk,hy,h⟩:=ah h
 refine jn ((PE cx .normal (fun bk=>[(2,.pt 0 0),(3,.pt 1 0),(4,.pt 2 0),(5,.pt 3 0),(6,dI .i64 jW.1),(36,dB bk)]) fun bk=>⟨[(0,dC (az.f a6)),(1,dC (az.f aZ)),(2,dC (az.f cE)),(3,dC (az.f cE))],[],4⟩) bk) ?_ ?_
 replace h:=hy
 refine rq hx fun K hK=>?_
 refine mbi ?_
 rcases bE h with⟨u7,h⟩|⟨u7,h⟩
 refine nbi hK ?_
 exact pe1 h h0 [0,1,2,3]
 refine nbi hK ?_
 exact pe1 h h0 [0,1,2,3]
 refine lw0 ?_
 refine cdh h rfl (fun DB h=>?_) (fun DB h=>?_)
 refine rs hx fun K hK=>?_
 refine mbi ?_
 refine scb h xL fun pk h=>?_
 refine nbi hK ?_
 refine AW.seq ?_
 obtain⟨ph,hy,h⟩:=ah h
 refine jn ((PE cx .normal (fun ph=>[(2,.pt 0 0),(3,.pt 1 0),(4,.pt 2 0),(5,.pt 3 0),(6,dI .i64 jW.1),(8,dI .i64 pk.1),(46,dB ph)]) fun ph=>⟨[(0,dC (az.f a6)),(1,dC (az.f aZ)),(2,dC (az.f cE)),(3,dC (az.f cE))],[],4⟩) ph) ?_ ?_
 replace h:=hy
 refine rq hx fun K hK=>?_
 refine mbi ?_
 rcases bE h with⟨Hf,h⟩|⟨Hf,h⟩
 refine nbi hK ?_
 exact pe1 h h0 [0,1,2,3]
 refine nbi hK ?_
 exact pe1 h h0 [0,1,2,3]
 refine lw0 ?_
 refine cdh h rfl (fun He h=>?_) (fun He h=>?_)
 refine rsd [] hx fun K hK=>?_
 iterate 2 refine sa ?_
 obtain⟨Jx,h⟩:=am h
 refine s1 (Gj Jx) ?_
 iterate 2 refine sa ?_
 obtain⟨Fd,h⟩:=am h
 refine s1 (Eu Fd) ?_
 refine nbi hK ?_
 refine AW.seq ?_
 obtain⟨y,hy,h⟩:=ah h
 refine jn ((PE cx .normal (fun (cc,jb)=>[(4,.pt 0 0),(5,.pt 1 0),(10,dI .i64 cc),(11,dI .i64 jb)]) fun (cc,jb)=>⟨[(0,dC (az.f cE)),(1,dC (az.f cE))],[],2⟩) y) ?_ ?_
 replace h:=hy
 refine AW.seq ?_
 obtain⟨aY,hy,h⟩:=ah h
 refine jn ((PE cx .normal (fun aY=>[(4,.pt 0 0),(5,.pt 1 0),(8,dI .i64 pk.1),(10,dI .i64 (i64.wrap (Int.tdiv jW.1 pk.1))),(11,dI .i64 (Int.tmod jW.1 pk.1)),(61,dB aY)]) fun aY=>⟨[(0,dC (az.f cE)),(1,dC (az.f cE))],[],2⟩) aY) ?_ ?_
 replace h:=hy
 refine rq hx fun K hK=>?_
 refine mbi ?_
 rcases bE h with⟨tY,h⟩|⟨tY,h⟩
 refine nbi hK ?_
 exact pe1 h h0 [2,3]
 refine nbi hK ?_
 exact pe1 h h0 [2,3]
 refine lw0 ?_
 refine cdh h rfl (fun Lu h=>?_) (fun Lu h=>?_)
 refine rq hx fun K hK=>?_
 iterate 5 refine sa ?_
 obtain⟨yo,K3,h⟩:=ah h
 replace K3:=d5 K3
 refine s2 (d2:=dI .i64 yo) mi (gD (congrArg (dI .i64) K3)) ?_
 obtain⟨uJ,hx30,h⟩:=ah h
 replace hx30:=d5 hx30
 refine s2 (d2:=dI .i64 uJ) mi (gD (congrArg (dI .i64) hx30)) ?_
 refine nl hK ?_
 exact pe1 h h0 [0,1]
 exact AW.skip (pe1 h h0 [0,1])
 obtain⟨cc,jb⟩:=y
 refine lw0 ?_
 refine rs hx fun K hK=>?_
 refine sa ?_
 refine scb h oA fun zf h=>?_
 refine sa ?_
 refine scb h oA fun Ij h=>?_
 refine nbi hK ?_
 refine AW.ret ?_
 cases h
 refine PS.r (PR.i ?_)
 exact rv2
 exact AW.skip (pel h h0 [0,1,2,3])
 exact AW.skip (pel h h0 [0,1,2,3])
 rcases y with⟨⟩|r
 rintro ex tm' hp' ⟨rfl,hw⟩
 refine AW.weak hw (rs hx fun K hK=>?_)
 refine mbi ?_
 refine scb h uf fun Cs h=>?_
 refine nbi hK ?_
 refine rs hx fun K hK=>?_
 refine mbi ?_
 refine scb h dW fun NK h=>?_
 refine nbi hK ?_
 refine AW.seq ?_
 obtain⟨y,hy,h⟩:=ah h
 refine jn ((PE cx .normal (fun (En,Em)=>[(3,.pt 0 0),(4,.pt 1 0),(5,.pt 2 0),(13,.pt 3 0),(14,.pt 4 0)]) fun (En,Em)=>⟨[(0,dC (az.f aZ)),(1,dC (az.f cE)),(2,dC (az.f cE)),(3,dC (al_cV.f En)),(4,dC (az.f Em))],[],5⟩) y) ?_ ?_
 replace h:=hy
 refine AW.seq ?_
 obtain⟨f9,hy,h⟩:=ah h
 refine jn ((PE cx .normal (fun f9=>[(3,.pt 0 0),(4,.pt 1 0),(5,.pt 2 0),(13,.pt 3 0),(14,.pt 4 0),(95,dB f9)]) fun f9=>⟨[(0,dC (az.f aZ)),(1,dC (az.f cE)),(2,dC (az.f cE)),(3,dC (al_cV.f Cs.2)),(4,dC (az.f NK))],[],5⟩) f9) ?_ ?_
 replace h:=hy
 refine rq hx fun K hK=>?_
 refine sbi ?_
 refine s1 (d:=dG al_cV (#v[(0:Int),0,0,0,0,0,0,0,0,0,0,0,0,0,0,0])) (nt da bX) ?_
 refine s1 (wY tok 2 (by decide) (EqC.arr (EqC.int (d:=0) bX) da bX) da) ?_
 refine sa ?_
 rcases bE h with⟨Ha,h⟩|⟨Ha,h⟩
 refine nbi hK ?_
 exact pe1 h h0 [1,2,3,5,6]
 refine nbi hK ?_
 exact pe1 h h0 [1,2,3,5,6]
 refine lw0 ?_
 refine cdh h rfl (fun Dz h=>?_) (fun Dz h=>?_)
 refine rqd [105,177,162] hx fun K hK=>?_
 refine mbi ?_
 refine cqb h oA fun x44 h=>?_
 refine cqb h Ix fun x46 h=>?_
 refine mbi ?_
 refine cqb h tP fun x48 h=>?_
 refine nbi hK ?_
 exact pe1 h h0 [0,1,2,3,4]
 exact AW.skip (pe1 h h0 [0,1,2,3,4])
 obtain⟨En,Em⟩:=y
 refine lw0 ?_
 refine rsd [111] hx fun K hK=>?_
 refine mbi ?_
 refine cqb h dW fun x51 h=>?_
 refine nbi hK ?_
 refine AW.ret ?_
 cases h
 exact rv2
 rintro ex tm' hp' ⟨rfl,hw⟩
 cases h
 exact hw
def ls(a6:ap)(aZ:ap):Option ap:=bnd (l6 a6 aZ) fun x1=>some x1.1
theorem oM {a6:ap}{aZ:ap}{r:ap}(h:ls a6 aZ=some r):ax prog 126 [dG az a6,dG az aZ] (dG az r):=by
 refine bn (rs:=[.cell 4 32]) (fun cx hx h0=>?_) func126
 unfold ls at h
 refine rai hx ?_
 refine rs hx fun K hK=>?_
 refine mbi ?_
 refine scb h B9 fun x1 h=>?_
 refine nbi hK ?_
 refine rai hx ?_
 exact AW.ret (rtv h)
section
theorem vsub {b n A:Nat}(m o:Nat)(h:o+m≤n):vOf m (List.take m (List.drop o (vN b n A).toList))=vN b m (A / b ^ o):=by
 have hl:(List.take m (List.drop o (vN b n A).toList)).length=m:=by
  rw[e6,ie,sY];omega
 apply pB
 intro j hj
 rw[jX hj]
 have e1:=zw (vOf m (List.take m (List.drop o (vN b n A).toList))) hj
 rw[yu hl] at e1
 rw[←e1,f7 _ j (by omega),List.getElem_take,List.getElem_drop]
 have e2:=jX (b:=b) (A:=A) (j:=o+j) (n:=n) (by omega)
 rw[←zw (vN b n A) (by omega),f7 _ (o+j) (by rw[sY];omega)] at e2
 rw[e2]
 unfold dg
 rw[me,mc]
section
variable {b R a B i k:Nat}
def td(b R a B i k:Nat):Nat:=R % b ^ (i+k)+a*(B % b ^ k)*b ^ i
def yY(b R a B i k:Nat):Nat:=R / b ^ (i+k)*b ^ (i+k)+td b R a B i k % b ^ (i+k)
theorem Gl:td b R a B i (k+1)=td b R a B i k+b ^ (i+k)*(dg b R (i+k)+a*dg b B k):=by
 unfold td
 rw[show i+(k+1)=i+k+1 from rfl,g7,g7 (A:=B),z4,z4,bZ,me b i k]
 have:a*(b ^ k*dg b B k)*b ^ i=b ^ i*b ^ k*(a*dg b B k):=by
  simp only[i1,F5,cC]
 rw[this];omega
theorem Nx(hb:0<b)(ha:a<b):td b R a B i k / b ^ (i+k)<b:=by
 have hp:0<b ^ (i+k):=dE hb
 rw[qv hp]
 unfold td
 have h1:=ep R hp
 have h2:a*(B % b ^ k)*b ^ i≤(b - 1)*b ^ (i+k):=by
  rw[me,i1]
  refine ja (by omega) ?_
  rw[cC (b ^ i)]
  exact bJ _ (pX (ep _ (dE hb)))
 have h3:(b - 1)*b ^ (i+k)+b ^ (i+k)=b*b ^ (i+k):=by
  rw[←jS];congr 1;omega
 omega
theorem Orow_dg(hb:0<b):dg b (yY b R a B i k) (i+k)=dg b R (i+k):=by
 unfold yY dg
 rw[cC (R / _),DV (dE hb),gO (ep _ (dE hb)),mK]
theorem OT(hb:0<b):up1 b (yY b R a B i k) (i+k) (td b R a B i (k+1) / b ^ (i+k) % b)=yY b R a B i (k+1):=by
 have hp:0<b ^ (i+k):=dE hb
 have e1:yY b R a B i k / b ^ (i+k+1)=R / b ^ (i+k+1):=by
  rw[eZ,←mc,←mc]
  congr 1
  unfold yY
  rw[cC (R / _),DV hp,gO (ep _ hp),mK]
 have e2:yY b R a B i k % b ^ (i+k)=td b R a B i (k+1) % b ^ (i+k):=by
  rw[Gl,F4]
  unfold yY
  rw[cC (R / _),Nat.mul_add_mod,F3]
 unfold up1
 rw[e1,e2]
 show _=R / b ^ (i+k+1)*b ^ (i+k+1)+td b R a B i (k+1) % b ^ (i+k+1)
 rw[g7 (A:=td b R a B i (k+1)),cC (b ^ (i+k)) (dg _ _ _)]
 unfold dg
 omega
end
theorem Mul_row {A B i m:Nat}(hi:i<16)(hm:m≤16)(hB:B<4294967296 ^ m)(x y:ap)(hx:x.vW=W A)(hy:y.vW=W B):
  ∃c:Nat,c<4294967296∧∃O:Nat,aK (jg x y (m:Int) (i:Int)) ((0:Int),(0:Int),vN 4294967296 32 (A % 4294967296 ^ i*B))=some ((c:Int),vN 4294967296 32 O)∧up1 4294967296 O (i+m) c=A % 4294967296 ^ (i+1)*B:=by
 have hb:0<(4294967296:Nat):=by decide
 have hR:A % 4294967296 ^ i*B<4294967296 ^ (i+m):=by
  rw[me]
  exact Nat.mul_lt_mul_of_lt_of_le (ep _ (dE hb)) (pX hB) (dE hb)
 generalize hRR:A % 4294967296 ^ i*B=R at hR ⊢
 have ha:=@dgl A i
 have hl:=sL (b:=jg x y (m:Int) (i:Int)) (s0:=((0:Int),(0:Int),vN 4294967296 32 R)) (fun k=>((td 4294967296 R (dg 4294967296 A i) B i k / 4294967296 ^ (i+k):Nat),(k:Int),vN 4294967296 32 (yY 4294967296 R (dg 4294967296 A i) B i k))) m ((td 4294967296 R (dg 4294967296 A i) B i m / 4294967296 ^ (i+m):Nat),vN 4294967296 32 (yY 4294967296 R (dg 4294967296 A i) B i m))
  (by
   have e1:td 4294967296 R (dg 4294967296 A i) B i 0=R % 4294967296 ^ i:=by unfold td;simp[rV]
   have e2:yY 4294967296 R (dg 4294967296 A i) B i 0=R:=by
    unfold yY;rw[e1,mK,F3,cC];exact pW _ _
   rw[e1,e2,mK,gO (ep _ (dE hb))]
   rfl)
  (fun k hk=>by
   have hk16:k<16:=by omega
   have hc:=Nx (b:=4294967296) (R:=R) (a:=dg 4294967296 A i) (B:=B) (i:=i) (k:=k) hb ha
   have hbk:=@dgl B k
   have hr:=@dgl R (i+k)
   have MT:dg 4294967296 A i*dg 4294967296 B k≤4294967295*4294967295:=ja (by omega) (by omega)
   have E7:td 4294967296 R (dg 4294967296 A i) B i (k+1) / 4294967296 ^ (i+k)=td 4294967296 R (dg 4294967296 A i) B i k / 4294967296 ^ (i+k)+(dg 4294967296 A i*dg 4294967296 B k+dg 4294967296 R (i+k)):=by
    rw[Gl,DU _ _ (dE hb),rz (dg 4294967296 R (i+k))]
   have Cf:td 4294967296 R (dg 4294967296 A i) B i (k+1) / 4294967296 ^ (i+(k+1))=td 4294967296 R (dg 4294967296 A i) B i (k+1) / 4294967296 ^ (i+k) / 4294967296:=by
    rw[mc,←eZ];rfl
   have ub:=OT (b:=4294967296) (R:=R) (a:=dg 4294967296 A i) (B:=B) (i:=i) (k:=k) hb
   rw[Cf]
   generalize td 4294967296 R (dg 4294967296 A i) B i (k+1) / 4294967296 ^ (i+k)=x1 at E7 ub ⊢
   generalize td 4294967296 R (dg 4294967296 A i) B i k / 4294967296 ^ (i+k)=c at E7 hc ⊢
   have eik:i64.wrap ((i:Int)+(k:Int))=((i+k:Nat):Int):=by rw[cg];omega
   dsimp only[jg]
   rw[bb _ _,aB,aB,eik,aB,ab,aB,ab,aJ,aJ,aJ,hx,hy,gX hi,gX hk16,jX (by omega),Orow_dg hb,
    iJ (n:=dg 4294967296 A i) (by omega),iJ (n:=dg 4294967296 B k) (by omega),iJ (n:=dg 4294967296 R (i+k)) (by omega),←ry,iJ (n:=dg 4294967296 A i*dg 4294967296 B k) (by omega),←pf,iJ,←pf,iJ,←E7,xP,AF,AC hb (ep _ hb) (by omega),ub,cg]
   rfl)
  (by
   dsimp only[jg]
   rw[a7 _ _])
 refine⟨_,Nx hb ha,_,hl,?_⟩
 have e1:td 4294967296 R (dg 4294967296 A i) B i m=R+dg 4294967296 A i*B*4294967296 ^ i:=by
  unfold td;rw[gW hR,gW hB]
 have e2:yY 4294967296 R (dg 4294967296 A i) B i m=td 4294967296 R (dg 4294967296 A i) B i m % 4294967296 ^ (i+m):=by
  unfold yY;rw[gO hR,fP,bB]
 have hO:yY 4294967296 R (dg 4294967296 A i) B i m<4294967296 ^ (i+m):=by rw[e2];exact ep _ (dE hb)
 unfold up1
 rw[gO (bU hO (nY hb (gN _))),fP,bB,gW hO,e2,cC (_ / _),pW,e1,←hRR,g7 (A:=A),bZ]
 congr 1
 simp only[i1,F5,cC]
theorem SL {A B n m:Nat}(hn:n≤16)(hm:m≤16)(hA:A<4294967296 ^ n)(hB:B<4294967296 ^ m)(x y:ap)(hx:x.vW=W A)(hy:y.vW=W B):
  aK (jh x y (n:Int) (m:Int)) ((0:Int),Vector.replicate 32 (0:Int))=some (vN 4294967296 32 (A*B)):=by
 have hb:0<(4294967296:Nat):=by decide
 have hl:=sL (b:=jh x y (n:Int) (m:Int)) (s0:=((0:Int),Vector.replicate 32 (0:Int))) (fun i=>((i:Int),vN 4294967296 32 (A % 4294967296 ^ i*B))) n (vN 4294967296 32 (A % 4294967296 ^ n*B))
  (by simp only[kX,rV,fP,tp];rfl)
  (fun i hi=>by
   obtain⟨c,hc,O,h1,h2⟩:=Mul_row (i:=i) (by omega) hm hB x y hx hy
   have eim:i64.wrap ((i:Int)+(m:Int))=((i+m:Nat):Int):=by rw[cg];omega
   dsimp only[jh]
   rw[bb _ _,h1,ab]
   dsimp only
   rw[eim,aB,ab,aJ,AE hc,AC hb hc (by omega),h2,cg]
   rfl)
  (by
   dsimp only[jh]
   rw[a7 _ _])
 rw[hl,gW hA]
theorem Kr {a c:Int}(ha:a.natAbs<LIM)(hc:c.natAbs<LIM):jA (enc a) (enc c)=some (enc (a*c)):=by
 obtain⟨n,hn,O2,Le⟩:=BB ha
 obtain⟨m,hm,Ol,hm2⟩:=BB hc
 have MT:a.natAbs*c.natAbs<4294967296 ^ 16*4294967296 ^ 16:=DT ha hc
 unfold jA
 rw[vy,bg ha,bg hc,ab]
 simp only[j7,eH,aL]
 rw[nX ha,nX hc,O2,ab,Ol,ab,SL hn hm Le.1 hm2.1 (enc a) (enc c) (nX ha) (nX hc),ab,vsub 16 16 (by omega),vsub 16 0 (by omega),z16,i5 ha,i5 hc,kX,sX]
 have hq:a.natAbs*c.natAbs / 4294967296 ^ 16<LIM:=J8 MT
 have hz:(vN 4294967296 16 (a.natAbs*c.natAbs / 4294967296 ^ 16)=W 0)↔a.natAbs*c.natAbs<LIM:=by
  rw[Et hq xt,Np (by decide)];rfl
 simp only[hz]
 by_cases h:a.natAbs*c.natAbs<LIM
 ·rw[a7 _ _ (by simpa using h),jV h,ab]
  congr 2
  rcases Int.natAbs_eq a with e1|e1 <;> rcases Int.natAbs_eq c with e2|e2 <;> skip
  all_goals
   by_cases ha0:a<0 <;> by_cases hc0:c<0 <;> simp only[ha0,hc0,tJ,p6,wV,eH,qQ,ix,cond_false,Bool.true_beq,Bool.false_beq,ry]
  all_goals (first|(exfalso;omega)|(have ea:(a.natAbs:Int)=a:=(by omega);have ec:(c.natAbs:Int)=c:=(by omega);rw[ea,ec])|(have ea:(a.natAbs:Int)=-a:=(by omega);have ec:(c.natAbs:Int)=c:=(by omega);rw[ea,ec,Eg,Int.neg_neg])|(have ea:(a.natAbs:Int)=a:=(by omega);have ec:(c.natAbs:Int)=-c:=(by omega);rw[ea,ec,Bw,Int.neg_neg])|(have ea:(a.natAbs:Int)=-a:=(by omega);have ec:(c.natAbs:Int)=-c:=(by omega);rw[ea,ec,H4])|skip)
 ·rw[bb _ _ (by simpa using h),NI,ab,DI (by rw[wU];exact h)]
end
theorem set16(x y:Int):(#v[x,y,0,0,0,0,0,0,0,0,0,0,0,0,0,0]:Vector Int 16)=((W 0).set! 0 x).set! 1 y:=by
 rw[←z16];rfl
theorem Sf {u:Nat}(hu:u<18446744073709551616):(#v[((u % 4294967296:Nat):Int),((u / 4294967296:Nat):Int),0,0,0,0,0,0,0,0,0,0,0,0,0,0]:Vector Int 16)=W u:=by
 have hb:0<(4294967296:Nat):=by decide
 have hx:u % 4294967296<4294967296:=ep _ hb
 have hy:u / 4294967296<4294967296:=by omega
 rw[set16]
 unfold W
 rw[AC hb hx (by omega)]
 have e1:up1 4294967296 0 0 (u % 4294967296)=u % 4294967296:=by
  have:=KF (b:=4294967296) (A:=0) (p:=0) (x:=u % 4294967296)
  rw[mI (by decide)] at this
  omega
 have h:=KF (b:=4294967296) (A:=u % 4294967296) (p:=1) (x:=u / 4294967296)
 rw[mI (by rw[wS];exact hx),wS,fP,mK,Nat.mod_add_div'] at h
 rw[e1,AC hb hy (by omega),h]
theorem Ig {n:Int}(h1:-9223372036854775808≤n)(h2:n≤9223372036854775807):fE n=some (enc n):=by
 have hu:n.natAbs<18446744073709551616:=by omega
 have hL:n.natAbs<LIM:=bU hu (by decide)
 have hc:cnd (decide (n<(0:Int))) (some (u64.wrap (0 - (u64.wrap n)))) (some (u64.wrap n))=some ((n.natAbs:Nat):Int):=by
  rw[fM]
  split
  ·congr 1;rw[IntKind.wrap_u64,IntKind.wrap_u64];omega
  ·congr 1;rw[IntKind.wrap_u64];omega
 unfold fE
 rw[hc,ab,AF,xP,AE,Sf hu,jV hL,ab]
 congr 2
 by_cases h:n<0
 ·simp only[h,tJ,ix];omega
 ·simp only[h,p6,cond_false];omega
theorem yv {x k l:Nat}(hx:2 ^ k≤x)(h:szp 2 (x / 2 ^ k) l):szp 2 x (l+k):=by
 have hp:0<2 ^ k:=dE (by decide)
 have h0:0<x / 2 ^ k:=Ef hx hp
 have hl:0<l:=by
  rcases mJ l with h1|h1
  ·subst h1;have:=h.1;simp at this;omega
  ·exact h1
 refine⟨?_,fun _=>?_⟩
 ·rw[me];exact (qv hp).1 h.1
 ·have:=h.2 hl
  rw[show l+k - 1=(l - 1)+k from by omega,me]
  exact (qP hp).1 this
def Jj:ByteArray:=⟨#[0,1,2,2,3,3,3,3,4,4,4,4,4,4,4,4,5,5,5,5,5,5,5,5,5,5,5,5,5,5,5,5,6,6,6,6,6,6,6,6,6,6,6,6,6,6,6,6,6,6,6,6,6,6,6,6,6,6,6,6,6,6,6,6,7,7,7,7,7,7,7,7,7,7,7,7,7,7,7,7,7,7,7,7,7,7,7,7,7,7,7,7,7,7,7,7,7,7,7,7,7,7,7,7,7,7,7,7,7,7,7,7,7,7,7,7,7,7,7,7,7,7,7,7,7,7,7,7,8,8,8,8,8,8,8,8,8,8,8,8,8,8,8,8,8,8,8,8,8,8,8,8,8,8,8,8,8,8,8,8,8,8,8,8,8,8,8,8,8,8,8,8,8,8,8,8,8,8,8,8,8,8,8,8,8,8,8,8,8,8,8,8,8,8,8,8,8,8,8,8,8,8,8,8,8,8,8,8,8,8,8,8,8,8,8,8,8,8,8,8,8,8,8,8,8,8,8,8,8,8,8,8,8,8,8,8,8,8,8,8,8,8,8,8,8,8,8,8,8,8,8,8,8,8,8,8]⟩
theorem FJ:∀y:Nat,y<256→(Jj.data.toList.getD y 0).toNat≤8∧y<2 ^ (Jj.data.toList.getD y 0).toNat∧(0<(Jj.data.toList.getD y 0).toNat→2 ^ ((Jj.data.toList.getD y 0).toNat - 1)≤y):=by decide +kernel
theorem Od:Jj.size=256:=by decide +kernel
theorem len_tab(y:Nat)(hy:y<256):∃l:Nat,sAt Jj y=(l:Int)∧l≤8∧szp 2 y l:=
 ⟨_,rfl,(FJ y hy).1,(FJ y hy).2⟩
theorem SN(x:Int):nP x=bnd (S:=Int×Int) (cnd (decide ((65536:Int)≤x)) (some ((mX .u32 x (16:Int),(16:Int)))) (some ((x,(0:Int))))) fun (gP,H6)=>bnd (S:=Int×Int) (cnd (decide ((256:Int)≤gP)) (some ((mX .u32 gP (8:Int),i64.wrap (H6+(8:Int))))) (some ((gP,H6)))) fun (mg,Es)=>gd (0≤u8.wrap (mg)∧u8.wrap (mg)<(Jj.size:Int)) (bnd (some (i64.wrap (Es+(i64.wrap (sAt Jj (u8.wrap (mg)).toNat))))) fun x6=>some x6):=rfl
theorem u8n {n:Nat}(h:n<256):u8.wrap (n:Int)=(n:Int):=by
 rw[IntKind.wrap_u8];omega
theorem NG {x:Nat}(hx:x<4294967296):∃l:Nat,nP (x:Int)=some (l:Int)∧l≤32∧szp 2 x l:=by
 have h16:∃(y n:Nat),cnd (decide ((65536:Int)≤(x:Int))) (some ((mX .u32 (x:Int) (16:Int),(16:Int)))) (some (((x:Int),(0:Int))))=some ((y:Int),(n:Int))∧y<65536∧n≤16∧∀l,szp 2 y l→szp 2 x (l+n):=by
  rw[fM]
  split
  ·rename_i h
   exact⟨x / 2 ^ 16,16,by rw[show (16:Int)=((16:Nat):Int) from rfl,A6 .u32 x 16 (by decide)],by omega,by omega,fun l hl=>yv (by omega) hl⟩
  ·exact⟨x,0,rfl,by omega,by omega,fun l hl=>hl⟩
 obtain⟨y,n,e1,hy,hn,hs⟩:=h16
 have h8:∃(z m:Nat),cnd (decide ((256:Int)≤(y:Int))) (some ((mX .u32 (y:Int) (8:Int),i64.wrap ((n:Int)+(8:Int))))) (some (((y:Int),(n:Int))))=some ((z:Int),(m:Int))∧z<256∧m≤24∧∀l,szp 2 z l→szp 2 x (l+m):=by
  rw[fM]
  split
  ·rename_i h
   refine⟨y / 2 ^ 8,n+8,?_,by omega,by omega,fun l hl=>?_⟩
   ·rw[show (8:Int)=((8:Nat):Int) from rfl,A6 .u32 y 8 (by decide),cg];rfl
   ·rw[show l+(n+8)=(l+8)+n from by omega]
    exact hs _ (yv (by omega) hl)
  ·exact⟨y,n,rfl,by omega,by omega,hs⟩
 obtain⟨z,m,e2,hz,hm,FM⟩:=h8
 obtain⟨l,FN,Cj,Om⟩:=len_tab z hz
 refine⟨l+m,?_,by omega,FM l Om⟩
 rw[SN,e1,ab]
 dsimp only
 rw[e2,ab]
 dsimp only
 rw[u8n hz,Od,aB,aJ,FN,cg (z:=(l:Int)) (by omega),cg,ab]
 congr 1
 omega
theorem G_Lead {x:Nat}(hx:x<4294967296):∃l:Nat,gi (x:Int)=some (((32 - l:Nat)):Int)∧l≤32∧szp 2 x l:=by
 obtain⟨l,h1,h2,h3⟩:=NG hx
 refine⟨l,?_,h2,h3⟩
 unfold gi
 rw[h1,ab,cg]
 congr 1
 omega
theorem G_Bits {a:Int}(ha:a.natAbs<LIM):∃l:Nat,l≤512∧pL (enc a)=some (l:Int)∧szp 2 a.natAbs l:=by
 obtain⟨n,hn,h1,h2⟩:=BB ha
 unfold pL
 rw[nX ha,h1,ab,Ak,bg ha,ab,eH,aL,ab]
 cases n with
 |zero=>
  refine⟨0,by omega,?_,?_⟩
  ·rw[bb _ _];rfl
  ·have:=h2.1
   exact⟨by simpa using this,fun h=>by omega⟩
 |succ k=>
  have hk:k<16:=by omega
  rw[a7 _ _,show i64.wrap (((k+1:Nat):Int) - 1)=(k:Int) from by rw[cg];omega,aB,aJ,gX hk]
  obtain⟨l,h3,h4,h5⟩:=NG (x:=dg 4294967296 a.natAbs k) dgl
  have hd:dg 4294967296 a.natAbs k=a.natAbs / 2 ^ (32*k):=by
   unfold dg
   have e:(4294967296:Nat) ^ k=2 ^ (32*k):=by rw[Bv]
   rw[←e,gW]
   rw[qv (dE (by decide)),cC,←eZ];exact h2.1
  have ze:2 ^ (32*k)≤a.natAbs:=by
   have:=h2.2 (by omega)
   rw[Bu] at this
   rwa[Bv]
  refine⟨l+32*k,by omega,?_,?_⟩
  ·rw[h3,ab,show i64.wrap ((32:Int)*(k:Int))=((32*k:Nat):Int) from by rw[cg];omega,cg]
   congr 1;omega
  ·rw[hd] at h5;exact yv ze h5
theorem P8 {A:Nat}(hA:A<18446744073709551616):ior .u64 (yB .u64 (u64.wrap ((W A)[((1:Int)).toNat]!)) (32:Int)) (u64.wrap ((W A)[((0:Int)).toNat]!))=(A:Int):=by
 have e1:(W A)[((1:Int)).toNat]! =(dg 4294967296 A 1:Int):=gX (by decide)
 have e0:(W A)[((0:Int)).toNat]! =(dg 4294967296 A 0:Int):=gX (by decide)
 have h1:=@dgl A 1
 have h0:=@dgl A 0
 rw[e1,e0,iJ,iJ,IS h1,Jl h0 h1]
 have e:dg 4294967296 A 1*4294967296+dg 4294967296 A 0=A:=by
  unfold dg
  rw[wS,kX,sX]
  omega
 rw[e]
theorem NE {a:Int}(ha:a.natAbs<LIM):mn (enc a)=some (if -9223372036854775808≤a∧a<9223372036854775808 then (a,true) else (0,false)):=by
 obtain⟨l,hl,h1,h2⟩:=G_Bits ha
 have e64:(2:Nat) ^ 64=18446744073709551616:=by decide
 have hl64:64<l↔¬a.natAbs<18446744073709551616:=by
  constructor
  ·intro h h3
   have:=KH (b:=2) (by decide) h2 (k:=64) (by rw[e64];exact h3)
   omega
  ·intro h
   rcases bt 64 l with h3|h3
   ·exact h3
   ·have h4:=h2.1
    have h5:2 ^ l≤2 ^ 64:=nY (by decide) h3
    rw[e64] at h5
    exact absurd (bU h4 h5) h
 unfold mn
 rw[Ak,bg ha,ab,eH,aL,h1,ab,ab]
 by_cases h:a.natAbs<18446744073709551616
 ·rw[a7 _ _ (by have:=mt hl64.1 (fun hh=>hh h);omega),ab,nX ha,P8 h,i5 ha]
  by_cases hn:a<0
  ·simp only[hn,tJ,ej,eH,aL,ab]
   by_cases h3:a.natAbs≤9223372036854775808
   ·rw[bb _ _,ifp_,show (0:Int) - (a.natAbs:Int)=a from by omega,IntKind.wrap_u64]
    rw[show i64.wrap (a % 18446744073709551616)=a from by rw[IntKind.wrap_i64];omega]
   ·rw[a7 _ _,ifn_]
  ·rw[f8 hn,aL,ab,aL,qQ,ej,ab]
   have ea:(a.natAbs:Int)=a:=by omega
   rw[ea]
   by_cases h3:a<9223372036854775808
   ·rw[bb _ _ h3,ar ⟨by omega,h3⟩,cg ⟨by omega,by omega⟩]
   ·rw[a7 _ _ h3,aA (fun hh=>h3 hh.2)]
 ·rw[bb _ _ (by have:=hl64.2 h;omega),ifn_]
def vF(n:Nat)(f:Nat→Nat):Vector Int n:=Vector.ofFn fun i=>(f i.val:Int)
theorem wo {n j:Nat}{f:Nat→Nat}(h:j<n):(vF n f)[j]! =(f j:Int):=by
 rw[f7 (vF n f) j h]
 unfold vF
 rw[Ma]
theorem Pi {n:Nat}{f g:Nat→Nat}(h:∀j,j<n→f j=g j):vF n f=vF n g:=by
 apply pB
 intro j hj
 rw[wo hj,wo hj,h j hj]
theorem vF_set {n p x:Nat}{f:Nat→Nat}:(vF n f).set! p (x:Int)=vF n (fun j=>if j=p then x else f j):=by
 apply pB
 intro j hj
 rw[rh hj,wo hj,wo hj]
 split <;> rfl
theorem vF_dg {b n A:Nat}:vF n (dg b A)=vN b n A:=rfl
theorem Hj {X V n d:Nat}(hn:2≤n)(hV:2147483648*4294967296 ^ (n - 1)≤V)(hX:X<V*4294967296)
  (Dt:min (X / 4294967296 ^ (n - 2) / (V / 4294967296 ^ (n - 2))) 4294967295≤d) (Kw:d*(V / 4294967296 ^ (n - 2))≤X / 4294967296 ^ (n - 2)):X / V≤d∧d≤X / V+1:=by
 have hp:0<4294967296 ^ (n - 2):=dE (by decide)
 have e1:(4294967296:Nat) ^ (n - 1)=4294967296 ^ (n - 2)*4294967296:=by rw[←eZ];congr 1;omega
 rw[e1] at hV
 generalize 4294967296 ^ (n - 2)=P at*
 have Hi:0<V:=bU (tL (by decide) (tL hp (by decide))) hV
 have O0:2147483648*4294967296≤V / P:=by
  rw[qP hp]
  calc 2147483648*4294967296*P=2147483648*(P*4294967296):=by rw[i1,cC 4294967296 P]
   _≤V:=hV
 have hv20:0<V / P:=by omega
 have hVP:=pW V P
 have hVm:=ep V hp
 have hXP:=pW X P
 have hXm:=ep X hp
 have hq1:X / V≤X / P / (V / P):=by
  rw[mc]
  refine Nat.div_le_div_left ?_ (tL hp hv20)
  omega
 have hq2:X / V<4294967296:=(qv Hi).2 (by rw[cC];exact hX)
 refine⟨by omega,?_⟩
 -- d V is not much more than X
 have O3:d*(V / P)*P≤X:=by
  have:=bJ P Kw
  rw[cC (X / P)] at this
  omega
 have hXP2:X / P<(V / P+1)*4294967296:=by
  rw[qv hp]
  have h1:V<(V / P+1)*P:=by rw[bZ,d8,cC (V / P)];omega
  calc X<V*4294967296:=hX
   _≤(V / P+1)*P*4294967296:=bJ _ (pX h1)
   _=(V / P+1)*4294967296*P:=by rw[i1,cC P,←i1]
 have hdb:d≤4294967296:=by
  rcases bt 4294967296 d with h|h
  ·have:4294967297*(V / P)≤d*(V / P):=bJ _ h
   omega
  ·exact h
 have h2:d*(V % P)≤4294967296*P:=ja hdb (pX hVm)
 have h3:d*V=d*(V / P)*P+d*(V % P):=by
  conv=>lhs;rw[←hVP]
  rw[z4,cC P,i1]
 have h4:d*V≤X+V:=by
  rw[h3]
  have h6:4294967296*P≤V:=by
   refine cw ?_ hV
   rw[cC P,←i1]
   exact bJ _ (by decide)
  exact Nat.add_le_add O3 (cw h2 h6)
 rcases mJ d with h0|h0
 ·rw[h0];exact bY _
 ·have h5:(d - 1)*V≤X:=by rw[Nat.sub_mul,d8];omega
  have:=(qP Hi).2 h5
  omega
theorem gA1 {y r u z:Nat}(h:r*4294967296+u<z):(y+r)*4294967296+u<y*4294967296+z:=by
 rw[bZ,ob];exact wQ h _
theorem gA2 {y r u z:Nat}(h:z≤r*4294967296+u):y*4294967296+z≤(y+r)*4294967296+u:=by
 rw[bZ,ob];exact Nat.add_le_add_left h _
theorem gA3 {y r u z:Nat}(h:4294967296≤r)(hz:z≤4294967295*4294967295):y*4294967296+z≤(y+r)*4294967296+u:=by
 have h1:z≤r*4294967296:=cw hz (cw (ja (by decide) (by decide)) (bJ _ h))
 rw[bZ,ob]
 exact Nat.add_le_add_left (cw h1 (qO _ _)) _
theorem qq {n:Nat}(h:n≤34359738368:=by omega):n<18446744073709551616:=by omega
theorem lt64p {n:Nat}(h:n≤4294967295*4294967295):n<18446744073709551616:=by omega
theorem guessB {d r f x0 x1:Nat}(h:d*f+r=x0*4294967296+x1)(hf:2147483648≤f)(h0:x0<4294967296)(h1:x1<4294967296):d≤8589934592:=by
 have:=t8 d hf
 omega
theorem guessT {x0 x1 f:Nat}(h0:x0<4294967296)(h1:x1<4294967296):(x0*4294967296+x1) / f<18446744073709551616:=
 cD (qN _ _) (by omega)
theorem G_guess {U V n j:Nat}(hn:2≤n)(E8:n≤16)(hj:j+n≤16)(hV:2147483648*4294967296 ^ (n - 1)≤V)(Ky:V<4294967296 ^ n)(hU:U / 4294967296 ^ j<V*4294967296):
  ∃d:Nat,d<4294967296∧jf (W V) (n:Int) (j:Int) (vN 4294967296 17 U)=some (d:Int)∧U / 4294967296 ^ j / V≤d∧d≤U / 4294967296 ^ j / V+1:=by
 have hb:0<(4294967296:Nat):=by decide
 generalize hX:U / 4294967296 ^ j=X at hU
 -- GA digits that it looks at
 have du:∀i,dg 4294967296 U (j+i)=dg 4294967296 X i:=fun i=>by
  unfold dg;rw[←hX,mc,←me]
 have hXlt:X<4294967296 ^ (n+1):=by
  rw[eZ];exact bU hU (bJ _ (pX Ky))
 have s1:=cO (b:=4294967296) (A:=X) (k:=n - 2)
 have s2:=cO (b:=4294967296) (A:=X) (k:=n - 1)
 have s3:=cO (b:=4294967296) (A:=X) (k:=n)
 rw[gO hXlt,fP,bB] at s3
 rw[show n - 2+1=n - 1 from by omega] at s1
 rw[show n - 1+1=n from by omega,s3] at s2
 have w1:=cO (b:=4294967296) (A:=V) (k:=n - 2)
 have w2:=cO (b:=4294967296) (A:=V) (k:=n - 1)
 rw[show n - 2+1=n - 1 from by omega] at w1
 rw[show n - 1+1=n from by omega,gO Ky,fP,bB] at w2
 have Ao:=@dgl X n
 have E7:=@dgl X (n - 1)
 have Cf:=@dgl X (n - 2)
 have Qr:=@dgl V (n - 1)
 have O0:=@dgl V (n - 2)
 have Lj:2147483648≤dg 4294967296 V (n - 1):=by
  rw[←w2,qP (dE hb)];exact hV
 -- GA two highest digits against GA highest one
 have hp:0<4294967296 ^ (n - 2):=dE hb
 have htop:X / 4294967296 ^ (n - 1)≤V / 4294967296 ^ (n - 2):=by
  have e1:(4294967296:Nat) ^ (n - 1)=4294967296 ^ (n - 2)*4294967296:=by rw[←eZ];congr 1;omega
  have h1:X / 4294967296 ^ (n - 1)*4294967296 ^ (n - 1)≤X:=L9 _ _
  rw[qP hp]
  rw[e1] at h1
  have h2:X / 4294967296 ^ (n - 1)*4294967296 ^ (n - 2)*4294967296<V*4294967296:=by
   rw[i1]
   exact cD (by rw[e1];exact h1) hU
  exact pX (Nat.lt_of_mul_lt_mul_right h2)
 rw[s2,w1,w2] at htop
 obtain⟨x,hl,d,rfl,hdb,Dt,Kw⟩:=xV (b:=ke (W V) (n:Int) (j:Int) (vN 4294967296 17 U) ((dg 4294967296 V (n - 1):Nat):Int)) (fun s=>∃d r:Nat,s=((d:Int),(r:Int))∧d*dg 4294967296 V (n - 1)+r=X / 4294967296 ^ (n - 1)∧min (X / 4294967296 ^ (n - 2) / (V / 4294967296 ^ (n - 2))) 4294967295≤d) (fun s=>4294967296 - s.2.toNat)
  (fun x=>∃d:Nat,x=(d:Int)∧d<4294967296∧min (X / 4294967296 ^ (n - 2) / (V / 4294967296 ^ (n - 2))) 4294967295≤d∧d*(V / 4294967296 ^ (n - 2))≤X / 4294967296 ^ (n - 2))
  (by
   rintro s ⟨d,r,rfl,hdr,Dt⟩
   have hmul:d*(V / 4294967296 ^ (n - 2))=d*dg 4294967296 V (n - 1)*4294967296+d*dg 4294967296 V (n - 2):=by
    rw[w1,w2,z4,i1]
   have hdB:d≤8589934592:=guessB (by rw[hdr,s2]) Lj Ao E7
   have ei2:i64.wrap ((n:Int) - (2:Int))=((n - 2:Nat):Int):=by rw[cg];omega
   have eij2:i64.wrap ((i64.wrap ((j:Int)+(n:Int))) - (2:Int))=((j+(n - 2):Nat):Int):=by rw[cg (z:=(j:Int)+(n:Int)) (by omega),cg];omega
   dsimp only[ke]
   by_cases hr:r<4294967296
   ·rw[bb _ _]
    by_cases hd:4294967296≤d
    ·left
     refine⟨(((d - 1:Nat):Int),((r+dg 4294967296 V (n - 1):Nat):Int)),?_,⟨d - 1,_,rfl,?_,by omega⟩,by show 4294967296 - (_:Nat)<4294967296 - (_:Nat);rw[aJ,aJ];omega⟩
     ·rw[bb _ _,ab,ej,show (d:Int) - 1=((d - 1:Nat):Int) from by omega,iJ (qq),←pf,iJ (qq)]
     ·rw[Nat.sub_mul,d8]
      have:dg 4294967296 V (n - 1)≤d*dg 4294967296 V (n - 1):=Ed _ (by omega)
      omega
    ·have EO:d*dg 4294967296 V (n - 2)≤4294967295*4294967295:=ja (by omega) (by omega)
     rw[a7 _ _,ei2,aB,eij2,aB,aJ,aJ,jX (by omega),gX (by omega),du,iJ (n:=dg 4294967296 X (n - 2)) (qq),iJ (n:=dg 4294967296 V (n - 2)) (qq),IS hr,Jl Cf hr,←ry,iJ (lt64p EO),ab]
     by_cases hc:r*4294967296+dg 4294967296 X (n - 2)<d*dg 4294967296 V (n - 2)
     ·left
      have EP:0<d:=by
       rcases mJ d with h|h
       ·subst h;omega
       ·exact h
      refine⟨(((d - 1:Nat):Int),((r+dg 4294967296 V (n - 1):Nat):Int)),?_,⟨d - 1,_,rfl,?_,?_⟩,by show 4294967296 - (_:Nat)<4294967296 - (_:Nat);rw[aJ,aJ];omega⟩
      ·rw[bb _ _,show (d:Int) - 1=((d - 1:Nat):Int) from by omega,iJ (qq),←pf,iJ (qq)]
      ·rw[Nat.sub_mul,d8]
       have:dg 4294967296 V (n - 1)≤d*dg 4294967296 V (n - 1):=Ed _ EP
       omega
      ·have hgt:X / 4294967296 ^ (n - 2)<d*(V / 4294967296 ^ (n - 2)):=by rw[hmul,s1,←hdr];exact gA1 hc
       have:=(qv (x:=X / 4294967296 ^ (n - 2)) (y:=d) (k:=V / 4294967296 ^ (n - 2)) (by rw[w1,w2];omega)).2 hgt
       omega
     ·right
      refine⟨_,by rw[a7 _ _],d,rfl,by omega,Dt,?_⟩
      rw[hmul,s1,←hdr];exact gA2 (Nat.le_of_not_lt hc)
   ·right
    have hdlt:d<4294967296:=by
     rcases bt d 4294967296 with h|h
     ·exact h
     ·have:4294967296*dg 4294967296 V (n - 1)≤d*dg 4294967296 V (n - 1):=bJ _ h
      omega
    have EO:d*dg 4294967296 V (n - 2)≤4294967295*4294967295:=ja (by omega) (by omega)
    refine⟨_,by rw[a7 _ _,ab,aL],d,rfl,hdlt,Dt,?_⟩
    rw[hmul,s1,←hdr];exact gA3 (Nat.le_of_not_lt hr) EO)
  (((X / 4294967296 ^ (n - 1) / dg 4294967296 V (n - 1):Nat):Int),((X / 4294967296 ^ (n - 1) % dg 4294967296 V (n - 1):Nat):Int))
  ⟨_,_,rfl,by rw[cC];exact pW _ _,by
   have h0:X / 4294967296 ^ (n - 2) / (V / 4294967296 ^ (n - 2))≤X / 4294967296 ^ (n - 1) / dg 4294967296 V (n - 1):=by
    rw[qP (by omega)]
    have h1:=L9 (X / 4294967296 ^ (n - 2)) (V / 4294967296 ^ (n - 2))
    generalize X / 4294967296 ^ (n - 2) / (V / 4294967296 ^ (n - 2))=q at h1 ⊢
    rw[w1,w2,s1,z4,←i1] at h1
    generalize q*dg 4294967296 V (n - 1)=y at h1 ⊢
    omega
   omega⟩
 obtain⟨h1,h2⟩:=Hj hn hV hU Dt Kw
 refine⟨d,hdb,?_,h1,h2⟩
 have ejn:i64.wrap ((j:Int)+(n:Int))=((j+n:Nat):Int):=by rw[cg];omega
 have ejn1:i64.wrap (((j+n:Nat):Int) - (1:Int))=((j+(n - 1):Nat):Int):=by rw[cg];omega
 have en1:i64.wrap ((n:Int) - (1:Int))=((n - 1:Nat):Int):=by rw[cg];omega
 unfold jf
 rw[ejn,aB,ejn1,aB,en1,aJ,aJ,aJ,jX (by omega),jX (by omega),gX (by omega),du,du,iJ (n:=dg 4294967296 X n) (qq),iJ (n:=dg 4294967296 X (n - 1)) (qq),iJ (n:=dg 4294967296 V (n - 1)) (qq),IS Ao,Jl E7 Ao,ab,aB,ab,aB,aB,←t7,←t6]
 rw[iJ (guessT Ao E7),←s2,hl,ab]
def zI(j i U D p:Nat):Nat:=if p<j then dg 4294967296 U p else if p<j+i then dg 4294967296 D (p - j) else dg 4294967296 U p
theorem mix0 {j U D:Nat}:zI j 0 U D=dg 4294967296 U:=by
 funext p
 unfold zI
 split
 ·rfl
 ·rw[ifn_]
theorem GP {j i U D:Nat}:zI j i U D (j+i)=dg 4294967296 U (j+i):=by
 unfold zI
 rw[ifn_,ifn_]
theorem CB {n j i U D:Nat}:(vF n (zI j i U D)).set! (j+i) (dg 4294967296 D i:Int)=vF n (zI j (i+1) U D):=by
 rw[vF_set]
 apply Pi
 intro p hp
 by_cases h:p=j+i
 ·subst h
  rw[ar rfl]
  unfold zI
  rw[ifn_,ifp_]
  congr 1;omega
 ·rw[aA h]
  unfold zI
  by_cases h1:p<j
  ·rw[ar h1,ar h1]
  ·rw[aA h1,aA h1]
   by_cases h2:p<j+i
   ·rw[ar h2,ifp_]
   ·rw[aA h2,ifn_]
theorem MH {n j i U D:Nat}(hU:U<4294967296 ^ (i+j))(hD:D<4294967296 ^ i):vF n (zI j i U D)=vN 4294967296 n (D*4294967296 ^ j+U % 4294967296 ^ j):=by
 have hb:0<(4294967296:Nat):=by decide
 rw[←vF_dg]
 apply Pi
 intro p _
 unfold zI
 by_cases h1:p<j
 ·rw[ar h1,←oI (A:=D*_+_) h1,L8,F3,oI h1]
 ·rw[aA h1]
  have e:dg 4294967296 (D*4294967296 ^ j+U % 4294967296 ^ j) p=dg 4294967296 D (p - j):=by
   obtain⟨q,rfl⟩:∃q,p=j+q:=⟨p - j,by omega⟩
   unfold dg
   rw[me,←mc,cC D,DV (dE hb),gO (ep _ (dE hb)),mK,Ka]
  rw[e]
  by_cases h2:p<j+i
  ·rw[ar h2]
  ·rw[aA h2,mI (bU hU (nY hb (by omega))),mI (bU hD (nY hb (by omega)))]
theorem J0 {D P i:Nat}:∃x:Nat,u64.wrap (u64.wrap ((dg 4294967296 (D+P) i:Int) - (dg 4294967296 P i:Int)) - (((D % 4294967296 ^ i+P % 4294967296 ^ i) / 4294967296 ^ i:Nat):Int))=(x:Int)∧x / 9223372036854775808=(D % 4294967296 ^ (i+1)+P % 4294967296 ^ (i+1)) / 4294967296 ^ (i+1)∧x % 4294967296=dg 4294967296 D i:=by
 have hc:=pQ (b:=4294967296) (A:=D) (B:=P) (k:=i) (by decide)
 obtain⟨h1,h2⟩:=qS (b:=4294967296) (A:=D) (B:=P) (k:=i) (by decide)
 have ha:=@dgl D i
 have hb:=@dgl P i
 have hd:=@dgl (D+P) i
 generalize (D % 4294967296 ^ i+P % 4294967296 ^ i) / 4294967296 ^ i=c at h1 h2 hc ⊢
 generalize (D % 4294967296 ^ (i+1)+P % 4294967296 ^ (i+1)) / 4294967296 ^ (i+1)=c' at h2 ⊢
 rw[IntKind.wrap_u64,IntKind.wrap_u64]
 exact⟨((((dg 4294967296 (D+P) i:Int) - (dg 4294967296 P i:Int)) % 18446744073709551616 - (c:Int)) % 18446744073709551616).toNat,by omega,by omega,by omega⟩
theorem lt64m {c p d:Nat}(hc:c≤d)(hp:p<4294967296)(hd:d<4294967296):c+p*d<18446744073709551616:=by
 have h1:p*d≤4294967295*4294967295:=ja (by omega) (by omega)
 omega
theorem SV {U V D n j d:Nat}(E8:n≤16)(hj:j+n≤16)(Ky:V<4294967296 ^ n)(hU:U<4294967296 ^ (n+1+j))(hd:d<4294967296)(hD:D<4294967296 ^ (n+1))
  (hDZ:D+V*d=U / 4294967296 ^ j+(if U / 4294967296 ^ j<V*d then 4294967296 ^ (n+1) else 0)):
  kw (W V) (n:Int) (j:Int) (d:Int) (vN 4294967296 17 U)=some (decide (U / 4294967296 ^ j<V*d),vN 4294967296 17 (D*4294967296 ^ j+U % 4294967296 ^ j)):=by
 have hb:0<(4294967296:Nat):=by decide
 generalize hZ:U / 4294967296 ^ j=Z at hDZ ⊢
 have OC:Z<4294967296 ^ (n+1):=by
  rw[←hZ];exact J8 (by rw[←me,rz];exact hU)
 have dz:∀i,i<n+1→dg 4294967296 (D+V*d) i=dg 4294967296 U (j+i):=fun i hi=>by
  have e1:dg 4294967296 U (j+i)=dg 4294967296 Z i:=by
   unfold dg;rw[←hZ,mc,←me]
  rw[e1,←oI (A:=D+V*d) hi,←oI (A:=Z) hi,hDZ]
  split
  ·rw[Nat.add_mod_right]
  ·rw[mK]
 have hcle:∀i,V % 4294967296 ^ i*d / 4294967296 ^ i≤d:=fun i=>
  cw (L7 (bJ d (pX (ep V (dE hb))))) (by rw[L6 _ (dE hb)];exact aD _)
 have hl:=sL (b:=jx (W V) (n:Int) (j:Int) (d:Int)) (s0:=((0:Int),(0:Int),(0:Int),vN 4294967296 17 U)) (fun i=>((V % 4294967296 ^ i*d / 4294967296 ^ i:Nat),((D % 4294967296 ^ i+V*d % 4294967296 ^ i) / 4294967296 ^ i:Nat),(i:Int),vF 17 (zI j i U D))) n ((V % 4294967296 ^ n*d / 4294967296 ^ n:Nat),((D % 4294967296 ^ n+V*d % 4294967296 ^ n) / 4294967296 ^ n:Nat),vF 17 (zI j n U D))
  (by simp only[kX,rV,fP,Nat.zero_div,mix0];rfl)
  (fun i hi=>by
   obtain⟨h1,h2⟩:=FE (b:=4294967296) (A:=V) (k:=i) (m:=d) hb
   obtain⟨x,E7,Cf,Qn⟩:=J0 (D:=D) (P:=V*d) (i:=i)
   have bG:=lt64m (hcle i) (@dgl V i) hd
   have hp:=@dgl (V*d) i
   have hz:=@dgl U (j+i)
   have hv:=@dgl V i
   have eij:i64.wrap ((j:Int)+(i:Int))=((j+i:Nat):Int):=by rw[cg];omega
   rw[dz i (by omega)] at E7
   have hvd:dg 4294967296 V i*d<18446744073709551616:=cD (Nat.le_add_left _ _) bG
   dsimp only[jx]
   rw[bb _ _,aB,ab,eij,aB,ab,aB,ab,aJ,aJ,gX (by omega),wo (by omega),GP,iJ (n:=dg 4294967296 V i) (qq),←ry,cC d,iJ hvd,←pf,iJ bG,AF,h1,xP,h2,iJ (n:=dg 4294967296 (V*d) i) (qq),iJ (n:=dg 4294967296 U (j+i)) (qq),E7,Pu,Cf,AF,Qn,CB,cg]
   rfl)
  (by
   dsimp only[jx]
   rw[a7 _ _])
 obtain⟨x,E7,Cf,Qn⟩:=J0 (D:=D) (P:=V*d) (i:=n)
 have hP:V*d<4294967296 ^ (n+1):=by
  rw[eZ];exact DT Ky hd
 have Is:V % 4294967296 ^ n*d / 4294967296 ^ n=dg 4294967296 (V*d) n:=by
  rw[gW Ky]
  unfold dg
  rw[gW]
  exact J8 (by rw[←eZ];exact hP)
 have hbor:(D % 4294967296 ^ (n+1)+V*d % 4294967296 ^ (n+1)) / 4294967296 ^ (n+1)=if Z<V*d then 1 else 0:=by
  rw[gW hD,gW hP,hDZ]
  split
  ·rw[Nat.add_div_right _ (dE hb),gO OC]
  ·rw[mK,gO OC]
 have ejn:i64.wrap ((j:Int)+(n:Int))=((j+n:Nat):Int):=by rw[cg];omega
 have hz:=@dgl U (j+n)
 rw[dz n (by omega)] at E7
 unfold kw
 rw[hl,ab]
 dsimp only
 rw[ejn,aB,ab,aB,ab,aJ,wo (by omega),GP,iJ (n:=dg 4294967296 U (j+n)) (qq),Is,E7,Pu,Cf,AF,Qn,CB,MH hU hD,hbor]
 congr 2
 by_cases h:Z<V*d
 ·simp[h]
 ·simp[h]
theorem G_give {U V D n j:Nat}(E8:n≤16)(hj:j+n≤16)(Ky:V<4294967296 ^ n)(hU:U<4294967296 ^ (n+1+j))(hD:D=(U / 4294967296 ^ j+V) % 4294967296 ^ (n+1)):
  kC (W V) (n:Int) (j:Int) (vN 4294967296 17 U)=some (vN 4294967296 17 (D*4294967296 ^ j+U % 4294967296 ^ j)):=by
 have hb:0<(4294967296:Nat):=by decide
 have hDlt:D<4294967296 ^ (n+1):=by rw[hD];exact ep _ (dE hb)
 generalize hZ:U / 4294967296 ^ j=Z at hD
 have dz:∀i,dg 4294967296 U (j+i)=dg 4294967296 Z i:=fun i=>by
  unfold dg;rw[←hZ,mc,←me]
 have dD:∀i,i<n+1→dg 4294967296 (Z+V) i=dg 4294967296 D i:=fun i hi=>by rw[hD,oI hi]
 have hl:=sL (b:=jz (W V) (n:Int) (j:Int)) (s0:=((0:Int),(0:Int),vN 4294967296 17 U)) (fun i=>(((Z % 4294967296 ^ i+V % 4294967296 ^ i) / 4294967296 ^ i:Nat),(i:Int),vF 17 (zI j i U D))) n (((Z % 4294967296 ^ n+V % 4294967296 ^ n) / 4294967296 ^ n:Nat),vF 17 (zI j n U D))
  (by simp only[kX,rV,mix0];rfl)
  (fun i hi=>by
   have hc:=pQ (b:=4294967296) (A:=Z) (B:=V) (k:=i) hb
   obtain⟨h1,h2⟩:=qS (b:=4294967296) (A:=Z) (B:=V) (k:=i) hb
   have hz:=@dgl Z i
   have hv:=@dgl V i
   have eij:i64.wrap ((j:Int)+(i:Int))=((j+i:Nat):Int):=by rw[cg];omega
   generalize (Z % 4294967296 ^ i+V % 4294967296 ^ i) / 4294967296 ^ i=c at h1 h2 hc ⊢
   generalize (Z % 4294967296 ^ (i+1)+V % 4294967296 ^ (i+1)) / 4294967296 ^ (i+1)=c' at h2 ⊢
   dsimp only[jz]
   rw[bb _ _,eij,aB,aB,ab,aB,ab,aJ,aJ,gX (by omega),wo (by omega),GP,dz,iJ (n:=dg 4294967296 V i) (qq),iJ (n:=dg 4294967296 Z i) (qq),←pf,iJ (qq),←pf,iJ (qq),←ob,xP,AF,h1,h2,dD i (by omega),CB,cg]
   rfl)
  (by
   dsimp only[jz]
   rw[a7 _ _])
 have hc:=pQ (b:=4294967296) (A:=Z) (B:=V) (k:=n) hb
 obtain⟨h1,h2⟩:=qS (b:=4294967296) (A:=Z) (B:=V) (k:=n) hb
 rw[mI Ky,mK,dD n (by omega)] at h1
 have hz:=@dgl Z n
 have ejn:i64.wrap ((j:Int)+(n:Int))=((j+n:Nat):Int):=by rw[cg];omega
 unfold kC
 rw[hl,ab]
 dsimp only
 generalize (Z % 4294967296 ^ n+V % 4294967296 ^ n) / 4294967296 ^ n=c at h1 hc ⊢
 rw[ejn,aB,aB,ab,aJ,wo (by omega),GP,dz,AE (n:=c) (by omega),←pf,rz (dg 4294967296 Z n),AF,h1,CB,MH hU hDlt]
theorem NX {U V n j:Nat}(hn:2≤n)(hj:j+n≤16)(hV:2147483648*4294967296 ^ (n - 1)≤V)(Ky:V<4294967296 ^ n)(hU:U / 4294967296 ^ j<V*4294967296):
  (bnd (jf (W V) (n:Int) (j:Int) (vN 4294967296 17 U)) fun Ik=>bnd (S:=Int×(Vector Int 17)) (bnd (kw (W V) (n:Int) (j:Int) Ik (vN 4294967296 17 U)) fun Mu=>cnd Mu.1 (bnd (kC (W V) (n:Int) (j:Int) Mu.2) fun Aq=>some ((u64.wrap (Ik - (1:Int)),Aq))) (some ((Ik,Mu.2)))) fun y=>some y)=some (((U / 4294967296 ^ j / V:Nat):Int),vN 4294967296 17 (U / 4294967296 ^ j % V*4294967296 ^ j+U % 4294967296 ^ j))∧U / 4294967296 ^ j / V<4294967296:=by
 have hb:0<(4294967296:Nat):=by decide
 obtain⟨d,hdb,hg,O3,Jw⟩:=G_guess hn (by omega) hj hV Ky hU
 have Hi:0<V:=bU (tL (by decide) (dE hb)) hV
 have hp:0<4294967296 ^ j:=dE hb
 have OC:U / 4294967296 ^ j<4294967296 ^ (n+1):=by
  rw[eZ];exact bU hU (bJ _ (pX Ky))
 have hUlt:U<4294967296 ^ (n+1+j):=by
  rw[me];exact (qv hp).1 OC
 have hVd:V*d<4294967296 ^ (n+1):=by
  rw[eZ];exact DT Ky hdb
 have hq:U / 4294967296 ^ j / V<4294967296:=by omega
 refine⟨?_,hq⟩
 have hm:=pW (U / 4294967296 ^ j) V
 have hml:=ep (U / 4294967296 ^ j) Hi
 rw[hg,ab]
 by_cases bG:U / 4294967296 ^ j<V*d
 ·-- one too many
  have hdq:d=U / 4294967296 ^ j / V+1:=by
   rcases bt (U / 4294967296 ^ j / V) d with h|h
   ·omega
   ·have h1:V*d≤V*(U / 4294967296 ^ j / V):=t8 _ h
    omega
  have ht:=SV (U:=U) (V:=V) (D:=U / 4294967296 ^ j+4294967296 ^ (n+1) - V*d) (n:=n) (j:=j) (d:=d) (by omega) hj Ky hUlt hdb (by omega) (by rw[ar bG];omega)
  rw[ht,d6 bG,ab,ej]
  dsimp only
  generalize hD:U / 4294967296 ^ j+4294967296 ^ (n+1) - V*d=D
  have hDlt:D<4294967296 ^ (n+1):=by omega
  have e1:(D*4294967296 ^ j+U % 4294967296 ^ j) / 4294967296 ^ j=D:=by
   rw[cC,DV hp,gO (ep _ hp),mK]
  have e2:(D*4294967296 ^ j+U % 4294967296 ^ j) % 4294967296 ^ j=U % 4294967296 ^ j:=by
   rw[L8,F3]
  have e3:(D+V) % 4294967296 ^ (n+1)=U / 4294967296 ^ j % V:=by
   have:D+V=U / 4294967296 ^ j % V+4294967296 ^ (n+1):=by
    rw[hdq,z4,z5] at hD bG
    omega
   rw[this,Nat.add_mod_right,gW]
   exact cD (Nat.mod_le _ _) OC
  have hgv:=G_give (U:=D*4294967296 ^ j+U % 4294967296 ^ j) (V:=V) (D:=U / 4294967296 ^ j % V) (n:=n) (j:=j) (by omega) hj Ky (by
   rw[me]
   have h1:(D+1)*4294967296 ^ j≤4294967296 ^ (n+1)*4294967296 ^ j:=bJ _ hDlt
   rw[bZ,d8] at h1
   have:=ep U hp
   omega) (by rw[e1,e3])
  rw[hgv,ab,ab,e2,show ((d:Nat):Int) - 1=((U / 4294967296 ^ j / V:Nat):Int) from by omega,iJ (qq)]
 ·have hdq:d=U / 4294967296 ^ j / V:=by
   have h1:d≤U / 4294967296 ^ j / V:=(qP Hi).2 (by rw[cC];omega)
   omega
  have ht:=SV (U:=U) (V:=V) (D:=U / 4294967296 ^ j % V) (n:=n) (j:=j) (d:=d) (by omega) hj Ky hUlt hdb (cD (Nat.mod_le _ _) OC) (by rw[aA bG,hdq];omega)
  rw[ht,f8 bG,ab,aL,ab,hdq]
theorem PK {U V n k:Nat}(hn:2≤n)(hk:k+n≤17)(hV:2147483648*4294967296 ^ (n - 1)≤V)(Ky:V<4294967296 ^ n)(hU:U / 4294967296 ^ k<V)(y:Int):
  aK (fb (n:Int) (W V,y)) ((k:Int) - 1,W 0,vN 4294967296 17 U)=some (W (U / V),vN 4294967296 17 (U % V)):=by
 have hb:0<(4294967296:Nat):=by decide
 have Hi:0<V:=bU (tL (by decide) (dE hb)) hV
 have hl:=P9 (b:=fb (n:Int) (W V,y)) (s0:=((k:Int) - 1,W 0,vN 4294967296 17 U)) (fun i=>((i:Int) - 1,vN 4294967296 16 (U / V / 4294967296 ^ i*4294967296 ^ i),vN 4294967296 17 (U / 4294967296 ^ i % V*4294967296 ^ i+U % 4294967296 ^ i))) k (vN 4294967296 16 (U / V / 4294967296 ^ 0*4294967296 ^ 0),vN 4294967296 17 (U / 4294967296 ^ 0 % V*4294967296 ^ 0+U % 4294967296 ^ 0))
  (by
   have e1:U / V / 4294967296 ^ k=0:=by
    rw[mc,cC,←mc,gO hU]
   have e2:U / 4294967296 ^ k % V*4294967296 ^ k+U % 4294967296 ^ k=U:=by
    rw[gW hU,cC];exact pW _ _
   rw[e1,e2,fP])
  (fun i hi=>by
   have hp:0<4294967296 ^ i:=dE hb
   obtain⟨h1,h2⟩:=yw (b:=4294967296) (A:=U) (k:=i) (d:=V) hb Hi
   have eR1:(U / 4294967296 ^ (i+1) % V*4294967296 ^ (i+1)+U % 4294967296 ^ (i+1)) / 4294967296 ^ i=U / 4294967296 ^ (i+1) % V*4294967296+dg 4294967296 U i:=by
    rw[g7,eZ,←i1,Ec,rz (U % _),←ob,cC (4294967296 ^ i) (dg _ _ _),←bZ,cC (_+_) (4294967296 ^ i),DV hp,gO (ep _ hp),mK]
   have eR2:(U / 4294967296 ^ (i+1) % V*4294967296 ^ (i+1)+U % 4294967296 ^ (i+1)) % 4294967296 ^ i=U % 4294967296 ^ i:=by
    rw[g7,eZ,←i1,Ec,rz (U % _),←ob,cC (4294967296 ^ i) (dg _ _ _),←bZ,L8,F3]
   have bG:(U / 4294967296 ^ (i+1) % V*4294967296 ^ (i+1)+U % 4294967296 ^ (i+1)) / 4294967296 ^ i<V*4294967296:=by
    rw[eR1]
    have h3:=ep (U / 4294967296 ^ (i+1)) Hi
    have h4:(U / 4294967296 ^ (i+1) % V+1)*4294967296≤V*4294967296:=bJ _ h3
    rw[bZ,d8] at h4
    exact bU (wQ dgl _) h4
   obtain⟨hq,hqb⟩:=NX (j:=i) hn (by omega) hV Ky bG
   rw[eR1,h1,h2,eR2] at hq
   rw[eR1,h1] at hqb
   have ei:((i+1:Nat):Int) - 1=(i:Int):=by omega
   dsimp only[fb]
   rw[ei,bb _ _]
   -- GA digit
   revert hq
   generalize vN 4294967296 17 (U / 4294967296 ^ (i+1) % V*4294967296 ^ (i+1)+U % 4294967296 ^ (i+1))=uv
   intro hq
   obtain⟨d,e1,hq⟩:=ah hq
   rw[pU] at hq
   rw[e1,ab,hq,ab]
   dsimp only
   rw[aB,aJ,AE hqb,My hb (by omega),cg])
  (by
   dsimp only[fb]
   rw[a7 _ _])
 rw[hl]
 simp only[kX,sX,z5,rV,mK]
theorem build17 {A s:Nat}(hA:A<LIM)(hs:s<32):(vOf 17 (lCp (Vector.replicate 17 (0:Int)).toList 0 (List.take 17 (List.take 16 (List.drop 0 (W (A*2 ^ s)).toList))))).set! ((16:Int)).toNat ((A % 4294967296 ^ 16*2 ^ s / 4294967296 ^ 16:Nat):Int)=vN 4294967296 17 (A*2 ^ s):=by
 have hb:0<(4294967296:Nat):=by decide
 have FM:2 ^ s≤2 ^ 31:=nY (by decide) (by omega)
 have hs3:0<2 ^ s:=dE (by decide)
 have hc:A % 4294967296 ^ 16*2 ^ s / 4294967296 ^ 16<2 ^ s:=AU hb hs3
 have h16:(W (A*2 ^ s)).toList.length=16:=sY
 have hl:lCp (Vector.replicate 17 (0:Int)).toList 0 (List.take 17 (List.take 16 (List.drop 0 (W (A*2 ^ s)).toList)))=(W (A*2 ^ s)).toList++[0]:=by
  rw[oa,gu (i:=17) (by simp),gu (by simp)]
  unfold lCp
  rw[h16,H3,qw]
  rfl
 have hll:((W (A*2 ^ s)).toList++[(0:Int)]).length=17:=by rw[eI,h16];rfl
 rw[hl]
 apply pB
 intro j hj
 rw[rh hj,jX hj]
 by_cases h:j=16
 ·subst h
  rw[ar (by rfl)]
  have MY:A<4294967296 ^ 16:=hA
  rw[gW MY] at hc ⊢
  unfold dg
  rw[gW (by omega)]
 ·rw[aA (by simpa using h),←zw (vOf 17 _) hj,yu hll,f7 _ j (by rw[hll];omega),List.getElem_append_left (by rw[h16];omega)]
  have e2:=jX (b:=4294967296) (A:=A*2 ^ s) (j:=j) (n:=16) (by omega)
  rw[←zw _ (by omega),f7 _ j (by rw[h16];omega)] at e2
  exact e2
theorem EK {A B:Nat}(hA:A<LIM)(hB:B<LIM)(JF:0<B):gl (W A) (W B)=some (W (A / B),W (A % B)):=by
 have hb:0<(4294967296:Nat):=by decide
 obtain⟨n,hn,O2,Le,xE⟩:=BB hB
 obtain⟨m,hm,Ol,hm2,hm3⟩:=BB hA
 have hn0:0<n:=by
  rcases mJ n with h|h
  ·subst h;simp at Le;omega
  ·exact h
 unfold gl
 rw[O2,ab,Ol,ab,NA hA hB,ab]
 by_cases bG:A<B
 ·rw[bb _ _ (by unfold IZ;rw[ar bG];omega),ab,z16,gO bG,gW bG]
 ·rw[a7 _ _ (by unfold IZ;rw[aA bG];split <;> omega)]
  by_cases h1:n=1
  ·subst h1
   have Rk:B<4294967296:=by simpa using Le
   have e0:(W B)[((0:Int)).toNat]! =(B:Int):=by
    have:(W B)[((0:Int)).toNat]! =(dg 4294967296 B 0:Int):=gX (by decide)
    rw[this]
    unfold dg
    rw[kX,sX,gW Rk]
   have hr:A % B<4294967296:=Bt (ep _ JF) Rk
   rw[bb _ _,e0,G_short hA JF Rk,ab,ab]
   have:=Sf (u:=A % B) (by omega)
   rw[gW hr,gO hr] at this
   dsimp only
   rw[←this]
   rfl
  ·have h2:2≤n:=by omega
   have hk:n - 1<16:=by omega
   have hBd:B / 4294967296 ^ (n - 1)=dg 4294967296 B (n - 1):=by
    have:=cO (b:=4294967296) (A:=B) (k:=n - 1)
    rw[show n - 1+1=n from by omega,gO Le,fP,bB] at this
    exact this
   obtain⟨l,FN,Cj,Om,hl4⟩:=G_Lead (x:=dg 4294967296 B (n - 1)) dgl
   have hp:0<4294967296 ^ (n - 1):=dE hb
   have O3:1≤dg 4294967296 B (n - 1):=by rw[←hBd];exact (qP hp).2 (by rw[d8];exact xE hn0)
   have hl0:0<l:=by
    rcases mJ l with h|h
    ·subst h;simp at Om;omega
    ·exact h
   have hl5:=hl4 hl0
   have hs:32 - l<32:=by omega
   have epow:2 ^ l*2 ^ (32 - l)=4294967296:=by rw[←me,show l+(32 - l)=32 from by omega]
   have epow2:2 ^ (l - 1)*2 ^ (32 - l)=2147483648:=by rw[←me,show l - 1+(32 - l)=31 from by omega]
   have hS:0<2 ^ (32 - l):=dE (by decide)
   have epn:(4294967296:Nat) ^ n=4294967296 ^ (n - 1)*4294967296:=by rw[←eZ];congr 1;omega
   have hVlo:2147483648*4294967296 ^ (n - 1)≤B*2 ^ (32 - l):=by
    have h3:2 ^ (l - 1)*4294967296 ^ (n - 1)≤B:=(qP hp).1 (by rw[hBd];exact hl5)
    calc 2147483648*4294967296 ^ (n - 1)=2 ^ (l - 1)*4294967296 ^ (n - 1)*2 ^ (32 - l):=by rw[←epow2,Ec]
     _≤B*2 ^ (32 - l):=bJ _ h3
   have hVhi:B*2 ^ (32 - l)<4294967296 ^ n:=by
    have h3:B<2 ^ l*4294967296 ^ (n - 1):=(qv hp).1 (by rw[hBd];exact Om)
    calc B*2 ^ (32 - l)<2 ^ l*4294967296 ^ (n - 1)*2 ^ (32 - l):=L5 h3 hS
     _=4294967296 ^ n:=by rw[Ec,epow,cC,←epn]
   have Hi:0<B*2 ^ (32 - l):=tL JF hS
   have hmn:n≤m:=by
    rcases bt m n with h|h
    ·have h3:4294967296 ^ m≤4294967296 ^ (n - 1):=nY hb (by omega)
     have h4:=xE hn0
     omega
    ·exact h
   have hUk:A*2 ^ (32 - l) / 4294967296 ^ (m - n+1)<B*2 ^ (32 - l):=by
    rw[qv (dE hb)]
    have h3:A<B*4294967296 ^ (m - n+1):=by
     have h4:4294967296 ^ (n - 1)*4294967296 ^ (m - n+1)≤B*4294967296 ^ (m - n+1):=bJ _ (xE hn0)
     rw[←me,show n - 1+(m - n+1)=m from by omega] at h4
     omega
    calc A*2 ^ (32 - l)<B*4294967296 ^ (m - n+1)*2 ^ (32 - l):=L5 h3 hS
     _=B*2 ^ (32 - l)*4294967296 ^ (m - n+1):=Ec _ _ _
   have eidx:i64.wrap ((m:Int) - (n:Int))=((m - n+1:Nat):Int) - 1:=by rw[cg];omega
   rw[a7 _ _,show i64.wrap ((n:Int) - 1)=((n - 1:Nat):Int) from by rw[cg];omega,aB,aJ,gX hk,FN,ab,G_up hs,ab,G_up hs,ab,ab]
   dsimp only
   rw[build17 hA hs,eidx,r16,PK h2 (by omega) hVlo hVhi hUk,ab]
   dsimp only
   have hmod:A*2 ^ (32 - l) % (B*2 ^ (32 - l))<4294967296 ^ 16:=bU (ep _ Hi) (cw (pX hVhi) (nY hb hn))
   rw[vsub 16 0 (by omega),kX,sX,G_down hmod hs,ab,Nat.mul_mod_mul_right,L4 _ hS,Nat.mul_div_mul_right _ _ hS]
theorem zR(x y:Nat):Nat.gcd x y=Nat.gcd y (x % y):=by
 rw[Nat.gcd_comm x y,Nat.gcd_rec,Nat.gcd_comm]
theorem SU(x y:Nat):aK ji ((x:Int),(y:Int))=some ((Nat.gcd x y:Nat):Int):=by
 induction y using Nat.strongRecOn generalizing x with
 |_ y ih=>
  by_cases hy:y=0
  ·subst hy
   rw[H2]
   exact cU (by dsimp only[ji];rw[a7 _ _ (by simp)])
  ·have h1:ji ((x:Int),(y:Int))=some (.inl ((y:Int),((x % y:Nat):Int))):=by
    dsimp only[ji]
    rw[bb _ _,aB,←t6]
   rw[gR h1,ih (x % y) (ep _ (by omega)) y,←zR]
theorem wr {A:Nat}(hA:A<LIM):∃n:Nat,eU (W A)=some (n:Int)∧(n≤2↔A<18446744073709551616):=by
 obtain⟨n,hn,h1,h2⟩:=BB hA
 have e:(4294967296:Nat) ^ 2=18446744073709551616:=by decide
 refine⟨n,h1,fun h=>?_,fun h=>KH (by decide) h2 (by rw[e];exact h)⟩
 have h3:4294967296 ^ n≤4294967296 ^ 2:=nY (by decide) h
 rw[e] at h3
 exact bU h2.1 h3
theorem G_Abs {a:Int}(ha:a.natAbs<LIM):rl (enc a)=some (enc (a.natAbs:Int)):=by
 unfold rl
 rw[Ak,bg ha,ab,eH,aL,nX ha,jV ha,ab]
 rfl
theorem xu {a c:Int}(ha:a.natAbs<LIM)(hc:c.natAbs<LIM)(h1:a.natAbs<18446744073709551616)(h2:c.natAbs<18446744073709551616)(p:ap→ap→Option ap):
  cT p (enc a) (enc c)=some (enc (Nat.gcd a.natAbs c.natAbs:Nat)):=by
 obtain⟨n,O2,Le⟩:=wr ha
 obtain⟨m,Ol,hm2⟩:=wr hc
 have hg:Nat.gcd a.natAbs c.natAbs<18446744073709551616:=by
  rcases mJ a.natAbs with h|h
  ·rw[h,L3];exact h2
  ·exact cD (yR _ h) h1
 have hgL:Nat.gcd a.natAbs c.natAbs<LIM:=bU hg (by decide)
 unfold cT
 rw[vy,bg ha,bg hc,ab]
 simp only[j7,eH,aL,nX ha,nX hc]
 rw[O2,ab,bb _ _ (by have:=Le.2 h1;omega),Ol,ab,ab,bb _ _ (by have:=hm2.2 h2;omega),P8 h1,P8 h2,ab,ab,SU,ab,AF,xP,AE,Sf hg,jV hgL,ab]
 rfl
theorem Kj {a:Int}(ha:a.natAbs<LIM)(p:ap→ap→Option ap):cT p (enc a) (enc 0)=some (enc (Nat.gcd a.natAbs 0:Nat)):=by
 by_cases h1:a.natAbs<18446744073709551616
 ·exact xu ha (by decide) h1 (by decide) p
 ·obtain⟨n,O2,Le⟩:=wr ha
  have hc:(0:Int).natAbs<LIM:=by decide
  unfold cT
  rw[vy,bg ha,bg hc,ab]
  simp only[j7,eH,aL,nX ha,nX hc]
  rw[O2,ab,a7 _ _ (by have:=mt Le.1 h1;omega),ab,aL,a7 _ _ (by rw[z16];exact fun h=>h rfl),G_Abs ha,ab,H2]
theorem Kk {a c:Int}(ha:a.natAbs<LIM)(hc:c.natAbs<LIM)(h0:c.natAbs≠0)(h1:¬(a.natAbs<18446744073709551616∧c.natAbs<18446744073709551616))(p:ap→ap→Option ap):
  cT p (enc a) (enc c)=p (enc (c.natAbs:Int)) (enc ((a.natAbs % c.natAbs:Nat):Int)):=by
 obtain⟨n,O2,Le⟩:=wr ha
 obtain⟨m,Ol,hm2⟩:=wr hc
 have hr:a.natAbs % c.natAbs<LIM:=cD (Nat.mod_le _ _) ha
 unfold cT
 rw[vy,bg ha,bg hc,ab]
 simp only[j7,eH,aL,nX ha,nX hc]
 rw[O2,ab,Ol,ab]
 have yb:(cnd (decide ((n:Int)≤(2:Int))) (some (decide ((m:Int)≤(2:Int)))) (some (false)))=some false:=by
  rw[fM]
  split
  ·rename_i h
   congr 1
   have h2:=Le.1 (by omega)
   exact f8 fun h3=>h1 ⟨h2,hm2.1 (by omega)⟩
  ·rfl
 rw[yb,ab,aL,z16,bb _ _ (by rw[Et hc xt];exact h0),EK ha hc (by omega),ab,jV hc,ab]
 dsimp only
 rw[jV hr,ab,pU]
 rfl
theorem Oz {x y:Nat}(hy:0<y)(hxy:y≤x):2*(y*(x % y))<x*y:=by
 have h1:=pW x y
 have h2:=ep x hy
 have h3:0<x / y:=Ef hxy hy
 have h4:y≤y*(x / y):=yQ _ h3
 have h5:2*(x % y)<x:=by omega
 have h6:2*(x % y)*y<x*y:=L5 h5 hy
 calc 2*(y*(x % y))=2*(x % y)*y:=by rw[cC y,i1]
  _<x*y:=h6
theorem Nz(n:Nat):∀{a c:Int},a.natAbs<LIM→c.natAbs<LIM→c.natAbs≤a.natAbs→a.natAbs*c.natAbs<18446744073709551616*2 ^ n→iC (n+2) (enc a) (enc c)=some (enc (Nat.gcd a.natAbs c.natAbs:Nat)):=by
 induction n with
 |zero=>
  intro a c ha hc hle hp
  show cT _ _ _=_
  by_cases h0:c.natAbs=0
  ·obtain rfl:c=0:=by omega
   exact Kj ha _
  ·have h1:a.natAbs≤a.natAbs*c.natAbs:=yQ _ (by omega)
   exact xu ha hc (by omega) (by omega) _
 |succ n ih=>
  intro a c ha hc hle hp
  show cT (iC (n+2)) _ _=_
  by_cases h0:c.natAbs=0
  ·obtain rfl:c=0:=by omega
   exact Kj ha _
  ·by_cases h1:a.natAbs<18446744073709551616∧c.natAbs<18446744073709551616
   ·exact xu ha hc h1.1 h1.2 _
   ·have h2:=Oz (vp h0) hle
    have h3:=ep a.natAbs (vp h0)
    rw[Kk ha hc h0 h1,ih (by rw[dQ];exact hc) (by rw[dQ];omega) (by rw[dQ,dQ];omega) (by rw[dQ,dQ];rw[eZ] at hp;omega),dQ,dQ,←zR]
theorem NH {a c:Int}(ha:a.natAbs<LIM)(hc:c.natAbs<LIM):oU (enc a) (enc c)=some (enc (Nat.gcd a.natAbs c.natAbs:Nat)):=by
 have e:LIM*LIM≤18446744073709551616*2 ^ 960:=by decide +kernel
 have mono:∀(n:Nat) {x y r:ap},iC n x y=some r→∀m,n≤m→iC m x y=some r:=by
  have step:∀{p q:ap→ap→Option ap},(∀{x y r},p x y=some r→q x y=some r)→∀{x y r},cT p x y=some r→cT q x y=some r:=by
   intro p q hpq x y r h
   unfold cT at h ⊢
   obtain⟨b,h1,h⟩:=ah h
   rw[h1,ab]
   cases b with
   |false=>exact h
   |true=>
    rw[eH,aL] at h ⊢
    obtain⟨b2,h2,h⟩:=ah h
    rw[h2,ab]
    cases b2 with
    |true=>exact h
    |false=>
     rw[aL] at h ⊢
     cases hd:decide (¬(y.vW=#v[(0:Int),0,0,0,0,0,0,0,0,0,0,0,0,0,0,0])) with
     |false=>rw[hd] at h;exact h
     |true=>
      rw[hd,ej] at h
      rw[ej]
      obtain⟨q1,h3,h⟩:=ah h
      rw[h3,ab]
      obtain⟨q2,h4,h⟩:=ah h
      rw[h4,ab]
      obtain⟨q3,h5,h⟩:=ah h
      rw[h5,ab]
      obtain⟨q4,h6,h⟩:=ah h
      rw[hpq h6,ab]
      exact h
  intro n
  induction n with
  |zero=>intro x y r h;cases h
  |succ n ih=>
   intro x y r h m hm
   obtain⟨m,rfl⟩:∃k,m=k+1:=⟨m - 1,by omega⟩
   exact step (fun h=>ih h m (by omega)) h
 unfold oU
 by_cases hle:c.natAbs≤a.natAbs
 ·refine mono 962 (Nz 960 ha hc hle ?_) 1000 (by decide)
  exact bU (DT ha hc) e
 ·by_cases h1:a.natAbs<18446744073709551616∧c.natAbs<18446744073709551616
  ·exact xu ha hc h1.1 h1.2 _
  ·refine mono 963 ?_ 1000 (by decide)
   show cT (iC 962) _ _=_
   rw[Kk ha hc (by omega) h1,gW (by omega),Nz 960 (by rw[dQ];exact hc) (by rw[dQ];exact ha) (by rw[dQ,dQ];omega) (by rw[dQ,dQ];exact bU (DT hc ha) e),dQ,dQ,Nat.gcd_comm]
theorem nQ {x y:Int}(hy:y≠0)(q r:Int)(h:q*y+r=x)(hr:0≤r∧r<y∨y<r∧r≤0):q=x.fdiv y∧r=x.fmod y:=by
 have h2:x.fdiv y*y+x.fmod y=x:=Int.fdiv_mul_add_fmod x y
 have hf:0≤x.fmod y∧x.fmod y<y∨y<x.fmod y∧x.fmod y≤0:=by
  rcases Int.lt_or_gt_of_ne hy with h|h
  ·right
   have h3:=Int.neg_fmod_neg x y
   have h4:=H0 (-x) (b:=-y) (by omega)
   have h5:=HZ (-x) (b:=-y) (by omega)
   omega
  ·left;exact⟨H0 _ h,HZ _ h⟩
 have hq:q=x.fdiv y:=by
  have h3:(q - x.fdiv y)*y=x.fmod y - r:=by rw[Int.sub_mul];omega
  rcases L2 (q - x.fdiv y) 0 with h4|h4|h4
  ·exfalso
   rcases hr with hr|hr <;> rcases hf with hf|hf
   ·have:(q - x.fdiv y)*y≤(-1)*y:=Sd (by omega) (by omega)
    omega
   ·omega
   ·omega
   ·have:(-1)*y≤(q - x.fdiv y)*y:=Sc (by omega) (by omega)
    omega
  ·omega
  ·exfalso
   rcases hr with hr|hr <;> rcases hf with hf|hf
   ·have:1*y≤(q - x.fdiv y)*y:=Sd (by omega) (by omega)
    omega
   ·omega
   ·omega
   ·have:(q - x.fdiv y)*y≤1*y:=Sc (by omega) (by omega)
    omega
 subst hq
 exact⟨rfl,by omega⟩
theorem IN {x y:Int}(hy:y≠0):x.tmod y<y.natAbs∧-(y.natAbs:Int)<x.tmod y:=by
 have h1:=Int.natAbs_tmod x y
 have h2:=ep x.natAbs (show 0<y.natAbs by omega)
 rw[←h1] at h2
 omega
theorem AG {x y:Int}(hy:y≠0):(cnd (decide (x.tmod y≠0)) (some (!((decide (x.tmod y<0)) == (decide (y<0))))) (some false))=some (decide (x.fdiv y≠x.tdiv y))∧(x.fdiv y≠x.tdiv y→x.fdiv y=x.tdiv y - 1∧x.fmod y=x.tmod y+y)∧(x.fdiv y=x.tdiv y→x.fmod y=x.tmod y):=by
 have e1:x.tdiv y*y+x.tmod y=x:=Int.tdiv_mul_add_tmod x y
 have e2:x.fdiv y*y+x.fmod y=x:=Int.fdiv_mul_add_fmod x y
 have hm:=IN (x:=x) hy
 rw[fM]
 by_cases h1:x.tmod y=0
 ·obtain⟨h2,h3⟩:=nQ (x:=x) hy (x.tdiv y) (x.tmod y) e1 (by omega)
  rw[aA (by simp[h1])]
  exact⟨by simp[h2],fun h=>absurd h2.symm h,fun _=>h3.symm⟩
 ·rw[ar h1]
  by_cases h2:(x.tmod y<0)↔(y<0)
  ·obtain⟨h3,h4⟩:=nQ (x:=x) hy (x.tdiv y) (x.tmod y) e1 (by omega)
   refine⟨?_,fun h=>absurd h3.symm h,fun _=>h4.symm⟩
   rw[i3.2 h2,wV]
   simp[h3]
  ·obtain⟨h3,h4⟩:=nQ (x:=x) hy (x.tdiv y - 1) (x.tmod y+y) (by rw[Int.sub_mul];omega) (by omega)
   have h5:(decide (x.tmod y<0) == decide (y<0))=false:=Bs.2 fun h=>h2 (i3.1 h)
   have h6:x.fdiv y≠x.tdiv y:=by omega
   refine⟨?_,fun _=>⟨h3.symm,h4.symm⟩,fun h=>absurd h h6⟩
   rw[h5]
   simp[h6]
theorem IP {x y:Int}(hx:-9223372036854775807≤x∧x≤9223372036854775807):-9223372036854775807≤x.tdiv y∧x.tdiv y≤9223372036854775807:=by
 have h1:(x.tdiv y).natAbs=x.natAbs / y.natAbs:=Int.natAbs_tdiv ..
 have h2:x.natAbs / y.natAbs≤x.natAbs:=qN _ _
 omega
theorem RA {x y:Int}(hx:-9223372036854775807≤x∧x≤9223372036854775807)(Jp:-9223372036854775807≤y∧y≤9223372036854775807)(hy:y≠0):
  (bnd (S:=Int×Int) (bnd (S:=Bool) (cnd (decide ((Int.tmod x y)≠(0:Int))) (some (!((decide ((Int.tmod x y)<(0:Int))) == (decide (y<(0:Int)))))) (some (false))) fun aY=>cnd aY (bnd (some (i64.wrap ((i64.wrap (Int.tdiv x y)) - (1:Int)))) fun yo=>bnd (some (i64.wrap ((Int.tmod x y)+y))) fun uJ=>some ((yo,uJ))) (some ((i64.wrap (Int.tdiv x y),Int.tmod x y)))) fun (cc,jb)=>bnd (fE cc) fun zf=>bnd (fE jb) fun Ij=>some ((.inr (zf,Ij)):Unit⊕(ap×ap)))=some (.inr (enc (x.fdiv y),enc (x.fmod y))):=by
 obtain⟨h1,h2,h3⟩:=AG (x:=x) hy
 have hq:=IP (y:=y) hx
 have hm:=IN (x:=x) hy
 rw[h1,ab]
 by_cases h:x.fdiv y=x.tdiv y
 ·have hf:=h3 h
  rw[a7 _ _ (fun hh=>hh h),ab,NM]
  dsimp only
  rw[Ig (by omega) (by omega),ab,Ig (by omega) (by omega),ab,h,hf]
 ·obtain⟨h4,h5⟩:=h2 h
  have hf:x.fmod y≤9223372036854775807∧-9223372036854775807≤x.fmod y:=by
   have:-(y.natAbs:Int)≤x.fmod y∧x.fmod y≤y.natAbs:=by
    rcases Int.lt_or_gt_of_ne hy with hl|hl
    ·have h7:=H0 (-x) (b:=-y) (by omega)
     have h8:=HZ (-x) (b:=-y) (by omega)
     have h9:=Int.neg_fmod_neg x y
     omega
    ·have h7:=H0 x (b:=y) (by omega)
     have h8:=HZ x (b:=y) (by omega)
     omega
   omega
  rw[bb _ _ h,NM (z:=Int.tdiv x y) (by omega),ab,ab,NM,NM,←h4,←h5]
  dsimp only
  rw[ab]
  dsimp only
  rw[Ig (by omega) (by omega),ab,Ig (by omega) (by omega),ab]
theorem OV {a c:Int}(ha:a.natAbs<LIM)(hc:c.natAbs<LIM)(h0:c≠0):l6 (enc a) (enc c)=some (enc (a.fdiv c),enc (a.fmod c)):=by
 have slow:∀r:Unit⊕(ap×ap),r=.inl ()→(match r with| .inl ()=>bnd (gl (enc a).vW (enc c).vW) fun Cs=>bnd (bO (!((enc a).vNeg == (enc c).vNeg)) Cs.1) fun NK=>bnd (S:=(Vector Int 16)×ap) (bnd (S:=Bool) (cnd (decide (¬(Cs.2=#v[(0:Int),0,0,0,0,0,0,0,0,0,0,0,0,0,0,0]))) (some (!((enc a).vNeg == (enc c).vNeg))) (some (false))) fun f9=>cnd f9 (bnd (fE (1:Int)) fun x44=>bnd (oT NK x44) fun x46=>bnd (iB (enc c).vW Cs.2) fun x48=>some ((x48,x46))) (some ((Cs.2,NK)))) fun (En,Em)=>bnd (bO (enc c).vNeg En) fun x51=>some (Em,x51)| .inr r=>some r)=some (enc (a.fdiv c),enc (a.fmod c)):=by
  rintro r rfl
  dsimp only
  have hr:=ep a.natAbs (show 0<c.natAbs by omega)
  have hq:a.natAbs / c.natAbs≤a.natAbs:=qN _ _
  have hdm:=pW a.natAbs c.natAbs
  rw[nX ha,nX hc,i5 ha,i5 hc,EK ha hc (by omega),ab]
  dsimp only
  rw[jV (cD hq ha),ab,z16]
  simp only[Et (Bt hr hc) xt]
  have Lk:(c.natAbs:Int)*((a.natAbs / c.natAbs:Nat):Int)+((a.natAbs % c.natAbs:Nat):Int)=(a.natAbs:Int):=by rw[←ry,←pf,hdm]
  generalize hQ:a.natAbs / c.natAbs=Q at Lk hq ⊢
  generalize hR:a.natAbs % c.natAbs=R at Lk hr ⊢
  by_cases hs:decide (a<0)=decide (c<0)
  ·have Kv:=i3.1 hs
   rw[hs,wV,eH]
   rw[show (cnd (decide (¬(R=0))) (some false) (some false))=some false from by rw[RL],ab,aL,ab]
   dsimp only[cond_false]
   rw[jV (Bt hr hc),ab]
   obtain⟨h1,h2⟩:=nQ (x:=a) h0 (Q:Int) (bif decide (c<0) then -(R:Int) else (R:Int)) (by
    by_cases Is:c<0
    ·rw[d6 Is,ix]
     have e:c=-(c.natAbs:Int):=by omega
     have e2:a=-(a.natAbs:Int):=by omega
     rw[e2,←Lk]
     conv=>lhs;rw[e]
     rw[Bw,s6];omega
    ·rw[f8 Is,cond_false]
     have e:c=(c.natAbs:Int):=by omega
     have e2:a=(a.natAbs:Int):=by omega
     rw[e2,←Lk]
     conv=>lhs;rw[e]
     rw[s6]) (by
    by_cases Is:c<0
    ·rw[d6 Is,ix];omega
    ·rw[f8 Is,cond_false];omega)
   rw[←h1,←h2]
  ·have Kv:¬((a<0)↔(c<0)):=fun h=>hs (i3.2 h)
   have hb:(decide (a<0) == decide (c<0))=false:=Bs.2 hs
   rw[hb,qQ,ix]
   have hmul:-(Q:Int)*c=(if c<0 then 1 else -1)*((c.natAbs:Int)*(Q:Int)):=by
    split
    ·have e:c=-(c.natAbs:Int):=by omega
     conv=>lhs;rw[e]
     rw[H4,Eb,s6]
    ·have e:c=(c.natAbs:Int):=by omega
     conv=>lhs;rw[e]
     rw[Eg,Eg,Eb,s6]
   by_cases Kz:R=0
   ·rw[a7 _ _ (by simpa using Kz),ab,aL,ab]
    dsimp only
    rw[jV (Bt hr hc),ab]
    obtain⟨h1,h2⟩:=nQ (x:=a) h0 (-(Q:Int)) 0 (by rw[hmul];subst Kz;split <;> omega) (by omega)
    rw[←h1,←h2]
    subst Kz
    cases decide (c<0) <;> rfl
   ·have hQ1:((-(Q:Int)).natAbs)<LIM:=by rw[Int.natAbs_neg,dQ];exact cD hq ha
    rw[bb _ _ Kz,ab,ej,Ig (by decide) (by decide),ab,G_Sub hQ1 (by decide),ab,Ie (pX hr),ab,ab]
    dsimp only
    rw[jV (cD (Nat.sub_le _ _) hc),ab]
    obtain⟨h1,h2⟩:=nQ (x:=a) h0 (-(Q:Int) - 1) (bif decide (c<0) then -((c.natAbs - R:Nat):Int) else ((c.natAbs - R:Nat):Int)) (by
     rw[Int.sub_mul,hmul]
     by_cases Is:c<0
     ·rw[d6 Is,ix,ar Is];omega
     ·rw[f8 Is,cond_false,aA Is];omega) (by
     by_cases Is:c<0
     ·rw[d6 Is,ix];omega
     ·rw[f8 Is,cond_false];omega)
    rw[←h1,←h2]
 unfold l6
 rw[vy,bg ha,bg hc,ab,j7,eH,aL,BC hc,ab,ab,a7 _ _ (by rw[L1];exact h0),NE ha,ab]
 have QS:∀z:Int,(bnd (S:=Bool) (cnd (if -9223372036854775808≤z∧z<9223372036854775808 then (z,true) else (0,false):Int×Bool).2 (some (decide ((if -9223372036854775808≤z∧z<9223372036854775808 then (z,true) else (0,false):Int×Bool).1≠(-9223372036854775808:Int)))) (some (false))) fun a=>some a)=some (decide (-9223372036854775807≤z∧z≤9223372036854775807)):=by
  intro z
  rw[pU]
  split
  ·rw[ej];congr 1;exact i3.2 (by omega)
  ·rw[aL];congr 1;exact (def_).symm
 have e1:=QS a
 have e2:=QS c
 rw[pU] at e1 e2
 rw[e1,ab,fM]
 split
 ·rename_i h1
  rw[NE hc,ab,e2,ab,fM]
  split
  ·rename_i h2
   rw[ifp_,ifp_,aB h0,aB h0,RA h1 h2 h0,ab]
  ·rw[ab];exact slow _ rfl
 ·rw[ab];exact slow _ rfl
theorem NF {a c:Int}(ha:a.natAbs<LIM)(hc:c.natAbs<LIM)(h0:c≠0):ls (enc a) (enc c)=some (enc (a.fdiv c)):=by
 unfold ls
 rw[OV ha hc h0,ab]
end
end Go.Proofs.YtgfcnncojhkcoaaGreat
