/-
  Lemmas, part 4. Conditions: none.
-/
import Derived.Test.YtgfcnncojhkcoaaGreatZ3
set_option linter.all false
set_option maxRecDepth 100000
set_option maxHeartbeats 4000000
namespace Go.Proofs.YtgfcnncojhkcoaaGreat
open Go.RowKit Go.IntKind Tryz
noncomputable section
def kJ(bS:ap):Bool×Int→Option ((Bool×Int)⊕Bool):=fun (aG,aS)=>cnd (decide (aS<(16:Int))) (bnd (S:=Bool) (cnd aG (gd (0≤aS∧aS<16) (some (decide (((bS.vW)[(aS).toNat]!)=(0:Int))))) (some (false))) fun aW=>some (.inl (aW,i64.wrap (aS+(1:Int))))) (some (.inr aG))
def qX(bS:ap):Option Bool:=bnd (aK (kJ bS) (true,(0:Int))) fun aE=>cnd bS.vBad (bnd (S:=Bool) (cnd aE (some (!bS.vNeg)) (some (false))) fun cc=>some cc) (bnd (S:=Bool) (cnd (!aE) (some (true)) (some (!bS.vNeg))) fun cF=>some cF)
theorem EZ {bS:ap}{r:Bool}(h:qX bS=some r):ax prog 152 [dG az bS] (dB r):=by
 refine bn (rs:=[.tmp 2]) (fun cx hx h0=>?_) func152
 unfold qX at h
 iterate 2 refine ra hx ?_
 refine AW.seq (ra hx ?_)
 refine AW.block ?_
 obtain⟨aE,hy,h⟩:=ah h
 refine lp (S:=Bool×Int) (X:=Bool) (fun (aG,aS)=>[(1,.pt 0 0),(3,dB aG),(4,dI .i64 aS)]) (fun (aG,aS)=>⟨[(0,dC (az.f bS))],[],1⟩) (PE cx (.exit 0) (fun aE=>[(1,.pt 0 0),(3,dB aE)]) fun aE=>⟨[(0,dC (az.f bS))],[],1⟩) hy ?_ ?_ ?_
 exact wk0 h0 [0]
 clear hy h
 rintro⟨aG,aS⟩ y h
 dsimp only[kJ] at h
 refine AW.seq (ra hx ?_)
 refine cdh h rfl (fun eF h=>?_) (fun eF h=>?_)
 refine AW.skip (AW.seq ?_)
 obtain⟨aW,hy,h⟩:=ah h
 refine jn ((PE cx .normal (fun aW=>[(1,.pt 0 0),(3,dB aW),(4,dI .i64 aS)]) fun aW=>⟨[(0,dC (az.f bS))],[],1⟩) aW) ?_ ?_
 replace h:=hy
 refine AW.block (rq hx fun K hK=>?_)
 refine mbi ?_
 rcases bE h with⟨tz,h⟩|⟨tz,h⟩
 iterate 2 refine ga tz ?_
 obtain⟨Ou,h⟩:=am h
 refine nbi hK ?_
 exact pe1 h h0 [0]
 refine nbi hK ?_
 exact pe1 h h0 [0]
 refine lw0 ?_
 refine rb hx ?_
 exact pel h h0 [0]
 exact AW.exit (per h h0 [0])
 refine lw0 ?_
 refine AW.seq (rai hx ?_)
 refine cdh h rfl (fun tX h=>?_) (fun tX h=>?_)
 refine AW.seq ?_
 obtain⟨cc,hy,h⟩:=ah h
 refine jn ((PE cx .normal (fun cc=>[(2,dB cc)]) fun cc=>⟨[],[],0⟩) cc) ?_ ?_
 replace h:=hy
 refine rq hx fun K hK=>?_
 refine mbi ?_
 rcases bE h with⟨Bd,h⟩|⟨Bd,h⟩
 refine nbi hK ?_
 exact pe1 h h0 []
 refine nbi hK ?_
 exact pe1 h h0 []
 refine lw0 ?_
 exact AW.ret (rtv h)
 refine AW.skip (AW.seq ?_)
 obtain⟨cF,hy,h⟩:=ah h
 refine jn ((PE cx .normal (fun cF=>[(2,dB cF)]) fun cF=>⟨[],[],0⟩) cF) ?_ ?_
 replace h:=hy
 refine rq hx fun K hK=>?_
 refine mbi ?_
 rcases bE h with⟨jw,h⟩|⟨jw,h⟩
 refine nbi hK ?_
 exact pe1 h h0 []
 refine nbi hK ?_
 exact pe1 h h0 []
 refine lw0 ?_
 exact AW.ret (rtv h)
def br(bS:ap):Option Bool:=bnd (qX bS) fun x1=>bnd (S:=Bool) (cnd x1 (some (!bS.vBad)) (some (false))) fun jT=>some jT
theorem cJ {bS:ap}{r:Bool}(h:br bS=some r):ax prog 118 [dG az bS] (dB r):=by
 refine bn (rs:=[.tmp 2]) (fun cx hx h0=>?_) func118
 unfold br at h
 refine ra hx ?_
 refine rs hx fun K hK=>?_
 refine mbi ?_
 refine scb h EZ fun x1 h=>?_
 refine nbi hK ?_
 refine AW.seq ?_
 obtain⟨jT,hy,h⟩:=ah h
 refine jn ((PE cx .normal (fun jT=>[(2,dB jT)]) fun jT=>⟨[],[],0⟩) jT) ?_ ?_
 replace h:=hy
 refine rq hx fun K hK=>?_
 refine mbi ?_
 rcases bE h with⟨cj,h⟩|⟨cj,h⟩
 refine nbi hK ?_
 exact pe1 h h0 []
 refine nbi hK ?_
 exact pe1 h h0 []
 refine lw0 ?_
 exact AW.ret (rtv h)
def nJ(bS:ap):Int→Option (Int⊕((Int×Bool)⊕Unit)):=fun aW=>cnd (decide (aW<(16:Int))) (gd (0≤aW∧aW<16) (cnd (decide (((bS.vW)[(aW).toNat]!)≠(0:Int))) (some (.inr (.inl ((0:Int),false)))) (some (.inl (i64.wrap (aW+(1:Int))))))) (some (.inr (.inr ())))
def c6(bS:ap):Option (Int×Bool):=bnd (br bS) fun x1=>bnd (S:=Bool) (cnd (!x1) (some (true)) (some (decide ((1073741824:Int)≤((bS.vW)[((1:Int)).toNat]!))))) fun aU=>cnd aU (some ((0:Int),false)) (bnd (aK (nJ bS) (2:Int)) fun y11=>match y11 with| .inl r=>some r| .inr ()=>bnd (some (i64.wrap ((i64.wrap ((i64.wrap ((bS.vW)[((1:Int)).toNat]!))*(4294967296:Int)))+(i64.wrap ((bS.vW)[((0:Int)).toNat]!))))) fun nV=>cnd bS.vNeg (some (i64.wrap (0 - nV),true)) (some (nV,true)))
theorem jp {bS:ap}{r:Int×Bool}(h:c6 bS=some r):ax prog 149 [dG az bS] (.tu [dI .i64 r.1,dB r.2]):=by
 refine bn (rs:=[.tmp 2,.tmp 3]) (fun cx hx h0=>?_) func149
 unfold c6 at h
 refine ra hx ?_
 refine rs hx fun K hK=>?_
 refine mbi ?_
 refine scb h cJ fun x1 h=>?_
 refine nbi hK ?_
 iterate 2 refine AW.seq ?_
 obtain⟨aU,hy,h⟩:=ah h
 refine jn ((PE cx .normal (fun aU=>[(1,.pt 0 0),(16,dB aU)]) fun aU=>⟨[(0,dC (az.f bS))],[],1⟩) aU) ?_ ?_
 replace h:=hy
 refine rq hx fun K hK=>?_
 refine mbi ?_
 rcases bE h with⟨cj,h⟩|⟨cj,h⟩
 refine nbi hK ?_
 exact pe1 h h0 [0]
 refine ga cj ?_
 refine g1 cj (vU (by decide:0≤(1:Int)∧(1:Int)<((16:Nat):Int)) da bX) ?_
 refine nbi hK ?_
 exact pe1 h h0 [0]
 refine lw0 ?_
 refine cdh h rfl (fun lZ h=>?_) (fun lZ h=>?_)
 refine ra hx ?_
 refine AW.ret ?_
 cases h
 exact rv2
 refine AW.skip (AW.seq (ra hx ?_))
 refine AW.block ?_
 obtain⟨y,hy,h⟩:=ah h
 refine lp (S:=Int) (X:=(Int×Bool)⊕Unit) (fun aW=>[(1,.pt 0 0),(5,dI .i64 aW)]) (fun aW=>⟨[(0,dC (az.f bS))],[],1⟩) (PS (PR [.tmp 2,.tmp 3] fun r=>.tu [dI .i64 r.1,dB r.2]) (PE cx (.exit 0) (fun ()=>[(1,.pt 0 0)]) fun ()=>⟨[(0,dC (az.f bS))],[],1⟩)) hy ?_ ?_ ?_
 exact wk0 h0 [0]
 clear hy h
 rintro aW y h
 dsimp only[nJ] at h
 refine AW.seq (ra hx ?_)
 refine cdh h rfl (fun tX h=>?_) (fun tX h=>?_)
 refine AW.skip (AW.seq (AW.block (rs hx fun K hK=>?_)))
 iterate 2 refine sa ?_
 obtain⟨O4,h⟩:=am h
 refine nbi hK ?_
 refine cdh h rfl (fun jw h=>?_) (fun jw h=>?_)
 refine ra hx ?_
 refine AW.ret ?_
 cases h
 refine PS.r ⟨by nofun,PS.l (PR.i ?_)⟩
 exact rv2
 refine AW.skip (rb hx ?_)
 exact pel h h0 [0]
 exact AW.exit (peq h h0 [0])
 rcases y with r|⟨⟩
 rintro ex tm' hp' ⟨rfl,hw⟩
 cases h
 exact hw
 refine lwr ?_
 refine rs hx fun K hK=>?_
 refine sa ?_
 refine s1 (vU (by decide:0≤(1:Int)∧(1:Int)<((16:Nat):Int)) da bX) ?_
 iterate 4 refine sbi ?_
 refine s1 (vU (by decide:0≤(0:Int)∧(0:Int)<((16:Nat):Int)) da bX) ?_
 iterate 3 refine sbi ?_
 obtain⟨nV,rJ,h⟩:=ah h
 replace rJ:=d5 rJ
 refine s2 (d2:=dI .i64 nV) mi (gD (congrArg (dI .i64) rJ)) ?_
 refine nl hK ?_
 refine AW.seq (rai hx ?_)
 refine cdh h rfl (fun DB h=>?_) (fun DB h=>?_)
 refine ra hx ?_
 refine AW.ret ?_
 cases h
 exact rv2
 refine AW.skip (ra hx ?_)
 refine AW.ret ?_
 cases h
 exact rv2
def ma(io:List Int):Int→Option (Int⊕Int):=fun aU=>bnd (S:=Bool) (cnd (decide ((0:Int)<aU)) (gd (0≤i64.wrap (aU - (1:Int))∧i64.wrap (aU - (1:Int))<((io).length:Int)) (some (decide (((io)[(i64.wrap (aU - (1:Int))).toNat]!)=(0:Int))))) (some (false))) fun pj=>cnd pj (some (.inl (i64.wrap (aU - (1:Int))))) (some (.inr aU))
def fI(io:List Int):Option (List Int):=bnd (aK (ma io) ((io).length:Int)) fun p7=>gd (0≤(0:Int)∧(0:Int)≤p7∧p7≤((io).length:Int)) (some (nA io (0:Int) p7))
theorem lG {io:List Int}{r:List Int}(h:fI io=some r):ax prog 157 [dL (cI .i64) io] (dL (cI .i64) r):=by
 refine bn (rs:=[.tmp 2]) (fun cx hx h0=>?_) func157
 unfold fI at h
 refine rs hx fun K hK=>?_
 refine s1 (d:=dO 0 (cI .i64) ([]:List Int)) (eC b9 bh) ?_
 refine nl hK ?_
 refine ra hx ?_
 refine AW.seq (AW.block ?_)
 obtain⟨p7,hy,h⟩:=ah h
 refine lp (S:=Int) (X:=Int) (fun aU=>[(0,dL (cI .i64) io),(3,dI .i64 aU)]) (fun aU=>⟨[],[],0⟩) (PE cx (.exit 0) (fun p7=>[(0,dL (cI .i64) io),(3,dI .i64 p7)]) fun p7=>⟨[],[],0⟩) hy ?_ ?_ ?_
 exact wk0 h0 []
 clear hy h
 rintro aU y h
 dsimp only[ma] at h
 iterate 2 refine AW.seq ?_
 obtain⟨pj,hy,h⟩:=ah h
 refine jn ((PE cx .normal (fun pj=>[(0,dL (cI .i64) io),(3,dI .i64 aU),(15,dB pj)]) fun pj=>⟨[],[],0⟩) pj) ?_ ?_
 replace h:=hy
 refine rq hx fun K hK=>?_
 refine mbi ?_
 rcases bE h with⟨eF,h⟩|⟨eF,h⟩
 iterate 3 refine ga eF ?_
 obtain⟨rk,h⟩:=am h
 have xE:(i64.wrap (aU - (1:Int))).toNat<(io).length:=by omega
 refine gbi ?_
 refine g1 eF (mh (c:=(cI .i64)) (l:=io) (n:=(i64.wrap (aU - (1:Int))).toNat) (o:=0) bh xE) ?_
 refine nbi hK ?_
 exact pe1 h h0 []
 refine nbi hK ?_
 exact pe1 h h0 []
 refine lw0 ?_
 refine cdh h rfl (fun pI h=>?_) (fun pI h=>?_)
 refine AW.skip (AW.block (rb hx ?_))
 exact pel h h0 []
 exact AW.exit (per h h0 [])
 refine lw0 ?_
 refine rs hx fun K hK=>?_
 iterate 2 refine sa ?_
 obtain⟨hc7,h⟩:=am h
 refine s1 (Sj (c:=(cI .i64)) (l:=io) (a:=(0:Int)) (b:=p7) hc7 b9 bh) ?_
 refine nbi hK ?_
 exact AW.ret (rtv h)
def fY :Option ap:=some (⟨true,false,(cQ)⟩:ap)
theorem lm  {r:ap}(h:fY=some r):ax prog 132 [] (dG az r):=by
 refine bn (rs:=[.cell 0 32]) (fun cx hx h0=>?_) func132
 unfold fY at h
 refine rai hx ?_
 refine rs hx fun K hK=>?_
 refine s1 (d:=dG az (⟨true,false,(cQ)⟩:ap)) (eT (FL.cons (y:=true) (tw cE) rfl rfl (FL.nil _)) iO) ?_
 refine nbi hK ?_
 exact AW.ret (rtv h)
def gp(x1:List Int):Int×ap→Option ((Int×ap)⊕ap):=fun (bz,nk)=>cnd (decide (bz<((x1).length:Int))) (bnd (S:=ap) (cnd (decide ((Int.tmod bz (2:Int))=(0:Int))) (gd (0≤i64.wrap (Int.tdiv bz (2:Int))∧i64.wrap (Int.tdiv bz (2:Int))<16) (gd (0≤bz∧bz<((x1).length:Int)) (gd (0≤i64.wrap (Int.tdiv bz (2:Int))∧i64.wrap (Int.tdiv bz (2:Int))<16) (bnd (some ((⟨nk.vBad,nk.vNeg,(nk.vW).set! (i64.wrap (Int.tdiv bz (2:Int))).toNat (u32.wrap (((nk.vW)[(i64.wrap (Int.tdiv bz (2:Int))).toNat]!)+(u32.wrap ((x1)[(bz).toNat]!))))⟩:ap))) fun lh=>some (lh))))) (gd (0≤i64.wrap (Int.tdiv bz (2:Int))∧i64.wrap (Int.tdiv bz (2:Int))<16) (gd (0≤bz∧bz<((x1).length:Int)) (gd (0≤i64.wrap (Int.tdiv bz (2:Int))∧i64.wrap (Int.tdiv bz (2:Int))<16) (bnd (some ((⟨nk.vBad,nk.vNeg,(nk.vW).set! (i64.wrap (Int.tdiv bz (2:Int))).toNat (u32.wrap (((nk.vW)[(i64.wrap (Int.tdiv bz (2:Int))).toNat]!)+(u32.wrap ((u32.wrap ((x1)[(bz).toNat]!))*(65536:Int)))))⟩:ap))) fun O8=>some (O8)))))) fun iG=>some (.inl (i64.wrap (bz+(1:Int)),iG))) (some (.inr nk))
def cl(zD:Bool)(io:List Int):Option ap:=bnd (fI io) fun x1=>cnd (decide ((32:Int)<((x1).length:Int))) (bnd (fY) fun x4=>some x4) (bnd (S:=ap) (cnd zD (bnd (some ((⟨false,decide ((0:Int)<((x1).length:Int)),(cQ)⟩:ap))) fun x7=>some (x7)) (some ((⟨false,false,(cQ)⟩:ap)))) fun gx=>bnd (aK (gp x1) ((0:Int),gx)) fun eY=>some eY)
theorem eQ {zD:Bool}{io:List Int}{r:ap}(h:cl zD io=some r):ax prog 147 [dB zD,dL (cI .i64) io] (dG az r):=by
 refine bn (rs:=[.cell 4 32]) (fun cx hx h0=>?_) func147
 unfold cl at h
 refine rai hx ?_
 refine rs hx fun K hK=>?_
 refine sa ?_
 refine scb h lG fun x1 h=>?_
 refine nbi hK ?_
 refine AW.seq (ra hx ?_)
 refine cdh h rfl (fun cj h=>?_) (fun cj h=>?_)
 refine rs hx fun K hK=>?_
 refine scb h lm fun x4 h=>?_
 refine nbi hK ?_
 exact AW.ret (rtv h)
 refine AW.skip (AW.seq ?_)
 obtain⟨gx,hy,h⟩:=ah h
 refine jn ((PE cx .normal (fun gx=>[(4,.pt 0 0),(5,dL (cI .i64) x1),(6,.pt 1 0)]) fun gx=>⟨[(0,dC (az.f cE)),(1,dC (az.f gx))],[],2⟩) gx) ?_ ?_
 replace h:=hy
 refine rq hx fun K hK=>?_
 refine mbi ?_
 rcases bE h with⟨lZ,h⟩|⟨lZ,h⟩
 iterate 3 refine ga lZ ?_
 refine sbi ?_
 refine s1 (d:=dG az (⟨false,decide ((0:Int)<((x1).length:Int)),(cQ)⟩:ap)) (eT (FL.cons (y:=decide ((0:Int)<((x1).length:Int))) (oS cE) rfl rfl (FL.nil _)) iO) ?_
 refine sbi ?_
 obtain⟨x7,K1,h⟩:=ah h
 replace K1:=d5 K1
 refine s0 (fq (b':=(⟨false,decide ((0:Int)<((x1).length:Int)),(cQ)⟩:ap)) (aX.id _ _) iO K1) ?_
 refine nl hK ?_
 exact pe1 h h0 [0,1]
 iterate 3 refine aT rfl rfl lZ ?_
 refine sbi ?_
 refine s1 (d:=dG az cE) (eT (FL.cons (y:=false) (oS cE) rfl rfl (FL.nil _)) iO) ?_
 refine nbi hK ?_
 exact pe1 h h0 [0,1]
 refine lw0 ?_
 refine AW.seq (ra hx ?_)
 refine AW.block ?_
 obtain⟨eY,hy,h⟩:=ah h
 refine lp (S:=Int×ap) (X:=ap) (fun (bz,nk)=>[(4,.pt 0 0),(5,dL (cI .i64) x1),(6,.pt 1 0),(7,dI .i64 bz)]) (fun (bz,nk)=>⟨[(0,dC (az.f cE)),(1,dC (az.f nk))],[],2⟩) (PE cx (.exit 0) (fun eY=>[(4,.pt 0 0),(6,.pt 1 0)]) fun eY=>⟨[(0,dC (az.f cE)),(1,dC (az.f eY))],[],2⟩) hy ?_ ?_ ?_
 exact wk0 h0 [0,1]
 clear hy h
 rintro⟨bz,nk⟩ y h
 dsimp only[gp] at h
 refine AW.seq (ra hx ?_)
 refine cdh h rfl (fun jw h=>?_) (fun jw h=>?_)
 refine AW.skip (AW.seq ?_)
 obtain⟨iG,hy,h⟩:=ah h
 refine jn ((PE cx .normal (fun iG=>[(4,.pt 0 0),(5,dL (cI .i64) x1),(6,.pt 1 0),(7,dI .i64 bz)]) fun iG=>⟨[(0,dC (az.f cE)),(1,dC (az.f iG))],[],2⟩) iG) ?_ ?_
 replace h:=hy
 refine AW.block (ra hx ?_)
 refine cdh h rfl (fun Hh h=>?_) (fun Hh h=>?_)
 refine rqd [] hx fun K hK=>?_
 iterate 5 refine sa ?_
 obtain⟨Cl,h⟩:=am h
 iterate 4 refine sbi ?_
 obtain⟨G4,h⟩:=am h
 have hn15:(bz).toNat<(x1).length:=by omega
 refine sbi ?_
 refine s1 (mh (c:=(cI .i64)) (l:=x1) (n:=(bz).toNat) (o:=0) bh hn15) ?_
 iterate 3 refine sa ?_
 obtain⟨Ox,h⟩:=am h
 have QO:(i64.wrap (Int.tdiv bz (2:Int))).toNat<16:=by omega
 refine sbi ?_
 obtain⟨lh,Dl,h⟩:=ah h
 replace Dl:=d5 Dl
 refine s0 (fq (b':=u32.wrap (((nk.vW)[(i64.wrap (Int.tdiv bz (2:Int))).toNat]!)+(u32.wrap ((x1)[(bz).toNat]!)))) (aX.comp (oR nk) (aX.vec (cI .u32) nk.vW (i64.wrap (Int.tdiv bz (2:Int))).toNat QO) (fun _=>rfl)) bX Dl) ?_
 refine nl hK ?_
 exact pe1 h h0 [0,1]
 refine rqd [] hx fun K hK=>?_
 iterate 5 refine sa ?_
 obtain⟨Ov,h⟩:=am h
 iterate 4 refine sbi ?_
 obtain⟨Jx,h⟩:=am h
 have hn23:(bz).toNat<(x1).length:=by omega
 refine sbi ?_
 refine s1 (mh (c:=(cI .i64)) (l:=x1) (n:=(bz).toNat) (o:=0) bh hn23) ?_
 iterate 4 refine sa ?_
 obtain⟨hc24,h⟩:=am h
 have hn25:(i64.wrap (Int.tdiv bz (2:Int))).toNat<16:=by omega
 refine sbi ?_
 obtain⟨O8,hx27,h⟩:=ah h
 replace hx27:=d5 hx27
 refine s0 (fq (b':=u32.wrap (((nk.vW)[(i64.wrap (Int.tdiv bz (2:Int))).toNat]!)+(u32.wrap ((u32.wrap ((x1)[(bz).toNat]!))*(65536:Int))))) (aX.comp (oR nk) (aX.vec (cI .u32) nk.vW (i64.wrap (Int.tdiv bz (2:Int))).toNat hn25) (fun _=>rfl)) bX hx27) ?_
 refine nl hK ?_
 exact pe1 h h0 [0,1]
 refine lw0 ?_
 refine rb hx ?_
 exact pel h h0 [0,1]
 exact AW.exit (per h h0 [0,1])
 refine lw0 ?_
 refine rai hx ?_
 exact AW.ret (rtv h)
def dZ(io:List Int)(cR:Int):Option Int:=cnd (decide (cR<((io).length:Int))) (gd (0≤cR∧cR<((io).length:Int)) (some ((io)[(cR).toNat]!))) (some (0:Int))
theorem gy {io:List Int}{cR:Int}{r:Int}(h:dZ io cR=some r):ax prog 158 [dL (cI .i64) io,dI .i64 cR] (dI .i64 r):=by
 refine bn (rs:=[.tmp 4]) (fun cx hx h0=>?_) func158
 unfold dZ at h
 refine ra hx ?_
 refine AW.seq (ra hx ?_)
 refine cdh h rfl (fun eF h=>?_) (fun eF h=>?_)
 refine rs hx fun K hK=>?_
 iterate 2 refine sa ?_
 obtain⟨rk,h⟩:=am h
 have xE:(cR).toNat<(io).length:=by omega
 refine sbi ?_
 refine s1 (mh (c:=(cI .i64)) (l:=io) (n:=(cR).toNat) (o:=0) bh xE) ?_
 refine nbi hK ?_
 exact AW.ret (rtv h)
 refine AW.skip (ra hx ?_)
 exact AW.ret (rtv h)
def kI(a6:List Int)(aZ:List Int):(List Int)×Int×Int→Option (((List Int)×Int×Int)⊕((List Int))):=fun (bo,bm,eu)=>cnd (decide (eu<(i64.wrap ((max ((a6).length:Int) ((aZ).length:Int))+(1:Int))))) (bnd (dZ a6 eu) fun x2=>bnd (dZ aZ eu) fun x4=>bnd (some (i64.wrap ((i64.wrap (x2+x4))+bm))) fun x6=>gd ((bo++[Int.tmod x6 (65536:Int)]).length*8≤140737488355328) (some (.inl (bo++[Int.tmod x6 (65536:Int)],i64.wrap (Int.tdiv x6 (65536:Int)),i64.wrap (eu+(1:Int)))))) (some (.inr bo))
def lR(a6:List Int)(aZ:List Int):Option (List Int):=bnd (aK (kI a6 aZ) (([]:List Int),(0:Int),(0:Int))) fun bw=>bnd (fI bw) fun iM=>some iM
theorem uP {a6:List Int}{aZ:List Int}{r:List Int}(h:lR a6 aZ=some r):ax prog 148 [dL (cI .i64) a6,dL (cI .i64) aZ] (dL (cI .i64) r):=by
 refine bn (rs:=[.tmp 4]) (fun cx hx h0=>?_) func148
 unfold lR at h
 refine rs hx fun K hK=>?_
 refine s1 (d:=dO 0 (cI .i64) ([]:List Int)) (eC b9 bh) ?_
 refine nl hK ?_
 refine rs hx fun K hK=>?_
 refine s1 (d:=dO 1 (cI .i64) ([]:List Int)) (eC b9 bh) ?_
 refine nl hK ?_
 refine ra hx ?_
 refine AW.seq (ra hx ?_)
 refine AW.block ?_
 obtain⟨bw,hy,h⟩:=ah h
 refine lp (S:=(List Int)×Int×Int) (X:=(List Int)) (fun (bo,bm,eu)=>[(0,dL (cI .i64) a6),(1,dL (cI .i64) aZ),(5,dO 0 (cI .i64) bo),(6,dI .i64 bm),(7,dI .i64 eu)]) (fun (bo,bm,eu)=>⟨[],[(0,(bo).length,1,3)],1⟩) (PE cx (.exit 0) (fun bw=>[(5,dO 0 (cI .i64) bw)]) fun bw=>⟨[],[(0,(bw).length,1,3)],1⟩) hy ?_ ?_ ?_
 exact wk0 h0 [1]
 clear hy h
 rintro⟨bo,bm,eu⟩ y h
 dsimp only[kI] at h
 refine AW.seq (ra hx ?_)
 refine cdh h rfl (fun eF h=>?_) (fun eF h=>?_)
 refine AW.skip (AW.seq (AW.block (rs hx fun K hK=>?_)))
 refine mbi ?_
 refine scb h gy fun x2 h=>?_
 refine mbi ?_
 refine scb h gy fun x4 h=>?_
 iterate 3 refine sa ?_
 obtain⟨x6,tV,h⟩:=ah h
 replace tV:=d5 tV
 refine s2 (d2:=dI .i64 x6) mi (gD (congrArg (dI .i64) tV)) ?_
 refine nl hK ?_
 refine rs hx fun K hK=>?_
 iterate 3 refine sa ?_
 refine s1 (d:=dO 1 (cI .i64) [Int.tmod x6 (65536:Int)]) (jc b9 bh) ?_
 obtain⟨O4,h⟩:=am h
 refine s1 (d:=dO 0 (cI .i64) (bo++[Int.tmod x6 (65536:Int)])) (eD b9 bh O4) ?_
 refine nbi hK ?_
 iterate 2 refine rb hx ?_
 exact pel h h0 [0]
 exact AW.exit (per h h0 [0])
 refine lw0 ?_
 refine rs hx fun K hK=>?_
 refine sa ?_
 refine scb h lG fun iM h=>?_
 refine nbi hK ?_
 exact AW.ret (rtv h)
def jZ(bF:Int):Option ap:=cnd (decide ((0:Int)≤bF)) (bnd (cl false [Int.tmod bF (65536:Int),Int.tmod (i64.wrap (Int.tdiv bF (65536:Int))) (65536:Int),Int.tmod (i64.wrap (Int.tdiv bF (4294967296:Int))) (65536:Int),i64.wrap (Int.tdiv bF (281474976710656:Int))]) fun x2=>some x2) (bnd (some (i64.wrap (0 - (i64.wrap (bF+(1:Int)))))) fun x4=>bnd (lR [Int.tmod x4 (65536:Int),Int.tmod (i64.wrap (Int.tdiv x4 (65536:Int))) (65536:Int),Int.tmod (i64.wrap (Int.tdiv x4 (4294967296:Int))) (65536:Int),i64.wrap (Int.tdiv x4 (281474976710656:Int))] [(1:Int)]) fun x6=>bnd (cl true x6) fun x8=>some x8)
theorem qA {bF:Int}{r:ap}(h:jZ bF=some r):ax prog 115 [dI .i64 bF] (dG az r):=by
 refine bn (rs:=[.cell 2 32]) (fun cx hx h0=>?_) func115
 unfold jZ at h
 refine rai hx ?_
 refine AW.seq (ra hx ?_)
 refine cdh h rfl (fun eF h=>?_) (fun eF h=>?_)
 refine rs hx fun K hK=>?_
 iterate 10 refine sa ?_
 refine s1 (d:=dO 1 (cI .i64) [Int.tmod bF (65536:Int),Int.tmod (i64.wrap (Int.tdiv bF (65536:Int))) (65536:Int),Int.tmod (i64.wrap (Int.tdiv bF (4294967296:Int))) (65536:Int),i64.wrap (Int.tdiv bF (281474976710656:Int))]) (jc b9 bh) ?_
 refine scb h eQ fun x2 h=>?_
 refine nbi hK ?_
 exact AW.ret (rtv h)
 refine AW.skip (rs hx fun K hK=>?_)
 iterate 3 refine sa ?_
 obtain⟨x4,Jq,h⟩:=ah h
 replace Jq:=d5 Jq
 refine s2 (d2:=dI .i64 x4) mi (gD (congrArg (dI .i64) Jq)) ?_
 refine nl hK ?_
 refine rs hx fun K hK=>?_
 iterate 10 refine sa ?_
 refine s1 (d:=dO 1 (cI .i64) [Int.tmod x4 (65536:Int),Int.tmod (i64.wrap (Int.tdiv x4 (65536:Int))) (65536:Int),Int.tmod (i64.wrap (Int.tdiv x4 (4294967296:Int))) (65536:Int),i64.wrap (Int.tdiv x4 (281474976710656:Int))]) (jc b9 bh) ?_
 refine s1 (d:=dO 2 (cI .i64) [(1:Int)]) (jc b9 bh) ?_
 refine scb h uP fun x6 h=>?_
 refine scb h eQ fun x8 h=>?_
 refine nbi hK ?_
 exact AW.ret (rtv h)
def jH(bS:ap):(List Int)×Int→Option (((List Int)×Int)⊕((List Int))):=fun (aG,aS)=>cnd (decide (aS<(16:Int))) (gd (0≤aS∧aS<16) (gd (0≤aS∧aS<16) (gd ((aG++[i64.wrap (Int.tmod ((bS.vW)[(aS).toNat]!) (65536:Int)),i64.wrap (u32.wrap (Int.tdiv ((bS.vW)[(aS).toNat]!) (65536:Int)))]).length*8≤140737488355328) (some (.inl (aG++[i64.wrap (Int.tmod ((bS.vW)[(aS).toNat]!) (65536:Int)),i64.wrap (u32.wrap (Int.tdiv ((bS.vW)[(aS).toNat]!) (65536:Int)))],i64.wrap (aS+(1:Int)))))))) (some (.inr aG))
def bD(bS:ap):Option (List Int):=bnd (aK (jH bS) (([]:List Int),(0:Int))) fun aE=>bnd (fI aE) fun x8=>some x8
theorem c9 {bS:ap}{r:List Int}(h:bD bS=some r):ax prog 124 [dG az bS] (dL (cI .i64) r):=by
 refine bn (rs:=[.tmp 2]) (fun cx hx h0=>?_) func124
 unfold bD at h
 refine rs hx fun K hK=>?_
 refine sa ?_
 refine s1 (d:=dO 1 (cI .i64) ([]:List Int)) (eC b9 bh) ?_
 refine nl hK ?_
 refine rs hx fun K hK=>?_
 refine s1 (d:=dO 2 (cI .i64) ([]:List Int)) (eC b9 bh) ?_
 refine nl hK ?_
 refine AW.seq (ra hx ?_)
 refine AW.block ?_
 obtain⟨aE,hy,h⟩:=ah h
 refine lp (S:=(List Int)×Int) (X:=(List Int)) (fun (aG,aS)=>[(1,.pt 0 0),(3,dO 1 (cI .i64) aG),(4,dI .i64 aS)]) (fun (aG,aS)=>⟨[(0,dC (az.f bS))],[(1,(aG).length,1,3)],2⟩) (PE cx (.exit 0) (fun aE=>[(3,dO 0 (cI .i64) aE)]) fun aE=>⟨[],[(0,(aE).length,1,3)],1⟩) hy ?_ ?_ ?_
 exact wk0 h0 [0,2]
 clear hy h
 rintro⟨aG,aS⟩ y h
 dsimp only[jH] at h
 refine AW.seq (ra hx ?_)
 refine cdh h rfl (fun eF h=>?_) (fun eF h=>?_)
 refine AW.skip (AW.seq (AW.block (rqd [] hx fun K hK=>?_)))
 iterate 3 refine sa ?_
 obtain⟨rk,h⟩:=am h
 iterate 6 refine sbi ?_
 obtain⟨Ck,h⟩:=am h
 iterate 4 refine sbi ?_
 refine s1 (By b9 bh) ?_
 obtain⟨Re,h⟩:=am h
 refine s1 (d:=dO 1 (cI .i64) (aG++[i64.wrap (Int.tmod ((bS.vW)[(aS).toNat]!) (65536:Int)),i64.wrap (u32.wrap (Int.tdiv ((bS.vW)[(aS).toNat]!) (65536:Int)))])) (eD b9 bh Re) ?_
 refine nbi hK ?_
 refine rb hx ?_
 exact pel h h0 [0,1]
 exact AW.exit (per h h0 [1])
 refine lw0 ?_
 refine rs hx fun K hK=>?_
 refine sa ?_
 refine scb h lG fun x8 h=>?_
 refine nbi hK ?_
 exact AW.ret (rtv h)
def rr(bS:ap):Option ap:=bnd (br bS) fun x1=>cnd (!x1) (bnd (fY) fun x4=>some x4) (bnd (bD bS) fun x6=>bnd (cl false x6) fun x8=>some x8)
theorem IC {bS:ap}{r:ap}(h:rr bS=some r):ax prog 153 [dG az bS] (dG az r):=by
 refine bn (rs:=[.cell 2 32]) (fun cx hx h0=>?_) func153
 unfold rr at h
 refine rai hx ?_
 refine AW.seq (rs hx fun K hK=>?_)
 refine mbi ?_
 refine scb h cJ fun x1 h=>?_
 refine nbi hK ?_
 refine cdh h rfl (fun cj h=>?_) (fun cj h=>?_)
 refine rs hx fun K hK=>?_
 refine scb h lm fun x4 h=>?_
 refine nbi hK ?_
 exact AW.ret (rtv h)
 refine AW.skip (rs hx fun K hK=>?_)
 refine mbi ?_
 refine scb h c9 fun x6 h=>?_
 refine scb h eQ fun x8 h=>?_
 refine nbi hK ?_
 exact AW.ret (rtv h)
def iX(io:List Int)(cR:Int):Option Int:=cnd (decide (cR<(0:Int))) (some (0:Int)) (bnd (dZ io cR) fun x2=>some x2)
theorem uQ {io:List Int}{cR:Int}{r:Int}(h:iX io cR=some r):ax prog 175 [dL (cI .i64) io,dI .i64 cR] (dI .i64 r):=by
 refine bn (rs:=[.tmp 4]) (fun cx hx h0=>?_) func175
 unfold iX at h
 refine ra hx ?_
 refine AW.seq (ra hx ?_)
 refine cdh h rfl (fun eF h=>?_) (fun eF h=>?_)
 refine ra hx ?_
 exact AW.ret (rtv h)
 refine AW.skip (rs hx fun K hK=>?_)
 refine mbi ?_
 refine scb h gy fun x2 h=>?_
 refine nbi hK ?_
 exact AW.ret (rtv h)
def jE(a6:List Int)(aZ:List Int)(aG:Int):Int×(List Int)→Option ((Int×(List Int))⊕((List Int))):=fun (iH,tO)=>cnd (decide (iH<((aZ).length:Int))) (gd (0≤i64.wrap (aG+iH)∧i64.wrap (aG+iH)<(((i64.wrap ((i64.wrap (((a6).length:Int)+((aZ).length:Int)))+(1:Int))).toNat:Nat):Int)∧i64.wrap (aG+iH)<((tO).length:Int)) (gd (0≤aG∧aG<((a6).length:Int)) (gd (0≤iH∧iH<((aZ).length:Int)) (gd (0≤i64.wrap (aG+iH)∧i64.wrap (aG+iH)<(((i64.wrap ((i64.wrap (((a6).length:Int)+((aZ).length:Int)))+(1:Int))).toNat:Nat):Int)∧i64.wrap (aG+iH)<((tO).length:Int)) (bnd (some ((tO).set ((i64.wrap (aG+iH)).toNat) (i64.wrap (((tO)[(i64.wrap (aG+iH)).toNat]!)+(i64.wrap (((a6)[(aG).toNat]!)*((aZ)[(iH).toNat]!))))))) fun jW=>some (.inl (i64.wrap (iH+(1:Int)),jW))))))) (some (.inr tO))
def gS(a6:List Int)(aZ:List Int):Int×Int×(List Int)→Option ((Int×Int×(List Int))⊕((List Int))):=fun (Ke,qx,uB)=>cnd (decide (qx<(((i64.wrap ((i64.wrap (((a6).length:Int)+((aZ).length:Int)))+(1:Int))).toNat:Nat):Int))) (gd (0≤qx∧qx<(((i64.wrap ((i64.wrap (((a6).length:Int)+((aZ).length:Int)))+(1:Int))).toNat:Nat):Int)∧qx<((uB).length:Int)) (bnd (some (i64.wrap (((uB)[(qx).toNat]!)+Ke))) fun lh=>gd (0≤qx∧qx<(((i64.wrap ((i64.wrap (((a6).length:Int)+((aZ).length:Int)))+(1:Int))).toNat:Nat):Int)∧qx<((uB).length:Int)) (some (.inl (i64.wrap (Int.tdiv lh (65536:Int)),i64.wrap (qx+(1:Int)),(uB).set ((qx).toNat) (Int.tmod lh (65536:Int))))))) (some (.inr uB))
def kH(a6:List Int)(aZ:List Int):Int×(List Int)→Option ((Int×(List Int))⊕((List Int))):=fun (aG,aS)=>cnd (decide (aG<((a6).length:Int))) (bnd (aK (jE a6 aZ aG) ((0:Int),aS)) fun Ae=>bnd (aK (gS a6 aZ) ((0:Int),(0:Int),Ae)) fun Ab=>some (.inl (i64.wrap (aG+(1:Int)),Ab))) (some (.inr aS))
def mp(a6:List Int)(aZ:List Int):Option (List Int):=gd (0≤i64.wrap ((i64.wrap (((a6).length:Int)+((aZ).length:Int)))+(1:Int))∧i64.wrap ((i64.wrap (((a6).length:Int)+((aZ).length:Int)))+(1:Int))≤1000000) (bnd (aK (kH a6 aZ) ((0:Int),List.replicate (i64.wrap ((i64.wrap (((a6).length:Int)+((aZ).length:Int)))+(1:Int))).toNat (0:Int))) fun aE=>gd ((i64.wrap ((i64.wrap (((a6).length:Int)+((aZ).length:Int)))+(1:Int))).toNat=(aE).length) (bnd (fI aE) fun Am=>some Am))
theorem xN {a6:List Int}{aZ:List Int}{r:List Int}(h:mp a6 aZ=some r):ax prog 151 [dL (cI .i64) a6,dL (cI .i64) aZ] (dL (cI .i64) r):=by
 refine bn (rs:=[.tmp 4]) (fun cx hx h0=>?_) func151
 unfold mp at h
 refine rs hx fun K hK=>?_
 refine s1 (d:=dO 0 (cI .i64) ([]:List Int)) (eC b9 bh) ?_
 refine nl hK ?_
 refine rs hx fun K hK=>?_
 iterate 6 refine sa ?_
 obtain⟨zQ,h⟩:=am h
 refine q1 (sMk (c:=(cI .i64)) (z0:=(0:Int)) tok zQ b9 bh (by first|rfl|kernel_rfl)) ?_
 refine nbi hK ?_
 refine AW.seq (ra hx ?_)
 refine AW.block ?_
 obtain⟨aE,hy,h⟩:=ah h
 refine lp (S:=Int×(List Int)) (X:=(List Int)) (fun (aG,aS)=>[(0,dL (cI .i64) a6),(1,dL (cI .i64) aZ),(5,.ow 0 0 1 ((i64.wrap ((i64.wrap (((a6).length:Int)+((aZ).length:Int)))+(1:Int))).toNat)),(6,dI .i64 aG)]) (fun (aG,aS)=>⟨[(0,dC ((cW (cI .i64)).f aS))],[],1⟩) (PE cx (.exit 0) (fun aE=>[(5,.ow 0 0 1 ((i64.wrap ((i64.wrap (((a6).length:Int)+((aZ).length:Int)))+(1:Int))).toNat))]) fun aE=>⟨[(0,dC ((cW (cI .i64)).f aE))],[],1⟩) hy ?_ ?_ ?_
 exact wk0 h0 [1]
 clear hy h
 rintro⟨aG,aS⟩ y h
 dsimp only[kH] at h
 refine AW.seq (ra hx ?_)
 refine cdh h rfl (fun tz h=>?_) (fun tz h=>?_)
 refine AW.skip (AW.seq (AW.block (AW.seq (ra hx ?_))))
 refine AW.block ?_
 obtain⟨Ae,hy,h⟩:=ah h
 refine lp (S:=Int×(List Int)) (X:=(List Int)) (fun (iH,tO)=>[(0,dL (cI .i64) a6),(1,dL (cI .i64) aZ),(5,.ow 0 0 1 ((i64.wrap ((i64.wrap (((a6).length:Int)+((aZ).length:Int)))+(1:Int))).toNat)),(6,dI .i64 aG),(7,dI .i64 iH)]) (fun (iH,tO)=>⟨[(0,dC ((cW (cI .i64)).f tO))],[],1⟩) (PE cx (.exit 2) (fun Ae=>[(0,dL (cI .i64) a6),(1,dL (cI .i64) aZ),(5,.ow 0 0 1 ((i64.wrap ((i64.wrap (((a6).length:Int)+((aZ).length:Int)))+(1:Int))).toNat)),(6,dI .i64 aG)]) fun Ae=>⟨[(0,dC ((cW (cI .i64)).f Ae))],[],1⟩) hy ?_ ?_ ?_
 exact wk0 h0 [0]
 clear hy h
 rintro⟨iH,tO⟩ y h
 dsimp only[jE] at h
 refine AW.seq (ra hx ?_)
 refine cdh h rfl (fun cj h=>?_) (fun cj h=>?_)
 refine AW.skip (AW.seq (AW.block (rqd [] hx fun K hK=>?_)))
 iterate 8 refine sa ?_
 obtain⟨Ck,h⟩:=am h
 have hn5:(i64.wrap (aG+iH)).toNat<(tO).length:=by omega
 refine s1 (nr ⟨Ck.1,Ck.2.1⟩ b9 bh) ?_
 refine s1 (qU (aX.seqW (cI .i64) tO ((i64.wrap (aG+iH)).toNat) hn5) bh) ?_
 iterate 2 refine sa ?_
 obtain⟨Re,h⟩:=am h
 have hn7:(aG).toNat<(a6).length:=by omega
 refine sbi ?_
 refine s1 (mh (c:=(cI .i64)) (l:=a6) (n:=(aG).toNat) (o:=0) bh hn7) ?_
 iterate 2 refine sa ?_
 obtain⟨O4,h⟩:=am h
 have Ok:(iH).toNat<(aZ).length:=by omega
 refine sbi ?_
 refine s1 (mh (c:=(cI .i64)) (l:=aZ) (n:=(iH).toNat) (o:=0) bh Ok) ?_
 iterate 2 refine sa ?_
 obtain⟨G5,h⟩:=am h
 have QQ:(i64.wrap (aG+iH)).toNat<(tO).length:=by omega
 refine s1 (nr ⟨G5.1,G5.2.1⟩ b9 bh) ?_
 obtain⟨jW,Ba,h⟩:=ah h
 replace Ba:=d5 Ba
 refine s0 (wX (b':=i64.wrap (((tO)[(i64.wrap (aG+iH)).toNat]!)+(i64.wrap (((a6)[(aG).toNat]!)*((aZ)[(iH).toNat]!))))) (aX.seqW (cI .i64) tO ((i64.wrap (aG+iH)).toNat) QQ) bh Ba) ?_
 refine nl hK ?_
 refine rb hx ?_
 exact pel h h0 [0]
 exact AW.exit (per h h0 [0])
 refine lw0 ?_
 iterate 2 refine ra hx ?_
 refine AW.block ?_
 obtain⟨Ab,hy,h⟩:=ah h
 refine lp (S:=Int×Int×(List Int)) (X:=(List Int)) (fun (Ke,qx,uB)=>[(0,dL (cI .i64) a6),(1,dL (cI .i64) aZ),(5,.ow 0 0 1 ((i64.wrap ((i64.wrap (((a6).length:Int)+((aZ).length:Int)))+(1:Int))).toNat)),(6,dI .i64 aG),(8,dI .i64 Ke),(9,dI .i64 qx)]) (fun (Ke,qx,uB)=>⟨[(0,dC ((cW (cI .i64)).f uB))],[],1⟩) (PE cx (.exit 4) (fun Ab=>[(0,dL (cI .i64) a6),(1,dL (cI .i64) aZ),(5,.ow 0 0 1 ((i64.wrap ((i64.wrap (((a6).length:Int)+((aZ).length:Int)))+(1:Int))).toNat)),(6,dI .i64 aG)]) fun Ab=>⟨[(0,dC ((cW (cI .i64)).f Ab))],[],1⟩) hy ?_ ?_ ?_
 exact wk0 h0 [0]
 clear hy h
 rintro⟨Ke,qx,uB⟩ y h
 dsimp only[gS] at h
 refine AW.seq (ra hx ?_)
 refine cdh h rfl (fun Hg h=>?_) (fun Hg h=>?_)
 refine AW.skip (AW.seq (AW.block (rs hx fun K hK=>?_)))
 iterate 2 refine sa ?_
 obtain⟨Ox,h⟩:=am h
 have QO:(qx).toNat<(uB).length:=by omega
 refine s1 (nr ⟨Ox.1,Ox.2.1⟩ b9 bh) ?_
 refine s1 (qU (aX.seqW (cI .i64) uB ((qx).toNat) QO) bh) ?_
 iterate 2 refine sa ?_
 obtain⟨lh,Dl,h⟩:=ah h
 replace Dl:=d5 Dl
 refine s2 (d2:=dI .i64 lh) mi (gD (congrArg (dI .i64) Dl)) ?_
 refine nl hK ?_
 refine rs hx fun K hK=>?_
 iterate 4 refine sa ?_
 obtain⟨Ov,h⟩:=am h
 have hn21:(qx).toNat<(uB).length:=by omega
 refine s1 (nr ⟨Ov.1,Ov.2.1⟩ b9 bh) ?_
 refine s0 (ig (b':=Int.tmod lh (65536:Int)) (aX.seqW (cI .i64) uB ((qx).toNat) hn21) bh) ?_
 refine nl hK ?_
 iterate 2 refine rb hx ?_
 exact pel h h0 [0]
 exact AW.exit (per h h0 [0])
 refine lw0 ?_
 refine rb hx ?_
 exact pel h h0 [0]
 exact AW.exit (per h h0 [0])
 refine lw0 ?_
 refine rs hx fun K hK=>?_
 refine sa ?_
 obtain⟨hc24,h⟩:=am h
 refine fzO (cI .i64) (n:=(i64.wrap ((i64.wrap (((a6).length:Int)+((aZ).length:Int)))+(1:Int))).toNat) 0 [5,70] hc24 ?_ (all2 rfl (all1 rfl))
 refine scb h lG fun Am h=>?_
 refine nbi hK ?_
 exact AW.ret (rtv h)
def mb(a6:List Int)(aZ:List Int):Int→Option (Int⊕(Bool⊕Unit)):=fun aU=>cnd (decide ((0:Int)≤aU)) (bnd (dZ a6 aU) fun x4=>bnd (dZ aZ aU) fun x6=>cnd (decide (x4≠x6)) (bnd (dZ a6 aU) fun x9=>bnd (dZ aZ aU) fun fU=>some (.inr (.inl (decide (x9<fU))))) (some (.inl (i64.wrap (aU - (1:Int)))))) (some (.inr (.inr ())))
def nK(a6:List Int)(aZ:List Int):Option Bool:=bnd (some (i64.wrap ((max ((a6).length:Int) ((aZ).length:Int)) - (1:Int)))) fun x1=>bnd (aK (mb a6 aZ) x1) fun y13=>match y13 with| .inl r=>some r| .inr ()=>some false
theorem zo {a6:List Int}{aZ:List Int}{r:Bool}(h:nK a6 aZ=some r):ax prog 171 [dL (cI .i64) a6,dL (cI .i64) aZ] (dB r):=by
 refine bn (rs:=[.tmp 4]) (fun cx hx h0=>?_) func171
 unfold nK at h
 refine ra hx ?_
 refine AW.seq (rs hx fun K hK=>?_)
 iterate 6 refine sa ?_
 obtain⟨x1,Cf,h⟩:=ah h
 replace Cf:=d5 Cf
 refine s2 (d2:=dI .i64 x1) mi (gD (congrArg (dI .i64) Cf)) ?_
 refine nl hK ?_
 refine AW.block ?_
 obtain⟨y,hy,h⟩:=ah h
 refine lp (S:=Int) (X:=Bool⊕Unit) (fun aU=>[(0,dL (cI .i64) a6),(1,dL (cI .i64) aZ),(5,dI .i64 aU)]) (fun aU=>⟨[],[],0⟩) (PS (PR [.tmp 4] fun r=>dB r) (PE cx (.exit 0) (fun ()=>[]) fun ()=>⟨[],[],0⟩)) hy ?_ ?_ ?_
 exact wk0 h0 []
 clear hy h
 rintro aU y h
 dsimp only[mb] at h
 refine AW.seq (ra hx ?_)
 refine cdh h rfl (fun cj h=>?_) (fun cj h=>?_)
 refine AW.skip (AW.seq (AW.block (rs hx fun K hK=>?_)))
 refine mbi ?_
 refine scb h gy fun x4 h=>?_
 refine mbi ?_
 refine scb h gy fun x6 h=>?_
 refine nbi hK ?_
 refine cdh h rfl (fun Bd h=>?_) (fun Bd h=>?_)
 refine rs hx fun K hK=>?_
 refine mbi ?_
 refine scb h gy fun x9 h=>?_
 refine mbi ?_
 refine scb h gy fun fU h=>?_
 refine nbi hK ?_
 refine AW.ret ?_
 cases h
 refine PS.r ⟨by nofun,PS.l (PR.i ?_)⟩
 exact rv1
 refine AW.skip (rb hx ?_)
 exact pel h h0 []
 exact AW.exit (peq h h0 [])
 rcases y with r|⟨⟩
 rintro ex tm' hp' ⟨rfl,hw⟩
 cases h
 exact hw
 refine lwr ?_
 refine ra hx ?_
 exact AW.ret (rtv h)
def jF(a6:List Int)(aZ:List Int):(List Int)×Int×Int→Option (((List Int)×Int×Int)⊕((List Int))):=fun (bo,bm,eu)=>cnd (decide (eu<((a6).length:Int))) (gd (0≤eu∧eu<((a6).length:Int)) (bnd (dZ aZ eu) fun x4=>bnd (some (i64.wrap ((i64.wrap (((a6)[(eu).toNat]!) - x4)) - bm))) fun x6=>bnd (S:=Int×Int) (cnd (decide (x6<(0:Int))) (some (((1:Int),i64.wrap (x6+(65536:Int))))) (some (((0:Int),x6)))) fun (cc,jb)=>gd ((bo++[jb]).length*8≤140737488355328) (some (.inl (bo++[jb],cc,i64.wrap (eu+(1:Int))))))) (some (.inr bo))
def iE(a6:List Int)(aZ:List Int):Option (List Int):=bnd (aK (jF a6 aZ) (([]:List Int),(0:Int),(0:Int))) fun bw=>bnd (fI bw) fun jW=>some jW
theorem qV {a6:List Int}{aZ:List Int}{r:List Int}(h:iE a6 aZ=some r):ax prog 172 [dL (cI .i64) a6,dL (cI .i64) aZ] (dL (cI .i64) r):=by
 refine bn (rs:=[.tmp 4]) (fun cx hx h0=>?_) func172
 unfold iE at h
 refine rs hx fun K hK=>?_
 refine s1 (d:=dO 0 (cI .i64) ([]:List Int)) (eC b9 bh) ?_
 refine nl hK ?_
 refine rs hx fun K hK=>?_
 refine s1 (d:=dO 1 (cI .i64) ([]:List Int)) (eC b9 bh) ?_
 refine nl hK ?_
 refine ra hx ?_
 refine AW.seq (ra hx ?_)
 refine AW.block ?_
 obtain⟨bw,hy,h⟩:=ah h
 refine lp (S:=(List Int)×Int×Int) (X:=(List Int)) (fun (bo,bm,eu)=>[(0,dL (cI .i64) a6),(1,dL (cI .i64) aZ),(5,dO 0 (cI .i64) bo),(6,dI .i64 bm),(7,dI .i64 eu)]) (fun (bo,bm,eu)=>⟨[],[(0,(bo).length,1,3)],1⟩) (PE cx (.exit 0) (fun bw=>[(5,dO 0 (cI .i64) bw)]) fun bw=>⟨[],[(0,(bw).length,1,3)],1⟩) hy ?_ ?_ ?_
 exact wk0 h0 [1]
 clear hy h
 rintro⟨bo,bm,eu⟩ y h
 dsimp only[jF] at h
 refine AW.seq (ra hx ?_)
 refine cdh h rfl (fun eF h=>?_) (fun eF h=>?_)
 refine AW.skip (AW.seq (AW.block (rsd [158] hx fun K hK=>?_)))
 iterate 2 refine sa ?_
 obtain⟨rk,h⟩:=am h
 have xE:(eu).toNat<(a6).length:=by omega
 refine sbi ?_
 refine s1 (mh (c:=(cI .i64)) (l:=a6) (n:=(eu).toNat) (o:=0) bh xE) ?_
 refine mbi ?_
 refine cqb h gy fun x4 h=>?_
 iterate 3 refine sa ?_
 obtain⟨x6,tV,h⟩:=ah h
 replace tV:=d5 tV
 refine s2 (d2:=dI .i64 x6) mi (gD (congrArg (dI .i64) tV)) ?_
 refine nl hK ?_
 refine ra hx ?_
 refine AW.seq ?_
 obtain⟨y,hy,h⟩:=ah h
 refine jn ((PE cx .normal (fun (cc,jb)=>[(0,dL (cI .i64) a6),(1,dL (cI .i64) aZ),(5,dO 0 (cI .i64) bo),(6,dI .i64 cc),(7,dI .i64 eu),(8,dI .i64 jb)]) fun (cc,jb)=>⟨[],[(0,(bo).length,1,3)],1⟩) y) ?_ ?_
 replace h:=hy
 refine ra hx ?_
 refine cdh h rfl (fun Bd h=>?_) (fun Bd h=>?_)
 refine ra hx ?_
 refine rb hx ?_
 exact pe1 h h0 [0]
 exact AW.skip (pe1 h h0 [0])
 obtain⟨cc,jb⟩:=y
 refine lw0 ?_
 refine rq hx fun K hK=>?_
 iterate 2 refine sa ?_
 refine s1 (d:=dO 1 (cI .i64) [jb]) (jc b9 bh) ?_
 obtain⟨G5,h⟩:=am h
 refine s1 (d:=dO 0 (cI .i64) (bo++[jb])) (eD b9 bh G5) ?_
 refine nbi hK ?_
 refine rb hx ?_
 exact pel h h0 [0]
 exact AW.exit (per h h0 [0])
 refine lw0 ?_
 refine rs hx fun K hK=>?_
 refine sa ?_
 refine scb h lG fun jW h=>?_
 refine nbi hK ?_
 exact AW.ret (rtv h)
def iU(aZ:List Int)(nV:List Int):Int×(List Int)→Option ((Int×(List Int))⊕(Int×(List Int))):=fun (e7,Er)=>bnd (nK nV Er) fun yo=>cnd yo (bnd (iE Er aZ) fun Mu=>some (.inl (i64.wrap (e7 - (1:Int)),Mu))) (some (.inr (e7,Er)))
def iV(a6:List Int)(aZ:List Int)(x6:Int):(List Int)×Int×(List Int)→Option (((List Int)×Int×(List Int))⊕((List Int)×(List Int))):=fun (bk,n0,wW)=>cnd (decide ((0:Int)≤n0)) (gd (0≤n0∧n0<((a6).length:Int)) (gd (([(a6)[(n0).toNat]!]++bk).length*8≤140737488355328) (bnd (fI ([(a6)[(n0).toNat]!]++bk)) fun nV=>bnd (iX nV ((aZ).length:Int)) fun qo=>bnd (iX nV (i64.wrap (((aZ).length:Int) - (1:Int)))) fun lh=>bnd (iX nV (i64.wrap (((aZ).length:Int) - (2:Int)))) fun ua=>gd (x6≠0) (bnd (some (min (65535:Int) (i64.wrap (Int.tdiv (i64.wrap ((i64.wrap ((i64.wrap (qo*(4294967296:Int)))+(i64.wrap (lh*(65536:Int)))))+ua)) x6)))) fun xx=>bnd (mp aZ [xx]) fun Am=>bnd (aK (iU aZ nV) (xx,Am)) fun (xp,Ad)=>gd (0≤n0∧n0<(((((a6).length:Int)).toNat:Nat):Int)∧n0<((wW).length:Int)) (bnd (iE nV Ad) fun KA=>some (.inl (KA,i64.wrap (n0 - (1:Int)),(wW).set ((n0).toNat) xp))))))) (some (.inr (bk,wW)))
def iW(a6:List Int)(aZ:List Int):Option ((List Int)×(List Int)):=gd (0≤((a6).length:Int)∧((a6).length:Int)≤1000000) (gd (0≤i64.wrap (((aZ).length:Int) - (1:Int))∧i64.wrap (((aZ).length:Int) - (1:Int))<((aZ).length:Int)) (bnd (iX aZ (i64.wrap (((aZ).length:Int) - (2:Int)))) fun x4=>bnd (some (i64.wrap ((i64.wrap (((aZ)[(i64.wrap (((aZ).length:Int) - (1:Int))).toNat]!)*(65536:Int)))+x4))) fun x6=>bnd (some (i64.wrap (((a6).length:Int) - (1:Int)))) fun x8=>bnd (aK (iV a6 aZ x6) (([]:List Int),x8,List.replicate (((a6).length:Int)).toNat (0:Int))) fun (Af,xr)=>gd ((((a6).length:Int)).toNat=(xr).length) (bnd (fI xr) fun NK=>some (NK,Af))))
theorem wh {a6:List Int}{aZ:List Int}{r:(List Int)×(List Int)}(h:iW a6 aZ=some r):ax prog 154 [dL (cI .i64) a6,dL (cI .i64) aZ] (.tu [dL (cI .i64) r.1,dL (cI .i64) r.2]):=by
 refine bn (rs:=[.tmp 4,.tmp 5]) (fun cx hx h0=>?_) func154
 unfold iW at h
 refine rs hx fun K hK=>?_
 refine s1 (d:=dO 0 (cI .i64) ([]:List Int)) (eC b9 bh) ?_
 refine s1 (d:=dO 1 (cI .i64) ([]:List Int)) (eC b9 bh) ?_
 refine nl hK ?_
 refine rs hx fun K hK=>?_
 iterate 2 refine sa ?_
 obtain⟨zQ,h⟩:=am h
 refine q1 (sMk (c:=(cI .i64)) (z0:=(0:Int)) tok zQ b9 bh (by first|rfl|kernel_rfl)) ?_
 refine nbi hK ?_
 refine ra hx ?_
 refine rsd [175] hx fun K hK=>?_
 iterate 3 refine sa ?_
 obtain⟨rk,h⟩:=am h
 have xE:(i64.wrap (((aZ).length:Int) - (1:Int))).toNat<(aZ).length:=by omega
 refine sbi ?_
 refine s1 (mh (c:=(cI .i64)) (l:=aZ) (n:=(i64.wrap (((aZ).length:Int) - (1:Int))).toNat) (o:=0) bh xE) ?_
 refine mbi ?_
 refine cqb h uQ fun x4 h=>?_
 refine sa ?_
 obtain⟨x6,tV,h⟩:=ah h
 replace tV:=d5 tV
 refine s2 (d2:=dI .i64 x6) mi (gD (congrArg (dI .i64) tV)) ?_
 refine nl hK ?_
 refine rs hx fun K hK=>?_
 refine s1 (d:=dO 3 (cI .i64) ([]:List Int)) (eC b9 bh) ?_
 refine nl hK ?_
 refine AW.seq (rs hx fun K hK=>?_)
 iterate 3 refine sa ?_
 obtain⟨x8,OY,h⟩:=ah h
 replace OY:=d5 OY
 refine s2 (d2:=dI .i64 x8) mi (gD (congrArg (dI .i64) OY)) ?_
 refine nl hK ?_
 refine AW.block ?_
 obtain⟨y,hy,h⟩:=ah h
 refine lp (S:=(List Int)×Int×(List Int)) (X:=(List Int)×(List Int)) (fun (bk,n0,wW)=>[(0,dL (cI .i64) a6),(1,dL (cI .i64) aZ),(6,.ow 0 0 1 ((((a6).length:Int)).toNat)),(7,dI .i64 ((aZ).length:Int)),(8,dI .i64 x6),(9,dL (cI .i64) bk),(10,dI .i64 n0)]) (fun (bk,n0,wW)=>⟨[(0,dC ((cW (cI .i64)).f wW))],[],1⟩) (PE cx (.exit 0) (fun (Af,xr)=>[(6,.ow 0 0 1 ((((a6).length:Int)).toNat)),(9,dL (cI .i64) Af)]) fun (Af,xr)=>⟨[(0,dC ((cW (cI .i64)).f xr))],[],1⟩) hy ?_ ?_ ?_
 exact wk h0 [2] (wR rfl (wR rfl (wR rfl (wR rfl (wR rfl (wT rfl (tx _) rfl rfl (wR rfl wTn))))))) (vC rfl wVn) wLn
 clear hy h
 rintro⟨bk,n0,wW⟩ y h
 dsimp only[iV] at h
 refine AW.seq (ra hx ?_)
 refine cdh h rfl (fun jw h=>?_) (fun jw h=>?_)
 refine AW.skip (AW.seq (AW.block (rs hx fun K hK=>?_)))
 iterate 2 refine sa ?_
 obtain⟨Jy,h⟩:=am h
 have hn12:(n0).toNat<(a6).length:=by omega
 refine sbi ?_
 refine s1 (mh (c:=(cI .i64)) (l:=a6) (n:=(n0).toNat) (o:=0) bh hn12) ?_
 refine s1 (d:=dO 1 (cI .i64) [(a6)[(n0).toNat]!]) (jc b9 bh) ?_
 refine sa ?_
 obtain⟨Ln,h⟩:=am h
 refine s1 (d:=dO 1 (cI .i64) ([(a6)[(n0).toNat]!]++bk)) (eD b9 bh Ln) ?_
 refine scb h lG fun nV h=>?_
 refine nbi hK ?_
 refine rs hx fun K hK=>?_
 refine mbi ?_
 refine scb h uQ fun qo h=>?_
 refine mbi ?_
 refine scb h uQ fun lh h=>?_
 refine mbi ?_
 refine scb h uQ fun ua h=>?_
 iterate 2 refine sa ?_
 obtain⟨Jx,h⟩:=am h
 refine s1 (Gj Jx) ?_
 refine sa ?_
 obtain⟨xx,hx24,h⟩:=ah h
 replace hx24:=d5 hx24
 refine s2 (d2:=dI .i64 xx) mi (gD (congrArg (dI .i64) hx24)) ?_
 refine nl hK ?_
 refine rs hx fun K hK=>?_
 iterate 2 refine sa ?_
 refine s1 (d:=dO 2 (cI .i64) [xx]) (jc b9 bh) ?_
 refine scb h xN fun Am h=>?_
 refine nbi hK ?_
 refine AW.seq (AW.block ?_)
 obtain⟨y,hy,h⟩:=ah h
 refine lp (S:=Int×(List Int)) (X:=Int×(List Int)) (fun (e7,Er)=>[(0,dL (cI .i64) a6),(1,dL (cI .i64) aZ),(6,.ow 0 0 1 ((((a6).length:Int)).toNat)),(7,dI .i64 ((aZ).length:Int)),(8,dI .i64 x6),(9,dL (cI .i64) nV),(10,dI .i64 n0),(11,dI .i64 e7),(12,dL (cI .i64) Er)]) (fun (e7,Er)=>⟨[(0,dC ((cW (cI .i64)).f wW))],[],1⟩) (PE cx (.exit 2) (fun (xp,Ad)=>[(0,dL (cI .i64) a6),(1,dL (cI .i64) aZ),(6,.ow 0 0 1 ((((a6).length:Int)).toNat)),(7,dI .i64 ((aZ).length:Int)),(8,dI .i64 x6),(9,dL (cI .i64) nV),(10,dI .i64 n0),(11,dI .i64 xp),(12,dL (cI .i64) Ad)]) fun (xp,Ad)=>⟨[(0,dC ((cW (cI .i64)).f wW))],[],1⟩) hy ?_ ?_ ?_
 exact wk0 h0 [0]
 clear hy h
 rintro⟨e7,Er⟩ y h
 dsimp only[iU] at h
 refine AW.seq (rs hx fun K hK=>?_)
 refine mbi ?_
 refine scb h zo fun yo h=>?_
 refine nl hK ?_
 refine cdh h rfl (fun hb29 h=>?_) (fun hb29 h=>?_)
 refine AW.skip (AW.block (ra hx ?_))
 refine rq hx fun K hK=>?_
 refine mbi ?_
 refine scb h qV fun Mu h=>?_
 refine nbi hK ?_
 exact pel h h0 [0]
 exact AW.exit (per h h0 [0])
 obtain⟨xp,Ad⟩:=y
 refine lw0 ?_
 refine rs hx fun K hK=>?_
 iterate 3 refine sa ?_
 obtain⟨Rf,h⟩:=am h
 have hn34:(n0).toNat<(wW).length:=by omega
 refine s1 (nr ⟨Rf.1,Rf.2.1⟩ b9 bh) ?_
 refine s0 (ig (b':=xp) (aX.seqW (cI .i64) wW ((n0).toNat) hn34) bh) ?_
 refine nl hK ?_
 refine rq hx fun K hK=>?_
 refine mbi ?_
 refine scb h qV fun KA h=>?_
 refine nbi hK ?_
 refine rb hx ?_
 exact pel h h0 [0]
 exact AW.exit (per h h0 [0])
 obtain⟨Af,xr⟩:=y
 refine lw0 ?_
 refine rs hx fun K hK=>?_
 refine sa ?_
 obtain⟨hc38,h⟩:=am h
 refine fzO (cI .i64) (n:=(((a6).length:Int)).toNat) 0 [6,81] hc38 ?_ (all2 rfl (all1 rfl))
 refine scb h lG fun NK h=>?_
 refine nbi hK ?_
 refine AW.ret ?_
 cases h
 exact rv2
def jm :Int×Int→Option ((Int×Int)⊕Int):=fun (pi,B4)=>cnd (decide (B4≠(0:Int))) (gd (B4≠0) (some (.inl (B4,Int.tmod pi B4)))) (some (.inr pi))
def jl :(List Int)×(List Int)→Option (((List Int)×(List Int))⊕((List Int))):=fun (Gb,Ek)=>cnd (decide ((0:Int)<((Ek).length:Int))) (bnd (iW Gb Ek) fun uJ=>some (.inl (Ek,uJ.2))) (some (.inr Gb))
def m8(a6:ap)(aZ:ap):Option ap:=bnd (c6 a6) fun x1=>bnd (c6 aZ) fun x3=>bnd (S:=Bool) (cnd x1.2 (some (x3.2)) (some (false))) fun aG=>cnd aG (bnd (aK (jm) (x1.1,x3.1)) fun Ag=>bnd (jZ Ag) fun fU=>bnd (rr fU) fun qz=>some qz) (bnd (S:=Bool) (bnd (br a6) fun uL=>cnd (!uL) (some (true)) (bnd (br aZ) fun lh=>some (!lh))) fun e7=>cnd e7 (bnd (fY) fun vA=>some vA) (bnd (bD a6) fun zg=>bnd (bD aZ) fun O8=>bnd (aK (jl) (zg,O8)) fun z9=>bnd (cl false z9) fun zf=>some zf))
theorem wi {a6:ap}{aZ:ap}{r:ap}(h:m8 a6 aZ=some r):ax prog 120 [dG az a6,dG az aZ] (dG az r):=by
 refine bn (rs:=[.cell 4 32]) (fun cx hx h0=>?_) func120
 unfold m8 at h
 refine rai hx ?_
 refine rs hx fun K hK=>?_
 refine mbi ?_
 refine scb h jp fun x1 h=>?_
 refine nbi hK ?_
 refine rs hx fun K hK=>?_
 refine mbi ?_
 refine scb h jp fun x3 h=>?_
 refine nbi hK ?_
 iterate 2 refine AW.seq ?_
 obtain⟨aG,hy,h⟩:=ah h
 refine jn ((PE cx .normal (fun aG=>[(2,.pt 0 0),(3,.pt 1 0),(4,.pt 2 0),(5,dI .i64 x1.1),(7,dI .i64 x3.1),(27,dB aG)]) fun aG=>⟨[(0,dC (az.f a6)),(1,dC (az.f aZ)),(2,dC (az.f cE))],[],3⟩) aG) ?_ ?_
 replace h:=hy
 refine rq hx fun K hK=>?_
 refine mbi ?_
 rcases bE h with⟨pI,h⟩|⟨pI,h⟩
 refine nbi hK ?_
 exact pe1 h h0 [0,1,2]
 refine nbi hK ?_
 exact pe1 h h0 [0,1,2]
 refine lw0 ?_
 refine cdh h rfl (fun tX h=>?_) (fun tX h=>?_)
 refine AW.seq (AW.block ?_)
 obtain⟨Ag,hy,h⟩:=ah h
 refine lp (S:=Int×Int) (X:=Int) (fun (pi,B4)=>[(4,.pt 0 0),(5,dI .i64 pi),(7,dI .i64 B4)]) (fun (pi,B4)=>⟨[(0,dC (az.f cE))],[],1⟩) (PE cx (.exit 0) (fun Ag=>[(4,.pt 0 0),(5,dI .i64 Ag)]) fun Ag=>⟨[(0,dC (az.f cE))],[],1⟩) hy ?_ ?_ ?_
 exact wk0 h0 [2]
 clear hy h
 rintro⟨pi,B4⟩ y h
 dsimp only[jm] at h
 refine AW.seq (ra hx ?_)
 refine cdh h rfl (fun Bd h=>?_) (fun Bd h=>?_)
 refine AW.skip (AW.block (rs hx fun K hK=>?_))
 iterate 2 refine sa ?_
 obtain⟨hc9,h⟩:=am h
 refine s1 (Eu hc9) ?_
 refine nbi hK ?_
 refine ra hx ?_
 refine rb hx ?_
 exact pel h h0 [0]
 exact AW.exit (per h h0 [0])
 refine lw0 ?_
 refine rs hx fun K hK=>?_
 refine sa ?_
 refine scb h qA fun fU h=>?_
 refine scb h IC fun qz h=>?_
 refine nbi hK ?_
 exact AW.ret (rtv h)
 refine AW.skip ?_
 iterate 2 refine AW.seq ?_
 obtain⟨e7,hy,h⟩:=ah h
 refine jn ((PE cx .normal (fun e7=>[(2,.pt 0 0),(3,.pt 1 0),(4,.pt 2 0),(45,dB e7)]) fun e7=>⟨[(0,dC (az.f a6)),(1,dC (az.f aZ)),(2,dC (az.f cE))],[],3⟩) e7) ?_ ?_
 replace h:=hy
 refine rq hx fun K hK=>?_
 refine mbi ?_
 refine scb h cJ fun uL h=>?_
 refine mbi ?_
 rcases bE h with⟨yF,h⟩|⟨yF,h⟩
 refine nbi hK ?_
 exact pe1 h h0 [0,1,2]
 refine gbi ?_
 refine gcb h cJ fun lh h=>?_
 refine nbi hK ?_
 exact pe1 h h0 [0,1,2]
 refine lw0 ?_
 refine cdh h rfl (fun He h=>?_) (fun He h=>?_)
 refine rs hx fun K hK=>?_
 refine scb h lm fun vA h=>?_
 refine nbi hK ?_
 exact AW.ret (rtv h)
 refine AW.skip (rs hx fun K hK=>?_)
 refine mbi ?_
 refine scb h c9 fun zg h=>?_
 refine nbi hK ?_
 refine rs hx fun K hK=>?_
 refine mbi ?_
 refine scb h c9 fun O8 h=>?_
 refine nbi hK ?_
 refine AW.seq (AW.block ?_)
 obtain⟨z9,hy,h⟩:=ah h
 refine lp (S:=(List Int)×(List Int)) (X:=(List Int)) (fun (Gb,Ek)=>[(4,.pt 0 0),(10,dL (cI .i64) Gb),(11,dL (cI .i64) Ek)]) (fun (Gb,Ek)=>⟨[(0,dC (az.f cE))],[],1⟩) (PE cx (.exit 2) (fun z9=>[(4,.pt 0 0),(10,dL (cI .i64) z9)]) fun z9=>⟨[(0,dC (az.f cE))],[],1⟩) hy ?_ ?_ ?_
 exact wk0 h0 [2]
 clear hy h
 rintro⟨Gb,Ek⟩ y h
 dsimp only[jl] at h
 refine AW.seq (ra hx ?_)
 refine cdh h rfl (fun hb28 h=>?_) (fun hb28 h=>?_)
 refine AW.skip (AW.block (rs hx fun K hK=>?_))
 refine mbi ?_
 refine scb h wh fun uJ h=>?_
 refine nbi hK ?_
 refine ra hx ?_
 refine rb hx ?_
 exact pel h h0 [0]
 exact AW.exit (per h h0 [0])
 refine lw0 ?_
 refine rs hx fun K hK=>?_
 refine sa ?_
 refine scb h eQ fun zf h=>?_
 refine nbi hK ?_
 exact AW.ret (rtv h)
def oo(bF:Int)(bq:Int):Option Int:=gd (bq≠0) (bnd (S:=Int) (bnd (S:=Bool) (gd (bq≠0) (cnd (decide ((Int.tmod bF bq)≠(0:Int))) (some (!((decide (bF<(0:Int))) == (decide (bq<(0:Int)))))) (some (false)))) fun aU=>cnd aU (bnd (some (i64.wrap ((i64.wrap (Int.tdiv bF bq)) - (1:Int)))) fun x6=>some (x6)) (some (i64.wrap (Int.tdiv bF bq)))) fun jT=>some jT)
theorem EY {bF:Int}{bq:Int}{r:Int}(h:oo bF bq=some r):ax prog 170 [dI .i64 bF,dI .i64 bq] (dI .i64 r):=by
 refine bn (rs:=[.tmp 4]) (fun cx hx h0=>?_) func170
 unfold oo at h
 refine ra hx ?_
 refine rs hx fun K hK=>?_
 iterate 2 refine sa ?_
 obtain⟨zQ,h⟩:=am h
 refine s1 (Gj zQ) ?_
 refine nbi hK ?_
 refine AW.seq ?_
 obtain⟨jT,hy,h⟩:=ah h
 refine jn ((PE cx .normal (fun jT=>[(5,dI .i64 jT)]) fun jT=>⟨[],[],0⟩) jT) ?_ ?_
 replace h:=hy
 refine AW.seq ?_
 obtain⟨aU,hy,h⟩:=ah h
 refine jn ((PE cx .normal (fun aU=>[(5,dI .i64 (i64.wrap (Int.tdiv bF bq))),(19,dB aU)]) fun aU=>⟨[],[],0⟩) aU) ?_ ?_
 replace h:=hy
 refine rq hx fun K hK=>?_
 iterate 2 refine sa ?_
 obtain⟨rk,h⟩:=am h
 refine s1 (Eu rk) ?_
 refine mbi ?_
 rcases bE h with⟨cj,h⟩|⟨cj,h⟩
 refine nbi hK ?_
 exact pe1 h h0 []
 refine nbi hK ?_
 exact pe1 h h0 []
 refine lw0 ?_
 refine cdh h rfl (fun pI h=>?_) (fun pI h=>?_)
 refine rq hx fun K hK=>?_
 iterate 2 refine sa ?_
 obtain⟨x6,tV,h⟩:=ah h
 replace tV:=d5 tV
 refine s2 (d2:=dI .i64 x6) mi (gD (congrArg (dI .i64) tV)) ?_
 refine nl hK ?_
 exact pe1 h h0 []
 exact AW.skip (pe1 h h0 [])
 refine lw0 ?_
 refine ra hx ?_
 exact AW.ret (rtv h)
def ly(a6:ap)(aZ:ap):Option ap:=bnd (c6 a6) fun x1=>bnd (c6 aZ) fun x3=>bnd (S:=Bool) (cnd x1.2 (cnd x3.2 (some (decide (x3.1≠(0:Int)))) (some (false))) (some (false))) fun aG=>cnd aG (bnd (oo x1.1 x3.1) fun x9=>bnd (jZ x9) fun fU=>some fU) (bnd (S:=Bool) (bnd (br a6) fun qz=>cnd (!qz) (some (true)) (bnd (br aZ) fun qo=>cnd (!qo) (some (true)) (bnd (bD aZ) fun uK=>some (decide (((uK).length:Int)=(0:Int)))))) fun aW=>cnd aW (bnd (fY) fun xx=>some xx) (bnd (bD a6) fun Am=>bnd (bD aZ) fun yo=>bnd (iW Am yo) fun uJ=>bnd (S:=(List Int)) (bnd (S:=Bool) (cnd (!(a6.vNeg == aZ.vNeg)) (some (decide ((0:Int)<((uJ.2).length:Int)))) (some (false))) fun iG=>cnd iG (bnd (lR uJ.1 [(1:Int)]) fun Ij=>some (Ij)) (some (uJ.1))) fun aY=>bnd (cl (!(a6.vNeg == aZ.vNeg)) aY) fun Cs=>some Cs))
theorem th {a6:ap}{aZ:ap}{r:ap}(h:ly a6 aZ=some r):ax prog 133 [dG az a6,dG az aZ] (dG az r):=by
 refine bn (rs:=[.cell 4 32]) (fun cx hx h0=>?_) func133
 unfold ly at h
 refine rai hx ?_
 refine rs hx fun K hK=>?_
 refine mbi ?_
 refine scb h jp fun x1 h=>?_
 refine nbi hK ?_
 refine rs hx fun K hK=>?_
 refine mbi ?_
 refine scb h jp fun x3 h=>?_
 refine nbi hK ?_
 iterate 2 refine AW.seq ?_
 obtain⟨aG,hy,h⟩:=ah h
 refine jn ((PE cx .normal (fun aG=>[(2,.pt 0 0),(3,.pt 1 0),(4,.pt 2 0),(5,dI .i64 x1.1),(7,dI .i64 x3.1),(28,dB aG)]) fun aG=>⟨[(0,dC (az.f a6)),(1,dC (az.f aZ)),(2,dC (az.f cE))],[],3⟩) aG) ?_ ?_
 replace h:=hy
 refine rq hx fun K hK=>?_
 refine mbi ?_
 rcases bE h with⟨pI,h⟩|⟨pI,h⟩
 refine mbi ?_
 rcases bE h with⟨lZ,h⟩|⟨lZ,h⟩
 refine nbi hK ?_
 exact pe1 h h0 [0,1,2]
 refine nbi hK ?_
 exact pe1 h h0 [0,1,2]
 refine nbi hK ?_
 exact pe1 h h0 [0,1,2]
 refine lw0 ?_
 refine cdh h rfl (fun Bd h=>?_) (fun Bd h=>?_)
 refine rs hx fun K hK=>?_
 refine mbi ?_
 refine scb h EY fun x9 h=>?_
 refine scb h qA fun fU h=>?_
 refine nbi hK ?_
 exact AW.ret (rtv h)
 refine AW.skip ?_
 iterate 2 refine AW.seq ?_
 obtain⟨aW,hy,h⟩:=ah h
 refine jn ((PE cx .normal (fun aW=>[(2,.pt 0 0),(3,.pt 1 0),(4,.pt 2 0),(46,dB aW)]) fun aW=>⟨[(0,dC (az.f a6)),(1,dC (az.f aZ)),(2,dC (az.f cE))],[],3⟩) aW) ?_ ?_
 replace h:=hy
 refine rq hx fun K hK=>?_
 refine mbi ?_
 refine scb h cJ fun qz h=>?_
 refine mbi ?_
 rcases bE h with⟨Hg,h⟩|⟨Hg,h⟩
 refine nbi hK ?_
 exact pe1 h h0 [0,1,2]
 refine gbi ?_
 refine gcb h cJ fun qo h=>?_
 refine mbi ?_
 rcases bE h with⟨Lv,h⟩|⟨Lv,h⟩
 refine nbi hK ?_
 exact pe1 h h0 [0,1,2]
 refine gbi ?_
 refine gcb h c9 fun uK h=>?_
 refine nbi hK ?_
 exact pe1 h h0 [0,1,2]
 refine lw0 ?_
 refine cdh h rfl (fun Hd h=>?_) (fun Hd h=>?_)
 refine rs hx fun K hK=>?_
 refine scb h lm fun xx h=>?_
 refine nbi hK ?_
 exact AW.ret (rtv h)
 refine AW.skip (rsd [124,154] hx fun K hK=>?_)
 refine mbi ?_
 refine cqb h c9 fun Am h=>?_
 refine mbi ?_
 refine cqb h c9 fun yo h=>?_
 refine cqb h wh fun uJ h=>?_
 refine nbi hK ?_
 refine AW.seq ?_
 obtain⟨aY,hy,h⟩:=ah h
 refine jn ((PE cx .normal (fun aY=>[(2,.pt 0 0),(3,.pt 1 0),(4,.pt 2 0),(9,dL (cI .i64) aY)]) fun aY=>⟨[(0,dC (az.f a6)),(1,dC (az.f aZ)),(2,dC (az.f cE))],[],3⟩) aY) ?_ ?_
 replace h:=hy
 refine AW.seq ?_
 obtain⟨iG,hy,h⟩:=ah h
 refine jn ((PE cx .normal (fun iG=>[(2,.pt 0 0),(3,.pt 1 0),(4,.pt 2 0),(9,dL (cI .i64) uJ.1),(65,dB iG)]) fun iG=>⟨[(0,dC (az.f a6)),(1,dC (az.f aZ)),(2,dC (az.f cE))],[],3⟩) iG) ?_ ?_
 replace h:=hy
 refine rq hx fun K hK=>?_
 refine mbi ?_
 rcases bE h with⟨DA,h⟩|⟨DA,h⟩
 refine nbi hK ?_
 exact pe1 h h0 [0,1,2]
 refine nbi hK ?_
 exact pe1 h h0 [0,1,2]
 refine lw0 ?_
 refine cdh h rfl (fun hb33 h=>?_) (fun hb33 h=>?_)
 refine rq hx fun K hK=>?_
 refine sa ?_
 refine s1 (d:=dO 3 (cI .i64) [(1:Int)]) (jc b9 bh) ?_
 refine scb h uP fun Ij h=>?_
 refine nbi hK ?_
 exact pe1 h h0 [0,1,2]
 exact AW.skip (pe1 h h0 [0,1,2])
 refine lw0 ?_
 refine rs hx fun K hK=>?_
 refine mbi ?_
 refine scb h eQ fun Cs h=>?_
 refine nbi hK ?_
 exact AW.ret (rtv h)
def jG(bF:Int):Option Bool:=bnd (S:=Bool) (cnd (decide (bF<(2147483648:Int))) (some (decide ((-2147483648:Int)<bF))) (some (false))) fun gP=>some gP
theorem zp {bF:Int}{r:Bool}(h:jG bF=some r):ax prog 150 [dI .i64 bF] (dB r):=by
 refine bn (rs:=[.tmp 2]) (fun cx hx h0=>?_) func150
 unfold jG at h
 refine ra hx ?_
 refine AW.seq ?_
 obtain⟨gP,hy,h⟩:=ah h
 refine jn ((PE cx .normal (fun gP=>[(2,dB gP)]) fun gP=>⟨[],[],0⟩) gP) ?_ ?_
 replace h:=hy
 refine rq hx fun K hK=>?_
 refine mbi ?_
 rcases bE h with⟨eF,h⟩|⟨eF,h⟩
 refine nbi hK ?_
 exact pe1 h h0 []
 refine nbi hK ?_
 exact pe1 h h0 []
 refine lw0 ?_
 exact AW.ret (rtv h)
def jJ(a6:ap)(aZ:ap):Option ap:=bnd (c6 a6) fun x1=>bnd (c6 aZ) fun x3=>bnd (S:=Bool) (cnd x1.2 (cnd x3.2 (bnd (jG x1.1) fun x7=>cnd x7 (bnd (jG x3.1) fun iM=>some (iM)) (some (false))) (some (false))) (some (false))) fun aG=>cnd aG (bnd (jZ (i64.wrap (x1.1*x3.1))) fun nV=>some nV) (bnd (S:=Bool) (bnd (br a6) fun qo=>cnd (!qo) (some (true)) (bnd (br aZ) fun uK=>some (!uK))) fun aW=>cnd aW (bnd (fY) fun xx=>some xx) (bnd (bD a6) fun Am=>bnd (bD aZ) fun yo=>bnd (mp Am yo) fun uJ=>bnd (cl (!(a6.vNeg == aZ.vNeg)) uJ) fun Gn=>some Gn))
theorem q9 {a6:ap}{aZ:ap}{r:ap}(h:jJ a6 aZ=some r):ax prog 117 [dG az a6,dG az aZ] (dG az r):=by
 refine bn (rs:=[.cell 4 32]) (fun cx hx h0=>?_) func117
 unfold jJ at h
 refine rai hx ?_
 refine rs hx fun K hK=>?_
 refine mbi ?_
 refine scb h jp fun x1 h=>?_
 refine nbi hK ?_
 refine rs hx fun K hK=>?_
 refine mbi ?_
 refine scb h jp fun x3 h=>?_
 refine nbi hK ?_
 iterate 2 refine AW.seq ?_
 obtain⟨aG,hy,h⟩:=ah h
 refine jn ((PE cx .normal (fun aG=>[(2,.pt 0 0),(3,.pt 1 0),(4,.pt 2 0),(5,dI .i64 x1.1),(7,dI .i64 x3.1),(30,dB aG)]) fun aG=>⟨[(0,dC (az.f a6)),(1,dC (az.f aZ)),(2,dC (az.f cE))],[],3⟩) aG) ?_ ?_
 replace h:=hy
 refine rq hx fun K hK=>?_
 refine mbi ?_
 rcases bE h with⟨pI,h⟩|⟨pI,h⟩
 refine mbi ?_
 rcases bE h with⟨lZ,h⟩|⟨lZ,h⟩
 refine ga lZ ?_
 refine gcb h zp fun x7 h=>?_
 refine mbi ?_
 rcases bE h with⟨G6,h⟩|⟨G6,h⟩
 refine ga G6 ?_
 refine gcb h zp fun iM h=>?_
 refine nbi hK ?_
 exact pe1 h h0 [0,1,2]
 refine nbi hK ?_
 exact pe1 h h0 [0,1,2]
 refine nbi hK ?_
 exact pe1 h h0 [0,1,2]
 refine nbi hK ?_
 exact pe1 h h0 [0,1,2]
 refine lw0 ?_
 refine cdh h rfl (fun Co h=>?_) (fun Co h=>?_)
 refine rs hx fun K hK=>?_
 refine mbi ?_
 refine scb h qA fun nV h=>?_
 refine nbi hK ?_
 exact AW.ret (rtv h)
 refine AW.skip ?_
 iterate 2 refine AW.seq ?_
 obtain⟨aW,hy,h⟩:=ah h
 refine jn ((PE cx .normal (fun aW=>[(2,.pt 0 0),(3,.pt 1 0),(4,.pt 2 0),(42,dB aW)]) fun aW=>⟨[(0,dC (az.f a6)),(1,dC (az.f aZ)),(2,dC (az.f cE))],[],3⟩) aW) ?_ ?_
 replace h:=hy
 refine rq hx fun K hK=>?_
 refine mbi ?_
 refine scb h cJ fun qo h=>?_
 refine mbi ?_
 rcases bE h with⟨Lv,h⟩|⟨Lv,h⟩
 refine nbi hK ?_
 exact pe1 h h0 [0,1,2]
 refine gbi ?_
 refine gcb h cJ fun uK h=>?_
 refine nbi hK ?_
 exact pe1 h h0 [0,1,2]
 refine lw0 ?_
 refine cdh h rfl (fun Hd h=>?_) (fun Hd h=>?_)
 refine rs hx fun K hK=>?_
 refine scb h lm fun xx h=>?_
 refine nbi hK ?_
 exact AW.ret (rtv h)
 refine AW.skip (rsd [124,151,147] hx fun K hK=>?_)
 refine mbi ?_
 refine cqb h c9 fun Am h=>?_
 refine mbi ?_
 refine cqb h c9 fun yo h=>?_
 refine cqb h xN fun uJ h=>?_
 refine cqb h eQ fun Gn h=>?_
 refine nbi hK ?_
 exact AW.ret (rtv h)
def lz(a6:ap)(aZ:ap):Option ap:=bnd (c6 a6) fun x1=>bnd (c6 aZ) fun x3=>bnd (S:=Bool) (cnd x1.2 (some (x3.2)) (some (false))) fun aG=>cnd aG (bnd (jZ (i64.wrap (x1.1+x3.1))) fun x8=>some x8) (bnd (S:=Bool) (bnd (br a6) fun iM=>cnd (!iM) (some (true)) (bnd (br aZ) fun qz=>some (!qz))) fun aW=>cnd aW (bnd (fY) fun pk=>some pk) (bnd (bD a6) fun uK=>bnd (bD aZ) fun te=>cnd (a6.vNeg == aZ.vNeg) (bnd (lR uK te) fun zg=>bnd (cl a6.vNeg zg) fun O8=>some O8) (bnd (nK uK te) fun Ik=>cnd Ik (bnd (iE te uK) fun Gn=>bnd (cl aZ.vNeg Gn) fun Aq=>some Aq) (bnd (iE uK te) fun KA=>bnd (cl a6.vNeg KA) fun Cs=>some Cs))))
theorem IB {a6:ap}{aZ:ap}{r:ap}(h:lz a6 aZ=some r):ax prog 134 [dG az a6,dG az aZ] (dG az r):=by
 refine bn (rs:=[.cell 4 32]) (fun cx hx h0=>?_) func134
 unfold lz at h
 refine rai hx ?_
 refine rs hx fun K hK=>?_
 refine mbi ?_
 refine scb h jp fun x1 h=>?_
 refine nbi hK ?_
 refine rs hx fun K hK=>?_
 refine mbi ?_
 refine scb h jp fun x3 h=>?_
 refine nbi hK ?_
 iterate 2 refine AW.seq ?_
 obtain⟨aG,hy,h⟩:=ah h
 refine jn ((PE cx .normal (fun aG=>[(2,.pt 0 0),(3,.pt 1 0),(4,.pt 2 0),(5,dI .i64 x1.1),(7,dI .i64 x3.1),(25,dB aG)]) fun aG=>⟨[(0,dC (az.f a6)),(1,dC (az.f aZ)),(2,dC (az.f cE))],[],3⟩) aG) ?_ ?_
 replace h:=hy
 refine rq hx fun K hK=>?_
 refine mbi ?_
 rcases bE h with⟨pI,h⟩|⟨pI,h⟩
 refine nbi hK ?_
 exact pe1 h h0 [0,1,2]
 refine nbi hK ?_
 exact pe1 h h0 [0,1,2]
 refine lw0 ?_
 refine cdh h rfl (fun tX h=>?_) (fun tX h=>?_)
 refine rs hx fun K hK=>?_
 refine mbi ?_
 refine scb h qA fun x8 h=>?_
 refine nbi hK ?_
 exact AW.ret (rtv h)
 refine AW.skip ?_
 iterate 2 refine AW.seq ?_
 obtain⟨aW,hy,h⟩:=ah h
 refine jn ((PE cx .normal (fun aW=>[(2,.pt 0 0),(3,.pt 1 0),(4,.pt 2 0),(37,dB aW)]) fun aW=>⟨[(0,dC (az.f a6)),(1,dC (az.f aZ)),(2,dC (az.f cE))],[],3⟩) aW) ?_ ?_
 replace h:=hy
 refine rq hx fun K hK=>?_
 refine mbi ?_
 refine scb h cJ fun iM h=>?_
 refine mbi ?_
 rcases bE h with⟨wB,h⟩|⟨wB,h⟩
 refine nbi hK ?_
 exact pe1 h h0 [0,1,2]
 refine gbi ?_
 refine gcb h cJ fun qz h=>?_
 refine nbi hK ?_
 exact pe1 h h0 [0,1,2]
 refine lw0 ?_
 refine cdh h rfl (fun DB h=>?_) (fun DB h=>?_)
 refine rs hx fun K hK=>?_
 refine scb h lm fun pk h=>?_
 refine nbi hK ?_
 exact AW.ret (rtv h)
 refine AW.skip (rs hx fun K hK=>?_)
 refine mbi ?_
 refine scb h c9 fun uK h=>?_
 refine nbi hK ?_
 refine rs hx fun K hK=>?_
 refine mbi ?_
 refine scb h c9 fun te h=>?_
 refine nbi hK ?_
 refine AW.seq (rai hx ?_)
 refine cdh h rfl (fun Rh h=>?_) (fun Rh h=>?_)
 refine rsd [148,147] hx fun K hK=>?_
 refine mbi ?_
 refine cqb h uP fun zg h=>?_
 refine cqb h eQ fun O8 h=>?_
 refine nbi hK ?_
 exact AW.ret (rtv h)
 refine AW.skip (rs hx fun K hK=>?_)
 refine mbi ?_
 refine scb h zo fun Ik h=>?_
 refine nbi hK ?_
 refine AW.seq (ra hx ?_)
 refine cdh h rfl (fun xG h=>?_) (fun xG h=>?_)
 refine rsd [172,147] hx fun K hK=>?_
 refine mbi ?_
 refine cqb h qV fun Gn h=>?_
 refine cqb h eQ fun Aq h=>?_
 refine nbi hK ?_
 exact AW.ret (rtv h)
 refine AW.skip (rsd [172,147] hx fun K hK=>?_)
 refine mbi ?_
 refine cqb h qV fun KA h=>?_
 refine cqb h eQ fun Cs h=>?_
 refine nbi hK ?_
 exact AW.ret (rtv h)
def pc(bS:ap):Option ap:=bnd (br bS) fun x1=>cnd (!x1) (bnd (fY) fun x4=>some x4) (bnd (bD bS) fun x6=>bnd (cl (!bS.vNeg) x6) fun x8=>some x8)
theorem BI {bS:ap}{r:ap}(h:pc bS=some r):ax prog 123 [dG az bS] (dG az r):=by
 refine bn (rs:=[.cell 2 32]) (fun cx hx h0=>?_) func123
 unfold pc at h
 refine rai hx ?_
 refine AW.seq (rs hx fun K hK=>?_)
 refine mbi ?_
 refine scb h cJ fun x1 h=>?_
 refine nbi hK ?_
 refine cdh h rfl (fun cj h=>?_) (fun cj h=>?_)
 refine rs hx fun K hK=>?_
 refine scb h lm fun x4 h=>?_
 refine nbi hK ?_
 exact AW.ret (rtv h)
 refine AW.skip (rsd [124,147] hx fun K hK=>?_)
 refine mbi ?_
 refine cqb h c9 fun x6 h=>?_
 refine cqb h eQ fun x8 h=>?_
 refine nbi hK ?_
 exact AW.ret (rtv h)
def jI(bS:ap):Option Int:=bnd (S:=Bool) (bnd (br bS) fun x1=>cnd (!x1) (some (true)) (bnd (bD bS) fun x4=>some (decide (((x4).length:Int)=(0:Int))))) fun a8=>cnd a8 (some (0:Int)) (cnd bS.vNeg (some (-1:Int)) (some (1:Int)))
theorem sb {bS:ap}{r:Int}(h:jI bS=some r):ax prog 119 [dG az bS] (dI .i64 r):=by
 refine bn (rs:=[.tmp 2]) (fun cx hx h0=>?_) func119
 unfold jI at h
 refine ra hx ?_
 iterate 2 refine AW.seq ?_
 obtain⟨a8,hy,h⟩:=ah h
 refine jn ((PE cx .normal (fun a8=>[(1,.pt 0 0),(11,dB a8)]) fun a8=>⟨[(0,dC (az.f bS))],[],1⟩) a8) ?_ ?_
 replace h:=hy
 refine rq hx fun K hK=>?_
 refine mbi ?_
 refine scb h cJ fun x1 h=>?_
 refine mbi ?_
 rcases bE h with⟨cj,h⟩|⟨cj,h⟩
 refine nbi hK ?_
 exact pe1 h h0 [0]
 refine gbi ?_
 refine gcb h c9 fun x4 h=>?_
 refine nbi hK ?_
 exact pe1 h h0 [0]
 refine lw0 ?_
 refine cdh h rfl (fun tX h=>?_) (fun tX h=>?_)
 refine ra hx ?_
 exact AW.ret (rtv h)
 refine AW.skip (AW.seq (rai hx ?_))
 refine cdh h rfl (fun Bd h=>?_) (fun Bd h=>?_)
 refine ra hx ?_
 exact AW.ret (rtv h)
 refine AW.skip (ra hx ?_)
 exact AW.ret (rtv h)
def rp(io:List Int)(cR:Int):Option Int:=bnd (dZ io (i64.wrap (Int.tdiv cR (16:Int)))) fun x1=>gd (0≤Int.tmod cR (16:Int)) (some (Int.tmod (mX .i64 x1 (Int.tmod cR (16:Int))) (2:Int)))
theorem IA {io:List Int}{cR:Int}{r:Int}(h:rp io cR=some r):ax prog 125 [dL (cI .i64) io,dI .i64 cR] (dI .i64 r):=by
 refine bn (rs:=[.tmp 4]) (fun cx hx h0=>?_) func125
 unfold rp at h
 refine ra hx ?_
 refine rs hx fun K hK=>?_
 refine mbi ?_
 refine scb h gy fun x1 h=>?_
 iterate 2 refine sa ?_
 obtain⟨Ou,h⟩:=am h
 refine s1 (Sk Ou) ?_
 refine nbi hK ?_
 exact AW.ret (rtv h)
def nL(x4:List Int):Int→Option (Int⊕Int):=fun aW=>bnd (S:=Bool) (cnd (decide ((0:Int)<aW)) (bnd (rp x4 (i64.wrap (aW - (1:Int)))) fun x9=>some (decide (x9=(0:Int)))) (some (false))) fun ph=>cnd ph (some (.inl (i64.wrap (aW - (1:Int))))) (some (.inr aW))
def eV(bS:ap):Option Int:=bnd (br bS) fun x1=>cnd (!x1) (some (0:Int)) (bnd (bD bS) fun x4=>bnd (some (i64.wrap ((16:Int)*((x4).length:Int)))) fun x6=>bnd (aK (nL x4) x6) fun fS=>some fS)
theorem zq {bS:ap}{r:Int}(h:eV bS=some r):ax prog 83 [dG az bS] (dI .i64 r):=by
 refine bn (rs:=[.tmp 2]) (fun cx hx h0=>?_) func83
 unfold eV at h
 refine ra hx ?_
 refine AW.seq (rs hx fun K hK=>?_)
 refine mbi ?_
 refine scb h cJ fun x1 h=>?_
 refine nbi hK ?_
 refine cdh h rfl (fun cj h=>?_) (fun cj h=>?_)
 refine ra hx ?_
 exact AW.ret (rtv h)
 refine AW.skip (rs hx fun K hK=>?_)
 refine mbi ?_
 refine scb h c9 fun x4 h=>?_
 refine nbi hK ?_
 refine rs hx fun K hK=>?_
 iterate 3 refine sa ?_
 obtain⟨x6,tV,h⟩:=ah h
 replace tV:=d5 tV
 refine s2 (d2:=dI .i64 x6) mi (gD (congrArg (dI .i64) tV)) ?_
 refine nl hK ?_
 refine AW.seq (AW.block ?_)
 obtain⟨fS,hy,h⟩:=ah h
 refine lp (S:=Int) (X:=Int) (fun aW=>[(3,dL (cI .i64) x4),(4,dI .i64 aW)]) (fun aW=>⟨[],[],0⟩) (PE cx (.exit 0) (fun fS=>[(4,dI .i64 fS)]) fun fS=>⟨[],[],0⟩) hy ?_ ?_ ?_
 exact wk0 h0 []
 clear hy h
 rintro aW y h
 dsimp only[nL] at h
 iterate 2 refine AW.seq ?_
 obtain⟨ph,hy,h⟩:=ah h
 refine jn ((PE cx .normal (fun ph=>[(3,dL (cI .i64) x4),(4,dI .i64 aW),(21,dB ph)]) fun ph=>⟨[],[],0⟩) ph) ?_ ?_
 replace h:=hy
 refine rq hx fun K hK=>?_
 refine mbi ?_
 rcases bE h with⟨Bd,h⟩|⟨Bd,h⟩
 iterate 3 refine ga Bd ?_
 refine gcb h IA fun x9 h=>?_
 refine nbi hK ?_
 exact pe1 h h0 []
 refine nbi hK ?_
 exact pe1 h h0 []
 refine lw0 ?_
 refine cdh h rfl (fun wB h=>?_) (fun wB h=>?_)
 refine AW.skip (AW.block (rb hx ?_))
 exact pel h h0 []
 exact AW.exit (per h h0 [])
 refine lw0 ?_
 refine ra hx ?_
 exact AW.ret (rtv h)
structure ai where
 vN:ap
 vD:ap
 deriving Inhabited,DecidableEq
abbrev co:ai:=⟨cE,cE⟩
def ae:Cd ai:=⟨36,fun x=>az.f x.vN++az.f x.vD,fun x=>by simp[az.h,show az.sz=18 from rfl]⟩
theorem oP(x:ai):aX (ae.f x) az 0 x.vN (fun y=>ae.f (⟨y,x.vD⟩:ai)):=
 aX.of ([]) ((az).f x.vD) (by first|rfl|(simp[az.h];first|rfl|done)) (by first|rfl|simp[ae,cI,cB,cS,cL,fy]) (fun y=>by first|rfl|simp[ae,cI,cB,cS,cL,fy])
theorem oQ(x:ai):aX (ae.f x) az 18 x.vD (fun y=>ae.f (⟨x.vN,y⟩:ai)):=
 aX.of ((az).f x.vN) ([]) (by first|rfl|(simp[az.h];first|rfl|done)) (by first|rfl|simp[ae,cI,cB,cS,cL,fy]) (fun y=>by first|rfl|simp[ae,cI,cB,cS,cL,fy])
section
variable {md:Md} {ops:Array Oper} {K:List (Nat×D)→Hp→Prop} {os:List Oper} {tm:List (Nat×D)} {hp hp':Hp} {t s:Tmp} {op:Op} {ty:TypeId} {pos:String} {af:Array Edge} {d d2:D} {j:Nat} {want c:Bool}
variable {dr:Bool} {ev:Operand→D}
theorem avr(h:AVC prog tbl dr op ty ev hp (Kq d hp'):=by (first|exact av|exact KV_l (aX.id _ _)|exact lB (F:=al_cV.f (cQ)) da|exact qU (oS _) tbI|exact qU (tw _) tbI|exact nq (oR _) tbI|exact KV_l (oR _)|exact lB (F:=az.f (⟨false,false,(cQ)⟩:ap)) iO|exact nq (oQ _) tbI|exact nq (oP _) tbI|exact lB (F:=ae.f (⟨(⟨false,false,(cQ)⟩:ap),(⟨false,false,(cQ)⟩:ap)⟩:ai)) aC|exact bK tbI|exact bp tbI)):AVC prog tbl dr op ty ev hp (Kq d hp'):=h
theorem sbr(h2:ba prog tbl md ops K os ((t,d)::tm) hp')(h:AVC prog tbl md.dr op ty (evD tm) hp (Kq d hp'):=by exact avr)(hn:md.nc tbl op=true:=by exact rfl):ba prog tbl md ops K (⟨some t,op,ty,pos,af,none⟩::os) tm hp:=st tok hn h h2
theorem tzr(h2:ba prog tbl md ops K os tm hp')(h:AVC prog tbl md.dr op ty (evD tm) hp (Kq .top hp'):=by (first|exact KV_s))(hn:md.nc tbl op=true:=by exact rfl):ba prog tbl md ops K (⟨none,op,ty,pos,af,none⟩::os) tm hp:=st_n tok hn h h2
theorem gbr(h2:ba prog tbl md ops K os ((t,d)::tm) hp')(hj:(ops[j]?).bind (·.dst)=some s:=by exact rfl)(hc:tm.lookup s=some (.e (.lit (.bool c))):=by exact rfl)(hw:c=want:=by (with_reducible first|rfl|assumption))(h:AVC prog tbl md.dr op ty (evD tm) hp (Kq d hp'):=by exact avr)(hn:md.nc tbl op=true:=by exact rfl):ba prog tbl md ops K (⟨some t,op,ty,pos,af,some (j,want)⟩::os) tm hp:=OE tok hn hj hc hw h h2
theorem mbr {os':List Oper}{tm':List (Nat×D)}(h2:ba prog tbl md ops K os' tm' hp')(h:ba prog tbl md ops K os' tm' hp'→ba prog tbl md ops K os tm hp:=by (intro h;(repeat (first|refine sbr ?_|refine tzr ?_|refine gbr ?_|refine I3 ?_));exact h)):ba prog tbl md ops K os tm hp:=h h2
theorem nbr {R:List (Nat×D)→Hp→Prop}{tm':List (Nat×D)}(hK:∀tm hp,R tm hp→K tm hp)(h2:R tm' hp')(h:K tm' hp'→ba prog tbl md ops K os tm hp:=by (intro h;(repeat (first|refine sbr ?_|refine tzr ?_|refine gbr ?_|refine I3 ?_));exact .nil h)):ba prog tbl md ops K os tm hp:=h (hK _ _ h2)
end
section
variable {x:Cx} {tm:List (Nat×D)} {hp hp':Hp} {Q:Exit→List (Nat×D)→Hp→Prop}
theorem rar {n id:Nat}{l:List Oper}{b:Code}{tm':List (Nat×D)}(hx:x.N=n)(h2:AW prog x b tm' hp' Q)(h:∀K:List (Nat×D)→Hp→Prop,K tm' hp'→ba prog tbl .seq l.toArray K l tm hp:=by (intro K h;(repeat (first|refine sbr ?_|refine tzr ?_|refine gbr ?_|refine I3 ?_));exact .nil h))(hN:iZ n l.toArray=true:=by kernel_rfl):AW prog x (.seq (.region id l.toArray false) b) tm hp Q:=rs hx (fun K hK=>h K (hK _ _ h2)) hN
theorem rbr {n id:Nat}{l:List Oper}{tm':List (Nat×D)}(hx:x.N=n)(h2:Q .normal tm' hp')(h:∀K:List (Nat×D)→Hp→Prop,K tm' hp'→ba prog tbl .seq l.toArray K l tm hp:=by (intro K h;(repeat (first|refine sbr ?_|refine tzr ?_|refine gbr ?_|refine I3 ?_));exact .nil h))(hN:iZ n l.toArray=true:=by kernel_rfl):AW prog x (.region id l.toArray false) tm hp Q:=rq hx (fun K hK=>h K (hK _ _ h2)) hN
end
def CT(x:ap):List Value:=[Value.bool x.vBad]++([Value.bool x.vNeg]++((x.vW).toList.flatMap (fun x=>[Value.int .u32 x])++([])))
theorem gV:EqC tbl 3 32 az CT:=by
 refine EqC.struct (fs:=[(0,4),(1,4),(2,30)]) iO (fun x=>?_) (fun x=>by
  have q3:uw tbl (oH tbl 2) [] 18 []:=by unfold uw;rfl
  have q2:=sT (off:=2) (x:=x.vW) (EqC.arr (EqC.int (d:=0) bX) da bX) da rfl q3
  have q1:=sT (off:=1) (x:=x.vNeg) (EqC.bool (d:=1) sD) sD rfl q2
  have q0:=sT (off:=0) (x:=x.vBad) (EqC.bool (d:=1) sD) sD rfl q1
  exact q0) ?_
 ·have:=And.intro (And.intro ((EqC.bool (d:=1) sD).hf x.vBad) (And.intro ((EqC.bool (d:=1) sD).hf x.vNeg) (And.intro ((EqC.arr (EqC.int (d:=0) bX) da bX).hf x.vW) (True.intro)))) True.intro
  simp only[CT,az,jR,i2,vQ,fy]
  all_goals (first|rfl|(simp only[←(EqC.bool (d:=1) sD).hf,←(EqC.bool (d:=1) sD).hf,←(EqC.arr (EqC.int (d:=0) bX) da bX).hf];try (first|rfl|simp[cI,cB])))
 ·skip
  intro x y h
  unfold CT at h
  obtain⟨e0,h⟩:=Bn h (by rw[(EqC.bool (d:=1) sD).len,(EqC.bool (d:=1) sD).len])
  obtain⟨e1,h⟩:=Bn h (by rw[(EqC.bool (d:=1) sD).len,(EqC.bool (d:=1) sD).len])
  obtain⟨e2,h⟩:=Bn h (by rw[(EqC.arr (EqC.int (d:=0) bX) da bX).len,(EqC.arr (EqC.int (d:=0) bX) da bX).len])
  cases x;cases y
  simp only[ap.mk.injEq]
  exact⟨((EqC.bool (d:=1) sD).inj _ _).1 e0,((EqC.bool (d:=1) sD).inj _ _).1 e1,((EqC.arr (EqC.int (d:=0) bX) da bX).inj _ _).1 e2⟩
def KE(x:ai):List Value:=CT x.vN++(CT x.vD++([]))
theorem qK:EqC tbl 4 34 ae KE:=by
 refine EqC.struct (fs:=[(0,32),(18,32)]) aC (fun x=>?_) (fun x=>by
  have q2:uw tbl (oH tbl 3) [] 36 []:=by unfold uw;rfl
  have q1:=sT (off:=18) (x:=x.vD) gV iO rfl q2
  have q0:=sT (off:=0) (x:=x.vN) gV iO rfl q1
  exact q0) ?_
 ·have:=And.intro (And.intro (gV.hf x.vN) (And.intro (gV.hf x.vD) (True.intro))) True.intro
  simp only[KE,ae,jR,i2,vQ,fy]
  all_goals (first|rfl|(simp only[←gV.hf,←gV.hf];try (first|rfl|simp[cI,cB])))
 ·skip
  intro x y h
  unfold KE at h
  obtain⟨e0,h⟩:=Bn h (by rw[gV.len,gV.len])
  obtain⟨e1,h⟩:=Bn h (by rw[gV.len,gV.len])
  cases x;cases y
  simp only[ai.mk.injEq]
  exact⟨(gV.inj _ _).1 e0,(gV.inj _ _).1 e1⟩
def jK(bS:ap):Option Bool:=bnd (S:=Bool) (cnd (!bS.vBad) (bnd (mm bS) fun x2=>some (x2)) (some (false))) fun gP=>some gP
theorem sd {bS:ap}{r:Bool}(h:jK bS=some r):ax prog 91 [dG az bS] (dB r):=by
 refine bn (rs:=[.tmp 2]) (fun cx hx h0=>?_) func91
 unfold jK at h
 refine ra hx ?_
 refine AW.seq ?_
 obtain⟨gP,hy,h⟩:=ah h
 refine jn ((PE cx .normal (fun gP=>[(2,dB gP)]) fun gP=>⟨[],[],0⟩) gP) ?_ ?_
 replace h:=hy
 refine rq hx fun K hK=>?_
 refine mbr ?_
 rcases bE h with⟨eF,h⟩|⟨eF,h⟩
 refine gbr ?_
 refine gcb h xK fun x2 h=>?_
 refine nbr hK ?_
 exact pe1 h h0 []
 refine nbr hK ?_
 exact pe1 h h0 []
 refine lw0 ?_
 exact AW.ret (rtv h)
def m9 :Option ap:=bnd (fE (1:Int)) fun x1=>some x1
theorem wj  {r:ap}(h:m9=some r):ax prog 94 [] (dG az r):=by
 refine bn (rs:=[.cell 0 32]) (fun cx hx h0=>?_) func94
 unfold m9 at h
 refine rar hx ?_
 refine rs hx fun K hK=>?_
 refine scb h oA fun x1 h=>?_
 refine nbr hK ?_
 exact AW.ret (rtv h)
def ci(bS:ai):Option Bool:=bnd (S:=Bool) (bnd (jK bS.vN) fun x1=>cnd x1 (bnd (jK bS.vD) fun x4=>cnd x4 (bnd (ir bS.vD) fun x7=>cnd (decide ((0:Int)<x7)) (bnd (oU bS.vN bS.vD) fun iM=>bnd (m9) fun jW=>some (decide (iM=jW))) (some (false))) (some (false))) (some (false))) fun gP=>some gP
theorem gz {bS:ai}{r:Bool}(h:ci bS=some r):ax prog 41 [dG ae bS] (dB r):=by
 refine bn (rs:=[.tmp 2]) (fun cx hx h0=>?_) func41
 unfold ci at h
 refine ra hx ?_
 refine AW.seq ?_
 obtain⟨gP,hy,h⟩:=ah h
 refine jn ((PE cx .normal (fun gP=>[(2,dB gP)]) fun gP=>⟨[],[],0⟩) gP) ?_ ?_
 replace h:=hy
 refine rq hx fun K hK=>?_
 refine mbr ?_
 refine scb h sd fun x1 h=>?_
 refine sa ?_
 rcases bE h with⟨cj,h⟩|⟨cj,h⟩
 refine ga cj ?_
 refine gbr ?_
 refine gcb h sd fun x4 h=>?_
 refine mbr ?_
 rcases bE h with⟨lZ,h⟩|⟨lZ,h⟩
 refine ga lZ ?_
 refine gbr ?_
 refine gcb h po fun x7 h=>?_
 refine mbr ?_
 rcases bE h with⟨G6,h⟩|⟨G6,h⟩
 refine ga G6 ?_
 refine gbr ?_
 refine ga G6 ?_
 refine gbr ?_
 refine gcb h wa fun iM h=>?_
 refine gcb h wj fun jW h=>?_
 refine g1 G6 (yT tok 3 (by decide) gV iO) ?_
 refine nbr hK ?_
 exact pe1 h h0 []
 refine nbr hK ?_
 exact pe1 h h0 []
 refine nbr hK ?_
 exact pe1 h h0 []
 refine nbr hK ?_
 exact pe1 h h0 []
 refine lw0 ?_
 exact AW.ret (rtv h)
def iF :Option ai:=bnd (eL) fun x1=>bnd (m9) fun x3=>some (⟨x1,x3⟩:ai)
theorem oN  {r:ai}(h:iF=some r):ax prog 65 [] (dG ae r):=by
 refine bn (rs:=[.cell 0 34]) (fun cx hx h0=>?_) func65
 unfold iF at h
 refine rar hx ?_
 refine rs hx fun K hK=>?_
 refine scb h iz fun x1 h=>?_
 refine scb h wj fun x3 h=>?_
 refine s1 (d:=dG ae (⟨x1,x3⟩:ai)) (eT (FL.cons (y:=x1) (oP co) rfl rfl (FL.cons (y:=x3) (oQ (⟨x1,cE⟩:ai)) rfl rfl (FL.nil _))) aC) ?_
 refine nbr hK ?_
 exact AW.ret (rtv h)
def c7(bF:ap)(zE:ap):Option ai:=bnd (S:=Bool) (bnd (jK bF) fun x1=>cnd (!x1) (some (true)) (bnd (jK zE) fun x4=>cnd (!x4) (some (true)) (bnd (ir zE) fun x7=>some (decide (x7=(0:Int)))))) fun a8=>cnd a8 (bnd (iF) fun fU=>some fU) (bnd (oU bF zE) fun qz=>bnd (S:=ap) (bnd (ir zE) fun uL=>cnd (decide (uL<(0:Int))) (bnd (m3 qz) fun lh=>some (lh)) (some (qz))) fun gx=>bnd (ls bF gx) fun te=>bnd (ls zE gx) fun xx=>some (⟨te,xx⟩:ai))
theorem jq {bF:ap}{zE:ap}{r:ai}(h:c7 bF zE=some r):ax prog 89 [dG az bF,dG az zE] (dG ae r):=by
 refine bn (rs:=[.cell 4 34]) (fun cx hx h0=>?_) func89
 unfold c7 at h
 refine rar hx ?_
 iterate 2 refine AW.seq ?_
 obtain⟨a8,hy,h⟩:=ah h
 refine jn ((PE cx .normal (fun a8=>[(2,.pt 0 0),(3,.pt 1 0),(4,.pt 2 0),(18,dB a8)]) fun a8=>⟨[(0,dC (az.f bF)),(1,dC (az.f zE)),(2,dC (ae.f co))],[],3⟩) a8) ?_ ?_
 replace h:=hy
 refine rq hx fun K hK=>?_
 refine mbr ?_
 refine scb h sd fun x1 h=>?_
 refine mbr ?_
 rcases bE h with⟨cj,h⟩|⟨cj,h⟩
 refine nbr hK ?_
 exact pe1 h h0 [0,1,2]
 refine gbr ?_
 refine gcb h sd fun x4 h=>?_
 refine mbr ?_
 rcases bE h with⟨lZ,h⟩|⟨lZ,h⟩
 refine nbr hK ?_
 exact pe1 h h0 [0,1,2]
 refine gbr ?_
 refine gcb h po fun x7 h=>?_
 refine nbr hK ?_
 exact pe1 h h0 [0,1,2]
 refine lw0 ?_
 refine cdh h rfl (fun jw h=>?_) (fun jw h=>?_)
 refine rs hx fun K hK=>?_
 refine scb h oN fun fU h=>?_
 refine nbr hK ?_
 exact AW.ret (rtv h)
 refine AW.skip (rs hx fun K hK=>?_)
 refine mbr ?_
 refine scb h wa fun qz h=>?_
 refine nbr hK ?_
 refine AW.seq ?_
 obtain⟨gx,hy,h⟩:=ah h
 refine jn ((PE cx .normal (fun gx=>[(2,.pt 0 0),(3,.pt 1 0),(4,.pt 2 0),(5,.pt 3 0)]) fun gx=>⟨[(0,dC (az.f bF)),(1,dC (az.f zE)),(2,dC (ae.f co)),(3,dC (az.f gx))],[],4⟩) gx) ?_ ?_
 replace h:=hy
 refine rs hx fun K hK=>?_
 refine mbr ?_
 refine scb h po fun uL h=>?_
 refine nbr hK ?_
 refine cdh h rfl (fun yF h=>?_) (fun yF h=>?_)
 refine rq hx fun K hK=>?_
 refine mbr ?_
 refine scb h v9 fun lh h=>?_
 refine nbr hK ?_
 exact pe1 h h0 [0,1,2,3]
 exact AW.skip (pe1 h h0 [0,1,2,3])
 refine lw0 ?_
 refine rsd [126] hx fun K hK=>?_
 refine mbr ?_
 refine cqb h oM fun te h=>?_
 refine mbr ?_
 refine cqb h oM fun xx h=>?_
 refine s1 (d:=dG ae (⟨te,xx⟩:ai)) (eT (FL.cons (y:=te) (oP co) rfl rfl (FL.cons (y:=xx) (oQ (⟨te,cE⟩:ai)) rfl rfl (FL.nil _))) aC) ?_
 refine nbr hK ?_
 exact AW.ret (rtv h)
def gJ(bS:ai)(od:ai):Option ai:=bnd (S:=Bool) (bnd (ci bS) fun x1=>cnd (!x1) (some (true)) (bnd (ci od) fun x4=>some (!x4))) fun a8=>cnd a8 (bnd (iF) fun x8=>some x8) (bnd (oU bS.vD od.vD) fun iM=>bnd (ls bS.vD iM) fun jW=>bnd (ls od.vD iM) fun nV=>bnd (jA bS.vN nV) fun qo=>bnd (jA od.vN jW) fun lh=>bnd (jB qo lh) fun ua=>bnd (jA jW od.vD) fun vA=>bnd (c7 ua vA) fun zg=>some zg)
theorem IF {bS:ai}{od:ai}{r:ai}(h:gJ bS od=some r):ax prog 85 [dG ae bS,dG ae od] (dG ae r):=by
 refine bn (rs:=[.cell 4 34]) (fun cx hx h0=>?_) func85
 unfold gJ at h
 refine rar hx ?_
 iterate 2 refine AW.seq ?_
 obtain⟨a8,hy,h⟩:=ah h
 refine jn ((PE cx .normal (fun a8=>[(2,.pt 0 0),(3,.pt 1 0),(4,.pt 2 0),(15,dB a8)]) fun a8=>⟨[(0,dC (ae.f bS)),(1,dC (ae.f od)),(2,dC (ae.f co))],[],3⟩) a8) ?_ ?_
 replace h:=hy
 refine rq hx fun K hK=>?_
 refine mbr ?_
 refine scb h gz fun x1 h=>?_
 refine mbr ?_
 rcases bE h with⟨cj,h⟩|⟨cj,h⟩
 refine nbr hK ?_
 exact pe1 h h0 [0,1,2]
 refine gbr ?_
 refine gcb h gz fun x4 h=>?_
 refine nbr hK ?_
 exact pe1 h h0 [0,1,2]
 refine lw0 ?_
 refine cdh h rfl (fun tX h=>?_) (fun tX h=>?_)
 refine rs hx fun K hK=>?_
 refine scb h oN fun x8 h=>?_
 refine nbr hK ?_
 exact AW.ret (rtv h)
 refine AW.skip (rs hx fun K hK=>?_)
 refine mbr ?_
 refine scb h wa fun iM h=>?_
 refine nbr hK ?_
 refine AW.seq ?_
 obtain⟨jW,Ba,h⟩:=ah h
 obtain⟨nV,rJ,h⟩:=ah h
 refine jn (PE cx .normal (fun (_:Unit)=>[(2,.pt 0 0),(3,.pt 1 0),(4,.pt 2 0),(6,.pt 3 0),(7,.pt 4 0)]) (fun (_:Unit)=>⟨[(0,dC (ae.f bS)),(1,dC (ae.f od)),(2,dC (ae.f co)),(3,dC (az.f jW)),(4,dC (az.f nV))],[],5⟩) ()) ?_ ?_
 refine dw (DW.split 8 9 (by decide) ?_ ?_)
 refine dwg [126] [0,1,2,3,4,5,6,7,8,9,10,11] hx (by kernel_rfl) (by kernel_rfl) (by kernel_rfl) fun K hK=>?_
 dsimp only[dt,lf,li,List.map]
 refine mbr ?_
 refine cq (oM Ba) ?_
 refine mbr ?_
 refine cq (oM rJ) ?_
 iterate 2 refine sbr ?_
 iterate 2 refine tzr ?_
 exact .nil (hK _ _ (pe0 h0 [0,1,2,4,5]))
 refine dwg [126] [0,1,2,3,4,5,6,7,9,8,10,11] hx (by kernel_rfl) (by kernel_rfl) (by kernel_rfl) fun K hK=>?_
 dsimp only[dt,lf,li,List.map]
 refine mbr ?_
 refine cq (oM Ba) ?_
 refine mbr ?_
 refine cq (oM rJ) ?_
 iterate 2 refine sbr ?_
 iterate 2 refine tzr ?_
 exact .nil (hK _ _ (pe0 h0 [0,1,2,5,4]))
 refine lw0 ?_
 refine rsd [90,127,89] hx fun K hK=>?_
 refine mbr ?_
 refine cqb h mQ fun qo h=>?_
 refine mbr ?_
 refine cqb h mQ fun lh h=>?_
 refine cqb h BF fun ua h=>?_
 refine mbr ?_
 refine cqb h mQ fun vA h=>?_
 refine cqb h jq fun zg h=>?_
 refine nbr hK ?_
 exact AW.ret (rtv h)
def fh(bS:ai)(od:ai):Option ai:=bnd (S:=Bool) (bnd (ci bS) fun x1=>cnd (!x1) (some (true)) (bnd (ci od) fun x4=>some (!x4))) fun a8=>cnd a8 (bnd (iF) fun x8=>some x8) (bnd (c7 bS.vN od.vD) fun iM=>bnd (c7 od.vN bS.vD) fun jW=>bnd (jA iM.vN jW.vN) fun nV=>bnd (jA iM.vD jW.vD) fun qo=>bnd (S:=Bool) (cnd nV.vBad (some (true)) (some (qo.vBad))) fun aW=>cnd aW (bnd (iF) fun te=>some te) (some (⟨nV,qo⟩:ai)))
theorem wl {bS:ai}{od:ai}{r:ai}(h:fh bS od=some r):ax prog 40 [dG ae bS,dG ae od] (dG ae r):=by
 refine bn (rs:=[.cell 4 34]) (fun cx hx h0=>?_) func40
 unfold fh at h
 refine rar hx ?_
 iterate 2 refine AW.seq ?_
 obtain⟨a8,hy,h⟩:=ah h
 refine jn ((PE cx .normal (fun a8=>[(2,.pt 0 0),(3,.pt 1 0),(4,.pt 2 0),(16,dB a8)]) fun a8=>⟨[(0,dC (ae.f bS)),(1,dC (ae.f od)),(2,dC (ae.f co))],[],3⟩) a8) ?_ ?_
 replace h:=hy
 refine rq hx fun K hK=>?_
 refine mbr ?_
 refine scb h gz fun x1 h=>?_
 refine mbr ?_
 rcases bE h with⟨cj,h⟩|⟨cj,h⟩
 refine nbr hK ?_
 exact pe1 h h0 [0,1,2]
 refine gbr ?_
 refine gcb h gz fun x4 h=>?_
 refine nbr hK ?_
 exact pe1 h h0 [0,1,2]
 refine lw0 ?_
 refine cdh h rfl (fun tX h=>?_) (fun tX h=>?_)
 refine rs hx fun K hK=>?_
 refine scb h oN fun x8 h=>?_
 refine nbr hK ?_
 exact AW.ret (rtv h)
 refine AW.skip (AW.seq ?_)
 obtain⟨iM,Cg,h⟩:=ah h
 obtain⟨jW,Ba,h⟩:=ah h
 refine jn (PE cx .normal (fun (_:Unit)=>[(4,.pt 0 0),(5,.pt 1 0),(6,.pt 2 0)]) (fun (_:Unit)=>⟨[(0,dC (ae.f co)),(1,dC (ae.f iM)),(2,dC (ae.f jW))],[],3⟩) ()) ?_ ?_
 refine dw (DW.split 10 11 (by decide) ?_ ?_)
 refine dwg [89] [0,1,2,3,4,5,6,7,8,9,10,11,12,13] hx (by kernel_rfl) (by kernel_rfl) (by kernel_rfl) fun K hK=>?_
 dsimp only[dt,lf,li,List.map]
 refine mbr ?_
 refine cq (jq Cg) ?_
 refine mbr ?_
 refine cq (jq Ba) ?_
 iterate 2 refine sbr ?_
 iterate 2 refine tzr ?_
 exact .nil (hK _ _ (pe0 h0 [2,3,4]))
 refine dwg [89] [0,1,2,3,4,5,6,7,8,9,11,10,12,13] hx (by kernel_rfl) (by kernel_rfl) (by kernel_rfl) fun K hK=>?_
 dsimp only[dt,lf,li,List.map]
 refine mbr ?_
 refine cq (jq Cg) ?_
 refine mbr ?_
 refine cq (jq Ba) ?_
 iterate 2 refine sbr ?_
 iterate 2 refine tzr ?_
 exact .nil (hK _ _ (pe0 h0 [2,4,3]))
 refine lw0 ?_
 refine AW.seq ?_
 obtain⟨nV,rJ,h⟩:=ah h
 obtain⟨qo,hx17,h⟩:=ah h
 refine jn (PE cx .normal (fun (_:Unit)=>[(4,.pt 0 0),(7,.pt 1 0),(8,.pt 2 0)]) (fun (_:Unit)=>⟨[(0,dC (ae.f co)),(1,dC (az.f nV)),(2,dC (az.f qo))],[],3⟩) ()) ?_ ?_
 refine dw (DW.split 10 11 (by decide) ?_ ?_)
 refine dwg [90] [0,1,2,3,4,5,6,7,8,9,10,11,12,13] hx (by kernel_rfl) (by kernel_rfl) (by kernel_rfl) fun K hK=>?_
 dsimp only[dt,lf,li,List.map]
 refine mbr ?_
 refine cq (mQ rJ) ?_
 refine mbr ?_
 refine cq (mQ hx17) ?_
 iterate 2 refine sbr ?_
 iterate 2 refine tzr ?_
 exact .nil (hK _ _ (pe0 h0 [0,3,4]))
 refine dwg [90] [0,1,2,3,4,5,6,7,8,9,11,10,12,13] hx (by kernel_rfl) (by kernel_rfl) (by kernel_rfl) fun K hK=>?_
 dsimp only[dt,lf,li,List.map]
 refine mbr ?_
 refine cq (mQ rJ) ?_
 refine mbr ?_
 refine cq (mQ hx17) ?_
 iterate 2 refine sbr ?_
 iterate 2 refine tzr ?_
 exact .nil (hK _ _ (pe0 h0 [0,4,3]))
 refine lw0 ?_
 iterate 2 refine AW.seq ?_
 obtain⟨aW,hy,h⟩:=ah h
 refine jn ((PE cx .normal (fun aW=>[(4,.pt 0 0),(7,.pt 1 0),(8,.pt 2 0),(43,dB aW)]) fun aW=>⟨[(0,dC (ae.f co)),(1,dC (az.f nV)),(2,dC (az.f qo))],[],3⟩) aW) ?_ ?_
 replace h:=hy
 refine rq hx fun K hK=>?_
 refine mbr ?_
 rcases bE h with⟨Lv,h⟩|⟨Lv,h⟩
 refine nbr hK ?_
 exact pe1 h h0 [0,1,2]
 refine nbr hK ?_
 exact pe1 h h0 [0,1,2]
 refine lw0 ?_
 refine cdh h rfl (fun wA h=>?_) (fun wA h=>?_)
 refine rs hx fun K hK=>?_
 refine scb h oN fun te h=>?_
 refine nbr hK ?_
 exact AW.ret (rtv h)
 refine AW.skip (rs hx fun K hK=>?_)
 iterate 2 refine sbr ?_
 refine s1 (d:=dG ae (⟨nV,qo⟩:ai)) (eT (FL.cons (y:=nV) (oP co) rfl rfl (FL.cons (y:=qo) (oQ (⟨nV,cE⟩:ai)) rfl rfl (FL.nil _))) aC) ?_
 refine nbr hK ?_
 exact AW.ret (rtv h)
def tF(bS:ai)(od:ai):Option ai:=bnd (ci od) fun x1=>cnd (!x1) (bnd (iF) fun x4=>some x4) (bnd (c7 od.vD od.vN) fun x6=>bnd (fh bS x6) fun x8=>some x8)
theorem IE {bS:ai}{od:ai}{r:ai}(h:tF bS od=some r):ax prog 144 [dG ae bS,dG ae od] (dG ae r):=by
 refine bn (rs:=[.cell 4 34]) (fun cx hx h0=>?_) func144
 unfold tF at h
 refine rar hx ?_
 refine AW.seq (rs hx fun K hK=>?_)
 refine mbr ?_
 refine scb h gz fun x1 h=>?_
 refine nbr hK ?_
 refine cdh h rfl (fun cj h=>?_) (fun cj h=>?_)
 refine rs hx fun K hK=>?_
 refine scb h oN fun x4 h=>?_
 refine nbr hK ?_
 exact AW.ret (rtv h)
 refine AW.skip (rsd [89,40] hx fun K hK=>?_)
 refine mbr ?_
 refine cqb h jq fun x6 h=>?_
 refine cqb h wl fun x8 h=>?_
 refine nbr hK ?_
 exact AW.ret (rtv h)
def pN(a6:Int)(aZ:Int):Option ai:=bnd (fE a6) fun x1=>bnd (fE aZ) fun x3=>bnd (c7 x1 x3) fun x5=>some x5
theorem Gt {a6:Int}{aZ:Int}{r:ai}(h:pN a6 aZ=some r):ax prog 61 [dI .i64 a6,dI .i64 aZ] (dG ae r):=by
 refine bn (rs:=[.cell 4 34]) (fun cx hx h0=>?_) func61
 unfold pN at h
 refine rar hx ?_
 refine rs hx fun K hK=>?_
 refine sa ?_
 refine scb h oA fun x1 h=>?_
 refine sa ?_
 refine scb h oA fun x3 h=>?_
 refine scb h jq fun x5 h=>?_
 refine nbr hK ?_
 exact AW.ret (rtv h)
def na(bS:ai):Option ai:=bnd (ci bS) fun x1=>cnd (!x1) (bnd (iF) fun x4=>some x4) (bnd (m3 bS.vN) fun x6=>some (⟨x6,bS.vD⟩:ai))
theorem BJ {bS:ai}{r:ai}(h:na bS=some r):ax prog 17 [dG ae bS] (dG ae r):=by
 refine bn (rs:=[.cell 2 34]) (fun cx hx h0=>?_) func17
 unfold na at h
 refine rar hx ?_
 refine AW.seq (rs hx fun K hK=>?_)
 refine mbr ?_
 refine scb h gz fun x1 h=>?_
 refine nbr hK ?_
 refine cdh h rfl (fun cj h=>?_) (fun cj h=>?_)
 refine rs hx fun K hK=>?_
 refine scb h oN fun x4 h=>?_
 refine nbr hK ?_
 exact AW.ret (rtv h)
 refine AW.skip (rsd [66] hx fun K hK=>?_)
 refine mbr ?_
 refine cqb h v9 fun x6 h=>?_
 iterate 2 refine sbr ?_
 refine s1 (d:=dG ae (⟨x6,bS.vD⟩:ai)) (eT (FL.cons (y:=x6) (oP co) rfl rfl (FL.cons (y:=bS.vD) (oQ (⟨x6,cE⟩:ai)) rfl rfl (FL.nil _))) aC) ?_
 refine nbr hK ?_
 exact AW.ret (rtv h)
def oq(bF:ap):Option ai:=bnd (m9) fun x1=>bnd (c7 bF x1) fun x3=>some x3
theorem E0 {bF:ap}{r:ai}(h:oq bF=some r):ax prog 104 [dG az bF] (dG ae r):=by
 refine bn (rs:=[.cell 2 34]) (fun cx hx h0=>?_) func104
 unfold oq at h
 refine rar hx ?_
 refine rsd [94,89] hx fun K hK=>?_
 refine mbr ?_
 refine cqb h wj fun x1 h=>?_
 refine cqb h jq fun x3 h=>?_
 refine nbr hK ?_
 exact AW.ret (rtv h)
def e9(bF:Int):Option ai:=bnd (fE bF) fun x1=>bnd (oq x1) fun x3=>some x3
theorem lH {bF:Int}{r:ai}(h:e9 bF=some r):ax prog 60 [dI .i64 bF] (dG ae r):=by
 refine bn (rs:=[.cell 2 34]) (fun cx hx h0=>?_) func60
 unfold e9 at h
 refine rar hx ?_
 refine rs hx fun K hK=>?_
 refine sa ?_
 refine scb h oA fun x1 h=>?_
 refine scb h E0 fun x3 h=>?_
 refine nbr hK ?_
 exact AW.ret (rtv h)
def nM(bS:ai):Option Int:=bnd (ci bS) fun x1=>cnd (!x1) (some (0:Int)) (bnd (ir bS.vN) fun x4=>some x4)
theorem zt {bS:ai}{r:Int}(h:nM bS=some r):ax prog 42 [dG ae bS] (dI .i64 r):=by
 refine bn (rs:=[.tmp 2]) (fun cx hx h0=>?_) func42
 unfold nM at h
 refine ra hx ?_
 refine AW.seq (rs hx fun K hK=>?_)
 refine mbr ?_
 refine scb h gz fun x1 h=>?_
 refine nbr hK ?_
 refine cdh h rfl (fun cj h=>?_) (fun cj h=>?_)
 refine ra hx ?_
 exact AW.ret (rtv h)
 refine AW.skip (rs hx fun K hK=>?_)
 refine mbr ?_
 refine scb h po fun x4 h=>?_
 refine nbr hK ?_
 exact AW.ret (rtv h)
def tE(bS:ai)(od:ai):Option ai:=bnd (na od) fun x1=>bnd (gJ bS x1) fun x3=>some x3
theorem ID {bS:ai}{od:ai}{r:ai}(h:tE bS od=some r):ax prog 146 [dG ae bS,dG ae od] (dG ae r):=by
 refine bn (rs:=[.cell 4 34]) (fun cx hx h0=>?_) func146
 unfold tE at h
 refine rar hx ?_
 refine rsd [17,85] hx fun K hK=>?_
 refine mbr ?_
 refine cqb h BJ fun x1 h=>?_
 refine cqb h IF fun x3 h=>?_
 refine nbr hK ?_
 exact AW.ret (rtv h)
def m6 :Option ap:=bnd (jZ (1:Int)) fun x1=>some x1
theorem wd  {r:ap}(h:m6=some r):ax prog 116 [] (dG az r):=by
 refine bn (rs:=[.cell 0 32]) (fun cx hx h0=>?_) func116
 unfold m6 at h
 refine rar hx ?_
 refine rs hx fun K hK=>?_
 refine scb h qA fun x1 h=>?_
 refine nbr hK ?_
 exact AW.ret (rtv h)
def ct(bS:ai):Option Bool:=bnd (S:=Bool) (bnd (br bS.vN) fun x1=>cnd (!x1) (some (true)) (bnd (br bS.vD) fun x4=>some (!x4))) fun a8=>cnd a8 (some false) (bnd (S:=Bool) (bnd (jI bS.vD) fun x8=>cnd (decide ((0:Int)<x8)) (bnd (m8 bS.vN bS.vD) fun fU=>bnd (m6) fun qz=>some (decide (fU=qz))) (some (false))) fun mg=>some mg)
theorem il {bS:ai}{r:Bool}(h:ct bS=some r):ax prog 72 [dG ae bS] (dB r):=by
 refine bn (rs:=[.tmp 2]) (fun cx hx h0=>?_) func72
 unfold ct at h
 refine ra hx ?_
 iterate 2 refine AW.seq ?_
 obtain⟨a8,hy,h⟩:=ah h
 refine jn ((PE cx .normal (fun a8=>[(1,.pt 0 0),(12,dB a8)]) fun a8=>⟨[(0,dC (ae.f bS))],[],1⟩) a8) ?_ ?_
 replace h:=hy
 refine rq hx fun K hK=>?_
 refine mbr ?_
 refine scb h cJ fun x1 h=>?_
 refine mbr ?_
 rcases bE h with⟨cj,h⟩|⟨cj,h⟩
 refine nbr hK ?_
 exact pe1 h h0 [0]
 refine ga cj ?_
 refine gbr ?_
 refine gcb h cJ fun x4 h=>?_
 refine nbr hK ?_
 exact pe1 h h0 [0]
 refine lw0 ?_
 refine cdh h rfl (fun tX h=>?_) (fun tX h=>?_)
 refine ra hx ?_
 exact AW.ret (rtv h)
 refine AW.skip (AW.seq ?_)
 obtain⟨mg,hy,h⟩:=ah h
 refine jn ((PE cx .normal (fun mg=>[(2,dB mg)]) fun mg=>⟨[],[],0⟩) mg) ?_ ?_
 replace h:=hy
 refine rq hx fun K hK=>?_
 refine mbr ?_
 refine scb h sb fun x8 h=>?_
 refine mbr ?_
 rcases bE h with⟨jw,h⟩|⟨jw,h⟩
 refine ga jw ?_
 refine gbr ?_
 refine ga jw ?_
 refine gbr ?_
 refine gcb h wi fun fU h=>?_
 refine gcb h wd fun qz h=>?_
 refine g1 jw (yT tok 3 (by decide) gV iO) ?_
 refine nbr hK ?_
 exact pe1 h h0 []
 refine nbr hK ?_
 exact pe1 h h0 []
 refine lw0 ?_
 exact AW.ret (rtv h)
def jD :Option ai:=bnd (fY) fun x1=>bnd (m6) fun x3=>some (⟨x1,x3⟩:ai)
theorem q8  {r:ai}(h:jD=some r):ax prog 96 [] (dG ae r):=by
 refine bn (rs:=[.cell 0 34]) (fun cx hx h0=>?_) func96
 unfold jD at h
 refine rar hx ?_
 refine rs hx fun K hK=>?_
 refine scb h lm fun x1 h=>?_
 refine scb h wd fun x3 h=>?_
 refine s1 (d:=dG ae (⟨x1,x3⟩:ai)) (eT (FL.cons (y:=x1) (oP co) rfl rfl (FL.cons (y:=x3) (oQ (⟨x1,cE⟩:ai)) rfl rfl (FL.nil _))) aC) ?_
 refine nbr hK ?_
 exact AW.ret (rtv h)
def c5(bF:ap)(zE:ap):Option ai:=bnd (S:=Bool) (bnd (br bF) fun x1=>cnd (!x1) (some (true)) (bnd (br zE) fun x4=>cnd (!x4) (some (true)) (bnd (jI zE) fun x7=>some (decide (x7=(0:Int)))))) fun a8=>cnd a8 (bnd (jD) fun fU=>some fU) (bnd (m8 bF zE) fun qz=>bnd (S:=ap) (bnd (jI zE) fun uL=>cnd (decide (uL<(0:Int))) (bnd (pc qz) fun lh=>some (lh)) (some (qz))) fun gx=>bnd (ly bF gx) fun te=>bnd (ly zE gx) fun xx=>some (⟨te,xx⟩:ai))
theorem nz {bF:ap}{zE:ap}{r:ai}(h:c5 bF zE=some r):ax prog 114 [dG az bF,dG az zE] (dG ae r):=by
 refine bn (rs:=[.cell 4 34]) (fun cx hx h0=>?_) func114
 unfold c5 at h
 refine rar hx ?_
 iterate 2 refine AW.seq ?_
 obtain⟨a8,hy,h⟩:=ah h
 refine jn ((PE cx .normal (fun a8=>[(2,.pt 0 0),(3,.pt 1 0),(4,.pt 2 0),(18,dB a8)]) fun a8=>⟨[(0,dC (az.f bF)),(1,dC (az.f zE)),(2,dC (ae.f co))],[],3⟩) a8) ?_ ?_
 replace h:=hy
 refine rq hx fun K hK=>?_
 refine mbr ?_
 refine scb h cJ fun x1 h=>?_
 refine mbr ?_
 rcases bE h with⟨cj,h⟩|⟨cj,h⟩
 refine nbr hK ?_
 exact pe1 h h0 [0,1,2]
 refine gbr ?_
 refine gcb h cJ fun x4 h=>?_
 refine mbr ?_
 rcases bE h with⟨lZ,h⟩|⟨lZ,h⟩
 refine nbr hK ?_
 exact pe1 h h0 [0,1,2]
 refine gbr ?_
 refine gcb h sb fun x7 h=>?_
 refine nbr hK ?_
 exact pe1 h h0 [0,1,2]
 refine lw0 ?_
 refine cdh h rfl (fun jw h=>?_) (fun jw h=>?_)
 refine rs hx fun K hK=>?_
 refine scb h q8 fun fU h=>?_
 refine nbr hK ?_
 exact AW.ret (rtv h)
 refine AW.skip (rs hx fun K hK=>?_)
 refine mbr ?_
 refine scb h wi fun qz h=>?_
 refine nbr hK ?_
 refine AW.seq ?_
 obtain⟨gx,hy,h⟩:=ah h
 refine jn ((PE cx .normal (fun gx=>[(2,.pt 0 0),(3,.pt 1 0),(4,.pt 2 0),(5,.pt 3 0)]) fun gx=>⟨[(0,dC (az.f bF)),(1,dC (az.f zE)),(2,dC (ae.f co)),(3,dC (az.f gx))],[],4⟩) gx) ?_ ?_
 replace h:=hy
 refine rs hx fun K hK=>?_
 refine mbr ?_
 refine scb h sb fun uL h=>?_
 refine nbr hK ?_
 refine cdh h rfl (fun yF h=>?_) (fun yF h=>?_)
 refine rq hx fun K hK=>?_
 refine mbr ?_
 refine scb h BI fun lh h=>?_
 refine nbr hK ?_
 exact pe1 h h0 [0,1,2,3]
 exact AW.skip (pe1 h h0 [0,1,2,3])
 refine lw0 ?_
 refine rsd [133] hx fun K hK=>?_
 refine mbr ?_
 refine cqb h th fun te h=>?_
 refine mbr ?_
 refine cqb h th fun xx h=>?_
 refine s1 (d:=dG ae (⟨te,xx⟩:ai)) (eT (FL.cons (y:=te) (oP co) rfl rfl (FL.cons (y:=xx) (oQ (⟨te,cE⟩:ai)) rfl rfl (FL.nil _))) aC) ?_
 refine nbr hK ?_
 exact AW.ret (rtv h)
def iD(bS:ai)(od:ai):Option ai:=bnd (S:=Bool) (bnd (ct bS) fun x1=>cnd (!x1) (some (true)) (bnd (ct od) fun x4=>some (!x4))) fun a8=>cnd a8 (bnd (jD) fun x8=>some x8) (bnd (m8 bS.vD od.vD) fun iM=>bnd (ly bS.vD iM) fun jW=>bnd (ly od.vD iM) fun nV=>bnd (jJ bS.vN nV) fun qo=>bnd (jJ od.vN jW) fun lh=>bnd (lz qo lh) fun ua=>bnd (jJ jW od.vD) fun vA=>bnd (c5 ua vA) fun zg=>some zg)
theorem Iz {bS:ai}{od:ai}{r:ai}(h:iD bS od=some r):ax prog 99 [dG ae bS,dG ae od] (dG ae r):=by
 refine bn (rs:=[.cell 4 34]) (fun cx hx h0=>?_) func99
 unfold iD at h
 refine rar hx ?_
 iterate 2 refine AW.seq ?_
 obtain⟨a8,hy,h⟩:=ah h
 refine jn ((PE cx .normal (fun a8=>[(2,.pt 0 0),(3,.pt 1 0),(4,.pt 2 0),(15,dB a8)]) fun a8=>⟨[(0,dC (ae.f bS)),(1,dC (ae.f od)),(2,dC (ae.f co))],[],3⟩) a8) ?_ ?_
 replace h:=hy
 refine rq hx fun K hK=>?_
 refine mbr ?_
 refine scb h il fun x1 h=>?_
 refine mbr ?_
 rcases bE h with⟨cj,h⟩|⟨cj,h⟩
 refine nbr hK ?_
 exact pe1 h h0 [0,1,2]
 refine gbr ?_
 refine gcb h il fun x4 h=>?_
 refine nbr hK ?_
 exact pe1 h h0 [0,1,2]
 refine lw0 ?_
 refine cdh h rfl (fun tX h=>?_) (fun tX h=>?_)
 refine rs hx fun K hK=>?_
 refine scb h q8 fun x8 h=>?_
 refine nbr hK ?_
 exact AW.ret (rtv h)
 refine AW.skip (rs hx fun K hK=>?_)
 refine mbr ?_
 refine scb h wi fun iM h=>?_
 refine nbr hK ?_
 refine rs hx fun K hK=>?_
 refine mbr ?_
 refine scb h th fun jW h=>?_
 refine nbr hK ?_
 refine rs hx fun K hK=>?_
 refine mbr ?_
 refine scb h th fun nV h=>?_
 refine nbr hK ?_
 refine rsd [117,134,114] hx fun K hK=>?_
 refine mbr ?_
 refine cqb h q9 fun qo h=>?_
 refine mbr ?_
 refine cqb h q9 fun lh h=>?_
 refine cqb h IB fun ua h=>?_
 refine mbr ?_
 refine cqb h q9 fun vA h=>?_
 refine cqb h nz fun zg h=>?_
 refine nbr hK ?_
 exact AW.ret (rtv h)
def eh(bS:ai)(od:ai):Option ai:=bnd (S:=Bool) (bnd (ct bS) fun x1=>cnd (!x1) (some (true)) (bnd (ct od) fun x4=>some (!x4))) fun a8=>cnd a8 (bnd (jD) fun x8=>some x8) (bnd (c5 bS.vN od.vD) fun iM=>bnd (c5 od.vN bS.vD) fun jW=>bnd (jJ iM.vN jW.vN) fun nV=>bnd (jJ iM.vD jW.vD) fun qo=>bnd (c5 nV qo) fun lh=>some lh)
theorem q7 {bS:ai}{od:ai}{r:ai}(h:eh bS od=some r):ax prog 71 [dG ae bS,dG ae od] (dG ae r):=by
 refine bn (rs:=[.cell 4 34]) (fun cx hx h0=>?_) func71
 unfold eh at h
 refine rar hx ?_
 iterate 2 refine AW.seq ?_
 obtain⟨a8,hy,h⟩:=ah h
 refine jn ((PE cx .normal (fun a8=>[(2,.pt 0 0),(3,.pt 1 0),(4,.pt 2 0),(16,dB a8)]) fun a8=>⟨[(0,dC (ae.f bS)),(1,dC (ae.f od)),(2,dC (ae.f co))],[],3⟩) a8) ?_ ?_
 replace h:=hy
 refine rq hx fun K hK=>?_
 refine mbr ?_
 refine scb h il fun x1 h=>?_
 refine mbr ?_
 rcases bE h with⟨cj,h⟩|⟨cj,h⟩
 refine nbr hK ?_
 exact pe1 h h0 [0,1,2]
 refine gbr ?_
 refine gcb h il fun x4 h=>?_
 refine nbr hK ?_
 exact pe1 h h0 [0,1,2]
 refine lw0 ?_
 refine cdh h rfl (fun tX h=>?_) (fun tX h=>?_)
 refine rs hx fun K hK=>?_
 refine scb h q8 fun x8 h=>?_
 refine nbr hK ?_
 exact AW.ret (rtv h)
 refine AW.skip (rs hx fun K hK=>?_)
 refine mbr ?_
 refine scb h nz fun iM h=>?_
 refine nbr hK ?_
 refine rs hx fun K hK=>?_
 refine mbr ?_
 refine scb h nz fun jW h=>?_
 refine nbr hK ?_
 refine rs hx fun K hK=>?_
 refine mbr ?_
 refine scb h q9 fun nV h=>?_
 refine nbr hK ?_
 refine rs hx fun K hK=>?_
 refine mbr ?_
 refine scb h q9 fun qo h=>?_
 refine nbr hK ?_
 refine rs hx fun K hK=>?_
 refine mbr ?_
 refine scb h nz fun lh h=>?_
 refine nbr hK ?_
 exact AW.ret (rtv h)
def lx(bS:ai)(od:ai):Option ai:=bnd (ct od) fun x1=>cnd (!x1) (bnd (jD) fun x4=>some x4) (bnd (c5 od.vD od.vN) fun x6=>bnd (eh bS x6) fun x8=>some x8)
theorem wg {bS:ai}{od:ai}{r:ai}(h:lx bS od=some r):ax prog 112 [dG ae bS,dG ae od] (dG ae r):=by
 refine bn (rs:=[.cell 4 34]) (fun cx hx h0=>?_) func112
 unfold lx at h
 refine rar hx ?_
 refine AW.seq (rs hx fun K hK=>?_)
 refine mbr ?_
 refine scb h il fun x1 h=>?_
 refine nbr hK ?_
 refine cdh h rfl (fun cj h=>?_) (fun cj h=>?_)
 refine rs hx fun K hK=>?_
 refine scb h q8 fun x4 h=>?_
 refine nbr hK ?_
 exact AW.ret (rtv h)
 refine AW.skip (rsd [114,71] hx fun K hK=>?_)
 refine mbr ?_
 refine cqb h nz fun x6 h=>?_
 refine cqb h q7 fun x8 h=>?_
 refine nbr hK ?_
 exact AW.ret (rtv h)
def m7(bS:ai):Option ai:=bnd (ct bS) fun x1=>cnd (!x1) (bnd (jD) fun x4=>some x4) (bnd (pc bS.vN) fun x6=>some (⟨x6,bS.vD⟩:ai))
theorem BH {bS:ai}{r:ai}(h:m7 bS=some r):ax prog 79 [dG ae bS] (dG ae r):=by
 refine bn (rs:=[.cell 2 34]) (fun cx hx h0=>?_) func79
 unfold m7 at h
 refine rar hx ?_
 refine AW.seq (rs hx fun K hK=>?_)
 refine mbr ?_
 refine scb h il fun x1 h=>?_
 refine nbr hK ?_
 refine cdh h rfl (fun cj h=>?_) (fun cj h=>?_)
 refine rs hx fun K hK=>?_
 refine scb h q8 fun x4 h=>?_
 refine nbr hK ?_
 exact AW.ret (rtv h)
 refine AW.skip (rsd [123] hx fun K hK=>?_)
 refine mbr ?_
 refine cqb h BI fun x6 h=>?_
 iterate 2 refine sbr ?_
 refine s1 (d:=dG ae (⟨x6,bS.vD⟩:ai)) (eT (FL.cons (y:=x6) (oP co) rfl rfl (FL.cons (y:=bS.vD) (oQ (⟨x6,cE⟩:ai)) rfl rfl (FL.nil _))) aC) ?_
 refine nbr hK ?_
 exact AW.ret (rtv h)
def e8(bF:Int):Option ai:=bnd (jZ bF) fun x1=>bnd (m6) fun x3=>bnd (c5 x1 x3) fun x5=>some x5
theorem lE {bF:Int}{r:ai}(h:e8 bF=some r):ax prog 70 [dI .i64 bF] (dG ae r):=by
 refine bn (rs:=[.cell 2 34]) (fun cx hx h0=>?_) func70
 unfold e8 at h
 refine rar hx ?_
 refine rs hx fun K hK=>?_
 refine sa ?_
 refine scb h qA fun x1 h=>?_
 refine scb h wd fun x3 h=>?_
 refine scb h nz fun x5 h=>?_
 refine nbr hK ?_
 exact AW.ret (rtv h)
def gI(a6:List ai)(aZ:List ai):Int→Option (Int⊕(Bool⊕Unit)):=fun bk=>cnd (decide (bk<((a6).length:Int))) (gd (0≤bk∧bk<((a6).length:Int)) (gd (0≤bk∧bk<((aZ).length:Int)) (cnd (decide (¬((a6)[(bk).toNat]! =(aZ)[(bk).toNat]!))) (some (.inr (.inl false))) (some (.inl (i64.wrap (bk+(1:Int)))))))) (some (.inr (.inr ())))
def dc(a6:List ai)(aZ:List ai):Option Bool:=cnd (decide (((a6).length:Int)≠((aZ).length:Int))) (some false) (bnd (aK (gI a6 aZ) (0:Int)) fun y8=>match y8 with| .inl r=>some r| .inr ()=>some true)
theorem ny {a6:List ai}{aZ:List ai}{r:Bool}(h:dc a6 aZ=some r):ax prog 27 [dL ae a6,dL ae aZ] (dB r):=by
 refine bn (rs:=[.tmp 4]) (fun cx hx h0=>?_) func27
 unfold dc at h
 refine ra hx ?_
 refine AW.seq (ra hx ?_)
 refine cdh h rfl (fun eF h=>?_) (fun eF h=>?_)
 refine ra hx ?_
 exact AW.ret (rtv h)
 refine AW.skip (AW.seq (ra hx ?_))
 refine AW.block ?_
 obtain⟨y,hy,h⟩:=ah h
 refine lp (S:=Int) (X:=Bool⊕Unit) (fun bk=>[(0,dL ae a6),(1,dL ae aZ),(5,dI .i64 bk)]) (fun bk=>⟨[],[],0⟩) (PS (PR [.tmp 4] fun r=>dB r) (PE cx (.exit 0) (fun ()=>[]) fun ()=>⟨[],[],0⟩)) hy ?_ ?_ ?_
 exact wk0 h0 []
 clear hy h
 rintro bk y h
 dsimp only[gI] at h
 refine AW.seq (ra hx ?_)
 refine cdh h rfl (fun tz h=>?_) (fun tz h=>?_)
 refine AW.skip (AW.seq (AW.block (rsd [] hx fun K hK=>?_)))
 iterate 2 refine sa ?_
 obtain⟨Ou,h⟩:=am h
 have hn4:(bk).toNat<(a6).length:=by omega
 refine sbr ?_
 refine s1 (d:=dG ae ((a6)[(bk).toNat]!)) (gk (c:=ae) (l:=a6) (n:=(bk).toNat) (o:=0) aC hn4 (cH _ _ rfl)) ?_
 iterate 2 refine sa ?_
 obtain⟨FQ,h⟩:=am h
 have hn6:(bk).toNat<(aZ).length:=by omega
 refine sbr ?_
 refine s1 (d:=dG ae ((aZ)[(bk).toNat]!)) (gk (c:=ae) (l:=aZ) (n:=(bk).toNat) (o:=0) aC hn6 (cH _ _ rfl)) ?_
 refine s1 (wY tok 4 (by decide) qK aC) ?_
 refine nl hK ?_
 refine cdh h rfl (fun tX h=>?_) (fun tX h=>?_)
 refine ra hx ?_
 refine AW.ret ?_
 cases h
 refine PS.r ⟨by nofun,PS.l (PR.i ?_)⟩
 exact rv1
 refine AW.skip (rb hx ?_)
 exact pel h h0 []
 exact AW.exit (peq h h0 [])
 rcases y with r|⟨⟩
 rintro ex tm' hp' ⟨rfl,hw⟩
 cases h
 exact hw
 refine lwr ?_
 refine ra hx ?_
 exact AW.ret (rtv h)
def gA(bS:ai):Option Int:=bnd (ct bS) fun x1=>cnd (!x1) (some (0:Int)) (bnd (jI bS.vN) fun x4=>some x4)
theorem pq {bS:ai}{r:Int}(h:gA bS=some r):ax prog 82 [dG ae bS] (dI .i64 r):=by
 refine bn (rs:=[.tmp 2]) (fun cx hx h0=>?_) func82
 unfold gA at h
 refine ra hx ?_
 refine AW.seq (rs hx fun K hK=>?_)
 refine mbr ?_
 refine scb h il fun x1 h=>?_
 refine nbr hK ?_
 refine cdh h rfl (fun cj h=>?_) (fun cj h=>?_)
 refine ra hx ?_
 exact AW.ret (rtv h)
 refine AW.skip (rs hx fun K hK=>?_)
 refine mbr ?_
 refine scb h sb fun x4 h=>?_
 refine nbr hK ?_
 exact AW.ret (rtv h)
def lw(bS:ai)(od:ai):Option ai:=bnd (m7 od) fun x1=>bnd (iD bS x1) fun x3=>some x3
theorem we {bS:ai}{od:ai}{r:ai}(h:lw bS od=some r):ax prog 113 [dG ae bS,dG ae od] (dG ae r):=by
 refine bn (rs:=[.cell 4 34]) (fun cx hx h0=>?_) func113
 unfold lw at h
 refine rar hx ?_
 refine rsd [79,99] hx fun K hK=>?_
 refine mbr ?_
 refine cqb h BH fun x1 h=>?_
 refine cqb h Iz fun x3 h=>?_
 refine nbr hK ?_
 exact AW.ret (rtv h)
def nd(q:Rat):Prop:=q.num.natAbs<LIM∧q.den<LIM
instance(q:Rat):Decidable (nd q):=by unfold nd;exact inferInstance
def kV(q:Rat):ai:=⟨enc q.num,enc (q.den:Int)⟩
def zY:ai:=⟨Fo,enc 1⟩
def sV:Option Rat→ai
 |some q=>kV q
 |none=>zY
def okR(x:ai):Prop:=okI x.vN∧okI x.vD
theorem nC(o:Option Rat):okR (sV o):=by
 cases o with
 |some q=>exact⟨xc _,xc _⟩
 |none=>
  refine⟨fun j hj=>?_,xc _⟩
  show 0≤(W 0)[j]!∧(W 0)[j]! <4294967296
  rw[gX hj];have:=@dgl 0 j;omega
theorem Rx {p q:Rat}(hp:nd p)(hq:nd q)(h:kV p=kV q):p=q:=by
 unfold kV at h
 simp only[ai.mk.injEq] at h
 have h1:=zV hp.1 hq.1 h.1
 have h2:=zV (by simpa using hp.2) (by simpa using hq.2) h.2
 exact Rat.ext h1 (by omega)
theorem jY {z:Int}:cv (enc z)=decide (z.natAbs<LIM):=by
 by_cases h:z.natAbs<LIM
 ·rw[bg h,d6 h]
 ·rw[DI h,Be,f8 h]
theorem JP {q:Rat}(h:nd q):kV q≠zY:=by
 intro e
 have:cv (kV q).vN=cv zY.vN:=by rw[e]
 rw[show (kV q).vN=enc q.num from rfl,bg h.1] at this
 cases this
def d9(x:ai):Option Rat:=open Classical in if h:∃q,nd q∧x=kV q then some (Classical.choose h) else none
theorem dY {x:ai}{q:Rat}:d9 x=some q↔nd q∧x=kV q:=by
 unfold d9
 split
 ·rename_i h
  obtain⟨h1,h2⟩:=HK h
  constructor
  ·intro e
   injection e with e
   rw[←e];exact⟨h1,h2⟩
  ·rintro⟨h3,h4⟩
   congr 1
   exact Rx h1 h3 (h2.symm.trans h4)
 ·rename_i h
  constructor
  ·intro e;cases e
  ·rintro h3;exact absurd ⟨q,h3⟩ h
theorem AA {x:ai}:d9 x=none↔∀q,nd q→x≠kV q:=by
 constructor
 ·intro h q hq e
  rw[dY.2 ⟨hq,e⟩] at h;cases h
 ·intro h
  cases hx:d9 x with
  |none=>rfl
  |some q=>exact absurd (dY.1 hx).2 (h q (dY.1 hx).1)
theorem pC {q:Rat}(h:nd q):d9 (kV q)=some q:=dY.2 ⟨h,rfl⟩
theorem Ph:d9 zY=none:=AA.2 fun _ hq e=>JP hq e.symm
def JL(o:Option Rat):Prop:=∀q,o=some q→nd q
theorem ug {o:Option Rat}(h:JL o):d9 (sV o)=o:=by
 cases o with
 |none=>exact Ph
 |some q=>exact pC (h q rfl)
theorem JK(x:ai):JL (d9 x):=fun _ h=>(dY.1 h).1
theorem FV:JL none:=fun _ h=>by cases h
theorem Rt {g k:Int}(h:g≠0):(g*k).fdiv g=k:=Int.mul_fdiv_cancel_left _ h
theorem M8 {g k:Int}(h:g≠0):(g*k).fdiv (-g)=-k:=by
 rw[show g*k=-g*-k from (H4 g k).symm]
 exact Int.mul_fdiv_cancel_left _ (by omega)
theorem sk {n d:Int}(hd:d≠0):∃k m:Int,n=(Nat.gcd n.natAbs d.natAbs:Nat)*k∧d=(Nat.gcd n.natAbs d.natAbs:Nat)*m∧m≠0∧(Rat.divInt n d).num=d.sign*k∧((Rat.divInt n d).den:Int)=d.sign*m:=by
 have hg0:Nat.gcd n.natAbs d.natAbs≠0:=by
  intro h
  have:=(LH.1 h).2
  omega
 have Dv:((Nat.gcd n.natAbs d.natAbs:Nat):Int)≠0:=by omega
 obtain⟨k,hk⟩:((Nat.gcd n.natAbs d.natAbs:Nat):Int) ∣ n:=Int.ofNat_dvd_left.2 (Nat.gcd_dvd_left _ _)
 obtain⟨m,hm⟩:((Nat.gcd n.natAbs d.natAbs:Nat):Int) ∣ d:=Int.ofNat_dvd_left.2 (Nat.gcd_dvd_right _ _)
 have hgg:((Int.gcd d n:Nat):Int)=((Nat.gcd n.natAbs d.natAbs:Nat):Int):=by
  rw[Int.gcd_comm];rfl
 have hmm:m≠0:=by
  intro h
  rw[h,Int.mul_zero] at hm
  exact hd hm
 refine⟨k,m,hk,hm,hmm,?_,?_⟩
 ·rw[Rat.num_divInt,hgg]
  generalize ((Nat.gcd n.natAbs d.natAbs:Nat):Int)=g at hk Dv ⊢
  rw[hk,HA,Int.mul_ediv_cancel_left _ Dv]
 ·rw[Rat.den_divInt,aA hd]
  have e:((d.natAbs / Int.gcd d n:Nat):Int)=(d.natAbs:Int) / ((Int.gcd d n:Nat):Int):=LO ..
  rw[e,hgg]
  have e2:(d.natAbs:Int)=d.sign*d:=by rw[Int.sign_mul_self]
  rw[e2]
  generalize ((Nat.gcd n.natAbs d.natAbs:Nat):Int)=g at hm Dv ⊢
  have e3:d.sign*d=g*(d.sign*m):=by
   conv=>lhs;rhs;rw[hm]
   rw[HA]
  rw[e3,Int.mul_ediv_cancel_left _ Dv]
theorem vb {n d:Int}(hd:d≠0)(h1:n.natAbs<LIM)(h2:d.natAbs<LIM):nd (Rat.divInt n d):=by
 obtain⟨k,m,hk,hm,QU,e1,e2⟩:=sk (n:=n) hd
 have hg0:Nat.gcd n.natAbs d.natAbs≠0:=by
  intro h
  have:=(LH.1 h).2
  omega
 have hs:d.sign.natAbs=1:=by rw[Int.natAbs_sign,aA hd]
 refine⟨?_,?_⟩
 ·rw[e1,wU,hs,d8]
  refine cD ?_ h1
  conv=>rhs;rw[hk]
  rw[wU,dQ]
  exact Ed _ (vp hg0)
 ·have:(Rat.divInt n d).den=(d.sign*m).natAbs:=by omega
  rw[this,wU,hs,d8]
  refine cD ?_ h2
  conv=>rhs;rw[hm]
  rw[wU,dQ]
  exact Ed _ (vp hg0)
theorem Je {n d:Int}(hd:d≠0):n.fdiv (bif decide (d<0) then -((Nat.gcd n.natAbs d.natAbs:Nat):Int) else ((Nat.gcd n.natAbs d.natAbs:Nat):Int))=(Rat.divInt n d).num∧d.fdiv (bif decide (d<0) then -((Nat.gcd n.natAbs d.natAbs:Nat):Int) else ((Nat.gcd n.natAbs d.natAbs:Nat):Int))=((Rat.divInt n d).den:Int):=by
 obtain⟨k,m,hk,hm,QU,e1,e2⟩:=sk (n:=n) hd
 have Dv:((Nat.gcd n.natAbs d.natAbs:Nat):Int)≠0:=by
  intro h
  rw[h,Int.zero_mul] at hm
  exact hd hm
 rw[e1,e2]
 generalize ((Nat.gcd n.natAbs d.natAbs:Nat):Int)=g at hk hm Dv ⊢
 by_cases h:d<0
 ·rw[d6 h,ix,L0 h]
  constructor
  ·rw[hk,M8 Dv];omega
  ·rw[hm,M8 Dv];omega
 ·rw[f8 h,cond_false,D9 (by omega)]
  constructor
  ·rw[hk,Rt Dv];omega
  ·rw[hm,Rt Dv];omega
theorem Hl {n d:Int}(hd:d≠0)(h2:d.natAbs<LIM):Nat.gcd n.natAbs d.natAbs<LIM∧Nat.gcd n.natAbs d.natAbs≠0:=
 ⟨cD (Nat.gcd_le_right _ (by omega)) h2,fun h=>by have:=(LH.1 h).2;omega⟩
theorem NB:m9=some (enc 1):=by
 unfold m9
 rw[Ig (by decide) (by decide),ab]
theorem qZ(x:ap):jK x=some (cv x):=by
 unfold jK
 rw[ND,ab,RK,ab]
 congr 1
 unfold cv
 cases x.vBad <;> rfl
theorem za:iF=some zY:=by
 unfold iF
 rw[NI,NB,ab,ab]
 rfl
theorem Rl {n d:Int}(hn:n.natAbs<LIM)(hd:d.natAbs<LIM):(∃q,nd q∧(⟨enc n,enc d⟩:ai)=kV q)↔0<d∧Nat.gcd n.natAbs d.natAbs=1:=by
 constructor
 ·rintro⟨q,hq,e⟩
  unfold kV at e
  simp only[ai.mk.injEq] at e
  have e1:=zV hn hq.1 e.1
  have e2:=zV hd (by simpa using hq.2) e.2
  subst e1;subst e2
  exact⟨by have:=q.den_pos;omega,by rw[dQ];exact q.reduced⟩
 ·rintro⟨h1,h2⟩
  refine⟨⟨n,d.natAbs,by omega,h2⟩,⟨hn,hd⟩,?_⟩
  unfold kV
  simp only[ai.mk.injEq,true_and]
  congr 1
  omega
theorem mN {x:ai}(hx:okR x):ci x=some (d9 x).isSome:=by
 obtain⟨n,d⟩:=x
 obtain⟨h1,h2⟩:=hx
 dsimp only at h1 h2
 have hb:∀b:Bool,(b=true↔∃q,nd q∧(⟨n,d⟩:ai)=kV q)→(d9 ⟨n,d⟩).isSome=b:=by
  intro b hb
  cases hv:d9 ⟨n,d⟩ with
  |none=>
   cases b with
   |false=>rfl
   |true=>
    obtain⟨q,h3,h4⟩:=hb.1 rfl
    exact absurd h4 (AA.1 hv q h3)
  |some q=>exact ((hb.2 ⟨q,dY.1 hv⟩).symm)
 unfold ci
 dsimp only
 rw[qZ,qZ,ab,ab]
 cases Dv:cv n with
 |false=>
  rw[aL,ab,hb false]
  constructor
  ·intro h;cases h
  ·rintro⟨q,hq,e⟩
   unfold kV at e
   simp only[ai.mk.injEq] at e
   rw[e.1,bg hq.1] at Dv;cases Dv
 |true=>
  cases MW:cv d with
  |false=>
   rw[ej,aL,ab,hb false]
   constructor
   ·intro h;cases h
   ·rintro⟨q,hq,e⟩
    unfold kV at e
    simp only[ai.mk.injEq] at e
    rw[e.2,bg (by simpa using hq.2)] at MW;cases MW
  |true=>
   obtain⟨n,hn,rfl⟩:=sQ h1 Dv
   obtain⟨d,hd,rfl⟩:=sQ h2 MW
   have hgi:=Rl hn hd
   rw[ej,ej,BC hd,ab,NH hn hd,ab,NB,ab,fM]
   by_cases h0:0<d
   ·rw[ar (by rw[D9 h0];decide),ab]
    congr 1
    symm
    refine hb _ ?_
    rw[hgi,decide_eq_true_iff]
    have Oo:=(Hl (n:=n) (show d≠0 by omega) hd).1
    constructor
    ·intro h
     have:=zV (by simpa using Oo) (by decide) h
     exact⟨h0,by omega⟩
    ·rintro⟨_,h⟩
     rw[h];rfl
   ·rw[aA (by rw[Int.sign_pos_iff];exact h0),ab]
    congr 1
    symm
    refine hb _ ?_
    rw[hgi]
    constructor
    ·intro h;cases h
    ·rintro⟨h,_⟩;exact absurd h h0
theorem BD {n d:Int}(hn:n.natAbs<LIM)(hd:d.natAbs<LIM)(h0:d≠0):c7 (enc n) (enc d)=some (kV (Rat.divInt n d)):=by
 obtain⟨Dv,MW⟩:=Hl (n:=n) h0 hd
 obtain⟨e1,e2⟩:=Je (n:=n) h0
 have Oo:(((Nat.gcd n.natAbs d.natAbs:Nat):Int)).natAbs<LIM:=by simpa using Dv
 unfold c7
 rw[qZ,qZ,ab,ab,bg hn,bg hd,eH,aL,aL,BC hd,ab,ab,a7 _ _ (by rw[L1];exact h0),NH hn hd,ab,ab,S5 Oo,ab]
 have Qu:(cnd (decide (d.sign<(0:Int))) (some (enc (-((Nat.gcd n.natAbs d.natAbs:Nat):Int)))) (some (enc ((Nat.gcd n.natAbs d.natAbs:Nat):Int))))=some (enc (bif decide (d<0) then -((Nat.gcd n.natAbs d.natAbs:Nat):Int) else ((Nat.gcd n.natAbs d.natAbs:Nat):Int))):=by
  by_cases h:d<0
  ·rw[bb _ _ (by rw[HX];exact h),d6 h];rfl
  ·rw[a7 _ _ (by rw[HX];exact h),f8 h];rfl
 have Js:((bif decide (d<0) then -((Nat.gcd n.natAbs d.natAbs:Nat):Int) else ((Nat.gcd n.natAbs d.natAbs:Nat):Int))).natAbs<LIM∧(bif decide (d<0) then -((Nat.gcd n.natAbs d.natAbs:Nat):Int) else ((Nat.gcd n.natAbs d.natAbs:Nat):Int))≠0:=by
  cases decide (d<0)
  ·simp only[cond_false];omega
  ·simp only[ix];omega
 rw[Qu,ab,NF hn Js.1 Js.2,ab,NF hd Js.1 Js.2,ab,e1,e2]
 rfl
theorem Ks {x:ap}:c7 x (enc 0)=some zY:=by
 unfold c7
 rw[qZ,qZ,ab,ab,BC (by decide),ab,bg (by decide),za,ab]
 cases cv x <;> rfl
theorem EM {x y:ap}(h:(cv x&&cv y)=false):c7 x y=some zY:=by
 unfold c7
 rw[qZ,qZ,ab,ab,za,ab]
 cases h1:cv x with
 |false=>rfl
 |true=>
  cases h2:cv y with
  |false=>rfl
  |true=>rw[h1,h2] at h;cases h
def PM(x y:Rat):Option Rat:=
 if (x.num*((y.den / Nat.gcd x.den y.den:Nat):Int)).natAbs<LIM∧(y.num*((x.den / Nat.gcd x.den y.den:Nat):Int)).natAbs<LIM∧(x.num*((y.den / Nat.gcd x.den y.den:Nat):Int)+y.num*((x.den / Nat.gcd x.den y.den:Nat):Int)).natAbs<LIM∧x.den / Nat.gcd x.den y.den*y.den<LIM then some (x+y) else none
def PL(x y:Rat):Option Rat:=if nd (x*y) then some (x*y) else none
theorem Kb(x y:Rat):Rat.divInt (x.num*((y.den / Nat.gcd x.den y.den:Nat):Int)+y.num*((x.den / Nat.gcd x.den y.den:Nat):Int)) ((x.den / Nat.gcd x.den y.den*y.den:Nat):Int)=x+y:=by
 have hx:=x.den_pos
 have hy:=y.den_pos
 have hg:0<Nat.gcd x.den y.den:=LY _ hx
 obtain⟨p,hp⟩:=Nat.gcd_dvd_left x.den y.den
 obtain⟨q,hq⟩:=Nat.gcd_dvd_right x.den y.den
 have e1:x.den / Nat.gcd x.den y.den=p:=by
                         conv=>lhs;lhs;rw[hp]
                         exact L6 _ hg
 have e2:y.den / Nat.gcd x.den y.den=q:=by
                         conv=>lhs;lhs;rw[hq]
                         exact L6 _ hg
 rw[e1,e2,Rat.add_def']
 generalize Nat.gcd x.den y.den=g at hg hp hq
 rw[←LX,←Rat.divInt_mul_left (a:=(g:Int)) (by omega)]
 congr 1
 ·rw[Int.mul_add,hp,hq,ry,ry,HA,HA (y.num)]
 ·rw[hp]
  simp only[ry,Int.mul_assoc]
theorem cross(x y:Rat):(x*y).num=(Rat.divInt x.num y.den).num*(Rat.divInt y.num x.den).num∧(x*y).den=(Rat.divInt x.num y.den).den*(Rat.divInt y.num x.den).den:=by
 have hx:=x.den_pos
 have hy:=y.den_pos
 obtain⟨k,m,hk,hm,QU,e1,e2⟩:=sk (n:=x.num) (d:=(y.den:Int)) (by omega)
 obtain⟨k',m',v3,ww,hm0',e1',e2'⟩:=sk (n:=y.num) (d:=(x.den:Int)) (by omega)
 rw[D9 (by omega),Eb] at e1 e2 e1' e2'
 have hxy:x*y=Rat.divInt x.num y.den*Rat.divInt y.num x.den:=by
  rw[Rat.divInt_mul_divInt]
  conv=>lhs;rw[←LZ x,←LZ y,Rat.divInt_mul_divInt]
  rw[s6 (y.den:Int)]
 have hc:Nat.gcd ((Rat.divInt x.num y.den).num*(Rat.divInt y.num x.den).num).natAbs ((Rat.divInt x.num y.den).den*(Rat.divInt y.num x.den).den)=1:=by
  rw[wU]
  have c1:=(Rat.divInt x.num y.den).reduced
  have c2:=(Rat.divInt y.num x.den).reduced
  have d1:(Rat.divInt x.num y.den).num.natAbs ∣ x.num.natAbs:=by
   rw[e1];exact Int.natAbs_dvd_natAbs.2 ⟨_,by rw[s6];exact hk⟩
  have d2:(Rat.divInt y.num x.den).den ∣ x.den:=Int.natCast_dvd_natCast.1 (by rw[e2'];exact⟨_,by rw[s6];exact ww⟩)
  have d3:(Rat.divInt y.num x.den).num.natAbs ∣ y.num.natAbs:=by
   rw[e1'];exact Int.natAbs_dvd_natAbs.2 ⟨_,by rw[s6];exact v3⟩
  have d4:(Rat.divInt x.num y.den).den ∣ y.den:=Int.natCast_dvd_natCast.1 (by rw[e2];exact⟨_,by rw[s6];exact hm⟩)
  have c3:Nat.Coprime (Rat.divInt x.num y.den).num.natAbs (Rat.divInt y.num x.den).den:=Nat.Coprime.coprime_dvd_left d1 (Nat.Coprime.coprime_dvd_right d2 x.reduced)
  have c4:Nat.Coprime (Rat.divInt y.num x.den).num.natAbs (Rat.divInt x.num y.den).den:=Nat.Coprime.coprime_dvd_left d3 (Nat.Coprime.coprime_dvd_right d4 y.reduced)
  exact Nat.Coprime.mul_left (Nat.Coprime.mul_right c1 c3) (Nat.Coprime.mul_right c4 c2)
 rw[hxy,Rat.num_mul,Rat.den_mul,hc]
 exact⟨by simp,by simp⟩
theorem rN(q:Rat):(kV q).vN=enc q.num:=rfl
theorem t3(q:Rat):(kV q).vD=enc (q.den:Int):=rfl
theorem M9(z:Int):(enc z).vBad=decide (¬z.natAbs<LIM):=by
 by_cases h:z.natAbs<LIM
 ·rw[sU h];simp[h]
 ·rw[DI h];simp[h];rfl
theorem eM {q:Rat}(h:nd q):((q.den:Nat):Int).natAbs<LIM:=by simpa using h.2
theorem G_rMul {x y:Rat}(hx:nd x)(hy:nd y):fh (kV x) (kV y)=some (sV (PL x y)):=by
 have hdx:=x.den_pos
 have hdy:=y.den_pos
 obtain⟨c1,c2⟩:=cross x y
 have f1:=vb (n:=x.num) (d:=(y.den:Int)) (by omega) hx.1 (eM hy)
 have f2:=vb (n:=y.num) (d:=(x.den:Int)) (by omega) hy.1 (eM hx)
 unfold fh
 rw[show ci (kV x)=_ from mN (nC (some x)),show ci (kV y)=_ from mN (nC (some y)),pC hx,pC hy,ab,ab]
 simp only[t5,eH,aL,ab,rN,t3]
 rw[BD hx.1 (eM hy) (by omega),ab,BD hy.1 (eM hx) (by omega),ab]
 simp only[rN,t3]
 rw[Kr f1.1 f2.1,ab,Kr (eM f1) (eM f2),ab,←c1,←ry,←c2,M9,M9,cnd_or,ab,za,ab,←Bool.decide_or,fM]
 unfold PL
 by_cases h:nd (x*y)
 ·obtain⟨h1,h2⟩:=id h
  rw[aA (by rw[dQ];omega),ar h];rfl
 ·have h1:¬((x*y).num.natAbs<LIM∧(x*y).den<LIM):=h
  rw[ar (by rw[dQ];omega),aA h];rfl
theorem EI {x y:ai}(hx:okR x)(hy:okR y)(h:((d9 x).isSome&&(d9 y).isSome)=false):fh x y=some zY:=by
 unfold fh
 rw[mN hx,mN hy,ab,ab,za,ab]
 cases h1:(d9 x).isSome with
 |false=>rfl
 |true=>
  cases h2:(d9 y).isSome with
  |false=>rfl
  |true=>rw[h1,h2] at h;cases h
theorem Cw {n g:Nat}:((n:Int)).fdiv (g:Int)=((n / g:Nat):Int):=by
 rw[Int.fdiv_eq_ediv_of_nonneg _ (HY _)]
 exact (LO ..).symm
theorem G_rAdd {x y:Rat}(hx:nd x)(hy:nd y):gJ (kV x) (kV y)=some (sV (PM x y)):=by
 have hdx:=x.den_pos
 have hdy:=y.den_pos
 have hg:0<Nat.gcd x.den y.den:=LY _ hdx
 have Oo:Nat.gcd x.den y.den<LIM:=cD (yR _ hdx) hx.2
 have Q4:((Nat.gcd x.den y.den:Nat):Int).natAbs<LIM:=by simpa using Oo
 have hp:x.den / Nat.gcd x.den y.den<LIM:=cD (qN _ _) hx.2
 have hq:y.den / Nat.gcd x.den y.den<LIM:=cD (qN _ _) hy.2
 have hp0:0<x.den / Nat.gcd x.den y.den:=Ef (yR y.den hdx) hg
 have EP:0<x.den / Nat.gcd x.den y.den*y.den:=tL hp0 hdy
 have haf:=Kb x y
 unfold gJ
 rw[show ci (kV x)=_ from mN (nC (some x)),show ci (kV y)=_ from mN (nC (some y)),pC hx,pC hy,ab,ab]
 simp only[t5,eH,aL,ab,rN,t3]
 rw[NH (eM hx) (eM hy),ab,dQ,dQ,NF (eM hx) Q4 (by omega),ab,NF (eM hy) Q4 (by omega),ab,Cw,Cw,Kr hx.1 (by rw[dQ];exact hq),ab,Kr hy.1 (by rw[dQ];exact hp),ab,Kr (by rw[dQ];exact hp) (eM hy),←ry]
 unfold PM
 revert haf
 generalize x.num*((y.den / Nat.gcd x.den y.den:Nat):Int)=z1
 generalize y.num*((x.den / Nat.gcd x.den y.den:Nat):Int)=z2
 revert EP
 generalize x.den / Nat.gcd x.den y.den*y.den=D
 intro EP haf
 have hsum:jB (enc z1) (enc z2)=some (if z1.natAbs<LIM∧z2.natAbs<LIM then enc (z1+z2) else Fo):=by
  by_cases h:z1.natAbs<LIM∧z2.natAbs<LIM
  ·rw[ar h,G_Add h.1 h.2]
  ·rw[aA h,OW (by rw[jY,jY,←wP];exact f8 h)]
 rw[hsum,ab,ab,pU]
 by_cases h:z1.natAbs<LIM∧z2.natAbs<LIM
 ·rw[ar h]
  by_cases h2:(z1+z2).natAbs<LIM∧D<LIM
  ·rw[BD h2.1 (by rw[dQ];exact h2.2) (by omega),haf,ar ⟨h.1,h.2,h2⟩];rfl
  ·rw[EM (by rw[jY,jY,←wP,dQ];exact f8 h2),aA fun hh=>h2 hh.2.2];rfl
 ·rw[aA h,EM (by rw[Be,Bool.false_and]),aA fun hh=>h ⟨hh.1,hh.2.1⟩];rfl
theorem EJ {x y:ai}(hx:okR x)(hy:okR y)(h:((d9 x).isSome&&(d9 y).isSome)=false):gJ x y=some zY:=by
 unfold gJ
 rw[mN hx,mN hy,ab,ab,za,ab]
 cases h1:(d9 x).isSome with
 |false=>rfl
 |true=>
  cases h2:(d9 y).isSome with
  |false=>rfl
  |true=>rw[h1,h2] at h;cases h
def PV(a b:Option Rat):Option Rat:=a.bind fun x=>b.bind fun y=>PM x y
def GL(a b:Option Rat):Option Rat:=a.bind fun x=>b.bind fun y=>PL x y
def N6(a:Option Rat):Option Rat:=a.map fun x=>-x
def oinv(a:Option Rat):Option Rat:=a.bind fun x=>if x=0 then none else some x⁻¹
def osub(a b:Option Rat):Option Rat:=PV a (N6 b)
def odiv(a b:Option Rat):Option Rat:=GL a (oinv b)
def osgn(a:Option Rat):Int:=match a with|some x=>x.num.sign|none=>0
theorem Rr {x:Rat}(h:nd x):nd (-x):=⟨by rw[Rat.neg_num,Int.natAbs_neg];exact h.1,h.2⟩
theorem I0 {a:Option Rat}(h:JL a):JL (N6 a):=by
 cases a with
 |none=>exact FV
 |some x=>
  intro q hq
  injection hq with hq
  subst hq
  exact Rr (h x rfl)
theorem Rs {x:Rat}(h:nd x)(h0:x≠0):nd x⁻¹:=by
 have hn:x.num≠0:=fun h=>h0 (Rat.num_eq_zero.1 h)
 refine⟨?_,?_⟩
 ·rw[Rat.num_inv,wU,Int.natAbs_sign,aA hn,d8,dQ];exact h.2
 ·rw[Rat.den_inv,aA hn];exact h.1
theorem I1 {a:Option Rat}(h:JL a):JL (oinv a):=by
 cases a with
 |none=>exact FV
 |some x=>
  intro q hq
  have hq:(if x=0 then none else some x⁻¹)=some q:=hq
  split at hq
  ·cases hq
  ·rename_i h0
   injection hq with hq
   subst hq
   exact Rs (h x rfl) h0
theorem S1 {x y:ai}(hx:okR x)(hy:okR y):gJ x y=some (sV (PV (d9 x) (d9 y))):=by
 cases h1:d9 x with
 |none=>exact EJ hx hy (by rw[h1];rfl)
 |some p=>
  cases h2:d9 y with
  |none=>exact EJ hx hy (by rw[h1,h2];rfl)
  |some q=>
   obtain⟨hp,rfl⟩:=dY.1 h1
   obtain⟨hq,rfl⟩:=dY.1 h2
   exact G_rAdd hp hq
theorem Mq {x y:ai}(hx:okR x)(hy:okR y):fh x y=some (sV (GL (d9 x) (d9 y))):=by
 cases h1:d9 x with
 |none=>exact EI hx hy (by rw[h1];rfl)
 |some p=>
  cases h2:d9 y with
  |none=>exact EI hx hy (by rw[h1,h2];rfl)
  |some q=>
   obtain⟨hp,rfl⟩:=dY.1 h1
   obtain⟨hq,rfl⟩:=dY.1 h2
   exact G_rMul hp hq
theorem S0 {x:ai}(hx:okR x):na x=some (sV (N6 (d9 x))):=by
 unfold na
 rw[mN hx,ab]
 cases h1:d9 x with
 |none=>rw[za,ab];rfl
 |some p=>
  obtain⟨hp,rfl⟩:=dY.1 h1
  simp only[t5,eH,aL,rN,t3]
  rw[S5 hp.1,ab]
  rfl
theorem G_osub {x y:ai}(hx:okR x)(hy:okR y):tE x y=some (sV (osub (d9 x) (d9 y))):=by
 unfold tE
 rw[S0 hy,ab,S1 hx (nC _),ab,ug (I0 (JK y))]
 rfl
theorem Mr {q:Rat}(hq:nd q):c7 (enc (q.den:Int)) (enc q.num)=some (sV (oinv (some q))):=by
 by_cases h:q=0
 ·subst h
  show c7 _ (enc 0)=_
  rw[Ks];rfl
 ·have hn:q.num≠0:=fun h0=>h (Rat.num_eq_zero.1 h0)
  rw[BD (eM hq) hq.1 hn,←Rat.inv_def]
  show _=some (sV (if q=0 then none else some q⁻¹))
  rw[aA h];rfl
theorem G_odiv {x y:ai}(hx:okR x)(hy:okR y):tF x y=some (sV (odiv (d9 x) (d9 y))):=by
 unfold tF
 rw[mN hy,ab]
 cases h2:d9 y with
 |none=>
  rw[za,ab]
  show some zY=some (sV (GL (d9 x) none))
  unfold GL
  cases d9 x <;> rfl
 |some q=>
  obtain⟨hq,rfl⟩:=dY.1 h2
  simp only[t5,eH,aL,rN,t3]
  rw[Mr hq,ab,Mq hx (nC _),ab,ug (I1 fun r hr=>by injection hr with hr;subst hr;exact hq)]
  rfl
theorem SZ {x:ai}(hx:okR x):nM x=some (osgn (d9 x)):=by
 unfold nM
 rw[mN hx,ab]
 cases h1:d9 x with
 |none=>rfl
 |some p=>
  obtain⟨hp,rfl⟩:=dY.1 h1
  simp only[t5,eH,aL,rN]
  rw[BC hp.1,ab]
  rfl
theorem DJ(n:Int):Rat.divInt n 1=(n:Rat):=by
 show Rat.divInt n ((1:Nat):Int)=_
 rw[LX]
 exact Rat.mkRat_self (n:Rat)
theorem SY {n:Int}(h:n.natAbs<LIM):oq (enc n)=some (kV (n:Rat)):=by
 unfold oq
 rw[NB,ab,BD h (by decide) (by decide),ab,DJ]
theorem G_rOf {n:Int}(h1:-9223372036854775808≤n)(h2:n≤9223372036854775807):e9 n=some (kV (n:Rat)):=by
 have hL:n.natAbs<LIM:=bU (show n.natAbs<18446744073709551616 by omega) (by decide)
 unfold e9
 rw[Ig h1 h2,ab,SY hL,ab]
section
def lF(n:Nat)(f:Nat→Nat):List Int:=(List.range n).map fun j=>(f j:Int)
section
variable {n m p x k j:Nat} {f g:Nat→Nat}
theorem cX:(lF n f).length=n:=by unfold lF;simp
theorem rI(h:j<n):(lF n f)[j]! =(f j:Int):=by
 unfold lF
 rw[f7 _ j (by simpa using h)]
 simp
theorem u6(h:∀j,j<n→f j=g j):lF n f=lF n g:=by
 unfold lF
 apply tK
 intro j hj
 rw[h j (by simpa using hj)]
theorem zM:lF n f++[(f n:Int)]=lF (n+1) f:=by
 unfold lF
 rw[yk,jR];rfl
theorem KX:(lF n f).set p (x:Int)=lF n (fun j=>if j=p then x else f j):=by
 apply HE
 ·rw[BY,cX,cX]
 ·intro i h1 h2
  rw[List.getElem_set]
  have h3:i<n:=by rw[cX] at h2;exact h2
  have e1:=rI (f:=fun j=>if j=p then x else f j) h3
  rw[f7 _ i h2] at e1
  rw[e1]
  split
  ·rename_i h;rw[ar h.symm]
  ·rename_i h
   rw[aA (fun e=>h e.symm)]
   have e2:=rI (f:=f) h3
   rw[f7 _ i (by rw[cX];exact h3)] at e2
   exact e2
theorem lF_take(h:m≤n):(lF n f).take m=lF m f:=by
 unfold lF
 rw[←wH,List.take_range,sZ h]
theorem lF_cons:[(x:Int)]++lF n f=lF (n+1) (fun j=>if j=0 then x else f (j - 1)):=by
 unfold lF
 rw[List.range_succ_eq_map,fx,rX]
 rfl
theorem Qd:List.replicate n (0:Int)=lF n (fun _=>0):=by
 unfold lF
 induction n with
 |zero=>rfl
 |succ n ih=>rw[List.replicate_succ',ih,yk,jR];rfl
end
abbrev dk(n A:Nat):List Int:=lF n (dg 65536 A)
theorem lU {A j:Nat}:dg 65536 A j<65536:=RC (by decide)
theorem Po(A:Nat):∃n,szp 65536 A n:=by
 induction A using Nat.strongRecOn with
 |_ A ih=>
  by_cases h:A=0
  ·subst h;exact⟨0,by decide,fun h=>by omega⟩
  ·obtain⟨n,h1,h2⟩:=ih (A / 65536) (by omega)
   refine⟨n+1,?_,fun _=>?_⟩
   ·rw[eZ];exact (qv (by decide)).1 h1
   ·rw[Bu]
    cases n with
    |zero=>rw[kX];omega
    |succ n=>
     have:=h2 (by omega)
     rw[Bu] at this
     rw[eZ]
     exact (qP (by decide)).1 this
def sz6(A:Nat):Nat:=Classical.choose (Po A)
theorem zx(A:Nat):szp 65536 A (sz6 A):=HK (Po A)
theorem fm(A:Nat):A<65536 ^ sz6 A:=(zx A).1
theorem rF {A n:Nat}(h:A<65536 ^ n):sz6 A≤n:=KH (by decide) (zx A) h
theorem KI {A n:Nat}(h:szp 65536 A n):n=sz6 A:=Pn (by decide) h (zx A)
theorem CX:sz6 0=0:=(KI ⟨by decide,fun h=>by omega⟩).symm
theorem Cv {A:Nat}(h:0<A):0<sz6 A:=by
 rcases mJ (sz6 A) with h1|h1
 ·have:=fm A
  rw[h1,kX] at this;omega
 ·exact h1
noncomputable abbrev dl(A:Nat):List Int:=dk (sz6 A) A
theorem Lz(A:Nat):(dl A).length=sz6 A:=cX
theorem dl_zero:dl 0=[]:=by unfold dl;rw[CX];rfl
theorem Ly {A:Nat}:(dl A).length=0↔A=0:=by
 rw[Lz]
 constructor
 ·intro h
  rcases mJ A with h1|h1
  ·exact h1
  ·have:=Cv h1;omega
 ·rintro rfl;exact CX
theorem vz {n A k:Nat}(hA:A<65536 ^ n):dZ (dk n A) (k:Int)=some ((dg 65536 A k:Nat):Int):=by
 unfold dZ
 rw[cX]
 by_cases h:k<n
 ·rw[bb _ _,aB,aJ,rI h]
 ·rw[a7 _ _,mI (bU hA (nY (by decide) (by omega)))];rfl
theorem yZ {n A:Nat}(hA:A<65536 ^ n)(hn:n<1000000):fI (dk n A)=some (dl A):=by
 obtain⟨x,hl,hx⟩:=xV (b:=ma (dk n A)) (fun s=>∃k:Nat,s=(k:Int)∧k≤n∧A<65536 ^ k) (fun s=>s.toNat) (fun x=>x=((sz6 A:Nat):Int))
  (by
   rintro s ⟨k,rfl,hk,bG⟩
   cases k with
   |zero=>
    right
    refine⟨((0:Nat):Int),?_,?_⟩
    ·dsimp only[ma]
     rw[a7 _ _,ab,aL]
    ·show ((0:Nat):Int)=_
     rw[←KI ⟨bG,fun h=>by omega⟩]
   |succ k=>
    have e:i64.wrap (((k+1:Nat):Int) - 1)=(k:Int):=by rw[cg];omega
    dsimp only[ma]
    rw[bb _ _,e,cX,aB,ab,aJ,rI (by omega),fM]
    by_cases hd:dg 65536 A k=0
    ·left
     refine⟨(k:Int),by rw[ifp_],⟨k,rfl,by omega,?_⟩,by omega⟩
     unfold dg at hd
     have h1:A / 65536 ^ k<65536:=by
      rw[qv (dE (by decide)),cC,←eZ];exact bG
     rw[gW h1] at hd
     exact (Np (dE (by decide))).1 hd
    ·right
     refine⟨((k+1:Nat):Int),by rw[ifn_],?_⟩
     show ((k+1:Nat):Int)=_
     rw[KI (A:=A) ⟨bG,fun _=>?_⟩]
     rcases bt A (65536 ^ k) with h|h
     ·exact absurd (mI h) hd
     ·exact h) (n:Int) ⟨n,rfl,aD _,hA⟩
 unfold fI
 have hs:=rF hA
 rw[cX,hl,hx,ab,aB,subL_to _ _ (by omega),aJ,lF_take hs]
theorem pmax {n m A B:Nat}(hA:A<65536 ^ n)(hB:B<65536 ^ m):A<65536 ^ max n m∧B<65536 ^ max n m:=
 ⟨bU hA (nY (by decide) (HJ ..)),bU hB (nY (by decide) (HI ..))⟩
theorem Dc(n m:Nat):max (n:Int) (m:Int)=((max n m:Nat):Int):=by omega
theorem If {n m A B:Nat}(hA:A<65536 ^ n)(hB:B<65536 ^ m)(hn:n<100000)(hm:m<100000):lR (dk n A) (dk m B)=some (dl (A+B)):=by
 have hM:max n m<100000:=by omega
 obtain⟨MY,hB'⟩:=pmax hA hB
 have hl:=sL (b:=kI (dk n A) (dk m B)) (s0:=(([]:List Int),(0:Int),(0:Int))) (fun k=>(dk k (A+B),(((A % 65536 ^ k+B % 65536 ^ k) / 65536 ^ k:Nat):Int),(k:Int))) (max n m+1) (dk (max n m+1) (A+B))
  (by simp only[kX,rV];rfl)
  (fun k hk=>by
   have hc:=pQ (b:=65536) (A:=A) (B:=B) (k:=k) (by decide)
   obtain⟨h1,h2⟩:=qS (b:=65536) (A:=A) (B:=B) (k:=k) (by decide)
   have ha:=@lU A k
   have hb:=@lU B k
   have Rg:=pQ (b:=65536) (A:=A) (B:=B) (k:=k+1) (by decide)
   generalize (A % 65536 ^ k+B % 65536 ^ k) / 65536 ^ k=c at h1 h2 hc ⊢
   generalize (A % 65536 ^ (k+1)+B % 65536 ^ (k+1)) / 65536 ^ (k+1)=c' at h2 Rg ⊢
   dsimp only[kI]
   rw[cX,cX,Dc,cg,bb _ _,vz hA,ab,vz hB,ab,cg (z:=(dg 65536 A k:Int)+(dg 65536 B k:Int)) (by omega),cg,ab,←pf,←pf,show (65536:Int)=((65536:Nat):Int) from rfl,←t6,←t7,rz (dg 65536 A k+dg 65536 B k),←ob,h1,h2,zM,cX,aB,cg (z:=(c':Int)) (by omega),cg]
   rfl)
  (by
   dsimp only[kI]
   rw[cX,cX,Dc,cg,a7 _ _])
 unfold lR
 have:A+B<65536 ^ (max n m+1):=by rw[eZ];omega
 rw[hl,ab,yZ this (by omega),ab]
theorem Al {n m A B:Nat}(hA:A<65536 ^ n)(hB:B<65536 ^ m)(hn:n<100000)(hBA:B≤A):iE (dk n A) (dk m B)=some (dl (A - B)):=by
 obtain⟨D,rfl⟩:∃D,A=D+B:=⟨A - B,by omega⟩
 rw[Bu]
 have hl:=sL (b:=jF (dk n (D+B)) (dk m B)) (s0:=(([]:List Int),(0:Int),(0:Int))) (fun k=>(dk k D,(((D % 65536 ^ k+B % 65536 ^ k) / 65536 ^ k:Nat):Int),(k:Int))) n (dk n D)
  (by simp only[kX,rV];rfl)
  (fun k hk=>by
   have hc:=pQ (b:=65536) (A:=D) (B:=B) (k:=k) (by decide)
   have Rg:=pQ (b:=65536) (A:=D) (B:=B) (k:=k+1) (by decide)
   obtain⟨h1,h2⟩:=qS (b:=65536) (A:=D) (B:=B) (k:=k) (by decide)
   have ha:=@lU D k
   have hb:=@lU B k
   have hd:=@lU (D+B) k
   generalize hq:(D % 65536 ^ k+B % 65536 ^ k) / 65536 ^ k=c at h1 h2 hc ⊢
   generalize (D % 65536 ^ (k+1)+B % 65536 ^ (k+1)) / 65536 ^ (k+1)=c' at h2 Rg ⊢
   dsimp only[jF]
   rw[cX,bb _ _,aB,vz hB,ab,aJ,rI hk,cg (z:=(dg 65536 (D+B) k:Int) - (dg 65536 B k:Int)) (by omega),cg,ab]
   by_cases hn0:(dg 65536 (D+B) k:Int) - (dg 65536 B k:Int) - (c:Int)<0
   ·obtain rfl:c'=1:=by omega
    rw[bb _ _ hn0,ab,cg]
    dsimp only
    rw[show (dg 65536 (D+B) k:Int) - (dg 65536 B k:Int) - (c:Int)+65536=(dg 65536 D k:Int) from by omega,zM,cX,aB,cg]
    rfl
   ·obtain rfl:c'=0:=by omega
    rw[a7 _ _ hn0,ab]
    dsimp only
    rw[show (dg 65536 (D+B) k:Int) - (dg 65536 B k:Int) - (c:Int)=(dg 65536 D k:Int) from by omega,zM,cX,aB,cg]
    rfl)
  (by
   dsimp only[jF]
   rw[cX,a7 _ _])
 unfold iE
 rw[hl,ab,yZ (by omega) (by omega),ab]
theorem zJ {A B k:Nat}(he:A / 65536 ^ (k+1)=B / 65536 ^ (k+1))(h:dg 65536 A k<dg 65536 B k):A<B:=by
 have e1:=cO (b:=65536) (A:=A) (k:=k)
 have e2:=cO (b:=65536) (A:=B) (k:=k)
 have h1:A / 65536 ^ k<B / 65536 ^ k:=by
  rw[e1,e2,he];exact wQ h _
 rcases bt A B with h2|h2
 ·exact h2
 ·exact absurd (L7 h2) (Nat.not_le.2 h1)
theorem NC {n m A B:Nat}(hA:A<65536 ^ n)(hB:B<65536 ^ m)(hn:n<100000)(hm:m<100000):nK (dk n A) (dk m B)=some (decide (A<B)):=by
 obtain⟨MY,hB'⟩:=pmax hA hB
 obtain⟨x,hl,hx⟩:=xV (b:=mb (dk n A) (dk m B)) (fun s=>∃k:Nat,s=(k:Int) - 1∧k≤max n m∧A / 65536 ^ k=B / 65536 ^ k) (fun s=>(s+1).toNat) (fun x=>match x with| .inl r=>r=decide (A<B)| .inr _=>A=B)
  (by
   rintro s ⟨k,rfl,hk,he⟩
   cases k with
   |zero=>
    right
    refine⟨(Sum.inr ():Bool⊕Unit),?_,?_⟩
    ·dsimp only[mb]
     rw[a7 _ _]
    ·simpa using he
   |succ k=>
    have e:((k+1:Nat):Int) - 1=(k:Int):=by omega
    rw[e]
    dsimp only[mb]
    rw[bb _ _,vz hA,ab,vz hB,ab]
    by_cases hd:dg 65536 A k=dg 65536 B k
    ·left
     refine⟨(k:Int) - 1,?_,⟨k,rfl,by omega,?_⟩,by omega⟩
     ·rw[a7 _ _ (by rw[hd];simp),cg]
     ·rw[cO (b:=65536) (A:=A) (k:=k),cO (b:=65536) (A:=B) (k:=k),he,hd]
    ·right
     refine⟨(Sum.inl (decide (A<B)):Bool⊕Unit),?_,rfl⟩
     rw[bb _ _,ab,ab]
     congr 3
     refine i3.2 ?_
     rcases Nat.lt_or_gt_of_ne hd with h|h
     ·have:=zJ he h
      exact⟨fun _=>this,fun _=>by omega⟩
     ·have:=zJ he.symm h
      exact⟨fun h'=>by omega,fun h'=>by omega⟩) (((max n m:Nat):Int) - 1) ⟨max n m,rfl,aD _,by rw[gO MY,gO hB']⟩
 unfold nK
 rw[cX,cX,Dc,cg,ab,hl,ab]
 cases x with
 |inl r=>obtain rfl:r=_:=hx;rfl
 |inr u=>
  obtain rfl:A=B:=hx
  simp
section
variable {b:Nat} {f g:Nat→Nat}
theorem IL:∀n,(∀j,j<n→f j=g j)→gQ b f n=gQ b g n
 |0,_=>rfl
 |n+1,h=>by
  unfold gQ
  rw[IL n fun j hj=>h j (by omega),h n (by omega)]
theorem IJ {q x:Nat}:∀n,q<n→gQ b (fun j=>if j=q then f j+x else f j) n=gQ b f n+x*b ^ q
 |0,h=>by omega
 |n+1,h=>by
  unfold gQ
  by_cases hq:q=n
  ·subst hq
   rw[ar rfl,IL q (g:=f) fun j hj=>ifn_,bZ];omega
  ·rw[ifn_,IJ n (by omega)];omega
theorem Mx {A:Nat}:∀n,gQ b (dg b A) n=A % b ^ n
 |0=>by simp[gQ,rV]
 |n+1=>by
  unfold gQ
  rw[Mx n,g7,cC]
theorem IK(k:Nat):∀n,k≤n→gQ b f n % b ^ k=gQ b f k % b ^ k
 |0,h=>by
  obtain rfl:k=0:=by omega
  rfl
 |n+1,h=>by
  by_cases hk:k=n+1
  ·rw[hk]
  ·have v3:k≤n:=by omega
   obtain⟨d,rfl⟩:∃d,n=k+d:=⟨n - k,by omega⟩
   rw[←IK k (k+d) v3]
   show (gQ b f (k+d)+f (k+d)*b ^ (k+d)) % b ^ k=_
   rw[me,F5,F4]
theorem Mw {M:Nat}(hb:2≤b):∀n,(∀j,j<n→f j≤M)→gQ b f n≤M*b ^ n
 |0,_=>by simp[gQ]
 |n+1,h=>by
  have ih:=Mw hb n fun j hj=>h j (by omega)
  have h1:f n*b ^ n≤M*b ^ n:=bJ _ (h n (by omega))
  have h2:M*b ^ n*2≤M*b ^ n*b:=t8 _ hb
  unfold gQ
  rw[eZ,←i1]
  omega
theorem N9 {n k:Nat}(hb:0<b)(hk:k<n):(gQ b f k / b ^ k+f k) % b=dg b (gQ b f n) k∧(gQ b f k / b ^ k+f k) / b=gQ b f (k+1) / b ^ (k+1):=by
 have hp:0<b ^ k:=dE hb
 have e:gQ b f (k+1) / b ^ k=gQ b f k / b ^ k+f k:=by
  show (gQ b f k+f k*b ^ k) / b ^ k=_
  rw[LQ _ _ hp]
 refine⟨?_,?_⟩
 ·rw[←e,←oI (A:=gQ b f n) (k:=k+1) (cp _),IK (k+1) n hk,oI (cp _)]
  rfl
 ·rw[←e,mc,←eZ]
end
theorem NS {n m A B i:Nat}(hi:i<n)(hn:n<1000)(hm:m<1000)(hB:B<65536 ^ m){R:Nat}(hR:R<65536 ^ (n+m+1)):
  ∃f:Nat→Nat,aK (jE (dk n A) (dk m B) (i:Int)) ((0:Int),dk (n+m+1) R)=some (lF (n+m+1) f)∧gQ 65536 f (n+m+1)=R+dg 65536 A i*B*65536 ^ i∧∀j,f j≤65535+65535*65535:=by
 have ha:=@lU A i
 have eP:i64.wrap ((i64.wrap (((dk n A).length:Int)+((dk m B).length:Int)))+(1:Int))=((n+m+1:Nat):Int):=by
  rw[cX,cX,cg (z:=(n:Int)+(m:Int)) (by omega),cg];omega
 obtain⟨x,hl,f,rfl,h1,h2⟩:=xV (b:=jE (dk n A) (dk m B) (i:Int)) (fun s=>∃(k:Nat) (f:Nat→Nat),s=((k:Int),lF (n+m+1) f)∧k≤m∧gQ 65536 f (n+m+1)=R+dg 65536 A i*(B % 65536 ^ k)*65536 ^ i∧(∀j,f j≤65535+65535*65535)∧∀j,i+k≤j→f j≤65535) (fun s=>m - s.1.toNat)
  (fun x=>∃f:Nat→Nat,x=lF (n+m+1) f∧gQ 65536 f (n+m+1)=R+dg 65536 A i*B*65536 ^ i∧∀j,f j≤65535+65535*65535)
  (by
   rintro s ⟨k,f,rfl,hk,hv,hf,Q8⟩
   dsimp only[jE]
   rw[eP,aJ,cX,cX,cX]
   by_cases hkm:k<m
   ·left
    have eik:i64.wrap ((i:Int)+(k:Int))=((i+k:Nat):Int):=by rw[cg];omega
    have hb:=@lU B k
    have MX:dg 65536 A i*dg 65536 B k≤65535*65535:=ja (by omega) (by omega)
    have hfk:=Q8 (i+k) (aD _)
    rw[bb _ _,eik,aB,aB,aB,aB,ab,aJ,aJ,aJ,rI (by omega),rI hi,rI hkm,←ry,cg (z:=((dg 65536 A i*dg 65536 B k:Nat):Int)) (by omega),←pf,cg (z:=((f (i+k)+dg 65536 A i*dg 65536 B k:Nat):Int)) (by omega),KX,cg]
    have e:lF (n+m+1) (fun j=>if j=i+k then f (i+k)+dg 65536 A i*dg 65536 B k else f j)=lF (n+m+1) (fun j=>if j=i+k then f j+dg 65536 A i*dg 65536 B k else f j):=u6 fun j _=>by
     by_cases h:j=i+k
     ·rw[ar h,ar h,h]
     ·rw[aA h,aA h]
    refine⟨_,rfl,⟨k+1,(fun j=>if j=i+k then f j+dg 65536 A i*dg 65536 B k else f j),by rw[e];rfl,by omega,?_,fun j=>?_,fun j hj=>?_⟩,by show m - ((k:Int)+1).toNat<m - (k:Int).toNat;omega⟩
    ·rw[IJ _ (by omega),hv,g7,z4,bZ,me]
     simp only[i1,F5,cC,ob]
    ·dsimp only
     by_cases h:j=i+k
     ·rw[ar h,h];omega
     ·rw[aA h];exact hf j
    ·dsimp only
     rw[ifn_];exact Q8 j (by omega)
   ·right
    obtain rfl:k=m:=by omega
    refine⟨_,by rw[a7 _ _],f,rfl,?_,hf⟩
    rw[hv,gW hB])
  ((0:Int),dk (n+m+1) R) ⟨0,dg 65536 R,rfl,bY _,by rw[Mx,kX,rV,HV,fP,gW hR,mK],fun j=>by have:=@lU R j;omega,fun j _=>by have:=@lU R j;omega⟩
 exact⟨f,hl,h1,h2⟩
theorem KG {n m A B:Nat}(hn:n<1000)(hm:m<1000){f:Nat→Nat}(hf:∀j,f j≤65535+65535*65535):
  aK (gS (dk n A) (dk m B)) ((0:Int),(0:Int),lF (n+m+1) f)=some (dk (n+m+1) (gQ 65536 f (n+m+1))):=by
 have eP:i64.wrap ((i64.wrap (((dk n A).length:Int)+((dk m B).length:Int)))+(1:Int))=((n+m+1:Nat):Int):=by
  rw[cX,cX,cg (z:=(n:Int)+(m:Int)) (by omega),cg];omega
 have hl:=sL (b:=gS (dk n A) (dk m B)) (s0:=((0:Int),(0:Int),lF (n+m+1) f)) (fun k=>(((gQ 65536 f k / 65536 ^ k:Nat):Int),(k:Int),lF (n+m+1) (fun j=>if j<k then dg 65536 (gQ 65536 f (n+m+1)) j else f j))) (n+m+1) (lF (n+m+1) (fun j=>if j<n+m+1 then dg 65536 (gQ 65536 f (n+m+1)) j else f j))
  (by
   rw[show gQ 65536 f 0 / 65536 ^ 0=0 from by simp[gQ],u6 (n:=n+m+1) (f:=fun j=>if j<0 then dg 65536 (gQ 65536 f (n+m+1)) j else f j) (g:=f) fun j _=>ifn_]
   rfl)
  (fun k hk=>by
   obtain⟨h1,h2⟩:=N9 (b:=65536) (f:=f) (n:=n+m+1) (k:=k) (by decide) hk
   have hc:gQ 65536 f k / 65536 ^ k≤65535+65535*65535:=by
    have:=Mw (b:=65536) (f:=f) (by decide) k fun j _=>hf j
    exact Nat.div_le_of_le_mul (by rw[cC];exact this)
   have hfk:=hf k
   generalize gQ 65536 f k / 65536 ^ k=c at h1 h2 hc ⊢
   generalize gQ 65536 f (k+1) / 65536 ^ (k+1)=c' at h2 ⊢
   dsimp only[gS]
   rw[eP,aJ,cX,bb _ _,aB,ab,aB,aJ,rI hk,aA (HS _),←pf,rz (f k),cg (z:=((c+f k:Nat):Int)) (by omega),show (65536:Int)=((65536:Nat):Int) from rfl,←t6,←t7,h1,h2,cg (z:=(c':Int)) (by omega),cg,KX]
   have e:lF (n+m+1) (fun j=>if j=k then dg 65536 (gQ 65536 f (n+m+1)) k else if j<k then dg 65536 (gQ 65536 f (n+m+1)) j else f j)=lF (n+m+1) (fun j=>if j<k+1 then dg 65536 (gQ 65536 f (n+m+1)) j else f j):=u6 fun j _=>by
    by_cases h:j=k
    ·rw[ar h,ifp_,h]
    ·rw[aA h]
     by_cases h3:j<k
     ·rw[ar h3,ifp_]
     ·rw[aA h3,ifn_]
   rw[e]
   rfl)
  (by
   dsimp only[gS]
   rw[eP,aJ,a7 _ _])
 rw[hl]
 congr 1
 exact u6 fun j hj=>ar hj
theorem Ko {n m A B:Nat}(hA:A<65536 ^ n)(hB:B<65536 ^ m)(hn:n<1000)(hm:m<1000):mp (dk n A) (dk m B)=some (dl (A*B)):=by
 have eP:i64.wrap ((i64.wrap (((dk n A).length:Int)+((dk m B).length:Int)))+(1:Int))=((n+m+1:Nat):Int):=by
  rw[cX,cX,cg (z:=(n:Int)+(m:Int)) (by omega),cg];omega
 have hbnd:∀i,A % 65536 ^ i*B<65536 ^ (n+m+1):=fun i=>by
  have h1:A % 65536 ^ i*B≤A*B:=bJ _ (Nat.mod_le _ _)
  have h2:A*B<65536 ^ n*65536 ^ m:=DT hA hB
  have h3:65536 ^ n*65536 ^ m≤65536 ^ (n+m+1):=by rw[←me];exact nY (by decide) (by omega)
  omega
 have hl:=sL (b:=kH (dk n A) (dk m B)) (s0:=((0:Int),List.replicate (n+m+1) (0:Int))) (fun i=>((i:Int),dk (n+m+1) (A % 65536 ^ i*B))) n (dk (n+m+1) (A % 65536 ^ n*B))
  (by
   rw[Qd,kX,rV,fP]
   have:dk (n+m+1) 0=lF (n+m+1) (fun _=>0):=u6 fun j _=>by unfold dg;simp
   rw[this];rfl)
  (fun i hi=>by
   obtain⟨f,h1,h2,h3⟩:=NS (A:=A) (i:=i) hi hn hm hB (hbnd i)
   dsimp only[kH]
   rw[cX,bb _ _,h1,ab,KG hn hm h3,ab,h2,cg,g7,bZ]
   have:65536 ^ i*dg 65536 A i*B=dg 65536 A i*B*65536 ^ i:=by simp only[i1,F5,cC]
   rw[this]
   rfl)
  (by
   dsimp only[kH]
   rw[cX,a7 _ _])
 unfold mp
 rw[eP,aB,aJ,hl,ab,cX,aB rfl,gW hA,yZ (by have:=hbnd n;rwa[gW hA] at this) (by omega),ab]
end
end
end Go.Proofs.YtgfcnncojhkcoaaGreat
