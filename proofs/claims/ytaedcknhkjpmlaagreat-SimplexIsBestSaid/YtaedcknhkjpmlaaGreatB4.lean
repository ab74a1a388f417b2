/-
  Lemmas, part 4. Conditions: none.
-/
import Derived.Test.YtaedcknhkjpmlaaGreatB3
set_option linter.all false
set_option maxRecDepth 100000
set_option maxHeartbeats 4000000
namespace Go.Proofs.YtaedcknhkjpmlaaGreat
open Go.RowKit Go.IntKind Tryz
noncomputable section
def ke(aM:ao):Bool×Int→Option ((Bool×Int)⊕Bool):=fun (aP,bp)=>cnd (decide (bp<(16:Int))) (bnd (S:=Bool) (cnd aP (gd (0≤bp∧bp<16) (some (decide (((aM.vW)[(bp).toNat]!)=(0:Int))))) (some (false))) fun aV=>some (.inl (aV,i64.wrap (bp+(1:Int))))) (some (.inr aP))
def pY(aM:ao):Option Bool:=bnd (bq (ke aM) (true,(0:Int))) fun be=>cnd aM.vBad (bnd (S:=Bool) (cnd be (some (!aM.vNeg)) (some (false))) fun kF=>some kF) (bnd (S:=Bool) (cnd (!be) (some (true)) (some (!aM.vNeg))) fun HD=>some HD)
theorem Gc {aM:ao}{r:Bool}(h:pY aM=some r):aq prog 177 [dG ap aM] (dB r):=by
 refine bh (rs:=[.tmp 2]) (fun cx hx h0=>?_) func177
 unfold pY at h
 iterate 2 refine ra hx ?_
 refine AW.seq (ra hx ?_)
 refine AW.block ?_
 obtain⟨be,hy,h⟩:=ae h
 refine lp (S:=Bool×Int) (X:=Bool) (fun (aP,bp)=>[(1,.pt 0 0),(3,dB aP),(4,dI .i64 bp)]) (fun (aP,bp)=>⟨[(0,dC (ap.f aM))],[],1⟩) (PE cx (.exit 0) (fun be=>[(1,.pt 0 0),(3,dB be)]) fun be=>⟨[(0,dC (ap.f aM))],[],1⟩) hy ?_ ?_ ?_
 exact wk0 h0 [0]
 clear hy h
 rintro⟨aP,bp⟩ y h
 dsimp only[ke] at h
 refine AW.seq (ra hx ?_)
 refine cdh h rfl (fun fJ h=>?_) (fun fJ h=>?_)
 refine AW.skip (AW.seq ?_)
 obtain⟨aV,hy,h⟩:=ae h
 refine jn ((PE cx .normal (fun aV=>[(1,.pt 0 0),(3,dB aV),(4,dI .i64 bp)]) fun aV=>⟨[(0,dC (ap.f aM))],[],1⟩) aV) ?_ ?_
 replace h:=hy
 refine AW.block (rq hx fun K hK=>?_)
 refine mbi ?_
 rcases aE h with⟨wI,h⟩|⟨wI,h⟩
 iterate 2 refine ga wI ?_
 obtain⟨hc3,h⟩:=ay h
 refine nbi hK ?_
 exact pe1 h h0 [0]
 refine nbi hK ?_
 exact pe1 h h0 [0]
 refine lw0 ?_
 refine rb hx ?_
 exact pel h h0 [0]
 exact AW.exit (per h h0 [0])
 refine lw0 ?_
 refine AW.seq (rai hx ?_)
 refine cdh h rfl (fun sZ h=>?_) (fun sZ h=>?_)
 refine AW.seq ?_
 obtain⟨kF,hy,h⟩:=ae h
 refine jn ((PE cx .normal (fun kF=>[(2,dB kF)]) fun kF=>⟨[],[],0⟩) kF) ?_ ?_
 replace h:=hy
 refine rq hx fun K hK=>?_
 refine mbi ?_
 rcases aE h with⟨ua,h⟩|⟨ua,h⟩
 refine nbi hK ?_
 exact pe1 h h0 []
 refine nbi hK ?_
 exact pe1 h h0 []
 refine lw0 ?_
 exact AW.ret (rtv h)
 refine AW.skip (AW.seq ?_)
 obtain⟨HD,hy,h⟩:=ae h
 refine jn ((PE cx .normal (fun HD=>[(2,dB HD)]) fun HD=>⟨[],[],0⟩) HD) ?_ ?_
 replace h:=hy
 refine rq hx fun K hK=>?_
 refine mbi ?_
 rcases aE h with⟨nK,h⟩|⟨nK,h⟩
 refine nbi hK ?_
 exact pe1 h h0 []
 refine nbi hK ?_
 exact pe1 h h0 []
 refine lw0 ?_
 exact AW.ret (rtv h)
def bk(aM:ao):Option Bool:=bnd (pY aM) fun x1=>bnd (S:=Bool) (cnd x1 (some (!aM.vBad)) (some (false))) fun gZ=>some gZ
theorem cu {aM:ao}{r:Bool}(h:bk aM=some r):aq prog 142 [dG ap aM] (dB r):=by
 refine bh (rs:=[.tmp 2]) (fun cx hx h0=>?_) func142
 unfold bk at h
 refine ra hx ?_
 refine rs hx fun K hK=>?_
 refine mbi ?_
 refine scb h Gc fun x1 h=>?_
 refine nbi hK ?_
 refine AW.seq ?_
 obtain⟨gZ,hy,h⟩:=ae h
 refine jn ((PE cx .normal (fun gZ=>[(2,dB gZ)]) fun gZ=>⟨[],[],0⟩) gZ) ?_ ?_
 replace h:=hy
 refine rq hx fun K hK=>?_
 refine mbi ?_
 rcases aE h with⟨fG,h⟩|⟨fG,h⟩
 refine nbi hK ?_
 exact pe1 h h0 []
 refine nbi hK ?_
 exact pe1 h h0 []
 refine lw0 ?_
 exact AW.ret (rtv h)
def mH(aM:ao):Int→Option (Int⊕((Int×Bool)⊕Unit)):=fun aV=>cnd (decide (aV<(16:Int))) (gd (0≤aV∧aV<16) (cnd (decide (((aM.vW)[(aV).toNat]!)≠(0:Int))) (some (.inr (.inl ((0:Int),false)))) (some (.inl (i64.wrap (aV+(1:Int))))))) (some (.inr (.inr ())))
def eL(aM:ao):Option (Int×Bool):=bnd (bk aM) fun x1=>bnd (S:=Bool) (cnd (!x1) (some (true)) (some (decide ((1073741824:Int)≤((aM.vW)[((1:Int)).toNat]!))))) fun aC=>cnd aC (some ((0:Int),false)) (bnd (bq (mH aM) (2:Int)) fun y11=>match y11 with| .inl r=>some r| .inr ()=>bnd (some (i64.wrap ((i64.wrap ((i64.wrap ((aM.vW)[((1:Int)).toNat]!))*(4294967296:Int)))+(i64.wrap ((aM.vW)[((0:Int)).toNat]!))))) fun qc=>cnd aM.vNeg (some (i64.wrap (0 - qc),true)) (some (qc,true)))
theorem jh {aM:ao}{r:Int×Bool}(h:eL aM=some r):aq prog 166 [dG ap aM] (.tu [dI .i64 r.1,dB r.2]):=by
 refine bh (rs:=[.tmp 2,.tmp 3]) (fun cx hx h0=>?_) func166
 unfold eL at h
 refine ra hx ?_
 refine rs hx fun K hK=>?_
 refine mbi ?_
 refine scb h cu fun x1 h=>?_
 refine nbi hK ?_
 iterate 2 refine AW.seq ?_
 obtain⟨aC,hy,h⟩:=ae h
 refine jn ((PE cx .normal (fun aC=>[(1,.pt 0 0),(16,dB aC)]) fun aC=>⟨[(0,dC (ap.f aM))],[],1⟩) aC) ?_ ?_
 replace h:=hy
 refine rq hx fun K hK=>?_
 refine mbi ?_
 rcases aE h with⟨fG,h⟩|⟨fG,h⟩
 refine nbi hK ?_
 exact pe1 h h0 [0]
 refine ga fG ?_
 refine g1 fG (vT (by decide:0≤(1:Int)∧(1:Int)<((16:Nat):Int)) cU bQ) ?_
 refine nbi hK ?_
 exact pe1 h h0 [0]
 refine lw0 ?_
 refine cdh h rfl (fun qP h=>?_) (fun qP h=>?_)
 refine ra hx ?_
 refine AW.ret ?_
 cases h
 exact rv2
 refine AW.skip (AW.seq (ra hx ?_))
 refine AW.block ?_
 obtain⟨y,hy,h⟩:=ae h
 refine lp (S:=Int) (X:=(Int×Bool)⊕Unit) (fun aV=>[(1,.pt 0 0),(5,dI .i64 aV)]) (fun aV=>⟨[(0,dC (ap.f aM))],[],1⟩) (PS (PR [.tmp 2,.tmp 3] fun r=>.tu [dI .i64 r.1,dB r.2]) (PE cx (.exit 0) (fun ()=>[(1,.pt 0 0)]) fun ()=>⟨[(0,dC (ap.f aM))],[],1⟩)) hy ?_ ?_ ?_
 exact wk0 h0 [0]
 clear hy h
 rintro aV y h
 dsimp only[mH] at h
 refine AW.seq (ra hx ?_)
 refine cdh h rfl (fun sZ h=>?_) (fun sZ h=>?_)
 refine AW.skip (AW.seq (AW.block (rs hx fun K hK=>?_)))
 iterate 2 refine sa ?_
 obtain⟨hc8,h⟩:=ay h
 refine nbi hK ?_
 refine cdh h rfl (fun nK h=>?_) (fun nK h=>?_)
 refine ra hx ?_
 refine AW.ret ?_
 cases h
 refine PS.r ⟨by nofun,PS.l (PR.i ?_)⟩
 exact rv2
 refine AW.skip (rb hx ?_)
 exact pel h h0 [0]
 exact AW.exit (peq h h0 [0])
 rcases y with r|⟨⟩
 rintro ex tm' hp' ⟨rfl,hw⟩
 cases h
 exact hw
 refine lwr ?_
 refine rs hx fun K hK=>?_
 refine sa ?_
 refine s1 (vT (by decide:0≤(1:Int)∧(1:Int)<((16:Nat):Int)) cU bQ) ?_
 iterate 4 refine sbi ?_
 refine s1 (vT (by decide:0≤(0:Int)∧(0:Int)<((16:Nat):Int)) cU bQ) ?_
 iterate 3 refine sbi ?_
 obtain⟨qc,zb,h⟩:=ae h
 replace zb:=bC zb
 refine s2 (d2:=dI .i64 qc) lH (gq (congrArg (dI .i64) zb)) ?_
 refine nl hK ?_
 refine AW.seq (rai hx ?_)
 refine cdh h rfl (fun tD h=>?_) (fun tD h=>?_)
 refine ra hx ?_
 refine AW.ret ?_
 cases h
 exact rv2
 refine AW.skip (ra hx ?_)
 refine AW.ret ?_
 cases h
 exact rv2
def lw(er:List Int):Int→Option (Int⊕Int):=fun aC=>bnd (S:=Bool) (cnd (decide ((0:Int)<aC)) (gd (0≤i64.wrap (aC - (1:Int))∧i64.wrap (aC - (1:Int))<((er).length:Int)) (some (decide (((er)[(i64.wrap (aC - (1:Int))).toNat]!)=(0:Int))))) (some (false))) fun n6=>cnd n6 (some (.inl (i64.wrap (aC - (1:Int))))) (some (.inr aC))
def fh(er:List Int):Option (List Int):=bnd (bq (lw er) ((er).length:Int)) fun oS=>gd (0≤(0:Int)∧(0:Int)≤oS∧oS≤((er).length:Int)) (some (yR er (0:Int) oS))
theorem kS {er:List Int}{r:List Int}(h:fh er=some r):aq prog 175 [dL (cI .i64) er] (dL (cI .i64) r):=by
 refine bh (rs:=[.tmp 2]) (fun cx hx h0=>?_) func175
 unfold fh at h
 refine rs hx fun K hK=>?_
 refine s1 (d:=dO 0 (cI .i64) ([]:List Int)) (gF cZ dW) ?_
 refine nl hK ?_
 refine ra hx ?_
 refine AW.seq (AW.block ?_)
 obtain⟨oS,hy,h⟩:=ae h
 refine lp (S:=Int) (X:=Int) (fun aC=>[(0,dL (cI .i64) er),(3,dI .i64 aC)]) (fun aC=>⟨[],[],0⟩) (PE cx (.exit 0) (fun oS=>[(0,dL (cI .i64) er),(3,dI .i64 oS)]) fun oS=>⟨[],[],0⟩) hy ?_ ?_ ?_
 exact wk0 h0 []
 clear hy h
 rintro aC y h
 dsimp only[lw] at h
 iterate 2 refine AW.seq ?_
 obtain⟨n6,hy,h⟩:=ae h
 refine jn ((PE cx .normal (fun n6=>[(0,dL (cI .i64) er),(3,dI .i64 aC),(15,dB n6)]) fun n6=>⟨[],[],0⟩) n6) ?_ ?_
 replace h:=hy
 refine rq hx fun K hK=>?_
 refine mbi ?_
 rcases aE h with⟨fJ,h⟩|⟨fJ,h⟩
 iterate 3 refine ga fJ ?_
 obtain⟨q8,h⟩:=ay h
 have xT:(i64.wrap (aC - (1:Int))).toNat<(er).length:=by omega
 refine gbi ?_
 refine g1 fJ (yC (c:=(cI .i64)) (l:=er) (n:=(i64.wrap (aC - (1:Int))).toNat) (o:=0) dW xT) ?_
 refine nbi hK ?_
 exact pe1 h h0 []
 refine nbi hK ?_
 exact pe1 h h0 []
 refine lw0 ?_
 refine cdh h rfl (fun rX h=>?_) (fun rX h=>?_)
 refine AW.skip (AW.block (rb hx ?_))
 exact pel h h0 []
 exact AW.exit (per h h0 [])
 refine lw0 ?_
 refine rs hx fun K hK=>?_
 iterate 2 refine sa ?_
 obtain⟨hc7,h⟩:=ay h
 refine s1 (T_sl (c:=(cI .i64)) (l:=er) (a:=(0:Int)) (b:=oS) hc7 cZ dW) ?_
 refine nbi hK ?_
 exact AW.ret (rtv h)
def fq :Option ao:=some (⟨true,false,(ee)⟩:ao)
theorem kJ  {r:ao}(h:fq=some r):aq prog 124 [] (dG ap r):=by
 refine bh (rs:=[.cell 0 41]) (fun cx hx h0=>?_) func124
 unfold fq at h
 refine rai hx ?_
 refine rs hx fun K hK=>?_
 refine s1 (d:=dG ap (⟨true,false,(ee)⟩:ao)) (hJ (FL.cons (y:=true) (sW cj) rfl rfl (FL.nil _)) fc) ?_
 refine nbi hK ?_
 exact AW.ret (rtv h)
def fY(x1:List Int):Int×ao→Option ((Int×ao)⊕ao):=fun (bt,my)=>cnd (decide (bt<((x1).length:Int))) (bnd (S:=ao) (cnd (decide ((Int.tmod bt (2:Int))=(0:Int))) (gd (0≤i64.wrap (Int.tdiv bt (2:Int))∧i64.wrap (Int.tdiv bt (2:Int))<16) (gd (0≤bt∧bt<((x1).length:Int)) (gd (0≤i64.wrap (Int.tdiv bt (2:Int))∧i64.wrap (Int.tdiv bt (2:Int))<16) (bnd (some ((⟨my.vBad,my.vNeg,(my.vW).set! (i64.wrap (Int.tdiv bt (2:Int))).toNat (u32.wrap (((my.vW)[(i64.wrap (Int.tdiv bt (2:Int))).toNat]!)+(u32.wrap ((x1)[(bt).toNat]!))))⟩:ao))) fun sE=>some (sE))))) (gd (0≤i64.wrap (Int.tdiv bt (2:Int))∧i64.wrap (Int.tdiv bt (2:Int))<16) (gd (0≤bt∧bt<((x1).length:Int)) (gd (0≤i64.wrap (Int.tdiv bt (2:Int))∧i64.wrap (Int.tdiv bt (2:Int))<16) (bnd (some ((⟨my.vBad,my.vNeg,(my.vW).set! (i64.wrap (Int.tdiv bt (2:Int))).toNat (u32.wrap (((my.vW)[(i64.wrap (Int.tdiv bt (2:Int))).toNat]!)+(u32.wrap ((u32.wrap ((x1)[(bt).toNat]!))*(65536:Int)))))⟩:ao))) fun x26=>some (x26)))))) fun uq=>some (.inl (i64.wrap (bt+(1:Int)),uq))) (some (.inr my))
def cg(z9:Bool)(er:List Int):Option ao:=bnd (fh er) fun x1=>cnd (decide ((32:Int)<((x1).length:Int))) (bnd (fq) fun x4=>some x4) (bnd (S:=ao) (cnd z9 (bnd (some ((⟨false,decide ((0:Int)<((x1).length:Int)),(ee)⟩:ao))) fun x7=>some (x7)) (some ((⟨false,false,(ee)⟩:ao)))) fun ey=>bnd (bq (fY x1) ((0:Int),ey)) fun eM=>some eM)
theorem eG {z9:Bool}{er:List Int}{r:ao}(h:cg z9 er=some r):aq prog 140 [dB z9,dL (cI .i64) er] (dG ap r):=by
 refine bh (rs:=[.cell 4 41]) (fun cx hx h0=>?_) func140
 unfold cg at h
 refine rai hx ?_
 refine rs hx fun K hK=>?_
 refine sa ?_
 refine scb h kS fun x1 h=>?_
 refine nbi hK ?_
 refine AW.seq (ra hx ?_)
 refine cdh h rfl (fun fG h=>?_) (fun fG h=>?_)
 refine rs hx fun K hK=>?_
 refine scb h kJ fun x4 h=>?_
 refine nbi hK ?_
 exact AW.ret (rtv h)
 refine AW.skip (AW.seq ?_)
 obtain⟨ey,hy,h⟩:=ae h
 refine jn ((PE cx .normal (fun ey=>[(4,.pt 0 0),(5,dL (cI .i64) x1),(6,.pt 1 0)]) fun ey=>⟨[(0,dC (ap.f cj)),(1,dC (ap.f ey))],[],2⟩) ey) ?_ ?_
 replace h:=hy
 refine rq hx fun K hK=>?_
 refine mbi ?_
 rcases aE h with⟨qP,h⟩|⟨qP,h⟩
 iterate 3 refine ga qP ?_
 refine sbi ?_
 refine s1 (d:=dG ap (⟨false,decide ((0:Int)<((x1).length:Int)),(ee)⟩:ao)) (hJ (FL.cons (y:=decide ((0:Int)<((x1).length:Int))) (nU cj) rfl rfl (FL.nil _)) fc) ?_
 refine sbi ?_
 obtain⟨x7,SJ,h⟩:=ae h
 replace SJ:=bC SJ
 refine s0 (nR (b':=(⟨false,decide ((0:Int)<((x1).length:Int)),(ee)⟩:ao)) (bV.id _ _) fc SJ) ?_
 refine nl hK ?_
 exact pe1 h h0 [0,1]
 iterate 3 refine D0 rfl rfl qP ?_
 refine sbi ?_
 refine s1 (d:=dG ap cj) (hJ (FL.cons (y:=false) (nU cj) rfl rfl (FL.nil _)) fc) ?_
 refine nbi hK ?_
 exact pe1 h h0 [0,1]
 refine lw0 ?_
 refine AW.seq (ra hx ?_)
 refine AW.block ?_
 obtain⟨eM,hy,h⟩:=ae h
 refine lp (S:=Int×ao) (X:=ao) (fun (bt,my)=>[(4,.pt 0 0),(5,dL (cI .i64) x1),(6,.pt 1 0),(7,dI .i64 bt)]) (fun (bt,my)=>⟨[(0,dC (ap.f cj)),(1,dC (ap.f my))],[],2⟩) (PE cx (.exit 0) (fun eM=>[(4,.pt 0 0),(6,.pt 1 0)]) fun eM=>⟨[(0,dC (ap.f cj)),(1,dC (ap.f eM))],[],2⟩) hy ?_ ?_ ?_
 exact wk0 h0 [0,1]
 clear hy h
 rintro⟨bt,my⟩ y h
 dsimp only[fY] at h
 refine AW.seq (ra hx ?_)
 refine cdh h rfl (fun nK h=>?_) (fun nK h=>?_)
 refine AW.skip (AW.seq ?_)
 obtain⟨uq,hy,h⟩:=ae h
 refine jn ((PE cx .normal (fun uq=>[(4,.pt 0 0),(5,dL (cI .i64) x1),(6,.pt 1 0),(7,dI .i64 bt)]) fun uq=>⟨[(0,dC (ap.f cj)),(1,dC (ap.f uq))],[],2⟩) uq) ?_ ?_
 replace h:=hy
 refine AW.block (ra hx ?_)
 refine cdh h rfl (fun wh h=>?_) (fun wh h=>?_)
 refine rqd [] hx fun K hK=>?_
 iterate 5 refine sa ?_
 obtain⟨hc12,h⟩:=ay h
 iterate 4 refine sbi ?_
 obtain⟨hc14,h⟩:=ay h
 have hn15:(bt).toNat<(x1).length:=by omega
 refine sbi ?_
 refine s1 (yC (c:=(cI .i64)) (l:=x1) (n:=(bt).toNat) (o:=0) dW hn15) ?_
 iterate 3 refine sa ?_
 obtain⟨Qr,h⟩:=ay h
 have Tc:(i64.wrap (Int.tdiv bt (2:Int))).toNat<16:=by omega
 refine sbi ?_
 obtain⟨sE,Ec,h⟩:=ae h
 replace Ec:=bC Ec
 refine s0 (nR (b':=u32.wrap (((my.vW)[(i64.wrap (Int.tdiv bt (2:Int))).toNat]!)+(u32.wrap ((x1)[(bt).toNat]!)))) (bV.comp (nT my) (bV.vec (cI .u32) my.vW (i64.wrap (Int.tdiv bt (2:Int))).toNat Tc) (fun _=>rfl)) bQ Ec) ?_
 refine nl hK ?_
 exact pe1 h h0 [0,1]
 refine rqd [] hx fun K hK=>?_
 iterate 5 refine sa ?_
 obtain⟨hc20,h⟩:=ay h
 iterate 4 refine sbi ?_
 obtain⟨Qq,h⟩:=ay h
 have hn23:(bt).toNat<(x1).length:=by omega
 refine sbi ?_
 refine s1 (yC (c:=(cI .i64)) (l:=x1) (n:=(bt).toNat) (o:=0) dW hn23) ?_
 iterate 4 refine sa ?_
 obtain⟨hc24,h⟩:=ay h
 have hn25:(i64.wrap (Int.tdiv bt (2:Int))).toNat<16:=by omega
 refine sbi ?_
 obtain⟨x26,hx27,h⟩:=ae h
 replace hx27:=bC hx27
 refine s0 (nR (b':=u32.wrap (((my.vW)[(i64.wrap (Int.tdiv bt (2:Int))).toNat]!)+(u32.wrap ((u32.wrap ((x1)[(bt).toNat]!))*(65536:Int))))) (bV.comp (nT my) (bV.vec (cI .u32) my.vW (i64.wrap (Int.tdiv bt (2:Int))).toNat hn25) (fun _=>rfl)) bQ hx27) ?_
 refine nl hK ?_
 exact pe1 h h0 [0,1]
 refine lw0 ?_
 refine rb hx ?_
 exact pel h h0 [0,1]
 exact AW.exit (per h h0 [0,1])
 refine lw0 ?_
 refine rai hx ?_
 exact AW.ret (rtv h)
def dH(er:List Int)(vz:Int):Option Int:=cnd (decide (vz<((er).length:Int))) (gd (0≤vz∧vz<((er).length:Int)) (some ((er)[(vz).toNat]!))) (some (0:Int))
theorem f9 {er:List Int}{vz:Int}{r:Int}(h:dH er vz=some r):aq prog 176 [dL (cI .i64) er,dI .i64 vz] (dI .i64 r):=by
 refine bh (rs:=[.tmp 4]) (fun cx hx h0=>?_) func176
 unfold dH at h
 refine ra hx ?_
 refine AW.seq (ra hx ?_)
 refine cdh h rfl (fun fJ h=>?_) (fun fJ h=>?_)
 refine rs hx fun K hK=>?_
 iterate 2 refine sa ?_
 obtain⟨q8,h⟩:=ay h
 have xT:(vz).toNat<(er).length:=by omega
 refine sbi ?_
 refine s1 (yC (c:=(cI .i64)) (l:=er) (n:=(vz).toNat) (o:=0) dW xT) ?_
 refine nbi hK ?_
 exact AW.ret (rtv h)
 refine AW.skip (ra hx ?_)
 exact AW.ret (rtv h)
def ka(aI:List Int)(aQ:List Int):(List Int)×Int×Int→Option (((List Int)×Int×Int)⊕((List Int))):=fun (dA,bP,eo)=>cnd (decide (eo<(i64.wrap ((max ((aI).length:Int) ((aQ).length:Int))+(1:Int))))) (bnd (dH aI eo) fun x2=>bnd (dH aQ eo) fun x4=>bnd (some (i64.wrap ((i64.wrap (x2+x4))+bP))) fun x6=>gd ((dA++[Int.tmod x6 (65536:Int)]).length*8≤140737488355328) (some (.inl (dA++[Int.tmod x6 (65536:Int)],i64.wrap (Int.tdiv x6 (65536:Int)),i64.wrap (eo+(1:Int)))))) (some (.inr dA))
def kY(aI:List Int)(aQ:List Int):Option (List Int):=bnd (bq (ka aI aQ) (([]:List Int),(0:Int),(0:Int))) fun cl=>bnd (fh cl) fun n7=>some n7
theorem uB {aI:List Int}{aQ:List Int}{r:List Int}(h:kY aI aQ=some r):aq prog 141 [dL (cI .i64) aI,dL (cI .i64) aQ] (dL (cI .i64) r):=by
 refine bh (rs:=[.tmp 4]) (fun cx hx h0=>?_) func141
 unfold kY at h
 refine rs hx fun K hK=>?_
 refine s1 (d:=dO 0 (cI .i64) ([]:List Int)) (gF cZ dW) ?_
 refine nl hK ?_
 refine rs hx fun K hK=>?_
 refine s1 (d:=dO 1 (cI .i64) ([]:List Int)) (gF cZ dW) ?_
 refine nl hK ?_
 refine ra hx ?_
 refine AW.seq (ra hx ?_)
 refine AW.block ?_
 obtain⟨cl,hy,h⟩:=ae h
 refine lp (S:=(List Int)×Int×Int) (X:=(List Int)) (fun (dA,bP,eo)=>[(0,dL (cI .i64) aI),(1,dL (cI .i64) aQ),(5,dO 0 (cI .i64) dA),(6,dI .i64 bP),(7,dI .i64 eo)]) (fun (dA,bP,eo)=>⟨[],[(0,(dA).length,1,3)],1⟩) (PE cx (.exit 0) (fun cl=>[(5,dO 0 (cI .i64) cl)]) fun cl=>⟨[],[(0,(cl).length,1,3)],1⟩) hy ?_ ?_ ?_
 exact wk0 h0 [1]
 clear hy h
 rintro⟨dA,bP,eo⟩ y h
 dsimp only[ka] at h
 refine AW.seq (ra hx ?_)
 refine cdh h rfl (fun fJ h=>?_) (fun fJ h=>?_)
 refine AW.skip (AW.seq (AW.block (rs hx fun K hK=>?_)))
 refine mbi ?_
 refine scb h f9 fun x2 h=>?_
 refine mbi ?_
 refine scb h f9 fun x4 h=>?_
 iterate 3 refine sa ?_
 obtain⟨x6,v8,h⟩:=ae h
 replace v8:=bC v8
 refine s2 (d2:=dI .i64 x6) lH (gq (congrArg (dI .i64) v8)) ?_
 refine nl hK ?_
 refine rs hx fun K hK=>?_
 iterate 3 refine sa ?_
 refine s1 (d:=dO 1 (cI .i64) [Int.tmod x6 (65536:Int)]) (kH cZ dW) ?_
 obtain⟨hc8,h⟩:=ay h
 refine s1 (d:=dO 0 (cI .i64) (dA++[Int.tmod x6 (65536:Int)])) (qN cZ dW hc8) ?_
 refine nbi hK ?_
 iterate 2 refine rb hx ?_
 exact pel h h0 [0]
 exact AW.exit (per h h0 [0])
 refine lw0 ?_
 refine rs hx fun K hK=>?_
 refine sa ?_
 refine scb h kS fun n7 h=>?_
 refine nbi hK ?_
 exact AW.ret (rtv h)
def eN(c0:Int):Option ao:=cnd (decide ((0:Int)≤c0)) (bnd (cg false [Int.tmod c0 (65536:Int),Int.tmod (i64.wrap (Int.tdiv c0 (65536:Int))) (65536:Int),Int.tmod (i64.wrap (Int.tdiv c0 (4294967296:Int))) (65536:Int),i64.wrap (Int.tdiv c0 (281474976710656:Int))]) fun x2=>some x2) (bnd (some (i64.wrap (0 - (i64.wrap (c0+(1:Int)))))) fun x4=>bnd (kY [Int.tmod x4 (65536:Int),Int.tmod (i64.wrap (Int.tdiv x4 (65536:Int))) (65536:Int),Int.tmod (i64.wrap (Int.tdiv x4 (4294967296:Int))) (65536:Int),i64.wrap (Int.tdiv x4 (281474976710656:Int))] [(1:Int)]) fun x6=>bnd (cg true x6) fun x8=>some x8)
theorem ix {c0:Int}{r:ao}(h:eN c0=some r):aq prog 88 [dI .i64 c0] (dG ap r):=by
 refine bh (rs:=[.cell 2 41]) (fun cx hx h0=>?_) func88
 unfold eN at h
 refine rai hx ?_
 refine AW.seq (ra hx ?_)
 refine cdh h rfl (fun fJ h=>?_) (fun fJ h=>?_)
 refine rs hx fun K hK=>?_
 iterate 10 refine sa ?_
 refine s1 (d:=dO 1 (cI .i64) [Int.tmod c0 (65536:Int),Int.tmod (i64.wrap (Int.tdiv c0 (65536:Int))) (65536:Int),Int.tmod (i64.wrap (Int.tdiv c0 (4294967296:Int))) (65536:Int),i64.wrap (Int.tdiv c0 (281474976710656:Int))]) (kH cZ dW) ?_
 refine scb h eG fun x2 h=>?_
 refine nbi hK ?_
 exact AW.ret (rtv h)
 refine AW.skip (rs hx fun K hK=>?_)
 iterate 3 refine sa ?_
 obtain⟨x4,Qf,h⟩:=ae h
 replace Qf:=bC Qf
 refine s2 (d2:=dI .i64 x4) lH (gq (congrArg (dI .i64) Qf)) ?_
 refine nl hK ?_
 refine rs hx fun K hK=>?_
 iterate 10 refine sa ?_
 refine s1 (d:=dO 1 (cI .i64) [Int.tmod x4 (65536:Int),Int.tmod (i64.wrap (Int.tdiv x4 (65536:Int))) (65536:Int),Int.tmod (i64.wrap (Int.tdiv x4 (4294967296:Int))) (65536:Int),i64.wrap (Int.tdiv x4 (281474976710656:Int))]) (kH cZ dW) ?_
 refine s1 (d:=dO 2 (cI .i64) [(1:Int)]) (kH cZ dW) ?_
 refine scb h uB fun x6 h=>?_
 refine scb h eG fun x8 h=>?_
 refine nbi hK ?_
 exact AW.ret (rtv h)
def jw(aM:ao):(List Int)×Int→Option (((List Int)×Int)⊕((List Int))):=fun (aP,bp)=>cnd (decide (bp<(16:Int))) (gd (0≤bp∧bp<16) (gd (0≤bp∧bp<16) (gd ((aP++[i64.wrap (Int.tmod ((aM.vW)[(bp).toNat]!) (65536:Int)),i64.wrap (u32.wrap (Int.tdiv ((aM.vW)[(bp).toNat]!) (65536:Int)))]).length*8≤140737488355328) (some (.inl (aP++[i64.wrap (Int.tmod ((aM.vW)[(bp).toNat]!) (65536:Int)),i64.wrap (u32.wrap (Int.tdiv ((aM.vW)[(bp).toNat]!) (65536:Int)))],i64.wrap (bp+(1:Int)))))))) (some (.inr aP))
def bA(aM:ao):Option (List Int):=bnd (bq (jw aM) (([]:List Int),(0:Int))) fun be=>bnd (fh be) fun x8=>some x8
theorem cR {aM:ao}{r:List Int}(h:bA aM=some r):aq prog 143 [dG ap aM] (dL (cI .i64) r):=by
 refine bh (rs:=[.tmp 2]) (fun cx hx h0=>?_) func143
 unfold bA at h
 refine rs hx fun K hK=>?_
 refine sa ?_
 refine s1 (d:=dO 1 (cI .i64) ([]:List Int)) (gF cZ dW) ?_
 refine nl hK ?_
 refine rs hx fun K hK=>?_
 refine s1 (d:=dO 2 (cI .i64) ([]:List Int)) (gF cZ dW) ?_
 refine nl hK ?_
 refine AW.seq (ra hx ?_)
 refine AW.block ?_
 obtain⟨be,hy,h⟩:=ae h
 refine lp (S:=(List Int)×Int) (X:=(List Int)) (fun (aP,bp)=>[(1,.pt 0 0),(3,dO 1 (cI .i64) aP),(4,dI .i64 bp)]) (fun (aP,bp)=>⟨[(0,dC (ap.f aM))],[(1,(aP).length,1,3)],2⟩) (PE cx (.exit 0) (fun be=>[(3,dO 0 (cI .i64) be)]) fun be=>⟨[],[(0,(be).length,1,3)],1⟩) hy ?_ ?_ ?_
 exact wk0 h0 [0,2]
 clear hy h
 rintro⟨aP,bp⟩ y h
 dsimp only[jw] at h
 refine AW.seq (ra hx ?_)
 refine cdh h rfl (fun fJ h=>?_) (fun fJ h=>?_)
 refine AW.skip (AW.seq (AW.block (rqd [] hx fun K hK=>?_)))
 iterate 3 refine sa ?_
 obtain⟨q8,h⟩:=ay h
 iterate 6 refine sbi ?_
 obtain⟨OU,h⟩:=ay h
 iterate 4 refine sbi ?_
 refine s1 (Fp cZ dW) ?_
 obtain⟨hc6,h⟩:=ay h
 refine s1 (d:=dO 1 (cI .i64) (aP++[i64.wrap (Int.tmod ((aM.vW)[(bp).toNat]!) (65536:Int)),i64.wrap (u32.wrap (Int.tdiv ((aM.vW)[(bp).toNat]!) (65536:Int)))])) (qN cZ dW hc6) ?_
 refine nbi hK ?_
 refine rb hx ?_
 exact pel h h0 [0,1]
 exact AW.exit (per h h0 [1])
 refine lw0 ?_
 refine rs hx fun K hK=>?_
 refine sa ?_
 refine scb h kS fun x8 h=>?_
 refine nbi hK ?_
 exact AW.ret (rtv h)
def qq(aM:ao):Option ao:=bnd (bk aM) fun x1=>cnd (!x1) (bnd (fq) fun x4=>some x4) (bnd (bA aM) fun x6=>bnd (cg false x6) fun x8=>some x8)
theorem JZ {aM:ao}{r:ao}(h:qq aM=some r):aq prog 167 [dG ap aM] (dG ap r):=by
 refine bh (rs:=[.cell 2 41]) (fun cx hx h0=>?_) func167
 unfold qq at h
 refine rai hx ?_
 refine AW.seq (rs hx fun K hK=>?_)
 refine mbi ?_
 refine scb h cu fun x1 h=>?_
 refine nbi hK ?_
 refine cdh h rfl (fun fG h=>?_) (fun fG h=>?_)
 refine rs hx fun K hK=>?_
 refine scb h kJ fun x4 h=>?_
 refine nbi hK ?_
 exact AW.ret (rtv h)
 refine AW.skip (rs hx fun K hK=>?_)
 refine mbi ?_
 refine scb h cR fun x6 h=>?_
 refine scb h eG fun x8 h=>?_
 refine nbi hK ?_
 exact AW.ret (rtv h)
def iJ(er:List Int)(vz:Int):Option Int:=cnd (decide (vz<(0:Int))) (some (0:Int)) (bnd (dH er vz) fun x2=>some x2)
theorem uC {er:List Int}{vz:Int}{r:Int}(h:iJ er vz=some r):aq prog 194 [dL (cI .i64) er,dI .i64 vz] (dI .i64 r):=by
 refine bh (rs:=[.tmp 4]) (fun cx hx h0=>?_) func194
 unfold iJ at h
 refine ra hx ?_
 refine AW.seq (ra hx ?_)
 refine cdh h rfl (fun fJ h=>?_) (fun fJ h=>?_)
 refine ra hx ?_
 exact AW.ret (rtv h)
 refine AW.skip (rs hx fun K hK=>?_)
 refine mbi ?_
 refine scb h f9 fun x2 h=>?_
 refine nbi hK ?_
 exact AW.ret (rtv h)
def ju(aI:List Int)(aQ:List Int)(aP:Int):Int×(List Int)→Option ((Int×(List Int))⊕((List Int))):=fun (iq,tp)=>cnd (decide (iq<((aQ).length:Int))) (gd (0≤i64.wrap (aP+iq)∧i64.wrap (aP+iq)<(((i64.wrap ((i64.wrap (((aI).length:Int)+((aQ).length:Int)))+(1:Int))).toNat:Nat):Int)∧i64.wrap (aP+iq)<((tp).length:Int)) (gd (0≤aP∧aP<((aI).length:Int)) (gd (0≤iq∧iq<((aQ).length:Int)) (gd (0≤i64.wrap (aP+iq)∧i64.wrap (aP+iq)<(((i64.wrap ((i64.wrap (((aI).length:Int)+((aQ).length:Int)))+(1:Int))).toNat:Nat):Int)∧i64.wrap (aP+iq)<((tp).length:Int)) (bnd (some ((tp).set ((i64.wrap (aP+iq)).toNat) (i64.wrap (((tp)[(i64.wrap (aP+iq)).toNat]!)+(i64.wrap (((aI)[(aP).toNat]!)*((aQ)[(iq).toNat]!))))))) fun nC=>some (.inl (i64.wrap (iq+(1:Int)),nC))))))) (some (.inr tp))
def gK(aI:List Int)(aQ:List Int):Int×Int×(List Int)→Option ((Int×Int×(List Int))⊕((List Int))):=fun (Lz,pd,um)=>cnd (decide (pd<(((i64.wrap ((i64.wrap (((aI).length:Int)+((aQ).length:Int)))+(1:Int))).toNat:Nat):Int))) (gd (0≤pd∧pd<(((i64.wrap ((i64.wrap (((aI).length:Int)+((aQ).length:Int)))+(1:Int))).toNat:Nat):Int)∧pd<((um).length:Int)) (bnd (some (i64.wrap (((um)[(pd).toNat]!)+Lz))) fun sE=>gd (0≤pd∧pd<(((i64.wrap ((i64.wrap (((aI).length:Int)+((aQ).length:Int)))+(1:Int))).toNat:Nat):Int)∧pd<((um).length:Int)) (some (.inl (i64.wrap (Int.tdiv sE (65536:Int)),i64.wrap (pd+(1:Int)),(um).set ((pd).toNat) (Int.tmod sE (65536:Int))))))) (some (.inr um))
def j9(aI:List Int)(aQ:List Int):Int×(List Int)→Option ((Int×(List Int))⊕((List Int))):=fun (aP,bp)=>cnd (decide (aP<((aI).length:Int))) (bnd (bq (ju aI aQ aP) ((0:Int),bp)) fun AN=>bnd (bq (gK aI aQ) ((0:Int),(0:Int),AN)) fun AK=>some (.inl (i64.wrap (aP+(1:Int)),AK))) (some (.inr bp))
def lK(aI:List Int)(aQ:List Int):Option (List Int):=gd (0≤i64.wrap ((i64.wrap (((aI).length:Int)+((aQ).length:Int)))+(1:Int))∧i64.wrap ((i64.wrap (((aI).length:Int)+((aQ).length:Int)))+(1:Int))≤1000000) (bnd (bq (j9 aI aQ) ((0:Int),List.replicate (i64.wrap ((i64.wrap (((aI).length:Int)+((aQ).length:Int)))+(1:Int))).toNat (0:Int))) fun be=>gd ((i64.wrap ((i64.wrap (((aI).length:Int)+((aQ).length:Int)))+(1:Int))).toNat=(be).length) (bnd (fh be) fun JE=>some JE))
theorem yc {aI:List Int}{aQ:List Int}{r:List Int}(h:lK aI aQ=some r):aq prog 173 [dL (cI .i64) aI,dL (cI .i64) aQ] (dL (cI .i64) r):=by
 refine bh (rs:=[.tmp 4]) (fun cx hx h0=>?_) func173
 unfold lK at h
 refine rs hx fun K hK=>?_
 refine s1 (d:=dO 0 (cI .i64) ([]:List Int)) (gF cZ dW) ?_
 refine nl hK ?_
 refine rs hx fun K hK=>?_
 iterate 6 refine sa ?_
 obtain⟨LW,h⟩:=ay h
 refine q1 (sMk (c:=(cI .i64)) (z0:=(0:Int)) tok LW cZ dW (by first|rfl|kernel_rfl)) ?_
 refine nbi hK ?_
 refine AW.seq (ra hx ?_)
 refine AW.block ?_
 obtain⟨be,hy,h⟩:=ae h
 refine lp (S:=Int×(List Int)) (X:=(List Int)) (fun (aP,bp)=>[(0,dL (cI .i64) aI),(1,dL (cI .i64) aQ),(5,.ow 0 0 1 ((i64.wrap ((i64.wrap (((aI).length:Int)+((aQ).length:Int)))+(1:Int))).toNat)),(6,dI .i64 aP)]) (fun (aP,bp)=>⟨[(0,dC ((cW (cI .i64)).f bp))],[],1⟩) (PE cx (.exit 0) (fun be=>[(5,.ow 0 0 1 ((i64.wrap ((i64.wrap (((aI).length:Int)+((aQ).length:Int)))+(1:Int))).toNat))]) fun be=>⟨[(0,dC ((cW (cI .i64)).f be))],[],1⟩) hy ?_ ?_ ?_
 exact wk0 h0 [1]
 clear hy h
 rintro⟨aP,bp⟩ y h
 dsimp only[j9] at h
 refine AW.seq (ra hx ?_)
 refine cdh h rfl (fun wI h=>?_) (fun wI h=>?_)
 refine AW.skip (AW.seq (AW.block (AW.seq (ra hx ?_))))
 refine AW.block ?_
 obtain⟨AN,hy,h⟩:=ae h
 refine lp (S:=Int×(List Int)) (X:=(List Int)) (fun (iq,tp)=>[(0,dL (cI .i64) aI),(1,dL (cI .i64) aQ),(5,.ow 0 0 1 ((i64.wrap ((i64.wrap (((aI).length:Int)+((aQ).length:Int)))+(1:Int))).toNat)),(6,dI .i64 aP),(7,dI .i64 iq)]) (fun (iq,tp)=>⟨[(0,dC ((cW (cI .i64)).f tp))],[],1⟩) (PE cx (.exit 2) (fun AN=>[(0,dL (cI .i64) aI),(1,dL (cI .i64) aQ),(5,.ow 0 0 1 ((i64.wrap ((i64.wrap (((aI).length:Int)+((aQ).length:Int)))+(1:Int))).toNat)),(6,dI .i64 aP)]) fun AN=>⟨[(0,dC ((cW (cI .i64)).f AN))],[],1⟩) hy ?_ ?_ ?_
 exact wk0 h0 [0]
 clear hy h
 rintro⟨iq,tp⟩ y h
 dsimp only[ju] at h
 refine AW.seq (ra hx ?_)
 refine cdh h rfl (fun fG h=>?_) (fun fG h=>?_)
 refine AW.skip (AW.seq (AW.block (rqd [] hx fun K hK=>?_)))
 iterate 8 refine sa ?_
 obtain⟨OU,h⟩:=ay h
 have hn5:(i64.wrap (aP+iq)).toNat<(tp).length:=by omega
 refine s1 (xi ⟨OU.1,OU.2.1⟩ cZ dW) ?_
 refine s1 (xh (bV.seqW (cI .i64) tp ((i64.wrap (aP+iq)).toNat) hn5) dW) ?_
 iterate 2 refine sa ?_
 obtain⟨hc6,h⟩:=ay h
 have hn7:(aP).toNat<(aI).length:=by omega
 refine sbi ?_
 refine s1 (yC (c:=(cI .i64)) (l:=aI) (n:=(aP).toNat) (o:=0) dW hn7) ?_
 iterate 2 refine sa ?_
 obtain⟨hc8,h⟩:=ay h
 have hn9:(iq).toNat<(aQ).length:=by omega
 refine sbi ?_
 refine s1 (yC (c:=(cI .i64)) (l:=aQ) (n:=(iq).toNat) (o:=0) dW hn9) ?_
 iterate 2 refine sa ?_
 obtain⟨MU,h⟩:=ay h
 have hn11:(i64.wrap (aP+iq)).toNat<(tp).length:=by omega
 refine s1 (xi ⟨MU.1,MU.2.1⟩ cZ dW) ?_
 obtain⟨nC,BJ,h⟩:=ae h
 replace BJ:=bC BJ
 refine s0 (T_stVw (b':=i64.wrap (((tp)[(i64.wrap (aP+iq)).toNat]!)+(i64.wrap (((aI)[(aP).toNat]!)*((aQ)[(iq).toNat]!))))) (bV.seqW (cI .i64) tp ((i64.wrap (aP+iq)).toNat) hn11) dW BJ) ?_
 refine nl hK ?_
 refine rb hx ?_
 exact pel h h0 [0]
 exact AW.exit (per h h0 [0])
 refine lw0 ?_
 iterate 2 refine ra hx ?_
 refine AW.block ?_
 obtain⟨AK,hy,h⟩:=ae h
 refine lp (S:=Int×Int×(List Int)) (X:=(List Int)) (fun (Lz,pd,um)=>[(0,dL (cI .i64) aI),(1,dL (cI .i64) aQ),(5,.ow 0 0 1 ((i64.wrap ((i64.wrap (((aI).length:Int)+((aQ).length:Int)))+(1:Int))).toNat)),(6,dI .i64 aP),(8,dI .i64 Lz),(9,dI .i64 pd)]) (fun (Lz,pd,um)=>⟨[(0,dC ((cW (cI .i64)).f um))],[],1⟩) (PE cx (.exit 4) (fun AK=>[(0,dL (cI .i64) aI),(1,dL (cI .i64) aQ),(5,.ow 0 0 1 ((i64.wrap ((i64.wrap (((aI).length:Int)+((aQ).length:Int)))+(1:Int))).toNat)),(6,dI .i64 aP)]) fun AK=>⟨[(0,dC ((cW (cI .i64)).f AK))],[],1⟩) hy ?_ ?_ ?_
 exact wk0 h0 [0]
 clear hy h
 rintro⟨Lz,pd,um⟩ y h
 dsimp only[gK] at h
 refine AW.seq (ra hx ?_)
 refine cdh h rfl (fun MX h=>?_) (fun MX h=>?_)
 refine AW.skip (AW.seq (AW.block (rs hx fun K hK=>?_)))
 iterate 2 refine sa ?_
 obtain⟨Qr,h⟩:=ay h
 have Tc:(pd).toNat<(um).length:=by omega
 refine s1 (xi ⟨Qr.1,Qr.2.1⟩ cZ dW) ?_
 refine s1 (xh (bV.seqW (cI .i64) um ((pd).toNat) Tc) dW) ?_
 iterate 2 refine sa ?_
 obtain⟨sE,Ec,h⟩:=ae h
 replace Ec:=bC Ec
 refine s2 (d2:=dI .i64 sE) lH (gq (congrArg (dI .i64) Ec)) ?_
 refine nl hK ?_
 refine rs hx fun K hK=>?_
 iterate 4 refine sa ?_
 obtain⟨hc20,h⟩:=ay h
 have hn21:(pd).toNat<(um).length:=by omega
 refine s1 (xi ⟨hc20.1,hc20.2.1⟩ cZ dW) ?_
 refine s0 (yB (b':=Int.tmod sE (65536:Int)) (bV.seqW (cI .i64) um ((pd).toNat) hn21) dW) ?_
 refine nl hK ?_
 iterate 2 refine rb hx ?_
 exact pel h h0 [0]
 exact AW.exit (per h h0 [0])
 refine lw0 ?_
 refine rb hx ?_
 exact pel h h0 [0]
 exact AW.exit (per h h0 [0])
 refine lw0 ?_
 refine rs hx fun K hK=>?_
 refine sa ?_
 obtain⟨hc24,h⟩:=ay h
 refine fzO (cI .i64) (n:=(i64.wrap ((i64.wrap (((aI).length:Int)+((aQ).length:Int)))+(1:Int))).toNat) 0 [5,70] hc24 ?_ (all2 rfl (all1 rfl))
 refine scb h kS fun JE h=>?_
 refine nbi hK ?_
 exact AW.ret (rtv h)
def lx(aI:List Int)(aQ:List Int):Int→Option (Int⊕(Bool⊕Unit)):=fun aC=>cnd (decide ((0:Int)≤aC)) (bnd (dH aI aC) fun x4=>bnd (dH aQ aC) fun x6=>cnd (decide (x4≠x6)) (bnd (dH aI aC) fun x9=>bnd (dH aQ aC) fun sJ=>some (.inr (.inl (decide (x9<sJ))))) (some (.inl (i64.wrap (aC - (1:Int)))))) (some (.inr (.inr ())))
def mI(aI:List Int)(aQ:List Int):Option Bool:=bnd (some (i64.wrap ((max ((aI).length:Int) ((aQ).length:Int)) - (1:Int)))) fun x1=>bnd (bq (lx aI aQ) x1) fun y13=>match y13 with| .inl r=>some r| .inr ()=>some false
theorem zQ {aI:List Int}{aQ:List Int}{r:Bool}(h:mI aI aQ=some r):aq prog 170 [dL (cI .i64) aI,dL (cI .i64) aQ] (dB r):=by
 refine bh (rs:=[.tmp 4]) (fun cx hx h0=>?_) func170
 unfold mI at h
 refine ra hx ?_
 refine AW.seq (rs hx fun K hK=>?_)
 iterate 6 refine sa ?_
 obtain⟨x1,xy,h⟩:=ae h
 replace xy:=bC xy
 refine s2 (d2:=dI .i64 x1) lH (gq (congrArg (dI .i64) xy)) ?_
 refine nl hK ?_
 refine AW.block ?_
 obtain⟨y,hy,h⟩:=ae h
 refine lp (S:=Int) (X:=Bool⊕Unit) (fun aC=>[(0,dL (cI .i64) aI),(1,dL (cI .i64) aQ),(5,dI .i64 aC)]) (fun aC=>⟨[],[],0⟩) (PS (PR [.tmp 4] fun r=>dB r) (PE cx (.exit 0) (fun ()=>[]) fun ()=>⟨[],[],0⟩)) hy ?_ ?_ ?_
 exact wk0 h0 []
 clear hy h
 rintro aC y h
 dsimp only[lx] at h
 refine AW.seq (ra hx ?_)
 refine cdh h rfl (fun fG h=>?_) (fun fG h=>?_)
 refine AW.skip (AW.seq (AW.block (rs hx fun K hK=>?_)))
 refine mbi ?_
 refine scb h f9 fun x4 h=>?_
 refine mbi ?_
 refine scb h f9 fun x6 h=>?_
 refine nbi hK ?_
 refine cdh h rfl (fun ua h=>?_) (fun ua h=>?_)
 refine rs hx fun K hK=>?_
 refine mbi ?_
 refine scb h f9 fun x9 h=>?_
 refine mbi ?_
 refine scb h f9 fun sJ h=>?_
 refine nbi hK ?_
 refine AW.ret ?_
 cases h
 refine PS.r ⟨by nofun,PS.l (PR.i ?_)⟩
 exact rv1
 refine AW.skip (rb hx ?_)
 exact pel h h0 []
 exact AW.exit (peq h h0 [])
 rcases y with r|⟨⟩
 rintro ex tm' hp' ⟨rfl,hw⟩
 cases h
 exact hw
 refine lwr ?_
 refine ra hx ?_
 exact AW.ret (rtv h)
def jv(aI:List Int)(aQ:List Int):(List Int)×Int×Int→Option (((List Int)×Int×Int)⊕((List Int))):=fun (dA,bP,eo)=>cnd (decide (eo<((aI).length:Int))) (gd (0≤eo∧eo<((aI).length:Int)) (bnd (dH aQ eo) fun x4=>bnd (some (i64.wrap ((i64.wrap (((aI)[(eo).toNat]!) - x4)) - bP))) fun x6=>bnd (S:=Int×Int) (cnd (decide (x6<(0:Int))) (some (((1:Int),i64.wrap (x6+(65536:Int))))) (some (((0:Int),x6)))) fun (kF,qU)=>gd ((dA++[qU]).length*8≤140737488355328) (some (.inl (dA++[qU],kF,i64.wrap (eo+(1:Int))))))) (some (.inr dA))
def il(aI:List Int)(aQ:List Int):Option (List Int):=bnd (bq (jv aI aQ) (([]:List Int),(0:Int),(0:Int))) fun cl=>bnd (fh cl) fun nC=>some nC
theorem pS {aI:List Int}{aQ:List Int}{r:List Int}(h:il aI aQ=some r):aq prog 171 [dL (cI .i64) aI,dL (cI .i64) aQ] (dL (cI .i64) r):=by
 refine bh (rs:=[.tmp 4]) (fun cx hx h0=>?_) func171
 unfold il at h
 refine rs hx fun K hK=>?_
 refine s1 (d:=dO 0 (cI .i64) ([]:List Int)) (gF cZ dW) ?_
 refine nl hK ?_
 refine rs hx fun K hK=>?_
 refine s1 (d:=dO 1 (cI .i64) ([]:List Int)) (gF cZ dW) ?_
 refine nl hK ?_
 refine ra hx ?_
 refine AW.seq (ra hx ?_)
 refine AW.block ?_
 obtain⟨cl,hy,h⟩:=ae h
 refine lp (S:=(List Int)×Int×Int) (X:=(List Int)) (fun (dA,bP,eo)=>[(0,dL (cI .i64) aI),(1,dL (cI .i64) aQ),(5,dO 0 (cI .i64) dA),(6,dI .i64 bP),(7,dI .i64 eo)]) (fun (dA,bP,eo)=>⟨[],[(0,(dA).length,1,3)],1⟩) (PE cx (.exit 0) (fun cl=>[(5,dO 0 (cI .i64) cl)]) fun cl=>⟨[],[(0,(cl).length,1,3)],1⟩) hy ?_ ?_ ?_
 exact wk0 h0 [1]
 clear hy h
 rintro⟨dA,bP,eo⟩ y h
 dsimp only[jv] at h
 refine AW.seq (ra hx ?_)
 refine cdh h rfl (fun fJ h=>?_) (fun fJ h=>?_)
 refine AW.skip (AW.seq (AW.block (rsd [176] hx fun K hK=>?_)))
 iterate 2 refine sa ?_
 obtain⟨q8,h⟩:=ay h
 have xT:(eo).toNat<(aI).length:=by omega
 refine sbi ?_
 refine s1 (yC (c:=(cI .i64)) (l:=aI) (n:=(eo).toNat) (o:=0) dW xT) ?_
 refine mbi ?_
 refine cqb h f9 fun x4 h=>?_
 iterate 3 refine sa ?_
 obtain⟨x6,v8,h⟩:=ae h
 replace v8:=bC v8
 refine s2 (d2:=dI .i64 x6) lH (gq (congrArg (dI .i64) v8)) ?_
 refine nl hK ?_
 refine ra hx ?_
 refine AW.seq ?_
 obtain⟨y,hy,h⟩:=ae h
 refine jn ((PE cx .normal (fun (kF,qU)=>[(0,dL (cI .i64) aI),(1,dL (cI .i64) aQ),(5,dO 0 (cI .i64) dA),(6,dI .i64 kF),(7,dI .i64 eo),(8,dI .i64 qU)]) fun (kF,qU)=>⟨[],[(0,(dA).length,1,3)],1⟩) y) ?_ ?_
 replace h:=hy
 refine ra hx ?_
 refine cdh h rfl (fun ua h=>?_) (fun ua h=>?_)
 refine ra hx ?_
 refine rb hx ?_
 exact pe1 h h0 [0]
 exact AW.skip (pe1 h h0 [0])
 obtain⟨kF,qU⟩:=y
 refine lw0 ?_
 refine rq hx fun K hK=>?_
 iterate 2 refine sa ?_
 refine s1 (d:=dO 1 (cI .i64) [qU]) (kH cZ dW) ?_
 obtain⟨MU,h⟩:=ay h
 refine s1 (d:=dO 0 (cI .i64) (dA++[qU])) (qN cZ dW MU) ?_
 refine nbi hK ?_
 refine rb hx ?_
 exact pel h h0 [0]
 exact AW.exit (per h h0 [0])
 refine lw0 ?_
 refine rs hx fun K hK=>?_
 refine sa ?_
 refine scb h kS fun nC h=>?_
 refine nbi hK ?_
 exact AW.ret (rtv h)
def iG(aQ:List Int)(qc:List Int):Int×(List Int)→Option ((Int×(List Int))⊕(Int×(List Int))):=fun (uo,Fg)=>bnd (mI qc Fg) fun AV=>cnd AV (bnd (il Fg aQ) fun Rn=>some (.inl (i64.wrap (uo - (1:Int)),Rn))) (some (.inr (uo,Fg)))
def iH(aI:List Int)(aQ:List Int)(x6:Int):(List Int)×Int×(List Int)→Option (((List Int)×Int×(List Int))⊕((List Int)×(List Int))):=fun (eh,mU,xg)=>cnd (decide ((0:Int)≤mU)) (gd (0≤mU∧mU<((aI).length:Int)) (gd (([(aI)[(mU).toNat]!]++eh).length*8≤140737488355328) (bnd (fh ([(aI)[(mU).toNat]!]++eh)) fun qc=>bnd (iJ qc ((aQ).length:Int)) fun AY=>bnd (iJ qc (i64.wrap (((aQ).length:Int) - (1:Int)))) fun sE=>bnd (iJ qc (i64.wrap (((aQ).length:Int) - (2:Int)))) fun C7=>gd (x6≠0) (bnd (some (min (65535:Int) (i64.wrap (Int.tdiv (i64.wrap ((i64.wrap ((i64.wrap (AY*(4294967296:Int)))+(i64.wrap (sE*(65536:Int)))))+C7)) x6)))) fun xY=>bnd (lK aQ [xY]) fun JE=>bnd (bq (iG aQ qc) (xY,JE)) fun (xK,AM)=>gd (0≤mU∧mU<(((((aI).length:Int)).toNat:Nat):Int)∧mU<((xg).length:Int)) (bnd (il qc AM) fun zH=>some (.inl (zH,i64.wrap (mU - (1:Int)),(xg).set ((mU).toNat) xK))))))) (some (.inr (eh,xg)))
def iI(aI:List Int)(aQ:List Int):Option ((List Int)×(List Int)):=gd (0≤((aI).length:Int)∧((aI).length:Int)≤1000000) (gd (0≤i64.wrap (((aQ).length:Int) - (1:Int))∧i64.wrap (((aQ).length:Int) - (1:Int))<((aQ).length:Int)) (bnd (iJ aQ (i64.wrap (((aQ).length:Int) - (2:Int)))) fun x4=>bnd (some (i64.wrap ((i64.wrap (((aQ)[(i64.wrap (((aQ).length:Int) - (1:Int))).toNat]!)*(65536:Int)))+x4))) fun x6=>bnd (some (i64.wrap (((aI).length:Int) - (1:Int)))) fun x8=>bnd (bq (iH aI aQ x6) (([]:List Int),x8,List.replicate (((aI).length:Int)).toNat (0:Int))) fun (AO,xL)=>gd ((((aI).length:Int)).toNat=(xL).length) (bnd (fh xL) fun LP=>some (LP,AO))))
theorem wu {aI:List Int}{aQ:List Int}{r:(List Int)×(List Int)}(h:iI aI aQ=some r):aq prog 168 [dL (cI .i64) aI,dL (cI .i64) aQ] (.tu [dL (cI .i64) r.1,dL (cI .i64) r.2]):=by
 refine bh (rs:=[.tmp 4,.tmp 5]) (fun cx hx h0=>?_) func168
 unfold iI at h
 refine rs hx fun K hK=>?_
 refine s1 (d:=dO 0 (cI .i64) ([]:List Int)) (gF cZ dW) ?_
 refine s1 (d:=dO 1 (cI .i64) ([]:List Int)) (gF cZ dW) ?_
 refine nl hK ?_
 refine rs hx fun K hK=>?_
 iterate 2 refine sa ?_
 obtain⟨LW,h⟩:=ay h
 refine q1 (sMk (c:=(cI .i64)) (z0:=(0:Int)) tok LW cZ dW (by first|rfl|kernel_rfl)) ?_
 refine nbi hK ?_
 refine ra hx ?_
 refine rsd [194] hx fun K hK=>?_
 iterate 3 refine sa ?_
 obtain⟨q8,h⟩:=ay h
 have xT:(i64.wrap (((aQ).length:Int) - (1:Int))).toNat<(aQ).length:=by omega
 refine sbi ?_
 refine s1 (yC (c:=(cI .i64)) (l:=aQ) (n:=(i64.wrap (((aQ).length:Int) - (1:Int))).toNat) (o:=0) dW xT) ?_
 refine mbi ?_
 refine cqb h uC fun x4 h=>?_
 refine sa ?_
 obtain⟨x6,v8,h⟩:=ae h
 replace v8:=bC v8
 refine s2 (d2:=dI .i64 x6) lH (gq (congrArg (dI .i64) v8)) ?_
 refine nl hK ?_
 refine rs hx fun K hK=>?_
 refine s1 (d:=dO 3 (cI .i64) ([]:List Int)) (gF cZ dW) ?_
 refine nl hK ?_
 refine AW.seq (rs hx fun K hK=>?_)
 iterate 3 refine sa ?_
 obtain⟨x8,Q8,h⟩:=ae h
 replace Q8:=bC Q8
 refine s2 (d2:=dI .i64 x8) lH (gq (congrArg (dI .i64) Q8)) ?_
 refine nl hK ?_
 refine AW.block ?_
 obtain⟨y,hy,h⟩:=ae h
 refine lp (S:=(List Int)×Int×(List Int)) (X:=(List Int)×(List Int)) (fun (eh,mU,xg)=>[(0,dL (cI .i64) aI),(1,dL (cI .i64) aQ),(6,.ow 0 0 1 ((((aI).length:Int)).toNat)),(7,dI .i64 ((aQ).length:Int)),(8,dI .i64 x6),(9,dL (cI .i64) eh),(10,dI .i64 mU)]) (fun (eh,mU,xg)=>⟨[(0,dC ((cW (cI .i64)).f xg))],[],1⟩) (PE cx (.exit 0) (fun (AO,xL)=>[(6,.ow 0 0 1 ((((aI).length:Int)).toNat)),(9,dL (cI .i64) AO)]) fun (AO,xL)=>⟨[(0,dC ((cW (cI .i64)).f xL))],[],1⟩) hy ?_ ?_ ?_
 exact wk h0 [2] (wR rfl (wR rfl (wR rfl (wR rfl (wR rfl (wT rfl (Sy _) rfl rfl (wR rfl wTn))))))) (vC rfl wVn) wLn
 clear hy h
 rintro⟨eh,mU,xg⟩ y h
 dsimp only[iH] at h
 refine AW.seq (ra hx ?_)
 refine cdh h rfl (fun nK h=>?_) (fun nK h=>?_)
 refine AW.skip (AW.seq (AW.block (rs hx fun K hK=>?_)))
 iterate 2 refine sa ?_
 obtain⟨Tt,h⟩:=ay h
 have hn12:(mU).toNat<(aI).length:=by omega
 refine sbi ?_
 refine s1 (yC (c:=(cI .i64)) (l:=aI) (n:=(mU).toNat) (o:=0) dW hn12) ?_
 refine s1 (d:=dO 1 (cI .i64) [(aI)[(mU).toNat]!]) (kH cZ dW) ?_
 refine sa ?_
 obtain⟨hc13,h⟩:=ay h
 refine s1 (d:=dO 1 (cI .i64) ([(aI)[(mU).toNat]!]++eh)) (qN cZ dW hc13) ?_
 refine scb h kS fun qc h=>?_
 refine nbi hK ?_
 refine rs hx fun K hK=>?_
 refine mbi ?_
 refine scb h uC fun AY h=>?_
 refine mbi ?_
 refine scb h uC fun sE h=>?_
 refine mbi ?_
 refine scb h uC fun C7 h=>?_
 iterate 2 refine sa ?_
 obtain⟨Qq,h⟩:=ay h
 refine s1 (HG Qq) ?_
 refine sa ?_
 obtain⟨xY,hx24,h⟩:=ae h
 replace hx24:=bC hx24
 refine s2 (d2:=dI .i64 xY) lH (gq (congrArg (dI .i64) hx24)) ?_
 refine nl hK ?_
 refine rs hx fun K hK=>?_
 iterate 2 refine sa ?_
 refine s1 (d:=dO 2 (cI .i64) [xY]) (kH cZ dW) ?_
 refine scb h yc fun JE h=>?_
 refine nbi hK ?_
 refine AW.seq (AW.block ?_)
 obtain⟨y,hy,h⟩:=ae h
 refine lp (S:=Int×(List Int)) (X:=Int×(List Int)) (fun (uo,Fg)=>[(0,dL (cI .i64) aI),(1,dL (cI .i64) aQ),(6,.ow 0 0 1 ((((aI).length:Int)).toNat)),(7,dI .i64 ((aQ).length:Int)),(8,dI .i64 x6),(9,dL (cI .i64) qc),(10,dI .i64 mU),(11,dI .i64 uo),(12,dL (cI .i64) Fg)]) (fun (uo,Fg)=>⟨[(0,dC ((cW (cI .i64)).f xg))],[],1⟩) (PE cx (.exit 2) (fun (xK,AM)=>[(0,dL (cI .i64) aI),(1,dL (cI .i64) aQ),(6,.ow 0 0 1 ((((aI).length:Int)).toNat)),(7,dI .i64 ((aQ).length:Int)),(8,dI .i64 x6),(9,dL (cI .i64) qc),(10,dI .i64 mU),(11,dI .i64 xK),(12,dL (cI .i64) AM)]) fun (xK,AM)=>⟨[(0,dC ((cW (cI .i64)).f xg))],[],1⟩) hy ?_ ?_ ?_
 exact wk0 h0 [0]
 clear hy h
 rintro⟨uo,Fg⟩ y h
 dsimp only[iG] at h
 refine AW.seq (rs hx fun K hK=>?_)
 refine mbi ?_
 refine scb h zQ fun AV h=>?_
 refine nl hK ?_
 refine cdh h rfl (fun hb29 h=>?_) (fun hb29 h=>?_)
 refine AW.skip (AW.block (ra hx ?_))
 refine rq hx fun K hK=>?_
 refine mbi ?_
 refine scb h pS fun Rn h=>?_
 refine nbi hK ?_
 exact pel h h0 [0]
 exact AW.exit (per h h0 [0])
 obtain⟨xK,AM⟩:=y
 refine lw0 ?_
 refine rs hx fun K hK=>?_
 iterate 3 refine sa ?_
 obtain⟨hc33,h⟩:=ay h
 have hn34:(mU).toNat<(xg).length:=by omega
 refine s1 (xi ⟨hc33.1,hc33.2.1⟩ cZ dW) ?_
 refine s0 (yB (b':=xK) (bV.seqW (cI .i64) xg ((mU).toNat) hn34) dW) ?_
 refine nl hK ?_
 refine rq hx fun K hK=>?_
 refine mbi ?_
 refine scb h pS fun zH h=>?_
 refine nbi hK ?_
 refine rb hx ?_
 exact pel h h0 [0]
 exact AW.exit (per h h0 [0])
 obtain⟨AO,xL⟩:=y
 refine lw0 ?_
 refine rs hx fun K hK=>?_
 refine sa ?_
 obtain⟨hc38,h⟩:=ay h
 refine fzO (cI .i64) (n:=(((aI).length:Int)).toNat) 0 [6,81] hc38 ?_ (all2 rfl (all1 rfl))
 refine scb h kS fun LP h=>?_
 refine nbi hK ?_
 refine AW.ret ?_
 cases h
 exact rv2
def jd :Int×Int→Option ((Int×Int)⊕Int):=fun (uu,CO)=>cnd (decide (CO≠(0:Int))) (gd (CO≠0) (some (.inl (CO,Int.tmod uu CO)))) (some (.inr uu))
def jc :(List Int)×(List Int)→Option (((List Int)×(List Int))⊕((List Int))):=fun (Hy,Fe)=>cnd (decide ((0:Int)<((Fe).length:Int))) (bnd (iI Hy Fe) fun AT=>some (.inl (Fe,AT.2))) (some (.inr Hy))
def mp(aI:ao)(aQ:ao):Option ao:=bnd (eL aI) fun x1=>bnd (eL aQ) fun x3=>bnd (S:=Bool) (cnd x1.2 (some (x3.2)) (some (false))) fun aP=>cnd aP (bnd (bq (jd) (x1.1,x3.1)) fun AP=>bnd (eN AP) fun sJ=>bnd (qq sJ) fun qA=>some qA) (bnd (S:=Bool) (bnd (bk aI) fun JM=>cnd (!JM) (some (true)) (bnd (bk aQ) fun sE=>some (!sE))) fun uo=>cnd uo (bnd (fq) fun CR=>some CR) (bnd (bA aI) fun AX=>bnd (bA aQ) fun x26=>bnd (bq (jc) (AX,x26)) fun AH=>bnd (cg false AH) fun x32=>some x32))
theorem wv {aI:ao}{aQ:ao}{r:ao}(h:mp aI aQ=some r):aq prog 127 [dG ap aI,dG ap aQ] (dG ap r):=by
 refine bh (rs:=[.cell 4 41]) (fun cx hx h0=>?_) func127
 unfold mp at h
 refine rai hx ?_
 refine rs hx fun K hK=>?_
 refine mbi ?_
 refine scb h jh fun x1 h=>?_
 refine nbi hK ?_
 refine rs hx fun K hK=>?_
 refine mbi ?_
 refine scb h jh fun x3 h=>?_
 refine nbi hK ?_
 iterate 2 refine AW.seq ?_
 obtain⟨aP,hy,h⟩:=ae h
 refine jn ((PE cx .normal (fun aP=>[(2,.pt 0 0),(3,.pt 1 0),(4,.pt 2 0),(5,dI .i64 x1.1),(7,dI .i64 x3.1),(27,dB aP)]) fun aP=>⟨[(0,dC (ap.f aI)),(1,dC (ap.f aQ)),(2,dC (ap.f cj))],[],3⟩) aP) ?_ ?_
 replace h:=hy
 refine rq hx fun K hK=>?_
 refine mbi ?_
 rcases aE h with⟨rX,h⟩|⟨rX,h⟩
 refine nbi hK ?_
 exact pe1 h h0 [0,1,2]
 refine nbi hK ?_
 exact pe1 h h0 [0,1,2]
 refine lw0 ?_
 refine cdh h rfl (fun sZ h=>?_) (fun sZ h=>?_)
 refine AW.seq (AW.block ?_)
 obtain⟨AP,hy,h⟩:=ae h
 refine lp (S:=Int×Int) (X:=Int) (fun (uu,CO)=>[(4,.pt 0 0),(5,dI .i64 uu),(7,dI .i64 CO)]) (fun (uu,CO)=>⟨[(0,dC (ap.f cj))],[],1⟩) (PE cx (.exit 0) (fun AP=>[(4,.pt 0 0),(5,dI .i64 AP)]) fun AP=>⟨[(0,dC (ap.f cj))],[],1⟩) hy ?_ ?_ ?_
 exact wk0 h0 [2]
 clear hy h
 rintro⟨uu,CO⟩ y h
 dsimp only[jd] at h
 refine AW.seq (ra hx ?_)
 refine cdh h rfl (fun ua h=>?_) (fun ua h=>?_)
 refine AW.skip (AW.block (rs hx fun K hK=>?_))
 iterate 2 refine sa ?_
 obtain⟨hc9,h⟩:=ay h
 refine s1 (Fk hc9) ?_
 refine nbi hK ?_
 refine ra hx ?_
 refine rb hx ?_
 exact pel h h0 [0]
 exact AW.exit (per h h0 [0])
 refine lw0 ?_
 refine rs hx fun K hK=>?_
 refine sa ?_
 refine scb h ix fun sJ h=>?_
 refine scb h JZ fun qA h=>?_
 refine nbi hK ?_
 exact AW.ret (rtv h)
 refine AW.skip ?_
 iterate 2 refine AW.seq ?_
 obtain⟨uo,hy,h⟩:=ae h
 refine jn ((PE cx .normal (fun uo=>[(2,.pt 0 0),(3,.pt 1 0),(4,.pt 2 0),(45,dB uo)]) fun uo=>⟨[(0,dC (ap.f aI)),(1,dC (ap.f aQ)),(2,dC (ap.f cj))],[],3⟩) uo) ?_ ?_
 replace h:=hy
 refine rq hx fun K hK=>?_
 refine mbi ?_
 refine scb h cu fun JM h=>?_
 refine mbi ?_
 rcases aE h with⟨IF,h⟩|⟨IF,h⟩
 refine nbi hK ?_
 exact pe1 h h0 [0,1,2]
 refine gbi ?_
 refine gcb h cu fun sE h=>?_
 refine nbi hK ?_
 exact pe1 h h0 [0,1,2]
 refine lw0 ?_
 refine cdh h rfl (fun Er h=>?_) (fun Er h=>?_)
 refine rs hx fun K hK=>?_
 refine scb h kJ fun CR h=>?_
 refine nbi hK ?_
 exact AW.ret (rtv h)
 refine AW.skip (rs hx fun K hK=>?_)
 refine mbi ?_
 refine scb h cR fun AX h=>?_
 refine nbi hK ?_
 refine rs hx fun K hK=>?_
 refine mbi ?_
 refine scb h cR fun x26 h=>?_
 refine nbi hK ?_
 refine AW.seq (AW.block ?_)
 obtain⟨AH,hy,h⟩:=ae h
 refine lp (S:=(List Int)×(List Int)) (X:=(List Int)) (fun (Hy,Fe)=>[(4,.pt 0 0),(10,dL (cI .i64) Hy),(11,dL (cI .i64) Fe)]) (fun (Hy,Fe)=>⟨[(0,dC (ap.f cj))],[],1⟩) (PE cx (.exit 2) (fun AH=>[(4,.pt 0 0),(10,dL (cI .i64) AH)]) fun AH=>⟨[(0,dC (ap.f cj))],[],1⟩) hy ?_ ?_ ?_
 exact wk0 h0 [2]
 clear hy h
 rintro⟨Hy,Fe⟩ y h
 dsimp only[jc] at h
 refine AW.seq (ra hx ?_)
 refine cdh h rfl (fun hb28 h=>?_) (fun hb28 h=>?_)
 refine AW.skip (AW.block (rs hx fun K hK=>?_))
 refine mbi ?_
 refine scb h wu fun AT h=>?_
 refine nbi hK ?_
 refine ra hx ?_
 refine rb hx ?_
 exact pel h h0 [0]
 exact AW.exit (per h h0 [0])
 refine lw0 ?_
 refine rs hx fun K hK=>?_
 refine sa ?_
 refine scb h eG fun x32 h=>?_
 refine nbi hK ?_
 exact AW.ret (rtv h)
def np(c0:Int)(p_m:Int):Option Int:=gd (p_m≠0) (bnd (S:=Int) (bnd (S:=Bool) (gd (p_m≠0) (cnd (decide ((Int.tmod c0 p_m)≠(0:Int))) (some (!((decide (c0<(0:Int))) == (decide (p_m<(0:Int)))))) (some (false)))) fun aC=>cnd aC (bnd (some (i64.wrap ((i64.wrap (Int.tdiv c0 p_m)) - (1:Int)))) fun x6=>some (x6)) (some (i64.wrap (Int.tdiv c0 p_m)))) fun gZ=>some gZ)
theorem Gb {c0:Int}{p_m:Int}{r:Int}(h:np c0 p_m=some r):aq prog 169 [dI .i64 c0,dI .i64 p_m] (dI .i64 r):=by
 refine bh (rs:=[.tmp 4]) (fun cx hx h0=>?_) func169
 unfold np at h
 refine ra hx ?_
 refine rs hx fun K hK=>?_
 iterate 2 refine sa ?_
 obtain⟨LW,h⟩:=ay h
 refine s1 (HG LW) ?_
 refine nbi hK ?_
 refine AW.seq ?_
 obtain⟨gZ,hy,h⟩:=ae h
 refine jn ((PE cx .normal (fun gZ=>[(5,dI .i64 gZ)]) fun gZ=>⟨[],[],0⟩) gZ) ?_ ?_
 replace h:=hy
 refine AW.seq ?_
 obtain⟨aC,hy,h⟩:=ae h
 refine jn ((PE cx .normal (fun aC=>[(5,dI .i64 (i64.wrap (Int.tdiv c0 p_m))),(19,dB aC)]) fun aC=>⟨[],[],0⟩) aC) ?_ ?_
 replace h:=hy
 refine rq hx fun K hK=>?_
 iterate 2 refine sa ?_
 obtain⟨q8,h⟩:=ay h
 refine s1 (Fk q8) ?_
 refine mbi ?_
 rcases aE h with⟨fG,h⟩|⟨fG,h⟩
 refine nbi hK ?_
 exact pe1 h h0 []
 refine nbi hK ?_
 exact pe1 h h0 []
 refine lw0 ?_
 refine cdh h rfl (fun rX h=>?_) (fun rX h=>?_)
 refine rq hx fun K hK=>?_
 iterate 2 refine sa ?_
 obtain⟨x6,v8,h⟩:=ae h
 replace v8:=bC v8
 refine s2 (d2:=dI .i64 x6) lH (gq (congrArg (dI .i64) v8)) ?_
 refine nl hK ?_
 exact pe1 h h0 []
 exact AW.skip (pe1 h h0 [])
 refine lw0 ?_
 refine ra hx ?_
 exact AW.ret (rtv h)
def kM(aI:ao)(aQ:ao):Option ao:=bnd (eL aI) fun x1=>bnd (eL aQ) fun x3=>bnd (S:=Bool) (cnd x1.2 (cnd x3.2 (some (decide (x3.1≠(0:Int)))) (some (false))) (some (false))) fun aP=>cnd aP (bnd (np x1.1 x3.1) fun x9=>bnd (eN x9) fun sJ=>some sJ) (bnd (S:=Bool) (bnd (bk aI) fun qA=>cnd (!qA) (some (true)) (bnd (bk aQ) fun AY=>cnd (!AY) (some (true)) (bnd (bA aQ) fun vU=>some (decide (((vU).length:Int)=(0:Int)))))) fun aV=>cnd aV (bnd (fq) fun xY=>some xY) (bnd (bA aI) fun JE=>bnd (bA aQ) fun AV=>bnd (iI JE AV) fun AT=>bnd (S:=(List Int)) (bnd (S:=Bool) (cnd (!(aI.vNeg == aQ.vNeg)) (some (decide ((0:Int)<((AT.2).length:Int)))) (some (false))) fun uq=>cnd uq (bnd (kY AT.1 [(1:Int)]) fun x34=>some (x34)) (some (AT.1))) fun su=>bnd (cg (!(aI.vNeg == aQ.vNeg)) su) fun GN=>some GN))
theorem sO {aI:ao}{aQ:ao}{r:ao}(h:kM aI aQ=some r):aq prog 128 [dG ap aI,dG ap aQ] (dG ap r):=by
 refine bh (rs:=[.cell 4 41]) (fun cx hx h0=>?_) func128
 unfold kM at h
 refine rai hx ?_
 refine rs hx fun K hK=>?_
 refine mbi ?_
 refine scb h jh fun x1 h=>?_
 refine nbi hK ?_
 refine rs hx fun K hK=>?_
 refine mbi ?_
 refine scb h jh fun x3 h=>?_
 refine nbi hK ?_
 iterate 2 refine AW.seq ?_
 obtain⟨aP,hy,h⟩:=ae h
 refine jn ((PE cx .normal (fun aP=>[(2,.pt 0 0),(3,.pt 1 0),(4,.pt 2 0),(5,dI .i64 x1.1),(7,dI .i64 x3.1),(28,dB aP)]) fun aP=>⟨[(0,dC (ap.f aI)),(1,dC (ap.f aQ)),(2,dC (ap.f cj))],[],3⟩) aP) ?_ ?_
 replace h:=hy
 refine rq hx fun K hK=>?_
 refine mbi ?_
 rcases aE h with⟨rX,h⟩|⟨rX,h⟩
 refine mbi ?_
 rcases aE h with⟨qP,h⟩|⟨qP,h⟩
 refine nbi hK ?_
 exact pe1 h h0 [0,1,2]
 refine nbi hK ?_
 exact pe1 h h0 [0,1,2]
 refine nbi hK ?_
 exact pe1 h h0 [0,1,2]
 refine lw0 ?_
 refine cdh h rfl (fun ua h=>?_) (fun ua h=>?_)
 refine rs hx fun K hK=>?_
 refine mbi ?_
 refine scb h Gb fun x9 h=>?_
 refine scb h ix fun sJ h=>?_
 refine nbi hK ?_
 exact AW.ret (rtv h)
 refine AW.skip ?_
 iterate 2 refine AW.seq ?_
 obtain⟨aV,hy,h⟩:=ae h
 refine jn ((PE cx .normal (fun aV=>[(2,.pt 0 0),(3,.pt 1 0),(4,.pt 2 0),(46,dB aV)]) fun aV=>⟨[(0,dC (ap.f aI)),(1,dC (ap.f aQ)),(2,dC (ap.f cj))],[],3⟩) aV) ?_ ?_
 replace h:=hy
 refine rq hx fun K hK=>?_
 refine mbi ?_
 refine scb h cu fun qA h=>?_
 refine mbi ?_
 rcases aE h with⟨MX,h⟩|⟨MX,h⟩
 refine nbi hK ?_
 exact pe1 h h0 [0,1,2]
 refine gbi ?_
 refine gcb h cu fun AY h=>?_
 refine mbi ?_
 rcases aE h with⟨MW,h⟩|⟨MW,h⟩
 refine nbi hK ?_
 exact pe1 h h0 [0,1,2]
 refine gbi ?_
 refine gcb h cR fun vU h=>?_
 refine nbi hK ?_
 exact pe1 h h0 [0,1,2]
 refine lw0 ?_
 refine cdh h rfl (fun hb22 h=>?_) (fun hb22 h=>?_)
 refine rs hx fun K hK=>?_
 refine scb h kJ fun xY h=>?_
 refine nbi hK ?_
 exact AW.ret (rtv h)
 refine AW.skip (rsd [143,168] hx fun K hK=>?_)
 refine mbi ?_
 refine cqb h cR fun JE h=>?_
 refine mbi ?_
 refine cqb h cR fun AV h=>?_
 refine cqb h wu fun AT h=>?_
 refine nbi hK ?_
 refine AW.seq ?_
 obtain⟨su,hy,h⟩:=ae h
 refine jn ((PE cx .normal (fun su=>[(2,.pt 0 0),(3,.pt 1 0),(4,.pt 2 0),(9,dL (cI .i64) su)]) fun su=>⟨[(0,dC (ap.f aI)),(1,dC (ap.f aQ)),(2,dC (ap.f cj))],[],3⟩) su) ?_ ?_
 replace h:=hy
 refine AW.seq ?_
 obtain⟨uq,hy,h⟩:=ae h
 refine jn ((PE cx .normal (fun uq=>[(2,.pt 0 0),(3,.pt 1 0),(4,.pt 2 0),(9,dL (cI .i64) AT.1),(65,dB uq)]) fun uq=>⟨[(0,dC (ap.f aI)),(1,dC (ap.f aQ)),(2,dC (ap.f cj))],[],3⟩) uq) ?_ ?_
 replace h:=hy
 refine rq hx fun K hK=>?_
 refine mbi ?_
 rcases aE h with⟨Qs,h⟩|⟨Qs,h⟩
 refine nbi hK ?_
 exact pe1 h h0 [0,1,2]
 refine nbi hK ?_
 exact pe1 h h0 [0,1,2]
 refine lw0 ?_
 refine cdh h rfl (fun hb33 h=>?_) (fun hb33 h=>?_)
 refine rq hx fun K hK=>?_
 refine sa ?_
 refine s1 (d:=dO 3 (cI .i64) [(1:Int)]) (kH cZ dW) ?_
 refine scb h uB fun x34 h=>?_
 refine nbi hK ?_
 exact pe1 h h0 [0,1,2]
 exact AW.skip (pe1 h h0 [0,1,2])
 refine lw0 ?_
 refine rs hx fun K hK=>?_
 refine mbi ?_
 refine scb h eG fun GN h=>?_
 refine nbi hK ?_
 exact AW.ret (rtv h)
def rf(c0:Int):Option Bool:=bnd (S:=Bool) (cnd (decide (c0<(2147483648:Int))) (some (decide ((-2147483648:Int)<c0))) (some (false))) fun bi=>some bi
theorem zR {c0:Int}{r:Bool}(h:rf c0=some r):aq prog 172 [dI .i64 c0] (dB r):=by
 refine bh (rs:=[.tmp 2]) (fun cx hx h0=>?_) func172
 unfold rf at h
 refine ra hx ?_
 refine AW.seq ?_
 obtain⟨bi,hy,h⟩:=ae h
 refine jn ((PE cx .normal (fun bi=>[(2,dB bi)]) fun bi=>⟨[],[],0⟩) bi) ?_ ?_
 replace h:=hy
 refine rq hx fun K hK=>?_
 refine mbi ?_
 rcases aE h with⟨fJ,h⟩|⟨fJ,h⟩
 refine nbi hK ?_
 exact pe1 h h0 []
 refine nbi hK ?_
 exact pe1 h h0 []
 refine lw0 ?_
 exact AW.ret (rtv h)
def mn(aI:ao)(aQ:ao):Option ao:=bnd (eL aI) fun x1=>bnd (eL aQ) fun x3=>bnd (S:=Bool) (cnd x1.2 (cnd x3.2 (bnd (rf x1.1) fun x7=>cnd x7 (bnd (rf x3.1) fun n7=>some (n7)) (some (false))) (some (false))) (some (false))) fun aP=>cnd aP (bnd (eN (i64.wrap (x1.1*x3.1))) fun qc=>some qc) (bnd (S:=Bool) (bnd (bk aI) fun AY=>cnd (!AY) (some (true)) (bnd (bk aQ) fun vU=>some (!vU))) fun aV=>cnd aV (bnd (fq) fun xY=>some xY) (bnd (bA aI) fun JE=>bnd (bA aQ) fun AV=>bnd (lK JE AV) fun AT=>bnd (cg (!(aI.vNeg == aQ.vNeg)) AT) fun HP=>some HP))
theorem qe {aI:ao}{aQ:ao}{r:ao}(h:mn aI aQ=some r):aq prog 130 [dG ap aI,dG ap aQ] (dG ap r):=by
 refine bh (rs:=[.cell 4 41]) (fun cx hx h0=>?_) func130
 unfold mn at h
 refine rai hx ?_
 refine rs hx fun K hK=>?_
 refine mbi ?_
 refine scb h jh fun x1 h=>?_
 refine nbi hK ?_
 refine rs hx fun K hK=>?_
 refine mbi ?_
 refine scb h jh fun x3 h=>?_
 refine nbi hK ?_
 iterate 2 refine AW.seq ?_
 obtain⟨aP,hy,h⟩:=ae h
 refine jn ((PE cx .normal (fun aP=>[(2,.pt 0 0),(3,.pt 1 0),(4,.pt 2 0),(5,dI .i64 x1.1),(7,dI .i64 x3.1),(30,dB aP)]) fun aP=>⟨[(0,dC (ap.f aI)),(1,dC (ap.f aQ)),(2,dC (ap.f cj))],[],3⟩) aP) ?_ ?_
 replace h:=hy
 refine rq hx fun K hK=>?_
 refine mbi ?_
 rcases aE h with⟨rX,h⟩|⟨rX,h⟩
 refine mbi ?_
 rcases aE h with⟨qP,h⟩|⟨qP,h⟩
 refine ga qP ?_
 refine gcb h zR fun x7 h=>?_
 refine mbi ?_
 rcases aE h with⟨KN,h⟩|⟨KN,h⟩
 refine ga KN ?_
 refine gcb h zR fun n7 h=>?_
 refine nbi hK ?_
 exact pe1 h h0 [0,1,2]
 refine nbi hK ?_
 exact pe1 h h0 [0,1,2]
 refine nbi hK ?_
 exact pe1 h h0 [0,1,2]
 refine nbi hK ?_
 exact pe1 h h0 [0,1,2]
 refine lw0 ?_
 refine cdh h rfl (fun GB h=>?_) (fun GB h=>?_)
 refine rs hx fun K hK=>?_
 refine mbi ?_
 refine scb h ix fun qc h=>?_
 refine nbi hK ?_
 exact AW.ret (rtv h)
 refine AW.skip ?_
 iterate 2 refine AW.seq ?_
 obtain⟨aV,hy,h⟩:=ae h
 refine jn ((PE cx .normal (fun aV=>[(2,.pt 0 0),(3,.pt 1 0),(4,.pt 2 0),(42,dB aV)]) fun aV=>⟨[(0,dC (ap.f aI)),(1,dC (ap.f aQ)),(2,dC (ap.f cj))],[],3⟩) aV) ?_ ?_
 replace h:=hy
 refine rq hx fun K hK=>?_
 refine mbi ?_
 refine scb h cu fun AY h=>?_
 refine mbi ?_
 rcases aE h with⟨MW,h⟩|⟨MW,h⟩
 refine nbi hK ?_
 exact pe1 h h0 [0,1,2]
 refine gbi ?_
 refine gcb h cu fun vU h=>?_
 refine nbi hK ?_
 exact pe1 h h0 [0,1,2]
 refine lw0 ?_
 refine cdh h rfl (fun hb22 h=>?_) (fun hb22 h=>?_)
 refine rs hx fun K hK=>?_
 refine scb h kJ fun xY h=>?_
 refine nbi hK ?_
 exact AW.ret (rtv h)
 refine AW.skip (rsd [143,173,140] hx fun K hK=>?_)
 refine mbi ?_
 refine cqb h cR fun JE h=>?_
 refine mbi ?_
 refine cqb h cR fun AV h=>?_
 refine cqb h yc fun AT h=>?_
 refine cqb h eG fun HP h=>?_
 refine nbi hK ?_
 exact AW.ret (rtv h)
def wN(aI:ao)(aQ:ao):Option ao:=bnd (eL aI) fun x1=>bnd (eL aQ) fun x3=>bnd (S:=Bool) (cnd x1.2 (some (x3.2)) (some (false))) fun aP=>cnd aP (bnd (eN (i64.wrap (x1.1+x3.1))) fun x8=>some x8) (bnd (S:=Bool) (bnd (bk aI) fun n7=>cnd (!n7) (some (true)) (bnd (bk aQ) fun qA=>some (!qA))) fun aV=>cnd aV (bnd (fq) fun o3=>some o3) (bnd (bA aI) fun vU=>bnd (bA aQ) fun wm=>cnd (aI.vNeg == aQ.vNeg) (bnd (kY vU wm) fun AX=>bnd (cg aI.vNeg AX) fun x26=>some x26) (bnd (mI vU wm) fun LZ=>cnd LZ (bnd (il wm vU) fun HP=>bnd (cg aQ.vNeg HP) fun LQ=>some LQ) (bnd (il vU wm) fun zH=>bnd (cg aI.vNeg zH) fun GN=>some GN))))
theorem JY {aI:ao}{aQ:ao}{r:ao}(h:wN aI aQ=some r):aq prog 129 [dG ap aI,dG ap aQ] (dG ap r):=by
 refine bh (rs:=[.cell 4 41]) (fun cx hx h0=>?_) func129
 unfold wN at h
 refine rai hx ?_
 refine rs hx fun K hK=>?_
 refine mbi ?_
 refine scb h jh fun x1 h=>?_
 refine nbi hK ?_
 refine rs hx fun K hK=>?_
 refine mbi ?_
 refine scb h jh fun x3 h=>?_
 refine nbi hK ?_
 iterate 2 refine AW.seq ?_
 obtain⟨aP,hy,h⟩:=ae h
 refine jn ((PE cx .normal (fun aP=>[(2,.pt 0 0),(3,.pt 1 0),(4,.pt 2 0),(5,dI .i64 x1.1),(7,dI .i64 x3.1),(25,dB aP)]) fun aP=>⟨[(0,dC (ap.f aI)),(1,dC (ap.f aQ)),(2,dC (ap.f cj))],[],3⟩) aP) ?_ ?_
 replace h:=hy
 refine rq hx fun K hK=>?_
 refine mbi ?_
 rcases aE h with⟨rX,h⟩|⟨rX,h⟩
 refine nbi hK ?_
 exact pe1 h h0 [0,1,2]
 refine nbi hK ?_
 exact pe1 h h0 [0,1,2]
 refine lw0 ?_
 refine cdh h rfl (fun sZ h=>?_) (fun sZ h=>?_)
 refine rs hx fun K hK=>?_
 refine mbi ?_
 refine scb h ix fun x8 h=>?_
 refine nbi hK ?_
 exact AW.ret (rtv h)
 refine AW.skip ?_
 iterate 2 refine AW.seq ?_
 obtain⟨aV,hy,h⟩:=ae h
 refine jn ((PE cx .normal (fun aV=>[(2,.pt 0 0),(3,.pt 1 0),(4,.pt 2 0),(37,dB aV)]) fun aV=>⟨[(0,dC (ap.f aI)),(1,dC (ap.f aQ)),(2,dC (ap.f cj))],[],3⟩) aV) ?_ ?_
 replace h:=hy
 refine rq hx fun K hK=>?_
 refine mbi ?_
 refine scb h cu fun n7 h=>?_
 refine mbi ?_
 rcases aE h with⟨BK,h⟩|⟨BK,h⟩
 refine nbi hK ?_
 exact pe1 h h0 [0,1,2]
 refine gbi ?_
 refine gcb h cu fun qA h=>?_
 refine nbi hK ?_
 exact pe1 h h0 [0,1,2]
 refine lw0 ?_
 refine cdh h rfl (fun tD h=>?_) (fun tD h=>?_)
 refine rs hx fun K hK=>?_
 refine scb h kJ fun o3 h=>?_
 refine nbi hK ?_
 exact AW.ret (rtv h)
 refine AW.skip (rs hx fun K hK=>?_)
 refine mbi ?_
 refine scb h cR fun vU h=>?_
 refine nbi hK ?_
 refine rs hx fun K hK=>?_
 refine mbi ?_
 refine scb h cR fun wm h=>?_
 refine nbi hK ?_
 refine AW.seq (rai hx ?_)
 refine cdh h rfl (fun hb23 h=>?_) (fun hb23 h=>?_)
 refine rsd [141,140] hx fun K hK=>?_
 refine mbi ?_
 refine cqb h uB fun AX h=>?_
 refine cqb h eG fun x26 h=>?_
 refine nbi hK ?_
 exact AW.ret (rtv h)
 refine AW.skip (rs hx fun K hK=>?_)
 refine mbi ?_
 refine scb h zQ fun LZ h=>?_
 refine nbi hK ?_
 refine AW.seq (ra hx ?_)
 refine cdh h rfl (fun Tw h=>?_) (fun Tw h=>?_)
 refine rsd [171,140] hx fun K hK=>?_
 refine mbi ?_
 refine cqb h pS fun HP h=>?_
 refine cqb h eG fun LQ h=>?_
 refine nbi hK ?_
 exact AW.ret (rtv h)
 refine AW.skip (rsd [171,140] hx fun K hK=>?_)
 refine mbi ?_
 refine cqb h pS fun zH h=>?_
 refine cqb h eG fun GN h=>?_
 refine nbi hK ?_
 exact AW.ret (rtv h)
def qp(aM:ao):Option ao:=bnd (bk aM) fun x1=>cnd (!x1) (bnd (fq) fun x4=>some x4) (bnd (bA aM) fun x6=>bnd (cg (!aM.vNeg) x6) fun x8=>some x8)
theorem JX {aM:ao}{r:ao}(h:qp aM=some r):aq prog 157 [dG ap aM] (dG ap r):=by
 refine bh (rs:=[.cell 2 41]) (fun cx hx h0=>?_) func157
 unfold qp at h
 refine rai hx ?_
 refine AW.seq (rs hx fun K hK=>?_)
 refine mbi ?_
 refine scb h cu fun x1 h=>?_
 refine nbi hK ?_
 refine cdh h rfl (fun fG h=>?_) (fun fG h=>?_)
 refine rs hx fun K hK=>?_
 refine scb h kJ fun x4 h=>?_
 refine nbi hK ?_
 exact AW.ret (rtv h)
 refine AW.skip (rsd [143,140] hx fun K hK=>?_)
 refine mbi ?_
 refine cqb h cR fun x6 h=>?_
 refine cqb h eG fun x8 h=>?_
 refine nbi hK ?_
 exact AW.ret (rtv h)
def kZ(aM:ao):Option Int:=bnd (S:=Bool) (bnd (bk aM) fun x1=>cnd (!x1) (some (true)) (bnd (bA aM) fun x4=>some (decide (((x4).length:Int)=(0:Int))))) fun dK=>cnd dK (some (0:Int)) (cnd aM.vNeg (some (-1:Int)) (some (1:Int)))
theorem uD {aM:ao}{r:Int}(h:kZ aM=some r):aq prog 113 [dG ap aM] (dI .i64 r):=by
 refine bh (rs:=[.tmp 2]) (fun cx hx h0=>?_) func113
 unfold kZ at h
 refine ra hx ?_
 iterate 2 refine AW.seq ?_
 obtain⟨dK,hy,h⟩:=ae h
 refine jn ((PE cx .normal (fun dK=>[(1,.pt 0 0),(11,dB dK)]) fun dK=>⟨[(0,dC (ap.f aM))],[],1⟩) dK) ?_ ?_
 replace h:=hy
 refine rq hx fun K hK=>?_
 refine mbi ?_
 refine scb h cu fun x1 h=>?_
 refine mbi ?_
 rcases aE h with⟨fG,h⟩|⟨fG,h⟩
 refine nbi hK ?_
 exact pe1 h h0 [0]
 refine gbi ?_
 refine gcb h cR fun x4 h=>?_
 refine nbi hK ?_
 exact pe1 h h0 [0]
 refine lw0 ?_
 refine cdh h rfl (fun sZ h=>?_) (fun sZ h=>?_)
 refine ra hx ?_
 exact AW.ret (rtv h)
 refine AW.skip (AW.seq (rai hx ?_))
 refine cdh h rfl (fun ua h=>?_) (fun ua h=>?_)
 refine ra hx ?_
 exact AW.ret (rtv h)
 refine AW.skip (ra hx ?_)
 exact AW.ret (rtv h)
def qo(er:List Int)(vz:Int):Option Int:=bnd (dH er (i64.wrap (Int.tdiv vz (16:Int)))) fun x1=>gd (0≤Int.tmod vz (16:Int)) (some (Int.tmod (mh .i64 x1 (Int.tmod vz (16:Int))) (2:Int)))
theorem JW {er:List Int}{vz:Int}{r:Int}(h:qo er vz=some r):aq prog 144 [dL (cI .i64) er,dI .i64 vz] (dI .i64 r):=by
 refine bh (rs:=[.tmp 4]) (fun cx hx h0=>?_) func144
 unfold qo at h
 refine ra hx ?_
 refine rs hx fun K hK=>?_
 refine mbi ?_
 refine scb h f9 fun x1 h=>?_
 iterate 2 refine sa ?_
 obtain⟨hc3,h⟩:=ay h
 refine s1 (U0 hc3) ?_
 refine nbi hK ?_
 exact AW.ret (rtv h)
def mJ(x4:List Int):Int→Option (Int⊕Int):=fun aV=>bnd (S:=Bool) (cnd (decide ((0:Int)<aV)) (bnd (qo x4 (i64.wrap (aV - (1:Int)))) fun x9=>some (decide (x9=(0:Int)))) (some (false))) fun n4=>cnd n4 (some (.inl (i64.wrap (aV - (1:Int))))) (some (.inr aV))
def gf(aM:ao):Option Int:=bnd (bk aM) fun x1=>cnd (!x1) (some (0:Int)) (bnd (bA aM) fun x4=>bnd (some (i64.wrap ((16:Int)*((x4).length:Int)))) fun x6=>bnd (bq (mJ x4) x6) fun jE=>some jE)
theorem zS {aM:ao}{r:Int}(h:gf aM=some r):aq prog 90 [dG ap aM] (dI .i64 r):=by
 refine bh (rs:=[.tmp 2]) (fun cx hx h0=>?_) func90
 unfold gf at h
 refine ra hx ?_
 refine AW.seq (rs hx fun K hK=>?_)
 refine mbi ?_
 refine scb h cu fun x1 h=>?_
 refine nbi hK ?_
 refine cdh h rfl (fun fG h=>?_) (fun fG h=>?_)
 refine ra hx ?_
 exact AW.ret (rtv h)
 refine AW.skip (rs hx fun K hK=>?_)
 refine mbi ?_
 refine scb h cR fun x4 h=>?_
 refine nbi hK ?_
 refine rs hx fun K hK=>?_
 iterate 3 refine sa ?_
 obtain⟨x6,v8,h⟩:=ae h
 replace v8:=bC v8
 refine s2 (d2:=dI .i64 x6) lH (gq (congrArg (dI .i64) v8)) ?_
 refine nl hK ?_
 refine AW.seq (AW.block ?_)
 obtain⟨jE,hy,h⟩:=ae h
 refine lp (S:=Int) (X:=Int) (fun aV=>[(3,dL (cI .i64) x4),(4,dI .i64 aV)]) (fun aV=>⟨[],[],0⟩) (PE cx (.exit 0) (fun jE=>[(4,dI .i64 jE)]) fun jE=>⟨[],[],0⟩) hy ?_ ?_ ?_
 exact wk0 h0 []
 clear hy h
 rintro aV y h
 dsimp only[mJ] at h
 iterate 2 refine AW.seq ?_
 obtain⟨n4,hy,h⟩:=ae h
 refine jn ((PE cx .normal (fun n4=>[(3,dL (cI .i64) x4),(4,dI .i64 aV),(21,dB n4)]) fun n4=>⟨[],[],0⟩) n4) ?_ ?_
 replace h:=hy
 refine rq hx fun K hK=>?_
 refine mbi ?_
 rcases aE h with⟨ua,h⟩|⟨ua,h⟩
 iterate 3 refine ga ua ?_
 refine gcb h JW fun x9 h=>?_
 refine nbi hK ?_
 exact pe1 h h0 []
 refine nbi hK ?_
 exact pe1 h h0 []
 refine lw0 ?_
 refine cdh h rfl (fun BK h=>?_) (fun BK h=>?_)
 refine AW.skip (AW.block (rb hx ?_))
 exact pel h h0 []
 exact AW.exit (per h h0 [])
 refine lw0 ?_
 refine ra hx ?_
 exact AW.ret (rtv h)
structure am where
 vN:ao
 vD:ao
 deriving Inhabited,DecidableEq
abbrev kz:am:=⟨cj,cj⟩
def ak:Cd am:=⟨36,fun x=>ap.f x.vN++ap.f x.vD,fun x=>by simp[ap.h,show ap.sz=18 from rfl]⟩
theorem jY(x:am):bV (ak.f x) ap 0 x.vN (fun y=>ak.f (⟨y,x.vD⟩:am)):=
 bV.of ([]) ((ap).f x.vD) (by first|rfl|(simp[ap.h];first|rfl|done)) (by first|rfl|simp[ak,cI,cB,cS,cL,c5]) (fun y=>by first|rfl|simp[ak,cI,cB,cS,cL,c5])
theorem jZ(x:am):bV (ak.f x) ap 18 x.vD (fun y=>ak.f (⟨x.vN,y⟩:am)):=
 bV.of ((ap).f x.vN) ([]) (by first|rfl|(simp[ap.h];first|rfl|done)) (by first|rfl|simp[ak,cI,cB,cS,cL,c5]) (fun y=>by first|rfl|simp[ak,cI,cB,cS,cL,c5])
section
variable {md:Md} {ops:Array Oper} {K:List (Nat×D)→Hp→Prop} {os:List Oper} {tm:List (Nat×D)} {hp hp':Hp} {t s:Tmp} {op:Op} {ty:TypeId} {pos:String} {af:Array Edge} {d d2:D} {j:Nat} {want c:Bool}
variable {dr:Bool} {ev:Operand→D}
theorem avr(h:AVC prog tbl dr op ty ev hp (Kq d hp'):=by (first|exact av|exact KV_l (bV.id _ _)|exact yD (F:=(cA 16 (cI .u32)).f (ee)) cU|exact xh (nU _) tbI|exact xh (sW _) tbI|exact AQ (nT _) tbI|exact KV_l (nT _)|exact yD (F:=ap.f (⟨false,false,(ee)⟩:ao)) fc|exact AQ (jZ _) tbI|exact AQ (jY _) tbI|exact yD (F:=ak.f (⟨(⟨false,false,(ee)⟩:ao),(⟨false,false,(ee)⟩:ao)⟩:am)) aR|exact T_ldC tbI|exact T_ldA tbI)):AVC prog tbl dr op ty ev hp (Kq d hp'):=h
theorem sbr(h2:aX prog tbl md ops K os ((t,d)::tm) hp')(h:AVC prog tbl md.dr op ty (evD tm) hp (Kq d hp'):=by exact avr)(hn:md.nc tbl op=true:=by exact rfl):aX prog tbl md ops K (⟨some t,op,ty,pos,af,none⟩::os) tm hp:=st tok hn h h2
theorem tzr(h2:aX prog tbl md ops K os tm hp')(h:AVC prog tbl md.dr op ty (evD tm) hp (Kq .top hp'):=by (first|exact KV_s))(hn:md.nc tbl op=true:=by exact rfl):aX prog tbl md ops K (⟨none,op,ty,pos,af,none⟩::os) tm hp:=st_n tok hn h h2
theorem gbr(h2:aX prog tbl md ops K os ((t,d)::tm) hp')(hj:(ops[j]?).bind (·.dst)=some s:=by exact rfl)(hc:tm.lookup s=some (.e (.lit (.bool c))):=by exact rfl)(hw:c=want:=by (with_reducible first|rfl|assumption))(h:AVC prog tbl md.dr op ty (evD tm) hp (Kq d hp'):=by exact avr)(hn:md.nc tbl op=true:=by exact rfl):aX prog tbl md ops K (⟨some t,op,ty,pos,af,some (j,want)⟩::os) tm hp:=QC tok hn hj hc hw h h2
theorem mbr {os':List Oper}{tm':List (Nat×D)}(h2:aX prog tbl md ops K os' tm' hp')(h:aX prog tbl md ops K os' tm' hp'→aX prog tbl md ops K os tm hp:=by (intro h;(repeat (first|refine sbr ?_|refine tzr ?_|refine gbr ?_|refine Kr ?_));exact h)):aX prog tbl md ops K os tm hp:=h h2
theorem nbr {R:List (Nat×D)→Hp→Prop}{tm':List (Nat×D)}(hK:∀tm hp,R tm hp→K tm hp)(h2:R tm' hp')(h:K tm' hp'→aX prog tbl md ops K os tm hp:=by (intro h;(repeat (first|refine sbr ?_|refine tzr ?_|refine gbr ?_|refine Kr ?_));exact .nil h)):aX prog tbl md ops K os tm hp:=h (hK _ _ h2)
end
section
variable {x:Cx} {tm:List (Nat×D)} {hp hp':Hp} {Q:Exit→List (Nat×D)→Hp→Prop}
theorem rar {n id:Nat}{l:List Oper}{b:Code}{tm':List (Nat×D)}(hx:x.N=n)(h2:AW prog x b tm' hp' Q)(h:∀K:List (Nat×D)→Hp→Prop,K tm' hp'→aX prog tbl .seq l.toArray K l tm hp:=by (intro K h;(repeat (first|refine sbr ?_|refine tzr ?_|refine gbr ?_|refine Kr ?_));exact .nil h))(hN:mr n l.toArray=true:=by kernel_rfl):AW prog x (.seq (.region id l.toArray false) b) tm hp Q:=rs hx (fun K hK=>h K (hK _ _ h2)) hN
theorem rbr {n id:Nat}{l:List Oper}{tm':List (Nat×D)}(hx:x.N=n)(h2:Q .normal tm' hp')(h:∀K:List (Nat×D)→Hp→Prop,K tm' hp'→aX prog tbl .seq l.toArray K l tm hp:=by (intro K h;(repeat (first|refine sbr ?_|refine tzr ?_|refine gbr ?_|refine Kr ?_));exact .nil h))(hN:mr n l.toArray=true:=by kernel_rfl):AW prog x (.region id l.toArray false) tm hp Q:=rq hx (fun K hK=>h K (hK _ _ h2)) hN
end
def DD(x:ao):List Value:=[Value.bool x.vBad]++([Value.bool x.vNeg]++((x.vW).toList.flatMap (fun x=>[Value.int .u32 x])++([])))
theorem eV:EqC tbl 3 41 ap DD:=by
 refine EqC.struct (fs:=[(0,4),(1,4),(2,39)]) fc (fun x=>?_) (fun x=>by
  have q3:uc tbl (nL tbl 2) [] 18 []:=by unfold uc;rfl
  have q2:=rY (off:=2) (x:=x.vW) (EqC.arr (EqC.int (d:=0) bQ) cU bQ) cU rfl q3
  have q1:=rY (off:=1) (x:=x.vNeg) (EqC.bool (d:=1) uF) uF rfl q2
  have q0:=rY (off:=0) (x:=x.vBad) (EqC.bool (d:=1) uF) uF rfl q1
  exact q0) ?_
 ·have:=And.intro (And.intro ((EqC.bool (d:=1) uF).hf x.vBad) (And.intro ((EqC.bool (d:=1) uF).hf x.vNeg) (And.intro ((EqC.arr (EqC.int (d:=0) bQ) cU bQ).hf x.vW) (True.intro)))) True.intro
  simp only[DD,ap,iP,l8,th,c5]
  all_goals (first|rfl|(simp only[←(EqC.bool (d:=1) uF).hf,←(EqC.bool (d:=1) uF).hf,←(EqC.arr (EqC.int (d:=0) bQ) cU bQ).hf];try (first|rfl|simp[cI,cB])))
 ·skip
  intro x y h
  unfold DD at h
  obtain⟨e0,h⟩:=Ce h (by rw[(EqC.bool (d:=1) uF).len,(EqC.bool (d:=1) uF).len])
  obtain⟨e1,h⟩:=Ce h (by rw[(EqC.bool (d:=1) uF).len,(EqC.bool (d:=1) uF).len])
  obtain⟨e2,h⟩:=Ce h (by rw[(EqC.arr (EqC.int (d:=0) bQ) cU bQ).len,(EqC.arr (EqC.int (d:=0) bQ) cU bQ).len])
  cases x;cases y
  simp only[ao.mk.injEq]
  exact⟨((EqC.bool (d:=1) uF).inj _ _).1 e0,((EqC.bool (d:=1) uF).inj _ _).1 e1,((EqC.arr (EqC.int (d:=0) bQ) cU bQ).inj _ _).1 e2⟩
def L8(x:am):List Value:=DD x.vN++(DD x.vD++([]))
theorem Hm:EqC tbl 4 43 ak L8:=by
 refine EqC.struct (fs:=[(0,41),(18,41)]) aR (fun x=>?_) (fun x=>by
  have q2:uc tbl (nL tbl 3) [] 36 []:=by unfold uc;rfl
  have q1:=rY (off:=18) (x:=x.vD) eV fc rfl q2
  have q0:=rY (off:=0) (x:=x.vN) eV fc rfl q1
  exact q0) ?_
 ·have:=And.intro (And.intro (eV.hf x.vN) (And.intro (eV.hf x.vD) (True.intro))) True.intro
  simp only[L8,ak,iP,l8,th,c5]
  all_goals (first|rfl|(simp only[←eV.hf,←eV.hf];try (first|rfl|simp[cI,cB])))
 ·skip
  intro x y h
  unfold L8 at h
  obtain⟨e0,h⟩:=Ce h (by rw[eV.len,eV.len])
  obtain⟨e1,h⟩:=Ce h (by rw[eV.len,eV.len])
  cases x;cases y
  simp only[am.mk.injEq]
  exact⟨(eV.inj _ _).1 e0,(eV.inj _ _).1 e1⟩
def jx(aM:ao):Option Bool:=bnd (S:=Bool) (cnd (!aM.vBad) (bnd (lI aM) fun x2=>some (x2)) (some (false))) fun bi=>some bi
theorem qV {aM:ao}{r:Bool}(h:jx aM=some r):aq prog 146 [dG ap aM] (dB r):=by
 refine bh (rs:=[.tmp 2]) (fun cx hx h0=>?_) func146
 unfold jx at h
 refine ra hx ?_
 refine AW.seq ?_
 obtain⟨bi,hy,h⟩:=ae h
 refine jn ((PE cx .normal (fun bi=>[(2,dB bi)]) fun bi=>⟨[],[],0⟩) bi) ?_ ?_
 replace h:=hy
 refine rq hx fun K hK=>?_
 refine mbr ?_
 rcases aE h with⟨fJ,h⟩|⟨fJ,h⟩
 refine gbr ?_
 refine gcb h xZ fun x2 h=>?_
 refine nbr hK ?_
 exact pe1 h h0 []
 refine nbr hK ?_
 exact pe1 h h0 []
 refine lw0 ?_
 exact AW.ret (rtv h)
def mq :Option ao:=bnd (gU (1:Int)) fun x1=>some x1
theorem ww  {r:ao}(h:mq=some r):aq prog 99 [] (dG ap r):=by
 refine bh (rs:=[.cell 0 41]) (fun cx hx h0=>?_) func99
 unfold mq at h
 refine rar hx ?_
 refine rs hx fun K hK=>?_
 refine scb h rC fun x1 h=>?_
 refine nbr hK ?_
 exact AW.ret (rtv h)
def aO(aM:am):Option Bool:=bnd (S:=Bool) (bnd (jx aM.vN) fun x1=>cnd x1 (bnd (jx aM.vD) fun x4=>cnd x4 (bnd (fe aM.vD) fun x7=>cnd (decide ((0:Int)<x7)) (bnd (nX aM.vN aM.vD) fun n7=>bnd (mq) fun nC=>some (decide (n7=nC))) (some (false))) (some (false))) (some (false))) fun bi=>some bi
theorem bJ {aM:am}{r:Bool}(h:aO aM=some r):aq prog 92 [dG ak aM] (dB r):=by
 refine bh (rs:=[.tmp 2]) (fun cx hx h0=>?_) func92
 unfold aO at h
 refine ra hx ?_
 refine AW.seq ?_
 obtain⟨bi,hy,h⟩:=ae h
 refine jn ((PE cx .normal (fun bi=>[(2,dB bi)]) fun bi=>⟨[],[],0⟩) bi) ?_ ?_
 replace h:=hy
 refine rq hx fun K hK=>?_
 refine mbr ?_
 refine scb h qV fun x1 h=>?_
 refine sa ?_
 rcases aE h with⟨fG,h⟩|⟨fG,h⟩
 refine ga fG ?_
 refine gbr ?_
 refine gcb h qV fun x4 h=>?_
 refine mbr ?_
 rcases aE h with⟨qP,h⟩|⟨qP,h⟩
 refine ga qP ?_
 refine gbr ?_
 refine gcb h kR fun x7 h=>?_
 refine mbr ?_
 rcases aE h with⟨KN,h⟩|⟨KN,h⟩
 refine ga KN ?_
 refine gbr ?_
 refine ga KN ?_
 refine gbr ?_
 refine gcb h wq fun n7 h=>?_
 refine gcb h ww fun nC h=>?_
 refine g1 KN (Fo tok 3 (by decide) eV fc) ?_
 refine nbr hK ?_
 exact pe1 h h0 []
 refine nbr hK ?_
 exact pe1 h h0 []
 refine nbr hK ?_
 exact pe1 h h0 []
 refine nbr hK ?_
 exact pe1 h h0 []
 refine lw0 ?_
 exact AW.ret (rtv h)
def eU :Option am:=bnd (d9) fun x1=>bnd (mq) fun x3=>some (⟨x1,x3⟩:am)
theorem kK  {r:am}(h:eU=some r):aq prog 65 [] (dG ak r):=by
 refine bh (rs:=[.cell 0 43]) (fun cx hx h0=>?_) func65
 unfold eU at h
 refine rar hx ?_
 refine rs hx fun K hK=>?_
 refine scb h gl fun x1 h=>?_
 refine scb h ww fun x3 h=>?_
 refine s1 (d:=dG ak (⟨x1,x3⟩:am)) (hJ (FL.cons (y:=x1) (jY kz) rfl rfl (FL.cons (y:=x3) (jZ (⟨x1,cj⟩:am)) rfl rfl (FL.nil _))) aR) ?_
 refine nbr hK ?_
 exact AW.ret (rtv h)
def c9(c0:ao)(Aa:ao):Option am:=bnd (S:=Bool) (bnd (jx c0) fun x1=>cnd (!x1) (some (true)) (bnd (jx Aa) fun x4=>cnd (!x4) (some (true)) (bnd (fe Aa) fun x7=>some (decide (x7=(0:Int)))))) fun dK=>cnd dK (bnd (eU) fun sJ=>some sJ) (bnd (nX c0 Aa) fun qA=>bnd (S:=ao) (bnd (fe Aa) fun JM=>cnd (decide (JM<(0:Int))) (bnd (fk qA) fun sE=>some (sE)) (some (qA))) fun ey=>bnd (gt c0 ey) fun wm=>bnd (gt Aa ey) fun xY=>some (⟨wm,xY⟩:am))
theorem kT {c0:ao}{Aa:ao}{r:am}(h:c9 c0 Aa=some r):aq prog 93 [dG ap c0,dG ap Aa] (dG ak r):=by
 refine bh (rs:=[.cell 4 43]) (fun cx hx h0=>?_) func93
 unfold c9 at h
 refine rar hx ?_
 iterate 2 refine AW.seq ?_
 obtain⟨dK,hy,h⟩:=ae h
 refine jn ((PE cx .normal (fun dK=>[(2,.pt 0 0),(3,.pt 1 0),(4,.pt 2 0),(18,dB dK)]) fun dK=>⟨[(0,dC (ap.f c0)),(1,dC (ap.f Aa)),(2,dC (ak.f kz))],[],3⟩) dK) ?_ ?_
 replace h:=hy
 refine rq hx fun K hK=>?_
 refine mbr ?_
 refine scb h qV fun x1 h=>?_
 refine mbr ?_
 rcases aE h with⟨fG,h⟩|⟨fG,h⟩
 refine nbr hK ?_
 exact pe1 h h0 [0,1,2]
 refine gbr ?_
 refine gcb h qV fun x4 h=>?_
 refine mbr ?_
 rcases aE h with⟨qP,h⟩|⟨qP,h⟩
 refine nbr hK ?_
 exact pe1 h h0 [0,1,2]
 refine gbr ?_
 refine gcb h kR fun x7 h=>?_
 refine nbr hK ?_
 exact pe1 h h0 [0,1,2]
 refine lw0 ?_
 refine cdh h rfl (fun nK h=>?_) (fun nK h=>?_)
 refine rs hx fun K hK=>?_
 refine scb h kK fun sJ h=>?_
 refine nbr hK ?_
 exact AW.ret (rtv h)
 refine AW.skip (rs hx fun K hK=>?_)
 refine mbr ?_
 refine scb h wq fun qA h=>?_
 refine nbr hK ?_
 refine AW.seq ?_
 obtain⟨ey,hy,h⟩:=ae h
 refine jn ((PE cx .normal (fun ey=>[(2,.pt 0 0),(3,.pt 1 0),(4,.pt 2 0),(5,.pt 3 0)]) fun ey=>⟨[(0,dC (ap.f c0)),(1,dC (ap.f Aa)),(2,dC (ak.f kz)),(3,dC (ap.f ey))],[],4⟩) ey) ?_ ?_
 replace h:=hy
 refine rs hx fun K hK=>?_
 refine mbr ?_
 refine scb h kR fun JM h=>?_
 refine nbr hK ?_
 refine cdh h rfl (fun IF h=>?_) (fun IF h=>?_)
 refine rq hx fun K hK=>?_
 refine mbr ?_
 refine scb h sL fun sE h=>?_
 refine nbr hK ?_
 exact pe1 h h0 [0,1,2,3]
 exact AW.skip (pe1 h h0 [0,1,2,3])
 refine lw0 ?_
 refine rsd [97] hx fun K hK=>?_
 refine mbr ?_
 refine cqb h jf fun wm h=>?_
 refine mbr ?_
 refine cqb h jf fun xY h=>?_
 refine s1 (d:=dG ak (⟨wm,xY⟩:am)) (hJ (FL.cons (y:=wm) (jY kz) rfl rfl (FL.cons (y:=xY) (jZ (⟨wm,cj⟩:am)) rfl rfl (FL.nil _))) aR) ?_
 refine nbr hK ?_
 exact AW.ret (rtv h)
def io(aM:am)(mA:am):Option am:=bnd (S:=Bool) (bnd (aO aM) fun x1=>cnd (!x1) (some (true)) (bnd (aO mA) fun x4=>some (!x4))) fun dK=>cnd dK (bnd (eU) fun x8=>some x8) (bnd (nX aM.vD mA.vD) fun n7=>bnd (gt aM.vD n7) fun nC=>bnd (gt mA.vD n7) fun qc=>bnd (jr aM.vN qc) fun AY=>bnd (jr mA.vN nC) fun sE=>bnd (js AY sE) fun C7=>bnd (jr nC mA.vD) fun CR=>bnd (c9 C7 CR) fun AX=>some AX)
theorem wy {aM:am}{mA:am}{r:am}(h:io aM mA=some r):aq prog 66 [dG ak aM,dG ak mA] (dG ak r):=by
 refine bh (rs:=[.cell 4 43]) (fun cx hx h0=>?_) func66
 unfold io at h
 refine rar hx ?_
 iterate 2 refine AW.seq ?_
 obtain⟨dK,hy,h⟩:=ae h
 refine jn ((PE cx .normal (fun dK=>[(2,.pt 0 0),(3,.pt 1 0),(4,.pt 2 0),(15,dB dK)]) fun dK=>⟨[(0,dC (ak.f aM)),(1,dC (ak.f mA)),(2,dC (ak.f kz))],[],3⟩) dK) ?_ ?_
 replace h:=hy
 refine rq hx fun K hK=>?_
 refine mbr ?_
 refine scb h bJ fun x1 h=>?_
 refine mbr ?_
 rcases aE h with⟨fG,h⟩|⟨fG,h⟩
 refine nbr hK ?_
 exact pe1 h h0 [0,1,2]
 refine gbr ?_
 refine gcb h bJ fun x4 h=>?_
 refine nbr hK ?_
 exact pe1 h h0 [0,1,2]
 refine lw0 ?_
 refine cdh h rfl (fun sZ h=>?_) (fun sZ h=>?_)
 refine rs hx fun K hK=>?_
 refine scb h kK fun x8 h=>?_
 refine nbr hK ?_
 exact AW.ret (rtv h)
 refine AW.skip (rs hx fun K hK=>?_)
 refine mbr ?_
 refine scb h wq fun n7 h=>?_
 refine nbr hK ?_
 refine AW.seq ?_
 obtain⟨nC,BJ,h⟩:=ae h
 obtain⟨qc,zb,h⟩:=ae h
 refine jn (PE cx .normal (fun (_:Unit)=>[(2,.pt 0 0),(3,.pt 1 0),(4,.pt 2 0),(6,.pt 3 0),(7,.pt 4 0)]) (fun (_:Unit)=>⟨[(0,dC (ak.f aM)),(1,dC (ak.f mA)),(2,dC (ak.f kz)),(3,dC (ap.f nC)),(4,dC (ap.f qc))],[],5⟩) ()) ?_ ?_
 refine dw (DW.split 8 9 (by decide) ?_ ?_)
 refine dwg [97] [0,1,2,3,4,5,6,7,8,9,10,11] hx (by kernel_rfl) (by kernel_rfl) (by kernel_rfl) fun K hK=>?_
 dsimp only[d8,mP,mZ,List.map]
 refine mbr ?_
 refine cq (jf BJ) ?_
 refine mbr ?_
 refine cq (jf zb) ?_
 iterate 2 refine sbr ?_
 iterate 2 refine tzr ?_
 exact .nil (hK _ _ (pe0 h0 [0,1,2,4,5]))
 refine dwg [97] [0,1,2,3,4,5,6,7,9,8,10,11] hx (by kernel_rfl) (by kernel_rfl) (by kernel_rfl) fun K hK=>?_
 dsimp only[d8,mP,mZ,List.map]
 refine mbr ?_
 refine cq (jf BJ) ?_
 refine mbr ?_
 refine cq (jf zb) ?_
 iterate 2 refine sbr ?_
 iterate 2 refine tzr ?_
 exact .nil (hK _ _ (pe0 h0 [0,1,2,5,4]))
 refine lw0 ?_
 refine rsd [94,123,93] hx fun K hK=>?_
 refine mbr ?_
 refine cqb h l9 fun AY h=>?_
 refine mbr ?_
 refine cqb h l9 fun sE h=>?_
 refine cqb h Ci fun C7 h=>?_
 refine mbr ?_
 refine cqb h l9 fun CR h=>?_
 refine cqb h kT fun AX h=>?_
 refine nbr hK ?_
 exact AW.ret (rtv h)
def im(aM:am)(mA:am):Option am:=bnd (S:=Bool) (bnd (aO aM) fun x1=>cnd (!x1) (some (true)) (bnd (aO mA) fun x4=>some (!x4))) fun dK=>cnd dK (bnd (eU) fun x8=>some x8) (bnd (c9 aM.vN mA.vD) fun n7=>bnd (c9 mA.vN aM.vD) fun nC=>bnd (jr n7.vN nC.vN) fun qc=>bnd (jr n7.vD nC.vD) fun AY=>bnd (S:=Bool) (cnd qc.vBad (some (true)) (some (AY.vBad))) fun aV=>cnd aV (bnd (eU) fun wm=>some wm) (some (⟨qc,AY⟩:am)))
theorem wx {aM:am}{mA:am}{r:am}(h:im aM mA=some r):aq prog 29 [dG ak aM,dG ak mA] (dG ak r):=by
 refine bh (rs:=[.cell 4 43]) (fun cx hx h0=>?_) func29
 unfold im at h
 refine rar hx ?_
 iterate 2 refine AW.seq ?_
 obtain⟨dK,hy,h⟩:=ae h
 refine jn ((PE cx .normal (fun dK=>[(2,.pt 0 0),(3,.pt 1 0),(4,.pt 2 0),(16,dB dK)]) fun dK=>⟨[(0,dC (ak.f aM)),(1,dC (ak.f mA)),(2,dC (ak.f kz))],[],3⟩) dK) ?_ ?_
 replace h:=hy
 refine rq hx fun K hK=>?_
 refine mbr ?_
 refine scb h bJ fun x1 h=>?_
 refine mbr ?_
 rcases aE h with⟨fG,h⟩|⟨fG,h⟩
 refine nbr hK ?_
 exact pe1 h h0 [0,1,2]
 refine gbr ?_
 refine gcb h bJ fun x4 h=>?_
 refine nbr hK ?_
 exact pe1 h h0 [0,1,2]
 refine lw0 ?_
 refine cdh h rfl (fun sZ h=>?_) (fun sZ h=>?_)
 refine rs hx fun K hK=>?_
 refine scb h kK fun x8 h=>?_
 refine nbr hK ?_
 exact AW.ret (rtv h)
 refine AW.skip (AW.seq ?_)
 obtain⟨n7,Gw,h⟩:=ae h
 obtain⟨nC,BJ,h⟩:=ae h
 refine jn (PE cx .normal (fun (_:Unit)=>[(4,.pt 0 0),(5,.pt 1 0),(6,.pt 2 0)]) (fun (_:Unit)=>⟨[(0,dC (ak.f kz)),(1,dC (ak.f n7)),(2,dC (ak.f nC))],[],3⟩) ()) ?_ ?_
 refine dw (DW.split 10 11 (by decide) ?_ ?_)
 refine dwg [93] [0,1,2,3,4,5,6,7,8,9,10,11,12,13] hx (by kernel_rfl) (by kernel_rfl) (by kernel_rfl) fun K hK=>?_
 dsimp only[d8,mP,mZ,List.map]
 refine mbr ?_
 refine cq (kT Gw) ?_
 refine mbr ?_
 refine cq (kT BJ) ?_
 iterate 2 refine sbr ?_
 iterate 2 refine tzr ?_
 exact .nil (hK _ _ (pe0 h0 [2,3,4]))
 refine dwg [93] [0,1,2,3,4,5,6,7,8,9,11,10,12,13] hx (by kernel_rfl) (by kernel_rfl) (by kernel_rfl) fun K hK=>?_
 dsimp only[d8,mP,mZ,List.map]
 refine mbr ?_
 refine cq (kT Gw) ?_
 refine mbr ?_
 refine cq (kT BJ) ?_
 iterate 2 refine sbr ?_
 iterate 2 refine tzr ?_
 exact .nil (hK _ _ (pe0 h0 [2,4,3]))
 refine lw0 ?_
 refine AW.seq ?_
 obtain⟨qc,zb,h⟩:=ae h
 obtain⟨AY,hx17,h⟩:=ae h
 refine jn (PE cx .normal (fun (_:Unit)=>[(4,.pt 0 0),(7,.pt 1 0),(8,.pt 2 0)]) (fun (_:Unit)=>⟨[(0,dC (ak.f kz)),(1,dC (ap.f qc)),(2,dC (ap.f AY))],[],3⟩) ()) ?_ ?_
 refine dw (DW.split 10 11 (by decide) ?_ ?_)
 refine dwg [94] [0,1,2,3,4,5,6,7,8,9,10,11,12,13] hx (by kernel_rfl) (by kernel_rfl) (by kernel_rfl) fun K hK=>?_
 dsimp only[d8,mP,mZ,List.map]
 refine mbr ?_
 refine cq (l9 zb) ?_
 refine mbr ?_
 refine cq (l9 hx17) ?_
 iterate 2 refine sbr ?_
 iterate 2 refine tzr ?_
 exact .nil (hK _ _ (pe0 h0 [0,3,4]))
 refine dwg [94] [0,1,2,3,4,5,6,7,8,9,11,10,12,13] hx (by kernel_rfl) (by kernel_rfl) (by kernel_rfl) fun K hK=>?_
 dsimp only[d8,mP,mZ,List.map]
 refine mbr ?_
 refine cq (l9 zb) ?_
 refine mbr ?_
 refine cq (l9 hx17) ?_
 iterate 2 refine sbr ?_
 iterate 2 refine tzr ?_
 exact .nil (hK _ _ (pe0 h0 [0,4,3]))
 refine lw0 ?_
 iterate 2 refine AW.seq ?_
 obtain⟨aV,hy,h⟩:=ae h
 refine jn ((PE cx .normal (fun aV=>[(4,.pt 0 0),(7,.pt 1 0),(8,.pt 2 0),(43,dB aV)]) fun aV=>⟨[(0,dC (ak.f kz)),(1,dC (ap.f qc)),(2,dC (ap.f AY))],[],3⟩) aV) ?_ ?_
 replace h:=hy
 refine rq hx fun K hK=>?_
 refine mbr ?_
 rcases aE h with⟨MW,h⟩|⟨MW,h⟩
 refine nbr hK ?_
 exact pe1 h h0 [0,1,2]
 refine nbr hK ?_
 exact pe1 h h0 [0,1,2]
 refine lw0 ?_
 refine cdh h rfl (fun TA h=>?_) (fun TA h=>?_)
 refine rs hx fun K hK=>?_
 refine scb h kK fun wm h=>?_
 refine nbr hK ?_
 exact AW.ret (rtv h)
 refine AW.skip (rs hx fun K hK=>?_)
 iterate 2 refine sbr ?_
 refine s1 (d:=dG ak (⟨qc,AY⟩:am)) (hJ (FL.cons (y:=qc) (jY kz) rfl rfl (FL.cons (y:=AY) (jZ (⟨qc,cj⟩:am)) rfl rfl (FL.nil _))) aR) ?_
 refine nbr hK ?_
 exact AW.ret (rtv h)
def s8(aM:am)(mA:am):Option am:=bnd (aO mA) fun x1=>cnd (!x1) (bnd (eU) fun x4=>some x4) (bnd (c9 mA.vD mA.vN) fun x6=>bnd (im aM x6) fun x8=>some x8)
theorem J2 {aM:am}{mA:am}{r:am}(h:s8 aM mA=some r):aq prog 153 [dG ak aM,dG ak mA] (dG ak r):=by
 refine bh (rs:=[.cell 4 43]) (fun cx hx h0=>?_) func153
 unfold s8 at h
 refine rar hx ?_
 refine AW.seq (rs hx fun K hK=>?_)
 refine mbr ?_
 refine scb h bJ fun x1 h=>?_
 refine nbr hK ?_
 refine cdh h rfl (fun fG h=>?_) (fun fG h=>?_)
 refine rs hx fun K hK=>?_
 refine scb h kK fun x4 h=>?_
 refine nbr hK ?_
 exact AW.ret (rtv h)
 refine AW.skip (rsd [93,29] hx fun K hK=>?_)
 refine mbr ?_
 refine cqb h kT fun x6 h=>?_
 refine cqb h wx fun x8 h=>?_
 refine nbr hK ?_
 exact AW.ret (rtv h)
def kN(aM:am):Option am:=bnd (aO aM) fun x1=>cnd (!x1) (bnd (eU) fun x4=>some x4) (bnd (fk aM.vN) fun x6=>some (⟨x6,aM.vD⟩:am))
theorem sP {aM:am}{r:am}(h:kN aM=some r):aq prog 42 [dG ak aM] (dG ak r):=by
 refine bh (rs:=[.cell 2 43]) (fun cx hx h0=>?_) func42
 unfold kN at h
 refine rar hx ?_
 refine AW.seq (rs hx fun K hK=>?_)
 refine mbr ?_
 refine scb h bJ fun x1 h=>?_
 refine nbr hK ?_
 refine cdh h rfl (fun fG h=>?_) (fun fG h=>?_)
 refine rs hx fun K hK=>?_
 refine scb h kK fun x4 h=>?_
 refine nbr hK ?_
 exact AW.ret (rtv h)
 refine AW.skip (rsd [100] hx fun K hK=>?_)
 refine mbr ?_
 refine cqb h sL fun x6 h=>?_
 iterate 2 refine sbr ?_
 refine s1 (d:=dG ak (⟨x6,aM.vD⟩:am)) (hJ (FL.cons (y:=x6) (jY kz) rfl rfl (FL.cons (y:=aM.vD) (jZ (⟨x6,cj⟩:am)) rfl rfl (FL.nil _))) aR) ?_
 refine nbr hK ?_
 exact AW.ret (rtv h)
def gh(c0:ao):Option am:=bnd (mq) fun x1=>bnd (c9 c0 x1) fun x3=>some x3
theorem yd {c0:ao}{r:am}(h:gh c0=some r):aq prog 34 [dG ap c0] (dG ak r):=by
 refine bh (rs:=[.cell 2 43]) (fun cx hx h0=>?_) func34
 unfold gh at h
 refine rar hx ?_
 refine rsd [99,93] hx fun K hK=>?_
 refine mbr ?_
 refine cqb h ww fun x1 h=>?_
 refine cqb h kT fun x3 h=>?_
 refine nbr hK ?_
 exact AW.ret (rtv h)
def pG(c0:Int):Option am:=bnd (gU c0) fun x1=>bnd (gh x1) fun x3=>some x3
theorem DC {c0:Int}{r:am}(h:pG c0=some r):aq prog 28 [dI .i64 c0] (dG ak r):=by
 refine bh (rs:=[.cell 2 43]) (fun cx hx h0=>?_) func28
 unfold pG at h
 refine rar hx ?_
 refine rs hx fun K hK=>?_
 refine sa ?_
 refine scb h rC fun x1 h=>?_
 refine scb h yd fun x3 h=>?_
 refine nbr hK ?_
 exact AW.ret (rtv h)
def jy(aM:am):Option Int:=bnd (aO aM) fun x1=>cnd (!x1) (some (0:Int)) (bnd (fe aM.vN) fun x4=>some x4)
theorem qW {aM:am}{r:Int}(h:jy aM=some r):aq prog 30 [dG ak aM] (dI .i64 r):=by
 refine bh (rs:=[.tmp 2]) (fun cx hx h0=>?_) func30
 unfold jy at h
 refine ra hx ?_
 refine AW.seq (rs hx fun K hK=>?_)
 refine mbr ?_
 refine scb h bJ fun x1 h=>?_
 refine nbr hK ?_
 refine cdh h rfl (fun fG h=>?_) (fun fG h=>?_)
 refine ra hx ?_
 exact AW.ret (rtv h)
 refine AW.skip (rs hx fun K hK=>?_)
 refine mbr ?_
 refine scb h kR fun x4 h=>?_
 refine nbr hK ?_
 exact AW.ret (rtv h)
def s7(aM:am)(mA:am):Option am:=bnd (kN mA) fun x1=>bnd (io aM x1) fun x3=>some x3
theorem J0 {aM:am}{mA:am}{r:am}(h:s7 aM mA=some r):aq prog 76 [dG ak aM,dG ak mA] (dG ak r):=by
 refine bh (rs:=[.cell 4 43]) (fun cx hx h0=>?_) func76
 unfold s7 at h
 refine rar hx ?_
 refine rsd [42,66] hx fun K hK=>?_
 refine mbr ?_
 refine cqb h sP fun x1 h=>?_
 refine cqb h wy fun x3 h=>?_
 refine nbr hK ?_
 exact AW.ret (rtv h)
def je :Int×am×am→Option ((Int×am×am)⊕Int):=fun (AL,Pn,Pm)=>bnd (gt Pn.vN Pn.vD) fun n7=>bnd (gt Pm.vN Pm.vD) fun nC=>bnd (qm n7 nC) fun qc=>cnd (decide (qc≠(0:Int))) (some (.inr (i64.wrap (AL*qc)))) (bnd (nW Pn.vN Pn.vD) fun o3=>bnd (nW Pm.vN Pm.vD) fun vU=>bnd (fe o3) fun wm=>bnd (fe vU) fun xY=>bnd (S:=Bool) (cnd (decide (wm=(0:Int))) (some (true)) (some (decide (xY=(0:Int))))) fun ul=>cnd ul (bnd (some (i64.wrap (AL*(i64.wrap (wm - xY))))) fun LZ=>some (.inr LZ)) (some (.inl (i64.wrap (0 - AL),(⟨Pn.vD,o3⟩:am),(⟨Pm.vD,vU⟩:am)))))
def fx(aM:am)(mA:am):Option Int:=bnd (aO aM) fun x1=>bnd (aO mA) fun x3=>bnd (S:=Bool) (cnd (!x1) (some (!x3)) (some (false))) fun aP=>cnd aP (some (0:Int)) (cnd (!x1) (some (-1:Int)) (cnd (!x3) (some (1:Int)) (bnd (bq (je) ((1:Int),aM,mA)) fun vj=>some vj)))
theorem mb {aM:am}{mA:am}{r:Int}(h:fx aM mA=some r):aq prog 32 [dG ak aM,dG ak mA] (dI .i64 r):=by
 refine bh (rs:=[.tmp 4]) (fun cx hx h0=>?_) func32
 unfold fx at h
 refine ra hx ?_
 refine AW.scope (rsd [92] hx fun K hK=>?_)
 refine mbr ?_
 refine cqb h bJ fun x1 h=>?_
 refine mbr ?_
 refine cqb h bJ fun x3 h=>?_
 refine nbr hK ?_
 refine AW.seq (AW.block (AW.seq ?_))
 obtain⟨aP,hy,h⟩:=ae h
 refine jn ((PE cx .normal (fun aP=>[(2,.pt 0 0),(3,.pt 1 0),(5,dB x1),(6,dB x3),(15,dB aP)]) fun aP=>⟨[(0,dC (ak.f aM)),(1,dC (ak.f mA))],[],2⟩) aP) ?_ ?_
 replace h:=hy
 refine rq hx fun K hK=>?_
 refine mbr ?_
 rcases aE h with⟨rX,h⟩|⟨rX,h⟩
 refine nbr hK ?_
 exact pe1 h h0 [0,1]
 refine nbr hK ?_
 exact pe1 h h0 [0,1]
 refine lw0 ?_
 refine cdh h rfl (fun sZ h=>?_) (fun sZ h=>?_)
 refine ra hx ?_
 exact AW.ret (rtv h)
 refine ra hx ?_
 refine cdh h rfl (fun ua h=>?_) (fun ua h=>?_)
 refine ra hx ?_
 exact AW.ret (rtv h)
 refine ra hx ?_
 refine cdh h rfl (fun KN h=>?_) (fun KN h=>?_)
 refine ra hx ?_
 exact AW.ret (rtv h)
 refine AW.skip (ra hx ?_)
 refine AW.seq (AW.label (AW.seq (AW.block ?_)))
 obtain⟨vj,hy,h⟩:=ae h
 refine lp (S:=Int×am×am) (X:=Int) (fun (AL,Pn,Pm)=>[(2,.pt 0 0),(3,.pt 1 0),(7,dI .i64 AL)]) (fun (AL,Pn,Pm)=>⟨[(0,dC (ak.f Pn)),(1,dC (ak.f Pm))],[],2⟩) (PE cx (.exit 1) (fun vj=>[(7,dI .i64 vj)]) fun vj=>⟨[],[],0⟩) hy ?_ ?_ ?_
 exact wk0 h0 [0,1]
 clear hy h
 rintro⟨AL,Pn,Pm⟩ y h
 dsimp only[je] at h
 refine AW.block (AW.seq (rsd [97,96] hx fun K hK=>?_))
 refine mbr ?_
 refine cqb h jf fun n7 h=>?_
 refine mbr ?_
 refine cqb h jf fun nC h=>?_
 refine cqb h JS fun qc h=>?_
 refine nbr hK ?_
 refine ra hx ?_
 refine cdh h rfl (fun tD h=>?_) (fun tD h=>?_)
 refine ra hx ?_
 exact AW.exit (per h h0 [])
 refine AW.skip (AW.seq ?_)
 obtain⟨o3,v9,h⟩:=ae h
 obtain⟨vU,Gv,h⟩:=ae h
 refine jn (PE cx .normal (fun (_:Unit)=>[(2,.pt 0 0),(3,.pt 1 0),(7,dI .i64 AL)]) (fun (_:Unit)=>⟨[(0,dC (ak.f (⟨Pn.vD,o3⟩:am))),(1,dC (ak.f (⟨Pm.vD,vU⟩:am)))],[],2⟩) ()) ?_ ?_
 refine dw (DW.split 9 16 (by decide) ?_ ?_)
 refine dwg [98] [0,1,2,3,4,5,6,7,8,9,10,11,12,13,14,15,16,17] hx (by kernel_rfl) (by kernel_rfl) (by kernel_rfl) fun K hK=>?_
 dsimp only[d8,mP,mZ,List.map]
 refine mbr ?_
 refine cq (sK v9) ?_
 refine s1 (d:=dG ak (⟨Pn.vD,o3⟩:am)) (hJ (FL.cons (y:=Pn.vD) (jY kz) rfl rfl (FL.cons (y:=o3) (jZ (⟨Pn.vD,cj⟩:am)) rfl rfl (FL.nil _))) aR) ?_
 refine mbr ?_
 refine cq (sK Gv) ?_
 refine s1 (d:=dG ak (⟨Pm.vD,vU⟩:am)) (hJ (FL.cons (y:=Pm.vD) (jY kz) rfl rfl (FL.cons (y:=vU) (jZ (⟨Pm.vD,cj⟩:am)) rfl rfl (FL.nil _))) aR) ?_
 iterate 2 refine tzr ?_
 exact .nil (hK _ _ (pe0 h0 [0,1]))
 refine dwg [98] [0,1,2,3,4,5,6,7,8,10,11,12,13,14,16,9,15,17] hx (by kernel_rfl) (by kernel_rfl) (by kernel_rfl) fun K hK=>?_
 dsimp only[d8,mP,mZ,List.map]
 refine mbr ?_
 refine cq (sK v9) ?_
 refine s1 (d:=dG ak (⟨Pn.vD,o3⟩:am)) (hJ (FL.cons (y:=Pn.vD) (jY kz) rfl rfl (FL.cons (y:=o3) (jZ (⟨Pn.vD,cj⟩:am)) rfl rfl (FL.nil _))) aR) ?_
 refine mbr ?_
 refine cq (sK Gv) ?_
 refine tzr ?_
 refine sbr ?_
 refine s1 (d:=dG ak (⟨Pm.vD,vU⟩:am)) (hJ (FL.cons (y:=Pm.vD) (jY kz) rfl rfl (FL.cons (y:=vU) (jZ (⟨Pm.vD,cj⟩:am)) rfl rfl (FL.nil _))) aR) ?_
 refine tzr ?_
 exact .nil (hK _ _ (pe0 h0 [0,1]))
 refine lw0 ?_
 refine rsd [95] hx fun K hK=>?_
 refine mbr ?_
 refine cqb h kR fun wm h=>?_
 refine mbr ?_
 refine cqb h kR fun xY h=>?_
 refine nbr hK ?_
 iterate 2 refine AW.seq ?_
 obtain⟨ul,hy,h⟩:=ae h
 refine jn ((PE cx .normal (fun ul=>[(2,.pt 0 0),(3,.pt 1 0),(7,dI .i64 AL),(9,dI .i64 wm),(10,dI .i64 xY),(71,dB ul)]) fun ul=>⟨[(0,dC (ak.f (⟨Pn.vD,o3⟩:am))),(1,dC (ak.f (⟨Pm.vD,vU⟩:am)))],[],2⟩) ul) ?_ ?_
 replace h:=hy
 refine rq hx fun K hK=>?_
 refine mbr ?_
 rcases aE h with⟨hb25,h⟩|⟨hb25,h⟩
 refine nbr hK ?_
 exact pe1 h h0 [0,1]
 refine nbr hK ?_
 exact pe1 h h0 [0,1]
 refine lw0 ?_
 refine cdh h rfl (fun Tx h=>?_) (fun Tx h=>?_)
 refine rs hx fun K hK=>?_
 iterate 5 refine sa ?_
 obtain⟨LZ,SL,h⟩:=ae h
 replace SL:=bC SL
 refine s2 (d2:=dI .i64 LZ) lH (gq (congrArg (dI .i64) SL)) ?_
 refine nl hK ?_
 exact AW.exit (per h h0 [])
 refine AW.skip (rb hx ?_)
 exact pel h h0 [0,1]
 refine lw0 ?_
 refine ra hx ?_
 exact AW.ret (rtv h)
def nq(aM:am):Option ao:=bnd (aO aM) fun x1=>cnd (!x1) (bnd (d9) fun x4=>some x4) (bnd (gt aM.vN aM.vD) fun x6=>some x6)
theorem Ge {aM:am}{r:ao}(h:nq aM=some r):aq prog 101 [dG ak aM] (dG ap r):=by
 refine bh (rs:=[.cell 2 41]) (fun cx hx h0=>?_) func101
 unfold nq at h
 refine rar hx ?_
 refine AW.seq (rs hx fun K hK=>?_)
 refine mbr ?_
 refine scb h bJ fun x1 h=>?_
 refine nbr hK ?_
 refine cdh h rfl (fun fG h=>?_) (fun fG h=>?_)
 refine rs hx fun K hK=>?_
 refine scb h gl fun x4 h=>?_
 refine nbr hK ?_
 exact AW.ret (rtv h)
 refine AW.skip (rs hx fun K hK=>?_)
 refine mbr ?_
 refine scb h jf fun x6 h=>?_
 refine nbr hK ?_
 exact AW.ret (rtv h)
def ib(aM:am):Option ao:=bnd (kN aM) fun x1=>bnd (nq x1) fun x3=>bnd (fk x3) fun x5=>some x5
theorem HU {aM:am}{r:ao}(h:ib aM=some r):aq prog 35 [dG ak aM] (dG ap r):=by
 refine bh (rs:=[.cell 2 41]) (fun cx hx h0=>?_) func35
 unfold ib at h
 refine rar hx ?_
 refine rs hx fun K hK=>?_
 refine mbr ?_
 refine scb h sP fun x1 h=>?_
 refine scb h Ge fun x3 h=>?_
 refine scb h sL fun x5 h=>?_
 refine nbr hK ?_
 exact AW.ret (rtv h)
def kO(aM:am)(mA:am):Option am:=bnd (S:=Bool) (bnd (aO aM) fun x1=>cnd (!x1) (some (true)) (bnd (aO mA) fun x4=>some (!x4))) fun gZ=>cnd gZ (bnd (eU) fun x8=>some x8) (bnd (fx aM mA) fun n7=>cnd (decide (n7<(0:Int))) (some mA) (some aM))
theorem J1 {aM:am}{mA:am}{r:am}(h:kO aM mA=some r):aq prog 33 [dG ak aM,dG ak mA] (dG ak r):=by
 refine bh (rs:=[.cell 4 43]) (fun cx hx h0=>?_) func33
 unfold kO at h
 refine rar hx ?_
 refine AW.seq (AW.block (AW.seq ?_))
 obtain⟨gZ,hy,h⟩:=ae h
 refine jn ((PE cx .normal (fun gZ=>[(2,.pt 0 0),(3,.pt 1 0),(4,.pt 2 0),(5,dB gZ)]) fun gZ=>⟨[(0,dC (ak.f aM)),(1,dC (ak.f mA)),(2,dC (ak.f kz))],[],3⟩) gZ) ?_ ?_
 replace h:=hy
 refine rq hx fun K hK=>?_
 refine mbr ?_
 refine scb h bJ fun x1 h=>?_
 refine mbr ?_
 rcases aE h with⟨fG,h⟩|⟨fG,h⟩
 refine nbr hK ?_
 exact pe1 h h0 [0,1,2]
 refine gbr ?_
 refine gcb h bJ fun x4 h=>?_
 refine nbr hK ?_
 exact pe1 h h0 [0,1,2]
 refine lw0 ?_
 refine cdh h rfl (fun sZ h=>?_) (fun sZ h=>?_)
 refine rs hx fun K hK=>?_
 refine scb h kK fun x8 h=>?_
 refine nbr hK ?_
 exact AW.ret (rtv h)
 refine rs hx fun K hK=>?_
 refine mbr ?_
 refine scb h mb fun n7 h=>?_
 refine nbr hK ?_
 refine cdh h rfl (fun BK h=>?_) (fun BK h=>?_)
 refine rar hx ?_
 exact AW.ret (rtv h)
 refine AW.skip (rar hx ?_)
 exact AW.ret (rtv h)
def mm :Option ao:=bnd (eN (1:Int)) fun x1=>some x1
theorem wt  {r:ao}(h:mm=some r):aq prog 125 [] (dG ap r):=by
 refine bh (rs:=[.cell 0 41]) (fun cx hx h0=>?_) func125
 unfold mm at h
 refine rar hx ?_
 refine rs hx fun K hK=>?_
 refine scb h ix fun x1 h=>?_
 refine nbr hK ?_
 exact AW.ret (rtv h)
def fg(aM:am):Option Bool:=bnd (S:=Bool) (bnd (bk aM.vN) fun x1=>cnd (!x1) (some (true)) (bnd (bk aM.vD) fun x4=>some (!x4))) fun dK=>cnd dK (some false) (bnd (S:=Bool) (bnd (kZ aM.vD) fun x8=>cnd (decide ((0:Int)<x8)) (bnd (mp aM.vN aM.vD) fun sJ=>bnd (mm) fun qA=>some (decide (sJ=qA))) (some (false))) fun pe=>some pe)
theorem mC {aM:am}{r:Bool}(h:fg aM=some r):aq prog 89 [dG ak aM] (dB r):=by
 refine bh (rs:=[.tmp 2]) (fun cx hx h0=>?_) func89
 unfold fg at h
 refine ra hx ?_
 iterate 2 refine AW.seq ?_
 obtain⟨dK,hy,h⟩:=ae h
 refine jn ((PE cx .normal (fun dK=>[(1,.pt 0 0),(12,dB dK)]) fun dK=>⟨[(0,dC (ak.f aM))],[],1⟩) dK) ?_ ?_
 replace h:=hy
 refine rq hx fun K hK=>?_
 refine mbr ?_
 refine scb h cu fun x1 h=>?_
 refine mbr ?_
 rcases aE h with⟨fG,h⟩|⟨fG,h⟩
 refine nbr hK ?_
 exact pe1 h h0 [0]
 refine ga fG ?_
 refine gbr ?_
 refine gcb h cu fun x4 h=>?_
 refine nbr hK ?_
 exact pe1 h h0 [0]
 refine lw0 ?_
 refine cdh h rfl (fun sZ h=>?_) (fun sZ h=>?_)
 refine ra hx ?_
 exact AW.ret (rtv h)
 refine AW.skip (AW.seq ?_)
 obtain⟨pe,hy,h⟩:=ae h
 refine jn ((PE cx .normal (fun pe=>[(2,dB pe)]) fun pe=>⟨[],[],0⟩) pe) ?_ ?_
 replace h:=hy
 refine rq hx fun K hK=>?_
 refine mbr ?_
 refine scb h uD fun x8 h=>?_
 refine mbr ?_
 rcases aE h with⟨nK,h⟩|⟨nK,h⟩
 refine ga nK ?_
 refine gbr ?_
 refine ga nK ?_
 refine gbr ?_
 refine gcb h wv fun sJ h=>?_
 refine gcb h wt fun qA h=>?_
 refine g1 nK (Fo tok 3 (by decide) eV fc) ?_
 refine nbr hK ?_
 exact pe1 h h0 []
 refine nbr hK ?_
 exact pe1 h h0 []
 refine lw0 ?_
 exact AW.ret (rtv h)
def nY :Option am:=bnd (fq) fun x1=>bnd (mm) fun x3=>some (⟨x1,x3⟩:am)
theorem sM  {r:am}(h:nY=some r):aq prog 67 [] (dG ak r):=by
 refine bh (rs:=[.cell 0 43]) (fun cx hx h0=>?_) func67
 unfold nY at h
 refine rar hx ?_
 refine rs hx fun K hK=>?_
 refine scb h kJ fun x1 h=>?_
 refine scb h wt fun x3 h=>?_
 refine s1 (d:=dG ak (⟨x1,x3⟩:am)) (hJ (FL.cons (y:=x1) (jY kz) rfl rfl (FL.cons (y:=x3) (jZ (⟨x1,cj⟩:am)) rfl rfl (FL.nil _))) aR) ?_
 refine nbr hK ?_
 exact AW.ret (rtv h)
def ge(c0:ao)(Aa:ao):Option am:=bnd (S:=Bool) (bnd (bk c0) fun x1=>cnd (!x1) (some (true)) (bnd (bk Aa) fun x4=>cnd (!x4) (some (true)) (bnd (kZ Aa) fun x7=>some (decide (x7=(0:Int)))))) fun dK=>cnd dK (bnd (nY) fun sJ=>some sJ) (bnd (mp c0 Aa) fun qA=>bnd (S:=ao) (bnd (kZ Aa) fun JM=>cnd (decide (JM<(0:Int))) (bnd (qp qA) fun sE=>some (sE)) (some (qA))) fun ey=>bnd (kM c0 ey) fun wm=>bnd (kM Aa ey) fun xY=>some (⟨wm,xY⟩:am))
theorem mB {c0:ao}{Aa:ao}{r:am}(h:ge c0 Aa=some r):aq prog 126 [dG ap c0,dG ap Aa] (dG ak r):=by
 refine bh (rs:=[.cell 4 43]) (fun cx hx h0=>?_) func126
 unfold ge at h
 refine rar hx ?_
 iterate 2 refine AW.seq ?_
 obtain⟨dK,hy,h⟩:=ae h
 refine jn ((PE cx .normal (fun dK=>[(2,.pt 0 0),(3,.pt 1 0),(4,.pt 2 0),(18,dB dK)]) fun dK=>⟨[(0,dC (ap.f c0)),(1,dC (ap.f Aa)),(2,dC (ak.f kz))],[],3⟩) dK) ?_ ?_
 replace h:=hy
 refine rq hx fun K hK=>?_
 refine mbr ?_
 refine scb h cu fun x1 h=>?_
 refine mbr ?_
 rcases aE h with⟨fG,h⟩|⟨fG,h⟩
 refine nbr hK ?_
 exact pe1 h h0 [0,1,2]
 refine gbr ?_
 refine gcb h cu fun x4 h=>?_
 refine mbr ?_
 rcases aE h with⟨qP,h⟩|⟨qP,h⟩
 refine nbr hK ?_
 exact pe1 h h0 [0,1,2]
 refine gbr ?_
 refine gcb h uD fun x7 h=>?_
 refine nbr hK ?_
 exact pe1 h h0 [0,1,2]
 refine lw0 ?_
 refine cdh h rfl (fun nK h=>?_) (fun nK h=>?_)
 refine rs hx fun K hK=>?_
 refine scb h sM fun sJ h=>?_
 refine nbr hK ?_
 exact AW.ret (rtv h)
 refine AW.skip (rs hx fun K hK=>?_)
 refine mbr ?_
 refine scb h wv fun qA h=>?_
 refine nbr hK ?_
 refine AW.seq ?_
 obtain⟨ey,hy,h⟩:=ae h
 refine jn ((PE cx .normal (fun ey=>[(2,.pt 0 0),(3,.pt 1 0),(4,.pt 2 0),(5,.pt 3 0)]) fun ey=>⟨[(0,dC (ap.f c0)),(1,dC (ap.f Aa)),(2,dC (ak.f kz)),(3,dC (ap.f ey))],[],4⟩) ey) ?_ ?_
 replace h:=hy
 refine rs hx fun K hK=>?_
 refine mbr ?_
 refine scb h uD fun JM h=>?_
 refine nbr hK ?_
 refine cdh h rfl (fun IF h=>?_) (fun IF h=>?_)
 refine rq hx fun K hK=>?_
 refine mbr ?_
 refine scb h JX fun sE h=>?_
 refine nbr hK ?_
 exact pe1 h h0 [0,1,2,3]
 exact AW.skip (pe1 h h0 [0,1,2,3])
 refine lw0 ?_
 refine rsd [128] hx fun K hK=>?_
 refine mbr ?_
 refine cqb h sO fun wm h=>?_
 refine mbr ?_
 refine cqb h sO fun xY h=>?_
 refine s1 (d:=dG ak (⟨wm,xY⟩:am)) (hJ (FL.cons (y:=wm) (jY kz) rfl rfl (FL.cons (y:=xY) (jZ (⟨wm,cj⟩:am)) rfl rfl (FL.nil _))) aR) ?_
 refine nbr hK ?_
 exact AW.ret (rtv h)
def wM(aM:am)(mA:am):Option am:=bnd (S:=Bool) (bnd (fg aM) fun x1=>cnd (!x1) (some (true)) (bnd (fg mA) fun x4=>some (!x4))) fun dK=>cnd dK (bnd (nY) fun x8=>some x8) (bnd (mp aM.vD mA.vD) fun n7=>bnd (kM aM.vD n7) fun nC=>bnd (kM mA.vD n7) fun qc=>bnd (mn aM.vN qc) fun AY=>bnd (mn mA.vN nC) fun sE=>bnd (wN AY sE) fun C7=>bnd (mn nC mA.vD) fun CR=>bnd (ge C7 CR) fun AX=>some AX)
theorem JV {aM:am}{mA:am}{r:am}(h:wM aM mA=some r):aq prog 69 [dG ak aM,dG ak mA] (dG ak r):=by
 refine bh (rs:=[.cell 4 43]) (fun cx hx h0=>?_) func69
 unfold wM at h
 refine rar hx ?_
 iterate 2 refine AW.seq ?_
 obtain⟨dK,hy,h⟩:=ae h
 refine jn ((PE cx .normal (fun dK=>[(2,.pt 0 0),(3,.pt 1 0),(4,.pt 2 0),(15,dB dK)]) fun dK=>⟨[(0,dC (ak.f aM)),(1,dC (ak.f mA)),(2,dC (ak.f kz))],[],3⟩) dK) ?_ ?_
 replace h:=hy
 refine rq hx fun K hK=>?_
 refine mbr ?_
 refine scb h mC fun x1 h=>?_
 refine mbr ?_
 rcases aE h with⟨fG,h⟩|⟨fG,h⟩
 refine nbr hK ?_
 exact pe1 h h0 [0,1,2]
 refine gbr ?_
 refine gcb h mC fun x4 h=>?_
 refine nbr hK ?_
 exact pe1 h h0 [0,1,2]
 refine lw0 ?_
 refine cdh h rfl (fun sZ h=>?_) (fun sZ h=>?_)
 refine rs hx fun K hK=>?_
 refine scb h sM fun x8 h=>?_
 refine nbr hK ?_
 exact AW.ret (rtv h)
 refine AW.skip (rs hx fun K hK=>?_)
 refine mbr ?_
 refine scb h wv fun n7 h=>?_
 refine nbr hK ?_
 refine rs hx fun K hK=>?_
 refine mbr ?_
 refine scb h sO fun nC h=>?_
 refine nbr hK ?_
 refine rs hx fun K hK=>?_
 refine mbr ?_
 refine scb h sO fun qc h=>?_
 refine nbr hK ?_
 refine rsd [130,129,126] hx fun K hK=>?_
 refine mbr ?_
 refine cqb h qe fun AY h=>?_
 refine mbr ?_
 refine cqb h qe fun sE h=>?_
 refine cqb h JY fun C7 h=>?_
 refine mbr ?_
 refine cqb h qe fun CR h=>?_
 refine cqb h mB fun AX h=>?_
 refine nbr hK ?_
 exact AW.ret (rtv h)
def wK(aM:am)(mA:am):Option am:=bnd (S:=Bool) (bnd (fg aM) fun x1=>cnd (!x1) (some (true)) (bnd (fg mA) fun x4=>some (!x4))) fun dK=>cnd dK (bnd (nY) fun x8=>some x8) (bnd (ge aM.vN mA.vD) fun n7=>bnd (ge mA.vN aM.vD) fun nC=>bnd (mn n7.vN nC.vN) fun qc=>bnd (mn n7.vD nC.vD) fun AY=>bnd (ge qc AY) fun sE=>some sE)
theorem JU {aM:am}{mA:am}{r:am}(h:wK aM mA=some r):aq prog 70 [dG ak aM,dG ak mA] (dG ak r):=by
 refine bh (rs:=[.cell 4 43]) (fun cx hx h0=>?_) func70
 unfold wK at h
 refine rar hx ?_
 iterate 2 refine AW.seq ?_
 obtain⟨dK,hy,h⟩:=ae h
 refine jn ((PE cx .normal (fun dK=>[(2,.pt 0 0),(3,.pt 1 0),(4,.pt 2 0),(16,dB dK)]) fun dK=>⟨[(0,dC (ak.f aM)),(1,dC (ak.f mA)),(2,dC (ak.f kz))],[],3⟩) dK) ?_ ?_
 replace h:=hy
 refine rq hx fun K hK=>?_
 refine mbr ?_
 refine scb h mC fun x1 h=>?_
 refine mbr ?_
 rcases aE h with⟨fG,h⟩|⟨fG,h⟩
 refine nbr hK ?_
 exact pe1 h h0 [0,1,2]
 refine gbr ?_
 refine gcb h mC fun x4 h=>?_
 refine nbr hK ?_
 exact pe1 h h0 [0,1,2]
 refine lw0 ?_
 refine cdh h rfl (fun sZ h=>?_) (fun sZ h=>?_)
 refine rs hx fun K hK=>?_
 refine scb h sM fun x8 h=>?_
 refine nbr hK ?_
 exact AW.ret (rtv h)
 refine AW.skip (rs hx fun K hK=>?_)
 refine mbr ?_
 refine scb h mB fun n7 h=>?_
 refine nbr hK ?_
 refine rs hx fun K hK=>?_
 refine mbr ?_
 refine scb h mB fun nC h=>?_
 refine nbr hK ?_
 refine rs hx fun K hK=>?_
 refine mbr ?_
 refine scb h qe fun qc h=>?_
 refine nbr hK ?_
 refine rs hx fun K hK=>?_
 refine mbr ?_
 refine scb h qe fun AY h=>?_
 refine nbr hK ?_
 refine rs hx fun K hK=>?_
 refine mbr ?_
 refine scb h mB fun sE h=>?_
 refine nbr hK ?_
 exact AW.ret (rtv h)
def pF(c0:Int):Option am:=bnd (eN c0) fun x1=>bnd (mm) fun x3=>bnd (ge x1 x3) fun x5=>some x5
theorem DB {c0:Int}{r:am}(h:pF c0=some r):aq prog 68 [dI .i64 c0] (dG ak r):=by
 refine bh (rs:=[.cell 2 43]) (fun cx hx h0=>?_) func68
 unfold pF at h
 refine rar hx ?_
 refine rs hx fun K hK=>?_
 refine sa ?_
 refine scb h ix fun x1 h=>?_
 refine scb h wt fun x3 h=>?_
 refine scb h mB fun x5 h=>?_
 refine nbr hK ?_
 exact AW.ret (rtv h)
def mG(aI:Int)(aQ:Int):Option am:=bnd (eN aI) fun x1=>bnd (eN aQ) fun x3=>bnd (ge x1 x3) fun x5=>some x5
theorem zP {aI:Int}{aQ:Int}{r:am}(h:mG aI aQ=some r):aq prog 102 [dI .i64 aI,dI .i64 aQ] (dG ak r):=by
 refine bh (rs:=[.cell 4 43]) (fun cx hx h0=>?_) func102
 unfold mG at h
 refine rar hx ?_
 refine rs hx fun K hK=>?_
 refine sa ?_
 refine scb h ix fun x1 h=>?_
 refine sa ?_
 refine scb h ix fun x3 h=>?_
 refine scb h mB fun x5 h=>?_
 refine nbr hK ?_
 exact AW.ret (rtv h)
def lP(q:Rat):Prop:=q.num.natAbs<LIM∧q.den<LIM
instance(q:Rat):Decidable (lP q):=by unfold lP;exact inferInstance
def kI(q:Rat):am:=⟨enc q.num,enc (q.den:Int)⟩
def GJ:am:=⟨BU,enc 1⟩
def zf:Option Rat→am
 |some q=>kI q
 |none=>GJ
def okR(x:am):Prop:=okI x.vN∧okI x.vD
theorem sV(o:Option Rat):okR (zf o):=by
 cases o with
 |some q=>exact⟨De _,De _⟩
 |none=>
  refine⟨fun j hj=>?_,De _⟩
  show 0≤(W 0)[j]!∧(W 0)[j]! <4294967296
  rw[gN hj];have:=@dgl 0 j;omega
theorem T5 {p q:Rat}(hp:lP p)(hq:lP q)(h:kI p=kI q):p=q:=by
 unfold kI at h
 simp only[am.mk.injEq] at h
 have h1:=Aw hp.1 hq.1 h.1
 have h2:=Aw (by simpa using hp.2) (by simpa using hq.2) h.2
 exact Rat.ext h1 (by omega)
theorem uP {z:Int}:dU (enc z)=decide (z.natAbs<LIM):=by
 by_cases h:z.natAbs<LIM
 ·rw[bf h,aA h]
 ·rw[Ey h,BL,a8 h]
theorem K4 {q:Rat}(h:lP q):kI q≠GJ:=by
 intro e
 have:dU (kI q).vN=dU GJ.vN:=by rw[e]
 rw[show (kI q).vN=enc q.num from rfl,bf h.1] at this
 cases this
def b7(x:am):Option Rat:=open Classical in if h:∃q,lP q∧x=kI q then some (Classical.choose h) else none
theorem c6 {x:am}{q:Rat}:b7 x=some q↔lP q∧x=kI q:=by
 unfold b7
 split
 ·rename_i h
  obtain⟨h1,h2⟩:=E6 h
  constructor
  ·intro e
   injection e with e
   rw[←e];exact⟨h1,h2⟩
  ·rintro⟨h3,h4⟩
   congr 1
   exact T5 h1 h3 (h2.symm.trans h4)
 ·rename_i h
  constructor
  ·intro e;cases e
  ·rintro h3;exact absurd ⟨q,h3⟩ h
theorem A1 {x:am}:b7 x=none↔∀q,lP q→x≠kI q:=by
 constructor
 ·intro h q hq e
  rw[c6.2 ⟨hq,e⟩] at h;cases h
 ·intro h
  cases hx:b7 x with
  |none=>rfl
  |some q=>exact absurd (c6.1 hx).2 (h q (c6.1 hx).1)
theorem wA {q:Rat}(h:lP q):b7 (kI q)=some q:=c6.2 ⟨h,rfl⟩
theorem Ry:b7 GJ=none:=A1.2 fun _ hq e=>K4 hq e.symm
def BM(o:Option Rat):Prop:=∀q,o=some q→lP q
theorem xr {o:Option Rat}(h:BM o):b7 (zf o)=o:=by
 cases o with
 |none=>exact Ry
 |some q=>exact wA (h q rfl)
theorem wO(x:am):BM (b7 x):=fun _ h=>(c6.1 h).1
theorem pH:BM none:=fun _ h=>by cases h
theorem T1 {g k:Int}(h:g≠0):(g*k).fdiv g=k:=Int.mul_fdiv_cancel_left _ h
theorem O3 {g k:Int}(h:g≠0):(g*k).fdiv (-g)=-k:=by
 rw[show g*k=-g*-k from (Int.neg_mul_neg g k).symm]
 exact Int.mul_fdiv_cancel_left _ (by omega)
theorem oG {n d:Int}(hd:d≠0):∃k m:Int,n=(Nat.gcd n.natAbs d.natAbs:Nat)*k∧d=(Nat.gcd n.natAbs d.natAbs:Nat)*m∧m≠0∧(Rat.divInt n d).num=d.sign*k∧((Rat.divInt n d).den:Int)=d.sign*m:=by
 have hg0:Nat.gcd n.natAbs d.natAbs≠0:=by
  intro h
  have:=(Np.1 h).2
  omega
 have Cz:((Nat.gcd n.natAbs d.natAbs:Nat):Int)≠0:=by omega
 obtain⟨k,hk⟩:((Nat.gcd n.natAbs d.natAbs:Nat):Int) ∣ n:=Int.ofNat_dvd_left.2 (Nat.gcd_dvd_left _ _)
 obtain⟨m,hm⟩:((Nat.gcd n.natAbs d.natAbs:Nat):Int) ∣ d:=Int.ofNat_dvd_left.2 (Nat.gcd_dvd_right _ _)
 have OQ:((Int.gcd d n:Nat):Int)=((Nat.gcd n.natAbs d.natAbs:Nat):Int):=by
  rw[Int.gcd_comm];rfl
 have hmm:m≠0:=by
  intro h
  rw[h,Int.mul_zero] at hm
  exact hd hm
 refine⟨k,m,hk,hm,hmm,?_,?_⟩
 ·rw[Rat.num_divInt,OQ]
  generalize ((Nat.gcd n.natAbs d.natAbs:Nat):Int)=g at hk Cz ⊢
  rw[hk,I7,Int.mul_ediv_cancel_left _ Cz]
 ·rw[Rat.den_divInt,ah hd]
  have e:((d.natAbs / Int.gcd d n:Nat):Int)=(d.natAbs:Int) / ((Int.gcd d n:Nat):Int):=No ..
  rw[e,OQ]
  have e2:(d.natAbs:Int)=d.sign*d:=by rw[Int.sign_mul_self]
  rw[e2]
  generalize ((Nat.gcd n.natAbs d.natAbs:Nat):Int)=g at hm Cz ⊢
  have e3:d.sign*d=g*(d.sign*m):=by
   conv=>lhs;rhs;rw[hm]
   rw[I7]
  rw[e3,Int.mul_ediv_cancel_left _ Cz]
theorem zi {n d:Int}(hd:d≠0)(h1:n.natAbs<LIM)(h2:d.natAbs<LIM):lP (Rat.divInt n d):=by
 obtain⟨k,m,hk,hm,FQ,e1,e2⟩:=oG (n:=n) hd
 have hg0:Nat.gcd n.natAbs d.natAbs≠0:=by
  intro h
  have:=(Np.1 h).2
  omega
 have hs:d.sign.natAbs=1:=by rw[Int.natAbs_sign,ah hd]
 refine⟨?_,?_⟩
 ·rw[e1,oP,hs,e8]
  refine dq ?_ h1
  conv=>rhs;rw[hk]
  rw[oP,dT]
  exact va _ (zx hg0)
 ·have:(Rat.divInt n d).den=(d.sign*m).natAbs:=by omega
  rw[this,oP,hs,e8]
  refine dq ?_ h2
  conv=>rhs;rw[hm]
  rw[oP,dT]
  exact va _ (zx hg0)
theorem Kv {n d:Int}(hd:d≠0):n.fdiv (bif decide (d<0) then -((Nat.gcd n.natAbs d.natAbs:Nat):Int) else ((Nat.gcd n.natAbs d.natAbs:Nat):Int))=(Rat.divInt n d).num∧d.fdiv (bif decide (d<0) then -((Nat.gcd n.natAbs d.natAbs:Nat):Int) else ((Nat.gcd n.natAbs d.natAbs:Nat):Int))=((Rat.divInt n d).den:Int):=by
 obtain⟨k,m,hk,hm,FQ,e1,e2⟩:=oG (n:=n) hd
 have Cz:((Nat.gcd n.natAbs d.natAbs:Nat):Int)≠0:=by
  intro h
  rw[h,Ja] at hm
  exact hd hm
 rw[e1,e2]
 generalize ((Nat.gcd n.natAbs d.natAbs:Nat):Int)=g at hk hm Cz ⊢
 by_cases h:d<0
 ·rw[aA h,kA,w8 h]
  constructor
  ·rw[hk,O3 Cz];omega
  ·rw[hm,O3 Cz];omega
 ·rw[a8 h,cond_false,sh (by omega)]
  constructor
  ·rw[hk,T1 Cz];omega
  ·rw[hm,T1 Cz];omega
theorem IJ {n d:Int}(hd:d≠0)(h2:d.natAbs<LIM):Nat.gcd n.natAbs d.natAbs<LIM∧Nat.gcd n.natAbs d.natAbs≠0:=
 ⟨dq (Nat.gcd_le_right _ (by omega)) h2,fun h=>by have:=(Np.1 h).2;omega⟩
theorem Py:mq=some (enc 1):=by
 unfold mq
 rw[N1 (by decide) (by decide),ab]
theorem qa(x:ao):jx x=some (dU x):=by
 unfold jx
 rw[PA,ab,Um,ab]
 congr 1
 unfold dU
 cases x.vBad <;> rfl
theorem tO:eU=some GJ:=by
 unfold eU
 rw[HO,Py,ab,ab]
 rfl
theorem TQ {n d:Int}(hn:n.natAbs<LIM)(hd:d.natAbs<LIM):(∃q,lP q∧(⟨enc n,enc d⟩:am)=kI q)↔0<d∧Nat.gcd n.natAbs d.natAbs=1:=by
 constructor
 ·rintro⟨q,hq,e⟩
  unfold kI at e
  simp only[am.mk.injEq] at e
  have e1:=Aw hn hq.1 e.1
  have e2:=Aw hd (by simpa using hq.2) e.2
  subst e1;subst e2
  exact⟨by have:=q.den_pos;omega,by rw[dT];exact q.reduced⟩
 ·rintro⟨h1,h2⟩
  refine⟨⟨n,d.natAbs,by omega,h2⟩,⟨hn,hd⟩,?_⟩
  unfold kI
  simp only[am.mk.injEq,true_and]
  congr 1
  omega
theorem gj {x:am}(hx:okR x):aO x=some (b7 x).isSome:=by
 obtain⟨n,d⟩:=x
 obtain⟨h1,h2⟩:=hx
 dsimp only at h1 h2
 have hb:∀b:Bool,(b=true↔∃q,lP q∧(⟨n,d⟩:am)=kI q)→(b7 ⟨n,d⟩).isSome=b:=by
  intro b hb
  cases hv:b7 ⟨n,d⟩ with
  |none=>
   cases b with
   |false=>rfl
   |true=>
    obtain⟨q,h3,h4⟩:=hb.1 rfl
    exact absurd h4 (A1.1 hv q h3)
  |some q=>exact ((hb.2 ⟨q,c6.1 hv⟩).symm)
 unfold aO
 dsimp only
 rw[qa,qa,ab,ab]
 cases Cz:dU n with
 |false=>
  rw[aF,ab,hb false]
  constructor
  ·intro h;cases h
  ·rintro⟨q,hq,e⟩
   unfold kI at e
   simp only[am.mk.injEq] at e
   rw[e.1,bf hq.1] at Cz;cases Cz
 |true=>
  cases En:dU d with
  |false=>
   rw[fO,aF,ab,hb false]
   constructor
   ·intro h;cases h
   ·rintro⟨q,hq,e⟩
    unfold kI at e
    simp only[am.mk.injEq] at e
    rw[e.2,bf (by simpa using hq.2)] at En;cases En
  |true=>
   obtain⟨n,hn,rfl⟩:=As h1 Cz
   obtain⟨d,hd,rfl⟩:=As h2 En
   have JI:=TQ hn hd
   rw[fO,fO,xo hd,ab,PF hn hd,ab,Py,ab,fH]
   by_cases h0:0<d
   ·rw[ai (by rw[sh h0];decide),ab]
    congr 1
    symm
    refine hb _ ?_
    rw[JI,decide_eq_true_iff]
    have OP:=(IJ (n:=n) (show d≠0 by omega) hd).1
    constructor
    ·intro h
     have:=Aw (by simpa using OP) (by decide) h
     exact⟨h0,by omega⟩
    ·rintro⟨_,h⟩
     rw[h];rfl
   ·rw[ah (by rw[Int.sign_pos_iff];exact h0),ab]
    congr 1
    symm
    refine hb _ ?_
    rw[JI]
    constructor
    ·intro h;cases h
    ·rintro⟨h,_⟩;exact absurd h h0
theorem FE {n d:Int}(hn:n.natAbs<LIM)(hd:d.natAbs<LIM)(h0:d≠0):c9 (enc n) (enc d)=some (kI (Rat.divInt n d)):=by
 obtain⟨Cz,En⟩:=IJ (n:=n) h0 hd
 obtain⟨e1,e2⟩:=Kv (n:=n) h0
 have OP:(((Nat.gcd n.natAbs d.natAbs:Nat):Int)).natAbs<LIM:=by simpa using Cz
 unfold c9
 rw[qa,qa,ab,ab,bf hn,bf hd,cG,aF,aF,xo hd,ab,ab,ci _ _ (by rw[BZ];exact h0),PF hn hd,ab,ab,PC OP,ab]
 have SS:(cnd (decide (d.sign<(0:Int))) (some (enc (-((Nat.gcd n.natAbs d.natAbs:Nat):Int)))) (some (enc ((Nat.gcd n.natAbs d.natAbs:Nat):Int))))=some (enc (bif decide (d<0) then -((Nat.gcd n.natAbs d.natAbs:Nat):Int) else ((Nat.gcd n.natAbs d.natAbs:Nat):Int))):=by
  by_cases h:d<0
  ·rw[cy _ _ (by rw[EY];exact h),aA h];rfl
  ·rw[ci _ _ (by rw[EY];exact h),a8 h];rfl
 have FK:((bif decide (d<0) then -((Nat.gcd n.natAbs d.natAbs:Nat):Int) else ((Nat.gcd n.natAbs d.natAbs:Nat):Int))).natAbs<LIM∧(bif decide (d<0) then -((Nat.gcd n.natAbs d.natAbs:Nat):Int) else ((Nat.gcd n.natAbs d.natAbs:Nat):Int))≠0:=by
  cases decide (d<0)
  ·simp only[cond_false];omega
  ·simp only[kA];omega
 rw[SS,ab,FC hn FK.1 FK.2,ab,FC hd FK.1 FK.2,ab,e1,e2]
 rfl
theorem LO {x:ao}:c9 x (enc 0)=some GJ:=by
 unfold c9
 rw[qa,qa,ab,ab,xo (by decide),ab,bf (by decide),tO,ab]
 cases dU x <;> rfl
theorem FD {x y:ao}(h:(dU x&&dU y)=false):c9 x y=some GJ:=by
 unfold c9
 rw[qa,qa,ab,ab,tO,ab]
 cases h1:dU x with
 |false=>rfl
 |true=>
  cases h2:dU y with
  |false=>rfl
  |true=>rw[h1,h2] at h;cases h
def CT(x y:Rat):Option Rat:=
 if (x.num*((y.den / Nat.gcd x.den y.den:Nat):Int)).natAbs<LIM∧(y.num*((x.den / Nat.gcd x.den y.den:Nat):Int)).natAbs<LIM∧(x.num*((y.den / Nat.gcd x.den y.den:Nat):Int)+y.num*((x.den / Nat.gcd x.den y.den:Nat):Int)).natAbs<LIM∧x.den / Nat.gcd x.den y.den*y.den<LIM then some (x+y) else none
def Bl(x y:Rat):Option Rat:=if lP (x*y) then some (x*y) else none
theorem Lw(x y:Rat):Rat.divInt (x.num*((y.den / Nat.gcd x.den y.den:Nat):Int)+y.num*((x.den / Nat.gcd x.den y.den:Nat):Int)) ((x.den / Nat.gcd x.den y.den*y.den:Nat):Int)=x+y:=by
 have hx:=x.den_pos
 have hy:=y.den_pos
 have hg:0<Nat.gcd x.den y.den:=Nn _ hx
 obtain⟨p,hp⟩:=Nat.gcd_dvd_left x.den y.den
 obtain⟨q,hq⟩:=Nat.gcd_dvd_right x.den y.den
 have e1:x.den / Nat.gcd x.den y.den=p:=by
                         conv=>lhs;lhs;rw[hp]
                         exact ND _ hg
 have e2:y.den / Nat.gcd x.den y.den=q:=by
                         conv=>lhs;lhs;rw[hq]
                         exact ND _ hg
 rw[e1,e2,Rat.add_def']
 generalize Nat.gcd x.den y.den=g at hg hp hq
 rw[←Nt,←Rat.divInt_mul_left (a:=(g:Int)) (by omega)]
 congr 1
 ·rw[Int.mul_add,hp,hq,ig,ig,I7,I7 (y.num)]
 ·rw[hp]
  simp only[ig,EW]
theorem R7(x y:Rat):BM (CT x y):=by
 intro q h
 unfold CT at h
 split at h
 ·rename_i hc
  obtain⟨_,_,h3,h4⟩:=hc
  injection h with h
  subst h
  rw[←Lw]
  refine zi ?_ h3 (by rw[dT];exact h4)
  have hg:0<Nat.gcd x.den y.den:=Nn _ x.den_pos
  have:=E3 (B0 y.den x.den_pos) hg
  have:=yy this y.den_pos
  omega
 ·cases h
theorem R6(x y:Rat):BM (Bl x y):=by
 intro q h
 unfold Bl at h
 split at h
 ·rename_i hc
  injection h with h
  rw[←h];exact hc
 ·cases h
theorem cross(x y:Rat):(x*y).num=(Rat.divInt x.num y.den).num*(Rat.divInt y.num x.den).num∧(x*y).den=(Rat.divInt x.num y.den).den*(Rat.divInt y.num x.den).den:=by
 have hx:=x.den_pos
 have hy:=y.den_pos
 obtain⟨k,m,hk,hm,FQ,e1,e2⟩:=oG (n:=x.num) (d:=(y.den:Int)) (by omega)
 obtain⟨k',m',wd,hm',hm0',e1',e2'⟩:=oG (n:=y.num) (d:=(x.den:Int)) (by omega)
 rw[sh (by omega),zu] at e1 e2 e1' e2'
 have hxy:x*y=Rat.divInt x.num y.den*Rat.divInt y.num x.den:=by
  rw[Rat.divInt_mul_divInt]
  conv=>lhs;rw[←Rat.num_divInt_den x,←Rat.num_divInt_den y,Rat.divInt_mul_divInt]
  rw[lh (y.den:Int)]
 have hc:Nat.gcd ((Rat.divInt x.num y.den).num*(Rat.divInt y.num x.den).num).natAbs ((Rat.divInt x.num y.den).den*(Rat.divInt y.num x.den).den)=1:=by
  rw[oP]
  have c1:=(Rat.divInt x.num y.den).reduced
  have c2:=(Rat.divInt y.num x.den).reduced
  have d1:(Rat.divInt x.num y.den).num.natAbs ∣ x.num.natAbs:=by
   rw[e1];exact Int.natAbs_dvd_natAbs.2 ⟨_,by rw[lh];exact hk⟩
  have d2:(Rat.divInt y.num x.den).den ∣ x.den:=Int.natCast_dvd_natCast.1 (by rw[e2'];exact⟨_,by rw[lh];exact hm'⟩)
  have d3:(Rat.divInt y.num x.den).num.natAbs ∣ y.num.natAbs:=by
   rw[e1'];exact Int.natAbs_dvd_natAbs.2 ⟨_,by rw[lh];exact wd⟩
  have d4:(Rat.divInt x.num y.den).den ∣ y.den:=Int.natCast_dvd_natCast.1 (by rw[e2];exact⟨_,by rw[lh];exact hm⟩)
  have c3:Nat.Coprime (Rat.divInt x.num y.den).num.natAbs (Rat.divInt y.num x.den).den:=Nat.Coprime.coprime_dvd_left d1 (Nat.Coprime.coprime_dvd_right d2 x.reduced)
  have c4:Nat.Coprime (Rat.divInt y.num x.den).num.natAbs (Rat.divInt x.num y.den).den:=Nat.Coprime.coprime_dvd_left d3 (Nat.Coprime.coprime_dvd_right d4 y.reduced)
  exact Nat.Coprime.mul_left (Nat.Coprime.mul_right c1 c3) (Nat.Coprime.mul_right c4 c2)
 rw[hxy,Rat.num_mul,Rat.den_mul,hc]
 exact⟨by simp,by simp⟩
theorem zh(q:Rat):(kI q).vN=enc q.num:=rfl
theorem BQ(q:Rat):(kI q).vD=enc (q.den:Int):=rfl
theorem O4(z:Int):(enc z).vBad=decide (¬z.natAbs<LIM):=by
 by_cases h:z.natAbs<LIM
 ·rw[r4 h];simp[h]
 ·rw[Ey h];simp[h];rfl
theorem jB {q:Rat}(h:lP q):((q.den:Nat):Int).natAbs<LIM:=by simpa using h.2
theorem G_rMul {x y:Rat}(hx:lP x)(hy:lP y):im (kI x) (kI y)=some (zf (Bl x y)):=by
 have hdx:=x.den_pos
 have hdy:=y.den_pos
 obtain⟨c1,c2⟩:=cross x y
 have f1:=zi (n:=x.num) (d:=(y.den:Int)) (by omega) hx.1 (jB hy)
 have f2:=zi (n:=y.num) (d:=(x.den:Int)) (by omega) hy.1 (jB hx)
 unfold im
 rw[show aO (kI x)=_ from gj (sV (some x)),show aO (kI y)=_ from gj (sV (some y)),wA hx,wA hy,ab,ab]
 simp only[wZ,cG,aF,ab,zh,BQ]
 rw[FE hx.1 (jB hy) (by omega),ab,FE hy.1 (jB hx) (by omega),ab]
 simp only[zh,BQ]
 rw[LN f1.1 f2.1,ab,LN (jB f1) (jB f2),ab,←c1,←ig,←c2,O4,O4,Uo,ab,tO,ab,←Bool.decide_or,fH]
 unfold Bl
 by_cases h:lP (x*y)
 ·obtain⟨h1,h2⟩:=id h
  rw[ah (by rw[dT];omega),ai h];rfl
 ·have h1:¬((x*y).num.natAbs<LIM∧(x*y).den<LIM):=h
  rw[ai (by rw[dT];omega),ah h];rfl
theorem Fy {x y:am}(hx:okR x)(hy:okR y)(h:((b7 x).isSome&&(b7 y).isSome)=false):im x y=some GJ:=by
 unfold im
 rw[gj hx,gj hy,ab,ab,tO,ab]
 cases h1:(b7 x).isSome with
 |false=>rfl
 |true=>
  cases h2:(b7 y).isSome with
  |false=>rfl
  |true=>rw[h1,h2] at h;cases h
theorem Oq {n g:Nat}:((n:Int)).fdiv (g:Int)=((n / g:Nat):Int):=by
 rw[I9 _ (Jb _)]
 exact (No ..).symm
theorem G_rAdd {x y:Rat}(hx:lP x)(hy:lP y):io (kI x) (kI y)=some (zf (CT x y)):=by
 have hdx:=x.den_pos
 have hdy:=y.den_pos
 have hg:0<Nat.gcd x.den y.den:=Nn _ hdx
 have OP:Nat.gcd x.den y.den<LIM:=dq (B0 _ hdx) hx.2
 have hgl':((Nat.gcd x.den y.den:Nat):Int).natAbs<LIM:=by simpa using OP
 have hp:x.den / Nat.gcd x.den y.den<LIM:=dq (oQ _ _) hx.2
 have hq:y.den / Nat.gcd x.den y.den<LIM:=dq (oQ _ _) hy.2
 have hp0:0<x.den / Nat.gcd x.den y.den:=E3 (B0 y.den hdx) hg
 have wn:0<x.den / Nat.gcd x.den y.den*y.den:=yy hp0 hdy
 have Qu:=Lw x y
 unfold io
 rw[show aO (kI x)=_ from gj (sV (some x)),show aO (kI y)=_ from gj (sV (some y)),wA hx,wA hy,ab,ab]
 simp only[wZ,cG,aF,ab,zh,BQ]
 rw[PF (jB hx) (jB hy),ab,dT,dT,FC (jB hx) hgl' (by omega),ab,FC (jB hy) hgl' (by omega),ab,Oq,Oq,LN hx.1 (by rw[dT];exact hq),ab,LN hy.1 (by rw[dT];exact hp),ab,LN (by rw[dT];exact hp) (jB hy),←ig]
 unfold CT
 revert Qu
 generalize x.num*((y.den / Nat.gcd x.den y.den:Nat):Int)=z1
 generalize y.num*((x.den / Nat.gcd x.den y.den:Nat):Int)=z2
 revert wn
 generalize x.den / Nat.gcd x.den y.den*y.den=D
 intro wn Qu
 have hsum:js (enc z1) (enc z2)=some (if z1.natAbs<LIM∧z2.natAbs<LIM then enc (z1+z2) else BU):=by
  by_cases h:z1.natAbs<LIM∧z2.natAbs<LIM
  ·rw[ai h,G_Add h.1 h.2]
  ·rw[ah h,Q4 (by rw[uP,uP,←Bool.decide_and];exact a8 h)]
 rw[hsum,ab,ab,uX]
 by_cases h:z1.natAbs<LIM∧z2.natAbs<LIM
 ·rw[ai h]
  by_cases h2:(z1+z2).natAbs<LIM∧D<LIM
  ·rw[FE h2.1 (by rw[dT];exact h2.2) (by omega),Qu,ai ⟨h.1,h.2,h2⟩];rfl
  ·rw[FD (by rw[uP,uP,←Bool.decide_and,dT];exact a8 h2),ah fun hh=>h2 hh.2.2];rfl
 ·rw[ah h,FD (by rw[BL,u9]),ah fun hh=>h ⟨hh.1,hh.2.1⟩];rfl
theorem Fz {x y:am}(hx:okR x)(hy:okR y)(h:((b7 x).isSome&&(b7 y).isSome)=false):io x y=some GJ:=by
 unfold io
 rw[gj hx,gj hy,ab,ab,tO,ab]
 cases h1:(b7 x).isSome with
 |false=>rfl
 |true=>
  cases h2:(b7 y).isSome with
  |false=>rfl
  |true=>rw[h1,h2] at h;cases h
def Ik(a b:Option Rat):Option Rat:=a.bind fun x=>b.bind fun y=>CT x y
def Bq(a b:Option Rat):Option Rat:=a.bind fun x=>b.bind fun y=>Bl x y
def P5(a:Option Rat):Option Rat:=a.map fun x=>-x
def Mr(a:Option Rat):Option Rat:=a.bind fun x=>if x=0 then none else some x⁻¹
def osub(a b:Option Rat):Option Rat:=Ik a (P5 b)
def Gq(a b:Option Rat):Option Rat:=Bq a (Mr b)
def osgn(a:Option Rat):Int:=match a with|some x=>x.num.sign|none=>0
theorem Ad(a b:Option Rat):BM (Ik a b):=by
 cases a with
 |none=>exact pH
 |some x=>
  cases b with
  |none=>exact pH
  |some y=>exact R7 x y
theorem DX(a b:Option Rat):BM (Bq a b):=by
 cases a with
 |none=>exact pH
 |some x=>
  cases b with
  |none=>exact pH
  |some y=>exact R6 x y
theorem Ev {x:Rat}(h:lP x):lP (-x):=⟨by rw[Rat.neg_num,Int.natAbs_neg];exact h.1,h.2⟩
theorem Ac {a:Option Rat}(h:BM a):BM (P5 a):=by
 cases a with
 |none=>exact pH
 |some x=>
  intro q hq
  injection hq with hq
  subst hq
  exact Ev (h x rfl)
theorem TX {x:Rat}(h:lP x)(h0:x≠0):lP x⁻¹:=by
 have hn:x.num≠0:=fun h=>h0 (Rat.num_eq_zero.1 h)
 refine⟨?_,?_⟩
 ·rw[Rat.num_inv,oP,Int.natAbs_sign,ah hn,e8,dT];exact h.2
 ·rw[Rat.den_inv,ah hn];exact h.1
theorem Si {a:Option Rat}(h:BM a):BM (Mr a):=by
 cases a with
 |none=>exact pH
 |some x=>
  intro q hq
  have hq:(if x=0 then none else some x⁻¹)=some q:=hq
  split at hq
  ·cases hq
  ·rename_i h0
   injection hq with hq
   subst hq
   exact TX (h x rfl) h0
theorem Sj(a b:Option Rat):BM (Gq a b):=DX _ _
theorem NZ {x y:am}(hx:okR x)(hy:okR y):io x y=some (zf (Ik (b7 x) (b7 y))):=by
 cases h1:b7 x with
 |none=>exact Fz hx hy (by rw[h1];rfl)
 |some p=>
  cases h2:b7 y with
  |none=>exact Fz hx hy (by rw[h1,h2];rfl)
  |some q=>
   obtain⟨hp,rfl⟩:=c6.1 h1
   obtain⟨hq,rfl⟩:=c6.1 h2
   exact G_rAdd hp hq
theorem NX {x y:am}(hx:okR x)(hy:okR y):im x y=some (zf (Bq (b7 x) (b7 y))):=by
 cases h1:b7 x with
 |none=>exact Fy hx hy (by rw[h1];rfl)
 |some p=>
  cases h2:b7 y with
  |none=>exact Fy hx hy (by rw[h1,h2];rfl)
  |some q=>
   obtain⟨hp,rfl⟩:=c6.1 h1
   obtain⟨hq,rfl⟩:=c6.1 h2
   exact G_rMul hp hq
theorem JB {x:am}(hx:okR x):kN x=some (zf (P5 (b7 x))):=by
 unfold kN
 rw[gj hx,ab]
 cases h1:b7 x with
 |none=>rw[tO,ab];rfl
 |some p=>
  obtain⟨hp,rfl⟩:=c6.1 h1
  simp only[wZ,cG,aF,zh,BQ]
  rw[PC hp.1,ab]
  rfl
theorem G_osub {x y:am}(hx:okR x)(hy:okR y):s7 x y=some (zf (osub (b7 x) (b7 y))):=by
 unfold s7
 rw[JB hy,ab,NZ hx (sV _),ab,xr (Ac (wO y))]
 rfl
theorem N3 {q:Rat}(hq:lP q):c9 (enc (q.den:Int)) (enc q.num)=some (zf (Mr (some q))):=by
 by_cases h:q=0
 ·subst h
  show c9 _ (enc 0)=_
  rw[LO];rfl
 ·have hn:q.num≠0:=fun h0=>h (Rat.num_eq_zero.1 h0)
  rw[FE (jB hq) hq.1 hn,←Rat.inv_def]
  show _=some (zf (if q=0 then none else some q⁻¹))
  rw[ah h];rfl
theorem G_odiv {x y:am}(hx:okR x)(hy:okR y):s8 x y=some (zf (Gq (b7 x) (b7 y))):=by
 unfold s8
 rw[gj hy,ab]
 cases h2:b7 y with
 |none=>
  rw[tO,ab]
  show some GJ=some (zf (Bq (b7 x) none))
  unfold Bq
  cases b7 x <;> rfl
 |some q=>
  obtain⟨hq,rfl⟩:=c6.1 h2
  simp only[wZ,cG,aF,zh,BQ]
  rw[N3 hq,ab,NX hx (sV _),ab,xr (Si fun r hr=>by injection hr with hr;subst hr;exact hq)]
  rfl
theorem Vz {x:am}(hx:okR x):jy x=some (osgn (b7 x)):=by
 unfold jy
 rw[gj hx,ab]
 cases h1:b7 x with
 |none=>rfl
 |some p=>
  obtain⟨hp,rfl⟩:=c6.1 h1
  simp only[wZ,cG,aF,zh]
  rw[xo hp.1,ab]
  rfl
theorem EA(n:Int):Rat.divInt n 1=(n:Rat):=by
 show Rat.divInt n ((1:Nat):Int)=_
 rw[Nt]
 exact Rat.mkRat_self (n:Rat)
theorem LK {n:Int}(h:n.natAbs<LIM):gh (enc n)=some (kI (n:Rat)):=by
 unfold gh
 rw[Py,ab,FE h (by decide) (by decide),ab,EA]
theorem G_rOf {n:Int}(h1:-9223372036854775808≤n)(h2:n≤9223372036854775807):pG n=some (kI (n:Rat)):=by
 have hL:n.natAbs<LIM:=bH (show n.natAbs<18446744073709551616 by omega) (by decide)
 unfold pG
 rw[N1 h1 h2,ab,LK hL,ab]
section
def lF(n:Nat)(f:Nat→Nat):List Int:=(List.range n).map fun j=>(f j:Int)
section
variable {n m p x k j:Nat} {f g:Nat→Nat}
theorem cJ:(lF n f).length=n:=by unfold lF;simp
theorem qF(h:j<n):(lF n f)[j]! =(f j:Int):=by
 unfold lF
 rw[bL _ j (by simpa using h)]
 simp
theorem uL(h:∀j,j<n→f j=g j):lF n f=lF n g:=by
 unfold lF
 apply sr
 intro j hj
 rw[h j (by simpa using hj)]
theorem Al:lF n f++[(f n:Int)]=lF (n+1) f:=by
 unfold lF
 rw[vL,iP];rfl
theorem MC:(lF n f).set p (x:Int)=lF n (fun j=>if j=p then x else f j):=by
 apply Fc
 ·rw[cY,cJ,cJ]
 ·intro i h1 h2
  rw[List.getElem_set]
  have h3:i<n:=by rw[cJ] at h2;exact h2
  have e1:=qF (f:=fun j=>if j=p then x else f j) h3
  rw[bL _ i h2] at e1
  rw[e1]
  split
  ·rename_i h;rw[ai h.symm]
  ·rename_i h
   rw[ah (fun e=>h e.symm)]
   have e2:=qF (f:=f) h3
   rw[bL _ i (by rw[cJ];exact h3)] at e2
   exact e2
theorem lF_take(h:m≤n):(lF n f).take m=lF m f:=by
 unfold lF
 rw[←vf,List.take_range,tf h]
theorem lF_cons:[(x:Int)]++lF n f=lF (n+1) (fun j=>if j=0 then x else f (j - 1)):=by
 unfold lF
 rw[List.range_succ_eq_map,iW,qv]
 rfl
theorem SB:List.replicate n (0:Int)=lF n (fun _=>0):=by
 unfold lF
 induction n with
 |zero=>rfl
 |succ n ih=>rw[List.replicate_succ',ih,vL,iP];rfl
end
abbrev dk(n A:Nat):List Int:=lF n (dg 65536 A)
theorem lf {A j:Nat}:dg 65536 A j<65536:=Ua (by decide)
theorem RE(A:Nat):∃n,szp 65536 A n:=by
 induction A using Nat.strongRecOn with
 |_ A ih=>
  by_cases h:A=0
  ·subst h;exact⟨0,by decide,fun h=>by omega⟩
  ·obtain⟨n,h1,h2⟩:=ih (A / 65536) (by omega)
   refine⟨n+1,?_,fun _=>?_⟩
   ·rw[cz];exact (lR (by decide)).1 h1
   ·rw[vb]
    cases n with
    |zero=>rw[f4];omega
    |succ n=>
     have:=h2 (by omega)
     rw[vb] at this
     rw[cz]
     exact (pN (by decide)).1 this
def sz6(A:Nat):Nat:=Classical.choose (RE A)
theorem zX(A:Nat):szp 65536 A (sz6 A):=E6 (RE A)
theorem jU(A:Nat):A<65536 ^ sz6 A:=(zX A).1
theorem rK {A n:Nat}(h:A<65536 ^ n):sz6 A≤n:=Mb (by decide) (zX A) h
theorem Mc {A n:Nat}(h:szp 65536 A n):n=sz6 A:=RD (by decide) h (zX A)
theorem DH:sz6 0=0:=(Mc ⟨by decide,fun h=>by omega⟩).symm
theorem Da {A:Nat}(h:0<A):0<sz6 A:=by
 rcases sd (sz6 A) with h1|h1
 ·have:=jU A
  rw[h1,f4] at this;omega
 ·exact h1
noncomputable abbrev dl(A:Nat):List Int:=dk (sz6 A) A
theorem Nb(A:Nat):(dl A).length=sz6 A:=cJ
theorem dl_zero:dl 0=[]:=by unfold dl;rw[DH];rfl
theorem Na {A:Nat}:(dl A).length=0↔A=0:=by
 rw[Nb]
 constructor
 ·intro h
  rcases sd A with h1|h1
  ·exact h1
  ·have:=Da h1;omega
 ·rintro rfl;exact DH
theorem vo {n A k:Nat}(hA:A<65536 ^ n):dH (dk n A) (k:Int)=some ((dg 65536 A k:Nat):Int):=by
 unfold dH
 rw[cJ]
 by_cases h:k<n
 ·rw[cy _ _,aB,bW,qF h]
 ·rw[ci _ _,l5 (bH hA (gX (by decide) (by omega)))];rfl
theorem zE {n A:Nat}(hA:A<65536 ^ n)(hn:n<1000000):fh (dk n A)=some (dl A):=by
 obtain⟨x,hl,hx⟩:=vE (b:=lw (dk n A)) (fun s=>∃k:Nat,s=(k:Int)∧k≤n∧A<65536 ^ k) (fun s=>s.toNat) (fun x=>x=((sz6 A:Nat):Int))
  (by
   rintro s ⟨k,rfl,hk,bI⟩
   cases k with
   |zero=>
    right
    refine⟨((0:Nat):Int),?_,?_⟩
    ·dsimp only[lw]
     rw[ci _ _,ab,aF]
    ·show ((0:Nat):Int)=_
     rw[←Mc ⟨bI,fun h=>by omega⟩]
   |succ k=>
    have e:i64.wrap (((k+1:Nat):Int) - 1)=(k:Int):=by rw[bY];omega
    dsimp only[lw]
    rw[cy _ _,e,cJ,aB,ab,bW,qF (by omega),fH]
    by_cases hd:dg 65536 A k=0
    ·left
     refine⟨(k:Int),by rw[ai (by omega)],⟨k,rfl,by omega,?_⟩,by omega⟩
     unfold dg at hd
     have h1:A / 65536 ^ k<65536:=by
      rw[lR (bO (by decide)),bx,←cz];exact bI
     rw[ep h1] at hd
     exact (Ji (bO (by decide))).1 hd
    ·right
     refine⟨((k+1:Nat):Int),by rw[ah (by omega)],?_⟩
     show ((k+1:Nat):Int)=_
     rw[Mc (A:=A) ⟨bI,fun _=>?_⟩]
     rcases dX A (65536 ^ k) with h|h
     ·exact absurd (l5 h) hd
     ·exact h) (n:Int) ⟨n,rfl,ax _,hA⟩
 unfold fh
 have hs:=rK hA
 rw[cJ,hl,hx,ab,aB,subL_to _ _ (by omega),bW,lF_take hs]
theorem pmax {n m A B:Nat}(hA:A<65536 ^ n)(hB:B<65536 ^ m):A<65536 ^ max n m∧B<65536 ^ max n m:=
 ⟨bH hA (gX (by decide) (Nat.le_max_left ..)),bH hB (gX (by decide) (Pg ..))⟩
theorem D3(n m:Nat):max (n:Int) (m:Int)=((max n m:Nat):Int):=by omega
theorem Pz {n m A B:Nat}(hA:A<65536 ^ n)(hB:B<65536 ^ m)(hn:n<100000)(hm:m<100000):kY (dk n A) (dk m B)=some (dl (A+B)):=by
 have hM:max n m<100000:=by omega
 obtain⟨OZ,hB'⟩:=pmax hA hB
 have hl:=rR (b:=ka (dk n A) (dk m B)) (s0:=(([]:List Int),(0:Int),(0:Int))) (fun k=>(dk k (A+B),(((A % 65536 ^ k+B % 65536 ^ k) / 65536 ^ k:Nat):Int),(k:Int))) (max n m+1) (dk (max n m+1) (A+B))
  (by simp only[f4,m9];rfl)
  (fun k hk=>by
   have hc:=oJ (b:=65536) (A:=A) (B:=B) (k:=k) (by decide)
   obtain⟨h1,h2⟩:=pQ (b:=65536) (A:=A) (B:=B) (k:=k) (by decide)
   have ha:=@lf A k
   have hb:=@lf B k
   have hc':=oJ (b:=65536) (A:=A) (B:=B) (k:=k+1) (by decide)
   generalize (A % 65536 ^ k+B % 65536 ^ k) / 65536 ^ k=c at h1 h2 hc ⊢
   generalize (A % 65536 ^ (k+1)+B % 65536 ^ (k+1)) / 65536 ^ (k+1)=c' at h2 hc' ⊢
   dsimp only[ka]
   rw[cJ,cJ,D3,bY,cy _ _,vo hA,ab,vo hB,ab,bY (z:=(dg 65536 A k:Int)+(dg 65536 B k:Int)) (by omega),bY,ab,←kB,←kB,show (65536:Int)=((65536:Nat):Int) from rfl,←tH,←tI,qw (dg 65536 A k+dg 65536 B k),←xW,h1,h2,Al,cJ,aB,bY (z:=(c':Int)) (by omega),bY]
   rfl)
  (by
   dsimp only[ka]
   rw[cJ,cJ,D3,bY,ci _ _])
 unfold kY
 have:A+B<65536 ^ (max n m+1):=by rw[cz];omega
 rw[hl,ab,zE this (by omega),ab]
theorem LL {n m A B:Nat}(hA:A<65536 ^ n)(hB:B<65536 ^ m)(hn:n<100000)(hBA:B≤A):il (dk n A) (dk m B)=some (dl (A - B)):=by
 obtain⟨D,rfl⟩:∃D,A=D+B:=⟨A - B,by omega⟩
 rw[vb]
 have hl:=rR (b:=jv (dk n (D+B)) (dk m B)) (s0:=(([]:List Int),(0:Int),(0:Int))) (fun k=>(dk k D,(((D % 65536 ^ k+B % 65536 ^ k) / 65536 ^ k:Nat):Int),(k:Int))) n (dk n D)
  (by simp only[f4,m9];rfl)
  (fun k hk=>by
   have hc:=oJ (b:=65536) (A:=D) (B:=B) (k:=k) (by decide)
   have hc':=oJ (b:=65536) (A:=D) (B:=B) (k:=k+1) (by decide)
   obtain⟨h1,h2⟩:=pQ (b:=65536) (A:=D) (B:=B) (k:=k) (by decide)
   have ha:=@lf D k
   have hb:=@lf B k
   have hd:=@lf (D+B) k
   generalize hq:(D % 65536 ^ k+B % 65536 ^ k) / 65536 ^ k=c at h1 h2 hc ⊢
   generalize (D % 65536 ^ (k+1)+B % 65536 ^ (k+1)) / 65536 ^ (k+1)=c' at h2 hc' ⊢
   dsimp only[jv]
   rw[cJ,cy _ _,aB,vo hB,ab,bW,qF hk,bY (z:=(dg 65536 (D+B) k:Int) - (dg 65536 B k:Int)) (by omega),bY,ab]
   by_cases hn0:(dg 65536 (D+B) k:Int) - (dg 65536 B k:Int) - (c:Int)<0
   ·obtain rfl:c'=1:=by omega
    rw[cy _ _ hn0,ab,bY]
    dsimp only
    rw[show (dg 65536 (D+B) k:Int) - (dg 65536 B k:Int) - (c:Int)+65536=(dg 65536 D k:Int) from by omega,Al,cJ,aB,bY]
    rfl
   ·obtain rfl:c'=0:=by omega
    rw[ci _ _ hn0,ab]
    dsimp only
    rw[show (dg 65536 (D+B) k:Int) - (dg 65536 B k:Int) - (c:Int)=(dg 65536 D k:Int) from by omega,Al,cJ,aB,bY]
    rfl)
  (by
   dsimp only[jv]
   rw[cJ,ci _ _])
 unfold il
 rw[hl,ab,zE (by omega) (by omega),ab]
theorem Ai {A B k:Nat}(he:A / 65536 ^ (k+1)=B / 65536 ^ (k+1))(h:dg 65536 A k<dg 65536 B k):A<B:=by
 have e1:=cw (b:=65536) (A:=A) (k:=k)
 have e2:=cw (b:=65536) (A:=B) (k:=k)
 have h1:A / 65536 ^ k<B / 65536 ^ k:=by
  rw[e1,e2,he];exact E8 h _
 rcases dX A B with h2|h2
 ·exact h2
 ·exact absurd (NG h2) (Nat.not_le.2 h1)
theorem G_dless {n m A B:Nat}(hA:A<65536 ^ n)(hB:B<65536 ^ m)(hn:n<100000)(hm:m<100000):mI (dk n A) (dk m B)=some (decide (A<B)):=by
 obtain⟨OZ,hB'⟩:=pmax hA hB
 obtain⟨x,hl,hx⟩:=vE (b:=lx (dk n A) (dk m B)) (fun s=>∃k:Nat,s=(k:Int) - 1∧k≤max n m∧A / 65536 ^ k=B / 65536 ^ k) (fun s=>(s+1).toNat) (fun x=>match x with| .inl r=>r=decide (A<B)| .inr _=>A=B)
  (by
   rintro s ⟨k,rfl,hk,he⟩
   cases k with
   |zero=>
    right
    refine⟨(Sum.inr ():Bool⊕Unit),?_,?_⟩
    ·dsimp only[lx]
     rw[ci _ _]
    ·simpa using he
   |succ k=>
    have e:((k+1:Nat):Int) - 1=(k:Int):=by omega
    rw[e]
    dsimp only[lx]
    rw[cy _ _,vo hA,ab,vo hB,ab]
    by_cases hd:dg 65536 A k=dg 65536 B k
    ·left
     refine⟨(k:Int) - 1,?_,⟨k,rfl,by omega,?_⟩,by omega⟩
     ·rw[ci _ _ (by rw[hd];simp),bY]
     ·rw[cw (b:=65536) (A:=A) (k:=k),cw (b:=65536) (A:=B) (k:=k),he,hd]
    ·right
     refine⟨(Sum.inl (decide (A<B)):Bool⊕Unit),?_,rfl⟩
     rw[cy _ _,ab,ab]
     congr 3
     refine li.2 ?_
     rcases Nat.lt_or_gt_of_ne hd with h|h
     ·have:=Ai he h
      exact⟨fun _=>this,fun _=>by omega⟩
     ·have:=Ai he.symm h
      exact⟨fun h'=>by omega,fun h'=>by omega⟩) (((max n m:Nat):Int) - 1) ⟨max n m,rfl,ax _,by rw[eC OZ,eC hB']⟩
 unfold mI
 rw[cJ,cJ,D3,bY,ab,hl,ab]
 cases x with
 |inl r=>obtain rfl:r=_:=hx;rfl
 |inr u=>
  obtain rfl:A=B:=hx
  simp
section
variable {b:Nat} {f g:Nat→Nat}
theorem J9:∀n,(∀j,j<n→f j=g j)→gH b f n=gH b g n
 |0,_=>rfl
 |n+1,h=>by
  unfold gH
  rw[J9 n fun j hj=>h j (by omega),h n (by omega)]
theorem J7 {q x:Nat}:∀n,q<n→gH b (fun j=>if j=q then f j+x else f j) n=gH b f n+x*b ^ q
 |0,h=>by omega
 |n+1,h=>by
  unfold gH
  by_cases hq:q=n
  ·subst hq
   rw[ai rfl,J9 q (g:=f) fun j hj=>ah (by omega),bX];omega
  ·rw[ah (by omega),J7 n (by omega)];omega
theorem N9 {A:Nat}:∀n,gH b (dg b A) n=A % b ^ n
 |0=>by simp[gH,m9]
 |n+1=>by
  unfold gH
  rw[N9 n,g6,bx]
theorem J8(k:Nat):∀n,k≤n→gH b f n % b ^ k=gH b f k % b ^ k
 |0,h=>by
  obtain rfl:k=0:=by omega
  rfl
 |n+1,h=>by
  by_cases hk:k=n+1
  ·rw[hk]
  ·have wd:k≤n:=by omega
   obtain⟨d,rfl⟩:∃d,n=k+d:=⟨n - k,by omega⟩
   rw[←J8 k (k+d) wd]
   show (gH b f (k+d)+f (k+d)*b ^ (k+d)) % b ^ k=_
   rw[ie,xa,Ca]
theorem N8 {M:Nat}(hb:2≤b):∀n,(∀j,j<n→f j≤M)→gH b f n≤M*b ^ n
 |0,_=>by simp[gH]
 |n+1,h=>by
  have ih:=N8 hb n fun j hj=>h j (by omega)
  have h1:f n*b ^ n≤M*b ^ n:=cK _ (h n (by omega))
  have h2:M*b ^ n*2≤M*b ^ n*b:=AD _ hb
  unfold gH
  rw[cz,←e7]
  omega
theorem P6 {n k:Nat}(hb:0<b)(hk:k<n):(gH b f k / b ^ k+f k) % b=dg b (gH b f n) k∧(gH b f k / b ^ k+f k) / b=gH b f (k+1) / b ^ (k+1):=by
 have hp:0<b ^ k:=bO hb
 have e:gH b f (k+1) / b ^ k=gH b f k / b ^ k+f k:=by
  show (gH b f k+f k*b ^ k) / b ^ k=_
  rw[Nm _ _ hp]
 refine⟨?_,?_⟩
 ·rw[←e,←nM (A:=gH b f n) (k:=k+1) (ek _),J8 (k+1) n hk,nM (ek _)]
  rfl
 ·rw[←e,gY,←cz]
end
theorem PT {n m A B i:Nat}(hi:i<n)(hn:n<1000)(hm:m<1000)(hB:B<65536 ^ m){R:Nat}(hR:R<65536 ^ (n+m+1)):
  ∃f:Nat→Nat,bq (ju (dk n A) (dk m B) (i:Int)) ((0:Int),dk (n+m+1) R)=some (lF (n+m+1) f)∧gH 65536 f (n+m+1)=R+dg 65536 A i*B*65536 ^ i∧∀j,f j≤65535+65535*65535:=by
 have ha:=@lf A i
 have eP:i64.wrap ((i64.wrap (((dk n A).length:Int)+((dk m B).length:Int)))+(1:Int))=((n+m+1:Nat):Int):=by
  rw[cJ,cJ,bY (z:=(n:Int)+(m:Int)) (by omega),bY];omega
 obtain⟨x,hl,f,rfl,h1,h2⟩:=vE (b:=ju (dk n A) (dk m B) (i:Int)) (fun s=>∃(k:Nat) (f:Nat→Nat),s=((k:Int),lF (n+m+1) f)∧k≤m∧gH 65536 f (n+m+1)=R+dg 65536 A i*(B % 65536 ^ k)*65536 ^ i∧(∀j,f j≤65535+65535*65535)∧∀j,i+k≤j→f j≤65535) (fun s=>m - s.1.toNat)
  (fun x=>∃f:Nat→Nat,x=lF (n+m+1) f∧gH 65536 f (n+m+1)=R+dg 65536 A i*B*65536 ^ i∧∀j,f j≤65535+65535*65535)
  (by
   rintro s ⟨k,f,rfl,hk,hv,hf,CY⟩
   dsimp only[ju]
   rw[eP,bW,cJ,cJ,cJ]
   by_cases hkm:k<m
   ·left
    have eik:i64.wrap ((i:Int)+(k:Int))=((i+k:Nat):Int):=by rw[bY];omega
    have hb:=@lf B k
    have FX:dg 65536 A i*dg 65536 B k≤65535*65535:=kD (by omega) (by omega)
    have hfk:=CY (i+k) (ax _)
    rw[cy _ _,eik,aB,aB,aB,aB,ab,bW,bW,bW,qF (by omega),qF hi,qF hkm,←ig,bY (z:=((dg 65536 A i*dg 65536 B k:Nat):Int)) (by omega),←kB,bY (z:=((f (i+k)+dg 65536 A i*dg 65536 B k:Nat):Int)) (by omega),MC,bY]
    have e:lF (n+m+1) (fun j=>if j=i+k then f (i+k)+dg 65536 A i*dg 65536 B k else f j)=lF (n+m+1) (fun j=>if j=i+k then f j+dg 65536 A i*dg 65536 B k else f j):=uL fun j _=>by
     by_cases h:j=i+k
     ·rw[ai h,ai h,h]
     ·rw[ah h,ah h]
    refine⟨_,rfl,⟨k+1,(fun j=>if j=i+k then f j+dg 65536 A i*dg 65536 B k else f j),by rw[e];rfl,by omega,?_,fun j=>?_,fun j hj=>?_⟩,by show m - ((k:Int)+1).toNat<m - (k:Int).toNat;omega⟩
    ·rw[J7 _ (by omega),hv,g6,vd,bX,ie]
     simp only[e7,xa,bx,xW]
    ·dsimp only
     by_cases h:j=i+k
     ·rw[ai h,h];omega
     ·rw[ah h];exact hf j
    ·dsimp only
     rw[ah (by omega)];exact CY j (by omega)
   ·right
    obtain rfl:k=m:=by omega
    refine⟨_,by rw[ci _ _],f,rfl,?_,hf⟩
    rw[hv,ep hB])
  ((0:Int),dk (n+m+1) R) ⟨0,dg 65536 R,rfl,cr _,by rw[N9,f4,m9,Nat.mul_zero,gL,ep hR,iM],fun j=>by have:=@lf R j;omega,fun j _=>by have:=@lf R j;omega⟩
 exact⟨f,hl,h1,h2⟩
theorem Ma {n m A B:Nat}(hn:n<1000)(hm:m<1000){f:Nat→Nat}(hf:∀j,f j≤65535+65535*65535):
  bq (gK (dk n A) (dk m B)) ((0:Int),(0:Int),lF (n+m+1) f)=some (dk (n+m+1) (gH 65536 f (n+m+1))):=by
 have eP:i64.wrap ((i64.wrap (((dk n A).length:Int)+((dk m B).length:Int)))+(1:Int))=((n+m+1:Nat):Int):=by
  rw[cJ,cJ,bY (z:=(n:Int)+(m:Int)) (by omega),bY];omega
 have hl:=rR (b:=gK (dk n A) (dk m B)) (s0:=((0:Int),(0:Int),lF (n+m+1) f)) (fun k=>(((gH 65536 f k / 65536 ^ k:Nat):Int),(k:Int),lF (n+m+1) (fun j=>if j<k then dg 65536 (gH 65536 f (n+m+1)) j else f j))) (n+m+1) (lF (n+m+1) (fun j=>if j<n+m+1 then dg 65536 (gH 65536 f (n+m+1)) j else f j))
  (by
   rw[show gH 65536 f 0 / 65536 ^ 0=0 from by simp[gH],uL (n:=n+m+1) (f:=fun j=>if j<0 then dg 65536 (gH 65536 f (n+m+1)) j else f j) (g:=f) fun j _=>ah (by omega)]
   rfl)
  (fun k hk=>by
   obtain⟨h1,h2⟩:=P6 (b:=65536) (f:=f) (n:=n+m+1) (k:=k) (by decide) hk
   have hc:gH 65536 f k / 65536 ^ k≤65535+65535*65535:=by
    have:=N8 (b:=65536) (f:=f) (by decide) k fun j _=>hf j
    exact Nat.div_le_of_le_mul (by rw[bx];exact this)
   have hfk:=hf k
   generalize gH 65536 f k / 65536 ^ k=c at h1 h2 hc ⊢
   generalize gH 65536 f (k+1) / 65536 ^ (k+1)=c' at h2 ⊢
   dsimp only[gK]
   rw[eP,bW,cJ,cy _ _,aB,ab,aB,bW,qF hk,ah (pM _),←kB,qw (f k),bY (z:=((c+f k:Nat):Int)) (by omega),show (65536:Int)=((65536:Nat):Int) from rfl,←tH,←tI,h1,h2,bY (z:=(c':Int)) (by omega),bY,MC]
   have e:lF (n+m+1) (fun j=>if j=k then dg 65536 (gH 65536 f (n+m+1)) k else if j<k then dg 65536 (gH 65536 f (n+m+1)) j else f j)=lF (n+m+1) (fun j=>if j<k+1 then dg 65536 (gH 65536 f (n+m+1)) j else f j):=uL fun j _=>by
    by_cases h:j=k
    ·rw[ai h,ai (by omega),h]
    ·rw[ah h]
     by_cases h3:j<k
     ·rw[ai h3,ai (by omega)]
     ·rw[ah h3,ah (by omega)]
   rw[e]
   rfl)
  (by
   dsimp only[gK]
   rw[eP,bW,ci _ _])
 rw[hl]
 congr 1
 exact uL fun j hj=>ai hj
theorem VE {n m A B:Nat}(hA:A<65536 ^ n)(hB:B<65536 ^ m)(hn:n<1000)(hm:m<1000):lK (dk n A) (dk m B)=some (dl (A*B)):=by
 have eP:i64.wrap ((i64.wrap (((dk n A).length:Int)+((dk m B).length:Int)))+(1:Int))=((n+m+1:Nat):Int):=by
  rw[cJ,cJ,bY (z:=(n:Int)+(m:Int)) (by omega),bY];omega
 have hbnd:∀i,A % 65536 ^ i*B<65536 ^ (n+m+1):=fun i=>by
  have h1:A % 65536 ^ i*B≤A*B:=cK _ (Nat.mod_le _ _)
  have h2:A*B<65536 ^ n*65536 ^ m:=B7 hA hB
  have h3:65536 ^ n*65536 ^ m≤65536 ^ (n+m+1):=by rw[←ie];exact gX (by decide) (by omega)
  omega
 have hl:=rR (b:=j9 (dk n A) (dk m B)) (s0:=((0:Int),List.replicate (n+m+1) (0:Int))) (fun i=>((i:Int),dk (n+m+1) (A % 65536 ^ i*B))) n (dk (n+m+1) (A % 65536 ^ n*B))
  (by
   rw[SB,f4,m9,gL]
   have:dk (n+m+1) 0=lF (n+m+1) (fun _=>0):=uL fun j _=>by unfold dg;simp
   rw[this];rfl)
  (fun i hi=>by
   obtain⟨f,h1,h2,h3⟩:=PT (A:=A) (i:=i) hi hn hm hB (hbnd i)
   dsimp only[j9]
   rw[cJ,cy _ _,h1,ab,Ma hn hm h3,ab,h2,bY,g6,bX]
   have:65536 ^ i*dg 65536 A i*B=dg 65536 A i*B*65536 ^ i:=by simp only[e7,xa,bx]
   rw[this]
   rfl)
  (by
   dsimp only[j9]
   rw[cJ,ci _ _])
 unfold lK
 rw[eP,aB,bW,hl,ab,cJ,aB rfl,ep hA,zE (by have:=hbnd n;rwa[ep hA] at this) (by omega),ab]
end
end
end Go.Proofs.YtaedcknhkjpmlaaGreat
