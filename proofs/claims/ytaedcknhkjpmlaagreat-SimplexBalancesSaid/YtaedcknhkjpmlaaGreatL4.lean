/-
Lemmas. Conditions: none.
-/
import Derived.Test.YtaedcknhkjpmlaaGreatL3
set_option linter.all false
set_option maxRecDepth 100000
set_option maxHeartbeats 4000000
namespace Go.Proofs.YtaedcknhkjpmlaaGreat
open Go.RowKit Go.IntKind Tryz
noncomputable section
def kB(aK:ap):Bool×Int→Option ((Bool×Int)⊕Bool):=fun (aU,bu)=>cnd (decide (bu<(16:Int))) (bnd (S:=Bool) (cnd aU (gd (0≤bu∧bu<16) (some (decide (((aK.vW)[(bu).toNat]!)=(0:Int))))) (some (false))) fun aY=>some (.inl (aY,i64.wrap (bu+(1:Int))))) (some (.inr aU))
def qw(aK:ap):Option Bool:=bnd (bt (kB aK) (true,(0:Int))) fun bh=>cnd aK.vBad (bnd (S:=Bool) (cnd bh (some (!aK.vNeg)) (some (false))) fun kN=>some kN) (bnd (S:=Bool) (cnd (!bh) (some (true)) (some (!aK.vNeg))) fun HU=>some HU)
theorem Gx {aK:ap}{r:Bool}(h:qw aK=some r):ar prog 177 [dG aq aK] (dB r):=by
 refine bk (rs:=[.tmp 2]) (fun cx hx h0=>?_) func177
 unfold qw at h
 iterate 2 refine ra hx ?_
 refine AW.seq (ra hx ?_)
 refine AW.block ?_
 obtain⟨bh,hy,h⟩:=ae h
 refine lp (S:=Bool×Int) (X:=Bool) (fun (aU,bu)=>[(1,.pt 0 0),(3,dB aU),(4,dI .i64 bu)]) (fun (aU,bu)=>⟨[(0,dC (aq.f aK))],[],1⟩) (PE cx (.exit 0) (fun bh=>[(1,.pt 0 0),(3,dB bh)]) fun bh=>⟨[(0,dC (aq.f aK))],[],1⟩) hy ?_ ?_ ?_
 exact wk0 h0 [0]
 clear hy h
 rintro⟨aU,bu⟩ y h
 dsimp only[kB] at h
 refine AW.seq (ra hx ?_)
 refine cdh h rfl (fun fT h=>?_) (fun fT h=>?_)
 refine AW.skip (AW.seq ?_)
 obtain⟨aY,hy,h⟩:=ae h
 refine jn ((PE cx .normal (fun aY=>[(1,.pt 0 0),(3,dB aY),(4,dI .i64 bu)]) fun aY=>⟨[(0,dC (aq.f aK))],[],1⟩) aY) ?_ ?_
 replace h:=hy
 refine AW.block (rq hx fun K hK=>?_)
 refine mbi ?_
 rcases aE h with⟨xf,h⟩|⟨xf,h⟩
 iterate 2 refine ga xf ?_
 obtain⟨hc3,h⟩:=aA h
 refine nbi hK ?_
 exact pe1 h h0 [0]
 refine nbi hK ?_
 exact pe1 h h0 [0]
 refine lw0 ?_
 refine rb hx ?_
 exact pel h h0 [0]
 exact AW.exit (per h h0 [0])
 refine lw0 ?_
 refine AW.seq (rai hx ?_)
 refine cdh h rfl (fun ss h=>?_) (fun ss h=>?_)
 refine AW.seq ?_
 obtain⟨kN,hy,h⟩:=ae h
 refine jn ((PE cx .normal (fun kN=>[(2,dB kN)]) fun kN=>⟨[],[],0⟩) kN) ?_ ?_
 replace h:=hy
 refine rq hx fun K hK=>?_
 refine mbi ?_
 rcases aE h with⟨uw,h⟩|⟨uw,h⟩
 refine nbi hK ?_
 exact pe1 h h0 []
 refine nbi hK ?_
 exact pe1 h h0 []
 refine lw0 ?_
 exact AW.ret (rtv h)
 refine AW.skip (AW.seq ?_)
 obtain⟨HU,hy,h⟩:=ae h
 refine jn ((PE cx .normal (fun HU=>[(2,dB HU)]) fun HU=>⟨[],[],0⟩) HU) ?_ ?_
 replace h:=hy
 refine rq hx fun K hK=>?_
 refine mbi ?_
 rcases aE h with⟨n0,h⟩|⟨n0,h⟩
 refine nbi hK ?_
 exact pe1 h h0 []
 refine nbi hK ?_
 exact pe1 h h0 []
 refine lw0 ?_
 exact AW.ret (rtv h)
def bp(aK:ap):Option Bool:=bnd (qw aK) fun x1=>bnd (S:=Bool) (cnd x1 (some (!aK.vBad)) (some (false))) fun ib=>some ib
theorem cD {aK:ap}{r:Bool}(h:bp aK=some r):ar prog 142 [dG aq aK] (dB r):=by
 refine bk (rs:=[.tmp 2]) (fun cx hx h0=>?_) func142
 unfold bp at h
 refine ra hx ?_
 refine rs hx fun K hK=>?_
 refine mbi ?_
 refine scb h Gx fun x1 h=>?_
 refine nbi hK ?_
 refine AW.seq ?_
 obtain⟨ib,hy,h⟩:=ae h
 refine jn ((PE cx .normal (fun ib=>[(2,dB ib)]) fun ib=>⟨[],[],0⟩) ib) ?_ ?_
 replace h:=hy
 refine rq hx fun K hK=>?_
 refine mbi ?_
 rcases aE h with⟨fI,h⟩|⟨fI,h⟩
 refine nbi hK ?_
 exact pe1 h h0 []
 refine nbi hK ?_
 exact pe1 h h0 []
 refine lw0 ?_
 exact AW.ret (rtv h)
def mT(aK:ap):Int→Option (Int⊕((Int×Bool)⊕Unit)):=fun aY=>cnd (decide (aY<(16:Int))) (gd (0≤aY∧aY<16) (cnd (decide (((aK.vW)[(aY).toNat]!)≠(0:Int))) (some (.inr (.inl ((0:Int),false)))) (some (.inl (i64.wrap (aY+(1:Int))))))) (some (.inr (.inr ())))
def eW(aK:ap):Option (Int×Bool):=bnd (bp aK) fun x1=>bnd (S:=Bool) (cnd (!x1) (some (true)) (some (decide ((1073741824:Int)≤((aK.vW)[((1:Int)).toNat]!))))) fun aD=>cnd aD (some ((0:Int),false)) (bnd (bt (mT aK) (2:Int)) fun y11=>match y11 with| .inl r=>some r| .inr ()=>bnd (some (i64.wrap ((i64.wrap ((i64.wrap ((aK.vW)[((1:Int)).toNat]!))*(4294967296:Int)))+(i64.wrap ((aK.vW)[((0:Int)).toNat]!))))) fun qB=>cnd aK.vNeg (some (i64.wrap (0 - qB),true)) (some (qB,true)))
theorem js {aK:ap}{r:Int×Bool}(h:eW aK=some r):ar prog 166 [dG aq aK] (.tu [dI .i64 r.1,dB r.2]):=by
 refine bk (rs:=[.tmp 2,.tmp 3]) (fun cx hx h0=>?_) func166
 unfold eW at h
 refine ra hx ?_
 refine rs hx fun K hK=>?_
 refine mbi ?_
 refine scb h cD fun x1 h=>?_
 refine nbi hK ?_
 iterate 2 refine AW.seq ?_
 obtain⟨aD,hy,h⟩:=ae h
 refine jn ((PE cx .normal (fun aD=>[(1,.pt 0 0),(16,dB aD)]) fun aD=>⟨[(0,dC (aq.f aK))],[],1⟩) aD) ?_ ?_
 replace h:=hy
 refine rq hx fun K hK=>?_
 refine mbi ?_
 rcases aE h with⟨fI,h⟩|⟨fI,h⟩
 refine nbi hK ?_
 exact pe1 h h0 [0]
 refine ga fI ?_
 refine g1 fI (wv (by decide:0≤(1:Int)∧(1:Int)<((16:Nat):Int)) c5 bX) ?_
 refine nbi hK ?_
 exact pe1 h h0 [0]
 refine lw0 ?_
 refine cdh h rfl (fun qV h=>?_) (fun qV h=>?_)
 refine ra hx ?_
 refine AW.ret ?_
 cases h
 exact rv2
 refine AW.skip (AW.seq (ra hx ?_))
 refine AW.block ?_
 obtain⟨y,hy,h⟩:=ae h
 refine lp (S:=Int) (X:=(Int×Bool)⊕Unit) (fun aY=>[(1,.pt 0 0),(5,dI .i64 aY)]) (fun aY=>⟨[(0,dC (aq.f aK))],[],1⟩) (PS (PR [.tmp 2,.tmp 3] fun r=>.tu [dI .i64 r.1,dB r.2]) (PE cx (.exit 0) (fun ()=>[(1,.pt 0 0)]) fun ()=>⟨[(0,dC (aq.f aK))],[],1⟩)) hy ?_ ?_ ?_
 exact wk0 h0 [0]
 clear hy h
 rintro aY y h
 dsimp only[mT] at h
 refine AW.seq (ra hx ?_)
 refine cdh h rfl (fun ss h=>?_) (fun ss h=>?_)
 refine AW.skip (AW.seq (AW.block (rs hx fun K hK=>?_)))
 iterate 2 refine sa ?_
 obtain⟨hc8,h⟩:=aA h
 refine nbi hK ?_
 refine cdh h rfl (fun n0 h=>?_) (fun n0 h=>?_)
 refine ra hx ?_
 refine AW.ret ?_
 cases h
 refine PS.r ⟨by nofun,PS.l (PR.i ?_)⟩
 exact rv2
 refine AW.skip (rb hx ?_)
 exact pel h h0 [0]
 exact AW.exit (peq h h0 [0])
 rcases y with r|⟨⟩
 rintro ex tm' hp' ⟨rfl,hw⟩
 cases h
 exact hw
 refine lwr ?_
 refine rs hx fun K hK=>?_
 refine sa ?_
 refine s1 (wv (by decide:0≤(1:Int)∧(1:Int)<((16:Nat):Int)) c5 bX) ?_
 iterate 4 refine sbi ?_
 refine s1 (wv (by decide:0≤(0:Int)∧(0:Int)<((16:Nat):Int)) c5 bX) ?_
 iterate 3 refine sbi ?_
 obtain⟨qB,zJ,h⟩:=ae h
 replace zJ:=bD zJ
 refine s2 (d2:=dI .i64 qB) lP (gG (congrArg (dI .i64) zJ)) ?_
 refine nl hK ?_
 refine AW.seq (rai hx ?_)
 refine cdh h rfl (fun tS h=>?_) (fun tS h=>?_)
 refine ra hx ?_
 refine AW.ret ?_
 cases h
 exact rv2
 refine AW.skip (ra hx ?_)
 refine AW.ret ?_
 cases h
 exact rv2
def lL(eE:List Int):Int→Option (Int⊕Int):=fun aD=>bnd (S:=Bool) (cnd (decide ((0:Int)<aD)) (gd (0≤i64.wrap (aD - (1:Int))∧i64.wrap (aD - (1:Int))<((eE).length:Int)) (some (decide (((eE)[(i64.wrap (aD - (1:Int))).toNat]!)=(0:Int))))) (some (false))) fun oF=>cnd oF (some (.inl (i64.wrap (aD - (1:Int))))) (some (.inr aD))
def fG(eE:List Int):Option (List Int):=bnd (bt (lL eE) ((eE).length:Int)) fun pm=>gd (0≤(0:Int)∧(0:Int)≤pm∧pm≤((eE).length:Int)) (some (zy eE (0:Int) pm))
theorem lh {eE:List Int}{r:List Int}(h:fG eE=some r):ar prog 175 [dL (cI .i64) eE] (dL (cI .i64) r):=by
 refine bk (rs:=[.tmp 2]) (fun cx hx h0=>?_) func175
 unfold fG at h
 refine rs hx fun K hK=>?_
 refine s1 (d:=dO 0 (cI .i64) ([]:List Int)) (gi c9 d8) ?_
 refine nl hK ?_
 refine ra hx ?_
 refine AW.seq (AW.block ?_)
 obtain⟨pm,hy,h⟩:=ae h
 refine lp (S:=Int) (X:=Int) (fun aD=>[(0,dL (cI .i64) eE),(3,dI .i64 aD)]) (fun aD=>⟨[],[],0⟩) (PE cx (.exit 0) (fun pm=>[(0,dL (cI .i64) eE),(3,dI .i64 pm)]) fun pm=>⟨[],[],0⟩) hy ?_ ?_ ?_
 exact wk0 h0 []
 clear hy h
 rintro aD y h
 dsimp only[lL] at h
 iterate 2 refine AW.seq ?_
 obtain⟨oF,hy,h⟩:=ae h
 refine jn ((PE cx .normal (fun oF=>[(0,dL (cI .i64) eE),(3,dI .i64 aD),(15,dB oF)]) fun oF=>⟨[],[],0⟩) oF) ?_ ?_
 replace h:=hy
 refine rq hx fun K hK=>?_
 refine mbi ?_
 rcases aE h with⟨fT,h⟩|⟨fT,h⟩
 iterate 3 refine ga fT ?_
 obtain⟨rA,h⟩:=aA h
 have yv:(i64.wrap (aD - (1:Int))).toNat<(eE).length:=by omega
 refine gbi ?_
 refine g1 fT (ze (c:=(cI .i64)) (l:=eE) (n:=(i64.wrap (aD - (1:Int))).toNat) (o:=0) d8 yv) ?_
 refine nbi hK ?_
 exact pe1 h h0 []
 refine nbi hK ?_
 exact pe1 h h0 []
 refine lw0 ?_
 refine cdh h rfl (fun su h=>?_) (fun su h=>?_)
 refine AW.skip (AW.block (rb hx ?_))
 exact pel h h0 []
 exact AW.exit (per h h0 [])
 refine lw0 ?_
 refine rs hx fun K hK=>?_
 iterate 2 refine sa ?_
 obtain⟨hc7,h⟩:=aA h
 refine s1 (T_sl (c:=(cI .i64)) (l:=eE) (a:=(0:Int)) (b:=pm) hc7 c9 d8) ?_
 refine nbi hK ?_
 exact AW.ret (rtv h)
def fK :Option ap:=some (⟨true,false,(er)⟩:ap)
theorem kS  {r:ap}(h:fK=some r):ar prog 124 [] (dG aq r):=by
 refine bk (rs:=[.cell 0 41]) (fun cx hx h0=>?_) func124
 unfold fK at h
 refine rai hx ?_
 refine rs hx fun K hK=>?_
 refine s1 (d:=dG aq (⟨true,false,(er)⟩:ap)) (ij (FL.cons (y:=true) (tq ct) rfl rfl (FL.nil _)) fy) ?_
 refine nbi hK ?_
 exact AW.ret (rtv h)
def f8(x1:List Int):Int×ap→Option ((Int×ap)⊕ap):=fun (a9,mM)=>cnd (decide (a9<((x1).length:Int))) (bnd (S:=ap) (cnd (decide ((Int.tmod a9 (2:Int))=(0:Int))) (gd (0≤i64.wrap (Int.tdiv a9 (2:Int))∧i64.wrap (Int.tdiv a9 (2:Int))<16) (gd (0≤a9∧a9<((x1).length:Int)) (gd (0≤i64.wrap (Int.tdiv a9 (2:Int))∧i64.wrap (Int.tdiv a9 (2:Int))<16) (bnd (some ((⟨mM.vBad,mM.vNeg,(mM.vW).set! (i64.wrap (Int.tdiv a9 (2:Int))).toNat (u32.wrap (((mM.vW)[(i64.wrap (Int.tdiv a9 (2:Int))).toNat]!)+(u32.wrap ((x1)[(a9).toNat]!))))⟩:ap))) fun sZ=>some (sZ))))) (gd (0≤i64.wrap (Int.tdiv a9 (2:Int))∧i64.wrap (Int.tdiv a9 (2:Int))<16) (gd (0≤a9∧a9<((x1).length:Int)) (gd (0≤i64.wrap (Int.tdiv a9 (2:Int))∧i64.wrap (Int.tdiv a9 (2:Int))<16) (bnd (some ((⟨mM.vBad,mM.vNeg,(mM.vW).set! (i64.wrap (Int.tdiv a9 (2:Int))).toNat (u32.wrap (((mM.vW)[(i64.wrap (Int.tdiv a9 (2:Int))).toNat]!)+(u32.wrap ((u32.wrap ((x1)[(a9).toNat]!))*(65536:Int)))))⟩:ap))) fun x26=>some (x26)))))) fun uM=>some (.inl (i64.wrap (a9+(1:Int)),uM))) (some (.inr mM))
def cp(Az:Bool)(eE:List Int):Option ap:=bnd (fG eE) fun x1=>cnd (decide ((32:Int)<((x1).length:Int))) (bnd (fK) fun x4=>some x4) (bnd (S:=ap) (cnd Az (bnd (some ((⟨false,decide ((0:Int)<((x1).length:Int)),(er)⟩:ap))) fun x7=>some (x7)) (some ((⟨false,false,(er)⟩:ap)))) fun eF=>bnd (bt (f8 x1) ((0:Int),eF)) fun eY=>some eY)
theorem eM {Az:Bool}{eE:List Int}{r:ap}(h:cp Az eE=some r):ar prog 140 [dB Az,dL (cI .i64) eE] (dG aq r):=by
 refine bk (rs:=[.cell 4 41]) (fun cx hx h0=>?_) func140
 unfold cp at h
 refine rai hx ?_
 refine rs hx fun K hK=>?_
 refine sa ?_
 refine scb h lh fun x1 h=>?_
 refine nbi hK ?_
 refine AW.seq (ra hx ?_)
 refine cdh h rfl (fun fI h=>?_) (fun fI h=>?_)
 refine rs hx fun K hK=>?_
 refine scb h kS fun x4 h=>?_
 refine nbi hK ?_
 exact AW.ret (rtv h)
 refine AW.skip (AW.seq ?_)
 obtain⟨eF,hy,h⟩:=ae h
 refine jn ((PE cx .normal (fun eF=>[(4,.pt 0 0),(5,dL (cI .i64) x1),(6,.pt 1 0)]) fun eF=>⟨[(0,dC (aq.f ct)),(1,dC (aq.f eF))],[],2⟩) eF) ?_ ?_
 replace h:=hy
 refine rq hx fun K hK=>?_
 refine mbi ?_
 rcases aE h with⟨qV,h⟩|⟨qV,h⟩
 iterate 3 refine ga qV ?_
 refine sbi ?_
 refine s1 (d:=dG aq (⟨false,decide ((0:Int)<((x1).length:Int)),(er)⟩:ap)) (ij (FL.cons (y:=decide ((0:Int)<((x1).length:Int))) (oe ct) rfl rfl (FL.nil _)) fy) ?_
 refine sbi ?_
 obtain⟨x7,SZ,h⟩:=ae h
 replace SZ:=bD SZ
 refine s0 (oa (b':=(⟨false,decide ((0:Int)<((x1).length:Int)),(er)⟩:ap)) (b9.id _ _) fy SZ) ?_
 refine nl hK ?_
 exact pe1 h h0 [0,1]
 iterate 3 refine Es rfl rfl qV ?_
 refine sbi ?_
 refine s1 (d:=dG aq ct) (ij (FL.cons (y:=false) (oe ct) rfl rfl (FL.nil _)) fy) ?_
 refine nbi hK ?_
 exact pe1 h h0 [0,1]
 refine lw0 ?_
 refine AW.seq (ra hx ?_)
 refine AW.block ?_
 obtain⟨eY,hy,h⟩:=ae h
 refine lp (S:=Int×ap) (X:=ap) (fun (a9,mM)=>[(4,.pt 0 0),(5,dL (cI .i64) x1),(6,.pt 1 0),(7,dI .i64 a9)]) (fun (a9,mM)=>⟨[(0,dC (aq.f ct)),(1,dC (aq.f mM))],[],2⟩) (PE cx (.exit 0) (fun eY=>[(4,.pt 0 0),(6,.pt 1 0)]) fun eY=>⟨[(0,dC (aq.f ct)),(1,dC (aq.f eY))],[],2⟩) hy ?_ ?_ ?_
 exact wk0 h0 [0,1]
 clear hy h
 rintro⟨a9,mM⟩ y h
 dsimp only[f8] at h
 refine AW.seq (ra hx ?_)
 refine cdh h rfl (fun n0 h=>?_) (fun n0 h=>?_)
 refine AW.skip (AW.seq ?_)
 obtain⟨uM,hy,h⟩:=ae h
 refine jn ((PE cx .normal (fun uM=>[(4,.pt 0 0),(5,dL (cI .i64) x1),(6,.pt 1 0),(7,dI .i64 a9)]) fun uM=>⟨[(0,dC (aq.f ct)),(1,dC (aq.f uM))],[],2⟩) uM) ?_ ?_
 replace h:=hy
 refine AW.block (ra hx ?_)
 refine cdh h rfl (fun ux h=>?_) (fun ux h=>?_)
 refine rqd [] hx fun K hK=>?_
 iterate 5 refine sa ?_
 obtain⟨hc12,h⟩:=aA h
 iterate 4 refine sbi ?_
 obtain⟨hc14,h⟩:=aA h
 have hn15:(a9).toNat<(x1).length:=by omega
 refine sbi ?_
 refine s1 (ze (c:=(cI .i64)) (l:=x1) (n:=(a9).toNat) (o:=0) d8 hn15) ?_
 iterate 3 refine sa ?_
 obtain⟨QP,h⟩:=aA h
 have Tu:(i64.wrap (Int.tdiv a9 (2:Int))).toNat<16:=by omega
 refine sbi ?_
 obtain⟨sZ,EE,h⟩:=ae h
 replace EE:=bD EE
 refine s0 (oa (b':=u32.wrap (((mM.vW)[(i64.wrap (Int.tdiv a9 (2:Int))).toNat]!)+(u32.wrap ((x1)[(a9).toNat]!)))) (b9.comp (od mM) (b9.vec (cI .u32) mM.vW (i64.wrap (Int.tdiv a9 (2:Int))).toNat Tu) (fun _=>rfl)) bX EE) ?_
 refine nl hK ?_
 exact pe1 h h0 [0,1]
 refine rqd [] hx fun K hK=>?_
 iterate 5 refine sa ?_
 obtain⟨hc20,h⟩:=aA h
 iterate 4 refine sbi ?_
 obtain⟨QO,h⟩:=aA h
 have hn23:(a9).toNat<(x1).length:=by omega
 refine sbi ?_
 refine s1 (ze (c:=(cI .i64)) (l:=x1) (n:=(a9).toNat) (o:=0) d8 hn23) ?_
 iterate 4 refine sa ?_
 obtain⟨hc24,h⟩:=aA h
 have hn25:(i64.wrap (Int.tdiv a9 (2:Int))).toNat<16:=by omega
 refine sbi ?_
 obtain⟨x26,hx27,h⟩:=ae h
 replace hx27:=bD hx27
 refine s0 (oa (b':=u32.wrap (((mM.vW)[(i64.wrap (Int.tdiv a9 (2:Int))).toNat]!)+(u32.wrap ((u32.wrap ((x1)[(a9).toNat]!))*(65536:Int))))) (b9.comp (od mM) (b9.vec (cI .u32) mM.vW (i64.wrap (Int.tdiv a9 (2:Int))).toNat hn25) (fun _=>rfl)) bX hx27) ?_
 refine nl hK ?_
 exact pe1 h h0 [0,1]
 refine lw0 ?_
 refine rb hx ?_
 exact pel h h0 [0,1]
 exact AW.exit (per h h0 [0,1])
 refine lw0 ?_
 refine rai hx ?_
 exact AW.ret (rtv h)
def dT(eE:List Int)(wg:Int):Option Int:=cnd (decide (wg<((eE).length:Int))) (gd (0≤wg∧wg<((eE).length:Int)) (some ((eE)[(wg).toNat]!))) (some (0:Int))
theorem gt {eE:List Int}{wg:Int}{r:Int}(h:dT eE wg=some r):ar prog 176 [dL (cI .i64) eE,dI .i64 wg] (dI .i64 r):=by
 refine bk (rs:=[.tmp 4]) (fun cx hx h0=>?_) func176
 unfold dT at h
 refine ra hx ?_
 refine AW.seq (ra hx ?_)
 refine cdh h rfl (fun fT h=>?_) (fun fT h=>?_)
 refine rs hx fun K hK=>?_
 iterate 2 refine sa ?_
 obtain⟨rA,h⟩:=aA h
 have yv:(wg).toNat<(eE).length:=by omega
 refine sbi ?_
 refine s1 (ze (c:=(cI .i64)) (l:=eE) (n:=(wg).toNat) (o:=0) d8 yv) ?_
 refine nbi hK ?_
 exact AW.ret (rtv h)
 refine AW.skip (ra hx ?_)
 exact AW.ret (rtv h)
def kA(aG:List Int)(aP:List Int):(List Int)×Int×Int→Option (((List Int)×Int×Int)⊕((List Int))):=fun (dP,bW,eA)=>cnd (decide (eA<(i64.wrap ((max ((aG).length:Int) ((aP).length:Int))+(1:Int))))) (bnd (dT aG eA) fun x2=>bnd (dT aP eA) fun x4=>bnd (some (i64.wrap ((i64.wrap (x2+x4))+bW))) fun x6=>gd ((dP++[Int.tmod x6 (65536:Int)]).length*8≤140737488355328) (some (.inl (dP++[Int.tmod x6 (65536:Int)],i64.wrap (Int.tdiv x6 (65536:Int)),i64.wrap (eA+(1:Int)))))) (some (.inr dP))
def lw(aG:List Int)(aP:List Int):Option (List Int):=bnd (bt (kA aG aP) (([]:List Int),(0:Int),(0:Int))) fun cu=>bnd (fG cu) fun oG=>some oG
theorem uU {aG:List Int}{aP:List Int}{r:List Int}(h:lw aG aP=some r):ar prog 141 [dL (cI .i64) aG,dL (cI .i64) aP] (dL (cI .i64) r):=by
 refine bk (rs:=[.tmp 4]) (fun cx hx h0=>?_) func141
 unfold lw at h
 refine rs hx fun K hK=>?_
 refine s1 (d:=dO 0 (cI .i64) ([]:List Int)) (gi c9 d8) ?_
 refine nl hK ?_
 refine rs hx fun K hK=>?_
 refine s1 (d:=dO 1 (cI .i64) ([]:List Int)) (gi c9 d8) ?_
 refine nl hK ?_
 refine ra hx ?_
 refine AW.seq (ra hx ?_)
 refine AW.block ?_
 obtain⟨cu,hy,h⟩:=ae h
 refine lp (S:=(List Int)×Int×Int) (X:=(List Int)) (fun (dP,bW,eA)=>[(0,dL (cI .i64) aG),(1,dL (cI .i64) aP),(5,dO 0 (cI .i64) dP),(6,dI .i64 bW),(7,dI .i64 eA)]) (fun (dP,bW,eA)=>⟨[],[(0,(dP).length,1,3)],1⟩) (PE cx (.exit 0) (fun cu=>[(5,dO 0 (cI .i64) cu)]) fun cu=>⟨[],[(0,(cu).length,1,3)],1⟩) hy ?_ ?_ ?_
 exact wk0 h0 [1]
 clear hy h
 rintro⟨dP,bW,eA⟩ y h
 dsimp only[kA] at h
 refine AW.seq (ra hx ?_)
 refine cdh h rfl (fun fT h=>?_) (fun fT h=>?_)
 refine AW.skip (AW.seq (AW.block (rs hx fun K hK=>?_)))
 refine mbi ?_
 refine scb h gt fun x2 h=>?_
 refine mbi ?_
 refine scb h gt fun x4 h=>?_
 iterate 3 refine sa ?_
 obtain⟨x6,wA,h⟩:=ae h
 replace wA:=bD wA
 refine s2 (d2:=dI .i64 x6) lP (gG (congrArg (dI .i64) wA)) ?_
 refine nl hK ?_
 refine rs hx fun K hK=>?_
 iterate 3 refine sa ?_
 refine s1 (d:=dO 1 (cI .i64) [Int.tmod x6 (65536:Int)]) (kQ c9 d8) ?_
 obtain⟨hc8,h⟩:=aA h
 refine s1 (d:=dO 0 (cI .i64) (dP++[Int.tmod x6 (65536:Int)])) (qn c9 d8 hc8) ?_
 refine nbi hK ?_
 iterate 2 refine rb hx ?_
 exact pel h h0 [0]
 exact AW.exit (per h h0 [0])
 refine lw0 ?_
 refine rs hx fun K hK=>?_
 refine sa ?_
 refine scb h lh fun oG h=>?_
 refine nbi hK ?_
 exact AW.ret (rtv h)
def e7(db:Int):Option ap:=cnd (decide ((0:Int)≤db)) (bnd (cp false [Int.tmod db (65536:Int),Int.tmod (i64.wrap (Int.tdiv db (65536:Int))) (65536:Int),Int.tmod (i64.wrap (Int.tdiv db (4294967296:Int))) (65536:Int),i64.wrap (Int.tdiv db (281474976710656:Int))]) fun x2=>some x2) (bnd (some (i64.wrap (0 - (i64.wrap (db+(1:Int)))))) fun x4=>bnd (lw [Int.tmod x4 (65536:Int),Int.tmod (i64.wrap (Int.tdiv x4 (65536:Int))) (65536:Int),Int.tmod (i64.wrap (Int.tdiv x4 (4294967296:Int))) (65536:Int),i64.wrap (Int.tdiv x4 (281474976710656:Int))] [(1:Int)]) fun x6=>bnd (cp true x6) fun x8=>some x8)
theorem iH {db:Int}{r:ap}(h:e7 db=some r):ar prog 88 [dI .i64 db] (dG aq r):=by
 refine bk (rs:=[.cell 2 41]) (fun cx hx h0=>?_) func88
 unfold e7 at h
 refine rai hx ?_
 refine AW.seq (ra hx ?_)
 refine cdh h rfl (fun fT h=>?_) (fun fT h=>?_)
 refine rs hx fun K hK=>?_
 iterate 10 refine sa ?_
 refine s1 (d:=dO 1 (cI .i64) [Int.tmod db (65536:Int),Int.tmod (i64.wrap (Int.tdiv db (65536:Int))) (65536:Int),Int.tmod (i64.wrap (Int.tdiv db (4294967296:Int))) (65536:Int),i64.wrap (Int.tdiv db (281474976710656:Int))]) (kQ c9 d8) ?_
 refine scb h eM fun x2 h=>?_
 refine nbi hK ?_
 exact AW.ret (rtv h)
 refine AW.skip (rs hx fun K hK=>?_)
 iterate 3 refine sa ?_
 obtain⟨x4,QB,h⟩:=ae h
 replace QB:=bD QB
 refine s2 (d2:=dI .i64 x4) lP (gG (congrArg (dI .i64) QB)) ?_
 refine nl hK ?_
 refine rs hx fun K hK=>?_
 iterate 10 refine sa ?_
 refine s1 (d:=dO 1 (cI .i64) [Int.tmod x4 (65536:Int),Int.tmod (i64.wrap (Int.tdiv x4 (65536:Int))) (65536:Int),Int.tmod (i64.wrap (Int.tdiv x4 (4294967296:Int))) (65536:Int),i64.wrap (Int.tdiv x4 (281474976710656:Int))]) (kQ c9 d8) ?_
 refine s1 (d:=dO 2 (cI .i64) [(1:Int)]) (kQ c9 d8) ?_
 refine scb h uU fun x6 h=>?_
 refine scb h eM fun x8 h=>?_
 refine nbi hK ?_
 exact AW.ret (rtv h)
def jH(aK:ap):(List Int)×Int→Option (((List Int)×Int)⊕((List Int))):=fun (aU,bu)=>cnd (decide (bu<(16:Int))) (gd (0≤bu∧bu<16) (gd (0≤bu∧bu<16) (gd ((aU++[i64.wrap (Int.tmod ((aK.vW)[(bu).toNat]!) (65536:Int)),i64.wrap (u32.wrap (Int.tdiv ((aK.vW)[(bu).toNat]!) (65536:Int)))]).length*8≤140737488355328) (some (.inl (aU++[i64.wrap (Int.tmod ((aK.vW)[(bu).toNat]!) (65536:Int)),i64.wrap (u32.wrap (Int.tdiv ((aK.vW)[(bu).toNat]!) (65536:Int)))],i64.wrap (bu+(1:Int)))))))) (some (.inr aU))
def bB(aK:ap):Option (List Int):=bnd (bt (jH aK) (([]:List Int),(0:Int))) fun bh=>bnd (fG bh) fun x8=>some x8
theorem c0 {aK:ap}{r:List Int}(h:bB aK=some r):ar prog 143 [dG aq aK] (dL (cI .i64) r):=by
 refine bk (rs:=[.tmp 2]) (fun cx hx h0=>?_) func143
 unfold bB at h
 refine rs hx fun K hK=>?_
 refine sa ?_
 refine s1 (d:=dO 1 (cI .i64) ([]:List Int)) (gi c9 d8) ?_
 refine nl hK ?_
 refine rs hx fun K hK=>?_
 refine s1 (d:=dO 2 (cI .i64) ([]:List Int)) (gi c9 d8) ?_
 refine nl hK ?_
 refine AW.seq (ra hx ?_)
 refine AW.block ?_
 obtain⟨bh,hy,h⟩:=ae h
 refine lp (S:=(List Int)×Int) (X:=(List Int)) (fun (aU,bu)=>[(1,.pt 0 0),(3,dO 1 (cI .i64) aU),(4,dI .i64 bu)]) (fun (aU,bu)=>⟨[(0,dC (aq.f aK))],[(1,(aU).length,1,3)],2⟩) (PE cx (.exit 0) (fun bh=>[(3,dO 0 (cI .i64) bh)]) fun bh=>⟨[],[(0,(bh).length,1,3)],1⟩) hy ?_ ?_ ?_
 exact wk0 h0 [0,2]
 clear hy h
 rintro⟨aU,bu⟩ y h
 dsimp only[jH] at h
 refine AW.seq (ra hx ?_)
 refine cdh h rfl (fun fT h=>?_) (fun fT h=>?_)
 refine AW.skip (AW.seq (AW.block (rqd [] hx fun K hK=>?_)))
 iterate 3 refine sa ?_
 obtain⟨rA,h⟩:=aA h
 iterate 6 refine sbi ?_
 obtain⟨Pf,h⟩:=aA h
 iterate 4 refine sbi ?_
 refine s1 (FM c9 d8) ?_
 obtain⟨hc6,h⟩:=aA h
 refine s1 (d:=dO 1 (cI .i64) (aU++[i64.wrap (Int.tmod ((aK.vW)[(bu).toNat]!) (65536:Int)),i64.wrap (u32.wrap (Int.tdiv ((aK.vW)[(bu).toNat]!) (65536:Int)))])) (qn c9 d8 hc6) ?_
 refine nbi hK ?_
 refine rb hx ?_
 exact pel h h0 [0,1]
 exact AW.exit (per h h0 [1])
 refine lw0 ?_
 refine rs hx fun K hK=>?_
 refine sa ?_
 refine scb h lh fun x8 h=>?_
 refine nbi hK ?_
 exact AW.ret (rtv h)
def qO(aK:ap):Option ap:=bnd (bp aK) fun x1=>cnd (!x1) (bnd (fK) fun x4=>some x4) (bnd (bB aK) fun x6=>bnd (cp false x6) fun x8=>some x8)
theorem Kg {aK:ap}{r:ap}(h:qO aK=some r):ar prog 167 [dG aq aK] (dG aq r):=by
 refine bk (rs:=[.cell 2 41]) (fun cx hx h0=>?_) func167
 unfold qO at h
 refine rai hx ?_
 refine AW.seq (rs hx fun K hK=>?_)
 refine mbi ?_
 refine scb h cD fun x1 h=>?_
 refine nbi hK ?_
 refine cdh h rfl (fun fI h=>?_) (fun fI h=>?_)
 refine rs hx fun K hK=>?_
 refine scb h kS fun x4 h=>?_
 refine nbi hK ?_
 exact AW.ret (rtv h)
 refine AW.skip (rs hx fun K hK=>?_)
 refine mbi ?_
 refine scb h c0 fun x6 h=>?_
 refine scb h eM fun x8 h=>?_
 refine nbi hK ?_
 exact AW.ret (rtv h)
def iR(eE:List Int)(wg:Int):Option Int:=cnd (decide (wg<(0:Int))) (some (0:Int)) (bnd (dT eE wg) fun x2=>some x2)
theorem uV {eE:List Int}{wg:Int}{r:Int}(h:iR eE wg=some r):ar prog 194 [dL (cI .i64) eE,dI .i64 wg] (dI .i64 r):=by
 refine bk (rs:=[.tmp 4]) (fun cx hx h0=>?_) func194
 unfold iR at h
 refine ra hx ?_
 refine AW.seq (ra hx ?_)
 refine cdh h rfl (fun fT h=>?_) (fun fT h=>?_)
 refine ra hx ?_
 exact AW.ret (rtv h)
 refine AW.skip (rs hx fun K hK=>?_)
 refine mbi ?_
 refine scb h gt fun x2 h=>?_
 refine nbi hK ?_
 exact AW.ret (rtv h)
def jF(aG:List Int)(aP:List Int)(aU:Int):Int×(List Int)→Option ((Int×(List Int))⊕((List Int))):=fun (iC,tI)=>cnd (decide (iC<((aP).length:Int))) (gd (0≤i64.wrap (aU+iC)∧i64.wrap (aU+iC)<(((i64.wrap ((i64.wrap (((aG).length:Int)+((aP).length:Int)))+(1:Int))).toNat:Nat):Int)∧i64.wrap (aU+iC)<((tI).length:Int)) (gd (0≤aU∧aU<((aG).length:Int)) (gd (0≤iC∧iC<((aP).length:Int)) (gd (0≤i64.wrap (aU+iC)∧i64.wrap (aU+iC)<(((i64.wrap ((i64.wrap (((aG).length:Int)+((aP).length:Int)))+(1:Int))).toNat:Nat):Int)∧i64.wrap (aU+iC)<((tI).length:Int)) (bnd (some ((tI).set ((i64.wrap (aU+iC)).toNat) (i64.wrap (((tI)[(i64.wrap (aU+iC)).toNat]!)+(i64.wrap (((aG)[(aU).toNat]!)*((aP)[(iC).toNat]!))))))) fun nq=>some (.inl (i64.wrap (iC+(1:Int)),nq))))))) (some (.inr tI))
def gR(aG:List Int)(aP:List Int):Int×Int×(List Int)→Option ((Int×Int×(List Int))⊕((List Int))):=fun (LT,pL,uK)=>cnd (decide (pL<(((i64.wrap ((i64.wrap (((aG).length:Int)+((aP).length:Int)))+(1:Int))).toNat:Nat):Int))) (gd (0≤pL∧pL<(((i64.wrap ((i64.wrap (((aG).length:Int)+((aP).length:Int)))+(1:Int))).toNat:Nat):Int)∧pL<((uK).length:Int)) (bnd (some (i64.wrap (((uK)[(pL).toNat]!)+LT))) fun sZ=>gd (0≤pL∧pL<(((i64.wrap ((i64.wrap (((aG).length:Int)+((aP).length:Int)))+(1:Int))).toNat:Nat):Int)∧pL<((uK).length:Int)) (some (.inl (i64.wrap (Int.tdiv sZ (65536:Int)),i64.wrap (pL+(1:Int)),(uK).set ((pL).toNat) (Int.tmod sZ (65536:Int))))))) (some (.inr uK))
def kz(aG:List Int)(aP:List Int):Int×(List Int)→Option ((Int×(List Int))⊕((List Int))):=fun (aU,bu)=>cnd (decide (aU<((aG).length:Int))) (bnd (bt (jF aG aP aU) ((0:Int),bu)) fun Bj=>bnd (bt (gR aG aP) ((0:Int),(0:Int),Bj)) fun Bg=>some (.inl (i64.wrap (aU+(1:Int)),Bg))) (some (.inr bu))
def lS(aG:List Int)(aP:List Int):Option (List Int):=gd (0≤i64.wrap ((i64.wrap (((aG).length:Int)+((aP).length:Int)))+(1:Int))∧i64.wrap ((i64.wrap (((aG).length:Int)+((aP).length:Int)))+(1:Int))≤1000000) (bnd (bt (kz aG aP) ((0:Int),List.replicate (i64.wrap ((i64.wrap (((aG).length:Int)+((aP).length:Int)))+(1:Int))).toNat (0:Int))) fun bh=>gd ((i64.wrap ((i64.wrap (((aG).length:Int)+((aP).length:Int)))+(1:Int))).toNat=(bh).length) (bnd (fG bh) fun JS=>some JS))
theorem yD {aG:List Int}{aP:List Int}{r:List Int}(h:lS aG aP=some r):ar prog 173 [dL (cI .i64) aG,dL (cI .i64) aP] (dL (cI .i64) r):=by
 refine bk (rs:=[.tmp 4]) (fun cx hx h0=>?_) func173
 unfold lS at h
 refine rs hx fun K hK=>?_
 refine s1 (d:=dO 0 (cI .i64) ([]:List Int)) (gi c9 d8) ?_
 refine nl hK ?_
 refine rs hx fun K hK=>?_
 iterate 6 refine sa ?_
 obtain⟨Mn,h⟩:=aA h
 refine q1 (sMk (c:=(cI .i64)) (z0:=(0:Int)) tok Mn c9 d8 (by first|rfl|kernel_rfl)) ?_
 refine nbi hK ?_
 refine AW.seq (ra hx ?_)
 refine AW.block ?_
 obtain⟨bh,hy,h⟩:=ae h
 refine lp (S:=Int×(List Int)) (X:=(List Int)) (fun (aU,bu)=>[(0,dL (cI .i64) aG),(1,dL (cI .i64) aP),(5,.ow 0 0 1 ((i64.wrap ((i64.wrap (((aG).length:Int)+((aP).length:Int)))+(1:Int))).toNat)),(6,dI .i64 aU)]) (fun (aU,bu)=>⟨[(0,dC ((cW (cI .i64)).f bu))],[],1⟩) (PE cx (.exit 0) (fun bh=>[(5,.ow 0 0 1 ((i64.wrap ((i64.wrap (((aG).length:Int)+((aP).length:Int)))+(1:Int))).toNat))]) fun bh=>⟨[(0,dC ((cW (cI .i64)).f bh))],[],1⟩) hy ?_ ?_ ?_
 exact wk0 h0 [1]
 clear hy h
 rintro⟨aU,bu⟩ y h
 dsimp only[kz] at h
 refine AW.seq (ra hx ?_)
 refine cdh h rfl (fun xf h=>?_) (fun xf h=>?_)
 refine AW.skip (AW.seq (AW.block (AW.seq (ra hx ?_))))
 refine AW.block ?_
 obtain⟨Bj,hy,h⟩:=ae h
 refine lp (S:=Int×(List Int)) (X:=(List Int)) (fun (iC,tI)=>[(0,dL (cI .i64) aG),(1,dL (cI .i64) aP),(5,.ow 0 0 1 ((i64.wrap ((i64.wrap (((aG).length:Int)+((aP).length:Int)))+(1:Int))).toNat)),(6,dI .i64 aU),(7,dI .i64 iC)]) (fun (iC,tI)=>⟨[(0,dC ((cW (cI .i64)).f tI))],[],1⟩) (PE cx (.exit 2) (fun Bj=>[(0,dL (cI .i64) aG),(1,dL (cI .i64) aP),(5,.ow 0 0 1 ((i64.wrap ((i64.wrap (((aG).length:Int)+((aP).length:Int)))+(1:Int))).toNat)),(6,dI .i64 aU)]) fun Bj=>⟨[(0,dC ((cW (cI .i64)).f Bj))],[],1⟩) hy ?_ ?_ ?_
 exact wk0 h0 [0]
 clear hy h
 rintro⟨iC,tI⟩ y h
 dsimp only[jF] at h
 refine AW.seq (ra hx ?_)
 refine cdh h rfl (fun fI h=>?_) (fun fI h=>?_)
 refine AW.skip (AW.seq (AW.block (rqd [] hx fun K hK=>?_)))
 iterate 8 refine sa ?_
 obtain⟨Pf,h⟩:=aA h
 have hn5:(i64.wrap (aU+iC)).toNat<(tI).length:=by omega
 refine s1 (xJ ⟨Pf.1,Pf.2.1⟩ c9 d8) ?_
 refine s1 (xI (b9.seqW (cI .i64) tI ((i64.wrap (aU+iC)).toNat) hn5) d8) ?_
 iterate 2 refine sa ?_
 obtain⟨hc6,h⟩:=aA h
 have hn7:(aU).toNat<(aG).length:=by omega
 refine sbi ?_
 refine s1 (ze (c:=(cI .i64)) (l:=aG) (n:=(aU).toNat) (o:=0) d8 hn7) ?_
 iterate 2 refine sa ?_
 obtain⟨hc8,h⟩:=aA h
 have hn9:(iC).toNat<(aP).length:=by omega
 refine sbi ?_
 refine s1 (ze (c:=(cI .i64)) (l:=aP) (n:=(iC).toNat) (o:=0) d8 hn9) ?_
 iterate 2 refine sa ?_
 obtain⟨Nd,h⟩:=aA h
 have hn11:(i64.wrap (aU+iC)).toNat<(tI).length:=by omega
 refine s1 (xJ ⟨Nd.1,Nd.2.1⟩ c9 d8) ?_
 obtain⟨nq,Cf,h⟩:=ae h
 replace Cf:=bD Cf
 refine s0 (T_stVw (b':=i64.wrap (((tI)[(i64.wrap (aU+iC)).toNat]!)+(i64.wrap (((aG)[(aU).toNat]!)*((aP)[(iC).toNat]!))))) (b9.seqW (cI .i64) tI ((i64.wrap (aU+iC)).toNat) hn11) d8 Cf) ?_
 refine nl hK ?_
 refine rb hx ?_
 exact pel h h0 [0]
 exact AW.exit (per h h0 [0])
 refine lw0 ?_
 iterate 2 refine ra hx ?_
 refine AW.block ?_
 obtain⟨Bg,hy,h⟩:=ae h
 refine lp (S:=Int×Int×(List Int)) (X:=(List Int)) (fun (LT,pL,uK)=>[(0,dL (cI .i64) aG),(1,dL (cI .i64) aP),(5,.ow 0 0 1 ((i64.wrap ((i64.wrap (((aG).length:Int)+((aP).length:Int)))+(1:Int))).toNat)),(6,dI .i64 aU),(8,dI .i64 LT),(9,dI .i64 pL)]) (fun (LT,pL,uK)=>⟨[(0,dC ((cW (cI .i64)).f uK))],[],1⟩) (PE cx (.exit 4) (fun Bg=>[(0,dL (cI .i64) aG),(1,dL (cI .i64) aP),(5,.ow 0 0 1 ((i64.wrap ((i64.wrap (((aG).length:Int)+((aP).length:Int)))+(1:Int))).toNat)),(6,dI .i64 aU)]) fun Bg=>⟨[(0,dC ((cW (cI .i64)).f Bg))],[],1⟩) hy ?_ ?_ ?_
 exact wk0 h0 [0]
 clear hy h
 rintro⟨LT,pL,uK⟩ y h
 dsimp only[gR] at h
 refine AW.seq (ra hx ?_)
 refine cdh h rfl (fun Ng h=>?_) (fun Ng h=>?_)
 refine AW.skip (AW.seq (AW.block (rs hx fun K hK=>?_)))
 iterate 2 refine sa ?_
 obtain⟨QP,h⟩:=aA h
 have Tu:(pL).toNat<(uK).length:=by omega
 refine s1 (xJ ⟨QP.1,QP.2.1⟩ c9 d8) ?_
 refine s1 (xI (b9.seqW (cI .i64) uK ((pL).toNat) Tu) d8) ?_
 iterate 2 refine sa ?_
 obtain⟨sZ,EE,h⟩:=ae h
 replace EE:=bD EE
 refine s2 (d2:=dI .i64 sZ) lP (gG (congrArg (dI .i64) EE)) ?_
 refine nl hK ?_
 refine rs hx fun K hK=>?_
 iterate 4 refine sa ?_
 obtain⟨hc20,h⟩:=aA h
 have hn21:(pL).toNat<(uK).length:=by omega
 refine s1 (xJ ⟨hc20.1,hc20.2.1⟩ c9 d8) ?_
 refine s0 (zd (b':=Int.tmod sZ (65536:Int)) (b9.seqW (cI .i64) uK ((pL).toNat) hn21) d8) ?_
 refine nl hK ?_
 iterate 2 refine rb hx ?_
 exact pel h h0 [0]
 exact AW.exit (per h h0 [0])
 refine lw0 ?_
 refine rb hx ?_
 exact pel h h0 [0]
 exact AW.exit (per h h0 [0])
 refine lw0 ?_
 refine rs hx fun K hK=>?_
 refine sa ?_
 obtain⟨hc24,h⟩:=aA h
 refine fzO (cI .i64) (n:=(i64.wrap ((i64.wrap (((aG).length:Int)+((aP).length:Int)))+(1:Int))).toNat) 0 [5,70] hc24 ?_ (all2 rfl (all1 rfl))
 refine scb h lh fun JS h=>?_
 refine nbi hK ?_
 exact AW.ret (rtv h)
def lM(aG:List Int)(aP:List Int):Int→Option (Int⊕(Bool⊕Unit)):=fun aD=>cnd (decide ((0:Int)≤aD)) (bnd (dT aG aD) fun x4=>bnd (dT aP aD) fun x6=>cnd (decide (x4≠x6)) (bnd (dT aG aD) fun x9=>bnd (dT aP aD) fun ta=>some (.inr (.inl (decide (x9<ta))))) (some (.inl (i64.wrap (aD - (1:Int)))))) (some (.inr (.inr ())))
def mU(aG:List Int)(aP:List Int):Option Bool:=bnd (some (i64.wrap ((max ((aG).length:Int) ((aP).length:Int)) - (1:Int)))) fun x1=>bnd (bt (lM aG aP) x1) fun y13=>match y13 with| .inl r=>some r| .inr ()=>some false
theorem Al {aG:List Int}{aP:List Int}{r:Bool}(h:mU aG aP=some r):ar prog 170 [dL (cI .i64) aG,dL (cI .i64) aP] (dB r):=by
 refine bk (rs:=[.tmp 4]) (fun cx hx h0=>?_) func170
 unfold mU at h
 refine ra hx ?_
 refine AW.seq (rs hx fun K hK=>?_)
 iterate 6 refine sa ?_
 obtain⟨x1,xX,h⟩:=ae h
 replace xX:=bD xX
 refine s2 (d2:=dI .i64 x1) lP (gG (congrArg (dI .i64) xX)) ?_
 refine nl hK ?_
 refine AW.block ?_
 obtain⟨y,hy,h⟩:=ae h
 refine lp (S:=Int) (X:=Bool⊕Unit) (fun aD=>[(0,dL (cI .i64) aG),(1,dL (cI .i64) aP),(5,dI .i64 aD)]) (fun aD=>⟨[],[],0⟩) (PS (PR [.tmp 4] fun r=>dB r) (PE cx (.exit 0) (fun ()=>[]) fun ()=>⟨[],[],0⟩)) hy ?_ ?_ ?_
 exact wk0 h0 []
 clear hy h
 rintro aD y h
 dsimp only[lM] at h
 refine AW.seq (ra hx ?_)
 refine cdh h rfl (fun fI h=>?_) (fun fI h=>?_)
 refine AW.skip (AW.seq (AW.block (rs hx fun K hK=>?_)))
 refine mbi ?_
 refine scb h gt fun x4 h=>?_
 refine mbi ?_
 refine scb h gt fun x6 h=>?_
 refine nbi hK ?_
 refine cdh h rfl (fun uw h=>?_) (fun uw h=>?_)
 refine rs hx fun K hK=>?_
 refine mbi ?_
 refine scb h gt fun x9 h=>?_
 refine mbi ?_
 refine scb h gt fun ta h=>?_
 refine nbi hK ?_
 refine AW.ret ?_
 cases h
 refine PS.r ⟨by nofun,PS.l (PR.i ?_)⟩
 exact rv1
 refine AW.skip (rb hx ?_)
 exact pel h h0 []
 exact AW.exit (peq h h0 [])
 rcases y with r|⟨⟩
 rintro ex tm' hp' ⟨rfl,hw⟩
 cases h
 exact hw
 refine lwr ?_
 refine ra hx ?_
 exact AW.ret (rtv h)
def jG(aG:List Int)(aP:List Int):(List Int)×Int×Int→Option (((List Int)×Int×Int)⊕((List Int))):=fun (dP,bW,eA)=>cnd (decide (eA<((aG).length:Int))) (gd (0≤eA∧eA<((aG).length:Int)) (bnd (dT aP eA) fun x4=>bnd (some (i64.wrap ((i64.wrap (((aG)[(eA).toNat]!) - x4)) - bW))) fun x6=>bnd (S:=Int×Int) (cnd (decide (x6<(0:Int))) (some (((1:Int),i64.wrap (x6+(65536:Int))))) (some (((0:Int),x6)))) fun (kN,rt)=>gd ((dP++[rt]).length*8≤140737488355328) (some (.inl (dP++[rt],kN,i64.wrap (eA+(1:Int))))))) (some (.inr dP))
def ix(aG:List Int)(aP:List Int):Option (List Int):=bnd (bt (jG aG aP) (([]:List Int),(0:Int),(0:Int))) fun cu=>bnd (fG cu) fun nq=>some nq
theorem qp {aG:List Int}{aP:List Int}{r:List Int}(h:ix aG aP=some r):ar prog 171 [dL (cI .i64) aG,dL (cI .i64) aP] (dL (cI .i64) r):=by
 refine bk (rs:=[.tmp 4]) (fun cx hx h0=>?_) func171
 unfold ix at h
 refine rs hx fun K hK=>?_
 refine s1 (d:=dO 0 (cI .i64) ([]:List Int)) (gi c9 d8) ?_
 refine nl hK ?_
 refine rs hx fun K hK=>?_
 refine s1 (d:=dO 1 (cI .i64) ([]:List Int)) (gi c9 d8) ?_
 refine nl hK ?_
 refine ra hx ?_
 refine AW.seq (ra hx ?_)
 refine AW.block ?_
 obtain⟨cu,hy,h⟩:=ae h
 refine lp (S:=(List Int)×Int×Int) (X:=(List Int)) (fun (dP,bW,eA)=>[(0,dL (cI .i64) aG),(1,dL (cI .i64) aP),(5,dO 0 (cI .i64) dP),(6,dI .i64 bW),(7,dI .i64 eA)]) (fun (dP,bW,eA)=>⟨[],[(0,(dP).length,1,3)],1⟩) (PE cx (.exit 0) (fun cu=>[(5,dO 0 (cI .i64) cu)]) fun cu=>⟨[],[(0,(cu).length,1,3)],1⟩) hy ?_ ?_ ?_
 exact wk0 h0 [1]
 clear hy h
 rintro⟨dP,bW,eA⟩ y h
 dsimp only[jG] at h
 refine AW.seq (ra hx ?_)
 refine cdh h rfl (fun fT h=>?_) (fun fT h=>?_)
 refine AW.skip (AW.seq (AW.block (rsd [176] hx fun K hK=>?_)))
 iterate 2 refine sa ?_
 obtain⟨rA,h⟩:=aA h
 have yv:(eA).toNat<(aG).length:=by omega
 refine sbi ?_
 refine s1 (ze (c:=(cI .i64)) (l:=aG) (n:=(eA).toNat) (o:=0) d8 yv) ?_
 refine mbi ?_
 refine cqb h gt fun x4 h=>?_
 iterate 3 refine sa ?_
 obtain⟨x6,wA,h⟩:=ae h
 replace wA:=bD wA
 refine s2 (d2:=dI .i64 x6) lP (gG (congrArg (dI .i64) wA)) ?_
 refine nl hK ?_
 refine ra hx ?_
 refine AW.seq ?_
 obtain⟨y,hy,h⟩:=ae h
 refine jn ((PE cx .normal (fun (kN,rt)=>[(0,dL (cI .i64) aG),(1,dL (cI .i64) aP),(5,dO 0 (cI .i64) dP),(6,dI .i64 kN),(7,dI .i64 eA),(8,dI .i64 rt)]) fun (kN,rt)=>⟨[],[(0,(dP).length,1,3)],1⟩) y) ?_ ?_
 replace h:=hy
 refine ra hx ?_
 refine cdh h rfl (fun uw h=>?_) (fun uw h=>?_)
 refine ra hx ?_
 refine rb hx ?_
 exact pe1 h h0 [0]
 exact AW.skip (pe1 h h0 [0])
 obtain⟨kN,rt⟩:=y
 refine lw0 ?_
 refine rq hx fun K hK=>?_
 iterate 2 refine sa ?_
 refine s1 (d:=dO 1 (cI .i64) [rt]) (kQ c9 d8) ?_
 obtain⟨Nd,h⟩:=aA h
 refine s1 (d:=dO 0 (cI .i64) (dP++[rt])) (qn c9 d8 Nd) ?_
 refine nbi hK ?_
 refine rb hx ?_
 exact pel h h0 [0]
 exact AW.exit (per h h0 [0])
 refine lw0 ?_
 refine rs hx fun K hK=>?_
 refine sa ?_
 refine scb h lh fun nq h=>?_
 refine nbi hK ?_
 exact AW.ret (rtv h)
def iO(aP:List Int)(qB:List Int):Int×(List Int)→Option ((Int×(List Int))⊕(Int×(List Int))):=fun (uL,FD)=>bnd (mU qB FD) fun Bq=>cnd Bq (bnd (ix FD aP) fun Dw=>some (.inl (i64.wrap (uL - (1:Int)),Dw))) (some (.inr (uL,FD)))
def iP(aG:List Int)(aP:List Int)(x6:Int):(List Int)×Int×(List Int)→Option (((List Int)×Int×(List Int))⊕((List Int)×(List Int))):=fun (ew,np,xH)=>cnd (decide ((0:Int)≤np)) (gd (0≤np∧np<((aG).length:Int)) (gd (([(aG)[(np).toNat]!]++ew).length*8≤140737488355328) (bnd (fG ([(aG)[(np).toNat]!]++ew)) fun qB=>bnd (iR qB ((aP).length:Int)) fun Bs=>bnd (iR qB (i64.wrap (((aP).length:Int) - (1:Int)))) fun sZ=>bnd (iR qB (i64.wrap (((aP).length:Int) - (2:Int)))) fun Br=>gd (x6≠0) (bnd (some (min (65535:Int) (i64.wrap (Int.tdiv (i64.wrap ((i64.wrap ((i64.wrap (Bs*(4294967296:Int)))+(i64.wrap (sZ*(65536:Int)))))+Br)) x6)))) fun yz=>bnd (lS aP [yz]) fun JS=>bnd (bt (iO aP qB) (yz,JS)) fun (yj,Bi)=>gd (0≤np∧np<(((((aG).length:Int)).toNat:Nat):Int)∧np<((xH).length:Int)) (bnd (ix qB Bi) fun Ad=>some (.inl (Ad,i64.wrap (np - (1:Int)),(xH).set ((np).toNat) yj))))))) (some (.inr (ew,xH)))
def iQ(aG:List Int)(aP:List Int):Option ((List Int)×(List Int)):=gd (0≤((aG).length:Int)∧((aG).length:Int)≤1000000) (gd (0≤i64.wrap (((aP).length:Int) - (1:Int))∧i64.wrap (((aP).length:Int) - (1:Int))<((aP).length:Int)) (bnd (iR aP (i64.wrap (((aP).length:Int) - (2:Int)))) fun x4=>bnd (some (i64.wrap ((i64.wrap (((aP)[(i64.wrap (((aP).length:Int) - (1:Int))).toNat]!)*(65536:Int)))+x4))) fun x6=>bnd (some (i64.wrap (((aG).length:Int) - (1:Int)))) fun x8=>bnd (bt (iP aG aP x6) (([]:List Int),x8,List.replicate (((aG).length:Int)).toNat (0:Int))) fun (Bk,yk)=>gd ((((aG).length:Int)).toNat=(yk).length) (bnd (fG yk) fun Mh=>some (Mh,Bk))))
theorem wQ {aG:List Int}{aP:List Int}{r:(List Int)×(List Int)}(h:iQ aG aP=some r):ar prog 168 [dL (cI .i64) aG,dL (cI .i64) aP] (.tu [dL (cI .i64) r.1,dL (cI .i64) r.2]):=by
 refine bk (rs:=[.tmp 4,.tmp 5]) (fun cx hx h0=>?_) func168
 unfold iQ at h
 refine rs hx fun K hK=>?_
 refine s1 (d:=dO 0 (cI .i64) ([]:List Int)) (gi c9 d8) ?_
 refine s1 (d:=dO 1 (cI .i64) ([]:List Int)) (gi c9 d8) ?_
 refine nl hK ?_
 refine rs hx fun K hK=>?_
 iterate 2 refine sa ?_
 obtain⟨Mn,h⟩:=aA h
 refine q1 (sMk (c:=(cI .i64)) (z0:=(0:Int)) tok Mn c9 d8 (by first|rfl|kernel_rfl)) ?_
 refine nbi hK ?_
 refine ra hx ?_
 refine rsd [194] hx fun K hK=>?_
 iterate 3 refine sa ?_
 obtain⟨rA,h⟩:=aA h
 have yv:(i64.wrap (((aP).length:Int) - (1:Int))).toNat<(aP).length:=by omega
 refine sbi ?_
 refine s1 (ze (c:=(cI .i64)) (l:=aP) (n:=(i64.wrap (((aP).length:Int) - (1:Int))).toNat) (o:=0) d8 yv) ?_
 refine mbi ?_
 refine cqb h uV fun x4 h=>?_
 refine sa ?_
 obtain⟨x6,wA,h⟩:=ae h
 replace wA:=bD wA
 refine s2 (d2:=dI .i64 x6) lP (gG (congrArg (dI .i64) wA)) ?_
 refine nl hK ?_
 refine rs hx fun K hK=>?_
 refine s1 (d:=dO 3 (cI .i64) ([]:List Int)) (gi c9 d8) ?_
 refine nl hK ?_
 refine AW.seq (rs hx fun K hK=>?_)
 iterate 3 refine sa ?_
 obtain⟨x8,Rs,h⟩:=ae h
 replace Rs:=bD Rs
 refine s2 (d2:=dI .i64 x8) lP (gG (congrArg (dI .i64) Rs)) ?_
 refine nl hK ?_
 refine AW.block ?_
 obtain⟨y,hy,h⟩:=ae h
 refine lp (S:=(List Int)×Int×(List Int)) (X:=(List Int)×(List Int)) (fun (ew,np,xH)=>[(0,dL (cI .i64) aG),(1,dL (cI .i64) aP),(6,.ow 0 0 1 ((((aG).length:Int)).toNat)),(7,dI .i64 ((aP).length:Int)),(8,dI .i64 x6),(9,dL (cI .i64) ew),(10,dI .i64 np)]) (fun (ew,np,xH)=>⟨[(0,dC ((cW (cI .i64)).f xH))],[],1⟩) (PE cx (.exit 0) (fun (Bk,yk)=>[(6,.ow 0 0 1 ((((aG).length:Int)).toNat)),(9,dL (cI .i64) Bk)]) fun (Bk,yk)=>⟨[(0,dC ((cW (cI .i64)).f yk))],[],1⟩) hy ?_ ?_ ?_
 exact wk h0 [2] (wR rfl (wR rfl (wR rfl (wR rfl (wR rfl (wT rfl (SQ _) rfl rfl (wR rfl wTn))))))) (vC rfl wVn) wLn
 clear hy h
 rintro⟨ew,np,xH⟩ y h
 dsimp only[iP] at h
 refine AW.seq (ra hx ?_)
 refine cdh h rfl (fun n0 h=>?_) (fun n0 h=>?_)
 refine AW.skip (AW.seq (AW.block (rs hx fun K hK=>?_)))
 iterate 2 refine sa ?_
 obtain⟨TM,h⟩:=aA h
 have hn12:(np).toNat<(aG).length:=by omega
 refine sbi ?_
 refine s1 (ze (c:=(cI .i64)) (l:=aG) (n:=(np).toNat) (o:=0) d8 hn12) ?_
 refine s1 (d:=dO 1 (cI .i64) [(aG)[(np).toNat]!]) (kQ c9 d8) ?_
 refine sa ?_
 obtain⟨hc13,h⟩:=aA h
 refine s1 (d:=dO 1 (cI .i64) ([(aG)[(np).toNat]!]++ew)) (qn c9 d8 hc13) ?_
 refine scb h lh fun qB h=>?_
 refine nbi hK ?_
 refine rs hx fun K hK=>?_
 refine mbi ?_
 refine scb h uV fun Bs h=>?_
 refine mbi ?_
 refine scb h uV fun sZ h=>?_
 refine mbi ?_
 refine scb h uV fun Br h=>?_
 iterate 2 refine sa ?_
 obtain⟨QO,h⟩:=aA h
 refine s1 (HX QO) ?_
 refine sa ?_
 obtain⟨yz,hx24,h⟩:=ae h
 replace hx24:=bD hx24
 refine s2 (d2:=dI .i64 yz) lP (gG (congrArg (dI .i64) hx24)) ?_
 refine nl hK ?_
 refine rs hx fun K hK=>?_
 iterate 2 refine sa ?_
 refine s1 (d:=dO 2 (cI .i64) [yz]) (kQ c9 d8) ?_
 refine scb h yD fun JS h=>?_
 refine nbi hK ?_
 refine AW.seq (AW.block ?_)
 obtain⟨y,hy,h⟩:=ae h
 refine lp (S:=Int×(List Int)) (X:=Int×(List Int)) (fun (uL,FD)=>[(0,dL (cI .i64) aG),(1,dL (cI .i64) aP),(6,.ow 0 0 1 ((((aG).length:Int)).toNat)),(7,dI .i64 ((aP).length:Int)),(8,dI .i64 x6),(9,dL (cI .i64) qB),(10,dI .i64 np),(11,dI .i64 uL),(12,dL (cI .i64) FD)]) (fun (uL,FD)=>⟨[(0,dC ((cW (cI .i64)).f xH))],[],1⟩) (PE cx (.exit 2) (fun (yj,Bi)=>[(0,dL (cI .i64) aG),(1,dL (cI .i64) aP),(6,.ow 0 0 1 ((((aG).length:Int)).toNat)),(7,dI .i64 ((aP).length:Int)),(8,dI .i64 x6),(9,dL (cI .i64) qB),(10,dI .i64 np),(11,dI .i64 yj),(12,dL (cI .i64) Bi)]) fun (yj,Bi)=>⟨[(0,dC ((cW (cI .i64)).f xH))],[],1⟩) hy ?_ ?_ ?_
 exact wk0 h0 [0]
 clear hy h
 rintro⟨uL,FD⟩ y h
 dsimp only[iO] at h
 refine AW.seq (rs hx fun K hK=>?_)
 refine mbi ?_
 refine scb h Al fun Bq h=>?_
 refine nl hK ?_
 refine cdh h rfl (fun hb29 h=>?_) (fun hb29 h=>?_)
 refine AW.skip (AW.block (ra hx ?_))
 refine rq hx fun K hK=>?_
 refine mbi ?_
 refine scb h qp fun Dw h=>?_
 refine nbi hK ?_
 exact pel h h0 [0]
 exact AW.exit (per h h0 [0])
 obtain⟨yj,Bi⟩:=y
 refine lw0 ?_
 refine rs hx fun K hK=>?_
 iterate 3 refine sa ?_
 obtain⟨hc33,h⟩:=aA h
 have hn34:(np).toNat<(xH).length:=by omega
 refine s1 (xJ ⟨hc33.1,hc33.2.1⟩ c9 d8) ?_
 refine s0 (zd (b':=yj) (b9.seqW (cI .i64) xH ((np).toNat) hn34) d8) ?_
 refine nl hK ?_
 refine rq hx fun K hK=>?_
 refine mbi ?_
 refine scb h qp fun Ad h=>?_
 refine nbi hK ?_
 refine rb hx ?_
 exact pel h h0 [0]
 exact AW.exit (per h h0 [0])
 obtain⟨Bk,yk⟩:=y
 refine lw0 ?_
 refine rs hx fun K hK=>?_
 refine sa ?_
 obtain⟨hc38,h⟩:=aA h
 refine fzO (cI .i64) (n:=(((aG).length:Int)).toNat) 0 [6,81] hc38 ?_ (all2 rfl (all1 rfl))
 refine scb h lh fun Mh h=>?_
 refine nbi hK ?_
 refine AW.ret ?_
 cases h
 exact rv2
def jm :Int×Int→Option ((Int×Int)⊕Int):=fun (uP,Df)=>cnd (decide (Df≠(0:Int))) (gd (Df≠0) (some (.inl (Df,Int.tmod uP Df)))) (some (.inr uP))
def jl :(List Int)×(List Int)→Option (((List Int)×(List Int))⊕((List Int))):=fun (HP,FB)=>cnd (decide ((0:Int)<((FB).length:Int))) (bnd (iQ HP FB) fun Bo=>some (.inl (FB,Bo.2))) (some (.inr HP))
def mG(aG:ap)(aP:ap):Option ap:=bnd (eW aG) fun x1=>bnd (eW aP) fun x3=>bnd (S:=Bool) (cnd x1.2 (some (x3.2)) (some (false))) fun aU=>cnd aU (bnd (bt (jm) (x1.1,x3.1)) fun Bl=>bnd (e7 Bl) fun ta=>bnd (qO ta) fun qW=>some qW) (bnd (S:=Bool) (bnd (bp aG) fun J2=>cnd (!J2) (some (true)) (bnd (bp aP) fun sZ=>some (!sZ))) fun uL=>cnd uL (bnd (fK) fun Di=>some Di) (bnd (bB aG) fun yo=>bnd (bB aP) fun x26=>bnd (bt (jl) (yo,x26)) fun Be=>bnd (cp false Be) fun x32=>some x32))
theorem wS {aG:ap}{aP:ap}{r:ap}(h:mG aG aP=some r):ar prog 127 [dG aq aG,dG aq aP] (dG aq r):=by
 refine bk (rs:=[.cell 4 41]) (fun cx hx h0=>?_) func127
 unfold mG at h
 refine rai hx ?_
 refine rs hx fun K hK=>?_
 refine mbi ?_
 refine scb h js fun x1 h=>?_
 refine nbi hK ?_
 refine rs hx fun K hK=>?_
 refine mbi ?_
 refine scb h js fun x3 h=>?_
 refine nbi hK ?_
 iterate 2 refine AW.seq ?_
 obtain⟨aU,hy,h⟩:=ae h
 refine jn ((PE cx .normal (fun aU=>[(2,.pt 0 0),(3,.pt 1 0),(4,.pt 2 0),(5,dI .i64 x1.1),(7,dI .i64 x3.1),(27,dB aU)]) fun aU=>⟨[(0,dC (aq.f aG)),(1,dC (aq.f aP)),(2,dC (aq.f ct))],[],3⟩) aU) ?_ ?_
 replace h:=hy
 refine rq hx fun K hK=>?_
 refine mbi ?_
 rcases aE h with⟨su,h⟩|⟨su,h⟩
 refine nbi hK ?_
 exact pe1 h h0 [0,1,2]
 refine nbi hK ?_
 exact pe1 h h0 [0,1,2]
 refine lw0 ?_
 refine cdh h rfl (fun ss h=>?_) (fun ss h=>?_)
 refine AW.seq (AW.block ?_)
 obtain⟨Bl,hy,h⟩:=ae h
 refine lp (S:=Int×Int) (X:=Int) (fun (uP,Df)=>[(4,.pt 0 0),(5,dI .i64 uP),(7,dI .i64 Df)]) (fun (uP,Df)=>⟨[(0,dC (aq.f ct))],[],1⟩) (PE cx (.exit 0) (fun Bl=>[(4,.pt 0 0),(5,dI .i64 Bl)]) fun Bl=>⟨[(0,dC (aq.f ct))],[],1⟩) hy ?_ ?_ ?_
 exact wk0 h0 [2]
 clear hy h
 rintro⟨uP,Df⟩ y h
 dsimp only[jm] at h
 refine AW.seq (ra hx ?_)
 refine cdh h rfl (fun uw h=>?_) (fun uw h=>?_)
 refine AW.skip (AW.block (rs hx fun K hK=>?_))
 iterate 2 refine sa ?_
 obtain⟨hc9,h⟩:=aA h
 refine s1 (FH hc9) ?_
 refine nbi hK ?_
 refine ra hx ?_
 refine rb hx ?_
 exact pel h h0 [0]
 exact AW.exit (per h h0 [0])
 refine lw0 ?_
 refine rs hx fun K hK=>?_
 refine sa ?_
 refine scb h iH fun ta h=>?_
 refine scb h Kg fun qW h=>?_
 refine nbi hK ?_
 exact AW.ret (rtv h)
 refine AW.skip ?_
 iterate 2 refine AW.seq ?_
 obtain⟨uL,hy,h⟩:=ae h
 refine jn ((PE cx .normal (fun uL=>[(2,.pt 0 0),(3,.pt 1 0),(4,.pt 2 0),(45,dB uL)]) fun uL=>⟨[(0,dC (aq.f aG)),(1,dC (aq.f aP)),(2,dC (aq.f ct))],[],3⟩) uL) ?_ ?_
 replace h:=hy
 refine rq hx fun K hK=>?_
 refine mbi ?_
 refine scb h cD fun J2 h=>?_
 refine mbi ?_
 rcases aE h with⟨IV,h⟩|⟨IV,h⟩
 refine nbi hK ?_
 exact pe1 h h0 [0,1,2]
 refine gbi ?_
 refine gcb h cD fun sZ h=>?_
 refine nbi hK ?_
 exact pe1 h h0 [0,1,2]
 refine lw0 ?_
 refine cdh h rfl (fun EQ h=>?_) (fun EQ h=>?_)
 refine rs hx fun K hK=>?_
 refine scb h kS fun Di h=>?_
 refine nbi hK ?_
 exact AW.ret (rtv h)
 refine AW.skip (rs hx fun K hK=>?_)
 refine mbi ?_
 refine scb h c0 fun yo h=>?_
 refine nbi hK ?_
 refine rs hx fun K hK=>?_
 refine mbi ?_
 refine scb h c0 fun x26 h=>?_
 refine nbi hK ?_
 refine AW.seq (AW.block ?_)
 obtain⟨Be,hy,h⟩:=ae h
 refine lp (S:=(List Int)×(List Int)) (X:=(List Int)) (fun (HP,FB)=>[(4,.pt 0 0),(10,dL (cI .i64) HP),(11,dL (cI .i64) FB)]) (fun (HP,FB)=>⟨[(0,dC (aq.f ct))],[],1⟩) (PE cx (.exit 2) (fun Be=>[(4,.pt 0 0),(10,dL (cI .i64) Be)]) fun Be=>⟨[(0,dC (aq.f ct))],[],1⟩) hy ?_ ?_ ?_
 exact wk0 h0 [2]
 clear hy h
 rintro⟨HP,FB⟩ y h
 dsimp only[jl] at h
 refine AW.seq (ra hx ?_)
 refine cdh h rfl (fun hb28 h=>?_) (fun hb28 h=>?_)
 refine AW.skip (AW.block (rs hx fun K hK=>?_))
 refine mbi ?_
 refine scb h wQ fun Bo h=>?_
 refine nbi hK ?_
 refine ra hx ?_
 refine rb hx ?_
 exact pel h h0 [0]
 exact AW.exit (per h h0 [0])
 refine lw0 ?_
 refine rs hx fun K hK=>?_
 refine sa ?_
 refine scb h eM fun x32 h=>?_
 refine nbi hK ?_
 exact AW.ret (rtv h)
def nN(db:Int)(p_m:Int):Option Int:=gd (p_m≠0) (bnd (S:=Int) (bnd (S:=Bool) (gd (p_m≠0) (cnd (decide ((Int.tmod db p_m)≠(0:Int))) (some (!((decide (db<(0:Int))) == (decide (p_m<(0:Int)))))) (some (false)))) fun aD=>cnd aD (bnd (some (i64.wrap ((i64.wrap (Int.tdiv db p_m)) - (1:Int)))) fun x6=>some (x6)) (some (i64.wrap (Int.tdiv db p_m)))) fun ib=>some ib)
theorem Gw {db:Int}{p_m:Int}{r:Int}(h:nN db p_m=some r):ar prog 169 [dI .i64 db,dI .i64 p_m] (dI .i64 r):=by
 refine bk (rs:=[.tmp 4]) (fun cx hx h0=>?_) func169
 unfold nN at h
 refine ra hx ?_
 refine rs hx fun K hK=>?_
 iterate 2 refine sa ?_
 obtain⟨Mn,h⟩:=aA h
 refine s1 (HX Mn) ?_
 refine nbi hK ?_
 refine AW.seq ?_
 obtain⟨ib,hy,h⟩:=ae h
 refine jn ((PE cx .normal (fun ib=>[(5,dI .i64 ib)]) fun ib=>⟨[],[],0⟩) ib) ?_ ?_
 replace h:=hy
 refine AW.seq ?_
 obtain⟨aD,hy,h⟩:=ae h
 refine jn ((PE cx .normal (fun aD=>[(5,dI .i64 (i64.wrap (Int.tdiv db p_m))),(19,dB aD)]) fun aD=>⟨[],[],0⟩) aD) ?_ ?_
 replace h:=hy
 refine rq hx fun K hK=>?_
 iterate 2 refine sa ?_
 obtain⟨rA,h⟩:=aA h
 refine s1 (FH rA) ?_
 refine mbi ?_
 rcases aE h with⟨fI,h⟩|⟨fI,h⟩
 refine nbi hK ?_
 exact pe1 h h0 []
 refine nbi hK ?_
 exact pe1 h h0 []
 refine lw0 ?_
 refine cdh h rfl (fun su h=>?_) (fun su h=>?_)
 refine rq hx fun K hK=>?_
 iterate 2 refine sa ?_
 obtain⟨x6,wA,h⟩:=ae h
 replace wA:=bD wA
 refine s2 (d2:=dI .i64 x6) lP (gG (congrArg (dI .i64) wA)) ?_
 refine nl hK ?_
 exact pe1 h h0 []
 exact AW.skip (pe1 h h0 [])
 refine lw0 ?_
 refine ra hx ?_
 exact AW.ret (rtv h)
def kW(aG:ap)(aP:ap):Option ap:=bnd (eW aG) fun x1=>bnd (eW aP) fun x3=>bnd (S:=Bool) (cnd x1.2 (cnd x3.2 (some (decide (x3.1≠(0:Int)))) (some (false))) (some (false))) fun aU=>cnd aU (bnd (nN x1.1 x3.1) fun x9=>bnd (e7 x9) fun ta=>some ta) (bnd (S:=Bool) (bnd (bp aG) fun qW=>cnd (!qW) (some (true)) (bnd (bp aP) fun Bs=>cnd (!Bs) (some (true)) (bnd (bB aP) fun ww=>some (decide (((ww).length:Int)=(0:Int)))))) fun aY=>cnd aY (bnd (fK) fun yz=>some yz) (bnd (bB aG) fun JS=>bnd (bB aP) fun Bq=>bnd (iQ JS Bq) fun Bo=>bnd (S:=(List Int)) (bnd (S:=Bool) (cnd (!(aG.vNeg == aP.vNeg)) (some (decide ((0:Int)<((Bo.2).length:Int)))) (some (false))) fun uM=>cnd uM (bnd (lw Bo.1 [(1:Int)]) fun P4=>some (P4)) (some (Bo.1))) fun sU=>bnd (cp (!(aG.vNeg == aP.vNeg)) sU) fun DV=>some DV))
theorem tg {aG:ap}{aP:ap}{r:ap}(h:kW aG aP=some r):ar prog 128 [dG aq aG,dG aq aP] (dG aq r):=by
 refine bk (rs:=[.cell 4 41]) (fun cx hx h0=>?_) func128
 unfold kW at h
 refine rai hx ?_
 refine rs hx fun K hK=>?_
 refine mbi ?_
 refine scb h js fun x1 h=>?_
 refine nbi hK ?_
 refine rs hx fun K hK=>?_
 refine mbi ?_
 refine scb h js fun x3 h=>?_
 refine nbi hK ?_
 iterate 2 refine AW.seq ?_
 obtain⟨aU,hy,h⟩:=ae h
 refine jn ((PE cx .normal (fun aU=>[(2,.pt 0 0),(3,.pt 1 0),(4,.pt 2 0),(5,dI .i64 x1.1),(7,dI .i64 x3.1),(28,dB aU)]) fun aU=>⟨[(0,dC (aq.f aG)),(1,dC (aq.f aP)),(2,dC (aq.f ct))],[],3⟩) aU) ?_ ?_
 replace h:=hy
 refine rq hx fun K hK=>?_
 refine mbi ?_
 rcases aE h with⟨su,h⟩|⟨su,h⟩
 refine mbi ?_
 rcases aE h with⟨qV,h⟩|⟨qV,h⟩
 refine nbi hK ?_
 exact pe1 h h0 [0,1,2]
 refine nbi hK ?_
 exact pe1 h h0 [0,1,2]
 refine nbi hK ?_
 exact pe1 h h0 [0,1,2]
 refine lw0 ?_
 refine cdh h rfl (fun uw h=>?_) (fun uw h=>?_)
 refine rs hx fun K hK=>?_
 refine mbi ?_
 refine scb h Gw fun x9 h=>?_
 refine scb h iH fun ta h=>?_
 refine nbi hK ?_
 exact AW.ret (rtv h)
 refine AW.skip ?_
 iterate 2 refine AW.seq ?_
 obtain⟨aY,hy,h⟩:=ae h
 refine jn ((PE cx .normal (fun aY=>[(2,.pt 0 0),(3,.pt 1 0),(4,.pt 2 0),(46,dB aY)]) fun aY=>⟨[(0,dC (aq.f aG)),(1,dC (aq.f aP)),(2,dC (aq.f ct))],[],3⟩) aY) ?_ ?_
 replace h:=hy
 refine rq hx fun K hK=>?_
 refine mbi ?_
 refine scb h cD fun qW h=>?_
 refine mbi ?_
 rcases aE h with⟨Ng,h⟩|⟨Ng,h⟩
 refine nbi hK ?_
 exact pe1 h h0 [0,1,2]
 refine gbi ?_
 refine gcb h cD fun Bs h=>?_
 refine mbi ?_
 rcases aE h with⟨Nf,h⟩|⟨Nf,h⟩
 refine nbi hK ?_
 exact pe1 h h0 [0,1,2]
 refine gbi ?_
 refine gcb h c0 fun ww h=>?_
 refine nbi hK ?_
 exact pe1 h h0 [0,1,2]
 refine lw0 ?_
 refine cdh h rfl (fun hb22 h=>?_) (fun hb22 h=>?_)
 refine rs hx fun K hK=>?_
 refine scb h kS fun yz h=>?_
 refine nbi hK ?_
 exact AW.ret (rtv h)
 refine AW.skip (rsd [143,168] hx fun K hK=>?_)
 refine mbi ?_
 refine cqb h c0 fun JS h=>?_
 refine mbi ?_
 refine cqb h c0 fun Bq h=>?_
 refine cqb h wQ fun Bo h=>?_
 refine nbi hK ?_
 refine AW.seq ?_
 obtain⟨sU,hy,h⟩:=ae h
 refine jn ((PE cx .normal (fun sU=>[(2,.pt 0 0),(3,.pt 1 0),(4,.pt 2 0),(9,dL (cI .i64) sU)]) fun sU=>⟨[(0,dC (aq.f aG)),(1,dC (aq.f aP)),(2,dC (aq.f ct))],[],3⟩) sU) ?_ ?_
 replace h:=hy
 refine AW.seq ?_
 obtain⟨uM,hy,h⟩:=ae h
 refine jn ((PE cx .normal (fun uM=>[(2,.pt 0 0),(3,.pt 1 0),(4,.pt 2 0),(9,dL (cI .i64) Bo.1),(65,dB uM)]) fun uM=>⟨[(0,dC (aq.f aG)),(1,dC (aq.f aP)),(2,dC (aq.f ct))],[],3⟩) uM) ?_ ?_
 replace h:=hy
 refine rq hx fun K hK=>?_
 refine mbi ?_
 rcases aE h with⟨QQ,h⟩|⟨QQ,h⟩
 refine nbi hK ?_
 exact pe1 h h0 [0,1,2]
 refine nbi hK ?_
 exact pe1 h h0 [0,1,2]
 refine lw0 ?_
 refine cdh h rfl (fun hb33 h=>?_) (fun hb33 h=>?_)
 refine rq hx fun K hK=>?_
 refine sa ?_
 refine s1 (d:=dO 3 (cI .i64) [(1:Int)]) (kQ c9 d8) ?_
 refine scb h uU fun P4 h=>?_
 refine nbi hK ?_
 exact pe1 h h0 [0,1,2]
 exact AW.skip (pe1 h h0 [0,1,2])
 refine lw0 ?_
 refine rs hx fun K hK=>?_
 refine mbi ?_
 refine scb h eM fun DV h=>?_
 refine nbi hK ?_
 exact AW.ret (rtv h)
def rC(db:Int):Option Bool:=bnd (S:=Bool) (cnd (decide (db<(2147483648:Int))) (some (decide ((-2147483648:Int)<db))) (some (false))) fun bn=>some bn
theorem Am {db:Int}{r:Bool}(h:rC db=some r):ar prog 172 [dI .i64 db] (dB r):=by
 refine bk (rs:=[.tmp 2]) (fun cx hx h0=>?_) func172
 unfold rC at h
 refine ra hx ?_
 refine AW.seq ?_
 obtain⟨bn,hy,h⟩:=ae h
 refine jn ((PE cx .normal (fun bn=>[(2,dB bn)]) fun bn=>⟨[],[],0⟩) bn) ?_ ?_
 replace h:=hy
 refine rq hx fun K hK=>?_
 refine mbi ?_
 rcases aE h with⟨fT,h⟩|⟨fT,h⟩
 refine nbi hK ?_
 exact pe1 h h0 []
 refine nbi hK ?_
 exact pe1 h h0 []
 refine lw0 ?_
 exact AW.ret (rtv h)
def mF(aG:ap)(aP:ap):Option ap:=bnd (eW aG) fun x1=>bnd (eW aP) fun x3=>bnd (S:=Bool) (cnd x1.2 (cnd x3.2 (bnd (rC x1.1) fun x7=>cnd x7 (bnd (rC x3.1) fun oG=>some (oG)) (some (false))) (some (false))) (some (false))) fun aU=>cnd aU (bnd (e7 (i64.wrap (x1.1*x3.1))) fun qB=>some qB) (bnd (S:=Bool) (bnd (bp aG) fun Bs=>cnd (!Bs) (some (true)) (bnd (bp aP) fun ww=>some (!ww))) fun aY=>cnd aY (bnd (fK) fun yz=>some yz) (bnd (bB aG) fun JS=>bnd (bB aP) fun Bq=>bnd (lS JS Bq) fun Bo=>bnd (cp (!(aG.vNeg == aP.vNeg)) Bo) fun H5=>some H5))
theorem qC {aG:ap}{aP:ap}{r:ap}(h:mF aG aP=some r):ar prog 130 [dG aq aG,dG aq aP] (dG aq r):=by
 refine bk (rs:=[.cell 4 41]) (fun cx hx h0=>?_) func130
 unfold mF at h
 refine rai hx ?_
 refine rs hx fun K hK=>?_
 refine mbi ?_
 refine scb h js fun x1 h=>?_
 refine nbi hK ?_
 refine rs hx fun K hK=>?_
 refine mbi ?_
 refine scb h js fun x3 h=>?_
 refine nbi hK ?_
 iterate 2 refine AW.seq ?_
 obtain⟨aU,hy,h⟩:=ae h
 refine jn ((PE cx .normal (fun aU=>[(2,.pt 0 0),(3,.pt 1 0),(4,.pt 2 0),(5,dI .i64 x1.1),(7,dI .i64 x3.1),(30,dB aU)]) fun aU=>⟨[(0,dC (aq.f aG)),(1,dC (aq.f aP)),(2,dC (aq.f ct))],[],3⟩) aU) ?_ ?_
 replace h:=hy
 refine rq hx fun K hK=>?_
 refine mbi ?_
 rcases aE h with⟨su,h⟩|⟨su,h⟩
 refine mbi ?_
 rcases aE h with⟨qV,h⟩|⟨qV,h⟩
 refine ga qV ?_
 refine gcb h Am fun x7 h=>?_
 refine mbi ?_
 rcases aE h with⟨K8,h⟩|⟨K8,h⟩
 refine ga K8 ?_
 refine gcb h Am fun oG h=>?_
 refine nbi hK ?_
 exact pe1 h h0 [0,1,2]
 refine nbi hK ?_
 exact pe1 h h0 [0,1,2]
 refine nbi hK ?_
 exact pe1 h h0 [0,1,2]
 refine nbi hK ?_
 exact pe1 h h0 [0,1,2]
 refine lw0 ?_
 refine cdh h rfl (fun GR h=>?_) (fun GR h=>?_)
 refine rs hx fun K hK=>?_
 refine mbi ?_
 refine scb h iH fun qB h=>?_
 refine nbi hK ?_
 exact AW.ret (rtv h)
 refine AW.skip ?_
 iterate 2 refine AW.seq ?_
 obtain⟨aY,hy,h⟩:=ae h
 refine jn ((PE cx .normal (fun aY=>[(2,.pt 0 0),(3,.pt 1 0),(4,.pt 2 0),(42,dB aY)]) fun aY=>⟨[(0,dC (aq.f aG)),(1,dC (aq.f aP)),(2,dC (aq.f ct))],[],3⟩) aY) ?_ ?_
 replace h:=hy
 refine rq hx fun K hK=>?_
 refine mbi ?_
 refine scb h cD fun Bs h=>?_
 refine mbi ?_
 rcases aE h with⟨Nf,h⟩|⟨Nf,h⟩
 refine nbi hK ?_
 exact pe1 h h0 [0,1,2]
 refine gbi ?_
 refine gcb h cD fun ww h=>?_
 refine nbi hK ?_
 exact pe1 h h0 [0,1,2]
 refine lw0 ?_
 refine cdh h rfl (fun hb22 h=>?_) (fun hb22 h=>?_)
 refine rs hx fun K hK=>?_
 refine scb h kS fun yz h=>?_
 refine nbi hK ?_
 exact AW.ret (rtv h)
 refine AW.skip (rsd [143,173,140] hx fun K hK=>?_)
 refine mbi ?_
 refine cqb h c0 fun JS h=>?_
 refine mbi ?_
 refine cqb h c0 fun Bq h=>?_
 refine cqb h yD fun Bo h=>?_
 refine cqb h eM fun H5 h=>?_
 refine nbi hK ?_
 exact AW.ret (rtv h)
def xj(aG:ap)(aP:ap):Option ap:=bnd (eW aG) fun x1=>bnd (eW aP) fun x3=>bnd (S:=Bool) (cnd x1.2 (some (x3.2)) (some (false))) fun aU=>cnd aU (bnd (e7 (i64.wrap (x1.1+x3.1))) fun x8=>some x8) (bnd (S:=Bool) (bnd (bp aG) fun oG=>cnd (!oG) (some (true)) (bnd (bp aP) fun qW=>some (!qW))) fun aY=>cnd aY (bnd (fK) fun oN=>some oN) (bnd (bB aG) fun ww=>bnd (bB aP) fun wJ=>cnd (aG.vNeg == aP.vNeg) (bnd (lw ww wJ) fun yo=>bnd (cp aG.vNeg yo) fun x26=>some x26) (bnd (mU ww wJ) fun Dx=>cnd Dx (bnd (ix wJ ww) fun H5=>bnd (cp aP.vNeg H5) fun Mi=>some Mi) (bnd (ix ww wJ) fun Ad=>bnd (cp aG.vNeg Ad) fun DV=>some DV))))
theorem Ke {aG:ap}{aP:ap}{r:ap}(h:xj aG aP=some r):ar prog 129 [dG aq aG,dG aq aP] (dG aq r):=by
 refine bk (rs:=[.cell 4 41]) (fun cx hx h0=>?_) func129
 unfold xj at h
 refine rai hx ?_
 refine rs hx fun K hK=>?_
 refine mbi ?_
 refine scb h js fun x1 h=>?_
 refine nbi hK ?_
 refine rs hx fun K hK=>?_
 refine mbi ?_
 refine scb h js fun x3 h=>?_
 refine nbi hK ?_
 iterate 2 refine AW.seq ?_
 obtain⟨aU,hy,h⟩:=ae h
 refine jn ((PE cx .normal (fun aU=>[(2,.pt 0 0),(3,.pt 1 0),(4,.pt 2 0),(5,dI .i64 x1.1),(7,dI .i64 x3.1),(25,dB aU)]) fun aU=>⟨[(0,dC (aq.f aG)),(1,dC (aq.f aP)),(2,dC (aq.f ct))],[],3⟩) aU) ?_ ?_
 replace h:=hy
 refine rq hx fun K hK=>?_
 refine mbi ?_
 rcases aE h with⟨su,h⟩|⟨su,h⟩
 refine nbi hK ?_
 exact pe1 h h0 [0,1,2]
 refine nbi hK ?_
 exact pe1 h h0 [0,1,2]
 refine lw0 ?_
 refine cdh h rfl (fun ss h=>?_) (fun ss h=>?_)
 refine rs hx fun K hK=>?_
 refine mbi ?_
 refine scb h iH fun x8 h=>?_
 refine nbi hK ?_
 exact AW.ret (rtv h)
 refine AW.skip ?_
 iterate 2 refine AW.seq ?_
 obtain⟨aY,hy,h⟩:=ae h
 refine jn ((PE cx .normal (fun aY=>[(2,.pt 0 0),(3,.pt 1 0),(4,.pt 2 0),(37,dB aY)]) fun aY=>⟨[(0,dC (aq.f aG)),(1,dC (aq.f aP)),(2,dC (aq.f ct))],[],3⟩) aY) ?_ ?_
 replace h:=hy
 refine rq hx fun K hK=>?_
 refine mbi ?_
 refine scb h cD fun oG h=>?_
 refine mbi ?_
 rcases aE h with⟨Cg,h⟩|⟨Cg,h⟩
 refine nbi hK ?_
 exact pe1 h h0 [0,1,2]
 refine gbi ?_
 refine gcb h cD fun qW h=>?_
 refine nbi hK ?_
 exact pe1 h h0 [0,1,2]
 refine lw0 ?_
 refine cdh h rfl (fun tS h=>?_) (fun tS h=>?_)
 refine rs hx fun K hK=>?_
 refine scb h kS fun oN h=>?_
 refine nbi hK ?_
 exact AW.ret (rtv h)
 refine AW.skip (rs hx fun K hK=>?_)
 refine mbi ?_
 refine scb h c0 fun ww h=>?_
 refine nbi hK ?_
 refine rs hx fun K hK=>?_
 refine mbi ?_
 refine scb h c0 fun wJ h=>?_
 refine nbi hK ?_
 refine AW.seq (rai hx ?_)
 refine cdh h rfl (fun TS h=>?_) (fun TS h=>?_)
 refine rsd [141,140] hx fun K hK=>?_
 refine mbi ?_
 refine cqb h uU fun yo h=>?_
 refine cqb h eM fun x26 h=>?_
 refine nbi hK ?_
 exact AW.ret (rtv h)
 refine AW.skip (rs hx fun K hK=>?_)
 refine mbi ?_
 refine scb h Al fun Dx h=>?_
 refine nbi hK ?_
 refine AW.seq (ra hx ?_)
 refine cdh h rfl (fun TP h=>?_) (fun TP h=>?_)
 refine rsd [171,140] hx fun K hK=>?_
 refine mbi ?_
 refine cqb h qp fun H5 h=>?_
 refine cqb h eM fun Mi h=>?_
 refine nbi hK ?_
 exact AW.ret (rtv h)
 refine AW.skip (rsd [171,140] hx fun K hK=>?_)
 refine mbi ?_
 refine cqb h qp fun Ad h=>?_
 refine cqb h eM fun DV h=>?_
 refine nbi hK ?_
 exact AW.ret (rtv h)
def qN(aK:ap):Option ap:=bnd (bp aK) fun x1=>cnd (!x1) (bnd (fK) fun x4=>some x4) (bnd (bB aK) fun x6=>bnd (cp (!aK.vNeg) x6) fun x8=>some x8)
theorem Kd {aK:ap}{r:ap}(h:qN aK=some r):ar prog 157 [dG aq aK] (dG aq r):=by
 refine bk (rs:=[.cell 2 41]) (fun cx hx h0=>?_) func157
 unfold qN at h
 refine rai hx ?_
 refine AW.seq (rs hx fun K hK=>?_)
 refine mbi ?_
 refine scb h cD fun x1 h=>?_
 refine nbi hK ?_
 refine cdh h rfl (fun fI h=>?_) (fun fI h=>?_)
 refine rs hx fun K hK=>?_
 refine scb h kS fun x4 h=>?_
 refine nbi hK ?_
 exact AW.ret (rtv h)
 refine AW.skip (rsd [143,140] hx fun K hK=>?_)
 refine mbi ?_
 refine cqb h c0 fun x6 h=>?_
 refine cqb h eM fun x8 h=>?_
 refine nbi hK ?_
 exact AW.ret (rtv h)
def lx(aK:ap):Option Int:=bnd (S:=Bool) (bnd (bp aK) fun x1=>cnd (!x1) (some (true)) (bnd (bB aK) fun x4=>some (decide (((x4).length:Int)=(0:Int))))) fun dU=>cnd dU (some (0:Int)) (cnd aK.vNeg (some (-1:Int)) (some (1:Int)))
theorem uW {aK:ap}{r:Int}(h:lx aK=some r):ar prog 113 [dG aq aK] (dI .i64 r):=by
 refine bk (rs:=[.tmp 2]) (fun cx hx h0=>?_) func113
 unfold lx at h
 refine ra hx ?_
 iterate 2 refine AW.seq ?_
 obtain⟨dU,hy,h⟩:=ae h
 refine jn ((PE cx .normal (fun dU=>[(1,.pt 0 0),(11,dB dU)]) fun dU=>⟨[(0,dC (aq.f aK))],[],1⟩) dU) ?_ ?_
 replace h:=hy
 refine rq hx fun K hK=>?_
 refine mbi ?_
 refine scb h cD fun x1 h=>?_
 refine mbi ?_
 rcases aE h with⟨fI,h⟩|⟨fI,h⟩
 refine nbi hK ?_
 exact pe1 h h0 [0]
 refine gbi ?_
 refine gcb h c0 fun x4 h=>?_
 refine nbi hK ?_
 exact pe1 h h0 [0]
 refine lw0 ?_
 refine cdh h rfl (fun ss h=>?_) (fun ss h=>?_)
 refine ra hx ?_
 exact AW.ret (rtv h)
 refine AW.skip (AW.seq (rai hx ?_))
 refine cdh h rfl (fun uw h=>?_) (fun uw h=>?_)
 refine ra hx ?_
 exact AW.ret (rtv h)
 refine AW.skip (ra hx ?_)
 exact AW.ret (rtv h)
def qM(eE:List Int)(wg:Int):Option Int:=bnd (dT eE (i64.wrap (Int.tdiv wg (16:Int)))) fun x1=>gd (0≤Int.tmod wg (16:Int)) (some (Int.tmod (mA .i64 x1 (Int.tmod wg (16:Int))) (2:Int)))
theorem Kc {eE:List Int}{wg:Int}{r:Int}(h:qM eE wg=some r):ar prog 144 [dL (cI .i64) eE,dI .i64 wg] (dI .i64 r):=by
 refine bk (rs:=[.tmp 4]) (fun cx hx h0=>?_) func144
 unfold qM at h
 refine ra hx ?_
 refine rs hx fun K hK=>?_
 refine mbi ?_
 refine scb h gt fun x1 h=>?_
 iterate 2 refine sa ?_
 obtain⟨hc3,h⟩:=aA h
 refine s1 (Vj hc3) ?_
 refine nbi hK ?_
 exact AW.ret (rtv h)
def mV(x4:List Int):Int→Option (Int⊕Int):=fun aY=>bnd (S:=Bool) (cnd (decide ((0:Int)<aY)) (bnd (qM x4 (i64.wrap (aY - (1:Int)))) fun x9=>some (decide (x9=(0:Int)))) (some (false))) fun oE=>cnd oE (some (.inl (i64.wrap (aY - (1:Int))))) (some (.inr aY))
def gv(aK:ap):Option Int:=bnd (bp aK) fun x1=>cnd (!x1) (some (0:Int)) (bnd (bB aK) fun x4=>bnd (some (i64.wrap ((16:Int)*((x4).length:Int)))) fun x6=>bnd (bt (mV x4) x6) fun jN=>some jN)
theorem An {aK:ap}{r:Int}(h:gv aK=some r):ar prog 90 [dG aq aK] (dI .i64 r):=by
 refine bk (rs:=[.tmp 2]) (fun cx hx h0=>?_) func90
 unfold gv at h
 refine ra hx ?_
 refine AW.seq (rs hx fun K hK=>?_)
 refine mbi ?_
 refine scb h cD fun x1 h=>?_
 refine nbi hK ?_
 refine cdh h rfl (fun fI h=>?_) (fun fI h=>?_)
 refine ra hx ?_
 exact AW.ret (rtv h)
 refine AW.skip (rs hx fun K hK=>?_)
 refine mbi ?_
 refine scb h c0 fun x4 h=>?_
 refine nbi hK ?_
 refine rs hx fun K hK=>?_
 iterate 3 refine sa ?_
 obtain⟨x6,wA,h⟩:=ae h
 replace wA:=bD wA
 refine s2 (d2:=dI .i64 x6) lP (gG (congrArg (dI .i64) wA)) ?_
 refine nl hK ?_
 refine AW.seq (AW.block ?_)
 obtain⟨jN,hy,h⟩:=ae h
 refine lp (S:=Int) (X:=Int) (fun aY=>[(3,dL (cI .i64) x4),(4,dI .i64 aY)]) (fun aY=>⟨[],[],0⟩) (PE cx (.exit 0) (fun jN=>[(4,dI .i64 jN)]) fun jN=>⟨[],[],0⟩) hy ?_ ?_ ?_
 exact wk0 h0 []
 clear hy h
 rintro aY y h
 dsimp only[mV] at h
 iterate 2 refine AW.seq ?_
 obtain⟨oE,hy,h⟩:=ae h
 refine jn ((PE cx .normal (fun oE=>[(3,dL (cI .i64) x4),(4,dI .i64 aY),(21,dB oE)]) fun oE=>⟨[],[],0⟩) oE) ?_ ?_
 replace h:=hy
 refine rq hx fun K hK=>?_
 refine mbi ?_
 rcases aE h with⟨uw,h⟩|⟨uw,h⟩
 iterate 3 refine ga uw ?_
 refine gcb h Kc fun x9 h=>?_
 refine nbi hK ?_
 exact pe1 h h0 []
 refine nbi hK ?_
 exact pe1 h h0 []
 refine lw0 ?_
 refine cdh h rfl (fun Cg h=>?_) (fun Cg h=>?_)
 refine AW.skip (AW.block (rb hx ?_))
 exact pel h h0 []
 exact AW.exit (per h h0 [])
 refine lw0 ?_
 refine ra hx ?_
 exact AW.ret (rtv h)
structure am where
 vN:ap
 vD:ap
 deriving Inhabited,DecidableEq
abbrev kI:am:=⟨ct,ct⟩
def aj:Cd am:=⟨36,fun x=>aq.f x.vN++aq.f x.vD,fun x=>by simp[aq.h,show aq.sz=18 from rfl]⟩
theorem j8(x:am):b9 (aj.f x) aq 0 x.vN (fun y=>aj.f (⟨y,x.vD⟩:am)):=
 b9.of ([]) ((aq).f x.vD) (by first|rfl|(simp[aq.h];first|rfl|done)) (by first|rfl|simp[aj,cI,cB,cS,cL,dh]) (fun y=>by first|rfl|simp[aj,cI,cB,cS,cL,dh])
theorem j9(x:am):b9 (aj.f x) aq 18 x.vD (fun y=>aj.f (⟨x.vN,y⟩:am)):=
 b9.of ((aq).f x.vN) ([]) (by first|rfl|(simp[aq.h];first|rfl|done)) (by first|rfl|simp[aj,cI,cB,cS,cL,dh]) (fun y=>by first|rfl|simp[aj,cI,cB,cS,cL,dh])
section
variable {md:Md} {ops:Array Oper} {K:List (Nat×D)→Hp→Prop} {os:List Oper} {tm:List (Nat×D)} {hp hp':Hp} {t s:Tmp} {op:Op} {ty:TypeId} {pos:String} {af:Array Edge} {d d2:D} {j:Nat} {want c:Bool}
variable {dr:Bool} {ev:Operand→D}
theorem avr(h:AVC prog tbl dr op ty ev hp (Kq d hp'):=by (first|exact av|exact KV_l (b9.id _ _)|exact zf (F:=al_cV.f (er)) c5|exact xI (oe _) tbI|exact xI (tq _) tbI|exact Bm (od _) tbI|exact KV_l (od _)|exact zf (F:=aq.f (⟨false,false,(er)⟩:ap)) fy|exact Bm (j9 _) tbI|exact Bm (j8 _) tbI|exact zf (F:=aj.f (⟨(⟨false,false,(er)⟩:ap),(⟨false,false,(er)⟩:ap)⟩:am)) aQ|exact T_ldC tbI|exact T_ldA tbI)):AVC prog tbl dr op ty ev hp (Kq d hp'):=h
theorem sbr(h2:a8 prog tbl md ops K os ((t,d)::tm) hp')(h:AVC prog tbl md.dr op ty (evD tm) hp (Kq d hp'):=by exact avr)(hn:md.nc tbl op=true:=by exact rfl):a8 prog tbl md ops K (⟨some t,op,ty,pos,af,none⟩::os) tm hp:=st tok hn h h2
theorem tzr(h2:a8 prog tbl md ops K os tm hp')(h:AVC prog tbl md.dr op ty (evD tm) hp (Kq .top hp'):=by (first|exact KV_s))(hn:md.nc tbl op=true:=by exact rfl):a8 prog tbl md ops K (⟨none,op,ty,pos,af,none⟩::os) tm hp:=st_n tok hn h h2
theorem gbr(h2:a8 prog tbl md ops K os ((t,d)::tm) hp')(hj:(ops[j]?).bind (·.dst)=some s:=by exact rfl)(hc:tm.lookup s=some (.e (.lit (.bool c))):=by exact rfl)(hw:c=want:=by (with_reducible first|rfl|assumption))(h:AVC prog tbl md.dr op ty (evD tm) hp (Kq d hp'):=by exact avr)(hn:md.nc tbl op=true:=by exact rfl):a8 prog tbl md ops K (⟨some t,op,ty,pos,af,some (j,want)⟩::os) tm hp:=Q3 tok hn hj hc hw h h2
theorem mbr {os':List Oper}{tm':List (Nat×D)}(h2:a8 prog tbl md ops K os' tm' hp')(h:a8 prog tbl md ops K os' tm' hp'→a8 prog tbl md ops K os tm hp:=by (intro h;(repeat (first|refine sbr ?_|refine tzr ?_|refine gbr ?_|refine KJ ?_));exact h)):a8 prog tbl md ops K os tm hp:=h h2
theorem nbr {R:List (Nat×D)→Hp→Prop}{tm':List (Nat×D)}(hK:∀tm hp,R tm hp→K tm hp)(h2:R tm' hp')(h:K tm' hp'→a8 prog tbl md ops K os tm hp:=by (intro h;(repeat (first|refine sbr ?_|refine tzr ?_|refine gbr ?_|refine KJ ?_));exact .nil h)):a8 prog tbl md ops K os tm hp:=h (hK _ _ h2)
end
section
variable {x:Cx} {tm:List (Nat×D)} {hp hp':Hp} {Q:Exit→List (Nat×D)→Hp→Prop}
theorem rar {n id:Nat}{l:List Oper}{b:Code}{tm':List (Nat×D)}(hx:x.N=n)(h2:AW prog x b tm' hp' Q)(h:∀K:List (Nat×D)→Hp→Prop,K tm' hp'→a8 prog tbl .seq l.toArray K l tm hp:=by (intro K h;(repeat (first|refine sbr ?_|refine tzr ?_|refine gbr ?_|refine KJ ?_));exact .nil h))(hN:mI n l.toArray=true:=by kernel_rfl):AW prog x (.seq (.region id l.toArray false) b) tm hp Q:=rs hx (fun K hK=>h K (hK _ _ h2)) hN
theorem rbr {n id:Nat}{l:List Oper}{tm':List (Nat×D)}(hx:x.N=n)(h2:Q .normal tm' hp')(h:∀K:List (Nat×D)→Hp→Prop,K tm' hp'→a8 prog tbl .seq l.toArray K l tm hp:=by (intro K h;(repeat (first|refine sbr ?_|refine tzr ?_|refine gbr ?_|refine KJ ?_));exact .nil h))(hN:mI n l.toArray=true:=by kernel_rfl):AW prog x (.region id l.toArray false) tm hp Q:=rq hx (fun K hK=>h K (hK _ _ h2)) hN
end
def D4(x:ap):List Value:=[Value.bool x.vBad]++([Value.bool x.vNeg]++((x.vW).toList.flatMap (fun x=>[Value.int .u32 x])++([])))
theorem fg:EqC tbl 3 41 aq D4:=by
 refine EqC.struct (fs:=[(0,4),(1,4),(2,39)]) fy (fun x=>?_) (fun x=>by
  have q3:uA tbl (n3 tbl 2) [] 18 []:=by unfold uA;rfl
  have q2:=sv (off:=2) (x:=x.vW) (EqC.arr (EqC.int (d:=0) bX) c5 bX) c5 rfl q3
  have q1:=sv (off:=1) (x:=x.vNeg) (EqC.bool (d:=1) uY) uY rfl q2
  have q0:=sv (off:=0) (x:=x.vBad) (EqC.bool (d:=1) uY) uY rfl q1
  exact q0) ?_
 ·have:=And.intro (And.intro ((EqC.bool (d:=1) uY).hf x.vBad) (And.intro ((EqC.bool (d:=1) uY).hf x.vNeg) (And.intro ((EqC.arr (EqC.int (d:=0) bX) c5 bX).hf x.vW) (True.intro)))) True.intro
  simp only[D4,aq,iZ,l6,tG,dh]
  all_goals (first|rfl|(simp only[←(EqC.bool (d:=1) uY).hf,←(EqC.bool (d:=1) uY).hf,←(EqC.arr (EqC.int (d:=0) bX) c5 bX).hf];try (first|rfl|simp[cI,cB])))
 ·skip
  intro x y h
  unfold D4 at h
  obtain⟨e0,h⟩:=CF h (by rw[(EqC.bool (d:=1) uY).len,(EqC.bool (d:=1) uY).len])
  obtain⟨e1,h⟩:=CF h (by rw[(EqC.bool (d:=1) uY).len,(EqC.bool (d:=1) uY).len])
  obtain⟨e2,h⟩:=CF h (by rw[(EqC.arr (EqC.int (d:=0) bX) c5 bX).len,(EqC.arr (EqC.int (d:=0) bX) c5 bX).len])
  cases x;cases y
  simp only[ap.mk.injEq]
  exact⟨((EqC.bool (d:=1) uY).inj _ _).1 e0,((EqC.bool (d:=1) uY).inj _ _).1 e1,((EqC.arr (EqC.int (d:=0) bX) c5 bX).inj _ _).1 e2⟩
def Mu(x:am):List Value:=D4 x.vN++(D4 x.vD++([]))
theorem HA:EqC tbl 4 43 aj Mu:=by
 refine EqC.struct (fs:=[(0,41),(18,41)]) aQ (fun x=>?_) (fun x=>by
  have q2:uA tbl (n3 tbl 3) [] 36 []:=by unfold uA;rfl
  have q1:=sv (off:=18) (x:=x.vD) fg fy rfl q2
  have q0:=sv (off:=0) (x:=x.vN) fg fy rfl q1
  exact q0) ?_
 ·have:=And.intro (And.intro (fg.hf x.vN) (And.intro (fg.hf x.vD) (True.intro))) True.intro
  simp only[Mu,aj,iZ,l6,tG,dh]
  all_goals (first|rfl|(simp only[←fg.hf,←fg.hf];try (first|rfl|simp[cI,cB])))
 ·skip
  intro x y h
  unfold Mu at h
  obtain⟨e0,h⟩:=CF h (by rw[fg.len,fg.len])
  obtain⟨e1,h⟩:=CF h (by rw[fg.len,fg.len])
  cases x;cases y
  simp only[am.mk.injEq]
  exact⟨(fg.inj _ _).1 e0,(fg.inj _ _).1 e1⟩
def jI(aK:ap):Option Bool:=bnd (S:=Bool) (cnd (!aK.vBad) (bnd (lQ aK) fun x2=>some (x2)) (some (false))) fun bn=>some bn
theorem ru {aK:ap}{r:Bool}(h:jI aK=some r):ar prog 146 [dG aq aK] (dB r):=by
 refine bk (rs:=[.tmp 2]) (fun cx hx h0=>?_) func146
 unfold jI at h
 refine ra hx ?_
 refine AW.seq ?_
 obtain⟨bn,hy,h⟩:=ae h
 refine jn ((PE cx .normal (fun bn=>[(2,dB bn)]) fun bn=>⟨[],[],0⟩) bn) ?_ ?_
 replace h:=hy
 refine rq hx fun K hK=>?_
 refine mbr ?_
 rcases aE h with⟨fT,h⟩|⟨fT,h⟩
 refine gbr ?_
 refine gcb h yA fun x2 h=>?_
 refine nbr hK ?_
 exact pe1 h h0 []
 refine nbr hK ?_
 exact pe1 h h0 []
 refine lw0 ?_
 exact AW.ret (rtv h)
def mH :Option ap:=bnd (g6 (1:Int)) fun x1=>some x1
theorem wU  {r:ap}(h:mH=some r):ar prog 99 [] (dG aq r):=by
 refine bk (rs:=[.cell 0 41]) (fun cx hx h0=>?_) func99
 unfold mH at h
 refine rar hx ?_
 refine rs hx fun K hK=>?_
 refine scb h rU fun x1 h=>?_
 refine nbr hK ?_
 exact AW.ret (rtv h)
def aS(aK:am):Option Bool:=bnd (S:=Bool) (bnd (jI aK.vN) fun x1=>cnd x1 (bnd (jI aK.vD) fun x4=>cnd x4 (bnd (fC aK.vD) fun x7=>cnd (decide ((0:Int)<x7)) (bnd (om aK.vN aK.vD) fun oG=>bnd (mH) fun nq=>some (decide (oG=nq))) (some (false))) (some (false))) (some (false))) fun bn=>some bn
theorem bQ {aK:am}{r:Bool}(h:aS aK=some r):ar prog 92 [dG aj aK] (dB r):=by
 refine bk (rs:=[.tmp 2]) (fun cx hx h0=>?_) func92
 unfold aS at h
 refine ra hx ?_
 refine AW.seq ?_
 obtain⟨bn,hy,h⟩:=ae h
 refine jn ((PE cx .normal (fun bn=>[(2,dB bn)]) fun bn=>⟨[],[],0⟩) bn) ?_ ?_
 replace h:=hy
 refine rq hx fun K hK=>?_
 refine mbr ?_
 refine scb h ru fun x1 h=>?_
 refine sa ?_
 rcases aE h with⟨fI,h⟩|⟨fI,h⟩
 refine ga fI ?_
 refine gbr ?_
 refine gcb h ru fun x4 h=>?_
 refine mbr ?_
 rcases aE h with⟨qV,h⟩|⟨qV,h⟩
 refine ga qV ?_
 refine gbr ?_
 refine gcb h lf fun x7 h=>?_
 refine mbr ?_
 rcases aE h with⟨K8,h⟩|⟨K8,h⟩
 refine ga K8 ?_
 refine gbr ?_
 refine ga K8 ?_
 refine gbr ?_
 refine gcb h wN fun oG h=>?_
 refine gcb h wU fun nq h=>?_
 refine g1 K8 (FK tok 3 (by decide) fg fy) ?_
 refine nbr hK ?_
 exact pe1 h h0 []
 refine nbr hK ?_
 exact pe1 h h0 []
 refine nbr hK ?_
 exact pe1 h h0 []
 refine nbr hK ?_
 exact pe1 h h0 []
 refine lw0 ?_
 exact AW.ret (rtv h)
def fe :Option am:=bnd (eo) fun x1=>bnd (mH) fun x3=>some (⟨x1,x3⟩:am)
theorem kT  {r:am}(h:fe=some r):ar prog 65 [] (dG aj r):=by
 refine bk (rs:=[.cell 0 43]) (fun cx hx h0=>?_) func65
 unfold fe at h
 refine rar hx ?_
 refine rs hx fun K hK=>?_
 refine scb h gE fun x1 h=>?_
 refine scb h wU fun x3 h=>?_
 refine s1 (d:=dG aj (⟨x1,x3⟩:am)) (ij (FL.cons (y:=x1) (j8 kI) rfl rfl (FL.cons (y:=x3) (j9 (⟨x1,ct⟩:am)) rfl rfl (FL.nil _))) aQ) ?_
 refine nbr hK ?_
 exact AW.ret (rtv h)
def dq(db:ap)(AA:ap):Option am:=bnd (S:=Bool) (bnd (jI db) fun x1=>cnd (!x1) (some (true)) (bnd (jI AA) fun x4=>cnd (!x4) (some (true)) (bnd (fC AA) fun x7=>some (decide (x7=(0:Int)))))) fun dU=>cnd dU (bnd (fe) fun ta=>some ta) (bnd (om db AA) fun qW=>bnd (S:=ap) (bnd (fC AA) fun J2=>cnd (decide (J2<(0:Int))) (bnd (kV qW) fun sZ=>some (sZ)) (some (qW))) fun eF=>bnd (gH db eF) fun wJ=>bnd (gH AA eF) fun yz=>some (⟨wJ,yz⟩:am))
theorem li {db:ap}{AA:ap}{r:am}(h:dq db AA=some r):ar prog 93 [dG aq db,dG aq AA] (dG aj r):=by
 refine bk (rs:=[.cell 4 43]) (fun cx hx h0=>?_) func93
 unfold dq at h
 refine rar hx ?_
 iterate 2 refine AW.seq ?_
 obtain⟨dU,hy,h⟩:=ae h
 refine jn ((PE cx .normal (fun dU=>[(2,.pt 0 0),(3,.pt 1 0),(4,.pt 2 0),(18,dB dU)]) fun dU=>⟨[(0,dC (aq.f db)),(1,dC (aq.f AA)),(2,dC (aj.f kI))],[],3⟩) dU) ?_ ?_
 replace h:=hy
 refine rq hx fun K hK=>?_
 refine mbr ?_
 refine scb h ru fun x1 h=>?_
 refine mbr ?_
 rcases aE h with⟨fI,h⟩|⟨fI,h⟩
 refine nbr hK ?_
 exact pe1 h h0 [0,1,2]
 refine gbr ?_
 refine gcb h ru fun x4 h=>?_
 refine mbr ?_
 rcases aE h with⟨qV,h⟩|⟨qV,h⟩
 refine nbr hK ?_
 exact pe1 h h0 [0,1,2]
 refine gbr ?_
 refine gcb h lf fun x7 h=>?_
 refine nbr hK ?_
 exact pe1 h h0 [0,1,2]
 refine lw0 ?_
 refine cdh h rfl (fun n0 h=>?_) (fun n0 h=>?_)
 refine rs hx fun K hK=>?_
 refine scb h kT fun ta h=>?_
 refine nbr hK ?_
 exact AW.ret (rtv h)
 refine AW.skip (rs hx fun K hK=>?_)
 refine mbr ?_
 refine scb h wN fun qW h=>?_
 refine nbr hK ?_
 refine AW.seq ?_
 obtain⟨eF,hy,h⟩:=ae h
 refine jn ((PE cx .normal (fun eF=>[(2,.pt 0 0),(3,.pt 1 0),(4,.pt 2 0),(5,.pt 3 0)]) fun eF=>⟨[(0,dC (aq.f db)),(1,dC (aq.f AA)),(2,dC (aj.f kI)),(3,dC (aq.f eF))],[],4⟩) eF) ?_ ?_
 replace h:=hy
 refine rs hx fun K hK=>?_
 refine mbr ?_
 refine scb h lf fun J2 h=>?_
 refine nbr hK ?_
 refine cdh h rfl (fun IV h=>?_) (fun IV h=>?_)
 refine rq hx fun K hK=>?_
 refine mbr ?_
 refine scb h te fun sZ h=>?_
 refine nbr hK ?_
 exact pe1 h h0 [0,1,2,3]
 exact AW.skip (pe1 h h0 [0,1,2,3])
 refine lw0 ?_
 refine rsd [97] hx fun K hK=>?_
 refine mbr ?_
 refine cqb h jp fun wJ h=>?_
 refine mbr ?_
 refine cqb h jp fun yz h=>?_
 refine s1 (d:=dG aj (⟨wJ,yz⟩:am)) (ij (FL.cons (y:=wJ) (j8 kI) rfl rfl (FL.cons (y:=yz) (j9 (⟨wJ,ct⟩:am)) rfl rfl (FL.nil _))) aQ) ?_
 refine nbr hK ?_
 exact AW.ret (rtv h)
def iz(aK:am)(kR:am):Option am:=bnd (S:=Bool) (bnd (aS aK) fun x1=>cnd (!x1) (some (true)) (bnd (aS kR) fun x4=>some (!x4))) fun dU=>cnd dU (bnd (fe) fun x8=>some x8) (bnd (om aK.vD kR.vD) fun oG=>bnd (gH aK.vD oG) fun nq=>bnd (gH kR.vD oG) fun qB=>bnd (jC aK.vN qB) fun Bs=>bnd (jC kR.vN nq) fun sZ=>bnd (jD Bs sZ) fun Br=>bnd (jC nq kR.vD) fun Di=>bnd (dq Br Di) fun yo=>some yo)
theorem wW {aK:am}{kR:am}{r:am}(h:iz aK kR=some r):ar prog 66 [dG aj aK,dG aj kR] (dG aj r):=by
 refine bk (rs:=[.cell 4 43]) (fun cx hx h0=>?_) func66
 unfold iz at h
 refine rar hx ?_
 iterate 2 refine AW.seq ?_
 obtain⟨dU,hy,h⟩:=ae h
 refine jn ((PE cx .normal (fun dU=>[(2,.pt 0 0),(3,.pt 1 0),(4,.pt 2 0),(15,dB dU)]) fun dU=>⟨[(0,dC (aj.f aK)),(1,dC (aj.f kR)),(2,dC (aj.f kI))],[],3⟩) dU) ?_ ?_
 replace h:=hy
 refine rq hx fun K hK=>?_
 refine mbr ?_
 refine scb h bQ fun x1 h=>?_
 refine mbr ?_
 rcases aE h with⟨fI,h⟩|⟨fI,h⟩
 refine nbr hK ?_
 exact pe1 h h0 [0,1,2]
 refine gbr ?_
 refine gcb h bQ fun x4 h=>?_
 refine nbr hK ?_
 exact pe1 h h0 [0,1,2]
 refine lw0 ?_
 refine cdh h rfl (fun ss h=>?_) (fun ss h=>?_)
 refine rs hx fun K hK=>?_
 refine scb h kT fun x8 h=>?_
 refine nbr hK ?_
 exact AW.ret (rtv h)
 refine AW.skip (rs hx fun K hK=>?_)
 refine mbr ?_
 refine scb h wN fun oG h=>?_
 refine nbr hK ?_
 refine AW.seq ?_
 obtain⟨nq,Cf,h⟩:=ae h
 obtain⟨qB,zJ,h⟩:=ae h
 refine jn (PE cx .normal (fun (_:Unit)=>[(2,.pt 0 0),(3,.pt 1 0),(4,.pt 2 0),(6,.pt 3 0),(7,.pt 4 0)]) (fun (_:Unit)=>⟨[(0,dC (aj.f aK)),(1,dC (aj.f kR)),(2,dC (aj.f kI)),(3,dC (aq.f nq)),(4,dC (aq.f qB))],[],5⟩) ()) ?_ ?_
 refine dw (DW.split 8 9 (by decide) ?_ ?_)
 refine dwg [97] [0,1,2,3,4,5,6,7,8,9,10,11] hx (by kernel_rfl) (by kernel_rfl) (by kernel_rfl) fun K hK=>?_
 dsimp only[ek,m7,nA,List.map]
 refine mbr ?_
 refine cq (jp Cf) ?_
 refine mbr ?_
 refine cq (jp zJ) ?_
 iterate 2 refine sbr ?_
 iterate 2 refine tzr ?_
 exact .nil (hK _ _ (pe0 h0 [0,1,2,4,5]))
 refine dwg [97] [0,1,2,3,4,5,6,7,9,8,10,11] hx (by kernel_rfl) (by kernel_rfl) (by kernel_rfl) fun K hK=>?_
 dsimp only[ek,m7,nA,List.map]
 refine mbr ?_
 refine cq (jp Cf) ?_
 refine mbr ?_
 refine cq (jp zJ) ?_
 iterate 2 refine sbr ?_
 iterate 2 refine tzr ?_
 exact .nil (hK _ _ (pe0 h0 [0,1,2,5,4]))
 refine lw0 ?_
 refine rsd [94,123,93] hx fun K hK=>?_
 refine mbr ?_
 refine cqb h mp fun Bs h=>?_
 refine mbr ?_
 refine cqb h mp fun sZ h=>?_
 refine cqb h CK fun Br h=>?_
 refine mbr ?_
 refine cqb h mp fun Di h=>?_
 refine cqb h li fun yo h=>?_
 refine nbr hK ?_
 exact AW.ret (rtv h)
def iy(aK:am)(kR:am):Option am:=bnd (S:=Bool) (bnd (aS aK) fun x1=>cnd (!x1) (some (true)) (bnd (aS kR) fun x4=>some (!x4))) fun dU=>cnd dU (bnd (fe) fun x8=>some x8) (bnd (dq aK.vN kR.vD) fun oG=>bnd (dq kR.vN aK.vD) fun nq=>bnd (jC oG.vN nq.vN) fun qB=>bnd (jC oG.vD nq.vD) fun Bs=>bnd (S:=Bool) (cnd qB.vBad (some (true)) (some (Bs.vBad))) fun aY=>cnd aY (bnd (fe) fun wJ=>some wJ) (some (⟨qB,Bs⟩:am)))
theorem wV {aK:am}{kR:am}{r:am}(h:iy aK kR=some r):ar prog 29 [dG aj aK,dG aj kR] (dG aj r):=by
 refine bk (rs:=[.cell 4 43]) (fun cx hx h0=>?_) func29
 unfold iy at h
 refine rar hx ?_
 iterate 2 refine AW.seq ?_
 obtain⟨dU,hy,h⟩:=ae h
 refine jn ((PE cx .normal (fun dU=>[(2,.pt 0 0),(3,.pt 1 0),(4,.pt 2 0),(16,dB dU)]) fun dU=>⟨[(0,dC (aj.f aK)),(1,dC (aj.f kR)),(2,dC (aj.f kI))],[],3⟩) dU) ?_ ?_
 replace h:=hy
 refine rq hx fun K hK=>?_
 refine mbr ?_
 refine scb h bQ fun x1 h=>?_
 refine mbr ?_
 rcases aE h with⟨fI,h⟩|⟨fI,h⟩
 refine nbr hK ?_
 exact pe1 h h0 [0,1,2]
 refine gbr ?_
 refine gcb h bQ fun x4 h=>?_
 refine nbr hK ?_
 exact pe1 h h0 [0,1,2]
 refine lw0 ?_
 refine cdh h rfl (fun ss h=>?_) (fun ss h=>?_)
 refine rs hx fun K hK=>?_
 refine scb h kT fun x8 h=>?_
 refine nbr hK ?_
 exact AW.ret (rtv h)
 refine AW.skip (AW.seq ?_)
 obtain⟨oG,GM,h⟩:=ae h
 obtain⟨nq,Cf,h⟩:=ae h
 refine jn (PE cx .normal (fun (_:Unit)=>[(4,.pt 0 0),(5,.pt 1 0),(6,.pt 2 0)]) (fun (_:Unit)=>⟨[(0,dC (aj.f kI)),(1,dC (aj.f oG)),(2,dC (aj.f nq))],[],3⟩) ()) ?_ ?_
 refine dw (DW.split 10 11 (by decide) ?_ ?_)
 refine dwg [93] [0,1,2,3,4,5,6,7,8,9,10,11,12,13] hx (by kernel_rfl) (by kernel_rfl) (by kernel_rfl) fun K hK=>?_
 dsimp only[ek,m7,nA,List.map]
 refine mbr ?_
 refine cq (li GM) ?_
 refine mbr ?_
 refine cq (li Cf) ?_
 iterate 2 refine sbr ?_
 iterate 2 refine tzr ?_
 exact .nil (hK _ _ (pe0 h0 [2,3,4]))
 refine dwg [93] [0,1,2,3,4,5,6,7,8,9,11,10,12,13] hx (by kernel_rfl) (by kernel_rfl) (by kernel_rfl) fun K hK=>?_
 dsimp only[ek,m7,nA,List.map]
 refine mbr ?_
 refine cq (li GM) ?_
 refine mbr ?_
 refine cq (li Cf) ?_
 iterate 2 refine sbr ?_
 iterate 2 refine tzr ?_
 exact .nil (hK _ _ (pe0 h0 [2,4,3]))
 refine lw0 ?_
 refine AW.seq ?_
 obtain⟨qB,zJ,h⟩:=ae h
 obtain⟨Bs,hx17,h⟩:=ae h
 refine jn (PE cx .normal (fun (_:Unit)=>[(4,.pt 0 0),(7,.pt 1 0),(8,.pt 2 0)]) (fun (_:Unit)=>⟨[(0,dC (aj.f kI)),(1,dC (aq.f qB)),(2,dC (aq.f Bs))],[],3⟩) ()) ?_ ?_
 refine dw (DW.split 10 11 (by decide) ?_ ?_)
 refine dwg [94] [0,1,2,3,4,5,6,7,8,9,10,11,12,13] hx (by kernel_rfl) (by kernel_rfl) (by kernel_rfl) fun K hK=>?_
 dsimp only[ek,m7,nA,List.map]
 refine mbr ?_
 refine cq (mp zJ) ?_
 refine mbr ?_
 refine cq (mp hx17) ?_
 iterate 2 refine sbr ?_
 iterate 2 refine tzr ?_
 exact .nil (hK _ _ (pe0 h0 [0,3,4]))
 refine dwg [94] [0,1,2,3,4,5,6,7,8,9,11,10,12,13] hx (by kernel_rfl) (by kernel_rfl) (by kernel_rfl) fun K hK=>?_
 dsimp only[ek,m7,nA,List.map]
 refine mbr ?_
 refine cq (mp zJ) ?_
 refine mbr ?_
 refine cq (mp hx17) ?_
 iterate 2 refine sbr ?_
 iterate 2 refine tzr ?_
 exact .nil (hK _ _ (pe0 h0 [0,4,3]))
 refine lw0 ?_
 iterate 2 refine AW.seq ?_
 obtain⟨aY,hy,h⟩:=ae h
 refine jn ((PE cx .normal (fun aY=>[(4,.pt 0 0),(7,.pt 1 0),(8,.pt 2 0),(43,dB aY)]) fun aY=>⟨[(0,dC (aj.f kI)),(1,dC (aq.f qB)),(2,dC (aq.f Bs))],[],3⟩) aY) ?_ ?_
 replace h:=hy
 refine rq hx fun K hK=>?_
 refine mbr ?_
 rcases aE h with⟨Nf,h⟩|⟨Nf,h⟩
 refine nbr hK ?_
 exact pe1 h h0 [0,1,2]
 refine nbr hK ?_
 exact pe1 h h0 [0,1,2]
 refine lw0 ?_
 refine cdh h rfl (fun TT h=>?_) (fun TT h=>?_)
 refine rs hx fun K hK=>?_
 refine scb h kT fun wJ h=>?_
 refine nbr hK ?_
 exact AW.ret (rtv h)
 refine AW.skip (rs hx fun K hK=>?_)
 iterate 2 refine sbr ?_
 refine s1 (d:=dG aj (⟨qB,Bs⟩:am)) (ij (FL.cons (y:=qB) (j8 kI) rfl rfl (FL.cons (y:=Bs) (j9 (⟨qB,ct⟩:am)) rfl rfl (FL.nil _))) aQ) ?_
 refine nbr hK ?_
 exact AW.ret (rtv h)
def tz(aK:am)(kR:am):Option am:=bnd (aS kR) fun x1=>cnd (!x1) (bnd (fe) fun x4=>some x4) (bnd (dq kR.vD kR.vN) fun x6=>bnd (iy aK x6) fun x8=>some x8)
theorem Kj {aK:am}{kR:am}{r:am}(h:tz aK kR=some r):ar prog 153 [dG aj aK,dG aj kR] (dG aj r):=by
 refine bk (rs:=[.cell 4 43]) (fun cx hx h0=>?_) func153
 unfold tz at h
 refine rar hx ?_
 refine AW.seq (rs hx fun K hK=>?_)
 refine mbr ?_
 refine scb h bQ fun x1 h=>?_
 refine nbr hK ?_
 refine cdh h rfl (fun fI h=>?_) (fun fI h=>?_)
 refine rs hx fun K hK=>?_
 refine scb h kT fun x4 h=>?_
 refine nbr hK ?_
 exact AW.ret (rtv h)
 refine AW.skip (rsd [93,29] hx fun K hK=>?_)
 refine mbr ?_
 refine cqb h li fun x6 h=>?_
 refine cqb h wV fun x8 h=>?_
 refine nbr hK ?_
 exact AW.ret (rtv h)
def kX(aK:am):Option am:=bnd (aS aK) fun x1=>cnd (!x1) (bnd (fe) fun x4=>some x4) (bnd (kV aK.vN) fun x6=>some (⟨x6,aK.vD⟩:am))
theorem th {aK:am}{r:am}(h:kX aK=some r):ar prog 42 [dG aj aK] (dG aj r):=by
 refine bk (rs:=[.cell 2 43]) (fun cx hx h0=>?_) func42
 unfold kX at h
 refine rar hx ?_
 refine AW.seq (rs hx fun K hK=>?_)
 refine mbr ?_
 refine scb h bQ fun x1 h=>?_
 refine nbr hK ?_
 refine cdh h rfl (fun fI h=>?_) (fun fI h=>?_)
 refine rs hx fun K hK=>?_
 refine scb h kT fun x4 h=>?_
 refine nbr hK ?_
 exact AW.ret (rtv h)
 refine AW.skip (rsd [100] hx fun K hK=>?_)
 refine mbr ?_
 refine cqb h te fun x6 h=>?_
 iterate 2 refine sbr ?_
 refine s1 (d:=dG aj (⟨x6,aK.vD⟩:am)) (ij (FL.cons (y:=x6) (j8 kI) rfl rfl (FL.cons (y:=aK.vD) (j9 (⟨x6,ct⟩:am)) rfl rfl (FL.nil _))) aQ) ?_
 refine nbr hK ?_
 exact AW.ret (rtv h)
def lT(db:ap):Option am:=bnd (mH) fun x1=>bnd (dq db x1) fun x3=>some x3
theorem yE {db:ap}{r:am}(h:lT db=some r):ar prog 34 [dG aq db] (dG aj r):=by
 refine bk (rs:=[.cell 2 43]) (fun cx hx h0=>?_) func34
 unfold lT at h
 refine rar hx ?_
 refine rsd [99,93] hx fun K hK=>?_
 refine mbr ?_
 refine cqb h wU fun x1 h=>?_
 refine cqb h li fun x3 h=>?_
 refine nbr hK ?_
 exact AW.ret (rtv h)
def qc(db:Int):Option am:=bnd (g6 db) fun x1=>bnd (lT x1) fun x3=>some x3
theorem D3 {db:Int}{r:am}(h:qc db=some r):ar prog 28 [dI .i64 db] (dG aj r):=by
 refine bk (rs:=[.cell 2 43]) (fun cx hx h0=>?_) func28
 unfold qc at h
 refine rar hx ?_
 refine rs hx fun K hK=>?_
 refine sa ?_
 refine scb h rU fun x1 h=>?_
 refine scb h yE fun x3 h=>?_
 refine nbr hK ?_
 exact AW.ret (rtv h)
def im(aK:am):Option Int:=bnd (aS aK) fun x1=>cnd (!x1) (some (0:Int)) (bnd (fC aK.vN) fun x4=>some x4)
theorem oO {aK:am}{r:Int}(h:im aK=some r):ar prog 30 [dG aj aK] (dI .i64 r):=by
 refine bk (rs:=[.tmp 2]) (fun cx hx h0=>?_) func30
 unfold im at h
 refine ra hx ?_
 refine AW.seq (rs hx fun K hK=>?_)
 refine mbr ?_
 refine scb h bQ fun x1 h=>?_
 refine nbr hK ?_
 refine cdh h rfl (fun fI h=>?_) (fun fI h=>?_)
 refine ra hx ?_
 exact AW.ret (rtv h)
 refine AW.skip (rs hx fun K hK=>?_)
 refine mbr ?_
 refine scb h lf fun x4 h=>?_
 refine nbr hK ?_
 exact AW.ret (rtv h)
def tx(aK:am)(kR:am):Option am:=bnd (kX kR) fun x1=>bnd (iz aK x1) fun x3=>some x3
theorem Kh {aK:am}{kR:am}{r:am}(h:tx aK kR=some r):ar prog 76 [dG aj aK,dG aj kR] (dG aj r):=by
 refine bk (rs:=[.cell 4 43]) (fun cx hx h0=>?_) func76
 unfold tx at h
 refine rar hx ?_
 refine rsd [42,66] hx fun K hK=>?_
 refine mbr ?_
 refine cqb h th fun x1 h=>?_
 refine cqb h wW fun x3 h=>?_
 refine nbr hK ?_
 exact AW.ret (rtv h)
def jo :Int×am×am→Option ((Int×am×am)⊕Int):=fun (Bh,PM,PL)=>bnd (gH PM.vN PM.vD) fun oG=>bnd (gH PL.vN PL.vD) fun nq=>bnd (qK oG nq) fun qB=>cnd (decide (qB≠(0:Int))) (some (.inr (i64.wrap (Bh*qB)))) (bnd (oi PM.vN PM.vD) fun oN=>bnd (oi PL.vN PL.vD) fun ww=>bnd (fC oN) fun wJ=>bnd (fC ww) fun yz=>bnd (S:=Bool) (cnd (decide (wJ=(0:Int))) (some (true)) (some (decide (yz=(0:Int))))) fun uJ=>cnd uJ (bnd (some (i64.wrap (Bh*(i64.wrap (wJ - yz))))) fun Dx=>some (.inr Dx)) (some (.inl (i64.wrap (0 - Bh),(⟨PM.vD,oN⟩:am),(⟨PL.vD,ww⟩:am)))))
def fL(aK:am)(kR:am):Option Int:=bnd (aS aK) fun x1=>bnd (aS kR) fun x3=>bnd (S:=Bool) (cnd (!x1) (some (!x3)) (some (false))) fun aU=>cnd aU (some (0:Int)) (cnd (!x1) (some (-1:Int)) (cnd (!x3) (some (1:Int)) (bnd (bt (jo) ((1:Int),aK,kR)) fun vS=>some vS)))
theorem mr {aK:am}{kR:am}{r:Int}(h:fL aK kR=some r):ar prog 32 [dG aj aK,dG aj kR] (dI .i64 r):=by
 refine bk (rs:=[.tmp 4]) (fun cx hx h0=>?_) func32
 unfold fL at h
 refine ra hx ?_
 refine AW.scope (rsd [92] hx fun K hK=>?_)
 refine mbr ?_
 refine cqb h bQ fun x1 h=>?_
 refine mbr ?_
 refine cqb h bQ fun x3 h=>?_
 refine nbr hK ?_
 refine AW.seq (AW.block (AW.seq ?_))
 obtain⟨aU,hy,h⟩:=ae h
 refine jn ((PE cx .normal (fun aU=>[(2,.pt 0 0),(3,.pt 1 0),(5,dB x1),(6,dB x3),(15,dB aU)]) fun aU=>⟨[(0,dC (aj.f aK)),(1,dC (aj.f kR))],[],2⟩) aU) ?_ ?_
 replace h:=hy
 refine rq hx fun K hK=>?_
 refine mbr ?_
 rcases aE h with⟨su,h⟩|⟨su,h⟩
 refine nbr hK ?_
 exact pe1 h h0 [0,1]
 refine nbr hK ?_
 exact pe1 h h0 [0,1]
 refine lw0 ?_
 refine cdh h rfl (fun ss h=>?_) (fun ss h=>?_)
 refine ra hx ?_
 exact AW.ret (rtv h)
 refine ra hx ?_
 refine cdh h rfl (fun uw h=>?_) (fun uw h=>?_)
 refine ra hx ?_
 exact AW.ret (rtv h)
 refine ra hx ?_
 refine cdh h rfl (fun K8 h=>?_) (fun K8 h=>?_)
 refine ra hx ?_
 exact AW.ret (rtv h)
 refine AW.skip (ra hx ?_)
 refine AW.seq (AW.label (AW.seq (AW.block ?_)))
 obtain⟨vS,hy,h⟩:=ae h
 refine lp (S:=Int×am×am) (X:=Int) (fun (Bh,PM,PL)=>[(2,.pt 0 0),(3,.pt 1 0),(7,dI .i64 Bh)]) (fun (Bh,PM,PL)=>⟨[(0,dC (aj.f PM)),(1,dC (aj.f PL))],[],2⟩) (PE cx (.exit 1) (fun vS=>[(7,dI .i64 vS)]) fun vS=>⟨[],[],0⟩) hy ?_ ?_ ?_
 exact wk0 h0 [0,1]
 clear hy h
 rintro⟨Bh,PM,PL⟩ y h
 dsimp only[jo] at h
 refine AW.block (AW.seq (rsd [97,96] hx fun K hK=>?_))
 refine mbr ?_
 refine cqb h jp fun oG h=>?_
 refine mbr ?_
 refine cqb h jp fun nq h=>?_
 refine cqb h J8 fun qB h=>?_
 refine nbr hK ?_
 refine ra hx ?_
 refine cdh h rfl (fun tS h=>?_) (fun tS h=>?_)
 refine ra hx ?_
 exact AW.exit (per h h0 [])
 refine AW.skip (AW.seq ?_)
 obtain⟨oN,wB,h⟩:=ae h
 obtain⟨ww,GL,h⟩:=ae h
 refine jn (PE cx .normal (fun (_:Unit)=>[(2,.pt 0 0),(3,.pt 1 0),(7,dI .i64 Bh)]) (fun (_:Unit)=>⟨[(0,dC (aj.f (⟨PM.vD,oN⟩:am))),(1,dC (aj.f (⟨PL.vD,ww⟩:am)))],[],2⟩) ()) ?_ ?_
 refine dw (DW.split 9 16 (by decide) ?_ ?_)
 refine dwg [98] [0,1,2,3,4,5,6,7,8,9,10,11,12,13,14,15,16,17] hx (by kernel_rfl) (by kernel_rfl) (by kernel_rfl) fun K hK=>?_
 dsimp only[ek,m7,nA,List.map]
 refine mbr ?_
 refine cq (td wB) ?_
 refine s1 (d:=dG aj (⟨PM.vD,oN⟩:am)) (ij (FL.cons (y:=PM.vD) (j8 kI) rfl rfl (FL.cons (y:=oN) (j9 (⟨PM.vD,ct⟩:am)) rfl rfl (FL.nil _))) aQ) ?_
 refine mbr ?_
 refine cq (td GL) ?_
 refine s1 (d:=dG aj (⟨PL.vD,ww⟩:am)) (ij (FL.cons (y:=PL.vD) (j8 kI) rfl rfl (FL.cons (y:=ww) (j9 (⟨PL.vD,ct⟩:am)) rfl rfl (FL.nil _))) aQ) ?_
 iterate 2 refine tzr ?_
 exact .nil (hK _ _ (pe0 h0 [0,1]))
 refine dwg [98] [0,1,2,3,4,5,6,7,8,10,11,12,13,14,16,9,15,17] hx (by kernel_rfl) (by kernel_rfl) (by kernel_rfl) fun K hK=>?_
 dsimp only[ek,m7,nA,List.map]
 refine mbr ?_
 refine cq (td wB) ?_
 refine s1 (d:=dG aj (⟨PM.vD,oN⟩:am)) (ij (FL.cons (y:=PM.vD) (j8 kI) rfl rfl (FL.cons (y:=oN) (j9 (⟨PM.vD,ct⟩:am)) rfl rfl (FL.nil _))) aQ) ?_
 refine mbr ?_
 refine cq (td GL) ?_
 refine tzr ?_
 refine sbr ?_
 refine s1 (d:=dG aj (⟨PL.vD,ww⟩:am)) (ij (FL.cons (y:=PL.vD) (j8 kI) rfl rfl (FL.cons (y:=ww) (j9 (⟨PL.vD,ct⟩:am)) rfl rfl (FL.nil _))) aQ) ?_
 refine tzr ?_
 exact .nil (hK _ _ (pe0 h0 [0,1]))
 refine lw0 ?_
 refine rsd [95] hx fun K hK=>?_
 refine mbr ?_
 refine cqb h lf fun wJ h=>?_
 refine mbr ?_
 refine cqb h lf fun yz h=>?_
 refine nbr hK ?_
 iterate 2 refine AW.seq ?_
 obtain⟨uJ,hy,h⟩:=ae h
 refine jn ((PE cx .normal (fun uJ=>[(2,.pt 0 0),(3,.pt 1 0),(7,dI .i64 Bh),(9,dI .i64 wJ),(10,dI .i64 yz),(71,dB uJ)]) fun uJ=>⟨[(0,dC (aj.f (⟨PM.vD,oN⟩:am))),(1,dC (aj.f (⟨PL.vD,ww⟩:am)))],[],2⟩) uJ) ?_ ?_
 replace h:=hy
 refine rq hx fun K hK=>?_
 refine mbr ?_
 rcases aE h with⟨hb25,h⟩|⟨hb25,h⟩
 refine nbr hK ?_
 exact pe1 h h0 [0,1]
 refine nbr hK ?_
 exact pe1 h h0 [0,1]
 refine lw0 ?_
 refine cdh h rfl (fun TQ h=>?_) (fun TQ h=>?_)
 refine rs hx fun K hK=>?_
 iterate 5 refine sa ?_
 obtain⟨Dx,S1,h⟩:=ae h
 replace S1:=bD S1
 refine s2 (d2:=dI .i64 Dx) lP (gG (congrArg (dI .i64) S1)) ?_
 refine nl hK ?_
 exact AW.exit (per h h0 [])
 refine AW.skip (rb hx ?_)
 exact pel h h0 [0,1]
 refine lw0 ?_
 refine ra hx ?_
 exact AW.ret (rtv h)
def tV(aK:am):Option ap:=bnd (aS aK) fun x1=>cnd (!x1) (bnd (eo) fun x4=>some x4) (bnd (gH aK.vN aK.vD) fun x6=>some x6)
theorem Gy {aK:am}{r:ap}(h:tV aK=some r):ar prog 101 [dG aj aK] (dG aq r):=by
 refine bk (rs:=[.cell 2 41]) (fun cx hx h0=>?_) func101
 unfold tV at h
 refine rar hx ?_
 refine AW.seq (rs hx fun K hK=>?_)
 refine mbr ?_
 refine scb h bQ fun x1 h=>?_
 refine nbr hK ?_
 refine cdh h rfl (fun fI h=>?_) (fun fI h=>?_)
 refine rs hx fun K hK=>?_
 refine scb h gE fun x4 h=>?_
 refine nbr hK ?_
 exact AW.ret (rtv h)
 refine AW.skip (rs hx fun K hK=>?_)
 refine mbr ?_
 refine scb h jp fun x6 h=>?_
 refine nbr hK ?_
 exact AW.ret (rtv h)
def vl(aK:am):Option ap:=bnd (kX aK) fun x1=>bnd (tV x1) fun x3=>bnd (kV x3) fun x5=>some x5
theorem H9 {aK:am}{r:ap}(h:vl aK=some r):ar prog 35 [dG aj aK] (dG aq r):=by
 refine bk (rs:=[.cell 2 41]) (fun cx hx h0=>?_) func35
 unfold vl at h
 refine rar hx ?_
 refine rs hx fun K hK=>?_
 refine mbr ?_
 refine scb h th fun x1 h=>?_
 refine scb h Gy fun x3 h=>?_
 refine scb h te fun x5 h=>?_
 refine nbr hK ?_
 exact AW.ret (rtv h)
def xl(aK:am)(kR:am):Option am:=bnd (S:=Bool) (bnd (aS aK) fun x1=>cnd (!x1) (some (true)) (bnd (aS kR) fun x4=>some (!x4))) fun ib=>cnd ib (bnd (fe) fun x8=>some x8) (bnd (fL aK kR) fun oG=>cnd (decide (oG<(0:Int))) (some kR) (some aK))
theorem Ki {aK:am}{kR:am}{r:am}(h:xl aK kR=some r):ar prog 33 [dG aj aK,dG aj kR] (dG aj r):=by
 refine bk (rs:=[.cell 4 43]) (fun cx hx h0=>?_) func33
 unfold xl at h
 refine rar hx ?_
 refine AW.seq (AW.block (AW.seq ?_))
 obtain⟨ib,hy,h⟩:=ae h
 refine jn ((PE cx .normal (fun ib=>[(2,.pt 0 0),(3,.pt 1 0),(4,.pt 2 0),(5,dB ib)]) fun ib=>⟨[(0,dC (aj.f aK)),(1,dC (aj.f kR)),(2,dC (aj.f kI))],[],3⟩) ib) ?_ ?_
 replace h:=hy
 refine rq hx fun K hK=>?_
 refine mbr ?_
 refine scb h bQ fun x1 h=>?_
 refine mbr ?_
 rcases aE h with⟨fI,h⟩|⟨fI,h⟩
 refine nbr hK ?_
 exact pe1 h h0 [0,1,2]
 refine gbr ?_
 refine gcb h bQ fun x4 h=>?_
 refine nbr hK ?_
 exact pe1 h h0 [0,1,2]
 refine lw0 ?_
 refine cdh h rfl (fun ss h=>?_) (fun ss h=>?_)
 refine rs hx fun K hK=>?_
 refine scb h kT fun x8 h=>?_
 refine nbr hK ?_
 exact AW.ret (rtv h)
 refine rs hx fun K hK=>?_
 refine mbr ?_
 refine scb h mr fun oG h=>?_
 refine nbr hK ?_
 refine cdh h rfl (fun Cg h=>?_) (fun Cg h=>?_)
 refine rar hx ?_
 exact AW.ret (rtv h)
 refine AW.skip (rar hx ?_)
 exact AW.ret (rtv h)
def mE :Option ap:=bnd (e7 (1:Int)) fun x1=>some x1
theorem wP  {r:ap}(h:mE=some r):ar prog 125 [] (dG aq r):=by
 refine bk (rs:=[.cell 0 41]) (fun cx hx h0=>?_) func125
 unfold mE at h
 refine rar hx ?_
 refine rs hx fun K hK=>?_
 refine scb h iH fun x1 h=>?_
 refine nbr hK ?_
 exact AW.ret (rtv h)
def fF(aK:am):Option Bool:=bnd (S:=Bool) (bnd (bp aK.vN) fun x1=>cnd (!x1) (some (true)) (bnd (bp aK.vD) fun x4=>some (!x4))) fun dU=>cnd dU (some false) (bnd (S:=Bool) (bnd (lx aK.vD) fun x8=>cnd (decide ((0:Int)<x8)) (bnd (mG aK.vN aK.vD) fun ta=>bnd (mE) fun qW=>some (decide (ta=qW))) (some (false))) fun pM=>some pM)
theorem mP {aK:am}{r:Bool}(h:fF aK=some r):ar prog 89 [dG aj aK] (dB r):=by
 refine bk (rs:=[.tmp 2]) (fun cx hx h0=>?_) func89
 unfold fF at h
 refine ra hx ?_
 iterate 2 refine AW.seq ?_
 obtain⟨dU,hy,h⟩:=ae h
 refine jn ((PE cx .normal (fun dU=>[(1,.pt 0 0),(12,dB dU)]) fun dU=>⟨[(0,dC (aj.f aK))],[],1⟩) dU) ?_ ?_
 replace h:=hy
 refine rq hx fun K hK=>?_
 refine mbr ?_
 refine scb h cD fun x1 h=>?_
 refine mbr ?_
 rcases aE h with⟨fI,h⟩|⟨fI,h⟩
 refine nbr hK ?_
 exact pe1 h h0 [0]
 refine ga fI ?_
 refine gbr ?_
 refine gcb h cD fun x4 h=>?_
 refine nbr hK ?_
 exact pe1 h h0 [0]
 refine lw0 ?_
 refine cdh h rfl (fun ss h=>?_) (fun ss h=>?_)
 refine ra hx ?_
 exact AW.ret (rtv h)
 refine AW.skip (AW.seq ?_)
 obtain⟨pM,hy,h⟩:=ae h
 refine jn ((PE cx .normal (fun pM=>[(2,dB pM)]) fun pM=>⟨[],[],0⟩) pM) ?_ ?_
 replace h:=hy
 refine rq hx fun K hK=>?_
 refine mbr ?_
 refine scb h uW fun x8 h=>?_
 refine mbr ?_
 rcases aE h with⟨n0,h⟩|⟨n0,h⟩
 refine ga n0 ?_
 refine gbr ?_
 refine ga n0 ?_
 refine gbr ?_
 refine gcb h wS fun ta h=>?_
 refine gcb h wP fun qW h=>?_
 refine g1 n0 (FK tok 3 (by decide) fg fy) ?_
 refine nbr hK ?_
 exact pe1 h h0 []
 refine nbr hK ?_
 exact pe1 h h0 []
 refine lw0 ?_
 exact AW.ret (rtv h)
def oo :Option am:=bnd (fK) fun x1=>bnd (mE) fun x3=>some (⟨x1,x3⟩:am)
theorem tf  {r:am}(h:oo=some r):ar prog 67 [] (dG aj r):=by
 refine bk (rs:=[.cell 0 43]) (fun cx hx h0=>?_) func67
 unfold oo at h
 refine rar hx ?_
 refine rs hx fun K hK=>?_
 refine scb h kS fun x1 h=>?_
 refine scb h wP fun x3 h=>?_
 refine s1 (d:=dG aj (⟨x1,x3⟩:am)) (ij (FL.cons (y:=x1) (j8 kI) rfl rfl (FL.cons (y:=x3) (j9 (⟨x1,ct⟩:am)) rfl rfl (FL.nil _))) aQ) ?_
 refine nbr hK ?_
 exact AW.ret (rtv h)
def gu(db:ap)(AA:ap):Option am:=bnd (S:=Bool) (bnd (bp db) fun x1=>cnd (!x1) (some (true)) (bnd (bp AA) fun x4=>cnd (!x4) (some (true)) (bnd (lx AA) fun x7=>some (decide (x7=(0:Int)))))) fun dU=>cnd dU (bnd (oo) fun ta=>some ta) (bnd (mG db AA) fun qW=>bnd (S:=ap) (bnd (lx AA) fun J2=>cnd (decide (J2<(0:Int))) (bnd (qN qW) fun sZ=>some (sZ)) (some (qW))) fun eF=>bnd (kW db eF) fun wJ=>bnd (kW AA eF) fun yz=>some (⟨wJ,yz⟩:am))
theorem mO {db:ap}{AA:ap}{r:am}(h:gu db AA=some r):ar prog 126 [dG aq db,dG aq AA] (dG aj r):=by
 refine bk (rs:=[.cell 4 43]) (fun cx hx h0=>?_) func126
 unfold gu at h
 refine rar hx ?_
 iterate 2 refine AW.seq ?_
 obtain⟨dU,hy,h⟩:=ae h
 refine jn ((PE cx .normal (fun dU=>[(2,.pt 0 0),(3,.pt 1 0),(4,.pt 2 0),(18,dB dU)]) fun dU=>⟨[(0,dC (aq.f db)),(1,dC (aq.f AA)),(2,dC (aj.f kI))],[],3⟩) dU) ?_ ?_
 replace h:=hy
 refine rq hx fun K hK=>?_
 refine mbr ?_
 refine scb h cD fun x1 h=>?_
 refine mbr ?_
 rcases aE h with⟨fI,h⟩|⟨fI,h⟩
 refine nbr hK ?_
 exact pe1 h h0 [0,1,2]
 refine gbr ?_
 refine gcb h cD fun x4 h=>?_
 refine mbr ?_
 rcases aE h with⟨qV,h⟩|⟨qV,h⟩
 refine nbr hK ?_
 exact pe1 h h0 [0,1,2]
 refine gbr ?_
 refine gcb h uW fun x7 h=>?_
 refine nbr hK ?_
 exact pe1 h h0 [0,1,2]
 refine lw0 ?_
 refine cdh h rfl (fun n0 h=>?_) (fun n0 h=>?_)
 refine rs hx fun K hK=>?_
 refine scb h tf fun ta h=>?_
 refine nbr hK ?_
 exact AW.ret (rtv h)
 refine AW.skip (rs hx fun K hK=>?_)
 refine mbr ?_
 refine scb h wS fun qW h=>?_
 refine nbr hK ?_
 refine AW.seq ?_
 obtain⟨eF,hy,h⟩:=ae h
 refine jn ((PE cx .normal (fun eF=>[(2,.pt 0 0),(3,.pt 1 0),(4,.pt 2 0),(5,.pt 3 0)]) fun eF=>⟨[(0,dC (aq.f db)),(1,dC (aq.f AA)),(2,dC (aj.f kI)),(3,dC (aq.f eF))],[],4⟩) eF) ?_ ?_
 replace h:=hy
 refine rs hx fun K hK=>?_
 refine mbr ?_
 refine scb h uW fun J2 h=>?_
 refine nbr hK ?_
 refine cdh h rfl (fun IV h=>?_) (fun IV h=>?_)
 refine rq hx fun K hK=>?_
 refine mbr ?_
 refine scb h Kd fun sZ h=>?_
 refine nbr hK ?_
 exact pe1 h h0 [0,1,2,3]
 exact AW.skip (pe1 h h0 [0,1,2,3])
 refine lw0 ?_
 refine rsd [128] hx fun K hK=>?_
 refine mbr ?_
 refine cqb h tg fun wJ h=>?_
 refine mbr ?_
 refine cqb h tg fun yz h=>?_
 refine s1 (d:=dG aj (⟨wJ,yz⟩:am)) (ij (FL.cons (y:=wJ) (j8 kI) rfl rfl (FL.cons (y:=yz) (j9 (⟨wJ,ct⟩:am)) rfl rfl (FL.nil _))) aQ) ?_
 refine nbr hK ?_
 exact AW.ret (rtv h)
def xi(aK:am)(kR:am):Option am:=bnd (S:=Bool) (bnd (fF aK) fun x1=>cnd (!x1) (some (true)) (bnd (fF kR) fun x4=>some (!x4))) fun dU=>cnd dU (bnd (oo) fun x8=>some x8) (bnd (mG aK.vD kR.vD) fun oG=>bnd (kW aK.vD oG) fun nq=>bnd (kW kR.vD oG) fun qB=>bnd (mF aK.vN qB) fun Bs=>bnd (mF kR.vN nq) fun sZ=>bnd (xj Bs sZ) fun Br=>bnd (mF nq kR.vD) fun Di=>bnd (gu Br Di) fun yo=>some yo)
theorem Kb {aK:am}{kR:am}{r:am}(h:xi aK kR=some r):ar prog 69 [dG aj aK,dG aj kR] (dG aj r):=by
 refine bk (rs:=[.cell 4 43]) (fun cx hx h0=>?_) func69
 unfold xi at h
 refine rar hx ?_
 iterate 2 refine AW.seq ?_
 obtain⟨dU,hy,h⟩:=ae h
 refine jn ((PE cx .normal (fun dU=>[(2,.pt 0 0),(3,.pt 1 0),(4,.pt 2 0),(15,dB dU)]) fun dU=>⟨[(0,dC (aj.f aK)),(1,dC (aj.f kR)),(2,dC (aj.f kI))],[],3⟩) dU) ?_ ?_
 replace h:=hy
 refine rq hx fun K hK=>?_
 refine mbr ?_
 refine scb h mP fun x1 h=>?_
 refine mbr ?_
 rcases aE h with⟨fI,h⟩|⟨fI,h⟩
 refine nbr hK ?_
 exact pe1 h h0 [0,1,2]
 refine gbr ?_
 refine gcb h mP fun x4 h=>?_
 refine nbr hK ?_
 exact pe1 h h0 [0,1,2]
 refine lw0 ?_
 refine cdh h rfl (fun ss h=>?_) (fun ss h=>?_)
 refine rs hx fun K hK=>?_
 refine scb h tf fun x8 h=>?_
 refine nbr hK ?_
 exact AW.ret (rtv h)
 refine AW.skip (rs hx fun K hK=>?_)
 refine mbr ?_
 refine scb h wS fun oG h=>?_
 refine nbr hK ?_
 refine rs hx fun K hK=>?_
 refine mbr ?_
 refine scb h tg fun nq h=>?_
 refine nbr hK ?_
 refine rs hx fun K hK=>?_
 refine mbr ?_
 refine scb h tg fun qB h=>?_
 refine nbr hK ?_
 refine rsd [130,129,126] hx fun K hK=>?_
 refine mbr ?_
 refine cqb h qC fun Bs h=>?_
 refine mbr ?_
 refine cqb h qC fun sZ h=>?_
 refine cqb h Ke fun Br h=>?_
 refine mbr ?_
 refine cqb h qC fun Di h=>?_
 refine cqb h mO fun yo h=>?_
 refine nbr hK ?_
 exact AW.ret (rtv h)
def xh(aK:am)(kR:am):Option am:=bnd (S:=Bool) (bnd (fF aK) fun x1=>cnd (!x1) (some (true)) (bnd (fF kR) fun x4=>some (!x4))) fun dU=>cnd dU (bnd (oo) fun x8=>some x8) (bnd (gu aK.vN kR.vD) fun oG=>bnd (gu kR.vN aK.vD) fun nq=>bnd (mF oG.vN nq.vN) fun qB=>bnd (mF oG.vD nq.vD) fun Bs=>bnd (gu qB Bs) fun sZ=>some sZ)
theorem Ka {aK:am}{kR:am}{r:am}(h:xh aK kR=some r):ar prog 70 [dG aj aK,dG aj kR] (dG aj r):=by
 refine bk (rs:=[.cell 4 43]) (fun cx hx h0=>?_) func70
 unfold xh at h
 refine rar hx ?_
 iterate 2 refine AW.seq ?_
 obtain⟨dU,hy,h⟩:=ae h
 refine jn ((PE cx .normal (fun dU=>[(2,.pt 0 0),(3,.pt 1 0),(4,.pt 2 0),(16,dB dU)]) fun dU=>⟨[(0,dC (aj.f aK)),(1,dC (aj.f kR)),(2,dC (aj.f kI))],[],3⟩) dU) ?_ ?_
 replace h:=hy
 refine rq hx fun K hK=>?_
 refine mbr ?_
 refine scb h mP fun x1 h=>?_
 refine mbr ?_
 rcases aE h with⟨fI,h⟩|⟨fI,h⟩
 refine nbr hK ?_
 exact pe1 h h0 [0,1,2]
 refine gbr ?_
 refine gcb h mP fun x4 h=>?_
 refine nbr hK ?_
 exact pe1 h h0 [0,1,2]
 refine lw0 ?_
 refine cdh h rfl (fun ss h=>?_) (fun ss h=>?_)
 refine rs hx fun K hK=>?_
 refine scb h tf fun x8 h=>?_
 refine nbr hK ?_
 exact AW.ret (rtv h)
 refine AW.skip (rs hx fun K hK=>?_)
 refine mbr ?_
 refine scb h mO fun oG h=>?_
 refine nbr hK ?_
 refine rs hx fun K hK=>?_
 refine mbr ?_
 refine scb h mO fun nq h=>?_
 refine nbr hK ?_
 refine rs hx fun K hK=>?_
 refine mbr ?_
 refine scb h qC fun qB h=>?_
 refine nbr hK ?_
 refine rs hx fun K hK=>?_
 refine mbr ?_
 refine scb h qC fun Bs h=>?_
 refine nbr hK ?_
 refine rs hx fun K hK=>?_
 refine mbr ?_
 refine scb h mO fun sZ h=>?_
 refine nbr hK ?_
 exact AW.ret (rtv h)
def qa(db:Int):Option am:=bnd (e7 db) fun x1=>bnd (mE) fun x3=>bnd (gu x1 x3) fun x5=>some x5
theorem D2 {db:Int}{r:am}(h:qa db=some r):ar prog 68 [dI .i64 db] (dG aj r):=by
 refine bk (rs:=[.cell 2 43]) (fun cx hx h0=>?_) func68
 unfold qa at h
 refine rar hx ?_
 refine rs hx fun K hK=>?_
 refine sa ?_
 refine scb h iH fun x1 h=>?_
 refine scb h wP fun x3 h=>?_
 refine scb h mO fun x5 h=>?_
 refine nbr hK ?_
 exact AW.ret (rtv h)
def mS(aG:Int)(aP:Int):Option am:=bnd (e7 aG) fun x1=>bnd (e7 aP) fun x3=>bnd (gu x1 x3) fun x5=>some x5
theorem Ak {aG:Int}{aP:Int}{r:am}(h:mS aG aP=some r):ar prog 102 [dI .i64 aG,dI .i64 aP] (dG aj r):=by
 refine bk (rs:=[.cell 4 43]) (fun cx hx h0=>?_) func102
 unfold mS at h
 refine rar hx ?_
 refine rs hx fun K hK=>?_
 refine sa ?_
 refine scb h iH fun x1 h=>?_
 refine sa ?_
 refine scb h iH fun x3 h=>?_
 refine scb h mO fun x5 h=>?_
 refine nbr hK ?_
 exact AW.ret (rtv h)
def mn(q:Rat):Prop:=q.num.natAbs<LIM∧q.den<LIM
instance(q:Rat):Decidable (mn q):=by unfold mn;exact inferInstance
def ly(q:Rat):am:=⟨enc q.num,enc (q.den:Int)⟩
def GZ:am:=⟨LC,enc 1⟩
def Cl:Option Rat→am
 |some q=>ly q
 |none=>GZ
def okR(x:am):Prop:=okI x.vN∧okI x.vD
theorem vb(o:Option Rat):okR (Cl o):=by
 cases o with
 |some q=>exact⟨DE _,DE _⟩
 |none=>
  refine⟨fun j hj=>?_,DE _⟩
  show 0≤(W 0)[j]!∧(W 0)[j]! <4294967296
  rw[gV hj];have:=@dgl 0 j;omega
theorem Uo {p q:Rat}(hp:mn p)(hq:mn q)(h:ly p=ly q):p=q:=by
 unfold ly at h
 simp only[am.mk.injEq] at h
 have h1:=AZ hp.1 hq.1 h.1
 have h2:=AZ (by simpa using hp.2) (by simpa using hq.2) h.2
 exact Rat.ext h1 (by omega)
theorem vj {z:Int}:ee (enc z)=decide (z.natAbs<LIM):=by
 by_cases h:z.natAbs<LIM
 ·rw[bi h,aB h]
 ·rw[EV h,Hw,bm h]
theorem Lp {q:Rat}(h:mn q):ly q≠GZ:=by
 intro e
 have:ee (ly q).vN=ee GZ.vN:=by rw[e]
 rw[show (ly q).vN=enc q.num from rfl,bi h.1] at this
 cases this
def cC(x:am):Option Rat:=open Classical in if h:∃q,mn q∧x=ly q then some (Classical.choose h) else none
theorem dQ {x:am}{q:Rat}:cC x=some q↔mn q∧x=ly q:=by
 unfold cC
 split
 ·rename_i h
  obtain⟨h1,h2⟩:=zU h
  constructor
  ·intro e
   injection e with e
   rw[←e];exact⟨h1,h2⟩
  ·rintro⟨h3,h4⟩
   congr 1
   exact Uo h1 h3 (h2.symm.trans h4)
 ·rename_i h
  constructor
  ·intro e;cases e
  ·rintro h3;exact absurd ⟨q,h3⟩ h
theorem Bu {x:am}:cC x=none↔∀q,mn q→x≠ly q:=by
 constructor
 ·intro h q hq e
  rw[dQ.2 ⟨hq,e⟩] at h;cases h
 ·intro h
  cases hx:cC x with
  |none=>rfl
  |some q=>exact absurd (dQ.1 hx).2 (h q (dQ.1 hx).1)
theorem wY {q:Rat}(h:mn q):cC (ly q)=some q:=dQ.2 ⟨h,rfl⟩
theorem RT:cC GZ=none:=Bu.2 fun _ hq e=>Lp hq e.symm
def Ch(o:Option Rat):Prop:=∀q,o=some q→mn q
theorem Bv {o:Option Rat}(h:Ch o):cC (Cl o)=o:=by
 cases o with
 |none=>exact RT
 |some q=>exact wY (h q rfl)
theorem AY(x:am):Ch (cC x):=fun _ h=>(dQ.1 h).1
theorem qe:Ch none:=fun _ h=>by cases h
theorem Uj {g k:Int}(h:g≠0):(g*k).fdiv g=k:=Int.mul_fdiv_cancel_left _ h
theorem Po {g k:Int}(h:g≠0):(g*k).fdiv (-g)=-k:=by
 rw[show g*k=-g*-k from (Int.neg_mul_neg g k).symm]
 exact Int.mul_fdiv_cancel_left _ (by omega)
theorem o7 {n d:Int}(hd:d≠0):∃k m:Int,n=(Nat.gcd n.natAbs d.natAbs:Nat)*k∧d=(Nat.gcd n.natAbs d.natAbs:Nat)*m∧m≠0∧(Rat.divInt n d).num=d.sign*k∧((Rat.divInt n d).den:Int)=d.sign*m:=by
 have hg0:Nat.gcd n.natAbs d.natAbs≠0:=by
  intro h
  have:=(NG.1 h).2
  omega
 have CY:((Nat.gcd n.natAbs d.natAbs:Nat):Int)≠0:=by omega
 obtain⟨k,hk⟩:((Nat.gcd n.natAbs d.natAbs:Nat):Int) ∣ n:=Int.ofNat_dvd_left.2 (Nat.gcd_dvd_left _ _)
 obtain⟨m,hm⟩:((Nat.gcd n.natAbs d.natAbs:Nat):Int) ∣ d:=Int.ofNat_dvd_left.2 (Nat.gcd_dvd_right _ _)
 have Pa:((Int.gcd d n:Nat):Int)=((Nat.gcd n.natAbs d.natAbs:Nat):Int):=by
  rw[Int.gcd_comm];rfl
 have hmm:m≠0:=by
  intro h
  rw[h,Int.mul_zero] at hm
  exact hd hm
 refine⟨k,m,hk,hm,hmm,?_,?_⟩
 ·rw[Rat.num_divInt,Pa]
  generalize ((Nat.gcd n.natAbs d.natAbs:Nat):Int)=g at hk CY ⊢
  rw[hk,Jn,Int.mul_ediv_cancel_left _ CY]
 ·rw[Rat.den_divInt,ai hd]
  have e:((d.natAbs / Int.gcd d n:Nat):Int)=(d.natAbs:Int) / ((Int.gcd d n:Nat):Int):=NF ..
  rw[e,Pa]
  have e2:(d.natAbs:Int)=d.sign*d:=by rw[Int.sign_mul_self]
  rw[e2]
  generalize ((Nat.gcd n.natAbs d.natAbs:Nat):Int)=g at hm CY ⊢
  have e3:d.sign*d=g*(d.sign*m):=by
   conv=>lhs;rhs;rw[hm]
   rw[Jn]
  rw[e3,Int.mul_ediv_cancel_left _ CY]
theorem zO {n d:Int}(hd:d≠0)(h1:n.natAbs<LIM)(h2:d.natAbs<LIM):mn (Rat.divInt n d):=by
 obtain⟨k,m,hk,hm,Gi,e1,e2⟩:=o7 (n:=n) hd
 have hg0:Nat.gcd n.natAbs d.natAbs≠0:=by
  intro h
  have:=(NG.1 h).2
  omega
 have hs:d.sign.natAbs=1:=by rw[Int.natAbs_sign,ai hd]
 refine⟨?_,?_⟩
 ·rw[e1,pi,hs,fk]
  refine dM ?_ h1
  conv=>rhs;rw[hk]
  rw[pi,dZ]
  exact vJ _ (z4 hg0)
 ·have:(Rat.divInt n d).den=(d.sign*m).natAbs:=by omega
  rw[this,pi,hs,fk]
  refine dM ?_ h2
  conv=>rhs;rw[hm]
  rw[pi,dZ]
  exact vJ _ (z4 hg0)
theorem KP {n d:Int}(hd:d≠0):n.fdiv (bif decide (d<0) then -((Nat.gcd n.natAbs d.natAbs:Nat):Int) else ((Nat.gcd n.natAbs d.natAbs:Nat):Int))=(Rat.divInt n d).num∧d.fdiv (bif decide (d<0) then -((Nat.gcd n.natAbs d.natAbs:Nat):Int) else ((Nat.gcd n.natAbs d.natAbs:Nat):Int))=((Rat.divInt n d).den:Int):=by
 obtain⟨k,m,hk,hm,Gi,e1,e2⟩:=o7 (n:=n) hd
 have CY:((Nat.gcd n.natAbs d.natAbs:Nat):Int)≠0:=by
  intro h
  rw[h,Jp] at hm
  exact hd hm
 rw[e1,e2]
 generalize ((Nat.gcd n.natAbs d.natAbs:Nat):Int)=g at hk hm CY ⊢
 by_cases h:d<0
 ·rw[aB h,kJ,vK h]
  constructor
  ·rw[hk,Po CY];omega
  ·rw[hm,Po CY];omega
 ·rw[bm h,cond_false,sM (by omega)]
  constructor
  ·rw[hk,Uj CY];omega
  ·rw[hm,Uj CY];omega
theorem IZ {n d:Int}(hd:d≠0)(h2:d.natAbs<LIM):Nat.gcd n.natAbs d.natAbs<LIM∧Nat.gcd n.natAbs d.natAbs≠0:=
 ⟨dM (Nat.gcd_le_right _ (by omega)) h2,fun h=>by have:=(NG.1 h).2;omega⟩
theorem PU:mH=some (enc 1):=by
 unfold mH
 rw[Oj (by decide) (by decide),ab]
theorem qA(x:ap):jI x=some (ee x):=by
 unfold jI
 rw[PW,ab,UF,ab]
 congr 1
 unfold ee
 cases x.vBad <;> rfl
theorem xO:fe=some GZ:=by
 unfold fe
 rw[P0,PU,ab,ab]
 rfl
theorem T8 {n d:Int}(hn:n.natAbs<LIM)(hd:d.natAbs<LIM):(∃q,mn q∧(⟨enc n,enc d⟩:am)=ly q)↔0<d∧Nat.gcd n.natAbs d.natAbs=1:=by
 constructor
 ·rintro⟨q,hq,e⟩
  unfold ly at e
  simp only[am.mk.injEq] at e
  have e1:=AZ hn hq.1 e.1
  have e2:=AZ hd (by simpa using hq.2) e.2
  subst e1;subst e2
  exact⟨by have:=q.den_pos;omega,by rw[dZ];exact q.reduced⟩
 ·rintro⟨h1,h2⟩
  refine⟨⟨n,d.natAbs,by omega,h2⟩,⟨hn,hd⟩,?_⟩
  unfold ly
  simp only[am.mk.injEq,true_and]
  congr 1
  omega
theorem iV {x:am}(hx:okR x):aS x=some (cC x).isSome:=by
 obtain⟨n,d⟩:=x
 obtain⟨h1,h2⟩:=hx
 dsimp only at h1 h2
 have hb:∀b:Bool,(b=true↔∃q,mn q∧(⟨n,d⟩:am)=ly q)→(cC ⟨n,d⟩).isSome=b:=by
  intro b hb
  cases hv:cC ⟨n,d⟩ with
  |none=>
   cases b with
   |false=>rfl
   |true=>
    obtain⟨q,h3,h4⟩:=hb.1 rfl
    exact absurd h4 (Bu.1 hv q h3)
  |some q=>exact ((hb.2 ⟨q,dQ.1 hv⟩).symm)
 unfold aS
 dsimp only
 rw[qA,qA,ab,ab]
 cases CY:ee n with
 |false=>
  rw[aI,ab,hb false]
  constructor
  ·intro h;cases h
  ·rintro⟨q,hq,e⟩
   unfold ly at e
   simp only[am.mk.injEq] at e
   rw[e.1,bi hq.1] at CY;cases CY
 |true=>
  cases EN:ee d with
  |false=>
   rw[gN,aI,ab,hb false]
   constructor
   ·intro h;cases h
   ·rintro⟨q,hq,e⟩
    unfold ly at e
    simp only[am.mk.injEq] at e
    rw[e.2,bi (by simpa using hq.2)] at EN;cases EN
  |true=>
   obtain⟨n,hn,rfl⟩:=AT h1 CY
   obtain⟨d,hd,rfl⟩:=AT h2 EN
   have JY:=T8 hn hd
   rw[gN,gN,xP hd,ab,PZ hn hd,ab,PU,ab,gz]
   by_cases h0:0<d
   ·rw[ah (by rw[sM h0];decide),ab]
    congr 1
    symm
    refine hb _ ?_
    rw[JY,decide_eq_true_iff]
    have O9:=(IZ (n:=n) (show d≠0 by omega) hd).1
    constructor
    ·intro h
     have:=AZ (by simpa using O9) (by decide) h
     exact⟨h0,by omega⟩
    ·rintro⟨_,h⟩
     rw[h];rfl
   ·rw[ai (by rw[Int.sign_pos_iff];exact h0),ab]
    congr 1
    symm
    refine hb _ ?_
    rw[JY]
    constructor
    ·intro h;cases h
    ·rintro⟨h,_⟩;exact absurd h h0
theorem F6 {n d:Int}(hn:n.natAbs<LIM)(hd:d.natAbs<LIM)(h0:d≠0):dq (enc n) (enc d)=some (ly (Rat.divInt n d)):=by
 obtain⟨CY,EN⟩:=IZ (n:=n) h0 hd
 obtain⟨e1,e2⟩:=KP (n:=n) h0
 have O9:(((Nat.gcd n.natAbs d.natAbs:Nat):Int)).natAbs<LIM:=by simpa using CY
 unfold dq
 rw[qA,qA,ab,ab,bi hn,bi hd,c8,aI,aI,xP hd,ab,ab,cr _ _ (by rw[Cv];exact h0),PZ hn hd,ab,ab,V6 O9,ab]
 have S9:(cnd (decide (d.sign<(0:Int))) (some (enc (-((Nat.gcd n.natAbs d.natAbs:Nat):Int)))) (some (enc ((Nat.gcd n.natAbs d.natAbs:Nat):Int))))=some (enc (bif decide (d<0) then -((Nat.gcd n.natAbs d.natAbs:Nat):Int) else ((Nat.gcd n.natAbs d.natAbs:Nat):Int))):=by
  by_cases h:d<0
  ·rw[cH _ _ (by rw[Fk];exact h),aB h];rfl
  ·rw[cr _ _ (by rw[Fk];exact h),bm h];rfl
 have Gb:((bif decide (d<0) then -((Nat.gcd n.natAbs d.natAbs:Nat):Int) else ((Nat.gcd n.natAbs d.natAbs:Nat):Int))).natAbs<LIM∧(bif decide (d<0) then -((Nat.gcd n.natAbs d.natAbs:Nat):Int) else ((Nat.gcd n.natAbs d.natAbs:Nat):Int))≠0:=by
  cases decide (d<0)
  ·simp only[cond_false];omega
  ·simp only[kJ];omega
 rw[S9,ab,H4 hn Gb.1 Gb.2,ab,H4 hd Gb.1 Gb.2,ab,e1,e2]
 rfl
theorem Mg {x:ap}:dq x (enc 0)=some GZ:=by
 unfold dq
 rw[qA,qA,ab,ab,xP (by decide),ab,bi (by decide),xO,ab]
 cases ee x <;> rfl
theorem FZ {x y:ap}(h:(ee x&&ee y)=false):dq x y=some GZ:=by
 unfold dq
 rw[qA,qA,ab,ab,xO,ab]
 cases h1:ee x with
 |false=>rfl
 |true=>
  cases h2:ee y with
  |false=>rfl
  |true=>rw[h1,h2] at h;cases h
def Dk(x y:Rat):Option Rat:=
 if (x.num*((y.den / Nat.gcd x.den y.den:Nat):Int)).natAbs<LIM∧(y.num*((x.den / Nat.gcd x.den y.den:Nat):Int)).natAbs<LIM∧(x.num*((y.den / Nat.gcd x.den y.den:Nat):Int)+y.num*((x.den / Nat.gcd x.den y.den:Nat):Int)).natAbs<LIM∧x.den / Nat.gcd x.den y.den*y.den<LIM then some (x+y) else none
def BL(x y:Rat):Option Rat:=if mn (x*y) then some (x*y) else none
theorem LQ(x y:Rat):Rat.divInt (x.num*((y.den / Nat.gcd x.den y.den:Nat):Int)+y.num*((x.den / Nat.gcd x.den y.den:Nat):Int)) ((x.den / Nat.gcd x.den y.den*y.den:Nat):Int)=x+y:=by
 have hx:=x.den_pos
 have hy:=y.den_pos
 have hg:0<Nat.gcd x.den y.den:=NE _ hx
 obtain⟨p,hp⟩:=Nat.gcd_dvd_left x.den y.den
 obtain⟨q,hq⟩:=Nat.gcd_dvd_right x.den y.den
 have e1:x.den / Nat.gcd x.den y.den=p:=by
                         conv=>lhs;lhs;rw[hp]
                         exact NV _ hg
 have e2:y.den / Nat.gcd x.den y.den=q:=by
                         conv=>lhs;lhs;rw[hq]
                         exact NV _ hg
 rw[e1,e2,Rat.add_def']
 generalize Nat.gcd x.den y.den=g at hg hp hq
 rw[←NL,←Rat.divInt_mul_left (a:=(g:Int)) (by omega)]
 congr 1
 ·rw[Int.mul_add,hp,hq,ir,ir,Jn,Jn (y.num)]
 ·rw[hp]
  simp only[ir,Fi]
theorem Sp(x y:Rat):Ch (Dk x y):=by
 intro q h
 unfold Dk at h
 split at h
 ·rename_i hc
  obtain⟨_,_,h3,h4⟩:=hc
  injection h with h
  subst h
  rw[←LQ]
  refine zO ?_ h3 (by rw[dZ];exact h4)
  have hg:0<Nat.gcd x.den y.den:=NE _ x.den_pos
  have:=Fo (Cw y.den x.den_pos) hg
  have:=yZ this y.den_pos
  omega
 ·cases h
theorem So(x y:Rat):Ch (BL x y):=by
 intro q h
 unfold BL at h
 split at h
 ·rename_i hc
  injection h with h
  rw[←h];exact hc
 ·cases h
theorem cross(x y:Rat):(x*y).num=(Rat.divInt x.num y.den).num*(Rat.divInt y.num x.den).num∧(x*y).den=(Rat.divInt x.num y.den).den*(Rat.divInt y.num x.den).den:=by
 have hx:=x.den_pos
 have hy:=y.den_pos
 obtain⟨k,m,hk,hm,Gi,e1,e2⟩:=o7 (n:=x.num) (d:=(y.den:Int)) (by omega)
 obtain⟨k',m',wD,hm',hm0',e1',e2'⟩:=o7 (n:=y.num) (d:=(x.den:Int)) (by omega)
 rw[sM (by omega),zY] at e1 e2 e1' e2'
 have hxy:x*y=Rat.divInt x.num y.den*Rat.divInt y.num x.den:=by
  rw[Rat.divInt_mul_divInt]
  conv=>lhs;rw[←Rat.num_divInt_den x,←Rat.num_divInt_den y,Rat.divInt_mul_divInt]
  rw[lD (y.den:Int)]
 have hc:Nat.gcd ((Rat.divInt x.num y.den).num*(Rat.divInt y.num x.den).num).natAbs ((Rat.divInt x.num y.den).den*(Rat.divInt y.num x.den).den)=1:=by
  rw[pi]
  have c1:=(Rat.divInt x.num y.den).reduced
  have c2:=(Rat.divInt y.num x.den).reduced
  have d1:(Rat.divInt x.num y.den).num.natAbs ∣ x.num.natAbs:=by
   rw[e1];exact Int.natAbs_dvd_natAbs.2 ⟨_,by rw[lD];exact hk⟩
  have d2:(Rat.divInt y.num x.den).den ∣ x.den:=Int.natCast_dvd_natCast.1 (by rw[e2'];exact⟨_,by rw[lD];exact hm'⟩)
  have d3:(Rat.divInt y.num x.den).num.natAbs ∣ y.num.natAbs:=by
   rw[e1'];exact Int.natAbs_dvd_natAbs.2 ⟨_,by rw[lD];exact wD⟩
  have d4:(Rat.divInt x.num y.den).den ∣ y.den:=Int.natCast_dvd_natCast.1 (by rw[e2];exact⟨_,by rw[lD];exact hm⟩)
  have c3:Nat.Coprime (Rat.divInt x.num y.den).num.natAbs (Rat.divInt y.num x.den).den:=Nat.Coprime.coprime_dvd_left d1 (Nat.Coprime.coprime_dvd_right d2 x.reduced)
  have c4:Nat.Coprime (Rat.divInt y.num x.den).num.natAbs (Rat.divInt x.num y.den).den:=Nat.Coprime.coprime_dvd_left d3 (Nat.Coprime.coprime_dvd_right d4 y.reduced)
  exact Nat.Coprime.mul_left (Nat.Coprime.mul_right c1 c3) (Nat.Coprime.mul_right c4 c2)
 rw[hxy,Rat.num_mul,Rat.den_mul,hc]
 exact⟨by simp,by simp⟩
theorem Cm(q:Rat):(ly q).vN=enc q.num:=rfl
theorem EW(q:Rat):(ly q).vD=enc (q.den:Int):=rfl
theorem Pp(z:Int):(enc z).vBad=decide (¬z.natAbs<LIM):=by
 by_cases h:z.natAbs<LIM
 ·rw[sx h];simp[h]
 ·rw[EV h];simp[h];rfl
theorem jZ {q:Rat}(h:mn q):((q.den:Nat):Int).natAbs<LIM:=by simpa using h.2
theorem G_rMul {x y:Rat}(hx:mn x)(hy:mn y):iy (ly x) (ly y)=some (Cl (BL x y)):=by
 have hdx:=x.den_pos
 have hdy:=y.den_pos
 obtain⟨c1,c2⟩:=cross x y
 have f1:=zO (n:=x.num) (d:=(y.den:Int)) (by omega) hx.1 (jZ hy)
 have f2:=zO (n:=y.num) (d:=(x.den:Int)) (by omega) hy.1 (jZ hx)
 unfold iy
 rw[show aS (ly x)=_ from iV (vb (some x)),show aS (ly y)=_ from iV (vb (some y)),wY hx,wY hy,ab,ab]
 simp only[Cr,c8,aI,ab,Cm,EW]
 rw[F6 hx.1 (jZ hy) (by omega),ab,F6 hy.1 (jZ hx) (by omega),ab]
 simp only[Cm,EW]
 rw[Mf f1.1 f2.1,ab,Mf (jZ f1) (jZ f2),ab,←c1,←ir,←c2,Pp,Pp,UH,ab,xO,ab,←Bool.decide_or,gz]
 unfold BL
 by_cases h:mn (x*y)
 ·obtain⟨h1,h2⟩:=id h
  rw[ai (by rw[dZ];omega),ah h];rfl
 ·have h1:¬((x*y).num.natAbs<LIM∧(x*y).den<LIM):=h
  rw[ah (by rw[dZ];omega),ai h];rfl
theorem FU {x y:am}(hx:okR x)(hy:okR y)(h:((cC x).isSome&&(cC y).isSome)=false):iy x y=some GZ:=by
 unfold iy
 rw[iV hx,iV hy,ab,ab,xO,ab]
 cases h1:(cC x).isSome with
 |false=>rfl
 |true=>
  cases h2:(cC y).isSome with
  |false=>rfl
  |true=>rw[h1,h2] at h;cases h
theorem OJ {n g:Nat}:((n:Int)).fdiv (g:Int)=((n / g:Nat):Int):=by
 rw[NM _ (Jq _)]
 exact (NF ..).symm
theorem G_rAdd {x y:Rat}(hx:mn x)(hy:mn y):iz (ly x) (ly y)=some (Cl (Dk x y)):=by
 have hdx:=x.den_pos
 have hdy:=y.den_pos
 have hg:0<Nat.gcd x.den y.den:=NE _ hdx
 have O9:Nat.gcd x.den y.den<LIM:=dM (Cw _ hdx) hx.2
 have hgl':((Nat.gcd x.den y.den:Nat):Int).natAbs<LIM:=by simpa using O9
 have hp:x.den / Nat.gcd x.den y.den<LIM:=dM (pj _ _) hx.2
 have hq:y.den / Nat.gcd x.den y.den<LIM:=dM (pj _ _) hy.2
 have hp0:0<x.den / Nat.gcd x.den y.den:=Fo (Cw y.den hdx) hg
 have wK:0<x.den / Nat.gcd x.den y.den*y.den:=yZ hp0 hdy
 have QT:=LQ x y
 unfold iz
 rw[show aS (ly x)=_ from iV (vb (some x)),show aS (ly y)=_ from iV (vb (some y)),wY hx,wY hy,ab,ab]
 simp only[Cr,c8,aI,ab,Cm,EW]
 rw[PZ (jZ hx) (jZ hy),ab,dZ,dZ,H4 (jZ hx) hgl' (by omega),ab,H4 (jZ hy) hgl' (by omega),ab,OJ,OJ,Mf hx.1 (by rw[dZ];exact hq),ab,Mf hy.1 (by rw[dZ];exact hp),ab,Mf (by rw[dZ];exact hp) (jZ hy),←ir]
 unfold Dk
 revert QT
 generalize x.num*((y.den / Nat.gcd x.den y.den:Nat):Int)=z1
 generalize y.num*((x.den / Nat.gcd x.den y.den:Nat):Int)=z2
 revert wK
 generalize x.den / Nat.gcd x.den y.den*y.den=D
 intro wK QT
 have hsum:jD (enc z1) (enc z2)=some (if z1.natAbs<LIM∧z2.natAbs<LIM then enc (z1+z2) else LC):=by
  by_cases h:z1.natAbs<LIM∧z2.natAbs<LIM
  ·rw[ah h,G_Add h.1 h.2]
  ·rw[ai h,Ro (by rw[vj,vj,←Bool.decide_and];exact bm h)]
 rw[hsum,ab,ab,vw]
 by_cases h:z1.natAbs<LIM∧z2.natAbs<LIM
 ·rw[ah h]
  by_cases h2:(z1+z2).natAbs<LIM∧D<LIM
  ·rw[F6 h2.1 (by rw[dZ];exact h2.2) (by omega),QT,ah ⟨h.1,h.2,h2⟩];rfl
  ·rw[FZ (by rw[vj,vj,←Bool.decide_and,dZ];exact bm h2),ai fun hh=>h2 hh.2.2];rfl
 ·rw[ai h,FZ (by rw[Hw,vI]),ai fun hh=>h ⟨hh.1,hh.2.1⟩];rfl
theorem FV {x y:am}(hx:okR x)(hy:okR y)(h:((cC x).isSome&&(cC y).isSome)=false):iz x y=some GZ:=by
 unfold iz
 rw[iV hx,iV hy,ab,ab,xO,ab]
 cases h1:(cC x).isSome with
 |false=>rfl
 |true=>
  cases h2:(cC y).isSome with
  |false=>rfl
  |true=>rw[h1,h2] at h;cases h
def Iy(a b:Option Rat):Option Rat:=a.bind fun x=>b.bind fun y=>Dk x y
def BQ(a b:Option Rat):Option Rat:=a.bind fun x=>b.bind fun y=>BL x y
def Qq(a:Option Rat):Option Rat:=a.map fun x=>-x
def MJ(a:Option Rat):Option Rat:=a.bind fun x=>if x=0 then none else some x⁻¹
def osub(a b:Option Rat):Option Rat:=Iy a (Qq b)
def GG(a b:Option Rat):Option Rat:=BQ a (MJ b)
def osgn(a:Option Rat):Int:=match a with|some x=>x.num.sign|none=>0
theorem AD(a b:Option Rat):Ch (Iy a b):=by
 cases a with
 |none=>exact qe
 |some x=>
  cases b with
  |none=>exact qe
  |some y=>exact Sp x y
theorem Eo(a b:Option Rat):Ch (BQ a b):=by
 cases a with
 |none=>exact qe
 |some x=>
  cases b with
  |none=>exact qe
  |some y=>exact So x y
theorem Lk {x:Rat}(h:mn x):mn (-x):=⟨by rw[Rat.neg_num,Int.natAbs_neg];exact h.1,h.2⟩
theorem AC {a:Option Rat}(h:Ch a):Ch (Qq a):=by
 cases a with
 |none=>exact qe
 |some x=>
  intro q hq
  injection hq with hq
  subst hq
  exact Lk (h x rfl)
theorem Uf {x:Rat}(h:mn x)(h0:x≠0):mn x⁻¹:=by
 have hn:x.num≠0:=fun h=>h0 (Rat.num_eq_zero.1 h)
 refine⟨?_,?_⟩
 ·rw[Rat.num_inv,pi,Int.natAbs_sign,ai hn,fk,dZ];exact h.2
 ·rw[Rat.den_inv,ai hn];exact h.1
theorem SC {a:Option Rat}(h:Ch a):Ch (MJ a):=by
 cases a with
 |none=>exact qe
 |some x=>
  intro q hq
  have hq:(if x=0 then none else some x⁻¹)=some q:=hq
  split at hq
  ·cases hq
  ·rename_i h0
   injection hq with hq
   subst hq
   exact Uf (h x rfl) h0
theorem SD(a b:Option Rat):Ch (GG a b):=Eo _ _
theorem Oh {x y:am}(hx:okR x)(hy:okR y):iz x y=some (Cl (Iy (cC x) (cC y))):=by
 cases h1:cC x with
 |none=>exact FV hx hy (by rw[h1];rfl)
 |some p=>
  cases h2:cC y with
  |none=>exact FV hx hy (by rw[h1,h2];rfl)
  |some q=>
   obtain⟨hp,rfl⟩:=dQ.1 h1
   obtain⟨hq,rfl⟩:=dQ.1 h2
   exact G_rAdd hp hq
theorem Og {x y:am}(hx:okR x)(hy:okR y):iy x y=some (Cl (BQ (cC x) (cC y))):=by
 cases h1:cC x with
 |none=>exact FU hx hy (by rw[h1];rfl)
 |some p=>
  cases h2:cC y with
  |none=>exact FU hx hy (by rw[h1,h2];rfl)
  |some q=>
   obtain⟨hp,rfl⟩:=dQ.1 h1
   obtain⟨hq,rfl⟩:=dQ.1 h2
   exact G_rMul hp hq
theorem Of {x:am}(hx:okR x):kX x=some (Cl (Qq (cC x))):=by
 unfold kX
 rw[iV hx,ab]
 cases h1:cC x with
 |none=>rw[xO,ab];rfl
 |some p=>
  obtain⟨hp,rfl⟩:=dQ.1 h1
  simp only[Cr,c8,aI,Cm,EW]
  rw[V6 hp.1,ab]
  rfl
theorem G_osub {x y:am}(hx:okR x)(hy:okR y):tx x y=some (Cl (osub (cC x) (cC y))):=by
 unfold tx
 rw[Of hy,ab,Oh hx (vb _),ab,Bv (AC (AY y))]
 rfl
theorem Ol {q:Rat}(hq:mn q):dq (enc (q.den:Int)) (enc q.num)=some (Cl (MJ (some q))):=by
 by_cases h:q=0
 ·subst h
  show dq _ (enc 0)=_
  rw[Mg];rfl
 ·have hn:q.num≠0:=fun h0=>h (Rat.num_eq_zero.1 h0)
  rw[F6 (jZ hq) hq.1 hn,←Rat.inv_def]
  show _=some (Cl (if q=0 then none else some q⁻¹))
  rw[ai h];rfl
theorem G_odiv {x y:am}(hx:okR x)(hy:okR y):tz x y=some (Cl (GG (cC x) (cC y))):=by
 unfold tz
 rw[iV hy,ab]
 cases h2:cC y with
 |none=>
  rw[xO,ab]
  show some GZ=some (Cl (BQ (cC x) none))
  unfold BQ
  cases cC x <;> rfl
 |some q=>
  obtain⟨hq,rfl⟩:=dQ.1 h2
  simp only[Cr,c8,aI,Cm,EW]
  rw[Ol hq,ab,Og hx (vb _),ab,Bv (SC fun r hr=>by injection hr with hr;subst hr;exact hq)]
  rfl
theorem VY {x:am}(hx:okR x):im x=some (osgn (cC x)):=by
 unfold im
 rw[iV hx,ab]
 cases h1:cC x with
 |none=>rfl
 |some p=>
  obtain⟨hp,rfl⟩:=dQ.1 h1
  simp only[Cr,c8,aI,Cm]
  rw[xP hp.1,ab]
  rfl
theorem EX(n:Int):Rat.divInt n 1=(n:Rat):=by
 show Rat.divInt n ((1:Nat):Int)=_
 rw[NL]
 exact Rat.mkRat_self (n:Rat)
theorem VX {n:Int}(h:n.natAbs<LIM):lT (enc n)=some (ly (n:Rat)):=by
 unfold lT
 rw[PU,ab,F6 h (by decide) (by decide),ab,EX]
theorem G_rOf {n:Int}(h1:-9223372036854775808≤n)(h2:n≤9223372036854775807):qc n=some (ly (n:Rat)):=by
 have hL:n.natAbs<LIM:=bM (show n.natAbs<18446744073709551616 by omega) (by decide)
 unfold qc
 rw[Oj h1 h2,ab,VX hL,ab]
section
def lF(n:Nat)(f:Nat→Nat):List Int:=(List.range n).map fun j=>(f j:Int)
section
variable {n m p x k j:Nat} {f g:Nat→Nat}
theorem cQ:(lF n f).length=n:=by unfold lF;simp
theorem q9(h:j<n):(lF n f)[j]! =(f j:Int):=by
 unfold lF
 rw[bT _ j (by simpa using h)]
 simp
theorem vf(h:∀j,j<n→f j=g j):lF n f=lF n g:=by
 unfold lF
 apply sR
 intro j hj
 rw[h j (by simpa using hj)]
theorem AL:lF n f++[(f n:Int)]=lF (n+1) f:=by
 unfold lF
 rw[wo,iZ];rfl
theorem MU:(lF n f).set p (x:Int)=lF n (fun j=>if j=p then x else f j):=by
 apply Fz
 ·rw[c7,cQ,cQ]
 ·intro i h1 h2
  rw[List.getElem_set]
  have h3:i<n:=by rw[cQ] at h2;exact h2
  have e1:=q9 (f:=fun j=>if j=p then x else f j) h3
  rw[bT _ i h2] at e1
  rw[e1]
  split
  ·rename_i h;rw[ah h.symm]
  ·rename_i h
   rw[ai (fun e=>h e.symm)]
   have e2:=q9 (f:=f) h3
   rw[bT _ i (by rw[cQ];exact h3)] at e2
   exact e2
theorem lF_take(h:m≤n):(lF n f).take m=lF m f:=by
 unfold lF
 rw[←vP,List.take_range,tE h]
theorem lF_cons:[(x:Int)]++lF n f=lF (n+1) (fun j=>if j=0 then x else f (j - 1)):=by
 unfold lF
 rw[List.range_succ_eq_map,iX,qQ]
 rfl
theorem SS:List.replicate n (0:Int)=lF n (fun _=>0):=by
 unfold lF
 induction n with
 |zero=>rfl
 |succ n ih=>rw[List.replicate_succ',ih,wo,iZ];rfl
end
abbrev dk(n A:Nat):List Int:=lF n (dg 65536 A)
theorem lz {A j:Nat}:dg 65536 A j<65536:=Ut (by decide)
theorem RZ(A:Nat):∃n,szp 65536 A n:=by
 induction A using Nat.strongRecOn with
 |_ A ih=>
  by_cases h:A=0
  ·subst h;exact⟨0,by decide,fun h=>by omega⟩
  ·obtain⟨n,h1,h2⟩:=ih (A / 65536) (by omega)
   refine⟨n+1,?_,fun _=>?_⟩
   ·rw[cK];exact (l7 (by decide)).1 h1
   ·rw[vL]
    cases n with
    |zero=>rw[gf];omega
    |succ n=>
     have:=h2 (by omega)
     rw[vL] at this
     rw[cK]
     exact (qk (by decide)).1 this
def sz6(A:Nat):Nat:=Classical.choose (RZ A)
theorem As(A:Nat):szp 65536 A (sz6 A):=zU (RZ A)
theorem j4(A:Nat):A<65536 ^ sz6 A:=(As A).1
theorem r5 {A n:Nat}(h:A<65536 ^ n):sz6 A≤n:=Mx (by decide) (As A) h
theorem My {A n:Nat}(h:szp 65536 A n):n=sz6 A:=RY (by decide) h (As A)
theorem D8:sz6 0=0:=(My ⟨by decide,fun h=>by omega⟩).symm
theorem DA {A:Nat}(h:0<A):0<sz6 A:=by
 rcases sJ (sz6 A) with h1|h1
 ·have:=j4 A
  rw[h1,gf] at this;omega
 ·exact h1
noncomputable abbrev dl(A:Nat):List Int:=dk (sz6 A) A
theorem Nt(A:Nat):(dl A).length=sz6 A:=cQ
theorem dl_zero:dl 0=[]:=by unfold dl;rw[D8];rfl
theorem Ns {A:Nat}:(dl A).length=0↔A=0:=by
 rw[Nt]
 constructor
 ·intro h
  rcases sJ A with h1|h1
  ·exact h1
  ·have:=DA h1;omega
 ·rintro rfl;exact D8
theorem v7 {n A k:Nat}(hA:A<65536 ^ n):dT (dk n A) (k:Int)=some ((dg 65536 A k:Nat):Int):=by
 unfold dT
 rw[cQ]
 by_cases h:k<n
 ·rw[cH _ _,aC,bH,q9 h]
 ·rw[cr _ _,mg (bM hA (hJ (by decide) (by omega)))];rfl
theorem Aa {n A:Nat}(hA:A<65536 ^ n)(hn:n<1000000):fG (dk n A)=some (dl A):=by
 obtain⟨x,hl,hx⟩:=wh (b:=lL (dk n A)) (fun s=>∃k:Nat,s=(k:Int)∧k≤n∧A<65536 ^ k) (fun s=>s.toNat) (fun x=>x=((sz6 A:Nat):Int))
  (by
   rintro s ⟨k,rfl,hk,bO⟩
   cases k with
   |zero=>
    right
    refine⟨((0:Nat):Int),?_,?_⟩
    ·dsimp only[lL]
     rw[cr _ _,ab,aI]
    ·show ((0:Nat):Int)=_
     rw[←My ⟨bO,fun h=>by omega⟩]
   |succ k=>
    have e:i64.wrap (((k+1:Nat):Int) - 1)=(k:Int):=by rw[ce];omega
    dsimp only[lL]
    rw[cH _ _,e,cQ,aC,ab,bH,q9 (by omega),gz]
    by_cases hd:dg 65536 A k=0
    ·left
     refine⟨(k:Int),by rw[ifp_],⟨k,rfl,by omega,?_⟩,by omega⟩
     unfold dg at hd
     have h1:A / 65536 ^ k<65536:=by
      rw[l7 (bV (by decide)),bz,←cK];exact bO
     rw[eD h1] at hd
     exact (Jx (bV (by decide))).1 hd
    ·right
     refine⟨((k+1:Nat):Int),by rw[ifn_],?_⟩
     show ((k+1:Nat):Int)=_
     rw[My (A:=A) ⟨bO,fun _=>?_⟩]
     rcases d9 A (65536 ^ k) with h|h
     ·exact absurd (mg h) hd
     ·exact h) (n:Int) ⟨n,rfl,az _,hA⟩
 unfold fG
 have hs:=r5 hA
 rw[cQ,hl,hx,ab,aC,subL_to _ _ (by omega),bH,lF_take hs]
theorem pmax {n m A B:Nat}(hA:A<65536 ^ n)(hB:B<65536 ^ m):A<65536 ^ max n m∧B<65536 ^ max n m:=
 ⟨bM hA (hJ (by decide) (Nat.le_max_left ..)),bM hB (hJ (by decide) (PF ..))⟩
theorem Ev(n m:Nat):max (n:Int) (m:Int)=((max n m:Nat):Int):=by omega
theorem PV {n m A B:Nat}(hA:A<65536 ^ n)(hB:B<65536 ^ m)(hn:n<100000)(hm:m<100000):lw (dk n A) (dk m B)=some (dl (A+B)):=by
 have hM:max n m<100000:=by omega
 obtain⟨Pj,hB'⟩:=pmax hA hB
 have hl:=sf (b:=kA (dk n A) (dk m B)) (s0:=(([]:List Int),(0:Int),(0:Int))) (fun k=>(dk k (A+B),(((A % 65536 ^ k+B % 65536 ^ k) / 65536 ^ k:Nat):Int),(k:Int))) (max n m+1) (dk (max n m+1) (A+B))
  (by simp only[gf,nF];rfl)
  (fun k hk=>by
   have hc:=pb (b:=65536) (A:=A) (B:=B) (k:=k) (by decide)
   obtain⟨h1,h2⟩:=qm (b:=65536) (A:=A) (B:=B) (k:=k) (by decide)
   have ha:=@lz A k
   have hb:=@lz B k
   have hc':=pb (b:=65536) (A:=A) (B:=B) (k:=k+1) (by decide)
   generalize (A % 65536 ^ k+B % 65536 ^ k) / 65536 ^ k=c at h1 h2 hc ⊢
   generalize (A % 65536 ^ (k+1)+B % 65536 ^ (k+1)) / 65536 ^ (k+1)=c' at h2 hc' ⊢
   dsimp only[kA]
   rw[cQ,cQ,Ev,ce,cH _ _,v7 hA,ab,v7 hB,ab,ce (z:=(dg 65536 A k:Int)+(dg 65536 B k:Int)) (by omega),ce,ab,←kK,←kK,show (65536:Int)=((65536:Nat):Int) from rfl,←tY,←tZ,qR (dg 65536 A k+dg 65536 B k),←xE,h1,h2,AL,cQ,aC,ce (z:=(c':Int)) (by omega),ce]
   rfl)
  (by
   dsimp only[kA]
   rw[cQ,cQ,Ev,ce,cr _ _])
 unfold lw
 have:A+B<65536 ^ (max n m+1):=by rw[cK];omega
 rw[hl,ab,Aa this (by omega),ab]
theorem Mb {n m A B:Nat}(hA:A<65536 ^ n)(hB:B<65536 ^ m)(hn:n<100000)(hBA:B≤A):ix (dk n A) (dk m B)=some (dl (A - B)):=by
 obtain⟨D,rfl⟩:∃D,A=D+B:=⟨A - B,by omega⟩
 rw[vL]
 have hl:=sf (b:=jG (dk n (D+B)) (dk m B)) (s0:=(([]:List Int),(0:Int),(0:Int))) (fun k=>(dk k D,(((D % 65536 ^ k+B % 65536 ^ k) / 65536 ^ k:Nat):Int),(k:Int))) n (dk n D)
  (by simp only[gf,nF];rfl)
  (fun k hk=>by
   have hc:=pb (b:=65536) (A:=D) (B:=B) (k:=k) (by decide)
   have hc':=pb (b:=65536) (A:=D) (B:=B) (k:=k+1) (by decide)
   obtain⟨h1,h2⟩:=qm (b:=65536) (A:=D) (B:=B) (k:=k) (by decide)
   have ha:=@lz D k
   have hb:=@lz B k
   have hd:=@lz (D+B) k
   generalize hq:(D % 65536 ^ k+B % 65536 ^ k) / 65536 ^ k=c at h1 h2 hc ⊢
   generalize (D % 65536 ^ (k+1)+B % 65536 ^ (k+1)) / 65536 ^ (k+1)=c' at h2 hc' ⊢
   dsimp only[jG]
   rw[cQ,cH _ _,aC,v7 hB,ab,bH,q9 hk,ce (z:=(dg 65536 (D+B) k:Int) - (dg 65536 B k:Int)) (by omega),ce,ab]
   by_cases hn0:(dg 65536 (D+B) k:Int) - (dg 65536 B k:Int) - (c:Int)<0
   ·obtain rfl:c'=1:=by omega
    rw[cH _ _ hn0,ab,ce]
    dsimp only
    rw[show (dg 65536 (D+B) k:Int) - (dg 65536 B k:Int) - (c:Int)+65536=(dg 65536 D k:Int) from by omega,AL,cQ,aC,ce]
    rfl
   ·obtain rfl:c'=0:=by omega
    rw[cr _ _ hn0,ab]
    dsimp only
    rw[show (dg 65536 (D+B) k:Int) - (dg 65536 B k:Int) - (c:Int)=(dg 65536 D k:Int) from by omega,AL,cQ,aC,ce]
    rfl)
  (by
   dsimp only[jG]
   rw[cQ,cr _ _])
 unfold ix
 rw[hl,ab,Aa (by omega) (by omega),ab]
theorem AI {A B k:Nat}(he:A / 65536 ^ (k+1)=B / 65536 ^ (k+1))(h:dg 65536 A k<dg 65536 B k):A<B:=by
 have e1:=cG (b:=65536) (A:=A) (k:=k)
 have e2:=cG (b:=65536) (A:=B) (k:=k)
 have h1:A / 65536 ^ k<B / 65536 ^ k:=by
  rw[e1,e2,he];exact Fu h _
 rcases d9 A B with h2|h2
 ·exact h2
 ·exact absurd (NY h2) (Nat.not_le.2 h1)
theorem G_dless {n m A B:Nat}(hA:A<65536 ^ n)(hB:B<65536 ^ m)(hn:n<100000)(hm:m<100000):mU (dk n A) (dk m B)=some (decide (A<B)):=by
 obtain⟨Pj,hB'⟩:=pmax hA hB
 obtain⟨x,hl,hx⟩:=wh (b:=lM (dk n A) (dk m B)) (fun s=>∃k:Nat,s=(k:Int) - 1∧k≤max n m∧A / 65536 ^ k=B / 65536 ^ k) (fun s=>(s+1).toNat) (fun x=>match x with| .inl r=>r=decide (A<B)| .inr _=>A=B)
  (by
   rintro s ⟨k,rfl,hk,he⟩
   cases k with
   |zero=>
    right
    refine⟨(Sum.inr ():Bool⊕Unit),?_,?_⟩
    ·dsimp only[lM]
     rw[cr _ _]
    ·simpa using he
   |succ k=>
    have e:((k+1:Nat):Int) - 1=(k:Int):=by omega
    rw[e]
    dsimp only[lM]
    rw[cH _ _,v7 hA,ab,v7 hB,ab]
    by_cases hd:dg 65536 A k=dg 65536 B k
    ·left
     refine⟨(k:Int) - 1,?_,⟨k,rfl,by omega,?_⟩,by omega⟩
     ·rw[cr _ _ (by rw[hd];simp),ce]
     ·rw[cG (b:=65536) (A:=A) (k:=k),cG (b:=65536) (A:=B) (k:=k),he,hd]
    ·right
     refine⟨(Sum.inl (decide (A<B)):Bool⊕Unit),?_,rfl⟩
     rw[cH _ _,ab,ab]
     congr 3
     refine lE.2 ?_
     rcases Nat.lt_or_gt_of_ne hd with h|h
     ·have:=AI he h
      exact⟨fun _=>this,fun _=>by omega⟩
     ·have:=AI he.symm h
      exact⟨fun h'=>by omega,fun h'=>by omega⟩) (((max n m:Nat):Int) - 1) ⟨max n m,rfl,az _,by rw[eI Pj,eI hB']⟩
 unfold mU
 rw[cQ,cQ,Ev,ce,ab,hl,ab]
 cases x with
 |inl r=>obtain rfl:r=_:=hx;rfl
 |inr u=>
  obtain rfl:A=B:=hx
  simp
section
variable {b:Nat} {f g:Nat→Nat}
theorem Ks:∀n,(∀j,j<n→f j=g j)→gP b f n=gP b g n
 |0,_=>rfl
 |n+1,h=>by
  unfold gP
  rw[Ks n fun j hj=>h j (by omega),h n (by omega)]
theorem Kp {q x:Nat}:∀n,q<n→gP b (fun j=>if j=q then f j+x else f j) n=gP b f n+x*b ^ q
 |0,h=>by omega
 |n+1,h=>by
  unfold gP
  by_cases hq:q=n
  ·subst hq
   rw[ah rfl,Ks q (g:=f) fun j hj=>ifn_,bP];omega
  ·rw[ifn_,Kp n (by omega)];omega
theorem Ou {A:Nat}:∀n,gP b (dg b A) n=A % b ^ n
 |0=>by simp[gP,nF]
 |n+1=>by
  unfold gP
  rw[Ou n,ic,bz]
theorem Kr(k:Nat):∀n,k≤n→gP b f n % b ^ k=gP b f k % b ^ k
 |0,h=>by
  obtain rfl:k=0:=by omega
  rfl
 |n+1,h=>by
  by_cases hk:k=n+1
  ·rw[hk]
  ·have wD:k≤n:=by omega
   obtain⟨d,rfl⟩:∃d,n=k+d:=⟨n - k,by omega⟩
   rw[←Kr k (k+d) wD]
   show (gP b f (k+d)+f (k+d)*b ^ (k+d)) % b ^ k=_
   rw[ip,xC,CD]
theorem Ot {M:Nat}(hb:2≤b):∀n,(∀j,j<n→f j≤M)→gP b f n≤M*b ^ n
 |0,_=>by simp[gP]
 |n+1,h=>by
  have ih:=Ot hb n fun j hj=>h j (by omega)
  have h1:f n*b ^ n≤M*b ^ n:=cz _ (h n (by omega))
  have h2:M*b ^ n*2≤M*b ^ n*b:=Ba _ hb
  unfold gP
  rw[cK,←eR]
  omega
theorem Qr {n k:Nat}(hb:0<b)(hk:k<n):(gP b f k / b ^ k+f k) % b=dg b (gP b f n) k∧(gP b f k / b ^ k+f k) / b=gP b f (k+1) / b ^ (k+1):=by
 have hp:0<b ^ k:=bV hb
 have e:gP b f (k+1) / b ^ k=gP b f k / b ^ k+f k:=by
  show (gP b f k+f k*b ^ k) / b ^ k=_
  rw[ND _ _ hp]
 refine⟨?_,?_⟩
 ·rw[←e,←n4 (A:=gP b f n) (k:=k+1) (ez _),Kr (k+1) n hk,n4 (ez _)]
  rfl
 ·rw[←e,ia,←cK]
end
theorem Qe {n m A B i:Nat}(hi:i<n)(hn:n<1000)(hm:m<1000)(hB:B<65536 ^ m){R:Nat}(hR:R<65536 ^ (n+m+1)):
  ∃f:Nat→Nat,bt (jF (dk n A) (dk m B) (i:Int)) ((0:Int),dk (n+m+1) R)=some (lF (n+m+1) f)∧gP 65536 f (n+m+1)=R+dg 65536 A i*B*65536 ^ i∧∀j,f j≤65535+65535*65535:=by
 have ha:=@lz A i
 have eP:i64.wrap ((i64.wrap (((dk n A).length:Int)+((dk m B).length:Int)))+(1:Int))=((n+m+1:Nat):Int):=by
  rw[cQ,cQ,ce (z:=(n:Int)+(m:Int)) (by omega),ce];omega
 obtain⟨x,hl,f,rfl,h1,h2⟩:=wh (b:=jF (dk n A) (dk m B) (i:Int)) (fun s=>∃(k:Nat) (f:Nat→Nat),s=((k:Int),lF (n+m+1) f)∧k≤m∧gP 65536 f (n+m+1)=R+dg 65536 A i*(B % 65536 ^ k)*65536 ^ i∧(∀j,f j≤65535+65535*65535)∧∀j,i+k≤j→f j≤65535) (fun s=>m - s.1.toNat)
  (fun x=>∃f:Nat→Nat,x=lF (n+m+1) f∧gP 65536 f (n+m+1)=R+dg 65536 A i*B*65536 ^ i∧∀j,f j≤65535+65535*65535)
  (by
   rintro s ⟨k,f,rfl,hk,hv,hf,Dq⟩
   dsimp only[jF]
   rw[eP,bH,cQ,cQ,cQ]
   by_cases hkm:k<m
   ·left
    have eik:i64.wrap ((i:Int)+(k:Int))=((i+k:Nat):Int):=by rw[ce];omega
    have hb:=@lz B k
    have Gn:dg 65536 A i*dg 65536 B k≤65535*65535:=kL (by omega) (by omega)
    have hfk:=Dq (i+k) (az _)
    rw[cH _ _,eik,aC,aC,aC,aC,ab,bH,bH,bH,q9 (by omega),q9 hi,q9 hkm,←ir,ce (z:=((dg 65536 A i*dg 65536 B k:Nat):Int)) (by omega),←kK,ce (z:=((f (i+k)+dg 65536 A i*dg 65536 B k:Nat):Int)) (by omega),MU,ce]
    have e:lF (n+m+1) (fun j=>if j=i+k then f (i+k)+dg 65536 A i*dg 65536 B k else f j)=lF (n+m+1) (fun j=>if j=i+k then f j+dg 65536 A i*dg 65536 B k else f j):=vf fun j _=>by
     by_cases h:j=i+k
     ·rw[ah h,ah h,h]
     ·rw[ai h,ai h]
    refine⟨_,rfl,⟨k+1,(fun j=>if j=i+k then f j+dg 65536 A i*dg 65536 B k else f j),by rw[e];rfl,by omega,?_,fun j=>?_,fun j hj=>?_⟩,by show m - ((k:Int)+1).toNat<m - (k:Int).toNat;omega⟩
    ·rw[Kp _ (by omega),hv,ic,vM,bP,ip]
     simp only[eR,xC,bz,xE]
    ·dsimp only
     by_cases h:j=i+k
     ·rw[ah h,h];omega
     ·rw[ai h];exact hf j
    ·dsimp only
     rw[ifn_];exact Dq j (by omega)
   ·right
    obtain rfl:k=m:=by omega
    refine⟨_,by rw[cr _ _],f,rfl,?_,hf⟩
    rw[hv,eD hB])
  ((0:Int),dk (n+m+1) R) ⟨0,dg 65536 R,rfl,cy _,by rw[Ou,gf,nF,Nat.mul_zero,gS,eD hR,iT],fun j=>by have:=@lz R j;omega,fun j _=>by have:=@lz R j;omega⟩
 exact⟨f,hl,h1,h2⟩
theorem Mw {n m A B:Nat}(hn:n<1000)(hm:m<1000){f:Nat→Nat}(hf:∀j,f j≤65535+65535*65535):
  bt (gR (dk n A) (dk m B)) ((0:Int),(0:Int),lF (n+m+1) f)=some (dk (n+m+1) (gP 65536 f (n+m+1))):=by
 have eP:i64.wrap ((i64.wrap (((dk n A).length:Int)+((dk m B).length:Int)))+(1:Int))=((n+m+1:Nat):Int):=by
  rw[cQ,cQ,ce (z:=(n:Int)+(m:Int)) (by omega),ce];omega
 have hl:=sf (b:=gR (dk n A) (dk m B)) (s0:=((0:Int),(0:Int),lF (n+m+1) f)) (fun k=>(((gP 65536 f k / 65536 ^ k:Nat):Int),(k:Int),lF (n+m+1) (fun j=>if j<k then dg 65536 (gP 65536 f (n+m+1)) j else f j))) (n+m+1) (lF (n+m+1) (fun j=>if j<n+m+1 then dg 65536 (gP 65536 f (n+m+1)) j else f j))
  (by
   rw[show gP 65536 f 0 / 65536 ^ 0=0 from by simp[gP],vf (n:=n+m+1) (f:=fun j=>if j<0 then dg 65536 (gP 65536 f (n+m+1)) j else f j) (g:=f) fun j _=>ifn_]
   rfl)
  (fun k hk=>by
   obtain⟨h1,h2⟩:=Qr (b:=65536) (f:=f) (n:=n+m+1) (k:=k) (by decide) hk
   have hc:gP 65536 f k / 65536 ^ k≤65535+65535*65535:=by
    have:=Ot (b:=65536) (f:=f) (by decide) k fun j _=>hf j
    exact Nat.div_le_of_le_mul (by rw[bz];exact this)
   have hfk:=hf k
   generalize gP 65536 f k / 65536 ^ k=c at h1 h2 hc ⊢
   generalize gP 65536 f (k+1) / 65536 ^ (k+1)=c' at h2 ⊢
   dsimp only[gR]
   rw[eP,bH,cQ,cH _ _,aC,ab,aC,bH,q9 hk,ai (qj _),←kK,qR (f k),ce (z:=((c+f k:Nat):Int)) (by omega),show (65536:Int)=((65536:Nat):Int) from rfl,←tY,←tZ,h1,h2,ce (z:=(c':Int)) (by omega),ce,MU]
   have e:lF (n+m+1) (fun j=>if j=k then dg 65536 (gP 65536 f (n+m+1)) k else if j<k then dg 65536 (gP 65536 f (n+m+1)) j else f j)=lF (n+m+1) (fun j=>if j<k+1 then dg 65536 (gP 65536 f (n+m+1)) j else f j):=vf fun j _=>by
    by_cases h:j=k
    ·rw[ah h,ifp_,h]
    ·rw[ai h]
     by_cases h3:j<k
     ·rw[ah h3,ifp_]
     ·rw[ai h3,ifn_]
   rw[e]
   rfl)
  (by
   dsimp only[gR]
   rw[eP,bH,cr _ _])
 rw[hl]
 congr 1
 exact vf fun j hj=>ah hj
theorem V3 {n m A B:Nat}(hA:A<65536 ^ n)(hB:B<65536 ^ m)(hn:n<1000)(hm:m<1000):lS (dk n A) (dk m B)=some (dl (A*B)):=by
 have eP:i64.wrap ((i64.wrap (((dk n A).length:Int)+((dk m B).length:Int)))+(1:Int))=((n+m+1:Nat):Int):=by
  rw[cQ,cQ,ce (z:=(n:Int)+(m:Int)) (by omega),ce];omega
 have hbnd:∀i,A % 65536 ^ i*B<65536 ^ (n+m+1):=fun i=>by
  have h1:A % 65536 ^ i*B≤A*B:=cz _ (Nat.mod_le _ _)
  have h2:A*B<65536 ^ n*65536 ^ m:=CB hA hB
  have h3:65536 ^ n*65536 ^ m≤65536 ^ (n+m+1):=by rw[←ip];exact hJ (by decide) (by omega)
  omega
 have hl:=sf (b:=kz (dk n A) (dk m B)) (s0:=((0:Int),List.replicate (n+m+1) (0:Int))) (fun i=>((i:Int),dk (n+m+1) (A % 65536 ^ i*B))) n (dk (n+m+1) (A % 65536 ^ n*B))
  (by
   rw[SS,gf,nF,gS]
   have:dk (n+m+1) 0=lF (n+m+1) (fun _=>0):=vf fun j _=>by unfold dg;simp
   rw[this];rfl)
  (fun i hi=>by
   obtain⟨f,h1,h2,h3⟩:=Qe (A:=A) (i:=i) hi hn hm hB (hbnd i)
   dsimp only[kz]
   rw[cQ,cH _ _,h1,ab,Mw hn hm h3,ab,h2,ce,ic,bP]
   have:65536 ^ i*dg 65536 A i*B=dg 65536 A i*B*65536 ^ i:=by simp only[eR,xC,bz]
   rw[this]
   rfl)
  (by
   dsimp only[kz]
   rw[cQ,cr _ _])
 unfold lS
 rw[eP,aC,bH,hl,ab,cQ,aC rfl,eD hA,Aa (by have:=hbnd n;rwa[eD hA] at this) (by omega),ab]
end
end
end Go.Proofs.YtaedcknhkjpmlaaGreat
