/-
  Lemmas, part 4. Conditions: none.
-/
import Derived.Test.YtaedcknhkjpmlaaGreatY3
set_option linter.all false
set_option maxRecDepth 100000
set_option maxHeartbeats 4000000
namespace Go.Proofs.YtaedcknhkjpmlaaGreat
open Go.RowKit Go.IntKind Tryz
noncomputable section
def j6(aZ:ap):Bool×Int→Option ((Bool×Int)⊕Bool):=fun (aP,bq)=>cnd (decide (bq<(16:Int))) (bnd (S:=Bool) (cnd aP (gd (0≤bq∧bq<16) (some (decide (((aZ.vW)[(bq).toNat]!)=(0:Int))))) (some (false))) fun aT=>some (.inl (aT,i64.wrap (bq+(1:Int))))) (some (.inr aP))
def pQ(aZ:ap):Option Bool:=bnd (bo (j6 aZ) (true,(0:Int))) fun bf=>cnd aZ.vBad (bnd (S:=Bool) (cnd bf (some (!aZ.vNeg)) (some (false))) fun kB=>some kB) (bnd (S:=Bool) (cnd (!bf) (some (true)) (some (!aZ.vNeg))) fun Hx=>some Hx)
theorem Gc {aZ:ap}{r:Bool}(h:pQ aZ=some r):ar prog 177 [dG aq aZ] (dB r):=by
 refine bn (rs:=[.tmp 2]) (fun cx hx h0=>?_) func177
 unfold pQ at h
 iterate 2 refine ra hx ?_
 refine AW.seq (ra hx ?_)
 refine AW.block ?_
 obtain⟨bf,hy,h⟩:=ae h
 refine lp (S:=Bool×Int) (X:=Bool) (fun (aP,bq)=>[(1,.pt 0 0),(3,dB aP),(4,dI .i64 bq)]) (fun (aP,bq)=>⟨[(0,dC (aq.f aZ))],[],1⟩) (PE cx (.exit 0) (fun bf=>[(1,.pt 0 0),(3,dB bf)]) fun bf=>⟨[(0,dC (aq.f aZ))],[],1⟩) hy ?_ ?_ ?_
 exact wk0 h0 [0]
 clear hy h
 rintro⟨aP,bq⟩ y h
 dsimp only[j6] at h
 refine AW.seq (ra hx ?_)
 refine cdh h rfl (fun f4 h=>?_) (fun f4 h=>?_)
 refine AW.skip (AW.seq ?_)
 obtain⟨aT,hy,h⟩:=ae h
 refine jn ((PE cx .normal (fun aT=>[(1,.pt 0 0),(3,dB aT),(4,dI .i64 bq)]) fun aT=>⟨[(0,dC (aq.f aZ))],[],1⟩) aT) ?_ ?_
 replace h:=hy
 refine AW.block (rq hx fun K hK=>?_)
 refine mbi ?_
 rcases aF h with⟨CC,h⟩|⟨CC,h⟩
 iterate 2 refine ga CC ?_
 obtain⟨hc3,h⟩:=aA h
 refine nbi hK ?_
 exact pe1 h h0 [0]
 refine nbi hK ?_
 exact pe1 h h0 [0]
 refine lw0 ?_
 refine rb hx ?_
 exact pel h h0 [0]
 exact AW.exit (per h h0 [0])
 refine lw0 ?_
 refine AW.seq (rai hx ?_)
 refine cdh h rfl (fun t8 h=>?_) (fun t8 h=>?_)
 refine AW.seq ?_
 obtain⟨kB,hy,h⟩:=ae h
 refine jn ((PE cx .normal (fun kB=>[(2,dB kB)]) fun kB=>⟨[],[],0⟩) kB) ?_ ?_
 replace h:=hy
 refine rq hx fun K hK=>?_
 refine mbi ?_
 rcases aF h with⟨t7,h⟩|⟨t7,h⟩
 refine nbi hK ?_
 exact pe1 h h0 []
 refine nbi hK ?_
 exact pe1 h h0 []
 refine lw0 ?_
 exact AW.ret (rtv h)
 refine AW.skip (AW.seq ?_)
 obtain⟨Hx,hy,h⟩:=ae h
 refine jn ((PE cx .normal (fun Hx=>[(2,dB Hx)]) fun Hx=>⟨[],[],0⟩) Hx) ?_ ?_
 replace h:=hy
 refine rq hx fun K hK=>?_
 refine mbi ?_
 rcases aF h with⟨nG,h⟩|⟨nG,h⟩
 refine nbi hK ?_
 exact pe1 h h0 []
 refine nbi hK ?_
 exact pe1 h h0 []
 refine lw0 ?_
 exact AW.ret (rtv h)
def bk(aZ:ap):Option Bool:=bnd (pQ aZ) fun x1=>bnd (S:=Bool) (cnd x1 (some (!aZ.vBad)) (some (false))) fun jx=>some jx
theorem cv {aZ:ap}{r:Bool}(h:bk aZ=some r):ar prog 142 [dG aq aZ] (dB r):=by
 refine bn (rs:=[.tmp 2]) (fun cx hx h0=>?_) func142
 unfold bk at h
 refine ra hx ?_
 refine rs hx fun K hK=>?_
 refine mbi ?_
 refine scb h Gc fun x1 h=>?_
 refine nbi hK ?_
 refine AW.seq ?_
 obtain⟨jx,hy,h⟩:=ae h
 refine jn ((PE cx .normal (fun jx=>[(2,dB jx)]) fun jx=>⟨[],[],0⟩) jx) ?_ ?_
 replace h:=hy
 refine rq hx fun K hK=>?_
 refine mbi ?_
 rcases aF h with⟨fZ,h⟩|⟨fZ,h⟩
 refine nbi hK ?_
 exact pe1 h h0 []
 refine nbi hK ?_
 exact pe1 h h0 []
 refine lw0 ?_
 exact AW.ret (rtv h)
def mE(aZ:ap):Int→Option (Int⊕((Int×Bool)⊕Unit)):=fun aT=>cnd (decide (aT<(16:Int))) (gd (0≤aT∧aT<16) (cnd (decide (((aZ.vW)[(aT).toNat]!)≠(0:Int))) (some (.inr (.inl ((0:Int),false)))) (some (.inl (i64.wrap (aT+(1:Int))))))) (some (.inr (.inr ())))
def eQ(aZ:ap):Option (Int×Bool):=bnd (bk aZ) fun x1=>bnd (S:=Bool) (cnd (!x1) (some (true)) (some (decide ((1073741824:Int)≤((aZ.vW)[((1:Int)).toNat]!))))) fun aD=>cnd aD (some ((0:Int),false)) (bnd (bo (mE aZ) (2:Int)) fun y11=>match y11 with| .inl r=>some r| .inr ()=>bnd (some (i64.wrap ((i64.wrap ((i64.wrap ((aZ.vW)[((1:Int)).toNat]!))*(4294967296:Int)))+(i64.wrap ((aZ.vW)[((0:Int)).toNat]!))))) fun pX=>cnd aZ.vNeg (some (i64.wrap (0 - pX),true)) (some (pX,true)))
theorem jd {aZ:ap}{r:Int×Bool}(h:eQ aZ=some r):ar prog 166 [dG aq aZ] (.tu [dI .i64 r.1,dB r.2]):=by
 refine bn (rs:=[.tmp 2,.tmp 3]) (fun cx hx h0=>?_) func166
 unfold eQ at h
 refine ra hx ?_
 refine rs hx fun K hK=>?_
 refine mbi ?_
 refine scb h cv fun x1 h=>?_
 refine nbi hK ?_
 iterate 2 refine AW.seq ?_
 obtain⟨aD,hy,h⟩:=ae h
 refine jn ((PE cx .normal (fun aD=>[(1,.pt 0 0),(16,dB aD)]) fun aD=>⟨[(0,dC (aq.f aZ))],[],1⟩) aD) ?_ ?_
 replace h:=hy
 refine rq hx fun K hK=>?_
 refine mbi ?_
 rcases aF h with⟨fZ,h⟩|⟨fZ,h⟩
 refine nbi hK ?_
 exact pe1 h h0 [0]
 refine ga fZ ?_
 refine g1 fZ (vU (by decide:0≤(1:Int)∧(1:Int)<((16:Nat):Int)) cY bQ) ?_
 refine nbi hK ?_
 exact pe1 h h0 [0]
 refine lw0 ?_
 refine cdh h rfl (fun rp h=>?_) (fun rp h=>?_)
 refine ra hx ?_
 refine AW.ret ?_
 cases h
 exact rv2
 refine AW.skip (AW.seq (ra hx ?_))
 refine AW.block ?_
 obtain⟨y,hy,h⟩:=ae h
 refine lp (S:=Int) (X:=(Int×Bool)⊕Unit) (fun aT=>[(1,.pt 0 0),(5,dI .i64 aT)]) (fun aT=>⟨[(0,dC (aq.f aZ))],[],1⟩) (PS (PR [.tmp 2,.tmp 3] fun r=>.tu [dI .i64 r.1,dB r.2]) (PE cx (.exit 0) (fun ()=>[(1,.pt 0 0)]) fun ()=>⟨[(0,dC (aq.f aZ))],[],1⟩)) hy ?_ ?_ ?_
 exact wk0 h0 [0]
 clear hy h
 rintro aT y h
 dsimp only[mE] at h
 refine AW.seq (ra hx ?_)
 refine cdh h rfl (fun t8 h=>?_) (fun t8 h=>?_)
 refine AW.skip (AW.seq (AW.block (rs hx fun K hK=>?_)))
 iterate 2 refine sa ?_
 obtain⟨hc8,h⟩:=aA h
 refine nbi hK ?_
 refine cdh h rfl (fun nG h=>?_) (fun nG h=>?_)
 refine ra hx ?_
 refine AW.ret ?_
 cases h
 refine PS.r ⟨by nofun,PS.l (PR.i ?_)⟩
 exact rv2
 refine AW.skip (rb hx ?_)
 exact pel h h0 [0]
 exact AW.exit (peq h h0 [0])
 rcases y with r|⟨⟩
 rintro ex tm' hp' ⟨rfl,hw⟩
 cases h
 exact hw
 refine lwr ?_
 refine rs hx fun K hK=>?_
 refine sa ?_
 refine s1 (vU (by decide:0≤(1:Int)∧(1:Int)<((16:Nat):Int)) cY bQ) ?_
 iterate 4 refine sbi ?_
 refine s1 (vU (by decide:0≤(0:Int)∧(0:Int)<((16:Nat):Int)) cY bQ) ?_
 iterate 3 refine sbi ?_
 obtain⟨pX,yZ,h⟩:=ae h
 replace yZ:=bw yZ
 refine s2 (d2:=dI .i64 pX) kE (fq (congrArg (dI .i64) yZ)) ?_
 refine nl hK ?_
 refine AW.seq (rai hx ?_)
 refine cdh h rfl (fun tz h=>?_) (fun tz h=>?_)
 refine ra hx ?_
 refine AW.ret ?_
 cases h
 exact rv2
 refine AW.skip (ra hx ?_)
 refine AW.ret ?_
 cases h
 exact rv2
def lq(eA:List Int):Int→Option (Int⊕Int):=fun aD=>bnd (S:=Bool) (cnd (decide ((0:Int)<aD)) (gd (0≤i64.wrap (aD - (1:Int))∧i64.wrap (aD - (1:Int))<((eA).length:Int)) (some (decide (((eA)[(i64.wrap (aD - (1:Int))).toNat]!)=(0:Int))))) (some (false))) fun n0=>cnd n0 (some (.inl (i64.wrap (aD - (1:Int))))) (some (.inr aD))
def fk(eA:List Int):Option (List Int):=bnd (bo (lq eA) ((eA).length:Int)) fun oM=>gd (0≤(0:Int)∧(0:Int)≤oM∧oM≤((eA).length:Int)) (some (CU eA (0:Int) oM))
theorem kN {eA:List Int}{r:List Int}(h:fk eA=some r):ar prog 175 [dL (cI .i64) eA] (dL (cI .i64) r):=by
 refine bn (rs:=[.tmp 2]) (fun cx hx h0=>?_) func175
 unfold fk at h
 refine rs hx fun K hK=>?_
 refine s1 (d:=dO 0 (cI .i64) ([]:List Int)) (gz c8 dZ) ?_
 refine nl hK ?_
 refine ra hx ?_
 refine AW.seq (AW.block ?_)
 obtain⟨oM,hy,h⟩:=ae h
 refine lp (S:=Int) (X:=Int) (fun aD=>[(0,dL (cI .i64) eA),(3,dI .i64 aD)]) (fun aD=>⟨[],[],0⟩) (PE cx (.exit 0) (fun oM=>[(0,dL (cI .i64) eA),(3,dI .i64 oM)]) fun oM=>⟨[],[],0⟩) hy ?_ ?_ ?_
 exact wk0 h0 []
 clear hy h
 rintro aD y h
 dsimp only[lq] at h
 iterate 2 refine AW.seq ?_
 obtain⟨n0,hy,h⟩:=ae h
 refine jn ((PE cx .normal (fun n0=>[(0,dL (cI .i64) eA),(3,dI .i64 aD),(15,dB n0)]) fun n0=>⟨[],[],0⟩) n0) ?_ ?_
 replace h:=hy
 refine rq hx fun K hK=>?_
 refine mbi ?_
 rcases aF h with⟨f4,h⟩|⟨f4,h⟩
 iterate 3 refine ga f4 ?_
 obtain⟨qU,h⟩:=aA h
 have xT:(i64.wrap (aD - (1:Int))).toNat<(eA).length:=by omega
 refine gbi ?_
 refine g1 f4 (yD (c:=(cI .i64)) (l:=eA) (n:=(i64.wrap (aD - (1:Int))).toNat) (o:=0) dZ xT) ?_
 refine nbi hK ?_
 exact pe1 h h0 []
 refine nbi hK ?_
 exact pe1 h h0 []
 refine lw0 ?_
 refine cdh h rfl (fun rW h=>?_) (fun rW h=>?_)
 refine AW.skip (AW.block (rb hx ?_))
 exact pel h h0 []
 exact AW.exit (per h h0 [])
 refine lw0 ?_
 refine rs hx fun K hK=>?_
 iterate 2 refine sa ?_
 obtain⟨hc7,h⟩:=aA h
 refine s1 (T_sl (c:=(cI .i64)) (l:=eA) (a:=(0:Int)) (b:=oM) hc7 c8 dZ) ?_
 refine nbi hK ?_
 exact AW.ret (rtv h)
def fy :Option ap:=some (⟨true,false,(eo)⟩:ap)
theorem kG  {r:ap}(h:fy=some r):ar prog 124 [] (dG aq r):=by
 refine bn (rs:=[.cell 0 41]) (fun cx hx h0=>?_) func124
 unfold fy at h
 refine rai hx ?_
 refine rs hx fun K hK=>?_
 refine s1 (d:=dG aq (⟨true,false,(eo)⟩:ap)) (g8 (FL.cons (y:=true) (sV ci) rfl rfl (FL.nil _)) ff) ?_
 refine nbi hK ?_
 exact AW.ret (rtv h)
def fV(x1:List Int):Int×ap→Option ((Int×ap)⊕ap):=fun (aU,gM)=>cnd (decide (aU<((x1).length:Int))) (bnd (S:=ap) (cnd (decide ((Int.tmod aU (2:Int))=(0:Int))) (gd (0≤i64.wrap (Int.tdiv aU (2:Int))∧i64.wrap (Int.tdiv aU (2:Int))<16) (gd (0≤aU∧aU<((x1).length:Int)) (gd (0≤i64.wrap (Int.tdiv aU (2:Int))∧i64.wrap (Int.tdiv aU (2:Int))<16) (bnd (some ((⟨gM.vBad,gM.vNeg,(gM.vW).set! (i64.wrap (Int.tdiv aU (2:Int))).toNat (u32.wrap (((gM.vW)[(i64.wrap (Int.tdiv aU (2:Int))).toNat]!)+(u32.wrap ((x1)[(aU).toNat]!))))⟩:ap))) fun sG=>some (sG))))) (gd (0≤i64.wrap (Int.tdiv aU (2:Int))∧i64.wrap (Int.tdiv aU (2:Int))<16) (gd (0≤aU∧aU<((x1).length:Int)) (gd (0≤i64.wrap (Int.tdiv aU (2:Int))∧i64.wrap (Int.tdiv aU (2:Int))<16) (bnd (some ((⟨gM.vBad,gM.vNeg,(gM.vW).set! (i64.wrap (Int.tdiv aU (2:Int))).toNat (u32.wrap (((gM.vW)[(i64.wrap (Int.tdiv aU (2:Int))).toNat]!)+(u32.wrap ((u32.wrap ((x1)[(aU).toNat]!))*(65536:Int)))))⟩:ap))) fun x26=>some (x26)))))) fun um=>some (.inl (i64.wrap (aU+(1:Int)),um))) (some (.inr gM))
def cg(z9:Bool)(eA:List Int):Option ap:=bnd (fk eA) fun x1=>cnd (decide ((32:Int)<((x1).length:Int))) (bnd (fy) fun x4=>some x4) (bnd (S:=ap) (cnd z9 (bnd (some ((⟨false,decide ((0:Int)<((x1).length:Int)),(eo)⟩:ap))) fun x7=>some (x7)) (some ((⟨false,false,(eo)⟩:ap)))) fun eC=>bnd (bo (fV x1) ((0:Int),eC)) fun bD=>some bD)
theorem eL {z9:Bool}{eA:List Int}{r:ap}(h:cg z9 eA=some r):ar prog 140 [dB z9,dL (cI .i64) eA] (dG aq r):=by
 refine bn (rs:=[.cell 4 41]) (fun cx hx h0=>?_) func140
 unfold cg at h
 refine rai hx ?_
 refine rs hx fun K hK=>?_
 refine sa ?_
 refine scb h kN fun x1 h=>?_
 refine nbi hK ?_
 refine AW.seq (ra hx ?_)
 refine cdh h rfl (fun fZ h=>?_) (fun fZ h=>?_)
 refine rs hx fun K hK=>?_
 refine scb h kG fun x4 h=>?_
 refine nbi hK ?_
 exact AW.ret (rtv h)
 refine AW.skip (AW.seq ?_)
 obtain⟨eC,hy,h⟩:=ae h
 refine jn ((PE cx .normal (fun eC=>[(4,.pt 0 0),(5,dL (cI .i64) x1),(6,.pt 1 0)]) fun eC=>⟨[(0,dC (aq.f ci)),(1,dC (aq.f eC))],[],2⟩) eC) ?_ ?_
 replace h:=hy
 refine rq hx fun K hK=>?_
 refine mbi ?_
 rcases aF h with⟨rp,h⟩|⟨rp,h⟩
 iterate 3 refine ga rp ?_
 refine sbi ?_
 refine s1 (d:=dG aq (⟨false,decide ((0:Int)<((x1).length:Int)),(eo)⟩:ap)) (g8 (FL.cons (y:=decide ((0:Int)<((x1).length:Int))) (nR ci) rfl rfl (FL.nil _)) ff) ?_
 refine sbi ?_
 obtain⟨x7,hx8,h⟩:=ae h
 replace hx8:=bw hx8
 refine s0 (nN (b':=(⟨false,decide ((0:Int)<((x1).length:Int)),(eo)⟩:ap)) (bV.id _ _) ff hx8) ?_
 refine nl hK ?_
 exact pe1 h h0 [0,1]
 iterate 3 refine Mj rfl rfl rp ?_
 refine sbi ?_
 refine s1 (d:=dG aq ci) (g8 (FL.cons (y:=false) (nR ci) rfl rfl (FL.nil _)) ff) ?_
 refine nbi hK ?_
 exact pe1 h h0 [0,1]
 refine lw0 ?_
 refine AW.seq (ra hx ?_)
 refine AW.block ?_
 obtain⟨bD,hy,h⟩:=ae h
 refine lp (S:=Int×ap) (X:=ap) (fun (aU,gM)=>[(4,.pt 0 0),(5,dL (cI .i64) x1),(6,.pt 1 0),(7,dI .i64 aU)]) (fun (aU,gM)=>⟨[(0,dC (aq.f ci)),(1,dC (aq.f gM))],[],2⟩) (PE cx (.exit 0) (fun bD=>[(4,.pt 0 0),(6,.pt 1 0)]) fun bD=>⟨[(0,dC (aq.f ci)),(1,dC (aq.f bD))],[],2⟩) hy ?_ ?_ ?_
 exact wk0 h0 [0,1]
 clear hy h
 rintro⟨aU,gM⟩ y h
 dsimp only[fV] at h
 refine AW.seq (ra hx ?_)
 refine cdh h rfl (fun nG h=>?_) (fun nG h=>?_)
 refine AW.skip (AW.seq ?_)
 obtain⟨um,hy,h⟩:=ae h
 refine jn ((PE cx .normal (fun um=>[(4,.pt 0 0),(5,dL (cI .i64) x1),(6,.pt 1 0),(7,dI .i64 aU)]) fun um=>⟨[(0,dC (aq.f ci)),(1,dC (aq.f um))],[],2⟩) um) ?_ ?_
 replace h:=hy
 refine AW.block (ra hx ?_)
 refine cdh h rfl (fun xU h=>?_) (fun xU h=>?_)
 refine rqd [] hx fun K hK=>?_
 iterate 5 refine sa ?_
 obtain⟨hc12,h⟩:=aA h
 iterate 4 refine sbi ?_
 obtain⟨hc14,h⟩:=aA h
 have hn15:(aU).toNat<(x1).length:=by omega
 refine sbi ?_
 refine s1 (yD (c:=(cI .i64)) (l:=x1) (n:=(aU).toNat) (o:=0) dZ hn15) ?_
 iterate 3 refine sa ?_
 obtain⟨Qj,h⟩:=aA h
 have S1:(i64.wrap (Int.tdiv aU (2:Int))).toNat<16:=by omega
 refine sbi ?_
 obtain⟨sG,Ee,h⟩:=ae h
 replace Ee:=bw Ee
 refine s0 (nN (b':=u32.wrap (((gM.vW)[(i64.wrap (Int.tdiv aU (2:Int))).toNat]!)+(u32.wrap ((x1)[(aU).toNat]!)))) (bV.comp (nQ gM) (bV.vec (cI .u32) gM.vW (i64.wrap (Int.tdiv aU (2:Int))).toNat S1) (fun _=>rfl)) bQ Ee) ?_
 refine nl hK ?_
 exact pe1 h h0 [0,1]
 refine rqd [] hx fun K hK=>?_
 iterate 5 refine sa ?_
 obtain⟨hc20,h⟩:=aA h
 iterate 4 refine sbi ?_
 obtain⟨ML,h⟩:=aA h
 have hn23:(aU).toNat<(x1).length:=by omega
 refine sbi ?_
 refine s1 (yD (c:=(cI .i64)) (l:=x1) (n:=(aU).toNat) (o:=0) dZ hn23) ?_
 iterate 4 refine sa ?_
 obtain⟨hc24,h⟩:=aA h
 have hn25:(i64.wrap (Int.tdiv aU (2:Int))).toNat<16:=by omega
 refine sbi ?_
 obtain⟨x26,hx27,h⟩:=ae h
 replace hx27:=bw hx27
 refine s0 (nN (b':=u32.wrap (((gM.vW)[(i64.wrap (Int.tdiv aU (2:Int))).toNat]!)+(u32.wrap ((u32.wrap ((x1)[(aU).toNat]!))*(65536:Int))))) (bV.comp (nQ gM) (bV.vec (cI .u32) gM.vW (i64.wrap (Int.tdiv aU (2:Int))).toNat hn25) (fun _=>rfl)) bQ hx27) ?_
 refine nl hK ?_
 exact pe1 h h0 [0,1]
 refine lw0 ?_
 refine rb hx ?_
 exact pel h h0 [0,1]
 exact AW.exit (per h h0 [0,1])
 refine lw0 ?_
 refine rai hx ?_
 exact AW.ret (rtv h)
def dM(eA:List Int)(vH:Int):Option Int:=cnd (decide (vH<((eA).length:Int))) (gd (0≤vH∧vH<((eA).length:Int)) (some ((eA)[(vH).toNat]!))) (some (0:Int))
theorem f7 {eA:List Int}{vH:Int}{r:Int}(h:dM eA vH=some r):ar prog 176 [dL (cI .i64) eA,dI .i64 vH] (dI .i64 r):=by
 refine bn (rs:=[.tmp 4]) (fun cx hx h0=>?_) func176
 unfold dM at h
 refine ra hx ?_
 refine AW.seq (ra hx ?_)
 refine cdh h rfl (fun f4 h=>?_) (fun f4 h=>?_)
 refine rs hx fun K hK=>?_
 iterate 2 refine sa ?_
 obtain⟨qU,h⟩:=aA h
 have xT:(vH).toNat<(eA).length:=by omega
 refine sbi ?_
 refine s1 (yD (c:=(cI .i64)) (l:=eA) (n:=(vH).toNat) (o:=0) dZ xT) ?_
 refine nbi hK ?_
 exact AW.ret (rtv h)
 refine AW.skip (ra hx ?_)
 exact AW.ret (rtv h)
def j5(aK:List Int)(aQ:List Int):(List Int)×Int×Int→Option (((List Int)×Int×Int)⊕((List Int))):=fun (dH,bP,ey)=>cnd (decide (ey<(i64.wrap ((max ((aK).length:Int) ((aQ).length:Int))+(1:Int))))) (bnd (dM aK ey) fun x2=>bnd (dM aQ ey) fun x4=>bnd (some (i64.wrap ((i64.wrap (x2+x4))+bP))) fun x6=>gd ((dH++[Int.tmod x6 (65536:Int)]).length*8≤140737488355328) (some (.inl (dH++[Int.tmod x6 (65536:Int)],i64.wrap (Int.tdiv x6 (65536:Int)),i64.wrap (ey+(1:Int)))))) (some (.inr dH))
def kT(aK:List Int)(aQ:List Int):Option (List Int):=bnd (bo (j5 aK aQ) (([]:List Int),(0:Int),(0:Int))) fun cl=>bnd (fk cl) fun l5=>some l5
theorem uz {aK:List Int}{aQ:List Int}{r:List Int}(h:kT aK aQ=some r):ar prog 141 [dL (cI .i64) aK,dL (cI .i64) aQ] (dL (cI .i64) r):=by
 refine bn (rs:=[.tmp 4]) (fun cx hx h0=>?_) func141
 unfold kT at h
 refine rs hx fun K hK=>?_
 refine s1 (d:=dO 0 (cI .i64) ([]:List Int)) (gz c8 dZ) ?_
 refine nl hK ?_
 refine rs hx fun K hK=>?_
 refine s1 (d:=dO 1 (cI .i64) ([]:List Int)) (gz c8 dZ) ?_
 refine nl hK ?_
 refine ra hx ?_
 refine AW.seq (ra hx ?_)
 refine AW.block ?_
 obtain⟨cl,hy,h⟩:=ae h
 refine lp (S:=(List Int)×Int×Int) (X:=(List Int)) (fun (dH,bP,ey)=>[(0,dL (cI .i64) aK),(1,dL (cI .i64) aQ),(5,dO 0 (cI .i64) dH),(6,dI .i64 bP),(7,dI .i64 ey)]) (fun (dH,bP,ey)=>⟨[],[(0,(dH).length,1,3)],1⟩) (PE cx (.exit 0) (fun cl=>[(5,dO 0 (cI .i64) cl)]) fun cl=>⟨[],[(0,(cl).length,1,3)],1⟩) hy ?_ ?_ ?_
 exact wk0 h0 [1]
 clear hy h
 rintro⟨dH,bP,ey⟩ y h
 dsimp only[j5] at h
 refine AW.seq (ra hx ?_)
 refine cdh h rfl (fun f4 h=>?_) (fun f4 h=>?_)
 refine AW.skip (AW.seq (AW.block (rs hx fun K hK=>?_)))
 refine mbi ?_
 refine scb h f7 fun x2 h=>?_
 refine mbi ?_
 refine scb h f7 fun x4 h=>?_
 iterate 3 refine sa ?_
 obtain⟨x6,v7,h⟩:=ae h
 replace v7:=bw v7
 refine s2 (d2:=dI .i64 x6) kE (fq (congrArg (dI .i64) v7)) ?_
 refine nl hK ?_
 refine rs hx fun K hK=>?_
 iterate 3 refine sa ?_
 refine s1 (d:=dO 1 (cI .i64) [Int.tmod x6 (65536:Int)]) (kD c8 dZ) ?_
 obtain⟨hc8,h⟩:=aA h
 refine s1 (d:=dO 0 (cI .i64) (dH++[Int.tmod x6 (65536:Int)])) (oP c8 dZ hc8) ?_
 refine nbi hK ?_
 iterate 2 refine rb hx ?_
 exact pel h h0 [0]
 exact AW.exit (per h h0 [0])
 refine lw0 ?_
 refine rs hx fun K hK=>?_
 refine sa ?_
 refine scb h kN fun l5 h=>?_
 refine nbi hK ?_
 exact AW.ret (rtv h)
def eR(cU:Int):Option ap:=cnd (decide ((0:Int)≤cU)) (bnd (cg false [Int.tmod cU (65536:Int),Int.tmod (i64.wrap (Int.tdiv cU (65536:Int))) (65536:Int),Int.tmod (i64.wrap (Int.tdiv cU (4294967296:Int))) (65536:Int),i64.wrap (Int.tdiv cU (281474976710656:Int))]) fun x2=>some x2) (bnd (some (i64.wrap (0 - (i64.wrap (cU+(1:Int)))))) fun x4=>bnd (kT [Int.tmod x4 (65536:Int),Int.tmod (i64.wrap (Int.tdiv x4 (65536:Int))) (65536:Int),Int.tmod (i64.wrap (Int.tdiv x4 (4294967296:Int))) (65536:Int),i64.wrap (Int.tdiv x4 (281474976710656:Int))] [(1:Int)]) fun x6=>bnd (cg true x6) fun x8=>some x8)
theorem iu {cU:Int}{r:ap}(h:eR cU=some r):ar prog 88 [dI .i64 cU] (dG aq r):=by
 refine bn (rs:=[.cell 2 41]) (fun cx hx h0=>?_) func88
 unfold eR at h
 refine rai hx ?_
 refine AW.seq (ra hx ?_)
 refine cdh h rfl (fun f4 h=>?_) (fun f4 h=>?_)
 refine rs hx fun K hK=>?_
 iterate 10 refine sa ?_
 refine s1 (d:=dO 1 (cI .i64) [Int.tmod cU (65536:Int),Int.tmod (i64.wrap (Int.tdiv cU (65536:Int))) (65536:Int),Int.tmod (i64.wrap (Int.tdiv cU (4294967296:Int))) (65536:Int),i64.wrap (Int.tdiv cU (281474976710656:Int))]) (kD c8 dZ) ?_
 refine scb h eL fun x2 h=>?_
 refine nbi hK ?_
 exact AW.ret (rtv h)
 refine AW.skip (rs hx fun K hK=>?_)
 iterate 3 refine sa ?_
 obtain⟨x4,P9,h⟩:=ae h
 replace P9:=bw P9
 refine s2 (d2:=dI .i64 x4) kE (fq (congrArg (dI .i64) P9)) ?_
 refine nl hK ?_
 refine rs hx fun K hK=>?_
 iterate 10 refine sa ?_
 refine s1 (d:=dO 1 (cI .i64) [Int.tmod x4 (65536:Int),Int.tmod (i64.wrap (Int.tdiv x4 (65536:Int))) (65536:Int),Int.tmod (i64.wrap (Int.tdiv x4 (4294967296:Int))) (65536:Int),i64.wrap (Int.tdiv x4 (281474976710656:Int))]) (kD c8 dZ) ?_
 refine s1 (d:=dO 2 (cI .i64) [(1:Int)]) (kD c8 dZ) ?_
 refine scb h uz fun x6 h=>?_
 refine scb h eL fun x8 h=>?_
 refine nbi hK ?_
 exact AW.ret (rtv h)
def jr(aZ:ap):(List Int)×Int→Option (((List Int)×Int)⊕((List Int))):=fun (aP,bq)=>cnd (decide (bq<(16:Int))) (gd (0≤bq∧bq<16) (gd (0≤bq∧bq<16) (gd ((aP++[i64.wrap (Int.tmod ((aZ.vW)[(bq).toNat]!) (65536:Int)),i64.wrap (u32.wrap (Int.tdiv ((aZ.vW)[(bq).toNat]!) (65536:Int)))]).length*8≤140737488355328) (some (.inl (aP++[i64.wrap (Int.tmod ((aZ.vW)[(bq).toNat]!) (65536:Int)),i64.wrap (u32.wrap (Int.tdiv ((aZ.vW)[(bq).toNat]!) (65536:Int)))],i64.wrap (bq+(1:Int)))))))) (some (.inr aP))
def bz(aZ:ap):Option (List Int):=bnd (bo (jr aZ) (([]:List Int),(0:Int))) fun bf=>bnd (fk bf) fun x8=>some x8
theorem cX {aZ:ap}{r:List Int}(h:bz aZ=some r):ar prog 143 [dG aq aZ] (dL (cI .i64) r):=by
 refine bn (rs:=[.tmp 2]) (fun cx hx h0=>?_) func143
 unfold bz at h
 refine rs hx fun K hK=>?_
 refine sa ?_
 refine s1 (d:=dO 1 (cI .i64) ([]:List Int)) (gz c8 dZ) ?_
 refine nl hK ?_
 refine rs hx fun K hK=>?_
 refine s1 (d:=dO 2 (cI .i64) ([]:List Int)) (gz c8 dZ) ?_
 refine nl hK ?_
 refine AW.seq (ra hx ?_)
 refine AW.block ?_
 obtain⟨bf,hy,h⟩:=ae h
 refine lp (S:=(List Int)×Int) (X:=(List Int)) (fun (aP,bq)=>[(1,.pt 0 0),(3,dO 1 (cI .i64) aP),(4,dI .i64 bq)]) (fun (aP,bq)=>⟨[(0,dC (aq.f aZ))],[(1,(aP).length,1,3)],2⟩) (PE cx (.exit 0) (fun bf=>[(3,dO 0 (cI .i64) bf)]) fun bf=>⟨[],[(0,(bf).length,1,3)],1⟩) hy ?_ ?_ ?_
 exact wk0 h0 [0,2]
 clear hy h
 rintro⟨aP,bq⟩ y h
 dsimp only[jr] at h
 refine AW.seq (ra hx ?_)
 refine cdh h rfl (fun f4 h=>?_) (fun f4 h=>?_)
 refine AW.skip (AW.seq (AW.block (rqd [] hx fun K hK=>?_)))
 iterate 3 refine sa ?_
 obtain⟨qU,h⟩:=aA h
 iterate 6 refine sbi ?_
 obtain⟨OQ,h⟩:=aA h
 iterate 4 refine sbi ?_
 refine s1 (Fs c8 dZ) ?_
 obtain⟨hc6,h⟩:=aA h
 refine s1 (d:=dO 1 (cI .i64) (aP++[i64.wrap (Int.tmod ((aZ.vW)[(bq).toNat]!) (65536:Int)),i64.wrap (u32.wrap (Int.tdiv ((aZ.vW)[(bq).toNat]!) (65536:Int)))])) (oP c8 dZ hc6) ?_
 refine nbi hK ?_
 refine rb hx ?_
 exact pel h h0 [0,1]
 exact AW.exit (per h h0 [1])
 refine lw0 ?_
 refine rs hx fun K hK=>?_
 refine sa ?_
 refine scb h kN fun x8 h=>?_
 refine nbi hK ?_
 exact AW.ret (rtv h)
def qm(aZ:ap):Option ap:=bnd (bk aZ) fun x1=>cnd (!x1) (bnd (fy) fun x4=>some x4) (bnd (bz aZ) fun x6=>bnd (cg false x6) fun x8=>some x8)
theorem JQ {aZ:ap}{r:ap}(h:qm aZ=some r):ar prog 167 [dG aq aZ] (dG aq r):=by
 refine bn (rs:=[.cell 2 41]) (fun cx hx h0=>?_) func167
 unfold qm at h
 refine rai hx ?_
 refine AW.seq (rs hx fun K hK=>?_)
 refine mbi ?_
 refine scb h cv fun x1 h=>?_
 refine nbi hK ?_
 refine cdh h rfl (fun fZ h=>?_) (fun fZ h=>?_)
 refine rs hx fun K hK=>?_
 refine scb h kG fun x4 h=>?_
 refine nbi hK ?_
 exact AW.ret (rtv h)
 refine AW.skip (rs hx fun K hK=>?_)
 refine mbi ?_
 refine scb h cX fun x6 h=>?_
 refine scb h eL fun x8 h=>?_
 refine nbi hK ?_
 exact AW.ret (rtv h)
def iH(eA:List Int)(vH:Int):Option Int:=cnd (decide (vH<(0:Int))) (some (0:Int)) (bnd (dM eA vH) fun x2=>some x2)
theorem uA {eA:List Int}{vH:Int}{r:Int}(h:iH eA vH=some r):ar prog 194 [dL (cI .i64) eA,dI .i64 vH] (dI .i64 r):=by
 refine bn (rs:=[.tmp 4]) (fun cx hx h0=>?_) func194
 unfold iH at h
 refine ra hx ?_
 refine AW.seq (ra hx ?_)
 refine cdh h rfl (fun f4 h=>?_) (fun f4 h=>?_)
 refine ra hx ?_
 exact AW.ret (rtv h)
 refine AW.skip (rs hx fun K hK=>?_)
 refine mbi ?_
 refine scb h f7 fun x2 h=>?_
 refine nbi hK ?_
 exact AW.ret (rtv h)
def jp(aK:List Int)(aQ:List Int)(aP:Int):Int×(List Int)→Option ((Int×(List Int))⊕((List Int))):=fun (im,tg)=>cnd (decide (im<((aQ).length:Int))) (gd (0≤i64.wrap (aP+im)∧i64.wrap (aP+im)<(((i64.wrap ((i64.wrap (((aK).length:Int)+((aQ).length:Int)))+(1:Int))).toNat:Nat):Int)∧i64.wrap (aP+im)<((tg).length:Int)) (gd (0≤aP∧aP<((aK).length:Int)) (gd (0≤im∧im<((aQ).length:Int)) (gd (0≤i64.wrap (aP+im)∧i64.wrap (aP+im)<(((i64.wrap ((i64.wrap (((aK).length:Int)+((aQ).length:Int)))+(1:Int))).toNat:Nat):Int)∧i64.wrap (aP+im)<((tg).length:Int)) (bnd (some ((tg).set ((i64.wrap (aP+im)).toNat) (i64.wrap (((tg)[(i64.wrap (aP+im)).toNat]!)+(i64.wrap (((aK)[(aP).toNat]!)*((aQ)[(im).toNat]!))))))) fun m9=>some (.inl (i64.wrap (im+(1:Int)),m9))))))) (some (.inr tg))
def gG(aK:List Int)(aQ:List Int):Int×Int×(List Int)→Option ((Int×Int×(List Int))⊕((List Int))):=fun (Lr,o6,uk)=>cnd (decide (o6<(((i64.wrap ((i64.wrap (((aK).length:Int)+((aQ).length:Int)))+(1:Int))).toNat:Nat):Int))) (gd (0≤o6∧o6<(((i64.wrap ((i64.wrap (((aK).length:Int)+((aQ).length:Int)))+(1:Int))).toNat:Nat):Int)∧o6<((uk).length:Int)) (bnd (some (i64.wrap (((uk)[(o6).toNat]!)+Lr))) fun sG=>gd (0≤o6∧o6<(((i64.wrap ((i64.wrap (((aK).length:Int)+((aQ).length:Int)))+(1:Int))).toNat:Nat):Int)∧o6<((uk).length:Int)) (some (.inl (i64.wrap (Int.tdiv sG (65536:Int)),i64.wrap (o6+(1:Int)),(uk).set ((o6).toNat) (Int.tmod sG (65536:Int))))))) (some (.inr uk))
def j4(aK:List Int)(aQ:List Int):Int×(List Int)→Option ((Int×(List Int))⊕((List Int))):=fun (aP,bq)=>cnd (decide (aP<((aK).length:Int))) (bnd (bo (jp aK aQ aP) ((0:Int),bq)) fun AM=>bnd (bo (gG aK aQ) ((0:Int),(0:Int),AM)) fun AJ=>some (.inl (i64.wrap (aP+(1:Int)),AJ))) (some (.inr bq))
def lE(aK:List Int)(aQ:List Int):Option (List Int):=gd (0≤i64.wrap ((i64.wrap (((aK).length:Int)+((aQ).length:Int)))+(1:Int))∧i64.wrap ((i64.wrap (((aK).length:Int)+((aQ).length:Int)))+(1:Int))≤1000000) (bnd (bo (j4 aK aQ) ((0:Int),List.replicate (i64.wrap ((i64.wrap (((aK).length:Int)+((aQ).length:Int)))+(1:Int))).toNat (0:Int))) fun bf=>gd ((i64.wrap ((i64.wrap (((aK).length:Int)+((aQ).length:Int)))+(1:Int))).toNat=(bf).length) (bnd (fk bf) fun Jw=>some Jw))
theorem yc {aK:List Int}{aQ:List Int}{r:List Int}(h:lE aK aQ=some r):ar prog 173 [dL (cI .i64) aK,dL (cI .i64) aQ] (dL (cI .i64) r):=by
 refine bn (rs:=[.tmp 4]) (fun cx hx h0=>?_) func173
 unfold lE at h
 refine rs hx fun K hK=>?_
 refine s1 (d:=dO 0 (cI .i64) ([]:List Int)) (gz c8 dZ) ?_
 refine nl hK ?_
 refine rs hx fun K hK=>?_
 iterate 6 refine sa ?_
 obtain⟨OR,h⟩:=aA h
 refine q1 (sMk (c:=(cI .i64)) (z0:=(0:Int)) tok OR c8 dZ (by first|rfl|kernel_rfl)) ?_
 refine nbi hK ?_
 refine AW.seq (ra hx ?_)
 refine AW.block ?_
 obtain⟨bf,hy,h⟩:=ae h
 refine lp (S:=Int×(List Int)) (X:=(List Int)) (fun (aP,bq)=>[(0,dL (cI .i64) aK),(1,dL (cI .i64) aQ),(5,.ow 0 0 1 ((i64.wrap ((i64.wrap (((aK).length:Int)+((aQ).length:Int)))+(1:Int))).toNat)),(6,dI .i64 aP)]) (fun (aP,bq)=>⟨[(0,dC ((cW (cI .i64)).f bq))],[],1⟩) (PE cx (.exit 0) (fun bf=>[(5,.ow 0 0 1 ((i64.wrap ((i64.wrap (((aK).length:Int)+((aQ).length:Int)))+(1:Int))).toNat))]) fun bf=>⟨[(0,dC ((cW (cI .i64)).f bf))],[],1⟩) hy ?_ ?_ ?_
 exact wk0 h0 [1]
 clear hy h
 rintro⟨aP,bq⟩ y h
 dsimp only[j4] at h
 refine AW.seq (ra hx ?_)
 refine cdh h rfl (fun CC h=>?_) (fun CC h=>?_)
 refine AW.skip (AW.seq (AW.block (AW.seq (ra hx ?_))))
 refine AW.block ?_
 obtain⟨AM,hy,h⟩:=ae h
 refine lp (S:=Int×(List Int)) (X:=(List Int)) (fun (im,tg)=>[(0,dL (cI .i64) aK),(1,dL (cI .i64) aQ),(5,.ow 0 0 1 ((i64.wrap ((i64.wrap (((aK).length:Int)+((aQ).length:Int)))+(1:Int))).toNat)),(6,dI .i64 aP),(7,dI .i64 im)]) (fun (im,tg)=>⟨[(0,dC ((cW (cI .i64)).f tg))],[],1⟩) (PE cx (.exit 2) (fun AM=>[(0,dL (cI .i64) aK),(1,dL (cI .i64) aQ),(5,.ow 0 0 1 ((i64.wrap ((i64.wrap (((aK).length:Int)+((aQ).length:Int)))+(1:Int))).toNat)),(6,dI .i64 aP)]) fun AM=>⟨[(0,dC ((cW (cI .i64)).f AM))],[],1⟩) hy ?_ ?_ ?_
 exact wk0 h0 [0]
 clear hy h
 rintro⟨im,tg⟩ y h
 dsimp only[jp] at h
 refine AW.seq (ra hx ?_)
 refine cdh h rfl (fun fZ h=>?_) (fun fZ h=>?_)
 refine AW.skip (AW.seq (AW.block (rqd [] hx fun K hK=>?_)))
 iterate 8 refine sa ?_
 obtain⟨OQ,h⟩:=aA h
 have hn5:(i64.wrap (aP+im)).toNat<(tg).length:=by omega
 refine s1 (xg ⟨OQ.1,OQ.2.1⟩ c8 dZ) ?_
 refine s1 (xf (bV.seqW (cI .i64) tg ((i64.wrap (aP+im)).toNat) hn5) dZ) ?_
 iterate 2 refine sa ?_
 obtain⟨hc6,h⟩:=aA h
 have hn7:(aP).toNat<(aK).length:=by omega
 refine sbi ?_
 refine s1 (yD (c:=(cI .i64)) (l:=aK) (n:=(aP).toNat) (o:=0) dZ hn7) ?_
 iterate 2 refine sa ?_
 obtain⟨hc8,h⟩:=aA h
 have hn9:(im).toNat<(aQ).length:=by omega
 refine sbi ?_
 refine s1 (yD (c:=(cI .i64)) (l:=aQ) (n:=(im).toNat) (o:=0) dZ hn9) ?_
 iterate 2 refine sa ?_
 obtain⟨MM,h⟩:=aA h
 have hn11:(i64.wrap (aP+im)).toNat<(tg).length:=by omega
 refine s1 (xg ⟨MM.1,MM.2.1⟩ c8 dZ) ?_
 obtain⟨m9,wI,h⟩:=ae h
 replace wI:=bw wI
 refine s0 (T_stVw (b':=i64.wrap (((tg)[(i64.wrap (aP+im)).toNat]!)+(i64.wrap (((aK)[(aP).toNat]!)*((aQ)[(im).toNat]!))))) (bV.seqW (cI .i64) tg ((i64.wrap (aP+im)).toNat) hn11) dZ wI) ?_
 refine nl hK ?_
 refine rb hx ?_
 exact pel h h0 [0]
 exact AW.exit (per h h0 [0])
 refine lw0 ?_
 iterate 2 refine ra hx ?_
 refine AW.block ?_
 obtain⟨AJ,hy,h⟩:=ae h
 refine lp (S:=Int×Int×(List Int)) (X:=(List Int)) (fun (Lr,o6,uk)=>[(0,dL (cI .i64) aK),(1,dL (cI .i64) aQ),(5,.ow 0 0 1 ((i64.wrap ((i64.wrap (((aK).length:Int)+((aQ).length:Int)))+(1:Int))).toNat)),(6,dI .i64 aP),(8,dI .i64 Lr),(9,dI .i64 o6)]) (fun (Lr,o6,uk)=>⟨[(0,dC ((cW (cI .i64)).f uk))],[],1⟩) (PE cx (.exit 4) (fun AJ=>[(0,dL (cI .i64) aK),(1,dL (cI .i64) aQ),(5,.ow 0 0 1 ((i64.wrap ((i64.wrap (((aK).length:Int)+((aQ).length:Int)))+(1:Int))).toNat)),(6,dI .i64 aP)]) fun AJ=>⟨[(0,dC ((cW (cI .i64)).f AJ))],[],1⟩) hy ?_ ?_ ?_
 exact wk0 h0 [0]
 clear hy h
 rintro⟨Lr,o6,uk⟩ y h
 dsimp only[gG] at h
 refine AW.seq (ra hx ?_)
 refine cdh h rfl (fun MQ h=>?_) (fun MQ h=>?_)
 refine AW.skip (AW.seq (AW.block (rs hx fun K hK=>?_)))
 iterate 2 refine sa ?_
 obtain⟨Qj,h⟩:=aA h
 have S1:(o6).toNat<(uk).length:=by omega
 refine s1 (xg ⟨Qj.1,Qj.2.1⟩ c8 dZ) ?_
 refine s1 (xf (bV.seqW (cI .i64) uk ((o6).toNat) S1) dZ) ?_
 iterate 2 refine sa ?_
 obtain⟨sG,Ee,h⟩:=ae h
 replace Ee:=bw Ee
 refine s2 (d2:=dI .i64 sG) kE (fq (congrArg (dI .i64) Ee)) ?_
 refine nl hK ?_
 refine rs hx fun K hK=>?_
 iterate 4 refine sa ?_
 obtain⟨hc20,h⟩:=aA h
 have hn21:(o6).toNat<(uk).length:=by omega
 refine s1 (xg ⟨hc20.1,hc20.2.1⟩ c8 dZ) ?_
 refine s0 (yC (b':=Int.tmod sG (65536:Int)) (bV.seqW (cI .i64) uk ((o6).toNat) hn21) dZ) ?_
 refine nl hK ?_
 iterate 2 refine rb hx ?_
 exact pel h h0 [0]
 exact AW.exit (per h h0 [0])
 refine lw0 ?_
 refine rb hx ?_
 exact pel h h0 [0]
 exact AW.exit (per h h0 [0])
 refine lw0 ?_
 refine rs hx fun K hK=>?_
 refine sa ?_
 obtain⟨hc24,h⟩:=aA h
 refine fzO (cI .i64) (n:=(i64.wrap ((i64.wrap (((aK).length:Int)+((aQ).length:Int)))+(1:Int))).toNat) 0 [5,70] hc24 ?_ (all2 rfl (all1 rfl))
 refine scb h kN fun Jw h=>?_
 refine nbi hK ?_
 exact AW.ret (rtv h)
def ls(aK:List Int)(aQ:List Int):Int→Option (Int⊕(Bool⊕Unit)):=fun aD=>cnd (decide ((0:Int)≤aD)) (bnd (dM aK aD) fun x4=>bnd (dM aQ aD) fun x6=>cnd (decide (x4≠x6)) (bnd (dM aK aD) fun x9=>bnd (dM aQ aD) fun sL=>some (.inr (.inl (decide (x9<sL))))) (some (.inl (i64.wrap (aD - (1:Int)))))) (some (.inr (.inr ())))
def mF(aK:List Int)(aQ:List Int):Option Bool:=bnd (some (i64.wrap ((max ((aK).length:Int) ((aQ).length:Int)) - (1:Int)))) fun x1=>bnd (bo (ls aK aQ) x1) fun y13=>match y13 with| .inl r=>some r| .inr ()=>some false
theorem zO {aK:List Int}{aQ:List Int}{r:Bool}(h:mF aK aQ=some r):ar prog 170 [dL (cI .i64) aK,dL (cI .i64) aQ] (dB r):=by
 refine bn (rs:=[.tmp 4]) (fun cx hx h0=>?_) func170
 unfold mF at h
 refine ra hx ?_
 refine AW.seq (rs hx fun K hK=>?_)
 iterate 6 refine sa ?_
 obtain⟨x1,xx,h⟩:=ae h
 replace xx:=bw xx
 refine s2 (d2:=dI .i64 x1) kE (fq (congrArg (dI .i64) xx)) ?_
 refine nl hK ?_
 refine AW.block ?_
 obtain⟨y,hy,h⟩:=ae h
 refine lp (S:=Int) (X:=Bool⊕Unit) (fun aD=>[(0,dL (cI .i64) aK),(1,dL (cI .i64) aQ),(5,dI .i64 aD)]) (fun aD=>⟨[],[],0⟩) (PS (PR [.tmp 4] fun r=>dB r) (PE cx (.exit 0) (fun ()=>[]) fun ()=>⟨[],[],0⟩)) hy ?_ ?_ ?_
 exact wk0 h0 []
 clear hy h
 rintro aD y h
 dsimp only[ls] at h
 refine AW.seq (ra hx ?_)
 refine cdh h rfl (fun fZ h=>?_) (fun fZ h=>?_)
 refine AW.skip (AW.seq (AW.block (rs hx fun K hK=>?_)))
 refine mbi ?_
 refine scb h f7 fun x4 h=>?_
 refine mbi ?_
 refine scb h f7 fun x6 h=>?_
 refine nbi hK ?_
 refine cdh h rfl (fun t7 h=>?_) (fun t7 h=>?_)
 refine rs hx fun K hK=>?_
 refine mbi ?_
 refine scb h f7 fun x9 h=>?_
 refine mbi ?_
 refine scb h f7 fun sL h=>?_
 refine nbi hK ?_
 refine AW.ret ?_
 cases h
 refine PS.r ⟨by nofun,PS.l (PR.i ?_)⟩
 exact rv1
 refine AW.skip (rb hx ?_)
 exact pel h h0 []
 exact AW.exit (peq h h0 [])
 rcases y with r|⟨⟩
 rintro ex tm' hp' ⟨rfl,hw⟩
 cases h
 exact hw
 refine lwr ?_
 refine ra hx ?_
 exact AW.ret (rtv h)
def jq(aK:List Int)(aQ:List Int):(List Int)×Int×Int→Option (((List Int)×Int×Int)⊕((List Int))):=fun (dH,bP,ey)=>cnd (decide (ey<((aK).length:Int))) (gd (0≤ey∧ey<((aK).length:Int)) (bnd (dM aQ ey) fun x4=>bnd (some (i64.wrap ((i64.wrap (((aK)[(ey).toNat]!) - x4)) - bP))) fun x6=>bnd (S:=Int×Int) (cnd (decide (x6<(0:Int))) (some (((1:Int),i64.wrap (x6+(65536:Int))))) (some (((0:Int),x6)))) fun (kB,qP)=>gd ((dH++[qP]).length*8≤140737488355328) (some (.inl (dH++[qP],kB,i64.wrap (ey+(1:Int))))))) (some (.inr dH))
def ij(aK:List Int)(aQ:List Int):Option (List Int):=bnd (bo (jq aK aQ) (([]:List Int),(0:Int),(0:Int))) fun cl=>bnd (fk cl) fun m9=>some m9
theorem pK {aK:List Int}{aQ:List Int}{r:List Int}(h:ij aK aQ=some r):ar prog 171 [dL (cI .i64) aK,dL (cI .i64) aQ] (dL (cI .i64) r):=by
 refine bn (rs:=[.tmp 4]) (fun cx hx h0=>?_) func171
 unfold ij at h
 refine rs hx fun K hK=>?_
 refine s1 (d:=dO 0 (cI .i64) ([]:List Int)) (gz c8 dZ) ?_
 refine nl hK ?_
 refine rs hx fun K hK=>?_
 refine s1 (d:=dO 1 (cI .i64) ([]:List Int)) (gz c8 dZ) ?_
 refine nl hK ?_
 refine ra hx ?_
 refine AW.seq (ra hx ?_)
 refine AW.block ?_
 obtain⟨cl,hy,h⟩:=ae h
 refine lp (S:=(List Int)×Int×Int) (X:=(List Int)) (fun (dH,bP,ey)=>[(0,dL (cI .i64) aK),(1,dL (cI .i64) aQ),(5,dO 0 (cI .i64) dH),(6,dI .i64 bP),(7,dI .i64 ey)]) (fun (dH,bP,ey)=>⟨[],[(0,(dH).length,1,3)],1⟩) (PE cx (.exit 0) (fun cl=>[(5,dO 0 (cI .i64) cl)]) fun cl=>⟨[],[(0,(cl).length,1,3)],1⟩) hy ?_ ?_ ?_
 exact wk0 h0 [1]
 clear hy h
 rintro⟨dH,bP,ey⟩ y h
 dsimp only[jq] at h
 refine AW.seq (ra hx ?_)
 refine cdh h rfl (fun f4 h=>?_) (fun f4 h=>?_)
 refine AW.skip (AW.seq (AW.block (rsd [176] hx fun K hK=>?_)))
 iterate 2 refine sa ?_
 obtain⟨qU,h⟩:=aA h
 have xT:(ey).toNat<(aK).length:=by omega
 refine sbi ?_
 refine s1 (yD (c:=(cI .i64)) (l:=aK) (n:=(ey).toNat) (o:=0) dZ xT) ?_
 refine mbi ?_
 refine cqb h f7 fun x4 h=>?_
 iterate 3 refine sa ?_
 obtain⟨x6,v7,h⟩:=ae h
 replace v7:=bw v7
 refine s2 (d2:=dI .i64 x6) kE (fq (congrArg (dI .i64) v7)) ?_
 refine nl hK ?_
 refine ra hx ?_
 refine AW.seq ?_
 obtain⟨y,hy,h⟩:=ae h
 refine jn ((PE cx .normal (fun (kB,qP)=>[(0,dL (cI .i64) aK),(1,dL (cI .i64) aQ),(5,dO 0 (cI .i64) dH),(6,dI .i64 kB),(7,dI .i64 ey),(8,dI .i64 qP)]) fun (kB,qP)=>⟨[],[(0,(dH).length,1,3)],1⟩) y) ?_ ?_
 replace h:=hy
 refine ra hx ?_
 refine cdh h rfl (fun t7 h=>?_) (fun t7 h=>?_)
 refine ra hx ?_
 refine rb hx ?_
 exact pe1 h h0 [0]
 exact AW.skip (pe1 h h0 [0])
 obtain⟨kB,qP⟩:=y
 refine lw0 ?_
 refine rq hx fun K hK=>?_
 iterate 2 refine sa ?_
 refine s1 (d:=dO 1 (cI .i64) [qP]) (kD c8 dZ) ?_
 obtain⟨MM,h⟩:=aA h
 refine s1 (d:=dO 0 (cI .i64) (dH++[qP])) (oP c8 dZ MM) ?_
 refine nbi hK ?_
 refine rb hx ?_
 exact pel h h0 [0]
 exact AW.exit (per h h0 [0])
 refine lw0 ?_
 refine rs hx fun K hK=>?_
 refine sa ?_
 refine scb h kN fun m9 h=>?_
 refine nbi hK ?_
 exact AW.ret (rtv h)
def iE(aQ:List Int)(pX:List Int):Int×(List Int)→Option ((Int×(List Int))⊕(Int×(List Int))):=fun (ul,Fj)=>bnd (mF pX Fj) fun AU=>cnd AU (bnd (ij Fj aQ) fun Re=>some (.inl (i64.wrap (ul - (1:Int)),Re))) (some (.inr (ul,Fj)))
def iF(aK:List Int)(aQ:List Int)(x6:Int):(List Int)×Int×(List Int)→Option (((List Int)×Int×(List Int))⊕((List Int)×(List Int))):=fun (gN,mS,xe)=>cnd (decide ((0:Int)≤mS)) (gd (0≤mS∧mS<((aK).length:Int)) (gd (([(aK)[(mS).toNat]!]++gN).length*8≤140737488355328) (bnd (fk ([(aK)[(mS).toNat]!]++gN)) fun pX=>bnd (iH pX ((aQ).length:Int)) fun AV=>bnd (iH pX (i64.wrap (((aQ).length:Int) - (1:Int)))) fun sG=>bnd (iH pX (i64.wrap (((aQ).length:Int) - (2:Int)))) fun FY=>gd (x6≠0) (bnd (some (min (65535:Int) (i64.wrap (Int.tdiv (i64.wrap ((i64.wrap ((i64.wrap (AV*(4294967296:Int)))+(i64.wrap (sG*(65536:Int)))))+FY)) x6)))) fun xY=>bnd (lE aQ [xY]) fun Jw=>bnd (bo (iE aQ pX) (xY,Jw)) fun (xJ,AL)=>gd (0≤mS∧mS<(((((aK).length:Int)).toNat:Nat):Int)∧mS<((xe).length:Int)) (bnd (ij pX AL) fun th=>some (.inl (th,i64.wrap (mS - (1:Int)),(xe).set ((mS).toNat) xJ))))))) (some (.inr (gN,xe)))
def iG(aK:List Int)(aQ:List Int):Option ((List Int)×(List Int)):=gd (0≤((aK).length:Int)∧((aK).length:Int)≤1000000) (gd (0≤i64.wrap (((aQ).length:Int) - (1:Int))∧i64.wrap (((aQ).length:Int) - (1:Int))<((aQ).length:Int)) (bnd (iH aQ (i64.wrap (((aQ).length:Int) - (2:Int)))) fun x4=>bnd (some (i64.wrap ((i64.wrap (((aQ)[(i64.wrap (((aQ).length:Int) - (1:Int))).toNat]!)*(65536:Int)))+x4))) fun x6=>bnd (some (i64.wrap (((aK).length:Int) - (1:Int)))) fun x8=>bnd (bo (iF aK aQ x6) (([]:List Int),x8,List.replicate (((aK).length:Int)).toNat (0:Int))) fun (AN,xK)=>gd ((((aK).length:Int)).toNat=(xK).length) (bnd (fk xK) fun LI=>some (LI,AN))))
theorem ws {aK:List Int}{aQ:List Int}{r:(List Int)×(List Int)}(h:iG aK aQ=some r):ar prog 168 [dL (cI .i64) aK,dL (cI .i64) aQ] (.tu [dL (cI .i64) r.1,dL (cI .i64) r.2]):=by
 refine bn (rs:=[.tmp 4,.tmp 5]) (fun cx hx h0=>?_) func168
 unfold iG at h
 refine rs hx fun K hK=>?_
 refine s1 (d:=dO 0 (cI .i64) ([]:List Int)) (gz c8 dZ) ?_
 refine s1 (d:=dO 1 (cI .i64) ([]:List Int)) (gz c8 dZ) ?_
 refine nl hK ?_
 refine rs hx fun K hK=>?_
 iterate 2 refine sa ?_
 obtain⟨OR,h⟩:=aA h
 refine q1 (sMk (c:=(cI .i64)) (z0:=(0:Int)) tok OR c8 dZ (by first|rfl|kernel_rfl)) ?_
 refine nbi hK ?_
 refine ra hx ?_
 refine rsd [194] hx fun K hK=>?_
 iterate 3 refine sa ?_
 obtain⟨qU,h⟩:=aA h
 have xT:(i64.wrap (((aQ).length:Int) - (1:Int))).toNat<(aQ).length:=by omega
 refine sbi ?_
 refine s1 (yD (c:=(cI .i64)) (l:=aQ) (n:=(i64.wrap (((aQ).length:Int) - (1:Int))).toNat) (o:=0) dZ xT) ?_
 refine mbi ?_
 refine cqb h uA fun x4 h=>?_
 refine sa ?_
 obtain⟨x6,v7,h⟩:=ae h
 replace v7:=bw v7
 refine s2 (d2:=dI .i64 x6) kE (fq (congrArg (dI .i64) v7)) ?_
 refine nl hK ?_
 refine rs hx fun K hK=>?_
 refine s1 (d:=dO 3 (cI .i64) ([]:List Int)) (gz c8 dZ) ?_
 refine nl hK ?_
 refine AW.seq (rs hx fun K hK=>?_)
 iterate 3 refine sa ?_
 obtain⟨x8,QW,h⟩:=ae h
 replace QW:=bw QW
 refine s2 (d2:=dI .i64 x8) kE (fq (congrArg (dI .i64) QW)) ?_
 refine nl hK ?_
 refine AW.block ?_
 obtain⟨y,hy,h⟩:=ae h
 refine lp (S:=(List Int)×Int×(List Int)) (X:=(List Int)×(List Int)) (fun (gN,mS,xe)=>[(0,dL (cI .i64) aK),(1,dL (cI .i64) aQ),(6,.ow 0 0 1 ((((aK).length:Int)).toNat)),(7,dI .i64 ((aQ).length:Int)),(8,dI .i64 x6),(9,dL (cI .i64) gN),(10,dI .i64 mS)]) (fun (gN,mS,xe)=>⟨[(0,dC ((cW (cI .i64)).f xe))],[],1⟩) (PE cx (.exit 0) (fun (AN,xK)=>[(6,.ow 0 0 1 ((((aK).length:Int)).toNat)),(9,dL (cI .i64) AN)]) fun (AN,xK)=>⟨[(0,dC ((cW (cI .i64)).f xK))],[],1⟩) hy ?_ ?_ ?_
 exact wk h0 [2] (wR rfl (wR rfl (wR rfl (wR rfl (wR rfl (wT rfl (Sp _) rfl rfl (wR rfl wTn))))))) (vC rfl wVn) wLn
 clear hy h
 rintro⟨gN,mS,xe⟩ y h
 dsimp only[iF] at h
 refine AW.seq (ra hx ?_)
 refine cdh h rfl (fun nG h=>?_) (fun nG h=>?_)
 refine AW.skip (AW.seq (AW.block (rs hx fun K hK=>?_)))
 iterate 2 refine sa ?_
 obtain⟨Tg,h⟩:=aA h
 have hn12:(mS).toNat<(aK).length:=by omega
 refine sbi ?_
 refine s1 (yD (c:=(cI .i64)) (l:=aK) (n:=(mS).toNat) (o:=0) dZ hn12) ?_
 refine s1 (d:=dO 1 (cI .i64) [(aK)[(mS).toNat]!]) (kD c8 dZ) ?_
 refine sa ?_
 obtain⟨hc13,h⟩:=aA h
 refine s1 (d:=dO 1 (cI .i64) ([(aK)[(mS).toNat]!]++gN)) (oP c8 dZ hc13) ?_
 refine scb h kN fun pX h=>?_
 refine nbi hK ?_
 refine rs hx fun K hK=>?_
 refine mbi ?_
 refine scb h uA fun AV h=>?_
 refine mbi ?_
 refine scb h uA fun sG h=>?_
 refine mbi ?_
 refine scb h uA fun FY h=>?_
 iterate 2 refine sa ?_
 obtain⟨ML,h⟩:=aA h
 refine s1 (HA ML) ?_
 refine sa ?_
 obtain⟨xY,hx24,h⟩:=ae h
 replace hx24:=bw hx24
 refine s2 (d2:=dI .i64 xY) kE (fq (congrArg (dI .i64) hx24)) ?_
 refine nl hK ?_
 refine rs hx fun K hK=>?_
 iterate 2 refine sa ?_
 refine s1 (d:=dO 2 (cI .i64) [xY]) (kD c8 dZ) ?_
 refine scb h yc fun Jw h=>?_
 refine nbi hK ?_
 refine AW.seq (AW.block ?_)
 obtain⟨y,hy,h⟩:=ae h
 refine lp (S:=Int×(List Int)) (X:=Int×(List Int)) (fun (ul,Fj)=>[(0,dL (cI .i64) aK),(1,dL (cI .i64) aQ),(6,.ow 0 0 1 ((((aK).length:Int)).toNat)),(7,dI .i64 ((aQ).length:Int)),(8,dI .i64 x6),(9,dL (cI .i64) pX),(10,dI .i64 mS),(11,dI .i64 ul),(12,dL (cI .i64) Fj)]) (fun (ul,Fj)=>⟨[(0,dC ((cW (cI .i64)).f xe))],[],1⟩) (PE cx (.exit 2) (fun (xJ,AL)=>[(0,dL (cI .i64) aK),(1,dL (cI .i64) aQ),(6,.ow 0 0 1 ((((aK).length:Int)).toNat)),(7,dI .i64 ((aQ).length:Int)),(8,dI .i64 x6),(9,dL (cI .i64) pX),(10,dI .i64 mS),(11,dI .i64 xJ),(12,dL (cI .i64) AL)]) fun (xJ,AL)=>⟨[(0,dC ((cW (cI .i64)).f xe))],[],1⟩) hy ?_ ?_ ?_
 exact wk0 h0 [0]
 clear hy h
 rintro⟨ul,Fj⟩ y h
 dsimp only[iE] at h
 refine AW.seq (rs hx fun K hK=>?_)
 refine mbi ?_
 refine scb h zO fun AU h=>?_
 refine nl hK ?_
 refine cdh h rfl (fun hb29 h=>?_) (fun hb29 h=>?_)
 refine AW.skip (AW.block (ra hx ?_))
 refine rq hx fun K hK=>?_
 refine mbi ?_
 refine scb h pK fun Re h=>?_
 refine nbi hK ?_
 exact pel h h0 [0]
 exact AW.exit (per h h0 [0])
 obtain⟨xJ,AL⟩:=y
 refine lw0 ?_
 refine rs hx fun K hK=>?_
 iterate 3 refine sa ?_
 obtain⟨hc33,h⟩:=aA h
 have hn34:(mS).toNat<(xe).length:=by omega
 refine s1 (xg ⟨hc33.1,hc33.2.1⟩ c8 dZ) ?_
 refine s0 (yC (b':=xJ) (bV.seqW (cI .i64) xe ((mS).toNat) hn34) dZ) ?_
 refine nl hK ?_
 refine rq hx fun K hK=>?_
 refine mbi ?_
 refine scb h pK fun th h=>?_
 refine nbi hK ?_
 refine rb hx ?_
 exact pel h h0 [0]
 exact AW.exit (per h h0 [0])
 obtain⟨AN,xK⟩:=y
 refine lw0 ?_
 refine rs hx fun K hK=>?_
 refine sa ?_
 obtain⟨hc38,h⟩:=aA h
 refine fzO (cI .i64) (n:=(((aK).length:Int)).toNat) 0 [6,81] hc38 ?_ (all2 rfl (all1 rfl))
 refine scb h kN fun LI h=>?_
 refine nbi hK ?_
 refine AW.ret ?_
 cases h
 exact rv2
def ja :Int×Int→Option ((Int×Int)⊕Int):=fun (ur,CO)=>cnd (decide (CO≠(0:Int))) (gd (CO≠0) (some (.inl (CO,Int.tmod ur CO)))) (some (.inr ur))
def i9 :(List Int)×(List Int)→Option (((List Int)×(List Int))⊕((List Int))):=fun (Ht,Ff)=>cnd (decide ((0:Int)<((Ff).length:Int))) (bnd (iG Ht Ff) fun CR=>some (.inl (Ff,CR.2))) (some (.inr Ht))
def mm(aK:ap)(aQ:ap):Option ap:=bnd (eQ aK) fun x1=>bnd (eQ aQ) fun x3=>bnd (S:=Bool) (cnd x1.2 (some (x3.2)) (some (false))) fun aP=>cnd aP (bnd (bo (ja) (x1.1,x3.1)) fun AO=>bnd (eR AO) fun sL=>bnd (qm sL) fun qw=>some qw) (bnd (S:=Bool) (bnd (bk aK) fun JD=>cnd (!JD) (some (true)) (bnd (bk aQ) fun sG=>some (!sG))) fun ul=>cnd ul (bnd (fy) fun CS=>some CS) (bnd (bz aK) fun zF=>bnd (bz aQ) fun x26=>bnd (bo (i9) (zF,x26)) fun AH=>bnd (cg false AH) fun x32=>some x32))
theorem wt {aK:ap}{aQ:ap}{r:ap}(h:mm aK aQ=some r):ar prog 127 [dG aq aK,dG aq aQ] (dG aq r):=by
 refine bn (rs:=[.cell 4 41]) (fun cx hx h0=>?_) func127
 unfold mm at h
 refine rai hx ?_
 refine rs hx fun K hK=>?_
 refine mbi ?_
 refine scb h jd fun x1 h=>?_
 refine nbi hK ?_
 refine rs hx fun K hK=>?_
 refine mbi ?_
 refine scb h jd fun x3 h=>?_
 refine nbi hK ?_
 iterate 2 refine AW.seq ?_
 obtain⟨aP,hy,h⟩:=ae h
 refine jn ((PE cx .normal (fun aP=>[(2,.pt 0 0),(3,.pt 1 0),(4,.pt 2 0),(5,dI .i64 x1.1),(7,dI .i64 x3.1),(27,dB aP)]) fun aP=>⟨[(0,dC (aq.f aK)),(1,dC (aq.f aQ)),(2,dC (aq.f ci))],[],3⟩) aP) ?_ ?_
 replace h:=hy
 refine rq hx fun K hK=>?_
 refine mbi ?_
 rcases aF h with⟨rW,h⟩|⟨rW,h⟩
 refine nbi hK ?_
 exact pe1 h h0 [0,1,2]
 refine nbi hK ?_
 exact pe1 h h0 [0,1,2]
 refine lw0 ?_
 refine cdh h rfl (fun t8 h=>?_) (fun t8 h=>?_)
 refine AW.seq (AW.block ?_)
 obtain⟨AO,hy,h⟩:=ae h
 refine lp (S:=Int×Int) (X:=Int) (fun (ur,CO)=>[(4,.pt 0 0),(5,dI .i64 ur),(7,dI .i64 CO)]) (fun (ur,CO)=>⟨[(0,dC (aq.f ci))],[],1⟩) (PE cx (.exit 0) (fun AO=>[(4,.pt 0 0),(5,dI .i64 AO)]) fun AO=>⟨[(0,dC (aq.f ci))],[],1⟩) hy ?_ ?_ ?_
 exact wk0 h0 [2]
 clear hy h
 rintro⟨ur,CO⟩ y h
 dsimp only[ja] at h
 refine AW.seq (ra hx ?_)
 refine cdh h rfl (fun t7 h=>?_) (fun t7 h=>?_)
 refine AW.skip (AW.block (rs hx fun K hK=>?_))
 iterate 2 refine sa ?_
 obtain⟨hc9,h⟩:=aA h
 refine s1 (Fo hc9) ?_
 refine nbi hK ?_
 refine ra hx ?_
 refine rb hx ?_
 exact pel h h0 [0]
 exact AW.exit (per h h0 [0])
 refine lw0 ?_
 refine rs hx fun K hK=>?_
 refine sa ?_
 refine scb h iu fun sL h=>?_
 refine scb h JQ fun qw h=>?_
 refine nbi hK ?_
 exact AW.ret (rtv h)
 refine AW.skip ?_
 iterate 2 refine AW.seq ?_
 obtain⟨ul,hy,h⟩:=ae h
 refine jn ((PE cx .normal (fun ul=>[(2,.pt 0 0),(3,.pt 1 0),(4,.pt 2 0),(45,dB ul)]) fun ul=>⟨[(0,dC (aq.f aK)),(1,dC (aq.f aQ)),(2,dC (aq.f ci))],[],3⟩) ul) ?_ ?_
 replace h:=hy
 refine rq hx fun K hK=>?_
 refine mbi ?_
 refine scb h cv fun JD h=>?_
 refine mbi ?_
 rcases aF h with⟨Ix,h⟩|⟨Ix,h⟩
 refine nbi hK ?_
 exact pe1 h h0 [0,1,2]
 refine gbi ?_
 refine gcb h cv fun sG h=>?_
 refine nbi hK ?_
 exact pe1 h h0 [0,1,2]
 refine lw0 ?_
 refine cdh h rfl (fun BH h=>?_) (fun BH h=>?_)
 refine rs hx fun K hK=>?_
 refine scb h kG fun CS h=>?_
 refine nbi hK ?_
 exact AW.ret (rtv h)
 refine AW.skip (rs hx fun K hK=>?_)
 refine mbi ?_
 refine scb h cX fun zF h=>?_
 refine nbi hK ?_
 refine rs hx fun K hK=>?_
 refine mbi ?_
 refine scb h cX fun x26 h=>?_
 refine nbi hK ?_
 refine AW.seq (AW.block ?_)
 obtain⟨AH,hy,h⟩:=ae h
 refine lp (S:=(List Int)×(List Int)) (X:=(List Int)) (fun (Ht,Ff)=>[(4,.pt 0 0),(10,dL (cI .i64) Ht),(11,dL (cI .i64) Ff)]) (fun (Ht,Ff)=>⟨[(0,dC (aq.f ci))],[],1⟩) (PE cx (.exit 2) (fun AH=>[(4,.pt 0 0),(10,dL (cI .i64) AH)]) fun AH=>⟨[(0,dC (aq.f ci))],[],1⟩) hy ?_ ?_ ?_
 exact wk0 h0 [2]
 clear hy h
 rintro⟨Ht,Ff⟩ y h
 dsimp only[i9] at h
 refine AW.seq (ra hx ?_)
 refine cdh h rfl (fun hb28 h=>?_) (fun hb28 h=>?_)
 refine AW.skip (AW.block (rs hx fun K hK=>?_))
 refine mbi ?_
 refine scb h ws fun CR h=>?_
 refine nbi hK ?_
 refine ra hx ?_
 refine rb hx ?_
 exact pel h h0 [0]
 exact AW.exit (per h h0 [0])
 refine lw0 ?_
 refine rs hx fun K hK=>?_
 refine sa ?_
 refine scb h eL fun x32 h=>?_
 refine nbi hK ?_
 exact AW.ret (rtv h)
def nk(cU:Int)(p_m:Int):Option Int:=gd (p_m≠0) (bnd (S:=Int) (bnd (S:=Bool) (gd (p_m≠0) (cnd (decide ((Int.tmod cU p_m)≠(0:Int))) (some (!((decide (cU<(0:Int))) == (decide (p_m<(0:Int)))))) (some (false)))) fun aD=>cnd aD (bnd (some (i64.wrap ((i64.wrap (Int.tdiv cU p_m)) - (1:Int)))) fun x6=>some (x6)) (some (i64.wrap (Int.tdiv cU p_m)))) fun jx=>some jx)
theorem Gb {cU:Int}{p_m:Int}{r:Int}(h:nk cU p_m=some r):ar prog 169 [dI .i64 cU,dI .i64 p_m] (dI .i64 r):=by
 refine bn (rs:=[.tmp 4]) (fun cx hx h0=>?_) func169
 unfold nk at h
 refine ra hx ?_
 refine rs hx fun K hK=>?_
 iterate 2 refine sa ?_
 obtain⟨OR,h⟩:=aA h
 refine s1 (HA OR) ?_
 refine nbi hK ?_
 refine AW.seq ?_
 obtain⟨jx,hy,h⟩:=ae h
 refine jn ((PE cx .normal (fun jx=>[(5,dI .i64 jx)]) fun jx=>⟨[],[],0⟩) jx) ?_ ?_
 replace h:=hy
 refine AW.seq ?_
 obtain⟨aD,hy,h⟩:=ae h
 refine jn ((PE cx .normal (fun aD=>[(5,dI .i64 (i64.wrap (Int.tdiv cU p_m))),(19,dB aD)]) fun aD=>⟨[],[],0⟩) aD) ?_ ?_
 replace h:=hy
 refine rq hx fun K hK=>?_
 iterate 2 refine sa ?_
 obtain⟨qU,h⟩:=aA h
 refine s1 (Fo qU) ?_
 refine mbi ?_
 rcases aF h with⟨fZ,h⟩|⟨fZ,h⟩
 refine nbi hK ?_
 exact pe1 h h0 []
 refine nbi hK ?_
 exact pe1 h h0 []
 refine lw0 ?_
 refine cdh h rfl (fun rW h=>?_) (fun rW h=>?_)
 refine rq hx fun K hK=>?_
 iterate 2 refine sa ?_
 obtain⟨x6,v7,h⟩:=ae h
 replace v7:=bw v7
 refine s2 (d2:=dI .i64 x6) kE (fq (congrArg (dI .i64) v7)) ?_
 refine nl hK ?_
 exact pe1 h h0 []
 exact AW.skip (pe1 h h0 [])
 refine lw0 ?_
 refine ra hx ?_
 exact AW.ret (rtv h)
def kI(aK:ap)(aQ:ap):Option ap:=bnd (eQ aK) fun x1=>bnd (eQ aQ) fun x3=>bnd (S:=Bool) (cnd x1.2 (cnd x3.2 (some (decide (x3.1≠(0:Int)))) (some (false))) (some (false))) fun aP=>cnd aP (bnd (nk x1.1 x3.1) fun x9=>bnd (eR x9) fun sL=>some sL) (bnd (S:=Bool) (bnd (bk aK) fun qw=>cnd (!qw) (some (true)) (bnd (bk aQ) fun AV=>cnd (!AV) (some (true)) (bnd (bz aQ) fun tL=>some (decide (((tL).length:Int)=(0:Int)))))) fun aT=>cnd aT (bnd (fy) fun xY=>some xY) (bnd (bz aK) fun Jw=>bnd (bz aQ) fun AU=>bnd (iG Jw AU) fun CR=>bnd (S:=(List Int)) (bnd (S:=Bool) (cnd (!(aK.vNeg == aQ.vNeg)) (some (decide ((0:Int)<((CR.2).length:Int)))) (some (false))) fun um=>cnd um (bnd (kT CR.1 [(1:Int)]) fun x34=>some (x34)) (some (CR.1))) fun sw=>bnd (cg (!(aK.vNeg == aQ.vNeg)) sw) fun xO=>some xO))
theorem sP {aK:ap}{aQ:ap}{r:ap}(h:kI aK aQ=some r):ar prog 128 [dG aq aK,dG aq aQ] (dG aq r):=by
 refine bn (rs:=[.cell 4 41]) (fun cx hx h0=>?_) func128
 unfold kI at h
 refine rai hx ?_
 refine rs hx fun K hK=>?_
 refine mbi ?_
 refine scb h jd fun x1 h=>?_
 refine nbi hK ?_
 refine rs hx fun K hK=>?_
 refine mbi ?_
 refine scb h jd fun x3 h=>?_
 refine nbi hK ?_
 iterate 2 refine AW.seq ?_
 obtain⟨aP,hy,h⟩:=ae h
 refine jn ((PE cx .normal (fun aP=>[(2,.pt 0 0),(3,.pt 1 0),(4,.pt 2 0),(5,dI .i64 x1.1),(7,dI .i64 x3.1),(28,dB aP)]) fun aP=>⟨[(0,dC (aq.f aK)),(1,dC (aq.f aQ)),(2,dC (aq.f ci))],[],3⟩) aP) ?_ ?_
 replace h:=hy
 refine rq hx fun K hK=>?_
 refine mbi ?_
 rcases aF h with⟨rW,h⟩|⟨rW,h⟩
 refine mbi ?_
 rcases aF h with⟨rp,h⟩|⟨rp,h⟩
 refine nbi hK ?_
 exact pe1 h h0 [0,1,2]
 refine nbi hK ?_
 exact pe1 h h0 [0,1,2]
 refine nbi hK ?_
 exact pe1 h h0 [0,1,2]
 refine lw0 ?_
 refine cdh h rfl (fun t7 h=>?_) (fun t7 h=>?_)
 refine rs hx fun K hK=>?_
 refine mbi ?_
 refine scb h Gb fun x9 h=>?_
 refine scb h iu fun sL h=>?_
 refine nbi hK ?_
 exact AW.ret (rtv h)
 refine AW.skip ?_
 iterate 2 refine AW.seq ?_
 obtain⟨aT,hy,h⟩:=ae h
 refine jn ((PE cx .normal (fun aT=>[(2,.pt 0 0),(3,.pt 1 0),(4,.pt 2 0),(46,dB aT)]) fun aT=>⟨[(0,dC (aq.f aK)),(1,dC (aq.f aQ)),(2,dC (aq.f ci))],[],3⟩) aT) ?_ ?_
 replace h:=hy
 refine rq hx fun K hK=>?_
 refine mbi ?_
 refine scb h cv fun qw h=>?_
 refine mbi ?_
 rcases aF h with⟨MQ,h⟩|⟨MQ,h⟩
 refine nbi hK ?_
 exact pe1 h h0 [0,1,2]
 refine gbi ?_
 refine gcb h cv fun AV h=>?_
 refine mbi ?_
 rcases aF h with⟨MP,h⟩|⟨MP,h⟩
 refine nbi hK ?_
 exact pe1 h h0 [0,1,2]
 refine gbi ?_
 refine gcb h cX fun tL h=>?_
 refine nbi hK ?_
 exact pe1 h h0 [0,1,2]
 refine lw0 ?_
 refine cdh h rfl (fun hb22 h=>?_) (fun hb22 h=>?_)
 refine rs hx fun K hK=>?_
 refine scb h kG fun xY h=>?_
 refine nbi hK ?_
 exact AW.ret (rtv h)
 refine AW.skip (rsd [143,168] hx fun K hK=>?_)
 refine mbi ?_
 refine cqb h cX fun Jw h=>?_
 refine mbi ?_
 refine cqb h cX fun AU h=>?_
 refine cqb h ws fun CR h=>?_
 refine nbi hK ?_
 refine AW.seq ?_
 obtain⟨sw,hy,h⟩:=ae h
 refine jn ((PE cx .normal (fun sw=>[(2,.pt 0 0),(3,.pt 1 0),(4,.pt 2 0),(9,dL (cI .i64) sw)]) fun sw=>⟨[(0,dC (aq.f aK)),(1,dC (aq.f aQ)),(2,dC (aq.f ci))],[],3⟩) sw) ?_ ?_
 replace h:=hy
 refine AW.seq ?_
 obtain⟨um,hy,h⟩:=ae h
 refine jn ((PE cx .normal (fun um=>[(2,.pt 0 0),(3,.pt 1 0),(4,.pt 2 0),(9,dL (cI .i64) CR.1),(65,dB um)]) fun um=>⟨[(0,dC (aq.f aK)),(1,dC (aq.f aQ)),(2,dC (aq.f ci))],[],3⟩) um) ?_ ?_
 replace h:=hy
 refine rq hx fun K hK=>?_
 refine mbi ?_
 rcases aF h with⟨Qk,h⟩|⟨Qk,h⟩
 refine nbi hK ?_
 exact pe1 h h0 [0,1,2]
 refine nbi hK ?_
 exact pe1 h h0 [0,1,2]
 refine lw0 ?_
 refine cdh h rfl (fun hb33 h=>?_) (fun hb33 h=>?_)
 refine rq hx fun K hK=>?_
 refine sa ?_
 refine s1 (d:=dO 3 (cI .i64) [(1:Int)]) (kD c8 dZ) ?_
 refine scb h uz fun x34 h=>?_
 refine nbi hK ?_
 exact pe1 h h0 [0,1,2]
 exact AW.skip (pe1 h h0 [0,1,2])
 refine lw0 ?_
 refine rs hx fun K hK=>?_
 refine mbi ?_
 refine scb h eL fun xO h=>?_
 refine nbi hK ?_
 exact AW.ret (rtv h)
def qW(cU:Int):Option Bool:=bnd (S:=Bool) (cnd (decide (cU<(2147483648:Int))) (some (decide ((-2147483648:Int)<cU))) (some (false))) fun br=>some br
theorem zP {cU:Int}{r:Bool}(h:qW cU=some r):ar prog 172 [dI .i64 cU] (dB r):=by
 refine bn (rs:=[.tmp 2]) (fun cx hx h0=>?_) func172
 unfold qW at h
 refine ra hx ?_
 refine AW.seq ?_
 obtain⟨br,hy,h⟩:=ae h
 refine jn ((PE cx .normal (fun br=>[(2,dB br)]) fun br=>⟨[],[],0⟩) br) ?_ ?_
 replace h:=hy
 refine rq hx fun K hK=>?_
 refine mbi ?_
 rcases aF h with⟨f4,h⟩|⟨f4,h⟩
 refine nbi hK ?_
 exact pe1 h h0 []
 refine nbi hK ?_
 exact pe1 h h0 []
 refine lw0 ?_
 exact AW.ret (rtv h)
def ml(aK:ap)(aQ:ap):Option ap:=bnd (eQ aK) fun x1=>bnd (eQ aQ) fun x3=>bnd (S:=Bool) (cnd x1.2 (cnd x3.2 (bnd (qW x1.1) fun x7=>cnd x7 (bnd (qW x3.1) fun l5=>some (l5)) (some (false))) (some (false))) (some (false))) fun aP=>cnd aP (bnd (eR (i64.wrap (x1.1*x3.1))) fun pX=>some pX) (bnd (S:=Bool) (bnd (bk aK) fun AV=>cnd (!AV) (some (true)) (bnd (bk aQ) fun tL=>some (!tL))) fun aT=>cnd aT (bnd (fy) fun xY=>some xY) (bnd (bz aK) fun Jw=>bnd (bz aQ) fun AU=>bnd (lE Jw AU) fun CR=>bnd (cg (!(aK.vNeg == aQ.vNeg)) CR) fun HI=>some HI))
theorem pY {aK:ap}{aQ:ap}{r:ap}(h:ml aK aQ=some r):ar prog 130 [dG aq aK,dG aq aQ] (dG aq r):=by
 refine bn (rs:=[.cell 4 41]) (fun cx hx h0=>?_) func130
 unfold ml at h
 refine rai hx ?_
 refine rs hx fun K hK=>?_
 refine mbi ?_
 refine scb h jd fun x1 h=>?_
 refine nbi hK ?_
 refine rs hx fun K hK=>?_
 refine mbi ?_
 refine scb h jd fun x3 h=>?_
 refine nbi hK ?_
 iterate 2 refine AW.seq ?_
 obtain⟨aP,hy,h⟩:=ae h
 refine jn ((PE cx .normal (fun aP=>[(2,.pt 0 0),(3,.pt 1 0),(4,.pt 2 0),(5,dI .i64 x1.1),(7,dI .i64 x3.1),(30,dB aP)]) fun aP=>⟨[(0,dC (aq.f aK)),(1,dC (aq.f aQ)),(2,dC (aq.f ci))],[],3⟩) aP) ?_ ?_
 replace h:=hy
 refine rq hx fun K hK=>?_
 refine mbi ?_
 rcases aF h with⟨rW,h⟩|⟨rW,h⟩
 refine mbi ?_
 rcases aF h with⟨rp,h⟩|⟨rp,h⟩
 refine ga rp ?_
 refine gcb h zP fun x7 h=>?_
 refine mbi ?_
 rcases aF h with⟨KD,h⟩|⟨KD,h⟩
 refine ga KD ?_
 refine gcb h zP fun l5 h=>?_
 refine nbi hK ?_
 exact pe1 h h0 [0,1,2]
 refine nbi hK ?_
 exact pe1 h h0 [0,1,2]
 refine nbi hK ?_
 exact pe1 h h0 [0,1,2]
 refine nbi hK ?_
 exact pe1 h h0 [0,1,2]
 refine lw0 ?_
 refine cdh h rfl (fun Gz h=>?_) (fun Gz h=>?_)
 refine rs hx fun K hK=>?_
 refine mbi ?_
 refine scb h iu fun pX h=>?_
 refine nbi hK ?_
 exact AW.ret (rtv h)
 refine AW.skip ?_
 iterate 2 refine AW.seq ?_
 obtain⟨aT,hy,h⟩:=ae h
 refine jn ((PE cx .normal (fun aT=>[(2,.pt 0 0),(3,.pt 1 0),(4,.pt 2 0),(42,dB aT)]) fun aT=>⟨[(0,dC (aq.f aK)),(1,dC (aq.f aQ)),(2,dC (aq.f ci))],[],3⟩) aT) ?_ ?_
 replace h:=hy
 refine rq hx fun K hK=>?_
 refine mbi ?_
 refine scb h cv fun AV h=>?_
 refine mbi ?_
 rcases aF h with⟨MP,h⟩|⟨MP,h⟩
 refine nbi hK ?_
 exact pe1 h h0 [0,1,2]
 refine gbi ?_
 refine gcb h cv fun tL h=>?_
 refine nbi hK ?_
 exact pe1 h h0 [0,1,2]
 refine lw0 ?_
 refine cdh h rfl (fun hb22 h=>?_) (fun hb22 h=>?_)
 refine rs hx fun K hK=>?_
 refine scb h kG fun xY h=>?_
 refine nbi hK ?_
 exact AW.ret (rtv h)
 refine AW.skip (rsd [143,173,140] hx fun K hK=>?_)
 refine mbi ?_
 refine cqb h cX fun Jw h=>?_
 refine mbi ?_
 refine cqb h cX fun AU h=>?_
 refine cqb h yc fun CR h=>?_
 refine cqb h eL fun HI h=>?_
 refine nbi hK ?_
 exact AW.ret (rtv h)
def wN(aK:ap)(aQ:ap):Option ap:=bnd (eQ aK) fun x1=>bnd (eQ aQ) fun x3=>bnd (S:=Bool) (cnd x1.2 (some (x3.2)) (some (false))) fun aP=>cnd aP (bnd (eR (i64.wrap (x1.1+x3.1))) fun x8=>some x8) (bnd (S:=Bool) (bnd (bk aK) fun l5=>cnd (!l5) (some (true)) (bnd (bk aQ) fun qw=>some (!qw))) fun aT=>cnd aT (bnd (fy) fun pW=>some pW) (bnd (bz aK) fun tL=>bnd (bz aQ) fun wh=>cnd (aK.vNeg == aQ.vNeg) (bnd (kT tL wh) fun zF=>bnd (cg aK.vNeg zF) fun x26=>some x26) (bnd (mF tL wh) fun HJ=>cnd HJ (bnd (ij wh tL) fun HI=>bnd (cg aQ.vNeg HI) fun LJ=>some LJ) (bnd (ij tL wh) fun th=>bnd (cg aK.vNeg th) fun xO=>some xO))))
theorem JP {aK:ap}{aQ:ap}{r:ap}(h:wN aK aQ=some r):ar prog 129 [dG aq aK,dG aq aQ] (dG aq r):=by
 refine bn (rs:=[.cell 4 41]) (fun cx hx h0=>?_) func129
 unfold wN at h
 refine rai hx ?_
 refine rs hx fun K hK=>?_
 refine mbi ?_
 refine scb h jd fun x1 h=>?_
 refine nbi hK ?_
 refine rs hx fun K hK=>?_
 refine mbi ?_
 refine scb h jd fun x3 h=>?_
 refine nbi hK ?_
 iterate 2 refine AW.seq ?_
 obtain⟨aP,hy,h⟩:=ae h
 refine jn ((PE cx .normal (fun aP=>[(2,.pt 0 0),(3,.pt 1 0),(4,.pt 2 0),(5,dI .i64 x1.1),(7,dI .i64 x3.1),(25,dB aP)]) fun aP=>⟨[(0,dC (aq.f aK)),(1,dC (aq.f aQ)),(2,dC (aq.f ci))],[],3⟩) aP) ?_ ?_
 replace h:=hy
 refine rq hx fun K hK=>?_
 refine mbi ?_
 rcases aF h with⟨rW,h⟩|⟨rW,h⟩
 refine nbi hK ?_
 exact pe1 h h0 [0,1,2]
 refine nbi hK ?_
 exact pe1 h h0 [0,1,2]
 refine lw0 ?_
 refine cdh h rfl (fun t8 h=>?_) (fun t8 h=>?_)
 refine rs hx fun K hK=>?_
 refine mbi ?_
 refine scb h iu fun x8 h=>?_
 refine nbi hK ?_
 exact AW.ret (rtv h)
 refine AW.skip ?_
 iterate 2 refine AW.seq ?_
 obtain⟨aT,hy,h⟩:=ae h
 refine jn ((PE cx .normal (fun aT=>[(2,.pt 0 0),(3,.pt 1 0),(4,.pt 2 0),(37,dB aT)]) fun aT=>⟨[(0,dC (aq.f aK)),(1,dC (aq.f aQ)),(2,dC (aq.f ci))],[],3⟩) aT) ?_ ?_
 replace h:=hy
 refine rq hx fun K hK=>?_
 refine mbi ?_
 refine scb h cv fun l5 h=>?_
 refine mbi ?_
 rcases aF h with⟨Eu,h⟩|⟨Eu,h⟩
 refine nbi hK ?_
 exact pe1 h h0 [0,1,2]
 refine gbi ?_
 refine gcb h cv fun qw h=>?_
 refine nbi hK ?_
 exact pe1 h h0 [0,1,2]
 refine lw0 ?_
 refine cdh h rfl (fun tz h=>?_) (fun tz h=>?_)
 refine rs hx fun K hK=>?_
 refine scb h kG fun pW h=>?_
 refine nbi hK ?_
 exact AW.ret (rtv h)
 refine AW.skip (rs hx fun K hK=>?_)
 refine mbi ?_
 refine scb h cX fun tL h=>?_
 refine nbi hK ?_
 refine rs hx fun K hK=>?_
 refine mbi ?_
 refine scb h cX fun wh h=>?_
 refine nbi hK ?_
 refine AW.seq (rai hx ?_)
 refine cdh h rfl (fun hb23 h=>?_) (fun hb23 h=>?_)
 refine rsd [141,140] hx fun K hK=>?_
 refine mbi ?_
 refine cqb h uz fun zF h=>?_
 refine cqb h eL fun x26 h=>?_
 refine nbi hK ?_
 exact AW.ret (rtv h)
 refine AW.skip (rs hx fun K hK=>?_)
 refine mbi ?_
 refine scb h zO fun HJ h=>?_
 refine nbi hK ?_
 refine AW.seq (ra hx ?_)
 refine cdh h rfl (fun MO h=>?_) (fun MO h=>?_)
 refine rsd [171,140] hx fun K hK=>?_
 refine mbi ?_
 refine cqb h pK fun HI h=>?_
 refine cqb h eL fun LJ h=>?_
 refine nbi hK ?_
 exact AW.ret (rtv h)
 refine AW.skip (rsd [171,140] hx fun K hK=>?_)
 refine mbi ?_
 refine cqb h pK fun th h=>?_
 refine cqb h eL fun xO h=>?_
 refine nbi hK ?_
 exact AW.ret (rtv h)
def ql(aZ:ap):Option ap:=bnd (bk aZ) fun x1=>cnd (!x1) (bnd (fy) fun x4=>some x4) (bnd (bz aZ) fun x6=>bnd (cg (!aZ.vNeg) x6) fun x8=>some x8)
theorem JO {aZ:ap}{r:ap}(h:ql aZ=some r):ar prog 157 [dG aq aZ] (dG aq r):=by
 refine bn (rs:=[.cell 2 41]) (fun cx hx h0=>?_) func157
 unfold ql at h
 refine rai hx ?_
 refine AW.seq (rs hx fun K hK=>?_)
 refine mbi ?_
 refine scb h cv fun x1 h=>?_
 refine nbi hK ?_
 refine cdh h rfl (fun fZ h=>?_) (fun fZ h=>?_)
 refine rs hx fun K hK=>?_
 refine scb h kG fun x4 h=>?_
 refine nbi hK ?_
 exact AW.ret (rtv h)
 refine AW.skip (rsd [143,140] hx fun K hK=>?_)
 refine mbi ?_
 refine cqb h cX fun x6 h=>?_
 refine cqb h eL fun x8 h=>?_
 refine nbi hK ?_
 exact AW.ret (rtv h)
def kU(aZ:ap):Option Int:=bnd (S:=Bool) (bnd (bk aZ) fun x1=>cnd (!x1) (some (true)) (bnd (bz aZ) fun x4=>some (decide (((x4).length:Int)=(0:Int))))) fun dP=>cnd dP (some (0:Int)) (cnd aZ.vNeg (some (-1:Int)) (some (1:Int)))
theorem uB {aZ:ap}{r:Int}(h:kU aZ=some r):ar prog 113 [dG aq aZ] (dI .i64 r):=by
 refine bn (rs:=[.tmp 2]) (fun cx hx h0=>?_) func113
 unfold kU at h
 refine ra hx ?_
 iterate 2 refine AW.seq ?_
 obtain⟨dP,hy,h⟩:=ae h
 refine jn ((PE cx .normal (fun dP=>[(1,.pt 0 0),(11,dB dP)]) fun dP=>⟨[(0,dC (aq.f aZ))],[],1⟩) dP) ?_ ?_
 replace h:=hy
 refine rq hx fun K hK=>?_
 refine mbi ?_
 refine scb h cv fun x1 h=>?_
 refine mbi ?_
 rcases aF h with⟨fZ,h⟩|⟨fZ,h⟩
 refine nbi hK ?_
 exact pe1 h h0 [0]
 refine gbi ?_
 refine gcb h cX fun x4 h=>?_
 refine nbi hK ?_
 exact pe1 h h0 [0]
 refine lw0 ?_
 refine cdh h rfl (fun t8 h=>?_) (fun t8 h=>?_)
 refine ra hx ?_
 exact AW.ret (rtv h)
 refine AW.skip (AW.seq (rai hx ?_))
 refine cdh h rfl (fun t7 h=>?_) (fun t7 h=>?_)
 refine ra hx ?_
 exact AW.ret (rtv h)
 refine AW.skip (ra hx ?_)
 exact AW.ret (rtv h)
def qk(eA:List Int)(vH:Int):Option Int:=bnd (dM eA (i64.wrap (Int.tdiv vH (16:Int)))) fun x1=>gd (0≤Int.tmod vH (16:Int)) (some (Int.tmod (me .i64 x1 (Int.tmod vH (16:Int))) (2:Int)))
theorem JN {eA:List Int}{vH:Int}{r:Int}(h:qk eA vH=some r):ar prog 144 [dL (cI .i64) eA,dI .i64 vH] (dI .i64 r):=by
 refine bn (rs:=[.tmp 4]) (fun cx hx h0=>?_) func144
 unfold qk at h
 refine ra hx ?_
 refine rs hx fun K hK=>?_
 refine mbi ?_
 refine scb h f7 fun x1 h=>?_
 iterate 2 refine sa ?_
 obtain⟨hc3,h⟩:=aA h
 refine s1 (UP hc3) ?_
 refine nbi hK ?_
 exact AW.ret (rtv h)
def mG(x4:List Int):Int→Option (Int⊕Int):=fun aT=>bnd (S:=Bool) (cnd (decide ((0:Int)<aT)) (bnd (qk x4 (i64.wrap (aT - (1:Int)))) fun x9=>some (decide (x9=(0:Int)))) (some (false))) fun nZ=>cnd nZ (some (.inl (i64.wrap (aT - (1:Int))))) (some (.inr aT))
def ge(aZ:ap):Option Int:=bnd (bk aZ) fun x1=>cnd (!x1) (some (0:Int)) (bnd (bz aZ) fun x4=>bnd (some (i64.wrap ((16:Int)*((x4).length:Int)))) fun x6=>bnd (bo (mG x4) x6) fun jz=>some jz)
theorem zQ {aZ:ap}{r:Int}(h:ge aZ=some r):ar prog 90 [dG aq aZ] (dI .i64 r):=by
 refine bn (rs:=[.tmp 2]) (fun cx hx h0=>?_) func90
 unfold ge at h
 refine ra hx ?_
 refine AW.seq (rs hx fun K hK=>?_)
 refine mbi ?_
 refine scb h cv fun x1 h=>?_
 refine nbi hK ?_
 refine cdh h rfl (fun fZ h=>?_) (fun fZ h=>?_)
 refine ra hx ?_
 exact AW.ret (rtv h)
 refine AW.skip (rs hx fun K hK=>?_)
 refine mbi ?_
 refine scb h cX fun x4 h=>?_
 refine nbi hK ?_
 refine rs hx fun K hK=>?_
 iterate 3 refine sa ?_
 obtain⟨x6,v7,h⟩:=ae h
 replace v7:=bw v7
 refine s2 (d2:=dI .i64 x6) kE (fq (congrArg (dI .i64) v7)) ?_
 refine nl hK ?_
 refine AW.seq (AW.block ?_)
 obtain⟨jz,hy,h⟩:=ae h
 refine lp (S:=Int) (X:=Int) (fun aT=>[(3,dL (cI .i64) x4),(4,dI .i64 aT)]) (fun aT=>⟨[],[],0⟩) (PE cx (.exit 0) (fun jz=>[(4,dI .i64 jz)]) fun jz=>⟨[],[],0⟩) hy ?_ ?_ ?_
 exact wk0 h0 []
 clear hy h
 rintro aT y h
 dsimp only[mG] at h
 iterate 2 refine AW.seq ?_
 obtain⟨nZ,hy,h⟩:=ae h
 refine jn ((PE cx .normal (fun nZ=>[(3,dL (cI .i64) x4),(4,dI .i64 aT),(21,dB nZ)]) fun nZ=>⟨[],[],0⟩) nZ) ?_ ?_
 replace h:=hy
 refine rq hx fun K hK=>?_
 refine mbi ?_
 rcases aF h with⟨t7,h⟩|⟨t7,h⟩
 iterate 3 refine ga t7 ?_
 refine gcb h JN fun x9 h=>?_
 refine nbi hK ?_
 exact pe1 h h0 []
 refine nbi hK ?_
 exact pe1 h h0 []
 refine lw0 ?_
 refine cdh h rfl (fun Eu h=>?_) (fun Eu h=>?_)
 refine AW.skip (AW.block (rb hx ?_))
 exact pel h h0 []
 exact AW.exit (per h h0 [])
 refine lw0 ?_
 refine ra hx ?_
 exact AW.ret (rtv h)
structure am where
 vN:ap
 vD:ap
 deriving Inhabited,DecidableEq
abbrev kJ:am:=⟨ci,ci⟩
def ak:Cd am:=⟨36,fun x=>aq.f x.vN++aq.f x.vD,fun x=>by simp[aq.h,show aq.sz=18 from rfl]⟩
theorem jT(x:am):bV (ak.f x) aq 0 x.vN (fun y=>ak.f (⟨y,x.vD⟩:am)):=
 bV.of ([]) ((aq).f x.vD) (by first|rfl|(simp[aq.h];first|rfl|done)) (by first|rfl|simp[ak,cI,cB,cS,cL,da]) (fun y=>by first|rfl|simp[ak,cI,cB,cS,cL,da])
theorem jU(x:am):bV (ak.f x) aq 18 x.vD (fun y=>ak.f (⟨x.vN,y⟩:am)):=
 bV.of ((aq).f x.vN) ([]) (by first|rfl|(simp[aq.h];first|rfl|done)) (by first|rfl|simp[ak,cI,cB,cS,cL,da]) (fun y=>by first|rfl|simp[ak,cI,cB,cS,cL,da])
section
variable {md:Md} {ops:Array Oper} {K:List (Nat×D)→Hp→Prop} {os:List Oper} {tm:List (Nat×D)} {hp hp':Hp} {t s:Tmp} {op:Op} {ty:TypeId} {pos:String} {af:Array Edge} {d d2:D} {j:Nat} {want c:Bool}
variable {dr:Bool} {ev:Operand→D}
theorem avr(h:AVC prog tbl dr op ty ev hp (Kq d hp'):=by (first|exact av|exact KV_l (bV.id _ _)|exact yE (F:=(cA 16 (cI .u32)).f (eo)) cY|exact xf (nR _) tbI|exact xf (sV _) tbI|exact AP (nQ _) tbI|exact KV_l (nQ _)|exact yE (F:=aq.f (⟨false,false,(eo)⟩:ap)) ff|exact AP (jU _) tbI|exact AP (jT _) tbI|exact yE (F:=ak.f (⟨(⟨false,false,(eo)⟩:ap),(⟨false,false,(eo)⟩:ap)⟩:am)) aO|exact T_ldC tbI|exact T_ldA tbI)):AVC prog tbl dr op ty ev hp (Kq d hp'):=h
theorem sbr(h2:aX prog tbl md ops K os ((t,d)::tm) hp')(h:AVC prog tbl md.dr op ty (evD tm) hp (Kq d hp'):=by exact avr)(hn:md.nc tbl op=true:=by exact rfl):aX prog tbl md ops K (⟨some t,op,ty,pos,af,none⟩::os) tm hp:=st tok hn h h2
theorem tzr(h2:aX prog tbl md ops K os tm hp')(h:AVC prog tbl md.dr op ty (evD tm) hp (Kq .top hp'):=by (first|exact KV_s))(hn:md.nc tbl op=true:=by exact rfl):aX prog tbl md ops K (⟨none,op,ty,pos,af,none⟩::os) tm hp:=st_n tok hn h h2
theorem gbr(h2:aX prog tbl md ops K os ((t,d)::tm) hp')(hj:(ops[j]?).bind (·.dst)=some s:=by exact rfl)(hc:tm.lookup s=some (.e (.lit (.bool c))):=by exact rfl)(hw:c=want:=by (with_reducible first|rfl|assumption))(h:AVC prog tbl md.dr op ty (evD tm) hp (Kq d hp'):=by exact avr)(hn:md.nc tbl op=true:=by exact rfl):aX prog tbl md ops K (⟨some t,op,ty,pos,af,some (j,want)⟩::os) tm hp:=Qu tok hn hj hc hw h h2
theorem mbr {os':List Oper}{tm':List (Nat×D)}(h2:aX prog tbl md ops K os' tm' hp')(h:aX prog tbl md ops K os' tm' hp'→aX prog tbl md ops K os tm hp:=by (intro h;(repeat (first|refine sbr ?_|refine tzr ?_|refine gbr ?_|refine Ke ?_));exact h)):aX prog tbl md ops K os tm hp:=h h2
theorem nbr {R:List (Nat×D)→Hp→Prop}{tm':List (Nat×D)}(hK:∀tm hp,R tm hp→K tm hp)(h2:R tm' hp')(h:K tm' hp'→aX prog tbl md ops K os tm hp:=by (intro h;(repeat (first|refine sbr ?_|refine tzr ?_|refine gbr ?_|refine Ke ?_));exact .nil h)):aX prog tbl md ops K os tm hp:=h (hK _ _ h2)
end
section
variable {x:Cx} {tm:List (Nat×D)} {hp hp':Hp} {Q:Exit→List (Nat×D)→Hp→Prop}
theorem rar {n id:Nat}{l:List Oper}{b:Code}{tm':List (Nat×D)}(hx:x.N=n)(h2:AW prog x b tm' hp' Q)(h:∀K:List (Nat×D)→Hp→Prop,K tm' hp'→aX prog tbl .seq l.toArray K l tm hp:=by (intro K h;(repeat (first|refine sbr ?_|refine tzr ?_|refine gbr ?_|refine Ke ?_));exact .nil h))(hN:mr n l.toArray=true:=by kernel_rfl):AW prog x (.seq (.region id l.toArray false) b) tm hp Q:=rs hx (fun K hK=>h K (hK _ _ h2)) hN
theorem rbr {n id:Nat}{l:List Oper}{tm':List (Nat×D)}(hx:x.N=n)(h2:Q .normal tm' hp')(h:∀K:List (Nat×D)→Hp→Prop,K tm' hp'→aX prog tbl .seq l.toArray K l tm hp:=by (intro K h;(repeat (first|refine sbr ?_|refine tzr ?_|refine gbr ?_|refine Ke ?_));exact .nil h))(hN:mr n l.toArray=true:=by kernel_rfl):AW prog x (.region id l.toArray false) tm hp Q:=rq hx (fun K hK=>h K (hK _ _ h2)) hN
end
def DF(x:ap):List Value:=[Value.bool x.vBad]++([Value.bool x.vNeg]++((x.vW).toList.flatMap (fun x=>[Value.int .u32 x])++([])))
theorem eZ:EqC tbl 3 41 aq DF:=by
 refine EqC.struct (fs:=[(0,4),(1,4),(2,39)]) ff (fun x=>?_) (fun x=>by
  have q3:ua tbl (nH tbl 2) [] 18 []:=by unfold ua;rfl
  have q2:=rX (off:=2) (x:=x.vW) (EqC.arr (EqC.int (d:=0) bQ) cY bQ) cY rfl q3
  have q1:=rX (off:=1) (x:=x.vNeg) (EqC.bool (d:=1) uE) uE rfl q2
  have q0:=rX (off:=0) (x:=x.vBad) (EqC.bool (d:=1) uE) uE rfl q1
  exact q0) ?_
 ·have:=And.intro (And.intro ((EqC.bool (d:=1) uE).hf x.vBad) (And.intro ((EqC.bool (d:=1) uE).hf x.vNeg) (And.intro ((EqC.arr (EqC.int (d:=0) bQ) cY bQ).hf x.vW) (True.intro)))) True.intro
  simp only[DF,aq,gK,mZ,tf,da]
  all_goals (first|rfl|(simp only[←(EqC.bool (d:=1) uE).hf,←(EqC.bool (d:=1) uE).hf,←(EqC.arr (EqC.int (d:=0) bQ) cY bQ).hf];try (first|rfl|simp[cI,cB])))
 ·skip
  intro x y h
  unfold DF at h
  obtain⟨e0,h⟩:=Cb h (by rw[(EqC.bool (d:=1) uE).len,(EqC.bool (d:=1) uE).len])
  obtain⟨e1,h⟩:=Cb h (by rw[(EqC.bool (d:=1) uE).len,(EqC.bool (d:=1) uE).len])
  obtain⟨e2,h⟩:=Cb h (by rw[(EqC.arr (EqC.int (d:=0) bQ) cY bQ).len,(EqC.arr (EqC.int (d:=0) bQ) cY bQ).len])
  cases x;cases y
  simp only[ap.mk.injEq]
  exact⟨((EqC.bool (d:=1) uE).inj _ _).1 e0,((EqC.bool (d:=1) uE).inj _ _).1 e1,((EqC.arr (EqC.int (d:=0) bQ) cY bQ).inj _ _).1 e2⟩
def LS(x:am):List Value:=DF x.vN++(DF x.vD++([]))
theorem BM:EqC tbl 4 43 ak LS:=by
 refine EqC.struct (fs:=[(0,41),(18,41)]) aO (fun x=>?_) (fun x=>by
  have q2:ua tbl (nH tbl 3) [] 36 []:=by unfold ua;rfl
  have q1:=rX (off:=18) (x:=x.vD) eZ ff rfl q2
  have q0:=rX (off:=0) (x:=x.vN) eZ ff rfl q1
  exact q0) ?_
 ·have:=And.intro (And.intro (eZ.hf x.vN) (And.intro (eZ.hf x.vD) (True.intro))) True.intro
  simp only[LS,ak,gK,mZ,tf,da]
  all_goals (first|rfl|(simp only[←eZ.hf,←eZ.hf];try (first|rfl|simp[cI,cB])))
 ·skip
  intro x y h
  unfold LS at h
  obtain⟨e0,h⟩:=Cb h (by rw[eZ.len,eZ.len])
  obtain⟨e1,h⟩:=Cb h (by rw[eZ.len,eZ.len])
  cases x;cases y
  simp only[am.mk.injEq]
  exact⟨(eZ.inj _ _).1 e0,(eZ.inj _ _).1 e1⟩
def js(aZ:ap):Option Bool:=bnd (S:=Bool) (cnd (!aZ.vBad) (bnd (lz aZ) fun x2=>some (x2)) (some (false))) fun br=>some br
theorem qQ {aZ:ap}{r:Bool}(h:js aZ=some r):ar prog 146 [dG aq aZ] (dB r):=by
 refine bn (rs:=[.tmp 2]) (fun cx hx h0=>?_) func146
 unfold js at h
 refine ra hx ?_
 refine AW.seq ?_
 obtain⟨br,hy,h⟩:=ae h
 refine jn ((PE cx .normal (fun br=>[(2,dB br)]) fun br=>⟨[],[],0⟩) br) ?_ ?_
 replace h:=hy
 refine rq hx fun K hK=>?_
 refine mbr ?_
 rcases aF h with⟨f4,h⟩|⟨f4,h⟩
 refine gbr ?_
 refine gcb h xZ fun x2 h=>?_
 refine nbr hK ?_
 exact pe1 h h0 []
 refine nbr hK ?_
 exact pe1 h h0 []
 refine lw0 ?_
 exact AW.ret (rtv h)
def mn :Option ap:=bnd (gW (1:Int)) fun x1=>some x1
theorem wu  {r:ap}(h:mn=some r):ar prog 99 [] (dG aq r):=by
 refine bn (rs:=[.cell 0 41]) (fun cx hx h0=>?_) func99
 unfold mn at h
 refine rar hx ?_
 refine rs hx fun K hK=>?_
 refine scb h rx fun x1 h=>?_
 refine nbr hK ?_
 exact AW.ret (rtv h)
def aW(aZ:am):Option Bool:=bnd (S:=Bool) (bnd (js aZ.vN) fun x1=>cnd x1 (bnd (js aZ.vD) fun x4=>cnd x4 (bnd (fg aZ.vD) fun x7=>cnd (decide ((0:Int)<x7)) (bnd (nU aZ.vN aZ.vD) fun l5=>bnd (mn) fun m9=>some (decide (l5=m9))) (some (false))) (some (false))) (some (false))) fun br=>some br
theorem cj {aZ:am}{r:Bool}(h:aW aZ=some r):ar prog 92 [dG ak aZ] (dB r):=by
 refine bn (rs:=[.tmp 2]) (fun cx hx h0=>?_) func92
 unfold aW at h
 refine ra hx ?_
 refine AW.seq ?_
 obtain⟨br,hy,h⟩:=ae h
 refine jn ((PE cx .normal (fun br=>[(2,dB br)]) fun br=>⟨[],[],0⟩) br) ?_ ?_
 replace h:=hy
 refine rq hx fun K hK=>?_
 refine mbr ?_
 refine scb h qQ fun x1 h=>?_
 refine sa ?_
 rcases aF h with⟨fZ,h⟩|⟨fZ,h⟩
 refine ga fZ ?_
 refine gbr ?_
 refine gcb h qQ fun x4 h=>?_
 refine mbr ?_
 rcases aF h with⟨rp,h⟩|⟨rp,h⟩
 refine ga rp ?_
 refine gbr ?_
 refine gcb h kM fun x7 h=>?_
 refine mbr ?_
 rcases aF h with⟨KD,h⟩|⟨KD,h⟩
 refine ga KD ?_
 refine gbr ?_
 refine ga KD ?_
 refine gbr ?_
 refine gcb h wm fun l5 h=>?_
 refine gcb h wu fun m9 h=>?_
 refine g1 KD (Cf tok 3 (by decide) eZ ff) ?_
 refine nbr hK ?_
 exact pe1 h h0 []
 refine nbr hK ?_
 exact pe1 h h0 []
 refine nbr hK ?_
 exact pe1 h h0 []
 refine nbr hK ?_
 exact pe1 h h0 []
 refine lw0 ?_
 exact AW.ret (rtv h)
def fC :Option am:=bnd (eH) fun x1=>bnd (mn) fun x3=>some (⟨x1,x3⟩:am)
theorem l8  {r:am}(h:fC=some r):ar prog 65 [] (dG ak r):=by
 refine bn (rs:=[.cell 0 43]) (fun cx hx h0=>?_) func65
 unfold fC at h
 refine rar hx ?_
 refine rs hx fun K hK=>?_
 refine scb h ib fun x1 h=>?_
 refine scb h wu fun x3 h=>?_
 refine s1 (d:=dG ak (⟨x1,x3⟩:am)) (g8 (FL.cons (y:=x1) (jT kJ) rfl rfl (FL.cons (y:=x3) (jU (⟨x1,ci⟩:am)) rfl rfl (FL.nil _))) aO) ?_
 refine nbr hK ?_
 exact AW.ret (rtv h)
def dh(cU:ap)(Aa:ap):Option am:=bnd (S:=Bool) (bnd (js cU) fun x1=>cnd (!x1) (some (true)) (bnd (js Aa) fun x4=>cnd (!x4) (some (true)) (bnd (fg Aa) fun x7=>some (decide (x7=(0:Int)))))) fun dP=>cnd dP (bnd (fC) fun sL=>some sL) (bnd (nU cU Aa) fun qw=>bnd (S:=ap) (bnd (fg Aa) fun JD=>cnd (decide (JD<(0:Int))) (bnd (mg qw) fun sG=>some (sG)) (some (qw))) fun eC=>bnd (ig cU eC) fun wh=>bnd (ig Aa eC) fun xY=>some (⟨wh,xY⟩:am))
theorem kO {cU:ap}{Aa:ap}{r:am}(h:dh cU Aa=some r):ar prog 93 [dG aq cU,dG aq Aa] (dG ak r):=by
 refine bn (rs:=[.cell 4 43]) (fun cx hx h0=>?_) func93
 unfold dh at h
 refine rar hx ?_
 iterate 2 refine AW.seq ?_
 obtain⟨dP,hy,h⟩:=ae h
 refine jn ((PE cx .normal (fun dP=>[(2,.pt 0 0),(3,.pt 1 0),(4,.pt 2 0),(18,dB dP)]) fun dP=>⟨[(0,dC (aq.f cU)),(1,dC (aq.f Aa)),(2,dC (ak.f kJ))],[],3⟩) dP) ?_ ?_
 replace h:=hy
 refine rq hx fun K hK=>?_
 refine mbr ?_
 refine scb h qQ fun x1 h=>?_
 refine mbr ?_
 rcases aF h with⟨fZ,h⟩|⟨fZ,h⟩
 refine nbr hK ?_
 exact pe1 h h0 [0,1,2]
 refine gbr ?_
 refine gcb h qQ fun x4 h=>?_
 refine mbr ?_
 rcases aF h with⟨rp,h⟩|⟨rp,h⟩
 refine nbr hK ?_
 exact pe1 h h0 [0,1,2]
 refine gbr ?_
 refine gcb h kM fun x7 h=>?_
 refine nbr hK ?_
 exact pe1 h h0 [0,1,2]
 refine lw0 ?_
 refine cdh h rfl (fun nG h=>?_) (fun nG h=>?_)
 refine rs hx fun K hK=>?_
 refine scb h l8 fun sL h=>?_
 refine nbr hK ?_
 exact AW.ret (rtv h)
 refine AW.skip (rs hx fun K hK=>?_)
 refine mbr ?_
 refine scb h wm fun qw h=>?_
 refine nbr hK ?_
 refine AW.seq ?_
 obtain⟨eC,hy,h⟩:=ae h
 refine jn ((PE cx .normal (fun eC=>[(2,.pt 0 0),(3,.pt 1 0),(4,.pt 2 0),(5,.pt 3 0)]) fun eC=>⟨[(0,dC (aq.f cU)),(1,dC (aq.f Aa)),(2,dC (ak.f kJ)),(3,dC (aq.f eC))],[],4⟩) eC) ?_ ?_
 replace h:=hy
 refine rs hx fun K hK=>?_
 refine mbr ?_
 refine scb h kM fun JD h=>?_
 refine nbr hK ?_
 refine cdh h rfl (fun Ix h=>?_) (fun Ix h=>?_)
 refine rq hx fun K hK=>?_
 refine mbr ?_
 refine scb h wl fun sG h=>?_
 refine nbr hK ?_
 exact pe1 h h0 [0,1,2,3]
 exact AW.skip (pe1 h h0 [0,1,2,3])
 refine lw0 ?_
 refine rsd [97] hx fun K hK=>?_
 refine mbr ?_
 refine cqb h kF fun wh h=>?_
 refine mbr ?_
 refine cqb h kF fun xY h=>?_
 refine s1 (d:=dG ak (⟨wh,xY⟩:am)) (g8 (FL.cons (y:=wh) (jT kJ) rfl rfl (FL.cons (y:=xY) (jU (⟨wh,ci⟩:am)) rfl rfl (FL.nil _))) aO) ?_
 refine nbr hK ?_
 exact AW.ret (rtv h)
def ik(aZ:am)(nO:am):Option am:=bnd (S:=Bool) (bnd (aW aZ) fun x1=>cnd (!x1) (some (true)) (bnd (aW nO) fun x4=>some (!x4))) fun dP=>cnd dP (bnd (fC) fun x8=>some x8) (bnd (nU aZ.vD nO.vD) fun l5=>bnd (ig aZ.vD l5) fun m9=>bnd (ig nO.vD l5) fun pX=>bnd (jl aZ.vN pX) fun AV=>bnd (jl nO.vN m9) fun sG=>bnd (jm AV sG) fun FY=>bnd (jl m9 nO.vD) fun CS=>bnd (dh FY CS) fun zF=>some zF)
theorem ww {aZ:am}{nO:am}{r:am}(h:ik aZ nO=some r):ar prog 66 [dG ak aZ,dG ak nO] (dG ak r):=by
 refine bn (rs:=[.cell 4 43]) (fun cx hx h0=>?_) func66
 unfold ik at h
 refine rar hx ?_
 iterate 2 refine AW.seq ?_
 obtain⟨dP,hy,h⟩:=ae h
 refine jn ((PE cx .normal (fun dP=>[(2,.pt 0 0),(3,.pt 1 0),(4,.pt 2 0),(15,dB dP)]) fun dP=>⟨[(0,dC (ak.f aZ)),(1,dC (ak.f nO)),(2,dC (ak.f kJ))],[],3⟩) dP) ?_ ?_
 replace h:=hy
 refine rq hx fun K hK=>?_
 refine mbr ?_
 refine scb h cj fun x1 h=>?_
 refine mbr ?_
 rcases aF h with⟨fZ,h⟩|⟨fZ,h⟩
 refine nbr hK ?_
 exact pe1 h h0 [0,1,2]
 refine gbr ?_
 refine gcb h cj fun x4 h=>?_
 refine nbr hK ?_
 exact pe1 h h0 [0,1,2]
 refine lw0 ?_
 refine cdh h rfl (fun t8 h=>?_) (fun t8 h=>?_)
 refine rs hx fun K hK=>?_
 refine scb h l8 fun x8 h=>?_
 refine nbr hK ?_
 exact AW.ret (rtv h)
 refine AW.skip (rs hx fun K hK=>?_)
 refine mbr ?_
 refine scb h wm fun l5 h=>?_
 refine nbr hK ?_
 refine AW.seq ?_
 obtain⟨m9,wI,h⟩:=ae h
 obtain⟨pX,yZ,h⟩:=ae h
 refine jn (PE cx .normal (fun (_:Unit)=>[(2,.pt 0 0),(3,.pt 1 0),(4,.pt 2 0),(6,.pt 3 0),(7,.pt 4 0)]) (fun (_:Unit)=>⟨[(0,dC (ak.f aZ)),(1,dC (ak.f nO)),(2,dC (ak.f kJ)),(3,dC (aq.f m9)),(4,dC (aq.f pX))],[],5⟩) ()) ?_ ?_
 refine dw (DW.split 8 9 (by decide) ?_ ?_)
 refine dwg [97] [0,1,2,3,4,5,6,7,8,9,10,11] hx (by kernel_rfl) (by kernel_rfl) (by kernel_rfl) fun K hK=>?_
 dsimp only[eh,mM,mW,List.map]
 refine mbr ?_
 refine cq (kF wI) ?_
 refine mbr ?_
 refine cq (kF yZ) ?_
 iterate 2 refine sbr ?_
 iterate 2 refine tzr ?_
 exact .nil (hK _ _ (pe0 h0 [0,1,2,4,5]))
 refine dwg [97] [0,1,2,3,4,5,6,7,9,8,10,11] hx (by kernel_rfl) (by kernel_rfl) (by kernel_rfl) fun K hK=>?_
 dsimp only[eh,mM,mW,List.map]
 refine mbr ?_
 refine cq (kF wI) ?_
 refine mbr ?_
 refine cq (kF yZ) ?_
 iterate 2 refine sbr ?_
 iterate 2 refine tzr ?_
 exact .nil (hK _ _ (pe0 h0 [0,1,2,5,4]))
 refine lw0 ?_
 refine rsd [94,123,93] hx fun K hK=>?_
 refine mbr ?_
 refine cqb h l6 fun AV h=>?_
 refine mbr ?_
 refine cqb h l6 fun sG h=>?_
 refine cqb h Ci fun FY h=>?_
 refine mbr ?_
 refine cqb h l6 fun CS h=>?_
 refine cqb h kO fun zF h=>?_
 refine nbr hK ?_
 exact AW.ret (rtv h)
def fB(aZ:am)(nO:am):Option am:=bnd (S:=Bool) (bnd (aW aZ) fun x1=>cnd (!x1) (some (true)) (bnd (aW nO) fun x4=>some (!x4))) fun dP=>cnd dP (bnd (fC) fun x8=>some x8) (bnd (dh aZ.vN nO.vD) fun l5=>bnd (dh nO.vN aZ.vD) fun m9=>bnd (jl l5.vN m9.vN) fun pX=>bnd (jl l5.vD m9.vD) fun AV=>bnd (S:=Bool) (cnd pX.vBad (some (true)) (some (AV.vBad))) fun aT=>cnd aT (bnd (fC) fun wh=>some wh) (some (⟨pX,AV⟩:am)))
theorem pZ {aZ:am}{nO:am}{r:am}(h:fB aZ nO=some r):ar prog 29 [dG ak aZ,dG ak nO] (dG ak r):=by
 refine bn (rs:=[.cell 4 43]) (fun cx hx h0=>?_) func29
 unfold fB at h
 refine rar hx ?_
 iterate 2 refine AW.seq ?_
 obtain⟨dP,hy,h⟩:=ae h
 refine jn ((PE cx .normal (fun dP=>[(2,.pt 0 0),(3,.pt 1 0),(4,.pt 2 0),(16,dB dP)]) fun dP=>⟨[(0,dC (ak.f aZ)),(1,dC (ak.f nO)),(2,dC (ak.f kJ))],[],3⟩) dP) ?_ ?_
 replace h:=hy
 refine rq hx fun K hK=>?_
 refine mbr ?_
 refine scb h cj fun x1 h=>?_
 refine mbr ?_
 rcases aF h with⟨fZ,h⟩|⟨fZ,h⟩
 refine nbr hK ?_
 exact pe1 h h0 [0,1,2]
 refine gbr ?_
 refine gcb h cj fun x4 h=>?_
 refine nbr hK ?_
 exact pe1 h h0 [0,1,2]
 refine lw0 ?_
 refine cdh h rfl (fun t8 h=>?_) (fun t8 h=>?_)
 refine rs hx fun K hK=>?_
 refine scb h l8 fun x8 h=>?_
 refine nbr hK ?_
 exact AW.ret (rtv h)
 refine AW.skip (AW.seq ?_)
 obtain⟨l5,Gt,h⟩:=ae h
 obtain⟨m9,wI,h⟩:=ae h
 refine jn (PE cx .normal (fun (_:Unit)=>[(4,.pt 0 0),(5,.pt 1 0),(6,.pt 2 0)]) (fun (_:Unit)=>⟨[(0,dC (ak.f kJ)),(1,dC (ak.f l5)),(2,dC (ak.f m9))],[],3⟩) ()) ?_ ?_
 refine dw (DW.split 10 11 (by decide) ?_ ?_)
 refine dwg [93] [0,1,2,3,4,5,6,7,8,9,10,11,12,13] hx (by kernel_rfl) (by kernel_rfl) (by kernel_rfl) fun K hK=>?_
 dsimp only[eh,mM,mW,List.map]
 refine mbr ?_
 refine cq (kO Gt) ?_
 refine mbr ?_
 refine cq (kO wI) ?_
 iterate 2 refine sbr ?_
 iterate 2 refine tzr ?_
 exact .nil (hK _ _ (pe0 h0 [2,3,4]))
 refine dwg [93] [0,1,2,3,4,5,6,7,8,9,11,10,12,13] hx (by kernel_rfl) (by kernel_rfl) (by kernel_rfl) fun K hK=>?_
 dsimp only[eh,mM,mW,List.map]
 refine mbr ?_
 refine cq (kO Gt) ?_
 refine mbr ?_
 refine cq (kO wI) ?_
 iterate 2 refine sbr ?_
 iterate 2 refine tzr ?_
 exact .nil (hK _ _ (pe0 h0 [2,4,3]))
 refine lw0 ?_
 refine AW.seq ?_
 obtain⟨pX,yZ,h⟩:=ae h
 obtain⟨AV,hx17,h⟩:=ae h
 refine jn (PE cx .normal (fun (_:Unit)=>[(4,.pt 0 0),(7,.pt 1 0),(8,.pt 2 0)]) (fun (_:Unit)=>⟨[(0,dC (ak.f kJ)),(1,dC (aq.f pX)),(2,dC (aq.f AV))],[],3⟩) ()) ?_ ?_
 refine dw (DW.split 10 11 (by decide) ?_ ?_)
 refine dwg [94] [0,1,2,3,4,5,6,7,8,9,10,11,12,13] hx (by kernel_rfl) (by kernel_rfl) (by kernel_rfl) fun K hK=>?_
 dsimp only[eh,mM,mW,List.map]
 refine mbr ?_
 refine cq (l6 yZ) ?_
 refine mbr ?_
 refine cq (l6 hx17) ?_
 iterate 2 refine sbr ?_
 iterate 2 refine tzr ?_
 exact .nil (hK _ _ (pe0 h0 [0,3,4]))
 refine dwg [94] [0,1,2,3,4,5,6,7,8,9,11,10,12,13] hx (by kernel_rfl) (by kernel_rfl) (by kernel_rfl) fun K hK=>?_
 dsimp only[eh,mM,mW,List.map]
 refine mbr ?_
 refine cq (l6 yZ) ?_
 refine mbr ?_
 refine cq (l6 hx17) ?_
 iterate 2 refine sbr ?_
 iterate 2 refine tzr ?_
 exact .nil (hK _ _ (pe0 h0 [0,4,3]))
 refine lw0 ?_
 iterate 2 refine AW.seq ?_
 obtain⟨aT,hy,h⟩:=ae h
 refine jn ((PE cx .normal (fun aT=>[(4,.pt 0 0),(7,.pt 1 0),(8,.pt 2 0),(43,dB aT)]) fun aT=>⟨[(0,dC (ak.f kJ)),(1,dC (aq.f pX)),(2,dC (aq.f AV))],[],3⟩) aT) ?_ ?_
 replace h:=hy
 refine rq hx fun K hK=>?_
 refine mbr ?_
 rcases aF h with⟨MP,h⟩|⟨MP,h⟩
 refine nbr hK ?_
 exact pe1 h h0 [0,1,2]
 refine nbr hK ?_
 exact pe1 h h0 [0,1,2]
 refine lw0 ?_
 refine cdh h rfl (fun Tl h=>?_) (fun Tl h=>?_)
 refine rs hx fun K hK=>?_
 refine scb h l8 fun wh h=>?_
 refine nbr hK ?_
 exact AW.ret (rtv h)
 refine AW.skip (rs hx fun K hK=>?_)
 iterate 2 refine sbr ?_
 refine s1 (d:=dG ak (⟨pX,AV⟩:am)) (g8 (FL.cons (y:=pX) (jT kJ) rfl rfl (FL.cons (y:=AV) (jU (⟨pX,ci⟩:am)) rfl rfl (FL.nil _))) aO) ?_
 refine nbr hK ?_
 exact AW.ret (rtv h)
def s6(aZ:am)(nO:am):Option am:=bnd (aW nO) fun x1=>cnd (!x1) (bnd (fC) fun x4=>some x4) (bnd (dh nO.vD nO.vN) fun x6=>bnd (fB aZ x6) fun x8=>some x8)
theorem JS {aZ:am}{nO:am}{r:am}(h:s6 aZ nO=some r):ar prog 153 [dG ak aZ,dG ak nO] (dG ak r):=by
 refine bn (rs:=[.cell 4 43]) (fun cx hx h0=>?_) func153
 unfold s6 at h
 refine rar hx ?_
 refine AW.seq (rs hx fun K hK=>?_)
 refine mbr ?_
 refine scb h cj fun x1 h=>?_
 refine nbr hK ?_
 refine cdh h rfl (fun fZ h=>?_) (fun fZ h=>?_)
 refine rs hx fun K hK=>?_
 refine scb h l8 fun x4 h=>?_
 refine nbr hK ?_
 exact AW.ret (rtv h)
 refine AW.skip (rsd [93,29] hx fun K hK=>?_)
 refine mbr ?_
 refine cqb h kO fun x6 h=>?_
 refine cqb h pZ fun x8 h=>?_
 refine nbr hK ?_
 exact AW.ret (rtv h)
def mq(aZ:am):Option am:=bnd (aW aZ) fun x1=>cnd (!x1) (bnd (fC) fun x4=>some x4) (bnd (mg aZ.vN) fun x6=>some (⟨x6,aZ.vD⟩:am))
theorem wv {aZ:am}{r:am}(h:mq aZ=some r):ar prog 42 [dG ak aZ] (dG ak r):=by
 refine bn (rs:=[.cell 2 43]) (fun cx hx h0=>?_) func42
 unfold mq at h
 refine rar hx ?_
 refine AW.seq (rs hx fun K hK=>?_)
 refine mbr ?_
 refine scb h cj fun x1 h=>?_
 refine nbr hK ?_
 refine cdh h rfl (fun fZ h=>?_) (fun fZ h=>?_)
 refine rs hx fun K hK=>?_
 refine scb h l8 fun x4 h=>?_
 refine nbr hK ?_
 exact AW.ret (rtv h)
 refine AW.skip (rsd [100] hx fun K hK=>?_)
 refine mbr ?_
 refine cqb h wl fun x6 h=>?_
 iterate 2 refine sbr ?_
 refine s1 (d:=dG ak (⟨x6,aZ.vD⟩:am)) (g8 (FL.cons (y:=x6) (jT kJ) rfl rfl (FL.cons (y:=aZ.vD) (jU (⟨x6,ci⟩:am)) rfl rfl (FL.nil _))) aO) ?_
 refine nbr hK ?_
 exact AW.ret (rtv h)
def np(cU:ap):Option am:=bnd (mn) fun x1=>bnd (dh cU x1) fun x3=>some x3
theorem Ge {cU:ap}{r:am}(h:np cU=some r):ar prog 34 [dG aq cU] (dG ak r):=by
 refine bn (rs:=[.cell 2 43]) (fun cx hx h0=>?_) func34
 unfold np at h
 refine rar hx ?_
 refine rsd [99,93] hx fun K hK=>?_
 refine mbr ?_
 refine cqb h wu fun x1 h=>?_
 refine cqb h kO fun x3 h=>?_
 refine nbr hK ?_
 exact AW.ret (rtv h)
def mp(cU:Int):Option am:=bnd (gW cU) fun x1=>bnd (np x1) fun x3=>some x3
theorem yK {cU:Int}{r:am}(h:mp cU=some r):ar prog 28 [dI .i64 cU] (dG ak r):=by
 refine bn (rs:=[.cell 2 43]) (fun cx hx h0=>?_) func28
 unfold mp at h
 refine rar hx ?_
 refine rs hx fun K hK=>?_
 refine sa ?_
 refine scb h rx fun x1 h=>?_
 refine scb h Ge fun x3 h=>?_
 refine nbr hK ?_
 exact AW.ret (rtv h)
def kV(aZ:am):Option Int:=bnd (aW aZ) fun x1=>cnd (!x1) (some (0:Int)) (bnd (fg aZ.vN) fun x4=>some x4)
theorem uC {aZ:am}{r:Int}(h:kV aZ=some r):ar prog 30 [dG ak aZ] (dI .i64 r):=by
 refine bn (rs:=[.tmp 2]) (fun cx hx h0=>?_) func30
 unfold kV at h
 refine ra hx ?_
 refine AW.seq (rs hx fun K hK=>?_)
 refine mbr ?_
 refine scb h cj fun x1 h=>?_
 refine nbr hK ?_
 refine cdh h rfl (fun fZ h=>?_) (fun fZ h=>?_)
 refine ra hx ?_
 exact AW.ret (rtv h)
 refine AW.skip (rs hx fun K hK=>?_)
 refine mbr ?_
 refine scb h kM fun x4 h=>?_
 refine nbr hK ?_
 exact AW.ret (rtv h)
def sZ(aZ:am)(nO:am):Option am:=bnd (mq nO) fun x1=>bnd (ik aZ x1) fun x3=>some x3
theorem JR {aZ:am}{nO:am}{r:am}(h:sZ aZ nO=some r):ar prog 76 [dG ak aZ,dG ak nO] (dG ak r):=by
 refine bn (rs:=[.cell 4 43]) (fun cx hx h0=>?_) func76
 unfold sZ at h
 refine rar hx ?_
 refine rsd [42,66] hx fun K hK=>?_
 refine mbr ?_
 refine cqb h wv fun x1 h=>?_
 refine cqb h ww fun x3 h=>?_
 refine nbr hK ?_
 exact AW.ret (rtv h)
def jb :Int×am×am→Option ((Int×am×am)⊕Int):=fun (AK,Pj,Pi)=>bnd (ig Pj.vN Pj.vD) fun l5=>bnd (ig Pi.vN Pi.vD) fun m9=>bnd (qi l5 m9) fun pX=>cnd (decide (pX≠(0:Int))) (some (.inr (i64.wrap (AK*pX)))) (bnd (nT Pj.vN Pj.vD) fun pW=>bnd (nT Pi.vN Pi.vD) fun tL=>bnd (fg pW) fun wh=>bnd (fg tL) fun xY=>bnd (S:=Bool) (cnd (decide (wh=(0:Int))) (some (true)) (some (decide (xY=(0:Int))))) fun uj=>cnd uj (bnd (some (i64.wrap (AK*(i64.wrap (wh - xY))))) fun HJ=>some (.inr HJ)) (some (.inl (i64.wrap (0 - AK),(⟨Pj.vD,pW⟩:am),(⟨Pi.vD,tL⟩:am)))))
def jt(aZ:am)(nO:am):Option Int:=bnd (aW aZ) fun x1=>bnd (aW nO) fun x3=>bnd (S:=Bool) (cnd (!x1) (some (!x3)) (some (false))) fun aP=>cnd aP (some (0:Int)) (cnd (!x1) (some (-1:Int)) (cnd (!x3) (some (1:Int)) (bnd (bo (jb) ((1:Int),aZ,nO)) fun vl=>some vl)))
theorem sQ {aZ:am}{nO:am}{r:Int}(h:jt aZ nO=some r):ar prog 32 [dG ak aZ,dG ak nO] (dI .i64 r):=by
 refine bn (rs:=[.tmp 4]) (fun cx hx h0=>?_) func32
 unfold jt at h
 refine ra hx ?_
 refine AW.scope (rsd [92] hx fun K hK=>?_)
 refine mbr ?_
 refine cqb h cj fun x1 h=>?_
 refine mbr ?_
 refine cqb h cj fun x3 h=>?_
 refine nbr hK ?_
 refine AW.seq (AW.block (AW.seq ?_))
 obtain⟨aP,hy,h⟩:=ae h
 refine jn ((PE cx .normal (fun aP=>[(2,.pt 0 0),(3,.pt 1 0),(5,dB x1),(6,dB x3),(15,dB aP)]) fun aP=>⟨[(0,dC (ak.f aZ)),(1,dC (ak.f nO))],[],2⟩) aP) ?_ ?_
 replace h:=hy
 refine rq hx fun K hK=>?_
 refine mbr ?_
 rcases aF h with⟨rW,h⟩|⟨rW,h⟩
 refine nbr hK ?_
 exact pe1 h h0 [0,1]
 refine nbr hK ?_
 exact pe1 h h0 [0,1]
 refine lw0 ?_
 refine cdh h rfl (fun t8 h=>?_) (fun t8 h=>?_)
 refine ra hx ?_
 exact AW.ret (rtv h)
 refine ra hx ?_
 refine cdh h rfl (fun t7 h=>?_) (fun t7 h=>?_)
 refine ra hx ?_
 exact AW.ret (rtv h)
 refine ra hx ?_
 refine cdh h rfl (fun KD h=>?_) (fun KD h=>?_)
 refine ra hx ?_
 exact AW.ret (rtv h)
 refine AW.skip (ra hx ?_)
 refine AW.seq (AW.label (AW.seq (AW.block ?_)))
 obtain⟨vl,hy,h⟩:=ae h
 refine lp (S:=Int×am×am) (X:=Int) (fun (AK,Pj,Pi)=>[(2,.pt 0 0),(3,.pt 1 0),(7,dI .i64 AK)]) (fun (AK,Pj,Pi)=>⟨[(0,dC (ak.f Pj)),(1,dC (ak.f Pi))],[],2⟩) (PE cx (.exit 1) (fun vl=>[(7,dI .i64 vl)]) fun vl=>⟨[],[],0⟩) hy ?_ ?_ ?_
 exact wk0 h0 [0,1]
 clear hy h
 rintro⟨AK,Pj,Pi⟩ y h
 dsimp only[jb] at h
 refine AW.block (AW.seq (rsd [97,96] hx fun K hK=>?_))
 refine mbr ?_
 refine cqb h kF fun l5 h=>?_
 refine mbr ?_
 refine cqb h kF fun m9 h=>?_
 refine cqb h JJ fun pX h=>?_
 refine nbr hK ?_
 refine ra hx ?_
 refine cdh h rfl (fun tz h=>?_) (fun tz h=>?_)
 refine ra hx ?_
 exact AW.exit (per h h0 [])
 refine AW.skip (AW.seq ?_)
 obtain⟨pW,v8,h⟩:=ae h
 obtain⟨tL,Al,h⟩:=ae h
 refine jn (PE cx .normal (fun (_:Unit)=>[(2,.pt 0 0),(3,.pt 1 0),(7,dI .i64 AK)]) (fun (_:Unit)=>⟨[(0,dC (ak.f (⟨Pj.vD,pW⟩:am))),(1,dC (ak.f (⟨Pi.vD,tL⟩:am)))],[],2⟩) ()) ?_ ?_
 refine dw (DW.split 9 16 (by decide) ?_ ?_)
 refine dwg [98] [0,1,2,3,4,5,6,7,8,9,10,11,12,13,14,15,16,17] hx (by kernel_rfl) (by kernel_rfl) (by kernel_rfl) fun K hK=>?_
 dsimp only[eh,mM,mW,List.map]
 refine mbr ?_
 refine cq (sM v8) ?_
 refine s1 (d:=dG ak (⟨Pj.vD,pW⟩:am)) (g8 (FL.cons (y:=Pj.vD) (jT kJ) rfl rfl (FL.cons (y:=pW) (jU (⟨Pj.vD,ci⟩:am)) rfl rfl (FL.nil _))) aO) ?_
 refine mbr ?_
 refine cq (sM Al) ?_
 refine s1 (d:=dG ak (⟨Pi.vD,tL⟩:am)) (g8 (FL.cons (y:=Pi.vD) (jT kJ) rfl rfl (FL.cons (y:=tL) (jU (⟨Pi.vD,ci⟩:am)) rfl rfl (FL.nil _))) aO) ?_
 iterate 2 refine tzr ?_
 exact .nil (hK _ _ (pe0 h0 [0,1]))
 refine dwg [98] [0,1,2,3,4,5,6,7,8,10,11,12,13,14,16,9,15,17] hx (by kernel_rfl) (by kernel_rfl) (by kernel_rfl) fun K hK=>?_
 dsimp only[eh,mM,mW,List.map]
 refine mbr ?_
 refine cq (sM v8) ?_
 refine s1 (d:=dG ak (⟨Pj.vD,pW⟩:am)) (g8 (FL.cons (y:=Pj.vD) (jT kJ) rfl rfl (FL.cons (y:=pW) (jU (⟨Pj.vD,ci⟩:am)) rfl rfl (FL.nil _))) aO) ?_
 refine mbr ?_
 refine cq (sM Al) ?_
 refine tzr ?_
 refine sbr ?_
 refine s1 (d:=dG ak (⟨Pi.vD,tL⟩:am)) (g8 (FL.cons (y:=Pi.vD) (jT kJ) rfl rfl (FL.cons (y:=tL) (jU (⟨Pi.vD,ci⟩:am)) rfl rfl (FL.nil _))) aO) ?_
 refine tzr ?_
 exact .nil (hK _ _ (pe0 h0 [0,1]))
 refine lw0 ?_
 refine rsd [95] hx fun K hK=>?_
 refine mbr ?_
 refine cqb h kM fun wh h=>?_
 refine mbr ?_
 refine cqb h kM fun xY h=>?_
 refine nbr hK ?_
 iterate 2 refine AW.seq ?_
 obtain⟨uj,hy,h⟩:=ae h
 refine jn ((PE cx .normal (fun uj=>[(2,.pt 0 0),(3,.pt 1 0),(7,dI .i64 AK),(9,dI .i64 wh),(10,dI .i64 xY),(71,dB uj)]) fun uj=>⟨[(0,dC (ak.f (⟨Pj.vD,pW⟩:am))),(1,dC (ak.f (⟨Pi.vD,tL⟩:am)))],[],2⟩) uj) ?_ ?_
 replace h:=hy
 refine rq hx fun K hK=>?_
 refine mbr ?_
 rcases aF h with⟨hb25,h⟩|⟨hb25,h⟩
 refine nbr hK ?_
 exact pe1 h h0 [0,1]
 refine nbr hK ?_
 exact pe1 h h0 [0,1]
 refine lw0 ?_
 refine cdh h rfl (fun Tj h=>?_) (fun Tj h=>?_)
 refine rs hx fun K hK=>?_
 iterate 5 refine sa ?_
 obtain⟨HJ,Iq,h⟩:=ae h
 replace Iq:=bw Iq
 refine s2 (d2:=dI .i64 HJ) kE (fq (congrArg (dI .i64) Iq)) ?_
 refine nl hK ?_
 exact AW.exit (per h h0 [])
 refine AW.skip (rb hx ?_)
 exact pel h h0 [0,1]
 refine lw0 ?_
 refine ra hx ?_
 exact AW.ret (rtv h)
def mj :Option ap:=bnd (eR (1:Int)) fun x1=>some x1
theorem wq  {r:ap}(h:mj=some r):ar prog 125 [] (dG aq r):=by
 refine bn (rs:=[.cell 0 41]) (fun cx hx h0=>?_) func125
 unfold mj at h
 refine rar hx ?_
 refine rs hx fun K hK=>?_
 refine scb h iu fun x1 h=>?_
 refine nbr hK ?_
 exact AW.ret (rtv h)
def fj(aZ:am):Option Bool:=bnd (S:=Bool) (bnd (bk aZ.vN) fun x1=>cnd (!x1) (some (true)) (bnd (bk aZ.vD) fun x4=>some (!x4))) fun dP=>cnd dP (some false) (bnd (S:=Bool) (bnd (kU aZ.vD) fun x8=>cnd (decide ((0:Int)<x8)) (bnd (mm aZ.vN aZ.vD) fun sL=>bnd (mj) fun qw=>some (decide (sL=qw))) (some (false))) fun o7=>some o7)
theorem mz {aZ:am}{r:Bool}(h:fj aZ=some r):ar prog 89 [dG ak aZ] (dB r):=by
 refine bn (rs:=[.tmp 2]) (fun cx hx h0=>?_) func89
 unfold fj at h
 refine ra hx ?_
 iterate 2 refine AW.seq ?_
 obtain⟨dP,hy,h⟩:=ae h
 refine jn ((PE cx .normal (fun dP=>[(1,.pt 0 0),(12,dB dP)]) fun dP=>⟨[(0,dC (ak.f aZ))],[],1⟩) dP) ?_ ?_
 replace h:=hy
 refine rq hx fun K hK=>?_
 refine mbr ?_
 refine scb h cv fun x1 h=>?_
 refine mbr ?_
 rcases aF h with⟨fZ,h⟩|⟨fZ,h⟩
 refine nbr hK ?_
 exact pe1 h h0 [0]
 refine ga fZ ?_
 refine gbr ?_
 refine gcb h cv fun x4 h=>?_
 refine nbr hK ?_
 exact pe1 h h0 [0]
 refine lw0 ?_
 refine cdh h rfl (fun t8 h=>?_) (fun t8 h=>?_)
 refine ra hx ?_
 exact AW.ret (rtv h)
 refine AW.skip (AW.seq ?_)
 obtain⟨o7,hy,h⟩:=ae h
 refine jn ((PE cx .normal (fun o7=>[(2,dB o7)]) fun o7=>⟨[],[],0⟩) o7) ?_ ?_
 replace h:=hy
 refine rq hx fun K hK=>?_
 refine mbr ?_
 refine scb h uB fun x8 h=>?_
 refine mbr ?_
 rcases aF h with⟨nG,h⟩|⟨nG,h⟩
 refine ga nG ?_
 refine gbr ?_
 refine ga nG ?_
 refine gbr ?_
 refine gcb h wt fun sL h=>?_
 refine gcb h wq fun qw h=>?_
 refine g1 nG (Cf tok 3 (by decide) eZ ff) ?_
 refine nbr hK ?_
 exact pe1 h h0 []
 refine nbr hK ?_
 exact pe1 h h0 []
 refine lw0 ?_
 exact AW.ret (rtv h)
def nV :Option am:=bnd (fy) fun x1=>bnd (mj) fun x3=>some (⟨x1,x3⟩:am)
theorem sO  {r:am}(h:nV=some r):ar prog 67 [] (dG ak r):=by
 refine bn (rs:=[.cell 0 43]) (fun cx hx h0=>?_) func67
 unfold nV at h
 refine rar hx ?_
 refine rs hx fun K hK=>?_
 refine scb h kG fun x1 h=>?_
 refine scb h wq fun x3 h=>?_
 refine s1 (d:=dG ak (⟨x1,x3⟩:am)) (g8 (FL.cons (y:=x1) (jT kJ) rfl rfl (FL.cons (y:=x3) (jU (⟨x1,ci⟩:am)) rfl rfl (FL.nil _))) aO) ?_
 refine nbr hK ?_
 exact AW.ret (rtv h)
def f9(cU:ap)(Aa:ap):Option am:=bnd (S:=Bool) (bnd (bk cU) fun x1=>cnd (!x1) (some (true)) (bnd (bk Aa) fun x4=>cnd (!x4) (some (true)) (bnd (kU Aa) fun x7=>some (decide (x7=(0:Int)))))) fun dP=>cnd dP (bnd (nV) fun sL=>some sL) (bnd (mm cU Aa) fun qw=>bnd (S:=ap) (bnd (kU Aa) fun JD=>cnd (decide (JD<(0:Int))) (bnd (ql qw) fun sG=>some (sG)) (some (qw))) fun eC=>bnd (kI cU eC) fun wh=>bnd (kI Aa eC) fun xY=>some (⟨wh,xY⟩:am))
theorem my {cU:ap}{Aa:ap}{r:am}(h:f9 cU Aa=some r):ar prog 126 [dG aq cU,dG aq Aa] (dG ak r):=by
 refine bn (rs:=[.cell 4 43]) (fun cx hx h0=>?_) func126
 unfold f9 at h
 refine rar hx ?_
 iterate 2 refine AW.seq ?_
 obtain⟨dP,hy,h⟩:=ae h
 refine jn ((PE cx .normal (fun dP=>[(2,.pt 0 0),(3,.pt 1 0),(4,.pt 2 0),(18,dB dP)]) fun dP=>⟨[(0,dC (aq.f cU)),(1,dC (aq.f Aa)),(2,dC (ak.f kJ))],[],3⟩) dP) ?_ ?_
 replace h:=hy
 refine rq hx fun K hK=>?_
 refine mbr ?_
 refine scb h cv fun x1 h=>?_
 refine mbr ?_
 rcases aF h with⟨fZ,h⟩|⟨fZ,h⟩
 refine nbr hK ?_
 exact pe1 h h0 [0,1,2]
 refine gbr ?_
 refine gcb h cv fun x4 h=>?_
 refine mbr ?_
 rcases aF h with⟨rp,h⟩|⟨rp,h⟩
 refine nbr hK ?_
 exact pe1 h h0 [0,1,2]
 refine gbr ?_
 refine gcb h uB fun x7 h=>?_
 refine nbr hK ?_
 exact pe1 h h0 [0,1,2]
 refine lw0 ?_
 refine cdh h rfl (fun nG h=>?_) (fun nG h=>?_)
 refine rs hx fun K hK=>?_
 refine scb h sO fun sL h=>?_
 refine nbr hK ?_
 exact AW.ret (rtv h)
 refine AW.skip (rs hx fun K hK=>?_)
 refine mbr ?_
 refine scb h wt fun qw h=>?_
 refine nbr hK ?_
 refine AW.seq ?_
 obtain⟨eC,hy,h⟩:=ae h
 refine jn ((PE cx .normal (fun eC=>[(2,.pt 0 0),(3,.pt 1 0),(4,.pt 2 0),(5,.pt 3 0)]) fun eC=>⟨[(0,dC (aq.f cU)),(1,dC (aq.f Aa)),(2,dC (ak.f kJ)),(3,dC (aq.f eC))],[],4⟩) eC) ?_ ?_
 replace h:=hy
 refine rs hx fun K hK=>?_
 refine mbr ?_
 refine scb h uB fun JD h=>?_
 refine nbr hK ?_
 refine cdh h rfl (fun Ix h=>?_) (fun Ix h=>?_)
 refine rq hx fun K hK=>?_
 refine mbr ?_
 refine scb h JO fun sG h=>?_
 refine nbr hK ?_
 exact pe1 h h0 [0,1,2,3]
 exact AW.skip (pe1 h h0 [0,1,2,3])
 refine lw0 ?_
 refine rsd [128] hx fun K hK=>?_
 refine mbr ?_
 refine cqb h sP fun wh h=>?_
 refine mbr ?_
 refine cqb h sP fun xY h=>?_
 refine s1 (d:=dG ak (⟨wh,xY⟩:am)) (g8 (FL.cons (y:=wh) (jT kJ) rfl rfl (FL.cons (y:=xY) (jU (⟨wh,ci⟩:am)) rfl rfl (FL.nil _))) aO) ?_
 refine nbr hK ?_
 exact AW.ret (rtv h)
def wM(aZ:am)(nO:am):Option am:=bnd (S:=Bool) (bnd (fj aZ) fun x1=>cnd (!x1) (some (true)) (bnd (fj nO) fun x4=>some (!x4))) fun dP=>cnd dP (bnd (nV) fun x8=>some x8) (bnd (mm aZ.vD nO.vD) fun l5=>bnd (kI aZ.vD l5) fun m9=>bnd (kI nO.vD l5) fun pX=>bnd (ml aZ.vN pX) fun AV=>bnd (ml nO.vN m9) fun sG=>bnd (wN AV sG) fun FY=>bnd (ml m9 nO.vD) fun CS=>bnd (f9 FY CS) fun zF=>some zF)
theorem JM {aZ:am}{nO:am}{r:am}(h:wM aZ nO=some r):ar prog 69 [dG ak aZ,dG ak nO] (dG ak r):=by
 refine bn (rs:=[.cell 4 43]) (fun cx hx h0=>?_) func69
 unfold wM at h
 refine rar hx ?_
 iterate 2 refine AW.seq ?_
 obtain⟨dP,hy,h⟩:=ae h
 refine jn ((PE cx .normal (fun dP=>[(2,.pt 0 0),(3,.pt 1 0),(4,.pt 2 0),(15,dB dP)]) fun dP=>⟨[(0,dC (ak.f aZ)),(1,dC (ak.f nO)),(2,dC (ak.f kJ))],[],3⟩) dP) ?_ ?_
 replace h:=hy
 refine rq hx fun K hK=>?_
 refine mbr ?_
 refine scb h mz fun x1 h=>?_
 refine mbr ?_
 rcases aF h with⟨fZ,h⟩|⟨fZ,h⟩
 refine nbr hK ?_
 exact pe1 h h0 [0,1,2]
 refine gbr ?_
 refine gcb h mz fun x4 h=>?_
 refine nbr hK ?_
 exact pe1 h h0 [0,1,2]
 refine lw0 ?_
 refine cdh h rfl (fun t8 h=>?_) (fun t8 h=>?_)
 refine rs hx fun K hK=>?_
 refine scb h sO fun x8 h=>?_
 refine nbr hK ?_
 exact AW.ret (rtv h)
 refine AW.skip (rs hx fun K hK=>?_)
 refine mbr ?_
 refine scb h wt fun l5 h=>?_
 refine nbr hK ?_
 refine rs hx fun K hK=>?_
 refine mbr ?_
 refine scb h sP fun m9 h=>?_
 refine nbr hK ?_
 refine rs hx fun K hK=>?_
 refine mbr ?_
 refine scb h sP fun pX h=>?_
 refine nbr hK ?_
 refine rsd [130,129,126] hx fun K hK=>?_
 refine mbr ?_
 refine cqb h pY fun AV h=>?_
 refine mbr ?_
 refine cqb h pY fun sG h=>?_
 refine cqb h JP fun FY h=>?_
 refine mbr ?_
 refine cqb h pY fun CS h=>?_
 refine cqb h my fun zF h=>?_
 refine nbr hK ?_
 exact AW.ret (rtv h)
def wK(aZ:am)(nO:am):Option am:=bnd (S:=Bool) (bnd (fj aZ) fun x1=>cnd (!x1) (some (true)) (bnd (fj nO) fun x4=>some (!x4))) fun dP=>cnd dP (bnd (nV) fun x8=>some x8) (bnd (f9 aZ.vN nO.vD) fun l5=>bnd (f9 nO.vN aZ.vD) fun m9=>bnd (ml l5.vN m9.vN) fun pX=>bnd (ml l5.vD m9.vD) fun AV=>bnd (f9 pX AV) fun sG=>some sG)
theorem JL {aZ:am}{nO:am}{r:am}(h:wK aZ nO=some r):ar prog 70 [dG ak aZ,dG ak nO] (dG ak r):=by
 refine bn (rs:=[.cell 4 43]) (fun cx hx h0=>?_) func70
 unfold wK at h
 refine rar hx ?_
 iterate 2 refine AW.seq ?_
 obtain⟨dP,hy,h⟩:=ae h
 refine jn ((PE cx .normal (fun dP=>[(2,.pt 0 0),(3,.pt 1 0),(4,.pt 2 0),(16,dB dP)]) fun dP=>⟨[(0,dC (ak.f aZ)),(1,dC (ak.f nO)),(2,dC (ak.f kJ))],[],3⟩) dP) ?_ ?_
 replace h:=hy
 refine rq hx fun K hK=>?_
 refine mbr ?_
 refine scb h mz fun x1 h=>?_
 refine mbr ?_
 rcases aF h with⟨fZ,h⟩|⟨fZ,h⟩
 refine nbr hK ?_
 exact pe1 h h0 [0,1,2]
 refine gbr ?_
 refine gcb h mz fun x4 h=>?_
 refine nbr hK ?_
 exact pe1 h h0 [0,1,2]
 refine lw0 ?_
 refine cdh h rfl (fun t8 h=>?_) (fun t8 h=>?_)
 refine rs hx fun K hK=>?_
 refine scb h sO fun x8 h=>?_
 refine nbr hK ?_
 exact AW.ret (rtv h)
 refine AW.skip (rs hx fun K hK=>?_)
 refine mbr ?_
 refine scb h my fun l5 h=>?_
 refine nbr hK ?_
 refine rs hx fun K hK=>?_
 refine mbr ?_
 refine scb h my fun m9 h=>?_
 refine nbr hK ?_
 refine rs hx fun K hK=>?_
 refine mbr ?_
 refine scb h pY fun pX h=>?_
 refine nbr hK ?_
 refine rs hx fun K hK=>?_
 refine mbr ?_
 refine scb h pY fun AV h=>?_
 refine nbr hK ?_
 refine rs hx fun K hK=>?_
 refine mbr ?_
 refine scb h my fun sG h=>?_
 refine nbr hK ?_
 exact AW.ret (rtv h)
def pz(cU:Int):Option am:=bnd (eR cU) fun x1=>bnd (mj) fun x3=>bnd (f9 x1 x3) fun x5=>some x5
theorem DE {cU:Int}{r:am}(h:pz cU=some r):ar prog 68 [dI .i64 cU] (dG ak r):=by
 refine bn (rs:=[.cell 2 43]) (fun cx hx h0=>?_) func68
 unfold pz at h
 refine rar hx ?_
 refine rs hx fun K hK=>?_
 refine sa ?_
 refine scb h iu fun x1 h=>?_
 refine scb h wq fun x3 h=>?_
 refine scb h my fun x5 h=>?_
 refine nbr hK ?_
 exact AW.ret (rtv h)
def mD(aK:Int)(aQ:Int):Option am:=bnd (eR aK) fun x1=>bnd (eR aQ) fun x3=>bnd (f9 x1 x3) fun x5=>some x5
theorem zM {aK:Int}{aQ:Int}{r:am}(h:mD aK aQ=some r):ar prog 102 [dI .i64 aK,dI .i64 aQ] (dG ak r):=by
 refine bn (rs:=[.cell 4 43]) (fun cx hx h0=>?_) func102
 unfold mD at h
 refine rar hx ?_
 refine rs hx fun K hK=>?_
 refine sa ?_
 refine scb h iu fun x1 h=>?_
 refine sa ?_
 refine scb h iu fun x3 h=>?_
 refine scb h my fun x5 h=>?_
 refine nbr hK ?_
 exact AW.ret (rtv h)
def lZ(q:Rat):Prop:=q.num.natAbs<LIM∧q.den<LIM
instance(q:Rat):Decidable (lZ q):=by unfold lZ;exact inferInstance
def kW(q:Rat):am:=⟨enc q.num,enc (q.den:Int)⟩
def GH:am:=⟨La,enc 1⟩
def BN:Option Rat→am
 |some q=>kW q
 |none=>GH
def okR(x:am):Prop:=okI x.vN∧okI x.vD
theorem uK(o:Option Rat):okR (BN o):=by
 cases o with
 |some q=>exact⟨Dh _,Dh _⟩
 |none=>
  refine⟨fun j hj=>?_,Dh _⟩
  show 0≤(W 0)[j]!∧(W 0)[j]! <4294967296
  rw[gO hj];have:=@dgl 0 j;omega
theorem TU {p q:Rat}(hp:lZ p)(hq:lZ q)(h:kW p=kW q):p=q:=by
 unfold kW at h
 simp only[am.mk.injEq] at h
 have h1:=Ax hp.1 hq.1 h.1
 have h2:=Ax (by simpa using hp.2) (by simpa using hq.2) h.2
 exact Rat.ext h1 (by omega)
theorem uQ {z:Int}:d8 (enc z)=decide (z.natAbs<LIM):=by
 by_cases h:z.natAbs<LIM
 ·rw[bg h,aB h]
 ·rw[EB h,He,bp h]
theorem KV {q:Rat}(h:lZ q):kW q≠GH:=by
 intro e
 have:d8 (kW q).vN=d8 GH.vN:=by rw[e]
 rw[show (kW q).vN=enc q.num from rfl,bg h.1] at this
 cases this
def ct(x:am):Option Rat:=open Classical in if h:∃q,lZ q∧x=kW q then some (Classical.choose h) else none
theorem dK {x:am}{q:Rat}:ct x=some q↔lZ q∧x=kW q:=by
 unfold ct
 split
 ·rename_i h
  obtain⟨h1,h2⟩:=EW h
  constructor
  ·intro e
   injection e with e
   rw[←e];exact⟨h1,h2⟩
  ·rintro⟨h3,h4⟩
   congr 1
   exact TU h1 h3 (h2.symm.trans h4)
 ·rename_i h
  constructor
  ·intro e;cases e
  ·rintro h3;exact absurd ⟨q,h3⟩ h
theorem AY {x:am}:ct x=none↔∀q,lZ q→x≠kW q:=by
 constructor
 ·intro h q hq e
  rw[dK.2 ⟨hq,e⟩] at h;cases h
 ·intro h
  cases hx:ct x with
  |none=>rfl
  |some q=>exact absurd (dK.1 hx).2 (h q (dK.1 hx).1)
theorem wz {q:Rat}(h:lZ q):ct (kW q)=some q:=dK.2 ⟨h,rfl⟩
theorem Rp:ct GH=none:=AY.2 fun _ hq e=>KV hq e.symm
def BI(o:Option Rat):Prop:=∀q,o=some q→lZ q
theorem AZ {o:Option Rat}(h:BI o):ct (BN o)=o:=by
 cases o with
 |none=>exact Rp
 |some q=>exact wz (h q rfl)
theorem Ey(x:am):BI (ct x):=fun _ h=>(dK.1 h).1
theorem pB:BI none:=fun _ h=>by cases h
theorem TP {g k:Int}(h:g≠0):(g*k).fdiv g=k:=Int.mul_fdiv_cancel_left _ h
theorem O0 {g k:Int}(h:g≠0):(g*k).fdiv (-g)=-k:=by
 rw[show g*k=-g*-k from (Int.neg_mul_neg g k).symm]
 exact Int.mul_fdiv_cancel_left _ (by omega)
theorem oy {n d:Int}(hd:d≠0):∃k m:Int,n=(Nat.gcd n.natAbs d.natAbs:Nat)*k∧d=(Nat.gcd n.natAbs d.natAbs:Nat)*m∧m≠0∧(Rat.divInt n d).num=d.sign*k∧((Rat.divInt n d).den:Int)=d.sign*m:=by
 have hg0:Nat.gcd n.natAbs d.natAbs≠0:=by
  intro h
  have:=(Nh.1 h).2
  omega
 have Cy:((Nat.gcd n.natAbs d.natAbs:Nat):Int)≠0:=by omega
 obtain⟨k,hk⟩:((Nat.gcd n.natAbs d.natAbs:Nat):Int) ∣ n:=Int.ofNat_dvd_left.2 (Nat.gcd_dvd_left _ _)
 obtain⟨m,hm⟩:((Nat.gcd n.natAbs d.natAbs:Nat):Int) ∣ d:=Int.ofNat_dvd_left.2 (Nat.gcd_dvd_right _ _)
 have OM:((Int.gcd d n:Nat):Int)=((Nat.gcd n.natAbs d.natAbs:Nat):Int):=by
  rw[Int.gcd_comm];rfl
 have hmm:m≠0:=by
  intro h
  rw[h,Int.mul_zero] at hm
  exact hd hm
 refine⟨k,m,hk,hm,hmm,?_,?_⟩
 ·rw[Rat.num_divInt,OM]
  generalize ((Nat.gcd n.natAbs d.natAbs:Nat):Int)=g at hk Cy ⊢
  rw[hk,I0,Int.mul_ediv_cancel_left _ Cy]
 ·rw[Rat.den_divInt,ah hd]
  have e:((d.natAbs / Int.gcd d n:Nat):Int)=(d.natAbs:Int) / ((Int.gcd d n:Nat):Int):=Ng ..
  rw[e,OM]
  have e2:(d.natAbs:Int)=d.sign*d:=by rw[Int.sign_mul_self]
  rw[e2]
  generalize ((Nat.gcd n.natAbs d.natAbs:Nat):Int)=g at hm Cy ⊢
  have e3:d.sign*d=g*(d.sign*m):=by
   conv=>lhs;rhs;rw[hm]
   rw[I0]
  rw[e3,Int.mul_ediv_cancel_left _ Cy]
theorem zd {n d:Int}(hd:d≠0)(h1:n.natAbs<LIM)(h2:d.natAbs<LIM):lZ (Rat.divInt n d):=by
 obtain⟨k,m,hk,hm,FP,e1,e2⟩:=oy (n:=n) hd
 have hg0:Nat.gcd n.natAbs d.natAbs≠0:=by
  intro h
  have:=(Nh.1 h).2
  omega
 have hs:d.sign.natAbs=1:=by rw[Int.natAbs_sign,ah hd]
 refine⟨?_,?_⟩
 ·rw[e1,oJ,hs,eU]
  refine dY ?_ h1
  conv=>rhs;rw[hk]
  rw[oJ,dX]
  exact vd _ (zq hg0)
 ·have:(Rat.divInt n d).den=(d.sign*m).natAbs:=by omega
  rw[this,oJ,hs,eU]
  refine dY ?_ h2
  conv=>rhs;rw[hm]
  rw[oJ,dX]
  exact vd _ (zq hg0)
theorem Kj {n d:Int}(hd:d≠0):n.fdiv (bif decide (d<0) then -((Nat.gcd n.natAbs d.natAbs:Nat):Int) else ((Nat.gcd n.natAbs d.natAbs:Nat):Int))=(Rat.divInt n d).num∧d.fdiv (bif decide (d<0) then -((Nat.gcd n.natAbs d.natAbs:Nat):Int) else ((Nat.gcd n.natAbs d.natAbs:Nat):Int))=((Rat.divInt n d).den:Int):=by
 obtain⟨k,m,hk,hm,FP,e1,e2⟩:=oy (n:=n) hd
 have Cy:((Nat.gcd n.natAbs d.natAbs:Nat):Int)≠0:=by
  intro h
  rw[h,I3] at hm
  exact hd hm
 rw[e1,e2]
 generalize ((Nat.gcd n.natAbs d.natAbs:Nat):Int)=g at hk hm Cy ⊢
 by_cases h:d<0
 ·rw[aB h,ku,w7 h]
  constructor
  ·rw[hk,O0 Cy];omega
  ·rw[hm,O0 Cy];omega
 ·rw[bp h,cond_false,sf (by omega)]
  constructor
  ·rw[hk,TP Cy];omega
  ·rw[hm,TP Cy];omega
theorem IB {n d:Int}(hd:d≠0)(h2:d.natAbs<LIM):Nat.gcd n.natAbs d.natAbs<LIM∧Nat.gcd n.natAbs d.natAbs≠0:=
 ⟨dY (Nat.gcd_le_right _ (by omega)) h2,fun h=>by have:=(Nh.1 h).2;omega⟩
theorem Ps:mn=some (enc 1):=by
 unfold mn
 rw[NU (by decide) (by decide),ab]
theorem pV(x:ap):js x=some (d8 x):=by
 unfold js
 rw[Pv,ab,Ub,ab]
 congr 1
 unfold d8
 cases x.vBad <;> rfl
theorem xn:fC=some GH:=by
 unfold fC
 rw[PA,Ps,ab,ab]
 rfl
theorem TE {n d:Int}(hn:n.natAbs<LIM)(hd:d.natAbs<LIM):(∃q,lZ q∧(⟨enc n,enc d⟩:am)=kW q)↔0<d∧Nat.gcd n.natAbs d.natAbs=1:=by
 constructor
 ·rintro⟨q,hq,e⟩
  unfold kW at e
  simp only[am.mk.injEq] at e
  have e1:=Ax hn hq.1 e.1
  have e2:=Ax hd (by simpa using hq.2) e.2
  subst e1;subst e2
  exact⟨by have:=q.den_pos;omega,by rw[dX];exact q.reduced⟩
 ·rintro⟨h1,h2⟩
  refine⟨⟨n,d.natAbs,by omega,h2⟩,⟨hn,hd⟩,?_⟩
  unfold kW
  simp only[am.mk.injEq,true_and]
  congr 1
  omega
theorem iM {x:am}(hx:okR x):aW x=some (ct x).isSome:=by
 obtain⟨n,d⟩:=x
 obtain⟨h1,h2⟩:=hx
 dsimp only at h1 h2
 have hb:∀b:Bool,(b=true↔∃q,lZ q∧(⟨n,d⟩:am)=kW q)→(ct ⟨n,d⟩).isSome=b:=by
  intro b hb
  cases hv:ct ⟨n,d⟩ with
  |none=>
   cases b with
   |false=>rfl
   |true=>
    obtain⟨q,h3,h4⟩:=hb.1 rfl
    exact absurd h4 (AY.1 hv q h3)
  |some q=>exact ((hb.2 ⟨q,dK.1 hv⟩).symm)
 unfold aW
 dsimp only
 rw[pV,pV,ab,ab]
 cases Cy:d8 n with
 |false=>
  rw[aI,ab,hb false]
  constructor
  ·intro h;cases h
  ·rintro⟨q,hq,e⟩
   unfold kW at e
   simp only[am.mk.injEq] at e
   rw[e.1,bg hq.1] at Cy;cases Cy
 |true=>
  cases Ep:d8 d with
  |false=>
   rw[gv,aI,ab,hb false]
   constructor
   ·intro h;cases h
   ·rintro⟨q,hq,e⟩
    unfold kW at e
    simp only[am.mk.injEq] at e
    rw[e.2,bg (by simpa using hq.2)] at Ep;cases Ep
  |true=>
   obtain⟨n,hn,rfl⟩:=At h1 Cy
   obtain⟨d,hd,rfl⟩:=At h2 Ep
   have Jz:=TE hn hd
   rw[gv,gv,xo hd,ab,Pz hn hd,ab,Ps,ab,gf]
   by_cases h0:0<d
   ·rw[ai (by rw[sf h0];decide),ab]
    congr 1
    symm
    refine hb _ ?_
    rw[Jz,decide_eq_true_iff]
    have OL:=(IB (n:=n) (show d≠0 by omega) hd).1
    constructor
    ·intro h
     have:=Ax (by simpa using OL) (by decide) h
     exact⟨h0,by omega⟩
    ·rintro⟨_,h⟩
     rw[h];rfl
   ·rw[ah (by rw[Int.sign_pos_iff];exact h0),ab]
    congr 1
    symm
    refine hb _ ?_
    rw[Jz]
    constructor
    ·intro h;cases h
    ·rintro⟨h,_⟩;exact absurd h h0
theorem FF {n d:Int}(hn:n.natAbs<LIM)(hd:d.natAbs<LIM)(h0:d≠0):dh (enc n) (enc d)=some (kW (Rat.divInt n d)):=by
 obtain⟨Cy,Ep⟩:=IB (n:=n) h0 hd
 obtain⟨e1,e2⟩:=Kj (n:=n) h0
 have OL:(((Nat.gcd n.natAbs d.natAbs:Nat):Int)).natAbs<LIM:=by simpa using Cy
 unfold dh
 rw[pV,pV,ab,ab,bg hn,bg hd,c9,aI,aI,xo hd,ab,ab,ce _ _ (by rw[BZ];exact h0),Pz hn hd,ab,ab,Vw OL,ab]
 have SH:(cnd (decide (d.sign<(0:Int))) (some (enc (-((Nat.gcd n.natAbs d.natAbs:Nat):Int)))) (some (enc ((Nat.gcd n.natAbs d.natAbs:Nat):Int))))=some (enc (bif decide (d<0) then -((Nat.gcd n.natAbs d.natAbs:Nat):Int) else ((Nat.gcd n.natAbs d.natAbs:Nat):Int))):=by
  by_cases h:d<0
  ·rw[cu _ _ (by rw[E1];exact h),aB h];rfl
  ·rw[ce _ _ (by rw[E1];exact h),bp h];rfl
 have FK:((bif decide (d<0) then -((Nat.gcd n.natAbs d.natAbs:Nat):Int) else ((Nat.gcd n.natAbs d.natAbs:Nat):Int))).natAbs<LIM∧(bif decide (d<0) then -((Nat.gcd n.natAbs d.natAbs:Nat):Int) else ((Nat.gcd n.natAbs d.natAbs:Nat):Int))≠0:=by
  cases decide (d<0)
  ·simp only[cond_false];omega
  ·simp only[ku];omega
 rw[SH,ab,HH hn FK.1 FK.2,ab,HH hd FK.1 FK.2,ab,e1,e2]
 rfl
theorem LH {x:ap}:dh x (enc 0)=some GH:=by
 unfold dh
 rw[pV,pV,ab,ab,xo (by decide),ab,bg (by decide),xn,ab]
 cases d8 x <;> rfl
theorem FE {x y:ap}(h:(d8 x&&d8 y)=false):dh x y=some GH:=by
 unfold dh
 rw[pV,pV,ab,ab,xn,ab]
 cases h1:d8 x with
 |false=>rfl
 |true=>
  cases h2:d8 y with
  |false=>rfl
  |true=>rw[h1,h2] at h;cases h
def CV(x y:Rat):Option Rat:=
 if (x.num*((y.den / Nat.gcd x.den y.den:Nat):Int)).natAbs<LIM∧(y.num*((x.den / Nat.gcd x.den y.den:Nat):Int)).natAbs<LIM∧(x.num*((y.den / Nat.gcd x.den y.den:Nat):Int)+y.num*((x.den / Nat.gcd x.den y.den:Nat):Int)).natAbs<LIM∧x.den / Nat.gcd x.den y.den*y.den<LIM then some (x+y) else none
def Bj(x y:Rat):Option Rat:=if lZ (x*y) then some (x*y) else none
theorem Lo(x y:Rat):Rat.divInt (x.num*((y.den / Nat.gcd x.den y.den:Nat):Int)+y.num*((x.den / Nat.gcd x.den y.den:Nat):Int)) ((x.den / Nat.gcd x.den y.den*y.den:Nat):Int)=x+y:=by
 have hx:=x.den_pos
 have hy:=y.den_pos
 have hg:0<Nat.gcd x.den y.den:=Nf _ hx
 obtain⟨p,hp⟩:=Nat.gcd_dvd_left x.den y.den
 obtain⟨q,hq⟩:=Nat.gcd_dvd_right x.den y.den
 have e1:x.den / Nat.gcd x.den y.den=p:=by
                         conv=>lhs;lhs;rw[hp]
                         exact Nx _ hg
 have e2:y.den / Nat.gcd x.den y.den=q:=by
                         conv=>lhs;lhs;rw[hq]
                         exact Nx _ hg
 rw[e1,e2,Rat.add_def']
 generalize Nat.gcd x.den y.den=g at hg hp hq
 rw[←Nl,←Rat.divInt_mul_left (a:=(g:Int)) (by omega)]
 congr 1
 ·rw[Int.mul_add,hp,hq,iT,iT,I0,I0 (y.num)]
 ·rw[hp]
  simp only[iT,EZ]
theorem RY(x y:Rat):BI (CV x y):=by
 intro q h
 unfold CV at h
 split at h
 ·rename_i hc
  obtain⟨_,_,h3,h4⟩:=hc
  injection h with h
  subst h
  rw[←Lo]
  refine zd ?_ h3 (by rw[dX];exact h4)
  have hg:0<Nat.gcd x.den y.den:=Nf _ x.den_pos
  have:=E4 (B0 y.den x.den_pos) hg
  have:=yw this y.den_pos
  omega
 ·cases h
theorem RX(x y:Rat):BI (Bj x y):=by
 intro q h
 unfold Bj at h
 split at h
 ·rename_i hc
  injection h with h
  rw[←h];exact hc
 ·cases h
theorem cross(x y:Rat):(x*y).num=(Rat.divInt x.num y.den).num*(Rat.divInt y.num x.den).num∧(x*y).den=(Rat.divInt x.num y.den).den*(Rat.divInt y.num x.den).den:=by
 have hx:=x.den_pos
 have hy:=y.den_pos
 obtain⟨k,m,hk,hm,FP,e1,e2⟩:=oy (n:=x.num) (d:=(y.den:Int)) (by omega)
 obtain⟨k',m',wa,hm',hm0',e1',e2'⟩:=oy (n:=y.num) (d:=(x.den:Int)) (by omega)
 rw[sf (by omega),zo] at e1 e2 e1' e2'
 have hxy:x*y=Rat.divInt x.num y.den*Rat.divInt y.num x.den:=by
  rw[Rat.divInt_mul_divInt]
  conv=>lhs;rw[←Rat.num_divInt_den x,←Rat.num_divInt_den y,Rat.divInt_mul_divInt]
  rw[kY (y.den:Int)]
 have hc:Nat.gcd ((Rat.divInt x.num y.den).num*(Rat.divInt y.num x.den).num).natAbs ((Rat.divInt x.num y.den).den*(Rat.divInt y.num x.den).den)=1:=by
  rw[oJ]
  have c1:=(Rat.divInt x.num y.den).reduced
  have c2:=(Rat.divInt y.num x.den).reduced
  have d1:(Rat.divInt x.num y.den).num.natAbs ∣ x.num.natAbs:=by
   rw[e1];exact Int.natAbs_dvd_natAbs.2 ⟨_,by rw[kY];exact hk⟩
  have d2:(Rat.divInt y.num x.den).den ∣ x.den:=Int.natCast_dvd_natCast.1 (by rw[e2'];exact⟨_,by rw[kY];exact hm'⟩)
  have d3:(Rat.divInt y.num x.den).num.natAbs ∣ y.num.natAbs:=by
   rw[e1'];exact Int.natAbs_dvd_natAbs.2 ⟨_,by rw[kY];exact wa⟩
  have d4:(Rat.divInt x.num y.den).den ∣ y.den:=Int.natCast_dvd_natCast.1 (by rw[e2];exact⟨_,by rw[kY];exact hm⟩)
  have c3:Nat.Coprime (Rat.divInt x.num y.den).num.natAbs (Rat.divInt y.num x.den).den:=Nat.Coprime.coprime_dvd_left d1 (Nat.Coprime.coprime_dvd_right d2 x.reduced)
  have c4:Nat.Coprime (Rat.divInt y.num x.den).num.natAbs (Rat.divInt x.num y.den).den:=Nat.Coprime.coprime_dvd_left d3 (Nat.Coprime.coprime_dvd_right d4 y.reduced)
  exact Nat.Coprime.mul_left (Nat.Coprime.mul_right c1 c3) (Nat.Coprime.mul_right c4 c2)
 rw[hxy,Rat.num_mul,Rat.den_mul,hc]
 exact⟨by simp,by simp⟩
theorem BO(q:Rat):(kW q).vN=enc q.num:=rfl
theorem EC(q:Rat):(kW q).vD=enc (q.den:Int):=rfl
theorem O1(z:Int):(enc z).vBad=decide (¬z.natAbs<LIM):=by
 by_cases h:z.natAbs<LIM
 ·rw[rZ h];simp[h]
 ·rw[EB h];simp[h];rfl
theorem jO {q:Rat}(h:lZ q):((q.den:Nat):Int).natAbs<LIM:=by simpa using h.2
theorem G_rMul {x y:Rat}(hx:lZ x)(hy:lZ y):fB (kW x) (kW y)=some (BN (Bj x y)):=by
 have hdx:=x.den_pos
 have hdy:=y.den_pos
 obtain⟨c1,c2⟩:=cross x y
 have f1:=zd (n:=x.num) (d:=(y.den:Int)) (by omega) hx.1 (jO hy)
 have f2:=zd (n:=y.num) (d:=(x.den:Int)) (by omega) hy.1 (jO hx)
 unfold fB
 rw[show aW (kW x)=_ from iM (uK (some x)),show aW (kW y)=_ from iM (uK (some y)),wz hx,wz hy,ab,ab]
 simp only[BV,c9,aI,ab,BO,EC]
 rw[FF hx.1 (jO hy) (by omega),ab,FF hy.1 (jO hx) (by omega),ab]
 simp only[BO,EC]
 rw[LG f1.1 f2.1,ab,LG (jO f1) (jO f2),ab,←c1,←iT,←c2,O1,O1,Ud,ab,xn,ab,←Bool.decide_or,gf]
 unfold Bj
 by_cases h:lZ (x*y)
 ·obtain⟨h1,h2⟩:=id h
  rw[ah (by rw[dX];omega),ai h];rfl
 ·have h1:¬((x*y).num.natAbs<LIM∧(x*y).den<LIM):=h
  rw[ai (by rw[dX];omega),ah h];rfl
theorem FA {x y:am}(hx:okR x)(hy:okR y)(h:((ct x).isSome&&(ct y).isSome)=false):fB x y=some GH:=by
 unfold fB
 rw[iM hx,iM hy,ab,ab,xn,ab]
 cases h1:(ct x).isSome with
 |false=>rfl
 |true=>
  cases h2:(ct y).isSome with
  |false=>rfl
  |true=>rw[h1,h2] at h;cases h
theorem Oj {n g:Nat}:((n:Int)).fdiv (g:Int)=((n / g:Nat):Int):=by
 rw[Nm _ (I4 _)]
 exact (Ng ..).symm
theorem G_rAdd {x y:Rat}(hx:lZ x)(hy:lZ y):ik (kW x) (kW y)=some (BN (CV x y)):=by
 have hdx:=x.den_pos
 have hdy:=y.den_pos
 have hg:0<Nat.gcd x.den y.den:=Nf _ hdx
 have OL:Nat.gcd x.den y.den<LIM:=dY (B0 _ hdx) hx.2
 have hgl':((Nat.gcd x.den y.den:Nat):Int).natAbs<LIM:=by simpa using OL
 have hp:x.den / Nat.gcd x.den y.den<LIM:=dY (oK _ _) hx.2
 have hq:y.den / Nat.gcd x.den y.den<LIM:=dY (oK _ _) hy.2
 have hp0:0<x.den / Nat.gcd x.den y.den:=E4 (B0 y.den hdx) hg
 have wi:0<x.den / Nat.gcd x.den y.den*y.den:=yw hp0 hdy
 have Qm:=Lo x y
 unfold ik
 rw[show aW (kW x)=_ from iM (uK (some x)),show aW (kW y)=_ from iM (uK (some y)),wz hx,wz hy,ab,ab]
 simp only[BV,c9,aI,ab,BO,EC]
 rw[Pz (jO hx) (jO hy),ab,dX,dX,HH (jO hx) hgl' (by omega),ab,HH (jO hy) hgl' (by omega),ab,Oj,Oj,LG hx.1 (by rw[dX];exact hq),ab,LG hy.1 (by rw[dX];exact hp),ab,LG (by rw[dX];exact hp) (jO hy),←iT]
 unfold CV
 revert Qm
 generalize x.num*((y.den / Nat.gcd x.den y.den:Nat):Int)=z1
 generalize y.num*((x.den / Nat.gcd x.den y.den:Nat):Int)=z2
 revert wi
 generalize x.den / Nat.gcd x.den y.den*y.den=D
 intro wi Qm
 have hsum:jm (enc z1) (enc z2)=some (if z1.natAbs<LIM∧z2.natAbs<LIM then enc (z1+z2) else La):=by
  by_cases h:z1.natAbs<LIM∧z2.natAbs<LIM
  ·rw[ai h,G_Add h.1 h.2]
  ·rw[ah h,QS (by rw[uQ,uQ,←Bool.decide_and];exact bp h)]
 rw[hsum,ab,ab,uY]
 by_cases h:z1.natAbs<LIM∧z2.natAbs<LIM
 ·rw[ai h]
  by_cases h2:(z1+z2).natAbs<LIM∧D<LIM
  ·rw[FF h2.1 (by rw[dX];exact h2.2) (by omega),Qm,ai ⟨h.1,h.2,h2⟩];rfl
  ·rw[FE (by rw[uQ,uQ,←Bool.decide_and,dX];exact bp h2),ah fun hh=>h2 hh.2.2];rfl
 ·rw[ah h,FE (by rw[He,vb]),ah fun hh=>h ⟨hh.1,hh.2.1⟩];rfl
theorem FB {x y:am}(hx:okR x)(hy:okR y)(h:((ct x).isSome&&(ct y).isSome)=false):ik x y=some GH:=by
 unfold ik
 rw[iM hx,iM hy,ab,ab,xn,ab]
 cases h1:(ct x).isSome with
 |false=>rfl
 |true=>
  cases h2:(ct y).isSome with
  |false=>rfl
  |true=>rw[h1,h2] at h;cases h
def Ic(a b:Option Rat):Option Rat:=a.bind fun x=>b.bind fun y=>CV x y
def Bo(a b:Option Rat):Option Rat:=a.bind fun x=>b.bind fun y=>Bj x y
def PZ(a:Option Rat):Option Rat:=a.map fun x=>-x
def Mh(a:Option Rat):Option Rat:=a.bind fun x=>if x=0 then none else some x⁻¹
def osub(a b:Option Rat):Option Rat:=Ic a (PZ b)
def Gp(a b:Option Rat):Option Rat:=Bo a (Mh b)
def osgn(a:Option Rat):Int:=match a with|some x=>x.num.sign|none=>0
theorem Ac(a b:Option Rat):BI (Ic a b):=by
 cases a with
 |none=>exact pB
 |some x=>
  cases b with
  |none=>exact pB
  |some y=>exact RY x y
theorem D0(a b:Option Rat):BI (Bo a b):=by
 cases a with
 |none=>exact pB
 |some x=>
  cases b with
  |none=>exact pB
  |some y=>exact RX x y
theorem KP {x:Rat}(h:lZ x):lZ (-x):=⟨by rw[Rat.neg_num,Int.natAbs_neg];exact h.1,h.2⟩
theorem DZ {a:Option Rat}(h:BI a):BI (PZ a):=by
 cases a with
 |none=>exact pB
 |some x=>
  intro q hq
  injection hq with hq
  subst hq
  exact KP (h x rfl)
theorem TL {x:Rat}(h:lZ x)(h0:x≠0):lZ x⁻¹:=by
 have hn:x.num≠0:=fun h=>h0 (Rat.num_eq_zero.1 h)
 refine⟨?_,?_⟩
 ·rw[Rat.num_inv,oJ,Int.natAbs_sign,ah hn,eU,dX];exact h.2
 ·rw[Rat.den_inv,ah hn];exact h.1
theorem R9 {a:Option Rat}(h:BI a):BI (Mh a):=by
 cases a with
 |none=>exact pB
 |some x=>
  intro q hq
  have hq:(if x=0 then none else some x⁻¹)=some q:=hq
  split at hq
  ·cases hq
  ·rename_i h0
   injection hq with hq
   subst hq
   exact TL (h x rfl) h0
theorem Sa(a b:Option Rat):BI (Gp a b):=D0 _ _
theorem NT {x y:am}(hx:okR x)(hy:okR y):ik x y=some (BN (Ic (ct x) (ct y))):=by
 cases h1:ct x with
 |none=>exact FB hx hy (by rw[h1];rfl)
 |some p=>
  cases h2:ct y with
  |none=>exact FB hx hy (by rw[h1,h2];rfl)
  |some q=>
   obtain⟨hp,rfl⟩:=dK.1 h1
   obtain⟨hq,rfl⟩:=dK.1 h2
   exact G_rAdd hp hq
theorem NS {x y:am}(hx:okR x)(hy:okR y):fB x y=some (BN (Bo (ct x) (ct y))):=by
 cases h1:ct x with
 |none=>exact FA hx hy (by rw[h1];rfl)
 |some p=>
  cases h2:ct y with
  |none=>exact FA hx hy (by rw[h1,h2];rfl)
  |some q=>
   obtain⟨hp,rfl⟩:=dK.1 h1
   obtain⟨hq,rfl⟩:=dK.1 h2
   exact G_rMul hp hq
theorem NR {x:am}(hx:okR x):mq x=some (BN (PZ (ct x))):=by
 unfold mq
 rw[iM hx,ab]
 cases h1:ct x with
 |none=>rw[xn,ab];rfl
 |some p=>
  obtain⟨hp,rfl⟩:=dK.1 h1
  simp only[BV,c9,aI,BO,EC]
  rw[Vw hp.1,ab]
  rfl
theorem G_osub {x y:am}(hx:okR x)(hy:okR y):sZ x y=some (BN (osub (ct x) (ct y))):=by
 unfold sZ
 rw[NR hy,ab,NT hx (uK _),ab,AZ (DZ (Ey y))]
 rfl
theorem NV {q:Rat}(hq:lZ q):dh (enc (q.den:Int)) (enc q.num)=some (BN (Mh (some q))):=by
 by_cases h:q=0
 ·subst h
  show dh _ (enc 0)=_
  rw[LH];rfl
 ·have hn:q.num≠0:=fun h0=>h (Rat.num_eq_zero.1 h0)
  rw[FF (jO hq) hq.1 hn,←Rat.inv_def]
  show _=some (BN (if q=0 then none else some q⁻¹))
  rw[ah h];rfl
theorem G_odiv {x y:am}(hx:okR x)(hy:okR y):s6 x y=some (BN (Gp (ct x) (ct y))):=by
 unfold s6
 rw[iM hy,ab]
 cases h2:ct y with
 |none=>
  rw[xn,ab]
  show some GH=some (BN (Bo (ct x) none))
  unfold Bo
  cases ct x <;> rfl
 |some q=>
  obtain⟨hq,rfl⟩:=dK.1 h2
  simp only[BV,c9,aI,BO,EC]
  rw[NV hq,ab,NS hx (uK _),ab,AZ (R9 fun r hr=>by injection hr with hr;subst hr;exact hq)]
  rfl
theorem Vq {x:am}(hx:okR x):kV x=some (osgn (ct x)):=by
 unfold kV
 rw[iM hx,ab]
 cases h1:ct x with
 |none=>rfl
 |some p=>
  obtain⟨hp,rfl⟩:=dK.1 h1
  simp only[BV,c9,aI,BO]
  rw[xo hp.1,ab]
  rfl
theorem ED(n:Int):Rat.divInt n 1=(n:Rat):=by
 show Rat.divInt n ((1:Nat):Int)=_
 rw[Nl]
 exact Rat.mkRat_self (n:Rat)
theorem Vo {n:Int}(h:n.natAbs<LIM):np (enc n)=some (kW (n:Rat)):=by
 unfold np
 rw[Ps,ab,FF h (by decide) (by decide),ab,ED]
theorem Vp {n:Int}(h1:-9223372036854775808≤n)(h2:n≤9223372036854775807):mp n=some (kW (n:Rat)):=by
 have hL:n.natAbs<LIM:=bJ (show n.natAbs<18446744073709551616 by omega) (by decide)
 unfold mp
 rw[NU h1 h2,ab,Vo hL,ab]
section
def lF(n:Nat)(f:Nat→Nat):List Int:=(List.range n).map fun j=>(f j:Int)
section
variable {n m p x k j:Nat} {f g:Nat→Nat}
theorem cK:(lF n f).length=n:=by unfold lF;simp
theorem qB(h:j<n):(lF n f)[j]! =(f j:Int):=by
 unfold lF
 rw[bI _ j (by simpa using h)]
 simp
theorem uM(h:∀j,j<n→f j=g j):lF n f=lF n g:=by
 unfold lF
 apply ss
 intro j hj
 rw[h j (by simpa using hj)]
theorem Ak:lF n f++[(f n:Int)]=lF (n+1) f:=by
 unfold lF
 rw[wY,gK];rfl
theorem Mu:(lF n f).set p (x:Int)=lF n (fun j=>if j=p then x else f j):=by
 apply Fd
 ·rw[c7,cK,cK]
 ·intro i h1 h2
  rw[List.getElem_set]
  have h3:i<n:=by rw[cK] at h2;exact h2
  have e1:=qB (f:=fun j=>if j=p then x else f j) h3
  rw[bI _ i h2] at e1
  rw[e1]
  split
  ·rename_i h;rw[ai h.symm]
  ·rename_i h
   rw[ah (fun e=>h e.symm)]
   have e2:=qB (f:=f) h3
   rw[bI _ i (by rw[cK];exact h3)] at e2
   exact e2
theorem lF_take(h:m≤n):(lF n f).take m=lF m f:=by
 unfold lF
 rw[←w9,List.take_range,td h]
theorem lF_cons:[(x:Int)]++lF n f=lF (n+1) (fun j=>if j=0 then x else f (j - 1)):=by
 unfold lF
 rw[List.range_succ_eq_map,jK,qp]
 rfl
theorem Sr:List.replicate n (0:Int)=lF n (fun _=>0):=by
 unfold lF
 induction n with
 |zero=>rfl
 |succ n ih=>rw[List.replicate_succ',ih,wY,gK];rfl
end
abbrev dk(n A:Nat):List Int:=lF n (dg 65536 A)
theorem kX {A j:Nat}:dg 65536 A j<65536:=TZ (by decide)
theorem Rv(A:Nat):∃n,szp 65536 A n:=by
 induction A using Nat.strongRecOn with
 |_ A ih=>
  by_cases h:A=0
  ·subst h;exact⟨0,by decide,fun h=>by omega⟩
  ·obtain⟨n,h1,h2⟩:=ih (A / 65536) (by omega)
   refine⟨n+1,?_,fun _=>?_⟩
   ·rw[cG];exact (lM (by decide)).1 h1
   ·rw[ve]
    cases n with
    |zero=>rw[fX];omega
    |succ n=>
     have:=h2 (by omega)
     rw[ve] at this
     rw[cG]
     exact (pG (by decide)).1 this
def sz6(A:Nat):Nat:=Classical.choose (Rv A)
theorem zV(A:Nat):szp 65536 A (sz6 A):=EW (Rv A)
theorem jP(A:Nat):A<65536 ^ sz6 A:=(zV A).1
theorem rF {A n:Nat}(h:A<65536 ^ n):sz6 A≤n:=LV (by decide) (zV A) h
theorem LW {A n:Nat}(h:szp 65536 A n):n=sz6 A:=Ru (by decide) h (zV A)
theorem DJ:sz6 0=0:=(LW ⟨by decide,fun h=>by omega⟩).symm
theorem Dd {A:Nat}(h:0<A):0<sz6 A:=by
 rcases sd (sz6 A) with h1|h1
 ·have:=jP A
  rw[h1,fX] at this;omega
 ·exact h1
noncomputable abbrev dl(A:Nat):List Int:=dk (sz6 A) A
theorem M4(A:Nat):(dl A).length=sz6 A:=cK
theorem dl_zero:dl 0=[]:=by unfold dl;rw[DJ];rfl
theorem M3 {A:Nat}:(dl A).length=0↔A=0:=by
 rw[M4]
 constructor
 ·intro h
  rcases sd A with h1|h1
  ·exact h1
  ·have:=Dd h1;omega
 ·rintro rfl;exact DJ
theorem vq {n A k:Nat}(hA:A<65536 ^ n):dM (dk n A) (k:Int)=some ((dg 65536 A k:Nat):Int):=by
 unfold dM
 rw[cK]
 by_cases h:k<n
 ·rw[cu _ _,aC,bW,qB h]
 ·rw[ce _ _,lV (bJ hA (ia (by decide) (by omega)))];rfl
theorem zC {n A:Nat}(hA:A<65536 ^ n)(hn:n<1000000):fk (dk n A)=some (dl A):=by
 obtain⟨x,hl,hx⟩:=vI (b:=lq (dk n A)) (fun s=>∃k:Nat,s=(k:Int)∧k≤n∧A<65536 ^ k) (fun s=>s.toNat) (fun x=>x=((sz6 A:Nat):Int))
  (by
   rintro s ⟨k,rfl,hk,bK⟩
   cases k with
   |zero=>
    right
    refine⟨((0:Nat):Int),?_,?_⟩
    ·dsimp only[lq]
     rw[ce _ _,ab,aI]
    ·show ((0:Nat):Int)=_
     rw[←LW ⟨bK,fun h=>by omega⟩]
   |succ k=>
    have e:i64.wrap (((k+1:Nat):Int) - 1)=(k:Int):=by rw[bX];omega
    dsimp only[lq]
    rw[cu _ _,e,cK,aC,ab,bW,qB (by omega),gf]
    by_cases hd:dg 65536 A k=0
    ·left
     refine⟨(k:Int),by rw[ai (by omega)],⟨k,rfl,by omega,?_⟩,by omega⟩
     unfold dg at hd
     have h1:A / 65536 ^ k<65536:=by
      rw[lM (bO (by decide)),bA,←cG];exact bK
     rw[ez h1] at hd
     exact (Ja (bO (by decide))).1 hd
    ·right
     refine⟨((k+1:Nat):Int),by rw[ah (by omega)],?_⟩
     show ((k+1:Nat):Int)=_
     rw[LW (A:=A) ⟨bK,fun _=>?_⟩]
     rcases d6 A (65536 ^ k) with h|h
     ·exact absurd (lV h) hd
     ·exact h) (n:Int) ⟨n,rfl,az _,hA⟩
 unfold fk
 have hs:=rF hA
 rw[cK,hl,hx,ab,aC,subL_to _ _ (by omega),bW,lF_take hs]
theorem pmax {n m A B:Nat}(hA:A<65536 ^ n)(hB:B<65536 ^ m):A<65536 ^ max n m∧B<65536 ^ max n m:=
 ⟨bJ hA (ia (by decide) (Nat.le_max_left ..)),bJ hB (ia (by decide) (Pd ..))⟩
theorem D5(n m:Nat):max (n:Int) (m:Int)=((max n m:Nat):Int):=by omega
theorem Pu {n m A B:Nat}(hA:A<65536 ^ n)(hB:B<65536 ^ m)(hn:n<100000)(hm:m<100000):kT (dk n A) (dk m B)=some (dl (A+B)):=by
 have hM:max n m<100000:=by omega
 obtain⟨OW,hB'⟩:=pmax hA hB
 have hl:=rP (b:=j5 (dk n A) (dk m B)) (s0:=(([]:List Int),(0:Int),(0:Int))) (fun k=>(dk k (A+B),(((A % 65536 ^ k+B % 65536 ^ k) / 65536 ^ k:Nat):Int),(k:Int))) (max n m+1) (dk (max n m+1) (A+B))
  (by simp only[fX,m7];rfl)
  (fun k hk=>by
   have hc:=oD (b:=65536) (A:=A) (B:=B) (k:=k) (by decide)
   obtain⟨h1,h2⟩:=pI (b:=65536) (A:=A) (B:=B) (k:=k) (by decide)
   have ha:=@kX A k
   have hb:=@kX B k
   have hc':=oD (b:=65536) (A:=A) (B:=B) (k:=k+1) (by decide)
   generalize (A % 65536 ^ k+B % 65536 ^ k) / 65536 ^ k=c at h1 h2 hc ⊢
   generalize (A % 65536 ^ (k+1)+B % 65536 ^ (k+1)) / 65536 ^ (k+1)=c' at h2 hc' ⊢
   dsimp only[j5]
   rw[cK,cK,D5,bX,cu _ _,vq hA,ab,vq hB,ab,bX (z:=(dg 65536 A k:Int)+(dg 65536 B k:Int)) (by omega),bX,ab,←kw,←kw,show (65536:Int)=((65536:Nat):Int) from rfl,←tD,←tE,o4 (dg 65536 A k+dg 65536 B k),←xW,h1,h2,Ak,cK,aC,bX (z:=(c':Int)) (by omega),bX]
   rfl)
  (by
   dsimp only[j5]
   rw[cK,cK,D5,bX,ce _ _])
 unfold kT
 have:A+B<65536 ^ (max n m+1):=by rw[cG];omega
 rw[hl,ab,zC this (by omega),ab]
theorem LE {n m A B:Nat}(hA:A<65536 ^ n)(hB:B<65536 ^ m)(hn:n<100000)(hBA:B≤A):ij (dk n A) (dk m B)=some (dl (A - B)):=by
 obtain⟨D,rfl⟩:∃D,A=D+B:=⟨A - B,by omega⟩
 rw[ve]
 have hl:=rP (b:=jq (dk n (D+B)) (dk m B)) (s0:=(([]:List Int),(0:Int),(0:Int))) (fun k=>(dk k D,(((D % 65536 ^ k+B % 65536 ^ k) / 65536 ^ k:Nat):Int),(k:Int))) n (dk n D)
  (by simp only[fX,m7];rfl)
  (fun k hk=>by
   have hc:=oD (b:=65536) (A:=D) (B:=B) (k:=k) (by decide)
   have hc':=oD (b:=65536) (A:=D) (B:=B) (k:=k+1) (by decide)
   obtain⟨h1,h2⟩:=pI (b:=65536) (A:=D) (B:=B) (k:=k) (by decide)
   have ha:=@kX D k
   have hb:=@kX B k
   have hd:=@kX (D+B) k
   generalize hq:(D % 65536 ^ k+B % 65536 ^ k) / 65536 ^ k=c at h1 h2 hc ⊢
   generalize (D % 65536 ^ (k+1)+B % 65536 ^ (k+1)) / 65536 ^ (k+1)=c' at h2 hc' ⊢
   dsimp only[jq]
   rw[cK,cu _ _,aC,vq hB,ab,bW,qB hk,bX (z:=(dg 65536 (D+B) k:Int) - (dg 65536 B k:Int)) (by omega),bX,ab]
   by_cases hn0:(dg 65536 (D+B) k:Int) - (dg 65536 B k:Int) - (c:Int)<0
   ·obtain rfl:c'=1:=by omega
    rw[cu _ _ hn0,ab,bX]
    dsimp only
    rw[show (dg 65536 (D+B) k:Int) - (dg 65536 B k:Int) - (c:Int)+65536=(dg 65536 D k:Int) from by omega,Ak,cK,aC,bX]
    rfl
   ·obtain rfl:c'=0:=by omega
    rw[ce _ _ hn0,ab]
    dsimp only
    rw[show (dg 65536 (D+B) k:Int) - (dg 65536 B k:Int) - (c:Int)=(dg 65536 D k:Int) from by omega,Ak,cK,aC,bX]
    rfl)
  (by
   dsimp only[jq]
   rw[cK,ce _ _])
 unfold ij
 rw[hl,ab,zC (by omega) (by omega),ab]
theorem Ah {A B k:Nat}(he:A / 65536 ^ (k+1)=B / 65536 ^ (k+1))(h:dg 65536 A k<dg 65536 B k):A<B:=by
 have e1:=cy (b:=65536) (A:=A) (k:=k)
 have e2:=cy (b:=65536) (A:=B) (k:=k)
 have h1:A / 65536 ^ k<B / 65536 ^ k:=by
  rw[e1,e2,he];exact E9 h _
 rcases d6 A B with h2|h2
 ·exact h2
 ·exact absurd (NA h2) (Nat.not_le.2 h1)
theorem G_dless {n m A B:Nat}(hA:A<65536 ^ n)(hB:B<65536 ^ m)(hn:n<100000)(hm:m<100000):mF (dk n A) (dk m B)=some (decide (A<B)):=by
 obtain⟨OW,hB'⟩:=pmax hA hB
 obtain⟨x,hl,hx⟩:=vI (b:=ls (dk n A) (dk m B)) (fun s=>∃k:Nat,s=(k:Int) - 1∧k≤max n m∧A / 65536 ^ k=B / 65536 ^ k) (fun s=>(s+1).toNat) (fun x=>match x with| .inl r=>r=decide (A<B)| .inr _=>A=B)
  (by
   rintro s ⟨k,rfl,hk,he⟩
   cases k with
   |zero=>
    right
    refine⟨(Sum.inr ():Bool⊕Unit),?_,?_⟩
    ·dsimp only[ls]
     rw[ce _ _]
    ·simpa using he
   |succ k=>
    have e:((k+1:Nat):Int) - 1=(k:Int):=by omega
    rw[e]
    dsimp only[ls]
    rw[cu _ _,vq hA,ab,vq hB,ab]
    by_cases hd:dg 65536 A k=dg 65536 B k
    ·left
     refine⟨(k:Int) - 1,?_,⟨k,rfl,by omega,?_⟩,by omega⟩
     ·rw[ce _ _ (by rw[hd];simp),bX]
     ·rw[cy (b:=65536) (A:=A) (k:=k),cy (b:=65536) (A:=B) (k:=k),he,hd]
    ·right
     refine⟨(Sum.inl (decide (A<B)):Bool⊕Unit),?_,rfl⟩
     rw[cu _ _,ab,ab]
     congr 3
     refine kZ.2 ?_
     rcases Nat.lt_or_gt_of_ne hd with h|h
     ·have:=Ah he h
      exact⟨fun _=>this,fun _=>by omega⟩
     ·have:=Ah he.symm h
      exact⟨fun h'=>by omega,fun h'=>by omega⟩) (((max n m:Nat):Int) - 1) ⟨max n m,rfl,az _,by rw[eF OW,eF hB']⟩
 unfold mF
 rw[cK,cK,D5,bX,ab,hl,ab]
 cases x with
 |inl r=>obtain rfl:r=_:=hx;rfl
 |inr u=>
  obtain rfl:A=B:=hx
  simp
section
variable {b:Nat} {f g:Nat→Nat}
theorem JZ:∀n,(∀j,j<n→f j=g j)→gE b f n=gE b g n
 |0,_=>rfl
 |n+1,h=>by
  unfold gE
  rw[JZ n fun j hj=>h j (by omega),h n (by omega)]
theorem JX {q x:Nat}:∀n,q<n→gE b (fun j=>if j=q then f j+x else f j) n=gE b f n+x*b ^ q
 |0,h=>by omega
 |n+1,h=>by
  unfold gE
  by_cases hq:q=n
  ·subst hq
   rw[ai rfl,JZ q (g:=f) fun j hj=>ah (by omega),bR];omega
  ·rw[ah (by omega),JX n (by omega)];omega
theorem N3 {A:Nat}:∀n,gE b (dg b A) n=A % b ^ n
 |0=>by simp[gE,m7]
 |n+1=>by
  unfold gE
  rw[N3 n,g5,bA]
theorem JY(k:Nat):∀n,k≤n→gE b f n % b ^ k=gE b f k % b ^ k
 |0,h=>by
  obtain rfl:k=0:=by omega
  rfl
 |n+1,h=>by
  by_cases hk:k=n+1
  ·rw[hk]
  ·have wa:k≤n:=by omega
   obtain⟨d,rfl⟩:∃d,n=k+d:=⟨n - k,by omega⟩
   rw[←JY k (k+d) wa]
   show (gE b f (k+d)+f (k+d)*b ^ (k+d)) % b ^ k=_
   rw[hJ,zt,B9]
theorem N1 {M:Nat}(hb:2≤b):∀n,(∀j,j<n→f j≤M)→gE b f n≤M*b ^ n
 |0,_=>by simp[gE]
 |n+1,h=>by
  have ih:=N1 hb n fun j hj=>h j (by omega)
  have h1:f n*b ^ n≤M*b ^ n:=cM _ (h n (by omega))
  have h2:M*b ^ n*2≤M*b ^ n*b:=AE _ hb
  unfold gE
  rw[cG,←fa]
  omega
theorem P0 {n k:Nat}(hb:0<b)(hk:k<n):(gE b f k / b ^ k+f k) % b=dg b (gE b f n) k∧(gE b f k / b ^ k+f k) / b=gE b f (k+1) / b ^ (k+1):=by
 have hp:0<b ^ k:=bO hb
 have e:gE b f (k+1) / b ^ k=gE b f k / b ^ k+f k:=by
  show (gE b f k+f k*b ^ k) / b ^ k=_
  rw[Nd _ _ hp]
 refine⟨?_,?_⟩
 ·rw[←e,←nI (A:=gE b f n) (k:=k+1) (ew _),JY (k+1) n hk,nI (ew _)]
  rfl
 ·rw[←e,gZ,←cG]
end
theorem PM {n m A B i:Nat}(hi:i<n)(hn:n<1000)(hm:m<1000)(hB:B<65536 ^ m){R:Nat}(hR:R<65536 ^ (n+m+1)):
  ∃f:Nat→Nat,bo (jp (dk n A) (dk m B) (i:Int)) ((0:Int),dk (n+m+1) R)=some (lF (n+m+1) f)∧gE 65536 f (n+m+1)=R+dg 65536 A i*B*65536 ^ i∧∀j,f j≤65535+65535*65535:=by
 have ha:=@kX A i
 have eP:i64.wrap ((i64.wrap (((dk n A).length:Int)+((dk m B).length:Int)))+(1:Int))=((n+m+1:Nat):Int):=by
  rw[cK,cK,bX (z:=(n:Int)+(m:Int)) (by omega),bX];omega
 obtain⟨x,hl,f,rfl,h1,h2⟩:=vI (b:=jp (dk n A) (dk m B) (i:Int)) (fun s=>∃(k:Nat) (f:Nat→Nat),s=((k:Int),lF (n+m+1) f)∧k≤m∧gE 65536 f (n+m+1)=R+dg 65536 A i*(B % 65536 ^ k)*65536 ^ i∧(∀j,f j≤65535+65535*65535)∧∀j,i+k≤j→f j≤65535) (fun s=>m - s.1.toNat)
  (fun x=>∃f:Nat→Nat,x=lF (n+m+1) f∧gE 65536 f (n+m+1)=R+dg 65536 A i*B*65536 ^ i∧∀j,f j≤65535+65535*65535)
  (by
   rintro s ⟨k,f,rfl,hk,hv,hf,C0⟩
   dsimp only[jp]
   rw[eP,bW,cK,cK,cK]
   by_cases hkm:k<m
   ·left
    have eik:i64.wrap ((i:Int)+(k:Int))=((i+k:Nat):Int):=by rw[bX];omega
    have hb:=@kX B k
    have FV:dg 65536 A i*dg 65536 B k≤65535*65535:=lf (by omega) (by omega)
    have hfk:=C0 (i+k) (az _)
    rw[cu _ _,eik,aC,aC,aC,aC,ab,bW,bW,bW,qB (by omega),qB hi,qB hkm,←iT,bX (z:=((dg 65536 A i*dg 65536 B k:Nat):Int)) (by omega),←kw,bX (z:=((f (i+k)+dg 65536 A i*dg 65536 B k:Nat):Int)) (by omega),Mu,bX]
    have e:lF (n+m+1) (fun j=>if j=i+k then f (i+k)+dg 65536 A i*dg 65536 B k else f j)=lF (n+m+1) (fun j=>if j=i+k then f j+dg 65536 A i*dg 65536 B k else f j):=uM fun j _=>by
     by_cases h:j=i+k
     ·rw[ai h,ai h,h]
     ·rw[ah h,ah h]
    refine⟨_,rfl,⟨k+1,(fun j=>if j=i+k then f j+dg 65536 A i*dg 65536 B k else f j),by rw[e];rfl,by omega,?_,fun j=>?_,fun j hj=>?_⟩,by show m - ((k:Int)+1).toNat<m - (k:Int).toNat;omega⟩
    ·rw[JX _ (by omega),hv,g5,vf,bR,hJ]
     simp only[fa,zt,bA,xW]
    ·dsimp only
     by_cases h:j=i+k
     ·rw[ai h,h];omega
     ·rw[ah h];exact hf j
    ·dsimp only
     rw[ah (by omega)];exact C0 j (by omega)
   ·right
    obtain rfl:k=m:=by omega
    refine⟨_,by rw[ce _ _],f,rfl,?_,hf⟩
    rw[hv,ez hB])
  ((0:Int),dk (n+m+1) R) ⟨0,dg 65536 R,rfl,cr _,by rw[N3,fX,m7,Nat.mul_zero,gH,ez hR,iK],fun j=>by have:=@kX R j;omega,fun j _=>by have:=@kX R j;omega⟩
 exact⟨f,hl,h1,h2⟩
theorem LU {n m A B:Nat}(hn:n<1000)(hm:m<1000){f:Nat→Nat}(hf:∀j,f j≤65535+65535*65535):
  bo (gG (dk n A) (dk m B)) ((0:Int),(0:Int),lF (n+m+1) f)=some (dk (n+m+1) (gE 65536 f (n+m+1))):=by
 have eP:i64.wrap ((i64.wrap (((dk n A).length:Int)+((dk m B).length:Int)))+(1:Int))=((n+m+1:Nat):Int):=by
  rw[cK,cK,bX (z:=(n:Int)+(m:Int)) (by omega),bX];omega
 have hl:=rP (b:=gG (dk n A) (dk m B)) (s0:=((0:Int),(0:Int),lF (n+m+1) f)) (fun k=>(((gE 65536 f k / 65536 ^ k:Nat):Int),(k:Int),lF (n+m+1) (fun j=>if j<k then dg 65536 (gE 65536 f (n+m+1)) j else f j))) (n+m+1) (lF (n+m+1) (fun j=>if j<n+m+1 then dg 65536 (gE 65536 f (n+m+1)) j else f j))
  (by
   rw[show gE 65536 f 0 / 65536 ^ 0=0 from by simp[gE],uM (n:=n+m+1) (f:=fun j=>if j<0 then dg 65536 (gE 65536 f (n+m+1)) j else f j) (g:=f) fun j _=>ah (by omega)]
   rfl)
  (fun k hk=>by
   obtain⟨h1,h2⟩:=P0 (b:=65536) (f:=f) (n:=n+m+1) (k:=k) (by decide) hk
   have hc:gE 65536 f k / 65536 ^ k≤65535+65535*65535:=by
    have:=N1 (b:=65536) (f:=f) (by decide) k fun j _=>hf j
    exact Nat.div_le_of_le_mul (by rw[bA];exact this)
   have hfk:=hf k
   generalize gE 65536 f k / 65536 ^ k=c at h1 h2 hc ⊢
   generalize gE 65536 f (k+1) / 65536 ^ (k+1)=c' at h2 ⊢
   dsimp only[gG]
   rw[eP,bW,cK,cu _ _,aC,ab,aC,bW,qB hk,ah (pF _),←kw,o4 (f k),bX (z:=((c+f k:Nat):Int)) (by omega),show (65536:Int)=((65536:Nat):Int) from rfl,←tD,←tE,h1,h2,bX (z:=(c':Int)) (by omega),bX,Mu]
   have e:lF (n+m+1) (fun j=>if j=k then dg 65536 (gE 65536 f (n+m+1)) k else if j<k then dg 65536 (gE 65536 f (n+m+1)) j else f j)=lF (n+m+1) (fun j=>if j<k+1 then dg 65536 (gE 65536 f (n+m+1)) j else f j):=uM fun j _=>by
    by_cases h:j=k
    ·rw[ai h,ai (by omega),h]
    ·rw[ah h]
     by_cases h3:j<k
     ·rw[ai h3,ai (by omega)]
     ·rw[ah h3,ah (by omega)]
   rw[e]
   rfl)
  (by
   dsimp only[gG]
   rw[eP,bW,ce _ _])
 rw[hl]
 congr 1
 exact uM fun j hj=>ai hj
theorem Vt {n m A B:Nat}(hA:A<65536 ^ n)(hB:B<65536 ^ m)(hn:n<1000)(hm:m<1000):lE (dk n A) (dk m B)=some (dl (A*B)):=by
 have eP:i64.wrap ((i64.wrap (((dk n A).length:Int)+((dk m B).length:Int)))+(1:Int))=((n+m+1:Nat):Int):=by
  rw[cK,cK,bX (z:=(n:Int)+(m:Int)) (by omega),bX];omega
 have hbnd:∀i,A % 65536 ^ i*B<65536 ^ (n+m+1):=fun i=>by
  have h1:A % 65536 ^ i*B≤A*B:=cM _ (Nat.mod_le _ _)
  have h2:A*B<65536 ^ n*65536 ^ m:=B7 hA hB
  have h3:65536 ^ n*65536 ^ m≤65536 ^ (n+m+1):=by rw[←hJ];exact ia (by decide) (by omega)
  omega
 have hl:=rP (b:=j4 (dk n A) (dk m B)) (s0:=((0:Int),List.replicate (n+m+1) (0:Int))) (fun i=>((i:Int),dk (n+m+1) (A % 65536 ^ i*B))) n (dk (n+m+1) (A % 65536 ^ n*B))
  (by
   rw[Sr,fX,m7,gH]
   have:dk (n+m+1) 0=lF (n+m+1) (fun _=>0):=uM fun j _=>by unfold dg;simp
   rw[this];rfl)
  (fun i hi=>by
   obtain⟨f,h1,h2,h3⟩:=PM (A:=A) (i:=i) hi hn hm hB (hbnd i)
   dsimp only[j4]
   rw[cK,cu _ _,h1,ab,LU hn hm h3,ab,h2,bX,g5,bR]
   have:65536 ^ i*dg 65536 A i*B=dg 65536 A i*B*65536 ^ i:=by simp only[fa,zt,bA]
   rw[this]
   rfl)
  (by
   dsimp only[j4]
   rw[cK,ce _ _])
 unfold lE
 rw[eP,aC,bW,hl,ab,cK,aC rfl,ez hA,zC (by have:=hbnd n;rwa[ez hA] at this) (by omega),ab]
end
end
end Go.Proofs.YtaedcknhkjpmlaaGreat
