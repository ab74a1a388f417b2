/-
  Lemmas, part 4. Conditions: none.
-/
import Derived.Test.YtaedcknhkjpmlaaGreatP3
set_option linter.all false
set_option maxRecDepth 100000
set_option maxHeartbeats 4000000
namespace Go.Proofs.YtaedcknhkjpmlaaGreat
open Go.RowKit Go.IntKind Tryz
noncomputable section
def jT(aX:ap):Bool×Int→Option ((Bool×Int)⊕Bool):=fun (aN,bn)=>cnd (decide (bn<(16:Int))) (bnd (S:=Bool) (cnd aN (gd (0≤bn∧bn<16) (some (decide (((aX.vW)[(bn).toNat]!)=(0:Int))))) (some (false))) fun aR=>some (.inl (aR,i64.wrap (bn+(1:Int))))) (some (.inr aN))
def pD(aX:ap):Option Bool:=bnd (bt (jT aX) (true,(0:Int))) fun a9=>cnd aX.vBad (bnd (S:=Bool) (cnd a9 (some (!aX.vNeg)) (some (false))) fun j9=>some j9) (bnd (S:=Bool) (cnd (!a9) (some (true)) (some (!aX.vNeg))) fun GZ=>some GZ)
theorem Fy {aX:ap}{r:Bool}(h:pD aX=some r):ar prog 177 [dG aq aX] (dB r):=by
 refine bj (rs:=[.tmp 2]) (fun cx hx h0=>?_) func177
 unfold pD at h
 iterate 2 refine ra hx ?_
 refine AW.seq (ra hx ?_)
 refine AW.block ?_
 obtain⟨a9,hy,h⟩:=ae h
 refine lp (S:=Bool×Int) (X:=Bool) (fun (aN,bn)=>[(1,.pt 0 0),(3,dB aN),(4,dI .i64 bn)]) (fun (aN,bn)=>⟨[(0,dC (aq.f aX))],[],1⟩) (PE cx (.exit 0) (fun a9=>[(1,.pt 0 0),(3,dB a9)]) fun a9=>⟨[(0,dC (aq.f aX))],[],1⟩) hy ?_ ?_ ?_
 exact wk0 h0 [0]
 clear hy h
 rintro⟨aN,bn⟩ y h
 dsimp only[jT] at h
 refine AW.seq (ra hx ?_)
 refine cdh h rfl (fun fR h=>?_) (fun fR h=>?_)
 refine AW.skip (AW.seq ?_)
 obtain⟨aR,hy,h⟩:=ae h
 refine jn ((PE cx .normal (fun aR=>[(1,.pt 0 0),(3,dB aR),(4,dI .i64 bn)]) fun aR=>⟨[(0,dC (aq.f aX))],[],1⟩) aR) ?_ ?_
 replace h:=hy
 refine AW.block (rq hx fun K hK=>?_)
 refine mbi ?_
 rcases aF h with⟨BZ,h⟩|⟨BZ,h⟩
 iterate 2 refine ga BZ ?_
 obtain⟨hc3,h⟩:=az h
 refine nbi hK ?_
 exact pe1 h h0 [0]
 refine nbi hK ?_
 exact pe1 h h0 [0]
 refine lw0 ?_
 refine rb hx ?_
 exact pel h h0 [0]
 exact AW.exit (per h h0 [0])
 refine lw0 ?_
 refine AW.seq (rai hx ?_)
 refine cdh h rfl (fun tI h=>?_) (fun tI h=>?_)
 refine AW.seq ?_
 obtain⟨j9,hy,h⟩:=ae h
 refine jn ((PE cx .normal (fun j9=>[(2,dB j9)]) fun j9=>⟨[],[],0⟩) j9) ?_ ?_
 replace h:=hy
 refine rq hx fun K hK=>?_
 refine mbi ?_
 rcases aF h with⟨tH,h⟩|⟨tH,h⟩
 refine nbi hK ?_
 exact pe1 h h0 []
 refine nbi hK ?_
 exact pe1 h h0 []
 refine lw0 ?_
 exact AW.ret (rtv h)
 refine AW.skip (AW.seq ?_)
 obtain⟨GZ,hy,h⟩:=ae h
 refine jn ((PE cx .normal (fun GZ=>[(2,dB GZ)]) fun GZ=>⟨[],[],0⟩) GZ) ?_ ?_
 replace h:=hy
 refine rq hx fun K hK=>?_
 refine mbi ?_
 rcases aF h with⟨nq,h⟩|⟨nq,h⟩
 refine nbi hK ?_
 exact pe1 h h0 []
 refine nbi hK ?_
 exact pe1 h h0 []
 refine lw0 ?_
 exact AW.ret (rtv h)
def bf(aX:ap):Option Bool:=bnd (pD aX) fun x1=>bnd (S:=Bool) (cnd x1 (some (!aX.vBad)) (some (false))) fun jp=>some jp
theorem co {aX:ap}{r:Bool}(h:bf aX=some r):ar prog 142 [dG aq aX] (dB r):=by
 refine bj (rs:=[.tmp 2]) (fun cx hx h0=>?_) func142
 unfold bf at h
 refine ra hx ?_
 refine rs hx fun K hK=>?_
 refine mbi ?_
 refine scb h Fy fun x1 h=>?_
 refine nbi hK ?_
 refine AW.seq ?_
 obtain⟨jp,hy,h⟩:=ae h
 refine jn ((PE cx .normal (fun jp=>[(2,dB jp)]) fun jp=>⟨[],[],0⟩) jp) ?_ ?_
 replace h:=hy
 refine rq hx fun K hK=>?_
 refine mbi ?_
 rcases aF h with⟨fQ,h⟩|⟨fQ,h⟩
 refine nbi hK ?_
 exact pe1 h h0 []
 refine nbi hK ?_
 exact pe1 h h0 []
 refine lw0 ?_
 exact AW.ret (rtv h)
def mv(aX:ap):Int→Option (Int⊕((Int×Bool)⊕Unit)):=fun aR=>cnd (decide (aR<(16:Int))) (gd (0≤aR∧aR<16) (cnd (decide (((aX.vW)[(aR).toNat]!)≠(0:Int))) (some (.inr (.inl ((0:Int),false)))) (some (.inl (i64.wrap (aR+(1:Int))))))) (some (.inr (.inr ())))
def eG(aX:ap):Option (Int×Bool):=bnd (bf aX) fun x1=>bnd (S:=Bool) (cnd (!x1) (some (true)) (some (decide ((1073741824:Int)≤((aX.vW)[((1:Int)).toNat]!))))) fun aD=>cnd aD (some ((0:Int),false)) (bnd (bt (mv aX) (2:Int)) fun y11=>match y11 with| .inl r=>some r| .inr ()=>bnd (some (i64.wrap ((i64.wrap ((i64.wrap ((aX.vW)[((1:Int)).toNat]!))*(4294967296:Int)))+(i64.wrap ((aX.vW)[((0:Int)).toNat]!))))) fun pJ=>cnd aX.vNeg (some (i64.wrap (0 - pJ),true)) (some (pJ,true)))
theorem iX {aX:ap}{r:Int×Bool}(h:eG aX=some r):ar prog 166 [dG aq aX] (.tu [dI .i64 r.1,dB r.2]):=by
 refine bj (rs:=[.tmp 2,.tmp 3]) (fun cx hx h0=>?_) func166
 unfold eG at h
 refine ra hx ?_
 refine rs hx fun K hK=>?_
 refine mbi ?_
 refine scb h co fun x1 h=>?_
 refine nbi hK ?_
 iterate 2 refine AW.seq ?_
 obtain⟨aD,hy,h⟩:=ae h
 refine jn ((PE cx .normal (fun aD=>[(1,.pt 0 0),(16,dB aD)]) fun aD=>⟨[(0,dC (aq.f aX))],[],1⟩) aD) ?_ ?_
 replace h:=hy
 refine rq hx fun K hK=>?_
 refine mbi ?_
 rcases aF h with⟨fQ,h⟩|⟨fQ,h⟩
 refine nbi hK ?_
 exact pe1 h h0 [0]
 refine ga fQ ?_
 refine g1 fQ (vm (by decide:0≤(1:Int)∧(1:Int)<((16:Nat):Int)) cQ bO) ?_
 refine nbi hK ?_
 exact pe1 h h0 [0]
 refine lw0 ?_
 refine cdh h rfl (fun qP h=>?_) (fun qP h=>?_)
 refine ra hx ?_
 refine AW.ret ?_
 cases h
 exact rv2
 refine AW.skip (AW.seq (ra hx ?_))
 refine AW.block ?_
 obtain⟨y,hy,h⟩:=ae h
 refine lp (S:=Int) (X:=(Int×Bool)⊕Unit) (fun aR=>[(1,.pt 0 0),(5,dI .i64 aR)]) (fun aR=>⟨[(0,dC (aq.f aX))],[],1⟩) (PS (PR [.tmp 2,.tmp 3] fun r=>.tu [dI .i64 r.1,dB r.2]) (PE cx (.exit 0) (fun ()=>[(1,.pt 0 0)]) fun ()=>⟨[(0,dC (aq.f aX))],[],1⟩)) hy ?_ ?_ ?_
 exact wk0 h0 [0]
 clear hy h
 rintro aR y h
 dsimp only[mv] at h
 refine AW.seq (ra hx ?_)
 refine cdh h rfl (fun tI h=>?_) (fun tI h=>?_)
 refine AW.skip (AW.seq (AW.block (rs hx fun K hK=>?_)))
 iterate 2 refine sa ?_
 obtain⟨hc8,h⟩:=az h
 refine nbi hK ?_
 refine cdh h rfl (fun nq h=>?_) (fun nq h=>?_)
 refine ra hx ?_
 refine AW.ret ?_
 cases h
 refine PS.r ⟨by nofun,PS.l (PR.i ?_)⟩
 exact rv2
 refine AW.skip (rb hx ?_)
 exact pel h h0 [0]
 exact AW.exit (peq h h0 [0])
 rcases y with r|⟨⟩
 rintro ex tm' hp' ⟨rfl,hw⟩
 cases h
 exact hw
 refine lwr ?_
 refine rs hx fun K hK=>?_
 refine sa ?_
 refine s1 (vm (by decide:0≤(1:Int)∧(1:Int)<((16:Nat):Int)) cQ bO) ?_
 iterate 4 refine sbi ?_
 refine s1 (vm (by decide:0≤(0:Int)∧(0:Int)<((16:Nat):Int)) cQ bO) ?_
 iterate 3 refine sbi ?_
 obtain⟨pJ,yA,h⟩:=ae h
 replace yA:=bB yA
 refine s2 (d2:=dI .i64 pJ) li (f7 (congrArg (dI .i64) yA)) ?_
 refine nl hK ?_
 refine AW.seq (rai hx ?_)
 refine cdh h rfl (fun ru h=>?_) (fun ru h=>?_)
 refine ra hx ?_
 refine AW.ret ?_
 cases h
 exact rv2
 refine AW.skip (ra hx ?_)
 refine AW.ret ?_
 cases h
 exact rv2
def kX(ek:List Int):Int→Option (Int⊕Int):=fun aD=>bnd (S:=Bool) (cnd (decide ((0:Int)<aD)) (gd (0≤i64.wrap (aD - (1:Int))∧i64.wrap (aD - (1:Int))<((ek).length:Int)) (some (decide (((ek)[(i64.wrap (aD - (1:Int))).toNat]!)=(0:Int))))) (some (false))) fun nR=>cnd nR (some (.inl (i64.wrap (aD - (1:Int))))) (some (.inr aD))
def e9(ek:List Int):Option (List Int):=bnd (bt (kX ek) ((ek).length:Int)) fun oE=>gd (0≤(0:Int)∧(0:Int)≤oE∧oE≤((ek).length:Int)) (some (Cm ek (0:Int) oE))
theorem kD {ek:List Int}{r:List Int}(h:e9 ek=some r):ar prog 175 [dL (cI .i64) ek] (dL (cI .i64) r):=by
 refine bj (rs:=[.tmp 2]) (fun cx hx h0=>?_) func175
 unfold e9 at h
 refine rs hx fun K hK=>?_
 refine s1 (d:=dO 0 (cI .i64) ([]:List Int)) (gl cX dU) ?_
 refine nl hK ?_
 refine ra hx ?_
 refine AW.seq (AW.block ?_)
 obtain⟨oE,hy,h⟩:=ae h
 refine lp (S:=Int) (X:=Int) (fun aD=>[(0,dL (cI .i64) ek),(3,dI .i64 aD)]) (fun aD=>⟨[],[],0⟩) (PE cx (.exit 0) (fun oE=>[(0,dL (cI .i64) ek),(3,dI .i64 oE)]) fun oE=>⟨[],[],0⟩) hy ?_ ?_ ?_
 exact wk0 h0 []
 clear hy h
 rintro aD y h
 dsimp only[kX] at h
 iterate 2 refine AW.seq ?_
 obtain⟨nR,hy,h⟩:=ae h
 refine jn ((PE cx .normal (fun nR=>[(0,dL (cI .i64) ek),(3,dI .i64 aD),(15,dB nR)]) fun nR=>⟨[],[],0⟩) nR) ?_ ?_
 replace h:=hy
 refine rq hx fun K hK=>?_
 refine mbi ?_
 rcases aF h with⟨fR,h⟩|⟨fR,h⟩
 iterate 3 refine ga fR ?_
 obtain⟨qC,h⟩:=az h
 have xw:(i64.wrap (aD - (1:Int))).toNat<(ek).length:=by omega
 refine gbi ?_
 refine g1 fR (yc (c:=(cI .i64)) (l:=ek) (n:=(i64.wrap (aD - (1:Int))).toNat) (o:=0) dU xw) ?_
 refine nbi hK ?_
 exact pe1 h h0 []
 refine nbi hK ?_
 exact pe1 h h0 []
 refine lw0 ?_
 refine cdh h rfl (fun rt h=>?_) (fun rt h=>?_)
 refine AW.skip (AW.block (rb hx ?_))
 exact pel h h0 []
 exact AW.exit (per h h0 [])
 refine lw0 ?_
 refine rs hx fun K hK=>?_
 iterate 2 refine sa ?_
 obtain⟨hc7,h⟩:=az h
 refine s1 (T_sl (c:=(cI .i64)) (l:=ek) (a:=(0:Int)) (b:=oE) hc7 cX dU) ?_
 refine nbi hK ?_
 exact AW.ret (rtv h)
def fe :Option ap:=some (⟨true,false,(eb)⟩:ap)
theorem kj  {r:ap}(h:fe=some r):ar prog 124 [] (dG aq r):=by
 refine bj (rs:=[.cell 0 41]) (fun cx hx h0=>?_) func124
 unfold fe at h
 refine rai hx ?_
 refine rs hx fun K hK=>?_
 refine s1 (d:=dG aq (⟨true,false,(eb)⟩:ap)) (gV (FL.cons (y:=true) (ss b8) rfl rfl (FL.nil _)) eY) ?_
 refine nbi hK ?_
 exact AW.ret (rtv h)
def fK(x1:List Int):Int×ap→Option ((Int×ap)⊕ap):=fun (bq,ml)=>cnd (decide (bq<((x1).length:Int))) (bnd (S:=ap) (cnd (decide ((Int.tmod bq (2:Int))=(0:Int))) (gd (0≤i64.wrap (Int.tdiv bq (2:Int))∧i64.wrap (Int.tdiv bq (2:Int))<16) (gd (0≤bq∧bq<((x1).length:Int)) (gd (0≤i64.wrap (Int.tdiv bq (2:Int))∧i64.wrap (Int.tdiv bq (2:Int))<16) (bnd (some ((⟨ml.vBad,ml.vNeg,(ml.vW).set! (i64.wrap (Int.tdiv bq (2:Int))).toNat (u32.wrap (((ml.vW)[(i64.wrap (Int.tdiv bq (2:Int))).toNat]!)+(u32.wrap ((x1)[(bq).toNat]!))))⟩:ap))) fun qx=>some (qx))))) (gd (0≤i64.wrap (Int.tdiv bq (2:Int))∧i64.wrap (Int.tdiv bq (2:Int))<16) (gd (0≤bq∧bq<((x1).length:Int)) (gd (0≤i64.wrap (Int.tdiv bq (2:Int))∧i64.wrap (Int.tdiv bq (2:Int))<16) (bnd (some ((⟨ml.vBad,ml.vNeg,(ml.vW).set! (i64.wrap (Int.tdiv bq (2:Int))).toNat (u32.wrap (((ml.vW)[(i64.wrap (Int.tdiv bq (2:Int))).toNat]!)+(u32.wrap ((u32.wrap ((x1)[(bq).toNat]!))*(65536:Int)))))⟩:ap))) fun x26=>some (x26)))))) fun tX=>some (.inl (i64.wrap (bq+(1:Int)),tX))) (some (.inr ml))
def b7(zF:Bool)(ek:List Int):Option ap:=bnd (e9 ek) fun x1=>cnd (decide ((32:Int)<((x1).length:Int))) (bnd (fe) fun x4=>some x4) (bnd (S:=ap) (cnd zF (bnd (some ((⟨false,decide ((0:Int)<((x1).length:Int)),(eb)⟩:ap))) fun x7=>some (x7)) (some ((⟨false,false,(eb)⟩:ap)))) fun c8=>bnd (bt (fK x1) ((0:Int),c8)) fun eH=>some eH)
theorem eC {zF:Bool}{ek:List Int}{r:ap}(h:b7 zF ek=some r):ar prog 140 [dB zF,dL (cI .i64) ek] (dG aq r):=by
 refine bj (rs:=[.cell 4 41]) (fun cx hx h0=>?_) func140
 unfold b7 at h
 refine rai hx ?_
 refine rs hx fun K hK=>?_
 refine sa ?_
 refine scb h kD fun x1 h=>?_
 refine nbi hK ?_
 refine AW.seq (ra hx ?_)
 refine cdh h rfl (fun fQ h=>?_) (fun fQ h=>?_)
 refine rs hx fun K hK=>?_
 refine scb h kj fun x4 h=>?_
 refine nbi hK ?_
 exact AW.ret (rtv h)
 refine AW.skip (AW.seq ?_)
 obtain⟨c8,hy,h⟩:=ae h
 refine jn ((PE cx .normal (fun c8=>[(4,.pt 0 0),(5,dL (cI .i64) x1),(6,.pt 1 0)]) fun c8=>⟨[(0,dC (aq.f b8)),(1,dC (aq.f c8))],[],2⟩) c8) ?_ ?_
 replace h:=hy
 refine rq hx fun K hK=>?_
 refine mbi ?_
 rcases aF h with⟨qP,h⟩|⟨qP,h⟩
 iterate 3 refine ga qP ?_
 refine sbi ?_
 refine s1 (d:=dG aq (⟨false,decide ((0:Int)<((x1).length:Int)),(eb)⟩:ap)) (gV (FL.cons (y:=decide ((0:Int)<((x1).length:Int))) (nH b8) rfl rfl (FL.nil _)) eY) ?_
 refine sbi ?_
 obtain⟨x7,hx8,h⟩:=ae h
 replace hx8:=bB hx8
 refine s0 (nD (b':=(⟨false,decide ((0:Int)<((x1).length:Int)),(eb)⟩:ap)) (bT.id _ _) eY hx8) ?_
 refine nl hK ?_
 exact pe1 h h0 [0,1]
 iterate 3 refine Pe rfl rfl qP ?_
 refine sbi ?_
 refine s1 (d:=dG aq b8) (gV (FL.cons (y:=false) (nH b8) rfl rfl (FL.nil _)) eY) ?_
 refine nbi hK ?_
 exact pe1 h h0 [0,1]
 refine lw0 ?_
 refine AW.seq (ra hx ?_)
 refine AW.block ?_
 obtain⟨eH,hy,h⟩:=ae h
 refine lp (S:=Int×ap) (X:=ap) (fun (bq,ml)=>[(4,.pt 0 0),(5,dL (cI .i64) x1),(6,.pt 1 0),(7,dI .i64 bq)]) (fun (bq,ml)=>⟨[(0,dC (aq.f b8)),(1,dC (aq.f ml))],[],2⟩) (PE cx (.exit 0) (fun eH=>[(4,.pt 0 0),(6,.pt 1 0)]) fun eH=>⟨[(0,dC (aq.f b8)),(1,dC (aq.f eH))],[],2⟩) hy ?_ ?_ ?_
 exact wk0 h0 [0,1]
 clear hy h
 rintro⟨bq,ml⟩ y h
 dsimp only[fK] at h
 refine AW.seq (ra hx ?_)
 refine cdh h rfl (fun nq h=>?_) (fun nq h=>?_)
 refine AW.skip (AW.seq ?_)
 obtain⟨tX,hy,h⟩:=ae h
 refine jn ((PE cx .normal (fun tX=>[(4,.pt 0 0),(5,dL (cI .i64) x1),(6,.pt 1 0),(7,dI .i64 bq)]) fun tX=>⟨[(0,dC (aq.f b8)),(1,dC (aq.f tX))],[],2⟩) tX) ?_ ?_
 replace h:=hy
 refine AW.block (ra hx ?_)
 refine cdh h rfl (fun xx h=>?_) (fun xx h=>?_)
 refine rqd [] hx fun K hK=>?_
 iterate 5 refine sa ?_
 obtain⟨hc12,h⟩:=az h
 iterate 4 refine sbi ?_
 obtain⟨hc14,h⟩:=az h
 have hn15:(bq).toNat<(x1).length:=by omega
 refine sbi ?_
 refine s1 (yc (c:=(cI .i64)) (l:=x1) (n:=(bq).toNat) (o:=0) dU hn15) ?_
 iterate 3 refine sa ?_
 obtain⟨PC,h⟩:=az h
 have Sn:(i64.wrap (Int.tdiv bq (2:Int))).toNat<16:=by omega
 refine sbi ?_
 obtain⟨qx,DC,h⟩:=ae h
 replace DC:=bB DC
 refine s0 (nD (b':=u32.wrap (((ml.vW)[(i64.wrap (Int.tdiv bq (2:Int))).toNat]!)+(u32.wrap ((x1)[(bq).toNat]!)))) (bT.comp (nG ml) (bT.vec (cI .u32) ml.vW (i64.wrap (Int.tdiv bq (2:Int))).toNat Sn) (fun _=>rfl)) bO DC) ?_
 refine nl hK ?_
 exact pe1 h h0 [0,1]
 refine rqd [] hx fun K hK=>?_
 iterate 5 refine sa ?_
 obtain⟨hc20,h⟩:=az h
 iterate 4 refine sbi ?_
 obtain⟨PB,h⟩:=az h
 have hn23:(bq).toNat<(x1).length:=by omega
 refine sbi ?_
 refine s1 (yc (c:=(cI .i64)) (l:=x1) (n:=(bq).toNat) (o:=0) dU hn23) ?_
 iterate 4 refine sa ?_
 obtain⟨hc24,h⟩:=az h
 have hn25:(i64.wrap (Int.tdiv bq (2:Int))).toNat<16:=by omega
 refine sbi ?_
 obtain⟨x26,hx27,h⟩:=ae h
 replace hx27:=bB hx27
 refine s0 (nD (b':=u32.wrap (((ml.vW)[(i64.wrap (Int.tdiv bq (2:Int))).toNat]!)+(u32.wrap ((u32.wrap ((x1)[(bq).toNat]!))*(65536:Int))))) (bT.comp (nG ml) (bT.vec (cI .u32) ml.vW (i64.wrap (Int.tdiv bq (2:Int))).toNat hn25) (fun _=>rfl)) bO hx27) ?_
 refine nl hK ?_
 exact pe1 h h0 [0,1]
 refine lw0 ?_
 refine rb hx ?_
 exact pel h h0 [0,1]
 exact AW.exit (per h h0 [0,1])
 refine lw0 ?_
 refine rai hx ?_
 exact AW.ret (rtv h)
def dp(ek:List Int)(u7:Int):Option Int:=cnd (decide (u7<((ek).length:Int))) (gd (0≤u7∧u7<((ek).length:Int)) (some ((ek)[(u7).toNat]!))) (some (0:Int))
theorem fW {ek:List Int}{u7:Int}{r:Int}(h:dp ek u7=some r):ar prog 176 [dL (cI .i64) ek,dI .i64 u7] (dI .i64 r):=by
 refine bj (rs:=[.tmp 4]) (fun cx hx h0=>?_) func176
 unfold dp at h
 refine ra hx ?_
 refine AW.seq (ra hx ?_)
 refine cdh h rfl (fun fR h=>?_) (fun fR h=>?_)
 refine rs hx fun K hK=>?_
 iterate 2 refine sa ?_
 obtain⟨qC,h⟩:=az h
 have xw:(u7).toNat<(ek).length:=by omega
 refine sbi ?_
 refine s1 (yc (c:=(cI .i64)) (l:=ek) (n:=(u7).toNat) (o:=0) dU xw) ?_
 refine nbi hK ?_
 exact AW.ret (rtv h)
 refine AW.skip (ra hx ?_)
 exact AW.ret (rtv h)
def jS(aJ:List Int)(aO:List Int):(List Int)×Int×Int→Option (((List Int)×Int×Int)⊕((List Int))):=fun (dh,bM,eh)=>cnd (decide (eh<(i64.wrap ((max ((aJ).length:Int) ((aO).length:Int))+(1:Int))))) (bnd (dp aJ eh) fun x2=>bnd (dp aO eh) fun x4=>bnd (some (i64.wrap ((i64.wrap (x2+x4))+bM))) fun x6=>gd ((dh++[Int.tmod x6 (65536:Int)]).length*8≤140737488355328) (some (.inl (dh++[Int.tmod x6 (65536:Int)],i64.wrap (Int.tdiv x6 (65536:Int)),i64.wrap (eh+(1:Int)))))) (some (.inr dh))
def kK(aJ:List Int)(aO:List Int):Option (List Int):=bnd (bt (jS aJ aO) (([]:List Int),(0:Int),(0:Int))) fun ce=>bnd (e9 ce) fun mI=>some mI
theorem t8 {aJ:List Int}{aO:List Int}{r:List Int}(h:kK aJ aO=some r):ar prog 141 [dL (cI .i64) aJ,dL (cI .i64) aO] (dL (cI .i64) r):=by
 refine bj (rs:=[.tmp 4]) (fun cx hx h0=>?_) func141
 unfold kK at h
 refine rs hx fun K hK=>?_
 refine s1 (d:=dO 0 (cI .i64) ([]:List Int)) (gl cX dU) ?_
 refine nl hK ?_
 refine rs hx fun K hK=>?_
 refine s1 (d:=dO 1 (cI .i64) ([]:List Int)) (gl cX dU) ?_
 refine nl hK ?_
 refine ra hx ?_
 refine AW.seq (ra hx ?_)
 refine AW.block ?_
 obtain⟨ce,hy,h⟩:=ae h
 refine lp (S:=(List Int)×Int×Int) (X:=(List Int)) (fun (dh,bM,eh)=>[(0,dL (cI .i64) aJ),(1,dL (cI .i64) aO),(5,dO 0 (cI .i64) dh),(6,dI .i64 bM),(7,dI .i64 eh)]) (fun (dh,bM,eh)=>⟨[],[(0,(dh).length,1,3)],1⟩) (PE cx (.exit 0) (fun ce=>[(5,dO 0 (cI .i64) ce)]) fun ce=>⟨[],[(0,(ce).length,1,3)],1⟩) hy ?_ ?_ ?_
 exact wk0 h0 [1]
 clear hy h
 rintro⟨dh,bM,eh⟩ y h
 dsimp only[jS] at h
 refine AW.seq (ra hx ?_)
 refine cdh h rfl (fun fR h=>?_) (fun fR h=>?_)
 refine AW.skip (AW.seq (AW.block (rs hx fun K hK=>?_)))
 refine mbi ?_
 refine scb h fW fun x2 h=>?_
 refine mbi ?_
 refine scb h fW fun x4 h=>?_
 iterate 3 refine sa ?_
 obtain⟨x6,vt,h⟩:=ae h
 replace vt:=bB vt
 refine s2 (d2:=dI .i64 x6) li (f7 (congrArg (dI .i64) vt)) ?_
 refine nl hK ?_
 refine rs hx fun K hK=>?_
 iterate 3 refine sa ?_
 refine s1 (d:=dO 1 (cI .i64) [Int.tmod x6 (65536:Int)]) (ke cX dU) ?_
 obtain⟨hc8,h⟩:=az h
 refine s1 (d:=dO 0 (cI .i64) (dh++[Int.tmod x6 (65536:Int)])) (rU cX dU hc8) ?_
 refine nbi hK ?_
 iterate 2 refine rb hx ?_
 exact pel h h0 [0]
 exact AW.exit (per h h0 [0])
 refine lw0 ?_
 refine rs hx fun K hK=>?_
 refine sa ?_
 refine scb h kD fun mI h=>?_
 refine nbi hK ?_
 exact AW.ret (rtv h)
def eI(cZ:Int):Option ap:=cnd (decide ((0:Int)≤cZ)) (bnd (b7 false [Int.tmod cZ (65536:Int),Int.tmod (i64.wrap (Int.tdiv cZ (65536:Int))) (65536:Int),Int.tmod (i64.wrap (Int.tdiv cZ (4294967296:Int))) (65536:Int),i64.wrap (Int.tdiv cZ (281474976710656:Int))]) fun x2=>some x2) (bnd (some (i64.wrap (0 - (i64.wrap (cZ+(1:Int)))))) fun x4=>bnd (kK [Int.tmod x4 (65536:Int),Int.tmod (i64.wrap (Int.tdiv x4 (65536:Int))) (65536:Int),Int.tmod (i64.wrap (Int.tdiv x4 (4294967296:Int))) (65536:Int),i64.wrap (Int.tdiv x4 (281474976710656:Int))] [(1:Int)]) fun x6=>bnd (b7 true x6) fun x8=>some x8)
theorem ik {cZ:Int}{r:ap}(h:eI cZ=some r):ar prog 88 [dI .i64 cZ] (dG aq r):=by
 refine bj (rs:=[.cell 2 41]) (fun cx hx h0=>?_) func88
 unfold eI at h
 refine rai hx ?_
 refine AW.seq (ra hx ?_)
 refine cdh h rfl (fun fR h=>?_) (fun fR h=>?_)
 refine rs hx fun K hK=>?_
 iterate 10 refine sa ?_
 refine s1 (d:=dO 1 (cI .i64) [Int.tmod cZ (65536:Int),Int.tmod (i64.wrap (Int.tdiv cZ (65536:Int))) (65536:Int),Int.tmod (i64.wrap (Int.tdiv cZ (4294967296:Int))) (65536:Int),i64.wrap (Int.tdiv cZ (281474976710656:Int))]) (ke cX dU) ?_
 refine scb h eC fun x2 h=>?_
 refine nbi hK ?_
 exact AW.ret (rtv h)
 refine AW.skip (rs hx fun K hK=>?_)
 iterate 3 refine sa ?_
 obtain⟨x4,Pn,h⟩:=ae h
 replace Pn:=bB Pn
 refine s2 (d2:=dI .i64 x4) li (f7 (congrArg (dI .i64) Pn)) ?_
 refine nl hK ?_
 refine rs hx fun K hK=>?_
 iterate 10 refine sa ?_
 refine s1 (d:=dO 1 (cI .i64) [Int.tmod x4 (65536:Int),Int.tmod (i64.wrap (Int.tdiv x4 (65536:Int))) (65536:Int),Int.tmod (i64.wrap (Int.tdiv x4 (4294967296:Int))) (65536:Int),i64.wrap (Int.tdiv x4 (281474976710656:Int))]) (ke cX dU) ?_
 refine s1 (d:=dO 2 (cI .i64) [(1:Int)]) (ke cX dU) ?_
 refine scb h t8 fun x6 h=>?_
 refine scb h eC fun x8 h=>?_
 refine nbi hK ?_
 exact AW.ret (rtv h)
def jh(aX:ap):(List Int)×Int→Option (((List Int)×Int)⊕((List Int))):=fun (aN,bn)=>cnd (decide (bn<(16:Int))) (gd (0≤bn∧bn<16) (gd (0≤bn∧bn<16) (gd ((aN++[i64.wrap (Int.tmod ((aX.vW)[(bn).toNat]!) (65536:Int)),i64.wrap (u32.wrap (Int.tdiv ((aX.vW)[(bn).toNat]!) (65536:Int)))]).length*8≤140737488355328) (some (.inl (aN++[i64.wrap (Int.tmod ((aX.vW)[(bn).toNat]!) (65536:Int)),i64.wrap (u32.wrap (Int.tdiv ((aX.vW)[(bn).toNat]!) (65536:Int)))],i64.wrap (bn+(1:Int)))))))) (some (.inr aN))
def bw(aX:ap):Option (List Int):=bnd (bt (jh aX) (([]:List Int),(0:Int))) fun a9=>bnd (e9 a9) fun x8=>some x8
theorem cP {aX:ap}{r:List Int}(h:bw aX=some r):ar prog 143 [dG aq aX] (dL (cI .i64) r):=by
 refine bj (rs:=[.tmp 2]) (fun cx hx h0=>?_) func143
 unfold bw at h
 refine rs hx fun K hK=>?_
 refine sa ?_
 refine s1 (d:=dO 1 (cI .i64) ([]:List Int)) (gl cX dU) ?_
 refine nl hK ?_
 refine rs hx fun K hK=>?_
 refine s1 (d:=dO 2 (cI .i64) ([]:List Int)) (gl cX dU) ?_
 refine nl hK ?_
 refine AW.seq (ra hx ?_)
 refine AW.block ?_
 obtain⟨a9,hy,h⟩:=ae h
 refine lp (S:=(List Int)×Int) (X:=(List Int)) (fun (aN,bn)=>[(1,.pt 0 0),(3,dO 1 (cI .i64) aN),(4,dI .i64 bn)]) (fun (aN,bn)=>⟨[(0,dC (aq.f aX))],[(1,(aN).length,1,3)],2⟩) (PE cx (.exit 0) (fun a9=>[(3,dO 0 (cI .i64) a9)]) fun a9=>⟨[],[(0,(a9).length,1,3)],1⟩) hy ?_ ?_ ?_
 exact wk0 h0 [0,2]
 clear hy h
 rintro⟨aN,bn⟩ y h
 dsimp only[jh] at h
 refine AW.seq (ra hx ?_)
 refine cdh h rfl (fun fR h=>?_) (fun fR h=>?_)
 refine AW.skip (AW.seq (AW.block (rqd [] hx fun K hK=>?_)))
 iterate 3 refine sa ?_
 obtain⟨qC,h⟩:=az h
 iterate 6 refine sbi ?_
 obtain⟨N6,h⟩:=az h
 iterate 4 refine sbi ?_
 refine s1 (EU cX dU) ?_
 obtain⟨hc6,h⟩:=az h
 refine s1 (d:=dO 1 (cI .i64) (aN++[i64.wrap (Int.tmod ((aX.vW)[(bn).toNat]!) (65536:Int)),i64.wrap (u32.wrap (Int.tdiv ((aX.vW)[(bn).toNat]!) (65536:Int)))])) (rU cX dU hc6) ?_
 refine nbi hK ?_
 refine rb hx ?_
 exact pel h h0 [0,1]
 exact AW.exit (per h h0 [1])
 refine lw0 ?_
 refine rs hx fun K hK=>?_
 refine sa ?_
 refine scb h kD fun x8 h=>?_
 refine nbi hK ?_
 exact AW.ret (rtv h)
def pW(aX:ap):Option ap:=bnd (bf aX) fun x1=>cnd (!x1) (bnd (fe) fun x4=>some x4) (bnd (bw aX) fun x6=>bnd (b7 false x6) fun x8=>some x8)
theorem Jf {aX:ap}{r:ap}(h:pW aX=some r):ar prog 167 [dG aq aX] (dG aq r):=by
 refine bj (rs:=[.cell 2 41]) (fun cx hx h0=>?_) func167
 unfold pW at h
 refine rai hx ?_
 refine AW.seq (rs hx fun K hK=>?_)
 refine mbi ?_
 refine scb h co fun x1 h=>?_
 refine nbi hK ?_
 refine cdh h rfl (fun fQ h=>?_) (fun fQ h=>?_)
 refine rs hx fun K hK=>?_
 refine scb h kj fun x4 h=>?_
 refine nbi hK ?_
 exact AW.ret (rtv h)
 refine AW.skip (rs hx fun K hK=>?_)
 refine mbi ?_
 refine scb h cP fun x6 h=>?_
 refine scb h eC fun x8 h=>?_
 refine nbi hK ?_
 exact AW.ret (rtv h)
def iz(ek:List Int)(u7:Int):Option Int:=cnd (decide (u7<(0:Int))) (some (0:Int)) (bnd (dp ek u7) fun x2=>some x2)
theorem t9 {ek:List Int}{u7:Int}{r:Int}(h:iz ek u7=some r):ar prog 194 [dL (cI .i64) ek,dI .i64 u7] (dI .i64 r):=by
 refine bj (rs:=[.tmp 4]) (fun cx hx h0=>?_) func194
 unfold iz at h
 refine ra hx ?_
 refine AW.seq (ra hx ?_)
 refine cdh h rfl (fun fR h=>?_) (fun fR h=>?_)
 refine ra hx ?_
 exact AW.ret (rtv h)
 refine AW.skip (rs hx fun K hK=>?_)
 refine mbi ?_
 refine scb h fW fun x2 h=>?_
 refine nbi hK ?_
 exact AW.ret (rtv h)
def jf(aJ:List Int)(aO:List Int)(aN:Int):Int×(List Int)→Option ((Int×(List Int))⊕((List Int))):=fun (ic,sM)=>cnd (decide (ic<((aO).length:Int))) (gd (0≤i64.wrap (aN+ic)∧i64.wrap (aN+ic)<(((i64.wrap ((i64.wrap (((aJ).length:Int)+((aO).length:Int)))+(1:Int))).toNat:Nat):Int)∧i64.wrap (aN+ic)<((sM).length:Int)) (gd (0≤aN∧aN<((aJ).length:Int)) (gd (0≤ic∧ic<((aO).length:Int)) (gd (0≤i64.wrap (aN+ic)∧i64.wrap (aN+ic)<(((i64.wrap ((i64.wrap (((aJ).length:Int)+((aO).length:Int)))+(1:Int))).toNat:Nat):Int)∧i64.wrap (aN+ic)<((sM).length:Int)) (bnd (some ((sM).set ((i64.wrap (aN+ic)).toNat) (i64.wrap (((sM)[(i64.wrap (aN+ic)).toNat]!)+(i64.wrap (((aJ)[(aN).toNat]!)*((aO)[(ic).toNat]!))))))) fun nf=>some (.inl (i64.wrap (ic+(1:Int)),nf))))))) (some (.inr sM))
def gu(aJ:List Int)(aO:List Int):Int×Int×(List Int)→Option ((Int×Int×(List Int))⊕((List Int))):=fun (KP,oT,tV)=>cnd (decide (oT<(((i64.wrap ((i64.wrap (((aJ).length:Int)+((aO).length:Int)))+(1:Int))).toNat:Nat):Int))) (gd (0≤oT∧oT<(((i64.wrap ((i64.wrap (((aJ).length:Int)+((aO).length:Int)))+(1:Int))).toNat:Nat):Int)∧oT<((tV).length:Int)) (bnd (some (i64.wrap (((tV)[(oT).toNat]!)+KP))) fun qx=>gd (0≤oT∧oT<(((i64.wrap ((i64.wrap (((aJ).length:Int)+((aO).length:Int)))+(1:Int))).toNat:Nat):Int)∧oT<((tV).length:Int)) (some (.inl (i64.wrap (Int.tdiv qx (65536:Int)),i64.wrap (oT+(1:Int)),(tV).set ((oT).toNat) (Int.tmod qx (65536:Int))))))) (some (.inr tV))
def jR(aJ:List Int)(aO:List Int):Int×(List Int)→Option ((Int×(List Int))⊕((List Int))):=fun (aN,bn)=>cnd (decide (aN<((aJ).length:Int))) (bnd (bt (jf aJ aO aN) ((0:Int),bn)) fun Am=>bnd (bt (gu aJ aO) ((0:Int),(0:Int),Am)) fun Aj=>some (.inl (i64.wrap (aN+(1:Int)),Aj))) (some (.inr bn))
def ln(aJ:List Int)(aO:List Int):Option (List Int):=gd (0≤i64.wrap ((i64.wrap (((aJ).length:Int)+((aO).length:Int)))+(1:Int))∧i64.wrap ((i64.wrap (((aJ).length:Int)+((aO).length:Int)))+(1:Int))≤1000000) (bnd (bt (jR aJ aO) ((0:Int),List.replicate (i64.wrap ((i64.wrap (((aJ).length:Int)+((aO).length:Int)))+(1:Int))).toNat (0:Int))) fun a9=>gd ((i64.wrap ((i64.wrap (((aJ).length:Int)+((aO).length:Int)))+(1:Int))).toNat=(a9).length) (bnd (e9 a9) fun IT=>some IT))
theorem xF {aJ:List Int}{aO:List Int}{r:List Int}(h:ln aJ aO=some r):ar prog 173 [dL (cI .i64) aJ,dL (cI .i64) aO] (dL (cI .i64) r):=by
 refine bj (rs:=[.tmp 4]) (fun cx hx h0=>?_) func173
 unfold ln at h
 refine rs hx fun K hK=>?_
 refine s1 (d:=dO 0 (cI .i64) ([]:List Int)) (gl cX dU) ?_
 refine nl hK ?_
 refine rs hx fun K hK=>?_
 iterate 6 refine sa ?_
 obtain⟨N7,h⟩:=az h
 refine q1 (sMk (c:=(cI .i64)) (z0:=(0:Int)) tok N7 cX dU (by first|rfl|kernel_rfl)) ?_
 refine nbi hK ?_
 refine AW.seq (ra hx ?_)
 refine AW.block ?_
 obtain⟨a9,hy,h⟩:=ae h
 refine lp (S:=Int×(List Int)) (X:=(List Int)) (fun (aN,bn)=>[(0,dL (cI .i64) aJ),(1,dL (cI .i64) aO),(5,.ow 0 0 1 ((i64.wrap ((i64.wrap (((aJ).length:Int)+((aO).length:Int)))+(1:Int))).toNat)),(6,dI .i64 aN)]) (fun (aN,bn)=>⟨[(0,dC ((cW (cI .i64)).f bn))],[],1⟩) (PE cx (.exit 0) (fun a9=>[(5,.ow 0 0 1 ((i64.wrap ((i64.wrap (((aJ).length:Int)+((aO).length:Int)))+(1:Int))).toNat))]) fun a9=>⟨[(0,dC ((cW (cI .i64)).f a9))],[],1⟩) hy ?_ ?_ ?_
 exact wk0 h0 [1]
 clear hy h
 rintro⟨aN,bn⟩ y h
 dsimp only[jR] at h
 refine AW.seq (ra hx ?_)
 refine cdh h rfl (fun BZ h=>?_) (fun BZ h=>?_)
 refine AW.skip (AW.seq (AW.block (AW.seq (ra hx ?_))))
 refine AW.block ?_
 obtain⟨Am,hy,h⟩:=ae h
 refine lp (S:=Int×(List Int)) (X:=(List Int)) (fun (ic,sM)=>[(0,dL (cI .i64) aJ),(1,dL (cI .i64) aO),(5,.ow 0 0 1 ((i64.wrap ((i64.wrap (((aJ).length:Int)+((aO).length:Int)))+(1:Int))).toNat)),(6,dI .i64 aN),(7,dI .i64 ic)]) (fun (ic,sM)=>⟨[(0,dC ((cW (cI .i64)).f sM))],[],1⟩) (PE cx (.exit 2) (fun Am=>[(0,dL (cI .i64) aJ),(1,dL (cI .i64) aO),(5,.ow 0 0 1 ((i64.wrap ((i64.wrap (((aJ).length:Int)+((aO).length:Int)))+(1:Int))).toNat)),(6,dI .i64 aN)]) fun Am=>⟨[(0,dC ((cW (cI .i64)).f Am))],[],1⟩) hy ?_ ?_ ?_
 exact wk0 h0 [0]
 clear hy h
 rintro⟨ic,sM⟩ y h
 dsimp only[jf] at h
 refine AW.seq (ra hx ?_)
 refine cdh h rfl (fun fQ h=>?_) (fun fQ h=>?_)
 refine AW.skip (AW.seq (AW.block (rqd [] hx fun K hK=>?_)))
 iterate 8 refine sa ?_
 obtain⟨N6,h⟩:=az h
 have hn5:(i64.wrap (aN+ic)).toNat<(sM).length:=by omega
 refine s1 (wO ⟨N6.1,N6.2.1⟩ cX dU) ?_
 refine s1 (wN (bT.seqW (cI .i64) sM ((i64.wrap (aN+ic)).toNat) hn5) dU) ?_
 iterate 2 refine sa ?_
 obtain⟨hc6,h⟩:=az h
 have hn7:(aN).toNat<(aJ).length:=by omega
 refine sbi ?_
 refine s1 (yc (c:=(cI .i64)) (l:=aJ) (n:=(aN).toNat) (o:=0) dU hn7) ?_
 iterate 2 refine sa ?_
 obtain⟨hc8,h⟩:=az h
 have hn9:(ic).toNat<(aO).length:=by omega
 refine sbi ?_
 refine s1 (yc (c:=(cI .i64)) (l:=aO) (n:=(ic).toNat) (o:=0) dU hn9) ?_
 iterate 2 refine sa ?_
 obtain⟨L8,h⟩:=az h
 have hn11:(i64.wrap (aN+ic)).toNat<(sM).length:=by omega
 refine s1 (wO ⟨L8.1,L8.2.1⟩ cX dU) ?_
 obtain⟨nf,Bg,h⟩:=ae h
 replace Bg:=bB Bg
 refine s0 (T_stVw (b':=i64.wrap (((sM)[(i64.wrap (aN+ic)).toNat]!)+(i64.wrap (((aJ)[(aN).toNat]!)*((aO)[(ic).toNat]!))))) (bT.seqW (cI .i64) sM ((i64.wrap (aN+ic)).toNat) hn11) dU Bg) ?_
 refine nl hK ?_
 refine rb hx ?_
 exact pel h h0 [0]
 exact AW.exit (per h h0 [0])
 refine lw0 ?_
 iterate 2 refine ra hx ?_
 refine AW.block ?_
 obtain⟨Aj,hy,h⟩:=ae h
 refine lp (S:=Int×Int×(List Int)) (X:=(List Int)) (fun (KP,oT,tV)=>[(0,dL (cI .i64) aJ),(1,dL (cI .i64) aO),(5,.ow 0 0 1 ((i64.wrap ((i64.wrap (((aJ).length:Int)+((aO).length:Int)))+(1:Int))).toNat)),(6,dI .i64 aN),(8,dI .i64 KP),(9,dI .i64 oT)]) (fun (KP,oT,tV)=>⟨[(0,dC ((cW (cI .i64)).f tV))],[],1⟩) (PE cx (.exit 4) (fun Aj=>[(0,dL (cI .i64) aJ),(1,dL (cI .i64) aO),(5,.ow 0 0 1 ((i64.wrap ((i64.wrap (((aJ).length:Int)+((aO).length:Int)))+(1:Int))).toNat)),(6,dI .i64 aN)]) fun Aj=>⟨[(0,dC ((cW (cI .i64)).f Aj))],[],1⟩) hy ?_ ?_ ?_
 exact wk0 h0 [0]
 clear hy h
 rintro⟨KP,oT,tV⟩ y h
 dsimp only[gu] at h
 refine AW.seq (ra hx ?_)
 refine cdh h rfl (fun HV h=>?_) (fun HV h=>?_)
 refine AW.skip (AW.seq (AW.block (rs hx fun K hK=>?_)))
 iterate 2 refine sa ?_
 obtain⟨PC,h⟩:=az h
 have Sn:(oT).toNat<(tV).length:=by omega
 refine s1 (wO ⟨PC.1,PC.2.1⟩ cX dU) ?_
 refine s1 (wN (bT.seqW (cI .i64) tV ((oT).toNat) Sn) dU) ?_
 iterate 2 refine sa ?_
 obtain⟨qx,DC,h⟩:=ae h
 replace DC:=bB DC
 refine s2 (d2:=dI .i64 qx) li (f7 (congrArg (dI .i64) DC)) ?_
 refine nl hK ?_
 refine rs hx fun K hK=>?_
 iterate 4 refine sa ?_
 obtain⟨hc20,h⟩:=az h
 have hn21:(oT).toNat<(tV).length:=by omega
 refine s1 (wO ⟨hc20.1,hc20.2.1⟩ cX dU) ?_
 refine s0 (yb (b':=Int.tmod qx (65536:Int)) (bT.seqW (cI .i64) tV ((oT).toNat) hn21) dU) ?_
 refine nl hK ?_
 iterate 2 refine rb hx ?_
 exact pel h h0 [0]
 exact AW.exit (per h h0 [0])
 refine lw0 ?_
 refine rb hx ?_
 exact pel h h0 [0]
 exact AW.exit (per h h0 [0])
 refine lw0 ?_
 refine rs hx fun K hK=>?_
 refine sa ?_
 obtain⟨hc24,h⟩:=az h
 refine fzO (cI .i64) (n:=(i64.wrap ((i64.wrap (((aJ).length:Int)+((aO).length:Int)))+(1:Int))).toNat) 0 [5,70] hc24 ?_ (all2 rfl (all1 rfl))
 refine scb h kD fun IT h=>?_
 refine nbi hK ?_
 exact AW.ret (rtv h)
def kY(aJ:List Int)(aO:List Int):Int→Option (Int⊕(Bool⊕Unit)):=fun aD=>cnd (decide ((0:Int)≤aD)) (bnd (dp aJ aD) fun x4=>bnd (dp aO aD) fun x6=>cnd (decide (x4≠x6)) (bnd (dp aJ aD) fun x9=>bnd (dp aO aD) fun r8=>some (.inr (.inl (decide (x9<r8))))) (some (.inl (i64.wrap (aD - (1:Int)))))) (some (.inr (.inr ())))
def mw(aJ:List Int)(aO:List Int):Option Bool:=bnd (some (i64.wrap ((max ((aJ).length:Int) ((aO).length:Int)) - (1:Int)))) fun x1=>bnd (bt (kY aJ aO) x1) fun y13=>match y13 with| .inl r=>some r| .inr ()=>some false
theorem zj {aJ:List Int}{aO:List Int}{r:Bool}(h:mw aJ aO=some r):ar prog 170 [dL (cI .i64) aJ,dL (cI .i64) aO] (dB r):=by
 refine bj (rs:=[.tmp 4]) (fun cx hx h0=>?_) func170
 unfold mw at h
 refine ra hx ?_
 refine AW.seq (rs hx fun K hK=>?_)
 iterate 6 refine sa ?_
 obtain⟨x1,w7,h⟩:=ae h
 replace w7:=bB w7
 refine s2 (d2:=dI .i64 x1) li (f7 (congrArg (dI .i64) w7)) ?_
 refine nl hK ?_
 refine AW.block ?_
 obtain⟨y,hy,h⟩:=ae h
 refine lp (S:=Int) (X:=Bool⊕Unit) (fun aD=>[(0,dL (cI .i64) aJ),(1,dL (cI .i64) aO),(5,dI .i64 aD)]) (fun aD=>⟨[],[],0⟩) (PS (PR [.tmp 4] fun r=>dB r) (PE cx (.exit 0) (fun ()=>[]) fun ()=>⟨[],[],0⟩)) hy ?_ ?_ ?_
 exact wk0 h0 []
 clear hy h
 rintro aD y h
 dsimp only[kY] at h
 refine AW.seq (ra hx ?_)
 refine cdh h rfl (fun fQ h=>?_) (fun fQ h=>?_)
 refine AW.skip (AW.seq (AW.block (rs hx fun K hK=>?_)))
 refine mbi ?_
 refine scb h fW fun x4 h=>?_
 refine mbi ?_
 refine scb h fW fun x6 h=>?_
 refine nbi hK ?_
 refine cdh h rfl (fun tH h=>?_) (fun tH h=>?_)
 refine rs hx fun K hK=>?_
 refine mbi ?_
 refine scb h fW fun x9 h=>?_
 refine mbi ?_
 refine scb h fW fun r8 h=>?_
 refine nbi hK ?_
 refine AW.ret ?_
 cases h
 refine PS.r ⟨by nofun,PS.l (PR.i ?_)⟩
 exact rv1
 refine AW.skip (rb hx ?_)
 exact pel h h0 []
 exact AW.exit (peq h h0 [])
 rcases y with r|⟨⟩
 rintro ex tm' hp' ⟨rfl,hw⟩
 cases h
 exact hw
 refine lwr ?_
 refine ra hx ?_
 exact AW.ret (rtv h)
def jg(aJ:List Int)(aO:List Int):(List Int)×Int×Int→Option (((List Int)×Int×Int)⊕((List Int))):=fun (dh,bM,eh)=>cnd (decide (eh<((aJ).length:Int))) (gd (0≤eh∧eh<((aJ).length:Int)) (bnd (dp aO eh) fun x4=>bnd (some (i64.wrap ((i64.wrap (((aJ)[(eh).toNat]!) - x4)) - bM))) fun x6=>bnd (S:=Int×Int) (cnd (decide (x6<(0:Int))) (some (((1:Int),i64.wrap (x6+(65536:Int))))) (some (((0:Int),x6)))) fun (j9,qw)=>gd ((dh++[qw]).length*8≤140737488355328) (some (.inl (dh++[qw],j9,i64.wrap (eh+(1:Int))))))) (some (.inr dh))
def g9(aJ:List Int)(aO:List Int):Option (List Int):=bnd (bt (jg aJ aO) (([]:List Int),(0:Int),(0:Int))) fun ce=>bnd (e9 ce) fun nf=>some nf
theorem px {aJ:List Int}{aO:List Int}{r:List Int}(h:g9 aJ aO=some r):ar prog 171 [dL (cI .i64) aJ,dL (cI .i64) aO] (dL (cI .i64) r):=by
 refine bj (rs:=[.tmp 4]) (fun cx hx h0=>?_) func171
 unfold g9 at h
 refine rs hx fun K hK=>?_
 refine s1 (d:=dO 0 (cI .i64) ([]:List Int)) (gl cX dU) ?_
 refine nl hK ?_
 refine rs hx fun K hK=>?_
 refine s1 (d:=dO 1 (cI .i64) ([]:List Int)) (gl cX dU) ?_
 refine nl hK ?_
 refine ra hx ?_
 refine AW.seq (ra hx ?_)
 refine AW.block ?_
 obtain⟨ce,hy,h⟩:=ae h
 refine lp (S:=(List Int)×Int×Int) (X:=(List Int)) (fun (dh,bM,eh)=>[(0,dL (cI .i64) aJ),(1,dL (cI .i64) aO),(5,dO 0 (cI .i64) dh),(6,dI .i64 bM),(7,dI .i64 eh)]) (fun (dh,bM,eh)=>⟨[],[(0,(dh).length,1,3)],1⟩) (PE cx (.exit 0) (fun ce=>[(5,dO 0 (cI .i64) ce)]) fun ce=>⟨[],[(0,(ce).length,1,3)],1⟩) hy ?_ ?_ ?_
 exact wk0 h0 [1]
 clear hy h
 rintro⟨dh,bM,eh⟩ y h
 dsimp only[jg] at h
 refine AW.seq (ra hx ?_)
 refine cdh h rfl (fun fR h=>?_) (fun fR h=>?_)
 refine AW.skip (AW.seq (AW.block (rsd [176] hx fun K hK=>?_)))
 iterate 2 refine sa ?_
 obtain⟨qC,h⟩:=az h
 have xw:(eh).toNat<(aJ).length:=by omega
 refine sbi ?_
 refine s1 (yc (c:=(cI .i64)) (l:=aJ) (n:=(eh).toNat) (o:=0) dU xw) ?_
 refine mbi ?_
 refine cqb h fW fun x4 h=>?_
 iterate 3 refine sa ?_
 obtain⟨x6,vt,h⟩:=ae h
 replace vt:=bB vt
 refine s2 (d2:=dI .i64 x6) li (f7 (congrArg (dI .i64) vt)) ?_
 refine nl hK ?_
 refine ra hx ?_
 refine AW.seq ?_
 obtain⟨y,hy,h⟩:=ae h
 refine jn ((PE cx .normal (fun (j9,qw)=>[(0,dL (cI .i64) aJ),(1,dL (cI .i64) aO),(5,dO 0 (cI .i64) dh),(6,dI .i64 j9),(7,dI .i64 eh),(8,dI .i64 qw)]) fun (j9,qw)=>⟨[],[(0,(dh).length,1,3)],1⟩) y) ?_ ?_
 replace h:=hy
 refine ra hx ?_
 refine cdh h rfl (fun tH h=>?_) (fun tH h=>?_)
 refine ra hx ?_
 refine rb hx ?_
 exact pe1 h h0 [0]
 exact AW.skip (pe1 h h0 [0])
 obtain⟨j9,qw⟩:=y
 refine lw0 ?_
 refine rq hx fun K hK=>?_
 iterate 2 refine sa ?_
 refine s1 (d:=dO 1 (cI .i64) [qw]) (ke cX dU) ?_
 obtain⟨L8,h⟩:=az h
 refine s1 (d:=dO 0 (cI .i64) (dh++[qw])) (rU cX dU L8) ?_
 refine nbi hK ?_
 refine rb hx ?_
 exact pel h h0 [0]
 exact AW.exit (per h h0 [0])
 refine lw0 ?_
 refine rs hx fun K hK=>?_
 refine sa ?_
 refine scb h kD fun nf h=>?_
 refine nbi hK ?_
 exact AW.ret (rtv h)
def iw(aO:List Int)(pJ:List Int):Int×(List Int)→Option ((Int×(List Int))⊕(Int×(List Int))):=fun (tW,EM)=>bnd (mw pJ EM) fun As=>cnd As (bnd (g9 EM aO) fun Qx=>some (.inl (i64.wrap (tW - (1:Int)),Qx))) (some (.inr (tW,EM)))
def ix(aJ:List Int)(aO:List Int)(x6:Int):(List Int)×Int×(List Int)→Option (((List Int)×Int×(List Int))⊕((List Int)×(List Int))):=fun (gD,mL,wM)=>cnd (decide ((0:Int)≤mL)) (gd (0≤mL∧mL<((aJ).length:Int)) (gd (([(aJ)[(mL).toNat]!]++gD).length*8≤140737488355328) (bnd (e9 ([(aJ)[(mL).toNat]!]++gD)) fun pJ=>bnd (iz pJ ((aO).length:Int)) fun At=>bnd (iz pJ (i64.wrap (((aO).length:Int) - (1:Int)))) fun qx=>bnd (iz pJ (i64.wrap (((aO).length:Int) - (2:Int)))) fun Fo=>gd (x6≠0) (bnd (some (min (65535:Int) (i64.wrap (Int.tdiv (i64.wrap ((i64.wrap ((i64.wrap (At*(4294967296:Int)))+(i64.wrap (qx*(65536:Int)))))+Fo)) x6)))) fun xB=>bnd (ln aO [xB]) fun IT=>bnd (bt (iw aO pJ) (xB,IT)) fun (xm,Al)=>gd (0≤mL∧mL<(((((aJ).length:Int)).toNat:Nat):Int)∧mL<((wM).length:Int)) (bnd (g9 pJ Al) fun za=>some (.inl (za,i64.wrap (mL - (1:Int)),(wM).set ((mL).toNat) xm))))))) (some (.inr (gD,wM)))
def iy(aJ:List Int)(aO:List Int):Option ((List Int)×(List Int)):=gd (0≤((aJ).length:Int)∧((aJ).length:Int)≤1000000) (gd (0≤i64.wrap (((aO).length:Int) - (1:Int))∧i64.wrap (((aO).length:Int) - (1:Int))<((aO).length:Int)) (bnd (iz aO (i64.wrap (((aO).length:Int) - (2:Int)))) fun x4=>bnd (some (i64.wrap ((i64.wrap (((aO)[(i64.wrap (((aO).length:Int) - (1:Int))).toNat]!)*(65536:Int)))+x4))) fun x6=>bnd (some (i64.wrap (((aJ).length:Int) - (1:Int)))) fun x8=>bnd (bt (ix aJ aO x6) (([]:List Int),x8,List.replicate (((aJ).length:Int)).toNat (0:Int))) fun (An,xn)=>gd ((((aJ).length:Int)).toNat=(xn).length) (bnd (e9 xn) fun K6=>some (K6,An))))
theorem vT {aJ:List Int}{aO:List Int}{r:(List Int)×(List Int)}(h:iy aJ aO=some r):ar prog 168 [dL (cI .i64) aJ,dL (cI .i64) aO] (.tu [dL (cI .i64) r.1,dL (cI .i64) r.2]):=by
 refine bj (rs:=[.tmp 4,.tmp 5]) (fun cx hx h0=>?_) func168
 unfold iy at h
 refine rs hx fun K hK=>?_
 refine s1 (d:=dO 0 (cI .i64) ([]:List Int)) (gl cX dU) ?_
 refine s1 (d:=dO 1 (cI .i64) ([]:List Int)) (gl cX dU) ?_
 refine nl hK ?_
 refine rs hx fun K hK=>?_
 iterate 2 refine sa ?_
 obtain⟨N7,h⟩:=az h
 refine q1 (sMk (c:=(cI .i64)) (z0:=(0:Int)) tok N7 cX dU (by first|rfl|kernel_rfl)) ?_
 refine nbi hK ?_
 refine ra hx ?_
 refine rsd [194] hx fun K hK=>?_
 iterate 3 refine sa ?_
 obtain⟨qC,h⟩:=az h
 have xw:(i64.wrap (((aO).length:Int) - (1:Int))).toNat<(aO).length:=by omega
 refine sbi ?_
 refine s1 (yc (c:=(cI .i64)) (l:=aO) (n:=(i64.wrap (((aO).length:Int) - (1:Int))).toNat) (o:=0) dU xw) ?_
 refine mbi ?_
 refine cqb h t9 fun x4 h=>?_
 refine sa ?_
 obtain⟨x6,vt,h⟩:=ae h
 replace vt:=bB vt
 refine s2 (d2:=dI .i64 x6) li (f7 (congrArg (dI .i64) vt)) ?_
 refine nl hK ?_
 refine rs hx fun K hK=>?_
 refine s1 (d:=dO 3 (cI .i64) ([]:List Int)) (gl cX dU) ?_
 refine nl hK ?_
 refine AW.seq (rs hx fun K hK=>?_)
 iterate 3 refine sa ?_
 obtain⟨x8,Qi,h⟩:=ae h
 replace Qi:=bB Qi
 refine s2 (d2:=dI .i64 x8) li (f7 (congrArg (dI .i64) Qi)) ?_
 refine nl hK ?_
 refine AW.block ?_
 obtain⟨y,hy,h⟩:=ae h
 refine lp (S:=(List Int)×Int×(List Int)) (X:=(List Int)×(List Int)) (fun (gD,mL,wM)=>[(0,dL (cI .i64) aJ),(1,dL (cI .i64) aO),(6,.ow 0 0 1 ((((aJ).length:Int)).toNat)),(7,dI .i64 ((aO).length:Int)),(8,dI .i64 x6),(9,dL (cI .i64) gD),(10,dI .i64 mL)]) (fun (gD,mL,wM)=>⟨[(0,dC ((cW (cI .i64)).f wM))],[],1⟩) (PE cx (.exit 0) (fun (An,xn)=>[(6,.ow 0 0 1 ((((aJ).length:Int)).toNat)),(9,dL (cI .i64) An)]) fun (An,xn)=>⟨[(0,dC ((cW (cI .i64)).f xn))],[],1⟩) hy ?_ ?_ ?_
 exact wk h0 [2] (wR rfl (wR rfl (wR rfl (wR rfl (wR rfl (wT rfl (RJ _) rfl rfl (wR rfl wTn))))))) (vC rfl wVn) wLn
 clear hy h
 rintro⟨gD,mL,wM⟩ y h
 dsimp only[ix] at h
 refine AW.seq (ra hx ?_)
 refine cdh h rfl (fun nq h=>?_) (fun nq h=>?_)
 refine AW.skip (AW.seq (AW.block (rs hx fun K hK=>?_)))
 iterate 2 refine sa ?_
 obtain⟨SD,h⟩:=az h
 have hn12:(mL).toNat<(aJ).length:=by omega
 refine sbi ?_
 refine s1 (yc (c:=(cI .i64)) (l:=aJ) (n:=(mL).toNat) (o:=0) dU hn12) ?_
 refine s1 (d:=dO 1 (cI .i64) [(aJ)[(mL).toNat]!]) (ke cX dU) ?_
 refine sa ?_
 obtain⟨hc13,h⟩:=az h
 refine s1 (d:=dO 1 (cI .i64) ([(aJ)[(mL).toNat]!]++gD)) (rU cX dU hc13) ?_
 refine scb h kD fun pJ h=>?_
 refine nbi hK ?_
 refine rs hx fun K hK=>?_
 refine mbi ?_
 refine scb h t9 fun At h=>?_
 refine mbi ?_
 refine scb h t9 fun qx h=>?_
 refine mbi ?_
 refine scb h t9 fun Fo h=>?_
 iterate 2 refine sa ?_
 obtain⟨PB,h⟩:=az h
 refine s1 (G2 PB) ?_
 refine sa ?_
 obtain⟨xB,hx24,h⟩:=ae h
 replace hx24:=bB hx24
 refine s2 (d2:=dI .i64 xB) li (f7 (congrArg (dI .i64) hx24)) ?_
 refine nl hK ?_
 refine rs hx fun K hK=>?_
 iterate 2 refine sa ?_
 refine s1 (d:=dO 2 (cI .i64) [xB]) (ke cX dU) ?_
 refine scb h xF fun IT h=>?_
 refine nbi hK ?_
 refine AW.seq (AW.block ?_)
 obtain⟨y,hy,h⟩:=ae h
 refine lp (S:=Int×(List Int)) (X:=Int×(List Int)) (fun (tW,EM)=>[(0,dL (cI .i64) aJ),(1,dL (cI .i64) aO),(6,.ow 0 0 1 ((((aJ).length:Int)).toNat)),(7,dI .i64 ((aO).length:Int)),(8,dI .i64 x6),(9,dL (cI .i64) pJ),(10,dI .i64 mL),(11,dI .i64 tW),(12,dL (cI .i64) EM)]) (fun (tW,EM)=>⟨[(0,dC ((cW (cI .i64)).f wM))],[],1⟩) (PE cx (.exit 2) (fun (xm,Al)=>[(0,dL (cI .i64) aJ),(1,dL (cI .i64) aO),(6,.ow 0 0 1 ((((aJ).length:Int)).toNat)),(7,dI .i64 ((aO).length:Int)),(8,dI .i64 x6),(9,dL (cI .i64) pJ),(10,dI .i64 mL),(11,dI .i64 xm),(12,dL (cI .i64) Al)]) fun (xm,Al)=>⟨[(0,dC ((cW (cI .i64)).f wM))],[],1⟩) hy ?_ ?_ ?_
 exact wk0 h0 [0]
 clear hy h
 rintro⟨tW,EM⟩ y h
 dsimp only[iw] at h
 refine AW.seq (rs hx fun K hK=>?_)
 refine mbi ?_
 refine scb h zj fun As h=>?_
 refine nl hK ?_
 refine cdh h rfl (fun hb29 h=>?_) (fun hb29 h=>?_)
 refine AW.skip (AW.block (ra hx ?_))
 refine rq hx fun K hK=>?_
 refine mbi ?_
 refine scb h px fun Qx h=>?_
 refine nbi hK ?_
 exact pel h h0 [0]
 exact AW.exit (per h h0 [0])
 obtain⟨xm,Al⟩:=y
 refine lw0 ?_
 refine rs hx fun K hK=>?_
 iterate 3 refine sa ?_
 obtain⟨hc33,h⟩:=az h
 have hn34:(mL).toNat<(wM).length:=by omega
 refine s1 (wO ⟨hc33.1,hc33.2.1⟩ cX dU) ?_
 refine s0 (yb (b':=xm) (bT.seqW (cI .i64) wM ((mL).toNat) hn34) dU) ?_
 refine nl hK ?_
 refine rq hx fun K hK=>?_
 refine mbi ?_
 refine scb h px fun za h=>?_
 refine nbi hK ?_
 refine rb hx ?_
 exact pel h h0 [0]
 exact AW.exit (per h h0 [0])
 obtain⟨An,xn⟩:=y
 refine lw0 ?_
 refine rs hx fun K hK=>?_
 refine sa ?_
 obtain⟨hc38,h⟩:=az h
 refine fzO (cI .i64) (n:=(((aJ).length:Int)).toNat) 0 [6,81] hc38 ?_ (all2 rfl (all1 rfl))
 refine scb h kD fun K6 h=>?_
 refine nbi hK ?_
 refine AW.ret ?_
 cases h
 exact rv2
def iU :Int×Int→Option ((Int×Int)⊕Int):=fun (t0,Cg)=>cnd (decide (Cg≠(0:Int))) (gd (Cg≠0) (some (.inl (Cg,Int.tmod t0 Cg)))) (some (.inr t0))
def iT :(List Int)×(List Int)→Option (((List Int)×(List Int))⊕((List Int))):=fun (GV,EI)=>cnd (decide ((0:Int)<((EI).length:Int))) (bnd (iy GV EI) fun Cj=>some (.inl (EI,Cj.2))) (some (.inr GV))
def mc(aJ:ap)(aO:ap):Option ap:=bnd (eG aJ) fun x1=>bnd (eG aO) fun x3=>bnd (S:=Bool) (cnd x1.2 (some (x3.2)) (some (false))) fun aN=>cnd aN (bnd (bt (iU) (x1.1,x3.1)) fun Ao=>bnd (eI Ao) fun r8=>bnd (pW r8) fun qa=>some qa) (bnd (S:=Bool) (bnd (bf aJ) fun I2=>cnd (!I2) (some (true)) (bnd (bf aO) fun qx=>some (!qx))) fun tW=>cnd tW (bnd (fe) fun Ck=>some Ck) (bnd (bw aJ) fun E7=>bnd (bw aO) fun x26=>bnd (bt (iT) (E7,x26)) fun Ah=>bnd (b7 false Ah) fun x32=>some x32))
theorem vU {aJ:ap}{aO:ap}{r:ap}(h:mc aJ aO=some r):ar prog 127 [dG aq aJ,dG aq aO] (dG aq r):=by
 refine bj (rs:=[.cell 4 41]) (fun cx hx h0=>?_) func127
 unfold mc at h
 refine rai hx ?_
 refine rs hx fun K hK=>?_
 refine mbi ?_
 refine scb h iX fun x1 h=>?_
 refine nbi hK ?_
 refine rs hx fun K hK=>?_
 refine mbi ?_
 refine scb h iX fun x3 h=>?_
 refine nbi hK ?_
 iterate 2 refine AW.seq ?_
 obtain⟨aN,hy,h⟩:=ae h
 refine jn ((PE cx .normal (fun aN=>[(2,.pt 0 0),(3,.pt 1 0),(4,.pt 2 0),(5,dI .i64 x1.1),(7,dI .i64 x3.1),(27,dB aN)]) fun aN=>⟨[(0,dC (aq.f aJ)),(1,dC (aq.f aO)),(2,dC (aq.f b8))],[],3⟩) aN) ?_ ?_
 replace h:=hy
 refine rq hx fun K hK=>?_
 refine mbi ?_
 rcases aF h with⟨rt,h⟩|⟨rt,h⟩
 refine nbi hK ?_
 exact pe1 h h0 [0,1,2]
 refine nbi hK ?_
 exact pe1 h h0 [0,1,2]
 refine lw0 ?_
 refine cdh h rfl (fun tI h=>?_) (fun tI h=>?_)
 refine AW.seq (AW.block ?_)
 obtain⟨Ao,hy,h⟩:=ae h
 refine lp (S:=Int×Int) (X:=Int) (fun (t0,Cg)=>[(4,.pt 0 0),(5,dI .i64 t0),(7,dI .i64 Cg)]) (fun (t0,Cg)=>⟨[(0,dC (aq.f b8))],[],1⟩) (PE cx (.exit 0) (fun Ao=>[(4,.pt 0 0),(5,dI .i64 Ao)]) fun Ao=>⟨[(0,dC (aq.f b8))],[],1⟩) hy ?_ ?_ ?_
 exact wk0 h0 [2]
 clear hy h
 rintro⟨t0,Cg⟩ y h
 dsimp only[iU] at h
 refine AW.seq (ra hx ?_)
 refine cdh h rfl (fun tH h=>?_) (fun tH h=>?_)
 refine AW.skip (AW.block (rs hx fun K hK=>?_))
 iterate 2 refine sa ?_
 obtain⟨hc9,h⟩:=az h
 refine s1 (EQ hc9) ?_
 refine nbi hK ?_
 refine ra hx ?_
 refine rb hx ?_
 exact pel h h0 [0]
 exact AW.exit (per h h0 [0])
 refine lw0 ?_
 refine rs hx fun K hK=>?_
 refine sa ?_
 refine scb h ik fun r8 h=>?_
 refine scb h Jf fun qa h=>?_
 refine nbi hK ?_
 exact AW.ret (rtv h)
 refine AW.skip ?_
 iterate 2 refine AW.seq ?_
 obtain⟨tW,hy,h⟩:=ae h
 refine jn ((PE cx .normal (fun tW=>[(2,.pt 0 0),(3,.pt 1 0),(4,.pt 2 0),(45,dB tW)]) fun tW=>⟨[(0,dC (aq.f aJ)),(1,dC (aq.f aO)),(2,dC (aq.f b8))],[],3⟩) tW) ?_ ?_
 replace h:=hy
 refine rq hx fun K hK=>?_
 refine mbi ?_
 refine scb h co fun I2 h=>?_
 refine mbi ?_
 rcases aF h with⟨DR,h⟩|⟨DR,h⟩
 refine nbi hK ?_
 exact pe1 h h0 [0,1,2]
 refine gbi ?_
 refine gcb h co fun qx h=>?_
 refine nbi hK ?_
 exact pe1 h h0 [0,1,2]
 refine lw0 ?_
 refine cdh h rfl (fun DQ h=>?_) (fun DQ h=>?_)
 refine rs hx fun K hK=>?_
 refine scb h kj fun Ck h=>?_
 refine nbi hK ?_
 exact AW.ret (rtv h)
 refine AW.skip (rs hx fun K hK=>?_)
 refine mbi ?_
 refine scb h cP fun E7 h=>?_
 refine nbi hK ?_
 refine rs hx fun K hK=>?_
 refine mbi ?_
 refine scb h cP fun x26 h=>?_
 refine nbi hK ?_
 refine AW.seq (AW.block ?_)
 obtain⟨Ah,hy,h⟩:=ae h
 refine lp (S:=(List Int)×(List Int)) (X:=(List Int)) (fun (GV,EI)=>[(4,.pt 0 0),(10,dL (cI .i64) GV),(11,dL (cI .i64) EI)]) (fun (GV,EI)=>⟨[(0,dC (aq.f b8))],[],1⟩) (PE cx (.exit 2) (fun Ah=>[(4,.pt 0 0),(10,dL (cI .i64) Ah)]) fun Ah=>⟨[(0,dC (aq.f b8))],[],1⟩) hy ?_ ?_ ?_
 exact wk0 h0 [2]
 clear hy h
 rintro⟨GV,EI⟩ y h
 dsimp only[iT] at h
 refine AW.seq (ra hx ?_)
 refine cdh h rfl (fun hb28 h=>?_) (fun hb28 h=>?_)
 refine AW.skip (AW.block (rs hx fun K hK=>?_))
 refine mbi ?_
 refine scb h vT fun Cj h=>?_
 refine nbi hK ?_
 refine ra hx ?_
 refine rb hx ?_
 exact pel h h0 [0]
 exact AW.exit (per h h0 [0])
 refine lw0 ?_
 refine rs hx fun K hK=>?_
 refine sa ?_
 refine scb h eC fun x32 h=>?_
 refine nbi hK ?_
 exact AW.ret (rtv h)
def mZ(cZ:Int)(p_m:Int):Option Int:=gd (p_m≠0) (bnd (S:=Int) (bnd (S:=Bool) (gd (p_m≠0) (cnd (decide ((Int.tmod cZ p_m)≠(0:Int))) (some (!((decide (cZ<(0:Int))) == (decide (p_m<(0:Int)))))) (some (false)))) fun aD=>cnd aD (bnd (some (i64.wrap ((i64.wrap (Int.tdiv cZ p_m)) - (1:Int)))) fun x6=>some (x6)) (some (i64.wrap (Int.tdiv cZ p_m)))) fun jp=>some jp)
theorem Fx {cZ:Int}{p_m:Int}{r:Int}(h:mZ cZ p_m=some r):ar prog 169 [dI .i64 cZ,dI .i64 p_m] (dI .i64 r):=by
 refine bj (rs:=[.tmp 4]) (fun cx hx h0=>?_) func169
 unfold mZ at h
 refine ra hx ?_
 refine rs hx fun K hK=>?_
 iterate 2 refine sa ?_
 obtain⟨N7,h⟩:=az h
 refine s1 (G2 N7) ?_
 refine nbi hK ?_
 refine AW.seq ?_
 obtain⟨jp,hy,h⟩:=ae h
 refine jn ((PE cx .normal (fun jp=>[(5,dI .i64 jp)]) fun jp=>⟨[],[],0⟩) jp) ?_ ?_
 replace h:=hy
 refine AW.seq ?_
 obtain⟨aD,hy,h⟩:=ae h
 refine jn ((PE cx .normal (fun aD=>[(5,dI .i64 (i64.wrap (Int.tdiv cZ p_m))),(19,dB aD)]) fun aD=>⟨[],[],0⟩) aD) ?_ ?_
 replace h:=hy
 refine rq hx fun K hK=>?_
 iterate 2 refine sa ?_
 obtain⟨qC,h⟩:=az h
 refine s1 (EQ qC) ?_
 refine mbi ?_
 rcases aF h with⟨fQ,h⟩|⟨fQ,h⟩
 refine nbi hK ?_
 exact pe1 h h0 []
 refine nbi hK ?_
 exact pe1 h h0 []
 refine lw0 ?_
 refine cdh h rfl (fun rt h=>?_) (fun rt h=>?_)
 refine rq hx fun K hK=>?_
 iterate 2 refine sa ?_
 obtain⟨x6,vt,h⟩:=ae h
 replace vt:=bB vt
 refine s2 (d2:=dI .i64 x6) li (f7 (congrArg (dI .i64) vt)) ?_
 refine nl hK ?_
 exact pe1 h h0 []
 exact AW.skip (pe1 h h0 [])
 refine lw0 ?_
 refine ra hx ?_
 exact AW.ret (rtv h)
def ku(aJ:ap)(aO:ap):Option ap:=bnd (eG aJ) fun x1=>bnd (eG aO) fun x3=>bnd (S:=Bool) (cnd x1.2 (cnd x3.2 (some (decide (x3.1≠(0:Int)))) (some (false))) (some (false))) fun aN=>cnd aN (bnd (mZ x1.1 x3.1) fun x9=>bnd (eI x9) fun r8=>some r8) (bnd (S:=Bool) (bnd (bf aJ) fun qa=>cnd (!qa) (some (true)) (bnd (bf aO) fun At=>cnd (!At) (some (true)) (bnd (bw aO) fun vn=>some (decide (((vn).length:Int)=(0:Int)))))) fun aR=>cnd aR (bnd (fe) fun xB=>some xB) (bnd (bw aJ) fun IT=>bnd (bw aO) fun As=>bnd (iy IT As) fun Cj=>bnd (S:=(List Int)) (bnd (S:=Bool) (cnd (!(aJ.vNeg == aO.vNeg)) (some (decide ((0:Int)<((Cj.2).length:Int)))) (some (false))) fun tX=>cnd tX (bnd (kK Cj.1 [(1:Int)]) fun x34=>some (x34)) (some (Cj.1))) fun rS=>bnd (b7 (!(aJ.vNeg == aO.vNeg)) rS) fun Ge=>some Ge))
theorem sd {aJ:ap}{aO:ap}{r:ap}(h:ku aJ aO=some r):ar prog 128 [dG aq aJ,dG aq aO] (dG aq r):=by
 refine bj (rs:=[.cell 4 41]) (fun cx hx h0=>?_) func128
 unfold ku at h
 refine rai hx ?_
 refine rs hx fun K hK=>?_
 refine mbi ?_
 refine scb h iX fun x1 h=>?_
 refine nbi hK ?_
 refine rs hx fun K hK=>?_
 refine mbi ?_
 refine scb h iX fun x3 h=>?_
 refine nbi hK ?_
 iterate 2 refine AW.seq ?_
 obtain⟨aN,hy,h⟩:=ae h
 refine jn ((PE cx .normal (fun aN=>[(2,.pt 0 0),(3,.pt 1 0),(4,.pt 2 0),(5,dI .i64 x1.1),(7,dI .i64 x3.1),(28,dB aN)]) fun aN=>⟨[(0,dC (aq.f aJ)),(1,dC (aq.f aO)),(2,dC (aq.f b8))],[],3⟩) aN) ?_ ?_
 replace h:=hy
 refine rq hx fun K hK=>?_
 refine mbi ?_
 rcases aF h with⟨rt,h⟩|⟨rt,h⟩
 refine mbi ?_
 rcases aF h with⟨qP,h⟩|⟨qP,h⟩
 refine nbi hK ?_
 exact pe1 h h0 [0,1,2]
 refine nbi hK ?_
 exact pe1 h h0 [0,1,2]
 refine nbi hK ?_
 exact pe1 h h0 [0,1,2]
 refine lw0 ?_
 refine cdh h rfl (fun tH h=>?_) (fun tH h=>?_)
 refine rs hx fun K hK=>?_
 refine mbi ?_
 refine scb h Fx fun x9 h=>?_
 refine scb h ik fun r8 h=>?_
 refine nbi hK ?_
 exact AW.ret (rtv h)
 refine AW.skip ?_
 iterate 2 refine AW.seq ?_
 obtain⟨aR,hy,h⟩:=ae h
 refine jn ((PE cx .normal (fun aR=>[(2,.pt 0 0),(3,.pt 1 0),(4,.pt 2 0),(46,dB aR)]) fun aR=>⟨[(0,dC (aq.f aJ)),(1,dC (aq.f aO)),(2,dC (aq.f b8))],[],3⟩) aR) ?_ ?_
 replace h:=hy
 refine rq hx fun K hK=>?_
 refine mbi ?_
 refine scb h co fun qa h=>?_
 refine mbi ?_
 rcases aF h with⟨HV,h⟩|⟨HV,h⟩
 refine nbi hK ?_
 exact pe1 h h0 [0,1,2]
 refine gbi ?_
 refine gcb h co fun At h=>?_
 refine mbi ?_
 rcases aF h with⟨L9,h⟩|⟨L9,h⟩
 refine nbi hK ?_
 exact pe1 h h0 [0,1,2]
 refine gbi ?_
 refine gcb h cP fun vn h=>?_
 refine nbi hK ?_
 exact pe1 h h0 [0,1,2]
 refine lw0 ?_
 refine cdh h rfl (fun hb22 h=>?_) (fun hb22 h=>?_)
 refine rs hx fun K hK=>?_
 refine scb h kj fun xB h=>?_
 refine nbi hK ?_
 exact AW.ret (rtv h)
 refine AW.skip (rsd [143,168] hx fun K hK=>?_)
 refine mbi ?_
 refine cqb h cP fun IT h=>?_
 refine mbi ?_
 refine cqb h cP fun As h=>?_
 refine cqb h vT fun Cj h=>?_
 refine nbi hK ?_
 refine AW.seq ?_
 obtain⟨rS,hy,h⟩:=ae h
 refine jn ((PE cx .normal (fun rS=>[(2,.pt 0 0),(3,.pt 1 0),(4,.pt 2 0),(9,dL (cI .i64) rS)]) fun rS=>⟨[(0,dC (aq.f aJ)),(1,dC (aq.f aO)),(2,dC (aq.f b8))],[],3⟩) rS) ?_ ?_
 replace h:=hy
 refine AW.seq ?_
 obtain⟨tX,hy,h⟩:=ae h
 refine jn ((PE cx .normal (fun tX=>[(2,.pt 0 0),(3,.pt 1 0),(4,.pt 2 0),(9,dL (cI .i64) Cj.1),(65,dB tX)]) fun tX=>⟨[(0,dC (aq.f aJ)),(1,dC (aq.f aO)),(2,dC (aq.f b8))],[],3⟩) tX) ?_ ?_
 replace h:=hy
 refine rq hx fun K hK=>?_
 refine mbi ?_
 rcases aF h with⟨PD,h⟩|⟨PD,h⟩
 refine nbi hK ?_
 exact pe1 h h0 [0,1,2]
 refine nbi hK ?_
 exact pe1 h h0 [0,1,2]
 refine lw0 ?_
 refine cdh h rfl (fun hb33 h=>?_) (fun hb33 h=>?_)
 refine rq hx fun K hK=>?_
 refine sa ?_
 refine s1 (d:=dO 3 (cI .i64) [(1:Int)]) (ke cX dU) ?_
 refine scb h t8 fun x34 h=>?_
 refine nbi hK ?_
 exact pe1 h h0 [0,1,2]
 exact AW.skip (pe1 h h0 [0,1,2])
 refine lw0 ?_
 refine rs hx fun K hK=>?_
 refine mbi ?_
 refine scb h eC fun Ge h=>?_
 refine nbi hK ?_
 exact AW.ret (rtv h)
def qE(cZ:Int):Option Bool:=bnd (S:=Bool) (cnd (decide (cZ<(2147483648:Int))) (some (decide ((-2147483648:Int)<cZ))) (some (false))) fun bo=>some bo
theorem zk {cZ:Int}{r:Bool}(h:qE cZ=some r):ar prog 172 [dI .i64 cZ] (dB r):=by
 refine bj (rs:=[.tmp 2]) (fun cx hx h0=>?_) func172
 unfold qE at h
 refine ra hx ?_
 refine AW.seq ?_
 obtain⟨bo,hy,h⟩:=ae h
 refine jn ((PE cx .normal (fun bo=>[(2,dB bo)]) fun bo=>⟨[],[],0⟩) bo) ?_ ?_
 replace h:=hy
 refine rq hx fun K hK=>?_
 refine mbi ?_
 rcases aF h with⟨fR,h⟩|⟨fR,h⟩
 refine nbi hK ?_
 exact pe1 h h0 []
 refine nbi hK ?_
 exact pe1 h h0 []
 refine lw0 ?_
 exact AW.ret (rtv h)
def mb(aJ:ap)(aO:ap):Option ap:=bnd (eG aJ) fun x1=>bnd (eG aO) fun x3=>bnd (S:=Bool) (cnd x1.2 (cnd x3.2 (bnd (qE x1.1) fun x7=>cnd x7 (bnd (qE x3.1) fun mI=>some (mI)) (some (false))) (some (false))) (some (false))) fun aN=>cnd aN (bnd (eI (i64.wrap (x1.1*x3.1))) fun pJ=>some pJ) (bnd (S:=Bool) (bnd (bf aJ) fun At=>cnd (!At) (some (true)) (bnd (bf aO) fun vn=>some (!vn))) fun aR=>cnd aR (bnd (fe) fun xB=>some xB) (bnd (bw aJ) fun IT=>bnd (bw aO) fun As=>bnd (ln IT As) fun Cj=>bnd (b7 (!(aJ.vNeg == aO.vNeg)) Cj) fun G9=>some G9))
theorem pK {aJ:ap}{aO:ap}{r:ap}(h:mb aJ aO=some r):ar prog 130 [dG aq aJ,dG aq aO] (dG aq r):=by
 refine bj (rs:=[.cell 4 41]) (fun cx hx h0=>?_) func130
 unfold mb at h
 refine rai hx ?_
 refine rs hx fun K hK=>?_
 refine mbi ?_
 refine scb h iX fun x1 h=>?_
 refine nbi hK ?_
 refine rs hx fun K hK=>?_
 refine mbi ?_
 refine scb h iX fun x3 h=>?_
 refine nbi hK ?_
 iterate 2 refine AW.seq ?_
 obtain⟨aN,hy,h⟩:=ae h
 refine jn ((PE cx .normal (fun aN=>[(2,.pt 0 0),(3,.pt 1 0),(4,.pt 2 0),(5,dI .i64 x1.1),(7,dI .i64 x3.1),(30,dB aN)]) fun aN=>⟨[(0,dC (aq.f aJ)),(1,dC (aq.f aO)),(2,dC (aq.f b8))],[],3⟩) aN) ?_ ?_
 replace h:=hy
 refine rq hx fun K hK=>?_
 refine mbi ?_
 rcases aF h with⟨rt,h⟩|⟨rt,h⟩
 refine mbi ?_
 rcases aF h with⟨qP,h⟩|⟨qP,h⟩
 refine ga qP ?_
 refine gcb h zk fun x7 h=>?_
 refine mbi ?_
 rcases aF h with⟨JW,h⟩|⟨JW,h⟩
 refine ga JW ?_
 refine gcb h zk fun mI h=>?_
 refine nbi hK ?_
 exact pe1 h h0 [0,1,2]
 refine nbi hK ?_
 exact pe1 h h0 [0,1,2]
 refine nbi hK ?_
 exact pe1 h h0 [0,1,2]
 refine nbi hK ?_
 exact pe1 h h0 [0,1,2]
 refine lw0 ?_
 refine cdh h rfl (fun FV h=>?_) (fun FV h=>?_)
 refine rs hx fun K hK=>?_
 refine mbi ?_
 refine scb h ik fun pJ h=>?_
 refine nbi hK ?_
 exact AW.ret (rtv h)
 refine AW.skip ?_
 iterate 2 refine AW.seq ?_
 obtain⟨aR,hy,h⟩:=ae h
 refine jn ((PE cx .normal (fun aR=>[(2,.pt 0 0),(3,.pt 1 0),(4,.pt 2 0),(42,dB aR)]) fun aR=>⟨[(0,dC (aq.f aJ)),(1,dC (aq.f aO)),(2,dC (aq.f b8))],[],3⟩) aR) ?_ ?_
 replace h:=hy
 refine rq hx fun K hK=>?_
 refine mbi ?_
 refine scb h co fun At h=>?_
 refine mbi ?_
 rcases aF h with⟨L9,h⟩|⟨L9,h⟩
 refine nbi hK ?_
 exact pe1 h h0 [0,1,2]
 refine gbi ?_
 refine gcb h co fun vn h=>?_
 refine nbi hK ?_
 exact pe1 h h0 [0,1,2]
 refine lw0 ?_
 refine cdh h rfl (fun hb22 h=>?_) (fun hb22 h=>?_)
 refine rs hx fun K hK=>?_
 refine scb h kj fun xB h=>?_
 refine nbi hK ?_
 exact AW.ret (rtv h)
 refine AW.skip (rsd [143,173,140] hx fun K hK=>?_)
 refine mbi ?_
 refine cqb h cP fun IT h=>?_
 refine mbi ?_
 refine cqb h cP fun As h=>?_
 refine cqb h xF fun Cj h=>?_
 refine cqb h eC fun G9 h=>?_
 refine nbi hK ?_
 exact AW.ret (rtv h)
def wq(aJ:ap)(aO:ap):Option ap:=bnd (eG aJ) fun x1=>bnd (eG aO) fun x3=>bnd (S:=Bool) (cnd x1.2 (some (x3.2)) (some (false))) fun aN=>cnd aN (bnd (eI (i64.wrap (x1.1+x3.1))) fun x8=>some x8) (bnd (S:=Bool) (bnd (bf aJ) fun mI=>cnd (!mI) (some (true)) (bnd (bf aO) fun qa=>some (!qa))) fun aR=>cnd aR (bnd (fe) fun pI=>some pI) (bnd (bw aJ) fun vn=>bnd (bw aO) fun vJ=>cnd (aJ.vNeg == aO.vNeg) (bnd (kK vn vJ) fun E7=>bnd (b7 aJ.vNeg E7) fun x26=>some x26) (bnd (mw vn vJ) fun Le=>cnd Le (bnd (g9 vJ vn) fun G9=>bnd (b7 aO.vNeg G9) fun K7=>some K7) (bnd (g9 vn vJ) fun za=>bnd (b7 aJ.vNeg za) fun Ge=>some Ge))))
theorem Je {aJ:ap}{aO:ap}{r:ap}(h:wq aJ aO=some r):ar prog 129 [dG aq aJ,dG aq aO] (dG aq r):=by
 refine bj (rs:=[.cell 4 41]) (fun cx hx h0=>?_) func129
 unfold wq at h
 refine rai hx ?_
 refine rs hx fun K hK=>?_
 refine mbi ?_
 refine scb h iX fun x1 h=>?_
 refine nbi hK ?_
 refine rs hx fun K hK=>?_
 refine mbi ?_
 refine scb h iX fun x3 h=>?_
 refine nbi hK ?_
 iterate 2 refine AW.seq ?_
 obtain⟨aN,hy,h⟩:=ae h
 refine jn ((PE cx .normal (fun aN=>[(2,.pt 0 0),(3,.pt 1 0),(4,.pt 2 0),(5,dI .i64 x1.1),(7,dI .i64 x3.1),(25,dB aN)]) fun aN=>⟨[(0,dC (aq.f aJ)),(1,dC (aq.f aO)),(2,dC (aq.f b8))],[],3⟩) aN) ?_ ?_
 replace h:=hy
 refine rq hx fun K hK=>?_
 refine mbi ?_
 rcases aF h with⟨rt,h⟩|⟨rt,h⟩
 refine nbi hK ?_
 exact pe1 h h0 [0,1,2]
 refine nbi hK ?_
 exact pe1 h h0 [0,1,2]
 refine lw0 ?_
 refine cdh h rfl (fun tI h=>?_) (fun tI h=>?_)
 refine rs hx fun K hK=>?_
 refine mbi ?_
 refine scb h ik fun x8 h=>?_
 refine nbi hK ?_
 exact AW.ret (rtv h)
 refine AW.skip ?_
 iterate 2 refine AW.seq ?_
 obtain⟨aR,hy,h⟩:=ae h
 refine jn ((PE cx .normal (fun aR=>[(2,.pt 0 0),(3,.pt 1 0),(4,.pt 2 0),(37,dB aR)]) fun aR=>⟨[(0,dC (aq.f aJ)),(1,dC (aq.f aO)),(2,dC (aq.f b8))],[],3⟩) aR) ?_ ?_
 replace h:=hy
 refine rq hx fun K hK=>?_
 refine mbi ?_
 refine scb h co fun mI h=>?_
 refine mbi ?_
 rcases aF h with⟨DS,h⟩|⟨DS,h⟩
 refine nbi hK ?_
 exact pe1 h h0 [0,1,2]
 refine gbi ?_
 refine gcb h co fun qa h=>?_
 refine nbi hK ?_
 exact pe1 h h0 [0,1,2]
 refine lw0 ?_
 refine cdh h rfl (fun ru h=>?_) (fun ru h=>?_)
 refine rs hx fun K hK=>?_
 refine scb h kj fun pI h=>?_
 refine nbi hK ?_
 exact AW.ret (rtv h)
 refine AW.skip (rs hx fun K hK=>?_)
 refine mbi ?_
 refine scb h cP fun vn h=>?_
 refine nbi hK ?_
 refine rs hx fun K hK=>?_
 refine mbi ?_
 refine scb h cP fun vJ h=>?_
 refine nbi hK ?_
 refine AW.seq (rai hx ?_)
 refine cdh h rfl (fun hb23 h=>?_) (fun hb23 h=>?_)
 refine rsd [141,140] hx fun K hK=>?_
 refine mbi ?_
 refine cqb h t8 fun E7 h=>?_
 refine cqb h eC fun x26 h=>?_
 refine nbi hK ?_
 exact AW.ret (rtv h)
 refine AW.skip (rs hx fun K hK=>?_)
 refine mbi ?_
 refine scb h zj fun Le h=>?_
 refine nbi hK ?_
 refine AW.seq (ra hx ?_)
 refine cdh h rfl (fun SH h=>?_) (fun SH h=>?_)
 refine rsd [171,140] hx fun K hK=>?_
 refine mbi ?_
 refine cqb h px fun G9 h=>?_
 refine cqb h eC fun K7 h=>?_
 refine nbi hK ?_
 exact AW.ret (rtv h)
 refine AW.skip (rsd [171,140] hx fun K hK=>?_)
 refine mbi ?_
 refine cqb h px fun za h=>?_
 refine cqb h eC fun Ge h=>?_
 refine nbi hK ?_
 exact AW.ret (rtv h)
def pV(aX:ap):Option ap:=bnd (bf aX) fun x1=>cnd (!x1) (bnd (fe) fun x4=>some x4) (bnd (bw aX) fun x6=>bnd (b7 (!aX.vNeg) x6) fun x8=>some x8)
theorem Jd {aX:ap}{r:ap}(h:pV aX=some r):ar prog 157 [dG aq aX] (dG aq r):=by
 refine bj (rs:=[.cell 2 41]) (fun cx hx h0=>?_) func157
 unfold pV at h
 refine rai hx ?_
 refine AW.seq (rs hx fun K hK=>?_)
 refine mbi ?_
 refine scb h co fun x1 h=>?_
 refine nbi hK ?_
 refine cdh h rfl (fun fQ h=>?_) (fun fQ h=>?_)
 refine rs hx fun K hK=>?_
 refine scb h kj fun x4 h=>?_
 refine nbi hK ?_
 exact AW.ret (rtv h)
 refine AW.skip (rsd [143,140] hx fun K hK=>?_)
 refine mbi ?_
 refine cqb h cP fun x6 h=>?_
 refine cqb h eC fun x8 h=>?_
 refine nbi hK ?_
 exact AW.ret (rtv h)
def kL(aX:ap):Option Int:=bnd (S:=Bool) (bnd (bf aX) fun x1=>cnd (!x1) (some (true)) (bnd (bw aX) fun x4=>some (decide (((x4).length:Int)=(0:Int))))) fun dq=>cnd dq (some (0:Int)) (cnd aX.vNeg (some (-1:Int)) (some (1:Int)))
theorem ua {aX:ap}{r:Int}(h:kL aX=some r):ar prog 113 [dG aq aX] (dI .i64 r):=by
 refine bj (rs:=[.tmp 2]) (fun cx hx h0=>?_) func113
 unfold kL at h
 refine ra hx ?_
 iterate 2 refine AW.seq ?_
 obtain⟨dq,hy,h⟩:=ae h
 refine jn ((PE cx .normal (fun dq=>[(1,.pt 0 0),(11,dB dq)]) fun dq=>⟨[(0,dC (aq.f aX))],[],1⟩) dq) ?_ ?_
 replace h:=hy
 refine rq hx fun K hK=>?_
 refine mbi ?_
 refine scb h co fun x1 h=>?_
 refine mbi ?_
 rcases aF h with⟨fQ,h⟩|⟨fQ,h⟩
 refine nbi hK ?_
 exact pe1 h h0 [0]
 refine gbi ?_
 refine gcb h cP fun x4 h=>?_
 refine nbi hK ?_
 exact pe1 h h0 [0]
 refine lw0 ?_
 refine cdh h rfl (fun tI h=>?_) (fun tI h=>?_)
 refine ra hx ?_
 exact AW.ret (rtv h)
 refine AW.skip (AW.seq (rai hx ?_))
 refine cdh h rfl (fun tH h=>?_) (fun tH h=>?_)
 refine ra hx ?_
 exact AW.ret (rtv h)
 refine AW.skip (ra hx ?_)
 exact AW.ret (rtv h)
def pU(ek:List Int)(u7:Int):Option Int:=bnd (dp ek (i64.wrap (Int.tdiv u7 (16:Int)))) fun x1=>gd (0≤Int.tmod u7 (16:Int)) (some (Int.tmod (l5 .i64 x1 (Int.tmod u7 (16:Int))) (2:Int)))
theorem Jc {ek:List Int}{u7:Int}{r:Int}(h:pU ek u7=some r):ar prog 144 [dL (cI .i64) ek,dI .i64 u7] (dI .i64 r):=by
 refine bj (rs:=[.tmp 4]) (fun cx hx h0=>?_) func144
 unfold pU at h
 refine ra hx ?_
 refine rs hx fun K hK=>?_
 refine mbi ?_
 refine scb h fW fun x1 h=>?_
 iterate 2 refine sa ?_
 obtain⟨hc3,h⟩:=az h
 refine s1 (Ud hc3) ?_
 refine nbi hK ?_
 exact AW.ret (rtv h)
def my(x4:List Int):Int→Option (Int⊕Int):=fun aR=>bnd (S:=Bool) (cnd (decide ((0:Int)<aR)) (bnd (pU x4 (i64.wrap (aR - (1:Int)))) fun x9=>some (decide (x9=(0:Int)))) (some (false))) fun nQ=>cnd nQ (some (.inl (i64.wrap (aR - (1:Int))))) (some (.inr aR))
def fY(aX:ap):Option Int:=bnd (bf aX) fun x1=>cnd (!x1) (some (0:Int)) (bnd (bw aX) fun x4=>bnd (some (i64.wrap ((16:Int)*((x4).length:Int)))) fun x6=>bnd (bt (my x4) x6) fun jq=>some jq)
theorem zm {aX:ap}{r:Int}(h:fY aX=some r):ar prog 90 [dG aq aX] (dI .i64 r):=by
 refine bj (rs:=[.tmp 2]) (fun cx hx h0=>?_) func90
 unfold fY at h
 refine ra hx ?_
 refine AW.seq (rs hx fun K hK=>?_)
 refine mbi ?_
 refine scb h co fun x1 h=>?_
 refine nbi hK ?_
 refine cdh h rfl (fun fQ h=>?_) (fun fQ h=>?_)
 refine ra hx ?_
 exact AW.ret (rtv h)
 refine AW.skip (rs hx fun K hK=>?_)
 refine mbi ?_
 refine scb h cP fun x4 h=>?_
 refine nbi hK ?_
 refine rs hx fun K hK=>?_
 iterate 3 refine sa ?_
 obtain⟨x6,vt,h⟩:=ae h
 replace vt:=bB vt
 refine s2 (d2:=dI .i64 x6) li (f7 (congrArg (dI .i64) vt)) ?_
 refine nl hK ?_
 refine AW.seq (AW.block ?_)
 obtain⟨jq,hy,h⟩:=ae h
 refine lp (S:=Int) (X:=Int) (fun aR=>[(3,dL (cI .i64) x4),(4,dI .i64 aR)]) (fun aR=>⟨[],[],0⟩) (PE cx (.exit 0) (fun jq=>[(4,dI .i64 jq)]) fun jq=>⟨[],[],0⟩) hy ?_ ?_ ?_
 exact wk0 h0 []
 clear hy h
 rintro aR y h
 dsimp only[my] at h
 iterate 2 refine AW.seq ?_
 obtain⟨nQ,hy,h⟩:=ae h
 refine jn ((PE cx .normal (fun nQ=>[(3,dL (cI .i64) x4),(4,dI .i64 aR),(21,dB nQ)]) fun nQ=>⟨[],[],0⟩) nQ) ?_ ?_
 replace h:=hy
 refine rq hx fun K hK=>?_
 refine mbi ?_
 rcases aF h with⟨tH,h⟩|⟨tH,h⟩
 iterate 3 refine ga tH ?_
 refine gcb h Jc fun x9 h=>?_
 refine nbi hK ?_
 exact pe1 h h0 []
 refine nbi hK ?_
 exact pe1 h h0 []
 refine lw0 ?_
 refine cdh h rfl (fun DS h=>?_) (fun DS h=>?_)
 refine AW.skip (AW.block (rb hx ?_))
 exact pel h h0 []
 exact AW.exit (per h h0 [])
 refine lw0 ?_
 refine ra hx ?_
 exact AW.ret (rtv h)
structure ao where
 vN:ap
 vD:ap
 deriving Inhabited,DecidableEq
abbrev kw:ao:=⟨b8,b8⟩
def al:Cd ao:=⟨36,fun x=>aq.f x.vN++aq.f x.vD,fun x=>by simp[aq.h,show aq.sz=18 from rfl]⟩
theorem jJ(x:ao):bT (al.f x) aq 0 x.vN (fun y=>al.f (⟨y,x.vD⟩:ao)):=
 bT.of ([]) ((aq).f x.vD) (by first|rfl|(simp[aq.h];first|rfl|done)) (by first|rfl|simp[al,cI,cB,cS,cL,c0]) (fun y=>by first|rfl|simp[al,cI,cB,cS,cL,c0])
theorem jK(x:ao):bT (al.f x) aq 18 x.vD (fun y=>al.f (⟨x.vN,y⟩:ao)):=
 bT.of ((aq).f x.vN) ([]) (by first|rfl|(simp[aq.h];first|rfl|done)) (by first|rfl|simp[al,cI,cB,cS,cL,c0]) (fun y=>by first|rfl|simp[al,cI,cB,cS,cL,c0])
section
variable {md:Md} {ops:Array Oper} {K:List (Nat×D)→Hp→Prop} {os:List Oper} {tm:List (Nat×D)} {hp hp':Hp} {t s:Tmp} {op:Op} {ty:TypeId} {pos:String} {af:Array Edge} {d d2:D} {j:Nat} {want c:Bool}
variable {dr:Bool} {ev:Operand→D}
theorem avr(h:AVC prog tbl dr op ty ev hp (Kq d hp'):=by (first|exact av|exact KV_l (bT.id _ _)|exact yd (F:=(cA 16 (cI .u32)).f (eb)) cQ|exact wN (nH _) tbI|exact wN (ss _) tbI|exact Ap (nG _) tbI|exact KV_l (nG _)|exact yd (F:=aq.f (⟨false,false,(eb)⟩:ap)) eY|exact Ap (jK _) tbI|exact Ap (jJ _) tbI|exact yd (F:=al.f (⟨(⟨false,false,(eb)⟩:ap),(⟨false,false,(eb)⟩:ap)⟩:ao)) aT|exact T_ldC tbI|exact T_ldA tbI)):AVC prog tbl dr op ty ev hp (Kq d hp'):=h
theorem sbr(h2:aV prog tbl md ops K os ((t,d)::tm) hp')(h:AVC prog tbl md.dr op ty (evD tm) hp (Kq d hp'):=by exact avr)(hn:md.nc tbl op=true:=by exact rfl):aV prog tbl md ops K (⟨some t,op,ty,pos,af,none⟩::os) tm hp:=st tok hn h h2
theorem tzr(h2:aV prog tbl md ops K os tm hp')(h:AVC prog tbl md.dr op ty (evD tm) hp (Kq .top hp'):=by (first|exact KV_s))(hn:md.nc tbl op=true:=by exact rfl):aV prog tbl md ops K (⟨none,op,ty,pos,af,none⟩::os) tm hp:=st_n tok hn h h2
theorem gbr(h2:aV prog tbl md ops K os ((t,d)::tm) hp')(hj:(ops[j]?).bind (·.dst)=some s:=by exact rfl)(hc:tm.lookup s=some (.e (.lit (.bool c))):=by exact rfl)(hw:c=want:=by (with_reducible first|rfl|assumption))(h:AVC prog tbl md.dr op ty (evD tm) hp (Kq d hp'):=by exact avr)(hn:md.nc tbl op=true:=by exact rfl):aV prog tbl md ops K (⟨some t,op,ty,pos,af,some (j,want)⟩::os) tm hp:=PO tok hn hj hc hw h h2
theorem mbr {os':List Oper}{tm':List (Nat×D)}(h2:aV prog tbl md ops K os' tm' hp')(h:aV prog tbl md ops K os' tm' hp'→aV prog tbl md ops K os tm hp:=by (intro h;(repeat (first|refine sbr ?_|refine tzr ?_|refine gbr ?_|refine JD ?_));exact h)):aV prog tbl md ops K os tm hp:=h h2
theorem nbr {R:List (Nat×D)→Hp→Prop}{tm':List (Nat×D)}(hK:∀tm hp,R tm hp→K tm hp)(h2:R tm' hp')(h:K tm' hp'→aV prog tbl md ops K os tm hp:=by (intro h;(repeat (first|refine sbr ?_|refine tzr ?_|refine gbr ?_|refine JD ?_));exact .nil h)):aV prog tbl md ops K os tm hp:=h (hK _ _ h2)
end
section
variable {x:Cx} {tm:List (Nat×D)} {hp hp':Hp} {Q:Exit→List (Nat×D)→Hp→Prop}
theorem rar {n id:Nat}{l:List Oper}{b:Code}{tm':List (Nat×D)}(hx:x.N=n)(h2:AW prog x b tm' hp' Q)(h:∀K:List (Nat×D)→Hp→Prop,K tm' hp'→aV prog tbl .seq l.toArray K l tm hp:=by (intro K h;(repeat (first|refine sbr ?_|refine tzr ?_|refine gbr ?_|refine JD ?_));exact .nil h))(hN:mg n l.toArray=true:=by kernel_rfl):AW prog x (.seq (.region id l.toArray false) b) tm hp Q:=rs hx (fun K hK=>h K (hK _ _ h2)) hN
theorem rbr {n id:Nat}{l:List Oper}{tm':List (Nat×D)}(hx:x.N=n)(h2:Q .normal tm' hp')(h:∀K:List (Nat×D)→Hp→Prop,K tm' hp'→aV prog tbl .seq l.toArray K l tm hp:=by (intro K h;(repeat (first|refine sbr ?_|refine tzr ?_|refine gbr ?_|refine JD ?_));exact .nil h))(hN:mg n l.toArray=true:=by kernel_rfl):AW prog x (.region id l.toArray false) tm hp Q:=rq hx (fun K hK=>h K (hK _ _ h2)) hN
end
def C4(x:ap):List Value:=[Value.bool x.vBad]++([Value.bool x.vNeg]++((x.vW).toList.flatMap (fun x=>[Value.int .u32 x])++([])))
theorem eN:EqC tbl 3 41 aq C4:=by
 refine EqC.struct (fs:=[(0,4),(1,4),(2,39)]) eY (fun x=>?_) (fun x=>by
  have q3:tL tbl (nr tbl 2) [] 18 []:=by unfold tL;rfl
  have q2:=rx (off:=2) (x:=x.vW) (EqC.arr (EqC.int (d:=0) bO) cQ bO) cQ rfl q3
  have q1:=rx (off:=1) (x:=x.vNeg) (EqC.bool (d:=1) ud) ud rfl q2
  have q0:=rx (off:=0) (x:=x.vBad) (EqC.bool (d:=1) ud) ud rfl q1
  exact q0) ?_
 ·have:=And.intro (And.intro ((EqC.bool (d:=1) ud).hf x.vBad) (And.intro ((EqC.bool (d:=1) ud).hf x.vNeg) (And.intro ((EqC.arr (EqC.int (d:=0) bO) cQ bO).hf x.vW) (True.intro)))) True.intro
  simp only[C4,aq,jz,m9,sL,c0]
  all_goals (first|rfl|(simp only[←(EqC.bool (d:=1) ud).hf,←(EqC.bool (d:=1) ud).hf,←(EqC.arr (EqC.int (d:=0) bO) cQ bO).hf];try (first|rfl|simp[cI,cB])))
 ·skip
  intro x y h
  unfold C4 at h
  obtain⟨e0,h⟩:=BC h (by rw[(EqC.bool (d:=1) ud).len,(EqC.bool (d:=1) ud).len])
  obtain⟨e1,h⟩:=BC h (by rw[(EqC.bool (d:=1) ud).len,(EqC.bool (d:=1) ud).len])
  obtain⟨e2,h⟩:=BC h (by rw[(EqC.arr (EqC.int (d:=0) bO) cQ bO).len,(EqC.arr (EqC.int (d:=0) bO) cQ bO).len])
  cases x;cases y
  simp only[ap.mk.injEq]
  exact⟨((EqC.bool (d:=1) ud).inj _ _).1 e0,((EqC.bool (d:=1) ud).inj _ _).1 e1,((EqC.arr (EqC.int (d:=0) bO) cQ bO).inj _ _).1 e2⟩
def Lh(x:ao):List Value:=C4 x.vN++(C4 x.vD++([]))
theorem GN:EqC tbl 4 43 al Lh:=by
 refine EqC.struct (fs:=[(0,41),(18,41)]) aT (fun x=>?_) (fun x=>by
  have q2:tL tbl (nr tbl 3) [] 36 []:=by unfold tL;rfl
  have q1:=rx (off:=18) (x:=x.vD) eN eY rfl q2
  have q0:=rx (off:=0) (x:=x.vN) eN eY rfl q1
  exact q0) ?_
 ·have:=And.intro (And.intro (eN.hf x.vN) (And.intro (eN.hf x.vD) (True.intro))) True.intro
  simp only[Lh,al,jz,m9,sL,c0]
  all_goals (first|rfl|(simp only[←eN.hf,←eN.hf];try (first|rfl|simp[cI,cB])))
 ·skip
  intro x y h
  unfold Lh at h
  obtain⟨e0,h⟩:=BC h (by rw[eN.len,eN.len])
  obtain⟨e1,h⟩:=BC h (by rw[eN.len,eN.len])
  cases x;cases y
  simp only[ao.mk.injEq]
  exact⟨(eN.inj _ _).1 e0,(eN.inj _ _).1 e1⟩
def ji(aX:ap):Option Bool:=bnd (S:=Bool) (cnd (!aX.vBad) (bnd (lj aX) fun x2=>some (x2)) (some (false))) fun bo=>some bo
theorem qy {aX:ap}{r:Bool}(h:ji aX=some r):ar prog 146 [dG aq aX] (dB r):=by
 refine bj (rs:=[.tmp 2]) (fun cx hx h0=>?_) func146
 unfold ji at h
 refine ra hx ?_
 refine AW.seq ?_
 obtain⟨bo,hy,h⟩:=ae h
 refine jn ((PE cx .normal (fun bo=>[(2,dB bo)]) fun bo=>⟨[],[],0⟩) bo) ?_ ?_
 replace h:=hy
 refine rq hx fun K hK=>?_
 refine mbr ?_
 rcases aF h with⟨fR,h⟩|⟨fR,h⟩
 refine gbr ?_
 refine gcb h xC fun x2 h=>?_
 refine nbr hK ?_
 exact pe1 h h0 []
 refine nbr hK ?_
 exact pe1 h h0 []
 refine lw0 ?_
 exact AW.ret (rtv h)
def me :Option ap:=bnd (gM (1:Int)) fun x1=>some x1
theorem vZ  {r:ap}(h:me=some r):ar prog 99 [] (dG aq r):=by
 refine bj (rs:=[.cell 0 41]) (fun cx hx h0=>?_) func99
 unfold me at h
 refine rar hx ?_
 refine rs hx fun K hK=>?_
 refine scb h qT fun x1 h=>?_
 refine nbr hK ?_
 exact AW.ret (rtv h)
def aU(aX:ao):Option Bool:=bnd (S:=Bool) (bnd (ji aX.vN) fun x1=>cnd x1 (bnd (ji aX.vD) fun x4=>cnd x4 (bnd (eZ aX.vD) fun x7=>cnd (decide ((0:Int)<x7)) (bnd (nL aX.vN aX.vD) fun mI=>bnd (me) fun nf=>some (decide (mI=nf))) (some (false))) (some (false))) (some (false))) fun bo=>some bo
theorem b9 {aX:ao}{r:Bool}(h:aU aX=some r):ar prog 92 [dG al aX] (dB r):=by
 refine bj (rs:=[.tmp 2]) (fun cx hx h0=>?_) func92
 unfold aU at h
 refine ra hx ?_
 refine AW.seq ?_
 obtain⟨bo,hy,h⟩:=ae h
 refine jn ((PE cx .normal (fun bo=>[(2,dB bo)]) fun bo=>⟨[],[],0⟩) bo) ?_ ?_
 replace h:=hy
 refine rq hx fun K hK=>?_
 refine mbr ?_
 refine scb h qy fun x1 h=>?_
 refine sa ?_
 rcases aF h with⟨fQ,h⟩|⟨fQ,h⟩
 refine ga fQ ?_
 refine gbr ?_
 refine gcb h qy fun x4 h=>?_
 refine mbr ?_
 rcases aF h with⟨qP,h⟩|⟨qP,h⟩
 refine ga qP ?_
 refine gbr ?_
 refine gcb h kC fun x7 h=>?_
 refine mbr ?_
 rcases aF h with⟨JW,h⟩|⟨JW,h⟩
 refine ga JW ?_
 refine gbr ?_
 refine ga JW ?_
 refine gbr ?_
 refine gcb h vO fun mI h=>?_
 refine gcb h vZ fun nf h=>?_
 refine g1 JW (ET tok 3 (by decide) eN eY) ?_
 refine nbr hK ?_
 exact pe1 h h0 []
 refine nbr hK ?_
 exact pe1 h h0 []
 refine nbr hK ?_
 exact pe1 h h0 []
 refine nbr hK ?_
 exact pe1 h h0 []
 refine lw0 ?_
 exact AW.ret (rtv h)
def ff :Option ao:=bnd (ey) fun x1=>bnd (me) fun x3=>some (⟨x1,x3⟩:ao)
theorem lU  {r:ao}(h:ff=some r):ar prog 65 [] (dG al r):=by
 refine bj (rs:=[.cell 0 43]) (fun cx hx h0=>?_) func65
 unfold ff at h
 refine rar hx ?_
 refine rs hx fun K hK=>?_
 refine scb h gZ fun x1 h=>?_
 refine scb h vZ fun x3 h=>?_
 refine s1 (d:=dG al (⟨x1,x3⟩:ao)) (gV (FL.cons (y:=x1) (jJ kw) rfl rfl (FL.cons (y:=x3) (jK (⟨x1,b8⟩:ao)) rfl rfl (FL.nil _))) aT) ?_
 refine nbr hK ?_
 exact AW.ret (rtv h)
def c6(cZ:ap)(zG:ap):Option ao:=bnd (S:=Bool) (bnd (ji cZ) fun x1=>cnd (!x1) (some (true)) (bnd (ji zG) fun x4=>cnd (!x4) (some (true)) (bnd (eZ zG) fun x7=>some (decide (x7=(0:Int)))))) fun dq=>cnd dq (bnd (ff) fun r8=>some r8) (bnd (nL cZ zG) fun qa=>bnd (S:=ap) (bnd (eZ zG) fun I2=>cnd (decide (I2<(0:Int))) (bnd (l7 qa) fun qx=>some (qx)) (some (qa))) fun c8=>bnd (g7 cZ c8) fun vJ=>bnd (g7 zG c8) fun xB=>some (⟨vJ,xB⟩:ao))
theorem kE {cZ:ap}{zG:ap}{r:ao}(h:c6 cZ zG=some r):ar prog 93 [dG aq cZ,dG aq zG] (dG al r):=by
 refine bj (rs:=[.cell 4 43]) (fun cx hx h0=>?_) func93
 unfold c6 at h
 refine rar hx ?_
 iterate 2 refine AW.seq ?_
 obtain⟨dq,hy,h⟩:=ae h
 refine jn ((PE cx .normal (fun dq=>[(2,.pt 0 0),(3,.pt 1 0),(4,.pt 2 0),(18,dB dq)]) fun dq=>⟨[(0,dC (aq.f cZ)),(1,dC (aq.f zG)),(2,dC (al.f kw))],[],3⟩) dq) ?_ ?_
 replace h:=hy
 refine rq hx fun K hK=>?_
 refine mbr ?_
 refine scb h qy fun x1 h=>?_
 refine mbr ?_
 rcases aF h with⟨fQ,h⟩|⟨fQ,h⟩
 refine nbr hK ?_
 exact pe1 h h0 [0,1,2]
 refine gbr ?_
 refine gcb h qy fun x4 h=>?_
 refine mbr ?_
 rcases aF h with⟨qP,h⟩|⟨qP,h⟩
 refine nbr hK ?_
 exact pe1 h h0 [0,1,2]
 refine gbr ?_
 refine gcb h kC fun x7 h=>?_
 refine nbr hK ?_
 exact pe1 h h0 [0,1,2]
 refine lw0 ?_
 refine cdh h rfl (fun nq h=>?_) (fun nq h=>?_)
 refine rs hx fun K hK=>?_
 refine scb h lU fun r8 h=>?_
 refine nbr hK ?_
 exact AW.ret (rtv h)
 refine AW.skip (rs hx fun K hK=>?_)
 refine mbr ?_
 refine scb h vO fun qa h=>?_
 refine nbr hK ?_
 refine AW.seq ?_
 obtain⟨c8,hy,h⟩:=ae h
 refine jn ((PE cx .normal (fun c8=>[(2,.pt 0 0),(3,.pt 1 0),(4,.pt 2 0),(5,.pt 3 0)]) fun c8=>⟨[(0,dC (aq.f cZ)),(1,dC (aq.f zG)),(2,dC (al.f kw)),(3,dC (aq.f c8))],[],4⟩) c8) ?_ ?_
 replace h:=hy
 refine rs hx fun K hK=>?_
 refine mbr ?_
 refine scb h kC fun I2 h=>?_
 refine nbr hK ?_
 refine cdh h rfl (fun DR h=>?_) (fun DR h=>?_)
 refine rq hx fun K hK=>?_
 refine mbr ?_
 refine scb h vM fun qx h=>?_
 refine nbr hK ?_
 exact pe1 h h0 [0,1,2,3]
 exact AW.skip (pe1 h h0 [0,1,2,3])
 refine lw0 ?_
 refine rsd [97] hx fun K hK=>?_
 refine mbr ?_
 refine cqb h kg fun vJ h=>?_
 refine mbr ?_
 refine cqb h kg fun xB h=>?_
 refine s1 (d:=dG al (⟨vJ,xB⟩:ao)) (gV (FL.cons (y:=vJ) (jJ kw) rfl rfl (FL.cons (y:=xB) (jK (⟨vJ,b8⟩:ao)) rfl rfl (FL.nil _))) aT) ?_
 refine nbr hK ?_
 exact AW.ret (rtv h)
def ia(aX:ao)(nE:ao):Option ao:=bnd (S:=Bool) (bnd (aU aX) fun x1=>cnd (!x1) (some (true)) (bnd (aU nE) fun x4=>some (!x4))) fun dq=>cnd dq (bnd (ff) fun x8=>some x8) (bnd (nL aX.vD nE.vD) fun mI=>bnd (g7 aX.vD mI) fun nf=>bnd (g7 nE.vD mI) fun pJ=>bnd (jc aX.vN pJ) fun At=>bnd (jc nE.vN nf) fun qx=>bnd (jd At qx) fun Fo=>bnd (jc nf nE.vD) fun Ck=>bnd (c6 Fo Ck) fun E7=>some E7)
theorem v7 {aX:ao}{nE:ao}{r:ao}(h:ia aX nE=some r):ar prog 66 [dG al aX,dG al nE] (dG al r):=by
 refine bj (rs:=[.cell 4 43]) (fun cx hx h0=>?_) func66
 unfold ia at h
 refine rar hx ?_
 iterate 2 refine AW.seq ?_
 obtain⟨dq,hy,h⟩:=ae h
 refine jn ((PE cx .normal (fun dq=>[(2,.pt 0 0),(3,.pt 1 0),(4,.pt 2 0),(15,dB dq)]) fun dq=>⟨[(0,dC (al.f aX)),(1,dC (al.f nE)),(2,dC (al.f kw))],[],3⟩) dq) ?_ ?_
 replace h:=hy
 refine rq hx fun K hK=>?_
 refine mbr ?_
 refine scb h b9 fun x1 h=>?_
 refine mbr ?_
 rcases aF h with⟨fQ,h⟩|⟨fQ,h⟩
 refine nbr hK ?_
 exact pe1 h h0 [0,1,2]
 refine gbr ?_
 refine gcb h b9 fun x4 h=>?_
 refine nbr hK ?_
 exact pe1 h h0 [0,1,2]
 refine lw0 ?_
 refine cdh h rfl (fun tI h=>?_) (fun tI h=>?_)
 refine rs hx fun K hK=>?_
 refine scb h lU fun x8 h=>?_
 refine nbr hK ?_
 exact AW.ret (rtv h)
 refine AW.skip (rs hx fun K hK=>?_)
 refine mbr ?_
 refine scb h vO fun mI h=>?_
 refine nbr hK ?_
 refine AW.seq ?_
 obtain⟨nf,Bg,h⟩:=ae h
 obtain⟨pJ,yA,h⟩:=ae h
 refine jn (PE cx .normal (fun (_:Unit)=>[(2,.pt 0 0),(3,.pt 1 0),(4,.pt 2 0),(6,.pt 3 0),(7,.pt 4 0)]) (fun (_:Unit)=>⟨[(0,dC (al.f aX)),(1,dC (al.f nE)),(2,dC (al.f kw)),(3,dC (aq.f nf)),(4,dC (aq.f pJ))],[],5⟩) ()) ?_ ?_
 refine dw (DW.split 8 9 (by decide) ?_ ?_)
 refine dwg [97] [0,1,2,3,4,5,6,7,8,9,10,11] hx (by kernel_rfl) (by kernel_rfl) (by kernel_rfl) fun K hK=>?_
 dsimp only[d8,mE,mP,List.map]
 refine mbr ?_
 refine cq (kg Bg) ?_
 refine mbr ?_
 refine cq (kg yA) ?_
 iterate 2 refine sbr ?_
 iterate 2 refine tzr ?_
 exact .nil (hK _ _ (pe0 h0 [0,1,2,4,5]))
 refine dwg [97] [0,1,2,3,4,5,6,7,9,8,10,11] hx (by kernel_rfl) (by kernel_rfl) (by kernel_rfl) fun K hK=>?_
 dsimp only[d8,mE,mP,List.map]
 refine mbr ?_
 refine cq (kg Bg) ?_
 refine mbr ?_
 refine cq (kg yA) ?_
 iterate 2 refine sbr ?_
 iterate 2 refine tzr ?_
 exact .nil (hK _ _ (pe0 h0 [0,1,2,5,4]))
 refine lw0 ?_
 refine rsd [94,123,93] hx fun K hK=>?_
 refine mbr ?_
 refine cqb h lS fun At h=>?_
 refine mbr ?_
 refine cqb h lS fun qx h=>?_
 refine cqb h BG fun Fo h=>?_
 refine mbr ?_
 refine cqb h lS fun Ck h=>?_
 refine cqb h kE fun E7 h=>?_
 refine nbr hK ?_
 exact AW.ret (rtv h)
def hJ(aX:ao)(nE:ao):Option ao:=bnd (S:=Bool) (bnd (aU aX) fun x1=>cnd (!x1) (some (true)) (bnd (aU nE) fun x4=>some (!x4))) fun dq=>cnd dq (bnd (ff) fun x8=>some x8) (bnd (c6 aX.vN nE.vD) fun mI=>bnd (c6 nE.vN aX.vD) fun nf=>bnd (jc mI.vN nf.vN) fun pJ=>bnd (jc mI.vD nf.vD) fun At=>bnd (S:=Bool) (cnd pJ.vBad (some (true)) (some (At.vBad))) fun aR=>cnd aR (bnd (ff) fun vJ=>some vJ) (some (⟨pJ,At⟩:ao)))
theorem v6 {aX:ao}{nE:ao}{r:ao}(h:hJ aX nE=some r):ar prog 29 [dG al aX,dG al nE] (dG al r):=by
 refine bj (rs:=[.cell 4 43]) (fun cx hx h0=>?_) func29
 unfold hJ at h
 refine rar hx ?_
 iterate 2 refine AW.seq ?_
 obtain⟨dq,hy,h⟩:=ae h
 refine jn ((PE cx .normal (fun dq=>[(2,.pt 0 0),(3,.pt 1 0),(4,.pt 2 0),(16,dB dq)]) fun dq=>⟨[(0,dC (al.f aX)),(1,dC (al.f nE)),(2,dC (al.f kw))],[],3⟩) dq) ?_ ?_
 replace h:=hy
 refine rq hx fun K hK=>?_
 refine mbr ?_
 refine scb h b9 fun x1 h=>?_
 refine mbr ?_
 rcases aF h with⟨fQ,h⟩|⟨fQ,h⟩
 refine nbr hK ?_
 exact pe1 h h0 [0,1,2]
 refine gbr ?_
 refine gcb h b9 fun x4 h=>?_
 refine nbr hK ?_
 exact pe1 h h0 [0,1,2]
 refine lw0 ?_
 refine cdh h rfl (fun tI h=>?_) (fun tI h=>?_)
 refine rs hx fun K hK=>?_
 refine scb h lU fun x8 h=>?_
 refine nbr hK ?_
 exact AW.ret (rtv h)
 refine AW.skip (AW.seq ?_)
 obtain⟨mI,FO,h⟩:=ae h
 obtain⟨nf,Bg,h⟩:=ae h
 refine jn (PE cx .normal (fun (_:Unit)=>[(4,.pt 0 0),(5,.pt 1 0),(6,.pt 2 0)]) (fun (_:Unit)=>⟨[(0,dC (al.f kw)),(1,dC (al.f mI)),(2,dC (al.f nf))],[],3⟩) ()) ?_ ?_
 refine dw (DW.split 10 11 (by decide) ?_ ?_)
 refine dwg [93] [0,1,2,3,4,5,6,7,8,9,10,11,12,13] hx (by kernel_rfl) (by kernel_rfl) (by kernel_rfl) fun K hK=>?_
 dsimp only[d8,mE,mP,List.map]
 refine mbr ?_
 refine cq (kE FO) ?_
 refine mbr ?_
 refine cq (kE Bg) ?_
 iterate 2 refine sbr ?_
 iterate 2 refine tzr ?_
 exact .nil (hK _ _ (pe0 h0 [2,3,4]))
 refine dwg [93] [0,1,2,3,4,5,6,7,8,9,11,10,12,13] hx (by kernel_rfl) (by kernel_rfl) (by kernel_rfl) fun K hK=>?_
 dsimp only[d8,mE,mP,List.map]
 refine mbr ?_
 refine cq (kE FO) ?_
 refine mbr ?_
 refine cq (kE Bg) ?_
 iterate 2 refine sbr ?_
 iterate 2 refine tzr ?_
 exact .nil (hK _ _ (pe0 h0 [2,4,3]))
 refine lw0 ?_
 refine AW.seq ?_
 obtain⟨pJ,yA,h⟩:=ae h
 obtain⟨At,hx17,h⟩:=ae h
 refine jn (PE cx .normal (fun (_:Unit)=>[(4,.pt 0 0),(7,.pt 1 0),(8,.pt 2 0)]) (fun (_:Unit)=>⟨[(0,dC (al.f kw)),(1,dC (aq.f pJ)),(2,dC (aq.f At))],[],3⟩) ()) ?_ ?_
 refine dw (DW.split 10 11 (by decide) ?_ ?_)
 refine dwg [94] [0,1,2,3,4,5,6,7,8,9,10,11,12,13] hx (by kernel_rfl) (by kernel_rfl) (by kernel_rfl) fun K hK=>?_
 dsimp only[d8,mE,mP,List.map]
 refine mbr ?_
 refine cq (lS yA) ?_
 refine mbr ?_
 refine cq (lS hx17) ?_
 iterate 2 refine sbr ?_
 iterate 2 refine tzr ?_
 exact .nil (hK _ _ (pe0 h0 [0,3,4]))
 refine dwg [94] [0,1,2,3,4,5,6,7,8,9,11,10,12,13] hx (by kernel_rfl) (by kernel_rfl) (by kernel_rfl) fun K hK=>?_
 dsimp only[d8,mE,mP,List.map]
 refine mbr ?_
 refine cq (lS yA) ?_
 refine mbr ?_
 refine cq (lS hx17) ?_
 iterate 2 refine sbr ?_
 iterate 2 refine tzr ?_
 exact .nil (hK _ _ (pe0 h0 [0,4,3]))
 refine lw0 ?_
 iterate 2 refine AW.seq ?_
 obtain⟨aR,hy,h⟩:=ae h
 refine jn ((PE cx .normal (fun aR=>[(4,.pt 0 0),(7,.pt 1 0),(8,.pt 2 0),(43,dB aR)]) fun aR=>⟨[(0,dC (al.f kw)),(1,dC (aq.f pJ)),(2,dC (aq.f At))],[],3⟩) aR) ?_ ?_
 replace h:=hy
 refine rq hx fun K hK=>?_
 refine mbr ?_
 rcases aF h with⟨L9,h⟩|⟨L9,h⟩
 refine nbr hK ?_
 exact pe1 h h0 [0,1,2]
 refine nbr hK ?_
 exact pe1 h h0 [0,1,2]
 refine lw0 ?_
 refine cdh h rfl (fun SK h=>?_) (fun SK h=>?_)
 refine rs hx fun K hK=>?_
 refine scb h lU fun vJ h=>?_
 refine nbr hK ?_
 exact AW.ret (rtv h)
 refine AW.skip (rs hx fun K hK=>?_)
 iterate 2 refine sbr ?_
 refine s1 (d:=dG al (⟨pJ,At⟩:ao)) (gV (FL.cons (y:=pJ) (jJ kw) rfl rfl (FL.cons (y:=At) (jK (⟨pJ,b8⟩:ao)) rfl rfl (FL.nil _))) aT) ?_
 refine nbr hK ?_
 exact AW.ret (rtv h)
def sE(aX:ao)(nE:ao):Option ao:=bnd (aU nE) fun x1=>cnd (!x1) (bnd (ff) fun x4=>some x4) (bnd (c6 nE.vD nE.vN) fun x6=>bnd (hJ aX x6) fun x8=>some x8)
theorem Jh {aX:ao}{nE:ao}{r:ao}(h:sE aX nE=some r):ar prog 153 [dG al aX,dG al nE] (dG al r):=by
 refine bj (rs:=[.cell 4 43]) (fun cx hx h0=>?_) func153
 unfold sE at h
 refine rar hx ?_
 refine AW.seq (rs hx fun K hK=>?_)
 refine mbr ?_
 refine scb h b9 fun x1 h=>?_
 refine nbr hK ?_
 refine cdh h rfl (fun fQ h=>?_) (fun fQ h=>?_)
 refine rs hx fun K hK=>?_
 refine scb h lU fun x4 h=>?_
 refine nbr hK ?_
 exact AW.ret (rtv h)
 refine AW.skip (rsd [93,29] hx fun K hK=>?_)
 refine mbr ?_
 refine cqb h kE fun x6 h=>?_
 refine cqb h v6 fun x8 h=>?_
 refine nbr hK ?_
 exact AW.ret (rtv h)
def mf(aX:ao):Option ao:=bnd (aU aX) fun x1=>cnd (!x1) (bnd (ff) fun x4=>some x4) (bnd (l7 aX.vN) fun x6=>some (⟨x6,aX.vD⟩:ao))
theorem v5 {aX:ao}{r:ao}(h:mf aX=some r):ar prog 42 [dG al aX] (dG al r):=by
 refine bj (rs:=[.cell 2 43]) (fun cx hx h0=>?_) func42
 unfold mf at h
 refine rar hx ?_
 refine AW.seq (rs hx fun K hK=>?_)
 refine mbr ?_
 refine scb h b9 fun x1 h=>?_
 refine nbr hK ?_
 refine cdh h rfl (fun fQ h=>?_) (fun fQ h=>?_)
 refine rs hx fun K hK=>?_
 refine scb h lU fun x4 h=>?_
 refine nbr hK ?_
 exact AW.ret (rtv h)
 refine AW.skip (rsd [100] hx fun K hK=>?_)
 refine mbr ?_
 refine cqb h vM fun x6 h=>?_
 iterate 2 refine sbr ?_
 refine s1 (d:=dG al (⟨x6,aX.vD⟩:ao)) (gV (FL.cons (y:=x6) (jJ kw) rfl rfl (FL.cons (y:=aX.vD) (jK (⟨x6,b8⟩:ao)) rfl rfl (FL.nil _))) aT) ?_
 refine nbr hK ?_
 exact AW.ret (rtv h)
def m4(cZ:ap):Option ao:=bnd (me) fun x1=>bnd (c6 cZ x1) fun x3=>some x3
theorem Fz {cZ:ap}{r:ao}(h:m4 cZ=some r):ar prog 34 [dG aq cZ] (dG al r):=by
 refine bj (rs:=[.cell 2 43]) (fun cx hx h0=>?_) func34
 unfold m4 at h
 refine rar hx ?_
 refine rsd [99,93] hx fun K hK=>?_
 refine mbr ?_
 refine cqb h vZ fun x1 h=>?_
 refine cqb h kE fun x3 h=>?_
 refine nbr hK ?_
 exact AW.ret (rtv h)
def pf(cZ:Int):Option ao:=bnd (gM cZ) fun x1=>bnd (m4 x1) fun x3=>some x3
theorem C3 {cZ:Int}{r:ao}(h:pf cZ=some r):ar prog 28 [dI .i64 cZ] (dG al r):=by
 refine bj (rs:=[.cell 2 43]) (fun cx hx h0=>?_) func28
 unfold pf at h
 refine rar hx ?_
 refine rs hx fun K hK=>?_
 refine sa ?_
 refine scb h qT fun x1 h=>?_
 refine scb h Fz fun x3 h=>?_
 refine nbr hK ?_
 exact AW.ret (rtv h)
def kM(aX:ao):Option Int:=bnd (aU aX) fun x1=>cnd (!x1) (some (0:Int)) (bnd (eZ aX.vN) fun x4=>some x4)
theorem ub {aX:ao}{r:Int}(h:kM aX=some r):ar prog 30 [dG al aX] (dI .i64 r):=by
 refine bj (rs:=[.tmp 2]) (fun cx hx h0=>?_) func30
 unfold kM at h
 refine ra hx ?_
 refine AW.seq (rs hx fun K hK=>?_)
 refine mbr ?_
 refine scb h b9 fun x1 h=>?_
 refine nbr hK ?_
 refine cdh h rfl (fun fQ h=>?_) (fun fQ h=>?_)
 refine ra hx ?_
 exact AW.ret (rtv h)
 refine AW.skip (rs hx fun K hK=>?_)
 refine mbr ?_
 refine scb h kC fun x4 h=>?_
 refine nbr hK ?_
 exact AW.ret (rtv h)
def sy(aX:ao)(nE:ao):Option ao:=bnd (mf nE) fun x1=>bnd (ia aX x1) fun x3=>some x3
theorem Jg {aX:ao}{nE:ao}{r:ao}(h:sy aX nE=some r):ar prog 76 [dG al aX,dG al nE] (dG al r):=by
 refine bj (rs:=[.cell 4 43]) (fun cx hx h0=>?_) func76
 unfold sy at h
 refine rar hx ?_
 refine rsd [42,66] hx fun K hK=>?_
 refine mbr ?_
 refine cqb h v5 fun x1 h=>?_
 refine cqb h v7 fun x3 h=>?_
 refine nbr hK ?_
 exact AW.ret (rtv h)
def iV :Int×ao×ao→Option ((Int×ao×ao)⊕Int):=fun (Ak,OD,OC)=>bnd (g7 OD.vN OD.vD) fun mI=>bnd (g7 OC.vN OC.vD) fun nf=>bnd (pS mI nf) fun pJ=>cnd (decide (pJ≠(0:Int))) (some (.inr (i64.wrap (Ak*pJ)))) (bnd (nK OD.vN OD.vD) fun pI=>bnd (nK OC.vN OC.vD) fun vn=>bnd (eZ pI) fun vJ=>bnd (eZ vn) fun xB=>bnd (S:=Bool) (cnd (decide (vJ=(0:Int))) (some (true)) (some (decide (xB=(0:Int))))) fun tU=>cnd tU (bnd (some (i64.wrap (Ak*(i64.wrap (vJ - xB))))) fun Le=>some (.inr Le)) (some (.inl (i64.wrap (0 - Ak),(⟨OD.vD,pI⟩:ao),(⟨OC.vD,vn⟩:ao)))))
def jj(aX:ao)(nE:ao):Option Int:=bnd (aU aX) fun x1=>bnd (aU nE) fun x3=>bnd (S:=Bool) (cnd (!x1) (some (!x3)) (some (false))) fun aN=>cnd aN (some (0:Int)) (cnd (!x1) (some (-1:Int)) (cnd (!x3) (some (1:Int)) (bnd (bt (iV) ((1:Int),aX,nE)) fun uM=>some uM)))
theorem se {aX:ao}{nE:ao}{r:Int}(h:jj aX nE=some r):ar prog 32 [dG al aX,dG al nE] (dI .i64 r):=by
 refine bj (rs:=[.tmp 4]) (fun cx hx h0=>?_) func32
 unfold jj at h
 refine ra hx ?_
 refine AW.scope (rsd [92] hx fun K hK=>?_)
 refine mbr ?_
 refine cqb h b9 fun x1 h=>?_
 refine mbr ?_
 refine cqb h b9 fun x3 h=>?_
 refine nbr hK ?_
 refine AW.seq (AW.block (AW.seq ?_))
 obtain⟨aN,hy,h⟩:=ae h
 refine jn ((PE cx .normal (fun aN=>[(2,.pt 0 0),(3,.pt 1 0),(5,dB x1),(6,dB x3),(15,dB aN)]) fun aN=>⟨[(0,dC (al.f aX)),(1,dC (al.f nE))],[],2⟩) aN) ?_ ?_
 replace h:=hy
 refine rq hx fun K hK=>?_
 refine mbr ?_
 rcases aF h with⟨rt,h⟩|⟨rt,h⟩
 refine nbr hK ?_
 exact pe1 h h0 [0,1]
 refine nbr hK ?_
 exact pe1 h h0 [0,1]
 refine lw0 ?_
 refine cdh h rfl (fun tI h=>?_) (fun tI h=>?_)
 refine ra hx ?_
 exact AW.ret (rtv h)
 refine ra hx ?_
 refine cdh h rfl (fun tH h=>?_) (fun tH h=>?_)
 refine ra hx ?_
 exact AW.ret (rtv h)
 refine ra hx ?_
 refine cdh h rfl (fun JW h=>?_) (fun JW h=>?_)
 refine ra hx ?_
 exact AW.ret (rtv h)
 refine AW.skip (ra hx ?_)
 refine AW.seq (AW.label (AW.seq (AW.block ?_)))
 obtain⟨uM,hy,h⟩:=ae h
 refine lp (S:=Int×ao×ao) (X:=Int) (fun (Ak,OD,OC)=>[(2,.pt 0 0),(3,.pt 1 0),(7,dI .i64 Ak)]) (fun (Ak,OD,OC)=>⟨[(0,dC (al.f OD)),(1,dC (al.f OC))],[],2⟩) (PE cx (.exit 1) (fun uM=>[(7,dI .i64 uM)]) fun uM=>⟨[],[],0⟩) hy ?_ ?_ ?_
 exact wk0 h0 [0,1]
 clear hy h
 rintro⟨Ak,OD,OC⟩ y h
 dsimp only[iV] at h
 refine AW.block (AW.seq (rsd [97,96] hx fun K hK=>?_))
 refine mbr ?_
 refine cqb h kg fun mI h=>?_
 refine mbr ?_
 refine cqb h kg fun nf h=>?_
 refine cqb h I8 fun pJ h=>?_
 refine nbr hK ?_
 refine ra hx ?_
 refine cdh h rfl (fun ru h=>?_) (fun ru h=>?_)
 refine ra hx ?_
 exact AW.exit (per h h0 [])
 refine AW.skip (AW.seq ?_)
 obtain⟨pI,vu,h⟩:=ae h
 obtain⟨vn,FN,h⟩:=ae h
 refine jn (PE cx .normal (fun (_:Unit)=>[(2,.pt 0 0),(3,.pt 1 0),(7,dI .i64 Ak)]) (fun (_:Unit)=>⟨[(0,dC (al.f (⟨OD.vD,pI⟩:ao))),(1,dC (al.f (⟨OC.vD,vn⟩:ao)))],[],2⟩) ()) ?_ ?_
 refine dw (DW.split 9 16 (by decide) ?_ ?_)
 refine dwg [98] [0,1,2,3,4,5,6,7,8,9,10,11,12,13,14,15,16,17] hx (by kernel_rfl) (by kernel_rfl) (by kernel_rfl) fun K hK=>?_
 dsimp only[d8,mE,mP,List.map]
 refine mbr ?_
 refine cq (r9 vu) ?_
 refine s1 (d:=dG al (⟨OD.vD,pI⟩:ao)) (gV (FL.cons (y:=OD.vD) (jJ kw) rfl rfl (FL.cons (y:=pI) (jK (⟨OD.vD,b8⟩:ao)) rfl rfl (FL.nil _))) aT) ?_
 refine mbr ?_
 refine cq (r9 FN) ?_
 refine s1 (d:=dG al (⟨OC.vD,vn⟩:ao)) (gV (FL.cons (y:=OC.vD) (jJ kw) rfl rfl (FL.cons (y:=vn) (jK (⟨OC.vD,b8⟩:ao)) rfl rfl (FL.nil _))) aT) ?_
 iterate 2 refine tzr ?_
 exact .nil (hK _ _ (pe0 h0 [0,1]))
 refine dwg [98] [0,1,2,3,4,5,6,7,8,10,11,12,13,14,16,9,15,17] hx (by kernel_rfl) (by kernel_rfl) (by kernel_rfl) fun K hK=>?_
 dsimp only[d8,mE,mP,List.map]
 refine mbr ?_
 refine cq (r9 vu) ?_
 refine s1 (d:=dG al (⟨OD.vD,pI⟩:ao)) (gV (FL.cons (y:=OD.vD) (jJ kw) rfl rfl (FL.cons (y:=pI) (jK (⟨OD.vD,b8⟩:ao)) rfl rfl (FL.nil _))) aT) ?_
 refine mbr ?_
 refine cq (r9 FN) ?_
 refine tzr ?_
 refine sbr ?_
 refine s1 (d:=dG al (⟨OC.vD,vn⟩:ao)) (gV (FL.cons (y:=OC.vD) (jJ kw) rfl rfl (FL.cons (y:=vn) (jK (⟨OC.vD,b8⟩:ao)) rfl rfl (FL.nil _))) aT) ?_
 refine tzr ?_
 exact .nil (hK _ _ (pe0 h0 [0,1]))
 refine lw0 ?_
 refine rsd [95] hx fun K hK=>?_
 refine mbr ?_
 refine cqb h kC fun vJ h=>?_
 refine mbr ?_
 refine cqb h kC fun xB h=>?_
 refine nbr hK ?_
 iterate 2 refine AW.seq ?_
 obtain⟨tU,hy,h⟩:=ae h
 refine jn ((PE cx .normal (fun tU=>[(2,.pt 0 0),(3,.pt 1 0),(7,dI .i64 Ak),(9,dI .i64 vJ),(10,dI .i64 xB),(71,dB tU)]) fun tU=>⟨[(0,dC (al.f (⟨OD.vD,pI⟩:ao))),(1,dC (al.f (⟨OC.vD,vn⟩:ao)))],[],2⟩) tU) ?_ ?_
 replace h:=hy
 refine rq hx fun K hK=>?_
 refine mbr ?_
 rcases aF h with⟨hb25,h⟩|⟨hb25,h⟩
 refine nbr hK ?_
 exact pe1 h h0 [0,1]
 refine nbr hK ?_
 exact pe1 h h0 [0,1]
 refine lw0 ?_
 refine cdh h rfl (fun SI h=>?_) (fun SI h=>?_)
 refine rs hx fun K hK=>?_
 iterate 5 refine sa ?_
 obtain⟨Le,RW,h⟩:=ae h
 replace RW:=bB RW
 refine s2 (d2:=dI .i64 Le) li (f7 (congrArg (dI .i64) RW)) ?_
 refine nl hK ?_
 exact AW.exit (per h h0 [])
 refine AW.skip (rb hx ?_)
 exact pel h h0 [0,1]
 refine lw0 ?_
 refine ra hx ?_
 exact AW.ret (rtv h)
def ma :Option ap:=bnd (eI (1:Int)) fun x1=>some x1
theorem vS  {r:ap}(h:ma=some r):ar prog 125 [] (dG aq r):=by
 refine bj (rs:=[.cell 0 41]) (fun cx hx h0=>?_) func125
 unfold ma at h
 refine rar hx ?_
 refine rs hx fun K hK=>?_
 refine scb h ik fun x1 h=>?_
 refine nbr hK ?_
 exact AW.ret (rtv h)
def e8(aX:ao):Option Bool:=bnd (S:=Bool) (bnd (bf aX.vN) fun x1=>cnd (!x1) (some (true)) (bnd (bf aX.vD) fun x4=>some (!x4))) fun dq=>cnd dq (some false) (bnd (S:=Bool) (bnd (kL aX.vD) fun x8=>cnd (decide ((0:Int)<x8)) (bnd (mc aX.vN aX.vD) fun r8=>bnd (ma) fun qa=>some (decide (r8=qa))) (some (false))) fun oU=>some oU)
theorem mp {aX:ao}{r:Bool}(h:e8 aX=some r):ar prog 89 [dG al aX] (dB r):=by
 refine bj (rs:=[.tmp 2]) (fun cx hx h0=>?_) func89
 unfold e8 at h
 refine ra hx ?_
 iterate 2 refine AW.seq ?_
 obtain⟨dq,hy,h⟩:=ae h
 refine jn ((PE cx .normal (fun dq=>[(1,.pt 0 0),(12,dB dq)]) fun dq=>⟨[(0,dC (al.f aX))],[],1⟩) dq) ?_ ?_
 replace h:=hy
 refine rq hx fun K hK=>?_
 refine mbr ?_
 refine scb h co fun x1 h=>?_
 refine mbr ?_
 rcases aF h with⟨fQ,h⟩|⟨fQ,h⟩
 refine nbr hK ?_
 exact pe1 h h0 [0]
 refine ga fQ ?_
 refine gbr ?_
 refine gcb h co fun x4 h=>?_
 refine nbr hK ?_
 exact pe1 h h0 [0]
 refine lw0 ?_
 refine cdh h rfl (fun tI h=>?_) (fun tI h=>?_)
 refine ra hx ?_
 exact AW.ret (rtv h)
 refine AW.skip (AW.seq ?_)
 obtain⟨oU,hy,h⟩:=ae h
 refine jn ((PE cx .normal (fun oU=>[(2,dB oU)]) fun oU=>⟨[],[],0⟩) oU) ?_ ?_
 replace h:=hy
 refine rq hx fun K hK=>?_
 refine mbr ?_
 refine scb h ua fun x8 h=>?_
 refine mbr ?_
 rcases aF h with⟨nq,h⟩|⟨nq,h⟩
 refine ga nq ?_
 refine gbr ?_
 refine ga nq ?_
 refine gbr ?_
 refine gcb h vU fun r8 h=>?_
 refine gcb h vS fun qa h=>?_
 refine g1 nq (ET tok 3 (by decide) eN eY) ?_
 refine nbr hK ?_
 exact pe1 h h0 []
 refine nbr hK ?_
 exact pe1 h h0 []
 refine lw0 ?_
 exact AW.ret (rtv h)
def nM :Option ao:=bnd (fe) fun x1=>bnd (ma) fun x3=>some (⟨x1,x3⟩:ao)
theorem sb  {r:ao}(h:nM=some r):ar prog 67 [] (dG al r):=by
 refine bj (rs:=[.cell 0 43]) (fun cx hx h0=>?_) func67
 unfold nM at h
 refine rar hx ?_
 refine rs hx fun K hK=>?_
 refine scb h kj fun x1 h=>?_
 refine scb h vS fun x3 h=>?_
 refine s1 (d:=dG al (⟨x1,x3⟩:ao)) (gV (FL.cons (y:=x1) (jJ kw) rfl rfl (FL.cons (y:=x3) (jK (⟨x1,b8⟩:ao)) rfl rfl (FL.nil _))) aT) ?_
 refine nbr hK ?_
 exact AW.ret (rtv h)
def fX(cZ:ap)(zG:ap):Option ao:=bnd (S:=Bool) (bnd (bf cZ) fun x1=>cnd (!x1) (some (true)) (bnd (bf zG) fun x4=>cnd (!x4) (some (true)) (bnd (kL zG) fun x7=>some (decide (x7=(0:Int)))))) fun dq=>cnd dq (bnd (nM) fun r8=>some r8) (bnd (mc cZ zG) fun qa=>bnd (S:=ap) (bnd (kL zG) fun I2=>cnd (decide (I2<(0:Int))) (bnd (pV qa) fun qx=>some (qx)) (some (qa))) fun c8=>bnd (ku cZ c8) fun vJ=>bnd (ku zG c8) fun xB=>some (⟨vJ,xB⟩:ao))
theorem mn {cZ:ap}{zG:ap}{r:ao}(h:fX cZ zG=some r):ar prog 126 [dG aq cZ,dG aq zG] (dG al r):=by
 refine bj (rs:=[.cell 4 43]) (fun cx hx h0=>?_) func126
 unfold fX at h
 refine rar hx ?_
 iterate 2 refine AW.seq ?_
 obtain⟨dq,hy,h⟩:=ae h
 refine jn ((PE cx .normal (fun dq=>[(2,.pt 0 0),(3,.pt 1 0),(4,.pt 2 0),(18,dB dq)]) fun dq=>⟨[(0,dC (aq.f cZ)),(1,dC (aq.f zG)),(2,dC (al.f kw))],[],3⟩) dq) ?_ ?_
 replace h:=hy
 refine rq hx fun K hK=>?_
 refine mbr ?_
 refine scb h co fun x1 h=>?_
 refine mbr ?_
 rcases aF h with⟨fQ,h⟩|⟨fQ,h⟩
 refine nbr hK ?_
 exact pe1 h h0 [0,1,2]
 refine gbr ?_
 refine gcb h co fun x4 h=>?_
 refine mbr ?_
 rcases aF h with⟨qP,h⟩|⟨qP,h⟩
 refine nbr hK ?_
 exact pe1 h h0 [0,1,2]
 refine gbr ?_
 refine gcb h ua fun x7 h=>?_
 refine nbr hK ?_
 exact pe1 h h0 [0,1,2]
 refine lw0 ?_
 refine cdh h rfl (fun nq h=>?_) (fun nq h=>?_)
 refine rs hx fun K hK=>?_
 refine scb h sb fun r8 h=>?_
 refine nbr hK ?_
 exact AW.ret (rtv h)
 refine AW.skip (rs hx fun K hK=>?_)
 refine mbr ?_
 refine scb h vU fun qa h=>?_
 refine nbr hK ?_
 refine AW.seq ?_
 obtain⟨c8,hy,h⟩:=ae h
 refine jn ((PE cx .normal (fun c8=>[(2,.pt 0 0),(3,.pt 1 0),(4,.pt 2 0),(5,.pt 3 0)]) fun c8=>⟨[(0,dC (aq.f cZ)),(1,dC (aq.f zG)),(2,dC (al.f kw)),(3,dC (aq.f c8))],[],4⟩) c8) ?_ ?_
 replace h:=hy
 refine rs hx fun K hK=>?_
 refine mbr ?_
 refine scb h ua fun I2 h=>?_
 refine nbr hK ?_
 refine cdh h rfl (fun DR h=>?_) (fun DR h=>?_)
 refine rq hx fun K hK=>?_
 refine mbr ?_
 refine scb h Jd fun qx h=>?_
 refine nbr hK ?_
 exact pe1 h h0 [0,1,2,3]
 exact AW.skip (pe1 h h0 [0,1,2,3])
 refine lw0 ?_
 refine rsd [128] hx fun K hK=>?_
 refine mbr ?_
 refine cqb h sd fun vJ h=>?_
 refine mbr ?_
 refine cqb h sd fun xB h=>?_
 refine s1 (d:=dG al (⟨vJ,xB⟩:ao)) (gV (FL.cons (y:=vJ) (jJ kw) rfl rfl (FL.cons (y:=xB) (jK (⟨vJ,b8⟩:ao)) rfl rfl (FL.nil _))) aT) ?_
 refine nbr hK ?_
 exact AW.ret (rtv h)
def wo(aX:ao)(nE:ao):Option ao:=bnd (S:=Bool) (bnd (e8 aX) fun x1=>cnd (!x1) (some (true)) (bnd (e8 nE) fun x4=>some (!x4))) fun dq=>cnd dq (bnd (nM) fun x8=>some x8) (bnd (mc aX.vD nE.vD) fun mI=>bnd (ku aX.vD mI) fun nf=>bnd (ku nE.vD mI) fun pJ=>bnd (mb aX.vN pJ) fun At=>bnd (mb nE.vN nf) fun qx=>bnd (wq At qx) fun Fo=>bnd (mb nf nE.vD) fun Ck=>bnd (fX Fo Ck) fun E7=>some E7)
theorem Jb {aX:ao}{nE:ao}{r:ao}(h:wo aX nE=some r):ar prog 69 [dG al aX,dG al nE] (dG al r):=by
 refine bj (rs:=[.cell 4 43]) (fun cx hx h0=>?_) func69
 unfold wo at h
 refine rar hx ?_
 iterate 2 refine AW.seq ?_
 obtain⟨dq,hy,h⟩:=ae h
 refine jn ((PE cx .normal (fun dq=>[(2,.pt 0 0),(3,.pt 1 0),(4,.pt 2 0),(15,dB dq)]) fun dq=>⟨[(0,dC (al.f aX)),(1,dC (al.f nE)),(2,dC (al.f kw))],[],3⟩) dq) ?_ ?_
 replace h:=hy
 refine rq hx fun K hK=>?_
 refine mbr ?_
 refine scb h mp fun x1 h=>?_
 refine mbr ?_
 rcases aF h with⟨fQ,h⟩|⟨fQ,h⟩
 refine nbr hK ?_
 exact pe1 h h0 [0,1,2]
 refine gbr ?_
 refine gcb h mp fun x4 h=>?_
 refine nbr hK ?_
 exact pe1 h h0 [0,1,2]
 refine lw0 ?_
 refine cdh h rfl (fun tI h=>?_) (fun tI h=>?_)
 refine rs hx fun K hK=>?_
 refine scb h sb fun x8 h=>?_
 refine nbr hK ?_
 exact AW.ret (rtv h)
 refine AW.skip (rs hx fun K hK=>?_)
 refine mbr ?_
 refine scb h vU fun mI h=>?_
 refine nbr hK ?_
 refine rs hx fun K hK=>?_
 refine mbr ?_
 refine scb h sd fun nf h=>?_
 refine nbr hK ?_
 refine rs hx fun K hK=>?_
 refine mbr ?_
 refine scb h sd fun pJ h=>?_
 refine nbr hK ?_
 refine rsd [130,129,126] hx fun K hK=>?_
 refine mbr ?_
 refine cqb h pK fun At h=>?_
 refine mbr ?_
 refine cqb h pK fun qx h=>?_
 refine cqb h Je fun Fo h=>?_
 refine mbr ?_
 refine cqb h pK fun Ck h=>?_
 refine cqb h mn fun E7 h=>?_
 refine nbr hK ?_
 exact AW.ret (rtv h)
def wn(aX:ao)(nE:ao):Option ao:=bnd (S:=Bool) (bnd (e8 aX) fun x1=>cnd (!x1) (some (true)) (bnd (e8 nE) fun x4=>some (!x4))) fun dq=>cnd dq (bnd (nM) fun x8=>some x8) (bnd (fX aX.vN nE.vD) fun mI=>bnd (fX nE.vN aX.vD) fun nf=>bnd (mb mI.vN nf.vN) fun pJ=>bnd (mb mI.vD nf.vD) fun At=>bnd (fX pJ At) fun qx=>some qx)
theorem Ja {aX:ao}{nE:ao}{r:ao}(h:wn aX nE=some r):ar prog 70 [dG al aX,dG al nE] (dG al r):=by
 refine bj (rs:=[.cell 4 43]) (fun cx hx h0=>?_) func70
 unfold wn at h
 refine rar hx ?_
 iterate 2 refine AW.seq ?_
 obtain⟨dq,hy,h⟩:=ae h
 refine jn ((PE cx .normal (fun dq=>[(2,.pt 0 0),(3,.pt 1 0),(4,.pt 2 0),(16,dB dq)]) fun dq=>⟨[(0,dC (al.f aX)),(1,dC (al.f nE)),(2,dC (al.f kw))],[],3⟩) dq) ?_ ?_
 replace h:=hy
 refine rq hx fun K hK=>?_
 refine mbr ?_
 refine scb h mp fun x1 h=>?_
 refine mbr ?_
 rcases aF h with⟨fQ,h⟩|⟨fQ,h⟩
 refine nbr hK ?_
 exact pe1 h h0 [0,1,2]
 refine gbr ?_
 refine gcb h mp fun x4 h=>?_
 refine nbr hK ?_
 exact pe1 h h0 [0,1,2]
 refine lw0 ?_
 refine cdh h rfl (fun tI h=>?_) (fun tI h=>?_)
 refine rs hx fun K hK=>?_
 refine scb h sb fun x8 h=>?_
 refine nbr hK ?_
 exact AW.ret (rtv h)
 refine AW.skip (rs hx fun K hK=>?_)
 refine mbr ?_
 refine scb h mn fun mI h=>?_
 refine nbr hK ?_
 refine rs hx fun K hK=>?_
 refine mbr ?_
 refine scb h mn fun nf h=>?_
 refine nbr hK ?_
 refine rs hx fun K hK=>?_
 refine mbr ?_
 refine scb h pK fun pJ h=>?_
 refine nbr hK ?_
 refine rs hx fun K hK=>?_
 refine mbr ?_
 refine scb h pK fun At h=>?_
 refine nbr hK ?_
 refine rs hx fun K hK=>?_
 refine mbr ?_
 refine scb h mn fun qx h=>?_
 refine nbr hK ?_
 exact AW.ret (rtv h)
def pe(cZ:Int):Option ao:=bnd (eI cZ) fun x1=>bnd (ma) fun x3=>bnd (fX x1 x3) fun x5=>some x5
theorem C0 {cZ:Int}{r:ao}(h:pe cZ=some r):ar prog 68 [dI .i64 cZ] (dG al r):=by
 refine bj (rs:=[.cell 2 43]) (fun cx hx h0=>?_) func68
 unfold pe at h
 refine rar hx ?_
 refine rs hx fun K hK=>?_
 refine sa ?_
 refine scb h ik fun x1 h=>?_
 refine scb h vS fun x3 h=>?_
 refine scb h mn fun x5 h=>?_
 refine nbr hK ?_
 exact AW.ret (rtv h)
def mu(aJ:Int)(aO:Int):Option ao:=bnd (eI aJ) fun x1=>bnd (eI aO) fun x3=>bnd (fX x1 x3) fun x5=>some x5
theorem zi {aJ:Int}{aO:Int}{r:ao}(h:mu aJ aO=some r):ar prog 102 [dI .i64 aJ,dI .i64 aO] (dG al r):=by
 refine bj (rs:=[.cell 4 43]) (fun cx hx h0=>?_) func102
 unfold mu at h
 refine rar hx ?_
 refine rs hx fun K hK=>?_
 refine sa ?_
 refine scb h ik fun x1 h=>?_
 refine sa ?_
 refine scb h ik fun x3 h=>?_
 refine scb h mn fun x5 h=>?_
 refine nbr hK ?_
 exact AW.ret (rtv h)
def lR(q:Rat):Prop:=q.num.natAbs<LIM∧q.den<LIM
instance(q:Rat):Decidable (lR q):=by unfold lR;exact inferInstance
def kN(q:Rat):ao:=⟨enc q.num,enc (q.den:Int)⟩
def Ga:ao:=⟨Kv,enc 1⟩
def Bl:Option Rat→ao
 |some q=>kN q
 |none=>Ga
def okR(x:ao):Prop:=okI x.vN∧okI x.vD
theorem ui(o:Option Rat):okR (Bl o):=by
 cases o with
 |some q=>exact⟨CG _,CG _⟩
 |none=>
  refine⟨fun j hj=>?_,CG _⟩
  show 0≤(W 0)[j]!∧(W 0)[j]! <4294967296
  rw[gE hj];have:=@dgl 0 j;omega
theorem Tg {p q:Rat}(hp:lR p)(hq:lR q)(h:kN p=kN q):p=q:=by
 unfold kN at h
 simp only[ao.mk.injEq] at h
 have h1:=z6 hp.1 hq.1 h.1
 have h2:=z6 (by simpa using hp.2) (by simpa using hq.2) h.2
 exact Rat.ext h1 (by omega)
theorem ur {z:Int}:dX (enc z)=decide (z.natAbs<LIM):=by
 by_cases h:z.natAbs<LIM
 ·rw[ba h,aA h]
 ·rw[D0 h,GJ,bk h]
theorem Kd {q:Rat}(h:lR q):kN q≠Ga:=by
 intro e
 have:dX (kN q).vN=dX Ga.vN:=by rw[e]
 rw[show (kN q).vN=enc q.num from rfl,ba h.1] at this
 cases this
def cm(x:ao):Option Rat:=open Classical in if h:∃q,lR q∧x=kN q then some (Classical.choose h) else none
theorem dm {x:ao}{q:Rat}:cm x=some q↔lR q∧x=kN q:=by
 unfold cm
 split
 ·rename_i h
  obtain⟨h1,h2⟩:=Io h
  constructor
  ·intro e
   injection e with e
   rw[←e];exact⟨h1,h2⟩
  ·rintro⟨h3,h4⟩
   congr 1
   exact Tg h1 h3 (h2.symm.trans h4)
 ·rename_i h
  constructor
  ·intro e;cases e
  ·rintro h3;exact absurd ⟨q,h3⟩ h
theorem Av {x:ao}:cm x=none↔∀q,lR q→x≠kN q:=by
 constructor
 ·intro h q hq e
  rw[dm.2 ⟨hq,e⟩] at h;cases h
 ·intro h
  cases hx:cm x with
  |none=>rfl
  |some q=>exact absurd (dm.1 hx).2 (h q (dm.1 hx).1)
theorem wa {q:Rat}(h:lR q):cm (kN q)=some q:=dm.2 ⟨h,rfl⟩
theorem QJ:cm Ga=none:=Av.2 fun _ hq e=>Kd hq e.symm
def Bh(o:Option Rat):Prop:=∀q,o=some q→lR q
theorem Aw {o:Option Rat}(h:Bh o):cm (Bl o)=o:=by
 cases o with
 |none=>exact QJ
 |some q=>exact wa (h q rfl)
theorem DX(x:ao):Bh (cm x):=fun _ h=>(dm.1 h).1
theorem pg:Bh none:=fun _ h=>by cases h
theorem Tb {g k:Int}(h:g≠0):(g*k).fdiv g=k:=Int.mul_fdiv_cancel_left _ h
theorem Og {g k:Int}(h:g≠0):(g*k).fdiv (-g)=-k:=by
 rw[show g*k=-g*-k from (Int.neg_mul_neg g k).symm]
 exact Int.mul_fdiv_cancel_left _ (by omega)
theorem oe {n d:Int}(hd:d≠0):∃k m:Int,n=(Nat.gcd n.natAbs d.natAbs:Nat)*k∧d=(Nat.gcd n.natAbs d.natAbs:Nat)*m∧m≠0∧(Rat.divInt n d).num=d.sign*k∧((Rat.divInt n d).den:Int)=d.sign*m:=by
 have hg0:Nat.gcd n.natAbs d.natAbs≠0:=by
  intro h
  have:=(MA.1 h).2
  omega
 have BV:((Nat.gcd n.natAbs d.natAbs:Nat):Int)≠0:=by omega
 obtain⟨k,hk⟩:((Nat.gcd n.natAbs d.natAbs:Nat):Int) ∣ n:=Int.ofNat_dvd_left.2 (Nat.gcd_dvd_left _ _)
 obtain⟨m,hm⟩:((Nat.gcd n.natAbs d.natAbs:Nat):Int) ∣ d:=Int.ofNat_dvd_left.2 (Nat.gcd_dvd_right _ _)
 have N1:((Int.gcd d n:Nat):Int)=((Nat.gcd n.natAbs d.natAbs:Nat):Int):=by
  rw[Int.gcd_comm];rfl
 have hmm:m≠0:=by
  intro h
  rw[h,Int.mul_zero] at hm
  exact hd hm
 refine⟨k,m,hk,hm,hmm,?_,?_⟩
 ·rw[Rat.num_divInt,N1]
  generalize ((Nat.gcd n.natAbs d.natAbs:Nat):Int)=g at hk BV ⊢
  rw[hk,In,Int.mul_ediv_cancel_left _ BV]
 ·rw[Rat.den_divInt,ah hd]
  have e:((d.natAbs / Int.gcd d n:Nat):Int)=(d.natAbs:Int) / ((Int.gcd d n:Nat):Int):=Mz ..
  rw[e,N1]
  have e2:(d.natAbs:Int)=d.sign*d:=by rw[Int.sign_mul_self]
  rw[e2]
  generalize ((Nat.gcd n.natAbs d.natAbs:Nat):Int)=g at hm BV ⊢
  have e3:d.sign*d=g*(d.sign*m):=by
   conv=>lhs;rhs;rw[hm]
   rw[In]
  rw[e3,Int.mul_ediv_cancel_left _ BV]
theorem yE {n d:Int}(hd:d≠0)(h1:n.natAbs<LIM)(h2:d.natAbs<LIM):lR (Rat.divInt n d):=by
 obtain⟨k,m,hk,hm,Ff,e1,e2⟩:=oe (n:=n) hd
 have hg0:Nat.gcd n.natAbs d.natAbs≠0:=by
  intro h
  have:=(MA.1 h).2
  omega
 have hs:d.sign.natAbs=1:=by rw[Int.natAbs_sign,ah hd]
 refine⟨?_,?_⟩
 ·rw[e1,oy,hs,eT]
  refine dM ?_ h1
  conv=>rhs;rw[hk]
  rw[oy,dK]
  exact uG _ (yO hg0)
 ·have:(Rat.divInt n d).den=(d.sign*m).natAbs:=by omega
  rw[this,oy,hs,eT]
  refine dM ?_ h2
  conv=>rhs;rw[hm]
  rw[oy,dK]
  exact uG _ (yO hg0)
theorem JH {n d:Int}(hd:d≠0):n.fdiv (bif decide (d<0) then -((Nat.gcd n.natAbs d.natAbs:Nat):Int) else ((Nat.gcd n.natAbs d.natAbs:Nat):Int))=(Rat.divInt n d).num∧d.fdiv (bif decide (d<0) then -((Nat.gcd n.natAbs d.natAbs:Nat):Int) else ((Nat.gcd n.natAbs d.natAbs:Nat):Int))=((Rat.divInt n d).den:Int):=by
 obtain⟨k,m,hk,hm,Ff,e1,e2⟩:=oe (n:=n) hd
 have BV:((Nat.gcd n.natAbs d.natAbs:Nat):Int)≠0:=by
  intro h
  rw[h,Iq] at hm
  exact hd hm
 rw[e1,e2]
 generalize ((Nat.gcd n.natAbs d.natAbs:Nat):Int)=g at hk hm BV ⊢
 by_cases h:d<0
 ·rw[aA h,j5,wF h]
  constructor
  ·rw[hk,Og BV];omega
  ·rw[hm,Og BV];omega
 ·rw[bk h,cond_false,rM (by omega)]
  constructor
  ·rw[hk,Tb BV];omega
  ·rw[hm,Tb BV];omega
theorem HZ {n d:Int}(hd:d≠0)(h2:d.natAbs<LIM):Nat.gcd n.natAbs d.natAbs<LIM∧Nat.gcd n.natAbs d.natAbs≠0:=
 ⟨dM (Nat.gcd_le_right _ (by omega)) h2,fun h=>by have:=(MA.1 h).2;omega⟩
theorem OL:me=some (enc 1):=by
 unfold me
 rw[Nc (by decide) (by decide),ab]
theorem pH(x:ap):ji x=some (dX x):=by
 unfold ji
 rw[ON,ab,Tz,ab]
 congr 1
 unfold dX
 cases x.vBad <;> rfl
theorem wV:ff=some Ga:=by
 unfold ff
 rw[OR,OL,ab,ab]
 rfl
theorem S0 {n d:Int}(hn:n.natAbs<LIM)(hd:d.natAbs<LIM):(∃q,lR q∧(⟨enc n,enc d⟩:ao)=kN q)↔0<d∧Nat.gcd n.natAbs d.natAbs=1:=by
 constructor
 ·rintro⟨q,hq,e⟩
  unfold kN at e
  simp only[ao.mk.injEq] at e
  have e1:=z6 hn hq.1 e.1
  have e2:=z6 hd (by simpa using hq.2) e.2
  subst e1;subst e2
  exact⟨by have:=q.den_pos;omega,by rw[dK];exact q.reduced⟩
 ·rintro⟨h1,h2⟩
  refine⟨⟨n,d.natAbs,by omega,h2⟩,⟨hn,hd⟩,?_⟩
  unfold kN
  simp only[ao.mk.injEq,true_and]
  congr 1
  omega
theorem iD {x:ao}(hx:okR x):aU x=some (cm x).isSome:=by
 obtain⟨n,d⟩:=x
 obtain⟨h1,h2⟩:=hx
 dsimp only at h1 h2
 have hb:∀b:Bool,(b=true↔∃q,lR q∧(⟨n,d⟩:ao)=kN q)→(cm ⟨n,d⟩).isSome=b:=by
  intro b hb
  cases hv:cm ⟨n,d⟩ with
  |none=>
   cases b with
   |false=>rfl
   |true=>
    obtain⟨q,h3,h4⟩:=hb.1 rfl
    exact absurd h4 (Av.1 hv q h3)
  |some q=>exact ((hb.2 ⟨q,dm.1 hv⟩).symm)
 unfold aU
 dsimp only
 rw[pH,pH,ab,ab]
 cases BV:dX n with
 |false=>
  rw[aH,ab,hb false]
  constructor
  ·intro h;cases h
  ·rintro⟨q,hq,e⟩
   unfold kN at e
   simp only[ao.mk.injEq] at e
   rw[e.1,ba hq.1] at BV;cases BV
 |true=>
  cases DN:dX d with
  |false=>
   rw[gj,aH,ab,hb false]
   constructor
   ·intro h;cases h
   ·rintro⟨q,hq,e⟩
    unfold kN at e
    simp only[ao.mk.injEq] at e
    rw[e.2,ba (by simpa using hq.2)] at DN;cases DN
  |true=>
   obtain⟨n,hn,rfl⟩:=zY h1 BV
   obtain⟨d,hd,rfl⟩:=zY h2 DN
   have IY:=S0 hn hd
   rw[gj,gj,wW hd,ab,OQ hn hd,ab,OL,ab,fZ]
   by_cases h0:0<d
   ·rw[ai (by rw[rM h0];decide),ab]
    congr 1
    symm
    refine hb _ ?_
    rw[IY,decide_eq_true_iff]
    have NZ:=(HZ (n:=n) (show d≠0 by omega) hd).1
    constructor
    ·intro h
     have:=z6 (by simpa using NZ) (by decide) h
     exact⟨h0,by omega⟩
    ·rintro⟨_,h⟩
     rw[h];rfl
   ·rw[ah (by rw[Int.sign_pos_iff];exact h0),ab]
    congr 1
    symm
    refine hb _ ?_
    rw[IY]
    constructor
    ·intro h;cases h
    ·rintro⟨h,_⟩;exact absurd h h0
theorem E6 {n d:Int}(hn:n.natAbs<LIM)(hd:d.natAbs<LIM)(h0:d≠0):c6 (enc n) (enc d)=some (kN (Rat.divInt n d)):=by
 obtain⟨BV,DN⟩:=HZ (n:=n) h0 hd
 obtain⟨e1,e2⟩:=JH (n:=n) h0
 have NZ:(((Nat.gcd n.natAbs d.natAbs:Nat):Int)).natAbs<LIM:=by simpa using BV
 unfold c6
 rw[pH,pH,ab,ab,ba hn,ba hd,cY,aH,aH,wW hd,ab,ab,cg _ _ (by rw[Bt];exact h0),OQ hn hd,ab,ab,UU NZ,ab]
 have R3:(cnd (decide (d.sign<(0:Int))) (some (enc (-((Nat.gcd n.natAbs d.natAbs:Nat):Int)))) (some (enc ((Nat.gcd n.natAbs d.natAbs:Nat):Int))))=some (enc (bif decide (d<0) then -((Nat.gcd n.natAbs d.natAbs:Nat):Int) else ((Nat.gcd n.natAbs d.natAbs:Nat):Int))):=by
  by_cases h:d<0
  ·rw[cw _ _ (by rw[Et];exact h),aA h];rfl
  ·rw[cg _ _ (by rw[Et];exact h),bk h];rfl
 have Fc:((bif decide (d<0) then -((Nat.gcd n.natAbs d.natAbs:Nat):Int) else ((Nat.gcd n.natAbs d.natAbs:Nat):Int))).natAbs<LIM∧(bif decide (d<0) then -((Nat.gcd n.natAbs d.natAbs:Nat):Int) else ((Nat.gcd n.natAbs d.natAbs:Nat):Int))≠0:=by
  cases decide (d<0)
  ·simp only[cond_false];omega
  ·simp only[j5];omega
 rw[R3,ab,G8 hn Fc.1 Fc.2,ab,G8 hd Fc.1 Fc.2,ab,e1,e2]
 rfl
theorem K5 {x:ap}:c6 x (enc 0)=some Ga:=by
 unfold c6
 rw[pH,pH,ab,ab,wW (by decide),ab,ba (by decide),wV,ab]
 cases dX x <;> rfl
theorem E5 {x y:ap}(h:(dX x&&dX y)=false):c6 x y=some Ga:=by
 unfold c6
 rw[pH,pH,ab,ab,wV,ab]
 cases h1:dX x with
 |false=>rfl
 |true=>
  cases h2:dX y with
  |false=>rfl
  |true=>rw[h1,h2] at h;cases h
def Cn(x y:Rat):Option Rat:=
 if (x.num*((y.den / Nat.gcd x.den y.den:Nat):Int)).natAbs<LIM∧(y.num*((x.den / Nat.gcd x.den y.den:Nat):Int)).natAbs<LIM∧(x.num*((y.den / Nat.gcd x.den y.den:Nat):Int)+y.num*((x.den / Nat.gcd x.den y.den:Nat):Int)).natAbs<LIM∧x.den / Nat.gcd x.den y.den*y.den<LIM then some (x+y) else none
def AM(x y:Rat):Option Rat:=if lR (x*y) then some (x*y) else none
theorem KM(x y:Rat):Rat.divInt (x.num*((y.den / Nat.gcd x.den y.den:Nat):Int)+y.num*((x.den / Nat.gcd x.den y.den:Nat):Int)) ((x.den / Nat.gcd x.den y.den*y.den:Nat):Int)=x+y:=by
 have hx:=x.den_pos
 have hy:=y.den_pos
 have hg:0<Nat.gcd x.den y.den:=My _ hx
 obtain⟨p,hp⟩:=Nat.gcd_dvd_left x.den y.den
 obtain⟨q,hq⟩:=Nat.gcd_dvd_right x.den y.den
 have e1:x.den / Nat.gcd x.den y.den=p:=by
                         conv=>lhs;lhs;rw[hp]
                         exact MO _ hg
 have e2:y.den / Nat.gcd x.den y.den=q:=by
                         conv=>lhs;lhs;rw[hq]
                         exact MO _ hg
 rw[e1,e2,Rat.add_def']
 generalize Nat.gcd x.den y.den=g at hg hp hq
 rw[←ME,←Rat.divInt_mul_left (a:=(g:Int)) (by omega)]
 congr 1
 ·rw[Int.mul_add,hp,hq,iJ,iJ,In,In (y.num)]
 ·rw[hp]
  simp only[iJ,Er]
theorem Rj(x y:Rat):Bh (Cn x y):=by
 intro q h
 unfold Cn at h
 split at h
 ·rename_i hc
  obtain⟨_,_,h3,h4⟩:=hc
  injection h with h
  subst h
  rw[←KM]
  refine yE ?_ h3 (by rw[dK];exact h4)
  have hg:0<Nat.gcd x.den y.den:=My _ x.den_pos
  have:=Ex (Bu y.den x.den_pos) hg
  have:=xY this y.den_pos
  omega
 ·cases h
theorem Ri(x y:Rat):Bh (AM x y):=by
 intro q h
 unfold AM at h
 split at h
 ·rename_i hc
  injection h with h
  rw[←h];exact hc
 ·cases h
theorem cross(x y:Rat):(x*y).num=(Rat.divInt x.num y.den).num*(Rat.divInt y.num x.den).num∧(x*y).den=(Rat.divInt x.num y.den).den*(Rat.divInt y.num x.den).den:=by
 have hx:=x.den_pos
 have hy:=y.den_pos
 obtain⟨k,m,hk,hm,Ff,e1,e2⟩:=oe (n:=x.num) (d:=(y.den:Int)) (by omega)
 obtain⟨k',m',vy,hm',hm0',e1',e2'⟩:=oe (n:=y.num) (d:=(x.den:Int)) (by omega)
 rw[rM (by omega),yM] at e1 e2 e1' e2'
 have hxy:x*y=Rat.divInt x.num y.den*Rat.divInt y.num x.den:=by
  rw[Rat.divInt_mul_divInt]
  conv=>lhs;rw[←Rat.num_divInt_den x,←Rat.num_divInt_den y,Rat.divInt_mul_divInt]
  rw[kP (y.den:Int)]
 have hc:Nat.gcd ((Rat.divInt x.num y.den).num*(Rat.divInt y.num x.den).num).natAbs ((Rat.divInt x.num y.den).den*(Rat.divInt y.num x.den).den)=1:=by
  rw[oy]
  have c1:=(Rat.divInt x.num y.den).reduced
  have c2:=(Rat.divInt y.num x.den).reduced
  have d1:(Rat.divInt x.num y.den).num.natAbs ∣ x.num.natAbs:=by
   rw[e1];exact Int.natAbs_dvd_natAbs.2 ⟨_,by rw[kP];exact hk⟩
  have d2:(Rat.divInt y.num x.den).den ∣ x.den:=Int.natCast_dvd_natCast.1 (by rw[e2'];exact⟨_,by rw[kP];exact hm'⟩)
  have d3:(Rat.divInt y.num x.den).num.natAbs ∣ y.num.natAbs:=by
   rw[e1'];exact Int.natAbs_dvd_natAbs.2 ⟨_,by rw[kP];exact vy⟩
  have d4:(Rat.divInt x.num y.den).den ∣ y.den:=Int.natCast_dvd_natCast.1 (by rw[e2];exact⟨_,by rw[kP];exact hm⟩)
  have c3:Nat.Coprime (Rat.divInt x.num y.den).num.natAbs (Rat.divInt y.num x.den).den:=Nat.Coprime.coprime_dvd_left d1 (Nat.Coprime.coprime_dvd_right d2 x.reduced)
  have c4:Nat.Coprime (Rat.divInt y.num x.den).num.natAbs (Rat.divInt x.num y.den).den:=Nat.Coprime.coprime_dvd_left d3 (Nat.Coprime.coprime_dvd_right d4 y.reduced)
  exact Nat.Coprime.mul_left (Nat.Coprime.mul_right c1 c3) (Nat.Coprime.mul_right c4 c2)
 rw[hxy,Rat.num_mul,Rat.den_mul,hc]
 exact⟨by simp,by simp⟩
theorem Bm(q:Rat):(kN q).vN=enc q.num:=rfl
theorem D1(q:Rat):(kN q).vD=enc (q.den:Int):=rfl
theorem Oh(z:Int):(enc z).vBad=decide (¬z.natAbs<LIM):=by
 by_cases h:z.natAbs<LIM
 ·rw[rA h];simp[h]
 ·rw[D0 h];simp[h];rfl
theorem jE {q:Rat}(h:lR q):((q.den:Nat):Int).natAbs<LIM:=by simpa using h.2
theorem G_rMul {x y:Rat}(hx:lR x)(hy:lR y):hJ (kN x) (kN y)=some (Bl (AM x y)):=by
 have hdx:=x.den_pos
 have hdy:=y.den_pos
 obtain⟨c1,c2⟩:=cross x y
 have f1:=yE (n:=x.num) (d:=(y.den:Int)) (by omega) hx.1 (jE hy)
 have f2:=yE (n:=y.num) (d:=(x.den:Int)) (by omega) hy.1 (jE hx)
 unfold hJ
 rw[show aU (kN x)=_ from iD (ui (some x)),show aU (kN y)=_ from iD (ui (some y)),wa hx,wa hy,ab,ab]
 simp only[Br,cY,aH,ab,Bm,D1]
 rw[E6 hx.1 (jE hy) (by omega),ab,E6 hy.1 (jE hx) (by omega),ab]
 simp only[Bm,D1]
 rw[K4 f1.1 f2.1,ab,K4 (jE f1) (jE f2),ab,←c1,←iJ,←c2,Oh,Oh,TC,ab,wV,ab,←Bool.decide_or,fZ]
 unfold AM
 by_cases h:lR (x*y)
 ·obtain⟨h1,h2⟩:=id h
  rw[ah (by rw[dK];omega),ai h];rfl
 ·have h1:¬((x*y).num.natAbs<LIM∧(x*y).den<LIM):=h
  rw[ai (by rw[dK];omega),ah h];rfl
theorem E1 {x y:ao}(hx:okR x)(hy:okR y)(h:((cm x).isSome&&(cm y).isSome)=false):hJ x y=some Ga:=by
 unfold hJ
 rw[iD hx,iD hy,ab,ab,wV,ab]
 cases h1:(cm x).isSome with
 |false=>rfl
 |true=>
  cases h2:(cm y).isSome with
  |false=>rfl
  |true=>rw[h1,h2] at h;cases h
theorem NB {n g:Nat}:((n:Int)).fdiv (g:Int)=((n / g:Nat):Int):=by
 rw[MF _ (Ir _)]
 exact (Mz ..).symm
theorem G_rAdd {x y:Rat}(hx:lR x)(hy:lR y):ia (kN x) (kN y)=some (Bl (Cn x y)):=by
 have hdx:=x.den_pos
 have hdy:=y.den_pos
 have hg:0<Nat.gcd x.den y.den:=My _ hdx
 have NZ:Nat.gcd x.den y.den<LIM:=dM (Bu _ hdx) hx.2
 have hgl':((Nat.gcd x.den y.den:Nat):Int).natAbs<LIM:=by simpa using NZ
 have hp:x.den / Nat.gcd x.den y.den<LIM:=dM (oz _ _) hx.2
 have hq:y.den / Nat.gcd x.den y.den<LIM:=dM (oz _ _) hy.2
 have hp0:0<x.den / Nat.gcd x.den y.den:=Ex (Bu y.den hdx) hg
 have vK:0<x.den / Nat.gcd x.den y.den*y.den:=xY hp0 hdy
 have PG:=KM x y
 unfold ia
 rw[show aU (kN x)=_ from iD (ui (some x)),show aU (kN y)=_ from iD (ui (some y)),wa hx,wa hy,ab,ab]
 simp only[Br,cY,aH,ab,Bm,D1]
 rw[OQ (jE hx) (jE hy),ab,dK,dK,G8 (jE hx) hgl' (by omega),ab,G8 (jE hy) hgl' (by omega),ab,NB,NB,K4 hx.1 (by rw[dK];exact hq),ab,K4 hy.1 (by rw[dK];exact hp),ab,K4 (by rw[dK];exact hp) (jE hy),←iJ]
 unfold Cn
 revert PG
 generalize x.num*((y.den / Nat.gcd x.den y.den:Nat):Int)=z1
 generalize y.num*((x.den / Nat.gcd x.den y.den:Nat):Int)=z2
 revert vK
 generalize x.den / Nat.gcd x.den y.den*y.den=D
 intro vK PG
 have hsum:jd (enc z1) (enc z2)=some (if z1.natAbs<LIM∧z2.natAbs<LIM then enc (z1+z2) else Kv):=by
  by_cases h:z1.natAbs<LIM∧z2.natAbs<LIM
  ·rw[ai h,G_Add h.1 h.2]
  ·rw[ah h,Qd (by rw[ur,ur,←Bool.decide_and];exact bk h)]
 rw[hsum,ab,ab,uz]
 by_cases h:z1.natAbs<LIM∧z2.natAbs<LIM
 ·rw[ai h]
  by_cases h2:(z1+z2).natAbs<LIM∧D<LIM
  ·rw[E6 h2.1 (by rw[dK];exact h2.2) (by omega),PG,ai ⟨h.1,h.2,h2⟩];rfl
  ·rw[E5 (by rw[ur,ur,←Bool.decide_and,dK];exact bk h2),ah fun hh=>h2 hh.2.2];rfl
 ·rw[ah h,E5 (by rw[GJ,uF]),ah fun hh=>h ⟨hh.1,hh.2.1⟩];rfl
theorem E2 {x y:ao}(hx:okR x)(hy:okR y)(h:((cm x).isSome&&(cm y).isSome)=false):ia x y=some Ga:=by
 unfold ia
 rw[iD hx,iD hy,ab,ab,wV,ab]
 cases h1:(cm x).isSome with
 |false=>rfl
 |true=>
  cases h2:(cm y).isSome with
  |false=>rfl
  |true=>rw[h1,h2] at h;cases h
def Hz(a b:Option Rat):Option Rat:=a.bind fun x=>b.bind fun y=>Cn x y
def AS(a b:Option Rat):Option Rat:=a.bind fun x=>b.bind fun y=>AM x y
def Pc(a:Option Rat):Option Rat:=a.map fun x=>-x
def Lz(a:Option Rat):Option Rat:=a.bind fun x=>if x=0 then none else some x⁻¹
def osub(a b:Option Rat):Option Rat:=Hz a (Pc b)
def FI(a b:Option Rat):Option Rat:=AS a (Lz b)
def osgn(a:Option Rat):Int:=match a with|some x=>x.num.sign|none=>0
theorem zI(a b:Option Rat):Bh (Hz a b):=by
 cases a with
 |none=>exact pg
 |some x=>
  cases b with
  |none=>exact pg
  |some y=>exact Rj x y
theorem Do(a b:Option Rat):Bh (AS a b):=by
 cases a with
 |none=>exact pg
 |some x=>
  cases b with
  |none=>exact pg
  |some y=>exact Ri x y
theorem J8 {x:Rat}(h:lR x):lR (-x):=⟨by rw[Rat.neg_num,Int.natAbs_neg];exact h.1,h.2⟩
theorem Dm {a:Option Rat}(h:Bh a):Bh (Pc a):=by
 cases a with
 |none=>exact pg
 |some x=>
  intro q hq
  injection hq with hq
  subst hq
  exact J8 (h x rfl)
theorem S7 {x:Rat}(h:lR x)(h0:x≠0):lR x⁻¹:=by
 have hn:x.num≠0:=fun h=>h0 (Rat.num_eq_zero.1 h)
 refine⟨?_,?_⟩
 ·rw[Rat.num_inv,oy,Int.natAbs_sign,ah hn,eT,dK];exact h.2
 ·rw[Rat.den_inv,ah hn];exact h.1
theorem Ru {a:Option Rat}(h:Bh a):Bh (Lz a):=by
 cases a with
 |none=>exact pg
 |some x=>
  intro q hq
  have hq:(if x=0 then none else some x⁻¹)=some q:=hq
  split at hq
  ·cases hq
  ·rename_i h0
   injection hq with hq
   subst hq
   exact S7 (h x rfl) h0
theorem Rv(a b:Option Rat):Bh (FI a b):=Do _ _
theorem Nb {x y:ao}(hx:okR x)(hy:okR y):ia x y=some (Bl (Hz (cm x) (cm y))):=by
 cases h1:cm x with
 |none=>exact E2 hx hy (by rw[h1];rfl)
 |some p=>
  cases h2:cm y with
  |none=>exact E2 hx hy (by rw[h1,h2];rfl)
  |some q=>
   obtain⟨hp,rfl⟩:=dm.1 h1
   obtain⟨hq,rfl⟩:=dm.1 h2
   exact G_rAdd hp hq
theorem Na {x y:ao}(hx:okR x)(hy:okR y):hJ x y=some (Bl (AS (cm x) (cm y))):=by
 cases h1:cm x with
 |none=>exact E1 hx hy (by rw[h1];rfl)
 |some p=>
  cases h2:cm y with
  |none=>exact E1 hx hy (by rw[h1,h2];rfl)
  |some q=>
   obtain⟨hp,rfl⟩:=dm.1 h1
   obtain⟨hq,rfl⟩:=dm.1 h2
   exact G_rMul hp hq
theorem M9 {x:ao}(hx:okR x):mf x=some (Bl (Pc (cm x))):=by
 unfold mf
 rw[iD hx,ab]
 cases h1:cm x with
 |none=>rw[wV,ab];rfl
 |some p=>
  obtain⟨hp,rfl⟩:=dm.1 h1
  simp only[Br,cY,aH,Bm,D1]
  rw[UU hp.1,ab]
  rfl
theorem G_osub {x y:ao}(hx:okR x)(hy:okR y):sy x y=some (Bl (osub (cm x) (cm y))):=by
 unfold sy
 rw[M9 hy,ab,Nb hx (ui _),ab,Aw (Dm (DX y))]
 rfl
theorem Nd {q:Rat}(hq:lR q):c6 (enc (q.den:Int)) (enc q.num)=some (Bl (Lz (some q))):=by
 by_cases h:q=0
 ·subst h
  show c6 _ (enc 0)=_
  rw[K5];rfl
 ·have hn:q.num≠0:=fun h0=>h (Rat.num_eq_zero.1 h0)
  rw[E6 (jE hq) hq.1 hn,←Rat.inv_def]
  show _=some (Bl (if q=0 then none else some q⁻¹))
  rw[ah h];rfl
theorem G_odiv {x y:ao}(hx:okR x)(hy:okR y):sE x y=some (Bl (FI (cm x) (cm y))):=by
 unfold sE
 rw[iD hy,ab]
 cases h2:cm y with
 |none=>
  rw[wV,ab]
  show some Ga=some (Bl (AS (cm x) none))
  unfold AS
  cases cm x <;> rfl
 |some q=>
  obtain⟨hq,rfl⟩:=dm.1 h2
  simp only[Br,cY,aH,Bm,D1]
  rw[Nd hq,ab,Na hx (ui _),ab,Aw (Ru fun r hr=>by injection hr with hr;subst hr;exact hq)]
  rfl
theorem UO {x:ao}(hx:okR x):kM x=some (osgn (cm x)):=by
 unfold kM
 rw[iD hx,ab]
 cases h1:cm x with
 |none=>rfl
 |some p=>
  obtain⟨hp,rfl⟩:=dm.1 h1
  simp only[Br,cY,aH,Bm]
  rw[wW hp.1,ab]
  rfl
theorem D2(n:Int):Rat.divInt n 1=(n:Rat):=by
 show Rat.divInt n ((1:Nat):Int)=_
 rw[ME]
 exact Rat.mkRat_self (n:Rat)
theorem UM {n:Int}(h:n.natAbs<LIM):m4 (enc n)=some (kN (n:Rat)):=by
 unfold m4
 rw[OL,ab,E6 h (by decide) (by decide),ab,D2]
theorem G_rOf {n:Int}(h1:-9223372036854775808≤n)(h2:n≤9223372036854775807):pf n=some (kN (n:Rat)):=by
 have hL:n.natAbs<LIM:=bG (show n.natAbs<18446744073709551616 by omega) (by decide)
 unfold pf
 rw[Nc h1 h2,ab,UM hL,ab]
section
def lF(n:Nat)(f:Nat→Nat):List Int:=(List.range n).map fun j=>(f j:Int)
section
variable {n m p x k j:Nat} {f g:Nat→Nat}
theorem cD:(lF n f).length=n:=by unfold lF;simp
theorem qh(h:j<n):(lF n f)[j]! =(f j:Int):=by
 unfold lF
 rw[bJ _ j (by simpa using h)]
 simp
theorem uk(h:∀j,j<n→f j=g j):lF n f=lF n g:=by
 unfold lF
 apply rQ
 intro j hj
 rw[h j (by simpa using hj)]
theorem zR:lF n f++[(f n:Int)]=lF (n+1) f:=by
 unfold lF
 rw[wz,jz];rfl
theorem LL:(lF n f).set p (x:Int)=lF n (fun j=>if j=p then x else f j):=by
 apply EG
 ·rw[cU,cD,cD]
 ·intro i h1 h2
  rw[List.getElem_set]
  have h3:i<n:=by rw[cD] at h2;exact h2
  have e1:=qh (f:=fun j=>if j=p then x else f j) h3
  rw[bJ _ i h2] at e1
  rw[e1]
  split
  ·rename_i h;rw[ai h.symm]
  ·rename_i h
   rw[ah (fun e=>h e.symm)]
   have e2:=qh (f:=f) h3
   rw[bJ _ i (by rw[cD];exact h3)] at e2
   exact e2
theorem lF_take(h:m≤n):(lF n f).take m=lF m f:=by
 unfold lF
 rw[←wI,List.take_range,sJ h]
theorem lF_cons:[(x:Int)]++lF n f=lF (n+1) (fun j=>if j=0 then x else f (j - 1)):=by
 unfold lF
 rw[List.range_succ_eq_map,j4,pZ]
 rfl
theorem RL:List.replicate n (0:Int)=lF n (fun _=>0):=by
 unfold lF
 induction n with
 |zero=>rfl
 |succ n ih=>rw[List.replicate_succ',ih,wz,jz];rfl
end
abbrev dk(n A:Nat):List Int:=lF n (dg 65536 A)
theorem kO {A j:Nat}:dg 65536 A j<65536:=Tl (by decide)
theorem QQ(A:Nat):∃n,szp 65536 A n:=by
 induction A using Nat.strongRecOn with
 |_ A ih=>
  by_cases h:A=0
  ·subst h;exact⟨0,by decide,fun h=>by omega⟩
  ·obtain⟨n,h1,h2⟩:=ih (A / 65536) (by omega)
   refine⟨n+1,?_,fun _=>?_⟩
   ·rw[cy];exact (lz (by decide)).1 h1
   ·rw[uH]
    cases n with
    |zero=>rw[fO];omega
    |succ n=>
     have:=h2 (by omega)
     rw[uH] at this
     rw[cy]
     exact (pm (by decide)).1 this
def sz6(A:Nat):Nat:=Classical.choose (QQ A)
theorem zu(A:Nat):szp 65536 A (sz6 A):=Io (QQ A)
theorem jF(A:Nat):A<65536 ^ sz6 A:=(zu A).1
theorem qY {A n:Nat}(h:A<65536 ^ n):sz6 A≤n:=Lk (by decide) (zu A) h
theorem Ll {A n:Nat}(h:szp 65536 A n):n=sz6 A:=QP (by decide) h (zu A)
theorem C8:sz6 0=0:=(Ll ⟨by decide,fun h=>by omega⟩).symm
theorem CC {A:Nat}(h:0<A):0<sz6 A:=by
 rcases rJ (sz6 A) with h1|h1
 ·have:=jF A
  rw[h1,fO] at this;omega
 ·exact h1
noncomputable abbrev dl(A:Nat):List Int:=dk (sz6 A) A
theorem Mn(A:Nat):(dl A).length=sz6 A:=cD
theorem dl_zero:dl 0=[]:=by unfold dl;rw[C8];rfl
theorem Mm {A:Nat}:(dl A).length=0↔A=0:=by
 rw[Mn]
 constructor
 ·intro h
  rcases rJ A with h1|h1
  ·exact h1
  ·have:=CC h1;omega
 ·rintro rfl;exact C8
theorem uS {n A k:Nat}(hA:A<65536 ^ n):dp (dk n A) (k:Int)=some ((dg 65536 A k:Nat):Int):=by
 unfold dp
 rw[cD]
 by_cases h:k<n
 ·rw[cw _ _,aC,bP,qh h]
 ·rw[cg _ _,lN (bG hA (gY (by decide) (by omega)))];rfl
theorem yX {n A:Nat}(hA:A<65536 ^ n)(hn:n<1000000):e9 (dk n A)=some (dl A):=by
 obtain⟨x,hl,hx⟩:=u9 (b:=kX (dk n A)) (fun s=>∃k:Nat,s=(k:Int)∧k≤n∧A<65536 ^ k) (fun s=>s.toNat) (fun x=>x=((sz6 A:Nat):Int))
  (by
   rintro s ⟨k,rfl,hk,bH⟩
   cases k with
   |zero=>
    right
    refine⟨((0:Nat):Int),?_,?_⟩
    ·dsimp only[kX]
     rw[cg _ _,ab,aH]
    ·show ((0:Nat):Int)=_
     rw[←Ll ⟨bH,fun h=>by omega⟩]
   |succ k=>
    have e:i64.wrap (((k+1:Nat):Int) - 1)=(k:Int):=by rw[bV];omega
    dsimp only[kX]
    rw[cw _ _,e,cD,aC,ab,bP,qh (by omega),fZ]
    by_cases hd:dg 65536 A k=0
    ·left
     refine⟨(k:Int),by rw[ai (by omega)],⟨k,rfl,by omega,?_⟩,by omega⟩
     unfold dg at hd
     have h1:A / 65536 ^ k<65536:=by
      rw[lz (bL (by decide)),bx,←cy];exact bH
     rw[ej h1] at hd
     exact (Ix (bL (by decide))).1 hd
    ·right
     refine⟨((k+1:Nat):Int),by rw[ah (by omega)],?_⟩
     show ((k+1:Nat):Int)=_
     rw[Ll (A:=A) ⟨bH,fun _=>?_⟩]
     rcases d6 A (65536 ^ k) with h|h
     ·exact absurd (lN h) hd
     ·exact h) (n:Int) ⟨n,rfl,ay _,hA⟩
 unfold e9
 have hs:=qY hA
 rw[cD,hl,hx,ab,aC,subL_to _ _ (by omega),bP,lF_take hs]
theorem pmax {n m A B:Nat}(hA:A<65536 ^ n)(hB:B<65536 ^ m):A<65536 ^ max n m∧B<65536 ^ max n m:=
 ⟨bG hA (gY (by decide) (Nat.le_max_left ..)),bG hB (gY (by decide) (Ox ..))⟩
theorem Dt(n m:Nat):max (n:Int) (m:Int)=((max n m:Nat):Int):=by omega
theorem OM {n m A B:Nat}(hA:A<65536 ^ n)(hB:B<65536 ^ m)(hn:n<100000)(hm:m<100000):kK (dk n A) (dk m B)=some (dl (A+B)):=by
 have hM:max n m<100000:=by omega
 obtain⟨Oc,hB'⟩:=pmax hA hB
 have hl:=rk (b:=jS (dk n A) (dk m B)) (s0:=(([]:List Int),(0:Int),(0:Int))) (fun k=>(dk k (A+B),(((A % 65536 ^ k+B % 65536 ^ k) / 65536 ^ k:Nat):Int),(k:Int))) (max n m+1) (dk (max n m+1) (A+B))
  (by simp only[fO,mT];rfl)
  (fun k hk=>by
   have hc:=oh (b:=65536) (A:=A) (B:=B) (k:=k) (by decide)
   obtain⟨h1,h2⟩:=pp (b:=65536) (A:=A) (B:=B) (k:=k) (by decide)
   have ha:=@kO A k
   have hb:=@kO B k
   have hc':=oh (b:=65536) (A:=A) (B:=B) (k:=k+1) (by decide)
   generalize (A % 65536 ^ k+B % 65536 ^ k) / 65536 ^ k=c at h1 h2 hc ⊢
   generalize (A % 65536 ^ (k+1)+B % 65536 ^ (k+1)) / 65536 ^ (k+1)=c' at h2 hc' ⊢
   dsimp only[jS]
   rw[cD,cD,Dt,bV,cw _ _,uS hA,ab,uS hB,ab,bV (z:=(dg 65536 A k:Int)+(dg 65536 B k:Int)) (by omega),bV,ab,←j6,←j6,show (65536:Int)=((65536:Nat):Int) from rfl,←s7,←s8,p6 (dg 65536 A k+dg 65536 B k),←xz,h1,h2,zR,cD,aC,bV (z:=(c':Int)) (by omega),bV]
   rfl)
  (by
   dsimp only[jS]
   rw[cD,cD,Dt,bV,cg _ _])
 unfold kK
 have:A+B<65536 ^ (max n m+1):=by rw[cy];omega
 rw[hl,ab,yX this (by omega),ab]
theorem K2 {n m A B:Nat}(hA:A<65536 ^ n)(hB:B<65536 ^ m)(hn:n<100000)(hBA:B≤A):g9 (dk n A) (dk m B)=some (dl (A - B)):=by
 obtain⟨D,rfl⟩:∃D,A=D+B:=⟨A - B,by omega⟩
 rw[uH]
 have hl:=rk (b:=jg (dk n (D+B)) (dk m B)) (s0:=(([]:List Int),(0:Int),(0:Int))) (fun k=>(dk k D,(((D % 65536 ^ k+B % 65536 ^ k) / 65536 ^ k:Nat):Int),(k:Int))) n (dk n D)
  (by simp only[fO,mT];rfl)
  (fun k hk=>by
   have hc:=oh (b:=65536) (A:=D) (B:=B) (k:=k) (by decide)
   have hc':=oh (b:=65536) (A:=D) (B:=B) (k:=k+1) (by decide)
   obtain⟨h1,h2⟩:=pp (b:=65536) (A:=D) (B:=B) (k:=k) (by decide)
   have ha:=@kO D k
   have hb:=@kO B k
   have hd:=@kO (D+B) k
   generalize hq:(D % 65536 ^ k+B % 65536 ^ k) / 65536 ^ k=c at h1 h2 hc ⊢
   generalize (D % 65536 ^ (k+1)+B % 65536 ^ (k+1)) / 65536 ^ (k+1)=c' at h2 hc' ⊢
   dsimp only[jg]
   rw[cD,cw _ _,aC,uS hB,ab,bP,qh hk,bV (z:=(dg 65536 (D+B) k:Int) - (dg 65536 B k:Int)) (by omega),bV,ab]
   by_cases hn0:(dg 65536 (D+B) k:Int) - (dg 65536 B k:Int) - (c:Int)<0
   ·obtain rfl:c'=1:=by omega
    rw[cw _ _ hn0,ab,bV]
    dsimp only
    rw[show (dg 65536 (D+B) k:Int) - (dg 65536 B k:Int) - (c:Int)+65536=(dg 65536 D k:Int) from by omega,zR,cD,aC,bV]
    rfl
   ·obtain rfl:c'=0:=by omega
    rw[cg _ _ hn0,ab]
    dsimp only
    rw[show (dg 65536 (D+B) k:Int) - (dg 65536 B k:Int) - (c:Int)=(dg 65536 D k:Int) from by omega,zR,cD,aC,bV]
    rfl)
  (by
   dsimp only[jg]
   rw[cD,cg _ _])
 unfold g9
 rw[hl,ab,yX (by omega) (by omega),ab]
theorem zO {A B k:Nat}(he:A / 65536 ^ (k+1)=B / 65536 ^ (k+1))(h:dg 65536 A k<dg 65536 B k):A<B:=by
 have e1:=cr (b:=65536) (A:=A) (k:=k)
 have e2:=cr (b:=65536) (A:=B) (k:=k)
 have h1:A / 65536 ^ k<B / 65536 ^ k:=by
  rw[e1,e2,he];exact EC h _
 rcases d6 A B with h2|h2
 ·exact h2
 ·exact absurd (MR h2) (Nat.not_le.2 h1)
theorem G_dless {n m A B:Nat}(hA:A<65536 ^ n)(hB:B<65536 ^ m)(hn:n<100000)(hm:m<100000):mw (dk n A) (dk m B)=some (decide (A<B)):=by
 obtain⟨Oc,hB'⟩:=pmax hA hB
 obtain⟨x,hl,hx⟩:=u9 (b:=kY (dk n A) (dk m B)) (fun s=>∃k:Nat,s=(k:Int) - 1∧k≤max n m∧A / 65536 ^ k=B / 65536 ^ k) (fun s=>(s+1).toNat) (fun x=>match x with| .inl r=>r=decide (A<B)| .inr _=>A=B)
  (by
   rintro s ⟨k,rfl,hk,he⟩
   cases k with
   |zero=>
    right
    refine⟨(Sum.inr ():Bool⊕Unit),?_,?_⟩
    ·dsimp only[kY]
     rw[cg _ _]
    ·simpa using he
   |succ k=>
    have e:((k+1:Nat):Int) - 1=(k:Int):=by omega
    rw[e]
    dsimp only[kY]
    rw[cw _ _,uS hA,ab,uS hB,ab]
    by_cases hd:dg 65536 A k=dg 65536 B k
    ·left
     refine⟨(k:Int) - 1,?_,⟨k,rfl,by omega,?_⟩,by omega⟩
     ·rw[cg _ _ (by rw[hd];simp),bV]
     ·rw[cr (b:=65536) (A:=A) (k:=k),cr (b:=65536) (A:=B) (k:=k),he,hd]
    ·right
     refine⟨(Sum.inl (decide (A<B)):Bool⊕Unit),?_,rfl⟩
     rw[cw _ _,ab,ab]
     congr 3
     refine kR.2 ?_
     rcases Nat.lt_or_gt_of_ne hd with h|h
     ·have:=zO he h
      exact⟨fun _=>this,fun _=>by omega⟩
     ·have:=zO he.symm h
      exact⟨fun h'=>by omega,fun h'=>by omega⟩) (((max n m:Nat):Int) - 1) ⟨max n m,rfl,ay _,by rw[eu Oc,eu hB']⟩
 unfold mw
 rw[cD,cD,Dt,bV,ab,hl,ab]
 cases x with
 |inl r=>obtain rfl:r=_:=hx;rfl
 |inr u=>
  obtain rfl:A=B:=hx
  simp
section
variable {b:Nat} {f g:Nat→Nat}
theorem Jo:∀n,(∀j,j<n→f j=g j)→gq b f n=gq b g n
 |0,_=>rfl
 |n+1,h=>by
  unfold gq
  rw[Jo n fun j hj=>h j (by omega),h n (by omega)]
theorem Jm {q x:Nat}:∀n,q<n→gq b (fun j=>if j=q then f j+x else f j) n=gq b f n+x*b ^ q
 |0,h=>by omega
 |n+1,h=>by
  unfold gq
  by_cases hq:q=n
  ·subst hq
   rw[ai rfl,Jo q (g:=f) fun j hj=>ah (by omega),bU];omega
  ·rw[ah (by omega),Jm n (by omega)];omega
theorem Nk {A:Nat}:∀n,gq b (dg b A) n=A % b ^ n
 |0=>by simp[gq,mT]
 |n+1=>by
  unfold gq
  rw[Nk n,gQ,bx]
theorem Jn(k:Nat):∀n,k≤n→gq b f n % b ^ k=gq b f k % b ^ k
 |0,h=>by
  obtain rfl:k=0:=by omega
  rfl
 |n+1,h=>by
  by_cases hk:k=n+1
  ·rw[hk]
  ·have vy:k≤n:=by omega
   obtain⟨d,rfl⟩:∃d,n=k+d:=⟨n - k,by omega⟩
   rw[←Jn k (k+d) vy]
   show (gq b f (k+d)+f (k+d)*b ^ (k+d)) % b ^ k=_
   rw[gX,yP,BA]
theorem Nj {M:Nat}(hb:2≤b):∀n,(∀j,j<n→f j≤M)→gq b f n≤M*b ^ n
 |0,_=>by simp[gq]
 |n+1,h=>by
  have ih:=Nj hb n fun j hj=>h j (by omega)
  have h1:f n*b ^ n≤M*b ^ n:=cG _ (h n (by omega))
  have h2:M*b ^ n*2≤M*b ^ n*b:=Ad _ hb
  unfold gq
  rw[cy,←eS]
  omega
theorem Pd {n k:Nat}(hb:0<b)(hk:k<n):(gq b f k / b ^ k+f k) % b=dg b (gq b f n) k∧(gq b f k / b ^ k+f k) / b=gq b f (k+1) / b ^ (k+1):=by
 have hp:0<b ^ k:=bL hb
 have e:gq b f (k+1) / b ^ k=gq b f k / b ^ k+f k:=by
  show (gq b f k+f k*b ^ k) / b ^ k=_
  rw[Mx _ _ hp]
 refine⟨?_,?_⟩
 ·rw[←e,←nt (A:=gq b f n) (k:=k+1) (eo _),Jn (k+1) n hk,nt (eo _)]
  rfl
 ·rw[←e,gP,←cy]
end
theorem O1 {n m A B i:Nat}(hi:i<n)(hn:n<1000)(hm:m<1000)(hB:B<65536 ^ m){R:Nat}(hR:R<65536 ^ (n+m+1)):
  ∃f:Nat→Nat,bt (jf (dk n A) (dk m B) (i:Int)) ((0:Int),dk (n+m+1) R)=some (lF (n+m+1) f)∧gq 65536 f (n+m+1)=R+dg 65536 A i*B*65536 ^ i∧∀j,f j≤65535+65535*65535:=by
 have ha:=@kO A i
 have eP:i64.wrap ((i64.wrap (((dk n A).length:Int)+((dk m B).length:Int)))+(1:Int))=((n+m+1:Nat):Int):=by
  rw[cD,cD,bV (z:=(n:Int)+(m:Int)) (by omega),bV];omega
 obtain⟨x,hl,f,rfl,h1,h2⟩:=u9 (b:=jf (dk n A) (dk m B) (i:Int)) (fun s=>∃(k:Nat) (f:Nat→Nat),s=((k:Int),lF (n+m+1) f)∧k≤m∧gq 65536 f (n+m+1)=R+dg 65536 A i*(B % 65536 ^ k)*65536 ^ i∧(∀j,f j≤65535+65535*65535)∧∀j,i+k≤j→f j≤65535) (fun s=>m - s.1.toNat)
  (fun x=>∃f:Nat→Nat,x=lF (n+m+1) f∧gq 65536 f (n+m+1)=R+dg 65536 A i*B*65536 ^ i∧∀j,f j≤65535+65535*65535)
  (by
   rintro s ⟨k,f,rfl,hk,hv,hf,Cs⟩
   dsimp only[jf]
   rw[eP,bP,cD,cD,cD]
   by_cases hkm:k<m
   ·left
    have eik:i64.wrap ((i:Int)+(k:Int))=((i+k:Nat):Int):=by rw[bV];omega
    have hb:=@kO B k
    have Fl:dg 65536 A i*dg 65536 B k≤65535*65535:=kS (by omega) (by omega)
    have hfk:=Cs (i+k) (ay _)
    rw[cw _ _,eik,aC,aC,aC,aC,ab,bP,bP,bP,qh (by omega),qh hi,qh hkm,←iJ,bV (z:=((dg 65536 A i*dg 65536 B k:Nat):Int)) (by omega),←j6,bV (z:=((f (i+k)+dg 65536 A i*dg 65536 B k:Nat):Int)) (by omega),LL,bV]
    have e:lF (n+m+1) (fun j=>if j=i+k then f (i+k)+dg 65536 A i*dg 65536 B k else f j)=lF (n+m+1) (fun j=>if j=i+k then f j+dg 65536 A i*dg 65536 B k else f j):=uk fun j _=>by
     by_cases h:j=i+k
     ·rw[ai h,ai h,h]
     ·rw[ah h,ah h]
    refine⟨_,rfl,⟨k+1,(fun j=>if j=i+k then f j+dg 65536 A i*dg 65536 B k else f j),by rw[e];rfl,by omega,?_,fun j=>?_,fun j hj=>?_⟩,by show m - ((k:Int)+1).toNat<m - (k:Int).toNat;omega⟩
    ·rw[Jm _ (by omega),hv,gQ,uI,bU,gX]
     simp only[eS,yP,bx,xz]
    ·dsimp only
     by_cases h:j=i+k
     ·rw[ai h,h];omega
     ·rw[ah h];exact hf j
    ·dsimp only
     rw[ah (by omega)];exact Cs j (by omega)
   ·right
    obtain rfl:k=m:=by omega
    refine⟨_,by rw[cg _ _],f,rfl,?_,hf⟩
    rw[hv,ej hB])
  ((0:Int),dk (n+m+1) R) ⟨0,dg 65536 R,rfl,cl _,by rw[Nk,fO,mT,Nat.mul_zero,gv,ej hR,iB],fun j=>by have:=@kO R j;omega,fun j _=>by have:=@kO R j;omega⟩
 exact⟨f,hl,h1,h2⟩
theorem Lj {n m A B:Nat}(hn:n<1000)(hm:m<1000){f:Nat→Nat}(hf:∀j,f j≤65535+65535*65535):
  bt (gu (dk n A) (dk m B)) ((0:Int),(0:Int),lF (n+m+1) f)=some (dk (n+m+1) (gq 65536 f (n+m+1))):=by
 have eP:i64.wrap ((i64.wrap (((dk n A).length:Int)+((dk m B).length:Int)))+(1:Int))=((n+m+1:Nat):Int):=by
  rw[cD,cD,bV (z:=(n:Int)+(m:Int)) (by omega),bV];omega
 have hl:=rk (b:=gu (dk n A) (dk m B)) (s0:=((0:Int),(0:Int),lF (n+m+1) f)) (fun k=>(((gq 65536 f k / 65536 ^ k:Nat):Int),(k:Int),lF (n+m+1) (fun j=>if j<k then dg 65536 (gq 65536 f (n+m+1)) j else f j))) (n+m+1) (lF (n+m+1) (fun j=>if j<n+m+1 then dg 65536 (gq 65536 f (n+m+1)) j else f j))
  (by
   rw[show gq 65536 f 0 / 65536 ^ 0=0 from by simp[gq],uk (n:=n+m+1) (f:=fun j=>if j<0 then dg 65536 (gq 65536 f (n+m+1)) j else f j) (g:=f) fun j _=>ah (by omega)]
   rfl)
  (fun k hk=>by
   obtain⟨h1,h2⟩:=Pd (b:=65536) (f:=f) (n:=n+m+1) (k:=k) (by decide) hk
   have hc:gq 65536 f k / 65536 ^ k≤65535+65535*65535:=by
    have:=Nj (b:=65536) (f:=f) (by decide) k fun j _=>hf j
    exact Nat.div_le_of_le_mul (by rw[bx];exact this)
   have hfk:=hf k
   generalize gq 65536 f k / 65536 ^ k=c at h1 h2 hc ⊢
   generalize gq 65536 f (k+1) / 65536 ^ (k+1)=c' at h2 ⊢
   dsimp only[gu]
   rw[eP,bP,cD,cw _ _,aC,ab,aC,bP,qh hk,ah (pl _),←j6,p6 (f k),bV (z:=((c+f k:Nat):Int)) (by omega),show (65536:Int)=((65536:Nat):Int) from rfl,←s7,←s8,h1,h2,bV (z:=(c':Int)) (by omega),bV,LL]
   have e:lF (n+m+1) (fun j=>if j=k then dg 65536 (gq 65536 f (n+m+1)) k else if j<k then dg 65536 (gq 65536 f (n+m+1)) j else f j)=lF (n+m+1) (fun j=>if j<k+1 then dg 65536 (gq 65536 f (n+m+1)) j else f j):=uk fun j _=>by
    by_cases h:j=k
    ·rw[ai h,ai (by omega),h]
    ·rw[ah h]
     by_cases h3:j<k
     ·rw[ai h3,ai (by omega)]
     ·rw[ah h3,ah (by omega)]
   rw[e]
   rfl)
  (by
   dsimp only[gu]
   rw[eP,bP,cg _ _])
 rw[hl]
 congr 1
 exact uk fun j hj=>ai hj
theorem UR {n m A B:Nat}(hA:A<65536 ^ n)(hB:B<65536 ^ m)(hn:n<1000)(hm:m<1000):ln (dk n A) (dk m B)=some (dl (A*B)):=by
 have eP:i64.wrap ((i64.wrap (((dk n A).length:Int)+((dk m B).length:Int)))+(1:Int))=((n+m+1:Nat):Int):=by
  rw[cD,cD,bV (z:=(n:Int)+(m:Int)) (by omega),bV];omega
 have hbnd:∀i,A % 65536 ^ i*B<65536 ^ (n+m+1):=fun i=>by
  have h1:A % 65536 ^ i*B≤A*B:=cG _ (Nat.mod_le _ _)
  have h2:A*B<65536 ^ n*65536 ^ m:=By hA hB
  have h3:65536 ^ n*65536 ^ m≤65536 ^ (n+m+1):=by rw[←gX];exact gY (by decide) (by omega)
  omega
 have hl:=rk (b:=jR (dk n A) (dk m B)) (s0:=((0:Int),List.replicate (n+m+1) (0:Int))) (fun i=>((i:Int),dk (n+m+1) (A % 65536 ^ i*B))) n (dk (n+m+1) (A % 65536 ^ n*B))
  (by
   rw[RL,fO,mT,gv]
   have:dk (n+m+1) 0=lF (n+m+1) (fun _=>0):=uk fun j _=>by unfold dg;simp
   rw[this];rfl)
  (fun i hi=>by
   obtain⟨f,h1,h2,h3⟩:=O1 (A:=A) (i:=i) hi hn hm hB (hbnd i)
   dsimp only[jR]
   rw[cD,cw _ _,h1,ab,Lj hn hm h3,ab,h2,bV,gQ,bU]
   have:65536 ^ i*dg 65536 A i*B=dg 65536 A i*B*65536 ^ i:=by simp only[eS,yP,bx]
   rw[this]
   rfl)
  (by
   dsimp only[jR]
   rw[cD,cg _ _])
 unfold ln
 rw[eP,aC,bP,hl,ab,cD,aC rfl,ej hA,yX (by have:=hbnd n;rwa[ej hA] at this) (by omega),ab]
end
end
end Go.Proofs.YtaedcknhkjpmlaaGreat
