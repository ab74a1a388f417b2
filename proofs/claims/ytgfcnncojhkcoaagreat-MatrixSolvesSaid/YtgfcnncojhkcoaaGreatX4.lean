/-
  Lemmas, part 4. Conditions: none.
-/
import Derived.Test.YtgfcnncojhkcoaaGreatX3
set_option linter.all false
set_option maxRecDepth 100000
set_option maxHeartbeats 4000000
namespace Go.Proofs.YtgfcnncojhkcoaaGreat
open Go.RowKit Go.IntKind Tryz
noncomputable section
def j6(bm:ay):Bool×Int→Option ((Bool×Int)⊕Bool):=fun (aL,a6)=>cnd (decide (a6<(16:Int))) (bnd (S:=Bool) (cnd aL (gd (0≤a6∧a6<16) (some (decide (((bm.vW)[(a6).toNat]!)=(0:Int))))) (some (false))) fun aK=>some (.inl (aK,i64.wrap (a6+(1:Int))))) (some (.inr aL))
def qb(bm:ay):Option Bool:=bnd (bf (j6 bm) (true,(0:Int))) fun aD=>cnd bm.vBad (bnd (S:=Bool) (cnd aD (some (!bm.vNeg)) (some (false))) fun cD=>some cD) (bnd (S:=Bool) (cnd (!aD) (some (true)) (some (!bm.vNeg))) fun ez=>some ez)
theorem DP {bm:ay}{r:Bool}(h:qb bm=some r):aB prog 152 [dG an bm] (dB r):=by
 refine bC (rs:=[.tmp 2]) (fun cx hx h0=>?_) func152
 unfold qb at h
 iterate 2 refine ra hx ?_
 refine AW.seq (ra hx ?_)
 refine AW.block ?_
 obtain⟨aD,hy,h⟩:=ah h
 refine lp (S:=Bool×Int) (X:=Bool) (fun (aL,a6)=>[(1,.pt 0 0),(3,dB aL),(4,dI .i64 a6)]) (fun (aL,a6)=>⟨[(0,dC (an.f bm))],[],1⟩) (PE cx (.exit 0) (fun aD=>[(1,.pt 0 0),(3,dB aD)]) fun aD=>⟨[(0,dC (an.f bm))],[],1⟩) hy ?_ ?_ ?_
 exact wk0 h0 [0]
 clear hy h
 rintro⟨aL,a6⟩ y h
 dsimp only[j6] at h
 refine AW.seq (ra hx ?_)
 refine cdh h rfl (fun cE h=>?_) (fun cE h=>?_)
 refine AW.skip (AW.seq ?_)
 obtain⟨aK,hy,h⟩:=ah h
 refine jn ((PE cx .normal (fun aK=>[(1,.pt 0 0),(3,dB aK),(4,dI .i64 a6)]) fun aK=>⟨[(0,dC (an.f bm))],[],1⟩) aK) ?_ ?_
 replace h:=hy
 refine AW.block (rq hx fun K hK=>?_)
 refine mbi ?_
 rcases cnd_s h with⟨mm,h⟩|⟨mm,h⟩
 iterate 2 refine ga mm ?_
 obtain⟨Pb,h⟩:=az h
 refine nbi hK ?_
 exact pe1 h h0 [0]
 refine nbi hK ?_
 exact pe1 h h0 [0]
 refine lw0 ?_
 refine rb hx ?_
 exact pel h h0 [0]
 exact AW.exit (per h h0 [0])
 refine lw0 ?_
 refine AW.seq (rai hx ?_)
 refine cdh h rfl (fun nh h=>?_) (fun nh h=>?_)
 refine AW.seq ?_
 obtain⟨cD,hy,h⟩:=ah h
 refine jn ((PE cx .normal (fun cD=>[(2,dB cD)]) fun cD=>⟨[],[],0⟩) cD) ?_ ?_
 replace h:=hy
 refine rq hx fun K hK=>?_
 refine mbi ?_
 rcases cnd_s h with⟨py,h⟩|⟨py,h⟩
 refine nbi hK ?_
 exact pe1 h h0 []
 refine nbi hK ?_
 exact pe1 h h0 []
 refine lw0 ?_
 exact AW.ret (rtv h)
 refine AW.skip (AW.seq ?_)
 obtain⟨ez,hy,h⟩:=ah h
 refine jn ((PE cx .normal (fun ez=>[(2,dB ez)]) fun ez=>⟨[],[],0⟩) ez) ?_ ?_
 replace h:=hy
 refine rq hx fun K hK=>?_
 refine mbi ?_
 rcases cnd_s h with⟨eH,h⟩|⟨eH,h⟩
 refine nbi hK ?_
 exact pe1 h h0 []
 refine nbi hK ?_
 exact pe1 h h0 []
 refine lw0 ?_
 exact AW.ret (rtv h)
def bK(bm:ay):Option Bool:=bnd (qb bm) fun x1=>bnd (S:=Bool) (cnd x1 (some (!bm.vBad)) (some (false))) fun jy=>some jy
theorem c8 {bm:ay}{r:Bool}(h:bK bm=some r):aB prog 118 [dG an bm] (dB r):=by
 refine bC (rs:=[.tmp 2]) (fun cx hx h0=>?_) func118
 unfold bK at h
 refine ra hx ?_
 refine rs hx fun K hK=>?_
 refine mbi ?_
 refine scb h DP fun x1 h=>?_
 refine nbi hK ?_
 refine AW.seq ?_
 obtain⟨jy,hy,h⟩:=ah h
 refine jn ((PE cx .normal (fun jy=>[(2,dB jy)]) fun jy=>⟨[],[],0⟩) jy) ?_ ?_
 replace h:=hy
 refine rq hx fun K hK=>?_
 refine mbi ?_
 rcases cnd_s h with⟨a8,h⟩|⟨a8,h⟩
 refine nbi hK ?_
 exact pe1 h h0 []
 refine nbi hK ?_
 exact pe1 h h0 []
 refine lw0 ?_
 exact AW.ret (rtv h)
def mV(bm:ay):Int→Option (Int⊕((Int×Bool)⊕Unit)):=fun aK=>cnd (decide (aK<(16:Int))) (gd (0≤aK∧aK<16) (cnd (decide (((bm.vW)[(aK).toNat]!)≠(0:Int))) (some (.inr (.inl ((0:Int),false)))) (some (.inl (i64.wrap (aK+(1:Int))))))) (some (.inr (.inr ())))
def dq(bm:ay):Option (Int×Bool):=bnd (bK bm) fun x1=>bnd (S:=Bool) (cnd (!x1) (some (true)) (some (decide ((1073741824:Int)≤((bm.vW)[((1:Int)).toNat]!))))) fun be=>cnd be (some ((0:Int),false)) (bnd (bf (mV bm) (2:Int)) fun y11=>match y11 with| .inl r=>some r| .inr ()=>bnd (some (i64.wrap ((i64.wrap ((i64.wrap ((bm.vW)[((1:Int)).toNat]!))*(4294967296:Int)))+(i64.wrap ((bm.vW)[((0:Int)).toNat]!))))) fun og=>cnd bm.vNeg (some (i64.wrap (0 - og),true)) (some (og,true)))
theorem i3 {bm:ay}{r:Int×Bool}(h:dq bm=some r):aB prog 149 [dG an bm] (.tu [dI .i64 r.1,dB r.2]):=by
 refine bC (rs:=[.tmp 2,.tmp 3]) (fun cx hx h0=>?_) func149
 unfold dq at h
 refine ra hx ?_
 refine rs hx fun K hK=>?_
 refine mbi ?_
 refine scb h c8 fun x1 h=>?_
 refine nbi hK ?_
 iterate 2 refine AW.seq ?_
 obtain⟨be,hy,h⟩:=ah h
 refine jn ((PE cx .normal (fun be=>[(1,.pt 0 0),(16,dB be)]) fun be=>⟨[(0,dC (an.f bm))],[],1⟩) be) ?_ ?_
 replace h:=hy
 refine rq hx fun K hK=>?_
 refine mbi ?_
 rcases cnd_s h with⟨a8,h⟩|⟨a8,h⟩
 refine nbi hK ?_
 exact pe1 h h0 [0]
 refine ga a8 ?_
 refine g1 a8 (c7 (by decide:0≤(1:Int)∧(1:Int)<((16:Nat):Int)) aH aP) ?_
 refine nbi hK ?_
 exact pe1 h h0 [0]
 refine lw0 ?_
 refine cdh h rfl (fun bU h=>?_) (fun bU h=>?_)
 refine ra hx ?_
 refine AW.ret ?_
 cases h
 exact rv2
 refine AW.skip (AW.seq (ra hx ?_))
 refine AW.block ?_
 obtain⟨y,hy,h⟩:=ah h
 refine lp (S:=Int) (X:=(Int×Bool)⊕Unit) (fun aK=>[(1,.pt 0 0),(5,dI .i64 aK)]) (fun aK=>⟨[(0,dC (an.f bm))],[],1⟩) (PS (PR [.tmp 2,.tmp 3] fun r=>.tu [dI .i64 r.1,dB r.2]) (PE cx (.exit 0) (fun ()=>[(1,.pt 0 0)]) fun ()=>⟨[(0,dC (an.f bm))],[],1⟩)) hy ?_ ?_ ?_
 exact wk0 h0 [0]
 clear hy h
 rintro aK y h
 dsimp only[mV] at h
 refine AW.seq (ra hx ?_)
 refine cdh h rfl (fun nh h=>?_) (fun nh h=>?_)
 refine AW.skip (AW.seq (AW.block (rs hx fun K hK=>?_)))
 iterate 2 refine sa ?_
 obtain⟨FM,h⟩:=az h
 refine nbi hK ?_
 refine cdh h rfl (fun eH h=>?_) (fun eH h=>?_)
 refine ra hx ?_
 refine AW.ret ?_
 cases h
 refine PS.r ⟨by nofun,PS.l (PR.i ?_)⟩
 exact rv2
 refine AW.skip (rb hx ?_)
 exact pel h h0 [0]
 exact AW.exit (peq h h0 [0])
 rcases y with r|⟨⟩
 rintro ex tm' hp' ⟨rfl,hw⟩
 cases h
 exact hw
 refine lwr ?_
 refine rs hx fun K hK=>?_
 refine sa ?_
 refine s1 (c7 (by decide:0≤(1:Int)∧(1:Int)<((16:Nat):Int)) aH aP) ?_
 iterate 4 refine sbi ?_
 refine s1 (c7 (by decide:0≤(0:Int)∧(0:Int)<((16:Nat):Int)) aH aP) ?_
 iterate 3 refine sbi ?_
 obtain⟨og,zW,h⟩:=ah h
 replace zW:=cP zW
 refine s2 (d2:=dI .i64 og) l9 (gv (congrArg (dI .i64) zW)) ?_
 refine nl hK ?_
 refine AW.seq (rai hx ?_)
 refine cdh h rfl (fun FT h=>?_) (fun FT h=>?_)
 refine ra hx ?_
 refine AW.ret ?_
 cases h
 exact rv2
 refine AW.skip (ra hx ?_)
 refine AW.ret ?_
 cases h
 exact rv2
def lI(gQ:List Int):Int→Option (Int⊕Int):=fun be=>bnd (S:=Bool) (cnd (decide ((0:Int)<be)) (gd (0≤i64.wrap (be - (1:Int))∧i64.wrap (be - (1:Int))<((gQ).length:Int)) (some (decide (((gQ)[(i64.wrap (be - (1:Int))).toNat]!)=(0:Int))))) (some (false))) fun oe=>cnd oe (some (.inl (i64.wrap (be - (1:Int))))) (some (.inr be))
def fQ(gQ:List Int):Option (List Int):=bnd (bf (lI gQ) ((gQ).length:Int)) fun pb=>gd (0≤(0:Int)∧(0:Int)≤pb∧pb≤((gQ).length:Int)) (some (rR gQ (0:Int) pb))
theorem kS {gQ:List Int}{r:List Int}(h:fQ gQ=some r):aB prog 157 [dL (cI .i64) gQ] (dL (cI .i64) r):=by
 refine bC (rs:=[.tmp 2]) (fun cx hx h0=>?_) func157
 unfold fQ at h
 refine rs hx fun K hK=>?_
 refine s1 (d:=dO 0 (cI .i64) ([]:List Int)) (eZ cz aT) ?_
 refine nl hK ?_
 refine ra hx ?_
 refine AW.seq (AW.block ?_)
 obtain⟨pb,hy,h⟩:=ah h
 refine lp (S:=Int) (X:=Int) (fun be=>[(0,dL (cI .i64) gQ),(3,dI .i64 be)]) (fun be=>⟨[],[],0⟩) (PE cx (.exit 0) (fun pb=>[(0,dL (cI .i64) gQ),(3,dI .i64 pb)]) fun pb=>⟨[],[],0⟩) hy ?_ ?_ ?_
 exact wk0 h0 []
 clear hy h
 rintro be y h
 dsimp only[lI] at h
 iterate 2 refine AW.seq ?_
 obtain⟨oe,hy,h⟩:=ah h
 refine jn ((PE cx .normal (fun oe=>[(0,dL (cI .i64) gQ),(3,dI .i64 be),(15,dB oe)]) fun oe=>⟨[],[],0⟩) oe) ?_ ?_
 replace h:=hy
 refine rq hx fun K hK=>?_
 refine mbi ?_
 rcases cnd_s h with⟨cE,h⟩|⟨cE,h⟩
 iterate 3 refine ga cE ?_
 obtain⟨pg,h⟩:=az h
 have rz:(i64.wrap (be - (1:Int))).toNat<(gQ).length:=by omega
 refine gbi ?_
 refine g1 cE (qv (c:=(cI .i64)) (l:=gQ) (n:=(i64.wrap (be - (1:Int))).toNat) (o:=0) aT rz) ?_
 refine nbi hK ?_
 exact pe1 h h0 []
 refine nbi hK ?_
 exact pe1 h h0 []
 refine lw0 ?_
 refine cdh h rfl (fun iO h=>?_) (fun iO h=>?_)
 refine AW.skip (AW.block (rb hx ?_))
 exact pel h h0 []
 exact AW.exit (per h h0 [])
 refine lw0 ?_
 refine rs hx fun K hK=>?_
 iterate 2 refine sa ?_
 obtain⟨Pa,h⟩:=az h
 refine s1 (T_sl (c:=(cI .i64)) (l:=gQ) (a:=(0:Int)) (b:=pb) Pa cz aT) ?_
 refine nbi hK ?_
 exact AW.ret (rtv h)
def f7 :Option ay:=some (⟨true,false,(cw)⟩:ay)
theorem kG  {r:ay}(h:f7=some r):aB prog 132 [] (dG an r):=by
 refine bC (rs:=[.cell 0 32]) (fun cx hx h0=>?_) func132
 unfold f7 at h
 refine rai hx ?_
 refine rs hx fun K hK=>?_
 refine s1 (d:=dG an (⟨true,false,(cw)⟩:ay)) (iH (FL.cons (y:=true) (i5 bu) rfl rfl (FL.nil _)) qza0) ?_
 refine nbi hK ?_
 exact AW.ret (rtv h)
def gk(x1:List Int):Int×ay→Option ((Int×ay)⊕ay):=fun (ba,iq)=>cnd (decide (ba<((x1).length:Int))) (bnd (S:=ay) (cnd (decide ((Int.tmod ba (2:Int))=(0:Int))) (gd (0≤i64.wrap (Int.tdiv ba (2:Int))∧i64.wrap (Int.tdiv ba (2:Int))<16) (gd (0≤ba∧ba<((x1).length:Int)) (gd (0≤i64.wrap (Int.tdiv ba (2:Int))∧i64.wrap (Int.tdiv ba (2:Int))<16) (bnd (some ((⟨iq.vBad,iq.vNeg,(iq.vW).set! (i64.wrap (Int.tdiv ba (2:Int))).toNat (u32.wrap (((iq.vW)[(i64.wrap (Int.tdiv ba (2:Int))).toNat]!)+(u32.wrap ((x1)[(ba).toNat]!))))⟩:ay))) fun nt=>some (nt))))) (gd (0≤i64.wrap (Int.tdiv ba (2:Int))∧i64.wrap (Int.tdiv ba (2:Int))<16) (gd (0≤ba∧ba<((x1).length:Int)) (gd (0≤i64.wrap (Int.tdiv ba (2:Int))∧i64.wrap (Int.tdiv ba (2:Int))<16) (bnd (some ((⟨iq.vBad,iq.vNeg,(iq.vW).set! (i64.wrap (Int.tdiv ba (2:Int))).toNat (u32.wrap (((iq.vW)[(i64.wrap (Int.tdiv ba (2:Int))).toNat]!)+(u32.wrap ((u32.wrap ((x1)[(ba).toNat]!))*(65536:Int)))))⟩:ay))) fun x26=>some (x26)))))) fun tx=>some (.inl (i64.wrap (ba+(1:Int)),tx))) (some (.inr iq))
def cN(u7:Bool)(gQ:List Int):Option ay:=bnd (fQ gQ) fun x1=>cnd (decide ((32:Int)<((x1).length:Int))) (bnd (f7) fun x4=>some x4) (bnd (S:=ay) (cnd u7 (bnd (some ((⟨false,decide ((0:Int)<((x1).length:Int)),(cw)⟩:ay))) fun x7=>some (x7)) (some ((⟨false,false,(cw)⟩:ay)))) fun fJ=>bnd (bf (gk x1) ((0:Int),fJ)) fun cH=>some cH)
theorem eU {u7:Bool}{gQ:List Int}{r:ay}(h:cN u7 gQ=some r):aB prog 147 [dB u7,dL (cI .i64) gQ] (dG an r):=by
 refine bC (rs:=[.cell 4 32]) (fun cx hx h0=>?_) func147
 unfold cN at h
 refine rai hx ?_
 refine rs hx fun K hK=>?_
 refine sa ?_
 refine scb h kS fun x1 h=>?_
 refine nbi hK ?_
 refine AW.seq (ra hx ?_)
 refine cdh h rfl (fun a8 h=>?_) (fun a8 h=>?_)
 refine rs hx fun K hK=>?_
 refine scb h kG fun x4 h=>?_
 refine nbi hK ?_
 exact AW.ret (rtv h)
 refine AW.skip (AW.seq ?_)
 obtain⟨fJ,hy,h⟩:=ah h
 refine jn ((PE cx .normal (fun fJ=>[(4,.pt 0 0),(5,dL (cI .i64) x1),(6,.pt 1 0)]) fun fJ=>⟨[(0,dC (an.f bu)),(1,dC (an.f fJ))],[],2⟩) fJ) ?_ ?_
 replace h:=hy
 refine rq hx fun K hK=>?_
 refine mbi ?_
 rcases cnd_s h with⟨bU,h⟩|⟨bU,h⟩
 iterate 3 refine ga bU ?_
 refine sbi ?_
 refine s1 (d:=dG an (⟨false,decide ((0:Int)<((x1).length:Int)),(cw)⟩:ay)) (iH (FL.cons (y:=decide ((0:Int)<((x1).length:Int))) (bj bu) rfl rfl (FL.nil _)) qza0) ?_
 refine sbi ?_
 obtain⟨x7,xn,h⟩:=ah h
 replace xn:=cP xn
 refine s0 (kD (b':=(⟨false,decide ((0:Int)<((x1).length:Int)),(cw)⟩:ay)) (ao.id _ _) qza0 xn) ?_
 refine nl hK ?_
 exact pe1 h h0 [0,1]
 iterate 3 refine aJ rfl rfl bU ?_
 refine sbi ?_
 refine s1 (d:=dG an bu) (iH (FL.cons (y:=false) (bj bu) rfl rfl (FL.nil _)) qza0) ?_
 refine nbi hK ?_
 exact pe1 h h0 [0,1]
 refine lw0 ?_
 refine AW.seq (ra hx ?_)
 refine AW.block ?_
 obtain⟨cH,hy,h⟩:=ah h
 refine lp (S:=Int×ay) (X:=ay) (fun (ba,iq)=>[(4,.pt 0 0),(5,dL (cI .i64) x1),(6,.pt 1 0),(7,dI .i64 ba)]) (fun (ba,iq)=>⟨[(0,dC (an.f bu)),(1,dC (an.f iq))],[],2⟩) (PE cx (.exit 0) (fun cH=>[(4,.pt 0 0),(6,.pt 1 0)]) fun cH=>⟨[(0,dC (an.f bu)),(1,dC (an.f cH))],[],2⟩) hy ?_ ?_ ?_
 exact wk0 h0 [0,1]
 clear hy h
 rintro⟨ba,iq⟩ y h
 dsimp only[gk] at h
 refine AW.seq (ra hx ?_)
 refine cdh h rfl (fun eH h=>?_) (fun eH h=>?_)
 refine AW.skip (AW.seq ?_)
 obtain⟨tx,hy,h⟩:=ah h
 refine jn ((PE cx .normal (fun tx=>[(4,.pt 0 0),(5,dL (cI .i64) x1),(6,.pt 1 0),(7,dI .i64 ba)]) fun tx=>⟨[(0,dC (an.f bu)),(1,dC (an.f tx))],[],2⟩) tx) ?_ ?_
 replace h:=hy
 refine AW.block (ra hx ?_)
 refine cdh h rfl (fun FU h=>?_) (fun FU h=>?_)
 refine rqd [] hx fun K hK=>?_
 iterate 5 refine sa ?_
 obtain⟨JP,h⟩:=az h
 iterate 4 refine sbi ?_
 obtain⟨JO,h⟩:=az h
 have OT:(ba).toNat<(x1).length:=by omega
 refine sbi ?_
 refine s1 (qv (c:=(cI .i64)) (l:=x1) (n:=(ba).toNat) (o:=0) aT OT) ?_
 iterate 3 refine sa ?_
 obtain⟨D5,h⟩:=az h
 have JG:(i64.wrap (Int.tdiv ba (2:Int))).toNat<16:=by omega
 refine sbi ?_
 obtain⟨nt,xo,h⟩:=ah h
 replace xo:=cP xo
 refine s0 (kD (b':=u32.wrap (((iq.vW)[(i64.wrap (Int.tdiv ba (2:Int))).toNat]!)+(u32.wrap ((x1)[(ba).toNat]!)))) (ao.comp (bi iq) (ao.vec (cI .u32) iq.vW (i64.wrap (Int.tdiv ba (2:Int))).toNat JG) (fun _=>rfl)) aP xo) ?_
 refine nl hK ?_
 exact pe1 h h0 [0,1]
 refine rqd [] hx fun K hK=>?_
 iterate 5 refine sa ?_
 obtain⟨MA,h⟩:=az h
 iterate 4 refine sbi ?_
 obtain⟨Cj,h⟩:=az h
 have hn23:(ba).toNat<(x1).length:=by omega
 refine sbi ?_
 refine s1 (qv (c:=(cI .i64)) (l:=x1) (n:=(ba).toNat) (o:=0) aT hn23) ?_
 iterate 4 refine sa ?_
 obtain⟨Pc,h⟩:=az h
 have hn25:(i64.wrap (Int.tdiv ba (2:Int))).toNat<16:=by omega
 refine sbi ?_
 obtain⟨x26,hx27,h⟩:=ah h
 replace hx27:=cP hx27
 refine s0 (kD (b':=u32.wrap (((iq.vW)[(i64.wrap (Int.tdiv ba (2:Int))).toNat]!)+(u32.wrap ((u32.wrap ((x1)[(ba).toNat]!))*(65536:Int))))) (ao.comp (bi iq) (ao.vec (cI .u32) iq.vW (i64.wrap (Int.tdiv ba (2:Int))).toNat hn25) (fun _=>rfl)) aP hx27) ?_
 refine nl hK ?_
 exact pe1 h h0 [0,1]
 refine lw0 ?_
 refine rb hx ?_
 exact pel h h0 [0,1]
 exact AW.exit (per h h0 [0,1])
 refine lw0 ?_
 refine rai hx ?_
 exact AW.ret (rtv h)
def eb(gQ:List Int)(fj:Int):Option Int:=cnd (decide (fj<((gQ).length:Int))) (gd (0≤fj∧fj<((gQ).length:Int)) (some ((gQ)[(fj).toNat]!))) (some (0:Int))
theorem gt {gQ:List Int}{fj:Int}{r:Int}(h:eb gQ fj=some r):aB prog 158 [dL (cI .i64) gQ,dI .i64 fj] (dI .i64 r):=by
 refine bC (rs:=[.tmp 4]) (fun cx hx h0=>?_) func158
 unfold eb at h
 refine ra hx ?_
 refine AW.seq (ra hx ?_)
 refine cdh h rfl (fun cE h=>?_) (fun cE h=>?_)
 refine rs hx fun K hK=>?_
 iterate 2 refine sa ?_
 obtain⟨pg,h⟩:=az h
 have rz:(fj).toNat<(gQ).length:=by omega
 refine sbi ?_
 refine s1 (qv (c:=(cI .i64)) (l:=gQ) (n:=(fj).toNat) (o:=0) aT rz) ?_
 refine nbi hK ?_
 exact AW.ret (rtv h)
 refine AW.skip (ra hx ?_)
 exact AW.ret (rtv h)
def j5(aS:List Int)(aU:List Int):(List Int)×Int×Int→Option (((List Int)×Int×Int)⊕((List Int))):=fun (d6,bP,eD)=>cnd (decide (eD<(i64.wrap ((max ((aS).length:Int) ((aU).length:Int))+(1:Int))))) (bnd (eb aS eD) fun x2=>bnd (eb aU eD) fun x4=>bnd (some (i64.wrap ((i64.wrap (x2+x4))+bP))) fun x6=>gd ((d6++[Int.tmod x6 (65536:Int)]).length*8≤140737488355328) (some (.inl (d6++[Int.tmod x6 (65536:Int)],i64.wrap (Int.tdiv x6 (65536:Int)),i64.wrap (eD+(1:Int)))))) (some (.inr d6))
def lg(aS:List Int)(aU:List Int):Option (List Int):=bnd (bf (j5 aS aU) (([]:List Int),(0:Int),(0:Int))) fun cJ=>bnd (fQ cJ) fun fb=>some fb
theorem tF {aS:List Int}{aU:List Int}{r:List Int}(h:lg aS aU=some r):aB prog 148 [dL (cI .i64) aS,dL (cI .i64) aU] (dL (cI .i64) r):=by
 refine bC (rs:=[.tmp 4]) (fun cx hx h0=>?_) func148
 unfold lg at h
 refine rs hx fun K hK=>?_
 refine s1 (d:=dO 0 (cI .i64) ([]:List Int)) (eZ cz aT) ?_
 refine nl hK ?_
 refine rs hx fun K hK=>?_
 refine s1 (d:=dO 1 (cI .i64) ([]:List Int)) (eZ cz aT) ?_
 refine nl hK ?_
 refine ra hx ?_
 refine AW.seq (ra hx ?_)
 refine AW.block ?_
 obtain⟨cJ,hy,h⟩:=ah h
 refine lp (S:=(List Int)×Int×Int) (X:=(List Int)) (fun (d6,bP,eD)=>[(0,dL (cI .i64) aS),(1,dL (cI .i64) aU),(5,dO 0 (cI .i64) d6),(6,dI .i64 bP),(7,dI .i64 eD)]) (fun (d6,bP,eD)=>⟨[],[(0,(d6).length,1,3)],1⟩) (PE cx (.exit 0) (fun cJ=>[(5,dO 0 (cI .i64) cJ)]) fun cJ=>⟨[],[(0,(cJ).length,1,3)],1⟩) hy ?_ ?_ ?_
 exact wk0 h0 [1]
 clear hy h
 rintro⟨d6,bP,eD⟩ y h
 dsimp only[j5] at h
 refine AW.seq (ra hx ?_)
 refine cdh h rfl (fun cE h=>?_) (fun cE h=>?_)
 refine AW.skip (AW.seq (AW.block (rs hx fun K hK=>?_)))
 refine mbi ?_
 refine scb h gt fun x2 h=>?_
 refine mbi ?_
 refine scb h gt fun x4 h=>?_
 iterate 3 refine sa ?_
 obtain⟨x6,td,h⟩:=ah h
 replace td:=cP td
 refine s2 (d2:=dI .i64 x6) l9 (gv (congrArg (dI .i64) td)) ?_
 refine nl hK ?_
 refine rs hx fun K hK=>?_
 iterate 3 refine sa ?_
 refine s1 (d:=dO 1 (cI .i64) [Int.tmod x6 (65536:Int)]) (iI cz aT) ?_
 obtain⟨FM,h⟩:=az h
 refine s1 (d:=dO 0 (cI .i64) (d6++[Int.tmod x6 (65536:Int)])) (gc cz aT FM) ?_
 refine nbi hK ?_
 iterate 2 refine rb hx ?_
 exact pel h h0 [0]
 exact AW.exit (per h h0 [0])
 refine lw0 ?_
 refine rs hx fun K hK=>?_
 refine sa ?_
 refine scb h kS fun fb h=>?_
 refine nbi hK ?_
 exact AW.ret (rtv h)
def jF(ce:Int):Option ay:=cnd (decide ((0:Int)≤ce)) (bnd (cN false [Int.tmod ce (65536:Int),Int.tmod (i64.wrap (Int.tdiv ce (65536:Int))) (65536:Int),Int.tmod (i64.wrap (Int.tdiv ce (4294967296:Int))) (65536:Int),i64.wrap (Int.tdiv ce (281474976710656:Int))]) fun x2=>some x2) (bnd (some (i64.wrap (0 - (i64.wrap (ce+(1:Int)))))) fun x4=>bnd (lg [Int.tmod x4 (65536:Int),Int.tmod (i64.wrap (Int.tdiv x4 (65536:Int))) (65536:Int),Int.tmod (i64.wrap (Int.tdiv x4 (4294967296:Int))) (65536:Int),i64.wrap (Int.tdiv x4 (281474976710656:Int))] [(1:Int)]) fun x6=>bnd (cN true x6) fun x8=>some x8)
theorem pF {ce:Int}{r:ay}(h:jF ce=some r):aB prog 115 [dI .i64 ce] (dG an r):=by
 refine bC (rs:=[.cell 2 32]) (fun cx hx h0=>?_) func115
 unfold jF at h
 refine rai hx ?_
 refine AW.seq (ra hx ?_)
 refine cdh h rfl (fun cE h=>?_) (fun cE h=>?_)
 refine rs hx fun K hK=>?_
 iterate 10 refine sa ?_
 refine s1 (d:=dO 1 (cI .i64) [Int.tmod ce (65536:Int),Int.tmod (i64.wrap (Int.tdiv ce (65536:Int))) (65536:Int),Int.tmod (i64.wrap (Int.tdiv ce (4294967296:Int))) (65536:Int),i64.wrap (Int.tdiv ce (281474976710656:Int))]) (iI cz aT) ?_
 refine scb h eU fun x2 h=>?_
 refine nbi hK ?_
 exact AW.ret (rtv h)
 refine AW.skip (rs hx fun K hK=>?_)
 iterate 3 refine sa ?_
 obtain⟨x4,pk,h⟩:=ah h
 replace pk:=cP pk
 refine s2 (d2:=dI .i64 x4) l9 (gv (congrArg (dI .i64) pk)) ?_
 refine nl hK ?_
 refine rs hx fun K hK=>?_
 iterate 10 refine sa ?_
 refine s1 (d:=dO 1 (cI .i64) [Int.tmod x4 (65536:Int),Int.tmod (i64.wrap (Int.tdiv x4 (65536:Int))) (65536:Int),Int.tmod (i64.wrap (Int.tdiv x4 (4294967296:Int))) (65536:Int),i64.wrap (Int.tdiv x4 (281474976710656:Int))]) (iI cz aT) ?_
 refine s1 (d:=dO 2 (cI .i64) [(1:Int)]) (iI cz aT) ?_
 refine scb h tF fun x6 h=>?_
 refine scb h eU fun x8 h=>?_
 refine nbi hK ?_
 exact AW.ret (rtv h)
def jl(bm:ay):(List Int)×Int→Option (((List Int)×Int)⊕((List Int))):=fun (aL,a6)=>cnd (decide (a6<(16:Int))) (gd (0≤a6∧a6<16) (gd (0≤a6∧a6<16) (gd ((aL++[i64.wrap (Int.tmod ((bm.vW)[(a6).toNat]!) (65536:Int)),i64.wrap (u32.wrap (Int.tdiv ((bm.vW)[(a6).toNat]!) (65536:Int)))]).length*8≤140737488355328) (some (.inl (aL++[i64.wrap (Int.tmod ((bm.vW)[(a6).toNat]!) (65536:Int)),i64.wrap (u32.wrap (Int.tdiv ((bm.vW)[(a6).toNat]!) (65536:Int)))],i64.wrap (a6+(1:Int)))))))) (some (.inr aL))
def bS(bm:ay):Option (List Int):=bnd (bf (jl bm) (([]:List Int),(0:Int))) fun aD=>bnd (fQ aD) fun x8=>some x8
theorem dv {bm:ay}{r:List Int}(h:bS bm=some r):aB prog 124 [dG an bm] (dL (cI .i64) r):=by
 refine bC (rs:=[.tmp 2]) (fun cx hx h0=>?_) func124
 unfold bS at h
 refine rs hx fun K hK=>?_
 refine sa ?_
 refine s1 (d:=dO 1 (cI .i64) ([]:List Int)) (eZ cz aT) ?_
 refine nl hK ?_
 refine rs hx fun K hK=>?_
 refine s1 (d:=dO 2 (cI .i64) ([]:List Int)) (eZ cz aT) ?_
 refine nl hK ?_
 refine AW.seq (ra hx ?_)
 refine AW.block ?_
 obtain⟨aD,hy,h⟩:=ah h
 refine lp (S:=(List Int)×Int) (X:=(List Int)) (fun (aL,a6)=>[(1,.pt 0 0),(3,dO 1 (cI .i64) aL),(4,dI .i64 a6)]) (fun (aL,a6)=>⟨[(0,dC (an.f bm))],[(1,(aL).length,1,3)],2⟩) (PE cx (.exit 0) (fun aD=>[(3,dO 0 (cI .i64) aD)]) fun aD=>⟨[],[(0,(aD).length,1,3)],1⟩) hy ?_ ?_ ?_
 exact wk0 h0 [0,2]
 clear hy h
 rintro⟨aL,a6⟩ y h
 dsimp only[jl] at h
 refine AW.seq (ra hx ?_)
 refine cdh h rfl (fun cE h=>?_) (fun cE h=>?_)
 refine AW.skip (AW.seq (AW.block (rqd [] hx fun K hK=>?_)))
 iterate 3 refine sa ?_
 obtain⟨pg,h⟩:=az h
 iterate 6 refine sbi ?_
 obtain⟨Bv,h⟩:=az h
 iterate 4 refine sbi ?_
 refine s1 (Ao cz aT) ?_
 obtain⟨Mz,h⟩:=az h
 refine s1 (d:=dO 1 (cI .i64) (aL++[i64.wrap (Int.tmod ((bm.vW)[(a6).toNat]!) (65536:Int)),i64.wrap (u32.wrap (Int.tdiv ((bm.vW)[(a6).toNat]!) (65536:Int)))])) (gc cz aT Mz) ?_
 refine nbi hK ?_
 refine rb hx ?_
 exact pel h h0 [0,1]
 exact AW.exit (per h h0 [1])
 refine lw0 ?_
 refine rs hx fun K hK=>?_
 refine sa ?_
 refine scb h kS fun x8 h=>?_
 refine nbi hK ?_
 exact AW.ret (rtv h)
def qn(bm:ay):Option ay:=bnd (bK bm) fun x1=>cnd (!x1) (bnd (f7) fun x4=>some x4) (bnd (bS bm) fun x6=>bnd (cN false x6) fun x8=>some x8)
theorem He {bm:ay}{r:ay}(h:qn bm=some r):aB prog 153 [dG an bm] (dG an r):=by
 refine bC (rs:=[.cell 2 32]) (fun cx hx h0=>?_) func153
 unfold qn at h
 refine rai hx ?_
 refine AW.seq (rs hx fun K hK=>?_)
 refine mbi ?_
 refine scb h c8 fun x1 h=>?_
 refine nbi hK ?_
 refine cdh h rfl (fun a8 h=>?_) (fun a8 h=>?_)
 refine rs hx fun K hK=>?_
 refine scb h kG fun x4 h=>?_
 refine nbi hK ?_
 exact AW.ret (rtv h)
 refine AW.skip (rs hx fun K hK=>?_)
 refine mbi ?_
 refine scb h dv fun x6 h=>?_
 refine scb h eU fun x8 h=>?_
 refine nbi hK ?_
 exact AW.ret (rtv h)
def iC(gQ:List Int)(fj:Int):Option Int:=cnd (decide (fj<(0:Int))) (some (0:Int)) (bnd (eb gQ fj) fun x2=>some x2)
theorem tG {gQ:List Int}{fj:Int}{r:Int}(h:iC gQ fj=some r):aB prog 175 [dL (cI .i64) gQ,dI .i64 fj] (dI .i64 r):=by
 refine bC (rs:=[.tmp 4]) (fun cx hx h0=>?_) func175
 unfold iC at h
 refine ra hx ?_
 refine AW.seq (ra hx ?_)
 refine cdh h rfl (fun cE h=>?_) (fun cE h=>?_)
 refine ra hx ?_
 exact AW.ret (rtv h)
 refine AW.skip (rs hx fun K hK=>?_)
 refine mbi ?_
 refine scb h gt fun x2 h=>?_
 refine nbi hK ?_
 exact AW.ret (rtv h)
def jh(aS:List Int)(aU:List Int)(aL:Int):Int×(List Int)→Option ((Int×(List Int))⊕((List Int))):=fun (ip,sw)=>cnd (decide (ip<((aU).length:Int))) (gd (0≤i64.wrap (aL+ip)∧i64.wrap (aL+ip)<(((i64.wrap ((i64.wrap (((aS).length:Int)+((aU).length:Int)))+(1:Int))).toNat:Nat):Int)∧i64.wrap (aL+ip)<((sw).length:Int)) (gd (0≤aL∧aL<((aS).length:Int)) (gd (0≤ip∧ip<((aU).length:Int)) (gd (0≤i64.wrap (aL+ip)∧i64.wrap (aL+ip)<(((i64.wrap ((i64.wrap (((aS).length:Int)+((aU).length:Int)))+(1:Int))).toNat:Nat):Int)∧i64.wrap (aL+ip)<((sw).length:Int)) (bnd (some ((sw).set ((i64.wrap (aL+ip)).toNat) (i64.wrap (((sw)[(i64.wrap (aL+ip)).toNat]!)+(i64.wrap (((aS)[(aL).toNat]!)*((aU)[(ip).toNat]!))))))) fun ii=>some (.inl (i64.wrap (ip+(1:Int)),ii))))))) (some (.inr sw))
def gH(aS:List Int)(aU:List Int):Int×Int×(List Int)→Option ((Int×Int×(List Int))⊕((List Int))):=fun (IE,pC,tw)=>cnd (decide (pC<(((i64.wrap ((i64.wrap (((aS).length:Int)+((aU).length:Int)))+(1:Int))).toNat:Nat):Int))) (gd (0≤pC∧pC<(((i64.wrap ((i64.wrap (((aS).length:Int)+((aU).length:Int)))+(1:Int))).toNat:Nat):Int)∧pC<((tw).length:Int)) (bnd (some (i64.wrap (((tw)[(pC).toNat]!)+IE))) fun nt=>gd (0≤pC∧pC<(((i64.wrap ((i64.wrap (((aS).length:Int)+((aU).length:Int)))+(1:Int))).toNat:Nat):Int)∧pC<((tw).length:Int)) (some (.inl (i64.wrap (Int.tdiv nt (65536:Int)),i64.wrap (pC+(1:Int)),(tw).set ((pC).toNat) (Int.tmod nt (65536:Int))))))) (some (.inr tw))
def j4(aS:List Int)(aU:List Int):Int×(List Int)→Option ((Int×(List Int))⊕((List Int))):=fun (aL,a6)=>cnd (decide (aL<((aS).length:Int))) (bnd (bf (jh aS aU aL) ((0:Int),a6)) fun yU=>bnd (bf (gH aS aU) ((0:Int),(0:Int),yU)) fun yN=>some (.inl (i64.wrap (aL+(1:Int)),yN))) (some (.inr a6))
def lY(aS:List Int)(aU:List Int):Option (List Int):=gd (0≤i64.wrap ((i64.wrap (((aS).length:Int)+((aU).length:Int)))+(1:Int))∧i64.wrap ((i64.wrap (((aS).length:Int)+((aU).length:Int)))+(1:Int))≤1000000) (bnd (bf (j4 aS aU) ((0:Int),List.replicate (i64.wrap ((i64.wrap (((aS).length:Int)+((aU).length:Int)))+(1:Int))).toNat (0:Int))) fun aD=>gd ((i64.wrap ((i64.wrap (((aS).length:Int)+((aU).length:Int)))+(1:Int))).toNat=(aD).length) (bnd (fQ aD) fun DF=>some DF))
theorem wJ {aS:List Int}{aU:List Int}{r:List Int}(h:lY aS aU=some r):aB prog 151 [dL (cI .i64) aS,dL (cI .i64) aU] (dL (cI .i64) r):=by
 refine bC (rs:=[.tmp 4]) (fun cx hx h0=>?_) func151
 unfold lY at h
 refine rs hx fun K hK=>?_
 refine s1 (d:=dO 0 (cI .i64) ([]:List Int)) (eZ cz aT) ?_
 refine nl hK ?_
 refine rs hx fun K hK=>?_
 iterate 6 refine sa ?_
 obtain⟨G0,h⟩:=az h
 refine q1 (sMk (c:=(cI .i64)) (z0:=(0:Int)) tok G0 cz aT (by first|rfl|kernel_rfl)) ?_
 refine nbi hK ?_
 refine AW.seq (ra hx ?_)
 refine AW.block ?_
 obtain⟨aD,hy,h⟩:=ah h
 refine lp (S:=Int×(List Int)) (X:=(List Int)) (fun (aL,a6)=>[(0,dL (cI .i64) aS),(1,dL (cI .i64) aU),(5,.ow 0 0 1 ((i64.wrap ((i64.wrap (((aS).length:Int)+((aU).length:Int)))+(1:Int))).toNat)),(6,dI .i64 aL)]) (fun (aL,a6)=>⟨[(0,dC ((cW (cI .i64)).f a6))],[],1⟩) (PE cx (.exit 0) (fun aD=>[(5,.ow 0 0 1 ((i64.wrap ((i64.wrap (((aS).length:Int)+((aU).length:Int)))+(1:Int))).toNat))]) fun aD=>⟨[(0,dC ((cW (cI .i64)).f aD))],[],1⟩) hy ?_ ?_ ?_
 exact wk0 h0 [1]
 clear hy h
 rintro⟨aL,a6⟩ y h
 dsimp only[j4] at h
 refine AW.seq (ra hx ?_)
 refine cdh h rfl (fun mm h=>?_) (fun mm h=>?_)
 refine AW.skip (AW.seq (AW.block (AW.seq (ra hx ?_))))
 refine AW.block ?_
 obtain⟨yU,hy,h⟩:=ah h
 refine lp (S:=Int×(List Int)) (X:=(List Int)) (fun (ip,sw)=>[(0,dL (cI .i64) aS),(1,dL (cI .i64) aU),(5,.ow 0 0 1 ((i64.wrap ((i64.wrap (((aS).length:Int)+((aU).length:Int)))+(1:Int))).toNat)),(6,dI .i64 aL),(7,dI .i64 ip)]) (fun (ip,sw)=>⟨[(0,dC ((cW (cI .i64)).f sw))],[],1⟩) (PE cx (.exit 2) (fun yU=>[(0,dL (cI .i64) aS),(1,dL (cI .i64) aU),(5,.ow 0 0 1 ((i64.wrap ((i64.wrap (((aS).length:Int)+((aU).length:Int)))+(1:Int))).toNat)),(6,dI .i64 aL)]) fun yU=>⟨[(0,dC ((cW (cI .i64)).f yU))],[],1⟩) hy ?_ ?_ ?_
 exact wk0 h0 [0]
 clear hy h
 rintro⟨ip,sw⟩ y h
 dsimp only[jh] at h
 refine AW.seq (ra hx ?_)
 refine cdh h rfl (fun a8 h=>?_) (fun a8 h=>?_)
 refine AW.skip (AW.seq (AW.block (rqd [] hx fun K hK=>?_)))
 iterate 8 refine sa ?_
 obtain⟨Bv,h⟩:=az h
 have Mr:(i64.wrap (aL+ip)).toNat<(sw).length:=by omega
 refine s1 (sx ⟨Bv.1,Bv.2.1⟩ cz aT) ?_
 refine s1 (bg (ao.seqW (cI .i64) sw ((i64.wrap (aL+ip)).toNat) Mr) aT) ?_
 iterate 2 refine sa ?_
 obtain⟨Mz,h⟩:=az h
 have hn7:(aL).toNat<(aS).length:=by omega
 refine sbi ?_
 refine s1 (qv (c:=(cI .i64)) (l:=aS) (n:=(aL).toNat) (o:=0) aT hn7) ?_
 iterate 2 refine sa ?_
 obtain⟨FM,h⟩:=az h
 have FH:(ip).toNat<(aU).length:=by omega
 refine sbi ?_
 refine s1 (qv (c:=(cI .i64)) (l:=aU) (n:=(ip).toNat) (o:=0) aT FH) ?_
 iterate 2 refine sa ?_
 obtain⟨z3,h⟩:=az h
 have H6:(i64.wrap (aL+ip)).toNat<(sw).length:=by omega
 refine s1 (sx ⟨z3.1,z3.2.1⟩ cz aT) ?_
 obtain⟨ii,tS,h⟩:=ah h
 replace tS:=cP tS
 refine s0 (GH (b':=i64.wrap (((sw)[(i64.wrap (aL+ip)).toNat]!)+(i64.wrap (((aS)[(aL).toNat]!)*((aU)[(ip).toNat]!))))) (ao.seqW (cI .i64) sw ((i64.wrap (aL+ip)).toNat) H6) aT tS) ?_
 refine nl hK ?_
 refine rb hx ?_
 exact pel h h0 [0]
 exact AW.exit (per h h0 [0])
 refine lw0 ?_
 iterate 2 refine ra hx ?_
 refine AW.block ?_
 obtain⟨yN,hy,h⟩:=ah h
 refine lp (S:=Int×Int×(List Int)) (X:=(List Int)) (fun (IE,pC,tw)=>[(0,dL (cI .i64) aS),(1,dL (cI .i64) aU),(5,.ow 0 0 1 ((i64.wrap ((i64.wrap (((aS).length:Int)+((aU).length:Int)))+(1:Int))).toNat)),(6,dI .i64 aL),(8,dI .i64 IE),(9,dI .i64 pC)]) (fun (IE,pC,tw)=>⟨[(0,dC ((cW (cI .i64)).f tw))],[],1⟩) (PE cx (.exit 4) (fun yN=>[(0,dL (cI .i64) aS),(1,dL (cI .i64) aU),(5,.ow 0 0 1 ((i64.wrap ((i64.wrap (((aS).length:Int)+((aU).length:Int)))+(1:Int))).toNat)),(6,dI .i64 aL)]) fun yN=>⟨[(0,dC ((cW (cI .i64)).f yN))],[],1⟩) hy ?_ ?_ ?_
 exact wk0 h0 [0]
 clear hy h
 rintro⟨IE,pC,tw⟩ y h
 dsimp only[gH] at h
 refine AW.seq (ra hx ?_)
 refine cdh h rfl (fun sH h=>?_) (fun sH h=>?_)
 refine AW.skip (AW.seq (AW.block (rs hx fun K hK=>?_)))
 iterate 2 refine sa ?_
 obtain⟨D5,h⟩:=az h
 have JG:(pC).toNat<(tw).length:=by omega
 refine s1 (sx ⟨D5.1,D5.2.1⟩ cz aT) ?_
 refine s1 (bg (ao.seqW (cI .i64) tw ((pC).toNat) JG) aT) ?_
 iterate 2 refine sa ?_
 obtain⟨nt,xo,h⟩:=ah h
 replace xo:=cP xo
 refine s2 (d2:=dI .i64 nt) l9 (gv (congrArg (dI .i64) xo)) ?_
 refine nl hK ?_
 refine rs hx fun K hK=>?_
 iterate 4 refine sa ?_
 obtain⟨MA,h⟩:=az h
 have OS:(pC).toNat<(tw).length:=by omega
 refine s1 (sx ⟨MA.1,MA.2.1⟩ cz aT) ?_
 refine s0 (aN (b':=Int.tmod nt (65536:Int)) (ao.seqW (cI .i64) tw ((pC).toNat) OS) aT) ?_
 refine nl hK ?_
 iterate 2 refine rb hx ?_
 exact pel h h0 [0]
 exact AW.exit (per h h0 [0])
 refine lw0 ?_
 refine rb hx ?_
 exact pel h h0 [0]
 exact AW.exit (per h h0 [0])
 refine lw0 ?_
 refine rs hx fun K hK=>?_
 refine sa ?_
 obtain⟨Pc,h⟩:=az h
 refine fzO (cI .i64) (n:=(i64.wrap ((i64.wrap (((aS).length:Int)+((aU).length:Int)))+(1:Int))).toNat) 0 [5,70] Pc ?_ (all2 rfl (all1 rfl))
 refine scb h kS fun DF h=>?_
 refine nbi hK ?_
 exact AW.ret (rtv h)
def lJ(aS:List Int)(aU:List Int):Int→Option (Int⊕(Bool⊕Unit)):=fun be=>cnd (decide ((0:Int)≤be)) (bnd (eb aS be) fun x4=>bnd (eb aU be) fun x6=>cnd (decide (x4≠x6)) (bnd (eb aS be) fun x9=>bnd (eb aU be) fun qx=>some (.inr (.inl (decide (x9<qx))))) (some (.inl (i64.wrap (be - (1:Int)))))) (some (.inr (.inr ())))
def mW(aS:List Int)(aU:List Int):Option Bool:=bnd (some (i64.wrap ((max ((aS).length:Int) ((aU).length:Int)) - (1:Int)))) fun x1=>bnd (bf (lJ aS aU) x1) fun y13=>match y13 with| .inl r=>some r| .inr ()=>some false
theorem xY {aS:List Int}{aU:List Int}{r:Bool}(h:mW aS aU=some r):aB prog 171 [dL (cI .i64) aS,dL (cI .i64) aU] (dB r):=by
 refine bC (rs:=[.tmp 4]) (fun cx hx h0=>?_) func171
 unfold mW at h
 refine ra hx ?_
 refine AW.seq (rs hx fun K hK=>?_)
 iterate 6 refine sa ?_
 obtain⟨x1,zV,h⟩:=ah h
 replace zV:=cP zV
 refine s2 (d2:=dI .i64 x1) l9 (gv (congrArg (dI .i64) zV)) ?_
 refine nl hK ?_
 refine AW.block ?_
 obtain⟨y,hy,h⟩:=ah h
 refine lp (S:=Int) (X:=Bool⊕Unit) (fun be=>[(0,dL (cI .i64) aS),(1,dL (cI .i64) aU),(5,dI .i64 be)]) (fun be=>⟨[],[],0⟩) (PS (PR [.tmp 4] fun r=>dB r) (PE cx (.exit 0) (fun ()=>[]) fun ()=>⟨[],[],0⟩)) hy ?_ ?_ ?_
 exact wk0 h0 []
 clear hy h
 rintro be y h
 dsimp only[lJ] at h
 refine AW.seq (ra hx ?_)
 refine cdh h rfl (fun a8 h=>?_) (fun a8 h=>?_)
 refine AW.skip (AW.seq (AW.block (rs hx fun K hK=>?_)))
 refine mbi ?_
 refine scb h gt fun x4 h=>?_
 refine mbi ?_
 refine scb h gt fun x6 h=>?_
 refine nbi hK ?_
 refine cdh h rfl (fun py h=>?_) (fun py h=>?_)
 refine rs hx fun K hK=>?_
 refine mbi ?_
 refine scb h gt fun x9 h=>?_
 refine mbi ?_
 refine scb h gt fun qx h=>?_
 refine nbi hK ?_
 refine AW.ret ?_
 cases h
 refine PS.r ⟨by nofun,PS.l (PR.i ?_)⟩
 exact rv1
 refine AW.skip (rb hx ?_)
 exact pel h h0 []
 exact AW.exit (peq h h0 [])
 rcases y with r|⟨⟩
 rintro ex tm' hp' ⟨rfl,hw⟩
 cases h
 exact hw
 refine lwr ?_
 refine ra hx ?_
 exact AW.ret (rtv h)
def ji(aS:List Int)(aU:List Int):(List Int)×Int×Int→Option (((List Int)×Int×Int)⊕((List Int))):=fun (d6,bP,eD)=>cnd (decide (eD<((aS).length:Int))) (gd (0≤eD∧eD<((aS).length:Int)) (bnd (eb aU eD) fun x4=>bnd (some (i64.wrap ((i64.wrap (((aS)[(eD).toNat]!) - x4)) - bP))) fun x6=>bnd (S:=Int×Int) (cnd (decide (x6<(0:Int))) (some (((1:Int),i64.wrap (x6+(65536:Int))))) (some (((0:Int),x6)))) fun (cD,iT)=>gd ((d6++[iT]).length*8≤140737488355328) (some (.inl (d6++[iT],cD,i64.wrap (eD+(1:Int))))))) (some (.inr d6))
def im(aS:List Int)(aU:List Int):Option (List Int):=bnd (bf (ji aS aU) (([]:List Int),(0:Int),(0:Int))) fun cJ=>bnd (fQ cJ) fun ii=>some ii
theorem pZ {aS:List Int}{aU:List Int}{r:List Int}(h:im aS aU=some r):aB prog 172 [dL (cI .i64) aS,dL (cI .i64) aU] (dL (cI .i64) r):=by
 refine bC (rs:=[.tmp 4]) (fun cx hx h0=>?_) func172
 unfold im at h
 refine rs hx fun K hK=>?_
 refine s1 (d:=dO 0 (cI .i64) ([]:List Int)) (eZ cz aT) ?_
 refine nl hK ?_
 refine rs hx fun K hK=>?_
 refine s1 (d:=dO 1 (cI .i64) ([]:List Int)) (eZ cz aT) ?_
 refine nl hK ?_
 refine ra hx ?_
 refine AW.seq (ra hx ?_)
 refine AW.block ?_
 obtain⟨cJ,hy,h⟩:=ah h
 refine lp (S:=(List Int)×Int×Int) (X:=(List Int)) (fun (d6,bP,eD)=>[(0,dL (cI .i64) aS),(1,dL (cI .i64) aU),(5,dO 0 (cI .i64) d6),(6,dI .i64 bP),(7,dI .i64 eD)]) (fun (d6,bP,eD)=>⟨[],[(0,(d6).length,1,3)],1⟩) (PE cx (.exit 0) (fun cJ=>[(5,dO 0 (cI .i64) cJ)]) fun cJ=>⟨[],[(0,(cJ).length,1,3)],1⟩) hy ?_ ?_ ?_
 exact wk0 h0 [1]
 clear hy h
 rintro⟨d6,bP,eD⟩ y h
 dsimp only[ji] at h
 refine AW.seq (ra hx ?_)
 refine cdh h rfl (fun cE h=>?_) (fun cE h=>?_)
 refine AW.skip (AW.seq (AW.block (rsd [158] hx fun K hK=>?_)))
 iterate 2 refine sa ?_
 obtain⟨pg,h⟩:=az h
 have rz:(eD).toNat<(aS).length:=by omega
 refine sbi ?_
 refine s1 (qv (c:=(cI .i64)) (l:=aS) (n:=(eD).toNat) (o:=0) aT rz) ?_
 refine mbi ?_
 refine cqb h gt fun x4 h=>?_
 iterate 3 refine sa ?_
 obtain⟨x6,td,h⟩:=ah h
 replace td:=cP td
 refine s2 (d2:=dI .i64 x6) l9 (gv (congrArg (dI .i64) td)) ?_
 refine nl hK ?_
 refine ra hx ?_
 refine AW.seq ?_
 obtain⟨y,hy,h⟩:=ah h
 refine jn ((PE cx .normal (fun (cD,iT)=>[(0,dL (cI .i64) aS),(1,dL (cI .i64) aU),(5,dO 0 (cI .i64) d6),(6,dI .i64 cD),(7,dI .i64 eD),(8,dI .i64 iT)]) fun (cD,iT)=>⟨[],[(0,(d6).length,1,3)],1⟩) y) ?_ ?_
 replace h:=hy
 refine ra hx ?_
 refine cdh h rfl (fun py h=>?_) (fun py h=>?_)
 refine ra hx ?_
 refine rb hx ?_
 exact pe1 h h0 [0]
 exact AW.skip (pe1 h h0 [0])
 obtain⟨cD,iT⟩:=y
 refine lw0 ?_
 refine rq hx fun K hK=>?_
 iterate 2 refine sa ?_
 refine s1 (d:=dO 1 (cI .i64) [iT]) (iI cz aT) ?_
 obtain⟨z3,h⟩:=az h
 refine s1 (d:=dO 0 (cI .i64) (d6++[iT])) (gc cz aT z3) ?_
 refine nbi hK ?_
 refine rb hx ?_
 exact pel h h0 [0]
 exact AW.exit (per h h0 [0])
 refine lw0 ?_
 refine rs hx fun K hK=>?_
 refine sa ?_
 refine scb h kS fun ii h=>?_
 refine nbi hK ?_
 exact AW.ret (rtv h)
def iz(aU:List Int)(og:List Int):Int×(List Int)→Option ((Int×(List Int))⊕(Int×(List Int))):=fun (nG,Dd)=>bnd (mW og Dd) fun uC=>cnd uC (bnd (im Dd aU) fun KP=>some (.inl (i64.wrap (nG - (1:Int)),KP))) (some (.inr (nG,Dd)))
def iA(aS:List Int)(aU:List Int)(x6:Int):(List Int)×Int×(List Int)→Option (((List Int)×Int×(List Int))⊕((List Int)×(List Int))):=fun (eh,nf,vG)=>cnd (decide ((0:Int)≤nf)) (gd (0≤nf∧nf<((aS).length:Int)) (gd (([(aS)[(nf).toNat]!]++eh).length*8≤140737488355328) (bnd (fQ ([(aS)[(nf).toNat]!]++eh)) fun og=>bnd (iC og ((aU).length:Int)) fun sy=>bnd (iC og (i64.wrap (((aU).length:Int) - (1:Int)))) fun nt=>bnd (iC og (i64.wrap (((aU).length:Int) - (2:Int)))) fun Au=>gd (x6≠0) (bnd (some (min (65535:Int) (i64.wrap (Int.tdiv (i64.wrap ((i64.wrap ((i64.wrap (sy*(4294967296:Int)))+(i64.wrap (nt*(65536:Int)))))+Au)) x6)))) fun sO=>bnd (lY aU [sO]) fun DF=>bnd (bf (iz aU og) (sO,DF)) fun (wj,yQ)=>gd (0≤nf∧nf<(((((aS).length:Int)).toNat:Nat):Int)∧nf<((vG).length:Int)) (bnd (im og yQ) fun M0=>some (.inl (M0,i64.wrap (nf - (1:Int)),(vG).set ((nf).toNat) wj))))))) (some (.inr (eh,vG)))
def iB(aS:List Int)(aU:List Int):Option ((List Int)×(List Int)):=gd (0≤((aS).length:Int)∧((aS).length:Int)≤1000000) (gd (0≤i64.wrap (((aU).length:Int) - (1:Int))∧i64.wrap (((aU).length:Int) - (1:Int))<((aU).length:Int)) (bnd (iC aU (i64.wrap (((aU).length:Int) - (2:Int)))) fun x4=>bnd (some (i64.wrap ((i64.wrap (((aU)[(i64.wrap (((aU).length:Int) - (1:Int))).toNat]!)*(65536:Int)))+x4))) fun x6=>bnd (some (i64.wrap (((aS).length:Int) - (1:Int)))) fun x8=>bnd (bf (iA aS aU x6) (([]:List Int),x8,List.replicate (((aS).length:Int)).toNat (0:Int))) fun (yV,wm)=>gd ((((aS).length:Int)).toNat=(wm).length) (bnd (fQ wm) fun IT=>some (IT,yV))))
theorem uV {aS:List Int}{aU:List Int}{r:(List Int)×(List Int)}(h:iB aS aU=some r):aB prog 154 [dL (cI .i64) aS,dL (cI .i64) aU] (.tu [dL (cI .i64) r.1,dL (cI .i64) r.2]):=by
 refine bC (rs:=[.tmp 4,.tmp 5]) (fun cx hx h0=>?_) func154
 unfold iB at h
 refine rs hx fun K hK=>?_
 refine s1 (d:=dO 0 (cI .i64) ([]:List Int)) (eZ cz aT) ?_
 refine s1 (d:=dO 1 (cI .i64) ([]:List Int)) (eZ cz aT) ?_
 refine nl hK ?_
 refine rs hx fun K hK=>?_
 iterate 2 refine sa ?_
 obtain⟨G0,h⟩:=az h
 refine q1 (sMk (c:=(cI .i64)) (z0:=(0:Int)) tok G0 cz aT (by first|rfl|kernel_rfl)) ?_
 refine nbi hK ?_
 refine ra hx ?_
 refine rsd [175] hx fun K hK=>?_
 iterate 3 refine sa ?_
 obtain⟨pg,h⟩:=az h
 have rz:(i64.wrap (((aU).length:Int) - (1:Int))).toNat<(aU).length:=by omega
 refine sbi ?_
 refine s1 (qv (c:=(cI .i64)) (l:=aU) (n:=(i64.wrap (((aU).length:Int) - (1:Int))).toNat) (o:=0) aT rz) ?_
 refine mbi ?_
 refine cqb h tG fun x4 h=>?_
 refine sa ?_
 obtain⟨x6,td,h⟩:=ah h
 replace td:=cP td
 refine s2 (d2:=dI .i64 x6) l9 (gv (congrArg (dI .i64) td)) ?_
 refine nl hK ?_
 refine rs hx fun K hK=>?_
 refine s1 (d:=dO 3 (cI .i64) ([]:List Int)) (eZ cz aT) ?_
 refine nl hK ?_
 refine AW.seq (rs hx fun K hK=>?_)
 iterate 3 refine sa ?_
 obtain⟨x8,IW,h⟩:=ah h
 replace IW:=cP IW
 refine s2 (d2:=dI .i64 x8) l9 (gv (congrArg (dI .i64) IW)) ?_
 refine nl hK ?_
 refine AW.block ?_
 obtain⟨y,hy,h⟩:=ah h
 refine lp (S:=(List Int)×Int×(List Int)) (X:=(List Int)×(List Int)) (fun (eh,nf,vG)=>[(0,dL (cI .i64) aS),(1,dL (cI .i64) aU),(6,.ow 0 0 1 ((((aS).length:Int)).toNat)),(7,dI .i64 ((aU).length:Int)),(8,dI .i64 x6),(9,dL (cI .i64) eh),(10,dI .i64 nf)]) (fun (eh,nf,vG)=>⟨[(0,dC ((cW (cI .i64)).f vG))],[],1⟩) (PE cx (.exit 0) (fun (yV,wm)=>[(6,.ow 0 0 1 ((((aS).length:Int)).toNat)),(9,dL (cI .i64) yV)]) fun (yV,wm)=>⟨[(0,dC ((cW (cI .i64)).f wm))],[],1⟩) hy ?_ ?_ ?_
 exact wk h0 [2] (wR rfl (wR rfl (wR rfl (wR rfl (wR rfl (wT rfl (sd _) rfl rfl (wR rfl wTn))))))) (vC rfl wVn) wLn
 clear hy h
 rintro⟨eh,nf,vG⟩ y h
 dsimp only[iA] at h
 refine AW.seq (ra hx ?_)
 refine cdh h rfl (fun eH h=>?_) (fun eH h=>?_)
 refine AW.skip (AW.seq (AW.block (rs hx fun K hK=>?_)))
 iterate 2 refine sa ?_
 obtain⟨vb,h⟩:=az h
 have zY:(nf).toNat<(aS).length:=by omega
 refine sbi ?_
 refine s1 (qv (c:=(cI .i64)) (l:=aS) (n:=(nf).toNat) (o:=0) aT zY) ?_
 refine s1 (d:=dO 1 (cI .i64) [(aS)[(nf).toNat]!]) (iI cz aT) ?_
 refine sa ?_
 obtain⟨Ck,h⟩:=az h
 refine s1 (d:=dO 1 (cI .i64) ([(aS)[(nf).toNat]!]++eh)) (gc cz aT Ck) ?_
 refine scb h kS fun og h=>?_
 refine nbi hK ?_
 refine rs hx fun K hK=>?_
 refine mbi ?_
 refine scb h tG fun sy h=>?_
 refine mbi ?_
 refine scb h tG fun nt h=>?_
 refine mbi ?_
 refine scb h tG fun Au h=>?_
 iterate 2 refine sa ?_
 obtain⟨Cj,h⟩:=az h
 refine s1 (E4 Cj) ?_
 refine sa ?_
 obtain⟨sO,Jy,h⟩:=ah h
 replace Jy:=cP Jy
 refine s2 (d2:=dI .i64 sO) l9 (gv (congrArg (dI .i64) Jy)) ?_
 refine nl hK ?_
 refine rs hx fun K hK=>?_
 iterate 2 refine sa ?_
 refine s1 (d:=dO 2 (cI .i64) [sO]) (iI cz aT) ?_
 refine scb h wJ fun DF h=>?_
 refine nbi hK ?_
 refine AW.seq (AW.block ?_)
 obtain⟨y,hy,h⟩:=ah h
 refine lp (S:=Int×(List Int)) (X:=Int×(List Int)) (fun (nG,Dd)=>[(0,dL (cI .i64) aS),(1,dL (cI .i64) aU),(6,.ow 0 0 1 ((((aS).length:Int)).toNat)),(7,dI .i64 ((aU).length:Int)),(8,dI .i64 x6),(9,dL (cI .i64) og),(10,dI .i64 nf),(11,dI .i64 nG),(12,dL (cI .i64) Dd)]) (fun (nG,Dd)=>⟨[(0,dC ((cW (cI .i64)).f vG))],[],1⟩) (PE cx (.exit 2) (fun (wj,yQ)=>[(0,dL (cI .i64) aS),(1,dL (cI .i64) aU),(6,.ow 0 0 1 ((((aS).length:Int)).toNat)),(7,dI .i64 ((aU).length:Int)),(8,dI .i64 x6),(9,dL (cI .i64) og),(10,dI .i64 nf),(11,dI .i64 wj),(12,dL (cI .i64) yQ)]) fun (wj,yQ)=>⟨[(0,dC ((cW (cI .i64)).f vG))],[],1⟩) hy ?_ ?_ ?_
 exact wk0 h0 [0]
 clear hy h
 rintro⟨nG,Dd⟩ y h
 dsimp only[iz] at h
 refine AW.seq (rs hx fun K hK=>?_)
 refine mbi ?_
 refine scb h xY fun uC h=>?_
 refine nl hK ?_
 refine cdh h rfl (fun hb29 h=>?_) (fun hb29 h=>?_)
 refine AW.skip (AW.block (ra hx ?_))
 refine rq hx fun K hK=>?_
 refine mbi ?_
 refine scb h pZ fun KP h=>?_
 refine nbi hK ?_
 exact pel h h0 [0]
 exact AW.exit (per h h0 [0])
 obtain⟨wj,yQ⟩:=y
 refine lw0 ?_
 refine rs hx fun K hK=>?_
 iterate 3 refine sa ?_
 obtain⟨hc33,h⟩:=az h
 have hn34:(nf).toNat<(vG).length:=by omega
 refine s1 (sx ⟨hc33.1,hc33.2.1⟩ cz aT) ?_
 refine s0 (aN (b':=wj) (ao.seqW (cI .i64) vG ((nf).toNat) hn34) aT) ?_
 refine nl hK ?_
 refine rq hx fun K hK=>?_
 refine mbi ?_
 refine scb h pZ fun M0 h=>?_
 refine nbi hK ?_
 refine rb hx ?_
 exact pel h h0 [0]
 exact AW.exit (per h h0 [0])
 obtain⟨yV,wm⟩:=y
 refine lw0 ?_
 refine rs hx fun K hK=>?_
 refine sa ?_
 obtain⟨hc38,h⟩:=az h
 refine fzO (cI .i64) (n:=(((aS).length:Int)).toNat) 0 [6,81] hc38 ?_ (all2 rfl (all1 rfl))
 refine scb h kS fun IT h=>?_
 refine nbi hK ?_
 refine AW.ret ?_
 cases h
 exact rv2
def i1 :Int×Int→Option ((Int×Int)⊕Int):=fun (kC,AU)=>cnd (decide (AU≠(0:Int))) (gd (AU≠0) (some (.inl (AU,Int.tmod kC AU)))) (some (.inr kC))
def iZ :(List Int)×(List Int)→Option (((List Int)×(List Int))⊕((List Int))):=fun (tv,C9)=>cnd (decide ((0:Int)<((C9).length:Int))) (bnd (iB tv C9) fun uN=>some (.inl (C9,uN.2))) (some (.inr tv))
def mD(aS:ay)(aU:ay):Option ay:=bnd (dq aS) fun x1=>bnd (dq aU) fun x3=>bnd (S:=Bool) (cnd x1.2 (some (x3.2)) (some (false))) fun aL=>cnd aL (bnd (bf (i1) (x1.1,x3.1)) fun yW=>bnd (jF yW) fun qx=>bnd (qn qx) fun lw=>some lw) (bnd (S:=Bool) (bnd (bK aS) fun sQ=>cnd (!sQ) (some (true)) (bnd (bK aU) fun nt=>some (!nt))) fun nG=>cnd nG (bnd (f7) fun rQ=>some rQ) (bnd (bS aS) fun Dz=>bnd (bS aU) fun x26=>bnd (bf (iZ) (Dz,x26)) fun yL=>bnd (cN false yL) fun M1=>some M1))
theorem uW {aS:ay}{aU:ay}{r:ay}(h:mD aS aU=some r):aB prog 120 [dG an aS,dG an aU] (dG an r):=by
 refine bC (rs:=[.cell 4 32]) (fun cx hx h0=>?_) func120
 unfold mD at h
 refine rai hx ?_
 refine rs hx fun K hK=>?_
 refine mbi ?_
 refine scb h i3 fun x1 h=>?_
 refine nbi hK ?_
 refine rs hx fun K hK=>?_
 refine mbi ?_
 refine scb h i3 fun x3 h=>?_
 refine nbi hK ?_
 iterate 2 refine AW.seq ?_
 obtain⟨aL,hy,h⟩:=ah h
 refine jn ((PE cx .normal (fun aL=>[(2,.pt 0 0),(3,.pt 1 0),(4,.pt 2 0),(5,dI .i64 x1.1),(7,dI .i64 x3.1),(27,dB aL)]) fun aL=>⟨[(0,dC (an.f aS)),(1,dC (an.f aU)),(2,dC (an.f bu))],[],3⟩) aL) ?_ ?_
 replace h:=hy
 refine rq hx fun K hK=>?_
 refine mbi ?_
 rcases cnd_s h with⟨iO,h⟩|⟨iO,h⟩
 refine nbi hK ?_
 exact pe1 h h0 [0,1,2]
 refine nbi hK ?_
 exact pe1 h h0 [0,1,2]
 refine lw0 ?_
 refine cdh h rfl (fun nh h=>?_) (fun nh h=>?_)
 refine AW.seq (AW.block ?_)
 obtain⟨yW,hy,h⟩:=ah h
 refine lp (S:=Int×Int) (X:=Int) (fun (kC,AU)=>[(4,.pt 0 0),(5,dI .i64 kC),(7,dI .i64 AU)]) (fun (kC,AU)=>⟨[(0,dC (an.f bu))],[],1⟩) (PE cx (.exit 0) (fun yW=>[(4,.pt 0 0),(5,dI .i64 yW)]) fun yW=>⟨[(0,dC (an.f bu))],[],1⟩) hy ?_ ?_ ?_
 exact wk0 h0 [2]
 clear hy h
 rintro⟨kC,AU⟩ y h
 dsimp only[i1] at h
 refine AW.seq (ra hx ?_)
 refine cdh h rfl (fun py h=>?_) (fun py h=>?_)
 refine AW.skip (AW.block (rs hx fun K hK=>?_))
 iterate 2 refine sa ?_
 obtain⟨hc9,h⟩:=az h
 refine s1 (Dg hc9) ?_
 refine nbi hK ?_
 refine ra hx ?_
 refine rb hx ?_
 exact pel h h0 [0]
 exact AW.exit (per h h0 [0])
 refine lw0 ?_
 refine rs hx fun K hK=>?_
 refine sa ?_
 refine scb h pF fun qx h=>?_
 refine scb h He fun lw h=>?_
 refine nbi hK ?_
 exact AW.ret (rtv h)
 refine AW.skip ?_
 iterate 2 refine AW.seq ?_
 obtain⟨nG,hy,h⟩:=ah h
 refine jn ((PE cx .normal (fun nG=>[(2,.pt 0 0),(3,.pt 1 0),(4,.pt 2 0),(45,dB nG)]) fun nG=>⟨[(0,dC (an.f aS)),(1,dC (an.f aU)),(2,dC (an.f bu))],[],3⟩) nG) ?_ ?_
 replace h:=hy
 refine rq hx fun K hK=>?_
 refine mbi ?_
 refine scb h c8 fun sQ h=>?_
 refine mbi ?_
 rcases cnd_s h with⟨oG,h⟩|⟨oG,h⟩
 refine nbi hK ?_
 exact pe1 h h0 [0,1,2]
 refine gbi ?_
 refine gcb h c8 fun nt h=>?_
 refine nbi hK ?_
 exact pe1 h h0 [0,1,2]
 refine lw0 ?_
 refine cdh h rfl (fun FR h=>?_) (fun FR h=>?_)
 refine rs hx fun K hK=>?_
 refine scb h kG fun rQ h=>?_
 refine nbi hK ?_
 exact AW.ret (rtv h)
 refine AW.skip (rs hx fun K hK=>?_)
 refine mbi ?_
 refine scb h dv fun Dz h=>?_
 refine nbi hK ?_
 refine rs hx fun K hK=>?_
 refine mbi ?_
 refine scb h dv fun x26 h=>?_
 refine nbi hK ?_
 refine AW.seq (AW.block ?_)
 obtain⟨yL,hy,h⟩:=ah h
 refine lp (S:=(List Int)×(List Int)) (X:=(List Int)) (fun (tv,C9)=>[(4,.pt 0 0),(10,dL (cI .i64) tv),(11,dL (cI .i64) C9)]) (fun (tv,C9)=>⟨[(0,dC (an.f bu))],[],1⟩) (PE cx (.exit 2) (fun yL=>[(4,.pt 0 0),(10,dL (cI .i64) yL)]) fun yL=>⟨[(0,dC (an.f bu))],[],1⟩) hy ?_ ?_ ?_
 exact wk0 h0 [2]
 clear hy h
 rintro⟨tv,C9⟩ y h
 dsimp only[iZ] at h
 refine AW.seq (ra hx ?_)
 refine cdh h rfl (fun hb28 h=>?_) (fun hb28 h=>?_)
 refine AW.skip (AW.block (rs hx fun K hK=>?_))
 refine mbi ?_
 refine scb h uV fun uN h=>?_
 refine nbi hK ?_
 refine ra hx ?_
 refine rb hx ?_
 exact pel h h0 [0]
 exact AW.exit (per h h0 [0])
 refine lw0 ?_
 refine rs hx fun K hK=>?_
 refine sa ?_
 refine scb h eU fun M1 h=>?_
 refine nbi hK ?_
 exact AW.ret (rtv h)
def nB(ce:Int)(cQ:Int):Option Int:=gd (cQ≠0) (bnd (S:=Int) (bnd (S:=Bool) (gd (cQ≠0) (cnd (decide ((Int.tmod ce cQ)≠(0:Int))) (some (!((decide (ce<(0:Int))) == (decide (cQ<(0:Int)))))) (some (false)))) fun be=>cnd be (bnd (some (i64.wrap ((i64.wrap (Int.tdiv ce cQ)) - (1:Int)))) fun x6=>some (x6)) (some (i64.wrap (Int.tdiv ce cQ)))) fun jy=>some jy)
theorem DO {ce:Int}{cQ:Int}{r:Int}(h:nB ce cQ=some r):aB prog 170 [dI .i64 ce,dI .i64 cQ] (dI .i64 r):=by
 refine bC (rs:=[.tmp 4]) (fun cx hx h0=>?_) func170
 unfold nB at h
 refine ra hx ?_
 refine rs hx fun K hK=>?_
 iterate 2 refine sa ?_
 obtain⟨G0,h⟩:=az h
 refine s1 (E4 G0) ?_
 refine nbi hK ?_
 refine AW.seq ?_
 obtain⟨jy,hy,h⟩:=ah h
 refine jn ((PE cx .normal (fun jy=>[(5,dI .i64 jy)]) fun jy=>⟨[],[],0⟩) jy) ?_ ?_
 replace h:=hy
 refine AW.seq ?_
 obtain⟨be,hy,h⟩:=ah h
 refine jn ((PE cx .normal (fun be=>[(5,dI .i64 (i64.wrap (Int.tdiv ce cQ))),(19,dB be)]) fun be=>⟨[],[],0⟩) be) ?_ ?_
 replace h:=hy
 refine rq hx fun K hK=>?_
 iterate 2 refine sa ?_
 obtain⟨pg,h⟩:=az h
 refine s1 (Dg pg) ?_
 refine mbi ?_
 rcases cnd_s h with⟨a8,h⟩|⟨a8,h⟩
 refine nbi hK ?_
 exact pe1 h h0 []
 refine nbi hK ?_
 exact pe1 h h0 []
 refine lw0 ?_
 refine cdh h rfl (fun iO h=>?_) (fun iO h=>?_)
 refine rq hx fun K hK=>?_
 iterate 2 refine sa ?_
 obtain⟨x6,td,h⟩:=ah h
 replace td:=cP td
 refine s2 (d2:=dI .i64 x6) l9 (gv (congrArg (dI .i64) td)) ?_
 refine nl hK ?_
 exact pe1 h h0 []
 exact AW.skip (pe1 h h0 [])
 refine lw0 ?_
 refine ra hx ?_
 exact AW.ret (rtv h)
def kJ(aS:ay)(aU:ay):Option ay:=bnd (dq aS) fun x1=>bnd (dq aU) fun x3=>bnd (S:=Bool) (cnd x1.2 (cnd x3.2 (some (decide (x3.1≠(0:Int)))) (some (false))) (some (false))) fun aL=>cnd aL (bnd (nB x1.1 x3.1) fun x9=>bnd (jF x9) fun qx=>some qx) (bnd (S:=Bool) (bnd (bK aS) fun lw=>cnd (!lw) (some (true)) (bnd (bK aU) fun sy=>cnd (!sy) (some (true)) (bnd (bS aU) fun sP=>some (decide (((sP).length:Int)=(0:Int)))))) fun aK=>cnd aK (bnd (f7) fun sO=>some sO) (bnd (bS aS) fun DF=>bnd (bS aU) fun uC=>bnd (iB DF uC) fun uN=>bnd (S:=(List Int)) (bnd (S:=Bool) (cnd (!(aS.vNeg == aU.vNeg)) (some (decide ((0:Int)<((uN.2).length:Int)))) (some (false))) fun tx=>cnd tx (bnd (lg uN.1 [(1:Int)]) fun Nd=>some (Nd)) (some (uN.1))) fun rM=>bnd (cN (!(aS.vNeg == aU.vNeg)) rM) fun wz=>some wz))
theorem rV {aS:ay}{aU:ay}{r:ay}(h:kJ aS aU=some r):aB prog 133 [dG an aS,dG an aU] (dG an r):=by
 refine bC (rs:=[.cell 4 32]) (fun cx hx h0=>?_) func133
 unfold kJ at h
 refine rai hx ?_
 refine rs hx fun K hK=>?_
 refine mbi ?_
 refine scb h i3 fun x1 h=>?_
 refine nbi hK ?_
 refine rs hx fun K hK=>?_
 refine mbi ?_
 refine scb h i3 fun x3 h=>?_
 refine nbi hK ?_
 iterate 2 refine AW.seq ?_
 obtain⟨aL,hy,h⟩:=ah h
 refine jn ((PE cx .normal (fun aL=>[(2,.pt 0 0),(3,.pt 1 0),(4,.pt 2 0),(5,dI .i64 x1.1),(7,dI .i64 x3.1),(28,dB aL)]) fun aL=>⟨[(0,dC (an.f aS)),(1,dC (an.f aU)),(2,dC (an.f bu))],[],3⟩) aL) ?_ ?_
 replace h:=hy
 refine rq hx fun K hK=>?_
 refine mbi ?_
 rcases cnd_s h with⟨iO,h⟩|⟨iO,h⟩
 refine mbi ?_
 rcases cnd_s h with⟨bU,h⟩|⟨bU,h⟩
 refine nbi hK ?_
 exact pe1 h h0 [0,1,2]
 refine nbi hK ?_
 exact pe1 h h0 [0,1,2]
 refine nbi hK ?_
 exact pe1 h h0 [0,1,2]
 refine lw0 ?_
 refine cdh h rfl (fun py h=>?_) (fun py h=>?_)
 refine rs hx fun K hK=>?_
 refine mbi ?_
 refine scb h DO fun x9 h=>?_
 refine scb h pF fun qx h=>?_
 refine nbi hK ?_
 exact AW.ret (rtv h)
 refine AW.skip ?_
 iterate 2 refine AW.seq ?_
 obtain⟨aK,hy,h⟩:=ah h
 refine jn ((PE cx .normal (fun aK=>[(2,.pt 0 0),(3,.pt 1 0),(4,.pt 2 0),(46,dB aK)]) fun aK=>⟨[(0,dC (an.f aS)),(1,dC (an.f aU)),(2,dC (an.f bu))],[],3⟩) aK) ?_ ?_
 replace h:=hy
 refine rq hx fun K hK=>?_
 refine mbi ?_
 refine scb h c8 fun lw h=>?_
 refine mbi ?_
 rcases cnd_s h with⟨sH,h⟩|⟨sH,h⟩
 refine nbi hK ?_
 exact pe1 h h0 [0,1,2]
 refine gbi ?_
 refine gcb h c8 fun sy h=>?_
 refine mbi ?_
 rcases cnd_s h with⟨pl,h⟩|⟨pl,h⟩
 refine nbi hK ?_
 exact pe1 h h0 [0,1,2]
 refine gbi ?_
 refine gcb h dv fun sP h=>?_
 refine nbi hK ?_
 exact pe1 h h0 [0,1,2]
 refine lw0 ?_
 refine cdh h rfl (fun uK h=>?_) (fun uK h=>?_)
 refine rs hx fun K hK=>?_
 refine scb h kG fun sO h=>?_
 refine nbi hK ?_
 exact AW.ret (rtv h)
 refine AW.skip (rsd [124,154] hx fun K hK=>?_)
 refine mbi ?_
 refine cqb h dv fun DF h=>?_
 refine mbi ?_
 refine cqb h dv fun uC h=>?_
 refine cqb h uV fun uN h=>?_
 refine nbi hK ?_
 refine AW.seq ?_
 obtain⟨rM,hy,h⟩:=ah h
 refine jn ((PE cx .normal (fun rM=>[(2,.pt 0 0),(3,.pt 1 0),(4,.pt 2 0),(9,dL (cI .i64) rM)]) fun rM=>⟨[(0,dC (an.f aS)),(1,dC (an.f aU)),(2,dC (an.f bu))],[],3⟩) rM) ?_ ?_
 replace h:=hy
 refine AW.seq ?_
 obtain⟨tx,hy,h⟩:=ah h
 refine jn ((PE cx .normal (fun tx=>[(2,.pt 0 0),(3,.pt 1 0),(4,.pt 2 0),(9,dL (cI .i64) uN.1),(65,dB tx)]) fun tx=>⟨[(0,dC (an.f aS)),(1,dC (an.f aU)),(2,dC (an.f bu))],[],3⟩) tx) ?_ ?_
 replace h:=hy
 refine rq hx fun K hK=>?_
 refine mbi ?_
 rcases cnd_s h with⟨tg,h⟩|⟨tg,h⟩
 refine nbi hK ?_
 exact pe1 h h0 [0,1,2]
 refine nbi hK ?_
 exact pe1 h h0 [0,1,2]
 refine lw0 ?_
 refine cdh h rfl (fun hb33 h=>?_) (fun hb33 h=>?_)
 refine rq hx fun K hK=>?_
 refine sa ?_
 refine s1 (d:=dO 3 (cI .i64) [(1:Int)]) (iI cz aT) ?_
 refine scb h tF fun Nd h=>?_
 refine nbi hK ?_
 exact pe1 h h0 [0,1,2]
 exact AW.skip (pe1 h h0 [0,1,2])
 refine lw0 ?_
 refine rs hx fun K hK=>?_
 refine mbi ?_
 refine scb h eU fun wz h=>?_
 refine nbi hK ?_
 exact AW.ret (rtv h)
def jj(ce:Int):Option Bool:=bnd (S:=Bool) (cnd (decide (ce<(2147483648:Int))) (some (decide ((-2147483648:Int)<ce))) (some (false))) fun gF=>some gF
theorem xZ {ce:Int}{r:Bool}(h:jj ce=some r):aB prog 150 [dI .i64 ce] (dB r):=by
 refine bC (rs:=[.tmp 2]) (fun cx hx h0=>?_) func150
 unfold jj at h
 refine ra hx ?_
 refine AW.seq ?_
 obtain⟨gF,hy,h⟩:=ah h
 refine jn ((PE cx .normal (fun gF=>[(2,dB gF)]) fun gF=>⟨[],[],0⟩) gF) ?_ ?_
 replace h:=hy
 refine rq hx fun K hK=>?_
 refine mbi ?_
 rcases cnd_s h with⟨cE,h⟩|⟨cE,h⟩
 refine nbi hK ?_
 exact pe1 h h0 []
 refine nbi hK ?_
 exact pe1 h h0 []
 refine lw0 ?_
 exact AW.ret (rtv h)
def jm(aS:ay)(aU:ay):Option ay:=bnd (dq aS) fun x1=>bnd (dq aU) fun x3=>bnd (S:=Bool) (cnd x1.2 (cnd x3.2 (bnd (jj x1.1) fun x7=>cnd x7 (bnd (jj x3.1) fun fb=>some (fb)) (some (false))) (some (false))) (some (false))) fun aL=>cnd aL (bnd (jF (i64.wrap (x1.1*x3.1))) fun og=>some og) (bnd (S:=Bool) (bnd (bK aS) fun sy=>cnd (!sy) (some (true)) (bnd (bK aU) fun sP=>some (!sP))) fun aK=>cnd aK (bnd (f7) fun sO=>some sO) (bnd (bS aS) fun DF=>bnd (bS aU) fun uC=>bnd (lY DF uC) fun uN=>bnd (cN (!(aS.vNeg == aU.vNeg)) uN) fun IU=>some IU))
theorem qf {aS:ay}{aU:ay}{r:ay}(h:jm aS aU=some r):aB prog 117 [dG an aS,dG an aU] (dG an r):=by
 refine bC (rs:=[.cell 4 32]) (fun cx hx h0=>?_) func117
 unfold jm at h
 refine rai hx ?_
 refine rs hx fun K hK=>?_
 refine mbi ?_
 refine scb h i3 fun x1 h=>?_
 refine nbi hK ?_
 refine rs hx fun K hK=>?_
 refine mbi ?_
 refine scb h i3 fun x3 h=>?_
 refine nbi hK ?_
 iterate 2 refine AW.seq ?_
 obtain⟨aL,hy,h⟩:=ah h
 refine jn ((PE cx .normal (fun aL=>[(2,.pt 0 0),(3,.pt 1 0),(4,.pt 2 0),(5,dI .i64 x1.1),(7,dI .i64 x3.1),(30,dB aL)]) fun aL=>⟨[(0,dC (an.f aS)),(1,dC (an.f aU)),(2,dC (an.f bu))],[],3⟩) aL) ?_ ?_
 replace h:=hy
 refine rq hx fun K hK=>?_
 refine mbi ?_
 rcases cnd_s h with⟨iO,h⟩|⟨iO,h⟩
 refine mbi ?_
 rcases cnd_s h with⟨bU,h⟩|⟨bU,h⟩
 refine ga bU ?_
 refine gcb h xZ fun x7 h=>?_
 refine mbi ?_
 rcases cnd_s h with⟨v9,h⟩|⟨v9,h⟩
 refine ga v9 ?_
 refine gcb h xZ fun fb h=>?_
 refine nbi hK ?_
 exact pe1 h h0 [0,1,2]
 refine nbi hK ?_
 exact pe1 h h0 [0,1,2]
 refine nbi hK ?_
 exact pe1 h h0 [0,1,2]
 refine nbi hK ?_
 exact pe1 h h0 [0,1,2]
 refine lw0 ?_
 refine cdh h rfl (fun xu h=>?_) (fun xu h=>?_)
 refine rs hx fun K hK=>?_
 refine mbi ?_
 refine scb h pF fun og h=>?_
 refine nbi hK ?_
 exact AW.ret (rtv h)
 refine AW.skip ?_
 iterate 2 refine AW.seq ?_
 obtain⟨aK,hy,h⟩:=ah h
 refine jn ((PE cx .normal (fun aK=>[(2,.pt 0 0),(3,.pt 1 0),(4,.pt 2 0),(42,dB aK)]) fun aK=>⟨[(0,dC (an.f aS)),(1,dC (an.f aU)),(2,dC (an.f bu))],[],3⟩) aK) ?_ ?_
 replace h:=hy
 refine rq hx fun K hK=>?_
 refine mbi ?_
 refine scb h c8 fun sy h=>?_
 refine mbi ?_
 rcases cnd_s h with⟨pl,h⟩|⟨pl,h⟩
 refine nbi hK ?_
 exact pe1 h h0 [0,1,2]
 refine gbi ?_
 refine gcb h c8 fun sP h=>?_
 refine nbi hK ?_
 exact pe1 h h0 [0,1,2]
 refine lw0 ?_
 refine cdh h rfl (fun uK h=>?_) (fun uK h=>?_)
 refine rs hx fun K hK=>?_
 refine scb h kG fun sO h=>?_
 refine nbi hK ?_
 exact AW.ret (rtv h)
 refine AW.skip (rsd [124,151,147] hx fun K hK=>?_)
 refine mbi ?_
 refine cqb h dv fun DF h=>?_
 refine mbi ?_
 refine cqb h dv fun uC h=>?_
 refine cqb h wJ fun uN h=>?_
 refine cqb h eU fun IU h=>?_
 refine nbi hK ?_
 exact AW.ret (rtv h)
def kK(aS:ay)(aU:ay):Option ay:=bnd (dq aS) fun x1=>bnd (dq aU) fun x3=>bnd (S:=Bool) (cnd x1.2 (some (x3.2)) (some (false))) fun aL=>cnd aL (bnd (jF (i64.wrap (x1.1+x3.1))) fun x8=>some x8) (bnd (S:=Bool) (bnd (bK aS) fun fb=>cnd (!fb) (some (true)) (bnd (bK aU) fun lw=>some (!lw))) fun aK=>cnd aK (bnd (f7) fun ny=>some ny) (bnd (bS aS) fun sP=>bnd (bS aU) fun uP=>cnd (aS.vNeg == aU.vNeg) (bnd (lg sP uP) fun Dz=>bnd (cN aS.vNeg Dz) fun x26=>some x26) (bnd (mW sP uP) fun Nf=>cnd Nf (bnd (im uP sP) fun IU=>bnd (cN aU.vNeg IU) fun ze=>some ze) (bnd (im sP uP) fun M0=>bnd (cN aS.vNeg M0) fun wz=>some wz))))
theorem Hd {aS:ay}{aU:ay}{r:ay}(h:kK aS aU=some r):aB prog 134 [dG an aS,dG an aU] (dG an r):=by
 refine bC (rs:=[.cell 4 32]) (fun cx hx h0=>?_) func134
 unfold kK at h
 refine rai hx ?_
 refine rs hx fun K hK=>?_
 refine mbi ?_
 refine scb h i3 fun x1 h=>?_
 refine nbi hK ?_
 refine rs hx fun K hK=>?_
 refine mbi ?_
 refine scb h i3 fun x3 h=>?_
 refine nbi hK ?_
 iterate 2 refine AW.seq ?_
 obtain⟨aL,hy,h⟩:=ah h
 refine jn ((PE cx .normal (fun aL=>[(2,.pt 0 0),(3,.pt 1 0),(4,.pt 2 0),(5,dI .i64 x1.1),(7,dI .i64 x3.1),(25,dB aL)]) fun aL=>⟨[(0,dC (an.f aS)),(1,dC (an.f aU)),(2,dC (an.f bu))],[],3⟩) aL) ?_ ?_
 replace h:=hy
 refine rq hx fun K hK=>?_
 refine mbi ?_
 rcases cnd_s h with⟨iO,h⟩|⟨iO,h⟩
 refine nbi hK ?_
 exact pe1 h h0 [0,1,2]
 refine nbi hK ?_
 exact pe1 h h0 [0,1,2]
 refine lw0 ?_
 refine cdh h rfl (fun nh h=>?_) (fun nh h=>?_)
 refine rs hx fun K hK=>?_
 refine mbi ?_
 refine scb h pF fun x8 h=>?_
 refine nbi hK ?_
 exact AW.ret (rtv h)
 refine AW.skip ?_
 iterate 2 refine AW.seq ?_
 obtain⟨aK,hy,h⟩:=ah h
 refine jn ((PE cx .normal (fun aK=>[(2,.pt 0 0),(3,.pt 1 0),(4,.pt 2 0),(37,dB aK)]) fun aK=>⟨[(0,dC (an.f aS)),(1,dC (an.f aU)),(2,dC (an.f bu))],[],3⟩) aK) ?_ ?_
 replace h:=hy
 refine rq hx fun K hK=>?_
 refine mbi ?_
 refine scb h c8 fun fb h=>?_
 refine mbi ?_
 rcases cnd_s h with⟨mw,h⟩|⟨mw,h⟩
 refine nbi hK ?_
 exact pe1 h h0 [0,1,2]
 refine gbi ?_
 refine gcb h c8 fun lw h=>?_
 refine nbi hK ?_
 exact pe1 h h0 [0,1,2]
 refine lw0 ?_
 refine cdh h rfl (fun FT h=>?_) (fun FT h=>?_)
 refine rs hx fun K hK=>?_
 refine scb h kG fun ny h=>?_
 refine nbi hK ?_
 exact AW.ret (rtv h)
 refine AW.skip (rs hx fun K hK=>?_)
 refine mbi ?_
 refine scb h dv fun sP h=>?_
 refine nbi hK ?_
 refine rs hx fun K hK=>?_
 refine mbi ?_
 refine scb h dv fun uP h=>?_
 refine nbi hK ?_
 refine AW.seq (rai hx ?_)
 refine cdh h rfl (fun hb23 h=>?_) (fun hb23 h=>?_)
 refine rsd [148,147] hx fun K hK=>?_
 refine mbi ?_
 refine cqb h tF fun Dz h=>?_
 refine cqb h eU fun x26 h=>?_
 refine nbi hK ?_
 exact AW.ret (rtv h)
 refine AW.skip (rs hx fun K hK=>?_)
 refine mbi ?_
 refine scb h xY fun Nf h=>?_
 refine nbi hK ?_
 refine AW.seq (ra hx ?_)
 refine cdh h rfl (fun Pe h=>?_) (fun Pe h=>?_)
 refine rsd [172,147] hx fun K hK=>?_
 refine mbi ?_
 refine cqb h pZ fun IU h=>?_
 refine cqb h eU fun ze h=>?_
 refine nbi hK ?_
 exact AW.ret (rtv h)
 refine AW.skip (rsd [172,147] hx fun K hK=>?_)
 refine mbi ?_
 refine cqb h pZ fun M0 h=>?_
 refine cqb h eU fun wz h=>?_
 refine nbi hK ?_
 exact AW.ret (rtv h)
def qm(bm:ay):Option ay:=bnd (bK bm) fun x1=>cnd (!x1) (bnd (f7) fun x4=>some x4) (bnd (bS bm) fun x6=>bnd (cN (!bm.vNeg) x6) fun x8=>some x8)
theorem Hc {bm:ay}{r:ay}(h:qm bm=some r):aB prog 123 [dG an bm] (dG an r):=by
 refine bC (rs:=[.cell 2 32]) (fun cx hx h0=>?_) func123
 unfold qm at h
 refine rai hx ?_
 refine AW.seq (rs hx fun K hK=>?_)
 refine mbi ?_
 refine scb h c8 fun x1 h=>?_
 refine nbi hK ?_
 refine cdh h rfl (fun a8 h=>?_) (fun a8 h=>?_)
 refine rs hx fun K hK=>?_
 refine scb h kG fun x4 h=>?_
 refine nbi hK ?_
 exact AW.ret (rtv h)
 refine AW.skip (rsd [124,147] hx fun K hK=>?_)
 refine mbi ?_
 refine cqb h dv fun x6 h=>?_
 refine cqb h eU fun x8 h=>?_
 refine nbi hK ?_
 exact AW.ret (rtv h)
def lh(bm:ay):Option Int:=bnd (S:=Bool) (bnd (bK bm) fun x1=>cnd (!x1) (some (true)) (bnd (bS bm) fun x4=>some (decide (((x4).length:Int)=(0:Int))))) fun a7=>cnd a7 (some (0:Int)) (cnd bm.vNeg (some (-1:Int)) (some (1:Int)))
theorem tH {bm:ay}{r:Int}(h:lh bm=some r):aB prog 119 [dG an bm] (dI .i64 r):=by
 refine bC (rs:=[.tmp 2]) (fun cx hx h0=>?_) func119
 unfold lh at h
 refine ra hx ?_
 iterate 2 refine AW.seq ?_
 obtain⟨a7,hy,h⟩:=ah h
 refine jn ((PE cx .normal (fun a7=>[(1,.pt 0 0),(11,dB a7)]) fun a7=>⟨[(0,dC (an.f bm))],[],1⟩) a7) ?_ ?_
 replace h:=hy
 refine rq hx fun K hK=>?_
 refine mbi ?_
 refine scb h c8 fun x1 h=>?_
 refine mbi ?_
 rcases cnd_s h with⟨a8,h⟩|⟨a8,h⟩
 refine nbi hK ?_
 exact pe1 h h0 [0]
 refine gbi ?_
 refine gcb h dv fun x4 h=>?_
 refine nbi hK ?_
 exact pe1 h h0 [0]
 refine lw0 ?_
 refine cdh h rfl (fun nh h=>?_) (fun nh h=>?_)
 refine ra hx ?_
 exact AW.ret (rtv h)
 refine AW.skip (AW.seq (rai hx ?_))
 refine cdh h rfl (fun py h=>?_) (fun py h=>?_)
 refine ra hx ?_
 exact AW.ret (rtv h)
 refine AW.skip (ra hx ?_)
 exact AW.ret (rtv h)
def ql(gQ:List Int)(fj:Int):Option Int:=bnd (eb gQ (i64.wrap (Int.tdiv fj (16:Int)))) fun x1=>gd (0≤Int.tmod fj (16:Int)) (some (Int.tmod (mv .i64 x1 (Int.tmod fj (16:Int))) (2:Int)))
theorem Hb {gQ:List Int}{fj:Int}{r:Int}(h:ql gQ fj=some r):aB prog 125 [dL (cI .i64) gQ,dI .i64 fj] (dI .i64 r):=by
 refine bC (rs:=[.tmp 4]) (fun cx hx h0=>?_) func125
 unfold ql at h
 refine ra hx ?_
 refine rs hx fun K hK=>?_
 refine mbi ?_
 refine scb h gt fun x1 h=>?_
 iterate 2 refine sa ?_
 obtain⟨Pb,h⟩:=az h
 refine s1 (Ql Pb) ?_
 refine nbi hK ?_
 exact AW.ret (rtv h)
def mX(x4:List Int):Int→Option (Int⊕Int):=fun aK=>bnd (S:=Bool) (cnd (decide ((0:Int)<aK)) (bnd (ql x4 (i64.wrap (aK - (1:Int)))) fun x9=>some (decide (x9=(0:Int)))) (some (false))) fun od=>cnd od (some (.inl (i64.wrap (aK - (1:Int))))) (some (.inr aK))
def e8(bm:ay):Option Int:=bnd (bK bm) fun x1=>cnd (!x1) (some (0:Int)) (bnd (bS bm) fun x4=>bnd (some (i64.wrap ((16:Int)*((x4).length:Int)))) fun x6=>bnd (bf (mX x4) x6) fun bw=>some bw)
theorem ya {bm:ay}{r:Int}(h:e8 bm=some r):aB prog 83 [dG an bm] (dI .i64 r):=by
 refine bC (rs:=[.tmp 2]) (fun cx hx h0=>?_) func83
 unfold e8 at h
 refine ra hx ?_
 refine AW.seq (rs hx fun K hK=>?_)
 refine mbi ?_
 refine scb h c8 fun x1 h=>?_
 refine nbi hK ?_
 refine cdh h rfl (fun a8 h=>?_) (fun a8 h=>?_)
 refine ra hx ?_
 exact AW.ret (rtv h)
 refine AW.skip (rs hx fun K hK=>?_)
 refine mbi ?_
 refine scb h dv fun x4 h=>?_
 refine nbi hK ?_
 refine rs hx fun K hK=>?_
 iterate 3 refine sa ?_
 obtain⟨x6,td,h⟩:=ah h
 replace td:=cP td
 refine s2 (d2:=dI .i64 x6) l9 (gv (congrArg (dI .i64) td)) ?_
 refine nl hK ?_
 refine AW.seq (AW.block ?_)
 obtain⟨bw,hy,h⟩:=ah h
 refine lp (S:=Int) (X:=Int) (fun aK=>[(3,dL (cI .i64) x4),(4,dI .i64 aK)]) (fun aK=>⟨[],[],0⟩) (PE cx (.exit 0) (fun bw=>[(4,dI .i64 bw)]) fun bw=>⟨[],[],0⟩) hy ?_ ?_ ?_
 exact wk0 h0 []
 clear hy h
 rintro aK y h
 dsimp only[mX] at h
 iterate 2 refine AW.seq ?_
 obtain⟨od,hy,h⟩:=ah h
 refine jn ((PE cx .normal (fun od=>[(3,dL (cI .i64) x4),(4,dI .i64 aK),(21,dB od)]) fun od=>⟨[],[],0⟩) od) ?_ ?_
 replace h:=hy
 refine rq hx fun K hK=>?_
 refine mbi ?_
 rcases cnd_s h with⟨py,h⟩|⟨py,h⟩
 iterate 3 refine ga py ?_
 refine gcb h Hb fun x9 h=>?_
 refine nbi hK ?_
 exact pe1 h h0 []
 refine nbi hK ?_
 exact pe1 h h0 []
 refine lw0 ?_
 refine cdh h rfl (fun mw h=>?_) (fun mw h=>?_)
 refine AW.skip (AW.block (rb hx ?_))
 exact pel h h0 []
 exact AW.exit (per h h0 [])
 refine lw0 ?_
 refine ra hx ?_
 exact AW.ret (rtv h)
structure aj where
 vN:ay
 vD:ay
 deriving Inhabited,DecidableEq
abbrev cb:aj:=⟨bu,bu⟩
def ae:Cd aj:=⟨36,fun x=>an.f x.vN++an.f x.vD,fun x=>by simp[an.h,show an.sz=18 from rfl]⟩
theorem ct(x:aj):ao (ae.f x) an 0 x.vN (fun y=>ae.f (⟨y,x.vD⟩:aj)):=
 ao.of ([]) ((an).f x.vD) (by first|rfl|(simp[an.h];first|rfl|done)) (by first|rfl|simp[ae,cI,cB,cS,cL,gr]) (fun y=>by first|rfl|simp[ae,cI,cB,cS,cL,gr])
theorem bG(x:aj):ao (ae.f x) an 18 x.vD (fun y=>ae.f (⟨x.vN,y⟩:aj)):=
 ao.of ((an).f x.vN) ([]) (by first|rfl|(simp[an.h];first|rfl|done)) (by first|rfl|simp[ae,cI,cB,cS,cL,gr]) (fun y=>by first|rfl|simp[ae,cI,cB,cS,cL,gr])
section
variable {md:Md} {ops:Array Oper} {K:List (Nat×D)→Hp→Prop} {os:List Oper} {tm:List (Nat×D)} {hp hp':Hp} {t s:Tmp} {op:Op} {ty:TypeId} {pos:String} {af:Array Edge} {d d2:D} {j:Nat} {want c:Bool}
variable {dr:Bool} {ev:Operand→D}
theorem avr(h:AVC prog tbl dr op ty ev hp (Kq d hp'):=by (first|exact av|exact KV_l (ao.id _ _)|exact bq (F:=al_cV.f (cw)) aH|exact bg (bj _) tbI|exact bg (i5 _) tbI|exact aA (bi _) tbI|exact KV_l (bi _)|exact bq (F:=an.f (⟨false,false,(cw)⟩:ay)) qza0|exact aA (bG _) tbI|exact aA (ct _) tbI|exact bq (F:=ae.f (⟨(⟨false,false,(cw)⟩:ay),(⟨false,false,(cw)⟩:ay)⟩:aj)) ax|exact aG tbI|exact bb tbI)):AVC prog tbl dr op ty ev hp (Kq d hp'):=h
theorem sbr(h2:bT prog tbl md ops K os ((t,d)::tm) hp')(h:AVC prog tbl md.dr op ty (evD tm) hp (Kq d hp'):=by exact avr)(hn:md.nc tbl op=true:=by exact rfl):bT prog tbl md ops K (⟨some t,op,ty,pos,af,none⟩::os) tm hp:=st tok hn h h2
theorem tzr(h2:bT prog tbl md ops K os tm hp')(h:AVC prog tbl md.dr op ty (evD tm) hp (Kq .top hp'):=by (first|exact KV_s))(hn:md.nc tbl op=true:=by exact rfl):bT prog tbl md ops K (⟨none,op,ty,pos,af,none⟩::os) tm hp:=st_n tok hn h h2
theorem gbr(h2:bT prog tbl md ops K os ((t,d)::tm) hp')(hj:(ops[j]?).bind (·.dst)=some s:=by exact rfl)(hc:tm.lookup s=some (.e (.lit (.bool c))):=by exact rfl)(hw:c=want:=by (with_reducible first|rfl|assumption))(h:AVC prog tbl md.dr op ty (evD tm) hp (Kq d hp'):=by exact avr)(hn:md.nc tbl op=true:=by exact rfl):bT prog tbl md ops K (⟨some t,op,ty,pos,af,some (j,want)⟩::os) tm hp:=go_t tok hn hj hc hw h h2
theorem mbr {os':List Oper}{tm':List (Nat×D)}(h2:bT prog tbl md ops K os' tm' hp')(h:bT prog tbl md ops K os' tm' hp'→bT prog tbl md ops K os tm hp:=by (intro h;(repeat (first|refine sbr ?_|refine tzr ?_|refine gbr ?_|refine no_a ?_));exact h)):bT prog tbl md ops K os tm hp:=h h2
theorem nbr {R:List (Nat×D)→Hp→Prop}{tm':List (Nat×D)}(hK:∀tm hp,R tm hp→K tm hp)(h2:R tm' hp')(h:K tm' hp'→bT prog tbl md ops K os tm hp:=by (intro h;(repeat (first|refine sbr ?_|refine tzr ?_|refine gbr ?_|refine no_a ?_));exact .nil h)):bT prog tbl md ops K os tm hp:=h (hK _ _ h2)
end
section
variable {x:Cx} {tm:List (Nat×D)} {hp hp':Hp} {Q:Exit→List (Nat×D)→Hp→Prop}
theorem rar {n id:Nat}{l:List Oper}{b:Code}{tm':List (Nat×D)}(hx:x.N=n)(h2:AW prog x b tm' hp' Q)(h:∀K:List (Nat×D)→Hp→Prop,K tm' hp'→bT prog tbl .seq l.toArray K l tm hp:=by (intro K h;(repeat (first|refine sbr ?_|refine tzr ?_|refine gbr ?_|refine no_a ?_));exact .nil h))(hN:ku n l.toArray=true:=by kernel_rfl):AW prog x (.seq (.region id l.toArray false) b) tm hp Q:=rs hx (fun K hK=>h K (hK _ _ h2)) hN
theorem rbr {n id:Nat}{l:List Oper}{tm':List (Nat×D)}(hx:x.N=n)(h2:Q .normal tm' hp')(h:∀K:List (Nat×D)→Hp→Prop,K tm' hp'→bT prog tbl .seq l.toArray K l tm hp:=by (intro K h;(repeat (first|refine sbr ?_|refine tzr ?_|refine gbr ?_|refine no_a ?_));exact .nil h))(hN:ku n l.toArray=true:=by kernel_rfl):AW prog x (.region id l.toArray false) tm hp Q:=rq hx (fun K hK=>h K (hK _ _ h2)) hN
end
def BK(x:ay):List Value:=[Value.bool x.vBad]++([Value.bool x.vNeg]++((x.vW).toList.flatMap (fun x=>[Value.int .u32 x])++([])))
theorem gK:EqC tbl 3 32 an BK:=by
 refine EqC.struct (fs:=[(0,4),(1,4),(2,30)]) qza0 (fun x=>?_) (fun x=>by
  have q3:tj tbl (nU tbl 2) [] 18 []:=by unfold tj;rfl
  have q2:=rC (off:=2) (x:=x.vW) (EqC.arr (EqC.int (d:=0) aP) aH aP) aH rfl q3
  have q1:=rC (off:=1) (x:=x.vNeg) (EqC.bool (d:=1) fF) fF rfl q2
  have q0:=rC (off:=0) (x:=x.vBad) (EqC.bool (d:=1) fF) fF rfl q1
  exact q0) ?_
 ·have:=And.intro (And.intro ((EqC.bool (d:=1) fF).hf x.vBad) (And.intro ((EqC.bool (d:=1) fF).hf x.vNeg) (And.intro ((EqC.arr (EqC.int (d:=0) aP) aH aP).hf x.vW) (True.intro)))) True.intro
  simp only[BK,an,nd,cl,vo,gr]
  all_goals (first|rfl|(simp only[←(EqC.bool (d:=1) fF).hf,←(EqC.bool (d:=1) fF).hf,←(EqC.arr (EqC.int (d:=0) aP) aH aP).hf];try (first|rfl|simp[cI,cB])))
 ·skip
  intro x y h
  unfold BK at h
  obtain⟨e0,h⟩:=Af h (by rw[(EqC.bool (d:=1) fF).len,(EqC.bool (d:=1) fF).len])
  obtain⟨e1,h⟩:=Af h (by rw[(EqC.bool (d:=1) fF).len,(EqC.bool (d:=1) fF).len])
  obtain⟨e2,h⟩:=Af h (by rw[(EqC.arr (EqC.int (d:=0) aP) aH aP).len,(EqC.arr (EqC.int (d:=0) aP) aH aP).len])
  cases x;cases y
  simp only[ay.mk.injEq]
  exact⟨((EqC.bool (d:=1) fF).inj _ _).1 e0,((EqC.bool (d:=1) fF).inj _ _).1 e1,((EqC.arr (EqC.int (d:=0) aP) aH aP).inj _ _).1 e2⟩
def I6(x:aj):List Value:=BK x.vN++(BK x.vD++([]))
theorem qX:EqC tbl 4 34 ae I6:=by
 refine EqC.struct (fs:=[(0,32),(18,32)]) ax (fun x=>?_) (fun x=>by
  have q2:tj tbl (nU tbl 3) [] 36 []:=by unfold tj;rfl
  have q1:=rC (off:=18) (x:=x.vD) gK qza0 rfl q2
  have q0:=rC (off:=0) (x:=x.vN) gK qza0 rfl q1
  exact q0) ?_
 ·have:=And.intro (And.intro (gK.hf x.vN) (And.intro (gK.hf x.vD) (True.intro))) True.intro
  simp only[I6,ae,nd,cl,vo,gr]
  all_goals (first|rfl|(simp only[←gK.hf,←gK.hf];try (first|rfl|simp[cI,cB])))
 ·skip
  intro x y h
  unfold I6 at h
  obtain⟨e0,h⟩:=Af h (by rw[gK.len,gK.len])
  obtain⟨e1,h⟩:=Af h (by rw[gK.len,gK.len])
  cases x;cases y
  simp only[aj.mk.injEq]
  exact⟨(gK.inj _ _).1 e0,(gK.inj _ _).1 e1⟩
def jo(bm:ay):Option Bool:=bnd (S:=Bool) (cnd (!bm.vBad) (bnd (lU bm) fun x2=>some (x2)) (some (false))) fun gF=>some gF
theorem qO {bm:ay}{r:Bool}(h:jo bm=some r):aB prog 91 [dG an bm] (dB r):=by
 refine bC (rs:=[.tmp 2]) (fun cx hx h0=>?_) func91
 unfold jo at h
 refine ra hx ?_
 refine AW.seq ?_
 obtain⟨gF,hy,h⟩:=ah h
 refine jn ((PE cx .normal (fun gF=>[(2,dB gF)]) fun gF=>⟨[],[],0⟩) gF) ?_ ?_
 replace h:=hy
 refine rq hx fun K hK=>?_
 refine mbr ?_
 rcases cnd_s h with⟨cE,h⟩|⟨cE,h⟩
 refine gbr ?_
 refine gcb h wC fun x2 h=>?_
 refine nbr hK ?_
 exact pe1 h h0 []
 refine nbr hK ?_
 exact pe1 h h0 []
 refine lw0 ?_
 exact AW.ret (rtv h)
def mE :Option ay:=bnd (fM (1:Int)) fun x1=>some x1
theorem uX  {r:ay}(h:mE=some r):aB prog 94 [] (dG an r):=by
 refine bC (rs:=[.cell 0 32]) (fun cx hx h0=>?_) func94
 unfold mE at h
 refine rar hx ?_
 refine rs hx fun K hK=>?_
 refine scb h nO fun x1 h=>?_
 refine nbr hK ?_
 exact AW.ret (rtv h)
def cu(bm:aj):Option Bool:=bnd (S:=Bool) (bnd (jo bm.vN) fun x1=>cnd x1 (bnd (jo bm.vD) fun x4=>cnd x4 (bnd (g9 bm.vD) fun x7=>cnd (decide ((0:Int)<x7)) (bnd (n8 bm.vN bm.vD) fun fb=>bnd (mE) fun ii=>some (decide (fb=ii))) (some (false))) (some (false))) (some (false))) fun gF=>some gF
theorem fL {bm:aj}{r:Bool}(h:cu bm=some r):aB prog 41 [dG ae bm] (dB r):=by
 refine bC (rs:=[.tmp 2]) (fun cx hx h0=>?_) func41
 unfold cu at h
 refine ra hx ?_
 refine AW.seq ?_
 obtain⟨gF,hy,h⟩:=ah h
 refine jn ((PE cx .normal (fun gF=>[(2,dB gF)]) fun gF=>⟨[],[],0⟩) gF) ?_ ?_
 replace h:=hy
 refine rq hx fun K hK=>?_
 refine mbr ?_
 refine scb h qO fun x1 h=>?_
 refine sa ?_
 rcases cnd_s h with⟨a8,h⟩|⟨a8,h⟩
 refine ga a8 ?_
 refine gbr ?_
 refine gcb h qO fun x4 h=>?_
 refine mbr ?_
 rcases cnd_s h with⟨bU,h⟩|⟨bU,h⟩
 refine ga bU ?_
 refine gbr ?_
 refine gcb h ol fun x7 h=>?_
 refine mbr ?_
 rcases cnd_s h with⟨v9,h⟩|⟨v9,h⟩
 refine ga v9 ?_
 refine gbr ?_
 refine ga v9 ?_
 refine gbr ?_
 refine gcb h uS fun fb h=>?_
 refine gcb h uX fun ii h=>?_
 refine g1 v9 (xH tok 3 (by decide) gK qza0) ?_
 refine nbr hK ?_
 exact pe1 h h0 []
 refine nbr hK ?_
 exact pe1 h h0 []
 refine nbr hK ?_
 exact pe1 h h0 []
 refine nbr hK ?_
 exact pe1 h h0 []
 refine lw0 ?_
 exact AW.ret (rtv h)
def f8 :Option aj:=bnd (eN) fun x1=>bnd (mE) fun x3=>some (⟨x1,x3⟩:aj)
theorem mq  {r:aj}(h:f8=some r):aB prog 65 [] (dG ae r):=by
 refine bC (rs:=[.cell 0 34]) (fun cx hx h0=>?_) func65
 unfold f8 at h
 refine rar hx ?_
 refine rs hx fun K hK=>?_
 refine scb h ij fun x1 h=>?_
 refine scb h uX fun x3 h=>?_
 refine s1 (d:=dG ae (⟨x1,x3⟩:aj)) (iH (FL.cons (y:=x1) (ct cb) rfl rfl (FL.cons (y:=x3) (bG (⟨x1,bu⟩:aj)) rfl rfl (FL.nil _))) ax) ?_
 refine nbr hK ?_
 exact AW.ret (rtv h)
def dt(ce:ay)(tM:ay):Option aj:=bnd (S:=Bool) (bnd (jo ce) fun x1=>cnd (!x1) (some (true)) (bnd (jo tM) fun x4=>cnd (!x4) (some (true)) (bnd (g9 tM) fun x7=>some (decide (x7=(0:Int)))))) fun a7=>cnd a7 (bnd (f8) fun qx=>some qx) (bnd (n8 ce tM) fun lw=>bnd (S:=ay) (bnd (g9 tM) fun sQ=>cnd (decide (sQ<(0:Int))) (bnd (mz lw) fun nt=>some (nt)) (some (lw))) fun fJ=>bnd (kI ce fJ) fun uP=>bnd (kI tM fJ) fun sO=>some (⟨uP,sO⟩:aj))
theorem i4 {ce:ay}{tM:ay}{r:aj}(h:dt ce tM=some r):aB prog 89 [dG an ce,dG an tM] (dG ae r):=by
 refine bC (rs:=[.cell 4 34]) (fun cx hx h0=>?_) func89
 unfold dt at h
 refine rar hx ?_
 iterate 2 refine AW.seq ?_
 obtain⟨a7,hy,h⟩:=ah h
 refine jn ((PE cx .normal (fun a7=>[(2,.pt 0 0),(3,.pt 1 0),(4,.pt 2 0),(18,dB a7)]) fun a7=>⟨[(0,dC (an.f ce)),(1,dC (an.f tM)),(2,dC (ae.f cb))],[],3⟩) a7) ?_ ?_
 replace h:=hy
 refine rq hx fun K hK=>?_
 refine mbr ?_
 refine scb h qO fun x1 h=>?_
 refine mbr ?_
 rcases cnd_s h with⟨a8,h⟩|⟨a8,h⟩
 refine nbr hK ?_
 exact pe1 h h0 [0,1,2]
 refine gbr ?_
 refine gcb h qO fun x4 h=>?_
 refine mbr ?_
 rcases cnd_s h with⟨bU,h⟩|⟨bU,h⟩
 refine nbr hK ?_
 exact pe1 h h0 [0,1,2]
 refine gbr ?_
 refine gcb h ol fun x7 h=>?_
 refine nbr hK ?_
 exact pe1 h h0 [0,1,2]
 refine lw0 ?_
 refine cdh h rfl (fun eH h=>?_) (fun eH h=>?_)
 refine rs hx fun K hK=>?_
 refine scb h mq fun qx h=>?_
 refine nbr hK ?_
 exact AW.ret (rtv h)
 refine AW.skip (rs hx fun K hK=>?_)
 refine mbr ?_
 refine scb h uS fun lw h=>?_
 refine nbr hK ?_
 refine AW.seq ?_
 obtain⟨fJ,hy,h⟩:=ah h
 refine jn ((PE cx .normal (fun fJ=>[(2,.pt 0 0),(3,.pt 1 0),(4,.pt 2 0),(5,.pt 3 0)]) fun fJ=>⟨[(0,dC (an.f ce)),(1,dC (an.f tM)),(2,dC (ae.f cb)),(3,dC (an.f fJ))],[],4⟩) fJ) ?_ ?_
 replace h:=hy
 refine rs hx fun K hK=>?_
 refine mbr ?_
 refine scb h ol fun sQ h=>?_
 refine nbr hK ?_
 refine cdh h rfl (fun oG h=>?_) (fun oG h=>?_)
 refine rq hx fun K hK=>?_
 refine mbr ?_
 refine scb h uR fun nt h=>?_
 refine nbr hK ?_
 exact pe1 h h0 [0,1,2,3]
 exact AW.skip (pe1 h h0 [0,1,2,3])
 refine lw0 ?_
 refine rsd [126] hx fun K hK=>?_
 refine mbr ?_
 refine cqb h n3 fun uP h=>?_
 refine mbr ?_
 refine cqb h n3 fun sO h=>?_
 refine s1 (d:=dG ae (⟨uP,sO⟩:aj)) (iH (FL.cons (y:=uP) (ct cb) rfl rfl (FL.cons (y:=sO) (bG (⟨uP,bu⟩:aj)) rfl rfl (FL.nil _))) ax) ?_
 refine nbr hK ?_
 exact AW.ret (rtv h)
def gz(bm:aj)(lx:aj):Option aj:=bnd (S:=Bool) (bnd (cu bm) fun x1=>cnd (!x1) (some (true)) (bnd (cu lx) fun x4=>some (!x4))) fun a7=>cnd a7 (bnd (f8) fun x8=>some x8) (bnd (n8 bm.vD lx.vD) fun fb=>bnd (kI bm.vD fb) fun ii=>bnd (kI lx.vD fb) fun og=>bnd (ja bm.vN og) fun sy=>bnd (ja lx.vN ii) fun nt=>bnd (jb sy nt) fun Au=>bnd (ja ii lx.vD) fun rQ=>bnd (dt Au rQ) fun Dz=>some Dz)
theorem uY {bm:aj}{lx:aj}{r:aj}(h:gz bm lx=some r):aB prog 85 [dG ae bm,dG ae lx] (dG ae r):=by
 refine bC (rs:=[.cell 4 34]) (fun cx hx h0=>?_) func85
 unfold gz at h
 refine rar hx ?_
 iterate 2 refine AW.seq ?_
 obtain⟨a7,hy,h⟩:=ah h
 refine jn ((PE cx .normal (fun a7=>[(2,.pt 0 0),(3,.pt 1 0),(4,.pt 2 0),(15,dB a7)]) fun a7=>⟨[(0,dC (ae.f bm)),(1,dC (ae.f lx)),(2,dC (ae.f cb))],[],3⟩) a7) ?_ ?_
 replace h:=hy
 refine rq hx fun K hK=>?_
 refine mbr ?_
 refine scb h fL fun x1 h=>?_
 refine mbr ?_
 rcases cnd_s h with⟨a8,h⟩|⟨a8,h⟩
 refine nbr hK ?_
 exact pe1 h h0 [0,1,2]
 refine gbr ?_
 refine gcb h fL fun x4 h=>?_
 refine nbr hK ?_
 exact pe1 h h0 [0,1,2]
 refine lw0 ?_
 refine cdh h rfl (fun nh h=>?_) (fun nh h=>?_)
 refine rs hx fun K hK=>?_
 refine scb h mq fun x8 h=>?_
 refine nbr hK ?_
 exact AW.ret (rtv h)
 refine AW.skip (rs hx fun K hK=>?_)
 refine mbr ?_
 refine scb h uS fun fb h=>?_
 refine nbr hK ?_
 refine AW.seq ?_
 obtain⟨ii,tS,h⟩:=ah h
 obtain⟨og,zW,h⟩:=ah h
 refine jn (PE cx .normal (fun (_:Unit)=>[(2,.pt 0 0),(3,.pt 1 0),(4,.pt 2 0),(6,.pt 3 0),(7,.pt 4 0)]) (fun (_:Unit)=>⟨[(0,dC (ae.f bm)),(1,dC (ae.f lx)),(2,dC (ae.f cb)),(3,dC (an.f ii)),(4,dC (an.f og))],[],5⟩) ()) ?_ ?_
 refine dw (DW.split 8 9 (by decide) ?_ ?_)
 refine dwg [126] [0,1,2,3,4,5,6,7,8,9,10,11] hx (by kernel_rfl) (by kernel_rfl) (by kernel_rfl) fun K hK=>?_
 dsimp only[eJ,nE,nS,List.map]
 refine mbr ?_
 refine cq (n3 tS) ?_
 refine mbr ?_
 refine cq (n3 zW) ?_
 iterate 2 refine sbr ?_
 iterate 2 refine tzr ?_
 exact .nil (hK _ _ (pe0 h0 [0,1,2,4,5]))
 refine dwg [126] [0,1,2,3,4,5,6,7,9,8,10,11] hx (by kernel_rfl) (by kernel_rfl) (by kernel_rfl) fun K hK=>?_
 dsimp only[eJ,nE,nS,List.map]
 refine mbr ?_
 refine cq (n3 tS) ?_
 refine mbr ?_
 refine cq (n3 zW) ?_
 iterate 2 refine sbr ?_
 iterate 2 refine tzr ?_
 exact .nil (hK _ _ (pe0 h0 [0,1,2,5,4]))
 refine lw0 ?_
 refine rsd [90,127,89] hx fun K hK=>?_
 refine mbr ?_
 refine cqb h mn fun sy h=>?_
 refine mbr ?_
 refine cqb h mn fun nt h=>?_
 refine cqb h Av fun Au h=>?_
 refine mbr ?_
 refine cqb h mn fun rQ h=>?_
 refine cqb h i4 fun Dz h=>?_
 refine nbr hK ?_
 exact AW.ret (rtv h)
def eO(bm:aj)(lx:aj):Option aj:=bnd (S:=Bool) (bnd (cu bm) fun x1=>cnd (!x1) (some (true)) (bnd (cu lx) fun x4=>some (!x4))) fun a7=>cnd a7 (bnd (f8) fun x8=>some x8) (bnd (dt bm.vN lx.vD) fun fb=>bnd (dt lx.vN bm.vD) fun ii=>bnd (ja fb.vN ii.vN) fun og=>bnd (ja fb.vD ii.vD) fun sy=>bnd (S:=Bool) (cnd og.vBad (some (true)) (some (sy.vBad))) fun aK=>cnd aK (bnd (f8) fun uP=>some uP) (some (⟨og,sy⟩:aj)))
theorem n4 {bm:aj}{lx:aj}{r:aj}(h:eO bm lx=some r):aB prog 40 [dG ae bm,dG ae lx] (dG ae r):=by
 refine bC (rs:=[.cell 4 34]) (fun cx hx h0=>?_) func40
 unfold eO at h
 refine rar hx ?_
 iterate 2 refine AW.seq ?_
 obtain⟨a7,hy,h⟩:=ah h
 refine jn ((PE cx .normal (fun a7=>[(2,.pt 0 0),(3,.pt 1 0),(4,.pt 2 0),(16,dB a7)]) fun a7=>⟨[(0,dC (ae.f bm)),(1,dC (ae.f lx)),(2,dC (ae.f cb))],[],3⟩) a7) ?_ ?_
 replace h:=hy
 refine rq hx fun K hK=>?_
 refine mbr ?_
 refine scb h fL fun x1 h=>?_
 refine mbr ?_
 rcases cnd_s h with⟨a8,h⟩|⟨a8,h⟩
 refine nbr hK ?_
 exact pe1 h h0 [0,1,2]
 refine gbr ?_
 refine gcb h fL fun x4 h=>?_
 refine nbr hK ?_
 exact pe1 h h0 [0,1,2]
 refine lw0 ?_
 refine cdh h rfl (fun nh h=>?_) (fun nh h=>?_)
 refine rs hx fun K hK=>?_
 refine scb h mq fun x8 h=>?_
 refine nbr hK ?_
 exact AW.ret (rtv h)
 refine AW.skip (AW.seq ?_)
 obtain⟨fb,ww,h⟩:=ah h
 obtain⟨ii,tS,h⟩:=ah h
 refine jn (PE cx .normal (fun (_:Unit)=>[(4,.pt 0 0),(5,.pt 1 0),(6,.pt 2 0)]) (fun (_:Unit)=>⟨[(0,dC (ae.f cb)),(1,dC (ae.f fb)),(2,dC (ae.f ii))],[],3⟩) ()) ?_ ?_
 refine dw (DW.split 10 11 (by decide) ?_ ?_)
 refine dwg [89] [0,1,2,3,4,5,6,7,8,9,10,11,12,13] hx (by kernel_rfl) (by kernel_rfl) (by kernel_rfl) fun K hK=>?_
 dsimp only[eJ,nE,nS,List.map]
 refine mbr ?_
 refine cq (i4 ww) ?_
 refine mbr ?_
 refine cq (i4 tS) ?_
 iterate 2 refine sbr ?_
 iterate 2 refine tzr ?_
 exact .nil (hK _ _ (pe0 h0 [2,3,4]))
 refine dwg [89] [0,1,2,3,4,5,6,7,8,9,11,10,12,13] hx (by kernel_rfl) (by kernel_rfl) (by kernel_rfl) fun K hK=>?_
 dsimp only[eJ,nE,nS,List.map]
 refine mbr ?_
 refine cq (i4 ww) ?_
 refine mbr ?_
 refine cq (i4 tS) ?_
 iterate 2 refine sbr ?_
 iterate 2 refine tzr ?_
 exact .nil (hK _ _ (pe0 h0 [2,4,3]))
 refine lw0 ?_
 refine AW.seq ?_
 obtain⟨og,zW,h⟩:=ah h
 obtain⟨sy,Mn,h⟩:=ah h
 refine jn (PE cx .normal (fun (_:Unit)=>[(4,.pt 0 0),(7,.pt 1 0),(8,.pt 2 0)]) (fun (_:Unit)=>⟨[(0,dC (ae.f cb)),(1,dC (an.f og)),(2,dC (an.f sy))],[],3⟩) ()) ?_ ?_
 refine dw (DW.split 10 11 (by decide) ?_ ?_)
 refine dwg [90] [0,1,2,3,4,5,6,7,8,9,10,11,12,13] hx (by kernel_rfl) (by kernel_rfl) (by kernel_rfl) fun K hK=>?_
 dsimp only[eJ,nE,nS,List.map]
 refine mbr ?_
 refine cq (mn zW) ?_
 refine mbr ?_
 refine cq (mn Mn) ?_
 iterate 2 refine sbr ?_
 iterate 2 refine tzr ?_
 exact .nil (hK _ _ (pe0 h0 [0,3,4]))
 refine dwg [90] [0,1,2,3,4,5,6,7,8,9,11,10,12,13] hx (by kernel_rfl) (by kernel_rfl) (by kernel_rfl) fun K hK=>?_
 dsimp only[eJ,nE,nS,List.map]
 refine mbr ?_
 refine cq (mn zW) ?_
 refine mbr ?_
 refine cq (mn Mn) ?_
 iterate 2 refine sbr ?_
 iterate 2 refine tzr ?_
 exact .nil (hK _ _ (pe0 h0 [0,4,3]))
 refine lw0 ?_
 iterate 2 refine AW.seq ?_
 obtain⟨aK,hy,h⟩:=ah h
 refine jn ((PE cx .normal (fun aK=>[(4,.pt 0 0),(7,.pt 1 0),(8,.pt 2 0),(43,dB aK)]) fun aK=>⟨[(0,dC (ae.f cb)),(1,dC (an.f og)),(2,dC (an.f sy))],[],3⟩) aK) ?_ ?_
 replace h:=hy
 refine rq hx fun K hK=>?_
 refine mbr ?_
 rcases cnd_s h with⟨pl,h⟩|⟨pl,h⟩
 refine nbr hK ?_
 exact pe1 h h0 [0,1,2]
 refine nbr hK ?_
 exact pe1 h h0 [0,1,2]
 refine lw0 ?_
 refine cdh h rfl (fun xt h=>?_) (fun xt h=>?_)
 refine rs hx fun K hK=>?_
 refine scb h mq fun uP h=>?_
 refine nbr hK ?_
 exact AW.ret (rtv h)
 refine AW.skip (rs hx fun K hK=>?_)
 iterate 2 refine sbr ?_
 refine s1 (d:=dG ae (⟨og,sy⟩:aj)) (iH (FL.cons (y:=og) (ct cb) rfl rfl (FL.cons (y:=sy) (bG (⟨og,bu⟩:aj)) rfl rfl (FL.nil _))) ax) ?_
 refine nbr hK ?_
 exact AW.ret (rtv h)
def sj(bm:aj)(lx:aj):Option aj:=bnd (cu lx) fun x1=>cnd (!x1) (bnd (f8) fun x4=>some x4) (bnd (dt lx.vD lx.vN) fun x6=>bnd (eO bm x6) fun x8=>some x8)
theorem Hg {bm:aj}{lx:aj}{r:aj}(h:sj bm lx=some r):aB prog 144 [dG ae bm,dG ae lx] (dG ae r):=by
 refine bC (rs:=[.cell 4 34]) (fun cx hx h0=>?_) func144
 unfold sj at h
 refine rar hx ?_
 refine AW.seq (rs hx fun K hK=>?_)
 refine mbr ?_
 refine scb h fL fun x1 h=>?_
 refine nbr hK ?_
 refine cdh h rfl (fun a8 h=>?_) (fun a8 h=>?_)
 refine rs hx fun K hK=>?_
 refine scb h mq fun x4 h=>?_
 refine nbr hK ?_
 exact AW.ret (rtv h)
 refine AW.skip (rsd [89,40] hx fun K hK=>?_)
 refine mbr ?_
 refine cqb h i4 fun x6 h=>?_
 refine cqb h n4 fun x8 h=>?_
 refine nbr hK ?_
 exact AW.ret (rtv h)
def oN(aS:Int)(aU:Int):Option aj:=bnd (fM aS) fun x1=>bnd (fM aU) fun x3=>bnd (dt x1 x3) fun x5=>some x5
theorem Fb {aS:Int}{aU:Int}{r:aj}(h:oN aS aU=some r):aB prog 61 [dI .i64 aS,dI .i64 aU] (dG ae r):=by
 refine bC (rs:=[.cell 4 34]) (fun cx hx h0=>?_) func61
 unfold oN at h
 refine rar hx ?_
 refine rs hx fun K hK=>?_
 refine sa ?_
 refine scb h nO fun x1 h=>?_
 refine sa ?_
 refine scb h nO fun x3 h=>?_
 refine scb h i4 fun x5 h=>?_
 refine nbr hK ?_
 exact AW.ret (rtv h)
def mF(bm:aj):Option aj:=bnd (cu bm) fun x1=>cnd (!x1) (bnd (f8) fun x4=>some x4) (bnd (mz bm.vN) fun x6=>some (⟨x6,bm.vD⟩:aj))
theorem Ax {bm:aj}{r:aj}(h:mF bm=some r):aB prog 17 [dG ae bm] (dG ae r):=by
 refine bC (rs:=[.cell 2 34]) (fun cx hx h0=>?_) func17
 unfold mF at h
 refine rar hx ?_
 refine AW.seq (rs hx fun K hK=>?_)
 refine mbr ?_
 refine scb h fL fun x1 h=>?_
 refine nbr hK ?_
 refine cdh h rfl (fun a8 h=>?_) (fun a8 h=>?_)
 refine rs hx fun K hK=>?_
 refine scb h mq fun x4 h=>?_
 refine nbr hK ?_
 exact AW.ret (rtv h)
 refine AW.skip (rsd [66] hx fun K hK=>?_)
 refine mbr ?_
 refine cqb h uR fun x6 h=>?_
 iterate 2 refine sbr ?_
 refine s1 (d:=dG ae (⟨x6,bm.vD⟩:aj)) (iH (FL.cons (y:=x6) (ct cb) rfl rfl (FL.cons (y:=bm.vD) (bG (⟨x6,bu⟩:aj)) rfl rfl (FL.nil _))) ax) ?_
 refine nbr hK ?_
 exact AW.ret (rtv h)
def nC(ce:ay):Option aj:=bnd (mE) fun x1=>bnd (dt ce x1) fun x3=>some x3
theorem DQ {ce:ay}{r:aj}(h:nC ce=some r):aB prog 104 [dG an ce] (dG ae r):=by
 refine bC (rs:=[.cell 2 34]) (fun cx hx h0=>?_) func104
 unfold nC at h
 refine rar hx ?_
 refine rsd [94,89] hx fun K hK=>?_
 refine mbr ?_
 refine cqb h uX fun x1 h=>?_
 refine cqb h i4 fun x3 h=>?_
 refine nbr hK ?_
 exact AW.ret (rtv h)
def fk(ce:Int):Option aj:=bnd (fM ce) fun x1=>bnd (nC x1) fun x3=>some x3
theorem jA {ce:Int}{r:aj}(h:fk ce=some r):aB prog 60 [dI .i64 ce] (dG ae r):=by
 refine bC (rs:=[.cell 2 34]) (fun cx hx h0=>?_) func60
 unfold fk at h
 refine rar hx ?_
 refine rs hx fun K hK=>?_
 refine sa ?_
 refine scb h nO fun x1 h=>?_
 refine scb h DQ fun x3 h=>?_
 refine nbr hK ?_
 exact AW.ret (rtv h)
def mY(bm:aj):Option Int:=bnd (cu bm) fun x1=>cnd (!x1) (some (0:Int)) (bnd (g9 bm.vN) fun x4=>some x4)
theorem yb {bm:aj}{r:Int}(h:mY bm=some r):aB prog 42 [dG ae bm] (dI .i64 r):=by
 refine bC (rs:=[.tmp 2]) (fun cx hx h0=>?_) func42
 unfold mY at h
 refine ra hx ?_
 refine AW.seq (rs hx fun K hK=>?_)
 refine mbr ?_
 refine scb h fL fun x1 h=>?_
 refine nbr hK ?_
 refine cdh h rfl (fun a8 h=>?_) (fun a8 h=>?_)
 refine ra hx ?_
 exact AW.ret (rtv h)
 refine AW.skip (rs hx fun K hK=>?_)
 refine mbr ?_
 refine scb h ol fun x4 h=>?_
 refine nbr hK ?_
 exact AW.ret (rtv h)
def si(bm:aj)(lx:aj):Option aj:=bnd (mF lx) fun x1=>bnd (gz bm x1) fun x3=>some x3
theorem Hf {bm:aj}{lx:aj}{r:aj}(h:si bm lx=some r):aB prog 146 [dG ae bm,dG ae lx] (dG ae r):=by
 refine bC (rs:=[.cell 4 34]) (fun cx hx h0=>?_) func146
 unfold si at h
 refine rar hx ?_
 refine rsd [17,85] hx fun K hK=>?_
 refine mbr ?_
 refine cqb h Ax fun x1 h=>?_
 refine cqb h uY fun x3 h=>?_
 refine nbr hK ?_
 exact AW.ret (rtv h)
def mC :Option ay:=bnd (jF (1:Int)) fun x1=>some x1
theorem uT  {r:ay}(h:mC=some r):aB prog 116 [] (dG an r):=by
 refine bC (rs:=[.cell 0 32]) (fun cx hx h0=>?_) func116
 unfold mC at h
 refine rar hx ?_
 refine rs hx fun K hK=>?_
 refine scb h pF fun x1 h=>?_
 refine nbr hK ?_
 exact AW.ret (rtv h)
def dp(bm:aj):Option Bool:=bnd (S:=Bool) (bnd (bK bm.vN) fun x1=>cnd (!x1) (some (true)) (bnd (bK bm.vD) fun x4=>some (!x4))) fun a7=>cnd a7 (some false) (bnd (S:=Bool) (bnd (lh bm.vD) fun x8=>cnd (decide ((0:Int)<x8)) (bnd (mD bm.vN bm.vD) fun qx=>bnd (mC) fun lw=>some (decide (qx=lw))) (some (false))) fun lP=>some lP)
theorem kQ {bm:aj}{r:Bool}(h:dp bm=some r):aB prog 72 [dG ae bm] (dB r):=by
 refine bC (rs:=[.tmp 2]) (fun cx hx h0=>?_) func72
 unfold dp at h
 refine ra hx ?_
 iterate 2 refine AW.seq ?_
 obtain⟨a7,hy,h⟩:=ah h
 refine jn ((PE cx .normal (fun a7=>[(1,.pt 0 0),(12,dB a7)]) fun a7=>⟨[(0,dC (ae.f bm))],[],1⟩) a7) ?_ ?_
 replace h:=hy
 refine rq hx fun K hK=>?_
 refine mbr ?_
 refine scb h c8 fun x1 h=>?_
 refine mbr ?_
 rcases cnd_s h with⟨a8,h⟩|⟨a8,h⟩
 refine nbr hK ?_
 exact pe1 h h0 [0]
 refine ga a8 ?_
 refine gbr ?_
 refine gcb h c8 fun x4 h=>?_
 refine nbr hK ?_
 exact pe1 h h0 [0]
 refine lw0 ?_
 refine cdh h rfl (fun nh h=>?_) (fun nh h=>?_)
 refine ra hx ?_
 exact AW.ret (rtv h)
 refine AW.skip (AW.seq ?_)
 obtain⟨lP,hy,h⟩:=ah h
 refine jn ((PE cx .normal (fun lP=>[(2,dB lP)]) fun lP=>⟨[],[],0⟩) lP) ?_ ?_
 replace h:=hy
 refine rq hx fun K hK=>?_
 refine mbr ?_
 refine scb h tH fun x8 h=>?_
 refine mbr ?_
 rcases cnd_s h with⟨eH,h⟩|⟨eH,h⟩
 refine ga eH ?_
 refine gbr ?_
 refine ga eH ?_
 refine gbr ?_
 refine gcb h uW fun qx h=>?_
 refine gcb h uT fun lw h=>?_
 refine g1 eH (xH tok 3 (by decide) gK qza0) ?_
 refine nbr hK ?_
 exact pe1 h h0 []
 refine nbr hK ?_
 exact pe1 h h0 []
 refine lw0 ?_
 exact AW.ret (rtv h)
def jg :Option aj:=bnd (f7) fun x1=>bnd (mC) fun x3=>some (⟨x1,x3⟩:aj)
theorem rU  {r:aj}(h:jg=some r):aB prog 96 [] (dG ae r):=by
 refine bC (rs:=[.cell 0 34]) (fun cx hx h0=>?_) func96
 unfold jg at h
 refine rar hx ?_
 refine rs hx fun K hK=>?_
 refine scb h kG fun x1 h=>?_
 refine scb h uT fun x3 h=>?_
 refine s1 (d:=dG ae (⟨x1,x3⟩:aj)) (iH (FL.cons (y:=x1) (ct cb) rfl rfl (FL.cons (y:=x3) (bG (⟨x1,bu⟩:aj)) rfl rfl (FL.nil _))) ax) ?_
 refine nbr hK ?_
 exact AW.ret (rtv h)
def fP(ce:ay)(tM:ay):Option aj:=bnd (S:=Bool) (bnd (bK ce) fun x1=>cnd (!x1) (some (true)) (bnd (bK tM) fun x4=>cnd (!x4) (some (true)) (bnd (lh tM) fun x7=>some (decide (x7=(0:Int)))))) fun a7=>cnd a7 (bnd (jg) fun qx=>some qx) (bnd (mD ce tM) fun lw=>bnd (S:=ay) (bnd (lh tM) fun sQ=>cnd (decide (sQ<(0:Int))) (bnd (qm lw) fun nt=>some (nt)) (some (lw))) fun fJ=>bnd (kJ ce fJ) fun uP=>bnd (kJ tM fJ) fun sO=>some (⟨uP,sO⟩:aj))
theorem oq {ce:ay}{tM:ay}{r:aj}(h:fP ce tM=some r):aB prog 114 [dG an ce,dG an tM] (dG ae r):=by
 refine bC (rs:=[.cell 4 34]) (fun cx hx h0=>?_) func114
 unfold fP at h
 refine rar hx ?_
 iterate 2 refine AW.seq ?_
 obtain⟨a7,hy,h⟩:=ah h
 refine jn ((PE cx .normal (fun a7=>[(2,.pt 0 0),(3,.pt 1 0),(4,.pt 2 0),(18,dB a7)]) fun a7=>⟨[(0,dC (an.f ce)),(1,dC (an.f tM)),(2,dC (ae.f cb))],[],3⟩) a7) ?_ ?_
 replace h:=hy
 refine rq hx fun K hK=>?_
 refine mbr ?_
 refine scb h c8 fun x1 h=>?_
 refine mbr ?_
 rcases cnd_s h with⟨a8,h⟩|⟨a8,h⟩
 refine nbr hK ?_
 exact pe1 h h0 [0,1,2]
 refine gbr ?_
 refine gcb h c8 fun x4 h=>?_
 refine mbr ?_
 rcases cnd_s h with⟨bU,h⟩|⟨bU,h⟩
 refine nbr hK ?_
 exact pe1 h h0 [0,1,2]
 refine gbr ?_
 refine gcb h tH fun x7 h=>?_
 refine nbr hK ?_
 exact pe1 h h0 [0,1,2]
 refine lw0 ?_
 refine cdh h rfl (fun eH h=>?_) (fun eH h=>?_)
 refine rs hx fun K hK=>?_
 refine scb h rU fun qx h=>?_
 refine nbr hK ?_
 exact AW.ret (rtv h)
 refine AW.skip (rs hx fun K hK=>?_)
 refine mbr ?_
 refine scb h uW fun lw h=>?_
 refine nbr hK ?_
 refine AW.seq ?_
 obtain⟨fJ,hy,h⟩:=ah h
 refine jn ((PE cx .normal (fun fJ=>[(2,.pt 0 0),(3,.pt 1 0),(4,.pt 2 0),(5,.pt 3 0)]) fun fJ=>⟨[(0,dC (an.f ce)),(1,dC (an.f tM)),(2,dC (ae.f cb)),(3,dC (an.f fJ))],[],4⟩) fJ) ?_ ?_
 replace h:=hy
 refine rs hx fun K hK=>?_
 refine mbr ?_
 refine scb h tH fun sQ h=>?_
 refine nbr hK ?_
 refine cdh h rfl (fun oG h=>?_) (fun oG h=>?_)
 refine rq hx fun K hK=>?_
 refine mbr ?_
 refine scb h Hc fun nt h=>?_
 refine nbr hK ?_
 exact pe1 h h0 [0,1,2,3]
 exact AW.skip (pe1 h h0 [0,1,2,3])
 refine lw0 ?_
 refine rsd [133] hx fun K hK=>?_
 refine mbr ?_
 refine cqb h rV fun uP h=>?_
 refine mbr ?_
 refine cqb h rV fun sO h=>?_
 refine s1 (d:=dG ae (⟨uP,sO⟩:aj)) (iH (FL.cons (y:=uP) (ct cb) rfl rfl (FL.cons (y:=sO) (bG (⟨uP,bu⟩:aj)) rfl rfl (FL.nil _))) ax) ?_
 refine nbr hK ?_
 exact AW.ret (rtv h)
def gy(bm:aj)(lx:aj):Option aj:=bnd (S:=Bool) (bnd (dp bm) fun x1=>cnd (!x1) (some (true)) (bnd (dp lx) fun x4=>some (!x4))) fun a7=>cnd a7 (bnd (jg) fun x8=>some x8) (bnd (mD bm.vD lx.vD) fun fb=>bnd (kJ bm.vD fb) fun ii=>bnd (kJ lx.vD fb) fun og=>bnd (jm bm.vN og) fun sy=>bnd (jm lx.vN ii) fun nt=>bnd (kK sy nt) fun Au=>bnd (jm ii lx.vD) fun rQ=>bnd (fP Au rQ) fun Dz=>some Dz)
theorem uU {bm:aj}{lx:aj}{r:aj}(h:gy bm lx=some r):aB prog 99 [dG ae bm,dG ae lx] (dG ae r):=by
 refine bC (rs:=[.cell 4 34]) (fun cx hx h0=>?_) func99
 unfold gy at h
 refine rar hx ?_
 iterate 2 refine AW.seq ?_
 obtain⟨a7,hy,h⟩:=ah h
 refine jn ((PE cx .normal (fun a7=>[(2,.pt 0 0),(3,.pt 1 0),(4,.pt 2 0),(15,dB a7)]) fun a7=>⟨[(0,dC (ae.f bm)),(1,dC (ae.f lx)),(2,dC (ae.f cb))],[],3⟩) a7) ?_ ?_
 replace h:=hy
 refine rq hx fun K hK=>?_
 refine mbr ?_
 refine scb h kQ fun x1 h=>?_
 refine mbr ?_
 rcases cnd_s h with⟨a8,h⟩|⟨a8,h⟩
 refine nbr hK ?_
 exact pe1 h h0 [0,1,2]
 refine gbr ?_
 refine gcb h kQ fun x4 h=>?_
 refine nbr hK ?_
 exact pe1 h h0 [0,1,2]
 refine lw0 ?_
 refine cdh h rfl (fun nh h=>?_) (fun nh h=>?_)
 refine rs hx fun K hK=>?_
 refine scb h rU fun x8 h=>?_
 refine nbr hK ?_
 exact AW.ret (rtv h)
 refine AW.skip (rs hx fun K hK=>?_)
 refine mbr ?_
 refine scb h uW fun fb h=>?_
 refine nbr hK ?_
 refine rs hx fun K hK=>?_
 refine mbr ?_
 refine scb h rV fun ii h=>?_
 refine nbr hK ?_
 refine rs hx fun K hK=>?_
 refine mbr ?_
 refine scb h rV fun og h=>?_
 refine nbr hK ?_
 refine rsd [117,134,114] hx fun K hK=>?_
 refine mbr ?_
 refine cqb h qf fun sy h=>?_
 refine mbr ?_
 refine cqb h qf fun nt h=>?_
 refine cqb h Hd fun Au h=>?_
 refine mbr ?_
 refine cqb h qf fun rQ h=>?_
 refine cqb h oq fun Dz h=>?_
 refine nbr hK ?_
 exact AW.ret (rtv h)
def fZ(bm:aj)(lx:aj):Option aj:=bnd (S:=Bool) (bnd (dp bm) fun x1=>cnd (!x1) (some (true)) (bnd (dp lx) fun x4=>some (!x4))) fun a7=>cnd a7 (bnd (jg) fun x8=>some x8) (bnd (fP bm.vN lx.vD) fun fb=>bnd (fP lx.vN bm.vD) fun ii=>bnd (jm fb.vN ii.vN) fun og=>bnd (jm fb.vD ii.vD) fun sy=>bnd (fP og sy) fun nt=>some nt)
theorem rT {bm:aj}{lx:aj}{r:aj}(h:fZ bm lx=some r):aB prog 71 [dG ae bm,dG ae lx] (dG ae r):=by
 refine bC (rs:=[.cell 4 34]) (fun cx hx h0=>?_) func71
 unfold fZ at h
 refine rar hx ?_
 iterate 2 refine AW.seq ?_
 obtain⟨a7,hy,h⟩:=ah h
 refine jn ((PE cx .normal (fun a7=>[(2,.pt 0 0),(3,.pt 1 0),(4,.pt 2 0),(16,dB a7)]) fun a7=>⟨[(0,dC (ae.f bm)),(1,dC (ae.f lx)),(2,dC (ae.f cb))],[],3⟩) a7) ?_ ?_
 replace h:=hy
 refine rq hx fun K hK=>?_
 refine mbr ?_
 refine scb h kQ fun x1 h=>?_
 refine mbr ?_
 rcases cnd_s h with⟨a8,h⟩|⟨a8,h⟩
 refine nbr hK ?_
 exact pe1 h h0 [0,1,2]
 refine gbr ?_
 refine gcb h kQ fun x4 h=>?_
 refine nbr hK ?_
 exact pe1 h h0 [0,1,2]
 refine lw0 ?_
 refine cdh h rfl (fun nh h=>?_) (fun nh h=>?_)
 refine rs hx fun K hK=>?_
 refine scb h rU fun x8 h=>?_
 refine nbr hK ?_
 exact AW.ret (rtv h)
 refine AW.skip (rs hx fun K hK=>?_)
 refine mbr ?_
 refine scb h oq fun fb h=>?_
 refine nbr hK ?_
 refine rs hx fun K hK=>?_
 refine mbr ?_
 refine scb h oq fun ii h=>?_
 refine nbr hK ?_
 refine rs hx fun K hK=>?_
 refine mbr ?_
 refine scb h qf fun og h=>?_
 refine nbr hK ?_
 refine rs hx fun K hK=>?_
 refine mbr ?_
 refine scb h qf fun sy h=>?_
 refine nbr hK ?_
 refine rs hx fun K hK=>?_
 refine mbr ?_
 refine scb h oq fun nt h=>?_
 refine nbr hK ?_
 exact AW.ret (rtv h)
def g_ref04_Div(bm:aj)(lx:aj):Option aj:=bnd (dp lx) fun x1=>cnd (!x1) (bnd (jg) fun x4=>some x4) (bnd (fP lx.vD lx.vN) fun x6=>bnd (fZ bm x6) fun x8=>some x8)
theorem w_ref04_Div {bm:aj}{lx:aj}{r:aj}(h:g_ref04_Div bm lx=some r):aB prog 112 [dG ae bm,dG ae lx] (dG ae r):=by
 refine bC (rs:=[.cell 4 34]) (fun cx hx h0=>?_) func112
 unfold g_ref04_Div at h
 refine rar hx ?_
 refine AW.seq (rs hx fun K hK=>?_)
 refine mbr ?_
 refine scb h kQ fun x1 h=>?_
 refine nbr hK ?_
 refine cdh h rfl (fun a8 h=>?_) (fun a8 h=>?_)
 refine rs hx fun K hK=>?_
 refine scb h rU fun x4 h=>?_
 refine nbr hK ?_
 exact AW.ret (rtv h)
 refine AW.skip (rsd [114,71] hx fun K hK=>?_)
 refine mbr ?_
 refine cqb h oq fun x6 h=>?_
 refine cqb h rT fun x8 h=>?_
 refine nbr hK ?_
 exact AW.ret (rtv h)
def g_ref04_Neg(bm:aj):Option aj:=bnd (dp bm) fun x1=>cnd (!x1) (bnd (jg) fun x4=>some x4) (bnd (qm bm.vN) fun x6=>some (⟨x6,bm.vD⟩:aj))
theorem w_ref04_Neg {bm:aj}{r:aj}(h:g_ref04_Neg bm=some r):aB prog 79 [dG ae bm] (dG ae r):=by
 refine bC (rs:=[.cell 2 34]) (fun cx hx h0=>?_) func79
 unfold g_ref04_Neg at h
 refine rar hx ?_
 refine AW.seq (rs hx fun K hK=>?_)
 refine mbr ?_
 refine scb h kQ fun x1 h=>?_
 refine nbr hK ?_
 refine cdh h rfl (fun a8 h=>?_) (fun a8 h=>?_)
 refine rs hx fun K hK=>?_
 refine scb h rU fun x4 h=>?_
 refine nbr hK ?_
 exact AW.ret (rtv h)
 refine AW.skip (rsd [123] hx fun K hK=>?_)
 refine mbr ?_
 refine cqb h Hc fun x6 h=>?_
 iterate 2 refine sbr ?_
 refine s1 (d:=dG ae (⟨x6,bm.vD⟩:aj)) (iH (FL.cons (y:=x6) (ct cb) rfl rfl (FL.cons (y:=bm.vD) (bG (⟨x6,bu⟩:aj)) rfl rfl (FL.nil _))) ax) ?_
 refine nbr hK ?_
 exact AW.ret (rtv h)
def jE(ce:Int):Option aj:=bnd (jF ce) fun x1=>bnd (mC) fun x3=>bnd (fP x1 x3) fun x5=>some x5
def gx(aS:List aj)(aU:List aj):Int→Option (Int⊕(Bool⊕Unit)):=fun eh=>cnd (decide (eh<((aS).length:Int))) (gd (0≤eh∧eh<((aS).length:Int)) (gd (0≤eh∧eh<((aU).length:Int)) (cnd (decide (¬((aS)[(eh).toNat]! =(aU)[(eh).toNat]!))) (some (.inr (.inl false))) (some (.inl (i64.wrap (eh+(1:Int)))))))) (some (.inr (.inr ())))
def d9(aS:List aj)(aU:List aj):Option Bool:=cnd (decide (((aS).length:Int)≠((aU).length:Int))) (some false) (bnd (bf (gx aS aU) (0:Int)) fun y8=>match y8 with| .inl r=>some r| .inr ()=>some true)
theorem pE {aS:List aj}{aU:List aj}{r:Bool}(h:d9 aS aU=some r):aB prog 27 [dL ae aS,dL ae aU] (dB r):=by
 refine bC (rs:=[.tmp 4]) (fun cx hx h0=>?_) func27
 unfold d9 at h
 refine ra hx ?_
 refine AW.seq (ra hx ?_)
 refine cdh h rfl (fun cE h=>?_) (fun cE h=>?_)
 refine ra hx ?_
 exact AW.ret (rtv h)
 refine AW.skip (AW.seq (ra hx ?_))
 refine AW.block ?_
 obtain⟨y,hy,h⟩:=ah h
 refine lp (S:=Int) (X:=Bool⊕Unit) (fun eh=>[(0,dL ae aS),(1,dL ae aU),(5,dI .i64 eh)]) (fun eh=>⟨[],[],0⟩) (PS (PR [.tmp 4] fun r=>dB r) (PE cx (.exit 0) (fun ()=>[]) fun ()=>⟨[],[],0⟩)) hy ?_ ?_ ?_
 exact wk0 h0 []
 clear hy h
 rintro eh y h
 dsimp only[gx] at h
 refine AW.seq (ra hx ?_)
 refine cdh h rfl (fun mm h=>?_) (fun mm h=>?_)
 refine AW.skip (AW.seq (AW.block (rsd [] hx fun K hK=>?_)))
 iterate 2 refine sa ?_
 obtain⟨Pb,h⟩:=az h
 have hn4:(eh).toNat<(aS).length:=by omega
 refine sbr ?_
 refine s1 (d:=dG ae ((aS)[(eh).toNat]!)) (jI (c:=ae) (l:=aS) (n:=(eh).toNat) (o:=0) ax hn4 (eM _ _ rfl)) ?_
 iterate 2 refine sa ?_
 obtain⟨Bu,h⟩:=az h
 have hn6:(eh).toNat<(aU).length:=by omega
 refine sbr ?_
 refine s1 (d:=dG ae ((aU)[(eh).toNat]!)) (jI (c:=ae) (l:=aU) (n:=(eh).toNat) (o:=0) ax hn6 (eM _ _ rfl)) ?_
 refine s1 (xG tok 4 (by decide) qX ax) ?_
 refine nl hK ?_
 refine cdh h rfl (fun nh h=>?_) (fun nh h=>?_)
 refine ra hx ?_
 refine AW.ret ?_
 cases h
 refine PS.r ⟨by nofun,PS.l (PR.i ?_)⟩
 exact rv1
 refine AW.skip (rb hx ?_)
 exact pel h h0 []
 exact AW.exit (peq h h0 [])
 rcases y with r|⟨⟩
 rintro ex tm' hp' ⟨rfl,hw⟩
 cases h
 exact hw
 refine lwr ?_
 refine ra hx ?_
 exact AW.ret (rtv h)
def g_ref04_Sign(bm:aj):Option Int:=bnd (dp bm) fun x1=>cnd (!x1) (some (0:Int)) (bnd (lh bm.vN) fun x4=>some x4)
theorem w_ref04_Sign {bm:aj}{r:Int}(h:g_ref04_Sign bm=some r):aB prog 82 [dG ae bm] (dI .i64 r):=by
 refine bC (rs:=[.tmp 2]) (fun cx hx h0=>?_) func82
 unfold g_ref04_Sign at h
 refine ra hx ?_
 refine AW.seq (rs hx fun K hK=>?_)
 refine mbr ?_
 refine scb h kQ fun x1 h=>?_
 refine nbr hK ?_
 refine cdh h rfl (fun a8 h=>?_) (fun a8 h=>?_)
 refine ra hx ?_
 exact AW.ret (rtv h)
 refine AW.skip (rs hx fun K hK=>?_)
 refine mbr ?_
 refine scb h tH fun x4 h=>?_
 refine nbr hK ?_
 exact AW.ret (rtv h)
def g_ref04_Sub(bm:aj)(lx:aj):Option aj:=bnd (g_ref04_Neg lx) fun x1=>bnd (gy bm x1) fun x3=>some x3
theorem w_ref04_Sub {bm:aj}{lx:aj}{r:aj}(h:g_ref04_Sub bm lx=some r):aB prog 113 [dG ae bm,dG ae lx] (dG ae r):=by
 refine bC (rs:=[.cell 4 34]) (fun cx hx h0=>?_) func113
 unfold g_ref04_Sub at h
 refine rar hx ?_
 refine rsd [79,99] hx fun K hK=>?_
 refine mbr ?_
 refine cqb h w_ref04_Neg fun x1 h=>?_
 refine cqb h uU fun x3 h=>?_
 refine nbr hK ?_
 exact AW.ret (rtv h)
def m6(q:Rat):Prop:=q.num.natAbs<LIM∧q.den<LIM
instance(q:Rat):Decidable (m6 q):=by unfold m6;exact inferInstance
def kt(q:Rat):aj:=⟨enc q.num,enc (q.den:Int)⟩
def Bg:aj:=⟨Eh,enc 1⟩
def vd:Option Rat→aj
 |some q=>kt q
 |none=>Bg
def okR(x:aj):Prop:=okI x.vN∧okI x.vD
theorem oC(o:Option Rat):okR (vd o):=by
 cases o with
 |some q=>exact⟨vZ _,vZ _⟩
 |none=>
  refine⟨fun j hj=>?_,vZ _⟩
  show 0≤(W 0)[j]!∧(W 0)[j]! <4294967296
  rw[gN hj];have:=@dgl 0 j;omega
theorem PB {p q:Rat}(hp:m6 p)(hq:m6 q)(h:kt p=kt q):p=q:=by
 unfold kt at h
 simp only[aj.mk.injEq] at h
 have h1:=yA hp.1 hq.1 h.1
 have h2:=yA (by simpa using hp.2) (by simpa using hq.2) h.2
 exact Rat.ext h1 (by omega)
theorem jC {z:Int}:cV (enc z)=decide (z.natAbs<LIM):=by
 by_cases h:z.natAbs<LIM
 ·rw[bD h,iP h]
 ·rw[Cu h,z5,gX h]
theorem Im {q:Rat}(h:m6 q):kt q≠Bg:=by
 intro e
 have:cV (kt q).vN=cV Bg.vN:=by rw[e]
 rw[show (kt q).vN=enc q.num from rfl,bD h.1] at this
 cases this
def fh(x:aj):Option Rat:=open Classical in if h:∃q,m6 q∧x=kt q then some (Classical.choose h) else none
theorem eT {x:aj}{q:Rat}:fh x=some q↔m6 q∧x=kt q:=by
 unfold fh
 split
 ·rename_i h
  obtain⟨h1,h2⟩:=vi h
  constructor
  ·intro e
   injection e with e
   rw[←e];exact⟨h1,h2⟩
  ·rintro⟨h3,h4⟩
   congr 1
   exact PB h1 h3 (h2.symm.trans h4)
 ·rename_i h
  constructor
  ·intro e;cases e
  ·rintro h3;exact absurd ⟨q,h3⟩ h
theorem zo {x:aj}:fh x=none↔∀q,m6 q→x≠kt q:=by
 constructor
 ·intro h q hq e
  rw[eT.2 ⟨hq,e⟩] at h;cases h
 ·intro h
  cases hx:fh x with
  |none=>rfl
  |some q=>exact absurd (eT.1 hx).2 (h q (eT.1 hx).1)
theorem oA {q:Rat}(h:m6 q):fh (kt q)=some q:=eT.2 ⟨h,rfl⟩
theorem No:fh Bg=none:=zo.2 fun _ hq e=>Im hq e.symm
def Ii(o:Option Rat):Prop:=∀q,o=some q→m6 q
theorem zp {o:Option Rat}(h:Ii o):fh (vd o)=o:=by
 cases o with
 |none=>exact No
 |some q=>exact oA (h q rfl)
theorem Pu(x:aj):Ii (fh x):=fun _ h=>(eT.1 h).1
theorem EN:Ii none:=fun _ h=>by cases h
theorem Px {g k:Int}(h:g≠0):(g*k).fdiv g=k:=Int.mul_fdiv_cancel_left _ h
theorem Lr {g k:Int}(h:g≠0):(g*k).fdiv (-g)=-k:=by
 rw[show g*k=-g*-k from (GC g k).symm]
 exact Int.mul_fdiv_cancel_left _ (by omega)
theorem qU {n d:Int}(hd:d≠0):∃k m:Int,n=(Nat.gcd n.natAbs d.natAbs:Nat)*k∧d=(Nat.gcd n.natAbs d.natAbs:Nat)*m∧m≠0∧(Rat.divInt n d).num=d.sign*k∧((Rat.divInt n d).den:Int)=d.sign*m:=by
 have hg0:Nat.gcd n.natAbs d.natAbs≠0:=by
  intro h
  have:=(Kb.1 h).2
  omega
 have Ch:((Nat.gcd n.natAbs d.natAbs:Nat):Int)≠0:=by omega
 obtain⟨k,hk⟩:((Nat.gcd n.natAbs d.natAbs:Nat):Int) ∣ n:=Int.ofNat_dvd_left.2 (Nat.gcd_dvd_left _ _)
 obtain⟨m,hm⟩:((Nat.gcd n.natAbs d.natAbs:Nat):Int) ∣ d:=Int.ofNat_dvd_left.2 (Nat.gcd_dvd_right _ _)
 have hgg:((Int.gcd d n:Nat):Int)=((Nat.gcd n.natAbs d.natAbs:Nat):Int):=by
  rw[Int.gcd_comm];rfl
 have hmm:m≠0:=by
  intro h
  rw[h,Int.mul_zero] at hm
  exact hd hm
 refine⟨k,m,hk,hm,hmm,?_,?_⟩
 ·rw[Rat.num_divInt,hgg]
  generalize ((Nat.gcd n.natAbs d.natAbs:Nat):Int)=g at hk Ch ⊢
  rw[hk,Gc,Int.mul_ediv_cancel_left _ Ch]
 ·rw[Rat.den_divInt,aV hd]
  have e:((d.natAbs / Int.gcd d n:Nat):Int)=(d.natAbs:Int) / ((Int.gcd d n:Nat):Int):=Kh ..
  rw[e,hgg]
  have e2:(d.natAbs:Int)=d.sign*d:=by rw[Int.sign_mul_self]
  rw[e2]
  generalize ((Nat.gcd n.natAbs d.natAbs:Nat):Int)=g at hm Ch ⊢
  have e3:d.sign*d=g*(d.sign*m):=by
   conv=>lhs;rhs;rw[hm]
   rw[Gc]
  rw[e3,Int.mul_ediv_cancel_left _ Ch]
theorem t3 {n d:Int}(hd:d≠0)(h1:n.natAbs<LIM)(h2:d.natAbs<LIM):m6 (Rat.divInt n d):=by
 obtain⟨k,m,hk,hm,OW,e1,e2⟩:=qU (n:=n) hd
 have hg0:Nat.gcd n.natAbs d.natAbs≠0:=by
  intro h
  have:=(Kb.1 h).2
  omega
 have hs:d.sign.natAbs=1:=by rw[Int.natAbs_sign,aV hd]
 refine⟨?_,?_⟩
 ·rw[e1,vz,hs,fm]
  refine qza1 ?_ h1
  conv=>rhs;rw[hk]
  rw[vz,dY]
  exact C3 _ (yH hg0)
 ·have:(Rat.divInt n d).den=(d.sign*m).natAbs:=by omega
  rw[this,vz,hs,fm]
  refine qza1 ?_ h2
  conv=>rhs;rw[hm]
  rw[vz,dY]
  exact C3 _ (yH hg0)
theorem HM {n d:Int}(hd:d≠0):n.fdiv (bif decide (d<0) then -((Nat.gcd n.natAbs d.natAbs:Nat):Int) else ((Nat.gcd n.natAbs d.natAbs:Nat):Int))=(Rat.divInt n d).num∧d.fdiv (bif decide (d<0) then -((Nat.gcd n.natAbs d.natAbs:Nat):Int) else ((Nat.gcd n.natAbs d.natAbs:Nat):Int))=((Rat.divInt n d).den:Int):=by
 obtain⟨k,m,hk,hm,OW,e1,e2⟩:=qU (n:=n) hd
 have Ch:((Nat.gcd n.natAbs d.natAbs:Nat):Int)≠0:=by
  intro h
  rw[h,Int.zero_mul] at hm
  exact hd hm
 rw[e1,e2]
 generalize ((Nat.gcd n.natAbs d.natAbs:Nat):Int)=g at hk hm Ch ⊢
 by_cases h:d<0
 ·rw[iP h,ig,Kv h]
  constructor
  ·rw[hk,Lr Ch];omega
  ·rw[hm,Lr Ch];omega
 ·rw[gX h,cond_false,CX (by omega)]
  constructor
  ·rw[hk,Px Ch];omega
  ·rw[hm,Px Ch];omega
theorem F3 {n d:Int}(hd:d≠0)(h2:d.natAbs<LIM):Nat.gcd n.natAbs d.natAbs<LIM∧Nat.gcd n.natAbs d.natAbs≠0:=
 ⟨qza1 (Nat.gcd_le_right _ (by omega)) h2,fun h=>by have:=(Kb.1 h).2;omega⟩
theorem LP:mE=some (enc 1):=by
 unfold mE
 rw[GR (by decide) (by decide),ab]
theorem qe(x:ay):jo x=some (cV x):=by
 unfold jo
 rw[LR,ab,PP,ab]
 congr 1
 unfold cV
 cases x.vBad <;> rfl
theorem vS:f8=some Bg:=by
 unfold f8
 rw[LW,LP,ab,ab]
 rfl
theorem Pi {n d:Int}(hn:n.natAbs<LIM)(hd:d.natAbs<LIM):(∃q,m6 q∧(⟨enc n,enc d⟩:aj)=kt q)↔0<d∧Nat.gcd n.natAbs d.natAbs=1:=by
 constructor
 ·rintro⟨q,hq,e⟩
  unfold kt at e
  simp only[aj.mk.injEq] at e
  have e1:=yA hn hq.1 e.1
  have e2:=yA hd (by simpa using hq.2) e.2
  subst e1;subst e2
  exact⟨by have:=q.den_pos;omega,by rw[dY];exact q.reduced⟩
 ·rintro⟨h1,h2⟩
  refine⟨⟨n,d.natAbs,by omega,h2⟩,⟨hn,hd⟩,?_⟩
  unfold kt
  simp only[aj.mk.injEq,true_and]
  congr 1
  omega
theorem mj {x:aj}(hx:okR x):cu x=some (fh x).isSome:=by
 obtain⟨n,d⟩:=x
 obtain⟨h1,h2⟩:=hx
 dsimp only at h1 h2
 have hb:∀b:Bool,(b=true↔∃q,m6 q∧(⟨n,d⟩:aj)=kt q)→(fh ⟨n,d⟩).isSome=b:=by
  intro b hb
  cases hv:fh ⟨n,d⟩ with
  |none=>
   cases b with
   |false=>rfl
   |true=>
    obtain⟨q,h3,h4⟩:=hb.1 rfl
    exact absurd h4 (zo.1 hv q h3)
  |some q=>exact ((hb.2 ⟨q,eT.1 hv⟩).symm)
 unfold cu
 dsimp only
 rw[qe,qe,ab,ab]
 cases Ch:cV n with
 |false=>
  rw[a9,ab,hb false]
  constructor
  ·intro h;cases h
  ·rintro⟨q,hq,e⟩
   unfold kt at e
   simp only[aj.mk.injEq] at e
   rw[e.1,bD hq.1] at Ch;cases Ch
 |true=>
  cases Lh:cV d with
  |false=>
   rw[ew,a9,ab,hb false]
   constructor
   ·intro h;cases h
   ·rintro⟨q,hq,e⟩
    unfold kt at e
    simp only[aj.mk.injEq] at e
    rw[e.2,bD (by simpa using hq.2)] at Lh;cases Lh
  |true=>
   obtain⟨n,hn,rfl⟩:=rA h1 Ch
   obtain⟨d,hd,rfl⟩:=rA h2 Lh
   have hgi:=Pi hn hd
   rw[ew,ew,Ar hd,ab,LV hn hd,ab,LP,ab,fU]
   by_cases h0:0<d
   ·rw[aQ (by rw[CX h0];decide),ab]
    congr 1
    symm
    refine hb _ ?_
    rw[hgi,decide_eq_true_iff]
    have Mx:=(F3 (n:=n) (show d≠0 by omega) hd).1
    constructor
    ·intro h
     have:=yA (by simpa using Mx) (by decide) h
     exact⟨h0,by omega⟩
    ·rintro⟨_,h⟩
     rw[h];rfl
   ·rw[aV (by rw[Int.sign_pos_iff];exact h0),ab]
    congr 1
    symm
    refine hb _ ?_
    rw[hgi]
    constructor
    ·intro h;cases h
    ·rintro⟨h,_⟩;exact absurd h h0
theorem As {n d:Int}(hn:n.natAbs<LIM)(hd:d.natAbs<LIM)(h0:d≠0):dt (enc n) (enc d)=some (kt (Rat.divInt n d)):=by
 obtain⟨Ch,Lh⟩:=F3 (n:=n) h0 hd
 obtain⟨e1,e2⟩:=HM (n:=n) h0
 have Mx:(((Nat.gcd n.natAbs d.natAbs:Nat):Int)).natAbs<LIM:=by simpa using Ch
 unfold dt
 rw[qe,qe,ab,ab,bD hn,bD hd,fc,a9,a9,Ar hd,ab,ab,bA _ _ (by rw[Kw];exact h0),LV hn hd,ab,ab,QT Mx,ab]
 have OC:(cnd (decide (d.sign<(0:Int))) (some (enc (-((Nat.gcd n.natAbs d.natAbs:Nat):Int)))) (some (enc ((Nat.gcd n.natAbs d.natAbs:Nat):Int))))=some (enc (bif decide (d<0) then -((Nat.gcd n.natAbs d.natAbs:Nat):Int) else ((Nat.gcd n.natAbs d.natAbs:Nat):Int))):=by
  by_cases h:d<0
  ·rw[bF _ _ (by rw[Gw];exact h),iP h];rfl
  ·rw[bA _ _ (by rw[Gw];exact h),gX h];rfl
 have H0:((bif decide (d<0) then -((Nat.gcd n.natAbs d.natAbs:Nat):Int) else ((Nat.gcd n.natAbs d.natAbs:Nat):Int))).natAbs<LIM∧(bif decide (d<0) then -((Nat.gcd n.natAbs d.natAbs:Nat):Int) else ((Nat.gcd n.natAbs d.natAbs:Nat):Int))≠0:=by
  cases decide (d<0)
  ·simp only[cond_false];omega
  ·simp only[ig];omega
 rw[OC,ab,LT hn H0.1 H0.2,ab,LT hd H0.1 H0.2,ab,e1,e2]
 rfl
theorem IQ {x:ay}:dt x (enc 0)=some Bg:=by
 unfold dt
 rw[qe,qe,ab,ab,Ar (by decide),ab,bD (by decide),vS,ab]
 cases cV x <;> rfl
theorem Dy {x y:ay}(h:(cV x&&cV y)=false):dt x y=some Bg:=by
 unfold dt
 rw[qe,qe,ab,ab,vS,ab]
 cases h1:cV x with
 |false=>rfl
 |true=>
  cases h2:cV y with
  |false=>rfl
  |true=>rw[h1,h2] at h;cases h
def NP(x y:Rat):Option Rat:=
 if (x.num*((y.den / Nat.gcd x.den y.den:Nat):Int)).natAbs<LIM∧(y.num*((x.den / Nat.gcd x.den y.den:Nat):Int)).natAbs<LIM∧(x.num*((y.den / Nat.gcd x.den y.den:Nat):Int)+y.num*((x.den / Nat.gcd x.den y.den:Nat):Int)).natAbs<LIM∧x.den / Nat.gcd x.den y.den*y.den<LIM then some (x+y) else none
def NO(x y:Rat):Option Rat:=if m6 (x*y) then some (x*y) else none
theorem IC(x y:Rat):Rat.divInt (x.num*((y.den / Nat.gcd x.den y.den:Nat):Int)+y.num*((x.den / Nat.gcd x.den y.den:Nat):Int)) ((x.den / Nat.gcd x.den y.den*y.den:Nat):Int)=x+y:=by
 have hx:=x.den_pos
 have hy:=y.den_pos
 have hg:0<Nat.gcd x.den y.den:=Kt _ hx
 obtain⟨p,hp⟩:=Nat.gcd_dvd_left x.den y.den
 obtain⟨q,hq⟩:=Nat.gcd_dvd_right x.den y.den
 have e1:x.den / Nat.gcd x.den y.den=p:=by
                         conv=>lhs;lhs;rw[hp]
                         exact KB _ hg
 have e2:y.den / Nat.gcd x.den y.den=q:=by
                         conv=>lhs;lhs;rw[hq]
                         exact KB _ hg
 rw[e1,e2,Rat.add_def']
 generalize Nat.gcd x.den y.den=g at hg hp hq
 rw[←Ks,←Rat.divInt_mul_left (a:=(g:Int)) (by omega)]
 congr 1
 ·rw[Int.mul_add,hp,hq,qq,qq,Gc,Gc (y.num)]
 ·rw[hp]
  simp only[qq,Int.mul_assoc]
theorem qadd_fit(x y:Rat):Ii (NP x y):=by
 intro q h
 unfold NP at h
 split at h
 ·rename_i hc
  obtain⟨_,_,h3,h4⟩:=hc
  injection h with h
  subst h
  rw[←IC]
  refine t3 ?_ h3 (by rw[dY];exact h4)
  have hg:0<Nat.gcd x.den y.den:=Kt _ x.den_pos
  have:=C4 (xF y.den x.den_pos) hg
  have:=sr this y.den_pos
  omega
 ·cases h
theorem qmul_fit(x y:Rat):Ii (NO x y):=by
 intro q h
 unfold NO at h
 split at h
 ·rename_i hc
  injection h with h
  rw[←h];exact hc
 ·cases h
theorem cross(x y:Rat):(x*y).num=(Rat.divInt x.num y.den).num*(Rat.divInt y.num x.den).num∧(x*y).den=(Rat.divInt x.num y.den).den*(Rat.divInt y.num x.den).den:=by
 have hx:=x.den_pos
 have hy:=y.den_pos
 obtain⟨k,m,hk,hm,OW,e1,e2⟩:=qU (n:=x.num) (d:=(y.den:Int)) (by omega)
 obtain⟨k',m',uJ,tU,hm0',e1',e2'⟩:=qU (n:=y.num) (d:=(x.den:Int)) (by omega)
 rw[CX (by omega),CZ] at e1 e2 e1' e2'
 have hxy:x*y=Rat.divInt x.num y.den*Rat.divInt y.num x.den:=by
  rw[Rat.divInt_mul_divInt]
  conv=>lhs;rw[←Ku x,←Ku y,Rat.divInt_mul_divInt]
  rw[rJ (y.den:Int)]
 have hc:Nat.gcd ((Rat.divInt x.num y.den).num*(Rat.divInt y.num x.den).num).natAbs ((Rat.divInt x.num y.den).den*(Rat.divInt y.num x.den).den)=1:=by
  rw[vz]
  have c1:=(Rat.divInt x.num y.den).reduced
  have c2:=(Rat.divInt y.num x.den).reduced
  have d1:(Rat.divInt x.num y.den).num.natAbs ∣ x.num.natAbs:=by
   rw[e1];exact Int.natAbs_dvd_natAbs.2 ⟨_,by rw[rJ];exact hk⟩
  have d2:(Rat.divInt y.num x.den).den ∣ x.den:=Int.natCast_dvd_natCast.1 (by rw[e2'];exact⟨_,by rw[rJ];exact tU⟩)
  have d3:(Rat.divInt y.num x.den).num.natAbs ∣ y.num.natAbs:=by
   rw[e1'];exact Int.natAbs_dvd_natAbs.2 ⟨_,by rw[rJ];exact uJ⟩
  have d4:(Rat.divInt x.num y.den).den ∣ y.den:=Int.natCast_dvd_natCast.1 (by rw[e2];exact⟨_,by rw[rJ];exact hm⟩)
  have c3:Nat.Coprime (Rat.divInt x.num y.den).num.natAbs (Rat.divInt y.num x.den).den:=Nat.Coprime.coprime_dvd_left d1 (Nat.Coprime.coprime_dvd_right d2 x.reduced)
  have c4:Nat.Coprime (Rat.divInt y.num x.den).num.natAbs (Rat.divInt x.num y.den).den:=Nat.Coprime.coprime_dvd_left d3 (Nat.Coprime.coprime_dvd_right d4 y.reduced)
  exact Nat.Coprime.mul_left (Nat.Coprime.mul_right c1 c3) (Nat.Coprime.mul_right c4 c2)
 rw[hxy,Rat.num_mul,Rat.den_mul,hc]
 exact⟨by simp,by simp⟩
theorem tZ(q:Rat):(kt q).vN=enc q.num:=rfl
theorem ve(q:Rat):(kt q).vD=enc (q.den:Int):=rfl
theorem Ls(z:Int):(enc z).vBad=decide (¬z.natAbs<LIM):=by
 by_cases h:z.natAbs<LIM
 ·rw[rD h];simp[h]
 ·rw[Cu h];simp[h];rfl
theorem fa {q:Rat}(h:m6 q):((q.den:Nat):Int).natAbs<LIM:=by simpa using h.2
theorem G_rMul {x y:Rat}(hx:m6 x)(hy:m6 y):eO (kt x) (kt y)=some (vd (NO x y)):=by
 have hdx:=x.den_pos
 have hdy:=y.den_pos
 obtain⟨c1,c2⟩:=cross x y
 have f1:=t3 (n:=x.num) (d:=(y.den:Int)) (by omega) hx.1 (fa hy)
 have f2:=t3 (n:=y.num) (d:=(x.den:Int)) (by omega) hy.1 (fa hx)
 unfold eO
 rw[show cu (kt x)=_ from mj (oC (some x)),show cu (kt y)=_ from mj (oC (some y)),oA hx,oA hy,ab,ab]
 simp only[xE,fc,a9,ab,tZ,ve]
 rw[As hx.1 (fa hy) (by omega),ab,As hy.1 (fa hx) (by omega),ab]
 simp only[tZ,ve]
 rw[IP f1.1 f2.1,ab,IP (fa f1) (fa f2),ab,←c1,←qq,←c2,Ls,Ls,cnd_or,ab,vS,ab,←Bool.decide_or,fU]
 unfold NO
 by_cases h:m6 (x*y)
 ·obtain⟨h1,h2⟩:=id h
  rw[aV (by rw[dY];omega),aQ h];rfl
 ·have h1:¬((x*y).num.natAbs<LIM∧(x*y).den<LIM):=h
  rw[aQ (by rw[dY];omega),aV h];rfl
theorem Du {x y:aj}(hx:okR x)(hy:okR y)(h:((fh x).isSome&&(fh y).isSome)=false):eO x y=some Bg:=by
 unfold eO
 rw[mj hx,mj hy,ab,ab,vS,ab]
 cases h1:(fh x).isSome with
 |false=>rfl
 |true=>
  cases h2:(fh y).isSome with
  |false=>rfl
  |true=>rw[h1,h2] at h;cases h
theorem Bo {n g:Nat}:((n:Int)).fdiv (g:Int)=((n / g:Nat):Int):=by
 rw[Int.fdiv_eq_ediv_of_nonneg _ (Gx _)]
 exact (Kh ..).symm
theorem G_rAdd {x y:Rat}(hx:m6 x)(hy:m6 y):gz (kt x) (kt y)=some (vd (NP x y)):=by
 have hdx:=x.den_pos
 have hdy:=y.den_pos
 have hg:0<Nat.gcd x.den y.den:=Kt _ hdx
 have Mx:Nat.gcd x.den y.den<LIM:=qza1 (xF _ hdx) hx.2
 have O3:((Nat.gcd x.den y.den:Nat):Int).natAbs<LIM:=by simpa using Mx
 have hp:x.den / Nat.gcd x.den y.den<LIM:=qza1 (pR _ _) hx.2
 have hq:y.den / Nat.gcd x.den y.den<LIM:=qza1 (pR _ _) hy.2
 have hp0:0<x.den / Nat.gcd x.den y.den:=C4 (xF y.den hdx) hg
 have DC:0<x.den / Nat.gcd x.den y.den*y.den:=sr hp0 hdy
 have haf:=IC x y
 unfold gz
 rw[show cu (kt x)=_ from mj (oC (some x)),show cu (kt y)=_ from mj (oC (some y)),oA hx,oA hy,ab,ab]
 simp only[xE,fc,a9,ab,tZ,ve]
 rw[LV (fa hx) (fa hy),ab,dY,dY,LT (fa hx) O3 (by omega),ab,LT (fa hy) O3 (by omega),ab,Bo,Bo,IP hx.1 (by rw[dY];exact hq),ab,IP hy.1 (by rw[dY];exact hp),ab,IP (by rw[dY];exact hp) (fa hy),←qq]
 unfold NP
 revert haf
 generalize x.num*((y.den / Nat.gcd x.den y.den:Nat):Int)=z1
 generalize y.num*((x.den / Nat.gcd x.den y.den:Nat):Int)=z2
 revert DC
 generalize x.den / Nat.gcd x.den y.den*y.den=D
 intro DC haf
 have hsum:jb (enc z1) (enc z2)=some (if z1.natAbs<LIM∧z2.natAbs<LIM then enc (z1+z2) else Eh):=by
  by_cases h:z1.natAbs<LIM∧z2.natAbs<LIM
  ·rw[aQ h,G_Add h.1 h.2]
  ·rw[aV h,MX (by rw[jC,jC,←vu];exact gX h)]
 rw[hsum,ab,ab,oT]
 by_cases h:z1.natAbs<LIM∧z2.natAbs<LIM
 ·rw[aQ h]
  by_cases h2:(z1+z2).natAbs<LIM∧D<LIM
  ·rw[As h2.1 (by rw[dY];exact h2.2) (by omega),haf,aQ ⟨h.1,h.2,h2⟩];rfl
  ·rw[Dy (by rw[jC,jC,←vu,dY];exact gX h2),aV fun hh=>h2 hh.2.2];rfl
 ·rw[aV h,Dy (by rw[z5,Bool.false_and]),aV fun hh=>h ⟨hh.1,hh.2.1⟩];rfl
theorem Dv {x y:aj}(hx:okR x)(hy:okR y)(h:((fh x).isSome&&(fh y).isSome)=false):gz x y=some Bg:=by
 unfold gz
 rw[mj hx,mj hy,ab,ab,vS,ab]
 cases h1:(fh x).isSome with
 |false=>rfl
 |true=>
  cases h2:(fh y).isSome with
  |false=>rfl
  |true=>rw[h1,h2] at h;cases h
def NZ(a b:Option Rat):Option Rat:=a.bind fun x=>b.bind fun y=>NP x y
def Jl(a b:Option Rat):Option Rat:=a.bind fun x=>b.bind fun y=>NO x y
def NU(a:Option Rat):Option Rat:=a.map fun x=>-x
def oinv(a:Option Rat):Option Rat:=a.bind fun x=>if x=0 then none else some x⁻¹
def osub(a b:Option Rat):Option Rat:=NZ a (NU b)
def odiv(a b:Option Rat):Option Rat:=Jl a (oinv b)
def osgn(a:Option Rat):Int:=match a with|some x=>x.num.sign|none=>0
theorem oadd_fit(a b:Option Rat):Ii (NZ a b):=by
 cases a with
 |none=>exact EN
 |some x=>
  cases b with
  |none=>exact EN
  |some y=>exact qadd_fit x y
theorem omul_fit(a b:Option Rat):Ii (Jl a b):=by
 cases a with
 |none=>exact EN
 |some x=>
  cases b with
  |none=>exact EN
  |some y=>exact qmul_fit x y
theorem Pr {x:Rat}(h:m6 x):m6 (-x):=⟨by rw[Rat.neg_num,Int.natAbs_neg];exact h.1,h.2⟩
theorem NT {a:Option Rat}(h:Ii a):Ii (NU a):=by
 cases a with
 |none=>exact EN
 |some x=>
  intro q hq
  injection hq with hq
  subst hq
  exact Pr (h x rfl)
theorem Ps {x:Rat}(h:m6 x)(h0:x≠0):m6 x⁻¹:=by
 have hn:x.num≠0:=fun h=>h0 (Rat.num_eq_zero.1 h)
 refine⟨?_,?_⟩
 ·rw[Rat.num_inv,vz,Int.natAbs_sign,aV hn,fm,dY];exact h.2
 ·rw[Rat.den_inv,aV hn];exact h.1
theorem NY {a:Option Rat}(h:Ii a):Ii (oinv a):=by
 cases a with
 |none=>exact EN
 |some x=>
  intro q hq
  have hq:(if x=0 then none else some x⁻¹)=some q:=hq
  split at hq
  ·cases hq
  ·rename_i h0
   injection hq with hq
   subst hq
   exact Ps (h x rfl) h0
theorem odiv_fit(a b:Option Rat):Ii (odiv a b):=omul_fit _ _
theorem QN {x y:aj}(hx:okR x)(hy:okR y):gz x y=some (vd (NZ (fh x) (fh y))):=by
 cases h1:fh x with
 |none=>exact Dv hx hy (by rw[h1];rfl)
 |some p=>
  cases h2:fh y with
  |none=>exact Dv hx hy (by rw[h1,h2];rfl)
  |some q=>
   obtain⟨hp,rfl⟩:=eT.1 h1
   obtain⟨hq,rfl⟩:=eT.1 h2
   exact G_rAdd hp hq
theorem KM {x y:aj}(hx:okR x)(hy:okR y):eO x y=some (vd (Jl (fh x) (fh y))):=by
 cases h1:fh x with
 |none=>exact Du hx hy (by rw[h1];rfl)
 |some p=>
  cases h2:fh y with
  |none=>exact Du hx hy (by rw[h1,h2];rfl)
  |some q=>
   obtain⟨hp,rfl⟩:=eT.1 h1
   obtain⟨hq,rfl⟩:=eT.1 h2
   exact G_rMul hp hq
theorem QM {x:aj}(hx:okR x):mF x=some (vd (NU (fh x))):=by
 unfold mF
 rw[mj hx,ab]
 cases h1:fh x with
 |none=>rw[vS,ab];rfl
 |some p=>
  obtain⟨hp,rfl⟩:=eT.1 h1
  simp only[xE,fc,a9,tZ,ve]
  rw[QT hp.1,ab]
  rfl
theorem G_osub {x y:aj}(hx:okR x)(hy:okR y):si x y=some (vd (osub (fh x) (fh y))):=by
 unfold si
 rw[QM hy,ab,QN hx (oC _),ab,zp (NT (Pu y))]
 rfl
theorem KN {q:Rat}(hq:m6 q):dt (enc (q.den:Int)) (enc q.num)=some (vd (oinv (some q))):=by
 by_cases h:q=0
 ·subst h
  show dt _ (enc 0)=_
  rw[IQ];rfl
 ·have hn:q.num≠0:=fun h0=>h (Rat.num_eq_zero.1 h0)
  rw[As (fa hq) hq.1 hn,←Rat.inv_def]
  show _=some (vd (if q=0 then none else some q⁻¹))
  rw[aV h];rfl
theorem G_odiv {x y:aj}(hx:okR x)(hy:okR y):sj x y=some (vd (odiv (fh x) (fh y))):=by
 unfold sj
 rw[mj hy,ab]
 cases h2:fh y with
 |none=>
  rw[vS,ab]
  show some Bg=some (vd (Jl (fh x) none))
  unfold Jl
  cases fh x <;> rfl
 |some q=>
  obtain⟨hq,rfl⟩:=eT.1 h2
  simp only[xE,fc,a9,tZ,ve]
  rw[KN hq,ab,KM hx (oC _),ab,zp (NY fun r hr=>by injection hr with hr;subst hr;exact hq)]
  rfl
theorem QK {x:aj}(hx:okR x):mY x=some (osgn (fh x)):=by
 unfold mY
 rw[mj hx,ab]
 cases h1:fh x with
 |none=>rfl
 |some p=>
  obtain⟨hp,rfl⟩:=eT.1 h1
  simp only[xE,fc,a9,tZ]
  rw[Ar hp.1,ab]
  rfl
theorem Cv(n:Int):Rat.divInt n 1=(n:Rat):=by
 show Rat.divInt n ((1:Nat):Int)=_
 rw[Ks]
 exact Rat.mkRat_self (n:Rat)
theorem QJ {n:Int}(h:n.natAbs<LIM):nC (enc n)=some (kt (n:Rat)):=by
 unfold nC
 rw[LP,ab,As h (by decide) (by decide),ab,Cv]
theorem G_rOf {n:Int}(h1:-9223372036854775808≤n)(h2:n≤9223372036854775807):fk n=some (kt (n:Rat)):=by
 have hL:n.natAbs<LIM:=cm (show n.natAbs<18446744073709551616 by omega) (by decide)
 unfold fk
 rw[GR h1 h2,ab,QJ hL,ab]
section
def lF(n:Nat)(f:Nat→Nat):List Int:=(List.range n).map fun j=>(f j:Int)
section
variable {n m p x k j:Nat} {f g:Nat→Nat}
theorem de:(lF n f).length=n:=by unfold lF;simp
theorem qD(h:j<n):(lF n f)[j]! =(f j:Int):=by
 unfold lF
 rw[iR _ j (by simpa using h)]
 simp
theorem tR(h:∀j,j<n→f j=g j):lF n f=lF n g:=by
 unfold lF
 apply oY
 intro j hj
 rw[h j (by simpa using hj)]
theorem yv:lF n f++[(f n:Int)]=lF (n+1) f:=by
 unfold lF
 rw[w7,nd];rfl
theorem Ju:(lF n f).set p (x:Int)=lF n (fun j=>if j=p then x else f j):=by
 apply Gg
 ·rw[CK,de,de]
 ·intro i h1 h2
  rw[List.getElem_set]
  have h3:i<n:=by rw[de] at h2;exact h2
  have e1:=qD (f:=fun j=>if j=p then x else f j) h3
  rw[iR _ i h2] at e1
  rw[e1]
  split
  ·rename_i h;rw[aQ h.symm]
  ·rename_i h
   rw[aV (fun e=>h e.symm)]
   have e2:=qD (f:=f) h3
   rw[iR _ i (by rw[de];exact h3)] at e2
   exact e2
theorem lF_take(h:m≤n):(lF n f).take m=lF m f:=by
 unfold lF
 rw[←ub,List.take_range,rH h]
theorem lF_cons:[(x:Int)]++lF n f=lF (n+1) (fun j=>if j=0 then x else f (j - 1)):=by
 unfold lF
 rw[List.range_succ_eq_map,bN,qza3]
 rfl
theorem Oo:List.replicate n (0:Int)=lF n (fun _=>0):=by
 unfold lF
 induction n with
 |zero=>rfl
 |succ n ih=>rw[List.replicate_succ',ih,w7,nd];rfl
end
abbrev dk(n A:Nat):List Int:=lF n (dg 65536 A)
theorem lm {A j:Nat}:dg 65536 A j<65536:=PG (by decide)
theorem Nw(A:Nat):∃n,szp 65536 A n:=by
 induction A using Nat.strongRecOn with
 |_ A ih=>
  by_cases h:A=0
  ·subst h;exact⟨0,by decide,fun h=>by omega⟩
  ·obtain⟨n,h1,h2⟩:=ih (A / 65536) (by omega)
   refine⟨n+1,?_,fun _=>?_⟩
   ·rw[fe];exact (pz (by decide)).1 h1
   ·rw[Al]
    cases n with
    |zero=>rw[kz];omega
    |succ n=>
     have:=h2 (by omega)
     rw[Al] at this
     rw[fe]
     exact (pT (by decide)).1 this
def sz6(A:Nat):Nat:=Classical.choose (Nw A)
theorem yg(A:Nat):szp 65536 A (sz6 A):=vi (Nw A)
theorem fG(A:Nat):A<65536 ^ sz6 A:=(yg A).1
theorem qy {A n:Nat}(h:A<65536 ^ n):sz6 A≤n:=I9 (by decide) (yg A) h
theorem Ja {A n:Nat}(h:szp 65536 A n):n=sz6 A:=Nv (by decide) h (yg A)
theorem BN:sz6 0=0:=(Ja ⟨by decide,fun h=>by omega⟩).symm
theorem Bm {A:Nat}(h:0<A):0<sz6 A:=by
 rcases kN (sz6 A) with h1|h1
 ·have:=fG A
  rw[h1,kz] at this;omega
 ·exact h1
noncomputable abbrev dl(A:Nat):List Int:=dk (sz6 A) A
theorem J3(A:Nat):(dl A).length=sz6 A:=de
theorem dl_zero:dl 0=[]:=by unfold dl;rw[BN];rfl
theorem J2 {A:Nat}:(dl A).length=0↔A=0:=by
 rw[J3]
 constructor
 ·intro h
  rcases kN A with h1|h1
  ·exact h1
  ·have:=Bm h1;omega
 ·rintro rfl;exact BN
theorem uj {n A k:Nat}(hA:A<65536 ^ n):eb (dk n A) (k:Int)=some ((dg 65536 A k:Nat):Int):=by
 unfold eb
 rw[de]
 by_cases h:k<n
 ·rw[bF _ _,aI,bh,qD h]
 ·rw[bA _ _,mh (cm hA (na (by decide) (by omega)))];rfl
theorem xM {n A:Nat}(hA:A<65536 ^ n)(hn:n<1000000):fQ (dk n A)=some (dl A):=by
 obtain⟨x,hl,hx⟩:=wS (b:=lI (dk n A)) (fun s=>∃k:Nat,s=(k:Int)∧k≤n∧A<65536 ^ k) (fun s=>s.toNat) (fun x=>x=((sz6 A:Nat):Int))
  (by
   rintro s ⟨k,rfl,hk,cg⟩
   cases k with
   |zero=>
    right
    refine⟨((0:Nat):Int),?_,?_⟩
    ·dsimp only[lI]
     rw[bA _ _,ab,a9]
    ·show ((0:Nat):Int)=_
     rw[←Ja ⟨cg,fun h=>by omega⟩]
   |succ k=>
    have e:i64.wrap (((k+1:Nat):Int) - 1)=(k:Int):=by rw[cG];omega
    dsimp only[lI]
    rw[bF _ _,e,de,aI,ab,bh,qD (by omega),fU]
    by_cases hd:dg 65536 A k=0
    ·left
     refine⟨(k:Int),by rw[ifp_],⟨k,rfl,by omega,?_⟩,by omega⟩
     unfold dg at hd
     have h1:A / 65536 ^ k<65536:=by
      rw[pz (dP (by decide)),cY,←fe];exact cg
     rw[gL h1] at hd
     exact (GD (dP (by decide))).1 hd
    ·right
     refine⟨((k+1:Nat):Int),by rw[ifn_],?_⟩
     show ((k+1:Nat):Int)=_
     rw[Ja (A:=A) ⟨cg,fun _=>?_⟩]
     rcases cc A (65536 ^ k) with h|h
     ·exact absurd (mh h) hd
     ·exact h) (n:Int) ⟨n,rfl,bI _,hA⟩
 unfold fQ
 have hs:=qy hA
 rw[de,hl,hx,ab,aI,subL_to _ _ (by omega),bh,lF_take hs]
theorem pmax {n m A B:Nat}(hA:A<65536 ^ n)(hB:B<65536 ^ m):A<65536 ^ max n m∧B<65536 ^ max n m:=
 ⟨cm hA (na (by decide) (LH ..)),cm hB (na (by decide) (Gj ..))⟩
theorem BY(n m:Nat):max (n:Int) (m:Int)=((max n m:Nat):Int):=by omega
theorem GQ {n m A B:Nat}(hA:A<65536 ^ n)(hB:B<65536 ^ m)(hn:n<100000)(hm:m<100000):lg (dk n A) (dk m B)=some (dl (A+B)):=by
 have hM:max n m<100000:=by omega
 obtain⟨Lj,hB'⟩:=pmax hA hB
 have hl:=rr (b:=j5 (dk n A) (dk m B)) (s0:=(([]:List Int),(0:Int),(0:Int))) (fun k=>(dk k (A+B),(((A % 65536 ^ k+B % 65536 ^ k) / 65536 ^ k:Nat):Int),(k:Int))) (max n m+1) (dk (max n m+1) (A+B))
  (by simp only[kz,qN];rfl)
  (fun k hk=>by
   have hc:=oQ (b:=65536) (A:=A) (B:=B) (k:=k) (by decide)
   obtain⟨h1,h2⟩:=pW (b:=65536) (A:=A) (B:=B) (k:=k) (by decide)
   have ha:=@lm A k
   have hb:=@lm B k
   have Pd:=oQ (b:=65536) (A:=A) (B:=B) (k:=k+1) (by decide)
   generalize (A % 65536 ^ k+B % 65536 ^ k) / 65536 ^ k=c at h1 h2 hc ⊢
   generalize (A % 65536 ^ (k+1)+B % 65536 ^ (k+1)) / 65536 ^ (k+1)=c' at h2 Pd ⊢
   dsimp only[j5]
   rw[de,de,BY,cG,bF _ _,uj hA,ab,uj hB,ab,cG (z:=(dg 65536 A k:Int)+(dg 65536 B k:Int)) (by omega),cG,ab,←oc,←oc,show (65536:Int)=((65536:Nat):Int) from rfl,←sL,←sM,qr (dg 65536 A k+dg 65536 B k),←nq,h1,h2,yv,de,aI,cG (z:=(c':Int)) (by omega),cG]
   rfl)
  (by
   dsimp only[j5]
   rw[de,de,BY,cG,bA _ _])
 unfold lg
 have:A+B<65536 ^ (max n m+1):=by rw[fe];omega
 rw[hl,ab,xM this (by omega),ab]
theorem za {n m A B:Nat}(hA:A<65536 ^ n)(hB:B<65536 ^ m)(hn:n<100000)(hBA:B≤A):im (dk n A) (dk m B)=some (dl (A - B)):=by
 obtain⟨D,rfl⟩:∃D,A=D+B:=⟨A - B,by omega⟩
 rw[Al]
 have hl:=rr (b:=ji (dk n (D+B)) (dk m B)) (s0:=(([]:List Int),(0:Int),(0:Int))) (fun k=>(dk k D,(((D % 65536 ^ k+B % 65536 ^ k) / 65536 ^ k:Nat):Int),(k:Int))) n (dk n D)
  (by simp only[kz,qN];rfl)
  (fun k hk=>by
   have hc:=oQ (b:=65536) (A:=D) (B:=B) (k:=k) (by decide)
   have Pd:=oQ (b:=65536) (A:=D) (B:=B) (k:=k+1) (by decide)
   obtain⟨h1,h2⟩:=pW (b:=65536) (A:=D) (B:=B) (k:=k) (by decide)
   have ha:=@lm D k
   have hb:=@lm B k
   have hd:=@lm (D+B) k
   generalize hq:(D % 65536 ^ k+B % 65536 ^ k) / 65536 ^ k=c at h1 h2 hc ⊢
   generalize (D % 65536 ^ (k+1)+B % 65536 ^ (k+1)) / 65536 ^ (k+1)=c' at h2 Pd ⊢
   dsimp only[ji]
   rw[de,bF _ _,aI,uj hB,ab,bh,qD hk,cG (z:=(dg 65536 (D+B) k:Int) - (dg 65536 B k:Int)) (by omega),cG,ab]
   by_cases hn0:(dg 65536 (D+B) k:Int) - (dg 65536 B k:Int) - (c:Int)<0
   ·obtain rfl:c'=1:=by omega
    rw[bF _ _ hn0,ab,cG]
    dsimp only
    rw[show (dg 65536 (D+B) k:Int) - (dg 65536 B k:Int) - (c:Int)+65536=(dg 65536 D k:Int) from by omega,yv,de,aI,cG]
    rfl
   ·obtain rfl:c'=0:=by omega
    rw[bA _ _ hn0,ab]
    dsimp only
    rw[show (dg 65536 (D+B) k:Int) - (dg 65536 B k:Int) - (c:Int)=(dg 65536 D k:Int) from by omega,yv,de,aI,cG]
    rfl)
  (by
   dsimp only[ji]
   rw[de,bA _ _])
 unfold im
 rw[hl,ab,xM (by omega) (by omega),ab]
theorem yr {A B k:Nat}(he:A / 65536 ^ (k+1)=B / 65536 ^ (k+1))(h:dg 65536 A k<dg 65536 B k):A<B:=by
 have e1:=c9 (b:=65536) (A:=A) (k:=k)
 have e2:=c9 (b:=65536) (A:=B) (k:=k)
 have h1:A / 65536 ^ k<B / 65536 ^ k:=by
  rw[e1,e2,he];exact vw h _
 rcases cc A B with h2|h2
 ·exact h2
 ·exact absurd (KC h2) (Nat.not_le.2 h1)
theorem LQ {n m A B:Nat}(hA:A<65536 ^ n)(hB:B<65536 ^ m)(hn:n<100000)(hm:m<100000):mW (dk n A) (dk m B)=some (decide (A<B)):=by
 obtain⟨Lj,hB'⟩:=pmax hA hB
 obtain⟨x,hl,hx⟩:=wS (b:=lJ (dk n A) (dk m B)) (fun s=>∃k:Nat,s=(k:Int) - 1∧k≤max n m∧A / 65536 ^ k=B / 65536 ^ k) (fun s=>(s+1).toNat) (fun x=>match x with| .inl r=>r=decide (A<B)| .inr _=>A=B)
  (by
   rintro s ⟨k,rfl,hk,he⟩
   cases k with
   |zero=>
    right
    refine⟨(Sum.inr ():Bool⊕Unit),?_,?_⟩
    ·dsimp only[lJ]
     rw[bA _ _]
    ·simpa using he
   |succ k=>
    have e:((k+1:Nat):Int) - 1=(k:Int):=by omega
    rw[e]
    dsimp only[lJ]
    rw[bF _ _,uj hA,ab,uj hB,ab]
    by_cases hd:dg 65536 A k=dg 65536 B k
    ·left
     refine⟨(k:Int) - 1,?_,⟨k,rfl,by omega,?_⟩,by omega⟩
     ·rw[bA _ _ (by rw[hd];simp),cG]
     ·rw[c9 (b:=65536) (A:=A) (k:=k),c9 (b:=65536) (A:=B) (k:=k),he,hd]
    ·right
     refine⟨(Sum.inl (decide (A<B)):Bool⊕Unit),?_,rfl⟩
     rw[bF _ _,ab,ab]
     congr 3
     refine mJ.2 ?_
     rcases Nat.lt_or_gt_of_ne hd with h|h
     ·have:=yr he h
      exact⟨fun _=>this,fun _=>by omega⟩
     ·have:=yr he.symm h
      exact⟨fun h'=>by omega,fun h'=>by omega⟩) (((max n m:Nat):Int) - 1) ⟨max n m,rfl,bI _,by rw[gD Lj,gD hB']⟩
 unfold mW
 rw[de,de,BY,cG,ab,hl,ab]
 cases x with
 |inl r=>obtain rfl:r=_:=hx;rfl
 |inr u=>
  obtain rfl:A=B:=hx
  simp
section
variable {b:Nat} {f g:Nat→Nat}
theorem Hn:∀n,(∀j,j<n→f j=g j)→gG b f n=gG b g n
 |0,_=>rfl
 |n+1,h=>by
  unfold gG
  rw[Hn n fun j hj=>h j (by omega),h n (by omega)]
theorem Hl {q x:Nat}:∀n,q<n→gG b (fun j=>if j=q then f j+x else f j) n=gG b f n+x*b ^ q
 |0,h=>by omega
 |n+1,h=>by
  unfold gG
  by_cases hq:q=n
  ·subst hq
   rw[aQ rfl,Hn q (g:=f) fun j hj=>ifn_,cO];omega
  ·rw[ifn_,Hl n (by omega)];omega
theorem KS {A:Nat}:∀n,gG b (dg b A) n=A % b ^ n
 |0=>by simp[gG,qN]
 |n+1=>by
  unfold gG
  rw[KS n,gS,cY]
theorem Hm(k:Nat):∀n,k≤n→gG b f n % b ^ k=gG b f k % b ^ k
 |0,h=>by
  obtain rfl:k=0:=by omega
  rfl
 |n+1,h=>by
  by_cases hk:k=n+1
  ·rw[hk]
  ·have uJ:k≤n:=by omega
   obtain⟨d,rfl⟩:∃d,n=k+d:=⟨n - k,by omega⟩
   rw[←Hm k (k+d) uJ]
   show (gG b f (k+d)+f (k+d)*b ^ (k+d)) % b ^ k=_
   rw[lO,ET,ES]
theorem KR {M:Nat}(hb:2≤b):∀n,(∀j,j<n→f j≤M)→gG b f n≤M*b ^ n
 |0,_=>by simp[gG]
 |n+1,h=>by
  have ih:=KR hb n fun j hj=>h j (by omega)
  have h1:f n*b ^ n≤M*b ^ n:=c6 _ (h n (by omega))
  have h2:M*b ^ n*2≤M*b ^ n*b:=ud _ hb
  unfold gG
  rw[fe,←jx]
  omega
theorem Mg {n k:Nat}(hb:0<b)(hk:k<n):(gG b f k / b ^ k+f k) % b=dg b (gG b f n) k∧(gG b f k / b ^ k+f k) / b=gG b f (k+1) / b ^ (k+1):=by
 have hp:0<b ^ k:=dP hb
 have e:gG b f (k+1) / b ^ k=gG b f k / b ^ k+f k:=by
  show (gG b f k+f k*b ^ k) / b ^ k=_
  rw[Kj _ _ hp]
 refine⟨?_,?_⟩
 ·rw[←e,←nV (A:=gG b f n) (k:=k+1) (eR _),Hm (k+1) n hk,nV (eR _)]
  rfl
 ·rw[←e,lN,←fe]
end
theorem L6 {n m A B i:Nat}(hi:i<n)(hn:n<1000)(hm:m<1000)(hB:B<65536 ^ m){R:Nat}(hR:R<65536 ^ (n+m+1)):
  ∃f:Nat→Nat,bf (jh (dk n A) (dk m B) (i:Int)) ((0:Int),dk (n+m+1) R)=some (lF (n+m+1) f)∧gG 65536 f (n+m+1)=R+dg 65536 A i*B*65536 ^ i∧∀j,f j≤65535+65535*65535:=by
 have ha:=@lm A i
 have eP:i64.wrap ((i64.wrap (((dk n A).length:Int)+((dk m B).length:Int)))+(1:Int))=((n+m+1:Nat):Int):=by
  rw[de,de,cG (z:=(n:Int)+(m:Int)) (by omega),cG];omega
 obtain⟨x,hl,f,rfl,h1,h2⟩:=wS (b:=jh (dk n A) (dk m B) (i:Int)) (fun s=>∃(k:Nat) (f:Nat→Nat),s=((k:Int),lF (n+m+1) f)∧k≤m∧gG 65536 f (n+m+1)=R+dg 65536 A i*(B % 65536 ^ k)*65536 ^ i∧(∀j,f j≤65535+65535*65535)∧∀j,i+k≤j→f j≤65535) (fun s=>m - s.1.toNat)
  (fun x=>∃f:Nat→Nat,x=lF (n+m+1) f∧gG 65536 f (n+m+1)=R+dg 65536 A i*B*65536 ^ i∧∀j,f j≤65535+65535*65535)
  (by
   rintro s ⟨k,f,rfl,hk,hv,hf,hf2⟩
   dsimp only[jh]
   rw[eP,bh,de,de,de]
   by_cases hkm:k<m
   ·left
    have eik:i64.wrap ((i:Int)+(k:Int))=((i+k:Nat):Int):=by rw[cG];omega
    have hb:=@lm B k
    have M7:dg 65536 A i*dg 65536 B k≤65535*65535:=iS (by omega) (by omega)
    have hfk:=hf2 (i+k) (bI _)
    rw[bF _ _,eik,aI,aI,aI,aI,ab,bh,bh,bh,qD (by omega),qD hi,qD hkm,←qq,cG (z:=((dg 65536 A i*dg 65536 B k:Nat):Int)) (by omega),←oc,cG (z:=((f (i+k)+dg 65536 A i*dg 65536 B k:Nat):Int)) (by omega),Ju,cG]
    have e:lF (n+m+1) (fun j=>if j=i+k then f (i+k)+dg 65536 A i*dg 65536 B k else f j)=lF (n+m+1) (fun j=>if j=i+k then f j+dg 65536 A i*dg 65536 B k else f j):=tR fun j _=>by
     by_cases h:j=i+k
     ·rw[aQ h,aQ h,h]
     ·rw[aV h,aV h]
    refine⟨_,rfl,⟨k+1,(fun j=>if j=i+k then f j+dg 65536 A i*dg 65536 B k else f j),by rw[e];rfl,by omega,?_,fun j=>?_,fun j hj=>?_⟩,by show m - ((k:Int)+1).toNat<m - (k:Int).toNat;omega⟩
    ·rw[Hl _ (by omega),hv,gS,yE,cO,lO]
     simp only[jx,ET,cY,nq]
    ·dsimp only
     by_cases h:j=i+k
     ·rw[aQ h,h];omega
     ·rw[aV h];exact hf j
    ·dsimp only
     rw[ifn_];exact hf2 j (by omega)
   ·right
    obtain rfl:k=m:=by omega
    refine⟨_,by rw[bA _ _],f,rfl,?_,hf⟩
    rw[hv,gL hB])
  ((0:Int),dk (n+m+1) R) ⟨0,dg 65536 R,rfl,fH _,by rw[KS,kz,qN,LI,gb,gL hR,mi],fun j=>by have:=@lm R j;omega,fun j _=>by have:=@lm R j;omega⟩
 exact⟨f,hl,h1,h2⟩
theorem I8 {n m A B:Nat}(hn:n<1000)(hm:m<1000){f:Nat→Nat}(hf:∀j,f j≤65535+65535*65535):
  bf (gH (dk n A) (dk m B)) ((0:Int),(0:Int),lF (n+m+1) f)=some (dk (n+m+1) (gG 65536 f (n+m+1))):=by
 have eP:i64.wrap ((i64.wrap (((dk n A).length:Int)+((dk m B).length:Int)))+(1:Int))=((n+m+1:Nat):Int):=by
  rw[de,de,cG (z:=(n:Int)+(m:Int)) (by omega),cG];omega
 have hl:=rr (b:=gH (dk n A) (dk m B)) (s0:=((0:Int),(0:Int),lF (n+m+1) f)) (fun k=>(((gG 65536 f k / 65536 ^ k:Nat):Int),(k:Int),lF (n+m+1) (fun j=>if j<k then dg 65536 (gG 65536 f (n+m+1)) j else f j))) (n+m+1) (lF (n+m+1) (fun j=>if j<n+m+1 then dg 65536 (gG 65536 f (n+m+1)) j else f j))
  (by
   rw[show gG 65536 f 0 / 65536 ^ 0=0 from by simp[gG],tR (n:=n+m+1) (f:=fun j=>if j<0 then dg 65536 (gG 65536 f (n+m+1)) j else f j) (g:=f) fun j _=>ifn_]
   rfl)
  (fun k hk=>by
   obtain⟨h1,h2⟩:=Mg (b:=65536) (f:=f) (n:=n+m+1) (k:=k) (by decide) hk
   have hc:gG 65536 f k / 65536 ^ k≤65535+65535*65535:=by
    have:=KR (b:=65536) (f:=f) (by decide) k fun j _=>hf j
    exact Nat.div_le_of_le_mul (by rw[cY];exact this)
   have hfk:=hf k
   generalize gG 65536 f k / 65536 ^ k=c at h1 h2 hc ⊢
   generalize gG 65536 f (k+1) / 65536 ^ (k+1)=c' at h2 ⊢
   dsimp only[gH]
   rw[eP,bh,de,bF _ _,aI,ab,aI,bh,qD hk,aV (Gr _),←oc,qr (f k),cG (z:=((c+f k:Nat):Int)) (by omega),show (65536:Int)=((65536:Nat):Int) from rfl,←sL,←sM,h1,h2,cG (z:=(c':Int)) (by omega),cG,Ju]
   have e:lF (n+m+1) (fun j=>if j=k then dg 65536 (gG 65536 f (n+m+1)) k else if j<k then dg 65536 (gG 65536 f (n+m+1)) j else f j)=lF (n+m+1) (fun j=>if j<k+1 then dg 65536 (gG 65536 f (n+m+1)) j else f j):=tR fun j _=>by
    by_cases h:j=k
    ·rw[aQ h,ifp_,h]
    ·rw[aV h]
     by_cases h3:j<k
     ·rw[aQ h3,ifp_]
     ·rw[aV h3,ifn_]
   rw[e]
   rfl)
  (by
   dsimp only[gH]
   rw[eP,bh,bA _ _])
 rw[hl]
 congr 1
 exact tR fun j hj=>aQ hj
theorem IM {n m A B:Nat}(hA:A<65536 ^ n)(hB:B<65536 ^ m)(hn:n<1000)(hm:m<1000):lY (dk n A) (dk m B)=some (dl (A*B)):=by
 have eP:i64.wrap ((i64.wrap (((dk n A).length:Int)+((dk m B).length:Int)))+(1:Int))=((n+m+1:Nat):Int):=by
  rw[de,de,cG (z:=(n:Int)+(m:Int)) (by omega),cG];omega
 have hbnd:∀i,A % 65536 ^ i*B<65536 ^ (n+m+1):=fun i=>by
  have h1:A % 65536 ^ i*B≤A*B:=c6 _ (Nat.mod_le _ _)
  have h2:A*B<65536 ^ n*65536 ^ m:=CH hA hB
  have h3:65536 ^ n*65536 ^ m≤65536 ^ (n+m+1):=by rw[←lO];exact na (by decide) (by omega)
  omega
 have hl:=rr (b:=j4 (dk n A) (dk m B)) (s0:=((0:Int),List.replicate (n+m+1) (0:Int))) (fun i=>((i:Int),dk (n+m+1) (A % 65536 ^ i*B))) n (dk (n+m+1) (A % 65536 ^ n*B))
  (by
   rw[Oo,kz,qN,gb]
   have:dk (n+m+1) 0=lF (n+m+1) (fun _=>0):=tR fun j _=>by unfold dg;simp
   rw[this];rfl)
  (fun i hi=>by
   obtain⟨f,h1,h2,h3⟩:=L6 (A:=A) (i:=i) hi hn hm hB (hbnd i)
   dsimp only[j4]
   rw[de,bF _ _,h1,ab,I8 hn hm h3,ab,h2,cG,gS,cO]
   have:65536 ^ i*dg 65536 A i*B=dg 65536 A i*B*65536 ^ i:=by simp only[jx,ET,cY]
   rw[this]
   rfl)
  (by
   dsimp only[j4]
   rw[de,bA _ _])
 unfold lY
 rw[eP,aI,bh,hl,ab,de,aI rfl,gL hA,xM (by have:=hbnd n;rwa[gL hA] at this) (by omega),ab]
end
end
end Go.Proofs.YtgfcnncojhkcoaaGreat
