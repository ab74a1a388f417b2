/-
  Lemmas, part 7. Conditions: none.
-/
import Derived.Test.YtaedcknhkjpmlaaGreatP6
set_option linter.all false
set_option maxRecDepth 100000
set_option maxHeartbeats 8000000
namespace Go.Proofs.YtaedcknhkjpmlaaGreat
open Go.RowKit Go.IntKind Tryz
noncomputable section
structure fU where
 vR:Int
 vC:Int
 vV:List ao
 deriving Inhabited,DecidableEq
def mJ:Cd fU:=⟨3,fun x=>[.lit (.int .i64 x.vR),.lit (.int .i64 x.vC),slE al x.vV],fun _=>rfl⟩
structure bm where
 vA:fU
 vB:List ao
 vC:List ao
 deriving Inhabited,DecidableEq
def dY:Cd bm:=⟨5,fun x=>mJ.f x.vA++[slE al x.vB,slE al x.vC],fun x=>by simp[mJ.h,show mJ.sz=3 from rfl]⟩
structure cC where
 vKind:Int
 vX:List ao
 vY:List ao
 vRay:List ao
 deriving Inhabited,DecidableEq
def jZ:Cd cC:=⟨4,fun x=>[.lit (.int .i64 x.vKind),slE al x.vX,slE al x.vY,slE al x.vRay],fun _=>rfl⟩
def fJ(aJ:fU)(jH:Int):Option Bool:=bnd (S:=Bool) (cnd (decide ((0:Int)≤aJ.vR)) (cnd (decide ((0:Int)≤aJ.vC)) (cnd (decide (aJ.vR≤jH)) (cnd (decide (aJ.vC≤(2000:Int))) (cnd (decide (((aJ.vV).length:Int)=(i64.wrap (aJ.vR*aJ.vC)))) (bnd (cR aJ.vV) fun x6=>some (x6)) (some (false))) (some (false))) (some (false))) (some (false))) (some (false))) fun bo=>some bo
theorem qV {aJ:fU}{jH:Int}{r:Bool}(h:fJ aJ jH=some r):ar prog 61 [dG mJ aJ,dI .i64 jH] (dB r):=by
 refine bj (rs:=[.tmp 4]) (fun cx hx h0=>?_) func61
 unfold fJ at h
 refine rs hx fun K hK=>?_
 refine s1 (d:=.pt 0 0) gF ?_
 refine nbr hK ?_
 refine AW.seq ?_
 obtain⟨bo,hy,h⟩:=ae h
 refine jn ((PE cx .normal (fun bo=>[(4,dB bo)]) fun bo=>⟨[],[],0⟩) bo) ?_ ?_
 replace h:=hy
 refine rq hx fun K hK=>?_
 refine mbr ?_
 rcases aF h with⟨fR,h⟩|⟨fR,h⟩
 refine mbr ?_
 rcases aF h with⟨BZ,h⟩|⟨BZ,h⟩
 refine mbr ?_
 rcases aF h with⟨fQ,h⟩|⟨fQ,h⟩
 refine mbr ?_
 rcases aF h with⟨Fk,h⟩|⟨Fk,h⟩
 refine mbr ?_
 rcases aF h with⟨rt,h⟩|⟨rt,h⟩
 refine ga rt ?_
 refine gbr ?_
 refine gcb h fC fun x6 h=>?_
 refine nbr hK ?_
 exact pe1 h h0 []
 refine nbr hK ?_
 exact pe1 h h0 []
 refine nbr hK ?_
 exact pe1 h h0 []
 refine nbr hK ?_
 exact pe1 h h0 []
 refine nbr hK ?_
 exact pe1 h h0 []
 refine nbr hK ?_
 exact pe1 h h0 []
 refine lw0 ?_
 exact AW.ret (rtv h)
def gN(nT:bm):Option Bool:=bnd (S:=Bool) (bnd (fJ nT.vA (2000:Int)) fun x1=>cnd x1 (cnd (decide (((nT.vB).length:Int)=nT.vA.vR)) (cnd (decide (((nT.vC).length:Int)=nT.vA.vC)) (bnd (cR nT.vB) fun x6=>cnd x6 (bnd (cR nT.vC) fun x9=>some (x9)) (some (false))) (some (false))) (some (false))) (some (false))) fun bo=>some bo
theorem qc {nT:bm}{r:Bool}(h:gN nT=some r):ar prog 15 [dG dY nT] (dB r):=by
 refine bj (rs:=[.tmp 2]) (fun cx hx h0=>?_) func15
 unfold gN at h
 refine rs hx fun K hK=>?_
 refine s1 (d:=.pt 0 0) gF ?_
 refine nbr hK ?_
 refine AW.seq ?_
 obtain⟨bo,hy,h⟩:=ae h
 refine jn ((PE cx .normal (fun bo=>[(2,dB bo)]) fun bo=>⟨[],[],0⟩) bo) ?_ ?_
 replace h:=hy
 refine rq hx fun K hK=>?_
 refine sa ?_
 refine s1 (d:=dG mJ nT.vA) (T_ldA xG) ?_
 refine scb h qV fun x1 h=>?_
 refine sa ?_
 rcases aF h with⟨fQ,h⟩|⟨fQ,h⟩
 refine mbr ?_
 rcases aF h with⟨Fk,h⟩|⟨Fk,h⟩
 refine mbr ?_
 rcases aF h with⟨rt,h⟩|⟨rt,h⟩
 refine ga rt ?_
 refine gbr ?_
 refine gcb h fC fun x6 h=>?_
 refine mbr ?_
 rcases aF h with⟨tH,h⟩|⟨tH,h⟩
 refine ga tH ?_
 refine gbr ?_
 refine gcb h fC fun x9 h=>?_
 refine nbr hK ?_
 exact pe1 h h0 []
 refine nbr hK ?_
 exact pe1 h h0 []
 refine nbr hK ?_
 exact pe1 h h0 []
 refine nbr hK ?_
 exact pe1 h h0 []
 refine nbr hK ?_
 exact pe1 h h0 []
 refine lw0 ?_
 exact AW.ret (rtv h)
def gS(nZ:List ao)(aX:List ao):Int×ao→Option ((Int×ao)⊕ao):=fun (aR,tY)=>cnd (decide (aR<((nZ).length:Int))) (gd (0≤aR∧aR<((nZ).length:Int)) (gd (0≤aR∧aR<((aX).length:Int)) (bnd (hJ ((nZ)[(aR).toNat]!) ((aX)[(aR).toNat]!)) fun r8=>bnd (ia tY r8) fun qa=>some (.inl (i64.wrap (aR+(1:Int)),qa))))) (some (.inr tY))
def cO(nZ:List ao)(aX:List ao):Option ao:=cnd (decide (((nZ).length:Int)≠((aX).length:Int))) (bnd (ff) fun x2=>some x2) (bnd (pf (0:Int)) fun x4=>bnd (bt (gS nZ aX) ((0:Int),x4)) fun jq=>some jq)
theorem fb {nZ:List ao}{aX:List ao}{r:ao}(h:cO nZ aX=some r):ar prog 17 [dL al nZ,dL al aX] (dG al r):=by
 refine bj (rs:=[.cell 4 43]) (fun cx hx h0=>?_) func17
 unfold cO at h
 refine rar hx ?_
 refine AW.seq (ra hx ?_)
 refine cdh h rfl (fun fR h=>?_) (fun fR h=>?_)
 refine rs hx fun K hK=>?_
 refine scb h lU fun x2 h=>?_
 refine nbr hK ?_
 exact AW.ret (rtv h)
 refine AW.skip (rs hx fun K hK=>?_)
 refine scb h C3 fun x4 h=>?_
 refine nbr hK ?_
 refine AW.seq (ra hx ?_)
 refine AW.block ?_
 obtain⟨jq,hy,h⟩:=ae h
 refine lp (S:=Int×ao) (X:=ao) (fun (aR,tY)=>[(0,dL al nZ),(1,dL al aX),(4,.pt 0 0),(5,.pt 1 0),(15,dI .i64 ((nZ).length:Int)),(16,dI .i64 aR)]) (fun (aR,tY)=>⟨[(0,dC (al.f kw)),(1,dC (al.f tY))],[],2⟩) (PE cx (.exit 0) (fun jq=>[(4,.pt 0 0),(5,.pt 1 0)]) fun jq=>⟨[(0,dC (al.f kw)),(1,dC (al.f jq))],[],2⟩) hy ?_ ?_ ?_
 exact wk0 h0 [0,1]
 clear hy h
 rintro⟨aR,tY⟩ y h
 dsimp only[gS] at h
 refine ra hx ?_
 refine AW.seq (cdh h rfl (fun qP h=>?_) (fun qP h=>?_))
 refine AW.skip (AW.seq (AW.block (ra hx ?_)))
 refine rqd [29,66] hx fun K hK=>?_
 iterate 3 refine sbr ?_
 obtain⟨hc7,h⟩:=az h
 have Qm:(aR).toNat<(nZ).length:=by omega
 refine sbr ?_
 refine s1 (d:=dG al ((nZ)[(aR).toNat]!)) (kA (c:=al) (l:=nZ) (n:=(aR).toNat) (o:=0) aT Qm (fV _ _ rfl)) ?_
 iterate 2 refine sa ?_
 obtain⟨hc9,h⟩:=az h
 have So:(aR).toNat<(aX).length:=by omega
 refine sbr ?_
 refine s1 (d:=dG al ((aX)[(aR).toNat]!)) (kA (c:=al) (l:=aX) (n:=(aR).toNat) (o:=0) aT So (fV _ _ rfl)) ?_
 refine cqb h v6 fun r8 h=>?_
 refine cqb h v7 fun qa h=>?_
 refine nbr hK ?_
 refine rb hx ?_
 exact pel h h0 [0,1]
 exact AW.exit (per h h0 [0,1])
 refine lw0 ?_
 refine rar hx ?_
 exact AW.ret (rtv h)
def e7(aX:ao):Option Bool:=bnd (S:=Bool) (bnd (aU aX) fun x1=>cnd (!x1) (some (true)) (bnd (kM aX) fun x4=>some (decide (x4<(0:Int))))) fun bo=>some bo
theorem t6 {aX:ao}{r:Bool}(h:e7 aX=some r):ar prog 139 [dG al aX] (dB r):=by
 refine bj (rs:=[.tmp 2]) (fun cx hx h0=>?_) func139
 unfold e7 at h
 refine ra hx ?_
 refine AW.seq ?_
 obtain⟨bo,hy,h⟩:=ae h
 refine jn ((PE cx .normal (fun bo=>[(2,dB bo)]) fun bo=>⟨[],[],0⟩) bo) ?_ ?_
 replace h:=hy
 refine rq hx fun K hK=>?_
 refine mbr ?_
 refine scb h b9 fun x1 h=>?_
 refine mbr ?_
 rcases aF h with⟨fQ,h⟩|⟨fQ,h⟩
 refine nbr hK ?_
 exact pe1 h h0 []
 refine gbr ?_
 refine gcb h ub fun x4 h=>?_
 refine nbr hK ?_
 exact pe1 h h0 []
 refine lw0 ?_
 exact AW.ret (rtv h)
def aL(vr:List ao):Int→Option (Int⊕(Int⊕Unit)):=fun aD=>cnd (decide (aD<((vr).length:Int))) (gd (0≤aD∧aD<((vr).length:Int)) (bnd (e7 ((vr)[(aD).toNat]!)) fun x4=>cnd x4 (some (.inr (.inl aD))) (some (.inl (i64.wrap (aD+(1:Int))))))) (some (.inr (.inr ())))
def bb(vr:List ao):Option Int:=bnd (bt (aL vr) (0:Int)) fun y7=>match y7 with| .inl r=>some r| .inr ()=>some (-1:Int)
theorem gp {vr:List ao}{r:Int}(h:bb vr=some r):ar prog 106 [dL al vr,.e (.lit (.func (.func 139) #[] #[]))] (dI .i64 r):=by
 refine bj (rs:=[.tmp 4]) (fun cx hx h0=>?_) func106
 unfold bb at h
 refine ra hx ?_
 refine AW.seq (ra hx ?_)
 refine AW.block ?_
 obtain⟨y,hy,h⟩:=ae h
 refine lp (S:=Int) (X:=Int⊕Unit) (fun aD=>[(0,dL al vr),(1,.e (.lit (.func (.func 139) #[] #[]))),(7,dI .i64 ((vr).length:Int)),(8,dI .i64 aD)]) (fun aD=>⟨[],[],0⟩) (PS (PR [.tmp 4] fun r=>dI .i64 r) (PE cx (.exit 0) (fun ()=>[]) fun ()=>⟨[],[],0⟩)) hy ?_ ?_ ?_
 exact wk0 h0 []
 clear hy h
 rintro aD y h
 dsimp only[aL] at h
 refine ra hx ?_
 refine AW.seq (cdh h rfl (fun fR h=>?_) (fun fR h=>?_))
 refine AW.skip (AW.seq (AW.block (ra hx ?_)))
 refine rs hx fun K hK=>?_
 iterate 3 refine sa ?_
 obtain⟨qC,h⟩:=az h
 have xw:(aD).toNat<(vr).length:=by omega
 refine sbr ?_
 refine s1 (d:=dG al ((vr)[(aD).toNat]!)) (kA (c:=al) (l:=vr) (n:=(aD).toNat) (o:=0) aT xw (fV _ _ rfl)) ?_
 refine scb h t6 fun x4 h=>?_
 refine nl hK ?_
 refine cdh h rfl (fun qP h=>?_) (fun qP h=>?_)
 refine ra hx ?_
 refine AW.ret ?_
 cases h
 refine PS.r ⟨by nofun,PS.l (PR.i ?_)⟩
 exact rv1
 refine AW.skip (rb hx ?_)
 exact pel h h0 []
 exact AW.exit (peq h h0 [])
 rcases y with r|⟨⟩
 rintro ex tm' hp' ⟨rfl,hw⟩
 cases h
 exact hw
 refine lwr ?_
 refine ra hx ?_
 exact AW.ret (rtv h)
def aM(vr:List ao):Option Bool:=bnd (bb vr) fun x1=>some (decide ((0:Int)≤x1))
theorem fB {vr:List ao}{r:Bool}(h:aM vr=some r):ar prog 119 [dL al vr,.e (.lit (.func (.func 139) #[] #[]))] (dB r):=by
 refine bj (rs:=[.tmp 4]) (fun cx hx h0=>?_) func119
 unfold aM at h
 refine ra hx ?_
 refine rs hx fun K hK=>?_
 refine mbr ?_
 refine scb h gp fun x1 h=>?_
 refine nbr hK ?_
 exact AW.ret (rtv h)
def d9(ek:List ao)(cZ:Int):Option Bool:=bnd (S:=Bool) (cnd (decide (((ek).length:Int)=cZ)) (bnd (aM ek) fun x2=>some (!x2)) (some (false))) fun bo=>some bo
theorem lT {ek:List ao}{cZ:Int}{r:Bool}(h:d9 ek cZ=some r):ar prog 80 [dL al ek,dI .i64 cZ] (dB r):=by
 refine bj (rs:=[.tmp 4]) (fun cx hx h0=>?_) func80
 unfold d9 at h
 refine ra hx ?_
 refine AW.seq ?_
 obtain⟨bo,hy,h⟩:=ae h
 refine jn ((PE cx .normal (fun bo=>[(4,dB bo)]) fun bo=>⟨[],[],0⟩) bo) ?_ ?_
 replace h:=hy
 refine rq hx fun K hK=>?_
 refine mbr ?_
 rcases aF h with⟨fR,h⟩|⟨fR,h⟩
 refine ga fR ?_
 refine gcb h fB fun x2 h=>?_
 refine nbr hK ?_
 exact pe1 h h0 []
 refine nbr hK ?_
 exact pe1 h h0 []
 refine lw0 ?_
 exact AW.ret (rtv h)
def fI(aJ:fU)(aO:List ao):Option Bool:=bnd (S:=Bool) (bnd (fJ aJ (1000:Int)) fun x1=>cnd x1 (cnd (decide (((aO).length:Int)=aJ.vR)) (bnd (cR aO) fun x5=>some (x5)) (some (false))) (some (false))) fun bo=>some bo
theorem qU {aJ:fU}{aO:List ao}{r:Bool}(h:fI aJ aO=some r):ar prog 73 [dG mJ aJ,dL al aO] (dB r):=by
 refine bj (rs:=[.tmp 4]) (fun cx hx h0=>?_) func73
 unfold fI at h
 refine rs hx fun K hK=>?_
 refine s1 (d:=.pt 0 0) gF ?_
 refine nbr hK ?_
 refine AW.seq ?_
 obtain⟨bo,hy,h⟩:=ae h
 refine jn ((PE cx .normal (fun bo=>[(4,dB bo)]) fun bo=>⟨[],[],0⟩) bo) ?_ ?_
 replace h:=hy
 refine rq hx fun K hK=>?_
 refine s1 (d:=dG mJ aJ) (T_ldA xG) ?_
 refine scb h qV fun x1 h=>?_
 refine sa ?_
 rcases aF h with⟨fQ,h⟩|⟨fQ,h⟩
 refine mbr ?_
 rcases aF h with⟨Fk,h⟩|⟨Fk,h⟩
 refine ga Fk ?_
 refine gcb h fC fun x5 h=>?_
 refine nbr hK ?_
 exact pe1 h h0 []
 refine nbr hK ?_
 exact pe1 h h0 []
 refine nbr hK ?_
 exact pe1 h h0 []
 refine lw0 ?_
 exact AW.ret (rtv h)
def iR(aJ:fU)(Rp:Int):Option (List ao):=gd (0≤i64.wrap (Rp*aJ.vC)∧i64.wrap (Rp*aJ.vC)≤i64.wrap ((i64.wrap (Rp+(1:Int)))*aJ.vC)∧i64.wrap ((i64.wrap (Rp+(1:Int)))*aJ.vC)≤((aJ.vV).length:Int)) (some (Cm aJ.vV (i64.wrap (Rp*aJ.vC)) (i64.wrap ((i64.wrap (Rp+(1:Int)))*aJ.vC))))
theorem uU {aJ:fU}{Rp:Int}{r:List ao}(h:iR aJ Rp=some r):ar prog 82 [dG mJ aJ,dI .i64 Rp] (dL al r):=by
 refine bj (rs:=[.tmp 4]) (fun cx hx h0=>?_) func82
 unfold iR at h
 refine rs hx fun K hK=>?_
 refine s1 (d:=.pt 0 0) gF ?_
 refine s1 (d:=dO 1 al ([]:List ao)) (gl ct aT) ?_
 refine nl hK ?_
 refine rs hx fun K hK=>?_
 iterate 11 refine sbr ?_
 obtain⟨N7,h⟩:=az h
 refine s1 (T_sl (c:=al) (l:=aJ.vV) (a:=i64.wrap (Rp*aJ.vC)) (b:=i64.wrap ((i64.wrap (Rp+(1:Int)))*aJ.vC)) N7 ct aT) ?_
 refine nbr hK ?_
 exact AW.ret (rtv h)
def pd(nZ:Int):Option Bool:=some (decide (nZ≤(0:Int)))
theorem Au {nZ:Int}{r:Bool}(h:pd nZ=some r):ar prog 132 [dI .i64 nZ] (dB r):=by
 refine bj (rs:=[.tmp 2]) (fun cx hx h0=>?_) func132
 unfold pd at h
 iterate 2 refine ra hx ?_
 exact AW.ret (rtv h)
def bu(aJ:fU)(aX:List ao)(bZ:List ao):Int→Option (Int⊕(Bool⊕Unit)):=fun aD=>cnd (decide (aD<((bZ).length:Int))) (gd (0≤aD∧aD<((bZ).length:Int)) (bnd (iR aJ aD) fun x4=>bnd (cO x4 aX) fun x6=>bnd (S:=Bool) (bnd (aU x6) fun x8=>cnd (!x8) (some (true)) (bnd (jj x6 ((bZ)[(aD).toNat]!)) fun r8=>bnd (pd r8) fun qa=>some (!qa))) fun mK=>cnd mK (some (.inr (.inl false))) (some (.inl (i64.wrap (aD+(1:Int))))))) (some (.inr (.inr ())))
def a8(aJ:fU)(aX:List ao)(bZ:List ao):Option Bool:=bnd (bt (bu aJ aX bZ) (0:Int)) fun y17=>match y17 with| .inl r=>some r| .inr ()=>some true
theorem iW {aJ:fU}{aX:List ao}{bZ:List ao}{r:Bool}(h:a8 aJ aX bZ=some r):ar prog 81 [.e (.lit (.func (.func 82) #[] #[])),dG mJ aJ,dL al aX,dL al bZ,.e (.lit (.func (.func 132) #[] #[]))] (dB r):=by
 refine bj (rs:=[.tmp 10]) (fun cx hx h0=>?_) func81
 unfold a8 at h
 refine rs hx fun K hK=>?_
 refine s1 (d:=.pt 0 0) gF ?_
 refine nbr hK ?_
 refine AW.seq (ra hx ?_)
 refine AW.block ?_
 obtain⟨y,hy,h⟩:=ae h
 refine lp (S:=Int) (X:=Bool⊕Unit) (fun aD=>[(0,.e (.lit (.func (.func 82) #[] #[]))),(2,dL al aX),(4,.e (.lit (.func (.func 132) #[] #[]))),(6,.pt 0 0),(14,dL al bZ),(15,dI .i64 ((bZ).length:Int)),(16,dI .i64 aD)]) (fun aD=>⟨[(0,[dI .i64 aJ.vR,dI .i64 aJ.vC,dL al aJ.vV])],[],1⟩) (PS (PR [.tmp 10] fun r=>dB r) (PE cx (.exit 0) (fun ()=>[]) fun ()=>⟨[],[],0⟩)) hy ?_ ?_ ?_
 exact wk0 h0 [0]
 clear hy h
 rintro aD y h
 dsimp only[bu] at h
 refine ra hx ?_
 refine AW.seq (cdh h rfl (fun fR h=>?_) (fun fR h=>?_))
 refine AW.skip (AW.seq (AW.block (rs hx fun K hK=>?_)))
 refine sa ?_
 obtain⟨qC,h⟩:=az h
 have xw:(aD).toNat<(bZ).length:=by omega
 refine sbr ?_
 refine s1 (d:=dG al ((bZ)[(aD).toNat]!)) (kA (c:=al) (l:=bZ) (n:=(aD).toNat) (o:=0) aT xw (fV _ _ rfl)) ?_
 refine nbr hK ?_
 refine rs hx fun K hK=>?_
 refine sa ?_
 refine s1 (d:=dG mJ aJ) (T_ldA xG) ?_
 refine sa ?_
 refine scb h uU fun x4 h=>?_
 refine sa ?_
 refine scb h fb fun x6 h=>?_
 refine nbr hK ?_
 refine AW.seq ?_
 obtain⟨mK,hy,h⟩:=ae h
 refine jn ((PE cx .normal (fun mK=>[(0,.e (.lit (.func (.func 82) #[] #[]))),(2,dL al aX),(4,.e (.lit (.func (.func 132) #[] #[]))),(6,.pt 0 0),(14,dL al bZ),(15,dI .i64 ((bZ).length:Int)),(16,dI .i64 aD),(37,dB mK)]) fun mK=>⟨[(0,[dI .i64 aJ.vR,dI .i64 aJ.vC,dL al aJ.vV])],[],1⟩) mK) ?_ ?_
 replace h:=hy
 refine rq hx fun K hK=>?_
 refine mbr ?_
 refine scb h b9 fun x8 h=>?_
 refine mbr ?_
 rcases aF h with⟨nq,h⟩|⟨nq,h⟩
 refine nbr hK ?_
 exact pe1 h h0 [0]
 refine ga nq ?_
 iterate 2 refine gbr ?_
 refine gcb h se fun r8 h=>?_
 refine gcb h Au fun qa h=>?_
 refine nbr hK ?_
 exact pe1 h h0 [0]
 refine lw0 ?_
 refine cdh h rfl (fun ru h=>?_) (fun ru h=>?_)
 refine ra hx ?_
 refine AW.ret ?_
 cases h
 refine PS.r ⟨by nofun,PS.l (PR.i ?_)⟩
 exact rv1
 refine AW.skip (rb hx ?_)
 exact pel h h0 [0]
 exact AW.exit (peq h h0 [])
 rcases y with r|⟨⟩
 rintro ex tm' hp' ⟨rfl,hw⟩
 cases h
 exact hw
 refine lwr ?_
 refine ra hx ?_
 exact AW.ret (rtv h)
def dJ(aX:List ao)(aO:List ao)(oK:bm):Option Bool:=bnd (S:=Bool) (bnd (d9 aX oK.vA.vC) fun x1=>cnd x1 (bnd (a8 oK.vA aX aO) fun x4=>some (x4)) (some (false))) fun bo=>some bo
theorem ls {aX:List ao}{aO:List ao}{oK:bm}{r:Bool}(h:dJ aX aO oK=some r):HC prog 131 [dL al aX,dL al aO,.pt 0 0] ⟨[(0,[dI .i64 oK.vA.vR,dI .i64 oK.vA.vC,dL al oK.vA.vV,dL al oK.vB,dL al oK.vC])],[],1⟩ (dB r) ⟨[(0,[dI .i64 oK.vA.vR,dI .i64 oK.vA.vC,dL al oK.vA.vV,dL al oK.vB,dL al oK.vC])],[],1⟩:=by
 refine HC.of (rs:=[.tmp 5]) tok func131 rfl rfl (bc rfl) rfl (fun cx hx h1 hok=>?_)
 have h0:cx.hp0.next=1:=by rw[h1]
 simp only[fj,Nat.reduceAdd,bp]
 unfold dJ at h
 refine ra hx ?_
 refine AW.seq ?_
 obtain⟨bo,hy,h⟩:=ae h
 refine jn ((PE cx .normal (fun bo=>[(5,dB bo)]) fun bo=>⟨[(0,[dI .i64 oK.vA.vR,dI .i64 oK.vA.vC,dL al oK.vA.vV,dL al oK.vB,dL al oK.vC])],[],1⟩) bo) ?_ ?_
 replace h:=hy
 refine rq hx fun K hK=>?_
 refine mbr ?_
 refine scb h lT fun x1 h=>?_
 refine sa ?_
 rcases aF h with⟨fQ,h⟩|⟨fQ,h⟩
 refine ga fQ ?_
 refine g1 (d:=dG mJ oK.vA) fQ (T_ldA xG) ?_
 iterate 2 refine ga fQ ?_
 refine gcb h iW fun x4 h=>?_
 refine nbr hK ?_
 cases h
 exact PE.i (wkN h0 [] (wR rfl wTn) (vR rfl wVn) wLn)
 refine nbr hK ?_
 cases h
 exact PE.i (wkN h0 [] (wR rfl wTn) (vR rfl wVn) wLn)
 refine lw0 ?_
 refine AW.ret ?_
 cases h
 exact rH1 (wkN h0 [] (wR rfl wTn) (vR rfl wVn) wLn)
def fm(aJ:fU)(u7:Int):(List ao)×Int→Option (((List ao)×Int)⊕((List ao))):=fun (aN,bn)=>cnd (decide (bn<aJ.vR)) (gd (0≤i64.wrap ((i64.wrap (bn*aJ.vC))+u7)∧i64.wrap ((i64.wrap (bn*aJ.vC))+u7)<((aJ.vV).length:Int)) (gd ((aN++[(aJ.vV)[(i64.wrap ((i64.wrap (bn*aJ.vC))+u7)).toNat]!]).length*136≤140737488355328) (some (.inl (aN++[(aJ.vV)[(i64.wrap ((i64.wrap (bn*aJ.vC))+u7)).toNat]!],i64.wrap (bn+(1:Int))))))) (some (.inr aN))
def iu(aJ:fU)(u7:Int):Option (List ao):=bnd (bt (fm aJ u7) (([]:List ao),(0:Int))) fun a9=>some a9
theorem yh {aJ:fU}{u7:Int}{r:List ao}(h:iu aJ u7=some r):ar prog 84 [dG mJ aJ,dI .i64 u7] (.own 43 al.sz r.length (r.flatMap al.f)):=by
 refine bj (rs:=[.tmp 4]) (fun cx hx h0=>?_) func84
 unfold iu at h
 refine rs hx fun K hK=>?_
 refine s1 (d:=.pt 0 0) gF ?_
 refine s1 (d:=dO 1 al ([]:List ao)) (gl ct aT) ?_
 refine nl hK ?_
 refine rs hx fun K hK=>?_
 refine s1 (d:=dO 2 al ([]:List ao)) (gl ct aT) ?_
 refine nl hK ?_
 refine AW.seq (rar hx ?_)
 refine AW.block ?_
 obtain⟨a9,hy,h⟩:=ae h
 refine lp (S:=(List ao)×Int) (X:=(List ao)) (fun (aN,bn)=>[(1,dI .i64 u7),(2,.pt 0 0),(5,dO 1 al aN),(8,dI .i64 aJ.vR),(9,dI .i64 bn)]) (fun (aN,bn)=>⟨[(0,[dI .i64 aJ.vR,dI .i64 aJ.vC,dL al aJ.vV])],[(1,(aN).length,36,43)],2⟩) (PE cx (.exit 0) (fun a9=>[(5,dO 0 al a9)]) fun a9=>⟨[],[(0,(a9).length,36,43)],1⟩) hy ?_ ?_ ?_
 exact wk0 h0 [0,2]
 clear hy h
 rintro⟨aN,bn⟩ y h
 dsimp only[fm] at h
 refine ra hx ?_
 refine AW.seq (cdh h rfl (fun fR h=>?_) (fun fR h=>?_))
 refine AW.skip (AW.seq (AW.block (ra hx ?_)))
 refine rq hx fun K hK=>?_
 iterate 9 refine sbr ?_
 obtain⟨qC,h⟩:=az h
 have xw:(i64.wrap ((i64.wrap (bn*aJ.vC))+u7)).toNat<(aJ.vV).length:=by omega
 refine sbr ?_
 refine s1 (d:=dG al ((aJ.vV)[(i64.wrap ((i64.wrap (bn*aJ.vC))+u7)).toNat]!)) (kA (c:=al) (l:=aJ.vV) (n:=(i64.wrap ((i64.wrap (bn*aJ.vC))+u7)).toNat) (o:=0) aT xw (fV _ _ rfl)) ?_
 refine s1 (kT ([(aJ.vV)[(i64.wrap ((i64.wrap (bn*aJ.vC))+u7)).toNat]!]:List ao) al ct aT) ?_
 obtain⟨N6,h⟩:=az h
 refine s1 (d:=dO 1 al (aN++[(aJ.vV)[(i64.wrap ((i64.wrap (bn*aJ.vC))+u7)).toNat]!])) (rU ct aT N6) ?_
 refine nbr hK ?_
 refine rb hx ?_
 exact pel h h0 [0,1]
 exact AW.exit (per h h0 [1])
 refine lw0 ?_
 refine ra hx ?_
 refine AW.ret ?_
 cases h
 exact nY.own rfl rfl
def oc(nZ:Int):Option Bool:=some (decide ((0:Int)≤nZ))
theorem zh {nZ:Int}{r:Bool}(h:oc nZ=some r):ar prog 85 [dI .i64 nZ] (dB r):=by
 refine bj (rs:=[.tmp 2]) (fun cx hx h0=>?_) func85
 unfold oc at h
 iterate 2 refine ra hx ?_
 exact AW.ret (rtv h)
def be(aJ:fU)(aX:List ao)(bZ:List ao):Int→Option (Int⊕(Bool⊕Unit)):=fun aD=>cnd (decide (aD<((bZ).length:Int))) (gd (0≤aD∧aD<((bZ).length:Int)) (bnd (iu aJ aD) fun x4=>bnd (cO x4 aX) fun x6=>bnd (S:=Bool) (bnd (aU x6) fun x8=>cnd (!x8) (some (true)) (bnd (jj x6 ((bZ)[(aD).toNat]!)) fun r8=>bnd (oc r8) fun qa=>some (!qa))) fun mK=>cnd mK (some (.inr (.inl false))) (some (.inl (i64.wrap (aD+(1:Int))))))) (some (.inr (.inr ())))
def aK(aJ:fU)(aX:List ao)(bZ:List ao):Option Bool:=bnd (bt (be aJ aX bZ) (0:Int)) fun y17=>match y17 with| .inl r=>some r| .inr ()=>some true
theorem dV {aJ:fU}{aX:List ao}{bZ:List ao}{r:Bool}(h:aK aJ aX bZ=some r):ar prog 81 [.e (.lit (.func (.func 84) #[] #[])),dG mJ aJ,dL al aX,dL al bZ,.e (.lit (.func (.func 85) #[] #[]))] (dB r):=by
 refine bj (rs:=[.tmp 10]) (fun cx hx h0=>?_) func81
 unfold aK at h
 refine rs hx fun K hK=>?_
 refine s1 (d:=.pt 0 0) gF ?_
 refine nbr hK ?_
 refine AW.seq (ra hx ?_)
 refine AW.block ?_
 obtain⟨y,hy,h⟩:=ae h
 refine lp (S:=Int) (X:=Bool⊕Unit) (fun aD=>[(0,.e (.lit (.func (.func 84) #[] #[]))),(2,dL al aX),(4,.e (.lit (.func (.func 85) #[] #[]))),(6,.pt 0 0),(14,dL al bZ),(15,dI .i64 ((bZ).length:Int)),(16,dI .i64 aD)]) (fun aD=>⟨[(0,[dI .i64 aJ.vR,dI .i64 aJ.vC,dL al aJ.vV])],[],1⟩) (PS (PR [.tmp 10] fun r=>dB r) (PE cx (.exit 0) (fun ()=>[]) fun ()=>⟨[],[],0⟩)) hy ?_ ?_ ?_
 exact wk0 h0 [0]
 clear hy h
 rintro aD y h
 dsimp only[be] at h
 refine ra hx ?_
 refine AW.seq (cdh h rfl (fun fR h=>?_) (fun fR h=>?_))
 refine AW.skip (AW.seq (AW.block (rs hx fun K hK=>?_)))
 refine sa ?_
 obtain⟨qC,h⟩:=az h
 have xw:(aD).toNat<(bZ).length:=by omega
 refine sbr ?_
 refine s1 (d:=dG al ((bZ)[(aD).toNat]!)) (kA (c:=al) (l:=bZ) (n:=(aD).toNat) (o:=0) aT xw (fV _ _ rfl)) ?_
 refine nbr hK ?_
 refine rs hx fun K hK=>?_
 refine sa ?_
 refine s1 (d:=dG mJ aJ) (T_ldA xG) ?_
 refine sa ?_
 obtain⟨x4,Pn,h⟩:=ae h
 refine s1 (iC rfl (yh Pn) (by simp only[j4,m9,iK,kQ,fM,cj];exact⟨dW _ _,rfl⟩) (lA (ax _) (lA (ax _) lAn))) ?_
 refine sa ?_
 refine scb h fb fun x6 h=>?_
 refine nbr hK ?_
 refine AW.seq ?_
 obtain⟨mK,hy,h⟩:=ae h
 refine jn ((PE cx .normal (fun mK=>[(0,.e (.lit (.func (.func 84) #[] #[]))),(2,dL al aX),(4,.e (.lit (.func (.func 85) #[] #[]))),(6,.pt 0 0),(14,dL al bZ),(15,dI .i64 ((bZ).length:Int)),(16,dI .i64 aD),(37,dB mK)]) fun mK=>⟨[(0,[dI .i64 aJ.vR,dI .i64 aJ.vC,dL al aJ.vV])],[],1⟩) mK) ?_ ?_
 replace h:=hy
 refine rq hx fun K hK=>?_
 refine mbr ?_
 refine scb h b9 fun x8 h=>?_
 refine mbr ?_
 rcases aF h with⟨nq,h⟩|⟨nq,h⟩
 refine nbr hK ?_
 exact pe1 h h0 [0]
 refine ga nq ?_
 iterate 2 refine gbr ?_
 refine gcb h se fun r8 h=>?_
 refine gcb h zh fun qa h=>?_
 refine nbr hK ?_
 exact pe1 h h0 [0]
 refine lw0 ?_
 refine cdh h rfl (fun ru h=>?_) (fun ru h=>?_)
 refine ra hx ?_
 refine AW.ret ?_
 cases h
 refine PS.r ⟨by nofun,PS.l (PR.i ?_)⟩
 exact rv1
 refine AW.skip (rb hx ?_)
 exact pel h h0 [0]
 exact AW.exit (peq h h0 [])
 rcases y with r|⟨⟩
 rintro ex tm' hp' ⟨rfl,hw⟩
 cases h
 exact hw
 refine lwr ?_
 refine ra hx ?_
 exact AW.ret (rtv h)
def eA(nZ:List ao)(oK:cC)(p_v1:bm):Option Bool:=bnd (S:=Bool) (bnd (d9 oK.vY p_v1.vA.vR) fun x1=>cnd x1 (bnd (aK p_v1.vA oK.vY nZ) fun x4=>some (x4)) (some (false))) fun bo=>some bo
theorem oN {nZ:List ao}{oK:cC}{p_v1:bm}{r:Bool}(h:eA nZ oK p_v1=some r):HC prog 133 [dL al nZ,.pt 0 0,.pt 1 0] ⟨[(0,[dI .i64 oK.vKind,dL al oK.vX,dL al oK.vY,dL al oK.vRay]),(1,[dI .i64 p_v1.vA.vR,dI .i64 p_v1.vA.vC,dL al p_v1.vA.vV,dL al p_v1.vB,dL al p_v1.vC])],[],2⟩ (dB r) ⟨[(0,[dI .i64 oK.vKind,dL al oK.vX,dL al oK.vY,dL al oK.vRay]),(1,[dI .i64 p_v1.vA.vR,dI .i64 p_v1.vA.vC,dL al p_v1.vA.vV,dL al p_v1.vB,dL al p_v1.vC])],[],2⟩:=by
 refine HC.of (rs:=[.tmp 4]) tok func133 rfl rfl (bc rfl) rfl (fun cx hx h1 hok=>?_)
 have h0:cx.hp0.next=2:=by rw[h1]
 simp only[fj,Nat.reduceAdd,bp]
 unfold eA at h
 refine ra hx ?_
 refine AW.seq ?_
 obtain⟨bo,hy,h⟩:=ae h
 refine jn ((PE cx .normal (fun bo=>[(4,dB bo)]) fun bo=>⟨[(0,[dI .i64 oK.vKind,dL al oK.vX,dL al oK.vY,dL al oK.vRay]),(1,[dI .i64 p_v1.vA.vR,dI .i64 p_v1.vA.vC,dL al p_v1.vA.vV,dL al p_v1.vB,dL al p_v1.vC])],[],2⟩) bo) ?_ ?_
 replace h:=hy
 refine rq hx fun K hK=>?_
 refine mbr ?_
 refine scb h lT fun x1 h=>?_
 refine sa ?_
 rcases aF h with⟨fQ,h⟩|⟨fQ,h⟩
 refine ga fQ ?_
 refine g1 (d:=dG mJ p_v1.vA) fQ (T_ldA xG) ?_
 refine ga fQ ?_
 refine gbr ?_
 refine ga fQ ?_
 refine gcb h dV fun x4 h=>?_
 refine nbr hK ?_
 cases h
 exact PE.i (wkN h0 [] (wR rfl wTn) (vR rfl (vR rfl wVn)) wLn)
 refine nbr hK ?_
 cases h
 exact PE.i (wkN h0 [] (wR rfl wTn) (vR rfl (vR rfl wVn)) wLn)
 refine lw0 ?_
 refine AW.ret ?_
 cases h
 exact rH1 (wkN h0 [] (wR rfl wTn) (vR rfl (vR rfl wVn)) wLn)
def fH(aX:ao)(Hu:Int):Option Bool:=bnd (S:=Bool) (bnd (aU aX) fun x1=>cnd x1 (bnd (kM aX) fun x4=>some (decide (x4=Hu))) (some (false))) fun bo=>some bo
theorem oX {aX:ao}{Hu:Int}{r:Bool}(h:fH aX Hu=some r):ar prog 86 [dG al aX,dI .i64 Hu] (dB r):=by
 refine bj (rs:=[.tmp 4]) (fun cx hx h0=>?_) func86
 unfold fH at h
 refine ra hx ?_
 refine AW.seq ?_
 obtain⟨bo,hy,h⟩:=ae h
 refine jn ((PE cx .normal (fun bo=>[(4,dB bo)]) fun bo=>⟨[],[],0⟩) bo) ?_ ?_
 replace h:=hy
 refine rq hx fun K hK=>?_
 refine mbr ?_
 refine scb h b9 fun x1 h=>?_
 refine sa ?_
 rcases aF h with⟨fQ,h⟩|⟨fQ,h⟩
 refine gbr ?_
 refine gcb h ub fun x4 h=>?_
 refine nbr hK ?_
 exact pe1 h h0 []
 refine nbr hK ?_
 exact pe1 h h0 []
 refine lw0 ?_
 exact AW.ret (rtv h)
def je(nT:bm)(aJ:cC):Option Bool:=cnd (decide (aJ.vKind=(1:Int))) (bnd (S:=Bool) (cnd (decide ((0:Int)<((aJ.vRay).length:Int))) (some (true)) (bnd (dJ aJ.vX nT.vB nT) fun x3=>cnd (!x3) (some (true)) (bnd (eA nT.vC (⟨aJ.vKind,aJ.vX,aJ.vY,aJ.vRay⟩:cC) nT) fun x6=>some (!x6)))) fun tZ=>cnd tZ (some false) (bnd (cO nT.vC aJ.vX) fun mI=>bnd (S:=Bool) (bnd (aU mI) fun nf=>cnd nf (bnd (cO aJ.vY nT.vB) fun I2=>some (decide (mI=I2))) (some (false))) fun j9=>some j9)) (cnd (decide (aJ.vKind=(2:Int))) (bnd (S:=Bool) (cnd (decide ((i64.wrap (((aJ.vX).length:Int)+((aJ.vRay).length:Int)))=(0:Int))) (bnd (fc nT.vA.vC) fun Fo=>bnd (eA Fo (⟨aJ.vKind,aJ.vX,aJ.vY,aJ.vRay⟩:cC) nT) fun Ck=>cnd Ck (bnd (cO aJ.vY nT.vB) fun IT=>bnd (fH IT (-1:Int)) fun As=>some (As)) (some (false))) (some (false))) fun GY=>some GY) (cnd (decide (aJ.vKind=(3:Int))) (bnd (S:=Bool) (cnd (decide (((aJ.vY).length:Int)=(0:Int))) (bnd (dJ aJ.vX nT.vB nT) fun x32=>cnd x32 (bnd (fc nT.vA.vR) fun za=>bnd (dJ aJ.vRay za nT) fun Ge=>cnd Ge (bnd (cO nT.vC aJ.vRay) fun x40=>bnd (fH x40 (1:Int)) fun x42=>some (x42)) (some (false))) (some (false))) (some (false))) fun GW=>some GW) (some false)))
theorem ze {nT:bm}{aJ:cC}{r:Bool}(h:je nT aJ=some r):ar prog 71 [dG dY nT,dG jZ aJ] (dB r):=by
 refine bj (rs:=[.tmp 4]) (fun cx hx h0=>?_) func71
 unfold je at h
 refine rs hx fun K hK=>?_
 refine s1 (d:=.pt 0 0) gF ?_
 refine s1 (d:=.pt 1 0) gF ?_
 refine nbr hK ?_
 refine rs hx fun K hK=>?_
 refine s1 ES ?_
 refine nbr hK ?_
 refine rs hx fun K hK=>?_
 refine s1 ES ?_
 refine nbr hK ?_
 refine AW.seq (rar hx ?_)
 refine AW.block (ra hx ?_)
 refine cdh h rfl (fun fR h=>?_) (fun fR h=>?_)
 iterate 2 refine AW.seq ?_
 obtain⟨tZ,hy,h⟩:=ae h
 refine jn ((PE cx .normal (fun tZ=>[(2,.pt 0 0),(3,.pt 1 0),(33,dB tZ)]) fun tZ=>⟨[(0,[dI .i64 nT.vA.vR,dI .i64 nT.vA.vC,dL al nT.vA.vV,dL al nT.vB,dL al nT.vC]),(1,[dI .i64 aJ.vKind,dL al aJ.vX,dL al aJ.vY,dL al aJ.vRay])],[],2⟩) tZ) ?_ ?_
 replace h:=hy
 refine rq hx fun K hK=>?_
 refine mbr ?_
 rcases aF h with⟨BZ,h⟩|⟨BZ,h⟩
 refine nbr hK ?_
 exact pe1 h h0 [0,1]
 iterate 2 refine ga BZ ?_
 refine gbr ?_
 refine ga BZ ?_
 refine gbr ?_
 obtain⟨x3,hx4,h⟩:=ae h
 refine g1 BZ (wQ [0] rfl (ls hx4) (fA (ax _) (fA (ax _) (fA (ax _) fAn))) (vR rfl wVn) wLn) ?_
 refine mbr ?_
 rcases aF h with⟨rt,h⟩|⟨rt,h⟩
 refine nbr hK ?_
 exact pe1 h h0 [0,1]
 iterate 2 refine ga rt ?_
 refine gbr ?_
 obtain⟨x6,vt,h⟩:=ae h
 refine g1 rt (wQ [1,0] rfl (oN vt) (fA (ax _) (fA (ax _) (fA (ax _) fAn))) (vR rfl (vR rfl wVn)) wLn) ?_
 refine nbr hK ?_
 exact pe1 h h0 [0,1]
 refine lw0 ?_
 refine cdh h rfl (fun JW h=>?_) (fun JW h=>?_)
 refine ra hx ?_
 exact AW.ret (rtv h)
 refine AW.skip (rs hx fun K hK=>?_)
 refine mbr ?_
 refine scb h fb fun mI h=>?_
 refine nbr hK ?_
 refine AW.seq ?_
 obtain⟨j9,hy,h⟩:=ae h
 refine jn ((PE cx .normal (fun j9=>[(4,dB j9)]) fun j9=>⟨[],[],0⟩) j9) ?_ ?_
 replace h:=hy
 refine rqd [92,17] hx fun K hK=>?_
 refine mbr ?_
 refine cqb h b9 fun nf h=>?_
 refine sa ?_
 rcases aF h with⟨uq,h⟩|⟨uq,h⟩
 refine gbr ?_
 refine ga uq ?_
 refine gbr ?_
 refine ga uq ?_
 refine gbr ?_
 obtain⟨I2,hx16,h⟩:=ae h
 refine sqg tok rfl rfl uq (fb hx16) rfl (lA (ax _) (lA (ax _) lAn)) (.inl (kG _ _)) ?_
 refine g1 uq (ET tok 4 (by decide) GN aT) ?_
 refine nbr hK ?_
 exact pe1 h h0 []
 refine nbr hK ?_
 exact pe1 h h0 []
 refine lw0 ?_
 exact AW.ret (rtv h)
 refine ra hx ?_
 refine cdh h rfl (fun L9 h=>?_) (fun L9 h=>?_)
 refine AW.seq ?_
 obtain⟨GY,hy,h⟩:=ae h
 refine jn ((PE cx .normal (fun GY=>[(4,dB GY)]) fun GY=>⟨[],[],0⟩) GY) ?_ ?_
 replace h:=hy
 refine rq hx fun K hK=>?_
 refine mbr ?_
 rcases aF h with⟨SL,h⟩|⟨SL,h⟩
 iterate 3 refine ga SL ?_
 refine gbr ?_
 refine gcb h nh fun Fo h=>?_
 obtain⟨Ck,LO,h⟩:=ae h
 refine g1 SL (wQ [1,0] rfl (oN LO) (fA (ax _) (fA (ax _) (fA (ax _) fAn))) (vR rfl (vR rfl wVn)) wLn) ?_
 refine mbr ?_
 rcases aF h with⟨SJ,h⟩|⟨SJ,h⟩
 refine ga SJ ?_
 refine gbr ?_
 refine ga SJ ?_
 refine gbr ?_
 refine gcb h fb fun IT h=>?_
 refine gcb h oX fun As h=>?_
 refine nbr hK ?_
 exact pe1 h h0 []
 refine nbr hK ?_
 exact pe1 h h0 []
 refine nbr hK ?_
 exact pe1 h h0 []
 refine lw0 ?_
 exact AW.ret (rtv h)
 refine ra hx ?_
 refine cdh h rfl (fun SH h=>?_) (fun SH h=>?_)
 refine AW.seq ?_
 obtain⟨GW,hy,h⟩:=ae h
 refine jn ((PE cx .normal (fun GW=>[(4,dB GW)]) fun GW=>⟨[],[],0⟩) GW) ?_ ?_
 replace h:=hy
 refine rqd [75,17,86] hx fun K hK=>?_
 refine mbr ?_
 rcases aF h with⟨PD,h⟩|⟨PD,h⟩
 iterate 2 refine ga PD ?_
 refine gbr ?_
 refine ga PD ?_
 refine gbr ?_
 obtain⟨x32,hx33,h⟩:=ae h
 refine g1 PD (wQ [0] rfl (ls hx33) (fA (ax _) (fA (ax _) (fA (ax _) fAn))) (vR rfl wVn) wLn) ?_
 refine mbr ?_
 rcases aF h with⟨SG,h⟩|⟨SG,h⟩
 iterate 2 refine ga SG ?_
 refine gbr ?_
 iterate 2 refine ga SG ?_
 refine gbr ?_
 obtain⟨za,hx36,h⟩:=ae h
 refine sqg tok rfl rfl SG (nh hx36) rfl (lA (ax _) lAn) (.inl rfl) ?_
 obtain⟨Ge,hx38,h⟩:=ae h
 refine g1 SG (wQ [0] rfl (ls hx38) (fA (ax _) (fA (ax _) (fA (ax _) fAn))) (vR rfl wVn) wLn) ?_
 refine mbr ?_
 rcases aF h with⟨SF,h⟩|⟨SF,h⟩
 refine ga SF ?_
 refine gbr ?_
 refine ga SF ?_
 refine gbr ?_
 obtain⟨x40,hx41,h⟩:=ae h
 refine sqg tok rfl rfl SF (fb hx41) rfl (lA (ax _) (lA (ax _) lAn)) (.inl (kG _ _)) ?_
 obtain⟨x42,hx43,h⟩:=ae h
 refine sqg tok rfl rfl SF (oX hx43) (by simp only[j4,m9,iK,kQ,fM,cj];exact⟨dW _ _,rfl⟩) (lA (ro _ _) (lA (ax _) lAn)) (.inl rfl) ?_
 refine nbr hK ?_
 exact pe1 h h0 []
 refine nbr hK ?_
 exact pe1 h h0 []
 refine nbr hK ?_
 exact pe1 h h0 []
 refine nbr hK ?_
 exact pe1 h h0 []
 refine lw0 ?_
 exact AW.ret (rtv h)
 refine AW.skip (ra hx ?_)
 exact AW.ret (rtv h)
def gO(nT:bm)(aJ:cC):Option Int:=bnd (gN nT) fun x1=>cnd (!x1) (some (1:Int)) (bnd (je nT aJ) fun x4=>cnd (!x4) (some (250:Int)) (some (0:Int)))
theorem qe {nT:bm}{aJ:cC}{r:Int}(h:gO nT aJ=some r):ar prog 19 [dG dY nT,dG jZ aJ] (dI .i64 r):=by
 refine bj (rs:=[.tmp 4]) (fun cx hx h0=>?_) func19
 unfold gO at h
 refine rs hx fun K hK=>?_
 refine s1 (d:=.pt 0 0) gF ?_
 refine s1 (d:=.pt 1 0) gF ?_
 refine nbr hK ?_
 refine AW.seq (AW.block (rs hx fun K hK=>?_))
 refine s1 (d:=dG dY nT) (T_ldA uZ) ?_
 refine scb h qc fun x1 h=>?_
 refine nbr hK ?_
 refine cdh h rfl (fun fQ h=>?_) (fun fQ h=>?_)
 refine ra hx ?_
 exact AW.ret (rtv h)
 refine rs hx fun K hK=>?_
 refine s1 (d:=dG dY nT) (T_ldA uZ) ?_
 refine s1 (d:=dG jZ aJ) (T_ldA qp) ?_
 refine scb h ze fun x4 h=>?_
 refine nbr hK ?_
 refine cdh h rfl (fun qP h=>?_) (fun qP h=>?_)
 refine ra hx ?_
 exact AW.ret (rtv h)
 refine AW.skip (ra hx ?_)
 exact AW.ret (rtv h)
def ob(nZ:Int):Option Bool:=some (decide (nZ=(0:Int)))
theorem zf {nZ:Int}{r:Bool}(h:ob nZ=some r):ar prog 83 [dI .i64 nZ] (dB r):=by
 refine bj (rs:=[.tmp 2]) (fun cx hx h0=>?_) func83
 unfold ob at h
 iterate 2 refine ra hx ?_
 exact AW.ret (rtv h)
def br(aJ:fU)(aX:List ao)(bZ:List ao):Int→Option (Int⊕(Bool⊕Unit)):=fun aD=>cnd (decide (aD<((bZ).length:Int))) (gd (0≤aD∧aD<((bZ).length:Int)) (bnd (iR aJ aD) fun x4=>bnd (cO x4 aX) fun x6=>bnd (S:=Bool) (bnd (aU x6) fun x8=>cnd (!x8) (some (true)) (bnd (jj x6 ((bZ)[(aD).toNat]!)) fun r8=>bnd (ob r8) fun qa=>some (!qa))) fun mK=>cnd mK (some (.inr (.inl false))) (some (.inl (i64.wrap (aD+(1:Int))))))) (some (.inr (.inr ())))
def aZ(aJ:fU)(aX:List ao)(bZ:List ao):Option Bool:=bnd (bt (br aJ aX bZ) (0:Int)) fun y17=>match y17 with| .inl r=>some r| .inr ()=>some true
theorem iG {aJ:fU}{aX:List ao}{bZ:List ao}{r:Bool}(h:aZ aJ aX bZ=some r):ar prog 81 [.e (.lit (.func (.func 82) #[] #[])),dG mJ aJ,dL al aX,dL al bZ,.e (.lit (.func (.func 83) #[] #[]))] (dB r):=by
 refine bj (rs:=[.tmp 10]) (fun cx hx h0=>?_) func81
 unfold aZ at h
 refine rs hx fun K hK=>?_
 refine s1 (d:=.pt 0 0) gF ?_
 refine nbr hK ?_
 refine AW.seq (ra hx ?_)
 refine AW.block ?_
 obtain⟨y,hy,h⟩:=ae h
 refine lp (S:=Int) (X:=Bool⊕Unit) (fun aD=>[(0,.e (.lit (.func (.func 82) #[] #[]))),(2,dL al aX),(4,.e (.lit (.func (.func 83) #[] #[]))),(6,.pt 0 0),(14,dL al bZ),(15,dI .i64 ((bZ).length:Int)),(16,dI .i64 aD)]) (fun aD=>⟨[(0,[dI .i64 aJ.vR,dI .i64 aJ.vC,dL al aJ.vV])],[],1⟩) (PS (PR [.tmp 10] fun r=>dB r) (PE cx (.exit 0) (fun ()=>[]) fun ()=>⟨[],[],0⟩)) hy ?_ ?_ ?_
 exact wk0 h0 [0]
 clear hy h
 rintro aD y h
 dsimp only[br] at h
 refine ra hx ?_
 refine AW.seq (cdh h rfl (fun fR h=>?_) (fun fR h=>?_))
 refine AW.skip (AW.seq (AW.block (rs hx fun K hK=>?_)))
 refine sa ?_
 obtain⟨qC,h⟩:=az h
 have xw:(aD).toNat<(bZ).length:=by omega
 refine sbr ?_
 refine s1 (d:=dG al ((bZ)[(aD).toNat]!)) (kA (c:=al) (l:=bZ) (n:=(aD).toNat) (o:=0) aT xw (fV _ _ rfl)) ?_
 refine nbr hK ?_
 refine rs hx fun K hK=>?_
 refine sa ?_
 refine s1 (d:=dG mJ aJ) (T_ldA xG) ?_
 refine sa ?_
 refine scb h uU fun x4 h=>?_
 refine sa ?_
 refine scb h fb fun x6 h=>?_
 refine nbr hK ?_
 refine AW.seq ?_
 obtain⟨mK,hy,h⟩:=ae h
 refine jn ((PE cx .normal (fun mK=>[(0,.e (.lit (.func (.func 82) #[] #[]))),(2,dL al aX),(4,.e (.lit (.func (.func 83) #[] #[]))),(6,.pt 0 0),(14,dL al bZ),(15,dI .i64 ((bZ).length:Int)),(16,dI .i64 aD),(37,dB mK)]) fun mK=>⟨[(0,[dI .i64 aJ.vR,dI .i64 aJ.vC,dL al aJ.vV])],[],1⟩) mK) ?_ ?_
 replace h:=hy
 refine rq hx fun K hK=>?_
 refine mbr ?_
 refine scb h b9 fun x8 h=>?_
 refine mbr ?_
 rcases aF h with⟨nq,h⟩|⟨nq,h⟩
 refine nbr hK ?_
 exact pe1 h h0 [0]
 refine ga nq ?_
 iterate 2 refine gbr ?_
 refine gcb h se fun r8 h=>?_
 refine gcb h zf fun qa h=>?_
 refine nbr hK ?_
 exact pe1 h h0 [0]
 refine lw0 ?_
 refine cdh h rfl (fun ru h=>?_) (fun ru h=>?_)
 refine ra hx ?_
 refine AW.ret ?_
 cases h
 refine PS.r ⟨by nofun,PS.l (PR.i ?_)⟩
 exact rv1
 refine AW.skip (rb hx ?_)
 exact pel h h0 [0]
 exact AW.exit (peq h h0 [])
 rcases y with r|⟨⟩
 rintro ex tm' hp' ⟨rfl,hw⟩
 cases h
 exact hw
 refine lwr ?_
 refine ra hx ?_
 exact AW.ret (rtv h)
def f9(aJ:fU)(aO:List ao)(aX:cC):Option Int:=bnd (fI aJ aO) fun x1=>cnd (!x1) (some (1:Int)) (bnd (S:=Bool) (cnd (decide (aX.vKind=(1:Int))) (cnd (decide ((i64.wrap (((aX.vY).length:Int)+((aX.vRay).length:Int)))=(0:Int))) (bnd (d9 aX.vX aJ.vC) fun x6=>cnd x6 (bnd (aZ aJ aX.vX aO) fun x9=>some (x9)) (some (false))) (some (false))) (cnd (decide (aX.vKind=(2:Int))) (cnd (decide ((i64.wrap (((aX.vX).length:Int)+((aX.vRay).length:Int)))=(0:Int))) (cnd (decide (((aX.vY).length:Int)=aJ.vR)) (bnd (cR aX.vY) fun pJ=>cnd pJ (bnd (fc aJ.vC) fun pI=>bnd (aK aJ aX.vY pI) fun vn=>cnd vn (bnd (cO aX.vY aO) fun Ck=>bnd (fH Ck (-1:Int)) fun E7=>some (E7)) (some (false))) (some (false))) (some (false))) (some (false))) (some (false)))) fun c8=>cnd (!c8) (some (250:Int)) (some (0:Int)))
theorem vP {aJ:fU}{aO:List ao}{aX:cC}{r:Int}(h:f9 aJ aO aX=some r):ar prog 23 [dG mJ aJ,dL al aO,dG jZ aX] (dI .i64 r):=by
 refine bj (rs:=[.tmp 6]) (fun cx hx h0=>?_) func23
 unfold f9 at h
 refine rs hx fun K hK=>?_
 refine s1 (d:=.pt 0 0) gF ?_
 refine s1 (d:=.pt 1 0) gF ?_
 refine nbr hK ?_
 refine AW.seq (rs hx fun K hK=>?_)
 refine s1 (d:=dG mJ aJ) (T_ldA xG) ?_
 refine sa ?_
 refine scb h qU fun x1 h=>?_
 refine nbr hK ?_
 refine cdh h rfl (fun fQ h=>?_) (fun fQ h=>?_)
 refine ra hx ?_
 exact AW.ret (rtv h)
 refine AW.skip (ra hx ?_)
 refine AW.seq ?_
 obtain⟨c8,hy,h⟩:=ae h
 refine jn ((PE cx .normal (fun c8=>[(7,dB c8)]) fun c8=>⟨[],[],0⟩) c8) ?_ ?_
 replace h:=hy
 refine rar hx ?_
 refine AW.block (ra hx ?_)
 refine cdh h rfl (fun Fk h=>?_) (fun Fk h=>?_)
 refine rq hx fun K hK=>?_
 refine mbr ?_
 rcases aF h with⟨rt,h⟩|⟨rt,h⟩
 refine ga rt ?_
 refine gbr ?_
 refine ga rt ?_
 refine gbr ?_
 refine gcb h lT fun x6 h=>?_
 refine mbr ?_
 rcases aF h with⟨tH,h⟩|⟨tH,h⟩
 refine g1 (d:=dG mJ aJ) tH (T_ldA xG) ?_
 refine ga tH ?_
 refine gbr ?_
 refine ga tH ?_
 refine gcb h iG fun x9 h=>?_
 refine nbr hK ?_
 exact pe1 h h0 []
 refine nbr hK ?_
 exact pe1 h h0 []
 refine nbr hK ?_
 exact pe1 h h0 []
 refine ra hx ?_
 refine cdh h rfl (fun xx h=>?_) (fun xx h=>?_)
 refine rqd [62,75,81,17,86] hx fun K hK=>?_
 refine mbr ?_
 rcases aF h with⟨DS,h⟩|⟨DS,h⟩
 refine mbr ?_
 rcases aF h with⟨FV,h⟩|⟨FV,h⟩
 refine ga FV ?_
 refine gbr ?_
 obtain⟨pJ,yA,h⟩:=ae h
 refine sqg tok rfl rfl FV (fC yA) rfl (lA (ax _) lAn) (.inl rfl) ?_
 refine mbr ?_
 rcases aF h with⟨ru,h⟩|⟨ru,h⟩
 refine g1 (d:=dG mJ aJ) ru (T_ldA xG) ?_
 refine ga ru ?_
 refine gbr ?_
 refine ga ru ?_
 refine gbr ?_
 obtain⟨pI,vu,h⟩:=ae h
 refine sqg tok rfl rfl ru (nh vu) rfl (lA (ax _) lAn) (.inl rfl) ?_
 obtain⟨vn,FN,h⟩:=ae h
 refine sqg tok rfl rfl ru (dV FN) (by simp only[j4,m9,iK,kQ,fM,cj];exact⟨rfl,dW _ _,rfl,rfl,rfl⟩) (lA (ax _) (lA (ax _) (lA (ax _) (lA (ax _) (lA (ax _) lAn))))) (.inl rfl) ?_
 refine mbr ?_
 rcases aF h with⟨DQ,h⟩|⟨DQ,h⟩
 refine ga DQ ?_
 refine gbr ?_
 refine ga DQ ?_
 obtain⟨Ck,LO,h⟩:=ae h
 refine sqg tok rfl rfl DQ (fb LO) rfl (lA (ax _) (lA (ax _) lAn)) (.inl (kG _ _)) ?_
 obtain⟨E7,RX,h⟩:=ae h
 refine sqg tok rfl rfl DQ (oX RX) (by simp only[j4,m9,iK,kQ,fM,cj];exact⟨dW _ _,rfl⟩) (lA (ro _ _) (lA (ax _) lAn)) (.inl rfl) ?_
 refine nbr hK ?_
 exact pe1 h h0 []
 refine nbr hK ?_
 exact pe1 h h0 []
 refine nbr hK ?_
 exact pe1 h h0 []
 refine nbr hK ?_
 exact pe1 h h0 []
 refine nbr hK ?_
 exact pe1 h h0 []
 exact AW.skip (pe1 h h0 [])
 refine lw0 ?_
 refine AW.seq (ra hx ?_)
 refine cdh h rfl (fun SI h=>?_) (fun SI h=>?_)
 refine ra hx ?_
 exact AW.ret (rtv h)
 refine AW.skip (ra hx ?_)
 exact AW.ret (rtv h)
def J9(l:List Int)(v:Int):Int:=match l.findIdx? fun b=>decide (b=v) with
 |some i=>i
 |none=>-1
def secG(rows:List Lin)(basic:List Int)(w:Nat)(c:List Nu):Nat→Lin
 |0=>⟨nOf 0,List.replicate w (nOf 0)⟩
 |k+1=>let g:=secG rows basic w c k
  if J9 basic ((k+1:Nat):Int)<0 then⟨g.k,g.c.set (k+1) (jA g.c[k+1]! c[k]!)⟩
  else⟨jA g.k (lQ c[k]! rows[(J9 basic ((k+1:Nat):Int)).toNat]!.k),(List.range w).map fun t=>if t=0 then g.c[t]! else jA g.c[t]! (lQ c[k]! rows[(J9 basic ((k+1:Nat):Int)).toNat]!.c[t]!)⟩
theorem find_eq(l:List Row)(v:Int):J9 (l.map Row.b) v=db l v:=by
 unfold J9 db
 rw[List.findIdx?_map]
 rfl
theorem qS(l:List Row)(v:Int):(db l v=-1∧∀j,j<l.length→l[j]!.b≠v)∨∃i,i<l.length∧db l v=(i:Int)∧l[i]!.b=v:=by
 unfold db
 cases h:l.findIdx? fun r=>decide (r.b=v) with
 |none=>
  refine .inl ⟨rfl,fun j hj=>?_⟩
  have:=uE.1 h l[j] (nA hj)
  rw[bJ l j hj]
  simpa using this
 |some i=>
  obtain⟨h1,h2,_⟩:=ox.1 h
  exact .inr ⟨i,h1,rfl,by rw[bJ l i h1];exact bA h2⟩
theorem zQ(l:List Row):∀n,jI l n<n∨n=0∧jI l n=0
 |0=>.inr ⟨rfl,rfl⟩
 |n+1=>by
  unfold jI
  rcases zQ l n with h|h
  ·split <;> omega
  ·split <;> omega
theorem qH.fine {d:Dic}{w:Nat}{f:Nu}(hI:Inv d w)(hg:aw f=true)(k:Nu)(c:List Nu)(hl:c.length=w)(hk:fS k c=true):fS k (c.set 0 f)=true:=by
 obtain⟨h1,h2⟩:=bg.1 hk
 refine bg.2 ⟨h1,fun i hi=>?_⟩
 rw[cU] at hi
 rw[ew hi]
 split
 ·exact hg
 ·exact h2 i hi
theorem zM {α β:Type}[Inhabited α][Inhabited β]{l:List α}{f:α→β}{i:Nat}(hi:i<l.length):(l.map f)[i]! =f l[i]! :=by
 apply dP;rw[dQ,vG hi];rfl
theorem Inv.col {d:Dic}{w:Nat}(hI:Inv d w){x:Nu}(hx:aw x=true)(h0:(∀j,j<d.rows.length→d.rows[j]!.b≠0)∨x=nOf 0){k:Nu}{c:List Nu}(hl:c.length=w)(hg:fS k c=true)(hz:∀j,j<d.rows.length→c[d.rows[j]!.b.toNat]! =nOf 0)(p:Int):Inv ⟨d.rows.map (tN x),k,c,d.n,p,d.most⟩ w:=by
 have f8:∀i,i<d.rows.length→(d.rows.map (tN x))[i]! =tN x d.rows[i]! :=fun i hi=>zM hi
 refine⟨⟨hl,fun i hi=>?_,hg,fun i hi=>?_⟩,fun i hi=>?_,fun i j hi hj e=>?_,fun j hj=>?_,fun i j hi hj=>?_⟩
 all_goals dsimp only at*
 all_goals rw[bh] at*
 ·rw[f8 i hi];show (d.rows[i]!.c.set 0 x).length=w;rw[cU];exact hI.fine.lr i hi
 ·rw[f8 i hi];exact qH.fine hI hx _ _ (hI.fine.lr i hi) (hI.fine.gr i hi)
 ·rw[f8 i hi];exact hI.rng i hi
 ·rw[f8 i hi,f8 j hj] at e;exact hI.inj i j hi hj e
 ·rw[f8 j hj];exact hz j hj
 ·rw[f8 i hi,f8 j hj]
  have hr:=hI.rng j hj
  have hlen:=hI.fine.lr i hi
  show (d.rows[i]!.c.set 0 x)[d.rows[j]!.b.toNat]! =nOf 0
  rw[ew (by omega)]
  split
  ·rename_i h
   rcases h0 with h0|h0
   ·exact absurd (by omega) (h0 j hj)
   ·exact h0
  ·exact hI.zr i j hi hj
section
def Can(x:Nu):Prop:=nuR (cm x.1)=x
theorem Km {x:Nu}(h:aw x=true):Can x:=by unfold Can;rw[bC.1 h];exact (CN h).symm
theorem Ie(x y:Nu):Can (jA x y):=by unfold Can;rw[pP,py (zI _ _)]
theorem Kl {x q y:Nu}(hx:Can x)(hq:aw q=true)(h0:bI q=0)(hy:aw y=true):jA x (lQ q y)=x:=by
 rw[Gu hq ((zx hq).1 h0) hy]
 rw[pP,show cm (nOf 0).1=some 0 from by have:=bC.1 of0.1;rw[of0.2] at this;exact this]
 have:Hz (cm x.1) (some 0)=cm x.1:=by
  cases h:cm x.1 with
  |none=>rfl
  |some p=>exact Gp (dm.1 h).1
 rw[this];exact hx
theorem T7 {q xk lk:Nu}(hl:Can lk)(hq:aw q=true)(hx:aw xk=true):wK q xk lk=jA lk (lQ q xk):=by
 unfold wK
 split
 ·rename_i h;exact (Kl hl hq h hx).symm
 ·rfl
theorem T8 {q:Nu}{xc lc:List Nu}{w:Nat}(hlc:lc.length=w)(Bf:xc.length=w)(hl:∀i,i<w→Can lc[i]!)(hq:aw q=true)(hx:∀i,i<w→aw xc[i]! =true):tT q xc (-1) lc=(List.range w).map fun t=>jA lc[t]! (lQ q xc[t]!):=by
 unfold tT
 split
 ·rename_i h
  exact mW hlc fun i hi=>(Kl (hl i hi) hq h (hx i hi)).symm
 ·refine mW (by rw[p7,hlc]) fun i hi=>?_
  rw[CT _ _ _ _ i (by omega),ai (by omega)]
theorem aim_eq {l:List Row}{lr:List Lin}{w:Nat}{c:List Nu}(Sr:lr=l.map fun x=>⟨x.k,x.c⟩)(hlen:∀i,i<l.length→l[i]!.c.length=w)(hg:∀i,i<l.length→fS l[i]!.k l[i]!.c=true)(h0:∀i,i<l.length→l[i]!.c[0]! =nOf 0)(hw:0<w)(hc:∀i,i<c.length→aw c[i]! =true):
  ∀k,k≤c.length→secG lr (l.map Row.b) w c k=⟨(gt l w c k).1,(gt l w c k).2⟩∧(gt l w c k).2.length=w∧Can (gt l w c k).1∧(∀i,i<w→Can (gt l w c k).2[i]!)∧(gt l w c k).2[0]! =nOf 0
 |0,_=>by
  refine⟨rfl,by simp[gt],Km of0.1,fun i hi=>?_,?_⟩
  ·have:(gt l w c 0).2[i]! =nOf 0:=dP (by simp[gt,Il,hi])
   rw[this];exact Km of0.1
  ·exact dP (by simp[gt,Il,hw])
 |k+1,hk=>by
  obtain⟨ih1,ih2,ih3,ih4,ih5⟩:=aim_eq Sr hlen hg h0 hw hc k (by omega)
  unfold secG gt
  rw[ih1,find_eq]
  dsimp only
  rcases qS l ((k+1:Nat):Int) with⟨h1,_⟩|⟨i,h1,h2,_⟩
  ·rw[h1,ai (by omega),ah (by omega)]
   refine⟨rfl,by rw[cU];exact ih2,ih3,fun i hi=>?_,?_⟩
   ·dsimp only
    rw[ew (by omega)]
    split
    ·exact Ie _ _
    ·exact ih4 i hi
   ·dsimp only
    rw[ew (by omega),ah (by omega)]
    exact ih5
  ·rw[h2,ah (by omega),ai (by omega),show ((i:Int)).toNat=i by omega]
   have HQ:lr[i]! =⟨l[i]!.k,l[i]!.c⟩:=by rw[Sr];exact zM h1
   obtain⟨g1,g2⟩:=bg.1 (hg i h1)
   have hl:=hlen i h1
   have hgc:∀t,t<w→aw l[i]!.c[t]! =true:=fun t ht=>g2 t (by omega)
   rw[HQ,T7 ih3 (hc k (by omega)) g1,T8 ih2 hl ih4 (hc k (by omega)) hgc]
   have h00:jA (gt l w c k).2[0]! (lQ c[k]! l[i]!.c[0]!)=(gt l w c k).2[0]! :=by
    rw[ih5,h0 i h1,yy (hc k (by omega)),w5 of0.1]
   refine⟨?_,by simp,Ie _ _,fun t ht=>?_,?_⟩
   ·congr 1
    refine rQ fun t _=>?_
    split
    ·rename_i e;subst e;exact h00.symm
    ·rfl
   ·rw[dP (bX _ ht)];exact Ie _ _
   ·rw[dP (bX _ hw),h00];exact ih5
theorem KJ {l:List Row}{w:Nat}{c:List Nu}(hlen:∀i,i<l.length→l[i]!.c.length=w)(JQ:∀i,i<l.length→0≤l[i]!.b∧l[i]!.b<w)(hz:∀i j,i<l.length→j<l.length→l[i]!.c[l[j]!.b.toNat]! =nOf 0)(hc:∀i,i<c.length→aw c[i]! =true):
  ∀k,k≤c.length→(gt l w c k).2.length=w∧∀j,j<l.length→(gt l w c k).2[l[j]!.b.toNat]! =nOf 0
 |0,_=>⟨by simp[gt],fun j hj=>by
   have:=JQ j hj
   exact dP (by show (List.replicate w (nOf 0))[l[j]!.b.toNat]? =some (nOf 0);rw[Il,ai (by omega)])⟩
 |k+1,hk=>by
  obtain⟨ih0,ih⟩:=KJ hlen JQ hz hc k (by omega)
  unfold gt
  dsimp only
  rcases qS l ((k+1:Nat):Int) with⟨h1,h2⟩|⟨i,h1,h2,_⟩
  ·rw[h1,ah (by omega)]
   refine⟨by rw[cU];exact ih0,fun j hj=>?_⟩
   have:=JQ j hj
   dsimp only
   rw[ew (by omega),ah (fun e=>h2 j hj (by omega))]
   exact ih j hj
  ·rw[h2,ai (by omega),show ((i:Int)).toNat=i by omega]
   refine⟨by rw[tS];exact ih0,fun j hj=>?_⟩
   have hr:=JQ j hj
   dsimp only
   unfold tT
   split
   ·exact ih j hj
   ·rw[CT _ _ _ _ _ (by omega),ai (by omega),ih j hj,hz i j h1 hj,yy (hc k (by omega)),w5 of0.1]
section
variable {m nn:Nat} {A B C:List Nu} {most:Int}
theorem jw:(aG m nn A B most).rows.length=m:=by simp[aG]
theorem eJ {i:Nat}(hi:i<m):(aG m nn A B most).rows[i]! =⟨B[i]!,(List.range (1+nn+m)).map (fun t=>if 1≤t∧t≤nn then eR A[i*nn+(t - 1)]! else nOf 0),((1+nn+i:Nat):Int)⟩:=dP (bX _ hi)
theorem mr {x:Nu}{n i:Nat}(hi:i<n):(List.replicate n x)[i]! =x:=dP (by simp[Il,hi])
theorem GM(hA:A.length=m*nn)(hB:B.length=m)(hgA:∀i,i<A.length→aw A[i]! =true)(hgB:∀i,i<B.length→aw B[i]! =true):Inv (aG m nn A B most) (1+nn+m):=by
 have hidx:∀i t,i<m→t<nn→i*nn+t<A.length:=fun i t hi ht=>by
  rw[hA]
  calc i*nn+t<i*nn+nn:=by omega
   _=(i+1)*nn:=by rw[bU];omega
   _≤m*nn:=cG _ hi
 refine⟨⟨by simp[aG],fun i hi=>?_,bg.2 ⟨of0.1,fun i hi=>?_⟩,fun i hi=>?_⟩,fun i hi=>?_,fun i j hi hj e=>?_,fun j hj=>?_,fun i j hi hj=>?_⟩
 all_goals try rw[jw] at*
 ·rw[eJ hi];simp
 ·have vz:i<1+nn+m:=by simpa[aG] using hi
  have:(aG m nn A B most).gc[i]! =nOf 0:=mr vz
  rw[this];exact of0.1
 ·rw[eJ hi]
  refine bg.2 ⟨hgB i (by omega),fun t ht=>?_⟩
  dsimp only at ht ⊢
  rw[bh,List.length_range] at ht
  rw[dP (bX _ ht)]
  split
  ·rename_i h
   rw[qL];exact hgA _ (hidx i (t - 1) hi (by omega))
  ·exact of0.1
 ·rw[eJ hi];dsimp only;omega
 ·rw[eJ hi,eJ hj] at e;dsimp only at e;omega
 ·rw[eJ hj]
  exact mr (by dsimp only;omega)
 ·rw[eJ hi,eJ hj]
  dsimp only
  rw[dP (bX _ (by omega)),ah (by omega)]
theorem qR(i:Nat)(hi:i<m):(aG m nn A B most).rows[i]!.b=((1+nn+i:Nat):Int):=by rw[eJ hi]
end
end
section
section
variable {x:Cx} {tm tm':List (Nat×D)} {hp:Hp}
theorem Wk.perm {vars':List (Nat×List D)}{ip:List (Nat×Nat×Nat×TypeId)}{m:Nat}(σ:Nat→Nat)(h0:x.hp0.next≤m)(bH:∀i,i<x.hp0.next→σ i=i)(tG:∀i j,i<m→j<m→σ i=σ j→i=j)
  (ht:∀p∈tm',tm.lookup p.1=some (p.2.ren σ)∧p.2.idsB m=true∧p.2.noOs=true)
  (hv:∀k ds,vars'.lookup k=some ds→k<m∧hp.vars.lookup (σ k)=some (ds.map (D.renC σ))∧ds.all (D.idsC m)=true∧ds.all D.noO=true)
  (hl:∀k y,ip.lookup k=some y→k<m∧hp.live.lookup (σ k)=some y):Wk x tm hp tm' ⟨vars',ip,m⟩:=by
 intro a w ⟨g,hr,nI,hsz,Fj,hB,hF,hM⟩
 have dv:∀id y,(⟨vars',ip,m⟩:Hp).live.lookup id=some y→hp.live.lookup (σ id)=some y:=fun id y h=>(hl _ _ h).2
 refine⟨⟨fun i=>g.μ (σ i),fun i=>g.τ (σ i),g.F⟩,⟨fun k ds hk=>?_,fun k k' ds ds' hk vy he=>?_,fun id n e hi=>?_,fun id Be t t' b hi vz hb oL=>?_,hr.base,hr.fits⟩,fun t d h=>?_,hsz,Fj,hB,hF,
  ⟨hM.size,hM.cell,hM.forb,h0,fun k hk=>by show g.μ _=_;rw[bH k hk];exact hM.μ k hk,fun id hid n e Py=>?_,fun b hb hf=>⟨(hM.fr b hb hf).1,(hM.fr b hb hf).2.1,fun k ds hk=>(hM.fr b hb hf).2.2.1 _ _ (hv _ _ hk).2.1,fun id t hi=>(hM.fr b hb hf).2.2.2 _ t (dv id _ hi)⟩,hM.szs⟩⟩
 ·obtain⟨h1,h2,h3,h4⟩:=hv _ _ hk
  obtain⟨_,h5,h6,cs,ty,h7,h8,h9⟩:=hr.var _ _ h2
  refine⟨h1,h5,h6,cs,ty,h7,by simpa using h8,fun j u hu=>⟨fun h=>(h9 j u hu).1 (by simpa using h),fun d hd=>?_⟩⟩
  exact jG ((h9 j u hu).2 (d.renC _) (by rw[dQ,hd];rfl)) (a7.1 h3 d (dZ hd)) (a7.1 h4 d (dZ hd)) rfl (fun _=>rfl) (fun _=>rfl) rfl dv
 ·obtain⟨h1,h2,_⟩:=hv _ _ hk
  obtain⟨qD,qq,_⟩:=hv _ _ vy
  exact tG _ _ h1 qD (hr.inj _ _ _ _ h2 qq he)
 ·obtain⟨h1,h2⟩:=hl _ _ hi
  obtain⟨_,us,h3,h4,h5⟩:=hr.tok _ n e h2
  exact⟨h1,us,h3,h4,fun b hb=>⟨(h5 b hb).1,fun k ds hk=>(h5 b hb).2 _ _ (hv _ _ hk).2.1⟩⟩
 ·obtain⟨h1,h2⟩:=hl _ _ hi
  obtain⟨qD,qq⟩:=hl _ _ vz
  exact tG _ _ h1 qD (hr.tinj _ _ _ _ b h2 qq hb oL)
 ·obtain⟨h1,h2,h3⟩:=ht _ (bD h)
  exact CD (nI t _ h1) h2 h3 rfl (fun _=>rfl) (fun _=>rfl) rfl dv
 ·obtain⟨m0,h1,h2,h3⟩:=hM.live id hid n e (by rw[←bH id hid];exact dv id _ Py)
  exact⟨m0,h1,h2,fun h=>by show g.τ _=_;rw[bH id hid];exact h3 h⟩
theorem Rb {σ:Nat→Nat}{n:Nat}(hσ:∀i,i<n→σ i=i){d:D}(hd:d.idsC n=true)(hn:d.noO=true):d.renC σ=d:=by
 cases d with
 |own id z n xs=>simp only[D.idsC,rG] at hd;simp only[D.renC,hσ id hd]
 |pt k o=>simp only[D.idsC,rG] at hd;simp only[D.renC,hσ k hd]
 |ow k o z n=>simp only[D.idsC,rG] at hd;simp only[D.renC,hσ k hd]
 |gw k z n=>simp only[D.idsC,rG] at hd;simp only[D.renC,hσ k hd]
 |fn f ks=>
  simp only[D.idsC,a7,rG] at hd
  simp only[D.renC]
  congr 1
  exact (rQ fun k hk=>hσ k (hd k hk)).trans (Em _)
 |opt b d=>cases hn
 |_=>rfl
theorem map_low {σ:Nat→Nat}{n:Nat}(hσ:∀i,i<n→σ i=i){ds:List D}(hd:ds.all (D.idsC n)=true)(hn:ds.all D.noO=true):ds.map (D.renC σ)=ds:=
 (rQ fun d h=>Rb hσ (a7.1 hd d h) (a7.1 hn d h)).trans (Em _)
end
def J4(m nn:Nat)(A B:List Nu)(i:Nat):Row:=⟨B[i]!,(List.range (1+nn+m)).map (fun t=>if 1≤t∧t≤nn then eR A[i*nn+(t - 1)]! else nOf 0),((1+nn+i:Nat):Int)⟩
def mB(m nn:Nat)(A B:List Nu)(most:Int)(i:Nat):Dic:=⟨(List.range i).map (J4 m nn A B),nOf 0,List.replicate (1+nn+m) (nOf 0),nn,0,most⟩
theorem Ke(m nn:Nat)(A B:List Nu)(most:Int):mB m nn A B most m=aG m nn A B most:=rfl
theorem D3 {m nn:Nat}{A B:List Nu}{most:Int}(h0:0≤most)(h1:most≤9223372036854775807){i:Nat}(hi:i≤m):cH (mB m nn A B most i) (1+nn+m) i:=by
 have hg:∀j,j<i→(mB m nn A B most i).rows[j]! =J4 m nn A B j:=fun j hj=>dP (bX _ hj)
 refine⟨by simp[mB],by simp[mB],fun j hj=>?_,fun j hj=>?_,yK _,by show (0:Int)≤_;omega,h0,h1⟩
 ·rw[hg j hj];simp[J4]
 ·rw[hg j hj];show 0≤((1+nn+j:Nat):Int)∧((1+nn+j:Nat):Int)<((1+nn+m:Nat):Int);omega
def Cv(m nn:Nat)(A:List Nu)(i k:Nat):List Nu:=(List.range (1+nn+m)).map fun t=>if 1≤t∧t≤k then eR A[i*nn+(t - 1)]! else nOf 0
theorem PX(m nn:Nat)(A:List Nu)(i:Nat):Cv m nn A i 0=List.replicate (1+nn+m) (nOf 0):=by
 unfold Cv
 exact (mW (by simp) fun t ht=>by rw[ah (by omega)];exact mr ht).symm
theorem PY {m nn:Nat}{A:List Nu}{i k:Nat}(hk:k<nn):(Cv m nn A i k).set (1+k) (eR A[i*nn+k]!)=Cv m nn A i (k+1):=by
 unfold Cv
 refine mW (by simp) fun t ht=>?_
 rw[ew (by simpa using ht),dP (bX _ ht)]
 by_cases h:1+k=t
 ·rw[ai h,ai (by omega),show t - 1=k by omega]
 ·rw[ah h]
  by_cases h2:1≤t∧t≤k
  ·rw[ai h2,ai (by omega)]
  ·rw[ah h2,ah (by omega)]
theorem Tt(m nn:Nat)(A:List Nu)(i k:Nat):(Cv m nn A i k).length=1+nn+m:=by simp[Cv]
def rV(i:Nat):Nat:=if i=0 then 0 else 6+8*i
def cV(j:Nat):Nat:=11+8*j
theorem xU(i:Nat):Dif i 2 (rV i) 6 cV:=by
 unfold rV cV
 refine⟨?_,by omega,?_,fun j hj=>⟨by omega,?_,by omega⟩,fun j k _ _ h=>by omega⟩
 ·split <;> omega
 ·split <;> omega
 ·split <;> omega
def prC(R Cc:Int)(A B C:List Nu):List D:=[dI .i64 R,dI .i64 Cc,.e (slE au A),.e (slE au B),.e (slE au C)]
theorem sS {R Cc:Int}{A B C:List Nu}{t:Nat}{y:D}(h:(prC R Cc A B C)[t]? =some y):Pt (prC R Cc A B C) t [y] (fun ys=>(prC R Cc A B C).take t++ys++(prC R Cc A B C).drop (t+1)):=Pt.cell h
theorem AU(l:List E):(dC l).all D.noO=true:=by
 unfold dC
 rw[a7]
 intro d hd
 obtain⟨e,_,rfl⟩:=tQ.1 hd
 rfl
theorem AT(a:Nu)(k w:Nat):(aW a k w).all D.noO=true:=by
 unfold aW
 rw[lO,AU]
 rfl
theorem Gt {C:Nat→Nat}{w:Nat}:∀(i:Nat) (l:List Row),(fP C w i l).all D.noO=true
 |_,[]=>rfl
 |i,r::l=>by
  unfold fP iH
  rw[lO,lO,AT,Gt (i+1) l]
  rfl
theorem ov_noO {kd R G w:Nat}{C:Nat→Nat}{d:Dic}{vs:List (Nat×List D)}(hb:∀p∈vs,p.2.all D.noO=true):∀k ds,(ov kd R G C w d vs).lookup k=some ds→ds.all D.noO=true:=by
 have hc:∀(i:Nat) (l:List Row),∀p∈cOv C i l,p.2.all D.noO=true:=by
  intro i l
  induction l generalizing i with
  |nil=>intro p hp;simp[cOv] at hp
  |cons r l ih=>
   intro p hp
   rcases kz.1 hp with rfl|hp
   ·exact AU _
   ·exact ih (i+1) p hp
 intro k ds h
 have hm:=bD h
 unfold ov at hm
 rcases kz.1 hm with e|hm
 ·injection e with e1 e2
  rw[e2]
  unfold mQ
  rw[lO,lO,AT]
  cases d.rows <;> rfl
 rcases kz.1 hm with e|hm
 ·injection e with e1 e2
  rw[e2];exact AU _
 rcases vg.1 hm with hm|hm
 ·unfold rOv at hm
  split at hm
  ·simp at hm
  ·rw[qk] at hm
   injection hm with e1 e2
   rw[e2];exact Gt 0 _
 ·rcases vg.1 hm with hm|hm
  ·exact hc 0 _ _ hm
  ·exact hb _ hm
theorem O5 {σ:Nat→Nat}(a:Nu)(k w:Nat):(aW a k w).map (D.renC σ)=aW a (σ k) w:=by
 unfold aW dC
 rw[jz,pZ]
 rfl
theorem Lu {σ:Nat→Nat}(l:List E):(dC l).map (D.renC σ)=dC l:=by
 unfold dC
 rw[pZ]
 rfl
def TmR(σ:Nat→Nat)(m:Nat)(tm tm':List (Nat×D)):Prop:=∀p∈tm',tm.lookup p.1=some (p.2.ren σ)∧p.2.idsB m=true∧p.2.noOs=true
theorem TmR.nil {σ:Nat→Nat}{m:Nat}{tm:List (Nat×D)}:TmR σ m tm []:=fun p hp=>absurd hp (ql)
theorem TmR.cons {σ:Nat→Nat}{m t:Nat}{d:D}{tm tm':List (Nat×D)}(h2:TmR σ m tm tm')(h:tm.lookup t=some (d.ren σ))(hi:d.idsB m=true)(hn:d.noOs=true:=by exact rfl):TmR σ m tm ((t,d)::tm'):=fun p hp=>by
 rcases kz.1 hp with rfl|hp
 ·exact⟨h,hi,hn⟩
 ·exact h2 p hp
theorem Ur {dr:Bool}{ty:TypeId}{ev:Operand→D}{hp:Hp}{x y:Operand}{a:Nu}{k n:Nat}{b:Int}(hx:ev x=.ag (aW a k n):=by exact rfl)(hy:ev y=dI .i64 b:=by exact rfl):AVC prog tbl dr (.build 78 #[(0,x),(1,y)]) ty ev hp (Kq (.ag (aW a k n++[dI .i64 b])) hp):=by
 have h0:([(0,x),(1,y)]:List (Nat×Operand)).map (fun p=>(p.1,ev p.2))=[(0,.ag (aW a k n)),(1,dI .i64 b)]:=by simp only[j4,m9,hx,hy]
 rw[show (#[(0,x),(1,y)]:Array (Nat×Operand))=([(0,x),(1,y)]:List (Nat×Operand)).toArray from rfl,wv,h0,tO,tp]
 have hp:lY [(0,.ag (aW a k n)),(1,dI .i64 b)]=some [(0,aW a k n),(1,[dI .i64 b])]:=rfl
 rw[hp]
 dsimp only
 refine⟨by decide,?_⟩
 have hz:∀zs:List D,zs.length=38→fT (n6 tbl [(0,73),(37,3)]) zs [(0,aW a k n),(1,[dI .i64 b])]=some (aW a k n++[dI .i64 b]):=fun zs hzs=>by
  have p0:n6 tbl [(0,73),(37,3)] 0=some (0,37):=rfl
  have p1:n6 tbl [(0,73),(37,3)] 1=some (37,1):=rfl
  simp only[fT,p0,p1,bR]
  rw[ah (by simp[hzs])]
  rw[ah (by simp[bR,hzs])]
  rw[Eh,nd,bp,uK (by rw[bR];exact ay _),gU (by rw[bR];exact ay _),Ca (by simp[bR,hzs]),sL]
 rw[hz _ (by rfl)]
 exact Kq.here _ _
theorem AW.joinE {P:Program}{x:Cx}{c c':Code}{tm:List (Nat×D)}{hp:Hp}{Q:Exit→List (Nat×D)→Hp→Prop}{α:Type}(T:α→List (Nat×D))(H:α→Hp)(I:α→Prop)(h1:AW P x c tm hp fun ex tm' hp'=>match ex with| .normal=>∃a,I a∧Wk x tm' hp' (T a) (H a)|ex=>Q ex tm' hp')(h2:∀a,I a→AW P x c' (T a) (H a) Q):AW P x (.seq c c') tm hp Q:=by
 refine AW.seq (AW.mono h1 fun ex tm' hp' h=>?_)
 cases ex with
 |normal=>
  obtain⟨a,ha,hw⟩:=h
  exact AW.weak hw (h2 a ha)
 |_=>exact h
theorem appRows {U:List (Nat×List D)}{lv:List (Nat×Nat×Nat×TypeId)}{N R ky w:Nat}{C:Nat→Nat}{l:List Row}{F1:List D}(hR:l≠[]→U.lookup R=some (fP C w 0 l))(hky:U.lookup ky=some F1)(hl:F1.length=38)(hb:l.length≤1000000):
  ∃W:List (Nat×List D),W.lookup N=some (fP C w 0 l++F1)∧(∀k ds,(l≠[]→k≠R)→k≠N→U.lookup k=some ds→W.lookup k=some ds)∧
   ∀{md:Md} {dst:Option Tmp} {ty:TypeId} {pos:String} {af:Array Edge} {gd:Option (Nat×Bool)} {ev:Operand→D} {x y:Operand},ev x=eU R l→ev y=.gw ky 38 1→mG prog tbl md ⟨dst,.call ⟨.builtin .append,#[x,y],#[71,71]⟩,ty,pos,af,gd⟩ ev ⟨U,lv,N⟩ (.gw N 38 (l.length+1)) ⟨W,lv,N+1⟩:=by
 cases l with
 |nil=>
  refine⟨(N,F1)::U,?_,fun k ds _ h2 h=>ak h2 h,fun hx RU=>?_⟩
  ·exact aa
  ·exact appN tok (hp:=⟨U,lv,N⟩) BH tp hky hx RU hl (by decide)
 |cons r l=>
  refine⟨(N,fP C w 0 (r::l)++F1)::U.filter fun p=>!([R]:List Nat).contains p.1,aa,fun k ds h1 h2 h=>ak h2 (w6 (by simpa using h1 (by simp)) h),fun hx RU=>?_⟩
  exact appR tok (hp:=⟨U,lv,N⟩) (k:=R) (n:=(r::l).length) (ds:=fP C w 0 (r::l)) BH tp (hR (by simp)) hky hx RU (AK _ _ _ _) hl (by show ((r::l).length+1)*168≤140737488355328;omega)
end
section
section
variable {d:Dic} {w at' s:Nat}
theorem Inv.pivotG(hI:Inv d w)(hat:at'<d.rows.length)(hs:s<w)(um:∀j,j<d.rows.length→d.rows[j]!.b≠s)(h0:(dH d at' s).1=0):gG d w at' s∧(dH d at' s).2=f5 d at' s:=by
 by_cases hp:d.most≤d.piv
 ·have:dH d at' s=(220,d):=by unfold dH;rw[ai hp]
  rw[this] at h0;cases h0
 obtain⟨h2,_,hok⟩:=AQ d at' s hat hp
 obtain⟨g1,g2⟩:=hok.1 h0
 refine⟨⟨hI,hat,hs,um,⟨?_,fun i hi=>?_,g1,fun i hi=>g2 i (by rwa[d7] at hi)⟩⟩,h2⟩
 ·show (gL d.gk d.gc _ s).c.length=w
  rw[q9];exact hI.fine.lg
 ·rw[d7] at hi
  rw[iZ hi]
  split
  ·rw[qX];exact hI.fine.lr at' hat
  ·show (gL d.rows[i]!.k d.rows[i]!.c _ s).c.length=w
   rw[q9];exact hI.fine.lr i hi
theorem Inv.improved(w:Nat):∀(f:Nat) (d:Dic),Inv d w→(gR f d).1.2=0→Inv (gR f d).2 w∧qH d (gR f d).2 w
 |0,d,hI,_=>⟨hI,qH.refl d w⟩
 |f+1,d,hI,h=>by
  unfold gR at h ⊢
  cases hs:jY d.gc with
  |none=>exact⟨hI,qH.refl d w⟩
  |some s=>
   obtain⟨h1,h2,_⟩:=pi hs
   rw[hI.fine.lg] at h1
   rw[hs] at h
   dsimp only at h ⊢
   cases hl:i8 d.rows s default d.rows.length with
   |none=>rw[hl] at h;cases h
   |some p=>
    rw[hl] at h
    dsimp only at h ⊢
    by_cases hp:p.1<0
    ·rw[ai hp];exact⟨hI,qH.refl d w⟩
    ·rw[ah hp] at h ⊢
     rcases o7 hl with h3|⟨i,hi,h3,h4,_⟩
     ·omega
     rw[h3,show ((i:Int)).toNat=i by omega] at h ⊢
     by_cases h0:(dH d i s).1=0
     ·rw[ai h0] at h ⊢
      obtain⟨hG,h7⟩:=hI.pivotG hi h1 (hI.enter (by omega)) h0
      rw[h7] at h ⊢
      obtain⟨a1,a2⟩:=Inv.improved w f (f5 d i s) hG.toInv h
      exact⟨a1,hG.same.trans a2⟩
     ·rw[ah h0] at h;exact absurd h h0
end
theorem QY {m nn:Nat}{A B C:List Nu}{most:Int}(hA:A.length=m*nn)(hB:B.length=m)(hgA:∀i,i<A.length→aw A[i]! =true)(hgB:∀i,i<B.length→aw B[i]! =true):
  B.any (fun b=>decide (bI b<0))=true→∀q,dH (cf (aG m nn A B most)) (jI (aG m nn A B most).rows (aG m nn A B most).rows.length) 0=q→q.1=0→(aP q.2).1.2=0→0≤db (aP q.2).2.rows 0→xJ (aP q.2).2.rows[(db (aP q.2).2.rows 0).toNat]!.c≠none:=by
 intro hn
 have Ff:0<m:=by
  rcases rJ m with e|e
  ·rw[e] at hB
   rw[Ik.1 hB] at hn
   cases hn
  ·exact e
 have hI:=GM (most:=most) hA hB hgA hgB
 have hlen:(aG m nn A B most).rows.length=m:=jw
 generalize hd:aG m nn A B most=d at hI hlen ⊢
 have h0:∀j,j<d.rows.length→d.rows[j]!.b≠0:=fun j hj=>by
  rw[←hd,qR j (by omega)];omega
 have hI1:Inv (cf d) (1+nn+m):=by
  refine hI.col of1.1 (.inl h0) (by rw[cU];exact hI.fine.lg) (qH.fine hI ofm1.1 _ _ hI.fine.lg hI.fine.gg) (fun j hj=>?_) d.piv
  have:=hI.rng j hj
  have:=h0 j hj
  have:=hI.fine.lg
  rw[ew (by omega),ah (by omega)]
  exact hI.zg j hj
 have bH:jI d.rows d.rows.length<(cf d).rows.length:=by
  have:=zQ d.rows d.rows.length
  show _<(d.rows.map _).length
  rw[bh];omega
 have hnb1:∀j,j<(cf d).rows.length→(cf d).rows[j]!.b≠((0:Nat):Int):=fun j hj=>by
  have BU:j<d.rows.length:=by simpa[cf] using hj
  show (d.rows.map (tN (nOf 1)))[j]!.b≠_
  rw[zM BU]
  exact h0 j BU
 rintro q rfl hp e hf Sj
 obtain⟨hG,h2⟩:=hI1.pivotG bH (show 0<1+nn+m by omega) hnb1 hp
 rw[h2] at e hf Sj
 generalize f5 (cf d) (jI d.rows d.rows.length) 0=d1 at hG e hf Sj h2
 have PL:qH (cf d) (dH (cf d) (jI d.rows d.rows.length) 0).2 (1+nn+m)∧Inv (dH (cf d) (jI d.rows d.rows.length) 0).2 (1+nn+m):=by
  obtain⟨hG',qq⟩:=hI1.pivotG bH (show 0<1+nn+m by omega) hnb1 hp
  rw[qq]
  exact⟨hG'.same,hG'.toInv⟩
 rw[h2] at PL
 obtain⟨a2,a4⟩:=Inv.improved (1+nn+m) _ d1 PL.2 e
 have a2:Inv (aP d1).2 (1+nn+m):=a2
 have a4:qH d1 (aP d1).2 (1+nn+m):=a4
 rcases qS (aP d1).2.rows 0 with⟨h5,_⟩|⟨i,h5,h6,h7⟩
 ·omega
 rw[h6,show ((i:Int)).toNat=i by omega] at Sj
 have hz:∀t,t<1+nn+m→(aP d1).2.rows[i]!.c[t]! =nOf 0:=fun t ht=>by
  have hl:=a2.fine.lr i h5
  have hg:=(bg.1 (a2.fine.gr i h5)).2 t (by omega)
  unfold xJ at Sj
  have:=uE.1 Sj (aP d1).2.rows[i]!.c[t] (nA (by omega))
  refine good0 hg ?_
  rw[bJ _ t (by omega)]
  simpa using this
 have hcon:∀y,Sol (aP d1).2 (1+nn+m) y→y 0=rv (aP d1).2.rows[i]!.k:=fun y hy=>by
  have:=hy i h5
  rw[h7] at this
  have e2:bK (1+nn+m) (aP d1).2.rows[i]!.k (aP d1).2.rows[i]!.c y=rv (aP d1).2.rows[i]!.k:=by
   unfold bK
   rw[aB (g:=fun _=>0) fun t ht=>by rw[hz t ht,of0.2];grind,fE];grind
  rw[e2] at this
  exact this
 obtain⟨y0,hy0,hv0⟩:=hI1.pick fun _=>0
 obtain⟨y1,NQ,hv1⟩:=hI1.pick fun _=>1
 have hh:=PL.1.trans a4
 have e0:=hcon y0 ((hh.sol y0).2 hy0)
 have e1:=hcon y1 ((hh.sol y1).2 NQ)
 rw[hv0 0 hnb1] at e0
 rw[hv1 0 hnb1] at e1
 rw[←e0] at e1
 exact absurd e1 (by decide)
end
section
def qj(m:Nat)(a:Ans):List D:=[dI .i64 a.kind,.e (slE au a.x),if a.kind=2 then .gw (7+8*m) 36 a.y.length else .e (slE au a.y),.e (slE au a.ray)]
def FD(m:Nat)(r:Ans×Int×Int):Hp:=if r.1.kind=2 then⟨[(1,qj m r.1),(7+8*m,dC ((cW au).f r.1.y))],[],8+8*m⟩ else⟨[(1,qj m r.1)],[],2⟩
def Ln(m:Nat)(r:Ans×Int×Int):D:=.tu [.ag (qj m r.1),dI .i64 r.2.1,dI .i64 r.2.2]
theorem rtS {cx:Cx}{tm:List (Nat×D)}{vs2:List (Nat×List D)}{n2 m:Nat}{r0 r:Ans×Int×Int}(h0:cx.hp0=⟨[],[],0⟩)(hr:r0=r)(h1:vs2.lookup 1=some (qj m r.1))(hk:r.1.kind=2→vs2.lookup (7+8*m)=some (dC ((cW au).f r.1.y))∧8+8*m≤n2)(hn:2≤n2)(h4:tm.lookup 4=some (.pt 1 0):=by exact rfl)(h5:tm.lookup 5=some (dI .i64 r.2.1):=by exact rfl)(h6:tm.lookup 6=some (dI .i64 r.2.2):=by exact rfl):
  ∃tm',Wk cx tm ⟨vs2,[],n2⟩ tm' (FD m r0)∧te tbl [.cell 4 29,.tmp 5,.tmp 6] tm' (FD m r0) (Ln m r0):=by
 subst hr
 have key:∀(V:List (Nat×List D)) (M:Nat),ci ⟨V,[],M⟩→V.lookup 1=some (qj m r0.1)→1<M→te tbl [.cell 4 29,.tmp 5,.tmp 6] [(4,.pt 1 0),(5,dI .i64 r0.2.1),(6,dI .i64 r0.2.2)] ⟨V,[],M⟩ (Ln m r0):=fun V M hok hl hM=>
  resV tbI rfl hl hM rfl rfl ⟨_,rfl,_,rfl,rfl⟩
 unfold FD
 by_cases hq:r0.1.kind=2
 ·rw[ai hq]
  obtain⟨h7,h8⟩:=hk hq
  have DO:(qj m r0.1).all (D.idsC (8+8*m))=true:=by
   unfold qj
   rw[ai hq]
   simp only[iK,kQ,fM,cj]
   exact⟨rfl,rfl,aA (by omega),rfl⟩
  have hok:ci ⟨[(1,qj m r0.1),(7+8*m,dC ((cW au).f r0.1.y))],[],8+8*m⟩:=by
   refine⟨fun k ds h=>?_,fun id e h=>by simp at h⟩
   rcases bY h with⟨rfl,rfl⟩|⟨_,h⟩
   ·exact⟨show 1<8+8*m by omega,DO⟩
   ·rcases bY h with⟨rfl,rfl⟩|⟨_,h⟩
    ·exact⟨show 7+8*m<8+8*m by omega,ep _⟩
    ·simp at h
  refine⟨_,wkS (by rw[h0];exact cl _) h8 hok (fun j ds h=>?_) (((bE.nil.cons h6).cons h5).cons h4 (aA (show 1<8+8*m by omega))),key _ _ hok aa (by omega)⟩
  rcases bY h with⟨rfl,rfl⟩|⟨_,h⟩
  ·exact h1
  ·rcases bY h with⟨rfl,rfl⟩|⟨_,h⟩
   ·exact h7
   ·simp at h
 ·rw[ah hq]
  have DO:(qj m r0.1).all (D.idsC 2)=true:=by
   unfold qj
   rw[ah hq]
   rfl
  have hok:ci ⟨[(1,qj m r0.1)],[],2⟩:=by
   refine⟨fun k ds h=>?_,fun id e h=>by simp at h⟩
   rcases bY h with⟨rfl,rfl⟩|⟨_,h⟩
   ·exact⟨show 1<2 by decide,DO⟩
   ·simp at h
  refine⟨_,wkS (by rw[h0];exact cl _) hn hok (fun j ds h=>?_) (((bE.nil.cons h6).cons h5).cons h4 rfl),key _ _ hok aa (by decide)⟩
  rcases bY h with⟨rfl,rfl⟩|⟨_,h⟩
  ·exact h1
  ·simp at h
def ly:List E:=[.lit (.int .i64 0),.lit (.slice none 0 0),.lit (.slice none 0 0),.lit (.slice none 0 0)]
def dicZ(nn:Nat)(most:Int):List D:=[dN]++(dC zN++[dN])++[dI .i64 nn,dI .i64 0,dI .i64 most]
theorem PW(nn:Nat)(most:Int):Pt (dicZ nn most) 1 (dC zN++[dN]) (fun ys=>[dN]++ys++[dI .i64 nn,dI .i64 0,dI .i64 most]):=Pt.of [dN] [dI .i64 nn,dI .i64 0,dI .i64 most] rfl rfl fun y=>rfl
theorem qA {a b:Nat}(h:a+b<9223372036854775807):i64.wrap ((a:Int)+(b:Int))=((a+b:Nat):Int):=by rw[eQ (by omega) (by omega)];omega
section
variable {d:Dic} {w m nn:Nat} {c:List Nu}
theorem cH.improveP(h:cH d w m):cH (aP d).2 w m∧(aP d).2.most=d.most∧(aP d).2.n=d.n∧-1≤(aP d).1.1∧(aP d).1.1<w:=h.improve _
theorem cH.start(h:cH d w m):cH (cf d) w m:=by
 have h2:=h.colsI (nOf 1) (Nat.le_of_eq h.len)
 rw[xg] at h2
 exact⟨h2.len,(cU ..).trans h2.lg,h2.lc,h2.b,h2.p0,h2.p1,h2.m0,h2.m1⟩
theorem S8 {l:List Row}{v:Int}(h:¬db l v<0):(db l v).toNat<l.length:=by
 unfold db at h ⊢
 cases Pz:l.findIdx? fun r=>decide (r.b=v) with
 |none=>rw[Pz] at h;exact absurd (show (-1:Int)<0 by decide) h
 |some a=>exact (ox.1 Pz).1
theorem cH.begin(h:cH d w m)(hm:0<m)(hw:0<w):cH (jx d).2 w m∧(jx d).2.n=d.n:=by
 have hl:=h.len
 have ms:jI d.rows d.rows.length<m:=by
  rcases zQ d.rows d.rows.length with h|h <;> omega
 obtain⟨p1,_,p3,_⟩:=h.start.pivot ms hw
 have p3:_=d.n:=p3
 unfold jx
 dsimp only
 split
 ·exact⟨p1,p3⟩
 ·obtain⟨q1,_,q3,_⟩:=p1.improveP
  split
  ·exact⟨q1,q3.trans p3⟩
  ·split
   ·exact⟨q1,q3.trans p3⟩
   ·next hf=>
    have hfl:=S8 hf
    rw[q1.len] at hfl
    split
    ·exact⟨q1,q3.trans p3⟩
    ·next s hs=>
     have Fc:=(ox.1 hs).1
     rw[q1.lc _ hfl] at Fc
     obtain⟨r1,_,r3,_⟩:=q1.pivot hfl Fc
     exact⟨r1,r3.trans (q3.trans p3)⟩
theorem cH.aim(h:cH d w m)(c:List Nu):cH (mC d c).2 w m∧(mC d c).2.n=d.n:=by
 have h2:=h.colsI (nOf 0) (Nat.le_of_eq h.len)
 rw[xg] at h2
 exact⟨⟨h2.len,(wJ ..).trans h.lg,h2.lc,h2.b,h2.p0,h2.p1,h2.m0,h2.m1⟩,rfl⟩
theorem endP_1(h:(mC d c).1≠0):vH nn d c=(⟨0,[],[],[]⟩,0,(mC d c).1):=by unfold vH;dsimp only;rw[ai h]
theorem endP_2(h:¬(mC d c).1≠0)(h2:(aP (mC d c).2).1.2≠0):vH nn d c=(⟨0,[],[],[]⟩,0,(aP (mC d c).2).1.2):=by unfold vH;dsimp only;rw[ah h,ai h2]
theorem endP_3(h:¬(mC d c).1≠0)(h2:¬(aP (mC d c).2).1.2≠0)(h3:(aP (mC d c).2).1.1<0):vH nn d c=(⟨1,cJ (aP (mC d c).2).2.rows nn Row.k fun _=>nOf 0,bQ (aP (mC d c).2).2 nn,[]⟩,(aP (mC d c).2).2.piv,0):=by unfold vH;dsimp only;rw[ah h,ah h2,ai h3]
theorem endP_4(h:¬(mC d c).1≠0)(h2:¬(aP (mC d c).2).1.2≠0){s:Nat}(h3:(aP (mC d c).2).1.1=(s:Int)):vH nn d c=(⟨3,cJ (aP (mC d c).2).2.rows nn Row.k fun _=>nOf 0,[],cJ (aP (mC d c).2).2.rows nn (fun r=>r.c[s]!) fun v=>nOf (if (v:Int)=(s:Int) then 1 else 0)⟩,(aP (mC d c).2).2.piv,0):=by
 unfold vH
 dsimp only
 rw[ah h,ah h2,ah (by omega),h3,show ((s:Int)).toNat=s by omega]
 congr 2
 congr 1
 funext v
 split <;> rfl
end
section
variable {m nn:Nat} {A B C:List Nu} {most:Int}
theorem P4 {m:Nat}{a:Ans}(h:a.kind≠2):qj m a=[dI .i64 a.kind,.e (slE au a.x),.e (slE au a.y),.e (slE au a.ray)]:=by unfold qj;rw[ah h]
theorem wx(m:Nat):D.le (.ag [dI .i64 0,dN,dN,dN]) (.ag (qj m ⟨0,[],[],[]⟩)):=by
 rw[P4 (by decide)]
 exact su ⟨.inl rfl,.inr (.inr ⟨rfl,36,by decide,rfl⟩),.inr (.inr ⟨rfl,36,by decide,rfl⟩),.inr (.inr ⟨rfl,36,by decide,rfl⟩),trivial⟩
theorem Oa(hv:ar prog 15 [.ag (prC m nn A B C)] (dB true))(hm:m≤2000)(hn:nn≤2000)(hA:A.length=m*nn)(hB:B.length=m)(hC:C.length=nn)(hgA:∀i,i<A.length→aw A[i]! =true)(hgB:∀i,i<B.length→aw B[i]! =true)(hgC:∀i,i<C.length→aw C[i]! =true)(h0:0≤most)(h1:most≤9223372036854775807):
  HC prog 12 [.ag (prC m nn A B C),dI .i64 most] ⟨[],[],0⟩ (Ln m (im m nn A B C most)) (FD m (im m nn A B C most)):=by
 refine HC.of (rs:=[.cell 4 29,.tmp 5,.tmp 6]) tok func12 rfl rfl (bc rfl) rfl (fun cx hx vf hok=>?_)
 simp only[fj,Nat.reduceAdd,bp]
 obtain⟨w,hw⟩:∃w,w=1+nn+m:=⟨_,rfl⟩
 refine rs hx fun K hK=>?_
 refine s1 (gF (cs:=prC m nn A B C)) ?_
 refine a1 (F:=ly) tbI ?_
 iterate 2 refine sa ?_
 refine nl hK ?_
 refine AW.seq (rs hx fun K hK=>?_)
 refine p1 (Pt.all (F:=prC m nn A B C)) rfl ?_
 refine q1 (sHC (HC.frz (ds:=[.ag (prC m nn A B C)]) hv ⟨AR.data rfl,trivial⟩ rfl) rfl (.inr (Fr.refl _))) ?_
 iterate 2 refine sa ?_
 iterate 2 refine ga rfl ?_
 refine s1 (d:=dB (decide (most<0))) (lP rfl) ?_
 refine nl hK ?_
 refine AW.condF rfl (bk (by omega)) (AW.skip ?_)
 -- rY dictionary
 refine rs hx fun K hK=>?_
 iterate 2 refine sa ?_
 refine c1 (sS (t:=1) rfl) ?_
 refine sa ?_
 refine s1 (d:=.ag (dicZ nn most)) (dT tbI) ?_
 refine s1 (gF (cs:=dicZ nn most)) ?_
 refine sa ?_
 refine nl hK ?_
 refine rs hx fun K hK=>?_
 iterate 2 refine sa ?_
 refine c1 (sS (t:=1) rfl) ?_
 refine sa ?_
 rw[show i64.wrap ((1:Int)+(nn:Int))=((1+nn:Nat):Int) from qA (a:=1) (by omega)]
 iterate 2 refine sa ?_
 refine c1 (sS (t:=0) rfl) ?_
 refine sa ?_
 rw[qA (by omega),←hw]
 refine sa ?_
 refine nl hK ?_
 refine rs hx fun K hK=>?_
 iterate 2 refine sa ?_
 refine q1 (sHC (w9 (by omega)) rfl (.inr ⟨show 3≤7 by decide,fun j hj=>by have hj:j<3:=hj;exact (am (by omega)).trans (am (by omega))⟩)) ?_
 iterate 2 refine sa ?_
 refine v1 (ys:=aW (nOf 0) 6 w) (PW nn most) rfl ((bR _ _ _).trans rfl) rfl ?_
 refine nl hK ?_
 refine rs hx fun K hK=>?_
 refine sa ?_
 refine nl hK ?_
 obtain⟨base,lK⟩:∃base:List (Nat×List D),base=[(1,dC ly),(0,prC m nn A B C)]:=⟨_,rfl⟩
 have fR:base.lookup 1=some (dC ly):=by rw[lK];exact aa
 have N9:base.lookup 0=some (prC m nn A B C):=by rw[lK];rfl
 have N8:∀j ds,base.lookup j=some ds→j=0∨j=1:=fun j ds h=>by
  rw[lK] at h
  rcases bY h with⟨h2,_⟩|⟨_,h⟩
  ·exact .inr h2
  ·rcases bY h with⟨h2,_⟩|⟨_,h⟩
   ·exact .inl h2
   ·simp at h
 have LV:∀M,2≤M→ci ⟨base,[],M⟩:=fun M hM=>by
  refine⟨fun j ds h=>?_,fun id e h=>by simp at h⟩
  rcases N8 j ds h with rfl|rfl
  ·rw[N9] at h;injection h with h;subst h;exact⟨show 0<M by omega,rfl⟩
  ·rw[fR] at h;injection h with h;subst h;exact⟨show 1<M by omega,rfl⟩
 obtain⟨V0,Fm⟩:∃V0,V0=(2,[dN]++aW (nOf 0) 6 w++[dI .i64 nn,dI .i64 0,dI .i64 most])::(3,aW (nOf 0) 6 w)::(6,dC ((cW au).f (List.replicate w (nOf 0))))::(2,dicZ nn most)::base:=⟨_,rfl⟩
 have hSI:∀i,i≤m→cH (mB m nn A B most i) w i:=fun i hi=>by rw[hw];exact D3 h0 h1 hi
 have I0:DAt V0 2 (rV 0) 6 cV w (mB m nn A B most 0):=by
  rw[Fm]
  exact⟨aa,fun fk=>absurd rfl fk,by rw[hw];exact ak (by decide) (ak (by decide) aa),fun i r hr=>by simp[mB] at hr,(hSI 0 (cl _)).lg,(hSI 0 (cl _)).lC⟩
 have NU:∀k ds,k≠2→(0≠0→k≠rV 0)→k≠6→(∀j,j<0→k≠cV j)→base.lookup k=some ds→V0.lookup k=some ds:=fun k ds _ _ _ _ h=>by
  rw[Fm]
  rcases N8 k ds h with rfl|rfl
  ·exact ak (by decide) (ak (by decide) (ak (by decide) (ak (by decide) h)))
  ·exact ak (by decide) (ak (by decide) (ak (by decide) (ak (by decide) h)))
 rw[lK] at Fm
 rw[←Fm]
 rw[←lK] at Fm
 have hokI:∀i d2,cH d2 w i→ci ⟨ov 2 (rV i) 6 cV w d2 base,[],7+8*i⟩:=fun i d2 h2=>BN (LV _ (by omega)) (by omega) (by unfold rV;split <;> omega) (by omega) fun j hj=>by rw[h2.len] at hj;unfold cV;omega
 obtain⟨ng,hng⟩:∃ng:Nat→Bool,ng=fun i=>(B.take i).any fun b=>decide (bI b<0):=⟨_,rfl⟩
 refine AW.seq (rs hx fun K hK=>?_)
 refine sa ?_
 have hl00:V0.lookup 0=some (prC m nn A B C):=by rw[Fm];exact ak (by decide) (ak (by decide) (ak (by decide) (ak (by decide) N9)))
 refine c1 (sS (t:=3) rfl) ?_
 iterate 2 refine sa ?_
 refine nl hK ?_
 rw[hB]
 refine AW.block (AW.loopW (fun i:Nat=>[(2,.pt 0 0),(4,.pt 1 0),(7,.pt 2 0),(8,dI .i64 w),(9,dB (ng i)),(48,.e (slE au B)),(49,dI .i64 m),(50,dI .i64 i)]) (fun i=>⟨ov 2 (rV i) 6 cV w (mB m nn A B most i) base,[],7+8*i⟩) (fun i=>i≤m) (fun i=>m - i) 0 ?_ (cl _) ?_)
 ·exact wk1 vf (hok:=hokI 0 _ (hSI 0 (cl _))) (hv:=wh (xU 0) (hSI 0 (cl _)) I0 NU) (ht:=by rw[hng];exact bE.cons (bE.cons (bE.cons (bE.cons (bE.cons (bE.cons (bE.cons (bE.cons bE.nil rfl rfl) rfl rfl) rfl rfl) rfl rfl) rfl rfl) rfl rfl) rfl rfl) rfl rfl)
 ·intro i hi
  have xa:=hSI i hi
  have CM:=xa.at (xU i) (vs:=base)
  have nW:=hokI i _ xa
  have tF:∀k ds,base.lookup k=some ds→(ov 2 (rV i) 6 cV w (mB m nn A B most i) base).lookup k=some ds:=fun k ds h=>by
   refine Dk xa ?_ ?_ ?_ ?_ h
   ·rcases N8 k ds h with rfl|rfl <;> decide
   ·intro hi0
    unfold rV
    rw[ah hi0]
    rcases N8 k ds h with rfl|rfl <;> omega
   ·rcases N8 k ds h with rfl|rfl <;> decide
   ·intro j _
    unfold cV
    rcases N8 k ds h with rfl|rfl <;> omega
  obtain⟨V,hV⟩:∃V,V=ov 2 (rV i) 6 cV w (mB m nn A B most i) base:=⟨_,rfl⟩
  rw[←hV] at CM nW tF ⊢
  have hl0:=tF 0 _ N9
  have hnoV:∀k ds,V.lookup k=some ds→ds.all D.noO=true:=by
   rw[hV]
   refine ov_noO fun p hp=>?_
   rw[lK] at hp
   rcases kz.1 hp with rfl|hp
   ·exact AU _
   ·rw[qk.1 hp];rfl
  have hl1:=tF 1 _ fR
  have xQ:=CM.hd
  refine rs hx fun K hK=>?_
  refine sa ?_
  refine nl hK ?_
  refine AW.seq (AW.condS rfl (fun hb=>?_) (fun hb=>?_))
  ·have pC:i<m:=by have:=bA hb;omega
   obtain⟨n,Pu⟩:∃n,n=7+8*i:=⟨_,rfl⟩
   rw[←Pu] at nW ⊢
   have qC:0≤(i:Int)∧(i:Int)<((B.length:Nat):Int):=by omega
   refine AW.skip (AW.seq (AW.block (rs hx fun K hK=>?_)))
   refine sa ?_
   refine s1 (OF qC ct aT) ?_
   refine s1 (d:=dG au B[i]!) (kA (c:=au) (l:=B) (n:=i) (o:=0) aT (by omega) (fV _ _ rfl)) ?_
   refine n1 ?_
   refine sa ?_
   refine z1 ?_
   refine nl hK ?_
   -- rY row
   obtain⟨F0,PN⟩:∃F0,F0=aW (nOf 0) (n+4) w++[dI .i64 (1+nn+i:Nat)]:=⟨_,rfl⟩
   have hFl:F0.length=38:=by rw[PN,cu,bR];rfl
   have hFi:F0.all (D.idsC (n+6))=true:=by rw[PN,lO,iL (by omega)];rfl
   obtain⟨Tm,hTm⟩:∃Tm:List (Nat×D),Tm=[(2,.pt 0 0),(4,.pt 1 0),(7,.pt 2 0),(8,dI .i64 w),(9,dB (ng i)),(48,.e (slE au B)),(49,dI .i64 m),(50,dI .i64 i),(10,dI .i64 i),(11,.pt n 0),(12,.pt (n+5) 0)]:=⟨_,rfl⟩
   refine sj Tm ⟨(n+5,F0)::(n+4,dC ((cW au).f (List.replicate w (nOf 0))))::(n,dC (au.f B[i]!))::V,[],n+6⟩ ?_ ?_
   ·refine dw (DW.split 1 9 (by decide) ?_ ?_)
    ·refine dwg [] [0,1,2,3,4,5,6,7,8,9,10] hx (by kernel_rfl) (by kernel_rfl) (by kernel_rfl) fun K hK=>?_
     dsimp only[d8,mE,mP,List.map]
     refine sa ?_
     refine q1 (sHC (w9 (by omega)) rfl (.inr ⟨show n+1≤n+1+4 by omega,fun j hj=>by have hj:j<n+1:=hj;exact (am (by omega)).trans (am (by omega))⟩)) ?_
     iterate 2 refine sa ?_
     refine c1 (sS (t:=1) rfl) ?_
     refine sa ?_
     rw[show i64.wrap ((1:Int)+(nn:Int))=((1+nn:Nat):Int) from qA (a:=1) (by omega)]
     iterate 2 refine sa ?_
     rw[qA (by omega)]
     refine s1 Ur ?_
     rw[←PN]
     refine a1 (F:=OS) tp ?_
     refine v1 (Pt.all (F:=dC OS)) rfl hFl rfl ?_
     refine .nil (hK _ _ ⟨rfl,?_⟩)
     rw[hTm]
     exact wk1 vf
    ·refine dwg [] [0,9,1,2,3,4,5,6,7,8,10] hx (by kernel_rfl) (by kernel_rfl) (by kernel_rfl) fun K hK=>?_
     dsimp only[d8,mE,mP,List.map]
     refine sa ?_
     refine a1 (F:=OS) tp ?_
     refine q1 (sHC (w9 (by omega)) rfl (.inr ⟨show n+2≤n+2+4 by omega,fun j hj=>by have hj:j<n+2:=hj;exact (am (by omega)).trans (am (by omega))⟩)) ?_
     iterate 2 refine sa ?_
     refine c1 (sS (t:=1) rfl) ?_
     refine sa ?_
     rw[show i64.wrap ((1:Int)+(nn:Int))=((1+nn:Nat):Int) from qA (a:=1) (by omega)]
     iterate 2 refine sa ?_
     rw[qA (by omega)]
     refine s1 Ur ?_
     refine v1 (ys:=aW (nOf 0) (n+5) w++[dI .i64 (1+nn+i:Nat)]) (Pt.all (F:=dC OS)) rfl (by rw[cu,bR];rfl) rfl ?_
     refine .nil (hK _ _ ⟨rfl,?_⟩)
     obtain⟨σ,hσ⟩:∃σ:Nat→Nat,σ=fun j=>if j=n+5 then n+1 else if j=n+4 then n+5 else if j=n+1 then n+4 else j:=⟨_,rfl⟩
     have s5:σ (n+5)=n+1:=by rw[hσ];exact ai rfl
     have s4:σ (n+4)=n+5:=by rw[hσ];show (if n+4=n+5 then _ else _)=_;rw[ah (by omega),ai rfl]
     have FE:∀j,j<n+1→σ j=j:=fun j hj=>by rw[hσ];show (if j=n+5 then _ else _)=_;rw[ah (by omega),ah (by omega),ah (by omega)]
     have tG:∀a b,a<n+6→b<n+6→σ a=σ b→a=b:=fun a b _ _ h=>by
      rw[hσ] at h
      dsimp only at h
      repeat' split at h
      all_goals omega
     have FQ:2<n:=by omega
     rw[hTm]
     refine Wk.perm σ (by rw[vf];exact cl _) (fun j hj=>by rw[vf] at hj;exact absurd hj (qn _)) tG ?_ (fun k ds h=>?_) (fun k y h=>by simp at h)
     ·refine TmR.cons (TmR.cons (TmR.cons (TmR.cons (TmR.cons (TmR.cons (TmR.cons (TmR.cons (TmR.cons (TmR.cons (TmR.cons TmR.nil ?_ (aA (show n+5<n+6 by omega))) ?_ (aA (show n<n+6 by omega))) rfl rfl) rfl rfl) rfl rfl) rfl rfl) rfl rfl) rfl rfl) ?_ (aA (show 2<n+6 by omega))) ?_ (aA (show 1<n+6 by omega))) ?_ (aA (show 0<n+6 by omega))
      ·show _=some (D.pt (σ (n+5)) 0);rw[s5];rfl
      ·show _=some (D.pt (σ n) 0);rw[FE n (by omega)];rfl
      ·show _=some (D.pt (σ 2) 0);rw[FE 2 (by omega)];rfl
      ·show _=some (D.pt (σ 1) 0);rw[FE 1 (by omega)];rfl
      ·show _=some (D.pt (σ 0) 0);rw[FE 0 (by omega)];rfl
     ·rcases bY h with⟨rfl,rfl⟩|⟨k5,h⟩
      ·refine⟨by omega,?_,hFi,by rw[PN,lO,AT];rfl⟩
       rw[s5,PN,jz,O5,s4]
       exact aa
      rcases bY h with⟨rfl,rfl⟩|⟨k4,h⟩
      ·refine⟨by omega,?_,ep _,AU _⟩
       rw[s4,Lu]
       exact ak (by omega) (ak (by omega) aa)
      rcases bY h with⟨rfl,rfl⟩|⟨kn,h⟩
      ·refine⟨by omega,?_,ep _,AU _⟩
       rw[FE k (by omega),Lu]
       exact ak (by omega) (ak (by omega) (ak (by omega) (ak (by omega) aa)))
      ·have hk:=nW.lt h
       have hki:=(nW.var k ds h).2
       refine⟨by omega,?_,a7.2 fun d hd=>D.idsC_le (show n≤n+6 by omega) (a7.1 hki d hd),hnoV k ds h⟩
       rw[FE k (by omega),map_low (n:=n) (fun j hj=>FE j (by omega)) hki (hnoV k ds h)]
       exact ak (by omega) (ak (by omega) (ak (by omega) (ak (by omega) (ak kn (ak kn h)))))
   ·rw[hTm]
    obtain⟨F1,GI⟩:∃F1,F1=iH cV w i (J4 m nn A B i):=⟨_,rfl⟩
    have hcV:cV i=n+4:=by unfold cV;omega
    have hF1e:F1=aW B[i]! (n+4) w++[dI .i64 (1+nn+i:Nat)]:=by rw[GI];unfold iH;rw[hcV];rfl
    have hF1l:F1.length=38:=by rw[GI];exact tv _ _ _ _
    have hF1i:F1.all (D.idsC (n+6))=true:=by rw[hF1e,lO,iL (by omega)];rfl
    have L0:Pt F0 (0+0+0) (dC (au.f (nOf 0))) (fun ys=>ys++([.ow (n+4) 0 36 w]++[dI .i64 (1+nn+i:Nat)])):=Pt.of [] ([.ow (n+4) 0 36 w]++[dI .i64 (1+nn+i:Nat)]) rfl (by rw[PN];unfold aW;simp only[c0,nd]) fun y=>rfl
    have L1:Pt F1 (0+0+36) [.ow (n+4) 0 36 w] (fun ys=>dC (au.f B[i]!)++ys++[dI .i64 (1+nn+i:Nat)]):=Pt.of (dC (au.f B[i]!)) [dI .i64 (1+nn+i:Nat)] (iI _) (by rw[hF1e];unfold aW;simp only[c0]) fun y=>rfl
    refine rs hx fun K hK=>?_
    refine l1 (Pt.idN _) ?_
    iterate 2 refine sa ?_
    refine t1 (b:=B[i]!) (F2:=F1) L0 (by rw[hF1e];unfold aW;simp only[c0]) ?_
    refine nl hK ?_
    refine AW.seq (rs hx fun K hK=>?_)
    iterate 2 refine sa ?_
    refine c1 (sS (t:=1) rfl) ?_
    refine sa ?_
    refine nl hK ?_
    rw[show List.replicate w (nOf 0)=Cv m nn A i 0 by rw[PX,hw]]
    refine AW.block (AW.loopW (fun k:Nat=>[(2,.pt 0 0),(4,.pt 1 0),(7,.pt 2 0),(8,dI .i64 w),(9,dB (ng i)),(48,.e (slE au B)),(49,dI .i64 m),(50,dI .i64 i),(10,dI .i64 i),(11,.pt n 0),(12,.pt (n+5) 0),(69,dI .i64 nn),(70,dI .i64 k)]) (fun k=>⟨(n+4,dC ((cW au).f (Cv m nn A i k)))::(n+5,F1)::(n,dC (au.f B[i]!))::V,[],n+6⟩) (fun k=>k≤nn) (fun k=>nn - k) 0 ?_ (cl _) ?_)
    ·exact wk1 vf
    ·intro k hk
     have t4:=Tt m nn A i k
     refine rs hx fun K hK=>?_
     refine sa ?_
     refine nl hK ?_
     refine AW.seq (AW.condS rfl (fun hb=>?_) (fun hb=>?_))
     ·have w8:k<nn:=by have:=bA hb;omega
      have hmul:i*nn+nn≤m*nn:=by
       calc i*nn+nn=(i+1)*nn:=by rw[bU];omega
        _≤m*nn:=cG _ pC
      have hmn:m*nn≤2000*2000:=kS hm hn
      have hmi:i64.wrap ((i:Int)*(nn:Int))=((i*nn:Nat):Int):=by rw[←iJ,eQ (by omega) (by omega)]
      have hc3:0≤((i*nn+k:Nat):Int)∧((i*nn+k:Nat):Int)<((A.length:Nat):Int):=by omega
      refine AW.skip (AW.seq (AW.block (rs hx fun K hK=>?_)))
      iterate 2 refine sa ?_
      refine nl hK ?_
      refine rqd [42] hx fun K hK=>?_
      iterate 2 refine sa ?_
      refine c1 L1 ?_
      iterate 2 refine sa ?_
      rw[show i64.wrap ((1:Int)+(k:Int))=((1+k:Nat):Int) from qA (a:=1) (by omega)]
      iterate 2 refine sa ?_
      refine c1 (sS (t:=2) rfl) ?_
      iterate 3 refine sa ?_
      refine c1 (sS (t:=1) rfl) ?_
      refine sa ?_
      rw[hmi]
      iterate 2 refine sa ?_
      rw[qA (by omega)]
      refine s1 (OF hc3 ct aT) ?_
      refine s1 (d:=dG au A[i*nn+k]!) (kA (c:=au) (l:=A) (n:=i*nn+k) (o:=0) aT (by omega) (fV _ _ rfl)) ?_
      refine cq (Jj _) ?_
      refine i1 (i:=1+k) (n:=w) (by omega) ?_
      refine t1 (Pt.el (Cv m nn A i k) (1+k) (by omega)) (Pt.el_set (Cv m nn A i k) (1+k) (by omega) _) ?_
      refine nl hK ?_
      rw[PY w8]
      refine rq hx fun K hK=>?_
      iterate 2 refine sa ?_
      refine nl hK ?_
      rw[bS]
      exact⟨k+1,wk1 vf,w8,by omega⟩
     ·refine AW.exit ?_
      have w8:k=nn:=by have:=de hb;omega
      subst w8
      have hcrow:Cv m k A i k=(J4 m k A B i).c:=rfl
      rw[hcrow]
      obtain⟨U,hU⟩:∃U,U=(n+4,dC ((cW au).f (J4 m k A B i).c))::(n+5,F1)::(n,dC (au.f B[i]!))::V:=⟨_,rfl⟩
      have hU5:U.lookup (n+5)=some F1:=by rw[hU];exact ak (by omega) aa
      have hU4:U.lookup (n+4)=some (dC ((cW au).f (J4 m k A B i).c)):=by rw[hU];exact aa
      have hUn:U.lookup n=some (dC (au.f B[i]!)):=by rw[hU];exact ak (by omega) (ak (by omega) aa)
      have hUV:∀j ds,V.lookup j=some ds→U.lookup j=some ds:=fun j ds h=>by
       have:=nW.lt h
       rw[hU];exact ak (by omega) (ak (by omega) (ak (by omega) h))
      rw[←hU]
      have hli:=xa.len
      have hU2:=hUV _ _ xQ
      refine rsd [] hx fun K hK=>?_
      iterate 4 refine sa ?_
      refine c1 gi ?_
      refine p1 (Pt.all (F:=F1)) hF1l ?_
      refine q1 (litR tok BH tp rfl hF1l) ?_
      obtain⟨W,hW1,hWx,hap⟩:=appRows (U:=(n+6,F1)::U) (lv:=[]) (N:=n+7) (R:=rV i) (ky:=n+6) (w:=w) (C:=cV) (l:=(mB m k A B most i).rows) (fun fk=>ak (by unfold rV;split <;> omega) (hUV _ _ (CM.hR fk))) aa hF1l (by omega)
      rw[hli] at hap
      refine q1 (hap rfl rfl) ?_
      have hW2:W.lookup 2=some (mQ (rV i) 6 w (mB m k A B most i)):=hWx 2 _ (fun _=>by unfold rV;split <;> omega) (by omega) (ak (by omega) hU2)
      iterate 2 refine sa ?_
      refine v1 (ys:=[.gw (n+7) 38 (i+1)]) (gi (R:=rV i) (G:=6) (w:=w) (d:=mB m k A B most i)) rfl rfl rfl ?_
      refine nl hK ?_
      have hrv:rV (i+1)=n+7:=by unfold rV;rw[ah (by omega)];omega
      have R4:(mB m k A B most (i+1)).rows=(mB m k A B most i).rows++[J4 m k A B i]:=by
       show (List.range (i+1)).map _=(List.range i).map _++_
       rw[wz,jz];rfl
      have PL:=hSI (i+1) pC
      have ms:∀j ds,j≠2→(i≠0→j≠rV i)→V.lookup j=some ds→((2,[D.gw (n+7) 38 (i+1)]++(aW (mB m k A B most i).gk 6 w++[dI .i64 (mB m k A B most i).n,dI .i64 (mB m k A B most i).piv,dI .i64 (mB m k A B most i).most]))::W).lookup j=some ds:=fun j ds h2 hr h=>by
       have hj:=nW.lt h
       exact ak h2 (hWx j ds (fun fk=>hr (fun e=>fk (by subst e;rfl))) (by omega) (ak (by omega) (hUV j ds h)))
      have hD1:DAt ((2,[D.gw (n+7) 38 (i+1)]++(aW (mB m k A B most i).gk 6 w++[dI .i64 (mB m k A B most i).n,dI .i64 (mB m k A B most i).piv,dI .i64 (mB m k A B most i).most]))::W) 2 (rV (i+1)) 6 cV w (mB m k A B most (i+1)):=by
       refine⟨?_,fun _=>?_,?_,fun j r hr=>?_,PL.lg,PL.lC⟩
       ·rw[aa]
        have:eU (rV (i+1)) (mB m k A B most (i+1)).rows=.gw (n+7) 38 (i+1):=by
         rw[pM (by rw[R4];simp),hrv,PL.len]
        unfold mQ
        rw[this,c0]
        rfl
       ·rw[hrv,R4,AL,hli,bp]
        refine ak (by omega) (hW1.trans ?_)
        rw[GI]
        unfold fP
        rw[show fP cV w (i+1) []=[] from rfl,sL]
       ·refine ms 6 _ (by decide) (fun h=>by unfold rV;rw[ah h];omega) ?_
        exact CM.hG
       ·have hj:j<i+1:=by have:=(fy.1 hr).1;rw[PL.len] at this;exact this
        rw[R4] at hr
        rcases d6 j i with h|h
        ·rw[Ag (by omega)] at hr
         exact ms (cV j) _ (by unfold cV;omega) (fun h=>by unfold cV rV;rw[ah h];omega) (CM.hC j r hr)
        ·obtain rfl:j=i:=by omega
         rw[qm (by omega),hli,yL] at hr
         injection hr with hr
         subst hr
         rw[hcV]
         exact ak (by omega) (hWx (n+4) _ (fun _=>by unfold rV;split <;> omega) (by omega) (ak (by omega) hU4))
      have hX11:((2,[D.gw (n+7) 38 (i+1)]++(aW (mB m k A B most i).gk 6 w++[dI .i64 (mB m k A B most i).n,dI .i64 (mB m k A B most i).piv,dI .i64 (mB m k A B most i).most]))::W).lookup n=some (dC (au.f B[i]!)):=ak (by omega) (hWx n _ (fun _=>by unfold rV;split <;> omega) (by omega) (ak (by omega) hUn))
      have vE:=wh (vs:=base) (xU (i+1)) PL hD1 fun j ds h2 _ _ _ h=>ms j ds h2 (fun hi0=>by
       unfold rV
       rw[ah hi0]
       rcases N8 j ds h with rfl|rfl <;> omega) (tF j ds h)
      have zU:=hokI (i+1) _ PL
      have hng1:ng (i+1)=(ng i||decide (bI B[i]! <0)):=by
       rw[hng]
       dsimp only
       rw[Ae,List.any_append,vG (show i<B.length by omega)]
       simp
      generalize (2,[D.gw (n+7) 38 (i+1)]++(aW (mB m k A B most i).gk 6 w++[dI .i64 (mB m k A B most i).n,dI .i64 (mB m k A B most i).piv,dI .i64 (mB m k A B most i).most]))::W=X at hX11 vE ⊢
      have Qm:n+8=7+8*(i+1):=by omega
      refine rq hx fun K hK=>?_
      iterate 2 refine sa ?_
      cases IY:ng i with
      |true=>
       rw[IY] at hng1
       iterate 3 refine gn rfl ?_
       refine s1 (d:=dB true) (oG rfl) ?_
       refine sa ?_
       refine nl hK ?_
       refine rq hx fun K hK=>?_
       iterate 2 refine sa ?_
       refine nl hK ?_
       rw[bS]
       refine⟨i+1,?_,pC,by omega⟩
       rw[show ng (i+1)=true from hng1]
       rw[←Qm] at zU ⊢
       exact wk1 vf (hok:=zU) (hv:=vE)
      |false=>
       rw[IY] at hng1
       refine l1g (Pt.idN B[i]!) rfl ?_
       refine cqg (yj _) rfl ?_
       refine ga rfl ?_
       refine s1 (d:=dB (decide (bI B[i]! <0))) (lP rfl) ?_
       refine sa ?_
       refine nl hK ?_
       refine rq hx fun K hK=>?_
       iterate 2 refine sa ?_
       refine nl hK ?_
       rw[bS]
       refine⟨i+1,?_,pC,by omega⟩
       rw[show ng (i+1)=decide (bI B[i]! <0) from hng1]
       rw[←Qm] at zU ⊢
       exact wk1 vf (hok:=zU) (hv:=vE)
  ·refine AW.exit ?_
   have pC:i=m:=by have:=de hb;omega
   subst pC
   rw[Ke] at CM xQ xa
   obtain⟨NN,hNN⟩:∃NN,NN=7+8*i:=⟨_,rfl⟩
   rw[←hNN] at nW ⊢
   have hngm:ng i=B.any fun b=>decide (bI b<0):=by
    rw[hng]
    dsimp only
    rw[gU (by omega)]
   rw[hngm]
   have zT:=QY (C:=C) (most:=most) hA hB hgA hgB
   have CL:rV i<NN:=by unfold rV;split <;> omega
   have hw0:0<w:=by omega
   refine AW.joinE (α:=Dic×List (Nat×List D)) (fun _=>[(2,.pt 0 0),(4,.pt 1 0),(7,.pt 2 0)]) (fun a=>⟨a.2,[],NN⟩) (fun a=>DAt a.2 2 (rV i) 6 cV w a.1∧cH a.1 w i∧a.1.n=(nn:Int)∧a.2.lookup 0=some (prC i nn A B C)∧a.2.lookup 1=some (dC ly)∧ci ⟨a.2,[],NN⟩∧im i nn A B C most=vH nn a.1 C) ?_ ?_
   ·refine rs hx fun K hK=>?_
    refine sa ?_
    refine nl hK ?_
    refine AW.condS rfl (fun nX=>?_) (fun nX=>?_)
    ·have Ff:0<i:=by
      rcases rJ i with e|e
      ·rw[e] at hB
       rw[Ik.1 hB] at nX
       cases nX
      ·exact e
     have hbg:=h_begin (lv:=[]) (N:=NN) CL CM (xU i) xa (by omega) (by omega) Ff hw0 (zT nX)
     have ii:im i nn A B C most=(if (jx (aG i nn A B most)).1≠0 then (⟨0,[],[],[]⟩,0,(jx (aG i nn A B most)).1) else if bI (jx (aG i nn A B most)).2.gk<0 then (⟨2,[],bQ (jx (aG i nn A B most)).2 nn,[]⟩,(jx (aG i nn A B most)).2.piv,0) else vH nn (jx (aG i nn A B most)).2 C):=by
      unfold im
      dsimp only
      rw[ai nX]
     have hSb:=xa.begin Ff hw0
     obtain⟨VB,hVB⟩:∃VB,VB=ov 2 (rV i) 6 cV w (jx (aG i nn A B most)).2 V:=⟨_,rfl⟩
     have hokB:ci ⟨VB,[],NN⟩:=by rw[hVB];exact BN nW (by omega) (by omega) (by omega) fun j hj=>by rw[hSb.1.len] at hj;unfold cV;omega
     have hDb:DAt VB 2 (rV i) 6 cV w (jx (aG i nn A B most)).2:=by rw[hVB];exact hSb.1.at (xU i)
     have hoB:∀k ds,k≤1→V.lookup k=some ds→VB.lookup k=some ds:=fun k ds hk h=>by
      rw[hVB]
      exact Dk hSb.1 (by omega) (fun e=>by unfold rV;rw[ah e];omega) (by omega) (fun j _=>by unfold cV;omega) h
     have HX:=hoB 0 _ (by decide) hl0
     have SX:=hoB 1 _ (by decide) hl1
     rw[←hVB] at hbg
     have hBd:=hDb.hd
     clear hVB
     refine AW.seq (rs hx fun K hK=>?_)
     refine sa ?_
     refine q1 (sHC hbg rfl (.inl (by kernel_rfl))) ?_
     refine sa ?_
     refine nl hK ?_
     refine rs hx fun K hK=>?_
     iterate 2 refine sa ?_
     refine nl hK ?_
     refine AW.condS rfl (fun hb=>?_) (fun hb=>?_)
     ·rw[ai (by simpa using hb)] at ii
      refine rs hx fun K hK=>?_
      refine s2 (dT tbI) (wx i) ?_
      refine sa ?_
      refine v1 (ys:=qj i ⟨0,[],[],[]⟩) (Pt.all (F:=dC ly)) rfl rfl rfl ?_
      iterate 2 refine sa ?_
      refine nl hK ?_
      exact AW.ret (rtS vf ii aa (fun e=>by cases e) (by omega))
     ·rw[ah (by simpa using hb)] at ii
      refine AW.skip (rs hx fun K hK=>?_)
      iterate 4 refine sa ?_
      refine l1 mh.pk ?_
      refine cq (yj _) ?_
      refine sa ?_
      refine nl hK ?_
      refine AW.condS rfl (fun hb=>?_) (fun hb=>?_)
      ·rw[ai (bA hb)] at ii
       have IX:(bQ (jx (aG i nn A B most)).2 nn).length=i:=by
        unfold bQ
        rw[bh,eV,hSb.1.lg]
        omega
       have LU:=PH (lv:=[]) (N:=NN) hDb hSb.2 (by omega) (by omega) (by rw[IX];exact Ff)
       obtain⟨pr,hpr2⟩:∃pr,pr=bQ (jx (aG i nn A B most)).2 nn:=⟨_,rfl⟩
       rw[←hpr2] at LU IX ii
       obtain⟨F2,Ob⟩:∃F2,F2=qj i ⟨2,[],pr,[]⟩:=⟨_,rfl⟩
       have hle:D.le (.ag [dI .i64 2,dN,.gw NN 36 pr.length,dN]) (.ag F2):=by
        rw[Ob,hNN]
        exact su ⟨.inl rfl,.inr (.inr ⟨rfl,36,by decide,rfl⟩),.inl rfl,.inr (.inr ⟨rfl,36,by decide,rfl⟩),trivial⟩
       have hF2i:F2.all (D.idsC (NN+1))=true:=by
        rw[Ob]
        unfold qj
        rw[ai rfl,←hNN]
        simp only[iK,kQ,fM,cj]
        exact⟨rfl,rfl,aA (show NN<NN+1 by omega),rfl⟩
       have FY:F2.length=4:=by rw[Ob];rfl
       refine sj [(4,.pt 1 0),(5,dI .i64 (jx (aG i nn A B most)).2.piv),(6,dI .i64 0)] ⟨(1,F2)::(NN,dC ((cW au).f pr))::VB,[],NN+1⟩ ?_ ?_
       ·refine dw (DW.split 1 6 (by decide) ?_ ?_)
        ·refine DW.split 6 7 (by decide) ?_ ?_
         ·refine dwg [] [0,1,2,3,4,5,6,7,8,9] hx (by kernel_rfl) (by kernel_rfl) (by kernel_rfl) fun K hK=>?_
          dsimp only[d8,mE,mP,List.map]
          refine sa ?_
          refine q1 (sHC LU rfl (.inl (by kernel_rfl))) ?_
          refine s2 (dT tbI) hle ?_
          refine sa ?_
          refine sa ?_
          refine sa ?_
          refine c1 og ?_
          refine v1 (ys:=F2) (Pt.all (F:=dC ly)) rfl FY rfl ?_
          refine sa ?_
          refine sa ?_
          refine .nil (hK _ _ ⟨rfl,wk1 vf⟩)
         ·refine dwg [] [0,1,2,7,3,4,5,6,8,9] hx (by kernel_rfl) (by kernel_rfl) (by kernel_rfl) fun K hK=>?_
          dsimp only[d8,mE,mP,List.map]
          refine sa ?_
          refine q1 (sHC LU rfl (.inl (by kernel_rfl))) ?_
          refine s2 (dT tbI) hle ?_
          refine v1 (ys:=F2) (Pt.all (F:=dC ly)) rfl FY rfl ?_
          refine sa ?_
          refine sa ?_
          refine sa ?_
          refine c1 og ?_
          refine sa ?_
          refine sa ?_
          refine .nil (hK _ _ ⟨rfl,wk1 vf⟩)
        ·refine dwg [] [3,4,5,6,0,1,2,7,8,9] hx (by kernel_rfl) (by kernel_rfl) (by kernel_rfl) fun K hK=>?_
         dsimp only[d8,mE,mP,List.map]
         refine sa ?_
         refine sa ?_
         refine sa ?_
         refine c1 og ?_
         refine sa ?_
         refine q1 (sHC LU rfl (.inl (by kernel_rfl))) ?_
         refine s2 (dT tbI) hle ?_
         refine v1 (ys:=F2) (Pt.all (F:=dC ly)) rfl FY rfl ?_
         refine sa ?_
         refine sa ?_
         refine .nil (hK _ _ ⟨rfl,wk1 vf⟩)
       ·exact AW.ret (rtS vf ii (by rw[←Ob];exact aa) (fun _=>⟨by rw[←hNN];exact ak (by omega) aa,by omega⟩) (by omega))
      ·rw[ah (de hb)] at ii
       exact AW.skip (⟨((jx (aG i nn A B most)).2,VB),⟨hDb,hSb.1,hSb.2,HX,SX,hokB,ii⟩,wk1 vf⟩)
    ·refine AW.skip ?_
     have ii:im i nn A B C most=vH nn (aG i nn A B most) C:=by
      unfold im
      dsimp only
      rw[ah (by rw[nX];simp)]
     exact⟨(aG i nn A B most,V),⟨CM,xa,rfl,hl0,hl1,nW,ii⟩,wk1 vf⟩
   ·rintro⟨d2,X⟩ ⟨hD2,hS2,FQ,Fb,GB,hokX,ii⟩
    dsimp only at hD2 hS2 FQ Fb GB hokX ii ⊢
    have haim:=h_aim (lv:=[]) (N:=NN) (c:=C) CL hD2 (xU i) hS2 (by omega) (by omega) hw0 (by omega)
    have hSA:=hS2.aim C
    have hfA:Dif i 2 (rV i) (NN+3) cV:=⟨(xU i).dR,by omega,by omega,fun j hj=>⟨((xU i).C1 j hj).1,((xU i).C1 j hj).2.1,by unfold cV;omega⟩,(xU i).C2⟩
    obtain⟨VA,hVA⟩:∃VA,VA=ov 2 (rV i) (NN+3) cV w (mC d2 C).2 X:=⟨_,rfl⟩
    have FP:ci ⟨VA,[],NN+4⟩:=by rw[hVA];exact BN (hokX.up (by omega)) (by omega) (by omega) (by omega) fun j hj=>by rw[hSA.1.len] at hj;unfold cV;omega
    have hDA:DAt VA 2 (rV i) (NN+3) cV w (mC d2 C).2:=by rw[hVA];exact hSA.1.at hfA
    have hoA:∀{W:List (Nat×List D)} {e:Dic},cH e w i→∀k ds,k≤1→W.lookup k=some ds→(ov 2 (rV i) (NN+3) cV w e W).lookup k=some ds:=fun {W e} hSe k ds hk h=>
     Dk hSe (by omega) (fun e=>by unfold rV;rw[ah e];omega) (by omega) (fun j _=>by unfold cV;omega) h
    have hA1:VA.lookup 1=some (dC ly):=by rw[hVA];exact hoA hSA.1 1 _ (by decide) GB
    rw[←hVA] at haim
    clear hVA
    refine AW.seq (rs hx fun K hK=>?_)
    iterate 2 refine sa ?_
    refine c1 (sS (t:=4) rfl) ?_
    refine q1 (sHC haim rfl (.inl (by kernel_rfl))) ?_
    refine sa ?_
    refine nl hK ?_
    refine rs hx fun K hK=>?_
    iterate 2 refine sa ?_
    refine nl hK ?_
    refine AW.condS rfl (fun hb=>?_) (fun hb=>?_)
    ·have ii:=ii.trans (endP_1 (by simpa using hb))
     refine rs hx fun K hK=>?_
     refine s2 (dT tbI) (wx i) ?_
     refine sa ?_
     refine v1 (ys:=qj i ⟨0,[],[],[]⟩) (Pt.all (F:=dC ly)) rfl rfl rfl ?_
     iterate 2 refine sa ?_
     refine nl hK ?_
     exact AW.ret (rtS vf ii aa (fun e=>by cases e) (by omega))
    have fR:¬(mC d2 C).1≠0:=by simpa using hb
    clear hb
    refine AW.skip ?_
    have himp:=GG (lv:=[]) (N:=NN+4) (show rV i<NN+4 by omega) hDA hfA hSA.1 (by omega) (by omega)
    have DT:=hSA.1.improveP
    obtain⟨VI,hVI⟩:∃VI,VI=ov 2 (rV i) (NN+3) cV w (aP (mC d2 C).2).2 VA:=⟨_,rfl⟩
    have hokVI:ci ⟨VI,[],NN+4⟩:=by rw[hVI];exact BN FP (by omega) (by omega) (by omega) fun j hj=>by rw[DT.1.len] at hj;unfold cV;omega
    have hDI:DAt VI 2 (rV i) (NN+3) cV w (aP (mC d2 C).2).2:=by rw[hVI];exact DT.1.at hfA
    have hI1:VI.lookup 1=some (dC ly):=by rw[hVI];exact hoA DT.1 1 _ (by decide) hA1
    rw[←hVI] at himp
    clear hVI
    have BZ:=fR
    have R2:im i nn A B C most=vH nn d2 C:=ii
    have hnF:(aP (mC d2 C).2).2.n=(nn:Int):=by rw[DT.2.2.1,hSA.2,FQ]
    have hgc:(aP (mC d2 C).2).2.gc.length=w:=DT.1.lg
    obtain⟨hs1,K9⟩:=DT.2.2.2
    obtain⟨q,hq⟩:∃q,q=aP (mC d2 C).2:=⟨_,rfl⟩
    have hE2:=fun h2=>R2.trans (endP_2 fR h2)
    have hE3:=fun h2 h3=>R2.trans (endP_3 fR h2 h3)
    have hE4:=fun h2 (s:Nat) h3=>R2.trans (endP_4 (s:=s) fR h2 h3)
    rw[←hq] at himp DT hDI hnF hgc hs1 K9 hE2 hE3 hE4
    clear hq
    refine rs hx fun K hK=>?_
    refine sa ?_
    refine q1 (sHC himp rfl (.inl (by kernel_rfl))) ?_
    iterate 3 refine sa ?_
    refine a1 (F:=[.lit (.int .i64 0)]) tbI ?_
    refine v1 (F2:=[dI .i64 q.1.1]) (ys:=[dI .i64 q.1.1]) (Pt.all (F:=dC [.lit (.int .i64 0)])) rfl rfl rfl ?_
    refine sa ?_
    refine nl hK ?_
    obtain⟨W,hW⟩:∃W,W=(NN+4,[dI .i64 q.1.1])::(NN+4,dC [.lit (.int .i64 0)])::VI:=⟨_,rfl⟩
    have hWx:∀k ds,VI.lookup k=some ds→W.lookup k=some ds:=fun k ds h=>by
     have:=hokVI.lt h
     rw[hW];exact ak (by omega) (ak (by omega) h)
    have hWs:W.lookup (NN+4)=some [dI .i64 q.1.1]:=by rw[hW];exact aa
    have hokW:ci ⟨W,[],NN+5⟩:=by
     rw[hW]
     exact ((hokVI.up (by omega)).consM (by omega) (ep _)).consM (by omega) rfl
    have hDW:=hDI.up hWx
    have hW1:=hWx 1 _ hI1
    have hWd:=hDW.hd
    rw[←hW]
    clear hW
    refine AW.seq (rs hx fun K hK=>?_)
    iterate 2 refine sa ?_
    refine nl hK ?_
    refine AW.condS rfl (fun hb=>?_) (fun hb=>?_)
    ·have ii:=hE2 (by simpa using hb)
     refine rs hx fun K hK=>?_
     refine s2 (dT tbI) (wx i) ?_
     refine sa ?_
     refine v1 (ys:=qj i ⟨0,[],[],[]⟩) (Pt.all (F:=dC ly)) rfl rfl rfl ?_
     iterate 2 refine sa ?_
     refine nl hK ?_
     exact AW.ret (rtS vf ii aa (fun e=>by cases e) (by omega))
    have fQ:¬q.1.2≠0:=by simpa using hb
    clear hb
    refine AW.skip ?_
    have wl:=HC.conv (ds:=[.pt 2 0,.e (.lit (.func (.func 48) #[] #[])),.e (.lit (.func (.func 49) #[] #[]))]) (ds':=[.pt 2 0,.fn 48 [],.fn 49 []]) rfl (fun g w' j a b v ha hb hr=>by
      match j with
      |0=>injection ha with ha;injection hb with hb;subst ha hb;exact hr
      |1=>injection ha with ha;injection hb with hb;subst ha hb;exact NA hr
      |2=>injection ha with ha;injection hb with hb;subst ha hb;exact NA hr
      |j+3=>cases ha)
     (JY (lv:=[]) (N:=NN+5) (fo:=48) (ft:=49) (ko:=[]) (kt:=[]) (of:=Row.k) (ot:=fun _=>0) hDW DT.1 (by omega) hnF (by omega) (fun k hk=>absurd hk ql) (fun k hk=>absurd hk ql) (fun _=>by omega) (fun V2 Fa M j _ _=>ST) (fun V2 Fa M v _=>SS v))
    refine rs hx fun K hK=>?_
    refine sa ?_
    refine q1 (sHC wl rfl (.inl (by kernel_rfl))) ?_
    refine sa ?_
    refine nl hK ?_
    refine AW.seq (rs hx fun K hK=>?_)
    refine c1 (Pt.all (F:=[dI .i64 q.1.1])) ?_
    refine sa ?_
    refine nl hK ?_
    refine AW.condS rfl (fun hb=>?_) (fun hb=>?_)
    ·have ii:=hE3 fQ (bA hb)
     have LU:=SN (lv:=[]) (N:=NN+5) (nn:=nn) hDW hnF (by omega) (by omega)
     obtain⟨F2,Ob⟩:∃F2,F2=qj i ⟨1,cJ q.2.rows nn Row.k fun _=>nOf 0,bQ q.2 nn,[]⟩:=⟨_,rfl⟩
     have hle:D.le (.ag [dI .i64 1,.e (slE au (cJ q.2.rows nn Row.k fun _=>nOf 0)),.e (slE au (bQ q.2 nn)),dN]) (.ag F2):=by
      rw[Ob]
      exact su ⟨.inl rfl,.inl rfl,.inl rfl,.inr (.inr ⟨rfl,36,by decide,rfl⟩),trivial⟩
     have hF2i:F2.all (D.idsC (NN+5))=true:=by rw[Ob];rfl
     have FY:F2.length=4:=by rw[Ob];rfl
     refine sj [(4,.pt 1 0),(5,dI .i64 q.2.piv),(6,dI .i64 0)] ⟨(1,F2)::W,[],NN+5⟩ ?_ ?_
     ·refine dw (DW.split 2 7 (by decide) ?_ ?_)
      ·refine DW.split 7 8 (by decide) ?_ ?_
       ·refine dwg [] [0,1,2,3,4,5,6,7,8,9,10] hx (by kernel_rfl) (by kernel_rfl) (by kernel_rfl) fun K hK=>?_
        dsimp only[d8,mE,mP,List.map]
        refine sa ?_
        refine sa ?_
        refine q1 (sHC LU rfl (.inl (by kernel_rfl))) ?_
        refine s2 (dT tbI) hle ?_
        refine sa ?_
        refine sa ?_
        refine sa ?_
        refine c1 og ?_
        refine v1 (ys:=F2) (Pt.all (F:=dC ly)) rfl FY rfl ?_
        refine sa ?_
        refine sa ?_
        refine .nil (hK _ _ ⟨rfl,wk1 vf⟩)
       ·refine dwg [] [0,1,2,3,8,4,5,6,7,9,10] hx (by kernel_rfl) (by kernel_rfl) (by kernel_rfl) fun K hK=>?_
        dsimp only[d8,mE,mP,List.map]
        refine sa ?_
        refine sa ?_
        refine q1 (sHC LU rfl (.inl (by kernel_rfl))) ?_
        refine s2 (dT tbI) hle ?_
        refine v1 (ys:=F2) (Pt.all (F:=dC ly)) rfl FY rfl ?_
        refine sa ?_
        refine sa ?_
        refine sa ?_
        refine c1 og ?_
        refine sa ?_
        refine sa ?_
        refine .nil (hK _ _ ⟨rfl,wk1 vf⟩)
      ·refine dwg [] [4,5,6,7,0,1,2,3,8,9,10] hx (by kernel_rfl) (by kernel_rfl) (by kernel_rfl) fun K hK=>?_
       dsimp only[d8,mE,mP,List.map]
       refine sa ?_
       refine sa ?_
       refine sa ?_
       refine c1 og ?_
       refine sa ?_
       refine sa ?_
       refine q1 (sHC LU rfl (.inl (by kernel_rfl))) ?_
       refine s2 (dT tbI) hle ?_
       refine v1 (ys:=F2) (Pt.all (F:=dC ly)) rfl FY rfl ?_
       refine sa ?_
       refine sa ?_
       refine .nil (hK _ _ ⟨rfl,wk1 vf⟩)
     ·exact AW.ret (rtS vf ii (by rw[←Ob];exact aa) (fun e=>by cases e) (by omega))
    have vd:¬q.1.1<0:=de hb
    clear hb
    obtain⟨s,hs⟩:∃s:Nat,q.1.1=(s:Int):=⟨q.1.1.toNat,by omega⟩
    have ii:=hE4 fQ s hs
    rw[hs] at hWs
    have hsw:s<w:=by omega
    refine AW.skip ?_
    have hval2:=JY (lv:=[]) (N:=NN+5) (fo:=50) (ft:=51) (ko:=[NN+4]) (kt:=[NN+4]) (of:=fun r=>r.c[s]!) (ot:=fun v=>if (v:Int)=(s:Int) then 1 else 0) hDW DT.1 (by omega) hnF (by omega) (fun k hk=>by rw[qk.1 hk];omega) (fun k hk=>by rw[qk.1 hk];omega) (fun v=>by split <;> omega)
     (fun V2 Fa M j FX hj=>SR (FX _ _ hWs) (FX _ _ (hDW.hC j _ (vG (by rw[DT.1.len];exact hj)))) (hDW.lC j _ (vG (by rw[DT.1.len];exact hj))) hsw) (fun V2 Fa M v FX=>SQ v (FX _ _ hWs))
    refine rs hx fun K hK=>?_
    refine sa ?_
    refine s1 ES ?_
    refine s1 ES ?_
    refine q1 (sHC hval2 rfl (.inl (by kernel_rfl))) ?_
    refine sa ?_
    refine nl hK ?_
    obtain⟨F2,Ob⟩:∃F2,F2=qj i ⟨3,cJ q.2.rows nn Row.k fun _=>nOf 0,[],cJ q.2.rows nn (fun r=>r.c[s]!) fun v=>nOf (if (v:Int)=(s:Int) then 1 else 0)⟩:=⟨_,rfl⟩
    have hle:D.le (.ag [dI .i64 3,.e (slE au (cJ q.2.rows nn Row.k fun _=>nOf 0)),dN,.e (slE au (cJ q.2.rows nn (fun r=>r.c[s]!) fun v=>nOf (if (v:Int)=(s:Int) then 1 else 0)))]) (.ag F2):=by
     rw[Ob]
     exact su ⟨.inl rfl,.inl rfl,.inr (.inr ⟨rfl,36,by decide,rfl⟩),.inl rfl,trivial⟩
    have hF2i:F2.all (D.idsC (NN+5))=true:=by rw[Ob];rfl
    have FY:F2.length=4:=by rw[Ob];rfl
    refine sj [(4,.pt 1 0),(5,dI .i64 q.2.piv),(6,dI .i64 0)] ⟨(1,F2)::W,[],NN+5⟩ ?_ ?_
    ·refine dw (DW.split 6 7 (by decide) ?_ ?_)
     ·refine dwg [] [0,1,2,3,4,5,6,7,8,9] hx (by kernel_rfl) (by kernel_rfl) (by kernel_rfl) fun K hK=>?_
      dsimp only[d8,mE,mP,List.map]
      refine sa ?_
      refine sa ?_
      refine s2 (dT tbI) hle ?_
      refine sa ?_
      refine sa ?_
      refine sa ?_
      refine c1 og ?_
      refine v1 (ys:=F2) (Pt.all (F:=dC ly)) rfl FY rfl ?_
      refine sa ?_
      refine sa ?_
      refine .nil (hK _ _ ⟨rfl,wk1 vf⟩)
     ·refine dwg [] [0,1,2,7,3,4,5,6,8,9] hx (by kernel_rfl) (by kernel_rfl) (by kernel_rfl) fun K hK=>?_
      dsimp only[d8,mE,mP,List.map]
      refine sa ?_
      refine sa ?_
      refine s2 (dT tbI) hle ?_
      refine v1 (ys:=F2) (Pt.all (F:=dC ly)) rfl FY rfl ?_
      refine sa ?_
      refine sa ?_
      refine sa ?_
      refine c1 og ?_
      refine sa ?_
      refine sa ?_
      refine .nil (hK _ _ ⟨rfl,wk1 vf⟩)
    ·exact AW.ret (rtS vf ii (by rw[←Ob];exact aa) (fun e=>by cases e) (by omega))
end
end
section
theorem AR.tu {hp:Hp}{ds es:List D}(h:ARs hp ds es):AR hp (.tu ds) (.tu es):=by
 intro B g w v hr hd
 obtain⟨h1,h2⟩:=h.get
 cases hd with
 |tu _ cs hl LT=>
  refine aE.tu es cs (by omega) fun j e u hj hu=>?_
  obtain⟨d,h3,h4⟩:=h2 j e hj
  exact h4 B g w u hr (LT j d u h3 hu)
theorem HC.toP {P:Program}{f:FuncId}{ds rs:List D}{d:D}{hp':Hp}(hc:HC P f ds ⟨[],[],0⟩ d hp')(ha:AR hp' d (.tu rs)):ar P f ds (.tu rs):=by
 refine⟨hc.1,fun w F vs hF hsz cM=>?_⟩
 have hr:HR w.heap.size ⟨[],[],0⟩ ⟨fun _=>0,fun _=>default,F⟩ w:=
  ⟨fun k ds h=>by simp at h,fun k k' a b h=>by simp at h,fun id n e h=>by simp at h,fun id Be a b c h=>by simp at h,ay _,hF⟩
 refine (hc.2 w.heap.size _ w vs hr hsz cM).mono ?_
 rintro e w' ⟨v,g',rfl,pB,_,hd,hb,hfx⟩
 refine⟨v,rfl,(ha _ g' w' v pB hd).less fun p hp=>⟨hfx p (hF p hp) hp,fun k ds hk he=>?_⟩,hb⟩
 have h1:=(pB.var k ds hk).2.1
 have h2:=hF p hp
 omega
def mkNu(x:ao)(h:okR x):Nu:=⟨x,h⟩
open Classical in
def nU(x:ao):Nu:=if h:okR x then mkNu x h else default
theorem nv_nuOf {x:ao}(h:okR x):nv (nU x)=x:=by unfold nU;rw[dif_pos h];rfl
theorem nuOf_nv(x:Nu):nU (nv x)=x:=by unfold nU;rw[dif_pos (show okR (nv x) from x.2)];rfl
def okL(l:List ao):Prop:=∀x∈l,okR x
theorem tx {l:List ao}(h:okL l):(l.map nU).map nv=l:=by
 rw[pZ]
 exact (rQ fun x hx=>nv_nuOf (h x hx)).trans (Em _)
theorem Dp(l:List Nu):okL (l.map nv):=fun x hx=>by
 obtain⟨a,_,rfl⟩:=tQ.1 hx
 exact a.2
theorem qg(l:List Nu):(l.map nv).map nU=l:=by
 rw[pZ]
 exact (rQ fun x _=>nuOf_nv x).trans (Em _)
structure VP(p:bm)(m nn:Nat):Prop where
 hr:p.vA.vR=m
 hc:p.vA.vC=nn
 hm:m≤2000
 hn:nn≤2000
 oA:okL p.vA.vV
 oB:okL p.vB
 oC:okL p.vC
 lA:p.vA.vV.length=m*nn
 lB:p.vB.length=m
 lC:p.vC.length=nn
 gA:∀i,i<(p.vA.vV.map nU).length→aw (p.vA.vV.map nU)[i]! =true
 gB:∀i,i<(p.vB.map nU).length→aw (p.vB.map nU)[i]! =true
 gC:∀i,i<(p.vC.map nU).length→aw (p.vC.map nU)[i]! =true
def r6(r:Ans×Int×Int):cC×Int×Int:=(⟨r.1.kind,r.1.x.map nv,r.1.y.map nv,r.1.ray.map nv⟩,r.2.1,r.2.2)
open Classical in
def iS(nT:bm)(kH:Int):Option (cC×Int×Int):=
 bnd (gN nT) fun v=>if v=true∧0≤kH then
  if VP nT nT.vA.vR.toNat nT.vA.vC.toNat∧kH≤9223372036854775807 then some (r6 (im nT.vA.vR.toNat nT.vA.vC.toNat (nT.vA.vV.map nU) (nT.vB.map nU) (nT.vC.map nU) kH)) else none
 else some (r6 (⟨0,[],[],[]⟩,0,1))
theorem VP.cells {p:bm}{m nn:Nat}(h:VP p m nn):dG dY p=.ag (prC m nn (p.vA.vV.map nU) (p.vB.map nU) (p.vC.map nU)):=by
 unfold prC
 rw[kF,kF,kF,tx h.oA,tx h.oB,tx h.oC,←h.hr,←h.hc]
 rfl
theorem AR.dn {hp:Hp}{e:E}(h:(D.e e).pure=true):AR hp (.e e) (.e e):=AR.data (d:=.e e) h
theorem AR.same {hp:Hp}{d:D}(h:d.pure=true):AR hp d d:=by
 have h2:=AR.data (hp:=hp) (d:=d) (by rw[CE h];exact h)
 rwa[CE h] at h2
theorem TW(m:Nat)(r:Ans×Int×Int):AR (FD m r) (Ln m r) (.tu [dG jZ (r6 r).1,dI .i64 (r6 r).2.1,dI .i64 (r6 r).2.2]):=by
 have hA:AR (FD m r) (.ag (qj m r.1)) (dG jZ (r6 r).1):=by
  have e:dG jZ (r6 r).1=.ag [dI .i64 r.1.kind,.e (slE au r.1.x),.e (slE au r.1.y),.e (slE au r.1.ray)]:=by
   rw[kF,kF,kF];rfl
  rw[e]
  refine AR.ag ⟨AR.dn rfl,AR.dn rfl,?_,AR.dn rfl,trivial⟩
  by_cases hk:r.1.kind=2
  ·rw[ai hk]
   refine AR.gw (F:=(cW au).f r.1.y) ?_ (by decide) ?_
   ·unfold FD
    rw[ai hk]
    exact ak (by omega) aa
   ·exact ib au.f au.h r.1.y
  ·rw[ah hk]
   exact AR.dn rfl
 exact AR.tu ⟨hA,AR.dn rfl,AR.dn rfl,trivial⟩
theorem SP {cs:List D}{v:Bool}{most:Int}(hlen:cs.length=5)(hpu:(D.ag cs).pure=true)(hv:ar prog 15 [.ag cs] (dB v))(hbad:¬(v=true∧0≤most)):
  HC prog 12 [.ag cs,dI .i64 most] ⟨[],[],0⟩ (Ln 0 (⟨0,[],[],[]⟩,0,1)) (FD 0 (⟨0,[],[],[]⟩,0,1)):=by
 refine HC.of (rs:=[.cell 4 29,.tmp 5,.tmp 6]) tok func12 rfl rfl (bc rfl) rfl (fun cx hx vf hok=>?_)
 simp only[fj,Nat.reduceAdd,bp]
 refine rs hx fun K hK=>?_
 refine s1 (gF (cs:=cs)) ?_
 refine a1 (F:=ly) tbI ?_
 iterate 2 refine sa ?_
 refine nl hK ?_
 refine AW.seq (rs hx fun K hK=>?_)
 refine p1 (ht:=uZ) (Pt.all (F:=cs)) hlen ?_
 refine q1 (sHC (HC.frz (ds:=[.ag cs]) hv ⟨AR.same hpu,trivial⟩ rfl) rfl (.inr (Fr.refl _))) ?_
 iterate 2 refine sa ?_
 cases v with
 |false=>
  iterate 2 refine gn rfl ?_
  refine s1 (d:=dB true) (oG rfl) ?_
  refine nl hK ?_
  refine AW.condT rfl rfl (rs hx fun K hK=>?_)
  refine s2 (dT tbI) (wx 0) ?_
  refine v1 (ys:=qj 0 ⟨0,[],[],[]⟩) (Pt.all (F:=dC ly)) rfl rfl rfl ?_
  iterate 2 refine sa ?_
  refine nl hK ?_
  exact AW.ret (rtS vf rfl aa (fun e=>by cases e) (by omega))
 |true=>
  iterate 2 refine ga rfl ?_
  refine s1 (d:=dB (decide (most<0))) (lP rfl) ?_
  refine nl hK ?_
  refine AW.condT rfl (aA (by simp only[true_and] at hbad;omega)) (rs hx fun K hK=>?_)
  refine s2 (dT tbI) (wx 0) ?_
  refine v1 (ys:=qj 0 ⟨0,[],[],[]⟩) (Pt.all (F:=dC ly)) rfl rfl rfl ?_
  iterate 2 refine sa ?_
  refine nl hK ?_
  exact AW.ret (rtS vf rfl aa (fun e=>by cases e) (by omega))
theorem uV {nT:bm}{kH:Int}{r:cC×Int×Int}(h:iS nT kH=some r):ar prog 12 [dG dY nT,dI .i64 kH] (.tu [dG jZ r.1,dI .i64 r.2.1,dI .i64 r.2.2]):=by
 unfold iS at h
 obtain⟨v,hv,h⟩:=ae h
 have hv:=qc hv
 by_cases hg:v=true∧0≤kH
 ·rw[ai hg] at h
  by_cases hq:VP nT nT.vA.vR.toNat nT.vA.vC.toNat∧kH≤9223372036854775807
  ·rw[ai hq] at h
   have h:=bB h
   subst h
   obtain⟨hq,DH⟩:=hq
   rw[hg.1] at hv
   rw[hq.cells] at hv ⊢
   have h2:=Oa (most:=kH) hv hq.hm hq.hn (by rw[bh];exact hq.lA) (by rw[bh];exact hq.lB) (by rw[bh];exact hq.lC) hq.gA hq.gB hq.gC hg.2 DH
   exact HC.toP h2 (TW _ _)
  ·rw[ah hq] at h;cases h
 ·rw[ah hg] at h
  have h:=bB h
  subst h
  have h2:=SP (cs:=dC (dY.f nT)) ((er _).trans (dY.h nT)) (kG dY nT) hv hg
  exact HC.toP h2 (TW _ _)
end
theorem oM:El prog 22 43 (.agg #[.bool false,.bool false,aj,aj,aj,aj,aj,aj,aj,aj,aj,aj,aj,aj,aj,aj,aj,aj,.bool false,.bool false,aj,aj,aj,aj,aj,aj,aj,aj,aj,aj,aj,aj,aj,aj,aj,aj]) 36 136:=⟨underlying22,info_parts (by kernel_rfl),rfl,by decide⟩
theorem oI(n:Nat)(us:List Value)(v:Value)(w:World)(hl:Sl w v 36 n us)(h1:∀u∈us,u.oneCell'=true)(hn:n≤1000000):
  Calls prog 138 #[v] w fun e w'=>∃q,e=.returned q∧w'.ownsRow w.heap.size 43 36 q n us∧Below w.heap.size w w':=by
 obtain⟨A,c,rfl,p9,oR,hr⟩:=id hl
 cases A with
 |none=>
  obtain rfl:n=0:=by
   rcases rJ n with h|h
   ·exact h
   ·obtain⟨_,h,_⟩:=hr.2 h;cases h
  obtain rfl:us=[]:=r7 (by simpa using hr.1)
  have he:(binOp .eql 22 (.slice none 0 c) (.slice none 0 0)).run prog w=.ok (.bool true) w:=by kernel_rfl
  go_enter func138,ntmps138
  go_wp2_with fail
  go_ret
  exact⟨_,rfl,⟨rfl,.inl ⟨rfl,rfl⟩⟩,Below.refl _ _⟩
 |some ad=>
  have he:(binOp .eql 22 (.slice (some ad) n c) (.slice none 0 0)).run prog w=.ok (.bool false) w:=by kernel_rfl
  go_enter func138,ntmps138
  have hown0:=own_mtG w 43 w.heap.size 36 (ay _)
  have HX:=(Below.refl w.heap.size w).alloc (ay _) (.cells #[] 43)
  have Fg:=hl.below HX
  have HL:=Lib.hid Fg
  have H1:=Lib.hid h1
  clear hl hr Fg h1
  go_wp2_with (at_builtin;refine zc _ rfl _ _ _ rfl oM w.heap.size _ _ _ rfl hown0 _ _ _ rfl HL.out H1.out (by omega) (by omega) (by simp) w w.heap.size HX (ay _) ?_)
  intro v' w' lx hb
  go_wp2_with fail
  go_ret
  refine⟨_,rfl,?_,hb⟩
  simpa using lx
theorem oJ(n:Nat)(xs:List E)(hn:n≤1000000):ar prog 138 [.e (.sl 36 n xs)] (.own 43 36 n xs):=
 TG (by decide) ⟨_,func138,rfl,rfl⟩ (fun us v w h1 h2=>oI n us v w h1 h2 hn)
def fG(l:List ao):Option (List ao):=gd (l.length≤1000000) (some l)
theorem oW {l r:List ao}(h:fG l=some r):ar prog 138 [dL al l] (.own 43 al.sz r.length (r.flatMap al.f)):=by
 obtain⟨hn,h⟩:=az h
 obtain rfl:=bB h
 exact oJ _ _ hn
def eM(ek:List ao):(List ao)×Int→Option (((List ao)×Int)⊕((List ao))):=fun (aN,bn)=>cnd (decide (bn<((ek).length:Int))) (gd (0≤bn∧bn<((ek).length:Int)) (bnd (mf ((ek)[(bn).toNat]!)) fun x6=>gd ((aN++[x6]).length*136≤140737488355328) (some (.inl (aN++[x6],i64.wrap (bn+(1:Int))))))) (some (.inr aN))
def lL(ek:List ao):Option (List ao):=bnd (fG ek) fun x1=>bnd (bt (eM ek) (x1,(0:Int))) fun a9=>some a9
theorem zd {ek:List ao}{r:List ao}(h:lL ek=some r):ar prog 74 [dL al ek] (.own 43 al.sz r.length (r.flatMap al.f)):=by
 refine bj (rs:=[.tmp 2]) (fun cx hx h0=>?_) func74
 unfold lL at h
 refine rs hx fun K hK=>?_
 refine s1 (d:=dO 0 al ([]:List ao)) (gl ct aT) ?_
 refine nl hK ?_
 refine rs hx fun K hK=>?_
 refine sa ?_
 obtain⟨x1,w7,h⟩:=ae h
 refine s1 (iC rfl (oW w7) rfl (lA (ax _) lAn)) ?_
 refine nbr hK ?_
 refine AW.seq (ra hx ?_)
 refine AW.block ?_
 obtain⟨a9,hy,h⟩:=ae h
 refine lp (S:=(List ao)×Int) (X:=(List ao)) (fun (aN,bn)=>[(3,dO 0 al aN),(8,dL al ek),(9,dI .i64 ((ek).length:Int)),(10,dI .i64 bn)]) (fun (aN,bn)=>⟨[],[(0,(aN).length,36,43)],1⟩) (PE cx (.exit 0) (fun a9=>[(3,dO 0 al a9)]) fun a9=>⟨[],[(0,(a9).length,36,43)],1⟩) hy ?_ ?_ ?_
 exact wk0 h0 [1]
 clear hy h
 rintro⟨aN,bn⟩ y h
 dsimp only[eM] at h
 refine ra hx ?_
 refine AW.seq (cdh h rfl (fun fQ h=>?_) (fun fQ h=>?_))
 refine AW.skip (AW.seq (AW.block (rs hx fun K hK=>?_)))
 obtain⟨N6,h⟩:=az h
 have hn5:(bn).toNat<(ek).length:=by omega
 refine sbr ?_
 refine s1 (d:=dG al ((ek)[(bn).toNat]!)) (kA (c:=al) (l:=ek) (n:=(bn).toNat) (o:=0) aT hn5 (fV _ _ rfl)) ?_
 refine nbr hK ?_
 refine rq hx fun K hK=>?_
 refine mbr ?_
 refine scb h v5 fun x6 h=>?_
 refine s1 (kT ([x6]:List ao) al ct aT) ?_
 obtain⟨hc8,h⟩:=az h
 refine s1 (d:=dO 0 al (aN++[x6])) (rU ct aT hc8) ?_
 refine nbr hK ?_
 refine rb hx ?_
 exact pel h h0 [0]
 exact AW.exit (per h h0 [0])
 refine lw0 ?_
 refine ra hx ?_
 refine AW.ret ?_
 cases h
 exact nY.own rfl rfl
def D.ren2(ρ:Nat→Nat):D→D
 | .tu ds=>.tu (ds.map (D.ren ρ))
 |d=>d.ren ρ
def D.okF2:D→Bool
 | .tu ds=>ds.all D.okF
 |d=>d.okF
theorem fwdF2 {hp c5:Hp}{g g2:Gh}{w:World}{ρ:Nat→Nat}{d:D}{v:Value}(h:aE hp g w d v)(hn:d.okF2=true)(qN:∀i,i<hp.next→ρ i<c5.next)(hμ:∀i,i<hp.next→g2.μ (ρ i)=g.μ i)(hτ:∀i,i<hp.next→g2.τ (ρ i)=g.τ i)(hF:g2.F=g.F)
  (hl:∀id,id<hp.next→∀y,c5.live.lookup (ρ id)=some y→hp.live.lookup id=some y):aE c5 g2 w (d.ren2 ρ) v:=by
 cases d with
 |tu ds=>cases h with
  |tu _ cs hlen hr=>
   refine .tu _ cs (by simpa using hlen) fun j d u h2 h3=>?_
   rw[dQ] at h2
   obtain⟨d0,h4,rfl⟩:=xX.1 h2
   exact DV (hr j d0 u h4 h3) (a7.1 hn d0 (dZ h4)) qN hμ hτ hF hl
 |ag ds=>exact DV h hn qN hμ hτ hF hl
 |e y=>exact DV h hn qN hμ hτ hF hl
 |own id z n xs=>exact DV h hn qN hμ hτ hF hl
 |fu z n xs=>exact DV h hn qN hμ hτ hF hl
 |fp xs off=>exact DV h hn qN hμ hτ hF hl
 |pt k off=>exact DV h hn qN hμ hτ hF hl
 |ow k off z n=>exact DV h hn qN hμ hτ hF hl
 |gw k z n=>exact DV h hn qN hμ hτ hF hl
 |fn f ks=>exact DV h hn qN hμ hτ hF hl
 |opt b d=>cases hn
 |top=>exact .top v
theorem HC.frame2 {P:Program}{f:FuncId}{Oi ds:List D}{r:D}{E8 nS vs:List (Nat×List D)}{E9 r5 lv:List (Nat×Nat×Nat×TypeId)}{m n' N:Nat}(h:HC P f Oi ⟨E8,E9,m⟩ r ⟨nS,r5,n'⟩)
  (os:List Nat) (hos:os.length=m) (zV:os.Nodup) (bH:∀o∈os,o<N) (ha:frA (fun i=>os.getD i 0) m ds Oi)
  (hv:∀k ds,E8.lookup k=some ds→k<m∧(∃sG,vs.lookup (os.getD k 0)=some sG∧yf sG (ds.map (D.renC fun i=>os.getD i 0)))∧ds.all (D.idsC m)=true∧ds.all D.noO=true)
  (hl:∀id y,E9.lookup id=some y→id<m∧lv.lookup (os.getD id 0)=some y)
  (hr:r.okF2=true) (hvo:∀p∈nS,p.2.all D.okC=true):
  HC P f ds ⟨vs,lv,N⟩ (r.ren2 (rn os m N)) ⟨frV (rn os m N) os nS vs,frL (rn os m N) os r5 lv,N+(n' - m)⟩:=by
 subst hos
 refine⟨h.1,fun B g w us hR hsz cM=>?_⟩
 have f8:∀i,i<os.length→os.getD i 0∈os:=fun i hi=>by
  rw[uD,cz hi];exact nA hi
 have tG:∀i j,i<os.length→j<os.length→os.getD i 0=os.getD j 0→i=j:=fun i j hi hj he=>by
  rw[uD,uD,cz hi,cz hj] at he
  have hp:=Mu.1 zV
  simp only[wy] at he
  rcases Ek i j with h3|h3|h3
  ·exact absurd he (hp _ _ hi hj h3)
  ·exact h3
  ·exact absurd he.symm (hp _ _ hj hi h3)
 have hS:=HR.ren (hpS:=⟨E8,E9,os.length⟩) hR (fun i=>os.getD i 0) (fun i j hi hj he=>tG i j hi hj he) hv hl
 have dv:∀id y,(⟨E8,E9,os.length⟩:Hp).live.lookup id=some y→(⟨vs,lv,N⟩:Hp).live.lookup (os.getD id 0)=some y:=fun id y h=>(hl _ _ h).2
 refine (h.2 B _ w us hS (by rw[hsz,H2 ha]) (fun j e u he hu=>?_)).mono ?_
 ·obtain⟨d,h1,h2,h3,h4⟩:=H3 ha he
  exact CD ((cM j d u h1 hu).le h2) h3 h4 rfl (fun _=>rfl) (fun _=>rfl) rfl dv
 rintro en w' ⟨v,g',rfl,J2,hM,pR,hB,hF⟩
 -- rY caller's ghosts
 let ρ:=rn os os.length N
 have sW:∀i,i<os.length→ρ i=os.getD i 0:=fun i hi=>by show rn os os.length N i=_;unfold rn;simp[hi]
 have ul:∀i,os.length≤i→ρ i=N+(i - os.length):=fun i hi=>by show rn os os.length N i=_;unfold rn;rw[bk (by omega)];rfl
 have Si:∀i,i<os.length→os.getD i 0<N:=fun i hi=>bH _ (f8 i hi)
 have hmn:os.length≤n':=hM.next
 have hρn:∀i,i<n'→ρ i<N+(n' - os.length):=fun i hi=>by
  by_cases h1:i<os.length
  ·rw[sW i h1];have:=Si i h1;omega
  ·rw[ul i (by omega)];omega
 have RT:∀i j,i<n'→j<n'→ρ i=ρ j→i=j:=fun i j hi hj he=>by
  by_cases h1:i<os.length <;> by_cases h2:j<os.length
  ·rw[sW i h1,sW j h2] at he;exact tG i j h1 h2 he
  ·rw[sW i h1,ul j (by omega)] at he;have:=Si i h1;omega
  ·rw[sW j h2,ul i (by omega)] at he;have:=Si j h2;omega
  ·rw[ul i (by omega),ul j (by omega)] at he;omega
 let g2:Gh:=⟨fun j=>if j<N then g.μ j else g'.μ (os.length+(j - N)),fun j=>if j<N then (if j∈os then g'.τ (os.idxOf j) else g.τ j) else g'.τ (os.length+(j - N)),g'.F⟩
 let c5:Hp:=⟨frV ρ os nS vs,frL ρ os r5 lv,N+(n' - os.length)⟩
 have FM:∀j,j<N→g2.μ j=g.μ j:=fun j hj=>ai hj
 have LM:∀j,j<N→j∉os→g2.τ j=g.τ j:=fun j hj ho=>by
  show (if j<N then _ else _)=_
  rw[ai hj,ah ho]
 have FK:∀i,i<n'→g2.μ (ρ i)=g'.μ i:=fun i hi=>by
  by_cases h1:i<os.length
  ·rw[sW i h1,FM _ (Si i h1)];exact (hM.μ i h1).symm
  ·rw[ul i (by omega)]
   show (if _ then _ else _)=_
   rw[ah (by omega),show os.length+(N+(i - os.length) - N)=i by omega]
 have HM:∀i,i<n'→g2.τ (ρ i)=g'.τ i:=fun i hi=>by
  by_cases h1:i<os.length
  ·rw[sW i h1]
   show (if _ then (if _ then _ else _) else _)=_
   rw[ai (Si i h1),ai (f8 i h1)]
   have:os.idxOf (os.getD i 0)=i:=by
    have h2:os.idxOf (os.getD i 0)<os.length:=List.idxOf_lt_length_of_mem (f8 i h1)
    refine tG _ _ h2 h1 ?_
    rw[uD (i:=os.idxOf _),cz h2]
    exact List.getElem_idxOf h2
   rw[this]
  ·rw[ul i (by omega)]
   show (if _ then _ else _)=_
   rw[ah (by omega),show os.length+(N+(i - os.length) - N)=i by omega]
 have tC:∀k ds,c5.vars.lookup k=some ds→(∃i sG,ρ i=k∧i<n'∧nS.lookup i=some sG∧sG.map (D.renC ρ)=ds)∨(k∉os∧k<N∧vs.lookup k=some ds):=fun k ds hk=>by
  rcases rl hk with h1|h1
  ·obtain⟨i,a,h2,h3,h4⟩:=lZ ρ (fun a:List D=>a.map (D.renC ρ)) h1
   exact .inl ⟨i,a,h2,(J2.var i a h3).1,h3,h4⟩
  ·obtain⟨h2,h3⟩:=i7 h1
   exact .inr ⟨h2,(hR.var k ds h3).1,h3⟩
 have tD:∀k y,c5.live.lookup k=some y→(∃i,ρ i=k∧i<n'∧r5.lookup i=some y)∨(k∉os∧k<N∧lv.lookup k=some y):=fun k y hk=>by
  rcases rl hk with h1|h1
  ·obtain⟨i,a,h2,h3,h4⟩:=lZ ρ (fun a:Nat×Nat×TypeId=>a) h1
   subst h4
   exact .inl ⟨i,h2,(J2.tok i a.1 a.2 h3).1,h3⟩
  ·obtain⟨h2,h3⟩:=i7 h1
   exact .inr ⟨h2,(hR.tok k y.1 y.2 h3).1,h3⟩
 have hlρ:∀id,id<n'→∀y,c5.live.lookup (ρ id)=some y→r5.lookup id=some y:=fun id hid y hy=>by
  rcases tD _ _ hy with⟨i,h1,h2,h3⟩|⟨h1,h2,_⟩
  ·rw[←RT i id h2 hid h1];exact h3
  ·exfalso
   by_cases h4:id<os.length
   ·rw[sW id h4] at h1;exact h1 (f8 id h4)
   ·rw[ul id (by omega)] at h2;omega
 -- blocks of what was not in hand are free for rY callee
 have z4:∀k ds,k∉os→vs.lookup k=some ds→g.μ k<w.heap.size∧Qe ⟨E8,E9,os.length⟩ ⟨fun i=>g.μ (os.getD i 0),fun i=>g.τ (os.getD i 0),g.F⟩ (g.μ k):=fun k ds ho hk=>by
  refine⟨hR.var_lt (k:=k) (ds:=ds) hk,fun i di hi=>?_,fun i t hi=>?_⟩
  ·obtain⟨h1,⟨_,h2,_⟩,_⟩:=hv i di hi
   exact fun e=>ho (by rw[←hR.inj _ _ _ _ h2 hk e];exact f8 i h1)
  ·obtain⟨h1,h2⟩:=hl i t hi
   obtain⟨_,_,_,_,h3⟩:=hR.tok _ t.1 t.2 h2
   exact fun e=>(h3 _ e).2 k ds hk rfl
 have z5:∀k t b,k∉os→lv.lookup k=some t→(g.τ k).ownBlock=some b→b<w.heap.size∧Qe ⟨E8,E9,os.length⟩ ⟨fun i=>g.μ (os.getD i 0),fun i=>g.τ (os.getD i 0),g.F⟩ b:=fun k t b ho hk hb=>by
  obtain⟨_,_,_,h1,h2⟩:=hR.tok k t.1 t.2 hk
  refine⟨(h1.lt b hb).2,fun i di hi=>?_,fun i t' hi=>?_⟩
  ·obtain⟨h1,⟨_,h3,_⟩,_⟩:=hv i di hi
   exact (h2 b hb).2 _ _ h3
  ·obtain⟨h1,h3⟩:=hl i t' hi
   exact fun e=>ho (by rw[←hR.tinj _ _ _ _ b h3 hk e hb];exact f8 i h1)
 have mo:cE ⟨vs,lv,N⟩ g w c5 g2 w':=by
  refine⟨hM.size,hM.cell,hM.forb,sK _ _,fun k hk=>FM k hk,fun id hid n e hy=>?_,fun b hb hf=>?_,hM.szs⟩
  ·rcases tD _ _ hy with⟨i,h1,h2,h3⟩|⟨h1,h2,h3⟩
   ·by_cases h4:i<os.length
    ·obtain⟨m0,h5,h6,h7⟩:=hM.live i h4 n e h3
     refine⟨m0,?_,h6,fun h=>?_⟩
     ·rw[←h1,sW i h4];exact dv i _ h5
     ·rw[←h1,HM i h2,h7 h,sW i h4]
    ·rw[←h1,ul i (by omega)] at hid
     have hid:N+(i - os.length)<N:=hid
     omega
   ·exact⟨n,h3,ay _,fun _=>LM id h2 h1⟩
  ·obtain⟨h1,h2,h3⟩:=hM.fr b hb ⟨fun k ds hk=>by
    obtain⟨_,⟨_,h5,_⟩,_⟩:=hv k ds hk
    exact hf.1 _ _ h5,fun id t hi=>hf.2 _ _ (dv id t hi)⟩
   refine⟨h1,h2,fun k ds hk=>?_,fun id t hi=>?_⟩
   ·rcases tC _ _ hk with⟨i,_,rfl,h5,h6,_⟩|⟨_,h5,h6⟩
    ·rw[FK i h5];exact h3.1 _ _ h6
    ·rw[FM k h5];exact hf.1 _ _ h6
   ·rcases tD _ _ hi with⟨i,rfl,h5,h6⟩|⟨h4,h5,h6⟩
    ·rw[HM i h5];exact h3.2 _ _ h6
    ·rw[LM id h5 h4];exact hf.2 _ _ h6
 have fw:∀{d:D} {u:Value},d.okC=true→aE ⟨nS,r5,n'⟩ g' w' d u→aE c5 g2 w' (d.renC ρ) u:=fun hd h=>Cu h hd hρn FK HM rfl hlρ
 refine⟨v,g2,rfl,⟨fun k ds hk=>?_,fun k k' ds ds' hk vy he=>?_,fun id n e hi=>?_,fun id Be t t' b hi vz hb oL=>?_,J2.base,J2.fits⟩,mo,fwdF2 pR hr hρn FK HM rfl hlρ,hB,hF⟩
 ·rcases tC _ _ hk with⟨i,sG,rfl,h1,h2,rfl⟩|⟨h1,h2,h3⟩
  ·obtain⟨_,h4,h5,cs,ty,h6,h7,h8⟩:=J2.var i sG h2
   rw[FK i h1]
   refine⟨hρn i h1,h4,h5,cs,ty,h6,by simpa using h7,fun j u hu=>⟨fun h=>(h8 j u hu).1 (by simpa using h),fun d hd=>?_⟩⟩
   rw[dQ] at hd
   obtain⟨d0,vK,rfl⟩:=xX.1 hd
   exact fw (a7.1 (hvo _ (bD h2)) d0 (dZ vK)) ((h8 j u hu).2 d0 vK)
  ·obtain⟨h4,h5⟩:=z4 k ds h1 h3
   obtain⟨h6,h7,_⟩:=hM.fr _ h4 h5
   obtain⟨_,h8,h9,cs,ty,xy,Ct,h12⟩:=hR.var k ds h3
   rw[FM k h2]
   exact⟨bG h2 (sK _ _),h8,fun p hp=>h7 p hp (h9 p hp),cs,ty,h6.trans xy,Ct,fun j u hu=>⟨(h12 j u hu).1,fun d hd=>((h12 j u hu).2 d hd).mono mo⟩⟩
 ·rcases tC _ _ hk with⟨i,sG,rfl,h1,h2,_⟩|⟨h1,h2,h3⟩ <;> rcases tC _ _ vy with⟨i',ds0',rfl,qD,qq,_⟩|⟨qD,qq,Mf⟩
  ·rw[FK i h1,FK i' qD] at he
   rw[J2.inj _ _ _ _ h2 qq he]
  ·rw[FK i h1,FM _ qq] at he
   obtain⟨h4,h5⟩:=z4 _ _ qD Mf
   exact absurd he ((hM.fr _ h4 h5).2.2.1 _ _ h2)
  ·rw[FK i' qD,FM _ h2] at he
   obtain⟨h4,h5⟩:=z4 _ _ h1 h3
   exact absurd he.symm ((hM.fr _ h4 h5).2.2.1 _ _ qq)
  ·rw[FM _ h2,FM _ qq] at he
   exact hR.inj _ _ _ _ h3 Mf he
 ·rcases tD _ _ hi with⟨i,rfl,h1,h2⟩|⟨h1,h2,h3⟩
  ·obtain⟨_,uY,h4,h5,h6⟩:=J2.tok i n e h2
   rw[HM i h1]
   refine⟨hρn i h1,uY,h4,h5,fun b hb=>⟨(h6 b hb).1,fun k ds hk=>?_⟩⟩
   rcases tC _ _ hk with⟨i',_,rfl,h7,h8,_⟩|⟨h7,h8,h9⟩
   ·rw[FK i' h7];exact (h6 b hb).2 _ _ h8
   ·rw[FM k h8]
    obtain⟨xy,Ct⟩:=z4 _ _ h7 h9
    intro e
    exact (hM.fr _ xy Ct).2.2.2 _ _ h2 (by rw[e];exact hb)
  ·obtain⟨_,uY,h4,h5,h6⟩:=hR.tok id n e h3
   rw[LM id h2 h1]
   refine⟨bG h2 (sK _ _),uY,h4,⟨h5.1,?_⟩,fun b hb=>?_⟩
   ·rcases h5.2 with h0|⟨b,cap,cur,vw,hB',hh,r⟩
    ·exact .inl h0
    ·obtain⟨xy,Ct⟩:=z5 id _ b h1 h3 (by rw[vw];rfl)
     exact .inr ⟨b,cap,cur,vw,hB',(hM.fr _ xy Ct).1.trans hh,r⟩
   ·obtain⟨xy,Ct⟩:=z5 id _ b h1 h3 hb
    obtain⟨h12,h13,h14⟩:=hM.fr _ xy Ct
    refine⟨fun p h7 h8=>h13 p h7 ((h6 b hb).1 p h7 h8),fun k ds hk=>?_⟩
    rcases tC _ _ hk with⟨i',_,rfl,h7,h8,_⟩|⟨h7,h8,h9⟩
    ·rw[FK i' h7];exact h14.1 _ _ h8
    ·rw[FM k h8];exact (h6 b hb).2 _ _ h9
 ·rcases tD _ _ hi with⟨i,rfl,h1,h2⟩|⟨h1,h2,h3⟩ <;> rcases tD _ _ vz with⟨i',rfl,qD,qq⟩|⟨qD,qq,Mf⟩
  ·rw[HM i h1] at hb
   rw[HM i' qD] at oL
   rw[J2.tinj _ _ _ _ b h2 qq hb oL]
  ·rw[HM i h1] at hb
   rw[LM _ qq qD] at oL
   obtain⟨xy,Ct⟩:=z5 _ _ b qD Mf oL
   exact absurd hb ((hM.fr _ xy Ct).2.2.2 _ _ h2)
  ·rw[HM i' qD] at oL
   rw[LM _ h2 h1] at hb
   obtain⟨xy,Ct⟩:=z5 _ _ b h1 h3 hb
   exact absurd oL ((hM.fr _ xy Ct).2.2.2 _ _ qq)
  ·rw[LM _ h2 h1] at hb
   rw[LM _ qq qD] at oL
   exact hR.tinj _ _ _ _ b h3 Mf hb oL
theorem HC.frame0 {P:Program}{f:FuncId}{ds:List D}{r:D}{nS vs:List (Nat×List D)}{lv:List (Nat×Nat×Nat×TypeId)}{n' N:Nat}(h:HC P f ds ⟨[],[],0⟩ r ⟨nS,[],n'⟩)
  (ha:frA (fun i=>([]:List Nat).getD i 0) 0 ds ds) (hr:r.okF2=true) (hvo:∀p∈nS,p.2.all D.okC=true):
  HC P f ds ⟨vs,lv,N⟩ (r.ren2 (fun i=>N+i)) ⟨nS.map (fun p=>(N+p.1,p.2.map (D.renC fun i=>N+i)))++vs,lv,N+n'⟩:=by
 have h1:=HC.frame2 (vs:=vs) (lv:=lv) (N:=N) h [] rfl List.nodup_nil (fun o ho=>absurd ho ql) ha (fun k ds hk=>by simp at hk) (fun id y hy=>by simp at hy) hr hvo
 have e:rn [] 0 N=fun i=>N+i:=by funext i;rfl
 have e1:frV (rn [] 0 N) [] nS vs=nS.map (fun p=>(N+p.1,p.2.map (D.renC fun i=>N+i)))++vs:=by
  unfold frV
  rw[e]
  congr 1
  exact List.filter_eq_self.2 fun _ _=>rfl
 have e2:frL (rn [] 0 N) [] [] lv=lv:=by
  unfold frL
  exact List.filter_eq_self.2 fun _ _=>rfl
 rw[e1,e2,e] at h1
 exact h1
section
theorem sliceG {P:Program}{tb:TypeId→Option TyE}(tok:TOk P tb){ev:Operand→D}{hp:Hp}{dst:Option Tmp}{ty:TypeId}{pos:String}{af:Array Edge}{gd:Option (Nat×Bool)}{t e:TypeId}{ti j:TyE}{x y z:Operand}{k n m:Nat}{kn kn':IntKind}(ht:tb t=some ti)(he:tb e=some j)(hx:ev x=.gw k j.size n)(hy:ev y=dI kn (m:Int))(hz:ev z=dI kn' (m:Int))(hm:m≤n)(xN:ti.ty=.slice e:=by exact rfl):
  mG P tb .seq ⟨dst,.slice t x none (some y) (some z),ty,pos,af,gd⟩ ev hp (.ow k 0 j.size m) hp:=by
 refine⟨.step fun B g w a hr xL=>?_,fun hq=>(by cases hq),fun _=>⟨ay _,fun _ _=>rfl⟩,fun h=>by cases h⟩
 have h1:=xL x (by simp[Op.operands])
 have h2:=xL y (by simp[Op.operands])
 have h3:=xL z (by simp[Op.operands])
 rw[hx] at h1
 rw[hy] at h2
 rw[hz] at h3
 have h2:=h2.lit
 have h3:=h3.lit
 generalize hv:a.eval x=v at h1
 cases h1 with
 |gw _ _ _ c hk p9 oR hs=>
  have hu:=tok.slice ht xN
  have hsz:=tok.run_sizeOf he w
  have hHc:m≤c:=by omega
  have hb:(Instr.sliceBounds true n c none (some (Value.int kn (m:Int))) (some (Value.int kn' (m:Int)))).run P w=.ok (0,m,m) w:=by
   simp[Instr.sliceBounds,run_sliceBound,hHc]
  have Qp:∀(ad:Addr),ad.spot=none→ad.off=0→(if m=0 then some ad else some (ad.add (0*j.size)))=some ad:=fun ad h4 h5=>by
   split
   ·rfl
   ·rw[gv];unfold Addr.add;simp
  refine⟨.slice (some ⟨g.μ k,0,none⟩) m m,g,w,?_,hr,cE.refl _ _ _,.ow k 0 j.size m m hk (ay _) (by omega),Below.refl _ _,fun _ _ h=>h⟩
  have bW:(Instr.sliceAt t (a.eval x) none (some (a.eval y)) (some (a.eval z))).run P w=.ok (.slice (some ⟨g.μ k,0,none⟩) m m) w:=by
   rw[hv,h2,h3]
   simp[Instr.sliceAt,Instr.slice,run_underlying hu,hb,hsz,Addr.add]
  simp[execOp,bW]
theorem WkS.frz2 {tm:List (Nat×D)}{vs:List (Nat×List D)}{lv:List (Nat×Nat×Nat×TypeId)}{N t k z n:Nat}{F:List E}(hz:0<z)(ht:tm.lookup t=some (.ow k 0 z n))(hv:vs.lookup k=some (dC F))(hF:n*z≤F.length):
  WkS tm ⟨vs,lv,N⟩ ((t,.e (.sl z n (F.take (n*z))))::tm) ⟨vs.filter fun p=>!([k]:List Nat).contains p.1,lv,N⟩:=by
 intro B g w ρ hr nI
 obtain⟨h1,h2,h3,cs,ty,h4,h5,h6⟩:=hr.var k _ hv
 have look:∀{j:Nat} {ds:List D},(vs.filter fun p=>!([k]:List Nat).contains p.1).lookup j=some ds→j≠k∧vs.lookup j=some ds:=by
  intro j ds h
  obtain⟨a,b⟩:=i7 h
  exact⟨by simpa using a,b⟩
 have fk:∀{j:Nat} {ds:List D},j≠k→vs.lookup j=some ds→g.μ j≠g.μ k:=fun hj hl e=>hj (hr.inj _ _ _ _ hl hv e)
 have mo:cE ⟨vs,lv,N⟩ g w ⟨vs.filter fun p=>!([k]:List Nat).contains p.1,lv,N⟩ ⟨g.μ,g.τ,fun p=>g.F p∧p.block≠g.μ k⟩ w:=by
  refine⟨ay _,fun _ _ _=>rfl,fun _ _ h=>h.1,ay _,fun _ _=>rfl,fun _ _ m _ h=>⟨m,h,ay _,fun _=>rfl⟩,fun b hb hf=>⟨rfl,fun p hp hq=>⟨hq,?_⟩,fun j ds hj=>hf.1 j ds (look hj).2,hf.2⟩,fun _=>.same fun _=>rfl⟩
  rw[hp];exact fun e=>hf.1 k _ hv e.symm
 refine⟨⟨g.μ,g.τ,fun p=>g.F p∧p.block≠g.μ k⟩,⟨fun j ds hj=>?_,fun j j' ds ds' hj BU he=>hr.inj j j' ds ds' (look hj).2 (look BU).2 he,fun id m e hi=>?_,hr.tinj,hr.base,fun p hp=>hr.fits p hp.1⟩,mo,fun t' d hd=>?_,fun p hp hq=>⟨hq,?_⟩⟩
 ·obtain⟨a1,a2⟩:=look hj
  obtain⟨b1,b2,b3,wr,K8,b4,b5,b6⟩:=hr.var j ds a2
  exact⟨b1,b2,fun p hp=>⟨b3 p hp,by rw[hp];exact fk a1 a2⟩,wr,K8,b4,b5,fun i u hu=>⟨(b6 i u hu).1,fun d hd=>((b6 i u hu).2 d hd).mono mo⟩⟩
 ·obtain⟨b1,us,b2,b3,b4⟩:=hr.tok id m e hi
  exact⟨b1,us,b2,b3,fun b hb=>⟨fun p hp hq=>⟨(b4 b hb).1 p hp hq,by rw[hp];exact fun e=>(b4 b hb).2 k _ hv e.symm⟩,fun j ds hj=>(b4 b hb).2 j ds (look hj).2⟩⟩
 ·by_cases htt:t'=t
  ·subst htt
   have:some (D.e (.sl z n (F.take (n*z))))=some d:=by rw[←hd];exact aa.symm
   injection this with this
   subst this
   have cM:=nI t' _ ht
   generalize hq:ρ t'=u at cM
   cases cM with
   |ow _ _ _ _ c hk p9 oR=>
    have oH:F.length≤cs.size:=by rw[er] at h5;exact h5
    have f8:∀{i:Nat} {e:E},(F.take (n*z))[i]? =some e→F[i]? =some e:=fun {i e} h=>by
     rw[gz] at h
     split at h
     ·exact h
     ·cases h
    refine .e _ _ (.sl z n (F.take (n*z)) (some ⟨g.μ k,0,none⟩) c (fun i=>cs.getD i undef) (by rw[ee];omega) hz p9 oR (fun _=>⟨_,rfl,(oD.1 h4).1⟩) (fun ad ha i e hi=>?_) (fun i e hi=>?_))
    ·have hi:=f8 hi
     injection ha with ha
     subst ha
     have bH:i<cs.size:=bG (fy.1 hi).1 oH
     refine⟨?_,fun hf=>hf.2 (by rw[f4])⟩
     have e0:w.cell? (({block:=g.μ k,off:=0,spot:=none}:Addr).add i)=cs[0+i]? :=by
      by_cases h0:i=0
      ·subst h0;simp[World.cell?,Addr.add,h4]
      ·simp[World.cell?,Addr.add,h4,h0]
     rw[e0,bp]
     simp[eK,bH]
    ·have hi:=f8 hi
     have bH:i<cs.size:=bG (fy.1 hi).1 oH
     have hu:=h6 i (cs.getD i undef) (by simp[eK,bH])
     have:=hu.2 (.e e) (by unfold dC;rw[dQ,hi];rfl)
     cases this with
     |e _ _ h7=>exact c9.less h7 fun p hp=>hp.1
  ·exact (nI t' d (by rw[←hd];exact (am htt).symm)).mono mo
 ·intro e
  omega
theorem t3 {c:List Nu}(h:c.length≤1000000):cR (c.map nv)=some (c.all aw):=by
 obtain⟨y,hy,DB⟩:=G_idx h
 unfold cR aQ
 rw[hy]
 by_cases h0:0≤y
 ·rw[DB.1 h0]
  simp[bnd,h0]
 ·have:c.all aw=true:=by
   cases hc:c.all aw with
   |true=>rfl
   |false=>exact absurd (DB.2 hc) h0
  rw[this]
  simp[bnd,h0]
theorem OV {c:List Nu}(h:c.length≤1000000):ar prog 62 [.e (slE au c)] (dB (c.all aw)):=by
 rw[kF];exact fC (t3 h)
def kI(l:List Nu):List Nu:=l++l.map eR
theorem Qb {l:List Nu}(h:l.length≤1000000):lL (l.map nv)=some ((kI l).map nv):=by
 have hlen:(l.map nv).length=l.length:=bh _
 unfold lL fG
 rw[aC (by rw[hlen];exact h)]
 show bnd (bt (eM (l.map nv)) (l.map nv,(0:Int))) _=_
 have key:=wi (b:=eM (l.map nv)) (fun i:Nat=>((l++(l.take i).map eR).map nv,(i:Int))) 0 l.length ((kI l).map nv) (cl _) (fun i _ hi=>?_) ?_
 ·have e:((l++(l.take 0).map eR).map nv,((0:Nat):Int))=(l.map nv,(0:Int)):=by simp
  rw[e] at key
  rw[key]
  rfl
 ·unfold eM
  dsimp only
  have f8:(l.map nv)[((i:Nat):Int).toNat]! =nv l[i]:=by
   rw[show ((i:Nat):Int).toNat=i by omega,bJ _ _ (by rw[hlen];exact hi),EF]
  have nX:mf (nv l[i])=some (nv (eR l[i])):=by rw[zK];exact M9 l[i].2
  have htk:l.take (i+1)=l.take i++[l[i]]:=by rw[Ae,cz hi];rfl
  rw[hlen,cw _ _,aC,f8,nX]
  show gd _ _=_
  rw[aC (by simp;omega),eQ (by omega) (by omega),htk]
  simp only[jz,c0,j4,m9]
  rfl
 ·unfold eM
  dsimp only
  rw[hlen,cg _ _,gU (ay _)]
  rfl
theorem Hd {l:List Nu}(h:l.length≤1000000):ar prog 74 [.e (slE au l)] (.e (slE au (kI l))):=by
 rw[kF,kF]
 exact ar.toE (zd (Qb h))
theorem I6 {n:Nat}(h:n≤1000000):ar prog 75 [dI .i64 n] (.e (slE au (List.replicate n (nOf 0)))):=by
 rw[kF,EE]
 refine nh ?_
 unfold fc
 rw[ai (by omega)]
 congr 2
def ylP(y:List Nu)(m:Nat):Nat→List Nu
 |0=>y
 |i+1=>(ylP y m i).set i (HA (ylP y m i)[i]! (ylP y m i)[m+i]!)
def yD(m nn:Nat)(A B:List Nu)(most:Int):Ans×Int×Int:=
 let r:=im (m+m) nn (kI A) (kI B) (List.replicate nn (nOf 0)) most
 if r.2.2≠0∨r.1.kind≠2 then (⟨r.1.kind,r.1.x,[],r.1.ray⟩,r.2.1,r.2.2) else
 let y:=(List.range m).map fun i=>HA r.1.y[i]! r.1.y[m+i]!
 if y.all aw then (⟨r.1.kind,r.1.x,y,r.1.ray⟩,r.2.1,0) else (⟨0,[],[],[]⟩,0,30)
section
variable {y:List Nu} {m:Nat}
theorem yZ:∀i,(ylP y m i).length=y.length
 |0=>rfl
 |i+1=>(cU ..).trans (yZ i)
theorem Ld:∀i j,i≤j→(ylP y m i)[j]! =y[j]!
 |0,_,_=>rfl
 |i+1,j,h=>by
  unfold ylP
  rw[yJ,Eo (by omega),←yJ]
  exact Ld i j (by omega)
theorem Qu(h:m+m≤y.length):∀i j,i≤m→j<i→(ylP y m i)[j]! =HA y[j]! y[m+j]!
 |0,_,_,h2=>by omega
 |i+1,j,h1,h2=>by
  have hl:i<(ylP y m i).length:=by rw[yZ];omega
  unfold ylP
  by_cases DM:i=j
  ·subst DM
   rw[yJ,KF hl,wy,Ld i i (ay _),Ld i (m+i) (by omega)]
  ·rw[yJ,Eo DM,←yJ]
   exact Qu h i j (by omega) (by omega)
theorem ylP_all(h:y.length=m+m):(ylP y m m).take m=(List.range m).map fun i=>HA y[i]! y[m+i]! :=by
 refine EG (by rw[ee,yZ,bh,List.length_range];omega) fun j h1 h2=>?_
 have hj:j<m:=by simpa using h2
 rw[List.getElem_take,EF,MV,←Qu (y:=y) (by omega) m j (ay _) hj,bJ (ylP y m m) j (by rw[yZ];omega)]
end
theorem QZ {m nn:Nat}{A B C:List Nu}{most:Int}(hB:B.length=m)(h0:0≤most)(h1:most≤9223372036854775807)(hk:(im m nn A B C most).1.kind=2):(im m nn A B C most).1.y.length=m∧(im m nn A B C most).1.x=[]∧(im m nn A B C most).1.ray=[]∧(im m nn A B C most).2.2=0:=by
 have JU:∀d,(vH nn d C).1.kind≠2:=fun d h=>by
  unfold vH at h
  dsimp only at h
  split at h
  ·cases h
  ·split at h
   ·cases h
   ·split at h <;> cases h
 unfold im at hk ⊢
 dsimp only at hk ⊢
 split at hk
 ·next nX=>
  rw[ai nX]
  split at hk
  ·cases hk
  ·next hb=>
   rw[ah hb]
   split at hk
   ·next hg=>
    rw[ai hg]
    have hm:0<m:=by
     rcases rJ m with e|e
     ·rw[e] at hB
      rw[Ik.1 hB] at nX
      cases nX
     ·exact e
    have hS:=(D3 (m:=m) (nn:=nn) (A:=A) (B:=B) h0 h1 (ay m))
    rw[Ke] at hS
    have BZ:=(hS.begin hm (by omega)).1.lg
    refine⟨?_,rfl,rfl,rfl⟩
    show (bQ _ nn).length=m
    unfold bQ
    rw[bh,eV,BZ]
    omega
   ·exact absurd hk (JU _)
 ·exact absurd hk (JU _)
end
section
def yH(ky:Nat)(a:Ans):List D:=[dI .i64 a.kind,.e (slE au a.x),if a.kind=2 then .gw ky 36 a.y.length else .e (slE au a.y),.e (slE au a.ray)]
def vq(ky:Nat)(a:Ans):List (Nat×List D):=if a.kind=2 then [(ky,dC ((cW au).f a.y))] else []
theorem Ns {ky N n2:Nat}{a:Ans}{vs:List (Nat×List D)}{lv:List (Nat×Nat×Nat×TypeId)}(h:N≤ky)(h2:N≤n2):Fr ⟨vs,lv,N⟩ ⟨vq ky a++vs,lv,n2⟩:=by
 refine⟨h2,fun j hj=>?_⟩
 have hj:j<N:=hj
 unfold vq
 split
 ·exact am (by omega)
 ·rfl
theorem Kz {ky n:Nat}{a:Ans}(h:ky<n):(yH ky a).all (D.idsC n)=true:=by
 unfold yH
 by_cases hk:a.kind=2
 ·rw[ai hk]
  simp only[iK,kQ,fM,cj]
  exact⟨rfl,rfl,aA h,rfl⟩
 ·rw[ah hk]
  rfl
theorem solW_in {ky kx:Nat}{a:Ans}{x:List D}{vs:List (Nat×List D)}{j:Nat}{ds:List D}(hj:j≠kx)(h:(vq ky a++vs).lookup j=some ds):(vq ky a++(kx,x)::vs).lookup j=some ds:=by
 unfold vq at h ⊢
 by_cases hk:a.kind=2
 ·rw[ai hk] at h ⊢
  rcases bY h with⟨rfl,rfl⟩|⟨BS,h⟩
  ·exact aa
  ·exact ak BS (ak hj h)
 ·rw[ah hk] at h ⊢
  exact ak hj h
theorem HC.weakT {P:Program}{f:FuncId}{ds rs:List D}{hp:Hp}{vars vars':List (Nat×List D)}{lv lv':List (Nat×Nat×Nat×TypeId)}{n n':Nat}(hc:HC P f ds hp (.tu rs) ⟨vars,lv,n⟩)(h0:hp.next≤n')
  (h:ci hp→ci ⟨vars',lv',n'⟩∧(∀j ds,vars'.lookup j=some ds→vars.lookup j=some ds)∧(∀j y,lv'.lookup j=some y→lv.lookup j=some y)∧rs.all (D.idsB n')=true):HC P f ds hp (.tu rs) ⟨vars',lv',n'⟩:=by
 refine⟨hc.1,fun B g w vs hr hsz cM=>(hc.2 B g w vs hr hsz cM).mono ?_⟩
 obtain⟨hok,hv,hl,hd⟩:=h hr.ok
 rintro e w' ⟨v,g',rfl,pB,hM,hrd,hb,hF⟩
 have dv:∀id y,lv'.lookup id=some y→lv.lookup id=some y:=hl
 refine⟨v,g',rfl,⟨fun k ds hk=>?_,fun k k' a b hk vy he=>pB.inj k k' a b (hv k a hk) (hv k' b vy) he,fun id m e hi=>?_,fun id Be t t' b hi vz=>pB.tinj id Be t t' b (dv _ _ hi) (dv _ _ vz),pB.base,pB.fits⟩,
  ⟨hM.size,hM.cell,hM.forb,h0,hM.μ,fun id hid m e Py=>hM.live id hid m e (dv id _ Py),fun b hb hf=>⟨(hM.fr b hb hf).1,(hM.fr b hb hf).2.1,fun k ds hk=>(hM.fr b hb hf).2.2.1 k ds (hv k ds hk),fun id t hi=>(hM.fr b hb hf).2.2.2 id t (dv id _ hi)⟩,hM.szs⟩,?_,hb,hF⟩
 ·obtain⟨_,h3,h4,cs,ty,h5,h6,h7⟩:=pB.var k ds (hv k ds hk)
  obtain⟨h1,h2⟩:=hok.var k ds hk
  exact⟨h1,h3,h4,cs,ty,h5,h6,fun j u hu=>⟨(h7 j u hu).1,fun d hd=>iq ((h7 j u hu).2 d hd) (a7.1 h2 d (dZ hd)) rfl dv⟩⟩
 ·obtain⟨_,us,h2,h3,h4⟩:=pB.tok id m e (dv _ _ hi)
  exact⟨hok.tok id _ hi,us,h2,h3,fun b hb=>⟨(h4 b hb).1,fun k ds hk=>(h4 b hb).2 k ds (hv k ds hk)⟩⟩
 ·cases hrd with
  |tu _ cs Fg LT=>exact .tu rs cs Fg fun j d u h1 h2=>DA (LT j d u h1 h2) (a7.1 hd d (dZ h1)) rfl dv
theorem JZ {M:Nat}{r:Ans×Int×Int}{R Cc most:Int}{A B C:List Nu}{vs:List (Nat×List D)}{lv:List (Nat×Nat×Nat×TypeId)}{N:Nat}(hc:HC prog 12 [.ag (prC R Cc A B C),dI .i64 most] ⟨[],[],0⟩ (Ln M r) (FD M r)):
  HC prog 12 [.ag (prC R Cc A B C),dI .i64 most] ⟨vs,lv,N⟩ (.tu [.ag (yH (N+(7+8*M)) r.1),dI .i64 r.2.1,dI .i64 r.2.2]) ⟨vq (N+(7+8*M)) r.1++vs,lv,N+(8+8*M)⟩:=by
 unfold Ln FD at hc
 unfold yH vq
 unfold qj at hc
 by_cases hk:r.1.kind=2
 ·simp only[ai hk] at hc ⊢
  have h1:=HC.weakT (vars':=[(7+8*M,dC ((cW au).f r.1.y))]) (lv':=[]) (n':=8+8*M) hc (cl _) fun _=>⟨⟨fun k ds h=>by
    rcases bY h with⟨rfl,rfl⟩|⟨_,h⟩
    ·exact⟨show 7+8*M<8+8*M by omega,ep _⟩
    ·simp at h,fun id e h=>by simp at h⟩,fun k ds h=>by
    rcases bY h with⟨rfl,rfl⟩|⟨_,h⟩
    ·exact ak (by omega) aa
    ·simp at h,fun _ _ h=>h,by
    simp only[D.idsB,iK,kQ,fM,cj]
    exact⟨⟨rfl,rfl,aA (by omega),rfl⟩,rfl,rfl⟩⟩
  have h2:=HC.frame0 (vs:=vs) (lv:=lv) (N:=N) h1 ⟨⟨ax _,rfl,rfl⟩,⟨ax _,rfl,rfl⟩,trivial⟩ rfl fun p hp=>by
   rw[qk.1 hp]
   exact a7.2 fun d hd=>by
    obtain⟨e,_,rfl⟩:=tQ.1 hd
    rfl
  have e:(dC ((cW au).f r.1.y)).map (D.renC fun i=>N+i)=dC ((cW au).f r.1.y):=Lu _
  simp only[j4,m9,e] at h2
  exact h2
 ·simp only[ah hk] at hc ⊢
  have h1:=HC.weakT (vars':=[]) (lv':=[]) (n':=8+8*M) hc (cl _) fun _=>⟨⟨fun k ds h=>by simp at h,fun id e h=>by simp at h⟩,fun k ds h=>by simp at h,fun _ _ h=>h,rfl⟩
  have h2:=HC.frame0 (vs:=vs) (lv:=lv) (N:=N) h1 ⟨⟨ax _,rfl,rfl⟩,⟨ax _,rfl,rfl⟩,trivial⟩ rfl fun p hp=>absurd hp ql
  exact h2
def rF(a:Ans):List D:=[dI .i64 a.kind,.e (slE au a.x),.e (slE au a.y),.e (slE au a.ray)]
def maC(R Cc:Int)(A:List Nu):List D:=[dI .i64 R,dI .i64 Cc,.e (slE au A)]
theorem rj {R Cc:Int}{A:List Nu}{t:Nat}{y:D}(h:(maC R Cc A)[t]? =some y):Pt (maC R Cc A) t [y] (fun ys=>(maC R Cc A).take t++ys++(maC R Cc A).drop (t+1)):=Pt.cell h
theorem NP(a:Ans)(h:a.y=[]:=by exact rfl):D.le (.ag [dI .i64 a.kind,.e (slE au a.x),dN,.e (slE au a.ray)]) (.ag (rF a)):=by
 unfold rF
 rw[h]
 exact su ⟨.inl rfl,.inl rfl,.inr (.inr ⟨rfl,36,by decide,rfl⟩),.inl rfl,trivial⟩
theorem HJ:D.le (.ag [dI .i64 0,dN,dN,dN]) (.ag (rF ⟨0,[],[],[]⟩)):=su ⟨.inl rfl,.inr (.inr ⟨rfl,36,by decide,rfl⟩),.inr (.inr ⟨rfl,36,by decide,rfl⟩),.inr (.inr ⟨rfl,36,by decide,rfl⟩),trivial⟩
def eqD(r:Ans×Int×Int):D:=.tu [.ag (rF r.1),dI .i64 r.2.1,dI .i64 r.2.2]
def eqH(r:Ans×Int×Int):Hp:=⟨[(1,rF r.1)],[],2⟩
theorem rtE {cx:Cx}{tm:List (Nat×D)}{vs2:List (Nat×List D)}{n2:Nat}{r0 r:Ans×Int×Int}(h0:cx.hp0=⟨[],[],0⟩)(hr:r0=r)(h1:vs2.lookup 1=some (rF r.1))(hn:2≤n2)(h6:tm.lookup 6=some (.pt 1 0):=by exact rfl)(h7:tm.lookup 7=some (dI .i64 r.2.1):=by exact rfl)(h8:tm.lookup 8=some (dI .i64 r.2.2):=by exact rfl):
  ∃tm',Wk cx tm ⟨vs2,[],n2⟩ tm' (eqH r0)∧te tbl [.cell 6 29,.tmp 7,.tmp 8] tm' (eqH r0) (eqD r0):=by
 subst hr
 have hok:ci ⟨[(1,rF r0.1)],[],2⟩:=by
  refine⟨fun k ds h=>?_,fun id e h=>by simp at h⟩
  rcases bY h with⟨rfl,rfl⟩|⟨_,h⟩
  ·exact⟨show 1<2 by decide,rfl⟩
  ·simp at h
 refine⟨_,wkS (by rw[h0];exact cl _) hn hok (fun j ds h=>?_) (((bE.nil.cons h8).cons h7).cons h6 rfl),resV tbI rfl aa (by decide) rfl rfl ⟨_,rfl,_,rfl,rfl⟩⟩
 rcases bY h with⟨rfl,rfl⟩|⟨_,h⟩
 ·exact h1
 ·simp at h
section
variable {m nn:Nat} {A B:List Nu} {most:Int}
theorem h_Equal(hv:ar prog 73 [.ag (maC m nn A),.e (slE au B)] (dB true))(hvV:ar prog 15 [.ag (prC ((m+m:Nat):Int) nn (kI A) (kI B) (List.replicate nn (nOf 0)))] (dB true))(hm:m≤1000)(hn:nn≤2000)(hA:A.length=m*nn)(hB:B.length=m)(hgA:∀i,i<(kI A).length→aw (kI A)[i]! =true)(hgB:∀i,i<(kI B).length→aw (kI B)[i]! =true)(hA1:A.length≤1000000)(h0:0≤most)(h1:most≤9223372036854775807):
  HC prog 21 [.ag (maC m nn A),.e (slE au B),dI .i64 most] ⟨[],[],0⟩ (eqD (yD m nn A B most)) (eqH (yD m nn A B most)):=by
 refine HC.of (rs:=[.cell 6 29,.tmp 7,.tmp 8]) tok func21 rfl rfl (bc rfl) rfl (fun cx hx vf hok=>?_)
 simp only[fj,Nat.reduceAdd,bp]
 have SX:B.length≤1000000:=by omega
 have hlA:(kI A).length=(m+m)*nn:=by unfold kI;rw[cu,bh,hA,bU]
 have hlB:(kI B).length=m+m:=by unfold kI;rw[cu,bh,hB]
 have hmm:i64.wrap ((2:Int)*(m:Int))=((m+m:Nat):Int):=by rw[eQ (by omega) (by omega)];omega
 have hS:=Oa (m:=m+m) (nn:=nn) (C:=List.replicate nn (nOf 0)) (most:=most) hvV (by omega) hn hlA hlB (by simp) hgA hgB (fun i hi=>by
  rw[bJ (List.replicate nn (nOf 0)) i hi,List.getElem_replicate];exact of0.1) h0 h1
 have yB:=QZ (m:=m+m) (nn:=nn) (A:=kI A) (B:=kI B) (C:=List.replicate nn (nOf 0)) (most:=most) hlB h0 h1
 have heq:yD m nn A B most=yD m nn A B most:=rfl
 conv at heq=>rhs;unfold yD
 dsimp only at heq
 obtain⟨r,hr⟩:∃r,r=im (m+m) nn (kI A) (kI B) (List.replicate nn (nOf 0)) most:=⟨_,rfl⟩
 rw[←hr] at hS yB heq
 clear hr
 refine rs hx fun K hK=>?_
 refine s1 (gF (cs:=maC m nn A)) ?_
 refine a1 (F:=ly) tbI ?_
 iterate 2 refine sa ?_
 refine nl hK ?_
 refine AW.seq (rs hx fun K hK=>?_)
 refine p1 (Pt.all (F:=maC m nn A)) rfl ?_
 refine sa ?_
 refine q1 (sHC (HC.frz (ds:=[.ag (maC m nn A),.e (slE au B)]) hv ⟨AR.same rfl,AR.same rfl,trivial⟩ rfl) rfl (.inr (Fr.refl _))) ?_
 iterate 2 refine sa ?_
 iterate 2 refine ga rfl ?_
 refine s1 (d:=dB (decide (most<0))) (lP rfl) ?_
 refine nl hK ?_
 refine AW.condF rfl (bk (by omega)) (AW.skip ?_)
 obtain⟨base,lK⟩:∃base:List (Nat×List D),base=[(1,dC ly),(0,maC m nn A)]:=⟨_,rfl⟩
 have fR:base.lookup 1=some (dC ly):=by rw[lK];exact aa
 have N9:base.lookup 0=some (maC m nn A):=by rw[lK];rfl
 have N8:∀j ds,base.lookup j=some ds→j<2∧ds.all (D.idsC 2)=true:=fun j ds h=>by
  rw[lK] at h
  rcases bY h with⟨rfl,rfl⟩|⟨_,h⟩
  ·exact⟨by omega,rfl⟩
  ·rcases bY h with⟨rfl,rfl⟩|⟨_,h⟩
   ·exact⟨by omega,rfl⟩
   ·simp at h
 have LV:∀n,2≤n→ci ⟨base,[],n⟩:=fun n hn=>⟨fun j ds h=>⟨show j<n by have:=(N8 j ds h).1;omega,a7.2 fun d hd=>D.idsC_le hn (a7.1 (N8 j ds h).2 d hd)⟩,fun id e h=>by simp at h⟩
 have hokY:∀ky n,2≤n→ky<n→ci ⟨vq ky r.1++base,[],n⟩:=fun ky n hn hky=>by
  unfold vq
  split
  ·exact (LV n hn).consM hky (ep _)
  ·exact LV n hn
 have hY:∀ky j ds,2≤ky→base.lookup j=some ds→(vq ky r.1++base).lookup j=some ds:=fun ky j ds hky h=>by
  have:=(N8 j ds h).1
  unfold vq
  split
  ·exact ak (by omega) h
  ·exact h
 have hSA:=JZ (vs:=base) (lv:=[]) (N:=2) hS
 have hSB:=JZ (vs:=(2,dC ly)::base) (lv:=[]) (N:=3) hS
 have hS2:(vq (3+(7+8*(m+m))) r.1++(2,dC ly)::base).lookup 2=some (dC ly):=by
  unfold vq
  split
  ·exact ak (by omega) aa
  ·exact aa
 have fin1:∀{tm:List (Nat×D)} {vs2:List (Nat×List D)} {n2:Nat} (kx ky:Nat),kx<11+8*(m+m)→ky<11+8*(m+m)→11+8*(m+m)≤n2→(∀j ds,((kx,yH ky r.1)::(vq ky r.1++base)).lookup j=some ds→vs2.lookup j=some ds)→tm.lookup 3=some (.pt 0 0)→tm.lookup 6=some (.pt 1 0)→tm.lookup 9=some (.pt kx 0)→tm.lookup 10=some (dI .i64 r.2.1)→tm.lookup 11=some (dI .i64 r.2.2)→
   Wk cx tm ⟨vs2,[],n2⟩ [(3,.pt 0 0),(6,.pt 1 0),(9,.pt kx 0),(10,dI .i64 r.2.1),(11,dI .i64 r.2.2)] ⟨(kx,yH ky r.1)::(vq ky r.1++base),[],11+8*(m+m)⟩:=fun kx ky hkx hky FQ hl a b c d e=>
  wkS (by rw[vf];exact cl _) FQ ((hokY ky _ (by omega) hky).consM hkx (Kz hky)) hl (bE.cons (bE.cons (bE.cons (bE.cons (bE.cons bE.nil e rfl) d rfl) c (aA hkx)) b (aA (by omega))) a (aA (by omega)))
 rw[←lK]
 refine AW.joinE (α:=Nat×Nat) (fun a=>[(3,.pt 0 0),(6,.pt 1 0),(9,.pt a.1 0),(10,dI .i64 r.2.1),(11,dI .i64 r.2.2)]) (fun a=>⟨(a.1,yH a.2 r.1)::(vq a.2 r.1++base),[],11+8*(m+m)⟩) (fun a=>2≤a.1∧2≤a.2∧a.1≠a.2∧a.1<11+8*(m+m)∧a.2<11+8*(m+m)) ?_ ?_
 ·refine dw (DW.split 16 21 (by decide) ?_ ?_)
  ·refine dwg [74,75] [0,1,2,3,4,5,6,7,8,9,10,11,12,13,14,15,16,17,18,19,20,21,22,23,24] hx (by kernel_rfl) (by kernel_rfl) (by kernel_rfl) fun K hK=>?_
   dsimp only[d8,mE,mP,List.map]
   refine sa ?_
   refine c1 (rj (t:=0) rfl) ?_
   refine sa ?_
   rw[hmm]
   refine sa ?_
   refine c1 (rj (t:=1) rfl) ?_
   refine sa ?_
   refine c1 (rj (t:=2) rfl) ?_
   refine cq (Hd (l:=A) hA1) ?_
   refine s1 (d:=.ag (maC ((m+m:Nat):Int) nn (kI A))) (dT xG) ?_
   refine sa ?_
   refine cq (Hd (l:=B) SX) ?_
   refine sa ?_
   refine c1 (rj (t:=1) rfl) ?_
   refine cq (I6 (n:=nn) (by omega)) ?_
   refine s1 (d:=.ag (prC ((m+m:Nat):Int) nn (kI A) (kI B) (List.replicate nn (nOf 0)))) (dT uZ) ?_
   refine sa ?_
   refine q1 (sHC hSA rfl (.inr (Ns (by omega) (by omega)))) ?_
   refine sa ?_
   refine sa ?_
   refine sa ?_
   refine sa ?_
   refine a1 (F:=ly) tbI ?_
   refine v1 (F2:=yH (2+(7+8*(m+m))) r.1) (ys:=yH (2+(7+8*(m+m))) r.1) (Pt.all (F:=dC ly)) rfl rfl rfl ?_
   refine sa ?_
   refine sa ?_
   refine .nil (hK _ _ ⟨(2+(8+8*(m+m)),2+(7+8*(m+m))),⟨by omega,by omega,by omega,by omega,by omega⟩,?_⟩)
   refine fin1 _ _ (by omega) (by omega) (by omega) (fun j ds h=>?_) rfl rfl rfl rfl rfl
   rcases bY h with⟨rfl,rfl⟩|⟨hj,h⟩
   ·exact aa
   ·exact ak hj (ak hj h)
  ·refine dwg [74,75] [0,1,2,3,4,5,6,7,8,9,10,11,12,13,14,15,21,16,17,18,19,20,22,23,24] hx (by kernel_rfl) (by kernel_rfl) (by kernel_rfl) fun K hK=>?_
   dsimp only[d8,mE,mP,List.map]
   refine sa ?_
   refine c1 (rj (t:=0) rfl) ?_
   refine sa ?_
   rw[hmm]
   refine sa ?_
   refine c1 (rj (t:=1) rfl) ?_
   refine sa ?_
   refine c1 (rj (t:=2) rfl) ?_
   refine cq (Hd (l:=A) hA1) ?_
   refine s1 (d:=.ag (maC ((m+m:Nat):Int) nn (kI A))) (dT xG) ?_
   refine sa ?_
   refine cq (Hd (l:=B) SX) ?_
   refine sa ?_
   refine c1 (rj (t:=1) rfl) ?_
   refine cq (I6 (n:=nn) (by omega)) ?_
   refine s1 (d:=.ag (prC ((m+m:Nat):Int) nn (kI A) (kI B) (List.replicate nn (nOf 0)))) (dT uZ) ?_
   refine sa ?_
   refine a1 (F:=ly) tbI ?_
   refine q1 (sHC hSB rfl (.inr (Ns (by omega) (by omega)))) ?_
   refine sa ?_
   refine sa ?_
   refine sa ?_
   refine sa ?_
   refine v1 (F2:=yH (3+(7+8*(m+m))) r.1) (ys:=yH (3+(7+8*(m+m))) r.1) (Pt.all (F:=dC ly)) rfl rfl rfl ?_
   refine sa ?_
   refine sa ?_
   refine .nil (hK _ _ ⟨(2,3+(7+8*(m+m))),⟨by omega,by omega,by omega,by omega,by omega⟩,?_⟩)
   refine fin1 _ _ (by omega) (by omega) (by omega) (fun j ds h=>?_) rfl rfl rfl rfl rfl
   rcases bY h with⟨rfl,rfl⟩|⟨hj,h⟩
   ·exact aa
   ·exact ak hj (solW_in hj h)
 ·rintro⟨kx,ky⟩ ⟨w7,DB,hxy,Bf,hyl⟩
  dsimp only at w7 DB hxy Bf hyl ⊢
  have hokY1:=hokY ky _ (show 2≤11+8*(m+m) by omega) hyl
  have hY0:=hY ky 0 _ DB N9
  have hY1:=hY ky 1 _ DB fR
  have hKi:=Kz (a:=r.1) hyl
  refine AW.seq (rs hx fun K hK=>?_)
  iterate 3 refine sa ?_
  by_cases he:r.2.2≠0
  ·have ii:=heq.trans (ai (.inl he))
   have hKf:∃z,yH ky r.1=[dI .i64 r.1.kind,.e (slE au r.1.x),z,.e (slE au r.1.ray)]:=⟨_,rfl⟩
   obtain⟨z,hz⟩:=hKf
   rw[hz]
   iterate 3 refine gn (aA he) ?_
   refine s1 (d:=dB true) (oG (aA he)) ?_
   refine nl hK ?_
   refine AW.condT rfl rfl (rs hx fun K hK=>?_)
   refine sa ?_
   refine v1 (F2:=[dI .i64 r.1.kind,.e (slE au r.1.x),dN,.e (slE au r.1.ray)]) (ys:=[dN]) (Pt.cell (F:=[dI .i64 r.1.kind,.e (slE au r.1.x),z,.e (slE au r.1.ray)]) (t:=2) rfl) rfl rfl rfl ?_
   refine nl hK ?_
   refine rs hx fun K hK=>?_
   refine s2 (Ch (Pt.all (F:=[dI .i64 r.1.kind,.e (slE au r.1.x),dN,.e (slE au r.1.ray)])) aa (show kx<11+8*(m+m) by omega) qp rfl rfl rfl) (NP ⟨r.1.kind,r.1.x,[],r.1.ray⟩) ?_
   iterate 2 refine sa ?_
   refine v1 (F2:=rF ⟨r.1.kind,r.1.x,[],r.1.ray⟩) (ys:=rF ⟨r.1.kind,r.1.x,[],r.1.ray⟩) (Pt.all (F:=dC ly)) rfl rfl rfl ?_
   iterate 2 refine sa ?_
   refine nl hK ?_
   exact AW.ret (rtE vf ii aa (by omega))
  ·refine ga (bk he) ?_
   refine c1g (Pt.cell (t:=0) rfl) (bk he) ?_
   refine ga (bk he) ?_
   refine s1 (d:=dB (decide (r.1.kind≠2))) (lP (bk he)) ?_
   refine nl hK ?_
   refine AW.condS rfl (fun hb=>?_) (fun hb=>?_)
   ·have ii:=heq.trans (ai (.inr (bA hb)))
    have hKf:∃z,yH ky r.1=[dI .i64 r.1.kind,.e (slE au r.1.x),z,.e (slE au r.1.ray)]:=⟨_,rfl⟩
    obtain⟨z,hz⟩:=hKf
    rw[hz]
    refine rs hx fun K hK=>?_
    refine sa ?_
    refine v1 (F2:=[dI .i64 r.1.kind,.e (slE au r.1.x),dN,.e (slE au r.1.ray)]) (ys:=[dN]) (Pt.cell (F:=[dI .i64 r.1.kind,.e (slE au r.1.x),z,.e (slE au r.1.ray)]) (t:=2) rfl) rfl rfl rfl ?_
    refine nl hK ?_
    refine rs hx fun K hK=>?_
    refine s2 (Ch (Pt.all (F:=[dI .i64 r.1.kind,.e (slE au r.1.x),dN,.e (slE au r.1.ray)])) aa (show kx<11+8*(m+m) by omega) qp rfl rfl rfl) (NP ⟨r.1.kind,r.1.x,[],r.1.ray⟩) ?_
    iterate 2 refine sa ?_
    refine v1 (F2:=rF ⟨r.1.kind,r.1.x,[],r.1.ray⟩) (ys:=rF ⟨r.1.kind,r.1.x,[],r.1.ray⟩) (Pt.all (F:=dC ly)) rfl rfl rfl ?_
    iterate 2 refine sa ?_
    refine nl hK ?_
    exact AW.ret (rtE vf ii aa (by omega))
   ·have hk:r.1.kind=2:=Decidable.not_not.1 (de hb)
    have ii:=heq.trans (ah (by rintro (h|h);exact he h;exact h hk))
    obtain⟨hyl2,Fb,hray0,_⟩:=yB hk
    refine AW.skip ?_
    obtain⟨y,RU⟩:∃y,y=r.1.y:=⟨_,rfl⟩
    obtain⟨KC,hKC⟩:∃KC,KC=[dI .i64 2,.e (slE au []),.gw ky 36 (m+m),.e (slE au [])]:=⟨_,rfl⟩
    have hKe:yH ky r.1=KC:=by unfold yH;rw[ai hk,hk,Fb,hray0,hyl2,hKC]
    have hWe:vq ky r.1++base=(ky,dC ((cW au).f y))::base:=by unfold vq;rw[ai hk,RU];rfl
    have qC:KC[2]? =some (.gw ky 36 (m+m)):=by rw[hKC];rfl
    have hKl:KC.length=4:=by rw[hKC];rfl
    rw[hKe] at hKi
    rw[hKe,hWe]
    rw[hk,Fb,hray0,←RU] at ii
    rw[←RU] at hyl2
    have hokB:=LV (11+8*(m+m)) (by omega)
    refine rs hx fun K hK=>?_
    refine sa ?_
    refine c1 (Pt.cell qC) ?_
    refine sa ?_
    refine c1 (rj (t:=0) rfl) ?_
    refine sa ?_
    refine c1 (rj (t:=0) rfl) ?_
    refine q1 (sliceG tok ct aT rfl rfl rfl (by omega)) ?_
    refine sa ?_
    refine nl hK ?_
    refine AW.seq (rs hx fun K hK=>?_)
    refine sa ?_
    refine s1 (BD (k:=ky) (off:=0) (z:=36) ct aT rfl rfl) ?_
    refine sa ?_
    refine nl hK ?_
    refine AW.block (AW.loopW (fun i:Nat=>[(3,.pt 0 0),(6,.pt 1 0),(9,.pt kx 0),(10,dI .i64 r.2.1),(11,dI .i64 r.2.2),(12,.ow ky 0 36 m),(63,dI .i64 m),(64,dI .i64 i)]) (fun i=>⟨(ky,dC ((cW au).f (ylP y m i)))::(kx,KC)::base,[],11+8*(m+m)⟩) (fun i=>i≤m) (fun i=>m - i) 0 ?_ (cl _) ?_)
    ·exact wk1 vf
    ·intro i hi
     have hyi:(ylP y m i).length=m+m:=by rw[yZ];exact hyl2
     refine rs hx fun K hK=>?_
     refine sa ?_
     refine nl hK ?_
     refine AW.seq (AW.condS rfl (fun hb=>?_) (fun hb=>?_))
     ·have pC:i<m:=by have:=bA hb;omega
      refine AW.skip (AW.seq (AW.block (rs hx fun K hK=>?_)))
      iterate 2 refine sa ?_
      refine nl hK ?_
      refine rqd [76] hx fun K hK=>?_
      iterate 4 refine sa ?_
      refine i1 (i:=i) (n:=m) pC ?_
      refine l1 (Pt.el (ylP y m i) i (by omega)) ?_
      refine sa ?_
      refine c1 (Pt.cell qC) ?_
      refine sa ?_
      refine c1 (rj (t:=0) rfl) ?_
      iterate 2 refine sa ?_
      rw[qA (by omega)]
      refine stG (d:=.pt ky ((m+i)*36)) tok (iaN (k:=ky) (i:=m+i) (n:=m+m) (by omega) rfl rfl) ?_
      refine l1 (Pt.el (ylP y m i) (m+i) (by omega)) ?_
      refine cq (w_Sub _ _) ?_
      refine i1 (i:=i) (n:=m) pC ?_
      refine t1 (Pt.el (ylP y m i) i (by omega)) (Pt.el_set (ylP y m i) i (by omega) _) ?_
      refine nl hK ?_
      rw[show (ylP y m i).set i (HA (ylP y m i)[i]! (ylP y m i)[m+i]!)=ylP y m (i+1) from rfl]
      refine rq hx fun K hK=>?_
      iterate 2 refine sa ?_
      refine nl hK ?_
      rw[bS]
      exact⟨i+1,wk1 vf,pC,by omega⟩
     ·refine AW.exit ?_
      have pC:m=i:=by have:=de hb;omega
      subst pC
      obtain⟨ys,Pm⟩:∃ys,ys=(List.range m).map fun i=>HA y[i]! y[m+i]! :=⟨_,rfl⟩
      rw[←Pm] at ii
      have hysl:ys.length=m:=by rw[Pm];simp
      have Fc:E.sl 36 m (((cW au).f (ylP y m m)).take (m*36))=slE au ys:=by
       have h2:=jX au.f au.h (ylP y m m) m
       rw[ylP_all hyl2,←Pm] at h2
       show E.sl 36 m (((ylP y m m).flatMap au.f).take (m*36))=E.sl 36 ys.length (ys.flatMap au.f)
       rw[hysl,←h2]
       rfl
      have hfl:(((ky,dC ((cW au).f (ylP y m m)))::(kx,KC)::base).filter fun p=>!([ky]:List Nat).contains p.1)=(kx,KC)::base:=by
       rw[lK]
       have a1:¬kx=ky:=hxy
       have a2:¬1=ky:=by omega
       have a3:¬0=ky:=by omega
       simp[a1,a2,a3]
      have hfz:=WkS.frz2 (tm:=[(65,dB (decide ((m:Int)<(m:Int)))),(3,.pt 0 0),(6,.pt 1 0),(9,.pt kx 0),(10,dI .i64 r.2.1),(11,dI .i64 r.2.2),(12,.ow ky 0 36 m),(63,dI .i64 m),(64,dI .i64 m)]) (vs:=(ky,dC ((cW au).f (ylP y m m)))::(kx,KC)::base) (lv:=[]) (N:=11+8*(m+m)) (t:=12) (k:=ky) (z:=36) (n:=m) (F:=(cW au).f (ylP y m m)) (by decide) rfl aa (by
       have:((cW au).f (ylP y m m)).length=(ylP y m m).length*36:=ib au.f au.h _
       rw[this,hyi];omega)
      rw[hfl,Fc] at hfz
      refine AW.weak (tm':=(12,.e (slE au ys))::[(65,dB (decide ((m:Int)<(m:Int)))),(3,.pt 0 0),(6,.pt 1 0),(9,.pt kx 0),(10,dI .i64 r.2.1),(11,dI .i64 r.2.2),(12,.ow ky 0 36 m),(63,dI .i64 m),(64,dI .i64 m)]) (hp':=⟨(kx,KC)::base,[],11+8*(m+m)⟩) (fun _ _ hr=>hfz.rs hr) (AW.seq (rs hx fun K hK=>?_))
      refine sa ?_
      refine cq (OV (c:=ys) (by omega)) ?_
      refine sa ?_
      refine nl hK ?_
      refine AW.condS rfl (fun hb=>?_) (fun hb=>?_)
      ·have ii:=ii.trans (ah (by simpa using hb))
       refine rs hx fun K hK=>?_
       refine s2 (dT tbI) HJ ?_
       refine v1 (F2:=rF ⟨0,[],[],[]⟩) (ys:=rF ⟨0,[],[],[]⟩) (Pt.all (F:=dC ly)) rfl rfl rfl ?_
       iterate 2 refine sa ?_
       refine nl hK ?_
       exact AW.ret (rtE vf ii aa (by omega))
      ·have ii:=ii.trans (ai (by simpa using hb))
       refine AW.skip (rs hx fun K hK=>?_)
       iterate 2 refine sa ?_
       refine v1 (F2:=rF ⟨2,[],ys,[]⟩) (ys:=[.e (slE au ys)]) (Pt.cell qC) rfl rfl (by rw[hKC];rfl) ?_
       refine nl hK ?_
       refine rs hx fun K hK=>?_
       refine p1 (Pt.all (F:=rF ⟨2,[],ys,[]⟩)) rfl ?_
       refine sa ?_
       refine v1 (F2:=rF ⟨2,[],ys,[]⟩) (ys:=rF ⟨2,[],ys,[]⟩) (Pt.all (F:=dC ly)) rfl rfl rfl ?_
       iterate 2 refine sa ?_
       refine nl hK ?_
       exact AW.ret (rtE vf ii aa (by omega))
end
end
section
structure VS(a:fU)(b:List ao)(m nn:Nat):Prop where
 hr:a.vR=m
 hc:a.vC=nn
 hm:m≤1000
 hn:nn≤2000
 oA:okL a.vV
 oB:okL b
 lA:a.vV.length=m*nn
 lB:b.length=m
 l1:a.vV.length≤1000000
 gA:∀i,i<(kI (a.vV.map nU)).length→aw (kI (a.vV.map nU))[i]! =true
 gB:∀i,i<(kI (b.map nU)).length→aw (kI (b.map nU))[i]! =true
 v:gN ⟨⟨((m+m:Nat):Int),nn,(kI (a.vV.map nU)).map nv⟩,(kI (b.map nU)).map nv,(List.replicate nn (nOf 0)).map nv⟩=some true
open Classical in
def kW(aJ:fU)(aO:List ao)(kH:Int):Option (cC×Int×Int):=
 bnd (fI aJ aO) fun v=>if v=true∧0≤kH then
  if VS aJ aO aJ.vR.toNat aJ.vC.toNat∧kH≤9223372036854775807 then some (r6 (yD aJ.vR.toNat aJ.vC.toNat (aJ.vV.map nU) (aO.map nU) kH)) else none
 else some (r6 (⟨0,[],[],[]⟩,0,1))
theorem VS.cells {a:fU}{b:List ao}{m nn:Nat}(h:VS a b m nn):dG mJ a=.ag (maC m nn (a.vV.map nU))∧dL al b=.e (slE au (b.map nU)):=by
 unfold maC
 rw[kF,kF,tx h.oA,tx h.oB,←h.hr,←h.hc]
 exact⟨rfl,rfl⟩
theorem TH(R Cc:Int)(A B C:List Nu):dG dY ⟨⟨R,Cc,A.map nv⟩,B.map nv,C.map nv⟩=.ag (prC R Cc A B C):=by
 unfold prC
 rw[kF,kF,kF]
 rfl
theorem ar_eq(r:Ans×Int×Int):AR (eqH r) (eqD r) (.tu [dG jZ (r6 r).1,dI .i64 (r6 r).2.1,dI .i64 (r6 r).2.2]):=by
 have e:dG jZ (r6 r).1=.ag (rF r.1):=by
  unfold rF
  rw[kF,kF,kF];rfl
 rw[e]
 exact AR.tu ⟨AR.same rfl,AR.dn rfl,AR.dn rfl,trivial⟩
theorem SU {cs:List D}{b:E}{v:Bool}{most:Int}(hlen:cs.length=3)(hpu:(D.ag cs).pure=true)(hv:ar prog 73 [.ag cs,.e b] (dB v))(hbad:¬(v=true∧0≤most)):
  HC prog 21 [.ag cs,.e b,dI .i64 most] ⟨[],[],0⟩ (eqD (⟨0,[],[],[]⟩,0,1)) (eqH (⟨0,[],[],[]⟩,0,1)):=by
 refine HC.of (rs:=[.cell 6 29,.tmp 7,.tmp 8]) tok func21 rfl rfl (bc rfl) rfl (fun cx hx vf hok=>?_)
 simp only[fj,Nat.reduceAdd,bp]
 refine rs hx fun K hK=>?_
 refine s1 (gF (cs:=cs)) ?_
 refine a1 (F:=ly) tbI ?_
 iterate 2 refine sa ?_
 refine nl hK ?_
 refine AW.seq (rs hx fun K hK=>?_)
 refine p1 (ht:=xG) (Pt.all (F:=cs)) hlen ?_
 refine sa ?_
 refine q1 (sHC (HC.frz (ds:=[.ag cs,.e b]) hv ⟨AR.same hpu,AR.same rfl,trivial⟩ rfl) rfl (.inr (Fr.refl _))) ?_
 iterate 2 refine sa ?_
 cases v with
 |false=>
  iterate 2 refine gn rfl ?_
  refine s1 (d:=dB true) (oG rfl) ?_
  refine nl hK ?_
  refine AW.condT rfl rfl (rs hx fun K hK=>?_)
  refine s2 (dT tbI) HJ ?_
  refine v1 (F2:=rF ⟨0,[],[],[]⟩) (ys:=rF ⟨0,[],[],[]⟩) (Pt.all (F:=dC ly)) rfl rfl rfl ?_
  iterate 2 refine sa ?_
  refine nl hK ?_
  exact AW.ret (rtE vf rfl aa (by omega))
 |true=>
  iterate 2 refine ga rfl ?_
  refine s1 (d:=dB (decide (most<0))) (lP rfl) ?_
  refine nl hK ?_
  refine AW.condT rfl (aA (by simp only[true_and] at hbad;omega)) (rs hx fun K hK=>?_)
  refine s2 (dT tbI) HJ ?_
  refine v1 (F2:=rF ⟨0,[],[],[]⟩) (ys:=rF ⟨0,[],[],[]⟩) (Pt.all (F:=dC ly)) rfl rfl rfl ?_
  iterate 2 refine sa ?_
  refine nl hK ?_
  exact AW.ret (rtE vf rfl aa (by omega))
theorem uW {aJ:fU}{aO:List ao}{kH:Int}{r:cC×Int×Int}(h:kW aJ aO kH=some r):ar prog 21 [dG mJ aJ,dL al aO,dI .i64 kH] (.tu [dG jZ r.1,dI .i64 r.2.1,dI .i64 r.2.2]):=by
 unfold kW at h
 obtain⟨v,hv,h⟩:=ae h
 have hv:=qU hv
 by_cases hg:v=true∧0≤kH
 ·rw[ai hg] at h
  by_cases hq:VS aJ aO aJ.vR.toNat aJ.vC.toNat∧kH≤9223372036854775807
  ·rw[ai hq] at h
   have h:=bB h
   subst h
   obtain⟨hq,DH⟩:=hq
   have hV:=qc hq.v
   rw[TH] at hV
   rw[hg.1] at hv
   rw[hq.cells.1,hq.cells.2] at hv ⊢
   have h2:=h_Equal (most:=kH) hv hV hq.hm hq.hn (by rw[bh];exact hq.lA) (by rw[bh];exact hq.lB) hq.gA hq.gB (by rw[bh];exact hq.l1) hg.2 DH
   exact HC.toP h2 (ar_eq _)
  ·rw[ah hq] at h;cases h
 ·rw[ah hg] at h
  have h:=bB h
  subst h
  have h2:=SU (cs:=dC (mJ.f aJ)) (b:=slE al aO) ((er _).trans (mJ.h aJ)) (kG mJ aJ) hv hg
  exact HC.toP h2 (ar_eq _)
end
end
end Go.Proofs.YtaedcknhkjpmlaaGreat
