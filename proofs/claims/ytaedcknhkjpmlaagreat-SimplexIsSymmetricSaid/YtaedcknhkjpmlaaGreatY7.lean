/-
  Lemmas, part 7. Conditions: none.
-/
import Derived.Test.YtaedcknhkjpmlaaGreatY6
set_option linter.all false
set_option maxRecDepth 100000
set_option maxHeartbeats 8000000
namespace Go.Proofs.YtaedcknhkjpmlaaGreat
open Go.RowKit Go.IntKind Tryz
noncomputable section
structure fM where
 vR:Int
 vC:Int
 vV:List am
 deriving Inhabited,DecidableEq
def mQ:Cd fM:=⟨3,fun x=>[.lit (.int .i64 x.vR),.lit (.int .i64 x.vC),slE ak x.vV],fun _=>rfl⟩
structure a7 where
 vA:fM
 vB:List am
 vC:List am
 deriving Inhabited,DecidableEq
def d9:Cd a7:=⟨5,fun x=>mQ.f x.vA++[slE ak x.vB,slE ak x.vC],fun x=>by simp[mQ.h,show mQ.sz=3 from rfl]⟩
structure cH where
 vKind:Int
 vX:List am
 vY:List am
 vRay:List am
 deriving Inhabited,DecidableEq
def kg:Cd cH:=⟨4,fun x=>[.lit (.int .i64 x.vKind),slE ak x.vX,slE ak x.vY,slE ak x.vRay],fun _=>rfl⟩
def fU(aK:fM)(jR:Int):Option Bool:=bnd (S:=Bool) (cnd (decide ((0:Int)≤aK.vR)) (cnd (decide ((0:Int)≤aK.vC)) (cnd (decide (aK.vR≤jR)) (cnd (decide (aK.vC≤(2000:Int))) (cnd (decide (((aK.vV).length:Int)=(i64.wrap (aK.vR*aK.vC)))) (bnd (cZ aK.vV) fun x6=>some (x6)) (some (false))) (some (false))) (some (false))) (some (false))) (some (false))) fun br=>some br
theorem rA {aK:fM}{jR:Int}{r:Bool}(h:fU aK jR=some r):ar prog 61 [dG mQ aK,dI .i64 jR] (dB r):=by
 refine bn (rs:=[.tmp 4]) (fun cx hx h0=>?_) func61
 unfold fU at h
 refine rs hx fun K hK=>?_
 refine s1 (d:=.pt 0 0) gP ?_
 refine nbr hK ?_
 refine AW.seq ?_
 obtain⟨br,hy,h⟩:=ae h
 refine jn ((PE cx .normal (fun br=>[(4,dB br)]) fun br=>⟨[],[],0⟩) br) ?_ ?_
 replace h:=hy
 refine rq hx fun K hK=>?_
 refine mbr ?_
 rcases aF h with⟨f4,h⟩|⟨f4,h⟩
 refine mbr ?_
 rcases aF h with⟨CC,h⟩|⟨CC,h⟩
 refine mbr ?_
 rcases aF h with⟨fZ,h⟩|⟨fZ,h⟩
 refine mbr ?_
 rcases aF h with⟨FU,h⟩|⟨FU,h⟩
 refine mbr ?_
 rcases aF h with⟨rW,h⟩|⟨rW,h⟩
 refine ga rW ?_
 refine gbr ?_
 refine gcb h fP fun x6 h=>?_
 refine nbr hK ?_
 exact pe1 h h0 []
 refine nbr hK ?_
 exact pe1 h h0 []
 refine nbr hK ?_
 exact pe1 h h0 []
 refine nbr hK ?_
 exact pe1 h h0 []
 refine nbr hK ?_
 exact pe1 h h0 []
 refine nbr hK ?_
 exact pe1 h h0 []
 refine lw0 ?_
 exact AW.ret (rtv h)
def gX(m8:a7):Option Bool:=bnd (S:=Bool) (bnd (fU m8.vA (2000:Int)) fun x1=>cnd x1 (cnd (decide (((m8.vB).length:Int)=m8.vA.vR)) (cnd (decide (((m8.vC).length:Int)=m8.vA.vC)) (bnd (cZ m8.vB) fun x6=>cnd x6 (bnd (cZ m8.vC) fun x9=>some (x9)) (some (false))) (some (false))) (some (false))) (some (false))) fun br=>some br
theorem qx {m8:a7}{r:Bool}(h:gX m8=some r):ar prog 15 [dG d9 m8] (dB r):=by
 refine bn (rs:=[.tmp 2]) (fun cx hx h0=>?_) func15
 unfold gX at h
 refine rs hx fun K hK=>?_
 refine s1 (d:=.pt 0 0) gP ?_
 refine nbr hK ?_
 refine AW.seq ?_
 obtain⟨br,hy,h⟩:=ae h
 refine jn ((PE cx .normal (fun br=>[(2,dB br)]) fun br=>⟨[],[],0⟩) br) ?_ ?_
 replace h:=hy
 refine rq hx fun K hK=>?_
 refine sa ?_
 refine s1 (d:=dG mQ m8.vA) (T_ldA wB) ?_
 refine scb h rA fun x1 h=>?_
 refine sa ?_
 rcases aF h with⟨fZ,h⟩|⟨fZ,h⟩
 refine mbr ?_
 rcases aF h with⟨FU,h⟩|⟨FU,h⟩
 refine mbr ?_
 rcases aF h with⟨rW,h⟩|⟨rW,h⟩
 refine ga rW ?_
 refine gbr ?_
 refine gcb h fP fun x6 h=>?_
 refine mbr ?_
 rcases aF h with⟨t7,h⟩|⟨t7,h⟩
 refine ga t7 ?_
 refine gbr ?_
 refine gcb h fP fun x9 h=>?_
 refine nbr hK ?_
 exact pe1 h h0 []
 refine nbr hK ?_
 exact pe1 h h0 []
 refine nbr hK ?_
 exact pe1 h h0 []
 refine nbr hK ?_
 exact pe1 h h0 []
 refine nbr hK ?_
 exact pe1 h h0 []
 refine lw0 ?_
 exact AW.ret (rtv h)
def g7(oa:List am)(aZ:List am):Int×am→Option ((Int×am)⊕am):=fun (aT,uo)=>cnd (decide (aT<((oa).length:Int))) (gd (0≤aT∧aT<((oa).length:Int)) (gd (0≤aT∧aT<((aZ).length:Int)) (bnd (fB ((oa)[(aT).toNat]!) ((aZ)[(aT).toNat]!)) fun sL=>bnd (ik uo sL) fun qw=>some (.inl (i64.wrap (aT+(1:Int)),qw))))) (some (.inr uo))
def b9(oa:List am)(aZ:List am):Option am:=cnd (decide (((oa).length:Int)≠((aZ).length:Int))) (bnd (fC) fun x2=>some x2) (bnd (mp (0:Int)) fun x4=>bnd (bo (g7 oa aZ) ((0:Int),x4)) fun jz=>some jz)
theorem er {oa:List am}{aZ:List am}{r:am}(h:b9 oa aZ=some r):ar prog 17 [dL ak oa,dL ak aZ] (dG ak r):=by
 refine bn (rs:=[.cell 4 43]) (fun cx hx h0=>?_) func17
 unfold b9 at h
 refine rar hx ?_
 refine AW.seq (ra hx ?_)
 refine cdh h rfl (fun f4 h=>?_) (fun f4 h=>?_)
 refine rs hx fun K hK=>?_
 refine scb h l8 fun x2 h=>?_
 refine nbr hK ?_
 exact AW.ret (rtv h)
 refine AW.skip (rs hx fun K hK=>?_)
 refine scb h yK fun x4 h=>?_
 refine nbr hK ?_
 refine AW.seq (ra hx ?_)
 refine AW.block ?_
 obtain⟨jz,hy,h⟩:=ae h
 refine lp (S:=Int×am) (X:=am) (fun (aT,uo)=>[(0,dL ak oa),(1,dL ak aZ),(4,.pt 0 0),(5,.pt 1 0),(15,dI .i64 ((oa).length:Int)),(16,dI .i64 aT)]) (fun (aT,uo)=>⟨[(0,dC (ak.f kJ)),(1,dC (ak.f uo))],[],2⟩) (PE cx (.exit 0) (fun jz=>[(4,.pt 0 0),(5,.pt 1 0)]) fun jz=>⟨[(0,dC (ak.f kJ)),(1,dC (ak.f jz))],[],2⟩) hy ?_ ?_ ?_
 exact wk0 h0 [0,1]
 clear hy h
 rintro⟨aT,uo⟩ y h
 dsimp only[g7] at h
 refine ra hx ?_
 refine AW.seq (cdh h rfl (fun rp h=>?_) (fun rp h=>?_))
 refine AW.skip (AW.seq (AW.block (ra hx ?_)))
 refine rqd [29,66] hx fun K hK=>?_
 iterate 3 refine sbr ?_
 obtain⟨hc7,h⟩:=aA h
 have Q1:(aT).toNat<(oa).length:=by omega
 refine sbr ?_
 refine s1 (d:=dG ak ((oa)[(aT).toNat]!)) (jA (c:=ak) (l:=oa) (n:=(aT).toNat) (o:=0) aO Q1 (e8 _ _ rfl)) ?_
 iterate 2 refine sa ?_
 obtain⟨hc9,h⟩:=aA h
 have S2:(aT).toNat<(aZ).length:=by omega
 refine sbr ?_
 refine s1 (d:=dG ak ((aZ)[(aT).toNat]!)) (jA (c:=ak) (l:=aZ) (n:=(aT).toNat) (o:=0) aO S2 (e8 _ _ rfl)) ?_
 refine cqb h pZ fun sL h=>?_
 refine cqb h ww fun qw h=>?_
 refine nbr hK ?_
 refine rb hx ?_
 exact pel h h0 [0,1]
 exact AW.exit (per h h0 [0,1])
 refine lw0 ?_
 refine rar hx ?_
 exact AW.ret (rtv h)
def fh(aZ:am):Option Bool:=bnd (S:=Bool) (bnd (aW aZ) fun x1=>cnd (!x1) (some (true)) (bnd (kV aZ) fun x4=>some (decide (x4<(0:Int))))) fun br=>some br
theorem ux {aZ:am}{r:Bool}(h:fh aZ=some r):ar prog 139 [dG ak aZ] (dB r):=by
 refine bn (rs:=[.tmp 2]) (fun cx hx h0=>?_) func139
 unfold fh at h
 refine ra hx ?_
 refine AW.seq ?_
 obtain⟨br,hy,h⟩:=ae h
 refine jn ((PE cx .normal (fun br=>[(2,dB br)]) fun br=>⟨[],[],0⟩) br) ?_ ?_
 replace h:=hy
 refine rq hx fun K hK=>?_
 refine mbr ?_
 refine scb h cj fun x1 h=>?_
 refine mbr ?_
 rcases aF h with⟨fZ,h⟩|⟨fZ,h⟩
 refine nbr hK ?_
 exact pe1 h h0 []
 refine gbr ?_
 refine gcb h uC fun x4 h=>?_
 refine nbr hK ?_
 exact pe1 h h0 []
 refine lw0 ?_
 exact AW.ret (rtv h)
def aM(v6:List am):Int→Option (Int⊕(Int⊕Unit)):=fun aD=>cnd (decide (aD<((v6).length:Int))) (gd (0≤aD∧aD<((v6).length:Int)) (bnd (fh ((v6)[(aD).toNat]!)) fun x4=>cnd x4 (some (.inr (.inl aD))) (some (.inl (i64.wrap (aD+(1:Int))))))) (some (.inr (.inr ())))
def bh(v6:List am):Option Int:=bnd (bo (aM v6) (0:Int)) fun y7=>match y7 with| .inl r=>some r| .inr ()=>some (-1:Int)
theorem gD {v6:List am}{r:Int}(h:bh v6=some r):ar prog 106 [dL ak v6,.e (.lit (.func (.func 139) #[] #[]))] (dI .i64 r):=by
 refine bn (rs:=[.tmp 4]) (fun cx hx h0=>?_) func106
 unfold bh at h
 refine ra hx ?_
 refine AW.seq (ra hx ?_)
 refine AW.block ?_
 obtain⟨y,hy,h⟩:=ae h
 refine lp (S:=Int) (X:=Int⊕Unit) (fun aD=>[(0,dL ak v6),(1,.e (.lit (.func (.func 139) #[] #[]))),(7,dI .i64 ((v6).length:Int)),(8,dI .i64 aD)]) (fun aD=>⟨[],[],0⟩) (PS (PR [.tmp 4] fun r=>dI .i64 r) (PE cx (.exit 0) (fun ()=>[]) fun ()=>⟨[],[],0⟩)) hy ?_ ?_ ?_
 exact wk0 h0 []
 clear hy h
 rintro aD y h
 dsimp only[aM] at h
 refine ra hx ?_
 refine AW.seq (cdh h rfl (fun f4 h=>?_) (fun f4 h=>?_))
 refine AW.skip (AW.seq (AW.block (ra hx ?_)))
 refine rs hx fun K hK=>?_
 iterate 3 refine sa ?_
 obtain⟨qU,h⟩:=aA h
 have xT:(aD).toNat<(v6).length:=by omega
 refine sbr ?_
 refine s1 (d:=dG ak ((v6)[(aD).toNat]!)) (jA (c:=ak) (l:=v6) (n:=(aD).toNat) (o:=0) aO xT (e8 _ _ rfl)) ?_
 refine scb h ux fun x4 h=>?_
 refine nl hK ?_
 refine cdh h rfl (fun rp h=>?_) (fun rp h=>?_)
 refine ra hx ?_
 refine AW.ret ?_
 cases h
 refine PS.r ⟨by nofun,PS.l (PR.i ?_)⟩
 exact rv1
 refine AW.skip (rb hx ?_)
 exact pel h h0 []
 exact AW.exit (peq h h0 [])
 rcases y with r|⟨⟩
 rintro ex tm' hp' ⟨rfl,hw⟩
 cases h
 exact hw
 refine lwr ?_
 refine ra hx ?_
 exact AW.ret (rtv h)
def aN(v6:List am):Option Bool:=bnd (bh v6) fun x1=>some (decide ((0:Int)≤x1))
theorem fO {v6:List am}{r:Bool}(h:aN v6=some r):ar prog 119 [dL ak v6,.e (.lit (.func (.func 139) #[] #[]))] (dB r):=by
 refine bn (rs:=[.tmp 4]) (fun cx hx h0=>?_) func119
 unfold aN at h
 refine ra hx ?_
 refine rs hx fun K hK=>?_
 refine mbr ?_
 refine scb h gD fun x1 h=>?_
 refine nbr hK ?_
 exact AW.ret (rtv h)
def ej(eA:List am)(cU:Int):Option Bool:=bnd (S:=Bool) (cnd (decide (((eA).length:Int)=cU)) (bnd (aN eA) fun x2=>some (!x2)) (some (false))) fun br=>some br
theorem l7 {eA:List am}{cU:Int}{r:Bool}(h:ej eA cU=some r):ar prog 80 [dL ak eA,dI .i64 cU] (dB r):=by
 refine bn (rs:=[.tmp 4]) (fun cx hx h0=>?_) func80
 unfold ej at h
 refine ra hx ?_
 refine AW.seq ?_
 obtain⟨br,hy,h⟩:=ae h
 refine jn ((PE cx .normal (fun br=>[(4,dB br)]) fun br=>⟨[],[],0⟩) br) ?_ ?_
 replace h:=hy
 refine rq hx fun K hK=>?_
 refine mbr ?_
 rcases aF h with⟨f4,h⟩|⟨f4,h⟩
 refine ga f4 ?_
 refine gcb h fO fun x2 h=>?_
 refine nbr hK ?_
 exact pe1 h h0 []
 refine nbr hK ?_
 exact pe1 h h0 []
 refine lw0 ?_
 exact AW.ret (rtv h)
def fT(aK:fM)(aQ:List am):Option Bool:=bnd (S:=Bool) (bnd (fU aK (1000:Int)) fun x1=>cnd x1 (cnd (decide (((aQ).length:Int)=aK.vR)) (bnd (cZ aQ) fun x5=>some (x5)) (some (false))) (some (false))) fun br=>some br
theorem ry {aK:fM}{aQ:List am}{r:Bool}(h:fT aK aQ=some r):ar prog 73 [dG mQ aK,dL ak aQ] (dB r):=by
 refine bn (rs:=[.tmp 4]) (fun cx hx h0=>?_) func73
 unfold fT at h
 refine rs hx fun K hK=>?_
 refine s1 (d:=.pt 0 0) gP ?_
 refine nbr hK ?_
 refine AW.seq ?_
 obtain⟨br,hy,h⟩:=ae h
 refine jn ((PE cx .normal (fun br=>[(4,dB br)]) fun br=>⟨[],[],0⟩) br) ?_ ?_
 replace h:=hy
 refine rq hx fun K hK=>?_
 refine s1 (d:=dG mQ aK) (T_ldA wB) ?_
 refine scb h rA fun x1 h=>?_
 refine sa ?_
 rcases aF h with⟨fZ,h⟩|⟨fZ,h⟩
 refine mbr ?_
 rcases aF h with⟨FU,h⟩|⟨FU,h⟩
 refine ga FU ?_
 refine gcb h fP fun x5 h=>?_
 refine nbr hK ?_
 exact pe1 h h0 []
 refine nbr hK ?_
 exact pe1 h h0 []
 refine nbr hK ?_
 exact pe1 h h0 []
 refine lw0 ?_
 exact AW.ret (rtv h)
def i7(aK:fM)(R4:Int):Option (List am):=gd (0≤i64.wrap (R4*aK.vC)∧i64.wrap (R4*aK.vC)≤i64.wrap ((i64.wrap (R4+(1:Int)))*aK.vC)∧i64.wrap ((i64.wrap (R4+(1:Int)))*aK.vC)≤((aK.vV).length:Int)) (some (CU aK.vV (i64.wrap (R4*aK.vC)) (i64.wrap ((i64.wrap (R4+(1:Int)))*aK.vC))))
theorem vt {aK:fM}{R4:Int}{r:List am}(h:i7 aK R4=some r):ar prog 82 [dG mQ aK,dI .i64 R4] (dL ak r):=by
 refine bn (rs:=[.tmp 4]) (fun cx hx h0=>?_) func82
 unfold i7 at h
 refine rs hx fun K hK=>?_
 refine s1 (d:=.pt 0 0) gP ?_
 refine s1 (d:=dO 1 ak ([]:List am)) (gz bZ aO) ?_
 refine nl hK ?_
 refine rs hx fun K hK=>?_
 iterate 11 refine sbr ?_
 obtain⟨OR,h⟩:=aA h
 refine s1 (T_sl (c:=ak) (l:=aK.vV) (a:=i64.wrap (R4*aK.vC)) (b:=i64.wrap ((i64.wrap (R4+(1:Int)))*aK.vC)) OR bZ aO) ?_
 refine nbr hK ?_
 exact AW.ret (rtv h)
def py(oa:Int):Option Bool:=some (decide (oa≤(0:Int)))
theorem AX {oa:Int}{r:Bool}(h:py oa=some r):ar prog 132 [dI .i64 oa] (dB r):=by
 refine bn (rs:=[.tmp 2]) (fun cx hx h0=>?_) func132
 unfold py at h
 iterate 2 refine ra hx ?_
 exact AW.ret (rtv h)
def bx(aK:fM)(aZ:List am)(cf:List am):Int→Option (Int⊕(Bool⊕Unit)):=fun aD=>cnd (decide (aD<((cf).length:Int))) (gd (0≤aD∧aD<((cf).length:Int)) (bnd (i7 aK aD) fun x4=>bnd (b9 x4 aZ) fun x6=>bnd (S:=Bool) (bnd (aW x6) fun x8=>cnd (!x8) (some (true)) (bnd (jt x6 ((cf)[(aD).toNat]!)) fun sL=>bnd (py sL) fun qw=>some (!qw))) fun mR=>cnd mR (some (.inr (.inl false))) (some (.inl (i64.wrap (aD+(1:Int))))))) (some (.inr (.inr ())))
def be(aK:fM)(aZ:List am)(cf:List am):Option Bool:=bnd (bo (bx aK aZ cf) (0:Int)) fun y17=>match y17 with| .inl r=>some r| .inr ()=>some true
theorem jc {aK:fM}{aZ:List am}{cf:List am}{r:Bool}(h:be aK aZ cf=some r):ar prog 81 [.e (.lit (.func (.func 82) #[] #[])),dG mQ aK,dL ak aZ,dL ak cf,.e (.lit (.func (.func 132) #[] #[]))] (dB r):=by
 refine bn (rs:=[.tmp 10]) (fun cx hx h0=>?_) func81
 unfold be at h
 refine rs hx fun K hK=>?_
 refine s1 (d:=.pt 0 0) gP ?_
 refine nbr hK ?_
 refine AW.seq (ra hx ?_)
 refine AW.block ?_
 obtain⟨y,hy,h⟩:=ae h
 refine lp (S:=Int) (X:=Bool⊕Unit) (fun aD=>[(0,.e (.lit (.func (.func 82) #[] #[]))),(2,dL ak aZ),(4,.e (.lit (.func (.func 132) #[] #[]))),(6,.pt 0 0),(14,dL ak cf),(15,dI .i64 ((cf).length:Int)),(16,dI .i64 aD)]) (fun aD=>⟨[(0,[dI .i64 aK.vR,dI .i64 aK.vC,dL ak aK.vV])],[],1⟩) (PS (PR [.tmp 10] fun r=>dB r) (PE cx (.exit 0) (fun ()=>[]) fun ()=>⟨[],[],0⟩)) hy ?_ ?_ ?_
 exact wk0 h0 [0]
 clear hy h
 rintro aD y h
 dsimp only[bx] at h
 refine ra hx ?_
 refine AW.seq (cdh h rfl (fun f4 h=>?_) (fun f4 h=>?_))
 refine AW.skip (AW.seq (AW.block (rs hx fun K hK=>?_)))
 refine sa ?_
 obtain⟨qU,h⟩:=aA h
 have xT:(aD).toNat<(cf).length:=by omega
 refine sbr ?_
 refine s1 (d:=dG ak ((cf)[(aD).toNat]!)) (jA (c:=ak) (l:=cf) (n:=(aD).toNat) (o:=0) aO xT (e8 _ _ rfl)) ?_
 refine nbr hK ?_
 refine rs hx fun K hK=>?_
 refine sa ?_
 refine s1 (d:=dG mQ aK) (T_ldA wB) ?_
 refine sa ?_
 refine scb h vt fun x4 h=>?_
 refine sa ?_
 refine scb h er fun x6 h=>?_
 refine nbr hK ?_
 refine AW.seq ?_
 obtain⟨mR,hy,h⟩:=ae h
 refine jn ((PE cx .normal (fun mR=>[(0,.e (.lit (.func (.func 82) #[] #[]))),(2,dL ak aZ),(4,.e (.lit (.func (.func 132) #[] #[]))),(6,.pt 0 0),(14,dL ak cf),(15,dI .i64 ((cf).length:Int)),(16,dI .i64 aD),(37,dB mR)]) fun mR=>⟨[(0,[dI .i64 aK.vR,dI .i64 aK.vC,dL ak aK.vV])],[],1⟩) mR) ?_ ?_
 replace h:=hy
 refine rq hx fun K hK=>?_
 refine mbr ?_
 refine scb h cj fun x8 h=>?_
 refine mbr ?_
 rcases aF h with⟨nG,h⟩|⟨nG,h⟩
 refine nbr hK ?_
 exact pe1 h h0 [0]
 refine ga nG ?_
 iterate 2 refine gbr ?_
 refine gcb h sQ fun sL h=>?_
 refine gcb h AX fun qw h=>?_
 refine nbr hK ?_
 exact pe1 h h0 [0]
 refine lw0 ?_
 refine cdh h rfl (fun tz h=>?_) (fun tz h=>?_)
 refine ra hx ?_
 refine AW.ret ?_
 cases h
 refine PS.r ⟨by nofun,PS.l (PR.i ?_)⟩
 exact rv1
 refine AW.skip (rb hx ?_)
 exact pel h h0 [0]
 exact AW.exit (peq h h0 [])
 rcases y with r|⟨⟩
 rintro ex tm' hp' ⟨rfl,hw⟩
 cases h
 exact hw
 refine lwr ?_
 refine ra hx ?_
 exact AW.ret (rtv h)
def dW(aZ:List am)(aQ:List am)(oT:a7):Option Bool:=bnd (S:=Bool) (bnd (ej aZ oT.vA.vC) fun x1=>cnd x1 (bnd (be oT.vA aZ aQ) fun x4=>some (x4)) (some (false))) fun br=>some br
theorem lI {aZ:List am}{aQ:List am}{oT:a7}{r:Bool}(h:dW aZ aQ oT=some r):HC prog 131 [dL ak aZ,dL ak aQ,.pt 0 0] ⟨[(0,[dI .i64 oT.vA.vR,dI .i64 oT.vA.vC,dL ak oT.vA.vV,dL ak oT.vB,dL ak oT.vC])],[],1⟩ (dB r) ⟨[(0,[dI .i64 oT.vA.vR,dI .i64 oT.vA.vC,dL ak oT.vA.vV,dL ak oT.vB,dL ak oT.vC])],[],1⟩:=by
 refine HC.of (rs:=[.tmp 5]) tok func131 rfl rfl (bi rfl) rfl (fun cx hx h1 hok=>?_)
 have h0:cx.hp0.next=1:=by rw[h1]
 simp only[fG,Nat.reduceAdd,bt]
 unfold dW at h
 refine ra hx ?_
 refine AW.seq ?_
 obtain⟨br,hy,h⟩:=ae h
 refine jn ((PE cx .normal (fun br=>[(5,dB br)]) fun br=>⟨[(0,[dI .i64 oT.vA.vR,dI .i64 oT.vA.vC,dL ak oT.vA.vV,dL ak oT.vB,dL ak oT.vC])],[],1⟩) br) ?_ ?_
 replace h:=hy
 refine rq hx fun K hK=>?_
 refine mbr ?_
 refine scb h l7 fun x1 h=>?_
 refine sa ?_
 rcases aF h with⟨fZ,h⟩|⟨fZ,h⟩
 refine ga fZ ?_
 refine g1 (d:=dG mQ oT.vA) fZ (T_ldA wB) ?_
 iterate 2 refine ga fZ ?_
 refine gcb h jc fun x4 h=>?_
 refine nbr hK ?_
 cases h
 exact PE.i (wkN h0 [] (wR rfl wTn) (vR rfl wVn) wLn)
 refine nbr hK ?_
 cases h
 exact PE.i (wkN h0 [] (wR rfl wTn) (vR rfl wVn) wLn)
 refine lw0 ?_
 refine AW.ret ?_
 cases h
 exact rH1 (wkN h0 [] (wR rfl wTn) (vR rfl wVn) wLn)
def fJ(aK:fM)(vH:Int):(List am)×Int→Option (((List am)×Int)⊕((List am))):=fun (aP,bq)=>cnd (decide (bq<aK.vR)) (gd (0≤i64.wrap ((i64.wrap (bq*aK.vC))+vH)∧i64.wrap ((i64.wrap (bq*aK.vC))+vH)<((aK.vV).length:Int)) (gd ((aP++[(aK.vV)[(i64.wrap ((i64.wrap (bq*aK.vC))+vH)).toNat]!]).length*136≤140737488355328) (some (.inl (aP++[(aK.vV)[(i64.wrap ((i64.wrap (bq*aK.vC))+vH)).toNat]!],i64.wrap (bq+(1:Int))))))) (some (.inr aP))
def iC(aK:fM)(vH:Int):Option (List am):=bnd (bo (fJ aK vH) (([]:List am),(0:Int))) fun bf=>some bf
theorem yI {aK:fM}{vH:Int}{r:List am}(h:iC aK vH=some r):ar prog 84 [dG mQ aK,dI .i64 vH] (.own 43 ak.sz r.length (r.flatMap ak.f)):=by
 refine bn (rs:=[.tmp 4]) (fun cx hx h0=>?_) func84
 unfold iC at h
 refine rs hx fun K hK=>?_
 refine s1 (d:=.pt 0 0) gP ?_
 refine s1 (d:=dO 1 ak ([]:List am)) (gz bZ aO) ?_
 refine nl hK ?_
 refine rs hx fun K hK=>?_
 refine s1 (d:=dO 2 ak ([]:List am)) (gz bZ aO) ?_
 refine nl hK ?_
 refine AW.seq (rar hx ?_)
 refine AW.block ?_
 obtain⟨bf,hy,h⟩:=ae h
 refine lp (S:=(List am)×Int) (X:=(List am)) (fun (aP,bq)=>[(1,dI .i64 vH),(2,.pt 0 0),(5,dO 1 ak aP),(8,dI .i64 aK.vR),(9,dI .i64 bq)]) (fun (aP,bq)=>⟨[(0,[dI .i64 aK.vR,dI .i64 aK.vC,dL ak aK.vV])],[(1,(aP).length,36,43)],2⟩) (PE cx (.exit 0) (fun bf=>[(5,dO 0 ak bf)]) fun bf=>⟨[],[(0,(bf).length,36,43)],1⟩) hy ?_ ?_ ?_
 exact wk0 h0 [0,2]
 clear hy h
 rintro⟨aP,bq⟩ y h
 dsimp only[fJ] at h
 refine ra hx ?_
 refine AW.seq (cdh h rfl (fun f4 h=>?_) (fun f4 h=>?_))
 refine AW.skip (AW.seq (AW.block (ra hx ?_)))
 refine rq hx fun K hK=>?_
 iterate 9 refine sbr ?_
 obtain⟨qU,h⟩:=aA h
 have xT:(i64.wrap ((i64.wrap (bq*aK.vC))+vH)).toNat<(aK.vV).length:=by omega
 refine sbr ?_
 refine s1 (d:=dG ak ((aK.vV)[(i64.wrap ((i64.wrap (bq*aK.vC))+vH)).toNat]!)) (jA (c:=ak) (l:=aK.vV) (n:=(i64.wrap ((i64.wrap (bq*aK.vC))+vH)).toNat) (o:=0) aO xT (e8 _ _ rfl)) ?_
 refine s1 (lh ([(aK.vV)[(i64.wrap ((i64.wrap (bq*aK.vC))+vH)).toNat]!]:List am) ak bZ aO) ?_
 obtain⟨OQ,h⟩:=aA h
 refine s1 (d:=dO 1 ak (aP++[(aK.vV)[(i64.wrap ((i64.wrap (bq*aK.vC))+vH)).toNat]!])) (oP bZ aO OQ) ?_
 refine nbr hK ?_
 refine rb hx ?_
 exact pel h h0 [0,1]
 exact AW.exit (per h h0 [1])
 refine lw0 ?_
 refine ra hx ?_
 refine AW.ret ?_
 cases h
 exact n9.own rfl rfl
def oq(oa:Int):Option Bool:=some (decide ((0:Int)≤oa))
theorem zL {oa:Int}{r:Bool}(h:oq oa=some r):ar prog 85 [dI .i64 oa] (dB r):=by
 refine bn (rs:=[.tmp 2]) (fun cx hx h0=>?_) func85
 unfold oq at h
 iterate 2 refine ra hx ?_
 exact AW.ret (rtv h)
def bj(aK:fM)(aZ:List am)(cf:List am):Int→Option (Int⊕(Bool⊕Unit)):=fun aD=>cnd (decide (aD<((cf).length:Int))) (gd (0≤aD∧aD<((cf).length:Int)) (bnd (iC aK aD) fun x4=>bnd (b9 x4 aZ) fun x6=>bnd (S:=Bool) (bnd (aW x6) fun x8=>cnd (!x8) (some (true)) (bnd (jt x6 ((cf)[(aD).toNat]!)) fun sL=>bnd (oq sL) fun qw=>some (!qw))) fun mR=>cnd mR (some (.inr (.inl false))) (some (.inl (i64.wrap (aD+(1:Int))))))) (some (.inr (.inr ())))
def aL(aK:fM)(aZ:List am)(cf:List am):Option Bool:=bnd (bo (bj aK aZ cf) (0:Int)) fun y17=>match y17 with| .inl r=>some r| .inr ()=>some true
theorem d7 {aK:fM}{aZ:List am}{cf:List am}{r:Bool}(h:aL aK aZ cf=some r):ar prog 81 [.e (.lit (.func (.func 84) #[] #[])),dG mQ aK,dL ak aZ,dL ak cf,.e (.lit (.func (.func 85) #[] #[]))] (dB r):=by
 refine bn (rs:=[.tmp 10]) (fun cx hx h0=>?_) func81
 unfold aL at h
 refine rs hx fun K hK=>?_
 refine s1 (d:=.pt 0 0) gP ?_
 refine nbr hK ?_
 refine AW.seq (ra hx ?_)
 refine AW.block ?_
 obtain⟨y,hy,h⟩:=ae h
 refine lp (S:=Int) (X:=Bool⊕Unit) (fun aD=>[(0,.e (.lit (.func (.func 84) #[] #[]))),(2,dL ak aZ),(4,.e (.lit (.func (.func 85) #[] #[]))),(6,.pt 0 0),(14,dL ak cf),(15,dI .i64 ((cf).length:Int)),(16,dI .i64 aD)]) (fun aD=>⟨[(0,[dI .i64 aK.vR,dI .i64 aK.vC,dL ak aK.vV])],[],1⟩) (PS (PR [.tmp 10] fun r=>dB r) (PE cx (.exit 0) (fun ()=>[]) fun ()=>⟨[],[],0⟩)) hy ?_ ?_ ?_
 exact wk0 h0 [0]
 clear hy h
 rintro aD y h
 dsimp only[bj] at h
 refine ra hx ?_
 refine AW.seq (cdh h rfl (fun f4 h=>?_) (fun f4 h=>?_))
 refine AW.skip (AW.seq (AW.block (rs hx fun K hK=>?_)))
 refine sa ?_
 obtain⟨qU,h⟩:=aA h
 have xT:(aD).toNat<(cf).length:=by omega
 refine sbr ?_
 refine s1 (d:=dG ak ((cf)[(aD).toNat]!)) (jA (c:=ak) (l:=cf) (n:=(aD).toNat) (o:=0) aO xT (e8 _ _ rfl)) ?_
 refine nbr hK ?_
 refine rs hx fun K hK=>?_
 refine sa ?_
 refine s1 (d:=dG mQ aK) (T_ldA wB) ?_
 refine sa ?_
 obtain⟨x4,P9,h⟩:=ae h
 refine s1 (iL rfl (yI P9) (by simp only[jK,mZ,iJ,kr,fH,cm];exact⟨db _ _,rfl⟩) (lA (ax _) (lA (ax _) lAn))) ?_
 refine sa ?_
 refine scb h er fun x6 h=>?_
 refine nbr hK ?_
 refine AW.seq ?_
 obtain⟨mR,hy,h⟩:=ae h
 refine jn ((PE cx .normal (fun mR=>[(0,.e (.lit (.func (.func 84) #[] #[]))),(2,dL ak aZ),(4,.e (.lit (.func (.func 85) #[] #[]))),(6,.pt 0 0),(14,dL ak cf),(15,dI .i64 ((cf).length:Int)),(16,dI .i64 aD),(37,dB mR)]) fun mR=>⟨[(0,[dI .i64 aK.vR,dI .i64 aK.vC,dL ak aK.vV])],[],1⟩) mR) ?_ ?_
 replace h:=hy
 refine rq hx fun K hK=>?_
 refine mbr ?_
 refine scb h cj fun x8 h=>?_
 refine mbr ?_
 rcases aF h with⟨nG,h⟩|⟨nG,h⟩
 refine nbr hK ?_
 exact pe1 h h0 [0]
 refine ga nG ?_
 iterate 2 refine gbr ?_
 refine gcb h sQ fun sL h=>?_
 refine gcb h zL fun qw h=>?_
 refine nbr hK ?_
 exact pe1 h h0 [0]
 refine lw0 ?_
 refine cdh h rfl (fun tz h=>?_) (fun tz h=>?_)
 refine ra hx ?_
 refine AW.ret ?_
 cases h
 refine PS.r ⟨by nofun,PS.l (PR.i ?_)⟩
 exact rv1
 refine AW.skip (rb hx ?_)
 exact pel h h0 [0]
 exact AW.exit (peq h h0 [])
 rcases y with r|⟨⟩
 rintro ex tm' hp' ⟨rfl,hw⟩
 cases h
 exact hw
 refine lwr ?_
 refine ra hx ?_
 exact AW.ret (rtv h)
def eK(oa:List am)(oT:cH)(p_v1:a7):Option Bool:=bnd (S:=Bool) (bnd (ej oT.vY p_v1.vA.vR) fun x1=>cnd x1 (bnd (aL p_v1.vA oT.vY oa) fun x4=>some (x4)) (some (false))) fun br=>some br
theorem oW {oa:List am}{oT:cH}{p_v1:a7}{r:Bool}(h:eK oa oT p_v1=some r):HC prog 133 [dL ak oa,.pt 0 0,.pt 1 0] ⟨[(0,[dI .i64 oT.vKind,dL ak oT.vX,dL ak oT.vY,dL ak oT.vRay]),(1,[dI .i64 p_v1.vA.vR,dI .i64 p_v1.vA.vC,dL ak p_v1.vA.vV,dL ak p_v1.vB,dL ak p_v1.vC])],[],2⟩ (dB r) ⟨[(0,[dI .i64 oT.vKind,dL ak oT.vX,dL ak oT.vY,dL ak oT.vRay]),(1,[dI .i64 p_v1.vA.vR,dI .i64 p_v1.vA.vC,dL ak p_v1.vA.vV,dL ak p_v1.vB,dL ak p_v1.vC])],[],2⟩:=by
 refine HC.of (rs:=[.tmp 4]) tok func133 rfl rfl (bi rfl) rfl (fun cx hx h1 hok=>?_)
 have h0:cx.hp0.next=2:=by rw[h1]
 simp only[fG,Nat.reduceAdd,bt]
 unfold eK at h
 refine ra hx ?_
 refine AW.seq ?_
 obtain⟨br,hy,h⟩:=ae h
 refine jn ((PE cx .normal (fun br=>[(4,dB br)]) fun br=>⟨[(0,[dI .i64 oT.vKind,dL ak oT.vX,dL ak oT.vY,dL ak oT.vRay]),(1,[dI .i64 p_v1.vA.vR,dI .i64 p_v1.vA.vC,dL ak p_v1.vA.vV,dL ak p_v1.vB,dL ak p_v1.vC])],[],2⟩) br) ?_ ?_
 replace h:=hy
 refine rq hx fun K hK=>?_
 refine mbr ?_
 refine scb h l7 fun x1 h=>?_
 refine sa ?_
 rcases aF h with⟨fZ,h⟩|⟨fZ,h⟩
 refine ga fZ ?_
 refine g1 (d:=dG mQ p_v1.vA) fZ (T_ldA wB) ?_
 refine ga fZ ?_
 refine gbr ?_
 refine ga fZ ?_
 refine gcb h d7 fun x4 h=>?_
 refine nbr hK ?_
 cases h
 exact PE.i (wkN h0 [] (wR rfl wTn) (vR rfl (vR rfl wVn)) wLn)
 refine nbr hK ?_
 cases h
 exact PE.i (wkN h0 [] (wR rfl wTn) (vR rfl (vR rfl wVn)) wLn)
 refine lw0 ?_
 refine AW.ret ?_
 cases h
 exact rH1 (wkN h0 [] (wR rfl wTn) (vR rfl (vR rfl wVn)) wLn)
def fS(aZ:am)(H7:Int):Option Bool:=bnd (S:=Bool) (bnd (aW aZ) fun x1=>cnd x1 (bnd (kV aZ) fun x4=>some (decide (x4=H7))) (some (false))) fun br=>some br
theorem pb {aZ:am}{H7:Int}{r:Bool}(h:fS aZ H7=some r):ar prog 86 [dG ak aZ,dI .i64 H7] (dB r):=by
 refine bn (rs:=[.tmp 4]) (fun cx hx h0=>?_) func86
 unfold fS at h
 refine ra hx ?_
 refine AW.seq ?_
 obtain⟨br,hy,h⟩:=ae h
 refine jn ((PE cx .normal (fun br=>[(4,dB br)]) fun br=>⟨[],[],0⟩) br) ?_ ?_
 replace h:=hy
 refine rq hx fun K hK=>?_
 refine mbr ?_
 refine scb h cj fun x1 h=>?_
 refine sa ?_
 rcases aF h with⟨fZ,h⟩|⟨fZ,h⟩
 refine gbr ?_
 refine gcb h uC fun x4 h=>?_
 refine nbr hK ?_
 exact pe1 h h0 []
 refine nbr hK ?_
 exact pe1 h h0 []
 refine lw0 ?_
 exact AW.ret (rtv h)
def jo(m8:a7)(aK:cH):Option Bool:=cnd (decide (aK.vKind=(1:Int))) (bnd (S:=Bool) (cnd (decide ((0:Int)<((aK.vRay).length:Int))) (some (true)) (bnd (dW aK.vX m8.vB m8) fun x3=>cnd (!x3) (some (true)) (bnd (eK m8.vC (⟨aK.vKind,aK.vX,aK.vY,aK.vRay⟩:cH) m8) fun x6=>some (!x6)))) fun uq=>cnd uq (some false) (bnd (b9 m8.vC aK.vX) fun l5=>bnd (S:=Bool) (bnd (aW l5) fun m9=>cnd m9 (bnd (b9 aK.vY m8.vB) fun JD=>some (decide (l5=JD))) (some (false))) fun kB=>some kB)) (cnd (decide (aK.vKind=(2:Int))) (bnd (S:=Bool) (cnd (decide ((i64.wrap (((aK.vX).length:Int)+((aK.vRay).length:Int)))=(0:Int))) (bnd (fx m8.vA.vC) fun FY=>bnd (eK FY (⟨aK.vKind,aK.vX,aK.vY,aK.vRay⟩:cH) m8) fun CS=>cnd CS (bnd (b9 aK.vY m8.vB) fun Jw=>bnd (fS Jw (-1:Int)) fun AU=>some (AU)) (some (false))) (some (false))) fun Hw=>some Hw) (cnd (decide (aK.vKind=(3:Int))) (bnd (S:=Bool) (cnd (decide (((aK.vY).length:Int)=(0:Int))) (bnd (dW aK.vX m8.vB m8) fun x32=>cnd x32 (bnd (fx m8.vA.vR) fun th=>bnd (dW aK.vRay th m8) fun xO=>cnd xO (bnd (b9 m8.vC aK.vRay) fun x40=>bnd (fS x40 (1:Int)) fun x42=>some (x42)) (some (false))) (some (false))) (some (false))) fun Hu=>some Hu) (some false)))
theorem zJ {m8:a7}{aK:cH}{r:Bool}(h:jo m8 aK=some r):ar prog 71 [dG d9 m8,dG kg aK] (dB r):=by
 refine bn (rs:=[.tmp 4]) (fun cx hx h0=>?_) func71
 unfold jo at h
 refine rs hx fun K hK=>?_
 refine s1 (d:=.pt 0 0) gP ?_
 refine s1 (d:=.pt 1 0) gP ?_
 refine nbr hK ?_
 refine rs hx fun K hK=>?_
 refine s1 Fq ?_
 refine nbr hK ?_
 refine rs hx fun K hK=>?_
 refine s1 Fq ?_
 refine nbr hK ?_
 refine AW.seq (rar hx ?_)
 refine AW.block (ra hx ?_)
 refine cdh h rfl (fun f4 h=>?_) (fun f4 h=>?_)
 iterate 2 refine AW.seq ?_
 obtain⟨uq,hy,h⟩:=ae h
 refine jn ((PE cx .normal (fun uq=>[(2,.pt 0 0),(3,.pt 1 0),(33,dB uq)]) fun uq=>⟨[(0,[dI .i64 m8.vA.vR,dI .i64 m8.vA.vC,dL ak m8.vA.vV,dL ak m8.vB,dL ak m8.vC]),(1,[dI .i64 aK.vKind,dL ak aK.vX,dL ak aK.vY,dL ak aK.vRay])],[],2⟩) uq) ?_ ?_
 replace h:=hy
 refine rq hx fun K hK=>?_
 refine mbr ?_
 rcases aF h with⟨CC,h⟩|⟨CC,h⟩
 refine nbr hK ?_
 exact pe1 h h0 [0,1]
 iterate 2 refine ga CC ?_
 refine gbr ?_
 refine ga CC ?_
 refine gbr ?_
 obtain⟨x3,hx4,h⟩:=ae h
 refine g1 CC (xi [0] rfl (lI hx4) (fA (ax _) (fA (ax _) (fA (ax _) fAn))) (vR rfl wVn) wLn) ?_
 refine mbr ?_
 rcases aF h with⟨rW,h⟩|⟨rW,h⟩
 refine nbr hK ?_
 exact pe1 h h0 [0,1]
 iterate 2 refine ga rW ?_
 refine gbr ?_
 obtain⟨x6,v7,h⟩:=ae h
 refine g1 rW (xi [1,0] rfl (oW v7) (fA (ax _) (fA (ax _) (fA (ax _) fAn))) (vR rfl (vR rfl wVn)) wLn) ?_
 refine nbr hK ?_
 exact pe1 h h0 [0,1]
 refine lw0 ?_
 refine cdh h rfl (fun KD h=>?_) (fun KD h=>?_)
 refine ra hx ?_
 exact AW.ret (rtv h)
 refine AW.skip (rs hx fun K hK=>?_)
 refine mbr ?_
 refine scb h er fun l5 h=>?_
 refine nbr hK ?_
 refine AW.seq ?_
 obtain⟨kB,hy,h⟩:=ae h
 refine jn ((PE cx .normal (fun kB=>[(4,dB kB)]) fun kB=>⟨[],[],0⟩) kB) ?_ ?_
 replace h:=hy
 refine rqd [92,17] hx fun K hK=>?_
 refine mbr ?_
 refine cqb h cj fun m9 h=>?_
 refine sa ?_
 rcases aF h with⟨uP,h⟩|⟨uP,h⟩
 refine gbr ?_
 refine ga uP ?_
 refine gbr ?_
 refine ga uP ?_
 refine gbr ?_
 obtain⟨JD,hx16,h⟩:=ae h
 refine sqg tok rfl rfl uP (er hx16) rfl (lA (ax _) (lA (ax _) lAn)) (.inl (iR _ _)) ?_
 refine g1 uP (Cf tok 4 (by decide) BM aO) ?_
 refine nbr hK ?_
 exact pe1 h h0 []
 refine nbr hK ?_
 exact pe1 h h0 []
 refine lw0 ?_
 exact AW.ret (rtv h)
 refine ra hx ?_
 refine cdh h rfl (fun MP h=>?_) (fun MP h=>?_)
 refine AW.seq ?_
 obtain⟨Hw,hy,h⟩:=ae h
 refine jn ((PE cx .normal (fun Hw=>[(4,dB Hw)]) fun Hw=>⟨[],[],0⟩) Hw) ?_ ?_
 replace h:=hy
 refine rq hx fun K hK=>?_
 refine mbr ?_
 rcases aF h with⟨Tn,h⟩|⟨Tn,h⟩
 iterate 3 refine ga Tn ?_
 refine gbr ?_
 refine gcb h nA fun FY h=>?_
 obtain⟨CS,Mx,h⟩:=ae h
 refine g1 Tn (xi [1,0] rfl (oW Mx) (fA (ax _) (fA (ax _) (fA (ax _) fAn))) (vR rfl (vR rfl wVn)) wLn) ?_
 refine mbr ?_
 rcases aF h with⟨Tk,h⟩|⟨Tk,h⟩
 refine ga Tk ?_
 refine gbr ?_
 refine ga Tk ?_
 refine gbr ?_
 refine gcb h er fun Jw h=>?_
 refine gcb h pb fun AU h=>?_
 refine nbr hK ?_
 exact pe1 h h0 []
 refine nbr hK ?_
 exact pe1 h h0 []
 refine nbr hK ?_
 exact pe1 h h0 []
 refine lw0 ?_
 exact AW.ret (rtv h)
 refine ra hx ?_
 refine cdh h rfl (fun MO h=>?_) (fun MO h=>?_)
 refine AW.seq ?_
 obtain⟨Hu,hy,h⟩:=ae h
 refine jn ((PE cx .normal (fun Hu=>[(4,dB Hu)]) fun Hu=>⟨[],[],0⟩) Hu) ?_ ?_
 replace h:=hy
 refine rqd [75,17,86] hx fun K hK=>?_
 refine mbr ?_
 rcases aF h with⟨Qk,h⟩|⟨Qk,h⟩
 iterate 2 refine ga Qk ?_
 refine gbr ?_
 refine ga Qk ?_
 refine gbr ?_
 obtain⟨x32,hx33,h⟩:=ae h
 refine g1 Qk (xi [0] rfl (lI hx33) (fA (ax _) (fA (ax _) (fA (ax _) fAn))) (vR rfl wVn) wLn) ?_
 refine mbr ?_
 rcases aF h with⟨Ti,h⟩|⟨Ti,h⟩
 iterate 2 refine ga Ti ?_
 refine gbr ?_
 iterate 2 refine ga Ti ?_
 refine gbr ?_
 obtain⟨th,hx36,h⟩:=ae h
 refine sqg tok rfl rfl Ti (nA hx36) rfl (lA (ax _) lAn) (.inl rfl) ?_
 obtain⟨xO,hx38,h⟩:=ae h
 refine g1 Ti (xi [0] rfl (lI hx38) (fA (ax _) (fA (ax _) (fA (ax _) fAn))) (vR rfl wVn) wLn) ?_
 refine mbr ?_
 rcases aF h with⟨MN,h⟩|⟨MN,h⟩
 refine ga MN ?_
 refine gbr ?_
 refine ga MN ?_
 refine gbr ?_
 obtain⟨x40,hx41,h⟩:=ae h
 refine sqg tok rfl rfl MN (er hx41) rfl (lA (ax _) (lA (ax _) lAn)) (.inl (iR _ _)) ?_
 obtain⟨x42,hx43,h⟩:=ae h
 refine sqg tok rfl rfl MN (pb hx43) (by simp only[jK,mZ,iJ,kr,fH,cm];exact⟨db _ _,rfl⟩) (lA (pm _ _) (lA (ax _) lAn)) (.inl rfl) ?_
 refine nbr hK ?_
 exact pe1 h h0 []
 refine nbr hK ?_
 exact pe1 h h0 []
 refine nbr hK ?_
 exact pe1 h h0 []
 refine nbr hK ?_
 exact pe1 h h0 []
 refine lw0 ?_
 exact AW.ret (rtv h)
 refine AW.skip (ra hx ?_)
 exact AW.ret (rtv h)
def i8(m8:a7)(aK:cH):Option Int:=bnd (gX m8) fun x1=>cnd (!x1) (some (1:Int)) (bnd (jo m8 aK) fun x4=>cnd (!x4) (some (250:Int)) (some (0:Int)))
theorem vw {m8:a7}{aK:cH}{r:Int}(h:i8 m8 aK=some r):ar prog 19 [dG d9 m8,dG kg aK] (dI .i64 r):=by
 refine bn (rs:=[.tmp 4]) (fun cx hx h0=>?_) func19
 unfold i8 at h
 refine rs hx fun K hK=>?_
 refine s1 (d:=.pt 0 0) gP ?_
 refine s1 (d:=.pt 1 0) gP ?_
 refine nbr hK ?_
 refine AW.seq (AW.block (rs hx fun K hK=>?_))
 refine s1 (d:=dG d9 m8) (T_ldA rE) ?_
 refine scb h qx fun x1 h=>?_
 refine nbr hK ?_
 refine cdh h rfl (fun fZ h=>?_) (fun fZ h=>?_)
 refine ra hx ?_
 exact AW.ret (rtv h)
 refine rs hx fun K hK=>?_
 refine s1 (d:=dG d9 m8) (T_ldA rE) ?_
 refine s1 (d:=dG kg aK) (T_ldA oX) ?_
 refine scb h zJ fun x4 h=>?_
 refine nbr hK ?_
 refine cdh h rfl (fun rp h=>?_) (fun rp h=>?_)
 refine ra hx ?_
 exact AW.ret (rtv h)
 refine AW.skip (ra hx ?_)
 exact AW.ret (rtv h)
def oo(oa:Int):Option Bool:=some (decide (oa=(0:Int)))
theorem zK {oa:Int}{r:Bool}(h:oo oa=some r):ar prog 83 [dI .i64 oa] (dB r):=by
 refine bn (rs:=[.tmp 2]) (fun cx hx h0=>?_) func83
 unfold oo at h
 iterate 2 refine ra hx ?_
 exact AW.ret (rtv h)
def bu(aK:fM)(aZ:List am)(cf:List am):Int→Option (Int⊕(Bool⊕Unit)):=fun aD=>cnd (decide (aD<((cf).length:Int))) (gd (0≤aD∧aD<((cf).length:Int)) (bnd (i7 aK aD) fun x4=>bnd (b9 x4 aZ) fun x6=>bnd (S:=Bool) (bnd (aW x6) fun x8=>cnd (!x8) (some (true)) (bnd (jt x6 ((cf)[(aD).toNat]!)) fun sL=>bnd (oo sL) fun qw=>some (!qw))) fun mR=>cnd mR (some (.inr (.inl false))) (some (.inl (i64.wrap (aD+(1:Int))))))) (some (.inr (.inr ())))
def ba(aK:fM)(aZ:List am)(cf:List am):Option Bool:=bnd (bo (bu aK aZ cf) (0:Int)) fun y17=>match y17 with| .inl r=>some r| .inr ()=>some true
theorem iP {aK:fM}{aZ:List am}{cf:List am}{r:Bool}(h:ba aK aZ cf=some r):ar prog 81 [.e (.lit (.func (.func 82) #[] #[])),dG mQ aK,dL ak aZ,dL ak cf,.e (.lit (.func (.func 83) #[] #[]))] (dB r):=by
 refine bn (rs:=[.tmp 10]) (fun cx hx h0=>?_) func81
 unfold ba at h
 refine rs hx fun K hK=>?_
 refine s1 (d:=.pt 0 0) gP ?_
 refine nbr hK ?_
 refine AW.seq (ra hx ?_)
 refine AW.block ?_
 obtain⟨y,hy,h⟩:=ae h
 refine lp (S:=Int) (X:=Bool⊕Unit) (fun aD=>[(0,.e (.lit (.func (.func 82) #[] #[]))),(2,dL ak aZ),(4,.e (.lit (.func (.func 83) #[] #[]))),(6,.pt 0 0),(14,dL ak cf),(15,dI .i64 ((cf).length:Int)),(16,dI .i64 aD)]) (fun aD=>⟨[(0,[dI .i64 aK.vR,dI .i64 aK.vC,dL ak aK.vV])],[],1⟩) (PS (PR [.tmp 10] fun r=>dB r) (PE cx (.exit 0) (fun ()=>[]) fun ()=>⟨[],[],0⟩)) hy ?_ ?_ ?_
 exact wk0 h0 [0]
 clear hy h
 rintro aD y h
 dsimp only[bu] at h
 refine ra hx ?_
 refine AW.seq (cdh h rfl (fun f4 h=>?_) (fun f4 h=>?_))
 refine AW.skip (AW.seq (AW.block (rs hx fun K hK=>?_)))
 refine sa ?_
 obtain⟨qU,h⟩:=aA h
 have xT:(aD).toNat<(cf).length:=by omega
 refine sbr ?_
 refine s1 (d:=dG ak ((cf)[(aD).toNat]!)) (jA (c:=ak) (l:=cf) (n:=(aD).toNat) (o:=0) aO xT (e8 _ _ rfl)) ?_
 refine nbr hK ?_
 refine rs hx fun K hK=>?_
 refine sa ?_
 refine s1 (d:=dG mQ aK) (T_ldA wB) ?_
 refine sa ?_
 refine scb h vt fun x4 h=>?_
 refine sa ?_
 refine scb h er fun x6 h=>?_
 refine nbr hK ?_
 refine AW.seq ?_
 obtain⟨mR,hy,h⟩:=ae h
 refine jn ((PE cx .normal (fun mR=>[(0,.e (.lit (.func (.func 82) #[] #[]))),(2,dL ak aZ),(4,.e (.lit (.func (.func 83) #[] #[]))),(6,.pt 0 0),(14,dL ak cf),(15,dI .i64 ((cf).length:Int)),(16,dI .i64 aD),(37,dB mR)]) fun mR=>⟨[(0,[dI .i64 aK.vR,dI .i64 aK.vC,dL ak aK.vV])],[],1⟩) mR) ?_ ?_
 replace h:=hy
 refine rq hx fun K hK=>?_
 refine mbr ?_
 refine scb h cj fun x8 h=>?_
 refine mbr ?_
 rcases aF h with⟨nG,h⟩|⟨nG,h⟩
 refine nbr hK ?_
 exact pe1 h h0 [0]
 refine ga nG ?_
 iterate 2 refine gbr ?_
 refine gcb h sQ fun sL h=>?_
 refine gcb h zK fun qw h=>?_
 refine nbr hK ?_
 exact pe1 h h0 [0]
 refine lw0 ?_
 refine cdh h rfl (fun tz h=>?_) (fun tz h=>?_)
 refine ra hx ?_
 refine AW.ret ?_
 cases h
 refine PS.r ⟨by nofun,PS.l (PR.i ?_)⟩
 exact rv1
 refine AW.skip (rb hx ?_)
 exact pel h h0 [0]
 exact AW.exit (peq h h0 [])
 rcases y with r|⟨⟩
 rintro ex tm' hp' ⟨rfl,hw⟩
 cases h
 exact hw
 refine lwr ?_
 refine ra hx ?_
 exact AW.ret (rtv h)
def gl(aK:fM)(aQ:List am)(aZ:cH):Option Int:=bnd (fT aK aQ) fun x1=>cnd (!x1) (some (1:Int)) (bnd (S:=Bool) (cnd (decide (aZ.vKind=(1:Int))) (cnd (decide ((i64.wrap (((aZ.vY).length:Int)+((aZ.vRay).length:Int)))=(0:Int))) (bnd (ej aZ.vX aK.vC) fun x6=>cnd x6 (bnd (ba aK aZ.vX aQ) fun x9=>some (x9)) (some (false))) (some (false))) (cnd (decide (aZ.vKind=(2:Int))) (cnd (decide ((i64.wrap (((aZ.vX).length:Int)+((aZ.vRay).length:Int)))=(0:Int))) (cnd (decide (((aZ.vY).length:Int)=aK.vR)) (bnd (cZ aZ.vY) fun pX=>cnd pX (bnd (fx aK.vC) fun pW=>bnd (aL aK aZ.vY pW) fun tL=>cnd tL (bnd (b9 aZ.vY aQ) fun CS=>bnd (fS CS (-1:Int)) fun zF=>some (zF)) (some (false))) (some (false))) (some (false))) (some (false))) (some (false)))) fun eC=>cnd (!eC) (some (250:Int)) (some (0:Int)))
theorem wn {aK:fM}{aQ:List am}{aZ:cH}{r:Int}(h:gl aK aQ aZ=some r):ar prog 23 [dG mQ aK,dL ak aQ,dG kg aZ] (dI .i64 r):=by
 refine bn (rs:=[.tmp 6]) (fun cx hx h0=>?_) func23
 unfold gl at h
 refine rs hx fun K hK=>?_
 refine s1 (d:=.pt 0 0) gP ?_
 refine s1 (d:=.pt 1 0) gP ?_
 refine nbr hK ?_
 refine AW.seq (rs hx fun K hK=>?_)
 refine s1 (d:=dG mQ aK) (T_ldA wB) ?_
 refine sa ?_
 refine scb h ry fun x1 h=>?_
 refine nbr hK ?_
 refine cdh h rfl (fun fZ h=>?_) (fun fZ h=>?_)
 refine ra hx ?_
 exact AW.ret (rtv h)
 refine AW.skip (ra hx ?_)
 refine AW.seq ?_
 obtain⟨eC,hy,h⟩:=ae h
 refine jn ((PE cx .normal (fun eC=>[(7,dB eC)]) fun eC=>⟨[],[],0⟩) eC) ?_ ?_
 replace h:=hy
 refine rar hx ?_
 refine AW.block (ra hx ?_)
 refine cdh h rfl (fun FU h=>?_) (fun FU h=>?_)
 refine rq hx fun K hK=>?_
 refine mbr ?_
 rcases aF h with⟨rW,h⟩|⟨rW,h⟩
 refine ga rW ?_
 refine gbr ?_
 refine ga rW ?_
 refine gbr ?_
 refine gcb h l7 fun x6 h=>?_
 refine mbr ?_
 rcases aF h with⟨t7,h⟩|⟨t7,h⟩
 refine g1 (d:=dG mQ aK) t7 (T_ldA wB) ?_
 refine ga t7 ?_
 refine gbr ?_
 refine ga t7 ?_
 refine gcb h iP fun x9 h=>?_
 refine nbr hK ?_
 exact pe1 h h0 []
 refine nbr hK ?_
 exact pe1 h h0 []
 refine nbr hK ?_
 exact pe1 h h0 []
 refine ra hx ?_
 refine cdh h rfl (fun xU h=>?_) (fun xU h=>?_)
 refine rqd [62,75,81,17,86] hx fun K hK=>?_
 refine mbr ?_
 rcases aF h with⟨Eu,h⟩|⟨Eu,h⟩
 refine mbr ?_
 rcases aF h with⟨Gz,h⟩|⟨Gz,h⟩
 refine ga Gz ?_
 refine gbr ?_
 obtain⟨pX,yZ,h⟩:=ae h
 refine sqg tok rfl rfl Gz (fP yZ) rfl (lA (ax _) lAn) (.inl rfl) ?_
 refine mbr ?_
 rcases aF h with⟨tz,h⟩|⟨tz,h⟩
 refine g1 (d:=dG mQ aK) tz (T_ldA wB) ?_
 refine ga tz ?_
 refine gbr ?_
 refine ga tz ?_
 refine gbr ?_
 obtain⟨pW,v8,h⟩:=ae h
 refine sqg tok rfl rfl tz (nA v8) rfl (lA (ax _) lAn) (.inl rfl) ?_
 obtain⟨tL,Al,h⟩:=ae h
 refine sqg tok rfl rfl tz (d7 Al) (by simp only[jK,mZ,iJ,kr,fH,cm];exact⟨rfl,db _ _,rfl,rfl,rfl⟩) (lA (ax _) (lA (ax _) (lA (ax _) (lA (ax _) (lA (ax _) lAn))))) (.inl rfl) ?_
 refine mbr ?_
 rcases aF h with⟨BH,h⟩|⟨BH,h⟩
 refine ga BH ?_
 refine gbr ?_
 refine ga BH ?_
 obtain⟨CS,Mx,h⟩:=ae h
 refine sqg tok rfl rfl BH (er Mx) rfl (lA (ax _) (lA (ax _) lAn)) (.inl (iR _ _)) ?_
 obtain⟨zF,SB,h⟩:=ae h
 refine sqg tok rfl rfl BH (pb SB) (by simp only[jK,mZ,iJ,kr,fH,cm];exact⟨db _ _,rfl⟩) (lA (pm _ _) (lA (ax _) lAn)) (.inl rfl) ?_
 refine nbr hK ?_
 exact pe1 h h0 []
 refine nbr hK ?_
 exact pe1 h h0 []
 refine nbr hK ?_
 exact pe1 h h0 []
 refine nbr hK ?_
 exact pe1 h h0 []
 refine nbr hK ?_
 exact pe1 h h0 []
 exact AW.skip (pe1 h h0 [])
 refine lw0 ?_
 refine AW.seq (ra hx ?_)
 refine cdh h rfl (fun Tj h=>?_) (fun Tj h=>?_)
 refine ra hx ?_
 exact AW.ret (rtv h)
 refine AW.skip (ra hx ?_)
 exact AW.ret (rtv h)
def KQ(l:List Int)(v:Int):Int:=match l.findIdx? fun b=>decide (b=v) with
 |some i=>i
 |none=>-1
def secG(rows:List Lin)(basic:List Int)(w:Nat)(c:List Nu):Nat→Lin
 |0=>⟨nOf 0,List.replicate w (nOf 0)⟩
 |k+1=>let g:=secG rows basic w c k
  if KQ basic ((k+1:Nat):Int)<0 then⟨g.k,g.c.set (k+1) (jJ g.c[k+1]! c[k]!)⟩
  else⟨jJ g.k (iy c[k]! rows[(KQ basic ((k+1:Nat):Int)).toNat]!.k),(List.range w).map fun t=>if t=0 then g.c[t]! else jJ g.c[t]! (iy c[k]! rows[(KQ basic ((k+1:Nat):Int)).toNat]!.c[t]!)⟩
theorem find_eq(l:List Row)(v:Int):KQ (l.map Row.b) v=dA l v:=by
 unfold KQ dA
 rw[List.findIdx?_map]
 rfl
theorem ru(l:List Row)(v:Int):(dA l v=-1∧∀j,j<l.length→l[j]!.b≠v)∨∃i,i<l.length∧dA l v=(i:Int)∧l[i]!.b=v:=by
 unfold dA
 cases h:l.findIdx? fun r=>decide (r.b=v) with
 |none=>
  refine .inl ⟨rfl,fun j hj=>?_⟩
  have:=u9.1 h l[j] (nK hj)
  rw[bI l j hj]
  simpa using this
 |some i=>
  obtain⟨h1,h2,_⟩:=oI.1 h
  exact .inr ⟨i,h1,rfl,by rw[bI l i h1];exact bC h2⟩
theorem Aj(l:List Row):∀n,jS l n<n∨n=0∧jS l n=0
 |0=>.inr ⟨rfl,rfl⟩
 |n+1=>by
  unfold jS
  rcases Aj l n with h|h
  ·split <;> omega
  ·split <;> omega
theorem q9.fine {d:Dic}{w:Nat}{f:Nu}(hI:Inv d w)(hg:aw f=true)(k:Nu)(c:List Nu)(hl:c.length=w)(hk:f5 k c=true):f5 k (c.set 0 f)=true:=by
 obtain⟨h1,h2⟩:=bm.1 hk
 refine bm.2 ⟨h1,fun i hi=>?_⟩
 rw[c7] at hi
 rw[eG hi]
 split
 ·exact hg
 ·exact h2 i hi
theorem Ag {α β:Type}[Inhabited α][Inhabited β]{l:List α}{f:α→β}{i:Nat}(hi:i<l.length):(l.map f)[i]! =f l[i]! :=by
 apply dJ;rw[dT,uR hi];rfl
theorem Inv.col {d:Dic}{w:Nat}(hI:Inv d w){x:Nu}(hx:aw x=true)(h0:(∀j,j<d.rows.length→d.rows[j]!.b≠0)∨x=nOf 0){k:Nu}{c:List Nu}(hl:c.length=w)(hg:f5 k c=true)(hz:∀j,j<d.rows.length→c[d.rows[j]!.b.toNat]! =nOf 0)(p:Int):Inv ⟨d.rows.map (uc x),k,c,d.n,p,d.most⟩ w:=by
 have gj:∀i,i<d.rows.length→(d.rows.map (uc x))[i]! =uc x d.rows[i]! :=fun i hi=>Ag hi
 refine⟨⟨hl,fun i hi=>?_,hg,fun i hi=>?_⟩,fun i hi=>?_,fun i j hi hj e=>?_,fun j hj=>?_,fun i j hi hj=>?_⟩
 all_goals dsimp only at*
 all_goals rw[a8] at*
 ·rw[gj i hi];show (d.rows[i]!.c.set 0 x).length=w;rw[c7];exact hI.fine.lr i hi
 ·rw[gj i hi];exact q9.fine hI hx _ _ (hI.fine.lr i hi) (hI.fine.gr i hi)
 ·rw[gj i hi];exact hI.rng i hi
 ·rw[gj i hi,gj j hj] at e;exact hI.inj i j hi hj e
 ·rw[gj j hj];exact hz j hj
 ·rw[gj i hi,gj j hj]
  have hr:=hI.rng j hj
  have hlen:=hI.fine.lr i hi
  show (d.rows[i]!.c.set 0 x)[d.rows[j]!.b.toNat]! =nOf 0
  rw[eG (by omega)]
  split
  ·rename_i h
   rcases h0 with h0|h0
   ·exact absurd (by omega) (h0 j hj)
   ·exact h0
  ·exact hI.zr i j hi hj
section
def Can(x:Nu):Prop:=nuR (ct x.1)=x
theorem K3 {x:Nu}(h:aw x=true):Can x:=by unfold Can;rw[bE.1 h];exact (Dr h).symm
theorem IQ(x y:Nu):Can (jJ x y):=by unfold Can;rw[p9,pL (Ac _ _)]
theorem K2 {x q y:Nu}(hx:Can x)(hq:aw q=true)(h0:bL q=0)(hy:aw y=true):jJ x (iy q y)=x:=by
 rw[GY hq ((zX hq).1 h0) hy]
 rw[p9,show ct (nOf 0).1=some 0 from by have:=bE.1 of0.1;rw[of0.2] at this;exact this]
 have:Ic (ct x.1) (some 0)=ct x.1:=by
  cases h:ct x.1 with
  |none=>rfl
  |some p=>exact GT (dK.1 h).1
 rw[this];exact hx
theorem UJ {q xk lk:Nu}(hl:Can lk)(hq:aw q=true)(hx:aw xk=true):xb q xk lk=jJ lk (iy q xk):=by
 unfold xb
 split
 ·rename_i h;exact (K2 hl hq h hx).symm
 ·rfl
theorem UK {q:Nu}{xc lc:List Nu}{w:Nat}(hlc:lc.length=w)(BG:xc.length=w)(hl:∀i,i<w→Can lc[i]!)(hq:aw q=true)(hx:∀i,i<w→aw xc[i]! =true):ui q xc (-1) lc=(List.range w).map fun t=>jJ lc[t]! (iy q xc[t]!):=by
 unfold ui
 split
 ·rename_i h
  exact nh hlc fun i hi=>(K2 (hl i hi) hq h (hx i hi)).symm
 ·refine nh (by rw[qq,hlc]) fun i hi=>?_
  rw[Dx _ _ _ _ i (by omega),ai (by omega)]
theorem aim_eq {l:List Row}{lr:List Lin}{w:Nat}{c:List Nu}(S5:lr=l.map fun x=>⟨x.k,x.c⟩)(hlen:∀i,i<l.length→l[i]!.c.length=w)(hg:∀i,i<l.length→f5 l[i]!.k l[i]!.c=true)(h0:∀i,i<l.length→l[i]!.c[0]! =nOf 0)(hw:0<w)(hc:∀i,i<c.length→aw c[i]! =true):
  ∀k,k≤c.length→secG lr (l.map Row.b) w c k=⟨(gF l w c k).1,(gF l w c k).2⟩∧(gF l w c k).2.length=w∧Can (gF l w c k).1∧(∀i,i<w→Can (gF l w c k).2[i]!)∧(gF l w c k).2[0]! =nOf 0
 |0,_=>by
  refine⟨rfl,by simp[gF],K3 of0.1,fun i hi=>?_,?_⟩
  ·have:(gF l w c 0).2[i]! =nOf 0:=dJ (by simp[gF,IY,hi])
   rw[this];exact K3 of0.1
  ·exact dJ (by simp[gF,IY,hw])
 |k+1,hk=>by
  obtain⟨ih1,ih2,ih3,ih4,ih5⟩:=aim_eq S5 hlen hg h0 hw hc k (by omega)
  unfold secG gF
  rw[ih1,find_eq]
  dsimp only
  rcases ru l ((k+1:Nat):Int) with⟨h1,_⟩|⟨i,h1,h2,_⟩
  ·rw[h1,ai (by omega),ah (by omega)]
   refine⟨rfl,by rw[c7];exact ih2,ih3,fun i hi=>?_,?_⟩
   ·dsimp only
    rw[eG (by omega)]
    split
    ·exact IQ _ _
    ·exact ih4 i hi
   ·dsimp only
    rw[eG (by omega),ah (by omega)]
    exact ih5
  ·rw[h2,ah (by omega),ai (by omega),show ((i:Int)).toNat=i by omega]
   have It:lr[i]! =⟨l[i]!.k,l[i]!.c⟩:=by rw[S5];exact Ag h1
   obtain⟨g1,g2⟩:=bm.1 (hg i h1)
   have hl:=hlen i h1
   have hgc:∀t,t<w→aw l[i]!.c[t]! =true:=fun t ht=>g2 t (by omega)
   rw[It,UJ ih3 (hc k (by omega)) g1,UK ih2 hl ih4 (hc k (by omega)) hgc]
   have h00:jJ (gF l w c k).2[0]! (iy c[k]! l[i]!.c[0]!)=(gF l w c k).2[0]! :=by
    rw[ih5,h0 i h1,yX (hc k (by omega)),xv of0.1]
   refine⟨?_,by simp,IQ _ _,fun t ht=>?_,?_⟩
   ·congr 1
    refine ss fun t _=>?_
    split
    ·rename_i e;subst e;exact h00.symm
    ·rfl
   ·rw[dJ (b7 _ ht)];exact IQ _ _
   ·rw[dJ (b7 _ hw),h00];exact ih5
theorem Lm {l:List Row}{w:Nat}{c:List Nu}(hlen:∀i,i<l.length→l[i]!.c.length=w)(Kv:∀i,i<l.length→0≤l[i]!.b∧l[i]!.b<w)(hz:∀i j,i<l.length→j<l.length→l[i]!.c[l[j]!.b.toNat]! =nOf 0)(hc:∀i,i<c.length→aw c[i]! =true):
  ∀k,k≤c.length→(gF l w c k).2.length=w∧∀j,j<l.length→(gF l w c k).2[l[j]!.b.toNat]! =nOf 0
 |0,_=>⟨by simp[gF],fun j hj=>by
   have:=Kv j hj
   exact dJ (by show (List.replicate w (nOf 0))[l[j]!.b.toNat]? =some (nOf 0);rw[IY,ai (by omega)])⟩
 |k+1,hk=>by
  obtain⟨ih0,ih⟩:=Lm hlen Kv hz hc k (by omega)
  unfold gF
  dsimp only
  rcases ru l ((k+1:Nat):Int) with⟨h1,h2⟩|⟨i,h1,h2,_⟩
  ·rw[h1,ah (by omega)]
   refine⟨by rw[c7];exact ih0,fun j hj=>?_⟩
   have:=Kv j hj
   dsimp only
   rw[eG (by omega),ah (fun e=>h2 j hj (by omega))]
   exact ih j hj
  ·rw[h2,ai (by omega),show ((i:Int)).toNat=i by omega]
   refine⟨by rw[uh];exact ih0,fun j hj=>?_⟩
   have hr:=Kv j hj
   dsimp only
   unfold ui
   split
   ·exact ih j hj
   ·rw[Dx _ _ _ _ _ (by omega),ai (by omega),ih j hj,hz i j h1 hj,yX (hc k (by omega)),xv of0.1]
section
variable {m nn:Nat} {A B C:List Nu} {most:Int}
theorem jG:(aH m nn A B most).rows.length=m:=by simp[aH]
theorem eS {i:Nat}(hi:i<m):(aH m nn A B most).rows[i]! =⟨B[i]!,(List.range (1+nn+m)).map (fun t=>if 1≤t∧t≤nn then e9 A[i*nn+(t - 1)]! else nOf 0),((1+nn+i:Nat):Int)⟩:=dJ (b7 _ hi)
theorem mB {x:Nu}{n i:Nat}(hi:i<n):(List.replicate n x)[i]! =x:=dJ (by simp[IY,hi])
theorem Hh(hA:A.length=m*nn)(hB:B.length=m)(hgA:∀i,i<A.length→aw A[i]! =true)(hgB:∀i,i<B.length→aw B[i]! =true):Inv (aH m nn A B most) (1+nn+m):=by
 have hidx:∀i t,i<m→t<nn→i*nn+t<A.length:=fun i t hi ht=>by
  rw[hA]
  calc i*nn+t<i*nn+nn:=by omega
   _=(i+1)*nn:=by rw[bR];omega
   _≤m*nn:=cM _ hi
 refine⟨⟨by simp[aH],fun i hi=>?_,bm.2 ⟨of0.1,fun i hi=>?_⟩,fun i hi=>?_⟩,fun i hi=>?_,fun i j hi hj e=>?_,fun j hj=>?_,fun i j hi hj=>?_⟩
 all_goals try rw[jG] at*
 ·rw[eS hi];simp
 ·have wb:i<1+nn+m:=by simpa[aH] using hi
  have:(aH m nn A B most).gc[i]! =nOf 0:=mB wb
  rw[this];exact of0.1
 ·rw[eS hi]
  refine bm.2 ⟨hgB i (by omega),fun t ht=>?_⟩
  dsimp only at ht ⊢
  rw[a8,List.length_range] at ht
  rw[dJ (b7 _ ht)]
  split
  ·rename_i h
   rw[rk];exact hgA _ (hidx i (t - 1) hi (by omega))
  ·exact of0.1
 ·rw[eS hi];dsimp only;omega
 ·rw[eS hi,eS hj] at e;dsimp only at e;omega
 ·rw[eS hj]
  exact mB (by dsimp only;omega)
 ·rw[eS hi,eS hj]
  dsimp only
  rw[dJ (b7 _ (by omega)),ah (by omega)]
theorem rt(i:Nat)(hi:i<m):(aH m nn A B most).rows[i]!.b=((1+nn+i:Nat):Int):=by rw[eS hi]
end
end
section
section
variable {x:Cx} {tm tm':List (Nat×D)} {hp:Hp}
theorem Wk.perm {vars':List (Nat×List D)}{iz:List (Nat×Nat×Nat×TypeId)}{m:Nat}(σ:Nat→Nat)(h0:x.hp0.next≤m)(bK:∀i,i<x.hp0.next→σ i=i)(t6:∀i j,i<m→j<m→σ i=σ j→i=j)
  (ht:∀p∈tm',tm.lookup p.1=some (p.2.ren σ)∧p.2.idsB m=true∧p.2.noOs=true)
  (hv:∀k ds,vars'.lookup k=some ds→k<m∧hp.vars.lookup (σ k)=some (ds.map (D.renC σ))∧ds.all (D.idsC m)=true∧ds.all D.noO=true)
  (hl:∀k y,iz.lookup k=some y→k<m∧hp.live.lookup (σ k)=some y):Wk x tm hp tm' ⟨vars',iz,m⟩:=by
 intro a w ⟨g,hr,nC,hsz,Dl,hB,hF,hM⟩
 have dQ:∀id y,(⟨vars',iz,m⟩:Hp).live.lookup id=some y→hp.live.lookup (σ id)=some y:=fun id y h=>(hl _ _ h).2
 refine⟨⟨fun i=>g.μ (σ i),fun i=>g.τ (σ i),g.F⟩,⟨fun k ds hk=>?_,fun k k' ds ds' hk wa he=>?_,fun id n e hi=>?_,fun id BF t t' b hi wb hb oU=>?_,hr.base,hr.fits⟩,fun t d h=>?_,hsz,Dl,hB,hF,
  ⟨hM.size,hM.cell,hM.forb,h0,fun k hk=>by show g.μ _=_;rw[bK k hk];exact hM.μ k hk,fun id hid n e Ky=>?_,fun b hb hf=>⟨(hM.fr b hb hf).1,(hM.fr b hb hf).2.1,fun k ds hk=>(hM.fr b hb hf).2.2.1 _ _ (hv _ _ hk).2.1,fun id t hi=>(hM.fr b hb hf).2.2.2 _ t (dQ id _ hi)⟩,hM.szs⟩⟩
 ·obtain⟨h1,h2,h3,h4⟩:=hv _ _ hk
  obtain⟨_,h5,h6,cs,ty,h7,h8,h9⟩:=hr.var _ _ h2
  refine⟨h1,h5,h6,cs,ty,h7,by simpa using h8,fun j u hu=>⟨fun h=>(h9 j u hu).1 (by simpa using h),fun d hd=>?_⟩⟩
  exact jQ ((h9 j u hu).2 (d.renC _) (by rw[dT,hd];rfl)) (bc.1 h3 d (eb hd)) (bc.1 h4 d (eb hd)) rfl (fun _=>rfl) (fun _=>rfl) rfl dQ
 ·obtain⟨h1,h2,_⟩:=hv _ _ hk
  obtain⟨qV,qL,_⟩:=hv _ _ wa
  exact t6 _ _ h1 qV (hr.inj _ _ _ _ h2 qL he)
 ·obtain⟨h1,h2⟩:=hl _ _ hi
  obtain⟨_,us,h3,h4,h5⟩:=hr.tok _ n e h2
  exact⟨h1,us,h3,h4,fun b hb=>⟨(h5 b hb).1,fun k ds hk=>(h5 b hb).2 _ _ (hv _ _ hk).2.1⟩⟩
 ·obtain⟨h1,h2⟩:=hl _ _ hi
  obtain⟨qV,qL⟩:=hl _ _ wb
  exact t6 _ _ h1 qV (hr.tinj _ _ _ _ b h2 qL hb oU)
 ·obtain⟨h1,h2,h3⟩:=ht _ (bF h)
  exact De (nC t _ h1) h2 h3 rfl (fun _=>rfl) (fun _=>rfl) rfl dQ
 ·obtain⟨m0,h1,h2,h3⟩:=hM.live id hid n e (by rw[←bK id hid];exact dQ id _ Ky)
  exact⟨m0,h1,h2,fun h=>by show g.τ _=_;rw[bK id hid];exact h3 h⟩
theorem RP {σ:Nat→Nat}{n:Nat}(hσ:∀i,i<n→σ i=i){d:D}(hd:d.idsC n=true)(hn:d.noO=true):d.renC σ=d:=by
 cases d with
 |own id z n xs=>simp only[D.idsC,r8] at hd;simp only[D.renC,hσ id hd]
 |pt k o=>simp only[D.idsC,r8] at hd;simp only[D.renC,hσ k hd]
 |ow k o z n=>simp only[D.idsC,r8] at hd;simp only[D.renC,hσ k hd]
 |gw k z n=>simp only[D.idsC,r8] at hd;simp only[D.renC,hσ k hd]
 |fn f ks=>
  simp only[D.idsC,bc,r8] at hd
  simp only[D.renC]
  congr 1
  exact (ss fun k hk=>hσ k (hd k hk)).trans (BS _)
 |opt b d=>cases hn
 |_=>rfl
theorem map_low {σ:Nat→Nat}{n:Nat}(hσ:∀i,i<n→σ i=i){ds:List D}(hd:ds.all (D.idsC n)=true)(hn:ds.all D.noO=true):ds.map (D.renC σ)=ds:=
 (ss fun d h=>RP hσ (bc.1 hd d h) (bc.1 hn d h)).trans (BS _)
end
def KK(m nn:Nat)(A B:List Nu)(i:Nat):Row:=⟨B[i]!,(List.range (1+nn+m)).map (fun t=>if 1≤t∧t≤nn then e9 A[i*nn+(t - 1)]! else nOf 0),((1+nn+i:Nat):Int)⟩
def mJ(m nn:Nat)(A B:List Nu)(most:Int)(i:Nat):Dic:=⟨(List.range i).map (KK m nn A B),nOf 0,List.replicate (1+nn+m) (nOf 0),nn,0,most⟩
theorem KW(m nn:Nat)(A B:List Nu)(most:Int):mJ m nn A B most m=aH m nn A B most:=rfl
theorem EE {m nn:Nat}{A B:List Nu}{most:Int}(h0:0≤most)(h1:most≤9223372036854775807){i:Nat}(hi:i≤m):cO (mJ m nn A B most i) (1+nn+m) i:=by
 have hg:∀j,j<i→(mJ m nn A B most i).rows[j]! =KK m nn A B j:=fun j hj=>dJ (b7 _ hj)
 refine⟨by simp[mJ],by simp[mJ],fun j hj=>?_,fun j hj=>?_,zk _,by show (0:Int)≤_;omega,h0,h1⟩
 ·rw[hg j hj];simp[KK]
 ·rw[hg j hj];show 0≤((1+nn+j:Nat):Int)∧((1+nn+j:Nat):Int)<((1+nn+m:Nat):Int);omega
def C5(m nn:Nat)(A:List Nu)(i k:Nat):List Nu:=(List.range (1+nn+m)).map fun t=>if 1≤t∧t≤k then e9 A[i*nn+(t - 1)]! else nOf 0
theorem QB(m nn:Nat)(A:List Nu)(i:Nat):C5 m nn A i 0=List.replicate (1+nn+m) (nOf 0):=by
 unfold C5
 exact (nh (by simp) fun t ht=>by rw[ah (by omega)];exact mB ht).symm
theorem QC {m nn:Nat}{A:List Nu}{i k:Nat}(hk:k<nn):(C5 m nn A i k).set (1+k) (e9 A[i*nn+k]!)=C5 m nn A i (k+1):=by
 unfold C5
 refine nh (by simp) fun t ht=>?_
 rw[eG (by simpa using ht),dJ (b7 _ ht)]
 by_cases h:1+k=t
 ·rw[ai h,ai (by omega),show t - 1=k by omega]
 ·rw[ah h]
  by_cases h2:1≤t∧t≤k
  ·rw[ai h2,ai (by omega)]
  ·rw[ah h2,ah (by omega)]
theorem T6(m nn:Nat)(A:List Nu)(i k:Nat):(C5 m nn A i k).length=1+nn+m:=by simp[C5]
def rV(i:Nat):Nat:=if i=0 then 0 else 6+8*i
def cV(j:Nat):Nat:=11+8*j
theorem yq(i:Nat):Dif i 2 (rV i) 6 cV:=by
 unfold rV cV
 refine⟨?_,by omega,?_,fun j hj=>⟨by omega,?_,by omega⟩,fun j k _ _ h=>by omega⟩
 ·split <;> omega
 ·split <;> omega
 ·split <;> omega
def prC(R Cc:Int)(A B C:List Nu):List D:=[dI .i64 R,dI .i64 Cc,.e (slE au A),.e (slE au B),.e (slE au C)]
theorem tq {R Cc:Int}{A B C:List Nu}{t:Nat}{y:D}(h:(prC R Cc A B C)[t]? =some y):Pt (prC R Cc A B C) t [y] (fun ys=>(prC R Cc A B C).take t++ys++(prC R Cc A B C).drop (t+1)):=Pt.cell h
theorem Bq(l:List E):(dC l).all D.noO=true:=by
 unfold dC
 rw[bc]
 intro d hd
 obtain⟨e,_,rfl⟩:=uf.1 hd
 rfl
theorem Bp(a:Nu)(k w:Nat):(aY a k w).all D.noO=true:=by
 unfold aY
 rw[lW,Bq]
 rfl
theorem GX {C:Nat→Nat}{w:Nat}:∀(i:Nat) (l:List Row),(fY C w i l).all D.noO=true
 |_,[]=>rfl
 |i,r::l=>by
  unfold fY iQ
  rw[lW,lW,Bp,GX (i+1) l]
  rfl
theorem ov_noO {kd R G w:Nat}{C:Nat→Nat}{d:Dic}{vs:List (Nat×List D)}(hb:∀p∈vs,p.2.all D.noO=true):∀k ds,(ov kd R G C w d vs).lookup k=some ds→ds.all D.noO=true:=by
 have hc:∀(i:Nat) (l:List Row),∀p∈cOv C i l,p.2.all D.noO=true:=by
  intro i l
  induction l generalizing i with
  |nil=>intro p hp;simp[cOv] at hp
  |cons r l ih=>
   intro p hp
   rcases kK.1 hp with rfl|hp
   ·exact Bq _
   ·exact ih (i+1) p hp
 intro k ds h
 have hm:=bF h
 unfold ov at hm
 rcases kK.1 hm with e|hm
 ·injection e with e1 e2
  rw[e2]
  unfold mX
  rw[lW,lW,Bp]
  cases d.rows <;> rfl
 rcases kK.1 hm with e|hm
 ·injection e with e1 e2
  rw[e2];exact Bq _
 rcases vP.1 hm with hm|hm
 ·unfold rOv at hm
  split at hm
  ·simp at hm
  ·rw[qF] at hm
   injection hm with e1 e2
   rw[e2];exact GX 0 _
 ·rcases vP.1 hm with hm|hm
  ·exact hc 0 _ _ hm
  ·exact hb _ hm
theorem PQ {σ:Nat→Nat}(a:Nu)(k w:Nat):(aY a k w).map (D.renC σ)=aY a (σ k) w:=by
 unfold aY dC
 rw[gK,qp]
 rfl
theorem Mb {σ:Nat→Nat}(l:List E):(dC l).map (D.renC σ)=dC l:=by
 unfold dC
 rw[qp]
 rfl
def TmR(σ:Nat→Nat)(m:Nat)(tm tm':List (Nat×D)):Prop:=∀p∈tm',tm.lookup p.1=some (p.2.ren σ)∧p.2.idsB m=true∧p.2.noOs=true
theorem TmR.nil {σ:Nat→Nat}{m:Nat}{tm:List (Nat×D)}:TmR σ m tm []:=fun p hp=>absurd hp (qG)
theorem TmR.cons {σ:Nat→Nat}{m t:Nat}{d:D}{tm tm':List (Nat×D)}(h2:TmR σ m tm tm')(h:tm.lookup t=some (d.ren σ))(hi:d.idsB m=true)(hn:d.noOs=true:=by exact rfl):TmR σ m tm ((t,d)::tm'):=fun p hp=>by
 rcases kK.1 hp with rfl|hp
 ·exact⟨h,hi,hn⟩
 ·exact h2 p hp
theorem U3 {dr:Bool}{ty:TypeId}{ev:Operand→D}{hp:Hp}{x y:Operand}{a:Nu}{k n:Nat}{b:Int}(hx:ev x=.ag (aY a k n):=by exact rfl)(hy:ev y=dI .i64 b:=by exact rfl):AVC prog tbl dr (.build 78 #[(0,x),(1,y)]) ty ev hp (Kq (.ag (aY a k n++[dI .i64 b])) hp):=by
 have h0:([(0,x),(1,y)]:List (Nat×Operand)).map (fun p=>(p.1,ev p.2))=[(0,.ag (aY a k n)),(1,dI .i64 b)]:=by simp only[jK,mZ,hx,hy]
 rw[show (#[(0,x),(1,y)]:Array (Nat×Operand))=([(0,x),(1,y)]:List (Nat×Operand)).toArray from rfl,wU,h0,ud,tQ]
 have hp:mb [(0,.ag (aY a k n)),(1,dI .i64 b)]=some [(0,aY a k n),(1,[dI .i64 b])]:=rfl
 rw[hp]
 dsimp only
 refine⟨by decide,?_⟩
 have hz:∀zs:List D,zs.length=38→f6 (oe tbl [(0,73),(37,3)]) zs [(0,aY a k n),(1,[dI .i64 b])]=some (aY a k n++[dI .i64 b]):=fun zs hzs=>by
  have p0:oe tbl [(0,73),(37,3)] 0=some (0,37):=rfl
  have p1:oe tbl [(0,73),(37,3)] 1=some (37,1):=rfl
  simp only[f6,p0,p1,bT]
  rw[ah (by simp[hzs])]
  rw[ah (by simp[bT,hzs])]
  rw[ES,ny,bt,vh (by rw[bT];exact az _),gJ (by rw[bT];exact az _),CK (by simp[bT,hzs]),tf]
 rw[hz _ (by rfl)]
 exact Kq.here _ _
theorem AW.joinE {P:Program}{x:Cx}{c c':Code}{tm:List (Nat×D)}{hp:Hp}{Q:Exit→List (Nat×D)→Hp→Prop}{α:Type}(T:α→List (Nat×D))(H:α→Hp)(I:α→Prop)(h1:AW P x c tm hp fun ex tm' hp'=>match ex with| .normal=>∃a,I a∧Wk x tm' hp' (T a) (H a)|ex=>Q ex tm' hp')(h2:∀a,I a→AW P x c' (T a) (H a) Q):AW P x (.seq c c') tm hp Q:=by
 refine AW.seq (AW.mono h1 fun ex tm' hp' h=>?_)
 cases ex with
 |normal=>
  obtain⟨a,ha,hw⟩:=h
  exact AW.weak hw (h2 a ha)
 |_=>exact h
theorem appRows {U:List (Nat×List D)}{lv:List (Nat×Nat×Nat×TypeId)}{N R ky w:Nat}{C:Nat→Nat}{l:List Row}{F1:List D}(hR:l≠[]→U.lookup R=some (fY C w 0 l))(hky:U.lookup ky=some F1)(hl:F1.length=38)(hb:l.length≤1000000):
  ∃W:List (Nat×List D),W.lookup N=some (fY C w 0 l++F1)∧(∀k ds,(l≠[]→k≠R)→k≠N→U.lookup k=some ds→W.lookup k=some ds)∧
   ∀{md:Md} {dst:Option Tmp} {ty:TypeId} {pos:String} {af:Array Edge} {gd:Option (Nat×Bool)} {ev:Operand→D} {x y:Operand},ev x=fb R l→ev y=.gw ky 38 1→mO prog tbl md ⟨dst,.call ⟨.builtin .append,#[x,y],#[71,71]⟩,ty,pos,af,gd⟩ ev ⟨U,lv,N⟩ (.gw N 38 (l.length+1)) ⟨W,lv,N+1⟩:=by
 cases l with
 |nil=>
  refine⟨(N,F1)::U,?_,fun k ds _ h2 h=>al h2 h,fun hx Sy=>?_⟩
  ·exact aa
  ·exact appN tok (hp:=⟨U,lv,N⟩) Cj tQ hky hx Sy hl (by decide)
 |cons r l=>
  refine⟨(N,fY C w 0 (r::l)++F1)::U.filter fun p=>!([R]:List Nat).contains p.1,aa,fun k ds h1 h2 h=>al h2 (xw (by simpa using h1 (by simp)) h),fun hx Sy=>?_⟩
  exact appR tok (hp:=⟨U,lv,N⟩) (k:=R) (n:=(r::l).length) (ds:=fY C w 0 (r::l)) Cj tQ (hR (by simp)) hky hx Sy (Bh _ _ _ _) hl (by show ((r::l).length+1)*168≤140737488355328;omega)
end
section
section
variable {d:Dic} {w at' s:Nat}
theorem Inv.pivotG(hI:Inv d w)(hat:at'<d.rows.length)(hs:s<w)(tJ:∀j,j<d.rows.length→d.rows[j]!.b≠s)(h0:(dV d at' s).1=0):gQ d w at' s∧(dV d at' s).2=gi d at' s:=by
 by_cases hp:d.most≤d.piv
 ·have:dV d at' s=(220,d):=by unfold dV;rw[ai hp]
  rw[this] at h0;cases h0
 obtain⟨h2,_,hok⟩:=Bn d at' s hat hp
 obtain⟨g1,g2⟩:=hok.1 h0
 refine⟨⟨hI,hat,hs,tJ,⟨?_,fun i hi=>?_,g1,fun i hi=>g2 i (by rwa[eg] at hi)⟩⟩,h2⟩
 ·show (gV d.gk d.gc _ s).c.length=w
  rw[rJ];exact hI.fine.lg
 ·rw[eg] at hi
  rw[je hi]
  split
  ·rw[rD];exact hI.fine.lr at' hat
  ·show (gV d.rows[i]!.k d.rows[i]!.c _ s).c.length=w
   rw[rJ];exact hI.fine.lr i hi
theorem Inv.improved(w:Nat):∀(f:Nat) (d:Dic),Inv d w→(g6 f d).1.2=0→Inv (g6 f d).2 w∧q9 d (g6 f d).2 w
 |0,d,hI,_=>⟨hI,q9.refl d w⟩
 |f+1,d,hI,h=>by
  unfold g6 at h ⊢
  cases hs:ke d.gc with
  |none=>exact⟨hI,q9.refl d w⟩
  |some s=>
   obtain⟨h1,h2,_⟩:=pD hs
   rw[hI.fine.lg] at h1
   rw[hs] at h
   dsimp only at h ⊢
   cases hl:jg d.rows s default d.rows.length with
   |none=>rw[hl] at h;cases h
   |some p=>
    rw[hl] at h
    dsimp only at h ⊢
    by_cases hp:p.1<0
    ·rw[ai hp];exact⟨hI,q9.refl d w⟩
    ·rw[ah hp] at h ⊢
     rcases pl hl with h3|⟨i,hi,h3,h4,_⟩
     ·omega
     rw[h3,show ((i:Int)).toNat=i by omega] at h ⊢
     by_cases h0:(dV d i s).1=0
     ·rw[ai h0] at h ⊢
      obtain⟨hG,h7⟩:=hI.pivotG hi h1 (hI.enter (by omega)) h0
      rw[h7] at h ⊢
      obtain⟨a1,a2⟩:=Inv.improved w f (gi d i s) hG.toInv h
      exact⟨a1,hG.same.trans a2⟩
     ·rw[ah h0] at h;exact absurd h h0
end
theorem RB {m nn:Nat}{A B C:List Nu}{most:Int}(hA:A.length=m*nn)(hB:B.length=m)(hgA:∀i,i<A.length→aw A[i]! =true)(hgB:∀i,i<B.length→aw B[i]! =true):
  B.any (fun b=>decide (bL b<0))=true→∀q,dV (co (aH m nn A B most)) (jS (aH m nn A B most).rows (aH m nn A B most).rows.length) 0=q→q.1=0→(aR q.2).1.2=0→0≤dA (aR q.2).2.rows 0→yf (aR q.2).2.rows[(dA (aR q.2).2.rows 0).toNat]!.c≠none:=by
 intro hn
 have FP:0<m:=by
  rcases sd m with e|e
  ·rw[e] at hB
   rw[IX.1 hB] at hn
   cases hn
  ·exact e
 have hI:=Hh (most:=most) hA hB hgA hgB
 have hlen:(aH m nn A B most).rows.length=m:=jG
 generalize hd:aH m nn A B most=d at hI hlen ⊢
 have h0:∀j,j<d.rows.length→d.rows[j]!.b≠0:=fun j hj=>by
  rw[←hd,rt j (by omega)];omega
 have hI1:Inv (co d) (1+nn+m):=by
  refine hI.col of1.1 (.inl h0) (by rw[c7];exact hI.fine.lg) (q9.fine hI ofm1.1 _ _ hI.fine.lg hI.fine.gg) (fun j hj=>?_) d.piv
  have:=hI.rng j hj
  have:=h0 j hj
  have:=hI.fine.lg
  rw[eG (by omega),ah (by omega)]
  exact hI.zg j hj
 have bK:jS d.rows d.rows.length<(co d).rows.length:=by
  have:=Aj d.rows d.rows.length
  show _<(d.rows.map _).length
  rw[a8];omega
 have hnb1:∀j,j<(co d).rows.length→(co d).rows[j]!.b≠((0:Nat):Int):=fun j hj=>by
  have Cv:j<d.rows.length:=by simpa[co] using hj
  show (d.rows.map (uc (nOf 1)))[j]!.b≠_
  rw[Ag Cv]
  exact h0 j Cv
 rintro q rfl hp e hf SY
 obtain⟨hG,h2⟩:=hI1.pivotG bK (show 0<1+nn+m by omega) hnb1 hp
 rw[h2] at e hf SY
 generalize gi (co d) (jS d.rows d.rows.length) 0=d1 at hG e hf SY h2
 have Qr:q9 (co d) (dV (co d) (jS d.rows d.rows.length) 0).2 (1+nn+m)∧Inv (dV (co d) (jS d.rows d.rows.length) 0).2 (1+nn+m):=by
  obtain⟨hG',qL⟩:=hI1.pivotG bK (show 0<1+nn+m by omega) hnb1 hp
  rw[qL]
  exact⟨hG'.same,hG'.toInv⟩
 rw[h2] at Qr
 obtain⟨a2,a4⟩:=Inv.improved (1+nn+m) _ d1 Qr.2 e
 have a2:Inv (aR d1).2 (1+nn+m):=a2
 have a4:q9 d1 (aR d1).2 (1+nn+m):=a4
 rcases ru (aR d1).2.rows 0 with⟨h5,_⟩|⟨i,h5,h6,h7⟩
 ·omega
 rw[h6,show ((i:Int)).toNat=i by omega] at SY
 have hz:∀t,t<1+nn+m→(aR d1).2.rows[i]!.c[t]! =nOf 0:=fun t ht=>by
  have hl:=a2.fine.lr i h5
  have hg:=(bm.1 (a2.fine.gr i h5)).2 t (by omega)
  unfold yf at SY
  have:=u9.1 SY (aR d1).2.rows[i]!.c[t] (nK (by omega))
  refine good0 hg ?_
  rw[bI _ t (by omega)]
  simpa using this
 have hcon:∀y,Sol (aR d1).2 (1+nn+m) y→y 0=rv (aR d1).2.rows[i]!.k:=fun y hy=>by
  have:=hy i h5
  rw[h7] at this
  have e2:bM (1+nn+m) (aR d1).2.rows[i]!.k (aR d1).2.rows[i]!.c y=rv (aR d1).2.rows[i]!.k:=by
   unfold bM
   rw[ay (g:=fun _=>0) fun t ht=>by rw[hz t ht,of0.2];grind,eI];grind
  rw[e2] at this
  exact this
 obtain⟨y0,hy0,hv0⟩:=hI1.pick fun _=>0
 obtain⟨y1,OB,hv1⟩:=hI1.pick fun _=>1
 have hh:=Qr.1.trans a4
 have e0:=hcon y0 ((hh.sol y0).2 hy0)
 have e1:=hcon y1 ((hh.sol y1).2 OB)
 rw[hv0 0 hnb1] at e0
 rw[hv1 0 hnb1] at e1
 rw[←e0] at e1
 exact absurd e1 (by decide)
end
section
def qD(m:Nat)(a:Ans):List D:=[dI .i64 a.kind,.e (slE au a.x),if a.kind=2 then .gw (7+8*m) 36 a.y.length else .e (slE au a.y),.e (slE au a.ray)]
def Gj(m:Nat)(r:Ans×Int×Int):Hp:=if r.1.kind=2 then⟨[(1,qD m r.1),(7+8*m,dC ((cW au).f r.1.y))],[],8+8*m⟩ else⟨[(1,qD m r.1)],[],2⟩
def LY(m:Nat)(r:Ans×Int×Int):D:=.tu [.ag (qD m r.1),dI .i64 r.2.1,dI .i64 r.2.2]
theorem rtS {cx:Cx}{tm:List (Nat×D)}{vs2:List (Nat×List D)}{n2 m:Nat}{r0 r:Ans×Int×Int}(h0:cx.hp0=⟨[],[],0⟩)(hr:r0=r)(h1:vs2.lookup 1=some (qD m r.1))(hk:r.1.kind=2→vs2.lookup (7+8*m)=some (dC ((cW au).f r.1.y))∧8+8*m≤n2)(hn:2≤n2)(h4:tm.lookup 4=some (.pt 1 0):=by exact rfl)(h5:tm.lookup 5=some (dI .i64 r.2.1):=by exact rfl)(h6:tm.lookup 6=some (dI .i64 r.2.2):=by exact rfl):
  ∃tm',Wk cx tm ⟨vs2,[],n2⟩ tm' (Gj m r0)∧tI tbl [.cell 4 29,.tmp 5,.tmp 6] tm' (Gj m r0) (LY m r0):=by
 subst hr
 have key:∀(V:List (Nat×List D)) (M:Nat),cp ⟨V,[],M⟩→V.lookup 1=some (qD m r0.1)→1<M→tI tbl [.cell 4 29,.tmp 5,.tmp 6] [(4,.pt 1 0),(5,dI .i64 r0.2.1),(6,dI .i64 r0.2.2)] ⟨V,[],M⟩ (LY m r0):=fun V M hok hl hM=>
  resV tbI rfl hl hM rfl rfl ⟨_,rfl,_,rfl,rfl⟩
 unfold Gj
 by_cases hq:r0.1.kind=2
 ·rw[ai hq]
  obtain⟨h7,h8⟩:=hk hq
  have Er:(qD m r0.1).all (D.idsC (8+8*m))=true:=by
   unfold qD
   rw[ai hq]
   simp only[iJ,kr,fH,cm]
   exact⟨rfl,rfl,aB (by omega),rfl⟩
  have hok:cp ⟨[(1,qD m r0.1),(7+8*m,dC ((cW au).f r0.1.y))],[],8+8*m⟩:=by
   refine⟨fun k ds h=>?_,fun id e h=>by simp at h⟩
   rcases b8 h with⟨rfl,rfl⟩|⟨_,h⟩
   ·exact⟨show 1<8+8*m by omega,Er⟩
   ·rcases b8 h with⟨rfl,rfl⟩|⟨_,h⟩
    ·exact⟨show 7+8*m<8+8*m by omega,eD _⟩
    ·simp at h
  refine⟨_,wkS (by rw[h0];exact cr _) h8 hok (fun j ds h=>?_) (((bG.nil.cons h6).cons h5).cons h4 (aB (show 1<8+8*m by omega))),key _ _ hok aa (by omega)⟩
  rcases b8 h with⟨rfl,rfl⟩|⟨_,h⟩
  ·exact h1
  ·rcases b8 h with⟨rfl,rfl⟩|⟨_,h⟩
   ·exact h7
   ·simp at h
 ·rw[ah hq]
  have Er:(qD m r0.1).all (D.idsC 2)=true:=by
   unfold qD
   rw[ah hq]
   rfl
  have hok:cp ⟨[(1,qD m r0.1)],[],2⟩:=by
   refine⟨fun k ds h=>?_,fun id e h=>by simp at h⟩
   rcases b8 h with⟨rfl,rfl⟩|⟨_,h⟩
   ·exact⟨show 1<2 by decide,Er⟩
   ·simp at h
  refine⟨_,wkS (by rw[h0];exact cr _) hn hok (fun j ds h=>?_) (((bG.nil.cons h6).cons h5).cons h4 rfl),key _ _ hok aa (by decide)⟩
  rcases b8 h with⟨rfl,rfl⟩|⟨_,h⟩
  ·exact h1
  ·simp at h
def lL:List E:=[.lit (.int .i64 0),.lit (.slice none 0 0),.lit (.slice none 0 0),.lit (.slice none 0 0)]
def dicZ(nn:Nat)(most:Int):List D:=[dN]++(dC zN++[dN])++[dI .i64 nn,dI .i64 0,dI .i64 most]
theorem QA(nn:Nat)(most:Int):Pt (dicZ nn most) 1 (dC zN++[dN]) (fun ys=>[dN]++ys++[dI .i64 nn,dI .i64 0,dI .i64 most]):=Pt.of [dN] [dI .i64 nn,dI .i64 0,dI .i64 most] rfl rfl fun y=>rfl
theorem qS {a b:Nat}(h:a+b<9223372036854775807):i64.wrap ((a:Int)+(b:Int))=((a+b:Nat):Int):=by rw[ee (by omega) (by omega)];omega
section
variable {d:Dic} {w m nn:Nat} {c:List Nu}
theorem cO.improveP(h:cO d w m):cO (aR d).2 w m∧(aR d).2.most=d.most∧(aR d).2.n=d.n∧-1≤(aR d).1.1∧(aR d).1.1<w:=h.improve _
theorem cO.start(h:cO d w m):cO (co d) w m:=by
 have h2:=h.colsI (nOf 1) (Nat.le_of_eq h.len)
 rw[xE] at h2
 exact⟨h2.len,(c7 ..).trans h2.lg,h2.lc,h2.b,h2.p0,h2.p1,h2.m0,h2.m1⟩
theorem TM {l:List Row}{v:Int}(h:¬dA l v<0):(dA l v).toNat<l.length:=by
 unfold dA at h ⊢
 cases Qh:l.findIdx? fun r=>decide (r.b=v) with
 |none=>rw[Qh] at h;exact absurd (show (-1:Int)<0 by decide) h
 |some a=>exact (oI.1 Qh).1
theorem cO.begin(h:cO d w m)(hm:0<m)(hw:0<w):cO (jH d).2 w m∧(jH d).2.n=d.n:=by
 have hl:=h.len
 have mC:jS d.rows d.rows.length<m:=by
  rcases Aj d.rows d.rows.length with h|h <;> omega
 obtain⟨p1,_,p3,_⟩:=h.start.pivot mC hw
 have p3:_=d.n:=p3
 unfold jH
 dsimp only
 split
 ·exact⟨p1,p3⟩
 ·obtain⟨q1,_,q3,_⟩:=p1.improveP
  split
  ·exact⟨q1,q3.trans p3⟩
  ·split
   ·exact⟨q1,q3.trans p3⟩
   ·next hf=>
    have hfl:=TM hf
    rw[q1.len] at hfl
    split
    ·exact⟨q1,q3.trans p3⟩
    ·next s hs=>
     have FK:=(oI.1 hs).1
     rw[q1.lc _ hfl] at FK
     obtain⟨r1,_,r3,_⟩:=q1.pivot hfl FK
     exact⟨r1,r3.trans (q3.trans p3)⟩
theorem cO.aim(h:cO d w m)(c:List Nu):cO (mK d c).2 w m∧(mK d c).2.n=d.n:=by
 have h2:=h.colsI (nOf 0) (Nat.le_of_eq h.len)
 rw[xE] at h2
 exact⟨⟨h2.len,(xa ..).trans h.lg,h2.lc,h2.b,h2.p0,h2.p1,h2.m0,h2.m1⟩,rfl⟩
theorem endP_1(h:(mK d c).1≠0):we nn d c=(⟨0,[],[],[]⟩,0,(mK d c).1):=by unfold we;dsimp only;rw[ai h]
theorem endP_2(h:¬(mK d c).1≠0)(h2:(aR (mK d c).2).1.2≠0):we nn d c=(⟨0,[],[],[]⟩,0,(aR (mK d c).2).1.2):=by unfold we;dsimp only;rw[ah h,ai h2]
theorem endP_3(h:¬(mK d c).1≠0)(h2:¬(aR (mK d c).2).1.2≠0)(h3:(aR (mK d c).2).1.1<0):we nn d c=(⟨1,cP (aR (mK d c).2).2.rows nn Row.k fun _=>nOf 0,bS (aR (mK d c).2).2 nn,[]⟩,(aR (mK d c).2).2.piv,0):=by unfold we;dsimp only;rw[ah h,ah h2,ai h3]
theorem endP_4(h:¬(mK d c).1≠0)(h2:¬(aR (mK d c).2).1.2≠0){s:Nat}(h3:(aR (mK d c).2).1.1=(s:Int)):we nn d c=(⟨3,cP (aR (mK d c).2).2.rows nn Row.k fun _=>nOf 0,[],cP (aR (mK d c).2).2.rows nn (fun r=>r.c[s]!) fun v=>nOf (if (v:Int)=(s:Int) then 1 else 0)⟩,(aR (mK d c).2).2.piv,0):=by
 unfold we
 dsimp only
 rw[ah h,ah h2,ah (by omega),h3,show ((s:Int)).toNat=s by omega]
 congr 2
 congr 1
 funext v
 split <;> rfl
end
section
variable {m nn:Nat} {A B C:List Nu} {most:Int}
theorem QI {m:Nat}{a:Ans}(h:a.kind≠2):qD m a=[dI .i64 a.kind,.e (slE au a.x),.e (slE au a.y),.e (slE au a.ray)]:=by unfold qD;rw[ah h]
theorem wW(m:Nat):D.le (.ag [dI .i64 0,dN,dN,dN]) (.ag (qD m ⟨0,[],[],[]⟩)):=by
 rw[QI (by decide)]
 exact rS ⟨.inl rfl,.inr (.inr ⟨rfl,36,by decide,rfl⟩),.inr (.inr ⟨rfl,36,by decide,rfl⟩),.inr (.inr ⟨rfl,36,by decide,rfl⟩),trivial⟩
theorem OU(hv:ar prog 15 [.ag (prC m nn A B C)] (dB true))(hm:m≤2000)(hn:nn≤2000)(hA:A.length=m*nn)(hB:B.length=m)(hC:C.length=nn)(hgA:∀i,i<A.length→aw A[i]! =true)(hgB:∀i,i<B.length→aw B[i]! =true)(hgC:∀i,i<C.length→aw C[i]! =true)(h0:0≤most)(h1:most≤9223372036854775807):
  HC prog 12 [.ag (prC m nn A B C),dI .i64 most] ⟨[],[],0⟩ (LY m (iw m nn A B C most)) (Gj m (iw m nn A B C most)):=by
 refine HC.of (rs:=[.cell 4 29,.tmp 5,.tmp 6]) tok func12 rfl rfl (bi rfl) rfl (fun cx hx vO hok=>?_)
 simp only[fG,Nat.reduceAdd,bt]
 obtain⟨w,hw⟩:∃w,w=1+nn+m:=⟨_,rfl⟩
 refine rs hx fun K hK=>?_
 refine s1 (gP (cs:=prC m nn A B C)) ?_
 refine a1 (F:=lL) tbI ?_
 iterate 2 refine sa ?_
 refine nl hK ?_
 refine AW.seq (rs hx fun K hK=>?_)
 refine p1 (Pt.all (F:=prC m nn A B C)) rfl ?_
 refine q1 (sHC (HC.frz (ds:=[.ag (prC m nn A B C)]) hv ⟨AR.data rfl,trivial⟩ rfl) rfl (.inr (Fr.refl _))) ?_
 iterate 2 refine sa ?_
 iterate 2 refine ga rfl ?_
 refine s1 (d:=dB (decide (most<0))) (lY rfl) ?_
 refine nl hK ?_
 refine AW.condF rfl (bp (by omega)) (AW.skip ?_)
 -- qu dictionary
 refine rs hx fun K hK=>?_
 iterate 2 refine sa ?_
 refine c1 (tq (t:=1) rfl) ?_
 refine sa ?_
 refine s1 (d:=.ag (dicZ nn most)) (dp tbI) ?_
 refine s1 (gP (cs:=dicZ nn most)) ?_
 refine sa ?_
 refine nl hK ?_
 refine rs hx fun K hK=>?_
 iterate 2 refine sa ?_
 refine c1 (tq (t:=1) rfl) ?_
 refine sa ?_
 rw[show i64.wrap ((1:Int)+(nn:Int))=((1+nn:Nat):Int) from qS (a:=1) (by omega)]
 iterate 2 refine sa ?_
 refine c1 (tq (t:=0) rfl) ?_
 refine sa ?_
 rw[qS (by omega),←hw]
 refine sa ?_
 refine nl hK ?_
 refine rs hx fun K hK=>?_
 iterate 2 refine sa ?_
 refine q1 (sHC (xz (by omega)) rfl (.inr ⟨show 3≤7 by decide,fun j hj=>by have hj:j<3:=hj;exact (ao (by omega)).trans (ao (by omega))⟩)) ?_
 iterate 2 refine sa ?_
 refine v1 (ys:=aY (nOf 0) 6 w) (QA nn most) rfl ((bT _ _ _).trans rfl) rfl ?_
 refine nl hK ?_
 refine rs hx fun K hK=>?_
 refine sa ?_
 refine nl hK ?_
 obtain⟨base,lS⟩:∃base:List (Nat×List D),base=[(1,dC lL),(0,prC m nn A B C)]:=⟨_,rfl⟩
 have f4:base.lookup 1=some (dC lL):=by rw[lS];exact aa
 have OT:base.lookup 0=some (prC m nn A B C):=by rw[lS];rfl
 have OS:∀j ds,base.lookup j=some ds→j=0∨j=1:=fun j ds h=>by
  rw[lS] at h
  rcases b8 h with⟨h2,_⟩|⟨_,h⟩
  ·exact .inr h2
  ·rcases b8 h with⟨h2,_⟩|⟨_,h⟩
   ·exact .inl h2
   ·simp at h
 have ME:∀M,2≤M→cp ⟨base,[],M⟩:=fun M hM=>by
  refine⟨fun j ds h=>?_,fun id e h=>by simp at h⟩
  rcases OS j ds h with rfl|rfl
  ·rw[OT] at h;injection h with h;subst h;exact⟨show 0<M by omega,rfl⟩
  ·rw[f4] at h;injection h with h;subst h;exact⟨show 1<M by omega,rfl⟩
 obtain⟨V0,FX⟩:∃V0,V0=(2,[dN]++aY (nOf 0) 6 w++[dI .i64 nn,dI .i64 0,dI .i64 most])::(3,aY (nOf 0) 6 w)::(6,dC ((cW au).f (List.replicate w (nOf 0))))::(2,dicZ nn most)::base:=⟨_,rfl⟩
 have hSI:∀i,i≤m→cO (mJ m nn A B most i) w i:=fun i hi=>by rw[hw];exact EE h0 h1 hi
 have JB:DAt V0 2 (rV 0) 6 cV w (mJ m nn A B most 0):=by
  rw[FX]
  exact⟨aa,fun fI=>absurd rfl fI,by rw[hw];exact al (by decide) (al (by decide) aa),fun i r hr=>by simp[mJ] at hr,(hSI 0 (cr _)).lg,(hSI 0 (cr _)).lC⟩
 have OG:∀k ds,k≠2→(0≠0→k≠rV 0)→k≠6→(∀j,j<0→k≠cV j)→base.lookup k=some ds→V0.lookup k=some ds:=fun k ds _ _ _ _ h=>by
  rw[FX]
  rcases OS k ds h with rfl|rfl
  ·exact al (by decide) (al (by decide) (al (by decide) (al (by decide) h)))
  ·exact al (by decide) (al (by decide) (al (by decide) (al (by decide) h)))
 rw[lS] at FX
 rw[←FX]
 rw[←lS] at FX
 have hokI:∀i d2,cO d2 w i→cp ⟨ov 2 (rV i) 6 cV w d2 base,[],7+8*i⟩:=fun i d2 h2=>Cp (ME _ (by omega)) (by omega) (by unfold rV;split <;> omega) (by omega) fun j hj=>by rw[h2.len] at hj;unfold cV;omega
 obtain⟨ng,hng⟩:∃ng:Nat→Bool,ng=fun i=>(B.take i).any fun b=>decide (bL b<0):=⟨_,rfl⟩
 refine AW.seq (rs hx fun K hK=>?_)
 refine sa ?_
 have hl00:V0.lookup 0=some (prC m nn A B C):=by rw[FX];exact al (by decide) (al (by decide) (al (by decide) (al (by decide) OT)))
 refine c1 (tq (t:=3) rfl) ?_
 iterate 2 refine sa ?_
 refine nl hK ?_
 rw[hB]
 refine AW.block (AW.loopW (fun i:Nat=>[(2,.pt 0 0),(4,.pt 1 0),(7,.pt 2 0),(8,dI .i64 w),(9,dB (ng i)),(48,.e (slE au B)),(49,dI .i64 m),(50,dI .i64 i)]) (fun i=>⟨ov 2 (rV i) 6 cV w (mJ m nn A B most i) base,[],7+8*i⟩) (fun i=>i≤m) (fun i=>m - i) 0 ?_ (cr _) ?_)
 ·exact wk1 vO (hok:=hokI 0 _ (hSI 0 (cr _))) (hv:=wF (yq 0) (hSI 0 (cr _)) JB OG) (ht:=by rw[hng];exact bG.cons (bG.cons (bG.cons (bG.cons (bG.cons (bG.cons (bG.cons (bG.cons bG.nil rfl rfl) rfl rfl) rfl rfl) rfl rfl) rfl rfl) rfl rfl) rfl rfl) rfl rfl)
 ·intro i hi
  have xA:=hSI i hi
  have Dq:=xA.at (yq i) (vs:=base)
  have n7:=hokI i _ xA
  have t5:∀k ds,base.lookup k=some ds→(ov 2 (rV i) 6 cV w (mJ m nn A B most i) base).lookup k=some ds:=fun k ds h=>by
   refine DX xA ?_ ?_ ?_ ?_ h
   ·rcases OS k ds h with rfl|rfl <;> decide
   ·intro hi0
    unfold rV
    rw[ah hi0]
    rcases OS k ds h with rfl|rfl <;> omega
   ·rcases OS k ds h with rfl|rfl <;> decide
   ·intro j _
    unfold cV
    rcases OS k ds h with rfl|rfl <;> omega
  obtain⟨V,hV⟩:∃V,V=ov 2 (rV i) 6 cV w (mJ m nn A B most i) base:=⟨_,rfl⟩
  rw[←hV] at Dq n7 t5 ⊢
  have hl0:=t5 0 _ OT
  have hnoV:∀k ds,V.lookup k=some ds→ds.all D.noO=true:=by
   rw[hV]
   refine ov_noO fun p hp=>?_
   rw[lS] at hp
   rcases kK.1 hp with rfl|hp
   ·exact Bq _
   ·rw[qF.1 hp];rfl
  have hl1:=t5 1 _ f4
  have ym:=Dq.hd
  refine rs hx fun K hK=>?_
  refine sa ?_
  refine nl hK ?_
  refine AW.seq (AW.condS rfl (fun hb=>?_) (fun hb=>?_))
  ·have pP:i<m:=by have:=bC hb;omega
   obtain⟨n,Qd⟩:∃n,n=7+8*i:=⟨_,rfl⟩
   rw[←Qd] at n7 ⊢
   have qU:0≤(i:Int)∧(i:Int)<((B.length:Nat):Int):=by omega
   refine AW.skip (AW.seq (AW.block (rs hx fun K hK=>?_)))
   refine sa ?_
   refine s1 (Pm qU bZ aO) ?_
   refine s1 (d:=dG au B[i]!) (jA (c:=au) (l:=B) (n:=i) (o:=0) aO (by omega) (e8 _ _ rfl)) ?_
   refine n1 ?_
   refine sa ?_
   refine z1 ?_
   refine nl hK ?_
   -- qu row
   obtain⟨F0,Qt⟩:∃F0,F0=aY (nOf 0) (n+4) w++[dI .i64 (1+nn+i:Nat)]:=⟨_,rfl⟩
   have hFl:F0.length=38:=by rw[Qt,cD,bT];rfl
   have hFi:F0.all (D.idsC (n+6))=true:=by rw[Qt,lW,iU (by omega)];rfl
   obtain⟨Tm,hTm⟩:∃Tm:List (Nat×D),Tm=[(2,.pt 0 0),(4,.pt 1 0),(7,.pt 2 0),(8,dI .i64 w),(9,dB (ng i)),(48,.e (slE au B)),(49,dI .i64 m),(50,dI .i64 i),(10,dI .i64 i),(11,.pt n 0),(12,.pt (n+5) 0)]:=⟨_,rfl⟩
   refine sj Tm ⟨(n+5,F0)::(n+4,dC ((cW au).f (List.replicate w (nOf 0))))::(n,dC (au.f B[i]!))::V,[],n+6⟩ ?_ ?_
   ·refine dw (DW.split 1 9 (by decide) ?_ ?_)
    ·refine dwg [] [0,1,2,3,4,5,6,7,8,9,10] hx (by kernel_rfl) (by kernel_rfl) (by kernel_rfl) fun K hK=>?_
     dsimp only[eh,mM,mW,List.map]
     refine sa ?_
     refine q1 (sHC (xz (by omega)) rfl (.inr ⟨show n+1≤n+1+4 by omega,fun j hj=>by have hj:j<n+1:=hj;exact (ao (by omega)).trans (ao (by omega))⟩)) ?_
     iterate 2 refine sa ?_
     refine c1 (tq (t:=1) rfl) ?_
     refine sa ?_
     rw[show i64.wrap ((1:Int)+(nn:Int))=((1+nn:Nat):Int) from qS (a:=1) (by omega)]
     iterate 2 refine sa ?_
     rw[qS (by omega)]
     refine s1 U3 ?_
     rw[←Qt]
     refine a1 (F:=PB) tQ ?_
     refine v1 (Pt.all (F:=dC PB)) rfl hFl rfl ?_
     refine .nil (hK _ _ ⟨rfl,?_⟩)
     rw[hTm]
     exact wk1 vO
    ·refine dwg [] [0,9,1,2,3,4,5,6,7,8,10] hx (by kernel_rfl) (by kernel_rfl) (by kernel_rfl) fun K hK=>?_
     dsimp only[eh,mM,mW,List.map]
     refine sa ?_
     refine a1 (F:=PB) tQ ?_
     refine q1 (sHC (xz (by omega)) rfl (.inr ⟨show n+2≤n+2+4 by omega,fun j hj=>by have hj:j<n+2:=hj;exact (ao (by omega)).trans (ao (by omega))⟩)) ?_
     iterate 2 refine sa ?_
     refine c1 (tq (t:=1) rfl) ?_
     refine sa ?_
     rw[show i64.wrap ((1:Int)+(nn:Int))=((1+nn:Nat):Int) from qS (a:=1) (by omega)]
     iterate 2 refine sa ?_
     rw[qS (by omega)]
     refine s1 U3 ?_
     refine v1 (ys:=aY (nOf 0) (n+5) w++[dI .i64 (1+nn+i:Nat)]) (Pt.all (F:=dC PB)) rfl (by rw[cD,bT];rfl) rfl ?_
     refine .nil (hK _ _ ⟨rfl,?_⟩)
     obtain⟨σ,hσ⟩:∃σ:Nat→Nat,σ=fun j=>if j=n+5 then n+1 else if j=n+4 then n+5 else if j=n+1 then n+4 else j:=⟨_,rfl⟩
     have s5:σ (n+5)=n+1:=by rw[hσ];exact ai rfl
     have s4:σ (n+4)=n+5:=by rw[hσ];show (if n+4=n+5 then _ else _)=_;rw[ah (by omega),ai rfl]
     have Gk:∀j,j<n+1→σ j=j:=fun j hj=>by rw[hσ];show (if j=n+5 then _ else _)=_;rw[ah (by omega),ah (by omega),ah (by omega)]
     have t6:∀a b,a<n+6→b<n+6→σ a=σ b→a=b:=fun a b _ _ h=>by
      rw[hσ] at h
      dsimp only at h
      repeat' split at h
      all_goals omega
     have Gv:2<n:=by omega
     rw[hTm]
     refine Wk.perm σ (by rw[vO];exact cr _) (fun j hj=>by rw[vO] at hj;exact absurd hj (qJ _)) t6 ?_ (fun k ds h=>?_) (fun k y h=>by simp at h)
     ·refine TmR.cons (TmR.cons (TmR.cons (TmR.cons (TmR.cons (TmR.cons (TmR.cons (TmR.cons (TmR.cons (TmR.cons (TmR.cons TmR.nil ?_ (aB (show n+5<n+6 by omega))) ?_ (aB (show n<n+6 by omega))) rfl rfl) rfl rfl) rfl rfl) rfl rfl) rfl rfl) rfl rfl) ?_ (aB (show 2<n+6 by omega))) ?_ (aB (show 1<n+6 by omega))) ?_ (aB (show 0<n+6 by omega))
      ·show _=some (D.pt (σ (n+5)) 0);rw[s5];rfl
      ·show _=some (D.pt (σ n) 0);rw[Gk n (by omega)];rfl
      ·show _=some (D.pt (σ 2) 0);rw[Gk 2 (by omega)];rfl
      ·show _=some (D.pt (σ 1) 0);rw[Gk 1 (by omega)];rfl
      ·show _=some (D.pt (σ 0) 0);rw[Gk 0 (by omega)];rfl
     ·rcases b8 h with⟨rfl,rfl⟩|⟨k5,h⟩
      ·refine⟨by omega,?_,hFi,by rw[Qt,lW,Bp];rfl⟩
       rw[s5,Qt,gK,PQ,s4]
       exact aa
      rcases b8 h with⟨rfl,rfl⟩|⟨k4,h⟩
      ·refine⟨by omega,?_,eD _,Bq _⟩
       rw[s4,Mb]
       exact al (by omega) (al (by omega) aa)
      rcases b8 h with⟨rfl,rfl⟩|⟨kn,h⟩
      ·refine⟨by omega,?_,eD _,Bq _⟩
       rw[Gk k (by omega),Mb]
       exact al (by omega) (al (by omega) (al (by omega) (al (by omega) aa)))
      ·have hk:=n7.lt h
       have hki:=(n7.var k ds h).2
       refine⟨by omega,?_,bc.2 fun d hd=>D.idsC_le (show n≤n+6 by omega) (bc.1 hki d hd),hnoV k ds h⟩
       rw[Gk k (by omega),map_low (n:=n) (fun j hj=>Gk j (by omega)) hki (hnoV k ds h)]
       exact al (by omega) (al (by omega) (al (by omega) (al (by omega) (al kn (al kn h)))))
   ·rw[hTm]
    obtain⟨F1,Hd⟩:∃F1,F1=iQ cV w i (KK m nn A B i):=⟨_,rfl⟩
    have hcV:cV i=n+4:=by unfold cV;omega
    have hF1e:F1=aY B[i]! (n+4) w++[dI .i64 (1+nn+i:Nat)]:=by rw[Hd];unfold iQ;rw[hcV];rfl
    have hF1l:F1.length=38:=by rw[Hd];exact tT _ _ _ _
    have hF1i:F1.all (D.idsC (n+6))=true:=by rw[hF1e,lW,iU (by omega)];rfl
    have L0:Pt F0 (0+0+0) (dC (au.f (nOf 0))) (fun ys=>ys++([.ow (n+4) 0 36 w]++[dI .i64 (1+nn+i:Nat)])):=Pt.of [] ([.ow (n+4) 0 36 w]++[dI .i64 (1+nn+i:Nat)]) rfl (by rw[Qt];unfold aY;simp only[da,ny]) fun y=>rfl
    have L1:Pt F1 (0+0+36) [.ow (n+4) 0 36 w] (fun ys=>dC (au.f B[i]!)++ys++[dI .i64 (1+nn+i:Nat)]):=Pt.of (dC (au.f B[i]!)) [dI .i64 (1+nn+i:Nat)] (iS _) (by rw[hF1e];unfold aY;simp only[da]) fun y=>rfl
    refine rs hx fun K hK=>?_
    refine l1 (Pt.idN _) ?_
    iterate 2 refine sa ?_
    refine t1 (b:=B[i]!) (F2:=F1) L0 (by rw[hF1e];unfold aY;simp only[da]) ?_
    refine nl hK ?_
    refine AW.seq (rs hx fun K hK=>?_)
    iterate 2 refine sa ?_
    refine c1 (tq (t:=1) rfl) ?_
    refine sa ?_
    refine nl hK ?_
    rw[show List.replicate w (nOf 0)=C5 m nn A i 0 by rw[QB,hw]]
    refine AW.block (AW.loopW (fun k:Nat=>[(2,.pt 0 0),(4,.pt 1 0),(7,.pt 2 0),(8,dI .i64 w),(9,dB (ng i)),(48,.e (slE au B)),(49,dI .i64 m),(50,dI .i64 i),(10,dI .i64 i),(11,.pt n 0),(12,.pt (n+5) 0),(69,dI .i64 nn),(70,dI .i64 k)]) (fun k=>⟨(n+4,dC ((cW au).f (C5 m nn A i k)))::(n+5,F1)::(n,dC (au.f B[i]!))::V,[],n+6⟩) (fun k=>k≤nn) (fun k=>nn - k) 0 ?_ (cr _) ?_)
    ·exact wk1 vO
    ·intro k hk
     have uu:=T6 m nn A i k
     refine rs hx fun K hK=>?_
     refine sa ?_
     refine nl hK ?_
     refine AW.seq (AW.condS rfl (fun hb=>?_) (fun hb=>?_))
     ·have xy:k<nn:=by have:=bC hb;omega
      have hmul:i*nn+nn≤m*nn:=by
       calc i*nn+nn=(i+1)*nn:=by rw[bR];omega
        _≤m*nn:=cM _ pP
      have hmn:m*nn≤2000*2000:=lf hm hn
      have hmi:i64.wrap ((i:Int)*(nn:Int))=((i*nn:Nat):Int):=by rw[←iT,ee (by omega) (by omega)]
      have hc3:0≤((i*nn+k:Nat):Int)∧((i*nn+k:Nat):Int)<((A.length:Nat):Int):=by omega
      refine AW.skip (AW.seq (AW.block (rs hx fun K hK=>?_)))
      iterate 2 refine sa ?_
      refine nl hK ?_
      refine rqd [42] hx fun K hK=>?_
      iterate 2 refine sa ?_
      refine c1 L1 ?_
      iterate 2 refine sa ?_
      rw[show i64.wrap ((1:Int)+(k:Int))=((1+k:Nat):Int) from qS (a:=1) (by omega)]
      iterate 2 refine sa ?_
      refine c1 (tq (t:=2) rfl) ?_
      iterate 3 refine sa ?_
      refine c1 (tq (t:=1) rfl) ?_
      refine sa ?_
      rw[hmi]
      iterate 2 refine sa ?_
      rw[qS (by omega)]
      refine s1 (Pm hc3 bZ aO) ?_
      refine s1 (d:=dG au A[i*nn+k]!) (jA (c:=au) (l:=A) (n:=i*nn+k) (o:=0) aO (by omega) (e8 _ _ rfl)) ?_
      refine cq (JU _) ?_
      refine i1 (i:=1+k) (n:=w) (by omega) ?_
      refine t1 (Pt.el (C5 m nn A i k) (1+k) (by omega)) (Pt.el_set (C5 m nn A i k) (1+k) (by omega) _) ?_
      refine nl hK ?_
      rw[QC xy]
      refine rq hx fun K hK=>?_
      iterate 2 refine sa ?_
      refine nl hK ?_
      rw[bU]
      exact⟨k+1,wk1 vO,xy,by omega⟩
     ·refine AW.exit ?_
      have xy:k=nn:=by have:=dE hb;omega
      subst xy
      have hcrow:C5 m k A i k=(KK m k A B i).c:=rfl
      rw[hcrow]
      obtain⟨U,hU⟩:∃U,U=(n+4,dC ((cW au).f (KK m k A B i).c))::(n+5,F1)::(n,dC (au.f B[i]!))::V:=⟨_,rfl⟩
      have hU5:U.lookup (n+5)=some F1:=by rw[hU];exact al (by omega) aa
      have hU4:U.lookup (n+4)=some (dC ((cW au).f (KK m k A B i).c)):=by rw[hU];exact aa
      have hUn:U.lookup n=some (dC (au.f B[i]!)):=by rw[hU];exact al (by omega) (al (by omega) aa)
      have hUV:∀j ds,V.lookup j=some ds→U.lookup j=some ds:=fun j ds h=>by
       have:=n7.lt h
       rw[hU];exact al (by omega) (al (by omega) (al (by omega) h))
      rw[←hU]
      have hli:=xA.len
      have hU2:=hUV _ _ ym
      refine rsd [] hx fun K hK=>?_
      iterate 4 refine sa ?_
      refine c1 gu ?_
      refine p1 (Pt.all (F:=F1)) hF1l ?_
      refine q1 (litR tok Cj tQ rfl hF1l) ?_
      obtain⟨W,hW1,hWx,hap⟩:=appRows (U:=(n+6,F1)::U) (lv:=[]) (N:=n+7) (R:=rV i) (ky:=n+6) (w:=w) (C:=cV) (l:=(mJ m k A B most i).rows) (fun fI=>al (by unfold rV;split <;> omega) (hUV _ _ (Dq.hR fI))) aa hF1l (by omega)
      rw[hli] at hap
      refine q1 (hap rfl rfl) ?_
      have hW2:W.lookup 2=some (mX (rV i) 6 w (mJ m k A B most i)):=hWx 2 _ (fun _=>by unfold rV;split <;> omega) (by omega) (al (by omega) hU2)
      iterate 2 refine sa ?_
      refine v1 (ys:=[.gw (n+7) 38 (i+1)]) (gu (R:=rV i) (G:=6) (w:=w) (d:=mJ m k A B most i)) rfl rfl rfl ?_
      refine nl hK ?_
      have hrv:rV (i+1)=n+7:=by unfold rV;rw[ah (by omega)];omega
      have SI:(mJ m k A B most (i+1)).rows=(mJ m k A B most i).rows++[KK m k A B i]:=by
       show (List.range (i+1)).map _=(List.range i).map _++_
       rw[wY,gK];rfl
      have Qr:=hSI (i+1) pP
      have mC:∀j ds,j≠2→(i≠0→j≠rV i)→V.lookup j=some ds→((2,[D.gw (n+7) 38 (i+1)]++(aY (mJ m k A B most i).gk 6 w++[dI .i64 (mJ m k A B most i).n,dI .i64 (mJ m k A B most i).piv,dI .i64 (mJ m k A B most i).most]))::W).lookup j=some ds:=fun j ds h2 hr h=>by
       have hj:=n7.lt h
       exact al h2 (hWx j ds (fun fI=>hr (fun e=>fI (by subst e;rfl))) (by omega) (al (by omega) (hUV j ds h)))
      have hD1:DAt ((2,[D.gw (n+7) 38 (i+1)]++(aY (mJ m k A B most i).gk 6 w++[dI .i64 (mJ m k A B most i).n,dI .i64 (mJ m k A B most i).piv,dI .i64 (mJ m k A B most i).most]))::W) 2 (rV (i+1)) 6 cV w (mJ m k A B most (i+1)):=by
       refine⟨?_,fun _=>?_,?_,fun j r hr=>?_,Qr.lg,Qr.lC⟩
       ·rw[aa]
        have:fb (rV (i+1)) (mJ m k A B most (i+1)).rows=.gw (n+7) 38 (i+1):=by
         rw[p7 (by rw[SI];simp),hrv,Qr.len]
        unfold mX
        rw[this,da]
        rfl
       ·rw[hrv,SI,Bi,hli,bt]
        refine al (by omega) (hW1.trans ?_)
        rw[Hd]
        unfold fY
        rw[show fY cV w (i+1) []=[] from rfl,tf]
       ·refine mC 6 _ (by decide) (fun h=>by unfold rV;rw[ah h];omega) ?_
        exact Dq.hG
       ·have hj:j<i+1:=by have:=(fL.1 hr).1;rw[Qr.len] at this;exact this
        rw[SI] at hr
        rcases d6 j i with h|h
        ·rw[AG (by omega)] at hr
         exact mC (cV j) _ (by unfold cV;omega) (fun h=>by unfold cV rV;rw[ah h];omega) (Dq.hC j r hr)
        ·obtain rfl:j=i:=by omega
         rw[qH (by omega),hli,zm] at hr
         injection hr with hr
         subst hr
         rw[hcV]
         exact al (by omega) (hWx (n+4) _ (fun _=>by unfold rV;split <;> omega) (by omega) (al (by omega) hU4))
      have hX11:((2,[D.gw (n+7) 38 (i+1)]++(aY (mJ m k A B most i).gk 6 w++[dI .i64 (mJ m k A B most i).n,dI .i64 (mJ m k A B most i).piv,dI .i64 (mJ m k A B most i).most]))::W).lookup n=some (dC (au.f B[i]!)):=al (by omega) (hWx n _ (fun _=>by unfold rV;split <;> omega) (by omega) (al (by omega) hUn))
      have wd:=wF (vs:=base) (yq (i+1)) Qr hD1 fun j ds h2 _ _ _ h=>mC j ds h2 (fun hi0=>by
       unfold rV
       rw[ah hi0]
       rcases OS j ds h with rfl|rfl <;> omega) (t5 j ds h)
      have Ao:=hokI (i+1) _ Qr
      have hng1:ng (i+1)=(ng i||decide (bL B[i]! <0)):=by
       rw[hng]
       dsimp only
       rw[yx,List.any_append,uR (show i<B.length by omega)]
       simp
      generalize (2,[D.gw (n+7) 38 (i+1)]++(aY (mJ m k A B most i).gk 6 w++[dI .i64 (mJ m k A B most i).n,dI .i64 (mJ m k A B most i).piv,dI .i64 (mJ m k A B most i).most]))::W=X at hX11 wd ⊢
      have Q1:n+8=7+8*(i+1):=by omega
      refine rq hx fun K hK=>?_
      iterate 2 refine sa ?_
      cases Jz:ng i with
      |true=>
       rw[Jz] at hng1
       iterate 3 refine gn rfl ?_
       refine s1 (d:=dB true) (oO rfl) ?_
       refine sa ?_
       refine nl hK ?_
       refine rq hx fun K hK=>?_
       iterate 2 refine sa ?_
       refine nl hK ?_
       rw[bU]
       refine⟨i+1,?_,pP,by omega⟩
       rw[show ng (i+1)=true from hng1]
       rw[←Q1] at Ao ⊢
       exact wk1 vO (hok:=Ao) (hv:=wd)
      |false=>
       rw[Jz] at hng1
       refine l1g (Pt.idN B[i]!) rfl ?_
       refine cqg (yL _) rfl ?_
       refine ga rfl ?_
       refine s1 (d:=dB (decide (bL B[i]! <0))) (lY rfl) ?_
       refine sa ?_
       refine nl hK ?_
       refine rq hx fun K hK=>?_
       iterate 2 refine sa ?_
       refine nl hK ?_
       rw[bU]
       refine⟨i+1,?_,pP,by omega⟩
       rw[show ng (i+1)=decide (bL B[i]! <0) from hng1]
       rw[←Q1] at Ao ⊢
       exact wk1 vO (hok:=Ao) (hv:=wd)
  ·refine AW.exit ?_
   have pP:i=m:=by have:=dE hb;omega
   subst pP
   rw[KW] at Dq ym xA
   obtain⟨NN,hNN⟩:∃NN,NN=7+8*i:=⟨_,rfl⟩
   rw[←hNN] at n7 ⊢
   have hngm:ng i=B.any fun b=>decide (bL b<0):=by
    rw[hng]
    dsimp only
    rw[gJ (by omega)]
   rw[hngm]
   have An:=RB (C:=C) (most:=most) hA hB hgA hgB
   have Dp:rV i<NN:=by unfold rV;split <;> omega
   have hw0:0<w:=by omega
   refine AW.joinE (α:=Dic×List (Nat×List D)) (fun _=>[(2,.pt 0 0),(4,.pt 1 0),(7,.pt 2 0)]) (fun a=>⟨a.2,[],NN⟩) (fun a=>DAt a.2 2 (rV i) 6 cV w a.1∧cO a.1 w i∧a.1.n=(nn:Int)∧a.2.lookup 0=some (prC i nn A B C)∧a.2.lookup 1=some (dC lL)∧cp ⟨a.2,[],NN⟩∧iw i nn A B C most=we nn a.1 C) ?_ ?_
   ·refine rs hx fun K hK=>?_
    refine sa ?_
    refine nl hK ?_
    refine AW.condS rfl (fun n8=>?_) (fun n8=>?_)
    ·have FP:0<i:=by
      rcases sd i with e|e
      ·rw[e] at hB
       rw[IX.1 hB] at n8
       cases n8
      ·exact e
     have hbg:=h_begin (lv:=[]) (N:=NN) Dp Dq (yq i) xA (by omega) (by omega) FP hw0 (An n8)
     have iq:iw i nn A B C most=(if (jH (aH i nn A B most)).1≠0 then (⟨0,[],[],[]⟩,0,(jH (aH i nn A B most)).1) else if bL (jH (aH i nn A B most)).2.gk<0 then (⟨2,[],bS (jH (aH i nn A B most)).2 nn,[]⟩,(jH (aH i nn A B most)).2.piv,0) else we nn (jH (aH i nn A B most)).2 C):=by
      unfold iw
      dsimp only
      rw[ai n8]
     have hSb:=xA.begin FP hw0
     obtain⟨VB,hVB⟩:∃VB,VB=ov 2 (rV i) 6 cV w (jH (aH i nn A B most)).2 V:=⟨_,rfl⟩
     have hokB:cp ⟨VB,[],NN⟩:=by rw[hVB];exact Cp n7 (by omega) (by omega) (by omega) fun j hj=>by rw[hSb.1.len] at hj;unfold cV;omega
     have hDb:DAt VB 2 (rV i) 6 cV w (jH (aH i nn A B most)).2:=by rw[hVB];exact hSb.1.at (yq i)
     have hoB:∀k ds,k≤1→V.lookup k=some ds→VB.lookup k=some ds:=fun k ds hk h=>by
      rw[hVB]
      exact DX hSb.1 (by omega) (fun e=>by unfold rV;rw[ah e];omega) (by omega) (fun j _=>by unfold cV;omega) h
     have Iz:=hoB 0 _ (by decide) hl0
     have TA:=hoB 1 _ (by decide) hl1
     rw[←hVB] at hbg
     have hBd:=hDb.hd
     clear hVB
     refine AW.seq (rs hx fun K hK=>?_)
     refine sa ?_
     refine q1 (sHC hbg rfl (.inl (by kernel_rfl))) ?_
     refine sa ?_
     refine nl hK ?_
     refine rs hx fun K hK=>?_
     iterate 2 refine sa ?_
     refine nl hK ?_
     refine AW.condS rfl (fun hb=>?_) (fun hb=>?_)
     ·rw[ai (by simpa using hb)] at iq
      refine rs hx fun K hK=>?_
      refine s2 (dp tbI) (wW i) ?_
      refine sa ?_
      refine v1 (ys:=qD i ⟨0,[],[],[]⟩) (Pt.all (F:=dC lL)) rfl rfl rfl ?_
      iterate 2 refine sa ?_
      refine nl hK ?_
      exact AW.ret (rtS vO iq aa (fun e=>by cases e) (by omega))
     ·rw[ah (by simpa using hb)] at iq
      refine AW.skip (rs hx fun K hK=>?_)
      iterate 4 refine sa ?_
      refine l1 ms.pk ?_
      refine cq (yL _) ?_
      refine sa ?_
      refine nl hK ?_
      refine AW.condS rfl (fun hb=>?_) (fun hb=>?_)
      ·rw[ai (bC hb)] at iq
       have Jy:(bS (jH (aH i nn A B most)).2 nn).length=i:=by
        unfold bS
        rw[a8,fc,hSb.1.lg]
        omega
       have MD:=Qn (lv:=[]) (N:=NN) hDb hSb.2 (by omega) (by omega) (by rw[Jy];exact FP)
       obtain⟨pr,hpr2⟩:∃pr,pr=bS (jH (aH i nn A B most)).2 nn:=⟨_,rfl⟩
       rw[←hpr2] at MD Jy iq
       obtain⟨F2,OV⟩:∃F2,F2=qD i ⟨2,[],pr,[]⟩:=⟨_,rfl⟩
       have hle:D.le (.ag [dI .i64 2,dN,.gw NN 36 pr.length,dN]) (.ag F2):=by
        rw[OV,hNN]
        exact rS ⟨.inl rfl,.inr (.inr ⟨rfl,36,by decide,rfl⟩),.inl rfl,.inr (.inr ⟨rfl,36,by decide,rfl⟩),trivial⟩
       have hF2i:F2.all (D.idsC (NN+1))=true:=by
        rw[OV]
        unfold qD
        rw[ai rfl,←hNN]
        simp only[iJ,kr,fH,cm]
        exact⟨rfl,rfl,aB (show NN<NN+1 by omega),rfl⟩
       have GB:F2.length=4:=by rw[OV];rfl
       refine sj [(4,.pt 1 0),(5,dI .i64 (jH (aH i nn A B most)).2.piv),(6,dI .i64 0)] ⟨(1,F2)::(NN,dC ((cW au).f pr))::VB,[],NN+1⟩ ?_ ?_
       ·refine dw (DW.split 1 6 (by decide) ?_ ?_)
        ·refine DW.split 6 7 (by decide) ?_ ?_
         ·refine dwg [] [0,1,2,3,4,5,6,7,8,9] hx (by kernel_rfl) (by kernel_rfl) (by kernel_rfl) fun K hK=>?_
          dsimp only[eh,mM,mW,List.map]
          refine sa ?_
          refine q1 (sHC MD rfl (.inl (by kernel_rfl))) ?_
          refine s2 (dp tbI) hle ?_
          refine sa ?_
          refine sa ?_
          refine sa ?_
          refine c1 oz ?_
          refine v1 (ys:=F2) (Pt.all (F:=dC lL)) rfl GB rfl ?_
          refine sa ?_
          refine sa ?_
          refine .nil (hK _ _ ⟨rfl,wk1 vO⟩)
         ·refine dwg [] [0,1,2,7,3,4,5,6,8,9] hx (by kernel_rfl) (by kernel_rfl) (by kernel_rfl) fun K hK=>?_
          dsimp only[eh,mM,mW,List.map]
          refine sa ?_
          refine q1 (sHC MD rfl (.inl (by kernel_rfl))) ?_
          refine s2 (dp tbI) hle ?_
          refine v1 (ys:=F2) (Pt.all (F:=dC lL)) rfl GB rfl ?_
          refine sa ?_
          refine sa ?_
          refine sa ?_
          refine c1 oz ?_
          refine sa ?_
          refine sa ?_
          refine .nil (hK _ _ ⟨rfl,wk1 vO⟩)
        ·refine dwg [] [3,4,5,6,0,1,2,7,8,9] hx (by kernel_rfl) (by kernel_rfl) (by kernel_rfl) fun K hK=>?_
         dsimp only[eh,mM,mW,List.map]
         refine sa ?_
         refine sa ?_
         refine sa ?_
         refine c1 oz ?_
         refine sa ?_
         refine q1 (sHC MD rfl (.inl (by kernel_rfl))) ?_
         refine s2 (dp tbI) hle ?_
         refine v1 (ys:=F2) (Pt.all (F:=dC lL)) rfl GB rfl ?_
         refine sa ?_
         refine sa ?_
         refine .nil (hK _ _ ⟨rfl,wk1 vO⟩)
       ·exact AW.ret (rtS vO iq (by rw[←OV];exact aa) (fun _=>⟨by rw[←hNN];exact al (by omega) aa,by omega⟩) (by omega))
      ·rw[ah (dE hb)] at iq
       exact AW.skip (⟨((jH (aH i nn A B most)).2,VB),⟨hDb,hSb.1,hSb.2,Iz,TA,hokB,iq⟩,wk1 vO⟩)
    ·refine AW.skip ?_
     have iq:iw i nn A B C most=we nn (aH i nn A B most) C:=by
      unfold iw
      dsimp only
      rw[ah (by rw[n8];simp)]
     exact⟨(aH i nn A B most,V),⟨Dq,xA,rfl,hl0,hl1,n7,iq⟩,wk1 vO⟩
   ·rintro⟨d2,X⟩ ⟨hD2,hS2,Gv,FJ,G5,hokX,iq⟩
    dsimp only at hD2 hS2 Gv FJ G5 hokX iq ⊢
    have haim:=h_aim (lv:=[]) (N:=NN) (c:=C) Dp hD2 (yq i) hS2 (by omega) (by omega) hw0 (by omega)
    have hSA:=hS2.aim C
    have hfA:Dif i 2 (rV i) (NN+3) cV:=⟨(yq i).dR,by omega,by omega,fun j hj=>⟨((yq i).C1 j hj).1,((yq i).C1 j hj).2.1,by unfold cV;omega⟩,(yq i).C2⟩
    obtain⟨VA,hVA⟩:∃VA,VA=ov 2 (rV i) (NN+3) cV w (mK d2 C).2 X:=⟨_,rfl⟩
    have Gu:cp ⟨VA,[],NN+4⟩:=by rw[hVA];exact Cp (hokX.up (by omega)) (by omega) (by omega) (by omega) fun j hj=>by rw[hSA.1.len] at hj;unfold cV;omega
    have hDA:DAt VA 2 (rV i) (NN+3) cV w (mK d2 C).2:=by rw[hVA];exact hSA.1.at hfA
    have hoA:∀{W:List (Nat×List D)} {e:Dic},cO e w i→∀k ds,k≤1→W.lookup k=some ds→(ov 2 (rV i) (NN+3) cV w e W).lookup k=some ds:=fun {W e} hSe k ds hk h=>
     DX hSe (by omega) (fun e=>by unfold rV;rw[ah e];omega) (by omega) (fun j _=>by unfold cV;omega) h
    have hA1:VA.lookup 1=some (dC lL):=by rw[hVA];exact hoA hSA.1 1 _ (by decide) G5
    rw[←hVA] at haim
    clear hVA
    refine AW.seq (rs hx fun K hK=>?_)
    iterate 2 refine sa ?_
    refine c1 (tq (t:=4) rfl) ?_
    refine q1 (sHC haim rfl (.inl (by kernel_rfl))) ?_
    refine sa ?_
    refine nl hK ?_
    refine rs hx fun K hK=>?_
    iterate 2 refine sa ?_
    refine nl hK ?_
    refine AW.condS rfl (fun hb=>?_) (fun hb=>?_)
    ·have iq:=iq.trans (endP_1 (by simpa using hb))
     refine rs hx fun K hK=>?_
     refine s2 (dp tbI) (wW i) ?_
     refine sa ?_
     refine v1 (ys:=qD i ⟨0,[],[],[]⟩) (Pt.all (F:=dC lL)) rfl rfl rfl ?_
     iterate 2 refine sa ?_
     refine nl hK ?_
     exact AW.ret (rtS vO iq aa (fun e=>by cases e) (by omega))
    have f4:¬(mK d2 C).1≠0:=by simpa using hb
    clear hb
    refine AW.skip ?_
    have himp:=Hb (lv:=[]) (N:=NN+4) (show rV i<NN+4 by omega) hDA hfA hSA.1 (by omega) (by omega)
    have Ev:=hSA.1.improveP
    obtain⟨VI,hVI⟩:∃VI,VI=ov 2 (rV i) (NN+3) cV w (aR (mK d2 C).2).2 VA:=⟨_,rfl⟩
    have hokVI:cp ⟨VI,[],NN+4⟩:=by rw[hVI];exact Cp Gu (by omega) (by omega) (by omega) fun j hj=>by rw[Ev.1.len] at hj;unfold cV;omega
    have hDI:DAt VI 2 (rV i) (NN+3) cV w (aR (mK d2 C).2).2:=by rw[hVI];exact Ev.1.at hfA
    have hI1:VI.lookup 1=some (dC lL):=by rw[hVI];exact hoA Ev.1 1 _ (by decide) hA1
    rw[←hVI] at himp
    clear hVI
    have CC:=f4
    have SG:iw i nn A B C most=we nn d2 C:=iq
    have hnF:(aR (mK d2 C).2).2.n=(nn:Int):=by rw[Ev.2.2.1,hSA.2,Gv]
    have hgc:(aR (mK d2 C).2).2.gc.length=w:=Ev.1.lg
    obtain⟨hs1,LL⟩:=Ev.2.2.2
    obtain⟨q,hq⟩:∃q,q=aR (mK d2 C).2:=⟨_,rfl⟩
    have hE2:=fun h2=>SG.trans (endP_2 f4 h2)
    have hE3:=fun h2 h3=>SG.trans (endP_3 f4 h2 h3)
    have hE4:=fun h2 (s:Nat) h3=>SG.trans (endP_4 (s:=s) f4 h2 h3)
    rw[←hq] at himp Ev hDI hnF hgc hs1 LL hE2 hE3 hE4
    clear hq
    refine rs hx fun K hK=>?_
    refine sa ?_
    refine q1 (sHC himp rfl (.inl (by kernel_rfl))) ?_
    iterate 3 refine sa ?_
    refine a1 (F:=[.lit (.int .i64 0)]) tbI ?_
    refine v1 (F2:=[dI .i64 q.1.1]) (ys:=[dI .i64 q.1.1]) (Pt.all (F:=dC [.lit (.int .i64 0)])) rfl rfl rfl ?_
    refine sa ?_
    refine nl hK ?_
    obtain⟨W,hW⟩:∃W,W=(NN+4,[dI .i64 q.1.1])::(NN+4,dC [.lit (.int .i64 0)])::VI:=⟨_,rfl⟩
    have hWx:∀k ds,VI.lookup k=some ds→W.lookup k=some ds:=fun k ds h=>by
     have:=hokVI.lt h
     rw[hW];exact al (by omega) (al (by omega) h)
    have hWs:W.lookup (NN+4)=some [dI .i64 q.1.1]:=by rw[hW];exact aa
    have hokW:cp ⟨W,[],NN+5⟩:=by
     rw[hW]
     exact ((hokVI.up (by omega)).consM (by omega) (eD _)).consM (by omega) rfl
    have hDW:=hDI.up hWx
    have hW1:=hWx 1 _ hI1
    have hWd:=hDW.hd
    rw[←hW]
    clear hW
    refine AW.seq (rs hx fun K hK=>?_)
    iterate 2 refine sa ?_
    refine nl hK ?_
    refine AW.condS rfl (fun hb=>?_) (fun hb=>?_)
    ·have iq:=hE2 (by simpa using hb)
     refine rs hx fun K hK=>?_
     refine s2 (dp tbI) (wW i) ?_
     refine sa ?_
     refine v1 (ys:=qD i ⟨0,[],[],[]⟩) (Pt.all (F:=dC lL)) rfl rfl rfl ?_
     iterate 2 refine sa ?_
     refine nl hK ?_
     exact AW.ret (rtS vO iq aa (fun e=>by cases e) (by omega))
    have fZ:¬q.1.2≠0:=by simpa using hb
    clear hb
    refine AW.skip ?_
    have t4:=HC.conv (ds:=[.pt 2 0,.e (.lit (.func (.func 48) #[] #[])),.e (.lit (.func (.func 49) #[] #[]))]) (ds':=[.pt 2 0,.fn 48 [],.fn 49 []]) rfl (fun g w' j a b v ha hb hr=>by
      match j with
      |0=>injection ha with ha;injection hb with hb;subst ha hb;exact hr
      |1=>injection ha with ha;injection hb with hb;subst ha hb;exact Oi hr
      |2=>injection ha with ha;injection hb with hb;subst ha hb;exact Oi hr
      |j+3=>cases ha)
     (KF (lv:=[]) (N:=NN+5) (fo:=48) (ft:=49) (ko:=[]) (kt:=[]) (of:=Row.k) (ot:=fun _=>0) hDW Ev.1 (by omega) hnF (by omega) (fun k hk=>absurd hk qG) (fun k hk=>absurd hk qG) (fun _=>by omega) (fun V2 FI M j _ _=>Tv) (fun V2 FI M v _=>Tu v))
    refine rs hx fun K hK=>?_
    refine sa ?_
    refine q1 (sHC t4 rfl (.inl (by kernel_rfl))) ?_
    refine sa ?_
    refine nl hK ?_
    refine AW.seq (rs hx fun K hK=>?_)
    refine c1 (Pt.all (F:=[dI .i64 q.1.1])) ?_
    refine sa ?_
    refine nl hK ?_
    refine AW.condS rfl (fun hb=>?_) (fun hb=>?_)
    ·have iq:=hE3 fZ (bC hb)
     have MD:=Tp (lv:=[]) (N:=NN+5) (nn:=nn) hDW hnF (by omega) (by omega)
     obtain⟨F2,OV⟩:∃F2,F2=qD i ⟨1,cP q.2.rows nn Row.k fun _=>nOf 0,bS q.2 nn,[]⟩:=⟨_,rfl⟩
     have hle:D.le (.ag [dI .i64 1,.e (slE au (cP q.2.rows nn Row.k fun _=>nOf 0)),.e (slE au (bS q.2 nn)),dN]) (.ag F2):=by
      rw[OV]
      exact rS ⟨.inl rfl,.inl rfl,.inl rfl,.inr (.inr ⟨rfl,36,by decide,rfl⟩),trivial⟩
     have hF2i:F2.all (D.idsC (NN+5))=true:=by rw[OV];rfl
     have GB:F2.length=4:=by rw[OV];rfl
     refine sj [(4,.pt 1 0),(5,dI .i64 q.2.piv),(6,dI .i64 0)] ⟨(1,F2)::W,[],NN+5⟩ ?_ ?_
     ·refine dw (DW.split 2 7 (by decide) ?_ ?_)
      ·refine DW.split 7 8 (by decide) ?_ ?_
       ·refine dwg [] [0,1,2,3,4,5,6,7,8,9,10] hx (by kernel_rfl) (by kernel_rfl) (by kernel_rfl) fun K hK=>?_
        dsimp only[eh,mM,mW,List.map]
        refine sa ?_
        refine sa ?_
        refine q1 (sHC MD rfl (.inl (by kernel_rfl))) ?_
        refine s2 (dp tbI) hle ?_
        refine sa ?_
        refine sa ?_
        refine sa ?_
        refine c1 oz ?_
        refine v1 (ys:=F2) (Pt.all (F:=dC lL)) rfl GB rfl ?_
        refine sa ?_
        refine sa ?_
        refine .nil (hK _ _ ⟨rfl,wk1 vO⟩)
       ·refine dwg [] [0,1,2,3,8,4,5,6,7,9,10] hx (by kernel_rfl) (by kernel_rfl) (by kernel_rfl) fun K hK=>?_
        dsimp only[eh,mM,mW,List.map]
        refine sa ?_
        refine sa ?_
        refine q1 (sHC MD rfl (.inl (by kernel_rfl))) ?_
        refine s2 (dp tbI) hle ?_
        refine v1 (ys:=F2) (Pt.all (F:=dC lL)) rfl GB rfl ?_
        refine sa ?_
        refine sa ?_
        refine sa ?_
        refine c1 oz ?_
        refine sa ?_
        refine sa ?_
        refine .nil (hK _ _ ⟨rfl,wk1 vO⟩)
      ·refine dwg [] [4,5,6,7,0,1,2,3,8,9,10] hx (by kernel_rfl) (by kernel_rfl) (by kernel_rfl) fun K hK=>?_
       dsimp only[eh,mM,mW,List.map]
       refine sa ?_
       refine sa ?_
       refine sa ?_
       refine c1 oz ?_
       refine sa ?_
       refine sa ?_
       refine q1 (sHC MD rfl (.inl (by kernel_rfl))) ?_
       refine s2 (dp tbI) hle ?_
       refine v1 (ys:=F2) (Pt.all (F:=dC lL)) rfl GB rfl ?_
       refine sa ?_
       refine sa ?_
       refine .nil (hK _ _ ⟨rfl,wk1 vO⟩)
     ·exact AW.ret (rtS vO iq (by rw[←OV];exact aa) (fun e=>by cases e) (by omega))
    have vL:¬q.1.1<0:=dE hb
    clear hb
    obtain⟨s,hs⟩:∃s:Nat,q.1.1=(s:Int):=⟨q.1.1.toNat,by omega⟩
    have iq:=hE4 fZ s hs
    rw[hs] at hWs
    have hsw:s<w:=by omega
    refine AW.skip ?_
    have hval2:=KF (lv:=[]) (N:=NN+5) (fo:=50) (ft:=51) (ko:=[NN+4]) (kt:=[NN+4]) (of:=fun r=>r.c[s]!) (ot:=fun v=>if (v:Int)=(s:Int) then 1 else 0) hDW Ev.1 (by omega) hnF (by omega) (fun k hk=>by rw[qF.1 hk];omega) (fun k hk=>by rw[qF.1 hk];omega) (fun v=>by split <;> omega)
     (fun V2 FI M j GA hj=>Tt (GA _ _ hWs) (GA _ _ (hDW.hC j _ (uR (by rw[Ev.1.len];exact hj)))) (hDW.lC j _ (uR (by rw[Ev.1.len];exact hj))) hsw) (fun V2 FI M v GA=>Ts v (GA _ _ hWs))
    refine rs hx fun K hK=>?_
    refine sa ?_
    refine s1 Fq ?_
    refine s1 Fq ?_
    refine q1 (sHC hval2 rfl (.inl (by kernel_rfl))) ?_
    refine sa ?_
    refine nl hK ?_
    obtain⟨F2,OV⟩:∃F2,F2=qD i ⟨3,cP q.2.rows nn Row.k fun _=>nOf 0,[],cP q.2.rows nn (fun r=>r.c[s]!) fun v=>nOf (if (v:Int)=(s:Int) then 1 else 0)⟩:=⟨_,rfl⟩
    have hle:D.le (.ag [dI .i64 3,.e (slE au (cP q.2.rows nn Row.k fun _=>nOf 0)),dN,.e (slE au (cP q.2.rows nn (fun r=>r.c[s]!) fun v=>nOf (if (v:Int)=(s:Int) then 1 else 0)))]) (.ag F2):=by
     rw[OV]
     exact rS ⟨.inl rfl,.inl rfl,.inr (.inr ⟨rfl,36,by decide,rfl⟩),.inl rfl,trivial⟩
    have hF2i:F2.all (D.idsC (NN+5))=true:=by rw[OV];rfl
    have GB:F2.length=4:=by rw[OV];rfl
    refine sj [(4,.pt 1 0),(5,dI .i64 q.2.piv),(6,dI .i64 0)] ⟨(1,F2)::W,[],NN+5⟩ ?_ ?_
    ·refine dw (DW.split 6 7 (by decide) ?_ ?_)
     ·refine dwg [] [0,1,2,3,4,5,6,7,8,9] hx (by kernel_rfl) (by kernel_rfl) (by kernel_rfl) fun K hK=>?_
      dsimp only[eh,mM,mW,List.map]
      refine sa ?_
      refine sa ?_
      refine s2 (dp tbI) hle ?_
      refine sa ?_
      refine sa ?_
      refine sa ?_
      refine c1 oz ?_
      refine v1 (ys:=F2) (Pt.all (F:=dC lL)) rfl GB rfl ?_
      refine sa ?_
      refine sa ?_
      refine .nil (hK _ _ ⟨rfl,wk1 vO⟩)
     ·refine dwg [] [0,1,2,7,3,4,5,6,8,9] hx (by kernel_rfl) (by kernel_rfl) (by kernel_rfl) fun K hK=>?_
      dsimp only[eh,mM,mW,List.map]
      refine sa ?_
      refine sa ?_
      refine s2 (dp tbI) hle ?_
      refine v1 (ys:=F2) (Pt.all (F:=dC lL)) rfl GB rfl ?_
      refine sa ?_
      refine sa ?_
      refine sa ?_
      refine c1 oz ?_
      refine sa ?_
      refine sa ?_
      refine .nil (hK _ _ ⟨rfl,wk1 vO⟩)
    ·exact AW.ret (rtS vO iq (by rw[←OV];exact aa) (fun e=>by cases e) (by omega))
end
end
section
theorem AR.tu {hp:Hp}{ds es:List D}(h:ARs hp ds es):AR hp (.tu ds) (.tu es):=by
 intro B g w v hr hd
 obtain⟨h1,h2⟩:=h.get
 cases hd with
 |tu _ cs hl MC=>
  refine aE.tu es cs (by omega) fun j e u hj hu=>?_
  obtain⟨d,h3,h4⟩:=h2 j e hj
  exact h4 B g w u hr (MC j d u h3 hu)
theorem HC.toP {P:Program}{f:FuncId}{ds rs:List D}{d:D}{hp':Hp}(hc:HC P f ds ⟨[],[],0⟩ d hp')(ha:AR hp' d (.tu rs)):ar P f ds (.tu rs):=by
 refine⟨hc.1,fun w F vs hF hsz cR=>?_⟩
 have hr:HR w.heap.size ⟨[],[],0⟩ ⟨fun _=>0,fun _=>default,F⟩ w:=
  ⟨fun k ds h=>by simp at h,fun k k' a b h=>by simp at h,fun id n e h=>by simp at h,fun id BF a b c h=>by simp at h,az _,hF⟩
 refine (hc.2 w.heap.size _ w vs hr hsz cR).mono ?_
 rintro e w' ⟨v,g',rfl,pN,_,hd,hb,hfx⟩
 refine⟨v,rfl,(ha _ g' w' v pN hd).less fun p hp=>⟨hfx p (hF p hp) hp,fun k ds hk he=>?_⟩,hb⟩
 have h1:=(pN.var k ds hk).2.1
 have h2:=hF p hp
 omega
def mkNu(x:am)(h:okR x):Nu:=⟨x,h⟩
open Classical in
def n4(x:am):Nu:=if h:okR x then mkNu x h else default
theorem nv_nuOf {x:am}(h:okR x):nv (n4 x)=x:=by unfold n4;rw[dif_pos h];rfl
theorem nuOf_nv(x:Nu):n4 (nv x)=x:=by unfold n4;rw[dif_pos (show okR (nv x) from x.2)];rfl
def okL(l:List am):Prop:=∀x∈l,okR x
theorem tU {l:List am}(h:okL l):(l.map n4).map nv=l:=by
 rw[qp]
 exact (ss fun x hx=>nv_nuOf (h x hx)).trans (BS _)
theorem D1(l:List Nu):okL (l.map nv):=fun x hx=>by
 obtain⟨a,_,rfl⟩:=uf.1 hx
 exact a.2
theorem qA(l:List Nu):(l.map nv).map n4=l:=by
 rw[qp]
 exact (ss fun x _=>nuOf_nv x).trans (BS _)
structure VP(p:a7)(m nn:Nat):Prop where
 hr:p.vA.vR=m
 hc:p.vA.vC=nn
 hm:m≤2000
 hn:nn≤2000
 oA:okL p.vA.vV
 oB:okL p.vB
 oC:okL p.vC
 lA:p.vA.vV.length=m*nn
 lB:p.vB.length=m
 lC:p.vC.length=nn
 gA:∀i,i<(p.vA.vV.map n4).length→aw (p.vA.vV.map n4)[i]! =true
 gB:∀i,i<(p.vB.map n4).length→aw (p.vB.map n4)[i]! =true
 gC:∀i,i<(p.vC.map n4).length→aw (p.vC.map n4)[i]! =true
def qE(r:Ans×Int×Int):cH×Int×Int:=(⟨r.1.kind,r.1.x.map nv,r.1.y.map nv,r.1.ray.map nv⟩,r.2.1,r.2.2)
open Classical in
def gY(m8:a7)(kQ:Int):Option (cH×Int×Int):=
 bnd (gX m8) fun v=>if v=true∧0≤kQ then
  if VP m8 m8.vA.vR.toNat m8.vA.vC.toNat∧kQ≤9223372036854775807 then some (qE (iw m8.vA.vR.toNat m8.vA.vC.toNat (m8.vA.vV.map n4) (m8.vB.map n4) (m8.vC.map n4) kQ)) else none
 else some (qE (⟨0,[],[],[]⟩,0,1))
theorem VP.cells {p:a7}{m nn:Nat}(h:VP p m nn):dG d9 p=.ag (prC m nn (p.vA.vV.map n4) (p.vB.map n4) (p.vC.map n4)):=by
 unfold prC
 rw[kP,kP,kP,tU h.oA,tU h.oB,tU h.oC,←h.hr,←h.hc]
 rfl
theorem AR.dn {hp:Hp}{e:E}(h:(D.e e).pure=true):AR hp (.e e) (.e e):=AR.data (d:=.e e) h
theorem AR.same {hp:Hp}{d:D}(h:d.pure=true):AR hp d d:=by
 have h2:=AR.data (hp:=hp) (d:=d) (by rw[Df h];exact h)
 rwa[Df h] at h2
theorem Uy(m:Nat)(r:Ans×Int×Int):AR (Gj m r) (LY m r) (.tu [dG kg (qE r).1,dI .i64 (qE r).2.1,dI .i64 (qE r).2.2]):=by
 have hA:AR (Gj m r) (.ag (qD m r.1)) (dG kg (qE r).1):=by
  have e:dG kg (qE r).1=.ag [dI .i64 r.1.kind,.e (slE au r.1.x),.e (slE au r.1.y),.e (slE au r.1.ray)]:=by
   rw[kP,kP,kP];rfl
  rw[e]
  refine AR.ag ⟨AR.dn rfl,AR.dn rfl,?_,AR.dn rfl,trivial⟩
  by_cases hk:r.1.kind=2
  ·rw[ai hk]
   refine AR.gw (F:=(cW au).f r.1.y) ?_ (by decide) ?_
   ·unfold Gj
    rw[ai hk]
    exact al (by omega) aa
   ·exact il au.f au.h r.1.y
  ·rw[ah hk]
   exact AR.dn rfl
 exact AR.tu ⟨hA,AR.dn rfl,AR.dn rfl,trivial⟩
theorem Tr {cs:List D}{v:Bool}{most:Int}(hlen:cs.length=5)(hpu:(D.ag cs).pure=true)(hv:ar prog 15 [.ag cs] (dB v))(hbad:¬(v=true∧0≤most)):
  HC prog 12 [.ag cs,dI .i64 most] ⟨[],[],0⟩ (LY 0 (⟨0,[],[],[]⟩,0,1)) (Gj 0 (⟨0,[],[],[]⟩,0,1)):=by
 refine HC.of (rs:=[.cell 4 29,.tmp 5,.tmp 6]) tok func12 rfl rfl (bi rfl) rfl (fun cx hx vO hok=>?_)
 simp only[fG,Nat.reduceAdd,bt]
 refine rs hx fun K hK=>?_
 refine s1 (gP (cs:=cs)) ?_
 refine a1 (F:=lL) tbI ?_
 iterate 2 refine sa ?_
 refine nl hK ?_
 refine AW.seq (rs hx fun K hK=>?_)
 refine p1 (ht:=rE) (Pt.all (F:=cs)) hlen ?_
 refine q1 (sHC (HC.frz (ds:=[.ag cs]) hv ⟨AR.same hpu,trivial⟩ rfl) rfl (.inr (Fr.refl _))) ?_
 iterate 2 refine sa ?_
 cases v with
 |false=>
  iterate 2 refine gn rfl ?_
  refine s1 (d:=dB true) (oO rfl) ?_
  refine nl hK ?_
  refine AW.condT rfl rfl (rs hx fun K hK=>?_)
  refine s2 (dp tbI) (wW 0) ?_
  refine v1 (ys:=qD 0 ⟨0,[],[],[]⟩) (Pt.all (F:=dC lL)) rfl rfl rfl ?_
  iterate 2 refine sa ?_
  refine nl hK ?_
  exact AW.ret (rtS vO rfl aa (fun e=>by cases e) (by omega))
 |true=>
  iterate 2 refine ga rfl ?_
  refine s1 (d:=dB (decide (most<0))) (lY rfl) ?_
  refine nl hK ?_
  refine AW.condT rfl (aB (by simp only[true_and] at hbad;omega)) (rs hx fun K hK=>?_)
  refine s2 (dp tbI) (wW 0) ?_
  refine v1 (ys:=qD 0 ⟨0,[],[],[]⟩) (Pt.all (F:=dC lL)) rfl rfl rfl ?_
  iterate 2 refine sa ?_
  refine nl hK ?_
  exact AW.ret (rtS vO rfl aa (fun e=>by cases e) (by omega))
theorem qy {m8:a7}{kQ:Int}{r:cH×Int×Int}(h:gY m8 kQ=some r):ar prog 12 [dG d9 m8,dI .i64 kQ] (.tu [dG kg r.1,dI .i64 r.2.1,dI .i64 r.2.2]):=by
 unfold gY at h
 obtain⟨v,hv,h⟩:=ae h
 have hv:=qx hv
 by_cases hg:v=true∧0≤kQ
 ·rw[ai hg] at h
  by_cases hq:VP m8 m8.vA.vR.toNat m8.vA.vC.toNat∧kQ≤9223372036854775807
  ·rw[ai hq] at h
   have h:=bw h
   subst h
   obtain⟨hq,Ej⟩:=hq
   rw[hg.1] at hv
   rw[hq.cells] at hv ⊢
   have h2:=OU (most:=kQ) hv hq.hm hq.hn (by rw[a8];exact hq.lA) (by rw[a8];exact hq.lB) (by rw[a8];exact hq.lC) hq.gA hq.gB hq.gC hg.2 Ej
   exact HC.toP h2 (Uy _ _)
  ·rw[ah hq] at h;cases h
 ·rw[ah hg] at h
  have h:=bw h
  subst h
  have h2:=Tr (cs:=dC (d9.f m8)) ((eE _).trans (d9.h m8)) (iR d9 m8) hv hg
  exact HC.toP h2 (Uy _ _)
end
theorem oV:El prog 22 43 (.agg #[.bool false,.bool false,aj,aj,aj,aj,aj,aj,aj,aj,aj,aj,aj,aj,aj,aj,aj,aj,.bool false,.bool false,aj,aj,aj,aj,aj,aj,aj,aj,aj,aj,aj,aj,aj,aj,aj,aj]) 36 136:=⟨underlying22,info_parts (by kernel_rfl),rfl,by decide⟩
theorem oR(n:Nat)(us:List Value)(v:Value)(w:World)(hl:Sl w v 36 n us)(h1:∀u∈us,u.oneCell'=true)(hn:n≤1000000):
  Calls prog 138 #[v] w fun e w'=>∃q,e=.returned q∧w'.ownsRow w.heap.size 43 36 q n us∧Below w.heap.size w w':=by
 obtain⟨A,c,rfl,qv,o3,hr⟩:=id hl
 cases A with
 |none=>
  obtain rfl:n=0:=by
   rcases sd n with h|h
   ·exact h
   ·obtain⟨_,h,_⟩:=hr.2 h;cases h
  obtain rfl:us=[]:=sK (by simpa using hr.1)
  have he:(binOp .eql 22 (.slice none 0 c) (.slice none 0 0)).run prog w=.ok (.bool true) w:=by kernel_rfl
  go_enter func138,ntmps138
  go_wp2_with fail
  go_ret
  exact⟨_,rfl,⟨rfl,.inl ⟨rfl,rfl⟩⟩,Below.refl _ _⟩
 |some ad=>
  have he:(binOp .eql 22 (.slice (some ad) n c) (.slice none 0 0)).run prog w=.ok (.bool false) w:=by kernel_rfl
  go_enter func138,ntmps138
  have hown0:=own_mtG w 43 w.heap.size 36 (az _)
  have Iz:=(Below.refl w.heap.size w).alloc (az _) (.cells #[] 43)
  have FQ:=hl.below Iz
  have HL:=Lib.hid FQ
  have H1:=Lib.hid h1
  clear hl hr FQ h1
  go_wp2_with (at_builtin;refine zH _ rfl _ _ _ rfl oV w.heap.size _ _ _ rfl hown0 _ _ _ rfl HL.out H1.out (by omega) (by omega) (by simp) w w.heap.size Iz (az _) ?_)
  intro v' w' lK hb
  go_wp2_with fail
  go_ret
  refine⟨_,rfl,?_,hb⟩
  simpa using lK
theorem oS(n:Nat)(xs:List E)(hn:n≤1000000):ar prog 138 [.e (.sl 36 n xs)] (.own 43 36 n xs):=
 Uh (by decide) ⟨_,func138,rfl,rfl⟩ (fun us v w h1 h2=>oR n us v w h1 h2 hn)
def fR(l:List am):Option (List am):=gd (l.length≤1000000) (some l)
theorem o9 {l r:List am}(h:fR l=some r):ar prog 138 [dL ak l] (.own 43 ak.sz r.length (r.flatMap ak.f)):=by
 obtain⟨hn,h⟩:=aA h
 obtain rfl:=bw h
 exact oS _ _ hn
def eY(eA:List am):(List am)×Int→Option (((List am)×Int)⊕((List am))):=fun (aP,bq)=>cnd (decide (bq<((eA).length:Int))) (gd (0≤bq∧bq<((eA).length:Int)) (bnd (mq ((eA)[(bq).toNat]!)) fun x6=>gd ((aP++[x6]).length*136≤140737488355328) (some (.inl (aP++[x6],i64.wrap (bq+(1:Int))))))) (some (.inr aP))
def lT(eA:List am):Option (List am):=bnd (fR eA) fun x1=>bnd (bo (eY eA) (x1,(0:Int))) fun bf=>some bf
theorem zI {eA:List am}{r:List am}(h:lT eA=some r):ar prog 74 [dL ak eA] (.own 43 ak.sz r.length (r.flatMap ak.f)):=by
 refine bn (rs:=[.tmp 2]) (fun cx hx h0=>?_) func74
 unfold lT at h
 refine rs hx fun K hK=>?_
 refine s1 (d:=dO 0 ak ([]:List am)) (gz bZ aO) ?_
 refine nl hK ?_
 refine rs hx fun K hK=>?_
 refine sa ?_
 obtain⟨x1,xx,h⟩:=ae h
 refine s1 (iL rfl (o9 xx) rfl (lA (ax _) lAn)) ?_
 refine nbr hK ?_
 refine AW.seq (ra hx ?_)
 refine AW.block ?_
 obtain⟨bf,hy,h⟩:=ae h
 refine lp (S:=(List am)×Int) (X:=(List am)) (fun (aP,bq)=>[(3,dO 0 ak aP),(8,dL ak eA),(9,dI .i64 ((eA).length:Int)),(10,dI .i64 bq)]) (fun (aP,bq)=>⟨[],[(0,(aP).length,36,43)],1⟩) (PE cx (.exit 0) (fun bf=>[(3,dO 0 ak bf)]) fun bf=>⟨[],[(0,(bf).length,36,43)],1⟩) hy ?_ ?_ ?_
 exact wk0 h0 [1]
 clear hy h
 rintro⟨aP,bq⟩ y h
 dsimp only[eY] at h
 refine ra hx ?_
 refine AW.seq (cdh h rfl (fun fZ h=>?_) (fun fZ h=>?_))
 refine AW.skip (AW.seq (AW.block (rs hx fun K hK=>?_)))
 obtain⟨OQ,h⟩:=aA h
 have hn5:(bq).toNat<(eA).length:=by omega
 refine sbr ?_
 refine s1 (d:=dG ak ((eA)[(bq).toNat]!)) (jA (c:=ak) (l:=eA) (n:=(bq).toNat) (o:=0) aO hn5 (e8 _ _ rfl)) ?_
 refine nbr hK ?_
 refine rq hx fun K hK=>?_
 refine mbr ?_
 refine scb h wv fun x6 h=>?_
 refine s1 (lh ([x6]:List am) ak bZ aO) ?_
 obtain⟨hc8,h⟩:=aA h
 refine s1 (d:=dO 0 ak (aP++[x6])) (oP bZ aO hc8) ?_
 refine nbr hK ?_
 refine rb hx ?_
 exact pel h h0 [0]
 exact AW.exit (per h h0 [0])
 refine lw0 ?_
 refine ra hx ?_
 refine AW.ret ?_
 cases h
 exact n9.own rfl rfl
def D.ren2(ρ:Nat→Nat):D→D
 | .tu ds=>.tu (ds.map (D.ren ρ))
 |d=>d.ren ρ
def D.okF2:D→Bool
 | .tu ds=>ds.all D.okF
 |d=>d.okF
theorem fwdF2 {hp de:Hp}{g g2:Gh}{w:World}{ρ:Nat→Nat}{d:D}{v:Value}(h:aE hp g w d v)(hn:d.okF2=true)(rm:∀i,i<hp.next→ρ i<de.next)(hμ:∀i,i<hp.next→g2.μ (ρ i)=g.μ i)(hτ:∀i,i<hp.next→g2.τ (ρ i)=g.τ i)(hF:g2.F=g.F)
  (hl:∀id,id<hp.next→∀y,de.live.lookup (ρ id)=some y→hp.live.lookup id=some y):aE de g2 w (d.ren2 ρ) v:=by
 cases d with
 |tu ds=>cases h with
  |tu _ cs hlen hr=>
   refine .tu _ cs (by simpa using hlen) fun j d u h2 h3=>?_
   rw[dT] at h2
   obtain⟨d0,h4,rfl⟩:=yv.1 h2
   exact Ex (hr j d0 u h4 h3) (bc.1 hn d0 (eb h4)) rm hμ hτ hF hl
 |ag ds=>exact Ex h hn rm hμ hτ hF hl
 |e y=>exact Ex h hn rm hμ hτ hF hl
 |own id z n xs=>exact Ex h hn rm hμ hτ hF hl
 |fu z n xs=>exact Ex h hn rm hμ hτ hF hl
 |fp xs off=>exact Ex h hn rm hμ hτ hF hl
 |pt k off=>exact Ex h hn rm hμ hτ hF hl
 |ow k off z n=>exact Ex h hn rm hμ hτ hF hl
 |gw k z n=>exact Ex h hn rm hμ hτ hF hl
 |fn f ks=>exact Ex h hn rm hμ hτ hF hl
 |opt b d=>cases hn
 |top=>exact .top v
theorem HC.frame2 {P:Program}{f:FuncId}{O2 ds:List D}{r:D}{FG n3 vs:List (Nat×List D)}{FH sJ lv:List (Nat×Nat×Nat×TypeId)}{m n' N:Nat}(h:HC P f O2 ⟨FG,FH,m⟩ r ⟨n3,sJ,n'⟩)
  (os:List Nat) (hos:os.length=m) (Ap:os.Nodup) (bK:∀o∈os,o<N) (ha:frA (fun i=>os.getD i 0) m ds O2)
  (hv:∀k ds,FG.lookup k=some ds→k<m∧(∃s8,vs.lookup (os.getD k 0)=some s8∧yG s8 (ds.map (D.renC fun i=>os.getD i 0)))∧ds.all (D.idsC m)=true∧ds.all D.noO=true)
  (hl:∀id y,FH.lookup id=some y→id<m∧lv.lookup (os.getD id 0)=some y)
  (hr:r.okF2=true) (hvo:∀p∈n3,p.2.all D.okC=true):
  HC P f ds ⟨vs,lv,N⟩ (r.ren2 (rn os m N)) ⟨frV (rn os m N) os n3 vs,frL (rn os m N) os sJ lv,N+(n' - m)⟩:=by
 subst hos
 refine⟨h.1,fun B g w us hR hsz cR=>?_⟩
 have gj:∀i,i<os.length→os.getD i 0∈os:=fun i hi=>by
  rw[u7,cC hi];exact nK hi
 have t6:∀i j,i<os.length→j<os.length→os.getD i 0=os.getD j 0→i=j:=fun i j hi hj he=>by
  rw[u7,u7,cC hi,cC hj] at he
  have hp:=Na.1 Ap
  simp only[wX] at he
  rcases EV i j with h3|h3|h3
  ·exact absurd he (hp _ _ hi hj h3)
  ·exact h3
  ·exact absurd he.symm (hp _ _ hj hi h3)
 have hS:=HR.ren (hpS:=⟨FG,FH,os.length⟩) hR (fun i=>os.getD i 0) (fun i j hi hj he=>t6 i j hi hj he) hv hl
 have dQ:∀id y,(⟨FG,FH,os.length⟩:Hp).live.lookup id=some y→(⟨vs,lv,N⟩:Hp).live.lookup (os.getD id 0)=some y:=fun id y h=>(hl _ _ h).2
 refine (h.2 B _ w us hS (by rw[hsz,ID ha]) (fun j e u he hu=>?_)).mono ?_
 ·obtain⟨d,h1,h2,h3,h4⟩:=IE ha he
  exact De ((cR j d u h1 hu).le h2) h3 h4 rfl (fun _=>rfl) (fun _=>rfl) rfl dQ
 rintro en w' ⟨v,g',rfl,KJ,hM,qh,hB,hF⟩
 -- qu caller's ghosts
 let ρ:=rn os os.length N
 have tw:∀i,i<os.length→ρ i=os.getD i 0:=fun i hi=>by show rn os os.length N i=_;unfold rn;simp[hi]
 have uN:∀i,os.length≤i→ρ i=N+(i - os.length):=fun i hi=>by show rn os os.length N i=_;unfold rn;rw[bp (by omega)];rfl
 have SX:∀i,i<os.length→os.getD i 0<N:=fun i hi=>bK _ (gj i hi)
 have hmn:os.length≤n':=hM.next
 have hρn:∀i,i<n'→ρ i<N+(n' - os.length):=fun i hi=>by
  by_cases h1:i<os.length
  ·rw[tw i h1];have:=SX i h1;omega
  ·rw[uN i (by omega)];omega
 have Sx:∀i j,i<n'→j<n'→ρ i=ρ j→i=j:=fun i j hi hj he=>by
  by_cases h1:i<os.length <;> by_cases h2:j<os.length
  ·rw[tw i h1,tw j h2] at he;exact t6 i j h1 h2 he
  ·rw[tw i h1,uN j (by omega)] at he;have:=SX i h1;omega
  ·rw[tw j h2,uN i (by omega)] at he;have:=SX j h2;omega
  ·rw[uN i (by omega),uN j (by omega)] at he;omega
 let g2:Gh:=⟨fun j=>if j<N then g.μ j else g'.μ (os.length+(j - N)),fun j=>if j<N then (if j∈os then g'.τ (os.idxOf j) else g.τ j) else g'.τ (os.length+(j - N)),g'.F⟩
 let de:Hp:=⟨frV ρ os n3 vs,frL ρ os sJ lv,N+(n' - os.length)⟩
 have Gs:∀j,j<N→g2.μ j=g.μ j:=fun j hj=>ai hj
 have Mv:∀j,j<N→j∉os→g2.τ j=g.τ j:=fun j hj ho=>by
  show (if j<N then _ else _)=_
  rw[ai hj,ah ho]
 have Gr:∀i,i<n'→g2.μ (ρ i)=g'.μ i:=fun i hi=>by
  by_cases h1:i<os.length
  ·rw[tw i h1,Gs _ (SX i h1)];exact (hM.μ i h1).symm
  ·rw[uN i (by omega)]
   show (if _ then _ else _)=_
   rw[ah (by omega),show os.length+(N+(i - os.length) - N)=i by omega]
 have Io:∀i,i<n'→g2.τ (ρ i)=g'.τ i:=fun i hi=>by
  by_cases h1:i<os.length
  ·rw[tw i h1]
   show (if _ then (if _ then _ else _) else _)=_
   rw[ai (SX i h1),ai (gj i h1)]
   have:os.idxOf (os.getD i 0)=i:=by
    have h2:os.idxOf (os.getD i 0)<os.length:=List.idxOf_lt_length_of_mem (gj i h1)
    refine t6 _ _ h2 h1 ?_
    rw[u7 (i:=os.idxOf _),cC h2]
    exact List.getElem_idxOf h2
   rw[this]
  ·rw[uN i (by omega)]
   show (if _ then _ else _)=_
   rw[ah (by omega),show os.length+(N+(i - os.length) - N)=i by omega]
 have tZ:∀k ds,de.vars.lookup k=some ds→(∃i s8,ρ i=k∧i<n'∧n3.lookup i=some s8∧s8.map (D.renC ρ)=ds)∨(k∉os∧k<N∧vs.lookup k=some ds):=fun k ds hk=>by
  rcases rQ hk with h1|h1
  ·obtain⟨i,a,h2,h3,h4⟩:=mc ρ (fun a:List D=>a.map (D.renC ρ)) h1
   exact .inl ⟨i,a,h2,(KJ.var i a h3).1,h3,h4⟩
  ·obtain⟨h2,h3⟩:=jf h1
   exact .inr ⟨h2,(hR.var k ds h3).1,h3⟩
 have t0:∀k y,de.live.lookup k=some y→(∃i,ρ i=k∧i<n'∧sJ.lookup i=some y)∨(k∉os∧k<N∧lv.lookup k=some y):=fun k y hk=>by
  rcases rQ hk with h1|h1
  ·obtain⟨i,a,h2,h3,h4⟩:=mc ρ (fun a:Nat×Nat×TypeId=>a) h1
   subst h4
   exact .inl ⟨i,h2,(KJ.tok i a.1 a.2 h3).1,h3⟩
  ·obtain⟨h2,h3⟩:=jf h1
   exact .inr ⟨h2,(hR.tok k y.1 y.2 h3).1,h3⟩
 have hlρ:∀id,id<n'→∀y,de.live.lookup (ρ id)=some y→sJ.lookup id=some y:=fun id hid y hy=>by
  rcases t0 _ _ hy with⟨i,h1,h2,h3⟩|⟨h1,h2,_⟩
  ·rw[←Sx i id h2 hid h1];exact h3
  ·exfalso
   by_cases h4:id<os.length
   ·rw[tw id h4] at h1;exact h1 (gj id h4)
   ·rw[uN id (by omega)] at h2;omega
 -- blocks of what was not in hand are free for qu callee
 have Av:∀k ds,k∉os→vs.lookup k=some ds→g.μ k<w.heap.size∧QT ⟨FG,FH,os.length⟩ ⟨fun i=>g.μ (os.getD i 0),fun i=>g.τ (os.getD i 0),g.F⟩ (g.μ k):=fun k ds ho hk=>by
  refine⟨hR.var_lt (k:=k) (ds:=ds) hk,fun i di hi=>?_,fun i t hi=>?_⟩
  ·obtain⟨h1,⟨_,h2,_⟩,_⟩:=hv i di hi
   exact fun e=>ho (by rw[←hR.inj _ _ _ _ h2 hk e];exact gj i h1)
  ·obtain⟨h1,h2⟩:=hl i t hi
   obtain⟨_,_,_,_,h3⟩:=hR.tok _ t.1 t.2 h2
   exact fun e=>(h3 _ e).2 k ds hk rfl
 have Aw:∀k t b,k∉os→lv.lookup k=some t→(g.τ k).ownBlock=some b→b<w.heap.size∧QT ⟨FG,FH,os.length⟩ ⟨fun i=>g.μ (os.getD i 0),fun i=>g.τ (os.getD i 0),g.F⟩ b:=fun k t b ho hk hb=>by
  obtain⟨_,_,_,h1,h2⟩:=hR.tok k t.1 t.2 hk
  refine⟨(h1.lt b hb).2,fun i di hi=>?_,fun i t' hi=>?_⟩
  ·obtain⟨h1,⟨_,h3,_⟩,_⟩:=hv i di hi
   exact (h2 b hb).2 _ _ h3
  ·obtain⟨h1,h3⟩:=hl i t' hi
   exact fun e=>ho (by rw[←hR.tinj _ _ _ _ b h3 hk e hb];exact gj i h1)
 have mo:cz ⟨vs,lv,N⟩ g w de g2 w':=by
  refine⟨hM.size,hM.cell,hM.forb,te _ _,fun k hk=>Gs k hk,fun id hid n e hy=>?_,fun b hb hf=>?_,hM.szs⟩
  ·rcases t0 _ _ hy with⟨i,h1,h2,h3⟩|⟨h1,h2,h3⟩
   ·by_cases h4:i<os.length
    ·obtain⟨m0,h5,h6,h7⟩:=hM.live i h4 n e h3
     refine⟨m0,?_,h6,fun h=>?_⟩
     ·rw[←h1,tw i h4];exact dQ i _ h5
     ·rw[←h1,Io i h2,h7 h,tw i h4]
    ·rw[←h1,uN i (by omega)] at hid
     have hid:N+(i - os.length)<N:=hid
     omega
   ·exact⟨n,h3,az _,fun _=>Mv id h2 h1⟩
  ·obtain⟨h1,h2,h3⟩:=hM.fr b hb ⟨fun k ds hk=>by
    obtain⟨_,⟨_,h5,_⟩,_⟩:=hv k ds hk
    exact hf.1 _ _ h5,fun id t hi=>hf.2 _ _ (dQ id t hi)⟩
   refine⟨h1,h2,fun k ds hk=>?_,fun id t hi=>?_⟩
   ·rcases tZ _ _ hk with⟨i,_,rfl,h5,h6,_⟩|⟨_,h5,h6⟩
    ·rw[Gr i h5];exact h3.1 _ _ h6
    ·rw[Gs k h5];exact hf.1 _ _ h6
   ·rcases t0 _ _ hi with⟨i,rfl,h5,h6⟩|⟨h4,h5,h6⟩
    ·rw[Io i h5];exact h3.2 _ _ h6
    ·rw[Mv id h5 h4];exact hf.2 _ _ h6
 have fw:∀{d:D} {u:Value},d.okC=true→aE ⟨n3,sJ,n'⟩ g' w' d u→aE de g2 w' (d.renC ρ) u:=fun hd h=>C4 h hd hρn Gr Io rfl hlρ
 refine⟨v,g2,rfl,⟨fun k ds hk=>?_,fun k k' ds ds' hk wa he=>?_,fun id n e hi=>?_,fun id BF t t' b hi wb hb oU=>?_,KJ.base,KJ.fits⟩,mo,fwdF2 qh hr hρn Gr Io rfl hlρ,hB,hF⟩
 ·rcases tZ _ _ hk with⟨i,s8,rfl,h1,h2,rfl⟩|⟨h1,h2,h3⟩
  ·obtain⟨_,h4,h5,cs,ty,h6,h7,h8⟩:=KJ.var i s8 h2
   rw[Gr i h1]
   refine⟨hρn i h1,h4,h5,cs,ty,h6,by simpa using h7,fun j u hu=>⟨fun h=>(h8 j u hu).1 (by simpa using h),fun d hd=>?_⟩⟩
   rw[dT] at hd
   obtain⟨d0,wi,rfl⟩:=yv.1 hd
   exact fw (bc.1 (hvo _ (bF h2)) d0 (eb wi)) ((h8 j u hu).2 d0 wi)
  ·obtain⟨h4,h5⟩:=Av k ds h1 h3
   obtain⟨h6,h7,_⟩:=hM.fr _ h4 h5
   obtain⟨_,h8,h9,cs,ty,xV,C3,h12⟩:=hR.var k ds h3
   rw[Gs k h2]
   exact⟨bJ h2 (te _ _),h8,fun p hp=>h7 p hp (h9 p hp),cs,ty,h6.trans xV,C3,fun j u hu=>⟨(h12 j u hu).1,fun d hd=>((h12 j u hu).2 d hd).mono mo⟩⟩
 ·rcases tZ _ _ hk with⟨i,s8,rfl,h1,h2,_⟩|⟨h1,h2,h3⟩ <;> rcases tZ _ _ wa with⟨i',ds0',rfl,qV,qL,_⟩|⟨qV,qL,MV⟩
  ·rw[Gr i h1,Gr i' qV] at he
   rw[KJ.inj _ _ _ _ h2 qL he]
  ·rw[Gr i h1,Gs _ qL] at he
   obtain⟨h4,h5⟩:=Av _ _ qV MV
   exact absurd he ((hM.fr _ h4 h5).2.2.1 _ _ h2)
  ·rw[Gr i' qV,Gs _ h2] at he
   obtain⟨h4,h5⟩:=Av _ _ h1 h3
   exact absurd he.symm ((hM.fr _ h4 h5).2.2.1 _ _ qL)
  ·rw[Gs _ h2,Gs _ qL] at he
   exact hR.inj _ _ _ _ h3 MV he
 ·rcases t0 _ _ hi with⟨i,rfl,h1,h2⟩|⟨h1,h2,h3⟩
  ·obtain⟨_,vz,h4,h5,h6⟩:=KJ.tok i n e h2
   rw[Io i h1]
   refine⟨hρn i h1,vz,h4,h5,fun b hb=>⟨(h6 b hb).1,fun k ds hk=>?_⟩⟩
   rcases tZ _ _ hk with⟨i',_,rfl,h7,h8,_⟩|⟨h7,h8,h9⟩
   ·rw[Gr i' h7];exact (h6 b hb).2 _ _ h8
   ·rw[Gs k h8]
    obtain⟨xV,C3⟩:=Av _ _ h7 h9
    intro e
    exact (hM.fr _ xV C3).2.2.2 _ _ h2 (by rw[e];exact hb)
  ·obtain⟨_,vz,h4,h5,h6⟩:=hR.tok id n e h3
   rw[Mv id h2 h1]
   refine⟨bJ h2 (te _ _),vz,h4,⟨h5.1,?_⟩,fun b hb=>?_⟩
   ·rcases h5.2 with h0|⟨b,cap,cur,v9,hB',hh,r⟩
    ·exact .inl h0
    ·obtain⟨xV,C3⟩:=Aw id _ b h1 h3 (by rw[v9];rfl)
     exact .inr ⟨b,cap,cur,v9,hB',(hM.fr _ xV C3).1.trans hh,r⟩
   ·obtain⟨xV,C3⟩:=Aw id _ b h1 h3 hb
    obtain⟨h12,h13,h14⟩:=hM.fr _ xV C3
    refine⟨fun p h7 h8=>h13 p h7 ((h6 b hb).1 p h7 h8),fun k ds hk=>?_⟩
    rcases tZ _ _ hk with⟨i',_,rfl,h7,h8,_⟩|⟨h7,h8,h9⟩
    ·rw[Gr i' h7];exact h14.1 _ _ h8
    ·rw[Gs k h8];exact (h6 b hb).2 _ _ h9
 ·rcases t0 _ _ hi with⟨i,rfl,h1,h2⟩|⟨h1,h2,h3⟩ <;> rcases t0 _ _ wb with⟨i',rfl,qV,qL⟩|⟨qV,qL,MV⟩
  ·rw[Io i h1] at hb
   rw[Io i' qV] at oU
   rw[KJ.tinj _ _ _ _ b h2 qL hb oU]
  ·rw[Io i h1] at hb
   rw[Mv _ qL qV] at oU
   obtain⟨xV,C3⟩:=Aw _ _ b qV MV oU
   exact absurd hb ((hM.fr _ xV C3).2.2.2 _ _ h2)
  ·rw[Io i' qV] at oU
   rw[Mv _ h2 h1] at hb
   obtain⟨xV,C3⟩:=Aw _ _ b h1 h3 hb
   exact absurd oU ((hM.fr _ xV C3).2.2.2 _ _ qL)
  ·rw[Mv _ h2 h1] at hb
   rw[Mv _ qL qV] at oU
   exact hR.tinj _ _ _ _ b h3 MV hb oU
theorem HC.frame0 {P:Program}{f:FuncId}{ds:List D}{r:D}{n3 vs:List (Nat×List D)}{lv:List (Nat×Nat×Nat×TypeId)}{n' N:Nat}(h:HC P f ds ⟨[],[],0⟩ r ⟨n3,[],n'⟩)
  (ha:frA (fun i=>([]:List Nat).getD i 0) 0 ds ds) (hr:r.okF2=true) (hvo:∀p∈n3,p.2.all D.okC=true):
  HC P f ds ⟨vs,lv,N⟩ (r.ren2 (fun i=>N+i)) ⟨n3.map (fun p=>(N+p.1,p.2.map (D.renC fun i=>N+i)))++vs,lv,N+n'⟩:=by
 have h1:=HC.frame2 (vs:=vs) (lv:=lv) (N:=N) h [] rfl List.nodup_nil (fun o ho=>absurd ho qG) ha (fun k ds hk=>by simp at hk) (fun id y hy=>by simp at hy) hr hvo
 have e:rn [] 0 N=fun i=>N+i:=by funext i;rfl
 have e1:frV (rn [] 0 N) [] n3 vs=n3.map (fun p=>(N+p.1,p.2.map (D.renC fun i=>N+i)))++vs:=by
  unfold frV
  rw[e]
  congr 1
  exact List.filter_eq_self.2 fun _ _=>rfl
 have e2:frL (rn [] 0 N) [] [] lv=lv:=by
  unfold frL
  exact List.filter_eq_self.2 fun _ _=>rfl
 rw[e1,e2,e] at h1
 exact h1
section
theorem sliceG {P:Program}{tb:TypeId→Option TyE}(tok:TOk P tb){ev:Operand→D}{hp:Hp}{dst:Option Tmp}{ty:TypeId}{pos:String}{af:Array Edge}{gd:Option (Nat×Bool)}{t e:TypeId}{ti j:TyE}{x y z:Operand}{k n m:Nat}{kn kn':IntKind}(ht:tb t=some ti)(he:tb e=some j)(hx:ev x=.gw k j.size n)(hy:ev y=dI kn (m:Int))(hz:ev z=dI kn' (m:Int))(hm:m≤n)(yj:ti.ty=.slice e:=by exact rfl):
  mO P tb .seq ⟨dst,.slice t x none (some y) (some z),ty,pos,af,gd⟩ ev hp (.ow k 0 j.size m) hp:=by
 refine⟨.step fun B g w a hr yh=>?_,fun hq=>(by cases hq),fun _=>⟨az _,fun _ _=>rfl⟩,fun h=>by cases h⟩
 have h1:=yh x (by simp[Op.operands])
 have h2:=yh y (by simp[Op.operands])
 have h3:=yh z (by simp[Op.operands])
 rw[hx] at h1
 rw[hy] at h2
 rw[hz] at h3
 have h2:=h2.lit
 have h3:=h3.lit
 generalize hv:a.eval x=v at h1
 cases h1 with
 |gw _ _ _ c hk qv o3 hs=>
  have hu:=tok.slice ht yj
  have hsz:=tok.run_sizeOf he w
  have hHc:m≤c:=by omega
  have hb:(Instr.sliceBounds true n c none (some (Value.int kn (m:Int))) (some (Value.int kn' (m:Int)))).run P w=.ok (0,m,m) w:=by
   simp[Instr.sliceBounds,run_sliceBound,hHc]
  have Q4:∀(ad:Addr),ad.spot=none→ad.off=0→(if m=0 then some ad else some (ad.add (0*j.size)))=some ad:=fun ad h4 h5=>by
   split
   ·rfl
   ·rw[gH];unfold Addr.add;simp
  refine⟨.slice (some ⟨g.μ k,0,none⟩) m m,g,w,?_,hr,cz.refl _ _ _,.ow k 0 j.size m m hk (az _) (by omega),Below.refl _ _,fun _ _ h=>h⟩
  have bY:(Instr.sliceAt t (a.eval x) none (some (a.eval y)) (some (a.eval z))).run P w=.ok (.slice (some ⟨g.μ k,0,none⟩) m m) w:=by
   rw[hv,h2,h3]
   simp[Instr.sliceAt,Instr.slice,run_underlying hu,hb,hsz,Addr.add]
  simp[execOp,bY]
theorem WkS.frz2 {tm:List (Nat×D)}{vs:List (Nat×List D)}{lv:List (Nat×Nat×Nat×TypeId)}{N t k z n:Nat}{F:List E}(hz:0<z)(ht:tm.lookup t=some (.ow k 0 z n))(hv:vs.lookup k=some (dC F))(hF:n*z≤F.length):
  WkS tm ⟨vs,lv,N⟩ ((t,.e (.sl z n (F.take (n*z))))::tm) ⟨vs.filter fun p=>!([k]:List Nat).contains p.1,lv,N⟩:=by
 intro B g w ρ hr nC
 obtain⟨h1,h2,h3,cs,ty,h4,h5,h6⟩:=hr.var k _ hv
 have look:∀{j:Nat} {ds:List D},(vs.filter fun p=>!([k]:List Nat).contains p.1).lookup j=some ds→j≠k∧vs.lookup j=some ds:=by
  intro j ds h
  obtain⟨a,b⟩:=jf h
  exact⟨by simpa using a,b⟩
 have fI:∀{j:Nat} {ds:List D},j≠k→vs.lookup j=some ds→g.μ j≠g.μ k:=fun hj hl e=>hj (hr.inj _ _ _ _ hl hv e)
 have mo:cz ⟨vs,lv,N⟩ g w ⟨vs.filter fun p=>!([k]:List Nat).contains p.1,lv,N⟩ ⟨g.μ,g.τ,fun p=>g.F p∧p.block≠g.μ k⟩ w:=by
  refine⟨az _,fun _ _ _=>rfl,fun _ _ h=>h.1,az _,fun _ _=>rfl,fun _ _ m _ h=>⟨m,h,az _,fun _=>rfl⟩,fun b hb hf=>⟨rfl,fun p hp hq=>⟨hq,?_⟩,fun j ds hj=>hf.1 j ds (look hj).2,hf.2⟩,fun _=>.same fun _=>rfl⟩
  rw[hp];exact fun e=>hf.1 k _ hv e.symm
 refine⟨⟨g.μ,g.τ,fun p=>g.F p∧p.block≠g.μ k⟩,⟨fun j ds hj=>?_,fun j j' ds ds' hj Cv he=>hr.inj j j' ds ds' (look hj).2 (look Cv).2 he,fun id m e hi=>?_,hr.tinj,hr.base,fun p hp=>hr.fits p hp.1⟩,mo,fun t' d hd=>?_,fun p hp hq=>⟨hq,?_⟩⟩
 ·obtain⟨a1,a2⟩:=look hj
  obtain⟨b1,b2,b3,wO,LK,b4,b5,b6⟩:=hr.var j ds a2
  exact⟨b1,b2,fun p hp=>⟨b3 p hp,by rw[hp];exact fI a1 a2⟩,wO,LK,b4,b5,fun i u hu=>⟨(b6 i u hu).1,fun d hd=>((b6 i u hu).2 d hd).mono mo⟩⟩
 ·obtain⟨b1,us,b2,b3,b4⟩:=hr.tok id m e hi
  exact⟨b1,us,b2,b3,fun b hb=>⟨fun p hp hq=>⟨(b4 b hb).1 p hp hq,by rw[hp];exact fun e=>(b4 b hb).2 k _ hv e.symm⟩,fun j ds hj=>(b4 b hb).2 j ds (look hj).2⟩⟩
 ·by_cases htt:t'=t
  ·subst htt
   have:some (D.e (.sl z n (F.take (n*z))))=some d:=by rw[←hd];exact aa.symm
   injection this with this
   subst this
   have cR:=nC t' _ ht
   generalize hq:ρ t'=u at cR
   cases cR with
   |ow _ _ _ _ c hk qv o3=>
    have oQ:F.length≤cs.size:=by rw[eE] at h5;exact h5
    have gj:∀{i:Nat} {e:E},(F.take (n*z))[i]? =some e→F[i]? =some e:=fun {i e} h=>by
     rw[gL] at h
     split at h
     ·exact h
     ·cases h
    refine .e _ _ (.sl z n (F.take (n*z)) (some ⟨g.μ k,0,none⟩) c (fun i=>cs.getD i undef) (by rw[ep];omega) hz qv o3 (fun _=>⟨_,rfl,(oL.1 h4).1⟩) (fun ad ha i e hi=>?_) (fun i e hi=>?_))
    ·have hi:=gj hi
     injection ha with ha
     subst ha
     have bK:i<cs.size:=bJ (fL.1 hi).1 oQ
     refine⟨?_,fun hf=>hf.2 (by rw[gh])⟩
     have e0:w.cell? (({block:=g.μ k,off:=0,spot:=none}:Addr).add i)=cs[0+i]? :=by
      by_cases h0:i=0
      ·subst h0;simp[World.cell?,Addr.add,h4]
      ·simp[World.cell?,Addr.add,h4,h0]
     rw[e0,bt]
     simp[eT,bK]
    ·have hi:=gj hi
     have bK:i<cs.size:=bJ (fL.1 hi).1 oQ
     have hu:=h6 i (cs.getD i undef) (by simp[eT,bK])
     have:=hu.2 (.e e) (by unfold dC;rw[dT,hi];rfl)
     cases this with
     |e _ _ h7=>exact dq.less h7 fun p hp=>hp.1
  ·exact (nC t' d (by rw[←hd];exact (ao htt).symm)).mono mo
 ·intro e
  omega
theorem ut {c:List Nu}(h:c.length≤1000000):cZ (c.map nv)=some (c.all aw):=by
 obtain⟨y,hy,Ed⟩:=G_idx h
 unfold cZ aS
 rw[hy]
 by_cases h0:0≤y
 ·rw[Ed.1 h0]
  simp[bnd,h0]
 ·have:c.all aw=true:=by
   cases hc:c.all aw with
   |true=>rfl
   |false=>exact absurd (Ed.2 hc) h0
  rw[this]
  simp[bnd,h0]
theorem PF {c:List Nu}(h:c.length≤1000000):ar prog 62 [.e (slE au c)] (dB (c.all aw)):=by
 rw[kP];exact fP (ut h)
def kR(l:List Nu):List Nu:=l++l.map e9
theorem QP {l:List Nu}(h:l.length≤1000000):lT (l.map nv)=some ((kR l).map nv):=by
 have hlen:(l.map nv).length=l.length:=a8 _
 unfold lT fR
 rw[aC (by rw[hlen];exact h)]
 show bnd (bo (eY (l.map nv)) (l.map nv,(0:Int))) _=_
 have key:=tX (b:=eY (l.map nv)) (fun i:Nat=>((l++(l.take i).map e9).map nv,(i:Int))) 0 l.length ((kR l).map nv) (cr _) (fun i _ hi=>?_) ?_
 ·have e:((l++(l.take 0).map e9).map nv,((0:Nat):Int))=(l.map nv,(0:Int)):=by simp
  rw[e] at key
  rw[key]
  rfl
 ·unfold eY
  dsimp only
  have gj:(l.map nv)[((i:Nat):Int).toNat]! =nv l[i]:=by
   rw[show ((i:Nat):Int).toNat=i by omega,bI _ _ (by rw[hlen];exact hi),Fc]
  have n8:mq (nv l[i])=some (nv (e9 l[i])):=by rw[Ae];exact NR l[i].2
  have htk:l.take (i+1)=l.take i++[l[i]]:=by rw[yx,cC hi];rfl
  rw[hlen,cu _ _,aC,gj,n8]
  show gd _ _=_
  rw[aC (by simp;omega),ee (by omega) (by omega),htk]
  simp only[gK,da,jK,mZ]
  rfl
 ·unfold eY
  dsimp only
  rw[hlen,ce _ _,gJ (az _)]
  rfl
theorem HO {l:List Nu}(h:l.length≤1000000):ar prog 74 [.e (slE au l)] (.e (slE au (kR l))):=by
 rw[kP,kP]
 exact ar.toE (zI (QP h))
theorem JH {n:Nat}(h:n≤1000000):ar prog 75 [dI .i64 n] (.e (slE au (List.replicate n (nOf 0)))):=by
 rw[kP,Fb]
 refine nA ?_
 unfold fx
 rw[ai (by omega)]
 congr 2
def ylP(y:List Nu)(m:Nat):Nat→List Nu
 |0=>y
 |i+1=>(ylP y m i).set i (Ie (ylP y m i)[i]! (ylP y m i)[m+i]!)
def zc(m nn:Nat)(A B:List Nu)(most:Int):Ans×Int×Int:=
 let r:=iw (m+m) nn (kR A) (kR B) (List.replicate nn (nOf 0)) most
 if r.2.2≠0∨r.1.kind≠2 then (⟨r.1.kind,r.1.x,[],r.1.ray⟩,r.2.1,r.2.2) else
 let y:=(List.range m).map fun i=>Ie r.1.y[i]! r.1.y[m+i]!
 if y.all aw then (⟨r.1.kind,r.1.x,y,r.1.ray⟩,r.2.1,0) else (⟨0,[],[],[]⟩,0,30)
section
variable {y:List Nu} {m:Nat}
theorem zE:∀i,(ylP y m i).length=y.length
 |0=>rfl
 |i+1=>(c7 ..).trans (zE i)
theorem LP:∀i j,i≤j→(ylP y m i)[j]! =y[j]!
 |0,_,_=>rfl
 |i+1,j,h=>by
  unfold ylP
  rw[zj,BU (by omega),←zj]
  exact LP i j (by omega)
theorem Q9(h:m+m≤y.length):∀i j,i≤m→j<i→(ylP y m i)[j]! =Ie y[j]! y[m+j]!
 |0,_,_,h2=>by omega
 |i+1,j,h1,h2=>by
  have hl:i<(ylP y m i).length:=by rw[zE];omega
  unfold ylP
  by_cases Cw:i=j
  ·subst Cw
   rw[zj,Hq hl,wX,LP i i (az _),LP i (m+i) (by omega)]
  ·rw[zj,BU Cw,←zj]
   exact Q9 h i j (by omega) (by omega)
theorem ylP_all(h:y.length=m+m):(ylP y m m).take m=(List.range m).map fun i=>Ie y[i]! y[m+i]! :=by
 refine Fd (by rw[ep,zE,a8,List.length_range];omega) fun j h1 h2=>?_
 have hj:j<m:=by simpa using h2
 rw[List.getElem_take,Fc,NE,←Q9 (y:=y) (by omega) m j (az _) hj,bI (ylP y m m) j (by rw[zE];omega)]
end
theorem RC {m nn:Nat}{A B C:List Nu}{most:Int}(hB:B.length=m)(h0:0≤most)(h1:most≤9223372036854775807)(hk:(iw m nn A B C most).1.kind=2):(iw m nn A B C most).1.y.length=m∧(iw m nn A B C most).1.x=[]∧(iw m nn A B C most).1.ray=[]∧(iw m nn A B C most).2.2=0:=by
 have KA:∀d,(we nn d C).1.kind≠2:=fun d h=>by
  unfold we at h
  dsimp only at h
  split at h
  ·cases h
  ·split at h
   ·cases h
   ·split at h <;> cases h
 unfold iw at hk ⊢
 dsimp only at hk ⊢
 split at hk
 ·next n8=>
  rw[ai n8]
  split at hk
  ·cases hk
  ·next hb=>
   rw[ah hb]
   split at hk
   ·next hg=>
    rw[ai hg]
    have hm:0<m:=by
     rcases sd m with e|e
     ·rw[e] at hB
      rw[IX.1 hB] at n8
      cases n8
     ·exact e
    have hS:=(EE (m:=m) (nn:=nn) (A:=A) (B:=B) h0 h1 (az m))
    rw[KW] at hS
    have CC:=(hS.begin hm (by omega)).1.lg
    refine⟨?_,rfl,rfl,rfl⟩
    show (bS _ nn).length=m
    unfold bS
    rw[a8,fc,CC]
    omega
   ·exact absurd hk (KA _)
 ·exact absurd hk (KA _)
end
section
def zh(ky:Nat)(a:Ans):List D:=[dI .i64 a.kind,.e (slE au a.x),if a.kind=2 then .gw ky 36 a.y.length else .e (slE au a.y),.e (slE au a.ray)]
def v5(ky:Nat)(a:Ans):List (Nat×List D):=if a.kind=2 then [(ky,dC ((cW au).f a.y))] else []
theorem Ob {ky N n2:Nat}{a:Ans}{vs:List (Nat×List D)}{lv:List (Nat×Nat×Nat×TypeId)}(h:N≤ky)(h2:N≤n2):Fr ⟨vs,lv,N⟩ ⟨v5 ky a++vs,lv,n2⟩:=by
 refine⟨h2,fun j hj=>?_⟩
 have hj:j<N:=hj
 unfold v5
 split
 ·exact ao (by omega)
 ·rfl
theorem Le {ky n:Nat}{a:Ans}(h:ky<n):(zh ky a).all (D.idsC n)=true:=by
 unfold zh
 by_cases hk:a.kind=2
 ·rw[ai hk]
  simp only[iJ,kr,fH,cm]
  exact⟨rfl,rfl,aB h,rfl⟩
 ·rw[ah hk]
  rfl
theorem solW_in {ky kx:Nat}{a:Ans}{x:List D}{vs:List (Nat×List D)}{j:Nat}{ds:List D}(hj:j≠kx)(h:(v5 ky a++vs).lookup j=some ds):(v5 ky a++(kx,x)::vs).lookup j=some ds:=by
 unfold v5 at h ⊢
 by_cases hk:a.kind=2
 ·rw[ai hk] at h ⊢
  rcases b8 h with⟨rfl,rfl⟩|⟨Cu,h⟩
  ·exact aa
  ·exact al Cu (al hj h)
 ·rw[ah hk] at h ⊢
  exact al hj h
theorem HC.weakT {P:Program}{f:FuncId}{ds rs:List D}{hp:Hp}{vars vars':List (Nat×List D)}{lv lv':List (Nat×Nat×Nat×TypeId)}{n n':Nat}(hc:HC P f ds hp (.tu rs) ⟨vars,lv,n⟩)(h0:hp.next≤n')
  (h:cp hp→cp ⟨vars',lv',n'⟩∧(∀j ds,vars'.lookup j=some ds→vars.lookup j=some ds)∧(∀j y,lv'.lookup j=some y→lv.lookup j=some y)∧rs.all (D.idsB n')=true):HC P f ds hp (.tu rs) ⟨vars',lv',n'⟩:=by
 refine⟨hc.1,fun B g w vs hr hsz cR=>(hc.2 B g w vs hr hsz cR).mono ?_⟩
 obtain⟨hok,hv,hl,hd⟩:=h hr.ok
 rintro e w' ⟨v,g',rfl,pN,hM,hrd,hb,hF⟩
 have dQ:∀id y,lv'.lookup id=some y→lv.lookup id=some y:=hl
 refine⟨v,g',rfl,⟨fun k ds hk=>?_,fun k k' a b hk wa he=>pN.inj k k' a b (hv k a hk) (hv k' b wa) he,fun id m e hi=>?_,fun id BF t t' b hi wb=>pN.tinj id BF t t' b (dQ _ _ hi) (dQ _ _ wb),pN.base,pN.fits⟩,
  ⟨hM.size,hM.cell,hM.forb,h0,hM.μ,fun id hid m e Ky=>hM.live id hid m e (dQ id _ Ky),fun b hb hf=>⟨(hM.fr b hb hf).1,(hM.fr b hb hf).2.1,fun k ds hk=>(hM.fr b hb hf).2.2.1 k ds (hv k ds hk),fun id t hi=>(hM.fr b hb hf).2.2.2 id t (dQ id _ hi)⟩,hM.szs⟩,?_,hb,hF⟩
 ·obtain⟨_,h3,h4,cs,ty,h5,h6,h7⟩:=pN.var k ds (hv k ds hk)
  obtain⟨h1,h2⟩:=hok.var k ds hk
  exact⟨h1,h3,h4,cs,ty,h5,h6,fun j u hu=>⟨(h7 j u hu).1,fun d hd=>iA ((h7 j u hu).2 d hd) (bc.1 h2 d (eb hd)) rfl dQ⟩⟩
 ·obtain⟨_,us,h2,h3,h4⟩:=pN.tok id m e (dQ _ _ hi)
  exact⟨hok.tok id _ hi,us,h2,h3,fun b hb=>⟨(h4 b hb).1,fun k ds hk=>(h4 b hb).2 k ds (hv k ds hk)⟩⟩
 ·cases hrd with
  |tu _ cs FQ MC=>exact .tu rs cs FQ fun j d u h1 h2=>Ec (MC j d u h1 h2) (bc.1 hd d (eb h1)) rfl dQ
theorem KG {M:Nat}{r:Ans×Int×Int}{R Cc most:Int}{A B C:List Nu}{vs:List (Nat×List D)}{lv:List (Nat×Nat×Nat×TypeId)}{N:Nat}(hc:HC prog 12 [.ag (prC R Cc A B C),dI .i64 most] ⟨[],[],0⟩ (LY M r) (Gj M r)):
  HC prog 12 [.ag (prC R Cc A B C),dI .i64 most] ⟨vs,lv,N⟩ (.tu [.ag (zh (N+(7+8*M)) r.1),dI .i64 r.2.1,dI .i64 r.2.2]) ⟨v5 (N+(7+8*M)) r.1++vs,lv,N+(8+8*M)⟩:=by
 unfold LY Gj at hc
 unfold zh v5
 unfold qD at hc
 by_cases hk:r.1.kind=2
 ·simp only[ai hk] at hc ⊢
  have h1:=HC.weakT (vars':=[(7+8*M,dC ((cW au).f r.1.y))]) (lv':=[]) (n':=8+8*M) hc (cr _) fun _=>⟨⟨fun k ds h=>by
    rcases b8 h with⟨rfl,rfl⟩|⟨_,h⟩
    ·exact⟨show 7+8*M<8+8*M by omega,eD _⟩
    ·simp at h,fun id e h=>by simp at h⟩,fun k ds h=>by
    rcases b8 h with⟨rfl,rfl⟩|⟨_,h⟩
    ·exact al (by omega) aa
    ·simp at h,fun _ _ h=>h,by
    simp only[D.idsB,iJ,kr,fH,cm]
    exact⟨⟨rfl,rfl,aB (by omega),rfl⟩,rfl,rfl⟩⟩
  have h2:=HC.frame0 (vs:=vs) (lv:=lv) (N:=N) h1 ⟨⟨ax _,rfl,rfl⟩,⟨ax _,rfl,rfl⟩,trivial⟩ rfl fun p hp=>by
   rw[qF.1 hp]
   exact bc.2 fun d hd=>by
    obtain⟨e,_,rfl⟩:=uf.1 hd
    rfl
  have e:(dC ((cW au).f r.1.y)).map (D.renC fun i=>N+i)=dC ((cW au).f r.1.y):=Mb _
  simp only[jK,mZ,e] at h2
  exact h2
 ·simp only[ah hk] at hc ⊢
  have h1:=HC.weakT (vars':=[]) (lv':=[]) (n':=8+8*M) hc (cr _) fun _=>⟨⟨fun k ds h=>by simp at h,fun id e h=>by simp at h⟩,fun k ds h=>by simp at h,fun _ _ h=>h,rfl⟩
  have h2:=HC.frame0 (vs:=vs) (lv:=lv) (N:=N) h1 ⟨⟨ax _,rfl,rfl⟩,⟨ax _,rfl,rfl⟩,trivial⟩ rfl fun p hp=>absurd hp qG
  exact h2
def r7(a:Ans):List D:=[dI .i64 a.kind,.e (slE au a.x),.e (slE au a.y),.e (slE au a.ray)]
def maC(R Cc:Int)(A:List Nu):List D:=[dI .i64 R,dI .i64 Cc,.e (slE au A)]
theorem rO {R Cc:Int}{A:List Nu}{t:Nat}{y:D}(h:(maC R Cc A)[t]? =some y):Pt (maC R Cc A) t [y] (fun ys=>(maC R Cc A).take t++ys++(maC R Cc A).drop (t+1)):=Pt.cell h
theorem OA(a:Ans)(h:a.y=[]:=by exact rfl):D.le (.ag [dI .i64 a.kind,.e (slE au a.x),dN,.e (slE au a.ray)]) (.ag (r7 a)):=by
 unfold r7
 rw[h]
 exact rS ⟨.inl rfl,.inl rfl,.inr (.inr ⟨rfl,36,by decide,rfl⟩),.inl rfl,trivial⟩
theorem Im:D.le (.ag [dI .i64 0,dN,dN,dN]) (.ag (r7 ⟨0,[],[],[]⟩)):=rS ⟨.inl rfl,.inr (.inr ⟨rfl,36,by decide,rfl⟩),.inr (.inr ⟨rfl,36,by decide,rfl⟩),.inr (.inr ⟨rfl,36,by decide,rfl⟩),trivial⟩
def eqD(r:Ans×Int×Int):D:=.tu [.ag (r7 r.1),dI .i64 r.2.1,dI .i64 r.2.2]
def eqH(r:Ans×Int×Int):Hp:=⟨[(1,r7 r.1)],[],2⟩
theorem rtE {cx:Cx}{tm:List (Nat×D)}{vs2:List (Nat×List D)}{n2:Nat}{r0 r:Ans×Int×Int}(h0:cx.hp0=⟨[],[],0⟩)(hr:r0=r)(h1:vs2.lookup 1=some (r7 r.1))(hn:2≤n2)(h6:tm.lookup 6=some (.pt 1 0):=by exact rfl)(h7:tm.lookup 7=some (dI .i64 r.2.1):=by exact rfl)(h8:tm.lookup 8=some (dI .i64 r.2.2):=by exact rfl):
  ∃tm',Wk cx tm ⟨vs2,[],n2⟩ tm' (eqH r0)∧tI tbl [.cell 6 29,.tmp 7,.tmp 8] tm' (eqH r0) (eqD r0):=by
 subst hr
 have hok:cp ⟨[(1,r7 r0.1)],[],2⟩:=by
  refine⟨fun k ds h=>?_,fun id e h=>by simp at h⟩
  rcases b8 h with⟨rfl,rfl⟩|⟨_,h⟩
  ·exact⟨show 1<2 by decide,rfl⟩
  ·simp at h
 refine⟨_,wkS (by rw[h0];exact cr _) hn hok (fun j ds h=>?_) (((bG.nil.cons h8).cons h7).cons h6 rfl),resV tbI rfl aa (by decide) rfl rfl ⟨_,rfl,_,rfl,rfl⟩⟩
 rcases b8 h with⟨rfl,rfl⟩|⟨_,h⟩
 ·exact h1
 ·simp at h
section
variable {m nn:Nat} {A B:List Nu} {most:Int}
theorem h_Equal(hv:ar prog 73 [.ag (maC m nn A),.e (slE au B)] (dB true))(hvV:ar prog 15 [.ag (prC ((m+m:Nat):Int) nn (kR A) (kR B) (List.replicate nn (nOf 0)))] (dB true))(hm:m≤1000)(hn:nn≤2000)(hA:A.length=m*nn)(hB:B.length=m)(hgA:∀i,i<(kR A).length→aw (kR A)[i]! =true)(hgB:∀i,i<(kR B).length→aw (kR B)[i]! =true)(hA1:A.length≤1000000)(h0:0≤most)(h1:most≤9223372036854775807):
  HC prog 21 [.ag (maC m nn A),.e (slE au B),dI .i64 most] ⟨[],[],0⟩ (eqD (zc m nn A B most)) (eqH (zc m nn A B most)):=by
 refine HC.of (rs:=[.cell 6 29,.tmp 7,.tmp 8]) tok func21 rfl rfl (bi rfl) rfl (fun cx hx vO hok=>?_)
 simp only[fG,Nat.reduceAdd,bt]
 have TA:B.length≤1000000:=by omega
 have hlA:(kR A).length=(m+m)*nn:=by unfold kR;rw[cD,a8,hA,bR]
 have hlB:(kR B).length=m+m:=by unfold kR;rw[cD,a8,hB]
 have hmm:i64.wrap ((2:Int)*(m:Int))=((m+m:Nat):Int):=by rw[ee (by omega) (by omega)];omega
 have hS:=OU (m:=m+m) (nn:=nn) (C:=List.replicate nn (nOf 0)) (most:=most) hvV (by omega) hn hlA hlB (by simp) hgA hgB (fun i hi=>by
  rw[bI (List.replicate nn (nOf 0)) i hi,List.getElem_replicate];exact of0.1) h0 h1
 have za:=RC (m:=m+m) (nn:=nn) (A:=kR A) (B:=kR B) (C:=List.replicate nn (nOf 0)) (most:=most) hlB h0 h1
 have heq:zc m nn A B most=zc m nn A B most:=rfl
 conv at heq=>rhs;unfold zc
 dsimp only at heq
 obtain⟨r,hr⟩:∃r,r=iw (m+m) nn (kR A) (kR B) (List.replicate nn (nOf 0)) most:=⟨_,rfl⟩
 rw[←hr] at hS za heq
 clear hr
 refine rs hx fun K hK=>?_
 refine s1 (gP (cs:=maC m nn A)) ?_
 refine a1 (F:=lL) tbI ?_
 iterate 2 refine sa ?_
 refine nl hK ?_
 refine AW.seq (rs hx fun K hK=>?_)
 refine p1 (Pt.all (F:=maC m nn A)) rfl ?_
 refine sa ?_
 refine q1 (sHC (HC.frz (ds:=[.ag (maC m nn A),.e (slE au B)]) hv ⟨AR.same rfl,AR.same rfl,trivial⟩ rfl) rfl (.inr (Fr.refl _))) ?_
 iterate 2 refine sa ?_
 iterate 2 refine ga rfl ?_
 refine s1 (d:=dB (decide (most<0))) (lY rfl) ?_
 refine nl hK ?_
 refine AW.condF rfl (bp (by omega)) (AW.skip ?_)
 obtain⟨base,lS⟩:∃base:List (Nat×List D),base=[(1,dC lL),(0,maC m nn A)]:=⟨_,rfl⟩
 have f4:base.lookup 1=some (dC lL):=by rw[lS];exact aa
 have OT:base.lookup 0=some (maC m nn A):=by rw[lS];rfl
 have OS:∀j ds,base.lookup j=some ds→j<2∧ds.all (D.idsC 2)=true:=fun j ds h=>by
  rw[lS] at h
  rcases b8 h with⟨rfl,rfl⟩|⟨_,h⟩
  ·exact⟨by omega,rfl⟩
  ·rcases b8 h with⟨rfl,rfl⟩|⟨_,h⟩
   ·exact⟨by omega,rfl⟩
   ·simp at h
 have ME:∀n,2≤n→cp ⟨base,[],n⟩:=fun n hn=>⟨fun j ds h=>⟨show j<n by have:=(OS j ds h).1;omega,bc.2 fun d hd=>D.idsC_le hn (bc.1 (OS j ds h).2 d hd)⟩,fun id e h=>by simp at h⟩
 have hokY:∀ky n,2≤n→ky<n→cp ⟨v5 ky r.1++base,[],n⟩:=fun ky n hn hky=>by
  unfold v5
  split
  ·exact (ME n hn).consM hky (eD _)
  ·exact ME n hn
 have hY:∀ky j ds,2≤ky→base.lookup j=some ds→(v5 ky r.1++base).lookup j=some ds:=fun ky j ds hky h=>by
  have:=(OS j ds h).1
  unfold v5
  split
  ·exact al (by omega) h
  ·exact h
 have hSA:=KG (vs:=base) (lv:=[]) (N:=2) hS
 have hSB:=KG (vs:=(2,dC lL)::base) (lv:=[]) (N:=3) hS
 have hS2:(v5 (3+(7+8*(m+m))) r.1++(2,dC lL)::base).lookup 2=some (dC lL):=by
  unfold v5
  split
  ·exact al (by omega) aa
  ·exact aa
 have fin1:∀{tm:List (Nat×D)} {vs2:List (Nat×List D)} {n2:Nat} (kx ky:Nat),kx<11+8*(m+m)→ky<11+8*(m+m)→11+8*(m+m)≤n2→(∀j ds,((kx,zh ky r.1)::(v5 ky r.1++base)).lookup j=some ds→vs2.lookup j=some ds)→tm.lookup 3=some (.pt 0 0)→tm.lookup 6=some (.pt 1 0)→tm.lookup 9=some (.pt kx 0)→tm.lookup 10=some (dI .i64 r.2.1)→tm.lookup 11=some (dI .i64 r.2.2)→
   Wk cx tm ⟨vs2,[],n2⟩ [(3,.pt 0 0),(6,.pt 1 0),(9,.pt kx 0),(10,dI .i64 r.2.1),(11,dI .i64 r.2.2)] ⟨(kx,zh ky r.1)::(v5 ky r.1++base),[],11+8*(m+m)⟩:=fun kx ky hkx hky Gv hl a b c d e=>
  wkS (by rw[vO];exact cr _) Gv ((hokY ky _ (by omega) hky).consM hkx (Le hky)) hl (bG.cons (bG.cons (bG.cons (bG.cons (bG.cons bG.nil e rfl) d rfl) c (aB hkx)) b (aB (by omega))) a (aB (by omega)))
 rw[←lS]
 refine AW.joinE (α:=Nat×Nat) (fun a=>[(3,.pt 0 0),(6,.pt 1 0),(9,.pt a.1 0),(10,dI .i64 r.2.1),(11,dI .i64 r.2.2)]) (fun a=>⟨(a.1,zh a.2 r.1)::(v5 a.2 r.1++base),[],11+8*(m+m)⟩) (fun a=>2≤a.1∧2≤a.2∧a.1≠a.2∧a.1<11+8*(m+m)∧a.2<11+8*(m+m)) ?_ ?_
 ·refine dw (DW.split 16 21 (by decide) ?_ ?_)
  ·refine dwg [74,75] [0,1,2,3,4,5,6,7,8,9,10,11,12,13,14,15,16,17,18,19,20,21,22,23,24] hx (by kernel_rfl) (by kernel_rfl) (by kernel_rfl) fun K hK=>?_
   dsimp only[eh,mM,mW,List.map]
   refine sa ?_
   refine c1 (rO (t:=0) rfl) ?_
   refine sa ?_
   rw[hmm]
   refine sa ?_
   refine c1 (rO (t:=1) rfl) ?_
   refine sa ?_
   refine c1 (rO (t:=2) rfl) ?_
   refine cq (HO (l:=A) hA1) ?_
   refine s1 (d:=.ag (maC ((m+m:Nat):Int) nn (kR A))) (dp wB) ?_
   refine sa ?_
   refine cq (HO (l:=B) TA) ?_
   refine sa ?_
   refine c1 (rO (t:=1) rfl) ?_
   refine cq (JH (n:=nn) (by omega)) ?_
   refine s1 (d:=.ag (prC ((m+m:Nat):Int) nn (kR A) (kR B) (List.replicate nn (nOf 0)))) (dp rE) ?_
   refine sa ?_
   refine q1 (sHC hSA rfl (.inr (Ob (by omega) (by omega)))) ?_
   refine sa ?_
   refine sa ?_
   refine sa ?_
   refine sa ?_
   refine a1 (F:=lL) tbI ?_
   refine v1 (F2:=zh (2+(7+8*(m+m))) r.1) (ys:=zh (2+(7+8*(m+m))) r.1) (Pt.all (F:=dC lL)) rfl rfl rfl ?_
   refine sa ?_
   refine sa ?_
   refine .nil (hK _ _ ⟨(2+(8+8*(m+m)),2+(7+8*(m+m))),⟨by omega,by omega,by omega,by omega,by omega⟩,?_⟩)
   refine fin1 _ _ (by omega) (by omega) (by omega) (fun j ds h=>?_) rfl rfl rfl rfl rfl
   rcases b8 h with⟨rfl,rfl⟩|⟨hj,h⟩
   ·exact aa
   ·exact al hj (al hj h)
  ·refine dwg [74,75] [0,1,2,3,4,5,6,7,8,9,10,11,12,13,14,15,21,16,17,18,19,20,22,23,24] hx (by kernel_rfl) (by kernel_rfl) (by kernel_rfl) fun K hK=>?_
   dsimp only[eh,mM,mW,List.map]
   refine sa ?_
   refine c1 (rO (t:=0) rfl) ?_
   refine sa ?_
   rw[hmm]
   refine sa ?_
   refine c1 (rO (t:=1) rfl) ?_
   refine sa ?_
   refine c1 (rO (t:=2) rfl) ?_
   refine cq (HO (l:=A) hA1) ?_
   refine s1 (d:=.ag (maC ((m+m:Nat):Int) nn (kR A))) (dp wB) ?_
   refine sa ?_
   refine cq (HO (l:=B) TA) ?_
   refine sa ?_
   refine c1 (rO (t:=1) rfl) ?_
   refine cq (JH (n:=nn) (by omega)) ?_
   refine s1 (d:=.ag (prC ((m+m:Nat):Int) nn (kR A) (kR B) (List.replicate nn (nOf 0)))) (dp rE) ?_
   refine sa ?_
   refine a1 (F:=lL) tbI ?_
   refine q1 (sHC hSB rfl (.inr (Ob (by omega) (by omega)))) ?_
   refine sa ?_
   refine sa ?_
   refine sa ?_
   refine sa ?_
   refine v1 (F2:=zh (3+(7+8*(m+m))) r.1) (ys:=zh (3+(7+8*(m+m))) r.1) (Pt.all (F:=dC lL)) rfl rfl rfl ?_
   refine sa ?_
   refine sa ?_
   refine .nil (hK _ _ ⟨(2,3+(7+8*(m+m))),⟨by omega,by omega,by omega,by omega,by omega⟩,?_⟩)
   refine fin1 _ _ (by omega) (by omega) (by omega) (fun j ds h=>?_) rfl rfl rfl rfl rfl
   rcases b8 h with⟨rfl,rfl⟩|⟨hj,h⟩
   ·exact aa
   ·exact al hj (solW_in hj h)
 ·rintro⟨kx,ky⟩ ⟨xx,Ed,hxy,BG,hyl⟩
  dsimp only at xx Ed hxy BG hyl ⊢
  have hokY1:=hokY ky _ (show 2≤11+8*(m+m) by omega) hyl
  have hY0:=hY ky 0 _ Ed OT
  have hY1:=hY ky 1 _ Ed f4
  have hKi:=Le (a:=r.1) hyl
  refine AW.seq (rs hx fun K hK=>?_)
  iterate 3 refine sa ?_
  by_cases he:r.2.2≠0
  ·have iq:=heq.trans (ai (.inl he))
   have hKf:∃z,zh ky r.1=[dI .i64 r.1.kind,.e (slE au r.1.x),z,.e (slE au r.1.ray)]:=⟨_,rfl⟩
   obtain⟨z,hz⟩:=hKf
   rw[hz]
   iterate 3 refine gn (aB he) ?_
   refine s1 (d:=dB true) (oO (aB he)) ?_
   refine nl hK ?_
   refine AW.condT rfl rfl (rs hx fun K hK=>?_)
   refine sa ?_
   refine v1 (F2:=[dI .i64 r.1.kind,.e (slE au r.1.x),dN,.e (slE au r.1.ray)]) (ys:=[dN]) (Pt.cell (F:=[dI .i64 r.1.kind,.e (slE au r.1.x),z,.e (slE au r.1.ray)]) (t:=2) rfl) rfl rfl rfl ?_
   refine nl hK ?_
   refine rs hx fun K hK=>?_
   refine s2 (CP (Pt.all (F:=[dI .i64 r.1.kind,.e (slE au r.1.x),dN,.e (slE au r.1.ray)])) aa (show kx<11+8*(m+m) by omega) oX rfl rfl rfl) (OA ⟨r.1.kind,r.1.x,[],r.1.ray⟩) ?_
   iterate 2 refine sa ?_
   refine v1 (F2:=r7 ⟨r.1.kind,r.1.x,[],r.1.ray⟩) (ys:=r7 ⟨r.1.kind,r.1.x,[],r.1.ray⟩) (Pt.all (F:=dC lL)) rfl rfl rfl ?_
   iterate 2 refine sa ?_
   refine nl hK ?_
   exact AW.ret (rtE vO iq aa (by omega))
  ·refine ga (bp he) ?_
   refine c1g (Pt.cell (t:=0) rfl) (bp he) ?_
   refine ga (bp he) ?_
   refine s1 (d:=dB (decide (r.1.kind≠2))) (lY (bp he)) ?_
   refine nl hK ?_
   refine AW.condS rfl (fun hb=>?_) (fun hb=>?_)
   ·have iq:=heq.trans (ai (.inr (bC hb)))
    have hKf:∃z,zh ky r.1=[dI .i64 r.1.kind,.e (slE au r.1.x),z,.e (slE au r.1.ray)]:=⟨_,rfl⟩
    obtain⟨z,hz⟩:=hKf
    rw[hz]
    refine rs hx fun K hK=>?_
    refine sa ?_
    refine v1 (F2:=[dI .i64 r.1.kind,.e (slE au r.1.x),dN,.e (slE au r.1.ray)]) (ys:=[dN]) (Pt.cell (F:=[dI .i64 r.1.kind,.e (slE au r.1.x),z,.e (slE au r.1.ray)]) (t:=2) rfl) rfl rfl rfl ?_
    refine nl hK ?_
    refine rs hx fun K hK=>?_
    refine s2 (CP (Pt.all (F:=[dI .i64 r.1.kind,.e (slE au r.1.x),dN,.e (slE au r.1.ray)])) aa (show kx<11+8*(m+m) by omega) oX rfl rfl rfl) (OA ⟨r.1.kind,r.1.x,[],r.1.ray⟩) ?_
    iterate 2 refine sa ?_
    refine v1 (F2:=r7 ⟨r.1.kind,r.1.x,[],r.1.ray⟩) (ys:=r7 ⟨r.1.kind,r.1.x,[],r.1.ray⟩) (Pt.all (F:=dC lL)) rfl rfl rfl ?_
    iterate 2 refine sa ?_
    refine nl hK ?_
    exact AW.ret (rtE vO iq aa (by omega))
   ·have hk:r.1.kind=2:=Decidable.not_not.1 (dE hb)
    have iq:=heq.trans (ah (by rintro (h|h);exact he h;exact h hk))
    obtain⟨hyl2,FJ,hray0,_⟩:=za hk
    refine AW.skip ?_
    obtain⟨y,Sy⟩:∃y,y=r.1.y:=⟨_,rfl⟩
    obtain⟨KC,hKC⟩:∃KC,KC=[dI .i64 2,.e (slE au []),.gw ky 36 (m+m),.e (slE au [])]:=⟨_,rfl⟩
    have hKe:zh ky r.1=KC:=by unfold zh;rw[ai hk,hk,FJ,hray0,hyl2,hKC]
    have hWe:v5 ky r.1++base=(ky,dC ((cW au).f y))::base:=by unfold v5;rw[ai hk,Sy];rfl
    have qU:KC[2]? =some (.gw ky 36 (m+m)):=by rw[hKC];rfl
    have hKl:KC.length=4:=by rw[hKC];rfl
    rw[hKe] at hKi
    rw[hKe,hWe]
    rw[hk,FJ,hray0,←Sy] at iq
    rw[←Sy] at hyl2
    have hokB:=ME (11+8*(m+m)) (by omega)
    refine rs hx fun K hK=>?_
    refine sa ?_
    refine c1 (Pt.cell qU) ?_
    refine sa ?_
    refine c1 (rO (t:=0) rfl) ?_
    refine sa ?_
    refine c1 (rO (t:=0) rfl) ?_
    refine q1 (sliceG tok bZ aO rfl rfl rfl (by omega)) ?_
    refine sa ?_
    refine nl hK ?_
    refine AW.seq (rs hx fun K hK=>?_)
    refine sa ?_
    refine s1 (Ce (k:=ky) (off:=0) (z:=36) bZ aO rfl rfl) ?_
    refine sa ?_
    refine nl hK ?_
    refine AW.block (AW.loopW (fun i:Nat=>[(3,.pt 0 0),(6,.pt 1 0),(9,.pt kx 0),(10,dI .i64 r.2.1),(11,dI .i64 r.2.2),(12,.ow ky 0 36 m),(63,dI .i64 m),(64,dI .i64 i)]) (fun i=>⟨(ky,dC ((cW au).f (ylP y m i)))::(kx,KC)::base,[],11+8*(m+m)⟩) (fun i=>i≤m) (fun i=>m - i) 0 ?_ (cr _) ?_)
    ·exact wk1 vO
    ·intro i hi
     have hyi:(ylP y m i).length=m+m:=by rw[zE];exact hyl2
     refine rs hx fun K hK=>?_
     refine sa ?_
     refine nl hK ?_
     refine AW.seq (AW.condS rfl (fun hb=>?_) (fun hb=>?_))
     ·have pP:i<m:=by have:=bC hb;omega
      refine AW.skip (AW.seq (AW.block (rs hx fun K hK=>?_)))
      iterate 2 refine sa ?_
      refine nl hK ?_
      refine rqd [76] hx fun K hK=>?_
      iterate 4 refine sa ?_
      refine i1 (i:=i) (n:=m) pP ?_
      refine l1 (Pt.el (ylP y m i) i (by omega)) ?_
      refine sa ?_
      refine c1 (Pt.cell qU) ?_
      refine sa ?_
      refine c1 (rO (t:=0) rfl) ?_
      iterate 2 refine sa ?_
      rw[qS (by omega)]
      refine stG (d:=.pt ky ((m+i)*36)) tok (iaN (k:=ky) (i:=m+i) (n:=m+m) (by omega) rfl rfl) ?_
      refine l1 (Pt.el (ylP y m i) (m+i) (by omega)) ?_
      refine cq (w_Sub _ _) ?_
      refine i1 (i:=i) (n:=m) pP ?_
      refine t1 (Pt.el (ylP y m i) i (by omega)) (Pt.el_set (ylP y m i) i (by omega) _) ?_
      refine nl hK ?_
      rw[show (ylP y m i).set i (Ie (ylP y m i)[i]! (ylP y m i)[m+i]!)=ylP y m (i+1) from rfl]
      refine rq hx fun K hK=>?_
      iterate 2 refine sa ?_
      refine nl hK ?_
      rw[bU]
      exact⟨i+1,wk1 vO,pP,by omega⟩
     ·refine AW.exit ?_
      have pP:m=i:=by have:=dE hb;omega
      subst pP
      obtain⟨ys,P8⟩:∃ys,ys=(List.range m).map fun i=>Ie y[i]! y[m+i]! :=⟨_,rfl⟩
      rw[←P8] at iq
      have hysl:ys.length=m:=by rw[P8];simp
      have FK:E.sl 36 m (((cW au).f (ylP y m m)).take (m*36))=slE au ys:=by
       have h2:=ka au.f au.h (ylP y m m) m
       rw[ylP_all hyl2,←P8] at h2
       show E.sl 36 m (((ylP y m m).flatMap au.f).take (m*36))=E.sl 36 ys.length (ys.flatMap au.f)
       rw[hysl,←h2]
       rfl
      have hfl:(((ky,dC ((cW au).f (ylP y m m)))::(kx,KC)::base).filter fun p=>!([ky]:List Nat).contains p.1)=(kx,KC)::base:=by
       rw[lS]
       have a1:¬kx=ky:=hxy
       have a2:¬1=ky:=by omega
       have a3:¬0=ky:=by omega
       simp[a1,a2,a3]
      have hfz:=WkS.frz2 (tm:=[(65,dB (decide ((m:Int)<(m:Int)))),(3,.pt 0 0),(6,.pt 1 0),(9,.pt kx 0),(10,dI .i64 r.2.1),(11,dI .i64 r.2.2),(12,.ow ky 0 36 m),(63,dI .i64 m),(64,dI .i64 m)]) (vs:=(ky,dC ((cW au).f (ylP y m m)))::(kx,KC)::base) (lv:=[]) (N:=11+8*(m+m)) (t:=12) (k:=ky) (z:=36) (n:=m) (F:=(cW au).f (ylP y m m)) (by decide) rfl aa (by
       have:((cW au).f (ylP y m m)).length=(ylP y m m).length*36:=il au.f au.h _
       rw[this,hyi];omega)
      rw[hfl,FK] at hfz
      refine AW.weak (tm':=(12,.e (slE au ys))::[(65,dB (decide ((m:Int)<(m:Int)))),(3,.pt 0 0),(6,.pt 1 0),(9,.pt kx 0),(10,dI .i64 r.2.1),(11,dI .i64 r.2.2),(12,.ow ky 0 36 m),(63,dI .i64 m),(64,dI .i64 m)]) (hp':=⟨(kx,KC)::base,[],11+8*(m+m)⟩) (fun _ _ hr=>hfz.rs hr) (AW.seq (rs hx fun K hK=>?_))
      refine sa ?_
      refine cq (PF (c:=ys) (by omega)) ?_
      refine sa ?_
      refine nl hK ?_
      refine AW.condS rfl (fun hb=>?_) (fun hb=>?_)
      ·have iq:=iq.trans (ah (by simpa using hb))
       refine rs hx fun K hK=>?_
       refine s2 (dp tbI) Im ?_
       refine v1 (F2:=r7 ⟨0,[],[],[]⟩) (ys:=r7 ⟨0,[],[],[]⟩) (Pt.all (F:=dC lL)) rfl rfl rfl ?_
       iterate 2 refine sa ?_
       refine nl hK ?_
       exact AW.ret (rtE vO iq aa (by omega))
      ·have iq:=iq.trans (ai (by simpa using hb))
       refine AW.skip (rs hx fun K hK=>?_)
       iterate 2 refine sa ?_
       refine v1 (F2:=r7 ⟨2,[],ys,[]⟩) (ys:=[.e (slE au ys)]) (Pt.cell qU) rfl rfl (by rw[hKC];rfl) ?_
       refine nl hK ?_
       refine rs hx fun K hK=>?_
       refine p1 (Pt.all (F:=r7 ⟨2,[],ys,[]⟩)) rfl ?_
       refine sa ?_
       refine v1 (F2:=r7 ⟨2,[],ys,[]⟩) (ys:=r7 ⟨2,[],ys,[]⟩) (Pt.all (F:=dC lL)) rfl rfl rfl ?_
       iterate 2 refine sa ?_
       refine nl hK ?_
       exact AW.ret (rtE vO iq aa (by omega))
end
end
section
structure VS(a:fM)(b:List am)(m nn:Nat):Prop where
 hr:a.vR=m
 hc:a.vC=nn
 hm:m≤1000
 hn:nn≤2000
 oA:okL a.vV
 oB:okL b
 lA:a.vV.length=m*nn
 lB:b.length=m
 l1:a.vV.length≤1000000
 gA:∀i,i<(kR (a.vV.map n4)).length→aw (kR (a.vV.map n4))[i]! =true
 gB:∀i,i<(kR (b.map n4)).length→aw (kR (b.map n4))[i]! =true
 v:gX ⟨⟨((m+m:Nat):Int),nn,(kR (a.vV.map n4)).map nv⟩,(kR (b.map n4)).map nv,(List.replicate nn (nOf 0)).map nv⟩=some true
open Classical in
def ln(aK:fM)(aQ:List am)(kQ:Int):Option (cH×Int×Int):=
 bnd (fT aK aQ) fun v=>if v=true∧0≤kQ then
  if VS aK aQ aK.vR.toNat aK.vC.toNat∧kQ≤9223372036854775807 then some (qE (zc aK.vR.toNat aK.vC.toNat (aK.vV.map n4) (aQ.map n4) kQ)) else none
 else some (qE (⟨0,[],[],[]⟩,0,1))
theorem VS.cells {a:fM}{b:List am}{m nn:Nat}(h:VS a b m nn):dG mQ a=.ag (maC m nn (a.vV.map n4))∧dL ak b=.e (slE au (b.map n4)):=by
 unfold maC
 rw[kP,kP,tU h.oA,tU h.oB,←h.hr,←h.hc]
 exact⟨rfl,rfl⟩
theorem Ui(R Cc:Int)(A B C:List Nu):dG d9 ⟨⟨R,Cc,A.map nv⟩,B.map nv,C.map nv⟩=.ag (prC R Cc A B C):=by
 unfold prC
 rw[kP,kP,kP]
 rfl
theorem ar_eq(r:Ans×Int×Int):AR (eqH r) (eqD r) (.tu [dG kg (qE r).1,dI .i64 (qE r).2.1,dI .i64 (qE r).2.2]):=by
 have e:dG kg (qE r).1=.ag (r7 r.1):=by
  unfold r7
  rw[kP,kP,kP];rfl
 rw[e]
 exact AR.tu ⟨AR.same rfl,AR.dn rfl,AR.dn rfl,trivial⟩
theorem Tw {cs:List D}{b:E}{v:Bool}{most:Int}(hlen:cs.length=3)(hpu:(D.ag cs).pure=true)(hv:ar prog 73 [.ag cs,.e b] (dB v))(hbad:¬(v=true∧0≤most)):
  HC prog 21 [.ag cs,.e b,dI .i64 most] ⟨[],[],0⟩ (eqD (⟨0,[],[],[]⟩,0,1)) (eqH (⟨0,[],[],[]⟩,0,1)):=by
 refine HC.of (rs:=[.cell 6 29,.tmp 7,.tmp 8]) tok func21 rfl rfl (bi rfl) rfl (fun cx hx vO hok=>?_)
 simp only[fG,Nat.reduceAdd,bt]
 refine rs hx fun K hK=>?_
 refine s1 (gP (cs:=cs)) ?_
 refine a1 (F:=lL) tbI ?_
 iterate 2 refine sa ?_
 refine nl hK ?_
 refine AW.seq (rs hx fun K hK=>?_)
 refine p1 (ht:=wB) (Pt.all (F:=cs)) hlen ?_
 refine sa ?_
 refine q1 (sHC (HC.frz (ds:=[.ag cs,.e b]) hv ⟨AR.same hpu,AR.same rfl,trivial⟩ rfl) rfl (.inr (Fr.refl _))) ?_
 iterate 2 refine sa ?_
 cases v with
 |false=>
  iterate 2 refine gn rfl ?_
  refine s1 (d:=dB true) (oO rfl) ?_
  refine nl hK ?_
  refine AW.condT rfl rfl (rs hx fun K hK=>?_)
  refine s2 (dp tbI) Im ?_
  refine v1 (F2:=r7 ⟨0,[],[],[]⟩) (ys:=r7 ⟨0,[],[],[]⟩) (Pt.all (F:=dC lL)) rfl rfl rfl ?_
  iterate 2 refine sa ?_
  refine nl hK ?_
  exact AW.ret (rtE vO rfl aa (by omega))
 |true=>
  iterate 2 refine ga rfl ?_
  refine s1 (d:=dB (decide (most<0))) (lY rfl) ?_
  refine nl hK ?_
  refine AW.condT rfl (aB (by simp only[true_and] at hbad;omega)) (rs hx fun K hK=>?_)
  refine s2 (dp tbI) Im ?_
  refine v1 (F2:=r7 ⟨0,[],[],[]⟩) (ys:=r7 ⟨0,[],[],[]⟩) (Pt.all (F:=dC lL)) rfl rfl rfl ?_
  iterate 2 refine sa ?_
  refine nl hK ?_
  exact AW.ret (rtE vO rfl aa (by omega))
theorem vu {aK:fM}{aQ:List am}{kQ:Int}{r:cH×Int×Int}(h:ln aK aQ kQ=some r):ar prog 21 [dG mQ aK,dL ak aQ,dI .i64 kQ] (.tu [dG kg r.1,dI .i64 r.2.1,dI .i64 r.2.2]):=by
 unfold ln at h
 obtain⟨v,hv,h⟩:=ae h
 have hv:=ry hv
 by_cases hg:v=true∧0≤kQ
 ·rw[ai hg] at h
  by_cases hq:VS aK aQ aK.vR.toNat aK.vC.toNat∧kQ≤9223372036854775807
  ·rw[ai hq] at h
   have h:=bw h
   subst h
   obtain⟨hq,Ej⟩:=hq
   have hV:=qx hq.v
   rw[Ui] at hV
   rw[hg.1] at hv
   rw[hq.cells.1,hq.cells.2] at hv ⊢
   have h2:=h_Equal (most:=kQ) hv hV hq.hm hq.hn (by rw[a8];exact hq.lA) (by rw[a8];exact hq.lB) hq.gA hq.gB (by rw[a8];exact hq.l1) hg.2 Ej
   exact HC.toP h2 (ar_eq _)
  ·rw[ah hq] at h;cases h
 ·rw[ah hg] at h
  have h:=bw h
  subst h
  have h2:=Tw (cs:=dC (mQ.f aK)) (b:=slE ak aQ) ((eE _).trans (mQ.h aK)) (iR mQ aK) hv hg
  exact HC.toP h2 (ar_eq _)
end
end
end Go.Proofs.YtaedcknhkjpmlaaGreat
