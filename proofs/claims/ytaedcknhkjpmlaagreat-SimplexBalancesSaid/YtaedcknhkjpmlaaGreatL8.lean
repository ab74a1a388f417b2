/-
Lemmas. Conditions: none.
-/
import Derived.Test.YtaedcknhkjpmlaaGreatL7
set_option linter.all false
set_option maxRecDepth 100000
set_option maxHeartbeats 4000000
namespace Go.Proofs.YtaedcknhkjpmlaaGreat
open Go.RowKit Go.IntKind Tryz
noncomputable section
def o6(eE:List am):Int→Option (Int⊕(Bool⊕Unit)):=fun aD=>cnd (decide (aD<((eE).length:Int))) (gd (0≤aD∧aD<((eE).length:Int)) (bnd (fF ((eE)[(aD).toNat]!)) fun x4=>cnd (!x4) (some (.inr (.inl false))) (some (.inl (i64.wrap (aD+(1:Int))))))) (some (.inr (.inr ())))
def mC(eE:List am):Option Bool:=bnd (bt (o6 eE) (0:Int)) fun y7=>match y7 with| .inl r=>some r| .inr ()=>some true
theorem wO {eE:List am}{r:Bool}(h:mC eE=some r):ar prog 64 [dL aj eE] (dB r):=by
 refine bk (rs:=[.tmp 2]) (fun cx hx h0=>?_) func64
 unfold mC at h
 refine ra hx ?_
 refine AW.seq (ra hx ?_)
 refine AW.block ?_
 obtain⟨y,hy,h⟩:=ae h
 refine lp (S:=Int) (X:=Bool⊕Unit) (fun aD=>[(0,dL aj eE),(3,dI .i64 aD)]) (fun aD=>⟨[],[],0⟩) (PS (PR [.tmp 2] fun r=>dB r) (PE cx (.exit 0) (fun ()=>[]) fun ()=>⟨[],[],0⟩)) hy ?_ ?_ ?_
 exact wk0 h0 []
 clear hy h
 rintro aD y h
 dsimp only[o6] at h
 refine AW.seq (ra hx ?_)
 refine cdh h rfl (fun fT h=>?_) (fun fT h=>?_)
 refine AW.skip (AW.seq (AW.block (rs hx fun K hK=>?_)))
 iterate 2 refine sa ?_
 obtain⟨rA,h⟩:=aA h
 have yv:(aD).toNat<(eE).length:=by omega
 refine sbr ?_
 refine s1 (d:=dG aj ((eE)[(aD).toNat]!)) (i8 (c:=aj) (l:=eE) (n:=(aD).toNat) (o:=0) aQ yv (eS _ _ rfl)) ?_
 refine scb h mP fun x4 h=>?_
 refine nbr hK ?_
 refine ra hx ?_
 refine cdh h rfl (fun qV h=>?_) (fun qV h=>?_)
 refine ra hx ?_
 refine AW.ret ?_
 cases h
 refine PS.r ⟨by nofun,PS.l (PR.i ?_)⟩
 exact rv1
 refine AW.skip (rb hx ?_)
 exact pel h h0 []
 exact AW.exit (peq h h0 [])
 rcases y with r|⟨⟩
 rintro ex tm' hp' ⟨rfl,hw⟩
 cases h
 exact hw
 refine lwr ?_
 refine ra hx ?_
 exact AW.ret (rtv h)
def mD(aG:eZ)(j6:Int)(It:Int):Option Bool:=bnd (S:=Bool) (cnd (decide ((0:Int)≤aG.vR)) (cnd (decide ((0:Int)≤aG.vC)) (cnd (decide (aG.vR≤j6)) (cnd (decide (aG.vC≤It)) (cnd (decide (((aG.vV).length:Int)=(i64.wrap (aG.vR*aG.vC)))) (bnd (mC aG.vV) fun x6=>some (x6)) (some (false))) (some (false))) (some (false))) (some (false))) (some (false))) fun bn=>some bn
theorem D1 {aG:eZ}{j6:Int}{It:Int}{r:Bool}(h:mD aG j6 It=some r):ar prog 63 [dG mh aG,dI .i64 j6,dI .i64 It] (dB r):=by
 refine bk (rs:=[.tmp 6]) (fun cx hx h0=>?_) func63
 unfold mD at h
 refine rs hx fun K hK=>?_
 refine s1 (d:=.pt 0 0) fQ ?_
 refine nbr hK ?_
 refine AW.seq ?_
 obtain⟨bn,hy,h⟩:=ae h
 refine jn ((PE cx .normal (fun bn=>[(6,dB bn)]) fun bn=>⟨[],[],0⟩) bn) ?_ ?_
 replace h:=hy
 refine rq hx fun K hK=>?_
 refine mbr ?_
 rcases aE h with⟨fT,h⟩|⟨fT,h⟩
 refine mbr ?_
 rcases aE h with⟨xf,h⟩|⟨xf,h⟩
 refine mbr ?_
 rcases aE h with⟨fI,h⟩|⟨fI,h⟩
 refine mbr ?_
 rcases aE h with⟨Gm,h⟩|⟨Gm,h⟩
 refine mbr ?_
 rcases aE h with⟨su,h⟩|⟨su,h⟩
 refine ga su ?_
 refine gbr ?_
 refine gcb h wO fun x6 h=>?_
 refine nbr hK ?_
 exact pe1 h h0 []
 refine nbr hK ?_
 exact pe1 h h0 []
 refine nbr hK ?_
 exact pe1 h h0 []
 refine nbr hK ?_
 exact pe1 h h0 []
 refine nbr hK ?_
 exact pe1 h h0 []
 refine nbr hK ?_
 exact pe1 h h0 []
 refine lw0 ?_
 exact AW.ret (rtv h)
def nM(nt:aX):Option Bool:=bnd (mD nt.vA (2000:Int) (2000:Int)) fun x1=>bnd (S:=Bool) (cnd x1 (cnd (decide (((nt.vB).length:Int)=nt.vA.vR)) (cnd (decide (((nt.vC).length:Int)=nt.vA.vC)) (bnd (mC nt.vB) fun x6=>cnd x6 (bnd (mC nt.vC) fun x9=>some (x9)) (some (false))) (some (false))) (some (false))) (some (false))) fun ib=>some ib
theorem Gv {nt:aX}{r:Bool}(h:nM nt=some r):ar prog 16 [dG eC nt] (dB r):=by
 refine bk (rs:=[.tmp 2]) (fun cx hx h0=>?_) func16
 unfold nM at h
 refine rs hx fun K hK=>?_
 refine s1 (d:=.pt 0 0) fQ ?_
 refine nbr hK ?_
 refine rs hx fun K hK=>?_
 refine sa ?_
 refine s1 (d:=dG mh nt.vA) (T_ldA yH) ?_
 refine scb h D1 fun x1 h=>?_
 refine nbr hK ?_
 refine AW.seq ?_
 obtain⟨ib,hy,h⟩:=ae h
 refine jn ((PE cx .normal (fun ib=>[(2,dB ib)]) fun ib=>⟨[],[],0⟩) ib) ?_ ?_
 replace h:=hy
 refine rq hx fun K hK=>?_
 refine mbr ?_
 rcases aE h with⟨fI,h⟩|⟨fI,h⟩
 refine mbr ?_
 rcases aE h with⟨Gm,h⟩|⟨Gm,h⟩
 refine mbr ?_
 rcases aE h with⟨su,h⟩|⟨su,h⟩
 refine ga su ?_
 refine gbr ?_
 refine gcb h wO fun x6 h=>?_
 refine mbr ?_
 rcases aE h with⟨uw,h⟩|⟨uw,h⟩
 refine ga uw ?_
 refine gbr ?_
 refine gcb h wO fun x9 h=>?_
 refine nbr hK ?_
 exact pe1 h h0 []
 refine nbr hK ?_
 exact pe1 h h0 []
 refine nbr hK ?_
 exact pe1 h h0 []
 refine nbr hK ?_
 exact pe1 h h0 []
 refine nbr hK ?_
 exact pe1 h h0 []
 refine lw0 ?_
 exact AW.ret (rtv h)
def tw(oM:List am)(aK:List am):Int×am→Option ((Int×am)⊕am):=fun (aY,uN)=>cnd (decide (aY<((oM).length:Int))) (gd (0≤aY∧aY<((oM).length:Int)) (gd (0≤aY∧aY<((aK).length:Int)) (bnd (xh ((oM)[(aY).toNat]!) ((aK)[(aY).toNat]!)) fun ta=>bnd (xi uN ta) fun qW=>some (.inl (i64.wrap (aY+(1:Int)),qW))))) (some (.inr uN))
def yS(oM:List am)(aK:List am):Option am:=cnd (decide (((oM).length:Int)≠((aK).length:Int))) (bnd (oo) fun x2=>some x2) (bnd (qa (0:Int)) fun x4=>bnd (bt (tw oM aK) ((0:Int),x4)) fun jN=>some jN)
theorem w_ref20_Value {oM:List am}{aK:List am}{r:am}(h:yS oM aK=some r):ar prog 18 [dL aj oM,dL aj aK] (dG aj r):=by
 refine bk (rs:=[.cell 4 43]) (fun cx hx h0=>?_) func18
 unfold yS at h
 refine rar hx ?_
 refine AW.seq (ra hx ?_)
 refine cdh h rfl (fun fT h=>?_) (fun fT h=>?_)
 refine rs hx fun K hK=>?_
 refine scb h tf fun x2 h=>?_
 refine nbr hK ?_
 exact AW.ret (rtv h)
 refine AW.skip (rs hx fun K hK=>?_)
 refine scb h D2 fun x4 h=>?_
 refine nbr hK ?_
 refine AW.seq (ra hx ?_)
 refine AW.block ?_
 obtain⟨jN,hy,h⟩:=ae h
 refine lp (S:=Int×am) (X:=am) (fun (aY,uN)=>[(0,dL aj oM),(1,dL aj aK),(4,.pt 0 0),(5,.pt 1 0),(6,dI .i64 aY)]) (fun (aY,uN)=>⟨[(0,dC (aj.f kI)),(1,dC (aj.f uN))],[],2⟩) (PE cx (.exit 0) (fun jN=>[(4,.pt 0 0),(5,.pt 1 0)]) fun jN=>⟨[(0,dC (aj.f kI)),(1,dC (aj.f jN))],[],2⟩) hy ?_ ?_ ?_
 exact wk0 h0 [0,1]
 clear hy h
 rintro⟨aY,uN⟩ y h
 dsimp only[tw] at h
 refine AW.seq (ra hx ?_)
 refine cdh h rfl (fun qV h=>?_) (fun qV h=>?_)
 refine AW.skip (AW.seq (AW.block (rqd [70,69] hx fun K hK=>?_)))
 iterate 3 refine sbr ?_
 obtain⟨hc7,h⟩:=aA h
 have Rv:(aY).toNat<(oM).length:=by omega
 refine sbr ?_
 refine s1 (d:=dG aj ((oM)[(aY).toNat]!)) (i8 (c:=aj) (l:=oM) (n:=(aY).toNat) (o:=0) aQ Rv (eS _ _ rfl)) ?_
 iterate 2 refine sa ?_
 obtain⟨hc9,h⟩:=aA h
 have Tv:(aY).toNat<(aK).length:=by omega
 refine sbr ?_
 refine s1 (d:=dG aj ((aK)[(aY).toNat]!)) (i8 (c:=aj) (l:=aK) (n:=(aY).toNat) (o:=0) aQ Tv (eS _ _ rfl)) ?_
 refine cqb h Ka fun ta h=>?_
 refine cqb h Kb fun qW h=>?_
 refine nbr hK ?_
 refine rb hx ?_
 exact pel h h0 [0,1]
 exact AW.exit (per h h0 [0,1])
 refine lw0 ?_
 refine rar hx ?_
 exact AW.ret (rtv h)
def kw(aG:List am)(aP:List am):Int→Option (Int⊕(Bool⊕Unit)):=fun ew=>cnd (decide (ew<((aG).length:Int))) (gd (0≤ew∧ew<((aG).length:Int)) (gd (0≤ew∧ew<((aP).length:Int)) (cnd (decide (¬((aG)[(ew).toNat]! =(aP)[(ew).toNat]!))) (some (.inr (.inl false))) (some (.inl (i64.wrap (ew+(1:Int)))))))) (some (.inr (.inr ())))
def ls(aG:List am)(aP:List am):Option Bool:=cnd (decide (((aG).length:Int)≠((aP).length:Int))) (some false) (bnd (bt (kw aG aP) (0:Int)) fun y8=>match y8 with| .inl r=>some r| .inr ()=>some true)
theorem uT {aG:List am}{aP:List am}{r:Bool}(h:ls aG aP=some r):ar prog 60 [dL aj aG,dL aj aP] (dB r):=by
 refine bk (rs:=[.tmp 4]) (fun cx hx h0=>?_) func60
 unfold ls at h
 refine ra hx ?_
 refine AW.seq (ra hx ?_)
 refine cdh h rfl (fun fT h=>?_) (fun fT h=>?_)
 refine ra hx ?_
 exact AW.ret (rtv h)
 refine AW.skip (AW.seq (ra hx ?_))
 refine AW.block ?_
 obtain⟨y,hy,h⟩:=ae h
 refine lp (S:=Int) (X:=Bool⊕Unit) (fun ew=>[(0,dL aj aG),(1,dL aj aP),(5,dI .i64 ew)]) (fun ew=>⟨[],[],0⟩) (PS (PR [.tmp 4] fun r=>dB r) (PE cx (.exit 0) (fun ()=>[]) fun ()=>⟨[],[],0⟩)) hy ?_ ?_ ?_
 exact wk0 h0 []
 clear hy h
 rintro ew y h
 dsimp only[kw] at h
 refine AW.seq (ra hx ?_)
 refine cdh h rfl (fun xf h=>?_) (fun xf h=>?_)
 refine AW.skip (AW.seq (AW.block (rsd [] hx fun K hK=>?_)))
 iterate 2 refine sa ?_
 obtain⟨hc3,h⟩:=aA h
 have hn4:(ew).toNat<(aG).length:=by omega
 refine sbr ?_
 refine s1 (d:=dG aj ((aG)[(ew).toNat]!)) (i8 (c:=aj) (l:=aG) (n:=(ew).toNat) (o:=0) aQ hn4 (eS _ _ rfl)) ?_
 iterate 2 refine sa ?_
 obtain⟨hc5,h⟩:=aA h
 have hn6:(ew).toNat<(aP).length:=by omega
 refine sbr ?_
 refine s1 (d:=dG aj ((aP)[(ew).toNat]!)) (i8 (c:=aj) (l:=aP) (n:=(ew).toNat) (o:=0) aQ hn6 (eS _ _ rfl)) ?_
 refine s1 (xK tok 4 (by decide) HA aQ) ?_
 refine nl hK ?_
 refine cdh h rfl (fun ss h=>?_) (fun ss h=>?_)
 refine ra hx ?_
 refine AW.ret ?_
 cases h
 refine PS.r ⟨by nofun,PS.l (PR.i ?_)⟩
 exact rv1
 refine AW.skip (rb hx ?_)
 exact pel h h0 []
 exact AW.exit (peq h h0 [])
 rcases y with r|⟨⟩
 rintro ex tm' hp' ⟨rfl,hw⟩
 cases h
 exact hw
 refine lwr ?_
 refine ra hx ?_
 exact AW.ret (rtv h)
def iN(aG:ci)(aP:ci):Option Bool:=bnd (S:=Bool) (cnd (decide (aG.vKind=aP.vKind)) (bnd (ls aG.vX aP.vX) fun x2=>cnd x2 (bnd (ls aG.vY aP.vY) fun x5=>cnd x5 (bnd (ls aG.vRay aP.vRay) fun x8=>some (x8)) (some (false))) (some (false))) (some (false))) fun bn=>some bn
theorem zm {aG:ci}{aP:ci}{r:Bool}(h:iN aG aP=some r):ar prog 14 [dG jL aG,dG jL aP] (dB r):=by
 refine bk (rs:=[.tmp 4]) (fun cx hx h0=>?_) func14
 unfold iN at h
 refine rs hx fun K hK=>?_
 refine s1 (d:=.pt 0 0) fQ ?_
 refine s1 (d:=.pt 1 0) fQ ?_
 refine nbr hK ?_
 refine AW.seq ?_
 obtain⟨bn,hy,h⟩:=ae h
 refine jn ((PE cx .normal (fun bn=>[(4,dB bn)]) fun bn=>⟨[],[],0⟩) bn) ?_ ?_
 replace h:=hy
 refine rq hx fun K hK=>?_
 refine mbr ?_
 rcases aE h with⟨fT,h⟩|⟨fT,h⟩
 refine ga fT ?_
 refine gbr ?_
 refine ga fT ?_
 refine gbr ?_
 refine gcb h uT fun x2 h=>?_
 refine mbr ?_
 rcases aE h with⟨Gm,h⟩|⟨Gm,h⟩
 refine ga Gm ?_
 refine gbr ?_
 refine ga Gm ?_
 refine gbr ?_
 refine gcb h uT fun x5 h=>?_
 refine mbr ?_
 rcases aE h with⟨ss,h⟩|⟨ss,h⟩
 refine ga ss ?_
 refine gbr ?_
 refine ga ss ?_
 refine gbr ?_
 refine gcb h uT fun x8 h=>?_
 refine nbr hK ?_
 exact pe1 h h0 []
 refine nbr hK ?_
 exact pe1 h h0 []
 refine nbr hK ?_
 exact pe1 h h0 []
 refine nbr hK ?_
 exact pe1 h h0 []
 refine lw0 ?_
 exact AW.ret (rtv h)
theorem pG0 {α:Type}(c:Cd α)(a:α)(l:List E){z:Nat}(h:c.sz=z):((c.f a++l).drop 0).take z=c.f a:=by
 have hl:(c.f a).length=z:=(c.h a).trans h
 rw[rp,t0 (by omega),ii (by omega)]
theorem pG1 {α β:Type}(c:Cd α)(a:α)(k:Cd β)(b:β){o z:Nat}(h:c.sz=o)(h2:k.sz=z):((c.f a++k.f b).drop o).take z=k.f b:=by
 have hl:(c.f a).length=o:=(c.h a).trans h
 have hk:(k.f b).length=z:=(k.h b).trans h2
 rw[←hl,t3,ii (by omega)]
section
def Iq(l:List Nu)(n:Nat):Bool:=decide (l.length=n)&&l.all fun x=>au x&&decide (0≤bE x)
def oT(c x:List Nu):Nat→Nu
 |0=>nOf 0
 |i+1=>jw (oT c x i) (lX c[i]! x[i]!)
def cj(c x:List Nu):Nu:=if c.length=x.length then oT c x c.length else nuR none
def jt(A:List Nu)(nn i:Nat):List Nu:=(A.drop (i*nn)).take nn
def rE(A:List Nu)(m nn k:Nat):List Nu:=(List.range m).map fun i=>A[i*nn+k]!
def xq(lines:Nat→List Nu)(x wth:List Nu)(ok:Int→Bool):Bool:=(List.range wth.length).all fun i=>au (cj (lines i) x)&&ok (qH (cj (lines i) x) wth[i]!)
def kH(m nn:Nat)(A x b:List Nu):Bool:=Iq x nn&&xq (jt A nn) x b fun c=>decide (c≤0)
def qr(m nn:Nat)(A y c:List Nu):Bool:=Iq y m&&xq (rE A m nn) y c fun c=>decide (0≤c)
def oU(x:Nu)(s:Int):Bool:=au x&&decide (bE x=s)
def ln(m nn:Nat)(A B C:List Nu)(a:Ans):Bool:=
 if a.kind=1 then decide (a.ray.length=0)&&kH m nn A a.x B&&qr m nn A a.y C&&(au (cj C a.x)&&decide (cj C a.x=cj a.y B))
 else if a.kind=2 then decide (a.x.length+a.ray.length=0)&&qr m nn A a.y (List.replicate nn (nOf 0))&&oU (cj a.y B) (-1)
 else if a.kind=3 then decide (a.y.length=0)&&kH m nn A a.x B&&kH m nn A a.ray (List.replicate m (nOf 0))&&oU (cj C a.ray) 1
 else false
theorem nP {x y:Nu}(hx:au x=true)(hy:au y=true):(qH x y≤0↔rv x≤rv y)∧(0≤qH x y↔rv y≤rv x)∧(qH x y<0↔rv x<rv y)∧(qH x y=0↔rv x=rv y):=by
 rw[Eu,bF.1 hx,bF.1 hy]
 unfold ocmp
 dsimp only
 by_cases h1:rv x<rv y
 ·rw[ah h1];grind
 ·rw[ai h1]
  by_cases h2:rv y<rv x
  ·rw[ah h2];grind
  ·rw[ai h2];grind
theorem Qa {c x:List Nu}{n:Nat}:au (oT c x n)=true→rv (oT c x n)=aT n fun i=>rv c[i]! *rv x[i]! :=by
 induction n with
 |zero=>intro _;exact of0.2
 |succ n ih=>
  intro h
  rw[show oT c x (n+1)=jw (oT c x n) (lX c[n]! x[n]!) from rfl] at h ⊢
  obtain⟨h1,h2⟩:=xg h
  obtain⟨h3,h4⟩:=T7 h2
  rw[IB h1 h2 h,IA h3 h4 h2,ih h1]
  rfl
theorem lj {c x:List Nu}(h:au (cj c x)=true):c.length=x.length∧rv (cj c x)=aT c.length fun i=>rv c[i]! *rv x[i]! :=by
 unfold cj at h ⊢
 split at h
 ·rename_i e
  rw[ah e]
  exact⟨e,Qa h⟩
 ·exfalso
  have:au (nuR none)=false:=by rw[eK,oS qe];rfl
  rw[this] at h;cases h
theorem KF {l:List Nu}{n:Nat}(h:Iq l n=true):l.length=n∧∀i,i<n→au l[i]! =true∧0≤rv l[i]! :=by
 unfold Iq at h
 rw[bK] at h
 have hl:=bq h.1
 refine⟨hl,fun i hi=>?_⟩
 have:=a7.1 h.2 l[i]! (by rw[bT l i (by omega)];exact n7 _)
 rw[bK] at this
 refine⟨this.1,?_⟩
 have h2:=bq this.2
 have:=r7 this.1
 grind
section
variable {m nn:Nat} {A B C x y b c:List Nu}
theorem qG(hA:A.length=m*nn){i k:Nat}(hi:i<m)(hk:k<nn):(jt A nn i).length=nn∧(jt A nn i)[k]! =A[i*nn+k]! :=by
 have hle:i*nn+nn≤A.length:=by
  rw[hA]
  calc i*nn+nn=(i+1)*nn:=by rw[bP];omega
   _≤m*nn:=cz _ hi
 unfold jt
 refine⟨by rw[eu,fh];omega,cZ ?_⟩
 rw[gU,ah hk,nQ]
 exact uz (by omega)
theorem A6 {i k:Nat}(hi:i<m):(rE A m nn k)[i]! =A[i*nn+k]! :=cZ (bS _ hi)
theorem vE(hA:A.length=m*nn)(hb:b.length=m)(hgb:∀i,i<m→au b[i]! =true)(h:kH m nn A x b=true):x.length=nn∧(∀k,k<nn→au x[k]! =true∧0≤rv x[k]!)∧∀i,i<m→aT nn (fun k=>rv A[i*nn+k]! *rv x[k]!)≤rv b[i]! :=by
 unfold kH at h
 rw[bK] at h
 obtain⟨h1,h2⟩:=KF h.1
 refine⟨h1,h2,fun i hi=>?_⟩
 have h3:=a7.1 h.2 i (iq.2 (by omega))
 rw[bK] at h3
 obtain⟨h4,h5⟩:=lj h3.1
 have h6:=(nP h3.1 (hgb i hi)).1.1 (bq h3.2)
 rw[h5] at h6
 by_cases h0:nn=0
 ·subst h0
  have:(jt A 0 i).length=0:=by unfold jt;simp
  rw[this] at h6;exact h6
 ·rw[(qG hA hi (k:=0) (by omega)).1] at h6
  rwa[ay (g:=fun k=>rv A[i*nn+k]! *rv x[k]!) fun k hk=>by rw[(qG hA hi hk).2]] at h6
theorem w8(hc:c.length=nn)(Pb:∀k,k<nn→au c[k]! =true)(h:qr m nn A y c=true):y.length=m∧(∀i,i<m→au y[i]! =true∧0≤rv y[i]!)∧∀k,k<nn→rv c[k]!≤aT m (fun i=>rv A[i*nn+k]! *rv y[i]!):=by
 unfold qr at h
 rw[bK] at h
 obtain⟨h1,h2⟩:=KF h.1
 refine⟨h1,h2,fun k hk=>?_⟩
 have h3:=a7.1 h.2 k (iq.2 (by omega))
 rw[bK] at h3
 obtain⟨h4,h5⟩:=lj h3.1
 have h6:=(nP h3.1 (Pb k hk)).2.1.1 (bq h3.2)
 rw[h5,show (rE A m nn k).length=m by simp[rE]] at h6
 rwa[ay (g:=fun i=>rv A[i*nn+k]! *rv y[i]!) fun i hi=>by rw[A6 hi]] at h6
end
theorem sumN_le {f g:Nat→Rat}{n:Nat}(h:∀t,t<n→f t≤g t):aT n f≤aT n g:=by
 have h1:=w5 (f:=fun t=>g t - f t) (n:=n) fun t ht=>by have:=h t ht;grind
 rw[ue] at h1
 grind
end
section
theorem pAdd(x y:Nu):iz (nv x) (nv y)=some (nv (jw x y)):=by rw[oW];exact Oh x.2 y.2
theorem pMul(x y:Nu):iy (nv x) (nv y)=some (nv (lX x y)):=by rw[r9];exact Og x.2 y.2
theorem ON(x:Nu):aS (nv x)=some (au x):=by rw[eK];exact iV x.2
theorem Sv(x:Nu):im (nv x)=some (bE x):=by rw[BU];exact VY x.2
theorem pCmp(x y:Nu):fL (nv x) (nv y)=some (qH x y):=by rw[Eu];exact VZ x.2 y.2
theorem pOf {n:Int}(h:-2≤n∧n≤2):qc n=some (nv (nOf n)):=G_rOf (by omega) (by omega)
theorem pBad:fe=some (nv (nuR none)):=xO
theorem mget {l:List Nu}{i:Nat}(h:i<l.length):(l.map nv)[i]! =nv l[i]! :=by
 rw[bT _ _ (by rw[bg];exact h),Fy,bT l i h]
theorem sd {l:List Nu}{i:Nat}(h:i<l.length):(l.map nv)[((i:Nat):Int).toNat]! =nv l[i]! :=by
 rw[show ((i:Nat):Int).toNat=i by omega];exact mget h
theorem MK {x y:Nu}:nv x=nv y↔x=y:=⟨fun h=>Subtype.ext h,fun h=>by rw[h]⟩
theorem RI {s:Int}(h1:0≤s)(h2:s≤18446744073709551614):decide (i64.wrap s=0)=decide (s=0):=by
 rw[IntKind.wrap_i64]
 by_cases h:s=0
 ·rw[aB h,det_]
 ·rw[bm h,def_]
section
variable {R:Type}
theorem rf(b x:Bool):cnd b (some x) (some false)=some (b&&x):=by cases b <;> rfl
theorem cOr(b x:Bool):cnd b (some true) (some x)=some (b||x):=by cases b <;> rfl
theorem cF(x y:Option R):cnd false x y=y:=rfl
theorem cT(x y:Option R):cnd true x y=x:=rfl
theorem rN {n:Nat}(hn:n≤9223372036854775807)(ok:Nat→Bool)(res:Nat→R){b:Int→Option (Int⊕(R⊕Unit))}(h:∀i:Nat,i<n→b i=cnd (!ok i) (some (.inr (.inl (res i)))) (some (.inl (i64.wrap ((i:Int)+(1:Int))))))(he:b n=some (.inr (.inr ()))):
  ∃y,bt b (0:Int)=some y∧match y with| .inl r=>∃i,i<n∧ok i=false∧r=res i| .inr _=>(List.range n).all ok=true:=by
 refine wh (b:=b) (fun i:Int=>0≤i∧i≤n∧∀j:Nat,j<i.toNat→ok j=true) (fun i=>(n - i).toNat) _ (fun i ⟨h1,h2,h3⟩=>?_) 0 ⟨by omega,by omega,fun j hj=>absurd hj (by simp)⟩
 by_cases hi:i<n
 ·obtain⟨k,rfl⟩:∃k:Nat,i=k:=⟨i.toNat,by omega⟩
  have hk:k<n:=by omega
  rw[h k hk]
  cases hg:ok k with
  |false=>exact .inr ⟨.inl (res k),rfl,k,hk,hg,rfl⟩
  |true=>
   refine .inl ⟨(k:Int)+1,by rw[eh (by omega) (by omega)];rfl,⟨by omega,by omega,fun j hj=>?_⟩,by omega⟩
   rcases d9 j k with h4|h4
   ·exact h3 j (by omega)
   ·obtain rfl:j=k:=by omega
    exact hg
 ·obtain rfl:i=n:=by omega
  exact .inr ⟨.inr (),he,a7.2 fun j hj=>h3 j (by have:=iq.1 hj;omega)⟩
theorem uj {n:Nat}(hn:n≤9223372036854775807)(ok:Nat→Bool){b:Int→Option (Int⊕(Bool⊕Unit))}(h:∀i:Nat,i<n→b i=cnd (!ok i) (some (.inr (.inl false))) (some (.inl (i64.wrap ((i:Int)+(1:Int))))))(he:b n=some (.inr (.inr ()))):
  (bnd (bt b (0:Int)) fun y=>match y with| .inl r=>some r| .inr ()=>some true)=some ((List.range n).all ok):=by
 obtain⟨y,hy,hp⟩:=rN hn ok (fun _=>false) h he
 rw[hy]
 cases y with
 |inl r=>
  obtain⟨i,h1,h2,rfl⟩:=hp
  have:(List.range n).all ok=false:=by rw[NR];exact⟨i,iq.2 h1,by rw[h2];simp⟩
  rw[this];rfl
 |inr u=>rw[hp];rfl
end
theorem HG {l:List Nu}(p:Nu→Bool):(List.range l.length).all (fun i=>p l[i]!)=l.all p:=by
 rw[Fd,a7,a7]
 constructor
 ·intro h x hx
  obtain⟨i,hi,rfl⟩:=xy.1 hx
  have:=h i (iq.2 hi)
  rwa[bT l i hi] at this
 ·intro h i hi
  have hi:=iq.1 hi
  rw[bT l i hi]
  exact h _ (n7 _)
def GH(rows R Cc:Int)(A:List Nu):Bool:=decide (0≤R)&&(decide (0≤Cc)&&(decide (R≤rows)&&(decide (Cc≤2000)&&(decide ((A.length:Int)=R*Cc)&&A.all au))))
def pS(R Cc:Int)(A B C:List Nu):Bool:=GH 2000 R Cc A&&(decide ((B.length:Int)=R)&&(decide ((C.length:Int)=Cc)&&(B.all au&&C.all au)))
def qq(R Cc:Int)(A B:List Nu):Bool:=GH 1000 R Cc A&&(decide ((B.length:Int)=R)&&B.all au)
section
variable {R Cc:Int} {A B C:List Nu}
theorem FQ {rows:Int}(hr:rows≤1000000)(hA:A.length≤1000000):f7 ⟨R,Cc,A.map nv⟩ rows=some (GH rows R Cc A):=by
 unfold f7 GH
 dsimp only
 rw[uQ hA,bg]
 by_cases h1:0≤R
 ·by_cases h2:0≤Cc
  ·by_cases h3:R≤rows
   ·by_cases h4:Cc≤2000
    ·have hmul:0≤R*Cc∧R*Cc≤1000000*2000:=⟨Int.mul_nonneg h1 h2,Int.mul_le_mul (by omega) h4 h2 (by omega)⟩
     rw[eh (by omega) (by omega)]
     simp only[ab,rf]
    ·simp only[bm h4,cF,rf,ab,vI,xx]
   ·simp only[bm h3,cF,rf,ab,vI,xx]
  ·simp only[bm h2,cF,rf,ab,vI,xx]
 ·simp only[bm h1,cF,rf,ab,vI,xx]
theorem JN(hA:A.length≤1000000)(hB:B.length≤1000000)(hC:C.length≤1000000):g7 ⟨⟨R,Cc,A.map nv⟩,B.map nv,C.map nv⟩=some (pS R Cc A B C):=by
 unfold g7 pS
 dsimp only
 rw[FQ (by omega) hA,uQ hB,uQ hC,bg,bg]
 simp only[ab,rf]
theorem FP(hA:A.length≤1000000)(hB:B.length≤1000000):f6 ⟨R,Cc,A.map nv⟩ (B.map nv)=some (qq R Cc A B):=by
 unfold f6 qq
 dsimp only
 rw[FQ (by omega) hA,uQ hB,bg]
 simp only[ab,rf]
theorem tJ {c x:List Nu}(hc:c.length≤1000000∨x.length≤1000000):b8 (c.map nv) (x.map nv)=some (nv (cj c x)):=by
 unfold b8 cj
 rw[bg,bg]
 by_cases h:c.length=x.length
 ·rw[cr _ _,ah h,pOf (by omega),ab]
  have key:=uk (b:=ig (c.map nv) (x.map nv)) (fun i:Nat=>((i:Int),nv (oT c x i))) 0 c.length (nv (oT c x c.length)) (cy _) (fun i _ hi=>?_) ?_
  ·rw[show (((0:Nat):Int),nv (oT c x 0))=((0:Int),nv (nOf 0)) from rfl] at key
   rw[key];rfl
  ·unfold ig
   dsimp only
   rw[bg,bg,cH _ _,aC,aC,sd hi,sd (by omega),pMul,ab,pAdd,ab,eh (by omega) (by omega)]
   rfl
  ·unfold ig
   dsimp only
   rw[bg,cr _ _]
 ·rw[cH _ _,ai h,pBad];rfl
theorem vU {l:List Nu}{n:Nat}(hl:l.length≤9223372036854775807):ep (l.map nv) n=some (Iq l n):=by
 have h1:∀x,fE (nv x)=some (!(au x&&decide (0≤bE x))):=fun x=>by
  unfold fE
  rw[ON,Sv]
  simp only[ab,cOr]
  congr 1
  cases au x
  ·rfl
  ·by_cases h:0≤bE x
   ·rw[aB h,def_];rfl
   ·rw[bm h,det_];rfl
 obtain⟨y,hy,hp⟩:=rN (b:=aN (l.map nv)) (n:=l.length) (by omega) (fun i=>au l[i]! &&decide (0≤bE l[i]!)) (fun i=>(i:Int)) (fun i hi=>by
  unfold aN
  rw[bg,cH _ _,aC,sd hi,h1,ab]) (by
  unfold aN
  rw[bg,cr _ _])
 have h2:aO (l.map nv)=some (!(l.all fun x=>au x&&decide (0≤bE x))):=by
  unfold aO bj
  rw[hy]
  rw[HG (fun x=>au x&&decide (0≤bE x))] at hp
  cases y with
  |inl r=>
   obtain⟨i,h3,h4,rfl⟩:=hp
   have:(l.all fun x=>au x&&decide (0≤bE x))=false:=by rw[NR];exact⟨l[i]!,by rw[bT l i h3];exact n7 _,by rw[h4];simp⟩
   rw[this]
   show some (decide ((0:Int)≤(i:Int)))=_
   rw[det_];rfl
  |inr u=>rw[hp];rfl
 unfold ep Iq
 rw[h2,bg]
 simp only[ab,rf,Bool.not_not]
 congr 2
 by_cases h:l.length=n
 ·rw[aB h,det_]
 ·rw[bm h,def_]
end
end
section
section
variable {m nn:Nat} {A B C x y b:List Nu}
theorem zH {i:Nat}(hm:m≤2000)(hn:nn≤2000)(hi:i<m):i*nn+nn≤m*nn∧m*nn≤2000*2000∧(i+1)*nn=i*nn+nn:=by
 have h:(i+1)*nn=i*nn+nn:=by rw[bP];omega
 refine⟨?_,kL hm hn,h⟩
 rw[←h];exact cz _ hi
theorem PP(hA:A.length=m*nn)(hm:m≤2000)(hn:nn≤2000){i:Nat}(hi:i<m):ji ⟨m,nn,A.map nv⟩ i=some ((jt A nn i).map nv):=by
 obtain⟨h1,h2,h3⟩:=zH hm hn hi
 unfold ji
 dsimp only
 have e1:i64.wrap ((i:Int)*(nn:Int))=((i*nn:Nat):Int):=by rw[←ir,eh (by omega) (by omega)]
 have e2:i64.wrap ((i64.wrap ((i:Int)+1))*(nn:Int))=((i*nn+nn:Nat):Int):=by
  rw[eh (z:=(i:Int)+1) (by omega) (by omega),show (i:Int)+1=((i+1:Nat):Int) by omega,←ir,h3,eh (by omega) (by omega)]
 rw[e1,e2,bg,aC]
 unfold zy jt
 rw[←xD,←vP]
 congr 3
 congr 1;omega
theorem Oe(hA:A.length=m*nn)(hm:m≤2000)(hn:nn≤2000){k:Nat}(hk:k<nn):iM ⟨m,nn,A.map nv⟩ k=some ((rE A m nn k).map nv):=by
 unfold iM
 have key:=uk (b:=fU ⟨m,nn,A.map nv⟩ k) (fun i:Nat=>(((List.range i).map fun j=>A[j*nn+k]!).map nv,(i:Int))) 0 m ((rE A m nn k).map nv) (cy _) (fun i _ hi=>?_) ?_
 ·rw[show ((((List.range 0).map fun j=>A[j*nn+k]!).map nv,((0:Nat):Int)))=(([]:List am),(0:Int)) from rfl] at key
  rw[key];rfl
 ·obtain⟨h1,h2,h3⟩:=zH hm hn hi
  have e1:i64.wrap ((i64.wrap ((i:Int)*(nn:Int)))+(k:Int))=((i*nn+k:Nat):Int):=by
   have e0:i64.wrap ((i:Int)*(nn:Int))=((i*nn:Nat):Int):=by rw[←ir,eh (by omega) (by omega)]
   rw[e0,eh (by omega) (by omega)];omega
  unfold fU
  dsimp only
  rw[e1,cH _ _,aC (by rw[bg];omega),sd (by omega),aC (by simp;omega),eh (by omega) (by omega),wo,iZ,iZ]
  rfl
 ·unfold fU
  dsimp only
  rw[cr _ _]
  rfl
theorem Il(A:List Nu)(nn i:Nat):(jt A nn i).length≤nn:=by unfold jt;rw[eu];omega
theorem cmpX {ok:Int→Bool}(lines:Nat→List Nu)(i:Nat)(v w:Nu)(hv:v=cj (lines i) x)(hw:w=b[i]!){f:Int→Option Bool}(hf:∀c,f c=some (ok c)):
  (bnd (S:=Bool) (bnd (aS (nv v)) fun x8=>cnd (!x8) (some true) (bnd (fL (nv v) (nv w)) fun ta=>bnd (f ta) fun qW=>some (!qW))) fun nk=>cnd nk (some (.inr (.inl false))) (some (.inl (i64.wrap ((i:Int)+(1:Int))))))=(cnd (!(au (cj (lines i) x)&&ok (qH (cj (lines i) x) b[i]!))) (some (.inr (.inl false))) (some (.inl (i64.wrap ((i:Int)+(1:Int))))):Option (Int⊕(Bool⊕Unit))):=by
 subst hv hw
 rw[ON,pCmp]
 simp only[ab,hf]
 cases au (cj (lines i) x) <;> cases ok (qH (cj (lines i) x) b[i]!) <;> rfl
theorem JM(hA:A.length=m*nn)(hm:m≤2000)(hn:nn≤2000)(hb:b.length≤m):bf ⟨m,nn,A.map nv⟩ (x.map nv) (b.map nv)=some (xq (jt A nn) x b fun c=>decide (c≤0)):=by
 unfold bf xq
 refine uj (by omega) (fun i=>au (cj (jt A nn i) x)&&decide (qH (cj (jt A nn i) x) b[i]!≤0)) (fun i hi=>?_) ?_
 ·unfold bA
  have:=Il A nn i
  rw[bg,cH _ _,aC,PP hA hm hn (by omega),ab,tJ (.inl (by omega)),ab,sd hi]
  exact cmpX (ok:=fun c=>decide (c≤0)) (jt A nn) i _ _ rfl rfl fun c=>rfl
 ·unfold bA
  rw[bg,cr _ _]
theorem G1(hA:A.length=m*nn)(hm:m≤2000)(hn:nn≤2000)(hb:b.length≤m):be ⟨m,nn,A.map nv⟩ (x.map nv) (b.map nv)=some (xq (jt A nn) x b fun c=>decide (c=0)):=by
 unfold be xq
 refine uj (by omega) (fun i=>au (cj (jt A nn i) x)&&decide (qH (cj (jt A nn i) x) b[i]! =0)) (fun i hi=>?_) ?_
 ·unfold bx
  have:=Il A nn i
  rw[bg,cH _ _,aC,PP hA hm hn (by omega),ab,tJ (.inl (by omega)),ab,sd hi]
  exact cmpX (ok:=fun c=>decide (c=0)) (jt A nn) i _ _ rfl rfl fun c=>rfl
 ·unfold bx
  rw[bg,cr _ _]
theorem zh(hA:A.length=m*nn)(hm:m≤2000)(hn:nn≤2000)(hb:b.length≤nn):aM ⟨m,nn,A.map nv⟩ (x.map nv) (b.map nv)=some (xq (rE A m nn) x b fun c=>decide (0≤c)):=by
 unfold aM xq
 refine uj (by omega) (fun i=>au (cj (rE A m nn i) x)&&decide (0≤qH (cj (rE A m nn i) x) b[i]!)) (fun i hi=>?_) ?_
 ·unfold bo
  have:(rE A m nn i).length=m:=by simp[rE]
  rw[bg,cH _ _,aC,Oe hA hm hn (by omega),ab,tJ (.inl (by omega)),ab,sd hi]
  exact cmpX (ok:=fun c=>decide (0≤c)) (rE A m nn) i _ _ rfl rfl fun c=>rfl
 ·unfold bo
  rw[bg,cr _ _]
theorem HZ(hA:A.length=m*nn)(hm:m≤2000)(hn:nn≤2000)(hb:b.length≤m)(hx:x.length≤9223372036854775807)(B C:List am):dY (x.map nv) (b.map nv) ⟨⟨m,nn,A.map nv⟩,B,C⟩=some (kH m nn A x b):=by
 unfold dY kH
 dsimp only
 rw[vU hx,JM hA hm hn hb]
 simp only[ab,rf]
theorem LZ(hA:A.length=m*nn)(hm:m≤2000)(hn:nn≤2000)(hb:b.length≤nn)(hy:y.length≤9223372036854775807)(k:Int)(xs rs B C:List am):eL (b.map nv) ⟨k,xs,y.map nv,rs⟩ ⟨⟨m,nn,A.map nv⟩,B,C⟩=some (qr m nn A y b):=by
 unfold eL qr
 dsimp only
 rw[vU hy,zh hA hm hn hb]
 simp only[ab,rf]
theorem LY(v:Nu)(s:Int):f5 (nv v) s=some (oU v s):=by
 unfold f5 oU
 rw[ON,Sv]
 simp only[ab,rf]
theorem JL {n:Nat}(h:n≤2000):fJ n=some ((List.replicate n (nOf 0)).map nv):=by
 unfold fJ
 rw[ifp_,Fx]
 congr 2
end
end
section
def zR(a:Ans):ci:=⟨a.kind,a.x.map nv,a.y.map nv,a.ray.map nv⟩
theorem cN(b x:Bool):cnd b (some false) (some x)=some (!b&&x):=by cases b <;> rfl
structure FR(a:Ans):Prop where
 x:a.x.length≤9223372036854775807
 y:a.y.length≤9223372036854775807
 ray:a.ray.length≤9223372036854775807
section
variable {m nn:Nat} {A B C:List Nu} {a:Ans}
theorem Rk(hA:A.length=m*nn)(hm:m≤2000)(hn:nn≤2000)(hB:B.length=m)(hC:C.length=nn)(ha:FR a):jE ⟨⟨m,nn,A.map nv⟩,B.map nv,C.map nv⟩ (zR a)=some (ln m nn A B C a):=by
 have hx:=ha.x
 have hy:=ha.y
 have hr:=ha.ray
 unfold jE ln zR
 dsimp only
 rw[HZ hA hm hn (by omega) (by omega),LZ hA hm hn (by omega) (by omega),tJ (.inl (by omega)),tJ (.inr (by omega)),JL hn,JL hm,tJ (.inl (by omega))]
 simp only[ab,LY,ON]
 rw[LZ hA hm hn (by simp) (by omega),HZ hA hm hn (by simp) (by omega)]
 simp only[ab,bg]
 by_cases h1:a.kind=1
 ·rw[cH _ _ h1,ah h1]
  simp only[rf,cOr,cN,ab,Bool.not_or,Bool.not_not,MK]
  congr 2
  rw[Jt]
  congr 1
  by_cases h:a.ray.length=0
  ·rw[aB h,def_];rfl
  ·rw[bm h,det_];rfl
 ·rw[cr _ _ h1,ai h1]
  by_cases h2:a.kind=2
  ·rw[cH _ _ h2,ah h2]
   simp only[rf,ab,Jt]
   rw[RI (by omega) (by omega)]
   congr 2
   by_cases h:a.x.length+a.ray.length=0
   ·rw[aB h,det_]
   ·rw[bm h,def_]
  ·rw[cr _ _ h2,ai h2]
   by_cases h3:a.kind=3
   ·rw[cH _ _ h3,ah h3]
    simp only[rf,ab,Jt]
    congr 2
    by_cases h:a.y.length=0
    ·rw[aB h,det_]
    ·rw[bm h,def_]
   ·rw[cr _ _ h3,ai h3]
theorem zp {R Cc:Int}(h:pS R Cc A B C=true):∃m nn:Nat,R=m∧Cc=nn∧m≤2000∧nn≤2000∧A.length=m*nn∧B.length=m∧C.length=nn∧A.all au=true∧B.all au=true∧C.all au=true:=by
 unfold pS GH at h
 simp only[bK,sH] at h
 obtain⟨⟨h1,h2,h3,h4,h5,h6⟩,h7,h8,h9,yw⟩:=h
 refine⟨R.toNat,Cc.toNat,by omega,by omega,by omega,by omega,?_,by omega,by omega,h6,h9,yw⟩
 have e1:R=(R.toNat:Int):=by omega
 have e2:Cc=(Cc.toNat:Int):=by omega
 rw[e1,e2,←ir] at h5
 omega
def vr(R Cc:Int)(A B C:List Nu)(a:Ans):Int:=if pS R Cc A B C then (if ln R.toNat Cc.toNat A B C a then 0 else 250) else 1
theorem PQ {R Cc:Int}(hA:A.length≤1000000)(hB:B.length≤1000000)(hC:C.length≤1000000)(ha:FR a):jj ⟨⟨R,Cc,A.map nv⟩,B.map nv,C.map nv⟩ (zR a)=some (vr R Cc A B C a):=by
 unfold jj vr
 rw[JN hA hB hC,ab]
 cases hv:pS R Cc A B C with
 |false=>rfl
 |true=>
  obtain⟨m,nn,rfl,rfl,hm,hn,h1,h2,h3,_⟩:=zp hv
  rw[Rk h1 hm hn h2 h3 ha]
  show cnd (!(ln m nn A B C a)) (some (250:Int)) (some (0:Int))=some (if ln m nn A B C a=true then 0 else 250)
  cases ln m nn A B C a <;> rfl
def xm(m nn:Nat)(A B:List Nu)(a:Ans):Bool:=
 if a.kind=1 then decide (a.y.length+a.ray.length=0)&&(Iq a.x nn&&xq (jt A nn) a.x B fun c=>decide (c=0))
 else if a.kind=2 then decide (a.x.length+a.ray.length=0)&&(decide (a.y.length=m)&&(a.y.all au&&(xq (rE A m nn) a.y (List.replicate nn (nOf 0)) (fun c=>decide (0≤c))&&oU (cj a.y B) (-1))))
 else false
def o9(R Cc:Int)(A B:List Nu)(a:Ans):Int:=if qq R Cc A B then (if xm R.toNat Cc.toNat A B a then 0 else 250) else 1
theorem CN {R Cc:Int}(h:qq R Cc A B=true):∃m nn:Nat,R=m∧Cc=nn∧m≤1000∧nn≤2000∧A.length=m*nn∧B.length=m∧A.all au=true∧B.all au=true:=by
 unfold qq GH at h
 simp only[bK,sH] at h
 obtain⟨⟨h1,h2,h3,h4,h5,h6⟩,h7,h9⟩:=h
 refine⟨R.toNat,Cc.toNat,by omega,by omega,by omega,by omega,?_,by omega,h6,h9⟩
 have e1:R=(R.toNat:Int):=by omega
 have e2:Cc=(Cc.toNat:Int):=by omega
 rw[e1,e2,←ir] at h5
 omega
theorem rJ {R Cc:Int}(hA:A.length≤1000000)(hB:B.length≤1000000)(ha:FR a):de ⟨R,Cc,A.map nv⟩ (B.map nv) (zR a)=some (o9 R Cc A B a):=by
 have hx:=ha.x
 have hy:=ha.y
 have hr:=ha.ray
 unfold de o9
 rw[FP hA hB,ab]
 cases hv:qq R Cc A B with
 |false=>rfl
 |true=>
  obtain⟨m,nn,rfl,rfl,hm,hn,h1,h2,_⟩:=CN hv
  have key:∀(e:Option Bool),e=some (xm m nn A B a)→(cnd (!true) (some (1:Int)) (bnd e fun eF=>cnd (!eF) (some (250:Int)) (some (0:Int))))=some (if true=true then (if xm ((m:Int)).toNat ((nn:Int)).toNat A B a=true then 0 else 250) else 1):=fun e he=>by
   rw[he]
   show cnd (!(xm m nn A B a)) (some (250:Int)) (some (0:Int))=some (if xm m nn A B a=true then 0 else 250)
   cases xm m nn A B a <;> rfl
  refine key _ ?_
  unfold xm zR
  dsimp only
  simp only[bg]
  by_cases k1:a.kind=1
  ·rw[cH _ _ k1,ah k1,vU (by omega),G1 h1 (by omega) hn (by omega)]
   simp only[rf,ab]
   rw[RI (by omega) (by omega)]
   congr 2
   by_cases h:a.y.length+a.ray.length=0
   ·rw[aB h,det_]
   ·rw[bm h,def_]
  ·rw[cr _ _ k1,ai k1]
   by_cases k2:a.kind=2
   ·rw[cH _ _ k2,ah k2,JL hn,RI (by omega) (by omega)]
    by_cases h:a.x.length+a.ray.length=0
    ·rw[aB h,cH _ _]
     by_cases h4:a.y.length=m
     ·rw[aB h4,cH _ _,uQ (by omega),tJ (.inr (by omega))]
      simp only[ab,LY]
      rw[zh h1 (by omega) hn (by simp)]
      simp only[rf,ab,Fs]
     ·rw[bm h4,cr _ _];rfl
    ·rw[bm h,cr _ _];rfl
   ·rw[cr _ _ k2,ai k2]
end
theorem qGood(x:Nu):fF (nv x)=some (au x):=by rw[eK];exact R_Good x.2
theorem VC {l:List Nu}(hl:l.length≤9223372036854775807):mC (l.map nv)=some (l.all au):=by
 unfold mC
 rw[←HG]
 refine uj (by omega) (fun i=>au l[i]!) (fun i hi=>?_) ?_
 ·unfold o6
  rw[bg,cH _ _,aC,sd hi,qGood,ab]
 ·unfold o6
  rw[bg,cr _ _]
section
variable {R Cc:Int} {A B C:List Nu}
theorem VD {rows:Int}(hr:rows≤1000000)(hA:A.length≤9223372036854775807):mD ⟨R,Cc,A.map nv⟩ rows 2000=some (GH rows R Cc A):=by
 unfold mD GH
 dsimp only
 rw[VC hA,bg]
 by_cases h1:0≤R
 ·by_cases h2:0≤Cc
  ·by_cases h3:R≤rows
   ·by_cases h4:Cc≤2000
    ·have hmul:0≤R*Cc∧R*Cc≤1000000*2000:=⟨Int.mul_nonneg h1 h2,Int.mul_le_mul (by omega) h4 h2 (by omega)⟩
     rw[eh (by omega) (by omega)]
     simp only[ab,rf]
    ·simp only[bm h4,cF,rf,ab,vI,xx]
   ·simp only[bm h3,cF,rf,ab,vI,xx]
  ·simp only[bm h2,cF,rf,ab,vI,xx]
 ·simp only[bm h1,cF,rf,ab,vI,xx]
theorem R_Valid(hA:A.length≤9223372036854775807)(hB:B.length≤9223372036854775807)(hC:C.length≤9223372036854775807):nM ⟨⟨R,Cc,A.map nv⟩,B.map nv,C.map nv⟩=some (pS R Cc A B C):=by
 unfold nM pS
 dsimp only
 rw[VD (by omega) hA,VC hB,VC hC,bg,bg]
 simp only[ab,rf]
theorem Od {a b:List Nu}(ha:a.length≤9223372036854775807):ls (a.map nv) (b.map nv)=some (decide (a=b)):=by
 unfold ls
 rw[bg,bg]
 by_cases h:a.length=b.length
 ·rw[cr _ _]
  have:=uj (b:=kw (a.map nv) (b.map nv)) (n:=a.length) (by omega) (fun i=>decide (a[i]! =b[i]!)) (fun i hi=>by
   unfold kw
   rw[bg,bg,cH _ _,aC,aC,sd hi,sd (by omega)]
   congr 1
   by_cases h2:a[i]! =b[i]!
   ·rw[aB h2,bm (by rw[MK];exact fun h3=>h3 h2)];rfl
   ·rw[bm h2,aB (by rw[MK];exact h2)];rfl) (by
   unfold kw
   rw[bg,cr _ _])
  refine this.trans ?_
  congr 1
  rw[Fd,a7,sH]
  constructor
  ·intro h2
   refine Fz h fun i h3 h4=>?_
   have:=bq (h2 i (iq.2 h3))
   rwa[bT a i h3,bT b i h4] at this
  ·rintro rfl i _
   exact aB rfl
 ·rw[cH _ _,bm (fun e=>h (by rw[e]))]
theorem JK {a b:Ans}(ha:FR a):iN (zR a) (zR b)=some (decide (a=b)):=by
 have hx:=ha.x
 have hy:=ha.y
 have hr:=ha.ray
 unfold iN zR
 dsimp only
 rw[Od (by omega),Od (by omega),Od (by omega)]
 simp only[ab,rf]
 congr 1
 obtain⟨k,x,y,r⟩:=a
 obtain⟨k',x',y',r'⟩:=b
 rw[Fd]
 simp only[bK,sH,Ans.mk.injEq]
end
end
def kD(eE:List am)(ny:Int):Int→Option (Int⊕(Bool⊕Unit)):=fun aD=>cnd (decide (aD<((eE).length:Int))) (bnd (S:=Bool) (gd (0≤aD∧aD<((eE).length:Int)) (bnd (fF ((eE)[(aD).toNat]!)) fun x4=>cnd (!x4) (some (true)) (gd (0≤aD∧aD<((eE).length:Int)) (bnd (gv ((eE)[(aD).toNat]!.vN)) fun x9=>cnd (decide (ny<x9)) (some (true)) (gd (0≤aD∧aD<((eE).length:Int)) (bnd (gv ((eE)[(aD).toNat]!.vD)) fun qB=>some (decide (ny<qB)))))))) fun aY=>cnd aY (some (.inr (.inl false))) (some (.inl (i64.wrap (aD+(1:Int)))))) (some (.inr (.inr ())))
def iA(eE:List am)(ny:Int):Option Bool:=bnd (bt (kD eE ny) (0:Int)) fun y18=>match y18 with| .inl r=>some r| .inr ()=>some true
theorem nH {eE:List am}{ny:Int}{r:Bool}(h:iA eE ny=some r):ar prog 27 [dL aj eE,dI .i64 ny] (dB r):=by
 refine bk (rs:=[.tmp 4]) (fun cx hx h0=>?_) func27
 unfold iA at h
 refine ra hx ?_
 refine AW.seq (ra hx ?_)
 refine AW.block ?_
 obtain⟨y,hy,h⟩:=ae h
 refine lp (S:=Int) (X:=Bool⊕Unit) (fun aD=>[(0,dL aj eE),(1,dI .i64 ny),(5,dI .i64 aD)]) (fun aD=>⟨[],[],0⟩) (PS (PR [.tmp 4] fun r=>dB r) (PE cx (.exit 0) (fun ()=>[]) fun ()=>⟨[],[],0⟩)) hy ?_ ?_ ?_
 exact wk0 h0 []
 clear hy h
 rintro aD y h
 dsimp only[kD] at h
 refine AW.seq (ra hx ?_)
 refine cdh h rfl (fun fT h=>?_) (fun fT h=>?_)
 refine AW.skip (AW.seq (AW.block (AW.seq ?_)))
 obtain⟨aY,hy,h⟩:=ae h
 refine jn ((PE cx .normal (fun aY=>[(0,dL aj eE),(1,dI .i64 ny),(5,dI .i64 aD),(37,dB aY)]) fun aY=>⟨[],[],0⟩) aY) ?_ ?_
 replace h:=hy
 refine rq hx fun K hK=>?_
 iterate 2 refine sa ?_
 obtain⟨rA,h⟩:=aA h
 have yv:(aD).toNat<(eE).length:=by omega
 refine sbr ?_
 refine s1 (d:=dG aj ((eE)[(aD).toNat]!)) (i8 (c:=aj) (l:=eE) (n:=(aD).toNat) (o:=0) aQ yv (eS _ _ rfl)) ?_
 refine scb h mP fun x4 h=>?_
 refine mbr ?_
 rcases aE h with⟨qV,h⟩|⟨qV,h⟩
 refine nbr hK ?_
 exact pe1 h h0 []
 iterate 2 refine ga qV ?_
 obtain⟨hc7,h⟩:=aA h
 have Rv:(aD).toNat<(eE).length:=by omega
 refine gbr ?_
 refine ga qV ?_
 refine g1 (d:=dG aq ((eE)[(aD).toNat]!.vN)) qV (i8 (c:=aj) (l:=eE) (n:=(aD).toNat) (o:=0) fy Rv (by first|exact rfl|exact pG0 _ _ _ rfl|exact pG1 _ _ _ _ rfl rfl)) ?_
 refine gcb h An fun x9 h=>?_
 refine mbr ?_
 rcases aE h with⟨ux,h⟩|⟨ux,h⟩
 refine nbr hK ?_
 exact pe1 h h0 []
 iterate 2 refine ga ux ?_
 obtain⟨hc12,h⟩:=aA h
 have hn13:(aD).toNat<(eE).length:=by omega
 refine gbr ?_
 refine ga ux ?_
 refine g1 (d:=dG aq ((eE)[(aD).toNat]!.vD)) ux (i8 (c:=aj) (l:=eE) (n:=(aD).toNat) (o:=18) fy hn13 (by first|exact rfl|exact pG0 _ _ _ rfl|exact pG1 _ _ _ _ rfl rfl)) ?_
 refine gcb h An fun qB h=>?_
 refine nbr hK ?_
 exact pe1 h h0 []
 refine lw0 ?_
 refine cdh h rfl (fun IV h=>?_) (fun IV h=>?_)
 refine ra hx ?_
 refine AW.ret ?_
 cases h
 refine PS.r ⟨by nofun,PS.l (PR.i ?_)⟩
 exact rv1
 refine AW.skip (rb hx ?_)
 exact pel h h0 []
 exact AW.exit (peq h h0 [])
 rcases y with r|⟨⟩
 rintro ex tm' hp' ⟨rfl,hw⟩
 cases h
 exact hw
 refine lwr ?_
 refine ra hx ?_
 exact AW.ret (rtv h)
def oq(nt:aX)(Ei:Int)(ny:Int):Option Bool:=bnd (S:=Bool) (bnd (nM nt) fun x1=>cnd x1 (cnd (decide (nt.vA.vR≤Ei)) (cnd (decide (nt.vA.vC≤Ei)) (bnd (iA nt.vA.vV ny) fun x6=>cnd x6 (bnd (iA nt.vB ny) fun x9=>cnd x9 (bnd (iA nt.vC ny) fun nq=>some (nq)) (some (false))) (some (false))) (some (false))) (some (false))) (some (false))) fun bn=>some bn
theorem CL {nt:aX}{Ei:Int}{ny:Int}{r:Bool}(h:oq nt Ei ny=some r):ar prog 25 [dG eC nt,dI .i64 Ei,dI .i64 ny] (dB r):=by
 refine bk (rs:=[.tmp 6]) (fun cx hx h0=>?_) func25
 unfold oq at h
 refine rs hx fun K hK=>?_
 refine s1 (d:=.pt 0 0) fQ ?_
 refine nbr hK ?_
 refine AW.seq ?_
 obtain⟨bn,hy,h⟩:=ae h
 refine jn ((PE cx .normal (fun bn=>[(6,dB bn)]) fun bn=>⟨[],[],0⟩) bn) ?_ ?_
 replace h:=hy
 refine rq hx fun K hK=>?_
 refine s1 (d:=dG eC nt) (T_ldA rm) ?_
 refine scb h Gv fun x1 h=>?_
 refine sa ?_
 rcases aE h with⟨fI,h⟩|⟨fI,h⟩
 refine mbr ?_
 rcases aE h with⟨Gm,h⟩|⟨Gm,h⟩
 refine mbr ?_
 rcases aE h with⟨su,h⟩|⟨su,h⟩
 iterate 2 refine ga su ?_
 refine gbr ?_
 refine ga su ?_
 refine gcb h nH fun x6 h=>?_
 refine mbr ?_
 rcases aE h with⟨uw,h⟩|⟨uw,h⟩
 refine ga uw ?_
 refine gbr ?_
 refine ga uw ?_
 refine gcb h nH fun x9 h=>?_
 refine mbr ?_
 rcases aE h with⟨ux,h⟩|⟨ux,h⟩
 refine ga ux ?_
 refine gbr ?_
 refine ga ux ?_
 refine gcb h nH fun nq h=>?_
 refine nbr hK ?_
 exact pe1 h h0 []
 refine nbr hK ?_
 exact pe1 h h0 []
 refine nbr hK ?_
 exact pe1 h h0 []
 refine nbr hK ?_
 exact pe1 h h0 []
 refine nbr hK ?_
 exact pe1 h h0 []
 refine nbr hK ?_
 exact pe1 h h0 []
 refine lw0 ?_
 exact AW.ret (rtv h)
def lN(eE:List Int):(List am)×Int→Option (((List am)×Int)⊕((List am))):=fun (aU,bu)=>cnd (decide (bu<((eE).length:Int))) (gd (0≤bu∧bu<((eE).length:Int)) (bnd (qa ((eE)[(bu).toNat]!)) fun x4=>gd ((aU++[x4]).length*136≤140737488355328) (some (.inl (aU++[x4],i64.wrap (bu+(1:Int))))))) (some (.inr aU))
def dv(eE:List Int):Option (List am):=bnd (bt (lN eE) (([]:List am),(0:Int))) fun bh=>some bh
theorem eT {eE:List Int}{r:List am}(h:dv eE=some r):ar prog 40 [dL (cI .i64) eE] (.own 43 aj.sz r.length (r.flatMap aj.f)):=by
 refine bk (rs:=[.tmp 2]) (fun cx hx h0=>?_) func40
 unfold dv at h
 refine rs hx fun K hK=>?_
 refine s1 (d:=dO 0 aj ([]:List am)) (gi cg aQ) ?_
 refine nl hK ?_
 refine rs hx fun K hK=>?_
 refine s1 (d:=dO 1 aj ([]:List am)) (gi cg aQ) ?_
 refine nl hK ?_
 refine AW.seq (ra hx ?_)
 refine AW.block ?_
 obtain⟨bh,hy,h⟩:=ae h
 refine lp (S:=(List am)×Int) (X:=(List am)) (fun (aU,bu)=>[(0,dL (cI .i64) eE),(3,dO 0 aj aU),(4,dI .i64 bu)]) (fun (aU,bu)=>⟨[],[(0,(aU).length,36,43)],1⟩) (PE cx (.exit 0) (fun bh=>[(3,dO 0 aj bh)]) fun bh=>⟨[],[(0,(bh).length,36,43)],1⟩) hy ?_ ?_ ?_
 exact wk0 h0 [1]
 clear hy h
 rintro⟨aU,bu⟩ y h
 dsimp only[lN] at h
 refine AW.seq (ra hx ?_)
 refine cdh h rfl (fun fT h=>?_) (fun fT h=>?_)
 refine AW.skip (AW.seq (AW.block (rq hx fun K hK=>?_)))
 iterate 3 refine sa ?_
 obtain⟨rA,h⟩:=aA h
 have yv:(bu).toNat<(eE).length:=by omega
 refine sbr ?_
 refine s1 (ze (c:=(cI .i64)) (l:=eE) (n:=(bu).toNat) (o:=0) d8 yv) ?_
 refine scb h D2 fun x4 h=>?_
 refine s1 (kP ([x4]:List am) aj cg aQ) ?_
 obtain⟨hc6,h⟩:=aA h
 refine s1 (d:=dO 0 aj (aU++[x4])) (qn cg aQ hc6) ?_
 refine nbr hK ?_
 refine rb hx ?_
 exact pel h h0 [0]
 exact AW.exit (per h h0 [0])
 refine lw0 ?_
 refine ra hx ?_
 refine AW.ret ?_
 cases h
 exact oL.own rfl rfl
def fM(j6:Int)(aG:List Int)(aP:List Int)(oM:List Int):Option aX:=bnd (dv aG) fun x1=>bnd (dv aP) fun x3=>bnd (dv oM) fun x5=>some (⟨(⟨j6,((oM).length:Int),x1⟩:eZ),x3,x5⟩:aX)
theorem nU {j6:Int}{aG:List Int}{aP:List Int}{oM:List Int}{r:aX}(h:fM j6 aG aP oM=some r):ar prog 37 [dI .i64 j6,dL (cI .i64) aG,dL (cI .i64) aP,dL (cI .i64) oM] (dG eC r):=by
 refine bk (rs:=[.cell 8 26]) (fun cx hx h0=>?_) func37
 unfold fM at h
 refine rs hx fun K hK=>?_
 refine s1 (d:=.pt 0 0) (m9 rm) ?_
 refine nl hK ?_
 refine rs hx fun K hK=>?_
 iterate 4 refine sa ?_
 obtain⟨x1,xX,h⟩:=ae h
 refine s1 (iU rfl (eT xX) rfl (lA (aw _) lAn)) ?_
 refine s2 (d2:=dG mh (⟨j6,((oM).length:Int),x1⟩:eZ)) (da (es:=[dI .i64 j6,dI .i64 ((oM).length:Int),dO 1 aj x1]) yH) (pI (wc (lI _) (wc (lI _) (wc (lc_x _) wcn)))) ?_
 refine sa ?_
 obtain⟨x3,S0,h⟩:=ae h
 refine s1 (iU rfl (eT S0) rfl (lA (aw _) lAn)) ?_
 refine sa ?_
 obtain⟨x5,GK,h⟩:=ae h
 refine s1 (iU rfl (eT GK) rfl (lA (aw _) lAn)) ?_
 refine s2 (d2:=dG eC (⟨(⟨j6,((oM).length:Int),x1⟩:eZ),x3,x5⟩:aX)) (da (es:=[dI .i64 j6,dI .i64 ((oM).length:Int),dL aj x1,dO 2 aj x3,dO 3 aj x5]) rm) (pI (wc (lI _) (wc (lI _) (wc (lI _) (wc (lc_x _) (wc (lc_x _) wcn)))))) ?_
 refine s0 (CG (ds':=[dI .i64 j6,dI .i64 ((oM).length:Int),dL aj x1,dL aj x3,dL aj x5]) rm) ?_
 refine nl hK ?_
 refine AW.ret ?_
 cases h
 exact oL.mk1 (Sg (es:=(eC.f (⟨(⟨j6,((oM).length:Int),x1⟩:eZ),x3,x5⟩:aX)).map .e) rfl rm rfl rfl (ltb rfl) (leb rfl) rfl (.inr (.inr ⟨_,(aw _),rfl,rfl⟩)))
def gK(aG:Int)(aP:Int):Option (List am):=bnd (mS aG (5:Int)) fun x1=>bnd (mS aP (5:Int)) fun x3=>some [x1,x3]
theorem oQ {aG:Int}{aP:Int}{r:List am}(h:gK aG aP=some r):ar prog 39 [dI .i64 aG,dI .i64 aP] (.own 43 aj.sz r.length (r.flatMap aj.f)):=by
 refine bk (rs:=[.tmp 4]) (fun cx hx h0=>?_) func39
 unfold gK at h
 refine rs hx fun K hK=>?_
 refine s1 (d:=dO 0 aj ([]:List am)) (gi cg aQ) ?_
 refine nl hK ?_
 refine rs hx fun K hK=>?_
 refine sa ?_
 refine scb h Ak fun x1 h=>?_
 refine sa ?_
 refine scb h Ak fun x3 h=>?_
 refine s1 (kP ([x1,x3]:List am) aj cg aQ) ?_
 refine nbr hK ?_
 refine AW.ret ?_
 cases h
 exact oL.own rfl rfl
def gJ(nt:aX)(Ir:ci):Option Bool:=bnd (g8 nt (100:Int)) fun x1=>bnd (S:=Bool) (cnd (decide (x1.2.2=(0:Int))) (bnd (iN x1.1 Ir) fun x4=>cnd x4 (bnd (jj nt x1.1) fun x7=>some (decide (x7=(0:Int)))) (some (false))) (some (false))) fun ib=>some ib
theorem oP {nt:aX}{Ir:ci}{r:Bool}(h:gJ nt Ir=some r):ar prog 38 [dG eC nt,dG jL Ir] (dB r):=by
 refine bk (rs:=[.tmp 4]) (fun cx hx h0=>?_) func38
 unfold gJ at h
 refine rs hx fun K hK=>?_
 refine s1 (d:=.pt 0 0) fQ ?_
 refine s1 (d:=.pt 1 0) fQ ?_
 refine nbr hK ?_
 refine rs hx fun K hK=>?_
 refine s1 (d:=dG eC nt) (T_ldA rm) ?_
 refine scb h qY fun x1 h=>?_
 iterate 4 refine sa ?_
 refine s1 (d:=.pt 2 0) (m9 ms) ?_
 refine s0 (CG (ds':=[dI .i64 x1.1.vKind,dL aj x1.1.vX,dL aj x1.1.vY,dL aj x1.1.vRay]) ms) ?_
 refine nbr hK ?_
 refine AW.seq ?_
 obtain⟨ib,hy,h⟩:=ae h
 refine jn ((PE cx .normal (fun ib=>[(4,dB ib)]) fun ib=>⟨[],[],0⟩) ib) ?_ ?_
 replace h:=hy
 refine rq hx fun K hK=>?_
 refine mbr ?_
 rcases aE h with⟨fI,h⟩|⟨fI,h⟩
 refine g1 (d:=dG jL x1.1) fI (T_ldA ms) ?_
 refine g1 (d:=dG jL Ir) fI (T_ldA ms) ?_
 refine gcb h zm fun x4 h=>?_
 refine mbr ?_
 rcases aE h with⟨qV,h⟩|⟨qV,h⟩
 refine g1 (d:=dG eC nt) qV (T_ldA rm) ?_
 refine g1 (d:=dG jL x1.1) qV (T_ldA ms) ?_
 refine gcb h wa fun x7 h=>?_
 refine nbr hK ?_
 exact pe1 h h0 []
 refine nbr hK ?_
 exact pe1 h h0 []
 refine nbr hK ?_
 exact pe1 h h0 []
 refine lw0 ?_
 exact AW.ret (rtv h)
def eN :Option Bool:=bnd (fM (2:Int) [(1:Int),(2:Int),(3:Int),(1:Int)] [(4:Int),(6:Int)] [(1:Int),(1:Int)]) fun x1=>bnd (gK (8:Int) (6:Int)) fun x3=>bnd (gK (2:Int) (1:Int)) fun x5=>bnd (gJ x1 (⟨(1:Int),x3,x5,([]:List am)⟩:ci)) fun x7=>bnd (fM (1:Int) [(1:Int)] [(-1:Int)] [(0:Int)]) fun x9=>bnd (dv [(1:Int)]) fun ta=>bnd (gJ x9 (⟨(2:Int),([]:List am),ta,([]:List am)⟩:ci)) fun qW=>bnd (fM (1:Int) [(-1:Int),(1:Int)] [(1:Int)] [(1:Int),(0:Int)]) fun J2=>bnd (dv [(0:Int),(0:Int)]) fun oN=>bnd (dv [(1:Int),(0:Int)]) fun ww=>bnd (gJ J2 (⟨(3:Int),oN,([]:List am),ww⟩:ci)) fun wJ=>bnd (fM (1:Int) [(-1:Int)] [(-2:Int)] [(-1:Int)]) fun yz=>bnd (dv [(2:Int)]) fun JS=>bnd (dv [(1:Int)]) fun Bq=>bnd (gJ yz (⟨(1:Int),JS,Bq,([]:List am)⟩:ci)) fun Bo=>bnd (dv [(1:Int),(1:Int),(1:Int),(-1:Int)]) fun H5=>bnd (dv [(1:Int),(3:Int)]) fun Mi=>bnd (g9 (⟨(2:Int),(2:Int),H5⟩:eZ) Mi (100:Int)) fun Ad=>bnd (S:=Bool) (cnd (decide (Ad.2.2=(0:Int))) (cnd (decide (Ad.1.vKind=(2:Int))) (bnd (dv [(1:Int),(3:Int)]) fun Mh=>bnd (de (⟨(2:Int),(2:Int),H5⟩:eZ) Mh Ad.1) fun x41=>some (decide (x41=(0:Int)))) (some (false))) (some (false))) fun HV=>bnd (S:=Bool) (cnd x7 (cnd qW (cnd wJ (cnd Bo (cnd HV (bnd (gK (8:Int) (6:Int)) fun x49=>bnd (gK (2:Int) (2:Int)) fun x51=>bnd (jj x1 (⟨(1:Int),x49,x51,([]:List am)⟩:ci)) fun x53=>some (decide (x53=(250:Int)))) (some (false))) (some (false))) (some (false))) (some (false))) (some (false))) fun oE=>some oE
theorem j3  {r:Bool}(h:eN=some r):ar prog 11 [] (dB r):=by
 refine bk (rs:=[.tmp 0]) (fun cx hx h0=>?_) func11
 unfold eN at h
 refine ra hx ?_
 refine rs hx fun K hK=>?_
 refine s1 (d:=dO 0 (cI .i64) [(1:Int),(2:Int),(3:Int),(1:Int)]) (kQ c9 d8) ?_
 refine s1 (d:=dO 1 (cI .i64) [(4:Int),(6:Int)]) (kQ c9 d8) ?_
 refine s1 (d:=dO 2 (cI .i64) [(1:Int),(1:Int)]) (kQ c9 d8) ?_
 refine scb h nU fun x1 h=>?_
 refine s1 (d:=.pt 3 0) (m9 rm) ?_
 refine s0 (CG (ds':=[dI .i64 x1.vA.vR,dI .i64 x1.vA.vC,dL aj x1.vA.vV,dL aj x1.vB,dL aj x1.vC]) rm) ?_
 refine nl hK ?_
 refine rsd [38] hx fun K hK=>?_
 refine s1 (d:=dG eC x1) (T_ldA rm) ?_
 obtain⟨x3,S0,h⟩:=ae h
 refine s1 (iU rfl (oQ S0) rfl (lA (aw _) (lA (aw _) lAn))) ?_
 obtain⟨x5,GK,h⟩:=ae h
 refine s1 (iU rfl (oQ GK) rfl (lA (aw _) (lA (aw _) lAn))) ?_
 refine s1 (d:=.ag [dI .i64 (1:Int),dO 4 aj x3,dO 5 aj x5,dN]) (da ms) ?_
 obtain⟨x7,SZ,h⟩:=ae h
 refine sq tok (oP SZ) (by simp only[iX,l6,gh,io,eQ,bK];exact⟨cl _ _,rfl⟩) (lA (aw _) (lA (pI (wc (lI _) (wc (lI _) (wc (lI _) (wc (KU rfl) wcn))))) lAn)) (.inl rfl) ?_
 refine nbr hK ?_
 refine rs hx fun K hK=>?_
 refine s1 (d:=dO 6 (cI .i64) [(1:Int)]) (kQ c9 d8) ?_
 refine s1 (d:=dO 7 (cI .i64) [(-1:Int)]) (kQ c9 d8) ?_
 refine s1 (d:=dO 8 (cI .i64) [(0:Int)]) (kQ c9 d8) ?_
 refine scb h nU fun x9 h=>?_
 refine s1 (d:=dO 9 (cI .i64) [(1:Int)]) (kQ c9 d8) ?_
 obtain⟨ta,hx12,h⟩:=ae h
 refine s1 (iU rfl (eT hx12) rfl (lA (aw _) lAn)) ?_
 refine s1 (d:=.ag [dI .i64 (2:Int),dN,dO 10 aj ta,dN]) (da ms) ?_
 obtain⟨qW,S4,h⟩:=ae h
 refine s1 (sV rfl (oP S4) (by simp only[iX,l6,gh,io,eQ,bK];exact⟨cl _ _,rfl⟩) (lA (aw _) (lA (pI (wc (lI _) (wc (KU rfl) (wc (lI _) (wc (KU rfl) wcn))))) lAn)) (.inl rfl)) ?_
 refine nbr hK ?_
 refine rs hx fun K hK=>?_
 refine s1 (d:=dO 11 (cI .i64) [(-1:Int),(1:Int)]) (kQ c9 d8) ?_
 refine s1 (d:=dO 12 (cI .i64) [(1:Int)]) (kQ c9 d8) ?_
 refine s1 (d:=dO 13 (cI .i64) [(1:Int),(0:Int)]) (kQ c9 d8) ?_
 refine scb h nU fun J2 h=>?_
 refine s1 (d:=dO 14 (cI .i64) [(0:Int),(0:Int)]) (kQ c9 d8) ?_
 obtain⟨oN,wB,h⟩:=ae h
 refine s1 (iU rfl (eT wB) rfl (lA (aw _) lAn)) ?_
 refine s1 (d:=dO 16 (cI .i64) [(1:Int),(0:Int)]) (kQ c9 d8) ?_
 obtain⟨ww,GL,h⟩:=ae h
 refine s1 (iU rfl (eT GL) rfl (lA (aw _) lAn)) ?_
 refine s1 (d:=.ag [dI .i64 (3:Int),dO 15 aj oN,dN,dO 17 aj ww]) (da ms) ?_
 obtain⟨wJ,S3,h⟩:=ae h
 refine s1 (sV rfl (oP S3) (by simp only[iX,l6,gh,io,eQ,bK];exact⟨cl _ _,rfl⟩) (lA (aw _) (lA (pI (wc (lI _) (wc (lI _) (wc (KU rfl) (wc (lI _) wcn))))) lAn)) (.inl rfl)) ?_
 refine nbr hK ?_
 refine rs hx fun K hK=>?_
 refine s1 (d:=dO 18 (cI .i64) [(-1:Int)]) (kQ c9 d8) ?_
 refine s1 (d:=dO 19 (cI .i64) [(-2:Int)]) (kQ c9 d8) ?_
 refine s1 (d:=dO 20 (cI .i64) [(-1:Int)]) (kQ c9 d8) ?_
 refine scb h nU fun yz h=>?_
 refine s1 (d:=dO 21 (cI .i64) [(2:Int)]) (kQ c9 d8) ?_
 obtain⟨JS,hx26,h⟩:=ae h
 refine s1 (iU rfl (eT hx26) rfl (lA (aw _) lAn)) ?_
 refine s1 (d:=dO 23 (cI .i64) [(1:Int)]) (kQ c9 d8) ?_
 obtain⟨Bq,IL,h⟩:=ae h
 refine s1 (iU rfl (eT IL) rfl (lA (aw _) lAn)) ?_
 refine s1 (d:=.ag [dI .i64 (1:Int),dO 22 aj JS,dO 24 aj Bq,dN]) (da ms) ?_
 obtain⟨Bo,MX,h⟩:=ae h
 refine s1 (sV rfl (oP MX) (by simp only[iX,l6,gh,io,eQ,bK];exact⟨cl _ _,rfl⟩) (lA (aw _) (lA (pI (wc (lI _) (wc (lI _) (wc (lI _) (wc (KU rfl) wcn))))) lAn)) (.inl rfl)) ?_
 refine nbr hK ?_
 refine rs hx fun K hK=>?_
 refine s1 (d:=dO 25 (cI .i64) [(1:Int),(1:Int),(1:Int),(-1:Int)]) (kQ c9 d8) ?_
 obtain⟨H5,hx32,h⟩:=ae h
 refine s1 (iU rfl (eT hx32) rfl (lA (aw _) lAn)) ?_
 refine s2 (d2:=dG mh (⟨(2:Int),(2:Int),H5⟩:eZ)) (da (es:=[dI .i64 (2:Int),dI .i64 (2:Int),dO 26 aj H5]) yH) (pI (wc (lI _) (wc (lI _) (wc (lc_x _) wcn)))) ?_
 refine s1 (d:=.pt 27 0) (m9 yH) ?_
 refine s0 (CG (ds':=[dI .i64 (2:Int),dI .i64 (2:Int),dL aj H5]) yH) ?_
 refine nl hK ?_
 refine AW.seq ?_
 obtain⟨Mi,QC,h⟩:=ae h
 obtain⟨Ad,hx36,h⟩:=ae h
 refine jn (PE cx .normal (fun (_:Unit)=>[(1,.pt 0 0),(2,dB x7),(3,dB qW),(4,dB wJ),(5,dB Bo),(6,.pt 1 0),(7,.pt 2 0),(9,dI .i64 Ad.2.2)]) (fun (_:Unit)=>⟨[(0,[dI .i64 x1.vA.vR,dI .i64 x1.vA.vC,dL aj x1.vA.vV,dL aj x1.vB,dL aj x1.vC]),(1,[dI .i64 (2:Int),dI .i64 (2:Int),dL aj H5]),(2,[dI .i64 Ad.1.vKind,dL aj Ad.1.vX,dL aj Ad.1.vY,dL aj Ad.1.vRay])],[],3⟩) ()) ?_ ?_
 refine dw (DW.split 2 8 (by decide) ?_ ?_)
 refine dwg [21] [0,1,2,3,4,5,6,7,8,9,10,11] hx (by kernel_rfl) (by kernel_rfl) (by kernel_rfl) fun K hK=>?_
 dsimp only[ek,m7,nA,List.map]
 refine s1 (d:=dG mh (⟨(2:Int),(2:Int),H5⟩:eZ)) (T_ldA yH) ?_
 refine s1 (FM c9 d8) ?_
 refine s1 (iU rfl (eT QC) rfl (lA (aw _) lAn)) ?_
 refine cq (nT hx36) ?_
 iterate 4 refine sa ?_
 refine s1 (d:=.pt 29 0) (m9 ms) ?_
 refine s0 (CG (ds':=[dI .i64 Ad.1.vKind,dL aj Ad.1.vX,dL aj Ad.1.vY,dL aj Ad.1.vRay]) ms) ?_
 iterate 2 refine sa ?_
 exact .nil (hK _ _ (pe0 h0 [3,27,29]))
 refine dwg [21] [0,1,8,2,3,4,5,6,7,9,10,11] hx (by kernel_rfl) (by kernel_rfl) (by kernel_rfl) fun K hK=>?_
 dsimp only[ek,m7,nA,List.map]
 refine s1 (d:=dG mh (⟨(2:Int),(2:Int),H5⟩:eZ)) (T_ldA yH) ?_
 refine s1 (FM c9 d8) ?_
 refine s1 (d:=.pt 28 0) (m9 ms) ?_
 refine s1 (iU rfl (eT QC) rfl (lA (aw _) lAn)) ?_
 refine cq (nT hx36) ?_
 iterate 4 refine sa ?_
 refine s0 (CG (ds':=[dI .i64 Ad.1.vKind,dL aj Ad.1.vX,dL aj Ad.1.vY,dL aj Ad.1.vRay]) ms) ?_
 iterate 2 refine sa ?_
 exact .nil (hK _ _ (pe0 h0 [3,27,28]))
 refine lw0 ?_
 refine AW.seq ?_
 obtain⟨HV,hy,h⟩:=ae h
 refine jn ((PE cx .normal (fun HV=>[(1,.pt 0 0),(2,dB x7),(3,dB qW),(4,dB wJ),(5,dB Bo),(10,dB HV)]) fun HV=>⟨[(0,[dI .i64 x1.vA.vR,dI .i64 x1.vA.vC,dL aj x1.vA.vV,dL aj x1.vB,dL aj x1.vC])],[],1⟩) HV) ?_ ?_
 replace h:=hy
 refine rqd [23] hx fun K hK=>?_
 refine mbr ?_
 rcases aE h with⟨hb37,h⟩|⟨hb37,h⟩
 refine mbr ?_
 rcases aE h with⟨hb38,h⟩|⟨hb38,h⟩
 refine g1 (d:=dG mh (⟨(2:Int),(2:Int),H5⟩:eZ)) hb38 (T_ldA yH) ?_
 refine g1 hb38 (FM c9 d8) ?_
 obtain⟨Mh,hx40,h⟩:=ae h
 refine g1 hb38 (iU rfl (eT hx40) rfl (lA (aw _) lAn)) ?_
 refine g1 (d:=dG jL Ad.1) hb38 (T_ldA ms) ?_
 obtain⟨x41,hx42,h⟩:=ae h
 refine sqg tok rfl rfl hb38 (jr hx42) (by simp only[iX,l6,gh,io,eQ,bK];exact⟨cl _ _,rfl,cl _ _⟩) (lA (aw _) (lA (aw _) (lA (aw _) lAn))) (.inl rfl) ?_
 refine nbr hK ?_
 exact pe1 h h0 [0]
 refine nbr hK ?_
 exact pe1 h h0 [0]
 refine nbr hK ?_
 exact pe1 h h0 [0]
 refine lw0 ?_
 refine AW.seq ?_
 obtain⟨oE,hy,h⟩:=ae h
 refine jn ((PE cx .normal (fun oE=>[(0,dB oE)]) fun oE=>⟨[],[],0⟩) oE) ?_ ?_
 replace h:=hy
 refine rqd [19] hx fun K hK=>?_
 refine mbr ?_
 rcases aE h with⟨hb44,h⟩|⟨hb44,h⟩
 refine mbr ?_
 rcases aE h with⟨hb45,h⟩|⟨hb45,h⟩
 refine mbr ?_
 rcases aE h with⟨hb46,h⟩|⟨hb46,h⟩
 refine mbr ?_
 rcases aE h with⟨hb47,h⟩|⟨hb47,h⟩
 refine mbr ?_
 rcases aE h with⟨IS,h⟩|⟨IS,h⟩
 refine g1 (d:=dG eC x1) IS (T_ldA rm) ?_
 obtain⟨x49,hx50,h⟩:=ae h
 refine g1 IS (iU rfl (oQ hx50) rfl (lA (aw _) (lA (aw _) lAn))) ?_
 obtain⟨x51,hx52,h⟩:=ae h
 refine g1 IS (iU rfl (oQ hx52) rfl (lA (aw _) (lA (aw _) lAn))) ?_
 refine g1 (d:=.ag [dI .i64 (1:Int),dO 1 aj x49,dO 2 aj x51,dN]) IS (da ms) ?_
 obtain⟨x53,hx54,h⟩:=ae h
 refine sqg tok rfl rfl IS (wa hx54) (by simp only[iX,l6,gh,io,eQ,bK];exact⟨cl _ _,rfl⟩) (lA (aw _) (lA (pI (wc (lI _) (wc (lI _) (wc (lI _) (wc (KU rfl) wcn))))) lAn)) (.inl rfl) ?_
 refine nbr hK ?_
 exact pe1 h h0 []
 refine nbr hK ?_
 exact pe1 h h0 []
 refine nbr hK ?_
 exact pe1 h h0 []
 refine nbr hK ?_
 exact pe1 h h0 []
 refine nbr hK ?_
 exact pe1 h h0 []
 refine nbr hK ?_
 exact pe1 h h0 []
 refine lw0 ?_
 exact AW.ret (rtv h)
theorem UQ {A k:Nat}(h:A<2 ^ (k+1))(hb:(dg 65536 A (k / 16) / 2 ^ (k % 16)) % 2=0):A<2 ^ k:=by
 have e1:(dg 65536 A (k / 16)).testBit (k % 16)=A.testBit k:=by
  unfold dg
  rw[show (65536:Nat) ^ (k / 16)=2 ^ (16*(k / 16)) by rw[Cz],show (65536:Nat)=2 ^ 16 by decide,Nat.testBit_mod_two_pow,Nat.testBit_div_two_pow,aB (ey _ (by decide)),Fs]
  congr 1;omega
 rw[U9,U9] at e1
 have h2:A / 2 ^ k % 2=0:=by
  rcases Nat.mod_two_eq_zero_or_one (A / 2 ^ k) with h3|h3
  ·exact h3
  ·rw[h3] at e1
   have:=bq (e1.trans (aB rfl))
   omega
 have h3:A / 2 ^ k<2:=by rw[l7 (bV (by decide))];rw[cK] at h;omega
 have h4:A / 2 ^ k=0:=by
  generalize A / 2 ^ k=q at h2 h3
  omega
 rcases Nat.div_eq_zero_iff.1 h4 with h5|h5
 ·have:=bV (n:=k) (show 0<2 by decide);omega
 ·exact h5
theorem R_bit {A k:Nat}(hk:k≤100000):qM (dl A) (k:Int)=some (((dg 65536 A (k / 16) / 2 ^ (k % 16)) % 2:Nat):Int):=by
 unfold qM
 have e1:i64.wrap (Int.tdiv (k:Int) (16:Int))=((k / 16:Nat):Int):=by
  rw[Int.tdiv_eq_ediv_of_nonneg (by omega),eh (by omega) (by omega)];omega
 have e2:Int.tmod (k:Int) (16:Int)=((k % 16:Nat):Int):=by
  rw[Int.tmod_eq_emod_of_nonneg (by omega)];rfl
 rw[e1,e2,show dl A=dk (sz6 A) A from rfl,v7 (j4 A),ab,aC,B8 _ _ _ (by have:k % 16<16:=ey _ (by decide);show k % 16≤64;omega)]
 generalize dg 65536 A (k / 16) / 2 ^ (k % 16)=q
 have e3:Int.tmod (q:Int) 2=((q % 2:Nat):Int):=by rw[Int.tmod_eq_emod_of_nonneg (by omega)];rfl
 rw[e3]
theorem VF {z:Int}(hz:z.natAbs<LIM):∃n:Nat,gv (enc z)=some (n:Int)∧z.natAbs<2 ^ n:=by
 have hsz:sz6 z.natAbs≤32:=r5 (bM hz (by decide))
 have bO:=j4 z.natAbs
 have hlen:=Nt z.natAbs
 obtain⟨x,hl,hx⟩:=wh (b:=mV (dl z.natAbs)) (fun s:Int=>0≤s∧s≤512∧z.natAbs<2 ^ s.toNat) (fun s=>s.toNat) (fun x=>0≤x∧x≤512∧z.natAbs<2 ^ x.toNat) (fun s ⟨h1,h2,h3⟩=>by
  unfold mV
  by_cases h0:0<s
  ·obtain⟨k,rfl⟩:∃k:Nat,s=(k:Int)+1:=⟨(s - 1).toNat,by omega⟩
   rw[cH _ _ h0,eh (z:=(k:Int)+1 - 1) (by omega) (by omega),show (k:Int)+1 - 1=(k:Int) by omega,R_bit (by omega),ab]
   have e:((k:Int)+1).toNat=k+1:=by omega
   rw[e] at h3
   by_cases hb:(dg 65536 z.natAbs (k / 16) / 2 ^ (k % 16)) % 2=0
   ·refine .inl ⟨(k:Int),?_,⟨by omega,by omega,?_⟩,by omega⟩
    ·rw[det_];rfl
    ·rw[show ((k:Int)).toNat=k by omega];exact UQ h3 hb
   ·refine .inr ⟨(k:Int)+1,?_,by omega,by omega,by rw[e];exact h3⟩
    rw[def_];rfl
  ·obtain rfl:s=0:=by omega
   exact .inr ⟨0,by rw[cr _ _ h0];rfl,by omega,by omega,h3⟩) (16*(sz6 z.natAbs:Int)) ⟨by omega,by omega,by
   rw[show (16*(sz6 z.natAbs:Int)).toNat=16*sz6 z.natAbs by omega,Cz];exact bO⟩
 refine⟨x.toNat,?_,hx.2.2⟩
 unfold gv
 rw[iG,bi hz,ab,nh hz]
 rw[show (!true)=false from rfl,cF]
 simp only[ab]
 rw[hlen,eh (by omega) (by omega),hl,ab]
 congr 1;omega
theorem zC {x:Nu}(h:au x=true):(∃n:Nat,gv (nv x).vN=some (n:Int)∧(rv x).num.natAbs<2 ^ n)∧∃n:Nat,gv (nv x).vD=some (n:Int)∧(rv x).den<2 ^ n:=by
 obtain⟨h1,h2⟩:=dQ.1 (bF.1 h)
 have e:nv x=ly (rv x):=h2
 rw[e]
 refine⟨VF h1.1,?_⟩
 obtain⟨n,h3,h4⟩:=VF (jZ h1)
 exact⟨n,h3,by simpa using h4⟩
structure LW(l:List Nu)(bits:Int):Prop where
 good:∀i,i<l.length→au l[i]! =true
 num:∀i,i<l.length→(rv l[i]!).num.natAbs<2 ^ bits.toNat
 den:∀i,i<l.length→(rv l[i]!).den<2 ^ bits.toNat
theorem DT {l:List Nu}{bits:Int}(hl:l.length≤9223372036854775807):∃b,iA (l.map nv) bits=some b∧(b=true→LW l bits):=by
 obtain⟨fN,hN⟩:∃fN:Nat→Int,fN=fun i=>(gv (nv l[i]!).vN).getD 0:=⟨_,rfl⟩
 obtain⟨fD,hD⟩:∃fD:Nat→Int,fD=fun i=>(gv (nv l[i]!).vD).getD 0:=⟨_,rfl⟩
 have key:=uj (b:=kD (l.map nv) bits) (n:=l.length) (by omega) (fun i=>au l[i]! &&(!decide (bits<fN i)&&!decide (bits<fD i))) (fun i hi=>by
  unfold kD
  rw[bg,cH _ _,aC,aC,aC,sd hi,qGood,ab]
  cases hg:au l[i]! with
  |false=>rfl
  |true=>
   obtain⟨⟨n1,h1,_⟩,n2,h2,_⟩:=zC hg
   rw[h1,h2,ab,ab]
   have e1:fN i=n1:=by rw[hN];dsimp only;rw[h1];rfl
   have e2:fD i=n2:=by rw[hD];dsimp only;rw[h2];rfl
   rw[e1,e2]
   cases decide (bits<(n1:Int)) <;> cases decide (bits<(n2:Int)) <;> rfl) (by
  unfold kD
  rw[bg,cr _ _])
 refine⟨_,key,fun h=>?_⟩
 have h3:∀i,i<l.length→au l[i]! =true∧¬bits<fN i∧¬bits<fD i:=fun i hi=>by
  have:=a7.1 h i (iq.2 hi)
  simpa[bK] using this
 refine⟨fun i hi=>(h3 i hi).1,fun i hi=>?_,fun i hi=>?_⟩
 ·obtain⟨hg,h4,_⟩:=h3 i hi
  obtain⟨⟨n1,h1,h5⟩,_⟩:=zC hg
  have e1:fN i=n1:=by rw[hN];dsimp only;rw[h1];rfl
  exact bM h5 (hJ (by decide) (by omega))
 ·obtain⟨hg,_,h4⟩:=h3 i hi
  obtain⟨_,n2,h2,h5⟩:=zC hg
  have e1:fD i=n2:=by rw[hD];dsimp only;rw[h2];rfl
  exact bM h5 (hJ (by decide) (by omega))
structure Few(R Cc:Int)(A B C:List Nu)(size bits:Int):Prop where
 valid:pS R Cc A B C=true
 r:R≤size
 c:Cc≤size
 sA:LW A bits
 sB:LW B bits
 sC:LW C bits
theorem R_few {R Cc size bits:Int}{A B C:List Nu}(hA:A.length≤9223372036854775807)(hB:B.length≤9223372036854775807)(hC:C.length≤9223372036854775807):∃b,oq ⟨⟨R,Cc,A.map nv⟩,B.map nv,C.map nv⟩ size bits=some b∧(b=true→Few R Cc A B C size bits):=by
 obtain⟨b1,h1,k1⟩:=DT (l:=A) (bits:=bits) hA
 obtain⟨b2,h2,k2⟩:=DT (l:=B) (bits:=bits) hB
 obtain⟨b3,h3,k3⟩:=DT (l:=C) (bits:=bits) hC
 refine⟨pS R Cc A B C&&(decide (R≤size)&&(decide (Cc≤size)&&(b1&&(b2&&b3)))),?_,fun h=>?_⟩
 ·unfold oq
  dsimp only
  rw[R_Valid hA hB hC,h1,h2,h3]
  simp only[ab,rf]
 ·simp only[bK,sH] at h
  obtain⟨a1,a2,a3,a4,a5,a6⟩:=h
  exact⟨a1,a2,a3,k1 a4,k2 a5,k3 a6⟩
def r6(R Cc:Int)(A B C:List Nu)(most:Int):Ans×Int×Int:=if pS R Cc A B C&&decide (0≤most) then jR R.toNat Cc.toNat A B C most else (⟨0,[],[],[]⟩,0,1)
theorem Fa {l:List Nu}(h:l.all au=true):∀i,i<l.length→au l[i]! =true:=fun i hi=>by
 rw[bT l i hi];exact a7.1 h _ (n7 _)
theorem P_Solve {R Cc most:Int}{A B C:List Nu}(hA:A.length≤1000000)(hB:B.length≤1000000)(hC:C.length≤1000000)(hm:most≤9223372036854775807):g8 ⟨⟨R,Cc,A.map nv⟩,B.map nv,C.map nv⟩ most=some (rG (r6 R Cc A B C most)):=by
 unfold g8 r6
 rw[JN hA hB hC,ab]
 cases hv:pS R Cc A B C with
 |false=>
  rw[ai (by simp),ai (by simp)]
 |true=>
  by_cases h0:0≤most
  ·rw[ah ⟨rfl,h0⟩]
   obtain⟨m,nn,rfl,rfl,h1,h2,h3,h4,h5,g1,g2,g3⟩:=zp hv
   dsimp only
   rw[q8,q8,q8]
   refine (ah ⟨⟨by simp,by simp,by simpa using h1,by simpa using h2,Ep _,Ep _,Ep _,by simpa using h3,by simpa using h4,by simpa using h5,?_,?_,?_⟩,hm⟩).trans (by rw[ah (by simpa using h0)])
   ·dsimp only;rw[q8];exact Fa g1
   ·dsimp only;rw[q8];exact Fa g2
   ·dsimp only;rw[q8];exact Fa g3
  ·rw[ai (fun h=>h0 h.2),ai (by simp[h0])]
theorem xU {l:List Nu}(h:l.all au=true):(fR l).all au=true:=by
 unfold fR
 rw[mi,h,Fs,LH,←h]
 congr 1
 funext x
 exact ob
def zM(R Cc:Int)(A B:List Nu)(most:Int):Ans×Int×Int:=if qq R Cc A B&&decide (0≤most) then vn R.toNat Cc.toNat A B most else (⟨0,[],[],[]⟩,0,1)
theorem JO {R Cc most:Int}{A B:List Nu}(hA:A.length≤500000)(hB:B.length≤500000)(hm:most≤9223372036854775807):g9 ⟨R,Cc,A.map nv⟩ (B.map nv) most=some (rG (zM R Cc A B most)):=by
 unfold g9 zM
 rw[FP (by omega) (by omega),ab]
 cases hv:qq R Cc A B with
 |false=>
  rw[ai (by simp),ai (by simp)]
 |true=>
  by_cases h0:0≤most
  ·rw[ah ⟨rfl,h0⟩]
   obtain⟨m,nn,rfl,rfl,h1,h2,h3,h4,g1,g2⟩:=CN hv
   dsimp only
   rw[q8,q8]
   have hlA:(fR A).length=(m+m)*nn:=by unfold fR;rw[cJ,bg,h3,bP]
   have hlB:(fR B).length=m+m:=by unfold fR;rw[cJ,bg,h4]
   have hlA2:(fR A).length=A.length+A.length:=by unfold fR;rw[cJ,bg]
   have hz:(List.replicate nn (nOf 0)).all au=true:=a7.2 fun x hx=>by rw[List.eq_of_mem_replicate hx];exact of0.1
   refine (ah ⟨⟨by simp,by simp,by simpa using h1,by simpa using h2,Ep _,Ep _,by simpa using h3,by simpa using h4,by simp;omega,?_,?_,?_⟩,hm⟩).trans (by rw[ah (by simpa using h0)])
   ·dsimp only;rw[q8];exact Fa (xU g1)
   ·rw[q8];exact Fa (xU g2)
   ·dsimp only
    rw[q8,q8,bH,bH,JN (by omega) (by omega) (by simp;omega)]
    congr 1
    unfold pS GH
    rw[hlA,hlB,xU g1,xU g2,hz,sS]
    have q1:decide ((0:Int)≤((m+m:Nat):Int))=true:=det_
    have q2:decide ((0:Int)≤(nn:Int))=true:=det_
    have q3:decide (((m+m:Nat):Int)≤2000)=true:=det_
    have q4:decide ((nn:Int)≤2000)=true:=det_
    have q5:decide ((((m+m)*nn:Nat):Int)=((m+m:Nat):Int)*(nn:Int))=true:=aB (by rw[ir])
    have q6:decide (((m+m:Nat):Int)=((m+m:Nat):Int))=true:=aB rfl
    have q7:decide (((nn:Nat):Int)=(nn:Int))=true:=aB rfl
    rw[q1,q2,q3,q4,q5,q6,q7]
    rfl
  ·rw[ai (fun h=>h0 h.2),ai (by simp[h0])]
theorem vT {l:List Int}(hl:l.length≤1000000)(h:∀i,i<l.length→-1000≤l[i]!∧l[i]!≤1000):dv l=some ((l.map nOf).map nv):=by
 unfold dv
 have key:=uk (b:=lN l) (fun i:Nat=>(((l.take i).map nOf).map nv,(i:Int))) 0 l.length ((l.map nOf).map nv) (cy _) (fun i _ hi=>?_) ?_
 ·have e:((((l.take 0).map nOf).map nv),((0:Nat):Int))=(([]:List am),(0:Int)):=by simp
  rw[e] at key
  rw[key];rfl
 ·unfold lN
  dsimp only
  have fq:l[((i:Nat):Int).toNat]! =l[i]! :=by rw[show ((i:Nat):Int).toNat=i by omega]
  have htk:l.take (i+1)=l.take i++[l[i]!]:=by rw[Bb,cP hi,bT l i hi];rfl
  obtain⟨h1,h2⟩:=h i hi
  rw[cH _ _,aC,fq,R_Of (by omega) (by omega),ab,aC (by simp;omega),eh (by omega) (by omega),htk]
  simp only[iZ,iX,l6]
  rfl
 ·unfold lN
  dsimp only
  rw[cr _ _,ii (az _)]
def fr(a b:Int):Nu:=nuR (some (Rat.divInt a b))
theorem FO {a b:Int}(ha:-1000≤a∧a≤1000)(hb:-1000≤b∧b≤1000):gK a b=some ([fr a 5,fr b 5].map nv):=by
 have hL:∀n:Int,-1000≤n∧n≤1000→n.natAbs<LIM:=fun n hn=>bM (show n.natAbs<18446744073709551616 by omega) (by decide)
 have hf:∀n:Int,-1000≤n∧n≤1000→mS n 5=some (nv (fr n 5)):=fun n hn=>by
  unfold mS
  rw[rL (by omega) (by omega),ab,rL (by omega) (by omega),ab,VE (hL n hn) (by decide) (by decide),ab]
  rfl
 unfold gK
 rw[hf a ha,hf b hb]
 rfl
def OP(l:List Nu):Bool:=decide (l.length≤1000)
def SL(a:Ans):Bool:=OP a.x&&(OP a.y&&OP a.ray)
theorem uq {a:Ans}(h:SL a=true):FR a:=by
 unfold SL OP at h
 simp only[bK,sH] at h
 exact⟨by omega,by omega,by omega⟩
def e1B:Bool:=r6 2 2 ([1,2,3,1].map nOf) ([4,6].map nOf) ([1,1].map nOf) 100 |> fun r=>decide (r.1=⟨1,[fr 8 5,fr 6 5],[fr 2 5,fr 1 5],[]⟩)&&(decide (r.2.2=0)&&decide (vr 2 2 ([1,2,3,1].map nOf) ([4,6].map nOf) ([1,1].map nOf) r.1=0))
def e2B:Bool:=r6 1 1 ([1].map nOf) ([-1].map nOf) ([0].map nOf) 100 |> fun r=>decide (r.1=⟨2,[],[1].map nOf,[]⟩)&&(decide (r.2.2=0)&&decide (vr 1 1 ([1].map nOf) ([-1].map nOf) ([0].map nOf) r.1=0))
def e3B:Bool:=r6 1 2 ([-1,1].map nOf) ([1].map nOf) ([1,0].map nOf) 100 |> fun r=>decide (r.1=⟨3,[0,0].map nOf,[],[1,0].map nOf⟩)&&(decide (r.2.2=0)&&decide (vr 1 2 ([-1,1].map nOf) ([1].map nOf) ([1,0].map nOf) r.1=0))
def e4B:Bool:=r6 1 1 ([-1].map nOf) ([-2].map nOf) ([-1].map nOf) 100 |> fun r=>decide (r.1=⟨1,[2].map nOf,[1].map nOf,[]⟩)&&(decide (r.2.2=0)&&decide (vr 1 1 ([-1].map nOf) ([-2].map nOf) ([-1].map nOf) r.1=0))
def e5B:Bool:=zM 2 2 ([1,1,1,-1].map nOf) ([1,3].map nOf) 100 |> fun r=>SL r.1&&(decide (r.2.2=0)&&(decide (r.1.kind=2)&&decide (o9 2 2 ([1,1,1,-1].map nOf) ([1,3].map nOf) r.1=0)))
def e6B:Bool:=decide (vr 2 2 ([1,2,3,1].map nOf) ([4,6].map nOf) ([1,1].map nOf) ⟨1,[fr 8 5,fr 6 5],[fr 2 5,fr 2 5],[]⟩=250)
end
end Go.Proofs.YtaedcknhkjpmlaaGreat
