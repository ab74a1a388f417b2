/-
  Lemmas, part 8. Conditions: none.
-/
import Derived.Test.YtaedcknhkjpmlaaGreatB7
set_option linter.all false
set_option maxRecDepth 100000
set_option maxHeartbeats 4000000
namespace Go.Proofs.YtaedcknhkjpmlaaGreat
open Go.RowKit Go.IntKind Tryz
noncomputable section
def oF(er:List am):Int→Option (Int⊕(Bool⊕Unit)):=fun aC=>cnd (decide (aC<((er).length:Int))) (gd (0≤aC∧aC<((er).length:Int)) (bnd (fg ((er)[(aC).toNat]!)) fun x4=>cnd (!x4) (some (.inr (.inl false))) (some (.inl (i64.wrap (aC+(1:Int))))))) (some (.inr (.inr ())))
def mj(er:List am):Option Bool:=bnd (bq (oF er) (0:Int)) fun y7=>match y7 with| .inl r=>some r| .inr ()=>some true
theorem ws {er:List am}{r:Bool}(h:mj er=some r):aq prog 64 [dL ak er] (dB r):=by
 refine bh (rs:=[.tmp 2]) (fun cx hx h0=>?_) func64
 unfold mj at h
 refine ra hx ?_
 refine AW.seq (ra hx ?_)
 refine AW.block ?_
 obtain⟨y,hy,h⟩:=ae h
 refine lp (S:=Int) (X:=Bool⊕Unit) (fun aC=>[(0,dL ak er),(3,dI .i64 aC)]) (fun aC=>⟨[],[],0⟩) (PS (PR [.tmp 2] fun r=>dB r) (PE cx (.exit 0) (fun ()=>[]) fun ()=>⟨[],[],0⟩)) hy ?_ ?_ ?_
 exact wk0 h0 []
 clear hy h
 rintro aC y h
 dsimp only[oF] at h
 refine AW.seq (ra hx ?_)
 refine cdh h rfl (fun fJ h=>?_) (fun fJ h=>?_)
 refine AW.skip (AW.seq (AW.block (rs hx fun K hK=>?_)))
 iterate 2 refine sa ?_
 obtain⟨q8,h⟩:=ay h
 have xT:(aC).toNat<(er).length:=by omega
 refine sbr ?_
 refine s1 (d:=dG ak ((er)[(aC).toNat]!)) (jF (c:=ak) (l:=er) (n:=(aC).toNat) (o:=0) aR xT (eY _ _ rfl)) ?_
 refine scb h mC fun x4 h=>?_
 refine nbr hK ?_
 refine ra hx ?_
 refine cdh h rfl (fun qP h=>?_) (fun qP h=>?_)
 refine ra hx ?_
 refine AW.ret ?_
 cases h
 refine PS.r ⟨by nofun,PS.l (PR.i ?_)⟩
 exact rv1
 refine AW.skip (rb hx ?_)
 exact pel h h0 []
 exact AW.exit (peq h h0 [])
 rcases y with r|⟨⟩
 rintro ex tm' hp' ⟨rfl,hw⟩
 cases h
 exact hw
 refine lwr ?_
 refine ra hx ?_
 exact AW.ret (rtv h)
def ml(aI:fE)(jW:Int)(Ig:Int):Option Bool:=bnd (S:=Bool) (cnd (decide ((0:Int)≤aI.vR)) (cnd (decide ((0:Int)≤aI.vC)) (cnd (decide (aI.vR≤jW)) (cnd (decide (aI.vC≤Ig)) (cnd (decide (((aI.vV).length:Int)=(i64.wrap (aI.vR*aI.vC)))) (bnd (mj aI.vV) fun x6=>some (x6)) (some (false))) (some (false))) (some (false))) (some (false))) (some (false))) fun bi=>some bi
theorem DA {aI:fE}{jW:Int}{Ig:Int}{r:Bool}(h:ml aI jW Ig=some r):aq prog 63 [dG mu aI,dI .i64 jW,dI .i64 Ig] (dB r):=by
 refine bh (rs:=[.tmp 6]) (fun cx hx h0=>?_) func63
 unfold ml at h
 refine rs hx fun K hK=>?_
 refine s1 (d:=.pt 0 0) fQ ?_
 refine nbr hK ?_
 refine AW.seq ?_
 obtain⟨bi,hy,h⟩:=ae h
 refine jn ((PE cx .normal (fun bi=>[(6,dB bi)]) fun bi=>⟨[],[],0⟩) bi) ?_ ?_
 replace h:=hy
 refine rq hx fun K hK=>?_
 refine mbr ?_
 rcases aE h with⟨fJ,h⟩|⟨fJ,h⟩
 refine mbr ?_
 rcases aE h with⟨wI,h⟩|⟨wI,h⟩
 refine mbr ?_
 rcases aE h with⟨fG,h⟩|⟨fG,h⟩
 refine mbr ?_
 rcases aE h with⟨FV,h⟩|⟨FV,h⟩
 refine mbr ?_
 rcases aE h with⟨rX,h⟩|⟨rX,h⟩
 refine ga rX ?_
 refine gbr ?_
 refine gcb h ws fun x6 h=>?_
 refine nbr hK ?_
 exact pe1 h h0 []
 refine nbr hK ?_
 exact pe1 h h0 []
 refine nbr hK ?_
 exact pe1 h h0 []
 refine nbr hK ?_
 exact pe1 h h0 []
 refine nbr hK ?_
 exact pe1 h h0 []
 refine nbr hK ?_
 exact pe1 h h0 []
 refine lw0 ?_
 exact AW.ret (rtv h)
def nk(mX:aU):Option Bool:=bnd (ml mX.vA (2000:Int) (2000:Int)) fun x1=>bnd (S:=Bool) (cnd x1 (cnd (decide (((mX.vB).length:Int)=mX.vA.vR)) (cnd (decide (((mX.vC).length:Int)=mX.vA.vC)) (bnd (mj mX.vB) fun x6=>cnd x6 (bnd (mj mX.vC) fun x9=>some (x9)) (some (false))) (some (false))) (some (false))) (some (false))) fun gZ=>some gZ
theorem Ga {mX:aU}{r:Bool}(h:nk mX=some r):aq prog 16 [dG dJ mX] (dB r):=by
 refine bh (rs:=[.tmp 2]) (fun cx hx h0=>?_) func16
 unfold nk at h
 refine rs hx fun K hK=>?_
 refine s1 (d:=.pt 0 0) fQ ?_
 refine nbr hK ?_
 refine rs hx fun K hK=>?_
 refine sa ?_
 refine s1 (d:=dG mu mX.vA) (T_ldA ye) ?_
 refine scb h DA fun x1 h=>?_
 refine nbr hK ?_
 refine AW.seq ?_
 obtain⟨gZ,hy,h⟩:=ae h
 refine jn ((PE cx .normal (fun gZ=>[(2,dB gZ)]) fun gZ=>⟨[],[],0⟩) gZ) ?_ ?_
 replace h:=hy
 refine rq hx fun K hK=>?_
 refine mbr ?_
 rcases aE h with⟨fG,h⟩|⟨fG,h⟩
 refine mbr ?_
 rcases aE h with⟨FV,h⟩|⟨FV,h⟩
 refine mbr ?_
 rcases aE h with⟨rX,h⟩|⟨rX,h⟩
 refine ga rX ?_
 refine gbr ?_
 refine gcb h ws fun x6 h=>?_
 refine mbr ?_
 rcases aE h with⟨ua,h⟩|⟨ua,h⟩
 refine ga ua ?_
 refine gbr ?_
 refine gcb h ws fun x9 h=>?_
 refine nbr hK ?_
 exact pe1 h h0 []
 refine nbr hK ?_
 exact pe1 h h0 []
 refine nbr hK ?_
 exact pe1 h h0 []
 refine nbr hK ?_
 exact pe1 h h0 []
 refine nbr hK ?_
 exact pe1 h h0 []
 refine lw0 ?_
 exact AW.ret (rtv h)
def s6(oe:List am)(aM:List am):Int×am→Option ((Int×am)⊕am):=fun (aV,ur)=>cnd (decide (aV<((oe).length:Int))) (gd (0≤aV∧aV<((oe).length:Int)) (gd (0≤aV∧aV<((aM).length:Int)) (bnd (wK ((oe)[(aV).toNat]!) ((aM)[(aV).toNat]!)) fun sJ=>bnd (wM ur sJ) fun qA=>some (.inl (i64.wrap (aV+(1:Int)),qA))))) (some (.inr ur))
def yp(oe:List am)(aM:List am):Option am:=cnd (decide (((oe).length:Int)≠((aM).length:Int))) (bnd (nY) fun x2=>some x2) (bnd (pF (0:Int)) fun x4=>bnd (bq (s6 oe aM) ((0:Int),x4)) fun jE=>some jE)
theorem w_ref20_Value {oe:List am}{aM:List am}{r:am}(h:yp oe aM=some r):aq prog 18 [dL ak oe,dL ak aM] (dG ak r):=by
 refine bh (rs:=[.cell 4 43]) (fun cx hx h0=>?_) func18
 unfold yp at h
 refine rar hx ?_
 refine AW.seq (ra hx ?_)
 refine cdh h rfl (fun fJ h=>?_) (fun fJ h=>?_)
 refine rs hx fun K hK=>?_
 refine scb h sM fun x2 h=>?_
 refine nbr hK ?_
 exact AW.ret (rtv h)
 refine AW.skip (rs hx fun K hK=>?_)
 refine scb h DB fun x4 h=>?_
 refine nbr hK ?_
 refine AW.seq (ra hx ?_)
 refine AW.block ?_
 obtain⟨jE,hy,h⟩:=ae h
 refine lp (S:=Int×am) (X:=am) (fun (aV,ur)=>[(0,dL ak oe),(1,dL ak aM),(4,.pt 0 0),(5,.pt 1 0),(6,dI .i64 aV)]) (fun (aV,ur)=>⟨[(0,dC (ak.f kz)),(1,dC (ak.f ur))],[],2⟩) (PE cx (.exit 0) (fun jE=>[(4,.pt 0 0),(5,.pt 1 0)]) fun jE=>⟨[(0,dC (ak.f kz)),(1,dC (ak.f jE))],[],2⟩) hy ?_ ?_ ?_
 exact wk0 h0 [0,1]
 clear hy h
 rintro⟨aV,ur⟩ y h
 dsimp only[s6] at h
 refine AW.seq (ra hx ?_)
 refine cdh h rfl (fun qP h=>?_) (fun qP h=>?_)
 refine AW.skip (AW.seq (AW.block (rqd [70,69] hx fun K hK=>?_)))
 iterate 3 refine sbr ?_
 obtain⟨hc7,h⟩:=ay h
 have Rb:(aV).toNat<(oe).length:=by omega
 refine sbr ?_
 refine s1 (d:=dG ak ((oe)[(aV).toNat]!)) (jF (c:=ak) (l:=oe) (n:=(aV).toNat) (o:=0) aR Rb (eY _ _ rfl)) ?_
 iterate 2 refine sa ?_
 obtain⟨hc9,h⟩:=ay h
 have Td:(aV).toNat<(aM).length:=by omega
 refine sbr ?_
 refine s1 (d:=dG ak ((aM)[(aV).toNat]!)) (jF (c:=ak) (l:=aM) (n:=(aV).toNat) (o:=0) aR Td (eY _ _ rfl)) ?_
 refine cqb h JU fun sJ h=>?_
 refine cqb h JV fun qA h=>?_
 refine nbr hK ?_
 refine rb hx ?_
 exact pel h h0 [0,1]
 exact AW.exit (per h h0 [0,1])
 refine lw0 ?_
 refine rar hx ?_
 exact AW.ret (rtv h)
def j8(aI:List am)(aQ:List am):Int→Option (Int⊕(Bool⊕Unit)):=fun eh=>cnd (decide (eh<((aI).length:Int))) (gd (0≤eh∧eh<((aI).length:Int)) (gd (0≤eh∧eh<((aQ).length:Int)) (cnd (decide (¬((aI)[(eh).toNat]! =(aQ)[(eh).toNat]!))) (some (.inr (.inl false))) (some (.inl (i64.wrap (eh+(1:Int)))))))) (some (.inr (.inr ())))
def kX(aI:List am)(aQ:List am):Option Bool:=cnd (decide (((aI).length:Int)≠((aQ).length:Int))) (some false) (bnd (bq (j8 aI aQ) (0:Int)) fun y8=>match y8 with| .inl r=>some r| .inr ()=>some true)
theorem uA {aI:List am}{aQ:List am}{r:Bool}(h:kX aI aQ=some r):aq prog 60 [dL ak aI,dL ak aQ] (dB r):=by
 refine bh (rs:=[.tmp 4]) (fun cx hx h0=>?_) func60
 unfold kX at h
 refine ra hx ?_
 refine AW.seq (ra hx ?_)
 refine cdh h rfl (fun fJ h=>?_) (fun fJ h=>?_)
 refine ra hx ?_
 exact AW.ret (rtv h)
 refine AW.skip (AW.seq (ra hx ?_))
 refine AW.block ?_
 obtain⟨y,hy,h⟩:=ae h
 refine lp (S:=Int) (X:=Bool⊕Unit) (fun eh=>[(0,dL ak aI),(1,dL ak aQ),(5,dI .i64 eh)]) (fun eh=>⟨[],[],0⟩) (PS (PR [.tmp 4] fun r=>dB r) (PE cx (.exit 0) (fun ()=>[]) fun ()=>⟨[],[],0⟩)) hy ?_ ?_ ?_
 exact wk0 h0 []
 clear hy h
 rintro eh y h
 dsimp only[j8] at h
 refine AW.seq (ra hx ?_)
 refine cdh h rfl (fun wI h=>?_) (fun wI h=>?_)
 refine AW.skip (AW.seq (AW.block (rsd [] hx fun K hK=>?_)))
 iterate 2 refine sa ?_
 obtain⟨hc3,h⟩:=ay h
 have hn4:(eh).toNat<(aI).length:=by omega
 refine sbr ?_
 refine s1 (d:=dG ak ((aI)[(eh).toNat]!)) (jF (c:=ak) (l:=aI) (n:=(eh).toNat) (o:=0) aR hn4 (eY _ _ rfl)) ?_
 iterate 2 refine sa ?_
 obtain⟨hc5,h⟩:=ay h
 have hn6:(eh).toNat<(aQ).length:=by omega
 refine sbr ?_
 refine s1 (d:=dG ak ((aQ)[(eh).toNat]!)) (jF (c:=ak) (l:=aQ) (n:=(eh).toNat) (o:=0) aR hn6 (eY _ _ rfl)) ?_
 refine s1 (xj tok 4 (by decide) Hm aR) ?_
 refine nl hK ?_
 refine cdh h rfl (fun sZ h=>?_) (fun sZ h=>?_)
 refine ra hx ?_
 refine AW.ret ?_
 cases h
 refine PS.r ⟨by nofun,PS.l (PR.i ?_)⟩
 exact rv1
 refine AW.skip (rb hx ?_)
 exact pel h h0 []
 exact AW.exit (peq h h0 [])
 rcases y with r|⟨⟩
 rintro ex tm' hp' ⟨rfl,hw⟩
 cases h
 exact hw
 refine lwr ?_
 refine ra hx ?_
 exact AW.ret (rtv h)
def iF(aI:ct)(aQ:ct):Option Bool:=bnd (S:=Bool) (cnd (decide (aI.vKind=aQ.vKind)) (bnd (kX aI.vX aQ.vX) fun x2=>cnd x2 (bnd (kX aI.vY aQ.vY) fun x5=>cnd x5 (bnd (kX aI.vRay aQ.vRay) fun x8=>some (x8)) (some (false))) (some (false))) (some (false))) fun bi=>some bi
theorem yI {aI:ct}{aQ:ct}{r:Bool}(h:iF aI aQ=some r):aq prog 14 [dG jC aI,dG jC aQ] (dB r):=by
 refine bh (rs:=[.tmp 4]) (fun cx hx h0=>?_) func14
 unfold iF at h
 refine rs hx fun K hK=>?_
 refine s1 (d:=.pt 0 0) fQ ?_
 refine s1 (d:=.pt 1 0) fQ ?_
 refine nbr hK ?_
 refine AW.seq ?_
 obtain⟨bi,hy,h⟩:=ae h
 refine jn ((PE cx .normal (fun bi=>[(4,dB bi)]) fun bi=>⟨[],[],0⟩) bi) ?_ ?_
 replace h:=hy
 refine rq hx fun K hK=>?_
 refine mbr ?_
 rcases aE h with⟨fJ,h⟩|⟨fJ,h⟩
 refine ga fJ ?_
 refine gbr ?_
 refine ga fJ ?_
 refine gbr ?_
 refine gcb h uA fun x2 h=>?_
 refine mbr ?_
 rcases aE h with⟨FV,h⟩|⟨FV,h⟩
 refine ga FV ?_
 refine gbr ?_
 refine ga FV ?_
 refine gbr ?_
 refine gcb h uA fun x5 h=>?_
 refine mbr ?_
 rcases aE h with⟨sZ,h⟩|⟨sZ,h⟩
 refine ga sZ ?_
 refine gbr ?_
 refine ga sZ ?_
 refine gbr ?_
 refine gcb h uA fun x8 h=>?_
 refine nbr hK ?_
 exact pe1 h h0 []
 refine nbr hK ?_
 exact pe1 h h0 []
 refine nbr hK ?_
 exact pe1 h h0 []
 refine nbr hK ?_
 exact pe1 h h0 []
 refine lw0 ?_
 exact AW.ret (rtv h)
theorem pG0 {α:Type}(c:Cd α)(a:α)(l:List E){z:Nat}(h:c.sz=z):((c.f a++l).drop 0).take z=c.f a:=by
 have hl:(c.f a).length=z:=(c.h a).trans h
 rw[qS,vg (by omega),g9 (by omega)]
theorem pG1 {α β:Type}(c:Cd α)(a:α)(k:Cd β)(b:β){o z:Nat}(h:c.sz=o)(h2:k.sz=z):((c.f a++k.f b).drop o).take z=k.f b:=by
 have hl:(c.f a).length=o:=(c.h a).trans h
 have hk:(k.f b).length=z:=(k.h b).trans h2
 rw[←hl,tK,g9 (by omega)]
section
def Id(l:List Nu)(n:Nat):Bool:=decide (l.length=n)&&l.all fun x=>ar x&&decide (0≤bD x)
def om(c x:List Nu):Nat→Nu
 |0=>nOf 0
 |i+1=>jK (om c x i) (lM c[i]! x[i]!)
def bn(c x:List Nu):Nu:=if c.length=x.length then om c x c.length else nuR none
def ji(A:List Nu)(nn i:Nat):List Nu:=(A.drop (i*nn)).take nn
def wQ(A:List Nu)(m nn k:Nat):List Nu:=(List.range m).map fun i=>A[i*nn+k]!
def C4(lines:Nat→List Nu)(x wth:List Nu)(ok:Int→Bool):Bool:=(List.range wth.length).all fun i=>ar (bn (lines i) x)&&ok (nh (bn (lines i) x) wth[i]!)
def lD(m nn:Nat)(A x b:List Nu):Bool:=Id x nn&&C4 (ji A nn) x b fun c=>decide (c≤0)
def pV(m nn:Nat)(A y c:List Nu):Bool:=Id y m&&C4 (wQ A m nn) y c fun c=>decide (0≤c)
def qX(x:Nu)(s:Int):Bool:=ar x&&decide (bD x=s)
def iT(m nn:Nat)(A B C:List Nu)(a:Ans):Bool:=
 if a.kind=1 then decide (a.ray.length=0)&&lD m nn A a.x B&&pV m nn A a.y C&&(ar (bn C a.x)&&decide (bn C a.x=bn a.y B))
 else if a.kind=2 then decide (a.x.length+a.ray.length=0)&&pV m nn A a.y (List.replicate nn (nOf 0))&&qX (bn a.y B) (-1)
 else if a.kind=3 then decide (a.y.length=0)&&lD m nn A a.x B&&lD m nn A a.ray (List.replicate m (nOf 0))&&qX (bn C a.ray) 1
 else false
theorem oI {x y:Nu}(hx:ar x=true)(hy:ar y=true):(nh x y≤0↔rv x≤rv y)∧(0≤nh x y↔rv y≤rv x)∧(nh x y<0↔rv x<rv y)∧(nh x y=0↔rv x=rv y):=by
 rw[D2,bo.1 hx,bo.1 hy]
 unfold ocmp
 dsimp only
 by_cases h1:rv x<rv y
 ·rw[ai h1];grind
 ·rw[ah h1]
  by_cases h2:rv y<rv x
  ·rw[ai h2];grind
  ·rw[ah h2];grind
theorem PN {c x:List Nu}{n:Nat}:ar (om c x n)=true→rv (om c x n)=aN n fun i=>rv c[i]! *rv x[i]! :=by
 induction n with
 |zero=>intro _;exact of0.2
 |succ n ih=>
  intro h
  rw[show om c x (n+1)=jK (om c x n) (lM c[n]! x[n]!) from rfl] at h ⊢
  obtain⟨h1,h2⟩:=wJ h
  obtain⟨h3,h4⟩:=TP h2
  rw[In h1 h2 h,Im h3 h4 h2,ih h1]
  rfl
theorem pj {c x:List Nu}(h:ar (bn c x)=true):c.length=x.length∧rv (bn c x)=aN c.length fun i=>rv c[i]! *rv x[i]! :=by
 unfold bn at h ⊢
 split at h
 ·rename_i e
  rw[ai e]
  exact⟨e,PN h⟩
 ·exfalso
  have:ar (nuR none)=false:=by rw[eE,pU pH];rfl
  rw[this] at h;cases h
theorem Kl {l:List Nu}{n:Nat}(h:Id l n=true):l.length=n∧∀i,i<n→ar l[i]! =true∧0≤rv l[i]! :=by
 unfold Id at h
 rw[b8] at h
 have hl:=bw h.1
 refine⟨hl,fun i hi=>?_⟩
 have:=ba.1 h.2 l[i]! (by rw[bL l i (by omega)];exact nO _)
 rw[b8] at this
 refine⟨this.1,?_⟩
 have h2:=bw this.2
 have:=sU this.1
 grind
section
variable {m nn:Nat} {A B C x y b c:List Nu}
theorem tX(hA:A.length=m*nn){i k:Nat}(hi:i<m)(hk:k<nn):(ji A nn i).length=nn∧(ji A nn i)[k]! =A[i*nn+k]! :=by
 have hle:i*nn+nn≤A.length:=by
  rw[hA]
  calc i*nn+nn=(i+1)*nn:=by rw[bX];omega
   _≤m*nn:=cK _ hi
 unfold ji
 refine⟨by rw[eg,fa];omega,c8 ?_⟩
 rw[gM,ai hk,nA]
 exact wi (by omega)
theorem K9 {i k:Nat}(hi:i<m):(wQ A m nn k)[i]! =A[i*nn+k]! :=c8 (bK _ hi)
theorem u5(hA:A.length=m*nn)(hb:b.length=m)(hgb:∀i,i<m→ar b[i]! =true)(h:lD m nn A x b=true):x.length=nn∧(∀k,k<nn→ar x[k]! =true∧0≤rv x[k]!)∧∀i,i<m→aN nn (fun k=>rv A[i*nn+k]! *rv x[k]!)≤rv b[i]! :=by
 unfold lD at h
 rw[b8] at h
 obtain⟨h1,h2⟩:=Kl h.1
 refine⟨h1,h2,fun i hi=>?_⟩
 have h3:=ba.1 h.2 i (kC.2 (by omega))
 rw[b8] at h3
 obtain⟨h4,h5⟩:=pj h3.1
 have h6:=(oI h3.1 (hgb i hi)).1.1 (bw h3.2)
 rw[h5] at h6
 by_cases h0:nn=0
 ·subst h0
  have:(ji A 0 i).length=0:=by unfold ji;simp
  rw[this] at h6;exact h6
 ·rw[(tX hA hi (k:=0) (by omega)).1] at h6
  rwa[az (g:=fun k=>rv A[i*nn+k]! *rv x[k]!) fun k hk=>by rw[(tX hA hi hk).2]] at h6
theorem Cp(hc:c.length=nn)(hgc:∀k,k<nn→ar c[k]! =true)(h:pV m nn A y c=true):y.length=m∧(∀i,i<m→ar y[i]! =true∧0≤rv y[i]!)∧∀k,k<nn→rv c[k]!≤aN m (fun i=>rv A[i*nn+k]! *rv y[i]!):=by
 unfold pV at h
 rw[b8] at h
 obtain⟨h1,h2⟩:=Kl h.1
 refine⟨h1,h2,fun k hk=>?_⟩
 have h3:=ba.1 h.2 k (kC.2 (by omega))
 rw[b8] at h3
 obtain⟨h4,h5⟩:=pj h3.1
 have h6:=(oI h3.1 (hgc k hk)).2.1.1 (bw h3.2)
 rw[h5,show (wQ A m nn k).length=m by simp[wQ]] at h6
 rwa[az (g:=fun i=>rv A[i*nn+k]! *rv y[i]!) fun i hi=>by rw[K9 hi]] at h6
end
theorem H3 {f g:Nat→Rat}{n:Nat}(h:∀t,t<n→f t≤g t):aN n f≤aN n g:=by
 have h1:=Cm (f:=fun t=>g t - f t) (n:=n) fun t ht=>by have:=h t ht;grind
 rw[zY] at h1
 grind
theorem weak {m nn:Nat}{a:Nat→Nat→Rat}{x y b c:Nat→Rat}(hx:∀k,k<nn→0≤x k)(hy:∀i,i<m→0≤y i)(h1:∀i,i<m→aN nn (fun k=>a i k*x k)≤b i)(h2:∀k,k<nn→c k≤aN m (fun i=>a i k*y i)):aN nn (fun k=>c k*x k)≤aN m (fun i=>y i*b i):=by
 have e1:aN nn (fun k=>c k*x k)≤aN nn (fun k=>aN m (fun i=>a i k*y i)*x k):=H3 fun k hk=>E1 (h2 k hk) (hx k hk)
 have e2:aN nn (fun k=>aN m (fun i=>a i k*y i)*x k)=aN m (fun i=>y i*aN nn (fun k=>a i k*x k)):=by
  have:∀k,aN m (fun i=>a i k*y i)*x k=aN m (fun i=>y i*(a i k*x k)):=fun k=>by
   rw[Je,←g5]
   exact az fun i _=>by grind
  rw[az fun k _=>this k,GU]
  exact az fun i _=>g5 _ _ _
 have e3:aN m (fun i=>y i*aN nn (fun k=>a i k*x k))≤aN m (fun i=>y i*b i):=H3 fun i hi=>Rat.mul_le_mul_of_nonneg_left (h1 i hi) (hy i hi)
 grind
end
section
theorem pAdd(x y:Nu):io (nv x) (nv y)=some (nv (jK x y)):=by rw[qi];exact NZ x.2 y.2
theorem pMul(x y:Nu):im (nv x) (nv y)=some (nv (lM x y)):=by rw[rO];exact NX x.2 y.2
theorem Ow(x:Nu):aO (nv x)=some (ar x):=by rw[eE];exact gj x.2
theorem Sd(x:Nu):jy (nv x)=some (bD x):=by rw[Bt];exact Vz x.2
theorem pCmp(x y:Nu):fx (nv x) (nv y)=some (nh x y):=by rw[D2];exact NY x.2 y.2
theorem pOf {n:Int}(h:-2≤n∧n≤2):pG n=some (nv (nOf n)):=G_rOf (by omega) (by omega)
theorem pBad:eU=some (nv (nuR none)):=tO
theorem mget {l:List Nu}{i:Nat}(h:i<l.length):(l.map nv)[i]! =nv l[i]! :=by
 rw[bL _ _ (by rw[bb];exact h),Fb,bL l i h]
theorem qO {l:List Nu}{i:Nat}(h:i<l.length):(l.map nv)[((i:Nat):Int).toNat]! =nv l[i]! :=by
 rw[show ((i:Nat):Int).toNat=i by omega];exact mget h
theorem Ms {x y:Nu}:nv x=nv y↔x=y:=⟨fun h=>Subtype.ext h,fun h=>by rw[h]⟩
theorem Ro {s:Int}(h1:0≤s)(h2:s≤18446744073709551614):decide (i64.wrap s=0)=decide (s=0):=by
 rw[IntKind.wrap_i64]
 by_cases h:s=0
 ·rw[aA h,aA (by omega)]
 ·rw[a8 h,a8 (by omega)]
section
variable {R:Type}
theorem pK(b x:Bool):cnd b (some x) (some false)=some (b&&x):=by cases b <;> rfl
theorem cOr(b x:Bool):cnd b (some true) (some x)=some (b||x):=by cases b <;> rfl
theorem cF(x y:Option R):cnd false x y=y:=rfl
theorem cT(x y:Option R):cnd true x y=x:=rfl
theorem rr {n:Nat}(hn:n≤9223372036854775807)(ok:Nat→Bool)(res:Nat→R){b:Int→Option (Int⊕(R⊕Unit))}(h:∀i:Nat,i<n→b i=cnd (!ok i) (some (.inr (.inl (res i)))) (some (.inl (i64.wrap ((i:Int)+(1:Int))))))(he:b n=some (.inr (.inr ()))):
  ∃y,bq b (0:Int)=some y∧match y with| .inl r=>∃i,i<n∧ok i=false∧r=res i| .inr _=>(List.range n).all ok=true:=by
 refine vE (b:=b) (fun i:Int=>0≤i∧i≤n∧∀j:Nat,j<i.toNat→ok j=true) (fun i=>(n - i).toNat) _ (fun i ⟨h1,h2,h3⟩=>?_) 0 ⟨by omega,by omega,fun j hj=>absurd hj (by simp)⟩
 by_cases hi:i<n
 ·obtain⟨k,rfl⟩:∃k:Nat,i=k:=⟨i.toNat,by omega⟩
  have hk:k<n:=by omega
  rw[h k hk]
  cases hg:ok k with
  |false=>exact .inr ⟨.inl (res k),rfl,k,hk,hg,rfl⟩
  |true=>
   refine .inl ⟨(k:Int)+1,by rw[d6 (by omega) (by omega)];rfl,⟨by omega,by omega,fun j hj=>?_⟩,by omega⟩
   rcases dX j k with h4|h4
   ·exact h3 j (by omega)
   ·obtain rfl:j=k:=by omega
    exact hg
 ·obtain rfl:i=n:=by omega
  exact .inr ⟨.inr (),he,ba.2 fun j hj=>h3 j (by have:=kC.1 hj;omega)⟩
theorem t0 {n:Nat}(hn:n≤9223372036854775807)(ok:Nat→Bool){b:Int→Option (Int⊕(Bool⊕Unit))}(h:∀i:Nat,i<n→b i=cnd (!ok i) (some (.inr (.inl false))) (some (.inl (i64.wrap ((i:Int)+(1:Int))))))(he:b n=some (.inr (.inr ()))):
  (bnd (bq b (0:Int)) fun y=>match y with| .inl r=>some r| .inr ()=>some true)=some ((List.range n).all ok):=by
 obtain⟨y,hy,hp⟩:=rr hn ok (fun _=>false) h he
 rw[hy]
 cases y with
 |inl r=>
  obtain⟨i,h1,h2,rfl⟩:=hp
  have:(List.range n).all ok=false:=by rw[Nz];exact⟨i,kC.2 h1,by rw[h2];simp⟩
  rw[this];rfl
 |inr u=>rw[hp];rfl
end
theorem Hs {l:List Nu}(p:Nu→Bool):(List.range l.length).all (fun i=>p l[i]!)=l.all p:=by
 rw[ER,ba,ba]
 constructor
 ·intro h x hx
  obtain⟨i,hi,rfl⟩:=w5.1 hx
  have:=h i (kC.2 hi)
  rwa[bL l i hi] at this
 ·intro h i hi
  have hi:=kC.1 hi
  rw[bL l i hi]
  exact h _ (nO _)
def Gr(rows R Cc:Int)(A:List Nu):Bool:=decide (0≤R)&&(decide (0≤Cc)&&(decide (R≤rows)&&(decide (Cc≤2000)&&(decide ((A.length:Int)=R*Cc)&&A.all ar))))
def mW(R Cc:Int)(A B C:List Nu):Bool:=Gr 2000 R Cc A&&(decide ((B.length:Int)=R)&&(decide ((C.length:Int)=Cc)&&(B.all ar&&C.all ar)))
def sT(R Cc:Int)(A B:List Nu):Bool:=Gr 1000 R Cc A&&(decide ((B.length:Int)=R)&&B.all ar)
section
variable {R Cc:Int} {A B C:List Nu}
theorem Fu {rows:Int}(hr:rows≤1000000)(hA:A.length≤1000000):fX ⟨R,Cc,A.map nv⟩ rows=some (Gr rows R Cc A):=by
 unfold fX Gr
 dsimp only
 rw[uw hA,bb]
 by_cases h1:0≤R
 ·by_cases h2:0≤Cc
  ·by_cases h3:R≤rows
   ·by_cases h4:Cc≤2000
    ·have hmul:0≤R*Cc∧R*Cc≤1000000*2000:=⟨Int.mul_nonneg h1 h2,Int.mul_le_mul (by omega) h4 h2 (by omega)⟩
     rw[d6 (by omega) (by omega)]
     simp only[ab,pK]
    ·simp only[a8 h4,cF,pK,ab,u9,w4]
   ·simp only[a8 h3,cF,pK,ab,u9,w4]
  ·simp only[a8 h2,cF,pK,ab,u9,w4]
 ·simp only[a8 h1,cF,pK,ab,u9,w4]
theorem Jx(hA:A.length≤1000000)(hB:B.length≤1000000)(hC:C.length≤1000000):gV ⟨⟨R,Cc,A.map nv⟩,B.map nv,C.map nv⟩=some (mW R Cc A B C):=by
 unfold gV mW
 dsimp only
 rw[Fu (by omega) hA,uw hB,uw hC,bb,bb]
 simp only[ab,pK]
theorem Ft(hA:A.length≤1000000)(hB:B.length≤1000000):fW ⟨R,Cc,A.map nv⟩ (B.map nv)=some (sT R Cc A B):=by
 unfold fW sT
 dsimp only
 rw[Fu (by omega) hA,uw hB,bb]
 simp only[ab,pK]
theorem p9 {c x:List Nu}(hc:c.length≤1000000∨x.length≤1000000):bU (c.map nv) (x.map nv)=some (nv (bn c x)):=by
 unfold bU bn
 rw[bb,bb]
 by_cases h:c.length=x.length
 ·rw[ci _ _,ai h,pOf (by omega),ab]
  have key:=t3 (b:=g8 (c.map nv) (x.map nv)) (fun i:Nat=>((i:Int),nv (om c x i))) 0 c.length (nv (om c x c.length)) (cr _) (fun i _ hi=>?_) ?_
  ·rw[show (((0:Nat):Int),nv (om c x 0))=((0:Int),nv (nOf 0)) from rfl] at key
   rw[key];rfl
  ·unfold g8
   dsimp only
   rw[bb,bb,cy _ _,aB,aB,qO hi,qO (by omega),pMul,ab,pAdd,ab,d6 (by omega) (by omega)]
   rfl
  ·unfold g8
   dsimp only
   rw[bb,ci _ _]
 ·rw[cy _ _,ah h,pBad];rfl
theorem vm {l:List Nu}{n:Nat}(hl:l.length≤9223372036854775807):eb (l.map nv) n=some (Id l n):=by
 have h1:∀x,ff (nv x)=some (!(ar x&&decide (0≤bD x))):=fun x=>by
  unfold ff
  rw[Ow,Sd]
  simp only[ab,cOr]
  congr 1
  cases ar x
  ·rfl
  ·by_cases h:0≤bD x
   ·rw[aA h,a8 (by omega)];rfl
   ·rw[a8 h,aA (by omega)];rfl
 obtain⟨y,hy,hp⟩:=rr (b:=aK (l.map nv)) (n:=l.length) (by omega) (fun i=>ar l[i]! &&decide (0≤bD l[i]!)) (fun i=>(i:Int)) (fun i hi=>by
  unfold aK
  rw[bb,cy _ _,aB,qO hi,h1,ab]) (by
  unfold aK
  rw[bb,ci _ _])
 have h2:aL (l.map nv)=some (!(l.all fun x=>ar x&&decide (0≤bD x))):=by
  unfold aL bg
  rw[hy]
  rw[Hs (fun x=>ar x&&decide (0≤bD x))] at hp
  cases y with
  |inl r=>
   obtain⟨i,h3,h4,rfl⟩:=hp
   have:(l.all fun x=>ar x&&decide (0≤bD x))=false:=by rw[Nz];exact⟨l[i]!,by rw[bL l i h3];exact nO _,by rw[h4];simp⟩
   rw[this]
   show some (decide ((0:Int)≤(i:Int)))=_
   rw[aA (by omega)];rfl
  |inr u=>rw[hp];rfl
 unfold eb Id
 rw[h2,bb]
 simp only[ab,pK,Bool.not_not]
 congr 2
 by_cases h:l.length=n
 ·rw[aA h,aA (by omega)]
 ·rw[a8 h,a8 (by omega)]
end
end
section
section
variable {m nn:Nat} {A B C x y b:List Nu}
theorem yZ {i:Nat}(hm:m≤2000)(hn:nn≤2000)(hi:i<m):i*nn+nn≤m*nn∧m*nn≤2000*2000∧(i+1)*nn=i*nn+nn:=by
 have h:(i+1)*nn=i*nn+nn:=by rw[bX];omega
 refine⟨?_,kD hm hn,h⟩
 rw[←h];exact cK _ hi
theorem Pu(hA:A.length=m*nn)(hm:m≤2000)(hn:nn≤2000){i:Nat}(hi:i<m):ja ⟨m,nn,A.map nv⟩ i=some ((ji A nn i).map nv):=by
 obtain⟨h1,h2,h3⟩:=yZ hm hn hi
 unfold ja
 dsimp only
 have e1:i64.wrap ((i:Int)*(nn:Int))=((i*nn:Nat):Int):=by rw[←ig,d6 (by omega) (by omega)]
 have e2:i64.wrap ((i64.wrap ((i:Int)+1))*(nn:Int))=((i*nn+nn:Nat):Int):=by
  rw[d6 (z:=(i:Int)+1) (by omega) (by omega),show (i:Int)+1=((i+1:Nat):Int) by omega,←ig,h3,d6 (by omega) (by omega)]
 rw[e1,e2,bb,aB]
 unfold yR ji
 rw[←xb,←vf]
 congr 3
 congr 1;omega
theorem NW(hA:A.length=m*nn)(hm:m≤2000)(hn:nn≤2000){k:Nat}(hk:k<nn):iE ⟨m,nn,A.map nv⟩ k=some ((wQ A m nn k).map nv):=by
 unfold iE
 have key:=t3 (b:=fK ⟨m,nn,A.map nv⟩ k) (fun i:Nat=>(((List.range i).map fun j=>A[j*nn+k]!).map nv,(i:Int))) 0 m ((wQ A m nn k).map nv) (cr _) (fun i _ hi=>?_) ?_
 ·rw[show ((((List.range 0).map fun j=>A[j*nn+k]!).map nv,((0:Nat):Int)))=(([]:List am),(0:Int)) from rfl] at key
  rw[key];rfl
 ·obtain⟨h1,h2,h3⟩:=yZ hm hn hi
  have e1:i64.wrap ((i64.wrap ((i:Int)*(nn:Int)))+(k:Int))=((i*nn+k:Nat):Int):=by
   have e0:i64.wrap ((i:Int)*(nn:Int))=((i*nn:Nat):Int):=by rw[←ig,d6 (by omega) (by omega)]
   rw[e0,d6 (by omega) (by omega)];omega
  unfold fK
  dsimp only
  rw[e1,cy _ _,aB (by rw[bb];omega),qO (by omega),aB (by simp;omega),d6 (by omega) (by omega),vL,iP,iP]
  rfl
 ·unfold fK
  dsimp only
  rw[ci _ _]
  rfl
theorem H8(A:List Nu)(nn i:Nat):(ji A nn i).length≤nn:=by unfold ji;rw[eg];omega
theorem cmpX {ok:Int→Bool}(lines:Nat→List Nu)(i:Nat)(v w:Nu)(hv:v=bn (lines i) x)(hw:w=b[i]!){f:Int→Option Bool}(hf:∀c,f c=some (ok c)):
  (bnd (S:=Bool) (bnd (aO (nv v)) fun x8=>cnd (!x8) (some true) (bnd (fx (nv v) (nv w)) fun sJ=>bnd (f sJ) fun qA=>some (!qA))) fun mT=>cnd mT (some (.inr (.inl false))) (some (.inl (i64.wrap ((i:Int)+(1:Int))))))=(cnd (!(ar (bn (lines i) x)&&ok (nh (bn (lines i) x) b[i]!))) (some (.inr (.inl false))) (some (.inl (i64.wrap ((i:Int)+(1:Int))))):Option (Int⊕(Bool⊕Unit))):=by
 subst hv hw
 rw[Ow,pCmp]
 simp only[ab,hf]
 cases ar (bn (lines i) x) <;> cases ok (nh (bn (lines i) x) b[i]!) <;> rfl
theorem Jw(hA:A.length=m*nn)(hm:m≤2000)(hn:nn≤2000)(hb:b.length≤m):bc ⟨m,nn,A.map nv⟩ (x.map nv) (b.map nv)=some (C4 (ji A nn) x b fun c=>decide (c≤0)):=by
 unfold bc C4
 refine t0 (by omega) (fun i=>ar (bn (ji A nn i) x)&&decide (nh (bn (ji A nn i) x) b[i]!≤0)) (fun i hi=>?_) ?_
 ·unfold bz
  have:=H8 A nn i
  rw[bb,cy _ _,aB,Pu hA hm hn (by omega),ab,p9 (.inl (by omega)),ab,qO hi]
  exact cmpX (ok:=fun c=>decide (c≤0)) (ji A nn) i _ _ rfl rfl fun c=>rfl
 ·unfold bz
  rw[bb,ci _ _]
theorem GM(hA:A.length=m*nn)(hm:m≤2000)(hn:nn≤2000)(hb:b.length≤m):a7 ⟨m,nn,A.map nv⟩ (x.map nv) (b.map nv)=some (C4 (ji A nn) x b fun c=>decide (c=0)):=by
 unfold a7 C4
 refine t0 (by omega) (fun i=>ar (bn (ji A nn i) x)&&decide (nh (bn (ji A nn i) x) b[i]! =0)) (fun i hi=>?_) ?_
 ·unfold bu
  have:=H8 A nn i
  rw[bb,cy _ _,aB,Pu hA hm hn (by omega),ab,p9 (.inl (by omega)),ab,qO hi]
  exact cmpX (ok:=fun c=>decide (c=0)) (ji A nn) i _ _ rfl rfl fun c=>rfl
 ·unfold bu
  rw[bb,ci _ _]
theorem yE(hA:A.length=m*nn)(hm:m≤2000)(hn:nn≤2000)(hb:b.length≤nn):aJ ⟨m,nn,A.map nv⟩ (x.map nv) (b.map nv)=some (C4 (wQ A m nn) x b fun c=>decide (0≤c)):=by
 unfold aJ C4
 refine t0 (by omega) (fun i=>ar (bn (wQ A m nn i) x)&&decide (0≤nh (bn (wQ A m nn i) x) b[i]!)) (fun i hi=>?_) ?_
 ·unfold bj
  have:(wQ A m nn i).length=m:=by simp[wQ]
  rw[bb,cy _ _,aB,NW hA hm hn (by omega),ab,p9 (.inl (by omega)),ab,qO hi]
  exact cmpX (ok:=fun c=>decide (0≤c)) (wQ A m nn) i _ _ rfl rfl fun c=>rfl
 ·unfold bj
  rw[bb,ci _ _]
theorem HJ(hA:A.length=m*nn)(hm:m≤2000)(hn:nn≤2000)(hb:b.length≤m)(hx:x.length≤9223372036854775807)(B C:List am):dQ (x.map nv) (b.map nv) ⟨⟨m,nn,A.map nv⟩,B,C⟩=some (lD m nn A x b):=by
 unfold dQ lD
 dsimp only
 rw[vm hx,Jw hA hm hn hb]
 simp only[ab,pK]
theorem LE(hA:A.length=m*nn)(hm:m≤2000)(hn:nn≤2000)(hb:b.length≤nn)(hy:y.length≤9223372036854775807)(k:Int)(xs rs B C:List am):eF (b.map nv) ⟨k,xs,y.map nv,rs⟩ ⟨⟨m,nn,A.map nv⟩,B,C⟩=some (pV m nn A y b):=by
 unfold eF pV
 dsimp only
 rw[vm hy,yE hA hm hn hb]
 simp only[ab,pK]
theorem LD(v:Nu)(s:Int):fV (nv v) s=some (qX v s):=by
 unfold fV qX
 rw[Ow,Sd]
 simp only[ab,pK]
theorem Jv {n:Nat}(h:n≤2000):fm n=some ((List.replicate n (nOf 0)).map nv):=by
 unfold fm
 rw[ai (by omega),Fa]
 congr 2
end
end
section
def xV(a:Ans):ct:=⟨a.kind,a.x.map nv,a.y.map nv,a.ray.map nv⟩
theorem cN(b x:Bool):cnd b (some false) (some x)=some (!b&&x):=by cases b <;> rfl
structure Fw(a:Ans):Prop where
 x:a.x.length≤9223372036854775807
 y:a.y.length≤9223372036854775807
 ray:a.ray.length≤9223372036854775807
section
variable {m nn:Nat} {A B C:List Nu} {a:Ans}
theorem QY(hA:A.length=m*nn)(hm:m≤2000)(hn:nn≤2000)(hB:B.length=m)(hC:C.length=nn)(ha:Fw a):jt ⟨⟨m,nn,A.map nv⟩,B.map nv,C.map nv⟩ (xV a)=some (iT m nn A B C a):=by
 have hx:=ha.x
 have hy:=ha.y
 have hr:=ha.ray
 unfold jt iT xV
 dsimp only
 rw[HJ hA hm hn (by omega) (by omega),LE hA hm hn (by omega) (by omega),p9 (.inl (by omega)),p9 (.inr (by omega)),Jv hn,Jv hm,p9 (.inl (by omega))]
 simp only[ab,LD,Ow]
 rw[LE hA hm hn (by simp) (by omega),HJ hA hm hn (by simp) (by omega)]
 simp only[ab,bb]
 by_cases h1:a.kind=1
 ·rw[cy _ _ h1,ai h1]
  simp only[pK,cOr,cN,ab,Bool.not_or,Bool.not_not,Ms]
  congr 2
  rw[Jd]
  congr 1
  by_cases h:a.ray.length=0
  ·rw[aA h,a8 (by omega)];rfl
  ·rw[a8 h,aA (by omega)];rfl
 ·rw[ci _ _ h1,ah h1]
  by_cases h2:a.kind=2
  ·rw[cy _ _ h2,ai h2]
   simp only[pK,ab,Jd]
   rw[Ro (by omega) (by omega)]
   congr 2
   by_cases h:a.x.length+a.ray.length=0
   ·rw[aA h,aA (by omega)]
   ·rw[a8 h,a8 (by omega)]
  ·rw[ci _ _ h2,ah h2]
   by_cases h3:a.kind=3
   ·rw[cy _ _ h3,ai h3]
    simp only[pK,ab,Jd]
    congr 2
    by_cases h:a.y.length=0
    ·rw[aA h,aA (by omega)]
    ·rw[a8 h,a8 (by omega)]
   ·rw[ci _ _ h3,ah h3]
theorem yK {R Cc:Int}(h:mW R Cc A B C=true):∃m nn:Nat,R=m∧Cc=nn∧m≤2000∧nn≤2000∧A.length=m*nn∧B.length=m∧C.length=nn∧A.all ar=true∧B.all ar=true∧C.all ar=true:=by
 unfold mW Gr at h
 simp only[b8,r9] at h
 obtain⟨⟨h1,h2,h3,h4,h5,h6⟩,h7,h8,h9,xU⟩:=h
 refine⟨R.toNat,Cc.toNat,by omega,by omega,by omega,by omega,?_,by omega,by omega,h6,h9,xU⟩
 have e1:R=(R.toNat:Int):=by omega
 have e2:Cc=(Cc.toNat:Int):=by omega
 rw[e1,e2,←ig] at h5
 omega
def uU(R Cc:Int)(A B C:List Nu)(a:Ans):Int:=if mW R Cc A B C then (if iT R.toNat Cc.toNat A B C a then 0 else 250) else 1
theorem Pv {R Cc:Int}(hA:A.length≤1000000)(hB:B.length≤1000000)(hC:C.length≤1000000)(ha:Fw a):jb ⟨⟨R,Cc,A.map nv⟩,B.map nv,C.map nv⟩ (xV a)=some (uU R Cc A B C a):=by
 unfold jb uU
 rw[Jx hA hB hC,ab]
 cases hv:mW R Cc A B C with
 |false=>rfl
 |true=>
  obtain⟨m,nn,rfl,rfl,hm,hn,h1,h2,h3,_⟩:=yK hv
  rw[QY h1 hm hn h2 h3 ha]
  show cnd (!(iT m nn A B C a)) (some (250:Int)) (some (0:Int))=some (if iT m nn A B C a=true then 0 else 250)
  cases iT m nn A B C a <;> rfl
def Ew(m nn:Nat)(A B:List Nu)(a:Ans):Bool:=
 if a.kind=1 then decide (a.y.length+a.ray.length=0)&&(Id a.x nn&&C4 (ji A nn) a.x B fun c=>decide (c=0))
 else if a.kind=2 then decide (a.x.length+a.ray.length=0)&&(decide (a.y.length=m)&&(a.y.all ar&&(C4 (wQ A m nn) a.y (List.replicate nn (nOf 0)) (fun c=>decide (0≤c))&&qX (bn a.y B) (-1))))
 else false
def EI(R Cc:Int)(A B:List Nu)(a:Ans):Int:=if sT R Cc A B then (if Ew R.toNat Cc.toNat A B a then 0 else 250) else 1
theorem Cl {R Cc:Int}(h:sT R Cc A B=true):∃m nn:Nat,R=m∧Cc=nn∧m≤1000∧nn≤2000∧A.length=m*nn∧B.length=m∧A.all ar=true∧B.all ar=true:=by
 unfold sT Gr at h
 simp only[b8,r9] at h
 obtain⟨⟨h1,h2,h3,h4,h5,h6⟩,h7,h9⟩:=h
 refine⟨R.toNat,Cc.toNat,by omega,by omega,by omega,by omega,?_,by omega,h6,h9⟩
 have e1:R=(R.toNat:Int):=by omega
 have e2:Cc=(Cc.toNat:Int):=by omega
 rw[e1,e2,←ig] at h5
 omega
theorem Jz {R Cc:Int}(hA:A.length≤1000000)(hB:B.length≤1000000)(ha:Fw a):gu ⟨R,Cc,A.map nv⟩ (B.map nv) (xV a)=some (EI R Cc A B a):=by
 have hx:=ha.x
 have hy:=ha.y
 have hr:=ha.ray
 unfold gu EI
 rw[Ft hA hB,ab]
 cases hv:sT R Cc A B with
 |false=>rfl
 |true=>
  obtain⟨m,nn,rfl,rfl,hm,hn,h1,h2,_⟩:=Cl hv
  have key:∀(e:Option Bool),e=some (Ew m nn A B a)→(cnd (!true) (some (1:Int)) (bnd e fun ey=>cnd (!ey) (some (250:Int)) (some (0:Int))))=some (if true=true then (if Ew ((m:Int)).toNat ((nn:Int)).toNat A B a=true then 0 else 250) else 1):=fun e he=>by
   rw[he]
   show cnd (!(Ew m nn A B a)) (some (250:Int)) (some (0:Int))=some (if Ew m nn A B a=true then 0 else 250)
   cases Ew m nn A B a <;> rfl
  refine key _ ?_
  unfold Ew xV
  dsimp only
  simp only[bb]
  by_cases k1:a.kind=1
  ·rw[cy _ _ k1,ai k1,vm (by omega),GM h1 (by omega) hn (by omega)]
   simp only[pK,ab]
   rw[Ro (by omega) (by omega)]
   congr 2
   by_cases h:a.y.length+a.ray.length=0
   ·rw[aA h,aA (by omega)]
   ·rw[a8 h,a8 (by omega)]
  ·rw[ci _ _ k1,ah k1]
   by_cases k2:a.kind=2
   ·rw[cy _ _ k2,ai k2,Jv hn,Ro (by omega) (by omega)]
    by_cases h:a.x.length+a.ray.length=0
    ·rw[aA h,cy _ _]
     by_cases h4:a.y.length=m
     ·rw[aA h4,cy _ _,uw (by omega),p9 (.inr (by omega))]
      simp only[ab,LD]
      rw[yE h1 (by omega) hn (by simp)]
      simp only[pK,ab,B9]
     ·rw[a8 h4,ci _ _];rfl
    ·rw[a8 h,ci _ _];rfl
   ·rw[ci _ _ k2,ah k2]
end
theorem qGood(x:Nu):fg (nv x)=some (ar x):=by rw[eE];exact R_Good x.2
theorem Vh {l:List Nu}(hl:l.length≤9223372036854775807):mj (l.map nv)=some (l.all ar):=by
 unfold mj
 rw[←Hs]
 refine t0 (by omega) (fun i=>ar l[i]!) (fun i hi=>?_) ?_
 ·unfold oF
  rw[bb,cy _ _,aB,qO hi,qGood,ab]
 ·unfold oF
  rw[bb,ci _ _]
section
variable {R Cc:Int} {A B C:List Nu}
theorem Vi {rows:Int}(hr:rows≤1000000)(hA:A.length≤9223372036854775807):ml ⟨R,Cc,A.map nv⟩ rows 2000=some (Gr rows R Cc A):=by
 unfold ml Gr
 dsimp only
 rw[Vh hA,bb]
 by_cases h1:0≤R
 ·by_cases h2:0≤Cc
  ·by_cases h3:R≤rows
   ·by_cases h4:Cc≤2000
    ·have hmul:0≤R*Cc∧R*Cc≤1000000*2000:=⟨Int.mul_nonneg h1 h2,Int.mul_le_mul (by omega) h4 h2 (by omega)⟩
     rw[d6 (by omega) (by omega)]
     simp only[ab,pK]
    ·simp only[a8 h4,cF,pK,ab,u9,w4]
   ·simp only[a8 h3,cF,pK,ab,u9,w4]
  ·simp only[a8 h2,cF,pK,ab,u9,w4]
 ·simp only[a8 h1,cF,pK,ab,u9,w4]
theorem R_Valid(hA:A.length≤9223372036854775807)(hB:B.length≤9223372036854775807)(hC:C.length≤9223372036854775807):nk ⟨⟨R,Cc,A.map nv⟩,B.map nv,C.map nv⟩=some (mW R Cc A B C):=by
 unfold nk mW
 dsimp only
 rw[Vi (by omega) hA,Vh hB,Vh hC,bb,bb]
 simp only[ab,pK]
theorem NV {a b:List Nu}(ha:a.length≤9223372036854775807):kX (a.map nv) (b.map nv)=some (decide (a=b)):=by
 unfold kX
 rw[bb,bb]
 by_cases h:a.length=b.length
 ·rw[ci _ _]
  have:=t0 (b:=j8 (a.map nv) (b.map nv)) (n:=a.length) (by omega) (fun i=>decide (a[i]! =b[i]!)) (fun i hi=>by
   unfold j8
   rw[bb,bb,cy _ _,aB,aB,qO hi,qO (by omega)]
   congr 1
   by_cases h2:a[i]! =b[i]!
   ·rw[aA h2,a8 (by rw[Ms];exact fun h3=>h3 h2)];rfl
   ·rw[a8 h2,aA (by rw[Ms];exact h2)];rfl) (by
   unfold j8
   rw[bb,ci _ _])
  refine this.trans ?_
  congr 1
  rw[ER,ba,r9]
  constructor
  ·intro h2
   refine Fc h fun i h3 h4=>?_
   have:=bw (h2 i (kC.2 h3))
   rwa[bL a i h3,bL b i h4] at this
  ·rintro rfl i _
   exact aA rfl
 ·rw[cy _ _,a8 (fun e=>h (by rw[e]))]
theorem Ju {a b:Ans}(ha:Fw a):iF (xV a) (xV b)=some (decide (a=b)):=by
 have hx:=ha.x
 have hy:=ha.y
 have hr:=ha.ray
 unfold iF xV
 dsimp only
 rw[NV (by omega),NV (by omega),NV (by omega)]
 simp only[ab,pK]
 congr 1
 obtain⟨k,x,y,r⟩:=a
 obtain⟨k',x',y',r'⟩:=b
 rw[ER]
 simp only[b8,r9,Ans.mk.injEq]
end
end
def kj(er:List am)(mY:Int):Int→Option (Int⊕(Bool⊕Unit)):=fun aC=>cnd (decide (aC<((er).length:Int))) (bnd (S:=Bool) (gd (0≤aC∧aC<((er).length:Int)) (bnd (fg ((er)[(aC).toNat]!)) fun x4=>cnd (!x4) (some (true)) (gd (0≤aC∧aC<((er).length:Int)) (bnd (gf ((er)[(aC).toNat]!.vN)) fun x9=>cnd (decide (mY<x9)) (some (true)) (gd (0≤aC∧aC<((er).length:Int)) (bnd (gf ((er)[(aC).toNat]!.vD)) fun qc=>some (decide (mY<qc)))))))) fun aV=>cnd aV (some (.inr (.inl false))) (some (.inl (i64.wrap (aC+(1:Int)))))) (some (.inr (.inr ())))
def jM(er:List am)(mY:Int):Option Bool:=bnd (bq (kj er mY) (0:Int)) fun y18=>match y18 with| .inl r=>some r| .inr ()=>some true
theorem pT {er:List am}{mY:Int}{r:Bool}(h:jM er mY=some r):aq prog 27 [dL ak er,dI .i64 mY] (dB r):=by
 refine bh (rs:=[.tmp 4]) (fun cx hx h0=>?_) func27
 unfold jM at h
 refine ra hx ?_
 refine AW.seq (ra hx ?_)
 refine AW.block ?_
 obtain⟨y,hy,h⟩:=ae h
 refine lp (S:=Int) (X:=Bool⊕Unit) (fun aC=>[(0,dL ak er),(1,dI .i64 mY),(5,dI .i64 aC)]) (fun aC=>⟨[],[],0⟩) (PS (PR [.tmp 4] fun r=>dB r) (PE cx (.exit 0) (fun ()=>[]) fun ()=>⟨[],[],0⟩)) hy ?_ ?_ ?_
 exact wk0 h0 []
 clear hy h
 rintro aC y h
 dsimp only[kj] at h
 refine AW.seq (ra hx ?_)
 refine cdh h rfl (fun fJ h=>?_) (fun fJ h=>?_)
 refine AW.skip (AW.seq (AW.block (AW.seq ?_)))
 obtain⟨aV,hy,h⟩:=ae h
 refine jn ((PE cx .normal (fun aV=>[(0,dL ak er),(1,dI .i64 mY),(5,dI .i64 aC),(37,dB aV)]) fun aV=>⟨[],[],0⟩) aV) ?_ ?_
 replace h:=hy
 refine rq hx fun K hK=>?_
 iterate 2 refine sa ?_
 obtain⟨q8,h⟩:=ay h
 have xT:(aC).toNat<(er).length:=by omega
 refine sbr ?_
 refine s1 (d:=dG ak ((er)[(aC).toNat]!)) (jF (c:=ak) (l:=er) (n:=(aC).toNat) (o:=0) aR xT (eY _ _ rfl)) ?_
 refine scb h mC fun x4 h=>?_
 refine mbr ?_
 rcases aE h with⟨qP,h⟩|⟨qP,h⟩
 refine nbr hK ?_
 exact pe1 h h0 []
 iterate 2 refine ga qP ?_
 obtain⟨hc7,h⟩:=ay h
 have Rb:(aC).toNat<(er).length:=by omega
 refine gbr ?_
 refine ga qP ?_
 refine g1 (d:=dG ap ((er)[(aC).toNat]!.vN)) qP (jF (c:=ak) (l:=er) (n:=(aC).toNat) (o:=0) fc Rb (by first|exact rfl|exact pG0 _ _ _ rfl|exact pG1 _ _ _ _ rfl rfl)) ?_
 refine gcb h zS fun x9 h=>?_
 refine mbr ?_
 rcases aE h with⟨wh,h⟩|⟨wh,h⟩
 refine nbr hK ?_
 exact pe1 h h0 []
 iterate 2 refine ga wh ?_
 obtain⟨hc12,h⟩:=ay h
 have hn13:(aC).toNat<(er).length:=by omega
 refine gbr ?_
 refine ga wh ?_
 refine g1 (d:=dG ap ((er)[(aC).toNat]!.vD)) wh (jF (c:=ak) (l:=er) (n:=(aC).toNat) (o:=18) fc hn13 (by first|exact rfl|exact pG0 _ _ _ rfl|exact pG1 _ _ _ _ rfl rfl)) ?_
 refine gcb h zS fun qc h=>?_
 refine nbr hK ?_
 exact pe1 h h0 []
 refine lw0 ?_
 refine cdh h rfl (fun IF h=>?_) (fun IF h=>?_)
 refine ra hx ?_
 refine AW.ret ?_
 cases h
 refine PS.r ⟨by nofun,PS.l (PR.i ?_)⟩
 exact rv1
 refine AW.skip (rb hx ?_)
 exact pel h h0 []
 exact AW.exit (peq h h0 [])
 rcases y with r|⟨⟩
 rintro ex tm' hp' ⟨rfl,hw⟩
 cases h
 exact hw
 refine lwr ?_
 refine ra hx ?_
 exact AW.ret (rtv h)
def qr(mX:aU)(DR:Int)(mY:Int):Option Bool:=bnd (S:=Bool) (bnd (nk mX) fun x1=>cnd x1 (cnd (decide (mX.vA.vR≤DR)) (cnd (decide (mX.vA.vC≤DR)) (bnd (jM mX.vA.vV mY) fun x6=>cnd x6 (bnd (jM mX.vB mY) fun x9=>cnd x9 (bnd (jM mX.vC mY) fun nC=>some (nC)) (some (false))) (some (false))) (some (false))) (some (false))) (some (false))) fun bi=>some bi
theorem J3 {mX:aU}{DR:Int}{mY:Int}{r:Bool}(h:qr mX DR mY=some r):aq prog 25 [dG dJ mX,dI .i64 DR,dI .i64 mY] (dB r):=by
 refine bh (rs:=[.tmp 6]) (fun cx hx h0=>?_) func25
 unfold qr at h
 refine rs hx fun K hK=>?_
 refine s1 (d:=.pt 0 0) fQ ?_
 refine nbr hK ?_
 refine AW.seq ?_
 obtain⟨bi,hy,h⟩:=ae h
 refine jn ((PE cx .normal (fun bi=>[(6,dB bi)]) fun bi=>⟨[],[],0⟩) bi) ?_ ?_
 replace h:=hy
 refine rq hx fun K hK=>?_
 refine s1 (d:=dG dJ mX) (T_ldA rJ) ?_
 refine scb h Ga fun x1 h=>?_
 refine sa ?_
 rcases aE h with⟨fG,h⟩|⟨fG,h⟩
 refine mbr ?_
 rcases aE h with⟨FV,h⟩|⟨FV,h⟩
 refine mbr ?_
 rcases aE h with⟨rX,h⟩|⟨rX,h⟩
 iterate 2 refine ga rX ?_
 refine gbr ?_
 refine ga rX ?_
 refine gcb h pT fun x6 h=>?_
 refine mbr ?_
 rcases aE h with⟨ua,h⟩|⟨ua,h⟩
 refine ga ua ?_
 refine gbr ?_
 refine ga ua ?_
 refine gcb h pT fun x9 h=>?_
 refine mbr ?_
 rcases aE h with⟨wh,h⟩|⟨wh,h⟩
 refine ga wh ?_
 refine gbr ?_
 refine ga wh ?_
 refine gcb h pT fun nC h=>?_
 refine nbr hK ?_
 exact pe1 h h0 []
 refine nbr hK ?_
 exact pe1 h h0 []
 refine nbr hK ?_
 exact pe1 h h0 []
 refine nbr hK ?_
 exact pe1 h h0 []
 refine nbr hK ?_
 exact pe1 h h0 []
 refine nbr hK ?_
 exact pe1 h h0 []
 refine lw0 ?_
 exact AW.ret (rtv h)
def ly(er:List Int):(List am)×Int→Option (((List am)×Int)⊕((List am))):=fun (aP,bp)=>cnd (decide (bp<((er).length:Int))) (gd (0≤bp∧bp<((er).length:Int)) (bnd (pF ((er)[(bp).toNat]!)) fun x4=>gd ((aP++[x4]).length*136≤140737488355328) (some (.inl (aP++[x4],i64.wrap (bp+(1:Int))))))) (some (.inr aP))
def da(er:List Int):Option (List am):=bnd (bq (ly er) (([]:List am),(0:Int))) fun be=>some be
theorem eJ {er:List Int}{r:List am}(h:da er=some r):aq prog 40 [dL (cI .i64) er] (.own 43 ak.sz r.length (r.flatMap ak.f)):=by
 refine bh (rs:=[.tmp 2]) (fun cx hx h0=>?_) func40
 unfold da at h
 refine rs hx fun K hK=>?_
 refine s1 (d:=dO 0 ak ([]:List am)) (gF b9 aR) ?_
 refine nl hK ?_
 refine rs hx fun K hK=>?_
 refine s1 (d:=dO 1 ak ([]:List am)) (gF b9 aR) ?_
 refine nl hK ?_
 refine AW.seq (ra hx ?_)
 refine AW.block ?_
 obtain⟨be,hy,h⟩:=ae h
 refine lp (S:=(List am)×Int) (X:=(List am)) (fun (aP,bp)=>[(0,dL (cI .i64) er),(3,dO 0 ak aP),(4,dI .i64 bp)]) (fun (aP,bp)=>⟨[],[(0,(aP).length,36,43)],1⟩) (PE cx (.exit 0) (fun be=>[(3,dO 0 ak be)]) fun be=>⟨[],[(0,(be).length,36,43)],1⟩) hy ?_ ?_ ?_
 exact wk0 h0 [1]
 clear hy h
 rintro⟨aP,bp⟩ y h
 dsimp only[ly] at h
 refine AW.seq (ra hx ?_)
 refine cdh h rfl (fun fJ h=>?_) (fun fJ h=>?_)
 refine AW.skip (AW.seq (AW.block (rq hx fun K hK=>?_)))
 iterate 3 refine sa ?_
 obtain⟨q8,h⟩:=ay h
 have xT:(bp).toNat<(er).length:=by omega
 refine sbr ?_
 refine s1 (yC (c:=(cI .i64)) (l:=er) (n:=(bp).toNat) (o:=0) dW xT) ?_
 refine scb h DB fun x4 h=>?_
 refine s1 (lj ([x4]:List am) ak b9 aR) ?_
 obtain⟨hc6,h⟩:=ay h
 refine s1 (d:=dO 0 ak (aP++[x4])) (qN b9 aR hc6) ?_
 refine nbr hK ?_
 refine rb hx ?_
 exact pel h h0 [0]
 exact AW.exit (per h h0 [0])
 refine lw0 ?_
 refine ra hx ?_
 refine AW.ret ?_
 cases h
 exact od.own rfl rfl
def fy(jW:Int)(aI:List Int)(aQ:List Int)(oe:List Int):Option aU:=bnd (da aI) fun x1=>bnd (da aQ) fun x3=>bnd (da oe) fun x5=>some (⟨(⟨jW,((oe).length:Int),x1⟩:fE),x3,x5⟩:aU)
theorem nE {jW:Int}{aI:List Int}{aQ:List Int}{oe:List Int}{r:aU}(h:fy jW aI aQ oe=some r):aq prog 37 [dI .i64 jW,dL (cI .i64) aI,dL (cI .i64) aQ,dL (cI .i64) oe] (dG dJ r):=by
 refine bh (rs:=[.cell 8 26]) (fun cx hx h0=>?_) func37
 unfold fy at h
 refine rs hx fun K hK=>?_
 refine s1 (d:=.pt 0 0) (p8 rJ) ?_
 refine nl hK ?_
 refine rs hx fun K hK=>?_
 iterate 4 refine sa ?_
 obtain⟨x1,xy,h⟩:=ae h
 refine s1 (iN rfl (eJ xy) rfl (lA (au _) lAn)) ?_
 refine s2 (d2:=dG mu (⟨jW,((oe).length:Int),x1⟩:fE)) (dE (es:=[dI .i64 jW,dI .i64 ((oe).length:Int),dO 1 ak x1]) ye) (qk (wc (l7 _) (wc (l7 _) (wc (lc_x _) wcn)))) ?_
 refine sa ?_
 obtain⟨x3,SK,h⟩:=ae h
 refine s1 (iN rfl (eJ SK) rfl (lA (au _) lAn)) ?_
 refine sa ?_
 obtain⟨x5,Gu,h⟩:=ae h
 refine s1 (iN rfl (eJ Gu) rfl (lA (au _) lAn)) ?_
 refine s2 (d2:=dG dJ (⟨(⟨jW,((oe).length:Int),x1⟩:fE),x3,x5⟩:aU)) (dE (es:=[dI .i64 jW,dI .i64 ((oe).length:Int),dL ak x1,dO 2 ak x3,dO 3 ak x5]) rJ) (qk (wc (l7 _) (wc (l7 _) (wc (l7 _) (wc (lc_x _) (wc (lc_x _) wcn)))))) ?_
 refine s0 (GL (ds':=[dI .i64 jW,dI .i64 ((oe).length:Int),dL ak x1,dL ak x3,dL ak x5]) rJ) ?_
 refine nl hK ?_
 refine AW.ret ?_
 cases h
 exact od.mk1 (RZ (es:=(dJ.f (⟨(⟨jW,((oe).length:Int),x1⟩:fE),x3,x5⟩:aU)).map .e) rfl rJ rfl rfl (ltb rfl) (leb rfl) rfl (.inr (.inr ⟨_,(au _),rfl,rfl⟩)))
def gz(aI:Int)(aQ:Int):Option (List am):=bnd (mG aI (5:Int)) fun x1=>bnd (mG aQ (5:Int)) fun x3=>some [x1,x3]
theorem oh {aI:Int}{aQ:Int}{r:List am}(h:gz aI aQ=some r):aq prog 39 [dI .i64 aI,dI .i64 aQ] (.own 43 ak.sz r.length (r.flatMap ak.f)):=by
 refine bh (rs:=[.tmp 4]) (fun cx hx h0=>?_) func39
 unfold gz at h
 refine rs hx fun K hK=>?_
 refine s1 (d:=dO 0 ak ([]:List am)) (gF b9 aR) ?_
 refine nl hK ?_
 refine rs hx fun K hK=>?_
 refine sa ?_
 refine scb h zP fun x1 h=>?_
 refine sa ?_
 refine scb h zP fun x3 h=>?_
 refine s1 (lj ([x1,x3]:List am) ak b9 aR) ?_
 refine nbr hK ?_
 refine AW.ret ?_
 cases h
 exact od.own rfl rfl
def gv(mX:aU)(Ie:ct):Option Bool:=bnd (gW mX (100:Int)) fun x1=>bnd (S:=Bool) (cnd (decide (x1.2.2=(0:Int))) (bnd (iF x1.1 Ie) fun x4=>cnd x4 (bnd (jb mX x1.1) fun x7=>some (decide (x7=(0:Int)))) (some (false))) (some (false))) fun gZ=>some gZ
theorem og {mX:aU}{Ie:ct}{r:Bool}(h:gv mX Ie=some r):aq prog 38 [dG dJ mX,dG jC Ie] (dB r):=by
 refine bh (rs:=[.tmp 4]) (fun cx hx h0=>?_) func38
 unfold gv at h
 refine rs hx fun K hK=>?_
 refine s1 (d:=.pt 0 0) fQ ?_
 refine s1 (d:=.pt 1 0) fQ ?_
 refine nbr hK ?_
 refine rs hx fun K hK=>?_
 refine s1 (d:=dG dJ mX) (T_ldA rJ) ?_
 refine scb h qC fun x1 h=>?_
 iterate 4 refine sa ?_
 refine s1 (d:=.pt 2 0) (p8 o5) ?_
 refine s0 (GL (ds':=[dI .i64 x1.1.vKind,dL ak x1.1.vX,dL ak x1.1.vY,dL ak x1.1.vRay]) o5) ?_
 refine nbr hK ?_
 refine AW.seq ?_
 obtain⟨gZ,hy,h⟩:=ae h
 refine jn ((PE cx .normal (fun gZ=>[(4,dB gZ)]) fun gZ=>⟨[],[],0⟩) gZ) ?_ ?_
 replace h:=hy
 refine rq hx fun K hK=>?_
 refine mbr ?_
 rcases aE h with⟨fG,h⟩|⟨fG,h⟩
 refine g1 (d:=dG jC x1.1) fG (T_ldA o5) ?_
 refine g1 (d:=dG jC Ie) fG (T_ldA o5) ?_
 refine gcb h yI fun x4 h=>?_
 refine mbr ?_
 rcases aE h with⟨qP,h⟩|⟨qP,h⟩
 refine g1 (d:=dG dJ mX) qP (T_ldA rJ) ?_
 refine g1 (d:=dG jC x1.1) qP (T_ldA o5) ?_
 refine gcb h vt fun x7 h=>?_
 refine nbr hK ?_
 exact pe1 h h0 []
 refine nbr hK ?_
 exact pe1 h h0 []
 refine nbr hK ?_
 exact pe1 h h0 []
 refine lw0 ?_
 exact AW.ret (rtv h)
def iK :Option Bool:=bnd (fy (2:Int) [(1:Int),(2:Int),(3:Int),(1:Int)] [(4:Int),(6:Int)] [(1:Int),(1:Int)]) fun x1=>bnd (gz (8:Int) (6:Int)) fun x3=>bnd (gz (2:Int) (1:Int)) fun x5=>bnd (gv x1 (⟨(1:Int),x3,x5,([]:List am)⟩:ct)) fun x7=>bnd (fy (1:Int) [(1:Int)] [(-1:Int)] [(0:Int)]) fun x9=>bnd (da [(1:Int)]) fun sJ=>bnd (gv x9 (⟨(2:Int),([]:List am),sJ,([]:List am)⟩:ct)) fun qA=>bnd (fy (1:Int) [(-1:Int),(1:Int)] [(1:Int)] [(1:Int),(0:Int)]) fun JM=>bnd (da [(0:Int),(0:Int)]) fun o3=>bnd (da [(1:Int),(0:Int)]) fun vU=>bnd (gv JM (⟨(3:Int),o3,([]:List am),vU⟩:ct)) fun wm=>bnd (fy (1:Int) [(-1:Int)] [(-2:Int)] [(-1:Int)]) fun xY=>bnd (da [(2:Int)]) fun JE=>bnd (da [(1:Int)]) fun AV=>bnd (gv xY (⟨(1:Int),JE,AV,([]:List am)⟩:ct)) fun AT=>bnd (da [(1:Int),(1:Int),(1:Int),(-1:Int)]) fun HP=>bnd (da [(1:Int),(3:Int)]) fun LQ=>bnd (ls (⟨(2:Int),(2:Int),HP⟩:fE) LQ (100:Int)) fun zH=>bnd (S:=Bool) (cnd (decide (zH.2.2=(0:Int))) (cnd (decide (zH.1.vKind=(2:Int))) (bnd (da [(1:Int),(3:Int)]) fun LP=>bnd (gu (⟨(2:Int),(2:Int),HP⟩:fE) LP zH.1) fun x41=>some (decide (x41=(0:Int)))) (some (false))) (some (false))) fun HE=>bnd (S:=Bool) (cnd x7 (cnd qA (cnd wm (cnd AT (cnd HE (bnd (gz (8:Int) (6:Int)) fun x49=>bnd (gz (2:Int) (2:Int)) fun x51=>bnd (jb x1 (⟨(1:Int),x49,x51,([]:List am)⟩:ct)) fun x53=>some (decide (x53=(250:Int)))) (some (false))) (some (false))) (some (false))) (some (false))) (some (false))) fun n4=>some n4
theorem rF  {r:Bool}(h:iK=some r):aq prog 11 [] (dB r):=by
 refine bh (rs:=[.tmp 0]) (fun cx hx h0=>?_) func11
 unfold iK at h
 refine ra hx ?_
 refine rs hx fun K hK=>?_
 refine s1 (d:=dO 0 (cI .i64) [(1:Int),(2:Int),(3:Int),(1:Int)]) (kH cZ dW) ?_
 refine s1 (d:=dO 1 (cI .i64) [(4:Int),(6:Int)]) (kH cZ dW) ?_
 refine s1 (d:=dO 2 (cI .i64) [(1:Int),(1:Int)]) (kH cZ dW) ?_
 refine scb h nE fun x1 h=>?_
 refine s1 (d:=.pt 3 0) (p8 rJ) ?_
 refine s0 (GL (ds':=[dI .i64 x1.vA.vR,dI .i64 x1.vA.vC,dL ak x1.vA.vV,dL ak x1.vB,dL ak x1.vC]) rJ) ?_
 refine nl hK ?_
 refine rsd [38] hx fun K hK=>?_
 refine s1 (d:=dG dJ x1) (T_ldA rJ) ?_
 obtain⟨x3,SK,h⟩:=ae h
 refine s1 (iN rfl (oh SK) rfl (lA (au _) (lA (au _) lAn))) ?_
 obtain⟨x5,Gu,h⟩:=ae h
 refine s1 (iN rfl (oh Gu) rfl (lA (au _) (lA (au _) lAn))) ?_
 refine s1 (d:=.ag [dI .i64 (1:Int),dO 4 ak x3,dO 5 ak x5,dN]) (dE o5) ?_
 obtain⟨x7,SJ,h⟩:=ae h
 refine sq tok (og SJ) (by simp only[iW,l8,f5,ic,eI,b8];exact⟨cm _ _,rfl⟩) (lA (au _) (lA (qk (wc (l7 _) (wc (l7 _) (wc (l7 _) (wc (P9 rfl) wcn))))) lAn)) (.inl rfl) ?_
 refine nbr hK ?_
 refine rs hx fun K hK=>?_
 refine s1 (d:=dO 6 (cI .i64) [(1:Int)]) (kH cZ dW) ?_
 refine s1 (d:=dO 7 (cI .i64) [(-1:Int)]) (kH cZ dW) ?_
 refine s1 (d:=dO 8 (cI .i64) [(0:Int)]) (kH cZ dW) ?_
 refine scb h nE fun x9 h=>?_
 refine s1 (d:=dO 9 (cI .i64) [(1:Int)]) (kH cZ dW) ?_
 obtain⟨sJ,hx12,h⟩:=ae h
 refine s1 (iN rfl (eJ hx12) rfl (lA (au _) lAn)) ?_
 refine s1 (d:=.ag [dI .i64 (2:Int),dN,dO 10 ak sJ,dN]) (dE o5) ?_
 obtain⟨qA,SO,h⟩:=ae h
 refine s1 (tM rfl (og SO) (by simp only[iW,l8,f5,ic,eI,b8];exact⟨cm _ _,rfl⟩) (lA (au _) (lA (qk (wc (l7 _) (wc (P9 rfl) (wc (l7 _) (wc (P9 rfl) wcn))))) lAn)) (.inl rfl)) ?_
 refine nbr hK ?_
 refine rs hx fun K hK=>?_
 refine s1 (d:=dO 11 (cI .i64) [(-1:Int),(1:Int)]) (kH cZ dW) ?_
 refine s1 (d:=dO 12 (cI .i64) [(1:Int)]) (kH cZ dW) ?_
 refine s1 (d:=dO 13 (cI .i64) [(1:Int),(0:Int)]) (kH cZ dW) ?_
 refine scb h nE fun JM h=>?_
 refine s1 (d:=dO 14 (cI .i64) [(0:Int),(0:Int)]) (kH cZ dW) ?_
 obtain⟨o3,v9,h⟩:=ae h
 refine s1 (iN rfl (eJ v9) rfl (lA (au _) lAn)) ?_
 refine s1 (d:=dO 16 (cI .i64) [(1:Int),(0:Int)]) (kH cZ dW) ?_
 obtain⟨vU,Gv,h⟩:=ae h
 refine s1 (iN rfl (eJ Gv) rfl (lA (au _) lAn)) ?_
 refine s1 (d:=.ag [dI .i64 (3:Int),dO 15 ak o3,dN,dO 17 ak vU]) (dE o5) ?_
 obtain⟨wm,SN,h⟩:=ae h
 refine s1 (tM rfl (og SN) (by simp only[iW,l8,f5,ic,eI,b8];exact⟨cm _ _,rfl⟩) (lA (au _) (lA (qk (wc (l7 _) (wc (l7 _) (wc (P9 rfl) (wc (l7 _) wcn))))) lAn)) (.inl rfl)) ?_
 refine nbr hK ?_
 refine rs hx fun K hK=>?_
 refine s1 (d:=dO 18 (cI .i64) [(-1:Int)]) (kH cZ dW) ?_
 refine s1 (d:=dO 19 (cI .i64) [(-2:Int)]) (kH cZ dW) ?_
 refine s1 (d:=dO 20 (cI .i64) [(-1:Int)]) (kH cZ dW) ?_
 refine scb h nE fun xY h=>?_
 refine s1 (d:=dO 21 (cI .i64) [(2:Int)]) (kH cZ dW) ?_
 obtain⟨JE,hx26,h⟩:=ae h
 refine s1 (iN rfl (eJ hx26) rfl (lA (au _) lAn)) ?_
 refine s1 (d:=dO 23 (cI .i64) [(1:Int)]) (kH cZ dW) ?_
 obtain⟨AV,Ix,h⟩:=ae h
 refine s1 (iN rfl (eJ Ix) rfl (lA (au _) lAn)) ?_
 refine s1 (d:=.ag [dI .i64 (1:Int),dO 22 ak JE,dO 24 ak AV,dN]) (dE o5) ?_
 obtain⟨AT,MF,h⟩:=ae h
 refine s1 (tM rfl (og MF) (by simp only[iW,l8,f5,ic,eI,b8];exact⟨cm _ _,rfl⟩) (lA (au _) (lA (qk (wc (l7 _) (wc (l7 _) (wc (l7 _) (wc (P9 rfl) wcn))))) lAn)) (.inl rfl)) ?_
 refine nbr hK ?_
 refine rs hx fun K hK=>?_
 refine s1 (d:=dO 25 (cI .i64) [(1:Int),(1:Int),(1:Int),(-1:Int)]) (kH cZ dW) ?_
 obtain⟨HP,hx32,h⟩:=ae h
 refine s1 (iN rfl (eJ hx32) rfl (lA (au _) lAn)) ?_
 refine s2 (d2:=dG mu (⟨(2:Int),(2:Int),HP⟩:fE)) (dE (es:=[dI .i64 (2:Int),dI .i64 (2:Int),dO 26 ak HP]) ye) (qk (wc (l7 _) (wc (l7 _) (wc (lc_x _) wcn)))) ?_
 refine s1 (d:=.pt 27 0) (p8 ye) ?_
 refine s0 (GL (ds':=[dI .i64 (2:Int),dI .i64 (2:Int),dL ak HP]) ye) ?_
 refine nl hK ?_
 refine AW.seq ?_
 obtain⟨LQ,Qg,h⟩:=ae h
 obtain⟨zH,hx36,h⟩:=ae h
 refine jn (PE cx .normal (fun (_:Unit)=>[(1,.pt 0 0),(2,dB x7),(3,dB qA),(4,dB wm),(5,dB AT),(6,.pt 1 0),(7,.pt 2 0),(9,dI .i64 zH.2.2)]) (fun (_:Unit)=>⟨[(0,[dI .i64 x1.vA.vR,dI .i64 x1.vA.vC,dL ak x1.vA.vV,dL ak x1.vB,dL ak x1.vC]),(1,[dI .i64 (2:Int),dI .i64 (2:Int),dL ak HP]),(2,[dI .i64 zH.1.vKind,dL ak zH.1.vX,dL ak zH.1.vY,dL ak zH.1.vRay])],[],3⟩) ()) ?_ ?_
 refine dw (DW.split 2 8 (by decide) ?_ ?_)
 refine dwg [21] [0,1,2,3,4,5,6,7,8,9,10,11] hx (by kernel_rfl) (by kernel_rfl) (by kernel_rfl) fun K hK=>?_
 dsimp only[d8,mP,mZ,List.map]
 refine s1 (d:=dG mu (⟨(2:Int),(2:Int),HP⟩:fE)) (T_ldA ye) ?_
 refine s1 (Fp cZ dW) ?_
 refine s1 (iN rfl (eJ Qg) rfl (lA (au _) lAn)) ?_
 refine cq (vr hx36) ?_
 iterate 4 refine sa ?_
 refine s1 (d:=.pt 29 0) (p8 o5) ?_
 refine s0 (GL (ds':=[dI .i64 zH.1.vKind,dL ak zH.1.vX,dL ak zH.1.vY,dL ak zH.1.vRay]) o5) ?_
 iterate 2 refine sa ?_
 exact .nil (hK _ _ (pe0 h0 [3,27,29]))
 refine dwg [21] [0,1,8,2,3,4,5,6,7,9,10,11] hx (by kernel_rfl) (by kernel_rfl) (by kernel_rfl) fun K hK=>?_
 dsimp only[d8,mP,mZ,List.map]
 refine s1 (d:=dG mu (⟨(2:Int),(2:Int),HP⟩:fE)) (T_ldA ye) ?_
 refine s1 (Fp cZ dW) ?_
 refine s1 (d:=.pt 28 0) (p8 o5) ?_
 refine s1 (iN rfl (eJ Qg) rfl (lA (au _) lAn)) ?_
 refine cq (vr hx36) ?_
 iterate 4 refine sa ?_
 refine s0 (GL (ds':=[dI .i64 zH.1.vKind,dL ak zH.1.vX,dL ak zH.1.vY,dL ak zH.1.vRay]) o5) ?_
 iterate 2 refine sa ?_
 exact .nil (hK _ _ (pe0 h0 [3,27,28]))
 refine lw0 ?_
 refine AW.seq ?_
 obtain⟨HE,hy,h⟩:=ae h
 refine jn ((PE cx .normal (fun HE=>[(1,.pt 0 0),(2,dB x7),(3,dB qA),(4,dB wm),(5,dB AT),(10,dB HE)]) fun HE=>⟨[(0,[dI .i64 x1.vA.vR,dI .i64 x1.vA.vC,dL ak x1.vA.vV,dL ak x1.vB,dL ak x1.vC])],[],1⟩) HE) ?_ ?_
 replace h:=hy
 refine rqd [23] hx fun K hK=>?_
 refine mbr ?_
 rcases aE h with⟨hb37,h⟩|⟨hb37,h⟩
 refine mbr ?_
 rcases aE h with⟨hb38,h⟩|⟨hb38,h⟩
 refine g1 (d:=dG mu (⟨(2:Int),(2:Int),HP⟩:fE)) hb38 (T_ldA ye) ?_
 refine g1 hb38 (Fp cZ dW) ?_
 obtain⟨LP,hx40,h⟩:=ae h
 refine g1 hb38 (iN rfl (eJ hx40) rfl (lA (au _) lAn)) ?_
 refine g1 (d:=dG jC zH.1) hb38 (T_ldA o5) ?_
 obtain⟨x41,hx42,h⟩:=ae h
 refine sqg tok rfl rfl hb38 (wr hx42) (by simp only[iW,l8,f5,ic,eI,b8];exact⟨cm _ _,rfl,cm _ _⟩) (lA (au _) (lA (au _) (lA (au _) lAn))) (.inl rfl) ?_
 refine nbr hK ?_
 exact pe1 h h0 [0]
 refine nbr hK ?_
 exact pe1 h h0 [0]
 refine nbr hK ?_
 exact pe1 h h0 [0]
 refine lw0 ?_
 refine AW.seq ?_
 obtain⟨n4,hy,h⟩:=ae h
 refine jn ((PE cx .normal (fun n4=>[(0,dB n4)]) fun n4=>⟨[],[],0⟩) n4) ?_ ?_
 replace h:=hy
 refine rqd [19] hx fun K hK=>?_
 refine mbr ?_
 rcases aE h with⟨hb44,h⟩|⟨hb44,h⟩
 refine mbr ?_
 rcases aE h with⟨hb45,h⟩|⟨hb45,h⟩
 refine mbr ?_
 rcases aE h with⟨hb46,h⟩|⟨hb46,h⟩
 refine mbr ?_
 rcases aE h with⟨hb47,h⟩|⟨hb47,h⟩
 refine mbr ?_
 rcases aE h with⟨ID,h⟩|⟨ID,h⟩
 refine g1 (d:=dG dJ x1) ID (T_ldA rJ) ?_
 obtain⟨x49,hx50,h⟩:=ae h
 refine g1 ID (iN rfl (oh hx50) rfl (lA (au _) (lA (au _) lAn))) ?_
 obtain⟨x51,hx52,h⟩:=ae h
 refine g1 ID (iN rfl (oh hx52) rfl (lA (au _) (lA (au _) lAn))) ?_
 refine g1 (d:=.ag [dI .i64 (1:Int),dO 1 ak x49,dO 2 ak x51,dN]) ID (dE o5) ?_
 obtain⟨x53,hx54,h⟩:=ae h
 refine sqg tok rfl rfl ID (vt hx54) (by simp only[iW,l8,f5,ic,eI,b8];exact⟨cm _ _,rfl⟩) (lA (au _) (lA (qk (wc (l7 _) (wc (l7 _) (wc (l7 _) (wc (P9 rfl) wcn))))) lAn)) (.inl rfl) ?_
 refine nbr hK ?_
 exact pe1 h h0 []
 refine nbr hK ?_
 exact pe1 h h0 []
 refine nbr hK ?_
 exact pe1 h h0 []
 refine nbr hK ?_
 exact pe1 h h0 []
 refine nbr hK ?_
 exact pe1 h h0 []
 refine nbr hK ?_
 exact pe1 h h0 []
 refine lw0 ?_
 exact AW.ret (rtv h)
theorem Ux {A k:Nat}(h:A<2 ^ (k+1))(hb:(dg 65536 A (k / 16) / 2 ^ (k % 16)) % 2=0):A<2 ^ k:=by
 have e1:(dg 65536 A (k / 16)).testBit (k % 16)=A.testBit k:=by
  unfold dg
  rw[show (65536:Nat) ^ (k / 16)=2 ^ (16*(k / 16)) by rw[B5],show (65536:Nat)=2 ^ 16 by decide,Nat.testBit_mod_two_pow,Nat.testBit_div_two_pow,aA (ej _ (by decide)),B9]
  congr 1;omega
 rw[UQ,UQ] at e1
 have h2:A / 2 ^ k % 2=0:=by
  rcases Nat.mod_two_eq_zero_or_one (A / 2 ^ k) with h3|h3
  ·exact h3
  ·rw[h3] at e1
   have:=bw (e1.trans (aA rfl))
   omega
 have h3:A / 2 ^ k<2:=by rw[lR (bO (by decide))];rw[cz] at h;omega
 have h4:A / 2 ^ k=0:=by
  generalize A / 2 ^ k=q at h2 h3
  omega
 rcases Nat.div_eq_zero_iff.1 h4 with h5|h5
 ·have:=bO (n:=k) (show 0<2 by decide);omega
 ·exact h5
theorem R_bit {A k:Nat}(hk:k≤100000):qo (dl A) (k:Int)=some (((dg 65536 A (k / 16) / 2 ^ (k % 16)) % 2:Nat):Int):=by
 unfold qo
 have e1:i64.wrap (Int.tdiv (k:Int) (16:Int))=((k / 16:Nat):Int):=by
  rw[Int.tdiv_eq_ediv_of_nonneg (by omega),d6 (by omega) (by omega)];omega
 have e2:Int.tmod (k:Int) (16:Int)=((k % 16:Nat):Int):=by
  rw[Int.tmod_eq_emod_of_nonneg (by omega)];rfl
 rw[e1,e2,show dl A=dk (sz6 A) A from rfl,vo (jU A),ab,aB,BE _ _ _ (by have:k % 16<16:=ej _ (by decide);show k % 16≤64;omega)]
 generalize dg 65536 A (k / 16) / 2 ^ (k % 16)=q
 have e3:Int.tmod (q:Int) 2=((q % 2:Nat):Int):=by rw[Int.tmod_eq_emod_of_nonneg (by omega)];rfl
 rw[e3]
theorem Vk {z:Int}(hz:z.natAbs<LIM):∃n:Nat,gf (enc z)=some (n:Int)∧z.natAbs<2 ^ n:=by
 have hsz:sz6 z.natAbs≤32:=rK (bH hz (by decide))
 have bI:=jU z.natAbs
 have hlen:=Nb z.natAbs
 obtain⟨x,hl,hx⟩:=vE (b:=mJ (dl z.natAbs)) (fun s:Int=>0≤s∧s≤512∧z.natAbs<2 ^ s.toNat) (fun s=>s.toNat) (fun x=>0≤x∧x≤512∧z.natAbs<2 ^ x.toNat) (fun s ⟨h1,h2,h3⟩=>by
  unfold mJ
  by_cases h0:0<s
  ·obtain⟨k,rfl⟩:∃k:Nat,s=(k:Int)+1:=⟨(s - 1).toNat,by omega⟩
   rw[cy _ _ h0,d6 (z:=(k:Int)+1 - 1) (by omega) (by omega),show (k:Int)+1 - 1=(k:Int) by omega,R_bit (by omega),ab]
   have e:((k:Int)+1).toNat=k+1:=by omega
   rw[e] at h3
   by_cases hb:(dg 65536 z.natAbs (k / 16) / 2 ^ (k % 16)) % 2=0
   ·refine .inl ⟨(k:Int),?_,⟨by omega,by omega,?_⟩,by omega⟩
    ·rw[aA (by omega)];rfl
    ·rw[show ((k:Int)).toNat=k by omega];exact Ux h3 hb
   ·refine .inr ⟨(k:Int)+1,?_,by omega,by omega,by rw[e];exact h3⟩
    rw[a8 (by omega)];rfl
  ·obtain rfl:s=0:=by omega
   exact .inr ⟨0,by rw[ci _ _ h0];rfl,by omega,by omega,h3⟩) (16*(sz6 z.natAbs:Int)) ⟨by omega,by omega,by
   rw[show (16*(sz6 z.natAbs:Int)).toNat=16*sz6 z.natAbs by omega,B5];exact bI⟩
 refine⟨x.toNat,?_,hx.2.2⟩
 unfold gf
 rw[iw,bf hz,ab,mS hz]
 rw[show (!true)=false from rfl,cF]
 simp only[ab]
 rw[hlen,d6 (by omega) (by omega),hl,ab]
 congr 1;omega
theorem yU {x:Nu}(h:ar x=true):(∃n:Nat,gf (nv x).vN=some (n:Int)∧(rv x).num.natAbs<2 ^ n)∧∃n:Nat,gf (nv x).vD=some (n:Int)∧(rv x).den<2 ^ n:=by
 obtain⟨h1,h2⟩:=c6.1 (bo.1 h)
 have e:nv x=kI (rv x):=h2
 rw[e]
 refine⟨Vk h1.1,?_⟩
 obtain⟨n,h3,h4⟩:=Vk (jB h1)
 exact⟨n,h3,by simpa using h4⟩
structure HI(l:List Nu)(bits:Int):Prop where
 good:∀i,i<l.length→ar l[i]! =true
 num:∀i,i<l.length→(rv l[i]!).num.natAbs<2 ^ bits.toNat
 den:∀i,i<l.length→(rv l[i]!).den<2 ^ bits.toNat
theorem Du {l:List Nu}{bits:Int}(hl:l.length≤9223372036854775807):∃b,jM (l.map nv) bits=some b∧(b=true→HI l bits):=by
 obtain⟨fN,hN⟩:∃fN:Nat→Int,fN=fun i=>(gf (nv l[i]!).vN).getD 0:=⟨_,rfl⟩
 obtain⟨fD,hD⟩:∃fD:Nat→Int,fD=fun i=>(gf (nv l[i]!).vD).getD 0:=⟨_,rfl⟩
 have key:=t0 (b:=kj (l.map nv) bits) (n:=l.length) (by omega) (fun i=>ar l[i]! &&(!decide (bits<fN i)&&!decide (bits<fD i))) (fun i hi=>by
  unfold kj
  rw[bb,cy _ _,aB,aB,aB,qO hi,qGood,ab]
  cases hg:ar l[i]! with
  |false=>rfl
  |true=>
   obtain⟨⟨n1,h1,_⟩,n2,h2,_⟩:=yU hg
   rw[h1,h2,ab,ab]
   have e1:fN i=n1:=by rw[hN];dsimp only;rw[h1];rfl
   have e2:fD i=n2:=by rw[hD];dsimp only;rw[h2];rfl
   rw[e1,e2]
   cases decide (bits<(n1:Int)) <;> cases decide (bits<(n2:Int)) <;> rfl) (by
  unfold kj
  rw[bb,ci _ _])
 refine⟨_,key,fun h=>?_⟩
 have h3:∀i,i<l.length→ar l[i]! =true∧¬bits<fN i∧¬bits<fD i:=fun i hi=>by
  have:=ba.1 h i (kC.2 hi)
  simpa[b8] using this
 refine⟨fun i hi=>(h3 i hi).1,fun i hi=>?_,fun i hi=>?_⟩
 ·obtain⟨hg,h4,_⟩:=h3 i hi
  obtain⟨⟨n1,h1,h5⟩,_⟩:=yU hg
  have e1:fN i=n1:=by rw[hN];dsimp only;rw[h1];rfl
  exact bH h5 (gX (by decide) (by omega))
 ·obtain⟨hg,_,h4⟩:=h3 i hi
  obtain⟨_,n2,h2,h5⟩:=yU hg
  have e1:fD i=n2:=by rw[hD];dsimp only;rw[h2];rfl
  exact bH h5 (gX (by decide) (by omega))
structure Few(R Cc:Int)(A B C:List Nu)(size bits:Int):Prop where
 valid:mW R Cc A B C=true
 r:R≤size
 c:Cc≤size
 sA:HI A bits
 sB:HI B bits
 sC:HI C bits
theorem R_few {R Cc size bits:Int}{A B C:List Nu}(hA:A.length≤9223372036854775807)(hB:B.length≤9223372036854775807)(hC:C.length≤9223372036854775807):∃b,qr ⟨⟨R,Cc,A.map nv⟩,B.map nv,C.map nv⟩ size bits=some b∧(b=true→Few R Cc A B C size bits):=by
 obtain⟨b1,h1,k1⟩:=Du (l:=A) (bits:=bits) hA
 obtain⟨b2,h2,k2⟩:=Du (l:=B) (bits:=bits) hB
 obtain⟨b3,h3,k3⟩:=Du (l:=C) (bits:=bits) hC
 refine⟨mW R Cc A B C&&(decide (R≤size)&&(decide (Cc≤size)&&(b1&&(b2&&b3)))),?_,fun h=>?_⟩
 ·unfold qr
  dsimp only
  rw[R_Valid hA hB hC,h1,h2,h3]
  simp only[ab,pK]
 ·simp only[b8,r9] at h
  obtain⟨a1,a2,a3,a4,a5,a6⟩:=h
  exact⟨a1,a2,a3,k1 a4,k2 a5,k3 a6⟩
def rL(R Cc:Int)(A B C:List Nu)(most:Int):Ans×Int×Int:=if mW R Cc A B C&&decide (0≤most) then iz R.toNat Cc.toNat A B C most else (⟨0,[],[],[]⟩,0,1)
theorem EO {l:List Nu}(h:l.all ar=true):∀i,i<l.length→ar l[i]! =true:=fun i hi=>by
 rw[bL l i hi];exact ba.1 h _ (nO _)
theorem Jy {R Cc most:Int}{A B C:List Nu}(hA:A.length≤1000000)(hB:B.length≤1000000)(hC:C.length≤1000000)(hm:most≤9223372036854775807):gW ⟨⟨R,Cc,A.map nv⟩,B.map nv,C.map nv⟩ most=some (r7 (rL R Cc A B C most)):=by
 unfold gW rL
 rw[Jx hA hB hC,ab]
 cases hv:mW R Cc A B C with
 |false=>
  rw[ah (by simp),ah (by simp)]
 |true=>
  by_cases h0:0≤most
  ·rw[ai ⟨rfl,h0⟩]
   obtain⟨m,nn,rfl,rfl,h1,h2,h3,h4,h5,g1,g2,g3⟩:=yK hv
   dsimp only
   rw[qE,qE,qE]
   refine (ai ⟨⟨by simp,by simp,by simpa using h1,by simpa using h2,DY _,DY _,DY _,by simpa using h3,by simpa using h4,by simpa using h5,?_,?_,?_⟩,hm⟩).trans (by rw[ai (by simpa using h0)])
   ·dsimp only;rw[qE];exact EO g1
   ·dsimp only;rw[qE];exact EO g2
   ·dsimp only;rw[qE];exact EO g3
  ·rw[ah (fun h=>h0 h.2),ah (by simp[h0])]
theorem xv {l:List Nu}(h:l.all ar=true):(kW l).all ar=true:=by
 unfold kW
 rw[lE,h,B9,Ln,←h]
 congr 1
 funext x
 exact rp
def IR(R Cc:Int)(A B:List Nu)(most:Int):Ans×Int×Int:=if sT R Cc A B&&decide (0≤most) then ze R.toNat Cc.toNat A B most else (⟨0,[],[],[]⟩,0,1)
theorem P_Equal {R Cc most:Int}{A B:List Nu}(hA:A.length≤500000)(hB:B.length≤500000)(hm:most≤9223372036854775807):ls ⟨R,Cc,A.map nv⟩ (B.map nv) most=some (r7 (IR R Cc A B most)):=by
 unfold ls IR
 rw[Ft (by omega) (by omega),ab]
 cases hv:sT R Cc A B with
 |false=>
  rw[ah (by simp),ah (by simp)]
 |true=>
  by_cases h0:0≤most
  ·rw[ai ⟨rfl,h0⟩]
   obtain⟨m,nn,rfl,rfl,h1,h2,h3,h4,g1,g2⟩:=Cl hv
   dsimp only
   rw[qE,qE]
   have hlA:(kW A).length=(m+m)*nn:=by unfold kW;rw[cD,bb,h3,bX]
   have hlB:(kW B).length=m+m:=by unfold kW;rw[cD,bb,h4]
   have hlA2:(kW A).length=A.length+A.length:=by unfold kW;rw[cD,bb]
   have hz:(List.replicate nn (nOf 0)).all ar=true:=ba.2 fun x hx=>by rw[List.eq_of_mem_replicate hx];exact of0.1
   refine (ai ⟨⟨by simp,by simp,by simpa using h1,by simpa using h2,DY _,DY _,by simpa using h3,by simpa using h4,by simp;omega,?_,?_,?_⟩,hm⟩).trans (by rw[ai (by simpa using h0)])
   ·dsimp only;rw[qE];exact EO (xv g1)
   ·rw[qE];exact EO (xv g2)
   ·dsimp only
    rw[qE,qE,bW,bW,Jx (by omega) (by omega) (by simp;omega)]
    congr 1
    unfold mW Gr
    rw[hlA,hlB,xv g1,xv g2,hz,tJ]
    have q1:decide ((0:Int)≤((m+m:Nat):Int))=true:=aA (by omega)
    have q2:decide ((0:Int)≤(nn:Int))=true:=aA (by omega)
    have q3:decide (((m+m:Nat):Int)≤2000)=true:=aA (by omega)
    have q4:decide ((nn:Int)≤2000)=true:=aA (by omega)
    have q5:decide ((((m+m)*nn:Nat):Int)=((m+m:Nat):Int)*(nn:Int))=true:=aA (by rw[ig])
    have q6:decide (((m+m:Nat):Int)=((m+m:Nat):Int))=true:=aA rfl
    have q7:decide (((nn:Nat):Int)=(nn:Int))=true:=aA rfl
    rw[q1,q2,q3,q4,q5,q6,q7]
    rfl
  ·rw[ah (fun h=>h0 h.2),ah (by simp[h0])]
theorem vl {l:List Int}(hl:l.length≤1000000)(h:∀i,i<l.length→-1000≤l[i]!∧l[i]!≤1000):da l=some ((l.map nOf).map nv):=by
 unfold da
 have key:=t3 (b:=ly l) (fun i:Nat=>(((l.take i).map nOf).map nv,(i:Int))) 0 l.length ((l.map nOf).map nv) (cr _) (fun i _ hi=>?_) ?_
 ·have e:((((l.take 0).map nOf).map nv),((0:Nat):Int))=(([]:List am),(0:Int)):=by simp
  rw[e] at key
  rw[key];rfl
 ·unfold ly
  dsimp only
  have fF:l[((i:Nat):Int).toNat]! =l[i]! :=by rw[show ((i:Nat):Int).toNat=i by omega]
  have htk:l.take (i+1)=l.take i++[l[i]!]:=by rw[AE,cH hi,bL l i hi];rfl
  obtain⟨h1,h2⟩:=h i hi
  rw[cy _ _,aB,fF,R_Of (by omega) (by omega),ab,aB (by simp;omega),d6 (by omega) (by omega),htk]
  simp only[iP,iW,l8]
  rfl
 ·unfold ly
  dsimp only
  rw[ci _ _,g9 (ax _)]
def fr(a b:Int):Nu:=nuR (some (Rat.divInt a b))
theorem Fs {a b:Int}(ha:-1000≤a∧a≤1000)(hb:-1000≤b∧b≤1000):gz a b=some ([fr a 5,fr b 5].map nv):=by
 have hL:∀n:Int,-1000≤n∧n≤1000→n.natAbs<LIM:=fun n hn=>bH (show n.natAbs<18446744073709551616 by omega) (by decide)
 have hf:∀n:Int,-1000≤n∧n≤1000→mG n 5=some (nv (fr n 5)):=fun n hn=>by
  unfold mG
  rw[rm (by omega) (by omega),ab,rm (by omega) (by omega),ab,Vj (hL n hn) (by decide) (by decide),ab]
  rfl
 unfold gz
 rw[hf a ha,hf b hb]
 rfl
def Oy(l:List Nu):Bool:=decide (l.length≤1000)
def St(a:Ans):Bool:=Oy a.x&&(Oy a.y&&Oy a.ray)
theorem t7 {a:Ans}(h:St a=true):Fw a:=by
 unfold St Oy at h
 simp only[b8,r9] at h
 exact⟨by omega,by omega,by omega⟩
def e1B:Bool:=rL 2 2 ([1,2,3,1].map nOf) ([4,6].map nOf) ([1,1].map nOf) 100 |> fun r=>decide (r.1=⟨1,[fr 8 5,fr 6 5],[fr 2 5,fr 1 5],[]⟩)&&(decide (r.2.2=0)&&decide (uU 2 2 ([1,2,3,1].map nOf) ([4,6].map nOf) ([1,1].map nOf) r.1=0))
def e2B:Bool:=rL 1 1 ([1].map nOf) ([-1].map nOf) ([0].map nOf) 100 |> fun r=>decide (r.1=⟨2,[],[1].map nOf,[]⟩)&&(decide (r.2.2=0)&&decide (uU 1 1 ([1].map nOf) ([-1].map nOf) ([0].map nOf) r.1=0))
def e3B:Bool:=rL 1 2 ([-1,1].map nOf) ([1].map nOf) ([1,0].map nOf) 100 |> fun r=>decide (r.1=⟨3,[0,0].map nOf,[],[1,0].map nOf⟩)&&(decide (r.2.2=0)&&decide (uU 1 2 ([-1,1].map nOf) ([1].map nOf) ([1,0].map nOf) r.1=0))
def e4B:Bool:=rL 1 1 ([-1].map nOf) ([-2].map nOf) ([-1].map nOf) 100 |> fun r=>decide (r.1=⟨1,[2].map nOf,[1].map nOf,[]⟩)&&(decide (r.2.2=0)&&decide (uU 1 1 ([-1].map nOf) ([-2].map nOf) ([-1].map nOf) r.1=0))
def e5B:Bool:=IR 2 2 ([1,1,1,-1].map nOf) ([1,3].map nOf) 100 |> fun r=>St r.1&&(decide (r.2.2=0)&&(decide (r.1.kind=2)&&decide (EI 2 2 ([1,1,1,-1].map nOf) ([1,3].map nOf) r.1=0)))
def e6B:Bool:=decide (uU 2 2 ([1,2,3,1].map nOf) ([4,6].map nOf) ([1,1].map nOf) ⟨1,[fr 8 5,fr 6 5],[fr 2 5,fr 2 5],[]⟩=250)
end
end Go.Proofs.YtaedcknhkjpmlaaGreat
