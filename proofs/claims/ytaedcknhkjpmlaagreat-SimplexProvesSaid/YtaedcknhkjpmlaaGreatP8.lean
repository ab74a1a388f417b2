/-
  Lemmas, part 8. Conditions: none.
-/
import Derived.Test.YtaedcknhkjpmlaaGreatP7
import Derived.Test.YtaedcknhkjpmlaaGreatRows
import Derived.ProofKit
import Derived.OpenShut
import Derived.ChangeSame
import Derived.Deep.Slices
import Derived.JoinedCond
import Derived.SizedLaws
import Derived.Deep.CondSized
set_option linter.all false
set_option maxRecDepth 100000
set_option maxHeartbeats 4000000
namespace Go.Proofs.YtaedcknhkjpmlaaGreat
open Go.RowKit Go.IntKind Tryz Go.Proofs.Tryz
noncomputable section
def od(ek:List ao):Int→Option (Int⊕(Bool⊕Unit)):=fun aD=>cnd (decide (aD<((ek).length:Int))) (gd (0≤aD∧aD<((ek).length:Int)) (bnd (e8 ((ek)[(aD).toNat]!)) fun x4=>cnd (!x4) (some (.inr (.inl false))) (some (.inl (i64.wrap (aD+(1:Int))))))) (some (.inr (.inr ())))
def l8(ek:List ao):Option Bool:=bnd (bt (od ek) (0:Int)) fun y7=>match y7 with| .inl r=>some r| .inr ()=>some true
theorem vQ {ek:List ao}{r:Bool}(h:l8 ek=some r):ar prog 64 [dL al ek] (dB r):=by
 refine bj (rs:=[.tmp 2]) (fun cx hx h0=>?_) func64
 unfold l8 at h
 refine ra hx ?_
 refine AW.seq (ra hx ?_)
 refine AW.block ?_
 obtain⟨y,hy,h⟩:=ae h
 refine lp (S:=Int) (X:=Bool⊕Unit) (fun aD=>[(0,dL al ek),(3,dI .i64 aD)]) (fun aD=>⟨[],[],0⟩) (PS (PR [.tmp 2] fun r=>dB r) (PE cx (.exit 0) (fun ()=>[]) fun ()=>⟨[],[],0⟩)) hy ?_ ?_ ?_
 exact wk0 h0 []
 clear hy h
 rintro aD y h
 dsimp only[od] at h
 refine AW.seq (ra hx ?_)
 refine cdh h rfl (fun fR h=>?_) (fun fR h=>?_)
 refine AW.skip (AW.seq (AW.block (rs hx fun K hK=>?_)))
 iterate 2 refine sa ?_
 obtain⟨qC,h⟩:=az h
 have xw:(aD).toNat<(ek).length:=by omega
 refine sbr ?_
 refine s1 (d:=dG al ((ek)[(aD).toNat]!)) (kA (c:=al) (l:=ek) (n:=(aD).toNat) (o:=0) aT xw (fV _ _ rfl)) ?_
 refine scb h mp fun x4 h=>?_
 refine nbr hK ?_
 refine ra hx ?_
 refine cdh h rfl (fun qP h=>?_) (fun qP h=>?_)
 refine ra hx ?_
 refine AW.ret ?_
 cases h
 refine PS.r ⟨by nofun,PS.l (PR.i ?_)⟩
 exact rv1
 refine AW.skip (rb hx ?_)
 exact pel h h0 []
 exact AW.exit (peq h h0 [])
 rcases y with r|⟨⟩
 rintro ex tm' hp' ⟨rfl,hw⟩
 cases h
 exact hw
 refine lwr ?_
 refine ra hx ?_
 exact AW.ret (rtv h)
def l9(aJ:fU)(jH:Int)(Hv:Int):Option Bool:=bnd (S:=Bool) (cnd (decide ((0:Int)≤aJ.vR)) (cnd (decide ((0:Int)≤aJ.vC)) (cnd (decide (aJ.vR≤jH)) (cnd (decide (aJ.vC≤Hv)) (cnd (decide (((aJ.vV).length:Int)=(i64.wrap (aJ.vR*aJ.vC)))) (bnd (l8 aJ.vV) fun x6=>some (x6)) (some (false))) (some (false))) (some (false))) (some (false))) (some (false))) fun bo=>some bo
theorem CZ {aJ:fU}{jH:Int}{Hv:Int}{r:Bool}(h:l9 aJ jH Hv=some r):ar prog 63 [dG mJ aJ,dI .i64 jH,dI .i64 Hv] (dB r):=by
 refine bj (rs:=[.tmp 6]) (fun cx hx h0=>?_) func63
 unfold l9 at h
 refine rs hx fun K hK=>?_
 refine s1 (d:=.pt 0 0) gF ?_
 refine nbr hK ?_
 refine AW.seq ?_
 obtain⟨bo,hy,h⟩:=ae h
 refine jn ((PE cx .normal (fun bo=>[(6,dB bo)]) fun bo=>⟨[],[],0⟩) bo) ?_ ?_
 replace h:=hy
 refine rq hx fun K hK=>?_
 refine mbr ?_
 rcases aF h with⟨fR,h⟩|⟨fR,h⟩
 refine mbr ?_
 rcases aF h with⟨BZ,h⟩|⟨BZ,h⟩
 refine mbr ?_
 rcases aF h with⟨fQ,h⟩|⟨fQ,h⟩
 refine mbr ?_
 rcases aF h with⟨Fk,h⟩|⟨Fk,h⟩
 refine mbr ?_
 rcases aF h with⟨rt,h⟩|⟨rt,h⟩
 refine ga rt ?_
 refine gbr ?_
 refine gcb h vQ fun x6 h=>?_
 refine nbr hK ?_
 exact pe1 h h0 []
 refine nbr hK ?_
 exact pe1 h h0 []
 refine nbr hK ?_
 exact pe1 h h0 []
 refine nbr hK ?_
 exact pe1 h h0 []
 refine nbr hK ?_
 exact pe1 h h0 []
 refine nbr hK ?_
 exact pe1 h h0 []
 refine lw0 ?_
 exact AW.ret (rtv h)
def mY(nT:bm):Option Bool:=bnd (l9 nT.vA (2000:Int) (2000:Int)) fun x1=>bnd (S:=Bool) (cnd x1 (cnd (decide (((nT.vB).length:Int)=nT.vA.vR)) (cnd (decide (((nT.vC).length:Int)=nT.vA.vC)) (bnd (l8 nT.vB) fun x6=>cnd x6 (bnd (l8 nT.vC) fun x9=>some (x9)) (some (false))) (some (false))) (some (false))) (some (false))) fun jp=>some jp
theorem Fw {nT:bm}{r:Bool}(h:mY nT=some r):ar prog 16 [dG dY nT] (dB r):=by
 refine bj (rs:=[.tmp 2]) (fun cx hx h0=>?_) func16
 unfold mY at h
 refine rs hx fun K hK=>?_
 refine s1 (d:=.pt 0 0) gF ?_
 refine nbr hK ?_
 refine rs hx fun K hK=>?_
 refine sa ?_
 refine s1 (d:=dG mJ nT.vA) (T_ldA xG) ?_
 refine scb h CZ fun x1 h=>?_
 refine nbr hK ?_
 refine AW.seq ?_
 obtain⟨jp,hy,h⟩:=ae h
 refine jn ((PE cx .normal (fun jp=>[(2,dB jp)]) fun jp=>⟨[],[],0⟩) jp) ?_ ?_
 replace h:=hy
 refine rq hx fun K hK=>?_
 refine mbr ?_
 rcases aF h with⟨fQ,h⟩|⟨fQ,h⟩
 refine mbr ?_
 rcases aF h with⟨Fk,h⟩|⟨Fk,h⟩
 refine mbr ?_
 rcases aF h with⟨rt,h⟩|⟨rt,h⟩
 refine ga rt ?_
 refine gbr ?_
 refine gcb h vQ fun x6 h=>?_
 refine mbr ?_
 rcases aF h with⟨tH,h⟩|⟨tH,h⟩
 refine ga tH ?_
 refine gbr ?_
 refine gcb h vQ fun x9 h=>?_
 refine nbr hK ?_
 exact pe1 h h0 []
 refine nbr hK ?_
 exact pe1 h h0 []
 refine nbr hK ?_
 exact pe1 h h0 []
 refine nbr hK ?_
 exact pe1 h h0 []
 refine nbr hK ?_
 exact pe1 h h0 []
 refine lw0 ?_
 exact AW.ret (rtv h)
def sx(nZ:List ao)(aX:List ao):Int×ao→Option ((Int×ao)⊕ao):=fun (aR,tY)=>cnd (decide (aR<((nZ).length:Int))) (gd (0≤aR∧aR<((nZ).length:Int)) (gd (0≤aR∧aR<((aX).length:Int)) (bnd (wn ((nZ)[(aR).toNat]!) ((aX)[(aR).toNat]!)) fun r8=>bnd (wo tY r8) fun qa=>some (.inl (i64.wrap (aR+(1:Int)),qa))))) (some (.inr tY))
def xR(nZ:List ao)(aX:List ao):Option ao:=cnd (decide (((nZ).length:Int)≠((aX).length:Int))) (bnd (nM) fun x2=>some x2) (bnd (pe (0:Int)) fun x4=>bnd (bt (sx nZ aX) ((0:Int),x4)) fun jq=>some jq)
theorem w_ref20_Value {nZ:List ao}{aX:List ao}{r:ao}(h:xR nZ aX=some r):ar prog 18 [dL al nZ,dL al aX] (dG al r):=by
 refine bj (rs:=[.cell 4 43]) (fun cx hx h0=>?_) func18
 unfold xR at h
 refine rar hx ?_
 refine AW.seq (ra hx ?_)
 refine cdh h rfl (fun fR h=>?_) (fun fR h=>?_)
 refine rs hx fun K hK=>?_
 refine scb h sb fun x2 h=>?_
 refine nbr hK ?_
 exact AW.ret (rtv h)
 refine AW.skip (rs hx fun K hK=>?_)
 refine scb h C0 fun x4 h=>?_
 refine nbr hK ?_
 refine AW.seq (ra hx ?_)
 refine AW.block ?_
 obtain⟨jq,hy,h⟩:=ae h
 refine lp (S:=Int×ao) (X:=ao) (fun (aR,tY)=>[(0,dL al nZ),(1,dL al aX),(4,.pt 0 0),(5,.pt 1 0),(6,dI .i64 aR)]) (fun (aR,tY)=>⟨[(0,dC (al.f kw)),(1,dC (al.f tY))],[],2⟩) (PE cx (.exit 0) (fun jq=>[(4,.pt 0 0),(5,.pt 1 0)]) fun jq=>⟨[(0,dC (al.f kw)),(1,dC (al.f jq))],[],2⟩) hy ?_ ?_ ?_
 exact wk0 h0 [0,1]
 clear hy h
 rintro⟨aR,tY⟩ y h
 dsimp only[sx] at h
 refine AW.seq (ra hx ?_)
 refine cdh h rfl (fun qP h=>?_) (fun qP h=>?_)
 refine AW.skip (AW.seq (AW.block (rqd [70,69] hx fun K hK=>?_)))
 iterate 3 refine sbr ?_
 obtain⟨hc7,h⟩:=az h
 have Qm:(aR).toNat<(nZ).length:=by omega
 refine sbr ?_
 refine s1 (d:=dG al ((nZ)[(aR).toNat]!)) (kA (c:=al) (l:=nZ) (n:=(aR).toNat) (o:=0) aT Qm (fV _ _ rfl)) ?_
 iterate 2 refine sa ?_
 obtain⟨hc9,h⟩:=az h
 have So:(aR).toNat<(aX).length:=by omega
 refine sbr ?_
 refine s1 (d:=dG al ((aX)[(aR).toNat]!)) (kA (c:=al) (l:=aX) (n:=(aR).toNat) (o:=0) aT So (fV _ _ rfl)) ?_
 refine cqb h Ja fun r8 h=>?_
 refine cqb h Jb fun qa h=>?_
 refine nbr hK ?_
 refine rb hx ?_
 exact pel h h0 [0,1]
 exact AW.exit (per h h0 [0,1])
 refine lw0 ?_
 refine rar hx ?_
 exact AW.ret (rtv h)
def jQ(aJ:List ao)(aO:List ao):Int→Option (Int⊕(Bool⊕Unit)):=fun gD=>cnd (decide (gD<((aJ).length:Int))) (gd (0≤gD∧gD<((aJ).length:Int)) (gd (0≤gD∧gD<((aO).length:Int)) (cnd (decide (¬((aJ)[(gD).toNat]! =(aO)[(gD).toNat]!))) (some (.inr (.inl false))) (some (.inl (i64.wrap (gD+(1:Int)))))))) (some (.inr (.inr ())))
def kJ(aJ:List ao)(aO:List ao):Option Bool:=cnd (decide (((aJ).length:Int)≠((aO).length:Int))) (some false) (bnd (bt (jQ aJ aO) (0:Int)) fun y8=>match y8 with| .inl r=>some r| .inr ()=>some true)
theorem t7 {aJ:List ao}{aO:List ao}{r:Bool}(h:kJ aJ aO=some r):ar prog 60 [dL al aJ,dL al aO] (dB r):=by
 refine bj (rs:=[.tmp 4]) (fun cx hx h0=>?_) func60
 unfold kJ at h
 refine ra hx ?_
 refine AW.seq (ra hx ?_)
 refine cdh h rfl (fun fR h=>?_) (fun fR h=>?_)
 refine ra hx ?_
 exact AW.ret (rtv h)
 refine AW.skip (AW.seq (ra hx ?_))
 refine AW.block ?_
 obtain⟨y,hy,h⟩:=ae h
 refine lp (S:=Int) (X:=Bool⊕Unit) (fun gD=>[(0,dL al aJ),(1,dL al aO),(5,dI .i64 gD)]) (fun gD=>⟨[],[],0⟩) (PS (PR [.tmp 4] fun r=>dB r) (PE cx (.exit 0) (fun ()=>[]) fun ()=>⟨[],[],0⟩)) hy ?_ ?_ ?_
 exact wk0 h0 []
 clear hy h
 rintro gD y h
 dsimp only[jQ] at h
 refine AW.seq (ra hx ?_)
 refine cdh h rfl (fun BZ h=>?_) (fun BZ h=>?_)
 refine AW.skip (AW.seq (AW.block (rsd [] hx fun K hK=>?_)))
 iterate 2 refine sa ?_
 obtain⟨hc3,h⟩:=az h
 have hn4:(gD).toNat<(aJ).length:=by omega
 refine sbr ?_
 refine s1 (d:=dG al ((aJ)[(gD).toNat]!)) (kA (c:=al) (l:=aJ) (n:=(gD).toNat) (o:=0) aT hn4 (fV _ _ rfl)) ?_
 iterate 2 refine sa ?_
 obtain⟨hc5,h⟩:=az h
 have hn6:(gD).toNat<(aO).length:=by omega
 refine sbr ?_
 refine s1 (d:=dG al ((aO)[(gD).toNat]!)) (kA (c:=al) (l:=aO) (n:=(gD).toNat) (o:=0) aT hn6 (fV _ _ rfl)) ?_
 refine s1 (wP tok 4 (by decide) GN aT) ?_
 refine nl hK ?_
 refine cdh h rfl (fun tI h=>?_) (fun tI h=>?_)
 refine ra hx ?_
 refine AW.ret ?_
 cases h
 refine PS.r ⟨by nofun,PS.l (PR.i ?_)⟩
 exact rv1
 refine AW.skip (rb hx ?_)
 exact pel h h0 []
 exact AW.exit (peq h h0 [])
 rcases y with r|⟨⟩
 rintro ex tm' hp' ⟨rfl,hw⟩
 cases h
 exact hw
 refine lwr ?_
 refine ra hx ?_
 exact AW.ret (rtv h)
def iv(aJ:cC)(aO:cC):Option Bool:=bnd (S:=Bool) (cnd (decide (aJ.vKind=aO.vKind)) (bnd (kJ aJ.vX aO.vX) fun x2=>cnd x2 (bnd (kJ aJ.vY aO.vY) fun x5=>cnd x5 (bnd (kJ aJ.vRay aO.vRay) fun x8=>some (x8)) (some (false))) (some (false))) (some (false))) fun bo=>some bo
theorem yi {aJ:cC}{aO:cC}{r:Bool}(h:iv aJ aO=some r):ar prog 14 [dG jZ aJ,dG jZ aO] (dB r):=by
 refine bj (rs:=[.tmp 4]) (fun cx hx h0=>?_) func14
 unfold iv at h
 refine rs hx fun K hK=>?_
 refine s1 (d:=.pt 0 0) gF ?_
 refine s1 (d:=.pt 1 0) gF ?_
 refine nbr hK ?_
 refine AW.seq ?_
 obtain⟨bo,hy,h⟩:=ae h
 refine jn ((PE cx .normal (fun bo=>[(4,dB bo)]) fun bo=>⟨[],[],0⟩) bo) ?_ ?_
 replace h:=hy
 refine rq hx fun K hK=>?_
 refine mbr ?_
 rcases aF h with⟨fR,h⟩|⟨fR,h⟩
 refine ga fR ?_
 refine gbr ?_
 refine ga fR ?_
 refine gbr ?_
 refine gcb h t7 fun x2 h=>?_
 refine mbr ?_
 rcases aF h with⟨Fk,h⟩|⟨Fk,h⟩
 refine ga Fk ?_
 refine gbr ?_
 refine ga Fk ?_
 refine gbr ?_
 refine gcb h t7 fun x5 h=>?_
 refine mbr ?_
 rcases aF h with⟨tI,h⟩|⟨tI,h⟩
 refine ga tI ?_
 refine gbr ?_
 refine ga tI ?_
 refine gbr ?_
 refine gcb h t7 fun x8 h=>?_
 refine nbr hK ?_
 exact pe1 h h0 []
 refine nbr hK ?_
 exact pe1 h h0 []
 refine nbr hK ?_
 exact pe1 h h0 []
 refine nbr hK ?_
 exact pe1 h h0 []
 refine lw0 ?_
 exact AW.ret (rtv h)
theorem pG0 {α:Type}(c:Cd α)(a:α)(l:List E){z:Nat}(h:c.sz=z):((c.f a++l).drop 0).take z=c.f a:=by
 have hl:(c.f a).length=z:=(c.h a).trans h
 rw[qu,uK (by omega),gU (by omega)]
theorem pG1 {α β:Type}(c:Cd α)(a:α)(k:Cd β)(b:β){o z:Nat}(h:c.sz=o)(h2:k.sz=z):((c.f a++k.f b).drop o).take z=k.f b:=by
 have hl:(c.f a).length=o:=(c.h a).trans h
 have hk:(k.f b).length=z:=(k.h b).trans h2
 rw[←hl,ta,gU (by omega)]
section
def Hs(l:List Nu)(n:Nat):Bool:=decide (l.length=n)&&l.all fun x=>aw x&&decide (0≤bI x)
def uX(c x:List Nu):Nat→Nu
 |0=>nOf 0
 |i+1=>jA (uX c x i) (lQ c[i]! x[i]!)
def dE(c x:List Nu):Nu:=if c.length=x.length then uX c x c.length else nuR none
def q8(A:List Nu)(nn i:Nat):List Nu:=(A.drop (i*nn)).take nn
def ws(A:List Nu)(m nn k:Nat):List Nu:=(List.range m).map fun i=>A[i*nn+k]!
def Cw(lines:Nat→List Nu)(x wth:List Nu)(ok:Int→Bool):Bool:=(List.range wth.length).all fun i=>aw (dE (lines i) x)&&ok (pN (dE (lines i) x) wth[i]!)
def lh(m nn:Nat)(A x b:List Nu):Bool:=Hs x nn&&Cw (q8 A nn) x b fun c=>decide (c≤0)
def pz(m nn:Nat)(A y c:List Nu):Bool:=Hs y m&&Cw (ws A m nn) y c fun c=>decide (0≤c)
def qz(x:Nu)(s:Int):Bool:=aw x&&decide (bI x=s)
def ju(m nn:Nat)(A B C:List Nu)(a:Ans):Bool:=
 if a.kind=1 then decide (a.ray.length=0)&&lh m nn A a.x B&&pz m nn A a.y C&&(aw (dE C a.x)&&decide (dE C a.x=dE a.y B))
 else if a.kind=2 then decide (a.x.length+a.ray.length=0)&&pz m nn A a.y (List.replicate nn (nOf 0))&&qz (dE a.y B) (-1)
 else if a.kind=3 then decide (a.y.length=0)&&lh m nn A a.x B&&lh m nn A a.ray (List.replicate m (nOf 0))&&qz (dE C a.ray) 1
 else false
theorem rC {x y:Nu}(hx:aw x=true)(hy:aw y=true):(pN x y≤0↔rv x≤rv y)∧(0≤pN x y↔rv y≤rv x)∧(pN x y<0↔rv x<rv y)∧(pN x y=0↔rv x=rv y):=by
 rw[Dr,bC.1 hx,bC.1 hy]
 unfold ocmp
 dsimp only
 by_cases h1:rv x<rv y
 ·rw[ai h1];grind
 ·rw[ah h1]
  by_cases h2:rv y<rv x
  ·rw[ai h2];grind
  ·rw[ah h2];grind
theorem OX {c x:List Nu}{n:Nat}:aw (uX c x n)=true→rv (uX c x n)=bi n fun i=>rv c[i]! *rv x[i]! :=by
 induction n with
 |zero=>intro _;exact of0.2
 |succ n ih=>
  intro h
  rw[show uX c x (n+1)=jA (uX c x n) (lQ c[n]! x[n]!) from rfl] at h ⊢
  obtain⟨h1,h2⟩:=wm h
  obtain⟨h3,h4⟩:=SZ h2
  rw[HD h1 h2 h,HB h3 h4 h2,ih h1]
  rfl
theorem oZ {c x:List Nu}(h:aw (dE c x)=true):c.length=x.length∧rv (dE c x)=bi c.length fun i=>rv c[i]! *rv x[i]! :=by
 unfold dE at h ⊢
 split at h
 ·rename_i e
  rw[ai e]
  exact⟨e,OX h⟩
 ·exfalso
  have:aw (nuR none)=false:=by rw[ez,py pg];rfl
  rw[this] at h;cases h
theorem Jz {l:List Nu}{n:Nat}(h:Hs l n=true):l.length=n∧∀i,i<n→aw l[i]! =true∧0≤rv l[i]! :=by
 unfold Hs at h
 rw[cj] at h
 have hl:=bA h.1
 refine⟨hl,fun i hi=>?_⟩
 have:=a7.1 h.2 l[i]! (by rw[bJ l i (by omega)];exact nA _)
 rw[cj] at this
 refine⟨this.1,?_⟩
 have h2:=bA this.2
 have:=tr this.1
 grind
section
variable {m nn:Nat} {A B C x y b c:List Nu}
theorem zC(hA:A.length=m*nn){i k:Nat}(hi:i<m)(hk:k<nn):(q8 A nn i).length=nn∧(q8 A nn i)[k]! =A[i*nn+k]! :=by
 have hle:i*nn+nn≤A.length:=by
  rw[hA]
  calc i*nn+nn=(i+1)*nn:=by rw[bU];omega
   _≤m*nn:=cG _ hi
 unfold q8
 refine⟨by rw[ee,eV];omega,dP ?_⟩
 rw[gz,ai hk,na]
 exact vG (by omega)
theorem Kj {i k:Nat}(hi:i<m):(ws A m nn k)[i]! =A[i*nn+k]! :=dP (bX _ hi)
theorem uC(hA:A.length=m*nn)(hb:b.length=m)(hgb:∀i,i<m→aw b[i]! =true)(h:lh m nn A x b=true):x.length=nn∧(∀k,k<nn→aw x[k]! =true∧0≤rv x[k]!)∧∀i,i<m→bi nn (fun k=>rv A[i*nn+k]! *rv x[k]!)≤rv b[i]! :=by
 unfold lh at h
 rw[cj] at h
 obtain⟨h1,h2⟩:=Jz h.1
 refine⟨h1,h2,fun i hi=>?_⟩
 have h3:=a7.1 h.2 i (j7.2 (by omega))
 rw[cj] at h3
 obtain⟨h4,h5⟩:=oZ h3.1
 have h6:=(rC h3.1 (hgb i hi)).1.1 (bA h3.2)
 rw[h5] at h6
 by_cases h0:nn=0
 ·subst h0
  have:(q8 A 0 i).length=0:=by unfold q8;simp
  rw[this] at h6;exact h6
 ·rw[(zC hA hi (k:=0) (by omega)).1] at h6
  rwa[aB (g:=fun k=>rv A[i*nn+k]! *rv x[k]!) fun k hk=>by rw[(zC hA hi hk).2]] at h6
theorem BM(hc:c.length=nn)(hgc:∀k,k<nn→aw c[k]! =true)(h:pz m nn A y c=true):y.length=m∧(∀i,i<m→aw y[i]! =true∧0≤rv y[i]!)∧∀k,k<nn→rv c[k]!≤bi m (fun i=>rv A[i*nn+k]! *rv y[i]!):=by
 unfold pz at h
 rw[cj] at h
 obtain⟨h1,h2⟩:=Jz h.1
 refine⟨h1,h2,fun k hk=>?_⟩
 have h3:=a7.1 h.2 k (j7.2 (by omega))
 rw[cj] at h3
 obtain⟨h4,h5⟩:=oZ h3.1
 have h6:=(rC h3.1 (hgc k hk)).2.1.1 (bA h3.2)
 rw[h5,show (ws A m nn k).length=m by simp[ws]] at h6
 rwa[aB (g:=fun i=>rv A[i*nn+k]! *rv y[i]!) fun i hi=>by rw[Kj hi]] at h6
end
theorem sumN_le {f g:Nat→Rat}{n:Nat}(h:∀t,t<n→f t≤g t):bi n f≤bi n g:=by
 have h1:=BJ (f:=fun t=>g t - f t) (n:=n) fun t ht=>by have:=h t ht;grind
 rw[zw] at h1
 grind
end
section
theorem pAdd(x y:Nu):ia (nv x) (nv y)=some (nv (jA x y)):=by rw[pP];exact Nb x.2 y.2
theorem pMul(x y:Nu):hJ (nv x) (nv y)=some (nv (lQ x y)):=by rw[rh];exact Na x.2 y.2
theorem NF(x:Nu):aU (nv x)=some (aw x):=by rw[ez];exact iD x.2
theorem pSign(x:Nu):kM (nv x)=some (bI x):=by rw[AV];exact UO x.2
theorem pCmp(x y:Nu):jj (nv x) (nv y)=some (pN x y):=by rw[Dr];exact UP x.2 y.2
theorem pOf {n:Int}(h:-2≤n∧n≤2):pf n=some (nv (nOf n)):=G_rOf (by omega) (by omega)
theorem pBad:ff=some (nv (nuR none)):=wV
theorem mget {l:List Nu}{i:Nat}(h:i<l.length):(l.map nv)[i]! =nv l[i]! :=by
 rw[bJ _ _ (by rw[bh];exact h),EF,bJ l i h]
theorem sr {l:List Nu}{i:Nat}(h:i<l.length):(l.map nv)[((i:Nat):Int).toNat]! =nv l[i]! :=by
 rw[show ((i:Nat):Int).toNat=i by omega];exact mget h
theorem LB {x y:Nu}:nv x=nv y↔x=y:=⟨fun h=>Subtype.ext h,fun h=>by rw[h]⟩
theorem Qy {s:Int}(h1:0≤s)(h2:s≤18446744073709551614):decide (i64.wrap s=0)=decide (s=0):=by
 rw[IntKind.wrap_i64]
 by_cases h:s=0
 ·rw[aA h,aA (by omega)]
 ·rw[bk h,bk (by omega)]
section
variable {R:Type}
theorem qi(b x:Bool):cnd b (some x) (some false)=some (b&&x):=by cases b <;> rfl
theorem cOr(b x:Bool):cnd b (some true) (some x)=some (b||x):=by cases b <;> rfl
theorem cF(x y:Option R):cnd false x y=y:=rfl
theorem cT(x y:Option R):cnd true x y=x:=rfl
theorem tz {n:Nat}(hn:n≤9223372036854775807)(ok:Nat→Bool)(res:Nat→R){b:Int→Option (Int⊕(R⊕Unit))}(h:∀i:Nat,i<n→b i=cnd (!ok i) (some (.inr (.inl (res i)))) (some (.inl (i64.wrap ((i:Int)+(1:Int))))))(he:b n=some (.inr (.inr ()))):
  ∃y,bt b (0:Int)=some y∧match y with| .inl r=>∃i,i<n∧ok i=false∧r=res i| .inr _=>(List.range n).all ok=true:=by
 refine u9 (b:=b) (fun i:Int=>0≤i∧i≤n∧∀j:Nat,j<i.toNat→ok j=true) (fun i=>(n - i).toNat) _ (fun i ⟨h1,h2,h3⟩=>?_) 0 ⟨by omega,by omega,fun j hj=>absurd hj (by simp)⟩
 by_cases hi:i<n
 ·obtain⟨k,rfl⟩:∃k:Nat,i=k:=⟨i.toNat,by omega⟩
  have hk:k<n:=by omega
  rw[h k hk]
  cases hg:ok k with
  |false=>exact .inr ⟨.inl (res k),rfl,k,hk,hg,rfl⟩
  |true=>
   refine .inl ⟨(k:Int)+1,by rw[eQ (by omega) (by omega)];rfl,⟨by omega,by omega,fun j hj=>?_⟩,by omega⟩
   rcases d6 j k with h4|h4
   ·exact h3 j (by omega)
   ·obtain rfl:j=k:=by omega
    exact hg
 ·obtain rfl:i=n:=by omega
  exact .inr ⟨.inr (),he,a7.2 fun j hj=>h3 j (by have:=j7.1 hj;omega)⟩
theorem tA {n:Nat}(hn:n≤9223372036854775807)(ok:Nat→Bool){b:Int→Option (Int⊕(Bool⊕Unit))}(h:∀i:Nat,i<n→b i=cnd (!ok i) (some (.inr (.inl false))) (some (.inl (i64.wrap ((i:Int)+(1:Int))))))(he:b n=some (.inr (.inr ()))):
  (bnd (bt b (0:Int)) fun y=>match y with| .inl r=>some r| .inr ()=>some true)=some ((List.range n).all ok):=by
 obtain⟨y,hy,hp⟩:=tz hn ok (fun _=>false) h he
 rw[hy]
 cases y with
 |inl r=>
  obtain⟨i,h1,h2,rfl⟩:=hp
  have:(List.range n).all ok=false:=by rw[MK];exact⟨i,j7.2 h1,by rw[h2];simp⟩
  rw[this];rfl
 |inr u=>rw[hp];rfl
end
theorem GS {l:List Nu}(p:Nu→Bool):(List.range l.length).all (fun i=>p l[i]!)=l.all p:=by
 rw[Ej,a7,a7]
 constructor
 ·intro h x hx
  obtain⟨i,hi,rfl⟩:=wC.1 hx
  have:=h i (j7.2 hi)
  rwa[bJ l i hi] at this
 ·intro h i hi
  have hi:=j7.1 hi
  rw[bJ l i hi]
  exact h _ (nA _)
def FJ(rows R Cc:Int)(A:List Nu):Bool:=decide (0≤R)&&(decide (0≤Cc)&&(decide (R≤rows)&&(decide (Cc≤2000)&&(decide ((A.length:Int)=R*Cc)&&A.all aw))))
def mN(R Cc:Int)(A B C:List Nu):Bool:=FJ 2000 R Cc A&&(decide ((B.length:Int)=R)&&(decide ((C.length:Int)=Cc)&&(B.all aw&&C.all aw)))
def sn(R Cc:Int)(A B:List Nu):Bool:=FJ 1000 R Cc A&&(decide ((B.length:Int)=R)&&B.all aw)
section
variable {R Cc:Int} {A B C:List Nu}
theorem EY {rows:Int}(hr:rows≤1000000)(hA:A.length≤1000000):fJ ⟨R,Cc,A.map nv⟩ rows=some (FJ rows R Cc A):=by
 unfold fJ FJ
 dsimp only
 rw[t3 hA,bh]
 by_cases h1:0≤R
 ·by_cases h2:0≤Cc
  ·by_cases h3:R≤rows
   ·by_cases h4:Cc≤2000
    ·have hmul:0≤R*Cc∧R*Cc≤1000000*2000:=⟨Int.mul_nonneg h1 h2,Int.mul_le_mul (by omega) h4 h2 (by omega)⟩
     rw[eQ (by omega) (by omega)]
     simp only[ab,qi]
    ·simp only[bk h4,cF,qi,ab,uF,wB]
   ·simp only[bk h3,cF,qi,ab,uF,wB]
  ·simp only[bk h2,cF,qi,ab,uF,wB]
 ·simp only[bk h1,cF,qi,ab,uF,wB]
theorem IM(hA:A.length≤1000000)(hB:B.length≤1000000)(hC:C.length≤1000000):gN ⟨⟨R,Cc,A.map nv⟩,B.map nv,C.map nv⟩=some (mN R Cc A B C):=by
 unfold gN mN
 dsimp only
 rw[EY (by omega) hA,t3 hB,t3 hC,bh,bh]
 simp only[ab,qi]
theorem EX(hA:A.length≤1000000)(hB:B.length≤1000000):fI ⟨R,Cc,A.map nv⟩ (B.map nv)=some (sn R Cc A B):=by
 unfold fI sn
 dsimp only
 rw[EY (by omega) hA,t3 hB,bh]
 simp only[ab,qi]
theorem uP {c x:List Nu}(hc:c.length≤1000000∨x.length≤1000000):cO (c.map nv) (x.map nv)=some (nv (dE c x)):=by
 unfold cO dE
 rw[bh,bh]
 by_cases h:c.length=x.length
 ·rw[cg _ _,ai h,pOf (by omega),ab]
  have key:=wi (b:=gS (c.map nv) (x.map nv)) (fun i:Nat=>((i:Int),nv (uX c x i))) 0 c.length (nv (uX c x c.length)) (cl _) (fun i _ hi=>?_) ?_
  ·rw[show (((0:Nat):Int),nv (uX c x 0))=((0:Int),nv (nOf 0)) from rfl] at key
   rw[key];rfl
  ·unfold gS
   dsimp only
   rw[bh,bh,cw _ _,aC,aC,sr hi,sr (by omega),pMul,ab,pAdd,ab,eQ (by omega) (by omega)]
   rfl
  ·unfold gS
   dsimp only
   rw[bh,cg _ _]
 ·rw[cw _ _,ah h,pBad];rfl
theorem uO {l:List Nu}{n:Nat}(hl:l.length≤9223372036854775807):d9 (l.map nv) n=some (Hs l n):=by
 have h1:∀x,e7 (nv x)=some (!(aw x&&decide (0≤bI x))):=fun x=>by
  unfold e7
  rw[NF,pSign]
  simp only[ab,cOr]
  congr 1
  cases aw x
  ·rfl
  ·by_cases h:0≤bI x
   ·rw[aA h,bk (by omega)];rfl
   ·rw[bk h,aA (by omega)];rfl
 obtain⟨y,hy,hp⟩:=tz (b:=aL (l.map nv)) (n:=l.length) (by omega) (fun i=>aw l[i]! &&decide (0≤bI l[i]!)) (fun i=>(i:Int)) (fun i hi=>by
  unfold aL
  rw[bh,cw _ _,aC,sr hi,h1,ab]) (by
  unfold aL
  rw[bh,cg _ _])
 have h2:aM (l.map nv)=some (!(l.all fun x=>aw x&&decide (0≤bI x))):=by
  unfold aM bb
  rw[hy]
  rw[GS (fun x=>aw x&&decide (0≤bI x))] at hp
  cases y with
  |inl r=>
   obtain⟨i,h3,h4,rfl⟩:=hp
   have:(l.all fun x=>aw x&&decide (0≤bI x))=false:=by rw[MK];exact⟨l[i]!,by rw[bJ l i h3];exact nA _,by rw[h4];simp⟩
   rw[this]
   show some (decide ((0:Int)≤(i:Int)))=_
   rw[aA (by omega)];rfl
  |inr u=>rw[hp];rfl
 unfold d9 Hs
 rw[h2,bh]
 simp only[ab,qi,Bool.not_not]
 congr 2
 by_cases h:l.length=n
 ·rw[aA h,aA (by omega)]
 ·rw[bk h,bk (by omega)]
end
end
section
section
variable {m nn:Nat} {A B C x y b:List Nu}
theorem Ds {i:Nat}(hm:m≤2000)(hn:nn≤2000)(hi:i<m):i*nn+nn≤m*nn∧m*nn≤2000*2000∧(i+1)*nn=i*nn+nn:=by
 have h:(i+1)*nn=i*nn+nn:=by rw[bU];omega
 refine⟨?_,kS hm hn,h⟩
 rw[←h];exact cG _ hi
theorem OI(hA:A.length=m*nn)(hm:m≤2000)(hn:nn≤2000){i:Nat}(hi:i<m):iR ⟨m,nn,A.map nv⟩ i=some ((q8 A nn i).map nv):=by
 obtain⟨h1,h2,h3⟩:=Ds hm hn hi
 unfold iR
 dsimp only
 have e1:i64.wrap ((i:Int)*(nn:Int))=((i*nn:Nat):Int):=by rw[←iJ,eQ (by omega) (by omega)]
 have e2:i64.wrap ((i64.wrap ((i:Int)+1))*(nn:Int))=((i*nn+nn:Nat):Int):=by
  rw[eQ (z:=(i:Int)+1) (by omega) (by omega),show (i:Int)+1=((i+1:Nat):Int) by omega,←iJ,h3,eQ (by omega) (by omega)]
 rw[e1,e2,bh,aC]
 unfold Cm q8
 rw[←yS,←wI]
 congr 3
 congr 1;omega
theorem M8(hA:A.length=m*nn)(hm:m≤2000)(hn:nn≤2000){k:Nat}(hk:k<nn):iu ⟨m,nn,A.map nv⟩ k=some ((ws A m nn k).map nv):=by
 unfold iu
 have key:=wi (b:=fm ⟨m,nn,A.map nv⟩ k) (fun i:Nat=>(((List.range i).map fun j=>A[j*nn+k]!).map nv,(i:Int))) 0 m ((ws A m nn k).map nv) (cl _) (fun i _ hi=>?_) ?_
 ·rw[show ((((List.range 0).map fun j=>A[j*nn+k]!).map nv,((0:Nat):Int)))=(([]:List ao),(0:Int)) from rfl] at key
  rw[key];rfl
 ·obtain⟨h1,h2,h3⟩:=Ds hm hn hi
  have e1:i64.wrap ((i64.wrap ((i:Int)*(nn:Int)))+(k:Int))=((i*nn+k:Nat):Int):=by
   have e0:i64.wrap ((i:Int)*(nn:Int))=((i*nn:Nat):Int):=by rw[←iJ,eQ (by omega) (by omega)]
   rw[e0,eQ (by omega) (by omega)];omega
  unfold fm
  dsimp only
  rw[e1,cw _ _,aC (by rw[bh];omega),sr (by omega),aC (by simp;omega),eQ (by omega) (by omega),wz,jz,jz]
  rfl
 ·unfold fm
  dsimp only
  rw[cg _ _]
  rfl
theorem Ny(A:List Nu)(nn i:Nat):(q8 A nn i).length≤nn:=by unfold q8;rw[ee];omega
theorem cmpX {ok:Int→Bool}(lines:Nat→List Nu)(i:Nat)(v w:Nu)(hv:v=dE (lines i) x)(hw:w=b[i]!){f:Int→Option Bool}(hf:∀c,f c=some (ok c)):
  (bnd (S:=Bool) (bnd (aU (nv v)) fun x8=>cnd (!x8) (some true) (bnd (jj (nv v) (nv w)) fun r8=>bnd (f r8) fun qa=>some (!qa))) fun mK=>cnd mK (some (.inr (.inl false))) (some (.inl (i64.wrap ((i:Int)+(1:Int))))))=(cnd (!(aw (dE (lines i) x)&&ok (pN (dE (lines i) x) b[i]!))) (some (.inr (.inl false))) (some (.inl (i64.wrap ((i:Int)+(1:Int))))):Option (Int⊕(Bool⊕Unit))):=by
 subst hv hw
 rw[NF,pCmp]
 simp only[ab,hf]
 cases aw (dE (lines i) x) <;> cases ok (pN (dE (lines i) x) b[i]!) <;> rfl
theorem IL(hA:A.length=m*nn)(hm:m≤2000)(hn:nn≤2000)(hb:b.length≤m):a8 ⟨m,nn,A.map nv⟩ (x.map nv) (b.map nv)=some (Cw (q8 A nn) x b fun c=>decide (c≤0)):=by
 unfold a8 Cw
 refine tA (by omega) (fun i=>aw (dE (q8 A nn i) x)&&decide (pN (dE (q8 A nn i) x) b[i]!≤0)) (fun i hi=>?_) ?_
 ·unfold bu
  have:=Ny A nn i
  rw[bh,cw _ _,aC,OI hA hm hn (by omega),ab,uP (.inl (by omega)),ab,sr hi]
  exact cmpX (ok:=fun c=>decide (c≤0)) (q8 A nn) i _ _ rfl rfl fun c=>rfl
 ·unfold bu
  rw[bh,cg _ _]
theorem Gc(hA:A.length=m*nn)(hm:m≤2000)(hn:nn≤2000)(hb:b.length≤m):aZ ⟨m,nn,A.map nv⟩ (x.map nv) (b.map nv)=some (Cw (q8 A nn) x b fun c=>decide (c=0)):=by
 unfold aZ Cw
 refine tA (by omega) (fun i=>aw (dE (q8 A nn i) x)&&decide (pN (dE (q8 A nn i) x) b[i]! =0)) (fun i hi=>?_) ?_
 ·unfold br
  have:=Ny A nn i
  rw[bh,cw _ _,aC,OI hA hm hn (by omega),ab,uP (.inl (by omega)),ab,sr hi]
  exact cmpX (ok:=fun c=>decide (c=0)) (q8 A nn) i _ _ rfl rfl fun c=>rfl
 ·unfold br
  rw[bh,cg _ _]
theorem ye(hA:A.length=m*nn)(hm:m≤2000)(hn:nn≤2000)(hb:b.length≤nn):aK ⟨m,nn,A.map nv⟩ (x.map nv) (b.map nv)=some (Cw (ws A m nn) x b fun c=>decide (0≤c)):=by
 unfold aK Cw
 refine tA (by omega) (fun i=>aw (dE (ws A m nn i) x)&&decide (0≤pN (dE (ws A m nn i) x) b[i]!)) (fun i hi=>?_) ?_
 ·unfold be
  have:(ws A m nn i).length=m:=by simp[ws]
  rw[bh,cw _ _,aC,M8 hA hm hn (by omega),ab,uP (.inl (by omega)),ab,sr hi]
  exact cmpX (ok:=fun c=>decide (0≤c)) (ws A m nn) i _ _ rfl rfl fun c=>rfl
 ·unfold be
  rw[bh,cg _ _]
theorem G4(hA:A.length=m*nn)(hm:m≤2000)(hn:nn≤2000)(hb:b.length≤m)(hx:x.length≤9223372036854775807)(B C:List ao):dJ (x.map nv) (b.map nv) ⟨⟨m,nn,A.map nv⟩,B,C⟩=some (lh m nn A x b):=by
 unfold dJ lh
 dsimp only
 rw[uO hx,IL hA hm hn hb]
 simp only[ab,qi]
theorem KW(hA:A.length=m*nn)(hm:m≤2000)(hn:nn≤2000)(hb:b.length≤nn)(hy:y.length≤9223372036854775807)(k:Int)(xs rs B C:List ao):eA (b.map nv) ⟨k,xs,y.map nv,rs⟩ ⟨⟨m,nn,A.map nv⟩,B,C⟩=some (pz m nn A y b):=by
 unfold eA pz
 dsimp only
 rw[uO hy,ye hA hm hn hb]
 simp only[ab,qi]
theorem KV(v:Nu)(s:Int):fH (nv v) s=some (qz v s):=by
 unfold fH qz
 rw[NF,pSign]
 simp only[ab,qi]
theorem IK {n:Nat}(h:n≤2000):fc n=some ((List.replicate n (nOf 0)).map nv):=by
 unfold fc
 rw[ai (by omega),EE]
 congr 2
end
end
section
def Bq(a:Ans):cC:=⟨a.kind,a.x.map nv,a.y.map nv,a.ray.map nv⟩
theorem cN(b x:Bool):cnd b (some false) (some x)=some (!b&&x):=by cases b <;> rfl
structure EZ(a:Ans):Prop where
 x:a.x.length≤9223372036854775807
 y:a.y.length≤9223372036854775807
 ray:a.ray.length≤9223372036854775807
section
variable {m nn:Nat} {A B C:List Nu} {a:Ans}
theorem P8(hA:A.length=m*nn)(hm:m≤2000)(hn:nn≤2000)(hB:B.length=m)(hC:C.length=nn)(ha:EZ a):je ⟨⟨m,nn,A.map nv⟩,B.map nv,C.map nv⟩ (Bq a)=some (ju m nn A B C a):=by
 have hx:=ha.x
 have hy:=ha.y
 have hr:=ha.ray
 unfold je ju Bq
 dsimp only
 rw[G4 hA hm hn (by omega) (by omega),KW hA hm hn (by omega) (by omega),uP (.inl (by omega)),uP (.inr (by omega)),IK hn,IK hm,uP (.inl (by omega))]
 simp only[ab,KV,NF]
 rw[KW hA hm hn (by simp) (by omega),G4 hA hm hn (by simp) (by omega)]
 simp only[ab,bh]
 by_cases h1:a.kind=1
 ·rw[cw _ _ h1,ai h1]
  simp only[qi,cOr,cN,ab,Bool.not_or,Bool.not_not,LB]
  congr 2
  rw[It]
  congr 1
  by_cases h:a.ray.length=0
  ·rw[aA h,bk (by omega)];rfl
  ·rw[bk h,aA (by omega)];rfl
 ·rw[cg _ _ h1,ah h1]
  by_cases h2:a.kind=2
  ·rw[cw _ _ h2,ai h2]
   simp only[qi,ab,It]
   rw[Qy (by omega) (by omega)]
   congr 2
   by_cases h:a.x.length+a.ray.length=0
   ·rw[aA h,aA (by omega)]
   ·rw[bk h,bk (by omega)]
  ·rw[cg _ _ h2,ah h2]
   by_cases h3:a.kind=3
   ·rw[cw _ _ h3,ai h3]
    simp only[qi,ab,It]
    congr 2
    by_cases h:a.y.length=0
    ·rw[aA h,aA (by omega)]
    ·rw[bk h,bk (by omega)]
   ·rw[cg _ _ h3,ah h3]
theorem yk {R Cc:Int}(h:mN R Cc A B C=true):∃m nn:Nat,R=m∧Cc=nn∧m≤2000∧nn≤2000∧A.length=m*nn∧B.length=m∧C.length=nn∧A.all aw=true∧B.all aw=true∧C.all aw=true:=by
 unfold mN FJ at h
 simp only[cj,rG] at h
 obtain⟨⟨h1,h2,h3,h4,h5,h6⟩,h7,h8,h9,xy⟩:=h
 refine⟨R.toNat,Cc.toNat,by omega,by omega,by omega,by omega,?_,by omega,by omega,h6,h9,xy⟩
 have e1:R=(R.toNat:Int):=by omega
 have e2:Cc=(Cc.toNat:Int):=by omega
 rw[e1,e2,←iJ] at h5
 omega
def rD(R Cc:Int)(A B C:List Nu)(a:Ans):Int:=if mN R Cc A B C then (if ju R.toNat Cc.toNat A B C a then 0 else 250) else 1
theorem IP {R Cc:Int}(hA:A.length≤1000000)(hB:B.length≤1000000)(hC:C.length≤1000000)(ha:EZ a):gO ⟨⟨R,Cc,A.map nv⟩,B.map nv,C.map nv⟩ (Bq a)=some (rD R Cc A B C a):=by
 unfold gO rD
 rw[IM hA hB hC,ab]
 cases hv:mN R Cc A B C with
 |false=>rfl
 |true=>
  obtain⟨m,nn,rfl,rfl,hm,hn,h1,h2,h3,_⟩:=yk hv
  rw[P8 h1 hm hn h2 h3 ha]
  show cnd (!(ju m nn A B C a)) (some (250:Int)) (some (0:Int))=some (if ju m nn A B C a=true then 0 else 250)
  cases ju m nn A B C a <;> rfl
def DY(m nn:Nat)(A B:List Nu)(a:Ans):Bool:=
 if a.kind=1 then decide (a.y.length+a.ray.length=0)&&(Hs a.x nn&&Cw (q8 A nn) a.x B fun c=>decide (c=0))
 else if a.kind=2 then decide (a.x.length+a.ray.length=0)&&(decide (a.y.length=m)&&(a.y.all aw&&(Cw (ws A m nn) a.y (List.replicate nn (nOf 0)) (fun c=>decide (0≤c))&&qz (dE a.y B) (-1))))
 else false
def Ea(R Cc:Int)(A B:List Nu)(a:Ans):Int:=if sn R Cc A B then (if DY R.toNat Cc.toNat A B a then 0 else 250) else 1
theorem BI {R Cc:Int}(h:sn R Cc A B=true):∃m nn:Nat,R=m∧Cc=nn∧m≤1000∧nn≤2000∧A.length=m*nn∧B.length=m∧A.all aw=true∧B.all aw=true:=by
 unfold sn FJ at h
 simp only[cj,rG] at h
 obtain⟨⟨h1,h2,h3,h4,h5,h6⟩,h7,h9⟩:=h
 refine⟨R.toNat,Cc.toNat,by omega,by omega,by omega,by omega,?_,by omega,h6,h9⟩
 have e1:R=(R.toNat:Int):=by omega
 have e2:Cc=(Cc.toNat:Int):=by omega
 rw[e1,e2,←iJ] at h5
 omega
theorem IN {R Cc:Int}(hA:A.length≤1000000)(hB:B.length≤1000000)(ha:EZ a):f9 ⟨R,Cc,A.map nv⟩ (B.map nv) (Bq a)=some (Ea R Cc A B a):=by
 have hx:=ha.x
 have hy:=ha.y
 have hr:=ha.ray
 unfold f9 Ea
 rw[EX hA hB,ab]
 cases hv:sn R Cc A B with
 |false=>rfl
 |true=>
  obtain⟨m,nn,rfl,rfl,hm,hn,h1,h2,_⟩:=BI hv
  have key:∀(e:Option Bool),e=some (DY m nn A B a)→(cnd (!true) (some (1:Int)) (bnd e fun c8=>cnd (!c8) (some (250:Int)) (some (0:Int))))=some (if true=true then (if DY ((m:Int)).toNat ((nn:Int)).toNat A B a=true then 0 else 250) else 1):=fun e he=>by
   rw[he]
   show cnd (!(DY m nn A B a)) (some (250:Int)) (some (0:Int))=some (if DY m nn A B a=true then 0 else 250)
   cases DY m nn A B a <;> rfl
  refine key _ ?_
  unfold DY Bq
  dsimp only
  simp only[bh]
  by_cases k1:a.kind=1
  ·rw[cw _ _ k1,ai k1,uO (by omega),Gc h1 (by omega) hn (by omega)]
   simp only[qi,ab]
   rw[Qy (by omega) (by omega)]
   congr 2
   by_cases h:a.y.length+a.ray.length=0
   ·rw[aA h,aA (by omega)]
   ·rw[bk h,bk (by omega)]
  ·rw[cg _ _ k1,ah k1]
   by_cases k2:a.kind=2
   ·rw[cw _ _ k2,ai k2,IK hn,Qy (by omega) (by omega)]
    by_cases h:a.x.length+a.ray.length=0
    ·rw[aA h,cw _ _]
     by_cases h4:a.y.length=m
     ·rw[aA h4,cw _ _,t3 (by omega),uP (.inr (by omega))]
      simp only[ab,KV]
      rw[ye h1 (by omega) hn (by simp)]
      simp only[qi,ab,EB]
     ·rw[bk h4,cg _ _];rfl
    ·rw[bk h,cg _ _];rfl
   ·rw[cg _ _ k2,ah k2]
end
theorem qGood(x:Nu):e8 (nv x)=some (aw x):=by rw[ez];exact R_Good x.2
theorem Uu {l:List Nu}(hl:l.length≤9223372036854775807):l8 (l.map nv)=some (l.all aw):=by
 unfold l8
 rw[←GS]
 refine tA (by omega) (fun i=>aw l[i]!) (fun i hi=>?_) ?_
 ·unfold od
  rw[bh,cw _ _,aC,sr hi,qGood,ab]
 ·unfold od
  rw[bh,cg _ _]
section
variable {R Cc:Int} {A B C:List Nu}
theorem Uv {rows:Int}(hr:rows≤1000000)(hA:A.length≤9223372036854775807):l9 ⟨R,Cc,A.map nv⟩ rows 2000=some (FJ rows R Cc A):=by
 unfold l9 FJ
 dsimp only
 rw[Uu hA,bh]
 by_cases h1:0≤R
 ·by_cases h2:0≤Cc
  ·by_cases h3:R≤rows
   ·by_cases h4:Cc≤2000
    ·have hmul:0≤R*Cc∧R*Cc≤1000000*2000:=⟨Int.mul_nonneg h1 h2,Int.mul_le_mul (by omega) h4 h2 (by omega)⟩
     rw[eQ (by omega) (by omega)]
     simp only[ab,qi]
    ·simp only[bk h4,cF,qi,ab,uF,wB]
   ·simp only[bk h3,cF,qi,ab,uF,wB]
  ·simp only[bk h2,cF,qi,ab,uF,wB]
 ·simp only[bk h1,cF,qi,ab,uF,wB]
theorem R_Valid(hA:A.length≤9223372036854775807)(hB:B.length≤9223372036854775807)(hC:C.length≤9223372036854775807):mY ⟨⟨R,Cc,A.map nv⟩,B.map nv,C.map nv⟩=some (mN R Cc A B C):=by
 unfold mY mN
 dsimp only
 rw[Uv (by omega) hA,Uu hB,Uu hC,bh,bh]
 simp only[ab,qi]
theorem M7 {a b:List Nu}(ha:a.length≤9223372036854775807):kJ (a.map nv) (b.map nv)=some (decide (a=b)):=by
 unfold kJ
 rw[bh,bh]
 by_cases h:a.length=b.length
 ·rw[cg _ _]
  have:=tA (b:=jQ (a.map nv) (b.map nv)) (n:=a.length) (by omega) (fun i=>decide (a[i]! =b[i]!)) (fun i hi=>by
   unfold jQ
   rw[bh,bh,cw _ _,aC,aC,sr hi,sr (by omega)]
   congr 1
   by_cases h2:a[i]! =b[i]!
   ·rw[aA h2,bk (by rw[LB];exact fun h3=>h3 h2)];rfl
   ·rw[bk h2,aA (by rw[LB];exact h2)];rfl) (by
   unfold jQ
   rw[bh,cg _ _])
  refine this.trans ?_
  congr 1
  rw[Ej,a7,rG]
  constructor
  ·intro h2
   refine EG h fun i h3 h4=>?_
   have:=bA (h2 i (j7.2 h3))
   rwa[bJ a i h3,bJ b i h4] at this
  ·rintro rfl i _
   exact aA rfl
 ·rw[cw _ _,bk (fun e=>h (by rw[e]))]
theorem IJ {a b:Ans}(ha:EZ a):iv (Bq a) (Bq b)=some (decide (a=b)):=by
 have hx:=ha.x
 have hy:=ha.y
 have hr:=ha.ray
 unfold iv Bq
 dsimp only
 rw[M7 (by omega),M7 (by omega),M7 (by omega)]
 simp only[ab,qi]
 congr 1
 obtain⟨k,x,y,r⟩:=a
 obtain⟨k',x',y',r'⟩:=b
 rw[Ej]
 simp only[cj,rG,Ans.mk.injEq]
end
end
def jV(ek:List ao)(mO:Int):Int→Option (Int⊕(Bool⊕Unit)):=fun aD=>cnd (decide (aD<((ek).length:Int))) (bnd (S:=Bool) (gd (0≤aD∧aD<((ek).length:Int)) (bnd (e8 ((ek)[(aD).toNat]!)) fun x4=>cnd (!x4) (some (true)) (gd (0≤aD∧aD<((ek).length:Int)) (bnd (fY ((ek)[(aD).toNat]!.vN)) fun x9=>cnd (decide (mO<x9)) (some (true)) (gd (0≤aD∧aD<((ek).length:Int)) (bnd (fY ((ek)[(aD).toNat]!.vD)) fun pJ=>some (decide (mO<pJ)))))))) fun aR=>cnd aR (some (.inr (.inl false))) (some (.inl (i64.wrap (aD+(1:Int)))))) (some (.inr (.inr ())))
def lq(ek:List ao)(mO:Int):Option Bool:=bnd (bt (jV ek mO) (0:Int)) fun y18=>match y18 with| .inl r=>some r| .inr ()=>some true
theorem sQ {ek:List ao}{mO:Int}{r:Bool}(h:lq ek mO=some r):ar prog 27 [dL al ek,dI .i64 mO] (dB r):=by
 refine bj (rs:=[.tmp 4]) (fun cx hx h0=>?_) func27
 unfold lq at h
 refine ra hx ?_
 refine AW.seq (ra hx ?_)
 refine AW.block ?_
 obtain⟨y,hy,h⟩:=ae h
 refine lp (S:=Int) (X:=Bool⊕Unit) (fun aD=>[(0,dL al ek),(1,dI .i64 mO),(5,dI .i64 aD)]) (fun aD=>⟨[],[],0⟩) (PS (PR [.tmp 4] fun r=>dB r) (PE cx (.exit 0) (fun ()=>[]) fun ()=>⟨[],[],0⟩)) hy ?_ ?_ ?_
 exact wk0 h0 []
 clear hy h
 rintro aD y h
 dsimp only[jV] at h
 refine AW.seq (ra hx ?_)
 refine cdh h rfl (fun fR h=>?_) (fun fR h=>?_)
 refine AW.skip (AW.seq (AW.block (AW.seq ?_)))
 obtain⟨aR,hy,h⟩:=ae h
 refine jn ((PE cx .normal (fun aR=>[(0,dL al ek),(1,dI .i64 mO),(5,dI .i64 aD),(37,dB aR)]) fun aR=>⟨[],[],0⟩) aR) ?_ ?_
 replace h:=hy
 refine rq hx fun K hK=>?_
 iterate 2 refine sa ?_
 obtain⟨qC,h⟩:=az h
 have xw:(aD).toNat<(ek).length:=by omega
 refine sbr ?_
 refine s1 (d:=dG al ((ek)[(aD).toNat]!)) (kA (c:=al) (l:=ek) (n:=(aD).toNat) (o:=0) aT xw (fV _ _ rfl)) ?_
 refine scb h mp fun x4 h=>?_
 refine mbr ?_
 rcases aF h with⟨qP,h⟩|⟨qP,h⟩
 refine nbr hK ?_
 exact pe1 h h0 []
 iterate 2 refine ga qP ?_
 obtain⟨hc7,h⟩:=az h
 have Qm:(aD).toNat<(ek).length:=by omega
 refine gbr ?_
 refine ga qP ?_
 refine g1 (d:=dG aq ((ek)[(aD).toNat]!.vN)) qP (kA (c:=al) (l:=ek) (n:=(aD).toNat) (o:=0) eY Qm (by first|exact rfl|exact pG0 _ _ _ rfl|exact pG1 _ _ _ _ rfl rfl)) ?_
 refine gcb h zm fun x9 h=>?_
 refine mbr ?_
 rcases aF h with⟨xx,h⟩|⟨xx,h⟩
 refine nbr hK ?_
 exact pe1 h h0 []
 iterate 2 refine ga xx ?_
 obtain⟨hc12,h⟩:=az h
 have hn13:(aD).toNat<(ek).length:=by omega
 refine gbr ?_
 refine ga xx ?_
 refine g1 (d:=dG aq ((ek)[(aD).toNat]!.vD)) xx (kA (c:=al) (l:=ek) (n:=(aD).toNat) (o:=18) eY hn13 (by first|exact rfl|exact pG0 _ _ _ rfl|exact pG1 _ _ _ _ rfl rfl)) ?_
 refine gcb h zm fun pJ h=>?_
 refine nbr hK ?_
 exact pe1 h h0 []
 refine lw0 ?_
 refine cdh h rfl (fun DR h=>?_) (fun DR h=>?_)
 refine ra hx ?_
 refine AW.ret ?_
 cases h
 refine PS.r ⟨by nofun,PS.l (PR.i ?_)⟩
 exact rv1
 refine AW.skip (rb hx ?_)
 exact pel h h0 []
 exact AW.exit (peq h h0 [])
 rcases y with r|⟨⟩
 rintro ex tm' hp' ⟨rfl,hw⟩
 cases h
 exact hw
 refine lwr ?_
 refine ra hx ?_
 exact AW.ret (rtv h)
def pX(nT:bm)(Di:Int)(mO:Int):Option Bool:=bnd (S:=Bool) (bnd (mY nT) fun x1=>cnd x1 (cnd (decide (nT.vA.vR≤Di)) (cnd (decide (nT.vA.vC≤Di)) (bnd (lq nT.vA.vV mO) fun x6=>cnd x6 (bnd (lq nT.vB mO) fun x9=>cnd x9 (bnd (lq nT.vC mO) fun nf=>some (nf)) (some (false))) (some (false))) (some (false))) (some (false))) (some (false))) fun bo=>some bo
theorem Ji {nT:bm}{Di:Int}{mO:Int}{r:Bool}(h:pX nT Di mO=some r):ar prog 25 [dG dY nT,dI .i64 Di,dI .i64 mO] (dB r):=by
 refine bj (rs:=[.tmp 6]) (fun cx hx h0=>?_) func25
 unfold pX at h
 refine rs hx fun K hK=>?_
 refine s1 (d:=.pt 0 0) gF ?_
 refine nbr hK ?_
 refine AW.seq ?_
 obtain⟨bo,hy,h⟩:=ae h
 refine jn ((PE cx .normal (fun bo=>[(6,dB bo)]) fun bo=>⟨[],[],0⟩) bo) ?_ ?_
 replace h:=hy
 refine rq hx fun K hK=>?_
 refine s1 (d:=dG dY nT) (T_ldA uZ) ?_
 refine scb h Fw fun x1 h=>?_
 refine sa ?_
 rcases aF h with⟨fQ,h⟩|⟨fQ,h⟩
 refine mbr ?_
 rcases aF h with⟨Fk,h⟩|⟨Fk,h⟩
 refine mbr ?_
 rcases aF h with⟨rt,h⟩|⟨rt,h⟩
 iterate 2 refine ga rt ?_
 refine gbr ?_
 refine ga rt ?_
 refine gcb h sQ fun x6 h=>?_
 refine mbr ?_
 rcases aF h with⟨tH,h⟩|⟨tH,h⟩
 refine ga tH ?_
 refine gbr ?_
 refine ga tH ?_
 refine gcb h sQ fun x9 h=>?_
 refine mbr ?_
 rcases aF h with⟨xx,h⟩|⟨xx,h⟩
 refine ga xx ?_
 refine gbr ?_
 refine ga xx ?_
 refine gcb h sQ fun nf h=>?_
 refine nbr hK ?_
 exact pe1 h h0 []
 refine nbr hK ?_
 exact pe1 h h0 []
 refine nbr hK ?_
 exact pe1 h h0 []
 refine nbr hK ?_
 exact pe1 h h0 []
 refine nbr hK ?_
 exact pe1 h h0 []
 refine nbr hK ?_
 exact pe1 h h0 []
 refine lw0 ?_
 exact AW.ret (rtv h)
def kZ(ek:List Int):(List ao)×Int→Option (((List ao)×Int)⊕((List ao))):=fun (aN,bn)=>cnd (decide (bn<((ek).length:Int))) (gd (0≤bn∧bn<((ek).length:Int)) (bnd (pe ((ek)[(bn).toNat]!)) fun x4=>gd ((aN++[x4]).length*136≤140737488355328) (some (.inl (aN++[x4],i64.wrap (bn+(1:Int))))))) (some (.inr aN))
def c7(ek:List Int):Option (List ao):=bnd (bt (kZ ek) (([]:List ao),(0:Int))) fun a9=>some a9
theorem eE {ek:List Int}{r:List ao}(h:c7 ek=some r):ar prog 40 [dL (cI .i64) ek] (.own 43 al.sz r.length (r.flatMap al.f)):=by
 refine bj (rs:=[.tmp 2]) (fun cx hx h0=>?_) func40
 unfold c7 at h
 refine rs hx fun K hK=>?_
 refine s1 (d:=dO 0 al ([]:List ao)) (gl ct aT) ?_
 refine nl hK ?_
 refine rs hx fun K hK=>?_
 refine s1 (d:=dO 1 al ([]:List ao)) (gl ct aT) ?_
 refine nl hK ?_
 refine AW.seq (ra hx ?_)
 refine AW.block ?_
 obtain⟨a9,hy,h⟩:=ae h
 refine lp (S:=(List ao)×Int) (X:=(List ao)) (fun (aN,bn)=>[(0,dL (cI .i64) ek),(3,dO 0 al aN),(4,dI .i64 bn)]) (fun (aN,bn)=>⟨[],[(0,(aN).length,36,43)],1⟩) (PE cx (.exit 0) (fun a9=>[(3,dO 0 al a9)]) fun a9=>⟨[],[(0,(a9).length,36,43)],1⟩) hy ?_ ?_ ?_
 exact wk0 h0 [1]
 clear hy h
 rintro⟨aN,bn⟩ y h
 dsimp only[kZ] at h
 refine AW.seq (ra hx ?_)
 refine cdh h rfl (fun fR h=>?_) (fun fR h=>?_)
 refine AW.skip (AW.seq (AW.block (rq hx fun K hK=>?_)))
 iterate 3 refine sa ?_
 obtain⟨qC,h⟩:=az h
 have xw:(bn).toNat<(ek).length:=by omega
 refine sbr ?_
 refine s1 (yc (c:=(cI .i64)) (l:=ek) (n:=(bn).toNat) (o:=0) dU xw) ?_
 refine scb h C0 fun x4 h=>?_
 refine s1 (kT ([x4]:List ao) al ct aT) ?_
 obtain⟨hc6,h⟩:=az h
 refine s1 (d:=dO 0 al (aN++[x4])) (rU ct aT hc6) ?_
 refine nbr hK ?_
 refine rb hx ?_
 exact pel h h0 [0]
 exact AW.exit (per h h0 [0])
 refine lw0 ?_
 refine ra hx ?_
 refine AW.ret ?_
 cases h
 exact nY.own rfl rfl
def fg(jH:Int)(aJ:List Int)(aO:List Int)(nZ:List Int):Option bm:=bnd (c7 aJ) fun x1=>bnd (c7 aO) fun x3=>bnd (c7 nZ) fun x5=>some (⟨(⟨jH,((nZ).length:Int),x1⟩:fU),x3,x5⟩:bm)
theorem ni {jH:Int}{aJ:List Int}{aO:List Int}{nZ:List Int}{r:bm}(h:fg jH aJ aO nZ=some r):ar prog 37 [dI .i64 jH,dL (cI .i64) aJ,dL (cI .i64) aO,dL (cI .i64) nZ] (dG dY r):=by
 refine bj (rs:=[.cell 8 26]) (fun cx hx h0=>?_) func37
 unfold fg at h
 refine rs hx fun K hK=>?_
 refine s1 (d:=.pt 0 0) (sO uZ) ?_
 refine nl hK ?_
 refine rs hx fun K hK=>?_
 iterate 4 refine sa ?_
 obtain⟨x1,w7,h⟩:=ae h
 refine s1 (iC rfl (eE w7) rfl (lA (ax _) lAn)) ?_
 refine s2 (d2:=dG mJ (⟨jH,((nZ).length:Int),x1⟩:fU)) (dT (es:=[dI .i64 jH,dI .i64 ((nZ).length:Int),dO 1 al x1]) xG) (su (wc (sU _) (wc (sU _) (wc (lc_x _) wcn)))) ?_
 refine sa ?_
 obtain⟨x3,hx4,h⟩:=ae h
 refine s1 (iC rfl (eE hx4) rfl (lA (ax _) lAn)) ?_
 refine sa ?_
 obtain⟨x5,HN,h⟩:=ae h
 refine s1 (iC rfl (eE HN) rfl (lA (ax _) lAn)) ?_
 refine s2 (d2:=dG dY (⟨(⟨jH,((nZ).length:Int),x1⟩:fU),x3,x5⟩:bm)) (dT (es:=[dI .i64 jH,dI .i64 ((nZ).length:Int),dL al x1,dO 2 al x3,dO 3 al x5]) uZ) (su (wc (sU _) (wc (sU _) (wc (sU _) (wc (lc_x _) (wc (lc_x _) wcn)))))) ?_
 refine s0 (MZ (ds':=[dI .i64 jH,dI .i64 ((nZ).length:Int),dL al x1,dL al x3,dL al x5]) uZ) ?_
 refine nl hK ?_
 refine AW.ret ?_
 cases h
 exact nY.mk1 (Ra (es:=(dY.f (⟨(⟨jH,((nZ).length:Int),x1⟩:fU),x3,x5⟩:bm)).map .e) rfl uZ rfl rfl (ltb rfl) (leb rfl) rfl (.inr (.inr ⟨_,(ax _),rfl,rfl⟩)))
def gf(aJ:Int)(aO:Int):Option (List ao):=bnd (mu aJ (5:Int)) fun x1=>bnd (mu aO (5:Int)) fun x3=>some [x1,x3]
theorem n3 {aJ:Int}{aO:Int}{r:List ao}(h:gf aJ aO=some r):ar prog 39 [dI .i64 aJ,dI .i64 aO] (.own 43 al.sz r.length (r.flatMap al.f)):=by
 refine bj (rs:=[.tmp 4]) (fun cx hx h0=>?_) func39
 unfold gf at h
 refine rs hx fun K hK=>?_
 refine s1 (d:=dO 0 al ([]:List ao)) (gl ct aT) ?_
 refine nl hK ?_
 refine rs hx fun K hK=>?_
 refine sa ?_
 refine scb h zi fun x1 h=>?_
 refine sa ?_
 refine scb h zi fun x3 h=>?_
 refine s1 (kT ([x1,x3]:List ao) al ct aT) ?_
 refine nbr hK ?_
 refine AW.ret ?_
 cases h
 exact nY.own rfl rfl
def ge(nT:bm)(Ht:cC):Option Bool:=bnd (iS nT (100:Int)) fun x1=>bnd (S:=Bool) (cnd (decide (x1.2.2=(0:Int))) (bnd (iv x1.1 Ht) fun x4=>cnd x4 (bnd (gO nT x1.1) fun x7=>some (decide (x7=(0:Int)))) (some (false))) (some (false))) fun jp=>some jp
theorem n0 {nT:bm}{Ht:cC}{r:Bool}(h:ge nT Ht=some r):ar prog 38 [dG dY nT,dG jZ Ht] (dB r):=by
 refine bj (rs:=[.tmp 4]) (fun cx hx h0=>?_) func38
 unfold ge at h
 refine rs hx fun K hK=>?_
 refine s1 (d:=.pt 0 0) gF ?_
 refine s1 (d:=.pt 1 0) gF ?_
 refine nbr hK ?_
 refine rs hx fun K hK=>?_
 refine s1 (d:=dG dY nT) (T_ldA uZ) ?_
 refine scb h uV fun x1 h=>?_
 iterate 4 refine sa ?_
 refine s1 (d:=.pt 2 0) (sO qp) ?_
 refine s0 (MZ (ds':=[dI .i64 x1.1.vKind,dL al x1.1.vX,dL al x1.1.vY,dL al x1.1.vRay]) qp) ?_
 refine nbr hK ?_
 refine AW.seq ?_
 obtain⟨jp,hy,h⟩:=ae h
 refine jn ((PE cx .normal (fun jp=>[(4,dB jp)]) fun jp=>⟨[],[],0⟩) jp) ?_ ?_
 replace h:=hy
 refine rq hx fun K hK=>?_
 refine mbr ?_
 rcases aF h with⟨fQ,h⟩|⟨fQ,h⟩
 refine g1 (d:=dG jZ x1.1) fQ (T_ldA qp) ?_
 refine g1 (d:=dG jZ Ht) fQ (T_ldA qp) ?_
 refine gcb h yi fun x4 h=>?_
 refine mbr ?_
 rcases aF h with⟨qP,h⟩|⟨qP,h⟩
 refine g1 (d:=dG dY nT) qP (T_ldA uZ) ?_
 refine g1 (d:=dG jZ x1.1) qP (T_ldA qp) ?_
 refine gcb h qe fun x7 h=>?_
 refine nbr hK ?_
 exact pe1 h h0 []
 refine nbr hK ?_
 exact pe1 h h0 []
 refine nbr hK ?_
 exact pe1 h h0 []
 refine lw0 ?_
 exact AW.ret (rtv h)
def jW :Option Bool:=bnd (fg (2:Int) [(1:Int),(2:Int),(3:Int),(1:Int)] [(4:Int),(6:Int)] [(1:Int),(1:Int)]) fun x1=>bnd (gf (8:Int) (6:Int)) fun x3=>bnd (gf (2:Int) (1:Int)) fun x5=>bnd (ge x1 (⟨(1:Int),x3,x5,([]:List ao)⟩:cC)) fun x7=>bnd (fg (1:Int) [(1:Int)] [(-1:Int)] [(0:Int)]) fun x9=>bnd (c7 [(1:Int)]) fun r8=>bnd (ge x9 (⟨(2:Int),([]:List ao),r8,([]:List ao)⟩:cC)) fun qa=>bnd (fg (1:Int) [(-1:Int),(1:Int)] [(1:Int)] [(1:Int),(0:Int)]) fun I2=>bnd (c7 [(0:Int),(0:Int)]) fun pI=>bnd (c7 [(1:Int),(0:Int)]) fun vn=>bnd (ge I2 (⟨(3:Int),pI,([]:List ao),vn⟩:cC)) fun vJ=>bnd (fg (1:Int) [(-1:Int)] [(-2:Int)] [(-1:Int)]) fun xB=>bnd (c7 [(2:Int)]) fun IT=>bnd (c7 [(1:Int)]) fun As=>bnd (ge xB (⟨(1:Int),IT,As,([]:List ao)⟩:cC)) fun Cj=>bnd (c7 [(1:Int),(1:Int),(1:Int),(-1:Int)]) fun G9=>bnd (c7 [(1:Int),(3:Int)]) fun K7=>bnd (kW (⟨(2:Int),(2:Int),G9⟩:fU) K7 (100:Int)) fun za=>bnd (S:=Bool) (cnd (decide (za.2.2=(0:Int))) (cnd (decide (za.1.vKind=(2:Int))) (bnd (c7 [(1:Int),(3:Int)]) fun K6=>bnd (f9 (⟨(2:Int),(2:Int),G9⟩:fU) K6 za.1) fun x41=>some (decide (x41=(0:Int)))) (some (false))) (some (false))) fun G0=>bnd (S:=Bool) (cnd x7 (cnd qa (cnd vJ (cnd Cj (cnd G0 (bnd (gf (8:Int) (6:Int)) fun x49=>bnd (gf (2:Int) (2:Int)) fun x51=>bnd (gO x1 (⟨(1:Int),x49,x51,([]:List ao)⟩:cC)) fun x53=>some (decide (x53=(250:Int)))) (some (false))) (some (false))) (some (false))) (some (false))) (some (false))) fun nQ=>some nQ
theorem v8  {r:Bool}(h:jW=some r):ar prog 11 [] (dB r):=by
 refine bj (rs:=[.tmp 0]) (fun cx hx h0=>?_) func11
 unfold jW at h
 refine ra hx ?_
 refine rs hx fun K hK=>?_
 refine s1 (d:=dO 0 (cI .i64) [(1:Int),(2:Int),(3:Int),(1:Int)]) (ke cX dU) ?_
 refine s1 (d:=dO 1 (cI .i64) [(4:Int),(6:Int)]) (ke cX dU) ?_
 refine s1 (d:=dO 2 (cI .i64) [(1:Int),(1:Int)]) (ke cX dU) ?_
 refine scb h ni fun x1 h=>?_
 refine s1 (d:=.pt 3 0) (sO uZ) ?_
 refine s0 (MZ (ds':=[dI .i64 x1.vA.vR,dI .i64 x1.vA.vC,dL al x1.vA.vV,dL al x1.vB,dL al x1.vC]) uZ) ?_
 refine nl hK ?_
 refine rsd [38] hx fun K hK=>?_
 refine s1 (d:=dG dY x1) (T_ldA uZ) ?_
 obtain⟨x3,hx4,h⟩:=ae h
 refine s1 (iC rfl (n3 hx4) rfl (lA (ax _) (lA (ax _) lAn))) ?_
 obtain⟨x5,HN,h⟩:=ae h
 refine s1 (iC rfl (n3 HN) rfl (lA (ax _) (lA (ax _) lAn))) ?_
 refine s1 (d:=.ag [dI .i64 (1:Int),dO 4 al x3,dO 5 al x5,dN]) (dT qp) ?_
 obtain⟨x7,hx8,h⟩:=ae h
 refine sq tok (n0 hx8) (by simp only[j4,m9,iK,kQ,fM,cj];exact⟨dW _ _,rfl⟩) (lA (ax _) (lA (su (wc (sU _) (wc (sU _) (wc (sU _) (wc (Ph rfl) wcn))))) lAn)) (.inl rfl) ?_
 refine nbr hK ?_
 refine rs hx fun K hK=>?_
 refine s1 (d:=dO 6 (cI .i64) [(1:Int)]) (ke cX dU) ?_
 refine s1 (d:=dO 7 (cI .i64) [(-1:Int)]) (ke cX dU) ?_
 refine s1 (d:=dO 8 (cI .i64) [(0:Int)]) (ke cX dU) ?_
 refine scb h ni fun x9 h=>?_
 refine s1 (d:=dO 9 (cI .i64) [(1:Int)]) (ke cX dU) ?_
 obtain⟨r8,hx12,h⟩:=ae h
 refine s1 (iC rfl (eE hx12) rfl (lA (ax _) lAn)) ?_
 refine s1 (d:=.ag [dI .i64 (2:Int),dN,dO 10 al r8,dN]) (dT qp) ?_
 obtain⟨qa,RZ,h⟩:=ae h
 refine s1 (yU rfl (n0 RZ) (by simp only[j4,m9,iK,kQ,fM,cj];exact⟨dW _ _,rfl⟩) (lA (ax _) (lA (su (wc (sU _) (wc (Ph rfl) (wc (sU _) (wc (Ph rfl) wcn))))) lAn)) (.inl rfl)) ?_
 refine nbr hK ?_
 refine rs hx fun K hK=>?_
 refine s1 (d:=dO 11 (cI .i64) [(-1:Int),(1:Int)]) (ke cX dU) ?_
 refine s1 (d:=dO 12 (cI .i64) [(1:Int)]) (ke cX dU) ?_
 refine s1 (d:=dO 13 (cI .i64) [(1:Int),(0:Int)]) (ke cX dU) ?_
 refine scb h ni fun I2 h=>?_
 refine s1 (d:=dO 14 (cI .i64) [(0:Int),(0:Int)]) (ke cX dU) ?_
 obtain⟨pI,vu,h⟩:=ae h
 refine s1 (iC rfl (eE vu) rfl (lA (ax _) lAn)) ?_
 refine s1 (d:=dO 16 (cI .i64) [(1:Int),(0:Int)]) (ke cX dU) ?_
 obtain⟨vn,FN,h⟩:=ae h
 refine s1 (iC rfl (eE FN) rfl (lA (ax _) lAn)) ?_
 refine s1 (d:=.ag [dI .i64 (3:Int),dO 15 al pI,dN,dO 17 al vn]) (dT qp) ?_
 obtain⟨vJ,RY,h⟩:=ae h
 refine s1 (yU rfl (n0 RY) (by simp only[j4,m9,iK,kQ,fM,cj];exact⟨dW _ _,rfl⟩) (lA (ax _) (lA (su (wc (sU _) (wc (sU _) (wc (Ph rfl) (wc (sU _) wcn))))) lAn)) (.inl rfl)) ?_
 refine nbr hK ?_
 refine rs hx fun K hK=>?_
 refine s1 (d:=dO 18 (cI .i64) [(-1:Int)]) (ke cX dU) ?_
 refine s1 (d:=dO 19 (cI .i64) [(-2:Int)]) (ke cX dU) ?_
 refine s1 (d:=dO 20 (cI .i64) [(-1:Int)]) (ke cX dU) ?_
 refine scb h ni fun xB h=>?_
 refine s1 (d:=dO 21 (cI .i64) [(2:Int)]) (ke cX dU) ?_
 obtain⟨IT,hx26,h⟩:=ae h
 refine s1 (iC rfl (eE hx26) rfl (lA (ax _) lAn)) ?_
 refine s1 (d:=dO 23 (cI .i64) [(1:Int)]) (ke cX dU) ?_
 obtain⟨As,HO,h⟩:=ae h
 refine s1 (iC rfl (eE HO) rfl (lA (ax _) lAn)) ?_
 refine s1 (d:=.ag [dI .i64 (1:Int),dO 22 al IT,dO 24 al As,dN]) (dT qp) ?_
 obtain⟨Cj,RV,h⟩:=ae h
 refine s1 (yU rfl (n0 RV) (by simp only[j4,m9,iK,kQ,fM,cj];exact⟨dW _ _,rfl⟩) (lA (ax _) (lA (su (wc (sU _) (wc (sU _) (wc (sU _) (wc (Ph rfl) wcn))))) lAn)) (.inl rfl)) ?_
 refine nbr hK ?_
 refine rs hx fun K hK=>?_
 refine s1 (d:=dO 25 (cI .i64) [(1:Int),(1:Int),(1:Int),(-1:Int)]) (ke cX dU) ?_
 obtain⟨G9,hx32,h⟩:=ae h
 refine s1 (iC rfl (eE hx32) rfl (lA (ax _) lAn)) ?_
 refine s2 (d2:=dG mJ (⟨(2:Int),(2:Int),G9⟩:fU)) (dT (es:=[dI .i64 (2:Int),dI .i64 (2:Int),dO 26 al G9]) xG) (su (wc (sU _) (wc (sU _) (wc (lc_x _) wcn)))) ?_
 refine s1 (d:=.pt 27 0) (sO xG) ?_
 refine s0 (MZ (ds':=[dI .i64 (2:Int),dI .i64 (2:Int),dL al G9]) xG) ?_
 refine nl hK ?_
 refine AW.seq ?_
 obtain⟨K7,Po,h⟩:=ae h
 obtain⟨za,hx36,h⟩:=ae h
 refine jn (PE cx .normal (fun (_:Unit)=>[(1,.pt 0 0),(2,dB x7),(3,dB qa),(4,dB vJ),(5,dB Cj),(6,.pt 1 0),(7,.pt 2 0),(9,dI .i64 za.2.2)]) (fun (_:Unit)=>⟨[(0,[dI .i64 x1.vA.vR,dI .i64 x1.vA.vC,dL al x1.vA.vV,dL al x1.vB,dL al x1.vC]),(1,[dI .i64 (2:Int),dI .i64 (2:Int),dL al G9]),(2,[dI .i64 za.1.vKind,dL al za.1.vX,dL al za.1.vY,dL al za.1.vRay])],[],3⟩) ()) ?_ ?_
 refine dw (DW.split 2 8 (by decide) ?_ ?_)
 refine dwg [21] [0,1,2,3,4,5,6,7,8,9,10,11] hx (by kernel_rfl) (by kernel_rfl) (by kernel_rfl) fun K hK=>?_
 dsimp only[d8,mE,mP,List.map]
 refine s1 (d:=dG mJ (⟨(2:Int),(2:Int),G9⟩:fU)) (T_ldA xG) ?_
 refine s1 (EU cX dU) ?_
 refine s1 (iC rfl (eE Po) rfl (lA (ax _) lAn)) ?_
 refine cq (uW hx36) ?_
 iterate 4 refine sa ?_
 refine s1 (d:=.pt 29 0) (sO qp) ?_
 refine s0 (MZ (ds':=[dI .i64 za.1.vKind,dL al za.1.vX,dL al za.1.vY,dL al za.1.vRay]) qp) ?_
 iterate 2 refine sa ?_
 exact .nil (hK _ _ (pe0 h0 [3,27,29]))
 refine dwg [21] [0,1,8,2,3,4,5,6,7,9,10,11] hx (by kernel_rfl) (by kernel_rfl) (by kernel_rfl) fun K hK=>?_
 dsimp only[d8,mE,mP,List.map]
 refine s1 (d:=dG mJ (⟨(2:Int),(2:Int),G9⟩:fU)) (T_ldA xG) ?_
 refine s1 (EU cX dU) ?_
 refine s1 (d:=.pt 28 0) (sO qp) ?_
 refine s1 (iC rfl (eE Po) rfl (lA (ax _) lAn)) ?_
 refine cq (uW hx36) ?_
 iterate 4 refine sa ?_
 refine s0 (MZ (ds':=[dI .i64 za.1.vKind,dL al za.1.vX,dL al za.1.vY,dL al za.1.vRay]) qp) ?_
 iterate 2 refine sa ?_
 exact .nil (hK _ _ (pe0 h0 [3,27,28]))
 refine lw0 ?_
 refine AW.seq ?_
 obtain⟨G0,hy,h⟩:=ae h
 refine jn ((PE cx .normal (fun G0=>[(1,.pt 0 0),(2,dB x7),(3,dB qa),(4,dB vJ),(5,dB Cj),(10,dB G0)]) fun G0=>⟨[(0,[dI .i64 x1.vA.vR,dI .i64 x1.vA.vC,dL al x1.vA.vV,dL al x1.vB,dL al x1.vC])],[],1⟩) G0) ?_ ?_
 replace h:=hy
 refine rqd [23] hx fun K hK=>?_
 refine mbr ?_
 rcases aF h with⟨hb37,h⟩|⟨hb37,h⟩
 refine mbr ?_
 rcases aF h with⟨hb38,h⟩|⟨hb38,h⟩
 refine g1 (d:=dG mJ (⟨(2:Int),(2:Int),G9⟩:fU)) hb38 (T_ldA xG) ?_
 refine g1 hb38 (EU cX dU) ?_
 obtain⟨K6,hx40,h⟩:=ae h
 refine g1 hb38 (iC rfl (eE hx40) rfl (lA (ax _) lAn)) ?_
 refine g1 (d:=dG jZ za.1) hb38 (T_ldA qp) ?_
 obtain⟨x41,hx42,h⟩:=ae h
 refine sqg tok rfl rfl hb38 (vP hx42) (by simp only[j4,m9,iK,kQ,fM,cj];exact⟨dW _ _,rfl,dW _ _⟩) (lA (ax _) (lA (ax _) (lA (ax _) lAn))) (.inl rfl) ?_
 refine nbr hK ?_
 exact pe1 h h0 [0]
 refine nbr hK ?_
 exact pe1 h h0 [0]
 refine nbr hK ?_
 exact pe1 h h0 [0]
 refine lw0 ?_
 refine AW.seq ?_
 obtain⟨nQ,hy,h⟩:=ae h
 refine jn ((PE cx .normal (fun nQ=>[(0,dB nQ)]) fun nQ=>⟨[],[],0⟩) nQ) ?_ ?_
 replace h:=hy
 refine rqd [19] hx fun K hK=>?_
 refine mbr ?_
 rcases aF h with⟨hb44,h⟩|⟨hb44,h⟩
 refine mbr ?_
 rcases aF h with⟨hb45,h⟩|⟨hb45,h⟩
 refine mbr ?_
 rcases aF h with⟨hb46,h⟩|⟨hb46,h⟩
 refine mbr ?_
 rcases aF h with⟨hb47,h⟩|⟨hb47,h⟩
 refine mbr ?_
 rcases aF h with⟨SE,h⟩|⟨SE,h⟩
 refine g1 (d:=dG dY x1) SE (T_ldA uZ) ?_
 obtain⟨x49,hx50,h⟩:=ae h
 refine g1 SE (iC rfl (n3 hx50) rfl (lA (ax _) (lA (ax _) lAn))) ?_
 obtain⟨x51,hx52,h⟩:=ae h
 refine g1 SE (iC rfl (n3 hx52) rfl (lA (ax _) (lA (ax _) lAn))) ?_
 refine g1 (d:=.ag [dI .i64 (1:Int),dO 1 al x49,dO 2 al x51,dN]) SE (dT qp) ?_
 obtain⟨x53,hx54,h⟩:=ae h
 refine sqg tok rfl rfl SE (qe hx54) (by simp only[j4,m9,iK,kQ,fM,cj];exact⟨dW _ _,rfl⟩) (lA (ax _) (lA (su (wc (sU _) (wc (sU _) (wc (sU _) (wc (Ph rfl) wcn))))) lAn)) (.inl rfl) ?_
 refine nbr hK ?_
 exact pe1 h h0 []
 refine nbr hK ?_
 exact pe1 h h0 []
 refine nbr hK ?_
 exact pe1 h h0 []
 refine nbr hK ?_
 exact pe1 h h0 []
 refine nbr hK ?_
 exact pe1 h h0 []
 refine nbr hK ?_
 exact pe1 h h0 []
 refine lw0 ?_
 exact AW.ret (rtv h)
theorem TL {A k:Nat}(h:A<2 ^ (k+1))(hb:(dg 65536 A (k / 16) / 2 ^ (k % 16)) % 2=0):A<2 ^ k:=by
 have e1:(dg 65536 A (k / 16)).testBit (k % 16)=A.testBit k:=by
  unfold dg
  rw[show (65536:Nat) ^ (k / 16)=2 ^ (16*(k / 16)) by rw[Bw],show (65536:Nat)=2 ^ 16 by decide,Nat.testBit_mod_two_pow,Nat.testBit_div_two_pow,aA (eg _ (by decide)),EB]
  congr 1;omega
 rw[T3,T3] at e1
 have h2:A / 2 ^ k % 2=0:=by
  rcases Nat.mod_two_eq_zero_or_one (A / 2 ^ k) with h3|h3
  ·exact h3
  ·rw[h3] at e1
   have:=bA (e1.trans (aA rfl))
   omega
 have h3:A / 2 ^ k<2:=by rw[lz (bL (by decide))];rw[cy] at h;omega
 have h4:A / 2 ^ k=0:=by
  generalize A / 2 ^ k=q at h2 h3
  omega
 rcases Nat.div_eq_zero_iff.1 h4 with h5|h5
 ·have:=bL (n:=k) (show 0<2 by decide);omega
 ·exact h5
theorem R_bit {A k:Nat}(hk:k≤100000):pU (dl A) (k:Int)=some (((dg 65536 A (k / 16) / 2 ^ (k % 16)) % 2:Nat):Int):=by
 unfold pU
 have e1:i64.wrap (Int.tdiv (k:Int) (16:Int))=((k / 16:Nat):Int):=by
  rw[Int.tdiv_eq_ediv_of_nonneg (by omega),eQ (by omega) (by omega)];omega
 have e2:Int.tmod (k:Int) (16:Int)=((k % 16:Nat):Int):=by
  rw[Int.tmod_eq_emod_of_nonneg (by omega)];rfl
 rw[e1,e2,show dl A=dk (sz6 A) A from rfl,uS (jF A),ab,aC,Ba _ _ _ (by have:k % 16<16:=eg _ (by decide);show k % 16≤64;omega)]
 generalize dg 65536 A (k / 16) / 2 ^ (k % 16)=q
 have e3:Int.tmod (q:Int) 2=((q % 2:Nat):Int):=by rw[Int.tmod_eq_emod_of_nonneg (by omega)];rfl
 rw[e3]
theorem Ux {z:Int}(hz:z.natAbs<LIM):∃n:Nat,fY (enc z)=some (n:Int)∧z.natAbs<2 ^ n:=by
 have hsz:sz6 z.natAbs≤32:=qY (bG hz (by decide))
 have bH:=jF z.natAbs
 have hlen:=Mn z.natAbs
 obtain⟨x,hl,hx⟩:=u9 (b:=my (dl z.natAbs)) (fun s:Int=>0≤s∧s≤512∧z.natAbs<2 ^ s.toNat) (fun s=>s.toNat) (fun x=>0≤x∧x≤512∧z.natAbs<2 ^ x.toNat) (fun s ⟨h1,h2,h3⟩=>by
  unfold my
  by_cases h0:0<s
  ·obtain⟨k,rfl⟩:∃k:Nat,s=(k:Int)+1:=⟨(s - 1).toNat,by omega⟩
   rw[cw _ _ h0,eQ (z:=(k:Int)+1 - 1) (by omega) (by omega),show (k:Int)+1 - 1=(k:Int) by omega,R_bit (by omega),ab]
   have e:((k:Int)+1).toNat=k+1:=by omega
   rw[e] at h3
   by_cases hb:(dg 65536 z.natAbs (k / 16) / 2 ^ (k % 16)) % 2=0
   ·refine .inl ⟨(k:Int),?_,⟨by omega,by omega,?_⟩,by omega⟩
    ·rw[aA (by omega)];rfl
    ·rw[show ((k:Int)).toNat=k by omega];exact TL h3 hb
   ·refine .inr ⟨(k:Int)+1,?_,by omega,by omega,by rw[e];exact h3⟩
    rw[bk (by omega)];rfl
  ·obtain rfl:s=0:=by omega
   exact .inr ⟨0,by rw[cg _ _ h0];rfl,by omega,by omega,h3⟩) (16*(sz6 z.natAbs:Int)) ⟨by omega,by omega,by
   rw[show (16*(sz6 z.natAbs:Int)).toNat=16*sz6 z.natAbs by omega,Bw];exact bH⟩
 refine⟨x.toNat,?_,hx.2.2⟩
 unfold fY
 rw[ij,ba hz,ab,mH hz]
 rw[show (!true)=false from rfl,cF]
 simp only[ab]
 rw[hlen,eQ (by omega) (by omega),hl,ab]
 congr 1;omega
theorem yu {x:Nu}(h:aw x=true):(∃n:Nat,fY (nv x).vN=some (n:Int)∧(rv x).num.natAbs<2 ^ n)∧∃n:Nat,fY (nv x).vD=some (n:Int)∧(rv x).den<2 ^ n:=by
 obtain⟨h1,h2⟩:=dm.1 (bC.1 h)
 have e:nv x=kN (rv x):=h2
 rw[e]
 refine⟨Ux h1.1,?_⟩
 obtain⟨n,h3,h4⟩:=Ux (jE h1)
 exact⟨n,h3,by simpa using h4⟩
structure KS(l:List Nu)(bits:Int):Prop where
 good:∀i,i<l.length→aw l[i]! =true
 num:∀i,i<l.length→(rv l[i]!).num.natAbs<2 ^ bits.toNat
 den:∀i,i<l.length→(rv l[i]!).den<2 ^ bits.toNat
theorem II {l:List Nu}{bits:Int}(hl:l.length≤9223372036854775807):∃b,lq (l.map nv) bits=some b∧(b=true→KS l bits):=by
 obtain⟨fN,hN⟩:∃fN:Nat→Int,fN=fun i=>(fY (nv l[i]!).vN).getD 0:=⟨_,rfl⟩
 obtain⟨fD,hD⟩:∃fD:Nat→Int,fD=fun i=>(fY (nv l[i]!).vD).getD 0:=⟨_,rfl⟩
 have key:=tA (b:=jV (l.map nv) bits) (n:=l.length) (by omega) (fun i=>aw l[i]! &&(!decide (bits<fN i)&&!decide (bits<fD i))) (fun i hi=>by
  unfold jV
  rw[bh,cw _ _,aC,aC,aC,sr hi,qGood,ab]
  cases hg:aw l[i]! with
  |false=>rfl
  |true=>
   obtain⟨⟨n1,h1,_⟩,n2,h2,_⟩:=yu hg
   rw[h1,h2,ab,ab]
   have e1:fN i=n1:=by rw[hN];dsimp only;rw[h1];rfl
   have e2:fD i=n2:=by rw[hD];dsimp only;rw[h2];rfl
   rw[e1,e2]
   cases decide (bits<(n1:Int)) <;> cases decide (bits<(n2:Int)) <;> rfl) (by
  unfold jV
  rw[bh,cg _ _])
 refine⟨_,key,fun h=>?_⟩
 have h3:∀i,i<l.length→aw l[i]! =true∧¬bits<fN i∧¬bits<fD i:=fun i hi=>by
  have:=a7.1 h i (j7.2 hi)
  simpa[cj] using this
 refine⟨fun i hi=>(h3 i hi).1,fun i hi=>?_,fun i hi=>?_⟩
 ·obtain⟨hg,h4,_⟩:=h3 i hi
  obtain⟨⟨n1,h1,h5⟩,_⟩:=yu hg
  have e1:fN i=n1:=by rw[hN];dsimp only;rw[h1];rfl
  exact bG h5 (gY (by decide) (by omega))
 ·obtain⟨hg,_,h4⟩:=h3 i hi
  obtain⟨_,n2,h2,h5⟩:=yu hg
  have e1:fD i=n2:=by rw[hD];dsimp only;rw[h2];rfl
  exact bG h5 (gY (by decide) (by omega))
structure Few(R Cc:Int)(A B C:List Nu)(size bits:Int):Prop where
 valid:mN R Cc A B C=true
 r:R≤size
 c:Cc≤size
 sA:KS A bits
 sB:KS B bits
 sC:KS C bits
theorem R_few {R Cc size bits:Int}{A B C:List Nu}(hA:A.length≤9223372036854775807)(hB:B.length≤9223372036854775807)(hC:C.length≤9223372036854775807):∃b,pX ⟨⟨R,Cc,A.map nv⟩,B.map nv,C.map nv⟩ size bits=some b∧(b=true→Few R Cc A B C size bits):=by
 obtain⟨b1,h1,k1⟩:=II (l:=A) (bits:=bits) hA
 obtain⟨b2,h2,k2⟩:=II (l:=B) (bits:=bits) hB
 obtain⟨b3,h3,k3⟩:=II (l:=C) (bits:=bits) hC
 refine⟨mN R Cc A B C&&(decide (R≤size)&&(decide (Cc≤size)&&(b1&&(b2&&b3)))),?_,fun h=>?_⟩
 ·unfold pX
  dsimp only
  rw[R_Valid hA hB hC,h1,h2,h3]
  simp only[ab,qi]
 ·simp only[cj,rG] at h
  obtain⟨a1,a2,a3,a4,a5,a6⟩:=h
  exact⟨a1,a2,a3,k1 a4,k2 a5,k3 a6⟩
def qZ(R Cc:Int)(A B C:List Nu)(most:Int):Ans×Int×Int:=if mN R Cc A B C&&decide (0≤most) then im R.toNat Cc.toNat A B C most else (⟨0,[],[],[]⟩,0,1)
theorem Eg {l:List Nu}(h:l.all aw=true):∀i,i<l.length→aw l[i]! =true:=fun i hi=>by
 rw[bJ l i hi];exact a7.1 h _ (nA _)
theorem OJ {R Cc most:Int}{A B C:List Nu}(hA:A.length≤1000000)(hB:B.length≤1000000)(hC:C.length≤1000000)(hm:most≤9223372036854775807):iS ⟨⟨R,Cc,A.map nv⟩,B.map nv,C.map nv⟩ most=some (r6 (qZ R Cc A B C most)):=by
 unfold iS qZ
 rw[IM hA hB hC,ab]
 cases hv:mN R Cc A B C with
 |false=>
  rw[ah (by simp),ah (by simp)]
 |true=>
  by_cases h0:0≤most
  ·rw[ai ⟨rfl,h0⟩]
   obtain⟨m,nn,rfl,rfl,h1,h2,h3,h4,h5,g1,g2,g3⟩:=yk hv
   dsimp only
   rw[qg,qg,qg]
   refine (ai ⟨⟨by simp,by simp,by simpa using h1,by simpa using h2,Dp _,Dp _,Dp _,by simpa using h3,by simpa using h4,by simpa using h5,?_,?_,?_⟩,hm⟩).trans (by rw[ai (by simpa using h0)])
   ·dsimp only;rw[qg];exact Eg g1
   ·dsimp only;rw[qg];exact Eg g2
   ·dsimp only;rw[qg];exact Eg g3
  ·rw[ah (fun h=>h0 h.2),ah (by simp[h0])]
theorem w4 {l:List Nu}(h:l.all aw=true):(kI l).all aw=true:=by
 unfold kI
 rw[lO,h,EB,KA,←h]
 congr 1
 funext x
 exact qL
def H7(R Cc:Int)(A B:List Nu)(most:Int):Ans×Int×Int:=if sn R Cc A B&&decide (0≤most) then yD R.toNat Cc.toNat A B most else (⟨0,[],[],[]⟩,0,1)
theorem P_Equal {R Cc most:Int}{A B:List Nu}(hA:A.length≤500000)(hB:B.length≤500000)(hm:most≤9223372036854775807):kW ⟨R,Cc,A.map nv⟩ (B.map nv) most=some (r6 (H7 R Cc A B most)):=by
 unfold kW H7
 rw[EX (by omega) (by omega),ab]
 cases hv:sn R Cc A B with
 |false=>
  rw[ah (by simp),ah (by simp)]
 |true=>
  by_cases h0:0≤most
  ·rw[ai ⟨rfl,h0⟩]
   obtain⟨m,nn,rfl,rfl,h1,h2,h3,h4,g1,g2⟩:=BI hv
   dsimp only
   rw[qg,qg]
   have hlA:(kI A).length=(m+m)*nn:=by unfold kI;rw[cu,bh,h3,bU]
   have hlB:(kI B).length=m+m:=by unfold kI;rw[cu,bh,h4]
   have hlA2:(kI A).length=A.length+A.length:=by unfold kI;rw[cu,bh]
   have hz:(List.replicate nn (nOf 0)).all aw=true:=a7.2 fun x hx=>by rw[List.eq_of_mem_replicate hx];exact of0.1
   refine (ai ⟨⟨by simp,by simp,by simpa using h1,by simpa using h2,Dp _,Dp _,by simpa using h3,by simpa using h4,by simp;omega,?_,?_,?_⟩,hm⟩).trans (by rw[ai (by simpa using h0)])
   ·dsimp only;rw[qg];exact Eg (w4 g1)
   ·rw[qg];exact Eg (w4 g2)
   ·dsimp only
    rw[qg,qg,bP,bP,IM (by omega) (by omega) (by simp;omega)]
    congr 1
    unfold mN FJ
    rw[hlA,hlB,w4 g1,w4 g2,hz,s9]
    have q1:decide ((0:Int)≤((m+m:Nat):Int))=true:=aA (by omega)
    have q2:decide ((0:Int)≤(nn:Int))=true:=aA (by omega)
    have q3:decide (((m+m:Nat):Int)≤2000)=true:=aA (by omega)
    have q4:decide ((nn:Int)≤2000)=true:=aA (by omega)
    have q5:decide ((((m+m)*nn:Nat):Int)=((m+m:Nat):Int)*(nn:Int))=true:=aA (by rw[iJ])
    have q6:decide (((m+m:Nat):Int)=((m+m:Nat):Int))=true:=aA rfl
    have q7:decide (((nn:Nat):Int)=(nn:Int))=true:=aA rfl
    rw[q1,q2,q3,q4,q5,q6,q7]
    rfl
  ·rw[ah (fun h=>h0 h.2),ah (by simp[h0])]
theorem uN {l:List Int}(hl:l.length≤1000000)(h:∀i,i<l.length→-1000≤l[i]!∧l[i]!≤1000):c7 l=some ((l.map nOf).map nv):=by
 unfold c7
 have key:=wi (b:=kZ l) (fun i:Nat=>(((l.take i).map nOf).map nv,(i:Int))) 0 l.length ((l.map nOf).map nv) (cl _) (fun i _ hi=>?_) ?_
 ·have e:((((l.take 0).map nOf).map nv),((0:Nat):Int))=(([]:List ao),(0:Int)):=by simp
  rw[e] at key
  rw[key];rfl
 ·unfold kZ
  dsimp only
  have f8:l[((i:Nat):Int).toNat]! =l[i]! :=by rw[show ((i:Nat):Int).toNat=i by omega]
  have htk:l.take (i+1)=l.take i++[l[i]!]:=by rw[Ae,cz hi,bJ l i hi];rfl
  obtain⟨h1,h2⟩:=h i hi
  rw[cw _ _,aC,f8,R_Of (by omega) (by omega),ab,aC (by simp;omega),eQ (by omega) (by omega),htk]
  simp only[jz,j4,m9]
  rfl
 ·unfold kZ
  dsimp only
  rw[cg _ _,gU (ay _)]
def fr(a b:Int):Nu:=nuR (some (Rat.divInt a b))
theorem EW {a b:Int}(ha:-1000≤a∧a≤1000)(hb:-1000≤b∧b≤1000):gf a b=some ([fr a 5,fr b 5].map nv):=by
 have hL:∀n:Int,-1000≤n∧n≤1000→n.natAbs<LIM:=fun n hn=>bG (show n.natAbs<18446744073709551616 by omega) (by decide)
 have hf:∀n:Int,-1000≤n∧n≤1000→mu n 5=some (nv (fr n 5)):=fun n hn=>by
  unfold mu
  rw[qJ (by omega) (by omega),ab,qJ (by omega) (by omega),ab,Uw (hL n hn) (by decide) (by decide),ab]
  rfl
 unfold gf
 rw[hf a ha,hf b hb]
 rfl
def NH(l:List Nu):Bool:=decide (l.length≤1000)
def RD(a:Ans):Bool:=NH a.x&&(NH a.y&&NH a.ray)
theorem tE {a:Ans}(h:RD a=true):EZ a:=by
 unfold RD NH at h
 simp only[cj,rG] at h
 exact⟨by omega,by omega,by omega⟩
def e1B:Bool:=qZ 2 2 ([1,2,3,1].map nOf) ([4,6].map nOf) ([1,1].map nOf) 100 |> fun r=>decide (r.1=⟨1,[fr 8 5,fr 6 5],[fr 2 5,fr 1 5],[]⟩)&&(decide (r.2.2=0)&&decide (rD 2 2 ([1,2,3,1].map nOf) ([4,6].map nOf) ([1,1].map nOf) r.1=0))
def e2B:Bool:=qZ 1 1 ([1].map nOf) ([-1].map nOf) ([0].map nOf) 100 |> fun r=>decide (r.1=⟨2,[],[1].map nOf,[]⟩)&&(decide (r.2.2=0)&&decide (rD 1 1 ([1].map nOf) ([-1].map nOf) ([0].map nOf) r.1=0))
def e3B:Bool:=qZ 1 2 ([-1,1].map nOf) ([1].map nOf) ([1,0].map nOf) 100 |> fun r=>decide (r.1=⟨3,[0,0].map nOf,[],[1,0].map nOf⟩)&&(decide (r.2.2=0)&&decide (rD 1 2 ([-1,1].map nOf) ([1].map nOf) ([1,0].map nOf) r.1=0))
def e4B:Bool:=qZ 1 1 ([-1].map nOf) ([-2].map nOf) ([-1].map nOf) 100 |> fun r=>decide (r.1=⟨1,[2].map nOf,[1].map nOf,[]⟩)&&(decide (r.2.2=0)&&decide (rD 1 1 ([-1].map nOf) ([-2].map nOf) ([-1].map nOf) r.1=0))
def e5B:Bool:=H7 2 2 ([1,1,1,-1].map nOf) ([1,3].map nOf) 100 |> fun r=>RD r.1&&(decide (r.2.2=0)&&(decide (r.1.kind=2)&&decide (Ea 2 2 ([1,1,1,-1].map nOf) ([1,3].map nOf) r.1=0)))
def e6B:Bool:=decide (rD 2 2 ([1,2,3,1].map nOf) ([4,6].map nOf) ([1,1].map nOf) ⟨1,[fr 8 5,fr 6 5],[fr 2 5,fr 2 5],[]⟩=250)
end
end Go.Proofs.YtaedcknhkjpmlaaGreat
