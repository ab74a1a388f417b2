/-
  Lemmas, part 8. Conditions: none.
-/
import Derived.Test.YtaedcknhkjpmlaaGreatY7
import Derived.Test.YtaedcknhkjpmlaaGreatRows
import Derived.ProofKit
import Derived.OpenShut
import Derived.ChangeSame
import Derived.Deep.Slices
import Derived.JoinedCond
import Derived.SizedLaws
import Derived.Deep.CondSized
set_option linter.all false
set_option maxRecDepth 100000
set_option maxHeartbeats 4000000
namespace Go.Proofs.YtaedcknhkjpmlaaGreat
open Go.RowKit Go.IntKind Tryz Go.Proofs.Tryz
noncomputable section
def ox(eA:List am):Int→Option (Int⊕(Bool⊕Unit)):=fun aD=>cnd (decide (aD<((eA).length:Int))) (gd (0≤aD∧aD<((eA).length:Int)) (bnd (fj ((eA)[(aD).toNat]!)) fun x4=>cnd (!x4) (some (.inr (.inl false))) (some (.inl (i64.wrap (aD+(1:Int))))))) (some (.inr (.inr ())))
def mh(eA:List am):Option Bool:=bnd (bo (ox eA) (0:Int)) fun y7=>match y7 with| .inl r=>some r| .inr ()=>some true
theorem wo {eA:List am}{r:Bool}(h:mh eA=some r):ar prog 64 [dL ak eA] (dB r):=by
 refine bn (rs:=[.tmp 2]) (fun cx hx h0=>?_) func64
 unfold mh at h
 refine ra hx ?_
 refine AW.seq (ra hx ?_)
 refine AW.block ?_
 obtain⟨y,hy,h⟩:=ae h
 refine lp (S:=Int) (X:=Bool⊕Unit) (fun aD=>[(0,dL ak eA),(3,dI .i64 aD)]) (fun aD=>⟨[],[],0⟩) (PS (PR [.tmp 2] fun r=>dB r) (PE cx (.exit 0) (fun ()=>[]) fun ()=>⟨[],[],0⟩)) hy ?_ ?_ ?_
 exact wk0 h0 []
 clear hy h
 rintro aD y h
 dsimp only[ox] at h
 refine AW.seq (ra hx ?_)
 refine cdh h rfl (fun f4 h=>?_) (fun f4 h=>?_)
 refine AW.skip (AW.seq (AW.block (rs hx fun K hK=>?_)))
 iterate 2 refine sa ?_
 obtain⟨qU,h⟩:=aA h
 have xT:(aD).toNat<(eA).length:=by omega
 refine sbr ?_
 refine s1 (d:=dG ak ((eA)[(aD).toNat]!)) (jA (c:=ak) (l:=eA) (n:=(aD).toNat) (o:=0) aO xT (e8 _ _ rfl)) ?_
 refine scb h mz fun x4 h=>?_
 refine nbr hK ?_
 refine ra hx ?_
 refine cdh h rfl (fun rp h=>?_) (fun rp h=>?_)
 refine ra hx ?_
 refine AW.ret ?_
 cases h
 refine PS.r ⟨by nofun,PS.l (PR.i ?_)⟩
 exact rv1
 refine AW.skip (rb hx ?_)
 exact pel h h0 []
 exact AW.exit (peq h h0 [])
 rcases y with r|⟨⟩
 rintro ex tm' hp' ⟨rfl,hw⟩
 cases h
 exact hw
 refine lwr ?_
 refine ra hx ?_
 exact AW.ret (rtv h)
def mi(aK:fM)(jR:Int)(H8:Int):Option Bool:=bnd (S:=Bool) (cnd (decide ((0:Int)≤aK.vR)) (cnd (decide ((0:Int)≤aK.vC)) (cnd (decide (aK.vR≤jR)) (cnd (decide (aK.vC≤H8)) (cnd (decide (((aK.vV).length:Int)=(i64.wrap (aK.vR*aK.vC)))) (bnd (mh aK.vV) fun x6=>some (x6)) (some (false))) (some (false))) (some (false))) (some (false))) (some (false))) fun br=>some br
theorem DD {aK:fM}{jR:Int}{H8:Int}{r:Bool}(h:mi aK jR H8=some r):ar prog 63 [dG mQ aK,dI .i64 jR,dI .i64 H8] (dB r):=by
 refine bn (rs:=[.tmp 6]) (fun cx hx h0=>?_) func63
 unfold mi at h
 refine rs hx fun K hK=>?_
 refine s1 (d:=.pt 0 0) gP ?_
 refine nbr hK ?_
 refine AW.seq ?_
 obtain⟨br,hy,h⟩:=ae h
 refine jn ((PE cx .normal (fun br=>[(6,dB br)]) fun br=>⟨[],[],0⟩) br) ?_ ?_
 replace h:=hy
 refine rq hx fun K hK=>?_
 refine mbr ?_
 rcases aF h with⟨f4,h⟩|⟨f4,h⟩
 refine mbr ?_
 rcases aF h with⟨CC,h⟩|⟨CC,h⟩
 refine mbr ?_
 rcases aF h with⟨fZ,h⟩|⟨fZ,h⟩
 refine mbr ?_
 rcases aF h with⟨FU,h⟩|⟨FU,h⟩
 refine mbr ?_
 rcases aF h with⟨rW,h⟩|⟨rW,h⟩
 refine ga rW ?_
 refine gbr ?_
 refine gcb h wo fun x6 h=>?_
 refine nbr hK ?_
 exact pe1 h h0 []
 refine nbr hK ?_
 exact pe1 h h0 []
 refine nbr hK ?_
 exact pe1 h h0 []
 refine nbr hK ?_
 exact pe1 h h0 []
 refine nbr hK ?_
 exact pe1 h h0 []
 refine nbr hK ?_
 exact pe1 h h0 []
 refine lw0 ?_
 exact AW.ret (rtv h)
def nj(m8:a7):Option Bool:=bnd (mi m8.vA (2000:Int) (2000:Int)) fun x1=>bnd (S:=Bool) (cnd x1 (cnd (decide (((m8.vB).length:Int)=m8.vA.vR)) (cnd (decide (((m8.vC).length:Int)=m8.vA.vC)) (bnd (mh m8.vB) fun x6=>cnd x6 (bnd (mh m8.vC) fun x9=>some (x9)) (some (false))) (some (false))) (some (false))) (some (false))) fun jx=>some jx
theorem Ga {m8:a7}{r:Bool}(h:nj m8=some r):ar prog 16 [dG d9 m8] (dB r):=by
 refine bn (rs:=[.tmp 2]) (fun cx hx h0=>?_) func16
 unfold nj at h
 refine rs hx fun K hK=>?_
 refine s1 (d:=.pt 0 0) gP ?_
 refine nbr hK ?_
 refine rs hx fun K hK=>?_
 refine sa ?_
 refine s1 (d:=dG mQ m8.vA) (T_ldA wB) ?_
 refine scb h DD fun x1 h=>?_
 refine nbr hK ?_
 refine AW.seq ?_
 obtain⟨jx,hy,h⟩:=ae h
 refine jn ((PE cx .normal (fun jx=>[(2,dB jx)]) fun jx=>⟨[],[],0⟩) jx) ?_ ?_
 replace h:=hy
 refine rq hx fun K hK=>?_
 refine mbr ?_
 rcases aF h with⟨fZ,h⟩|⟨fZ,h⟩
 refine mbr ?_
 rcases aF h with⟨FU,h⟩|⟨FU,h⟩
 refine mbr ?_
 rcases aF h with⟨rW,h⟩|⟨rW,h⟩
 refine ga rW ?_
 refine gbr ?_
 refine gcb h wo fun x6 h=>?_
 refine mbr ?_
 rcases aF h with⟨t7,h⟩|⟨t7,h⟩
 refine ga t7 ?_
 refine gbr ?_
 refine gcb h wo fun x9 h=>?_
 refine nbr hK ?_
 exact pe1 h h0 []
 refine nbr hK ?_
 exact pe1 h h0 []
 refine nbr hK ?_
 exact pe1 h h0 []
 refine nbr hK ?_
 exact pe1 h h0 []
 refine nbr hK ?_
 exact pe1 h h0 []
 refine lw0 ?_
 exact AW.ret (rtv h)
def sY(oa:List am)(aZ:List am):Int×am→Option ((Int×am)⊕am):=fun (aT,uo)=>cnd (decide (aT<((oa).length:Int))) (gd (0≤aT∧aT<((oa).length:Int)) (gd (0≤aT∧aT<((aZ).length:Int)) (bnd (wK ((oa)[(aT).toNat]!) ((aZ)[(aT).toNat]!)) fun sL=>bnd (wM uo sL) fun qw=>some (.inl (i64.wrap (aT+(1:Int)),qw))))) (some (.inr uo))
def yn(oa:List am)(aZ:List am):Option am:=cnd (decide (((oa).length:Int)≠((aZ).length:Int))) (bnd (nV) fun x2=>some x2) (bnd (pz (0:Int)) fun x4=>bnd (bo (sY oa aZ) ((0:Int),x4)) fun jz=>some jz)
theorem w_ref20_Value {oa:List am}{aZ:List am}{r:am}(h:yn oa aZ=some r):ar prog 18 [dL ak oa,dL ak aZ] (dG ak r):=by
 refine bn (rs:=[.cell 4 43]) (fun cx hx h0=>?_) func18
 unfold yn at h
 refine rar hx ?_
 refine AW.seq (ra hx ?_)
 refine cdh h rfl (fun f4 h=>?_) (fun f4 h=>?_)
 refine rs hx fun K hK=>?_
 refine scb h sO fun x2 h=>?_
 refine nbr hK ?_
 exact AW.ret (rtv h)
 refine AW.skip (rs hx fun K hK=>?_)
 refine scb h DE fun x4 h=>?_
 refine nbr hK ?_
 refine AW.seq (ra hx ?_)
 refine AW.block ?_
 obtain⟨jz,hy,h⟩:=ae h
 refine lp (S:=Int×am) (X:=am) (fun (aT,uo)=>[(0,dL ak oa),(1,dL ak aZ),(4,.pt 0 0),(5,.pt 1 0),(6,dI .i64 aT)]) (fun (aT,uo)=>⟨[(0,dC (ak.f kJ)),(1,dC (ak.f uo))],[],2⟩) (PE cx (.exit 0) (fun jz=>[(4,.pt 0 0),(5,.pt 1 0)]) fun jz=>⟨[(0,dC (ak.f kJ)),(1,dC (ak.f jz))],[],2⟩) hy ?_ ?_ ?_
 exact wk0 h0 [0,1]
 clear hy h
 rintro⟨aT,uo⟩ y h
 dsimp only[sY] at h
 refine AW.seq (ra hx ?_)
 refine cdh h rfl (fun rp h=>?_) (fun rp h=>?_)
 refine AW.skip (AW.seq (AW.block (rqd [70,69] hx fun K hK=>?_)))
 iterate 3 refine sbr ?_
 obtain⟨hc7,h⟩:=aA h
 have Q1:(aT).toNat<(oa).length:=by omega
 refine sbr ?_
 refine s1 (d:=dG ak ((oa)[(aT).toNat]!)) (jA (c:=ak) (l:=oa) (n:=(aT).toNat) (o:=0) aO Q1 (e8 _ _ rfl)) ?_
 iterate 2 refine sa ?_
 obtain⟨hc9,h⟩:=aA h
 have S2:(aT).toNat<(aZ).length:=by omega
 refine sbr ?_
 refine s1 (d:=dG ak ((aZ)[(aT).toNat]!)) (jA (c:=ak) (l:=aZ) (n:=(aT).toNat) (o:=0) aO S2 (e8 _ _ rfl)) ?_
 refine cqb h JL fun sL h=>?_
 refine cqb h JM fun qw h=>?_
 refine nbr hK ?_
 refine rb hx ?_
 exact pel h h0 [0,1]
 exact AW.exit (per h h0 [0,1])
 refine lw0 ?_
 refine rar hx ?_
 exact AW.ret (rtv h)
def j3(aK:List am)(aQ:List am):Int→Option (Int⊕(Bool⊕Unit)):=fun gN=>cnd (decide (gN<((aK).length:Int))) (gd (0≤gN∧gN<((aK).length:Int)) (gd (0≤gN∧gN<((aQ).length:Int)) (cnd (decide (¬((aK)[(gN).toNat]! =(aQ)[(gN).toNat]!))) (some (.inr (.inl false))) (some (.inl (i64.wrap (gN+(1:Int)))))))) (some (.inr (.inr ())))
def kS(aK:List am)(aQ:List am):Option Bool:=cnd (decide (((aK).length:Int)≠((aQ).length:Int))) (some false) (bnd (bo (j3 aK aQ) (0:Int)) fun y8=>match y8 with| .inl r=>some r| .inr ()=>some true)
theorem uy {aK:List am}{aQ:List am}{r:Bool}(h:kS aK aQ=some r):ar prog 60 [dL ak aK,dL ak aQ] (dB r):=by
 refine bn (rs:=[.tmp 4]) (fun cx hx h0=>?_) func60
 unfold kS at h
 refine ra hx ?_
 refine AW.seq (ra hx ?_)
 refine cdh h rfl (fun f4 h=>?_) (fun f4 h=>?_)
 refine ra hx ?_
 exact AW.ret (rtv h)
 refine AW.skip (AW.seq (ra hx ?_))
 refine AW.block ?_
 obtain⟨y,hy,h⟩:=ae h
 refine lp (S:=Int) (X:=Bool⊕Unit) (fun gN=>[(0,dL ak aK),(1,dL ak aQ),(5,dI .i64 gN)]) (fun gN=>⟨[],[],0⟩) (PS (PR [.tmp 4] fun r=>dB r) (PE cx (.exit 0) (fun ()=>[]) fun ()=>⟨[],[],0⟩)) hy ?_ ?_ ?_
 exact wk0 h0 []
 clear hy h
 rintro gN y h
 dsimp only[j3] at h
 refine AW.seq (ra hx ?_)
 refine cdh h rfl (fun CC h=>?_) (fun CC h=>?_)
 refine AW.skip (AW.seq (AW.block (rsd [] hx fun K hK=>?_)))
 iterate 2 refine sa ?_
 obtain⟨hc3,h⟩:=aA h
 have hn4:(gN).toNat<(aK).length:=by omega
 refine sbr ?_
 refine s1 (d:=dG ak ((aK)[(gN).toNat]!)) (jA (c:=ak) (l:=aK) (n:=(gN).toNat) (o:=0) aO hn4 (e8 _ _ rfl)) ?_
 iterate 2 refine sa ?_
 obtain⟨hc5,h⟩:=aA h
 have hn6:(gN).toNat<(aQ).length:=by omega
 refine sbr ?_
 refine s1 (d:=dG ak ((aQ)[(gN).toNat]!)) (jA (c:=ak) (l:=aQ) (n:=(gN).toNat) (o:=0) aO hn6 (e8 _ _ rfl)) ?_
 refine s1 (xh tok 4 (by decide) BM aO) ?_
 refine nl hK ?_
 refine cdh h rfl (fun t8 h=>?_) (fun t8 h=>?_)
 refine ra hx ?_
 refine AW.ret ?_
 cases h
 refine PS.r ⟨by nofun,PS.l (PR.i ?_)⟩
 exact rv1
 refine AW.skip (rb hx ?_)
 exact pel h h0 []
 exact AW.exit (peq h h0 [])
 rcases y with r|⟨⟩
 rintro ex tm' hp' ⟨rfl,hw⟩
 cases h
 exact hw
 refine lwr ?_
 refine ra hx ?_
 exact AW.ret (rtv h)
def iD(aK:cH)(aQ:cH):Option Bool:=bnd (S:=Bool) (cnd (decide (aK.vKind=aQ.vKind)) (bnd (kS aK.vX aQ.vX) fun x2=>cnd x2 (bnd (kS aK.vY aQ.vY) fun x5=>cnd x5 (bnd (kS aK.vRay aQ.vRay) fun x8=>some (x8)) (some (false))) (some (false))) (some (false))) fun br=>some br
theorem yJ {aK:cH}{aQ:cH}{r:Bool}(h:iD aK aQ=some r):ar prog 14 [dG kg aK,dG kg aQ] (dB r):=by
 refine bn (rs:=[.tmp 4]) (fun cx hx h0=>?_) func14
 unfold iD at h
 refine rs hx fun K hK=>?_
 refine s1 (d:=.pt 0 0) gP ?_
 refine s1 (d:=.pt 1 0) gP ?_
 refine nbr hK ?_
 refine AW.seq ?_
 obtain⟨br,hy,h⟩:=ae h
 refine jn ((PE cx .normal (fun br=>[(4,dB br)]) fun br=>⟨[],[],0⟩) br) ?_ ?_
 replace h:=hy
 refine rq hx fun K hK=>?_
 refine mbr ?_
 rcases aF h with⟨f4,h⟩|⟨f4,h⟩
 refine ga f4 ?_
 refine gbr ?_
 refine ga f4 ?_
 refine gbr ?_
 refine gcb h uy fun x2 h=>?_
 refine mbr ?_
 rcases aF h with⟨FU,h⟩|⟨FU,h⟩
 refine ga FU ?_
 refine gbr ?_
 refine ga FU ?_
 refine gbr ?_
 refine gcb h uy fun x5 h=>?_
 refine mbr ?_
 rcases aF h with⟨t8,h⟩|⟨t8,h⟩
 refine ga t8 ?_
 refine gbr ?_
 refine ga t8 ?_
 refine gbr ?_
 refine gcb h uy fun x8 h=>?_
 refine nbr hK ?_
 exact pe1 h h0 []
 refine nbr hK ?_
 exact pe1 h h0 []
 refine nbr hK ?_
 exact pe1 h h0 []
 refine nbr hK ?_
 exact pe1 h h0 []
 refine lw0 ?_
 exact AW.ret (rtv h)
theorem pG0 {α:Type}(c:Cd α)(a:α)(l:List E){z:Nat}(h:c.sz=z):((c.f a++l).drop 0).take z=c.f a:=by
 have hl:(c.f a).length=z:=(c.h a).trans h
 rw[qN,vh (by omega),gJ (by omega)]
theorem pG1 {α β:Type}(c:Cd α)(a:α)(k:Cd β)(b:β){o z:Nat}(h:c.sz=o)(h2:k.sz=z):((c.f a++k.f b).drop o).take z=k.f b:=by
 have hl:(c.f a).length=o:=(c.h a).trans h
 have hk:(k.f b).length=z:=(k.h b).trans h2
 rw[←hl,tG,gJ (by omega)]
section
def H5(l:List Nu)(n:Nat):Bool:=decide (l.length=n)&&l.all fun x=>aw x&&decide (0≤bL x)
def vy(c x:List Nu):Nat→Nu
 |0=>nOf 0
 |i+1=>jJ (vy c x i) (iy c[i]! x[i]!)
def cJ(c x:List Nu):Nu:=if c.length=x.length then vy c x c.length else nuR none
def rI(A:List Nu)(nn i:Nat):List Nu:=(A.drop (i*nn)).take nn
def wP(A:List Nu)(m nn k:Nat):List Nu:=(List.range m).map fun i=>A[i*nn+k]!
def C6(lines:Nat→List Nu)(x wth:List Nu)(ok:Int→Bool):Bool:=(List.range wth.length).all fun i=>aw (cJ (lines i) x)&&ok (p8 (cJ (lines i) x) wth[i]!)
def ly(m nn:Nat)(A x b:List Nu):Bool:=H5 x nn&&C6 (rI A nn) x b fun c=>decide (c≤0)
def pM(m nn:Nat)(A y c:List Nu):Bool:=H5 y m&&C6 (wP A m nn) y c fun c=>decide (0≤c)
def qR(x:Nu)(s:Int):Bool:=aw x&&decide (bL x=s)
def jE(m nn:Nat)(A B C:List Nu)(a:Ans):Bool:=
 if a.kind=1 then decide (a.ray.length=0)&&ly m nn A a.x B&&pM m nn A a.y C&&(aw (cJ C a.x)&&decide (cJ C a.x=cJ a.y B))
 else if a.kind=2 then decide (a.x.length+a.ray.length=0)&&pM m nn A a.y (List.replicate nn (nOf 0))&&qR (cJ a.y B) (-1)
 else if a.kind=3 then decide (a.y.length=0)&&ly m nn A a.x B&&ly m nn A a.ray (List.replicate m (nOf 0))&&qR (cJ C a.ray) 1
 else false
theorem r5 {x y:Nu}(hx:aw x=true)(hy:aw y=true):(p8 x y≤0↔rv x≤rv y)∧(0≤p8 x y↔rv y≤rv x)∧(p8 x y<0↔rv x<rv y)∧(p8 x y=0↔rv x=rv y):=by
 rw[D3,bE.1 hx,bE.1 hy]
 unfold ocmp
 dsimp only
 by_cases h1:rv x<rv y
 ·rw[ai h1];grind
 ·rw[ah h1]
  by_cases h2:rv y<rv x
  ·rw[ai h2];grind
  ·rw[ah h2];grind
theorem PI {c x:List Nu}{n:Nat}:aw (vy c x n)=true→rv (vy c x n)=aG n fun i=>rv c[i]! *rv x[i]! :=by
 induction n with
 |zero=>intro _;exact of0.2
 |succ n ih=>
  intro h
  rw[show vy c x (n+1)=jJ (vy c x n) (iy c[n]! x[n]!) from rfl] at h ⊢
  obtain⟨h1,h2⟩:=wJ h
  obtain⟨h3,h4⟩:=TD h2
  rw[Ig h1 h2 h,If h3 h4 h2,ih h1]
  rfl
theorem pe {c x:List Nu}(h:aw (cJ c x)=true):c.length=x.length∧rv (cJ c x)=aG c.length fun i=>rv c[i]! *rv x[i]! :=by
 unfold cJ at h ⊢
 split at h
 ·rename_i e
  rw[ai e]
  exact⟨e,PI h⟩
 ·exfalso
  have:aw (nuR none)=false:=by rw[eJ,pL pB];rfl
  rw[this] at h;cases h
theorem Ka {l:List Nu}{n:Nat}(h:H5 l n=true):l.length=n∧∀i,i<n→aw l[i]! =true∧0≤rv l[i]! :=by
 unfold H5 at h
 rw[cm] at h
 have hl:=bC h.1
 refine⟨hl,fun i hi=>?_⟩
 have:=bc.1 h.2 l[i]! (by rw[bI l i (by omega)];exact nK _)
 rw[cm] at this
 refine⟨this.1,?_⟩
 have h2:=bC this.2
 have:=tS this.1
 grind
section
variable {m nn:Nat} {A B C x y b c:List Nu}
theorem z5(hA:A.length=m*nn){i k:Nat}(hi:i<m)(hk:k<nn):(rI A nn i).length=nn∧(rI A nn i)[k]! =A[i*nn+k]! :=by
 have hle:i*nn+nn≤A.length:=by
  rw[hA]
  calc i*nn+nn=(i+1)*nn:=by rw[bR];omega
   _≤m*nn:=cM _ hi
 unfold rI
 refine⟨by rw[ep,fc];omega,dJ ?_⟩
 rw[gL,ai hk,nt]
 exact uR (by omega)
theorem K0 {i k:Nat}(hi:i<m):(wP A m nn k)[i]! =A[i*nn+k]! :=dJ (b7 _ hi)
theorem u6(hA:A.length=m*nn)(hb:b.length=m)(hgb:∀i,i<m→aw b[i]! =true)(h:ly m nn A x b=true):x.length=nn∧(∀k,k<nn→aw x[k]! =true∧0≤rv x[k]!)∧∀i,i<m→aG nn (fun k=>rv A[i*nn+k]! *rv x[k]!)≤rv b[i]! :=by
 unfold ly at h
 rw[cm] at h
 obtain⟨h1,h2⟩:=Ka h.1
 refine⟨h1,h2,fun i hi=>?_⟩
 have h3:=bc.1 h.2 i (kz.2 (by omega))
 rw[cm] at h3
 obtain⟨h4,h5⟩:=pe h3.1
 have h6:=(r5 h3.1 (hgb i hi)).1.1 (bC h3.2)
 rw[h5] at h6
 by_cases h0:nn=0
 ·subst h0
  have:(rI A 0 i).length=0:=by unfold rI;simp
  rw[this] at h6;exact h6
 ·rw[(z5 hA hi (k:=0) (by omega)).1] at h6
  rwa[ay (g:=fun k=>rv A[i*nn+k]! *rv x[k]!) fun k hk=>by rw[(z5 hA hi hk).2]] at h6
theorem Co(hc:c.length=nn)(hgc:∀k,k<nn→aw c[k]! =true)(h:pM m nn A y c=true):y.length=m∧(∀i,i<m→aw y[i]! =true∧0≤rv y[i]!)∧∀k,k<nn→rv c[k]!≤aG m (fun i=>rv A[i*nn+k]! *rv y[i]!):=by
 unfold pM at h
 rw[cm] at h
 obtain⟨h1,h2⟩:=Ka h.1
 refine⟨h1,h2,fun k hk=>?_⟩
 have h3:=bc.1 h.2 k (kz.2 (by omega))
 rw[cm] at h3
 obtain⟨h4,h5⟩:=pe h3.1
 have h6:=(r5 h3.1 (hgc k hk)).2.1.1 (bC h3.2)
 rw[h5,show (wP A m nn k).length=m by simp[wP]] at h6
 rwa[ay (g:=fun i=>rv A[i*nn+k]! *rv y[i]!) fun i hi=>by rw[K0 hi]] at h6
end
theorem HW {f g:Nat→Rat}{n:Nat}(h:∀t,t<n→f t≤g t):aG n f≤aG n g:=by
 have h1:=Cl (f:=fun t=>g t - f t) (n:=n) fun t ht=>by have:=h t ht;grind
 rw[zW] at h1
 grind
theorem weak {m nn:Nat}{a:Nat→Nat→Rat}{x y b c:Nat→Rat}(hx:∀k,k<nn→0≤x k)(hy:∀i,i<m→0≤y i)(h1:∀i,i<m→aG nn (fun k=>a i k*x k)≤b i)(h2:∀k,k<nn→c k≤aG m (fun i=>a i k*y i)):aG nn (fun k=>c k*x k)≤aG m (fun i=>y i*b i):=by
 have e1:aG nn (fun k=>c k*x k)≤aG nn (fun k=>aG m (fun i=>a i k*y i)*x k):=HW fun k hk=>Rat.mul_le_mul_of_nonneg_right (h2 k hk) (hx k hk)
 have e2:aG nn (fun k=>aG m (fun i=>a i k*y i)*x k)=aG m (fun i=>y i*aG nn (fun k=>a i k*x k)):=by
  have:∀k,aG m (fun i=>a i k*y i)*x k=aG m (fun i=>y i*(a i k*x k)):=fun k=>by
   rw[BY,←eV]
   exact ay fun i _=>by grind
  rw[ay fun k _=>this k,GP]
  exact ay fun i _=>eV _ _ _
 have e3:aG m (fun i=>y i*aG nn (fun k=>a i k*x k))≤aG m (fun i=>y i*b i):=HW fun i hi=>Ns (h1 i hi) (hy i hi)
 grind
end
section
theorem pAdd(x y:Nu):ik (nv x) (nv y)=some (nv (jJ x y)):=by rw[p9];exact NT x.2 y.2
theorem pMul(x y:Nu):fB (nv x) (nv y)=some (nv (iy x y)):=by rw[rM];exact NS x.2 y.2
theorem Oo(x:Nu):aW (nv x)=some (aw x):=by rw[eJ];exact iM x.2
theorem pSign(x:Nu):kV (nv x)=some (bL x):=by rw[Br];exact Vq x.2
theorem pCmp(x y:Nu):jt (nv x) (nv y)=some (p8 x y):=by rw[D3];exact Vr x.2 y.2
theorem pOf {n:Int}(h:-2≤n∧n≤2):mp n=some (nv (nOf n)):=Vp (by omega) (by omega)
theorem pBad:fC=some (nv (nuR none)):=xn
theorem mget {l:List Nu}{i:Nat}(h:i<l.length):(l.map nv)[i]! =nv l[i]! :=by
 rw[bI _ _ (by rw[a8];exact h),Fc,bI l i h]
theorem qe {l:List Nu}{i:Nat}(h:i<l.length):(l.map nv)[((i:Nat):Int).toNat]! =nv l[i]! :=by
 rw[show ((i:Nat):Int).toNat=i by omega];exact mget h
theorem Id {x y:Nu}:nv x=nv y↔x=y:=⟨fun h=>Subtype.ext h,fun h=>by rw[h]⟩
theorem Rf {s:Int}(h1:0≤s)(h2:s≤18446744073709551614):decide (i64.wrap s=0)=decide (s=0):=by
 rw[IntKind.wrap_i64]
 by_cases h:s=0
 ·rw[aB h,aB (by omega)]
 ·rw[bp h,bp (by omega)]
section
variable {R:Type}
theorem qC(b x:Bool):cnd b (some x) (some false)=some (b&&x):=by cases b <;> rfl
theorem cOr(b x:Bool):cnd b (some true) (some x)=some (b||x):=by cases b <;> rfl
theorem cF(x y:Option R):cnd false x y=y:=rfl
theorem cT(x y:Option R):cnd true x y=x:=rfl
theorem tV {n:Nat}(hn:n≤9223372036854775807)(ok:Nat→Bool)(res:Nat→R){b:Int→Option (Int⊕(R⊕Unit))}(h:∀i:Nat,i<n→b i=cnd (!ok i) (some (.inr (.inl (res i)))) (some (.inl (i64.wrap ((i:Int)+(1:Int))))))(he:b n=some (.inr (.inr ()))):
  ∃y,bo b (0:Int)=some y∧match y with| .inl r=>∃i,i<n∧ok i=false∧r=res i| .inr _=>(List.range n).all ok=true:=by
 refine vI (b:=b) (fun i:Int=>0≤i∧i≤n∧∀j:Nat,j<i.toNat→ok j=true) (fun i=>(n - i).toNat) _ (fun i ⟨h1,h2,h3⟩=>?_) 0 ⟨by omega,by omega,fun j hj=>absurd hj (by simp)⟩
 by_cases hi:i<n
 ·obtain⟨k,rfl⟩:∃k:Nat,i=k:=⟨i.toNat,by omega⟩
  have hk:k<n:=by omega
  rw[h k hk]
  cases hg:ok k with
  |false=>exact .inr ⟨.inl (res k),rfl,k,hk,hg,rfl⟩
  |true=>
   refine .inl ⟨(k:Int)+1,by rw[ee (by omega) (by omega)];rfl,⟨by omega,by omega,fun j hj=>?_⟩,by omega⟩
   rcases d6 j k with h4|h4
   ·exact h3 j (by omega)
   ·obtain rfl:j=k:=by omega
    exact hg
 ·obtain rfl:i=n:=by omega
  exact .inr ⟨.inr (),he,bc.2 fun j hj=>h3 j (by have:=kz.1 hj;omega)⟩
theorem tW {n:Nat}(hn:n≤9223372036854775807)(ok:Nat→Bool){b:Int→Option (Int⊕(Bool⊕Unit))}(h:∀i:Nat,i<n→b i=cnd (!ok i) (some (.inr (.inl false))) (some (.inl (i64.wrap ((i:Int)+(1:Int))))))(he:b n=some (.inr (.inr ()))):
  (bnd (bo b (0:Int)) fun y=>match y with| .inl r=>some r| .inr ()=>some true)=some ((List.range n).all ok):=by
 obtain⟨y,hy,hp⟩:=tV hn ok (fun _=>false) h he
 rw[hy]
 cases y with
 |inl r=>
  obtain⟨i,h1,h2,rfl⟩:=hp
  have:(List.range n).all ok=false:=by rw[Nr];exact⟨i,kz.2 h1,by rw[h2];simp⟩
  rw[this];rfl
 |inr u=>rw[hp];rfl
end
theorem Hm {l:List Nu}(p:Nu→Bool):(List.range l.length).all (fun i=>p l[i]!)=l.all p:=by
 rw[EU,bc,bc]
 constructor
 ·intro h x hx
  obtain⟨i,hi,rfl⟩:=w4.1 hx
  have:=h i (kz.2 hi)
  rwa[bI l i hi] at this
 ·intro h i hi
  have hi:=kz.1 hi
  rw[bI l i hi]
  exact h _ (nK _)
def Gq(rows R Cc:Int)(A:List Nu):Bool:=decide (0≤R)&&(decide (0≤Cc)&&(decide (R≤rows)&&(decide (Cc≤2000)&&(decide ((A.length:Int)=R*Cc)&&A.all aw))))
def mU(R Cc:Int)(A B C:List Nu):Bool:=Gq 2000 R Cc A&&(decide ((B.length:Int)=R)&&(decide ((C.length:Int)=Cc)&&(B.all aw&&C.all aw)))
def sU(R Cc:Int)(A B:List Nu):Bool:=Gq 1000 R Cc A&&(decide ((B.length:Int)=R)&&B.all aw)
section
variable {R Cc:Int} {A B C:List Nu}
theorem Fx {rows:Int}(hr:rows≤1000000)(hA:A.length≤1000000):fU ⟨R,Cc,A.map nv⟩ rows=some (Gq rows R Cc A):=by
 unfold fU Gq
 dsimp only
 rw[ut hA,a8]
 by_cases h1:0≤R
 ·by_cases h2:0≤Cc
  ·by_cases h3:R≤rows
   ·by_cases h4:Cc≤2000
    ·have hmul:0≤R*Cc∧R*Cc≤1000000*2000:=⟨Int.mul_nonneg h1 h2,Int.mul_le_mul (by omega) h4 h2 (by omega)⟩
     rw[ee (by omega) (by omega)]
     simp only[ab,qC]
    ·simp only[bp h4,cF,qC,ab,vb,w3]
   ·simp only[bp h3,cF,qC,ab,vb,w3]
  ·simp only[bp h2,cF,qC,ab,vb,w3]
 ·simp only[bp h1,cF,qC,ab,vb,w3]
theorem Jp(hA:A.length≤1000000)(hB:B.length≤1000000)(hC:C.length≤1000000):gX ⟨⟨R,Cc,A.map nv⟩,B.map nv,C.map nv⟩=some (mU R Cc A B C):=by
 unfold gX mU
 dsimp only
 rw[Fx (by omega) hA,ut hB,ut hC,a8,a8]
 simp only[ab,qC]
theorem Fw(hA:A.length≤1000000)(hB:B.length≤1000000):fT ⟨R,Cc,A.map nv⟩ (B.map nv)=some (sU R Cc A B):=by
 unfold fT sU
 dsimp only
 rw[Fx (by omega) hA,ut hB,a8]
 simp only[ab,qC]
theorem rf {c x:List Nu}(hc:c.length≤1000000∨x.length≤1000000):b9 (c.map nv) (x.map nv)=some (nv (cJ c x)):=by
 unfold b9 cJ
 rw[a8,a8]
 by_cases h:c.length=x.length
 ·rw[ce _ _,ai h,pOf (by omega),ab]
  have key:=tX (b:=g7 (c.map nv) (x.map nv)) (fun i:Nat=>((i:Int),nv (vy c x i))) 0 c.length (nv (vy c x c.length)) (cr _) (fun i _ hi=>?_) ?_
  ·rw[show (((0:Nat):Int),nv (vy c x 0))=((0:Int),nv (nOf 0)) from rfl] at key
   rw[key];rfl
  ·unfold g7
   dsimp only
   rw[a8,a8,cu _ _,aC,aC,qe hi,qe (by omega),pMul,ab,pAdd,ab,ee (by omega) (by omega)]
   rfl
  ·unfold g7
   dsimp only
   rw[a8,ce _ _]
 ·rw[cu _ _,ah h,pBad];rfl
theorem vn {l:List Nu}{n:Nat}(hl:l.length≤9223372036854775807):ej (l.map nv) n=some (H5 l n):=by
 have h1:∀x,fh (nv x)=some (!(aw x&&decide (0≤bL x))):=fun x=>by
  unfold fh
  rw[Oo,pSign]
  simp only[ab,cOr]
  congr 1
  cases aw x
  ·rfl
  ·by_cases h:0≤bL x
   ·rw[aB h,bp (by omega)];rfl
   ·rw[bp h,aB (by omega)];rfl
 obtain⟨y,hy,hp⟩:=tV (b:=aM (l.map nv)) (n:=l.length) (by omega) (fun i=>aw l[i]! &&decide (0≤bL l[i]!)) (fun i=>(i:Int)) (fun i hi=>by
  unfold aM
  rw[a8,cu _ _,aC,qe hi,h1,ab]) (by
  unfold aM
  rw[a8,ce _ _])
 have h2:aN (l.map nv)=some (!(l.all fun x=>aw x&&decide (0≤bL x))):=by
  unfold aN bh
  rw[hy]
  rw[Hm (fun x=>aw x&&decide (0≤bL x))] at hp
  cases y with
  |inl r=>
   obtain⟨i,h3,h4,rfl⟩:=hp
   have:(l.all fun x=>aw x&&decide (0≤bL x))=false:=by rw[Nr];exact⟨l[i]!,by rw[bI l i h3];exact nK _,by rw[h4];simp⟩
   rw[this]
   show some (decide ((0:Int)≤(i:Int)))=_
   rw[aB (by omega)];rfl
  |inr u=>rw[hp];rfl
 unfold ej H5
 rw[h2,a8]
 simp only[ab,qC,Bool.not_not]
 congr 2
 by_cases h:l.length=n
 ·rw[aB h,aB (by omega)]
 ·rw[bp h,bp (by omega)]
end
end
section
section
variable {m nn:Nat} {A B C x y b:List Nu}
theorem D4 {i:Nat}(hm:m≤2000)(hn:nn≤2000)(hi:i<m):i*nn+nn≤m*nn∧m*nn≤2000*2000∧(i+1)*nn=i*nn+nn:=by
 have h:(i+1)*nn=i*nn+nn:=by rw[bR];omega
 refine⟨?_,lf hm hn,h⟩
 rw[←h];exact cM _ hi
theorem Po(hA:A.length=m*nn)(hm:m≤2000)(hn:nn≤2000){i:Nat}(hi:i<m):i7 ⟨m,nn,A.map nv⟩ i=some ((rI A nn i).map nv):=by
 obtain⟨h1,h2,h3⟩:=D4 hm hn hi
 unfold i7
 dsimp only
 have e1:i64.wrap ((i:Int)*(nn:Int))=((i*nn:Nat):Int):=by rw[←iT,ee (by omega) (by omega)]
 have e2:i64.wrap ((i64.wrap ((i:Int)+1))*(nn:Int))=((i*nn+nn:Nat):Int):=by
  rw[ee (z:=(i:Int)+1) (by omega) (by omega),show (i:Int)+1=((i+1:Nat):Int) by omega,←iT,h3,ee (by omega) (by omega)]
 rw[e1,e2,a8,aC]
 unfold CU rI
 rw[←zx,←w9]
 congr 3
 congr 1;omega
theorem NQ(hA:A.length=m*nn)(hm:m≤2000)(hn:nn≤2000){k:Nat}(hk:k<nn):iC ⟨m,nn,A.map nv⟩ k=some ((wP A m nn k).map nv):=by
 unfold iC
 have key:=tX (b:=fJ ⟨m,nn,A.map nv⟩ k) (fun i:Nat=>(((List.range i).map fun j=>A[j*nn+k]!).map nv,(i:Int))) 0 m ((wP A m nn k).map nv) (cr _) (fun i _ hi=>?_) ?_
 ·rw[show ((((List.range 0).map fun j=>A[j*nn+k]!).map nv,((0:Nat):Int)))=(([]:List am),(0:Int)) from rfl] at key
  rw[key];rfl
 ·obtain⟨h1,h2,h3⟩:=D4 hm hn hi
  have e1:i64.wrap ((i64.wrap ((i:Int)*(nn:Int)))+(k:Int))=((i*nn+k:Nat):Int):=by
   have e0:i64.wrap ((i:Int)*(nn:Int))=((i*nn:Nat):Int):=by rw[←iT,ee (by omega) (by omega)]
   rw[e0,ee (by omega) (by omega)];omega
  unfold fJ
  dsimp only
  rw[e1,cu _ _,aC (by rw[a8];omega),qe (by omega),aC (by simp;omega),ee (by omega) (by omega),wY,gK,gK]
  rfl
 ·unfold fJ
  dsimp only
  rw[ce _ _]
  rfl
theorem Og(A:List Nu)(nn i:Nat):(rI A nn i).length≤nn:=by unfold rI;rw[ep];omega
theorem cmpX {ok:Int→Bool}(lines:Nat→List Nu)(i:Nat)(v w:Nu)(hv:v=cJ (lines i) x)(hw:w=b[i]!){f:Int→Option Bool}(hf:∀c,f c=some (ok c)):
  (bnd (S:=Bool) (bnd (aW (nv v)) fun x8=>cnd (!x8) (some true) (bnd (jt (nv v) (nv w)) fun sL=>bnd (f sL) fun qw=>some (!qw))) fun mR=>cnd mR (some (.inr (.inl false))) (some (.inl (i64.wrap ((i:Int)+(1:Int))))))=(cnd (!(aw (cJ (lines i) x)&&ok (p8 (cJ (lines i) x) b[i]!))) (some (.inr (.inl false))) (some (.inl (i64.wrap ((i:Int)+(1:Int))))):Option (Int⊕(Bool⊕Unit))):=by
 subst hv hw
 rw[Oo,pCmp]
 simp only[ab,hf]
 cases aw (cJ (lines i) x) <;> cases ok (p8 (cJ (lines i) x) b[i]!) <;> rfl
theorem Jo(hA:A.length=m*nn)(hm:m≤2000)(hn:nn≤2000)(hb:b.length≤m):be ⟨m,nn,A.map nv⟩ (x.map nv) (b.map nv)=some (C6 (rI A nn) x b fun c=>decide (c≤0)):=by
 unfold be C6
 refine tW (by omega) (fun i=>aw (cJ (rI A nn i) x)&&decide (p8 (cJ (rI A nn i) x) b[i]!≤0)) (fun i hi=>?_) ?_
 ·unfold bx
  have:=Og A nn i
  rw[a8,cu _ _,aC,Po hA hm hn (by omega),ab,rf (.inl (by omega)),ab,qe hi]
  exact cmpX (ok:=fun c=>decide (c≤0)) (rI A nn) i _ _ rfl rfl fun c=>rfl
 ·unfold bx
  rw[a8,ce _ _]
theorem GJ(hA:A.length=m*nn)(hm:m≤2000)(hn:nn≤2000)(hb:b.length≤m):ba ⟨m,nn,A.map nv⟩ (x.map nv) (b.map nv)=some (C6 (rI A nn) x b fun c=>decide (c=0)):=by
 unfold ba C6
 refine tW (by omega) (fun i=>aw (cJ (rI A nn i) x)&&decide (p8 (cJ (rI A nn i) x) b[i]! =0)) (fun i hi=>?_) ?_
 ·unfold bu
  have:=Og A nn i
  rw[a8,cu _ _,aC,Po hA hm hn (by omega),ab,rf (.inl (by omega)),ab,qe hi]
  exact cmpX (ok:=fun c=>decide (c=0)) (rI A nn) i _ _ rfl rfl fun c=>rfl
 ·unfold bu
  rw[a8,ce _ _]
theorem yF(hA:A.length=m*nn)(hm:m≤2000)(hn:nn≤2000)(hb:b.length≤nn):aL ⟨m,nn,A.map nv⟩ (x.map nv) (b.map nv)=some (C6 (wP A m nn) x b fun c=>decide (0≤c)):=by
 unfold aL C6
 refine tW (by omega) (fun i=>aw (cJ (wP A m nn i) x)&&decide (0≤p8 (cJ (wP A m nn i) x) b[i]!)) (fun i hi=>?_) ?_
 ·unfold bj
  have:(wP A m nn i).length=m:=by simp[wP]
  rw[a8,cu _ _,aC,NQ hA hm hn (by omega),ab,rf (.inl (by omega)),ab,qe hi]
  exact cmpX (ok:=fun c=>decide (0≤c)) (wP A m nn) i _ _ rfl rfl fun c=>rfl
 ·unfold bj
  rw[a8,ce _ _]
theorem HD(hA:A.length=m*nn)(hm:m≤2000)(hn:nn≤2000)(hb:b.length≤m)(hx:x.length≤9223372036854775807)(B C:List am):dW (x.map nv) (b.map nv) ⟨⟨m,nn,A.map nv⟩,B,C⟩=some (ly m nn A x b):=by
 unfold dW ly
 dsimp only
 rw[vn hx,Jo hA hm hn hb]
 simp only[ab,qC]
theorem Lx(hA:A.length=m*nn)(hm:m≤2000)(hn:nn≤2000)(hb:b.length≤nn)(hy:y.length≤9223372036854775807)(k:Int)(xs rs B C:List am):eK (b.map nv) ⟨k,xs,y.map nv,rs⟩ ⟨⟨m,nn,A.map nv⟩,B,C⟩=some (pM m nn A y b):=by
 unfold eK pM
 dsimp only
 rw[vn hy,yF hA hm hn hb]
 simp only[ab,qC]
theorem Lw(v:Nu)(s:Int):fS (nv v) s=some (qR v s):=by
 unfold fS qR
 rw[Oo,pSign]
 simp only[ab,qC]
theorem Jn {n:Nat}(h:n≤2000):fx n=some ((List.replicate n (nOf 0)).map nv):=by
 unfold fx
 rw[ai (by omega),Fb]
 congr 2
end
end
section
def C9(a:Ans):cH:=⟨a.kind,a.x.map nv,a.y.map nv,a.ray.map nv⟩
theorem cN(b x:Bool):cnd b (some false) (some x)=some (!b&&x):=by cases b <;> rfl
structure Fy(a:Ans):Prop where
 x:a.x.length≤9223372036854775807
 y:a.y.length≤9223372036854775807
 ray:a.ray.length≤9223372036854775807
section
variable {m nn:Nat} {A B C:List Nu} {a:Ans}
theorem QN(hA:A.length=m*nn)(hm:m≤2000)(hn:nn≤2000)(hB:B.length=m)(hC:C.length=nn)(ha:Fy a):jo ⟨⟨m,nn,A.map nv⟩,B.map nv,C.map nv⟩ (C9 a)=some (jE m nn A B C a):=by
 have hx:=ha.x
 have hy:=ha.y
 have hr:=ha.ray
 unfold jo jE C9
 dsimp only
 rw[HD hA hm hn (by omega) (by omega),Lx hA hm hn (by omega) (by omega),rf (.inl (by omega)),rf (.inr (by omega)),Jn hn,Jn hm,rf (.inl (by omega))]
 simp only[ab,Lw,Oo]
 rw[Lx hA hm hn (by simp) (by omega),HD hA hm hn (by simp) (by omega)]
 simp only[ab,a8]
 by_cases h1:a.kind=1
 ·rw[cu _ _ h1,ai h1]
  simp only[qC,cOr,cN,ab,Bool.not_or,Bool.not_not,Id]
  congr 2
  rw[I6]
  congr 1
  by_cases h:a.ray.length=0
  ·rw[aB h,bp (by omega)];rfl
  ·rw[bp h,aB (by omega)];rfl
 ·rw[ce _ _ h1,ah h1]
  by_cases h2:a.kind=2
  ·rw[cu _ _ h2,ai h2]
   simp only[qC,ab,I6]
   rw[Rf (by omega) (by omega)]
   congr 2
   by_cases h:a.x.length+a.ray.length=0
   ·rw[aB h,aB (by omega)]
   ·rw[bp h,bp (by omega)]
  ·rw[ce _ _ h2,ah h2]
   by_cases h3:a.kind=3
   ·rw[cu _ _ h3,ai h3]
    simp only[qC,ab,I6]
    congr 2
    by_cases h:a.y.length=0
    ·rw[aB h,aB (by omega)]
    ·rw[bp h,bp (by omega)]
   ·rw[ce _ _ h3,ah h3]
theorem yM {R Cc:Int}(h:mU R Cc A B C=true):∃m nn:Nat,R=m∧Cc=nn∧m≤2000∧nn≤2000∧A.length=m*nn∧B.length=m∧C.length=nn∧A.all aw=true∧B.all aw=true∧C.all aw=true:=by
 unfold mU Gq at h
 simp only[cm,r8] at h
 obtain⟨⟨h1,h2,h3,h4,h5,h6⟩,h7,h8,h9,xV⟩:=h
 refine⟨R.toNat,Cc.toNat,by omega,by omega,by omega,by omega,?_,by omega,by omega,h6,h9,xV⟩
 have e1:R=(R.toNat:Int):=by omega
 have e2:Cc=(Cc.toNat:Int):=by omega
 rw[e1,e2,←iT] at h5
 omega
def uV(R Cc:Int)(A B C:List Nu)(a:Ans):Int:=if mU R Cc A B C then (if jE R.toNat Cc.toNat A B C a then 0 else 250) else 1
theorem Pp {R Cc:Int}(hA:A.length≤1000000)(hB:B.length≤1000000)(hC:C.length≤1000000)(ha:Fy a):i8 ⟨⟨R,Cc,A.map nv⟩,B.map nv,C.map nv⟩ (C9 a)=some (uV R Cc A B C a):=by
 unfold i8 uV
 rw[Jp hA hB hC,ab]
 cases hv:mU R Cc A B C with
 |false=>rfl
 |true=>
  obtain⟨m,nn,rfl,rfl,hm,hn,h1,h2,h3,_⟩:=yM hv
  rw[QN h1 hm hn h2 h3 ha]
  show cnd (!(jE m nn A B C a)) (some (250:Int)) (some (0:Int))=some (if jE m nn A B C a=true then 0 else 250)
  cases jE m nn A B C a <;> rfl
def Ez(m nn:Nat)(A B:List Nu)(a:Ans):Bool:=
 if a.kind=1 then decide (a.y.length+a.ray.length=0)&&(H5 a.x nn&&C6 (rI A nn) a.x B fun c=>decide (c=0))
 else if a.kind=2 then decide (a.x.length+a.ray.length=0)&&(decide (a.y.length=m)&&(a.y.all aw&&(C6 (wP A m nn) a.y (List.replicate nn (nOf 0)) (fun c=>decide (0≤c))&&qR (cJ a.y B) (-1))))
 else false
def EL(R Cc:Int)(A B:List Nu)(a:Ans):Int:=if sU R Cc A B then (if Ez R.toNat Cc.toNat A B a then 0 else 250) else 1
theorem Ck {R Cc:Int}(h:sU R Cc A B=true):∃m nn:Nat,R=m∧Cc=nn∧m≤1000∧nn≤2000∧A.length=m*nn∧B.length=m∧A.all aw=true∧B.all aw=true:=by
 unfold sU Gq at h
 simp only[cm,r8] at h
 obtain⟨⟨h1,h2,h3,h4,h5,h6⟩,h7,h9⟩:=h
 refine⟨R.toNat,Cc.toNat,by omega,by omega,by omega,by omega,?_,by omega,h6,h9⟩
 have e1:R=(R.toNat:Int):=by omega
 have e2:Cc=(Cc.toNat:Int):=by omega
 rw[e1,e2,←iT] at h5
 omega
theorem Jr {R Cc:Int}(hA:A.length≤1000000)(hB:B.length≤1000000)(ha:Fy a):gl ⟨R,Cc,A.map nv⟩ (B.map nv) (C9 a)=some (EL R Cc A B a):=by
 have hx:=ha.x
 have hy:=ha.y
 have hr:=ha.ray
 unfold gl EL
 rw[Fw hA hB,ab]
 cases hv:sU R Cc A B with
 |false=>rfl
 |true=>
  obtain⟨m,nn,rfl,rfl,hm,hn,h1,h2,_⟩:=Ck hv
  have key:∀(e:Option Bool),e=some (Ez m nn A B a)→(cnd (!true) (some (1:Int)) (bnd e fun eC=>cnd (!eC) (some (250:Int)) (some (0:Int))))=some (if true=true then (if Ez ((m:Int)).toNat ((nn:Int)).toNat A B a=true then 0 else 250) else 1):=fun e he=>by
   rw[he]
   show cnd (!(Ez m nn A B a)) (some (250:Int)) (some (0:Int))=some (if Ez m nn A B a=true then 0 else 250)
   cases Ez m nn A B a <;> rfl
  refine key _ ?_
  unfold Ez C9
  dsimp only
  simp only[a8]
  by_cases k1:a.kind=1
  ·rw[cu _ _ k1,ai k1,vn (by omega),GJ h1 (by omega) hn (by omega)]
   simp only[qC,ab]
   rw[Rf (by omega) (by omega)]
   congr 2
   by_cases h:a.y.length+a.ray.length=0
   ·rw[aB h,aB (by omega)]
   ·rw[bp h,bp (by omega)]
  ·rw[ce _ _ k1,ah k1]
   by_cases k2:a.kind=2
   ·rw[cu _ _ k2,ai k2,Jn hn,Rf (by omega) (by omega)]
    by_cases h:a.x.length+a.ray.length=0
    ·rw[aB h,cu _ _]
     by_cases h4:a.y.length=m
     ·rw[aB h4,cu _ _,ut (by omega),rf (.inr (by omega))]
      simp only[ab,Lw]
      rw[yF h1 (by omega) hn (by simp)]
      simp only[qC,ab,E8]
     ·rw[bp h4,ce _ _];rfl
    ·rw[bp h,ce _ _];rfl
   ·rw[ce _ _ k2,ah k2]
end
theorem qGood(x:Nu):fj (nv x)=some (aw x):=by rw[eJ];exact R_Good x.2
theorem U6 {l:List Nu}(hl:l.length≤9223372036854775807):mh (l.map nv)=some (l.all aw):=by
 unfold mh
 rw[←Hm]
 refine tW (by omega) (fun i=>aw l[i]!) (fun i hi=>?_) ?_
 ·unfold ox
  rw[a8,cu _ _,aC,qe hi,qGood,ab]
 ·unfold ox
  rw[a8,ce _ _]
section
variable {R Cc:Int} {A B C:List Nu}
theorem U7 {rows:Int}(hr:rows≤1000000)(hA:A.length≤9223372036854775807):mi ⟨R,Cc,A.map nv⟩ rows 2000=some (Gq rows R Cc A):=by
 unfold mi Gq
 dsimp only
 rw[U6 hA,a8]
 by_cases h1:0≤R
 ·by_cases h2:0≤Cc
  ·by_cases h3:R≤rows
   ·by_cases h4:Cc≤2000
    ·have hmul:0≤R*Cc∧R*Cc≤1000000*2000:=⟨Int.mul_nonneg h1 h2,Int.mul_le_mul (by omega) h4 h2 (by omega)⟩
     rw[ee (by omega) (by omega)]
     simp only[ab,qC]
    ·simp only[bp h4,cF,qC,ab,vb,w3]
   ·simp only[bp h3,cF,qC,ab,vb,w3]
  ·simp only[bp h2,cF,qC,ab,vb,w3]
 ·simp only[bp h1,cF,qC,ab,vb,w3]
theorem R_Valid(hA:A.length≤9223372036854775807)(hB:B.length≤9223372036854775807)(hC:C.length≤9223372036854775807):nj ⟨⟨R,Cc,A.map nv⟩,B.map nv,C.map nv⟩=some (mU R Cc A B C):=by
 unfold nj mU
 dsimp only
 rw[U7 (by omega) hA,U6 hB,U6 hC,a8,a8]
 simp only[ab,qC]
theorem NP {a b:List Nu}(ha:a.length≤9223372036854775807):kS (a.map nv) (b.map nv)=some (decide (a=b)):=by
 unfold kS
 rw[a8,a8]
 by_cases h:a.length=b.length
 ·rw[ce _ _]
  have:=tW (b:=j3 (a.map nv) (b.map nv)) (n:=a.length) (by omega) (fun i=>decide (a[i]! =b[i]!)) (fun i hi=>by
   unfold j3
   rw[a8,a8,cu _ _,aC,aC,qe hi,qe (by omega)]
   congr 1
   by_cases h2:a[i]! =b[i]!
   ·rw[aB h2,bp (by rw[Id];exact fun h3=>h3 h2)];rfl
   ·rw[bp h2,aB (by rw[Id];exact h2)];rfl) (by
   unfold j3
   rw[a8,ce _ _])
  refine this.trans ?_
  congr 1
  rw[EU,bc,r8]
  constructor
  ·intro h2
   refine Fd h fun i h3 h4=>?_
   have:=bC (h2 i (kz.2 h3))
   rwa[bI a i h3,bI b i h4] at this
  ·rintro rfl i _
   exact aB rfl
 ·rw[cu _ _,bp (fun e=>h (by rw[e]))]
theorem Jm {a b:Ans}(ha:Fy a):iD (C9 a) (C9 b)=some (decide (a=b)):=by
 have hx:=ha.x
 have hy:=ha.y
 have hr:=ha.ray
 unfold iD C9
 dsimp only
 rw[NP (by omega),NP (by omega),NP (by omega)]
 simp only[ab,qC]
 congr 1
 obtain⟨k,x,y,r⟩:=a
 obtain⟨k',x',y',r'⟩:=b
 rw[EU]
 simp only[cm,r8,Ans.mk.injEq]
end
end
def j8(eA:List am)(mV:Int):Int→Option (Int⊕(Bool⊕Unit)):=fun aD=>cnd (decide (aD<((eA).length:Int))) (bnd (S:=Bool) (gd (0≤aD∧aD<((eA).length:Int)) (bnd (fj ((eA)[(aD).toNat]!)) fun x4=>cnd (!x4) (some (true)) (gd (0≤aD∧aD<((eA).length:Int)) (bnd (ge ((eA)[(aD).toNat]!.vN)) fun x9=>cnd (decide (mV<x9)) (some (true)) (gd (0≤aD∧aD<((eA).length:Int)) (bnd (ge ((eA)[(aD).toNat]!.vD)) fun pX=>some (decide (mV<pX)))))))) fun aT=>cnd aT (some (.inr (.inl false))) (some (.inl (i64.wrap (aD+(1:Int)))))) (some (.inr (.inr ())))
def lH(eA:List am)(mV:Int):Option Bool:=bnd (bo (j8 eA mV) (0:Int)) fun y18=>match y18 with| .inl r=>some r| .inr ()=>some true
theorem tn {eA:List am}{mV:Int}{r:Bool}(h:lH eA mV=some r):ar prog 27 [dL ak eA,dI .i64 mV] (dB r):=by
 refine bn (rs:=[.tmp 4]) (fun cx hx h0=>?_) func27
 unfold lH at h
 refine ra hx ?_
 refine AW.seq (ra hx ?_)
 refine AW.block ?_
 obtain⟨y,hy,h⟩:=ae h
 refine lp (S:=Int) (X:=Bool⊕Unit) (fun aD=>[(0,dL ak eA),(1,dI .i64 mV),(5,dI .i64 aD)]) (fun aD=>⟨[],[],0⟩) (PS (PR [.tmp 4] fun r=>dB r) (PE cx (.exit 0) (fun ()=>[]) fun ()=>⟨[],[],0⟩)) hy ?_ ?_ ?_
 exact wk0 h0 []
 clear hy h
 rintro aD y h
 dsimp only[j8] at h
 refine AW.seq (ra hx ?_)
 refine cdh h rfl (fun f4 h=>?_) (fun f4 h=>?_)
 refine AW.skip (AW.seq (AW.block (AW.seq ?_)))
 obtain⟨aT,hy,h⟩:=ae h
 refine jn ((PE cx .normal (fun aT=>[(0,dL ak eA),(1,dI .i64 mV),(5,dI .i64 aD),(37,dB aT)]) fun aT=>⟨[],[],0⟩) aT) ?_ ?_
 replace h:=hy
 refine rq hx fun K hK=>?_
 iterate 2 refine sa ?_
 obtain⟨qU,h⟩:=aA h
 have xT:(aD).toNat<(eA).length:=by omega
 refine sbr ?_
 refine s1 (d:=dG ak ((eA)[(aD).toNat]!)) (jA (c:=ak) (l:=eA) (n:=(aD).toNat) (o:=0) aO xT (e8 _ _ rfl)) ?_
 refine scb h mz fun x4 h=>?_
 refine mbr ?_
 rcases aF h with⟨rp,h⟩|⟨rp,h⟩
 refine nbr hK ?_
 exact pe1 h h0 []
 iterate 2 refine ga rp ?_
 obtain⟨hc7,h⟩:=aA h
 have Q1:(aD).toNat<(eA).length:=by omega
 refine gbr ?_
 refine ga rp ?_
 refine g1 (d:=dG aq ((eA)[(aD).toNat]!.vN)) rp (jA (c:=ak) (l:=eA) (n:=(aD).toNat) (o:=0) ff Q1 (by first|exact rfl|exact pG0 _ _ _ rfl|exact pG1 _ _ _ _ rfl rfl)) ?_
 refine gcb h zQ fun x9 h=>?_
 refine mbr ?_
 rcases aF h with⟨xU,h⟩|⟨xU,h⟩
 refine nbr hK ?_
 exact pe1 h h0 []
 iterate 2 refine ga xU ?_
 obtain⟨hc12,h⟩:=aA h
 have hn13:(aD).toNat<(eA).length:=by omega
 refine gbr ?_
 refine ga xU ?_
 refine g1 (d:=dG aq ((eA)[(aD).toNat]!.vD)) xU (jA (c:=ak) (l:=eA) (n:=(aD).toNat) (o:=18) ff hn13 (by first|exact rfl|exact pG0 _ _ _ rfl|exact pG1 _ _ _ _ rfl rfl)) ?_
 refine gcb h zQ fun pX h=>?_
 refine nbr hK ?_
 exact pe1 h h0 []
 refine lw0 ?_
 refine cdh h rfl (fun Ix h=>?_) (fun Ix h=>?_)
 refine ra hx ?_
 refine AW.ret ?_
 cases h
 refine PS.r ⟨by nofun,PS.l (PR.i ?_)⟩
 exact rv1
 refine AW.skip (rb hx ?_)
 exact pel h h0 []
 exact AW.exit (peq h h0 [])
 rcases y with r|⟨⟩
 rintro ex tm' hp' ⟨rfl,hw⟩
 cases h
 exact hw
 refine lwr ?_
 refine ra hx ?_
 exact AW.ret (rtv h)
def qn(m8:a7)(DU:Int)(mV:Int):Option Bool:=bnd (S:=Bool) (bnd (nj m8) fun x1=>cnd x1 (cnd (decide (m8.vA.vR≤DU)) (cnd (decide (m8.vA.vC≤DU)) (bnd (lH m8.vA.vV mV) fun x6=>cnd x6 (bnd (lH m8.vB mV) fun x9=>cnd x9 (bnd (lH m8.vC mV) fun m9=>some (m9)) (some (false))) (some (false))) (some (false))) (some (false))) (some (false))) fun br=>some br
theorem JT {m8:a7}{DU:Int}{mV:Int}{r:Bool}(h:qn m8 DU mV=some r):ar prog 25 [dG d9 m8,dI .i64 DU,dI .i64 mV] (dB r):=by
 refine bn (rs:=[.tmp 6]) (fun cx hx h0=>?_) func25
 unfold qn at h
 refine rs hx fun K hK=>?_
 refine s1 (d:=.pt 0 0) gP ?_
 refine nbr hK ?_
 refine AW.seq ?_
 obtain⟨br,hy,h⟩:=ae h
 refine jn ((PE cx .normal (fun br=>[(6,dB br)]) fun br=>⟨[],[],0⟩) br) ?_ ?_
 replace h:=hy
 refine rq hx fun K hK=>?_
 refine s1 (d:=dG d9 m8) (T_ldA rE) ?_
 refine scb h Ga fun x1 h=>?_
 refine sa ?_
 rcases aF h with⟨fZ,h⟩|⟨fZ,h⟩
 refine mbr ?_
 rcases aF h with⟨FU,h⟩|⟨FU,h⟩
 refine mbr ?_
 rcases aF h with⟨rW,h⟩|⟨rW,h⟩
 iterate 2 refine ga rW ?_
 refine gbr ?_
 refine ga rW ?_
 refine gcb h tn fun x6 h=>?_
 refine mbr ?_
 rcases aF h with⟨t7,h⟩|⟨t7,h⟩
 refine ga t7 ?_
 refine gbr ?_
 refine ga t7 ?_
 refine gcb h tn fun x9 h=>?_
 refine mbr ?_
 rcases aF h with⟨xU,h⟩|⟨xU,h⟩
 refine ga xU ?_
 refine gbr ?_
 refine ga xU ?_
 refine gcb h tn fun m9 h=>?_
 refine nbr hK ?_
 exact pe1 h h0 []
 refine nbr hK ?_
 exact pe1 h h0 []
 refine nbr hK ?_
 exact pe1 h h0 []
 refine nbr hK ?_
 exact pe1 h h0 []
 refine nbr hK ?_
 exact pe1 h h0 []
 refine nbr hK ?_
 exact pe1 h h0 []
 refine lw0 ?_
 exact AW.ret (rtv h)
def lw(eA:List Int):(List am)×Int→Option (((List am)×Int)⊕((List am))):=fun (aP,bq)=>cnd (decide (bq<((eA).length:Int))) (gd (0≤bq∧bq<((eA).length:Int)) (bnd (pz ((eA)[(bq).toNat]!)) fun x4=>gd ((aP++[x4]).length*136≤140737488355328) (some (.inl (aP++[x4],i64.wrap (bq+(1:Int))))))) (some (.inr aP))
def dm(eA:List Int):Option (List am):=bnd (bo (lw eA) (([]:List am),(0:Int))) fun bf=>some bf
theorem eN {eA:List Int}{r:List am}(h:dm eA=some r):ar prog 40 [dL (cI .i64) eA] (.own 43 ak.sz r.length (r.flatMap ak.f)):=by
 refine bn (rs:=[.tmp 2]) (fun cx hx h0=>?_) func40
 unfold dm at h
 refine rs hx fun K hK=>?_
 refine s1 (d:=dO 0 ak ([]:List am)) (gz bZ aO) ?_
 refine nl hK ?_
 refine rs hx fun K hK=>?_
 refine s1 (d:=dO 1 ak ([]:List am)) (gz bZ aO) ?_
 refine nl hK ?_
 refine AW.seq (ra hx ?_)
 refine AW.block ?_
 obtain⟨bf,hy,h⟩:=ae h
 refine lp (S:=(List am)×Int) (X:=(List am)) (fun (aP,bq)=>[(0,dL (cI .i64) eA),(3,dO 0 ak aP),(4,dI .i64 bq)]) (fun (aP,bq)=>⟨[],[(0,(aP).length,36,43)],1⟩) (PE cx (.exit 0) (fun bf=>[(3,dO 0 ak bf)]) fun bf=>⟨[],[(0,(bf).length,36,43)],1⟩) hy ?_ ?_ ?_
 exact wk0 h0 [1]
 clear hy h
 rintro⟨aP,bq⟩ y h
 dsimp only[lw] at h
 refine AW.seq (ra hx ?_)
 refine cdh h rfl (fun f4 h=>?_) (fun f4 h=>?_)
 refine AW.skip (AW.seq (AW.block (rq hx fun K hK=>?_)))
 iterate 3 refine sa ?_
 obtain⟨qU,h⟩:=aA h
 have xT:(bq).toNat<(eA).length:=by omega
 refine sbr ?_
 refine s1 (yD (c:=(cI .i64)) (l:=eA) (n:=(bq).toNat) (o:=0) dZ xT) ?_
 refine scb h DE fun x4 h=>?_
 refine s1 (lh ([x4]:List am) ak bZ aO) ?_
 obtain⟨hc6,h⟩:=aA h
 refine s1 (d:=dO 0 ak (aP++[x4])) (oP bZ aO hc6) ?_
 refine nbr hK ?_
 refine rb hx ?_
 exact pel h h0 [0]
 exact AW.exit (per h h0 [0])
 refine lw0 ?_
 refine ra hx ?_
 refine AW.ret ?_
 cases h
 exact n9.own rfl rfl
def fE(jR:Int)(aK:List Int)(aQ:List Int)(oa:List Int):Option a7:=bnd (dm aK) fun x1=>bnd (dm aQ) fun x3=>bnd (dm oa) fun x5=>some (⟨(⟨jR,((oa).length:Int),x1⟩:fM),x3,x5⟩:a7)
theorem nB {jR:Int}{aK:List Int}{aQ:List Int}{oa:List Int}{r:a7}(h:fE jR aK aQ oa=some r):ar prog 37 [dI .i64 jR,dL (cI .i64) aK,dL (cI .i64) aQ,dL (cI .i64) oa] (dG d9 r):=by
 refine bn (rs:=[.cell 8 26]) (fun cx hx h0=>?_) func37
 unfold fE at h
 refine rs hx fun K hK=>?_
 refine s1 (d:=.pt 0 0) (pU rE) ?_
 refine nl hK ?_
 refine rs hx fun K hK=>?_
 iterate 4 refine sa ?_
 obtain⟨x1,xx,h⟩:=ae h
 refine s1 (iL rfl (eN xx) rfl (lA (ax _) lAn)) ?_
 refine s2 (d2:=dG mQ (⟨jR,((oa).length:Int),x1⟩:fM)) (dp (es:=[dI .i64 jR,dI .i64 ((oa).length:Int),dO 1 ak x1]) wB) (rS (wc (qg _) (wc (qg _) (wc (lc_x _) wcn)))) ?_
 refine sa ?_
 obtain⟨x3,hx4,h⟩:=ae h
 refine s1 (iL rfl (eN hx4) rfl (lA (ax _) lAn)) ?_
 refine sa ?_
 obtain⟨x5,Ip,h⟩:=ae h
 refine s1 (iL rfl (eN Ip) rfl (lA (ax _) lAn)) ?_
 refine s2 (d2:=dG d9 (⟨(⟨jR,((oa).length:Int),x1⟩:fM),x3,x5⟩:a7)) (dp (es:=[dI .i64 jR,dI .i64 ((oa).length:Int),dL ak x1,dO 2 ak x3,dO 3 ak x5]) rE) (rS (wc (qg _) (wc (qg _) (wc (qg _) (wc (lc_x _) (wc (lc_x _) wcn)))))) ?_
 refine s0 (Da (ds':=[dI .i64 jR,dI .i64 ((oa).length:Int),dL ak x1,dL ak x3,dL ak x5]) rE) ?_
 refine nl hK ?_
 refine AW.ret ?_
 cases h
 exact n9.mk1 (RO (es:=(d9.f (⟨(⟨jR,((oa).length:Int),x1⟩:fM),x3,x5⟩:a7)).map .e) rfl rE rfl rfl (ltb rfl) (leb rfl) rfl (.inr (.inr ⟨_,(ax _),rfl,rfl⟩)))
def gq(aK:Int)(aQ:Int):Option (List am):=bnd (mD aK (5:Int)) fun x1=>bnd (mD aQ (5:Int)) fun x3=>some [x1,x3]
theorem oc {aK:Int}{aQ:Int}{r:List am}(h:gq aK aQ=some r):ar prog 39 [dI .i64 aK,dI .i64 aQ] (.own 43 ak.sz r.length (r.flatMap ak.f)):=by
 refine bn (rs:=[.tmp 4]) (fun cx hx h0=>?_) func39
 unfold gq at h
 refine rs hx fun K hK=>?_
 refine s1 (d:=dO 0 ak ([]:List am)) (gz bZ aO) ?_
 refine nl hK ?_
 refine rs hx fun K hK=>?_
 refine sa ?_
 refine scb h zM fun x1 h=>?_
 refine sa ?_
 refine scb h zM fun x3 h=>?_
 refine s1 (lh ([x1,x3]:List am) ak bZ aO) ?_
 refine nbr hK ?_
 refine AW.ret ?_
 cases h
 exact n9.own rfl rfl
def gp(m8:a7)(H6:cH):Option Bool:=bnd (gY m8 (100:Int)) fun x1=>bnd (S:=Bool) (cnd (decide (x1.2.2=(0:Int))) (bnd (iD x1.1 H6) fun x4=>cnd x4 (bnd (i8 m8 x1.1) fun x7=>some (decide (x7=(0:Int)))) (some (false))) (some (false))) fun jx=>some jx
theorem ob {m8:a7}{H6:cH}{r:Bool}(h:gp m8 H6=some r):ar prog 38 [dG d9 m8,dG kg H6] (dB r):=by
 refine bn (rs:=[.tmp 4]) (fun cx hx h0=>?_) func38
 unfold gp at h
 refine rs hx fun K hK=>?_
 refine s1 (d:=.pt 0 0) gP ?_
 refine s1 (d:=.pt 1 0) gP ?_
 refine nbr hK ?_
 refine rs hx fun K hK=>?_
 refine s1 (d:=dG d9 m8) (T_ldA rE) ?_
 refine scb h qy fun x1 h=>?_
 iterate 4 refine sa ?_
 refine s1 (d:=.pt 2 0) (pU oX) ?_
 refine s0 (Da (ds':=[dI .i64 x1.1.vKind,dL ak x1.1.vX,dL ak x1.1.vY,dL ak x1.1.vRay]) oX) ?_
 refine nbr hK ?_
 refine AW.seq ?_
 obtain⟨jx,hy,h⟩:=ae h
 refine jn ((PE cx .normal (fun jx=>[(4,dB jx)]) fun jx=>⟨[],[],0⟩) jx) ?_ ?_
 replace h:=hy
 refine rq hx fun K hK=>?_
 refine mbr ?_
 rcases aF h with⟨fZ,h⟩|⟨fZ,h⟩
 refine g1 (d:=dG kg x1.1) fZ (T_ldA oX) ?_
 refine g1 (d:=dG kg H6) fZ (T_ldA oX) ?_
 refine gcb h yJ fun x4 h=>?_
 refine mbr ?_
 rcases aF h with⟨rp,h⟩|⟨rp,h⟩
 refine g1 (d:=dG d9 m8) rp (T_ldA rE) ?_
 refine g1 (d:=dG kg x1.1) rp (T_ldA oX) ?_
 refine gcb h vw fun x7 h=>?_
 refine nbr hK ?_
 exact pe1 h h0 []
 refine nbr hK ?_
 exact pe1 h h0 []
 refine nbr hK ?_
 exact pe1 h h0 []
 refine lw0 ?_
 exact AW.ret (rtv h)
def j9 :Option Bool:=bnd (fE (2:Int) [(1:Int),(2:Int),(3:Int),(1:Int)] [(4:Int),(6:Int)] [(1:Int),(1:Int)]) fun x1=>bnd (gq (8:Int) (6:Int)) fun x3=>bnd (gq (2:Int) (1:Int)) fun x5=>bnd (gp x1 (⟨(1:Int),x3,x5,([]:List am)⟩:cH)) fun x7=>bnd (fE (1:Int) [(1:Int)] [(-1:Int)] [(0:Int)]) fun x9=>bnd (dm [(1:Int)]) fun sL=>bnd (gp x9 (⟨(2:Int),([]:List am),sL,([]:List am)⟩:cH)) fun qw=>bnd (fE (1:Int) [(-1:Int),(1:Int)] [(1:Int)] [(1:Int),(0:Int)]) fun JD=>bnd (dm [(0:Int),(0:Int)]) fun pW=>bnd (dm [(1:Int),(0:Int)]) fun tL=>bnd (gp JD (⟨(3:Int),pW,([]:List am),tL⟩:cH)) fun wh=>bnd (fE (1:Int) [(-1:Int)] [(-2:Int)] [(-1:Int)]) fun xY=>bnd (dm [(2:Int)]) fun Jw=>bnd (dm [(1:Int)]) fun AU=>bnd (gp xY (⟨(1:Int),Jw,AU,([]:List am)⟩:cH)) fun CR=>bnd (dm [(1:Int),(1:Int),(1:Int),(-1:Int)]) fun HI=>bnd (dm [(1:Int),(3:Int)]) fun LJ=>bnd (ln (⟨(2:Int),(2:Int),HI⟩:fM) LJ (100:Int)) fun th=>bnd (S:=Bool) (cnd (decide (th.2.2=(0:Int))) (cnd (decide (th.1.vKind=(2:Int))) (bnd (dm [(1:Int),(3:Int)]) fun LI=>bnd (gl (⟨(2:Int),(2:Int),HI⟩:fM) LI th.1) fun x41=>some (decide (x41=(0:Int)))) (some (false))) (some (false))) fun Hy=>bnd (S:=Bool) (cnd x7 (cnd qw (cnd wh (cnd CR (cnd Hy (bnd (gq (8:Int) (6:Int)) fun x49=>bnd (gq (2:Int) (2:Int)) fun Rc=>bnd (i8 x1 (⟨(1:Int),x49,Rc,([]:List am)⟩:cH)) fun x53=>some (decide (x53=(250:Int)))) (some (false))) (some (false))) (some (false))) (some (false))) (some (false))) fun nZ=>some nZ
theorem wx  {r:Bool}(h:j9=some r):ar prog 11 [] (dB r):=by
 refine bn (rs:=[.tmp 0]) (fun cx hx h0=>?_) func11
 unfold j9 at h
 refine ra hx ?_
 refine rs hx fun K hK=>?_
 refine s1 (d:=dO 0 (cI .i64) [(1:Int),(2:Int),(3:Int),(1:Int)]) (kD c8 dZ) ?_
 refine s1 (d:=dO 1 (cI .i64) [(4:Int),(6:Int)]) (kD c8 dZ) ?_
 refine s1 (d:=dO 2 (cI .i64) [(1:Int),(1:Int)]) (kD c8 dZ) ?_
 refine scb h nB fun x1 h=>?_
 refine s1 (d:=.pt 3 0) (pU rE) ?_
 refine s0 (Da (ds':=[dI .i64 x1.vA.vR,dI .i64 x1.vA.vC,dL ak x1.vA.vV,dL ak x1.vB,dL ak x1.vC]) rE) ?_
 refine nl hK ?_
 refine rsd [38] hx fun K hK=>?_
 refine s1 (d:=dG d9 x1) (T_ldA rE) ?_
 obtain⟨x3,hx4,h⟩:=ae h
 refine s1 (iL rfl (oc hx4) rfl (lA (ax _) (lA (ax _) lAn))) ?_
 obtain⟨x5,Ip,h⟩:=ae h
 refine s1 (iL rfl (oc Ip) rfl (lA (ax _) (lA (ax _) lAn))) ?_
 refine s1 (d:=.ag [dI .i64 (1:Int),dO 4 ak x3,dO 5 ak x5,dN]) (dp oX) ?_
 obtain⟨x7,hx8,h⟩:=ae h
 refine sq tok (ob hx8) (by simp only[jK,mZ,iJ,kr,fH,cm];exact⟨db _ _,rfl⟩) (lA (ax _) (lA (rS (wc (qg _) (wc (qg _) (wc (qg _) (wc (P4 rfl) wcn))))) lAn)) (.inl rfl) ?_
 refine nbr hK ?_
 refine rs hx fun K hK=>?_
 refine s1 (d:=dO 6 (cI .i64) [(1:Int)]) (kD c8 dZ) ?_
 refine s1 (d:=dO 7 (cI .i64) [(-1:Int)]) (kD c8 dZ) ?_
 refine s1 (d:=dO 8 (cI .i64) [(0:Int)]) (kD c8 dZ) ?_
 refine scb h nB fun x9 h=>?_
 refine s1 (d:=dO 9 (cI .i64) [(1:Int)]) (kD c8 dZ) ?_
 obtain⟨sL,hx12,h⟩:=ae h
 refine s1 (iL rfl (eN hx12) rfl (lA (ax _) lAn)) ?_
 refine s1 (d:=.ag [dI .i64 (2:Int),dN,dO 10 ak sL,dN]) (dp oX) ?_
 obtain⟨qw,SD,h⟩:=ae h
 refine s1 (xj rfl (ob SD) (by simp only[jK,mZ,iJ,kr,fH,cm];exact⟨db _ _,rfl⟩) (lA (ax _) (lA (rS (wc (qg _) (wc (P4 rfl) (wc (qg _) (wc (P4 rfl) wcn))))) lAn)) (.inl rfl)) ?_
 refine nbr hK ?_
 refine rs hx fun K hK=>?_
 refine s1 (d:=dO 11 (cI .i64) [(-1:Int),(1:Int)]) (kD c8 dZ) ?_
 refine s1 (d:=dO 12 (cI .i64) [(1:Int)]) (kD c8 dZ) ?_
 refine s1 (d:=dO 13 (cI .i64) [(1:Int),(0:Int)]) (kD c8 dZ) ?_
 refine scb h nB fun JD h=>?_
 refine s1 (d:=dO 14 (cI .i64) [(0:Int),(0:Int)]) (kD c8 dZ) ?_
 obtain⟨pW,v8,h⟩:=ae h
 refine s1 (iL rfl (eN v8) rfl (lA (ax _) lAn)) ?_
 refine s1 (d:=dO 16 (cI .i64) [(1:Int),(0:Int)]) (kD c8 dZ) ?_
 obtain⟨tL,Al,h⟩:=ae h
 refine s1 (iL rfl (eN Al) rfl (lA (ax _) lAn)) ?_
 refine s1 (d:=.ag [dI .i64 (3:Int),dO 15 ak pW,dN,dO 17 ak tL]) (dp oX) ?_
 obtain⟨wh,SC,h⟩:=ae h
 refine s1 (xj rfl (ob SC) (by simp only[jK,mZ,iJ,kr,fH,cm];exact⟨db _ _,rfl⟩) (lA (ax _) (lA (rS (wc (qg _) (wc (qg _) (wc (P4 rfl) (wc (qg _) wcn))))) lAn)) (.inl rfl)) ?_
 refine nbr hK ?_
 refine rs hx fun K hK=>?_
 refine s1 (d:=dO 18 (cI .i64) [(-1:Int)]) (kD c8 dZ) ?_
 refine s1 (d:=dO 19 (cI .i64) [(-2:Int)]) (kD c8 dZ) ?_
 refine s1 (d:=dO 20 (cI .i64) [(-1:Int)]) (kD c8 dZ) ?_
 refine scb h nB fun xY h=>?_
 refine s1 (d:=dO 21 (cI .i64) [(2:Int)]) (kD c8 dZ) ?_
 obtain⟨Jw,hx26,h⟩:=ae h
 refine s1 (iL rfl (eN hx26) rfl (lA (ax _) lAn)) ?_
 refine s1 (d:=dO 23 (cI .i64) [(1:Int)]) (kD c8 dZ) ?_
 obtain⟨AU,Ir,h⟩:=ae h
 refine s1 (iL rfl (eN Ir) rfl (lA (ax _) lAn)) ?_
 refine s1 (d:=.ag [dI .i64 (1:Int),dO 22 ak Jw,dO 24 ak AU,dN]) (dp oX) ?_
 obtain⟨CR,SA,h⟩:=ae h
 refine s1 (xj rfl (ob SA) (by simp only[jK,mZ,iJ,kr,fH,cm];exact⟨db _ _,rfl⟩) (lA (ax _) (lA (rS (wc (qg _) (wc (qg _) (wc (qg _) (wc (P4 rfl) wcn))))) lAn)) (.inl rfl)) ?_
 refine nbr hK ?_
 refine rs hx fun K hK=>?_
 refine s1 (d:=dO 25 (cI .i64) [(1:Int),(1:Int),(1:Int),(-1:Int)]) (kD c8 dZ) ?_
 obtain⟨HI,hx32,h⟩:=ae h
 refine s1 (iL rfl (eN hx32) rfl (lA (ax _) lAn)) ?_
 refine s2 (d2:=dG mQ (⟨(2:Int),(2:Int),HI⟩:fM)) (dp (es:=[dI .i64 (2:Int),dI .i64 (2:Int),dO 26 ak HI]) wB) (rS (wc (qg _) (wc (qg _) (wc (lc_x _) wcn)))) ?_
 refine s1 (d:=.pt 27 0) (pU wB) ?_
 refine s0 (Da (ds':=[dI .i64 (2:Int),dI .i64 (2:Int),dL ak HI]) wB) ?_
 refine nl hK ?_
 refine AW.seq ?_
 obtain⟨LJ,Qa,h⟩:=ae h
 obtain⟨th,hx36,h⟩:=ae h
 refine jn (PE cx .normal (fun (_:Unit)=>[(1,.pt 0 0),(2,dB x7),(3,dB qw),(4,dB wh),(5,dB CR),(6,.pt 1 0),(7,.pt 2 0),(9,dI .i64 th.2.2)]) (fun (_:Unit)=>⟨[(0,[dI .i64 x1.vA.vR,dI .i64 x1.vA.vC,dL ak x1.vA.vV,dL ak x1.vB,dL ak x1.vC]),(1,[dI .i64 (2:Int),dI .i64 (2:Int),dL ak HI]),(2,[dI .i64 th.1.vKind,dL ak th.1.vX,dL ak th.1.vY,dL ak th.1.vRay])],[],3⟩) ()) ?_ ?_
 refine dw (DW.split 2 8 (by decide) ?_ ?_)
 refine dwg [21] [0,1,2,3,4,5,6,7,8,9,10,11] hx (by kernel_rfl) (by kernel_rfl) (by kernel_rfl) fun K hK=>?_
 dsimp only[eh,mM,mW,List.map]
 refine s1 (d:=dG mQ (⟨(2:Int),(2:Int),HI⟩:fM)) (T_ldA wB) ?_
 refine s1 (Fs c8 dZ) ?_
 refine s1 (iL rfl (eN Qa) rfl (lA (ax _) lAn)) ?_
 refine cq (vu hx36) ?_
 iterate 4 refine sa ?_
 refine s1 (d:=.pt 29 0) (pU oX) ?_
 refine s0 (Da (ds':=[dI .i64 th.1.vKind,dL ak th.1.vX,dL ak th.1.vY,dL ak th.1.vRay]) oX) ?_
 iterate 2 refine sa ?_
 exact .nil (hK _ _ (pe0 h0 [3,27,29]))
 refine dwg [21] [0,1,8,2,3,4,5,6,7,9,10,11] hx (by kernel_rfl) (by kernel_rfl) (by kernel_rfl) fun K hK=>?_
 dsimp only[eh,mM,mW,List.map]
 refine s1 (d:=dG mQ (⟨(2:Int),(2:Int),HI⟩:fM)) (T_ldA wB) ?_
 refine s1 (Fs c8 dZ) ?_
 refine s1 (d:=.pt 28 0) (pU oX) ?_
 refine s1 (iL rfl (eN Qa) rfl (lA (ax _) lAn)) ?_
 refine cq (vu hx36) ?_
 iterate 4 refine sa ?_
 refine s0 (Da (ds':=[dI .i64 th.1.vKind,dL ak th.1.vX,dL ak th.1.vY,dL ak th.1.vRay]) oX) ?_
 iterate 2 refine sa ?_
 exact .nil (hK _ _ (pe0 h0 [3,27,28]))
 refine lw0 ?_
 refine AW.seq ?_
 obtain⟨Hy,hy,h⟩:=ae h
 refine jn ((PE cx .normal (fun Hy=>[(1,.pt 0 0),(2,dB x7),(3,dB qw),(4,dB wh),(5,dB CR),(10,dB Hy)]) fun Hy=>⟨[(0,[dI .i64 x1.vA.vR,dI .i64 x1.vA.vC,dL ak x1.vA.vV,dL ak x1.vB,dL ak x1.vC])],[],1⟩) Hy) ?_ ?_
 replace h:=hy
 refine rqd [23] hx fun K hK=>?_
 refine mbr ?_
 rcases aF h with⟨hb37,h⟩|⟨hb37,h⟩
 refine mbr ?_
 rcases aF h with⟨hb38,h⟩|⟨hb38,h⟩
 refine g1 (d:=dG mQ (⟨(2:Int),(2:Int),HI⟩:fM)) hb38 (T_ldA wB) ?_
 refine g1 hb38 (Fs c8 dZ) ?_
 obtain⟨LI,hx40,h⟩:=ae h
 refine g1 hb38 (iL rfl (eN hx40) rfl (lA (ax _) lAn)) ?_
 refine g1 (d:=dG kg th.1) hb38 (T_ldA oX) ?_
 obtain⟨x41,hx42,h⟩:=ae h
 refine sqg tok rfl rfl hb38 (wn hx42) (by simp only[jK,mZ,iJ,kr,fH,cm];exact⟨db _ _,rfl,db _ _⟩) (lA (ax _) (lA (ax _) (lA (ax _) lAn))) (.inl rfl) ?_
 refine nbr hK ?_
 exact pe1 h h0 [0]
 refine nbr hK ?_
 exact pe1 h h0 [0]
 refine nbr hK ?_
 exact pe1 h h0 [0]
 refine lw0 ?_
 refine AW.seq ?_
 obtain⟨nZ,hy,h⟩:=ae h
 refine jn ((PE cx .normal (fun nZ=>[(0,dB nZ)]) fun nZ=>⟨[],[],0⟩) nZ) ?_ ?_
 replace h:=hy
 refine rqd [19] hx fun K hK=>?_
 refine mbr ?_
 rcases aF h with⟨hb44,h⟩|⟨hb44,h⟩
 refine mbr ?_
 rcases aF h with⟨hb45,h⟩|⟨hb45,h⟩
 refine mbr ?_
 rcases aF h with⟨Et,h⟩|⟨Et,h⟩
 refine mbr ?_
 rcases aF h with⟨hb47,h⟩|⟨hb47,h⟩
 refine mbr ?_
 rcases aF h with⟨Th,h⟩|⟨Th,h⟩
 refine g1 (d:=dG d9 x1) Th (T_ldA rE) ?_
 obtain⟨x49,hx50,h⟩:=ae h
 refine g1 Th (iL rfl (oc hx50) rfl (lA (ax _) (lA (ax _) lAn))) ?_
 obtain⟨Rc,hx52,h⟩:=ae h
 refine g1 Th (iL rfl (oc hx52) rfl (lA (ax _) (lA (ax _) lAn))) ?_
 refine g1 (d:=.ag [dI .i64 (1:Int),dO 1 ak x49,dO 2 ak Rc,dN]) Th (dp oX) ?_
 obtain⟨x53,hx54,h⟩:=ae h
 refine sqg tok rfl rfl Th (vw hx54) (by simp only[jK,mZ,iJ,kr,fH,cm];exact⟨db _ _,rfl⟩) (lA (ax _) (lA (rS (wc (qg _) (wc (qg _) (wc (qg _) (wc (P4 rfl) wcn))))) lAn)) (.inl rfl) ?_
 refine nbr hK ?_
 exact pe1 h h0 []
 refine nbr hK ?_
 exact pe1 h h0 []
 refine nbr hK ?_
 exact pe1 h h0 []
 refine nbr hK ?_
 exact pe1 h h0 []
 refine nbr hK ?_
 exact pe1 h h0 []
 refine nbr hK ?_
 exact pe1 h h0 []
 refine lw0 ?_
 exact AW.ret (rtv h)
theorem Um {A k:Nat}(h:A<2 ^ (k+1))(hb:(dg 65536 A (k / 16) / 2 ^ (k % 16)) % 2=0):A<2 ^ k:=by
 have e1:(dg 65536 A (k / 16)).testBit (k % 16)=A.testBit k:=by
  unfold dg
  rw[show (65536:Nat) ^ (k / 16)=2 ^ (16*(k / 16)) by rw[B5],show (65536:Nat)=2 ^ 16 by decide,Nat.testBit_mod_two_pow,Nat.testBit_div_two_pow,aB (eu _ (by decide)),E8]
  congr 1;omega
 rw[UF,UF] at e1
 have h2:A / 2 ^ k % 2=0:=by
  rcases Nat.mod_two_eq_zero_or_one (A / 2 ^ k) with h3|h3
  ·exact h3
  ·rw[h3] at e1
   have:=bC (e1.trans (aB rfl))
   omega
 have h3:A / 2 ^ k<2:=by rw[lM (bO (by decide))];rw[cG] at h;omega
 have h4:A / 2 ^ k=0:=by
  generalize A / 2 ^ k=q at h2 h3
  omega
 rcases Nat.div_eq_zero_iff.1 h4 with h5|h5
 ·have:=bO (n:=k) (show 0<2 by decide);omega
 ·exact h5
theorem R_bit {A k:Nat}(hk:k≤100000):qk (dl A) (k:Int)=some (((dg 65536 A (k / 16) / 2 ^ (k % 16)) % 2:Nat):Int):=by
 unfold qk
 have e1:i64.wrap (Int.tdiv (k:Int) (16:Int))=((k / 16:Nat):Int):=by
  rw[Int.tdiv_eq_ediv_of_nonneg (by omega),ee (by omega) (by omega)];omega
 have e2:Int.tmod (k:Int) (16:Int)=((k % 16:Nat):Int):=by
  rw[Int.tmod_eq_emod_of_nonneg (by omega)];rfl
 rw[e1,e2,show dl A=dk (sz6 A) A from rfl,vq (jP A),ab,aC,BC _ _ _ (by have:k % 16<16:=eu _ (by decide);show k % 16≤64;omega)]
 generalize dg 65536 A (k / 16) / 2 ^ (k % 16)=q
 have e3:Int.tmod (q:Int) 2=((q % 2:Nat):Int):=by rw[Int.tmod_eq_emod_of_nonneg (by omega)];rfl
 rw[e3]
theorem U9 {z:Int}(hz:z.natAbs<LIM):∃n:Nat,ge (enc z)=some (n:Int)∧z.natAbs<2 ^ n:=by
 have hsz:sz6 z.natAbs≤32:=rF (bJ hz (by decide))
 have bK:=jP z.natAbs
 have hlen:=M4 z.natAbs
 obtain⟨x,hl,hx⟩:=vI (b:=mG (dl z.natAbs)) (fun s:Int=>0≤s∧s≤512∧z.natAbs<2 ^ s.toNat) (fun s=>s.toNat) (fun x=>0≤x∧x≤512∧z.natAbs<2 ^ x.toNat) (fun s ⟨h1,h2,h3⟩=>by
  unfold mG
  by_cases h0:0<s
  ·obtain⟨k,rfl⟩:∃k:Nat,s=(k:Int)+1:=⟨(s - 1).toNat,by omega⟩
   rw[cu _ _ h0,ee (z:=(k:Int)+1 - 1) (by omega) (by omega),show (k:Int)+1 - 1=(k:Int) by omega,R_bit (by omega),ab]
   have e:((k:Int)+1).toNat=k+1:=by omega
   rw[e] at h3
   by_cases hb:(dg 65536 z.natAbs (k / 16) / 2 ^ (k % 16)) % 2=0
   ·refine .inl ⟨(k:Int),?_,⟨by omega,by omega,?_⟩,by omega⟩
    ·rw[aB (by omega)];rfl
    ·rw[show ((k:Int)).toNat=k by omega];exact Um h3 hb
   ·refine .inr ⟨(k:Int)+1,?_,by omega,by omega,by rw[e];exact h3⟩
    rw[bp (by omega)];rfl
  ·obtain rfl:s=0:=by omega
   exact .inr ⟨0,by rw[ce _ _ h0];rfl,by omega,by omega,h3⟩) (16*(sz6 z.natAbs:Int)) ⟨by omega,by omega,by
   rw[show (16*(sz6 z.natAbs:Int)).toNat=16*sz6 z.natAbs by omega,B5];exact bK⟩
 refine⟨x.toNat,?_,hx.2.2⟩
 unfold ge
 rw[ir,bg hz,ab,mP hz]
 rw[show (!true)=false from rfl,cF]
 simp only[ab]
 rw[hlen,ee (by omega) (by omega),hl,ab]
 congr 1;omega
theorem yT {x:Nu}(h:aw x=true):(∃n:Nat,ge (nv x).vN=some (n:Int)∧(rv x).num.natAbs<2 ^ n)∧∃n:Nat,ge (nv x).vD=some (n:Int)∧(rv x).den<2 ^ n:=by
 obtain⟨h1,h2⟩:=dK.1 (bE.1 h)
 have e:nv x=kW (rv x):=h2
 rw[e]
 refine⟨U9 h1.1,?_⟩
 obtain⟨n,h3,h4⟩:=U9 (jO h1)
 exact⟨n,h3,by simpa using h4⟩
structure Lu(l:List Nu)(bits:Int):Prop where
 good:∀i,i<l.length→aw l[i]! =true
 num:∀i,i<l.length→(rv l[i]!).num.natAbs<2 ^ bits.toNat
 den:∀i,i<l.length→(rv l[i]!).den<2 ^ bits.toNat
theorem Jl {l:List Nu}{bits:Int}(hl:l.length≤9223372036854775807):∃b,lH (l.map nv) bits=some b∧(b=true→Lu l bits):=by
 obtain⟨fN,hN⟩:∃fN:Nat→Int,fN=fun i=>(ge (nv l[i]!).vN).getD 0:=⟨_,rfl⟩
 obtain⟨fD,hD⟩:∃fD:Nat→Int,fD=fun i=>(ge (nv l[i]!).vD).getD 0:=⟨_,rfl⟩
 have key:=tW (b:=j8 (l.map nv) bits) (n:=l.length) (by omega) (fun i=>aw l[i]! &&(!decide (bits<fN i)&&!decide (bits<fD i))) (fun i hi=>by
  unfold j8
  rw[a8,cu _ _,aC,aC,aC,qe hi,qGood,ab]
  cases hg:aw l[i]! with
  |false=>rfl
  |true=>
   obtain⟨⟨n1,h1,_⟩,n2,h2,_⟩:=yT hg
   rw[h1,h2,ab,ab]
   have e1:fN i=n1:=by rw[hN];dsimp only;rw[h1];rfl
   have e2:fD i=n2:=by rw[hD];dsimp only;rw[h2];rfl
   rw[e1,e2]
   cases decide (bits<(n1:Int)) <;> cases decide (bits<(n2:Int)) <;> rfl) (by
  unfold j8
  rw[a8,ce _ _])
 refine⟨_,key,fun h=>?_⟩
 have h3:∀i,i<l.length→aw l[i]! =true∧¬bits<fN i∧¬bits<fD i:=fun i hi=>by
  have:=bc.1 h i (kz.2 hi)
  simpa[cm] using this
 refine⟨fun i hi=>(h3 i hi).1,fun i hi=>?_,fun i hi=>?_⟩
 ·obtain⟨hg,h4,_⟩:=h3 i hi
  obtain⟨⟨n1,h1,h5⟩,_⟩:=yT hg
  have e1:fN i=n1:=by rw[hN];dsimp only;rw[h1];rfl
  exact bJ h5 (ia (by decide) (by omega))
 ·obtain⟨hg,_,h4⟩:=h3 i hi
  obtain⟨_,n2,h2,h5⟩:=yT hg
  have e1:fD i=n2:=by rw[hD];dsimp only;rw[h2];rfl
  exact bJ h5 (ia (by decide) (by omega))
structure Few(R Cc:Int)(A B C:List Nu)(size bits:Int):Prop where
 valid:mU R Cc A B C=true
 r:R≤size
 c:Cc≤size
 sA:Lu A bits
 sB:Lu B bits
 sC:Lu C bits
theorem R_few {R Cc size bits:Int}{A B C:List Nu}(hA:A.length≤9223372036854775807)(hB:B.length≤9223372036854775807)(hC:C.length≤9223372036854775807):∃b,qn ⟨⟨R,Cc,A.map nv⟩,B.map nv,C.map nv⟩ size bits=some b∧(b=true→Few R Cc A B C size bits):=by
 obtain⟨b1,h1,k1⟩:=Jl (l:=A) (bits:=bits) hA
 obtain⟨b2,h2,k2⟩:=Jl (l:=B) (bits:=bits) hB
 obtain⟨b3,h3,k3⟩:=Jl (l:=C) (bits:=bits) hC
 refine⟨mU R Cc A B C&&(decide (R≤size)&&(decide (Cc≤size)&&(b1&&(b2&&b3)))),?_,fun h=>?_⟩
 ·unfold qn
  dsimp only
  rw[R_Valid hA hB hC,h1,h2,h3]
  simp only[ab,qC]
 ·simp only[cm,r8] at h
  obtain⟨a1,a2,a3,a4,a5,a6⟩:=h
  exact⟨a1,a2,a3,k1 a4,k2 a5,k3 a6⟩
def rH(R Cc:Int)(A B C:List Nu)(most:Int):Ans×Int×Int:=if mU R Cc A B C&&decide (0≤most) then iw R.toNat Cc.toNat A B C most else (⟨0,[],[],[]⟩,0,1)
theorem ER {l:List Nu}(h:l.all aw=true):∀i,i<l.length→aw l[i]! =true:=fun i hi=>by
 rw[bI l i hi];exact bc.1 h _ (nK _)
theorem Jq {R Cc most:Int}{A B C:List Nu}(hA:A.length≤1000000)(hB:B.length≤1000000)(hC:C.length≤1000000)(hm:most≤9223372036854775807):gY ⟨⟨R,Cc,A.map nv⟩,B.map nv,C.map nv⟩ most=some (qE (rH R Cc A B C most)):=by
 unfold gY rH
 rw[Jp hA hB hC,ab]
 cases hv:mU R Cc A B C with
 |false=>
  rw[ah (by simp),ah (by simp)]
 |true=>
  by_cases h0:0≤most
  ·rw[ai ⟨rfl,h0⟩]
   obtain⟨m,nn,rfl,rfl,h1,h2,h3,h4,h5,g1,g2,g3⟩:=yM hv
   dsimp only
   rw[qA,qA,qA]
   refine (ai ⟨⟨by simp,by simp,by simpa using h1,by simpa using h2,D1 _,D1 _,D1 _,by simpa using h3,by simpa using h4,by simpa using h5,?_,?_,?_⟩,hm⟩).trans (by rw[ai (by simpa using h0)])
   ·dsimp only;rw[qA];exact ER g1
   ·dsimp only;rw[qA];exact ER g2
   ·dsimp only;rw[qA];exact ER g3
  ·rw[ah (fun h=>h0 h.2),ah (by simp[h0])]
theorem xu {l:List Nu}(h:l.all aw=true):(kR l).all aw=true:=by
 unfold kR
 rw[lW,h,E8,Lf,←h]
 congr 1
 funext x
 exact rk
def II(R Cc:Int)(A B:List Nu)(most:Int):Ans×Int×Int:=if sU R Cc A B&&decide (0≤most) then zc R.toNat Cc.toNat A B most else (⟨0,[],[],[]⟩,0,1)
theorem P_Equal {R Cc most:Int}{A B:List Nu}(hA:A.length≤500000)(hB:B.length≤500000)(hm:most≤9223372036854775807):ln ⟨R,Cc,A.map nv⟩ (B.map nv) most=some (qE (II R Cc A B most)):=by
 unfold ln II
 rw[Fw (by omega) (by omega),ab]
 cases hv:sU R Cc A B with
 |false=>
  rw[ah (by simp),ah (by simp)]
 |true=>
  by_cases h0:0≤most
  ·rw[ai ⟨rfl,h0⟩]
   obtain⟨m,nn,rfl,rfl,h1,h2,h3,h4,g1,g2⟩:=Ck hv
   dsimp only
   rw[qA,qA]
   have hlA:(kR A).length=(m+m)*nn:=by unfold kR;rw[cD,a8,h3,bR]
   have hlB:(kR B).length=m+m:=by unfold kR;rw[cD,a8,h4]
   have hlA2:(kR A).length=A.length+A.length:=by unfold kR;rw[cD,a8]
   have hz:(List.replicate nn (nOf 0)).all aw=true:=bc.2 fun x hx=>by rw[List.eq_of_mem_replicate hx];exact of0.1
   refine (ai ⟨⟨by simp,by simp,by simpa using h1,by simpa using h2,D1 _,D1 _,by simpa using h3,by simpa using h4,by simp;omega,?_,?_,?_⟩,hm⟩).trans (by rw[ai (by simpa using h0)])
   ·dsimp only;rw[qA];exact ER (xu g1)
   ·rw[qA];exact ER (xu g2)
   ·dsimp only
    rw[qA,qA,bW,bW,Jp (by omega) (by omega) (by simp;omega)]
    congr 1
    unfold mU Gq
    rw[hlA,hlB,xu g1,xu g2,hz,tF]
    have q1:decide ((0:Int)≤((m+m:Nat):Int))=true:=aB (by omega)
    have q2:decide ((0:Int)≤(nn:Int))=true:=aB (by omega)
    have q3:decide (((m+m:Nat):Int)≤2000)=true:=aB (by omega)
    have q4:decide ((nn:Int)≤2000)=true:=aB (by omega)
    have q5:decide ((((m+m)*nn:Nat):Int)=((m+m:Nat):Int)*(nn:Int))=true:=aB (by rw[iT])
    have q6:decide (((m+m:Nat):Int)=((m+m:Nat):Int))=true:=aB rfl
    have q7:decide (((nn:Nat):Int)=(nn:Int))=true:=aB rfl
    rw[q1,q2,q3,q4,q5,q6,q7]
    rfl
  ·rw[ah (fun h=>h0 h.2),ah (by simp[h0])]
theorem vm {l:List Int}(hl:l.length≤1000000)(h:∀i,i<l.length→-1000≤l[i]!∧l[i]!≤1000):dm l=some ((l.map nOf).map nv):=by
 unfold dm
 have key:=tX (b:=lw l) (fun i:Nat=>(((l.take i).map nOf).map nv,(i:Int))) 0 l.length ((l.map nOf).map nv) (cr _) (fun i _ hi=>?_) ?_
 ·have e:((((l.take 0).map nOf).map nv),((0:Nat):Int))=(([]:List am),(0:Int)):=by simp
  rw[e] at key
  rw[key];rfl
 ·unfold lw
  dsimp only
  have gj:l[((i:Nat):Int).toNat]! =l[i]! :=by rw[show ((i:Nat):Int).toNat=i by omega]
  have htk:l.take (i+1)=l.take i++[l[i]!]:=by rw[yx,cC hi,bI l i hi];rfl
  obtain⟨h1,h2⟩:=h i hi
  rw[cu _ _,aC,gj,R_Of (by omega) (by omega),ab,aC (by simp;omega),ee (by omega) (by omega),htk]
  simp only[gK,jK,mZ]
  rfl
 ·unfold lw
  dsimp only
  rw[ce _ _,gJ (az _)]
def fr(a b:Int):Nu:=nuR (some (Rat.divInt a b))
theorem Fu {a b:Int}(ha:-1000≤a∧a≤1000)(hb:-1000≤b∧b≤1000):gq a b=some ([fr a 5,fr b 5].map nv):=by
 have hL:∀n:Int,-1000≤n∧n≤1000→n.natAbs<LIM:=fun n hn=>bJ (show n.natAbs<18446744073709551616 by omega) (by decide)
 have hf:∀n:Int,-1000≤n∧n≤1000→mD n 5=some (nv (fr n 5)):=fun n hn=>by
  unfold mD
  rw[ri (by omega) (by omega),ab,ri (by omega) (by omega),ab,U8 (hL n hn) (by decide) (by decide),ab]
  rfl
 unfold gq
 rw[hf a ha,hf b hb]
 rfl
def Ot(l:List Nu):Bool:=decide (l.length≤1000)
def Sj(a:Ans):Bool:=Ot a.x&&(Ot a.y&&Ot a.ray)
theorem t3 {a:Ans}(h:Sj a=true):Fy a:=by
 unfold Sj Ot at h
 simp only[cm,r8] at h
 exact⟨by omega,by omega,by omega⟩
def e1B:Bool:=rH 2 2 ([1,2,3,1].map nOf) ([4,6].map nOf) ([1,1].map nOf) 100 |> fun r=>decide (r.1=⟨1,[fr 8 5,fr 6 5],[fr 2 5,fr 1 5],[]⟩)&&(decide (r.2.2=0)&&decide (uV 2 2 ([1,2,3,1].map nOf) ([4,6].map nOf) ([1,1].map nOf) r.1=0))
def e2B:Bool:=rH 1 1 ([1].map nOf) ([-1].map nOf) ([0].map nOf) 100 |> fun r=>decide (r.1=⟨2,[],[1].map nOf,[]⟩)&&(decide (r.2.2=0)&&decide (uV 1 1 ([1].map nOf) ([-1].map nOf) ([0].map nOf) r.1=0))
def e3B:Bool:=rH 1 2 ([-1,1].map nOf) ([1].map nOf) ([1,0].map nOf) 100 |> fun r=>decide (r.1=⟨3,[0,0].map nOf,[],[1,0].map nOf⟩)&&(decide (r.2.2=0)&&decide (uV 1 2 ([-1,1].map nOf) ([1].map nOf) ([1,0].map nOf) r.1=0))
def e4B:Bool:=rH 1 1 ([-1].map nOf) ([-2].map nOf) ([-1].map nOf) 100 |> fun r=>decide (r.1=⟨1,[2].map nOf,[1].map nOf,[]⟩)&&(decide (r.2.2=0)&&decide (uV 1 1 ([-1].map nOf) ([-2].map nOf) ([-1].map nOf) r.1=0))
def e5B:Bool:=II 2 2 ([1,1,1,-1].map nOf) ([1,3].map nOf) 100 |> fun r=>Sj r.1&&(decide (r.2.2=0)&&(decide (r.1.kind=2)&&decide (EL 2 2 ([1,1,1,-1].map nOf) ([1,3].map nOf) r.1=0)))
def e6B:Bool:=decide (uV 2 2 ([1,2,3,1].map nOf) ([4,6].map nOf) ([1,1].map nOf) ⟨1,[fr 8 5,fr 6 5],[fr 2 5,fr 2 5],[]⟩=250)
end
end Go.Proofs.YtaedcknhkjpmlaaGreat
