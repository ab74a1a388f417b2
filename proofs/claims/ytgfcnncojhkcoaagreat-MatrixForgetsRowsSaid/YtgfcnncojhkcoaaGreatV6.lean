/-
  Lemmas, part 6. Conditions: none.
-/
import Derived.Test.YtgfcnncojhkcoaaGreatV5
set_option linter.all false
set_option maxRecDepth 100000
set_option maxHeartbeats 4000000
namespace Go.Proofs.YtgfcnncojhkcoaaGreat
open Go.RowKit Go.IntKind Tryz
noncomputable section
section
def restC:Code:=match (f63).body with
 |some (.seq _ (.seq _ c))=>c
 |_=>.skip
theorem RS.wk {x:Cx}{tm tm':List (Nat×D)}{hp hp':Hp}{a:Act}{w:World}(hr:RS x tm hp a w)(hw:Wk x tm hp tm' hp'):RS x tm' hp' a w:=hw a w hr
theorem redJ_up {kM k4 R C:Nat}{acc:List Pv}{vs mJ:List (Nat×List D)}{lv:List (Nat×Nat×Nat×TypeId)}{N N':Nat}(hM:kM=3∨kM=4)(h4:k4=3∨k4=4)(lK:k4≠kM)(h:redJ kM k4 R C acc ⟨vs,lv,N⟩)(hN:N≤N')(hv:∀j ds,j≠kM→j<6→vs.lookup j=some ds→mJ.lookup j=some ds):redJ kM k4 R C acc ⟨mJ,lv,N'⟩:=by
 obtain⟨h0,h1,h2,d,h3,h5⟩:=h
 refine⟨cG h0 hN,hv _ _ (by omega) (by omega) h1,hv _ _ (by omega) (by omega) h2,d,hv _ _ lK (by omega) h3,?_⟩
 rcases h5 with h5|⟨tk,a,b,c⟩
 ·exact .inl h5
 ·exact .inr ⟨tk,bG a hN,b,c⟩
theorem kt {R C:Nat}:∀{n k r:Nat} {V:List Nu} {acc:List Pv} {W:List Nu} {l:List Pv},V.length=R*C→jl R C n k r V acc=some (W,l)→W.length=R*C
 |0,_,_,_,_,_,_,hV,h=>by
  unfold jl at h
  injection h with h
  injection h with h1 h2
  rw[←h1];exact hV
 |n+1,k,r,V,acc,W,l,hV,h=>by
  unfold jl at h
  split at h
  ·split at h
   ·exact kt hV h
   ·split at h
    ·exact kt (by rw[tI];exact hV) h
    ·cases h
  ·injection h with h
   injection h with h1 h2
   rw[←h1];exact hV
section
variable {R C kM k4:Nat} {V:List Nu} {x:Cx} {vs:List (Nat×List D)}
theorem yi(hM:kM=3∨kM=4)(h4:k4=3∨k4=4)(lK:k4≠kM)(hN:x.N=(f63).ntmps)(h0:x.hp0=⟨[],[],0⟩)(qI:x.df=[])(hB:x.B≤x.w0.heap.size)(hok:eM ⟨vs,[],5⟩)
  (hV:V.length=R*C) (JK:R*C≤1000000) (hR:R≤1000000) (hC:C≤1000000)
  (yU:vs.lookup 1=some [dI .i64 0,dI .i64 0,dN,dN]) (vo:vs.lookup 2=some [dI .i64 0]) (hl4:vs.lookup k4=some (kz kM R C++[dN])) (hlM:0<R→0<C→vs.lookup kM=some (dC ((cW aX).f V)))
  (ut:∀k ds,vs.lookup k=some ds→ds.all D.noO=true):
  AV prog none x restC [(2,.pt 1 0),(3,.pt 2 0),(4,.pt k4 0)] ⟨vs,[],5⟩ (Lw x fun _ tm bF=>∃d,vg tbl [.cell 2 97,.cell 3 26] tm bF d∧AR bF d (.tu (redE R C (jl R C C 0 0 V [])))):=by
 have hkM6:kM<5:=by omega
 have hk46:k4<5:=by omega
 refine AV.seq ?_
 refine vrs hN fun K hK=>?_
 refine sa ?_
 refine p1 red_m rfl ?_
 refine q1s (d:=.fn 137 [5]) (hp':=⟨(5,kz kM R C)::vs,[],6⟩) (KO rfl (h_steps (kM:=kM) (R:=R) (C:=C) hkM6) rfl) ?_
 refine .nil (hK _ _ (AV.block ?_))
 have hl5:∀j ds,vs.lookup j=some ds→((5,kz kM R C)::vs).lookup j=some ds:=fun j ds h=>al (hok.ne h (aI _)) h
 refine AV.range (f:=137) (ks:=[5]) rfl ⟨_,func137,rfl,rfl⟩ hB
  (MQ (kM:=kM) (k0:=5) (k4:=k4) (E:=6) (R:=R) (C:=C) (V0:=V) (J:=redJ kM k4 R C) (S:=redS) (by omega) (by omega) (by omega) lK (by omega) (by omega) hV JK hR hC (fun h1 h2=>hl5 _ _ (hlM h1 h2)) ai (fun k ds h=>?_) (by rw[hN];exact cg rfl) ?_ ?_ ?_) ?_ ?_
 ·rcases dJ h with⟨rfl,rfl⟩|⟨_,h⟩
  ·unfold kz gy;split <;> rfl
  ·exact ut k ds h
 ·exact⟨aI _,hl5 _ _ yU,hl5 _ _ vo,dN,hl5 _ _ hl4,.inl ⟨rfl,rfl⟩⟩
 ·exact fun acc vs mJ lv N N' h hN _ hv=>redJ_up hM h4 lK h hN hv
 ·rintro V' acc pv ⟨v1',lv,N⟩ Ha yY hV' hokp M3 ⟨hN6,hj1,Ai,d,hj4,hpo⟩ l y hy _ hy0
  dsimp only at hN6 hj1 Ai hj4 M3
  have hk4N:k4<N:=by omega
  have hmD:gy kM (R*C)=.ow kM 0 36 (R*C):=aq (Nat.ne_of_gt (rf Ha (by omega)))
  refine vrr (hy.trans hN) (fun K hK=>?_)
  refine a1 iI (hz:=rfl) ?_
  refine v1 (k:=N) (ys:=pvD pv) (F2:=pvD pv) Pt.all (by exact rfl) (by exact zf pv) rfl ?_ rfl ai rfl (ht:=iI)
  have hokN:eM ⟨(N,pvD pv)::v1',lv,N+1⟩:=(hokp.up (M:=N+1) (dx _)).consM (cl _) (by unfold pvD;rw[rU,rU,nI];rfl)
  refine .nil (hK _ _ fun a w hr=>⟨rfl,[(2,.pt 1 0),(3,.pt 2 0),(4,.pt k4 0),(5,.pt N 0)],⟨(N,pvD pv)::v1',lv,N+1⟩,RS.wk hr (wk1 hy0 (hok:=hokN) (hv:=fun j ds h=>by
   rcases dJ h with⟨rfl,rfl⟩|⟨hj,h⟩
   ·exact ai
   ·exact al hj (al hj h))),fun y2 z9 _ h0y=>?_⟩)
  have z9:=z9.trans hN
  refine AV.block ?_
  refine AV.seq ?_
  refine vrrs z9 fun K hK=>?_
  iterate 2 refine sa ?_
  refine c1 red_D ?_ (hv:=al (by omega) hj4)
  have JH:=HC.frz (hp:=⟨(N,pvD pv)::v1',lv,N+1⟩) (ds:=[gy kM (R*C)]) (w_mgood (l:=V') (by rw[hV'];exact JK)) ⟨by rw[hmD];exact AR.list (al (by omega) M3) hV',trivial⟩ rfl
  refine q1s (KO rfl JH rfl) ?_
  refine sa ?_
  refine .nil (hK _ _ (AV.cond rfl (fun hb=>?_) (fun hb=>?_)))
  ·have hbad:V'.all aT=false:=by simpa using hb
   refine vrrs z9 fun K hK=>?_
   refine s1 (d:=.ag [dI .i64 0,dI .i64 0,dN,dN]) (ez (ps:=[]) jy) ?_
   refine v1 (k:=1) (F:=[dI .i64 0,dI .i64 0,dN,dN]) (ys:=[dI .i64 0,dI .i64 0,dN,dN]) Pt.all (by exact rfl) (by exact rfl) rfl ?_ rfl (al (by omega) hj1) rfl (ht:=jy)
   refine v1 (k:=2) (F:=[dI .i64 0]) (ys:=[dI .i64 30]) (Pt.one _) rfl rfl rfl ?_ rfl (al (by omega) (al (by omega) Ai)) rfl
   refine .nil (hK _ _ (AV.ret fun a w hr=>⟨_,_,hr,hbad,by show 6≤N+1;omega,al (by omega) ai,ai⟩))
  ·have hgood:V'.all aT=true:=by simpa using hb
   have key:∃sD BF N2 tk,(∀tm,Wk y2 tm ⟨(N,pvD pv)::v1',lv,N+1⟩ tm ⟨sD,BF,N2⟩)∧eM ⟨sD,BF,N2⟩∧N+1≤N2∧tk<N2∧sD.lookup k4=some (kz kM R C++[dO tk uX acc])∧BF.lookup tk=some (acc.length,38,102)∧∀j ds,j≠k4→((N,pvD pv)::v1').lookup j=some ds→sD.lookup j=some ds:=by
    rcases hpo with⟨rfl,rfl⟩|⟨tk,M6,rfl,Ny⟩
    ·refine⟨_,_,_,N+1,fun tm=>Wk.nilOwn k4 3 102 38 (hk:=al (by omega) hj4) (hj:=rfl) (hd:=rfl),?_,dx _,cl _,ai,ai,fun j ds hj h=>al hj h⟩
     have h1:=hokN.up (M:=N+1+1) (dx _)
     refine⟨fun j es hj=>?_,fun id e hi=>?_⟩
     ·rcases dJ hj with⟨e1,rfl⟩|⟨_,hj⟩
      ·refine⟨by rw[e1];show k4<N+1+1;omega,?_⟩
       unfold kz gy
       split <;> simp[D.idsC,dI] <;> omega
      ·exact h1.var j es hj
     ·by_cases e1:id=N+1
      ·rw[e1];show N+1<N+1+1;omega
      ·exact h1.tok id e (by rw[←hi];exact (au e1).symm)
    ·exact⟨_,_,_,tk,fun tm=>Wk.refl _ _ _,hokN,aI _,nS M6,al (by omega) hj4,Ny,fun j ds hj h=>h⟩
   obtain⟨sD,BF,N2,tk,hw,xt,hN2,M6,hd4,Ny,hkp⟩:=key
   refine AV.skip fun a w hr=>?_
   show Code.wpIn (FWd (some l)) 0 prog _ _ a w
   refine (AV.weak (hw _) ?_:AV prog (some l) y2 _ _ ⟨(N,pvD pv)::v1',lv,N+1⟩ _) a w hr
   refine vrr z9 (fun K hK=>?_)
   refine sa ?_
   refine c1 red_l ?_ (hv:=hd4)
   refine p1 (Pt.all (F:=pvD pv)) (zf pv) ?_ (hv:=hkp _ _ (by omega) ai)
   rw[pvD_c]
   refine s1 (d:=dO N2 uX [pv]) (hp':=⟨sD,(N2,1,38,102)::BF,N2+1⟩) (pX ([pv]:List Pv) uX ss iI) ?_
   have K8:(acc++[pv]).length≤1000000:=by rw[eH];show acc.length+1≤1000000;omega
   refine s1 (d:=dO tk uX (acc++[pv])) (hp':=⟨sD,(tk,(acc++[pv]).length,38,102)::(N2,1,38,102)::BF,N2+1⟩) (j4 (l:=acc) (l':=[pv]) (c:=uX) (id:=tk) ss iI (cG (cc _ K8) (by decide)) (hl:=(au (by omega)).trans Ny)) ?_
   refine sa ?_
   refine v1 (k:=k4) (F:=kz kM R C++[dO tk uX acc]) (ys:=[dO tk uX (acc++[pv])]) (F2:=kz kM R C++[dO tk uX (acc++[pv])]) red_l rfl rfl rfl ?_ rfl hd4 rfl
   refine .nil (hK _ _ fun a w hr=>⟨_,_,hr,hgood,⟨?_,?_,?_⟩,?_⟩)
   ·have h1:=(xt.up (M:=N2+1) (dx _)).consM (k:=k4) (ds:=kz kM R C++[dO tk uX (acc++[pv])]) (by omega) (by unfold kz gy;split <;> simp[D.idsC,dI,dO] <;> omega)
    refine⟨fun j es hj=>h1.var j es hj,fun id e hi=>?_⟩
    by_cases e1:id=tk
    ·rw[e1];show tk<N2+1;omega
    ·by_cases e2:id=N2
     ·rw[e2];show N2<N2+1;omega
     ·exact h1.tok id e (by rw[←hi];exact ((au e1).trans (au e2)).symm)
   ·show N≤N2+1;omega
   ·intro j ds hj h
    have hj4':j≠k4:=by simpa using hj
    exact al hj4' (hkp j ds hj4' (al (hokp.ne h (aI _)) h))
   ·refine⟨by show 6≤N2+1;omega,al (by omega) (hkp _ _ (by omega) (al (by omega) hj1)),al (by omega) (hkp _ _ (by omega) (al (by omega) Ai)),_,ai,.inr ⟨tk,by show tk<N2+1;omega,rfl,ai⟩⟩
 ·rintro x' Db ⟨v1',lv,N⟩ a w hbh hrs ⟨V',acc,mF,F7,hM',hN6,hj1,Ai,d,hj4,hpo⟩
  dsimp only at hN6 hj1 Ai hj4 hM'
  have hlen:V'.length=R*C:=kt hV mF
  show Code.wpIn (FWd none) 0 prog _ _ a w
  refine (vrs (x:=x') (hbh.N.trans hN) fun K hK=>?_) a w hrs
  refine p1 (Pt.all (F:=kz kM R C++[d])) (by exact rfl) ?_ (hv:=hj4) (ht:=jy)
  refine v1 (k:=1) (F:=[dI .i64 0,dI .i64 0,dN,dN]) (ys:=kz kM R C++[d]) Pt.all (by exact rfl) (by exact rfl) rfl ?_ rfl hj1 rfl (ht:=jy)
  refine v1 (k:=2) (F:=[dI .i64 0]) (ys:=[dI .i64 0]) (Pt.one _) rfl rfl rfl ?_ rfl (al (by omega) Ai) rfl
  refine .nil (hK _ _ (AV.ret fun a w hr=>⟨.inr rfl,x',Db,_,_,_,_,hbh,hr,_,resV jy rfl (al (by omega) ai) (by show 1<N;omega) rfl rfl (Mi rfl Jh rfl ai (by show 2<N;omega) rfl rfl),?_⟩))
  rw[mF]
  refine AR.tu ⟨AR.ag ⟨AR.dn rfl,AR.dn rfl,?_,?_,trivial⟩,AR.dn rfl,trivial⟩
  ·show AR _ (gy kM (R*C)) (.e (slE aX V'))
   unfold gy
   by_cases h0:R*C=0
   ·rw[ao h0]
    have:V'=[]:=jJ (by omega)
    subst this
    exact AR.dn rfl
   ·rw[aq h0]
    have hRp:0<R:=rW fun e=>h0 (by rw[e,e7])
    have hCp:0<C:=rW fun e=>h0 (by rw[e,EA])
    exact AR.list (al (by omega) (al (by omega) (hM' hRp hCp))) hlen
  ·rcases hpo with⟨rfl,rfl⟩|⟨tk,_,rfl,_⟩
   ·exact AR.le (HG (ltb rfl)) rfl
   ·exact AR.own
 ·rintro x' Db ⟨v1',lv,N⟩ a w hbh hrs ⟨mF,hN6,hj1,Ai⟩
  dsimp only at hN6 hj1 Ai
  show Lw x (fun _ tm bF=>∃d,vg tbl [.cell 2 97,.cell 3 26] tm bF d∧AR bF d (.tu (redE R C (jl R C C 0 0 V [])))) .ret a w
  refine⟨.inr rfl,x',Db,_,_,_,_,hbh,hrs,_,resV jy rfl hj1 (by show 1<N;omega) rfl rfl (Mi rfl Jh rfl Ai (by show 2<N;omega) rfl rfl),?_⟩
  rw[mF]
  exact AR.tu ⟨AR.ag ⟨AR.dn rfl,AR.dn rfl,AR.le (HG (ltb rfl)) rfl,AR.le (HG (ltb rfl)) rfl,trivial⟩,AR.dn rfl,trivial⟩
end
end
section
theorem Wk.tms {x:Cx}{tm tm':List (Nat×D)}{hp:Hp}(hs:∀p∈tm',tm.lookup p.1=some p.2):Wk x tm hp tm' hp:=by
 rintro a w ⟨g,hh,gJ,h1⟩
 exact⟨g,hh,fun t d h=>gJ t d (hs _ (uO h)),h1⟩
def AF(V:List Nu)(N:Nat)(vs:List (Nat×List D)):List (Nat×List D):=if V.length=0 then vs else (N,dC ((cW aX).f V))::vs
section
variable {md:Md} {ops:Array Oper} {K:List (Nat×D)→Hp→Prop} {os:List Oper} {tm:List (Nat×D)} {hp hp':Hp} {t s:Tmp} {ty:TypeId} {pos:String} {af:Array Edge} {vs:List (Nat×List D)} {lv:List (Nat×Nat×Nat×TypeId)} {N n R C:Nat} {V:List Nu}
theorem pj {j:Nat}(h:j≠N):(AF V N vs).lookup j=vs.lookup j:=by
 unfold AF
 split
 ·rfl
 ·exact au h
theorem J1(hok:eM ⟨vs,lv,N⟩):eM ⟨AF V N vs,lv,N+1⟩:=by
 unfold AF
 split
 ·exact hok.up (dx N)
 ·exact (hok.up (dx N)).consM (cl N) (nI _)
theorem J2(ut:∀k ds,vs.lookup k=some ds→ds.all D.noO=true):∀k ds,(AF V N vs).lookup k=some ds→ds.all D.noO=true:=by
 intro k ds h
 unfold AF at h
 split at h
 ·exact ut k ds h
 ·rcases dJ h with⟨rfl,rfl⟩|⟨_,h⟩
  ·rw[b7]
   intro d hd
   obtain⟨e,_,rfl⟩:=mm.1 hd
   rfl
  ·exact ut k ds h
theorem Mh {x:Operand}{ts:Array TypeId}(hl:V.length≤1000000)(hn:V.length=n)(h2:bt prog tbl md ops K os ((t,gy N n)::tm) ⟨AF V N vs,lv,N+1⟩)(hx:evD tm x=.e (slE aX V):=by exact rfl)(nJ:md.nc tbl (.call ⟨.value (.func 97),[x].toArray,ts⟩)=true:=by exact rfl):
  bt prog tbl md ops K (⟨some t,.call ⟨.value (.func 97),[x].toArray,ts⟩,ty,pos,af,none⟩::os) tm ⟨vs,lv,N⟩:=by
 subst hn
 refine Ft rfl (sHC (NO (vs:=vs) (lv:=lv) (N:=N) hl) (by show [evD tm x]=_;rw[hx]) (.inr ⟨dx _,fun j hj=>?_⟩) rfl nJ) h2
 exact pj (V:=V) (Nat.ne_of_lt hj)
end
section
variable {R C:Nat} {V:List Nu}
theorem LT(hV:V.length=R*C)(JK:R*C≤1000000)(hR:R≤1000000)(hC:C≤1000000):aB prog 63 [.ag [dI .i64 R,dI .i64 C,.e (slE aX V)]] (.tu (redE R C (jl R C C 0 0 V []))):=by
 refine aB.ofMA tok func63 rfl rfl (cg rfl) rfl (fun x hN h0 qI hB=>?_)
 simp only[eZ,Nat.reduceAdd,bE]
 obtain⟨V0,D5⟩:∃V0:List (Nat×List D),V0=[(2,[dI .i64 0]),(1,[dI .i64 0,dI .i64 0,dN,dN]),(0,[dI .i64 R,dI .i64 C,.e (slE aX V)])]:=⟨_,rfl⟩
 refine vrs hN fun K hK=>?_
 refine s1 (d:=.pt 0 0) (hp':=⟨[(0,[dI .i64 R,dI .i64 C,.e (slE aX V)])],[],1⟩) ka ?_
 refine a1 jy (hz:=rfl) ?_
 refine a1 Jh (hz:=rfl) ?_
 refine .nil (hK _ _ ?_)
 have hok0:eM ⟨V0,[],3⟩:=by
  rw[D5]
  exact (((eM.nil.up (M:=3) (de _)).consM (by decide) rfl).consM (by decide) rfl).consM (by decide) rfl
 have hno0:∀k ds,V0.lookup k=some ds→ds.all D.noO=true:=by
  intro k ds h
  rw[D5] at h
  rcases dJ h with⟨_,rfl⟩|⟨_,h⟩
  ·rfl
  ·rcases dJ h with⟨_,rfl⟩|⟨_,h⟩
   ·rfl
   ·rcases dJ h with⟨_,rfl⟩|⟨_,h⟩
    ·rfl
    ·cases h
 have l1:V0.lookup 1=some [dI .i64 0,dI .i64 0,dN,dN]:=by rw[D5];rfl
 have l2:V0.lookup 2=some [dI .i64 0]:=by rw[D5];rfl
 have l0:V0.lookup 0=some [dI .i64 R,dI .i64 C,.e (slE aX V)]:=by rw[D5];rfl
 have hVl:V.length≤1000000:=by omega
 have FM:∀{kM M:Nat},kM<M→(kz kM R C++[dN]).all (D.idsC M)=true:=fun {kM M} h=>by
  unfold kz gy;split <;> simp[D.idsC,dI] <;> omega
 have Jy:∀{kM:Nat},(kz kM R C++[dN]).all D.noO=true:=fun {kM}=>by
  unfold kz gy;split <;> rfl
 have hMl:∀N,0<R→0<C→(AF V N V0).lookup N=some (dC ((cW aX).f V)):=fun N h1 h2=>by
  have:0<R*C:=rf h1 h2
  unfold AF
  rw[ifn_]
  exact ai
 have hcM:∀k,(gy k (R*C)).cells=some [gy k (R*C)]:=fun k=>by unfold gy;split <;> rfl
 have hpt:∀k,jo [(0,dI .i64 R),(1,dI .i64 C),(2,gy k (R*C))]=some [(0,[dI .i64 R]),(1,[dI .i64 C]),(2,[gy k (R*C)])]:=fun k=>by
  simp only[jo,hcM]
  rfl
 show AV prog none x _ [(3,.pt 2 0),(2,.pt 1 0),(1,.pt 0 0),(0,.ag [dI .i64 R,dI .i64 C,.e (slE aX V)])] ⟨[(2,[dI .i64 0]),(1,[dI .i64 0,dI .i64 0,dN,dN]),(0,[dI .i64 R,dI .i64 C,.e (slE aX V)])],[],3⟩ _
 rw[←D5]
 refine AV.seqA (dw (DW.split 6 9 (by decide) ?_ ?_))
 ·refine dwg [] [0,1,2,3,4,5,6,7,8,9,10] hN (by kernel_rfl) (by kernel_rfl) (by kernel_rfl) fun K hK=>?_
  dsimp only[dq,lg,lx,List.map]
  refine sa ?_
  refine c1 MF ?_ (hv:=l0)
  refine sa ?_
  refine c1 MH ?_ (hv:=l0)
  refine sa ?_
  refine c1 MG ?_ (hv:=l0)
  refine Mh hVl hV ?_
  refine s1 (d:=.ag [dI .i64 R,dI .i64 C,gy 3 (R*C)]) (ez (qs:=[(0,[dI .i64 R]),(1,[dI .i64 C]),(2,[gy 3 (R*C)])]) aG (hp1:=hpt 3)) ?_
  refine s1 (d:=.ag [dI .i64 R,dI .i64 C,gy 3 (R*C),dN]) (ez jy) ?_
  refine a1 jy (hz:=rfl) ?_
  refine v1 (k:=4) (F:=[dI .i64 0,dI .i64 0,dN,dN]) (ys:=kz 3 R C++[dN]) Pt.all (by exact rfl) (by exact rfl) rfl ?_ rfl ai rfl (ht:=jy)
  refine .nil (hK _ _ ?_)
  have h1:=(J1 (V:=V) hok0).up (M:=5) (by decide)
  refine AV.weak (Wk.tms ?_) (yi (kM:=3) (k4:=4) (.inl rfl) (.inr rfl) (by decide) hN h0 qI hB ((h1.consM (k:=4) (ds:=[dI .i64 0,dI .i64 0,dN,dN]) (by decide) rfl).consM (k:=4) (by decide) (FM (by decide))) hV JK hR hC (al (by decide) (al (by decide) ((pj (by decide)).trans l1))) (al (by decide) (al (by decide) ((pj (by decide)).trans l2))) ai (fun a b=>al (by decide) (al (by decide) (hMl 3 a b))) (fun k ds h=>?_))
  ·intro p hp
   simp only[jI,va,or_false] at hp
   rcases hp with rfl|rfl|rfl <;> rfl
  ·rcases dJ h with⟨_,rfl⟩|⟨_,h⟩
   ·exact Jy
   ·rcases dJ h with⟨_,rfl⟩|⟨_,h⟩
    ·rfl
    ·exact J2 hno0 k ds h
 ·refine dwg [] [0,1,2,3,4,5,9,6,7,8,10] hN (by kernel_rfl) (by kernel_rfl) (by kernel_rfl) fun K hK=>?_
  dsimp only[dq,lg,lx,List.map]
  refine sa ?_
  refine c1 MF ?_ (hv:=l0)
  refine sa ?_
  refine c1 MH ?_ (hv:=l0)
  refine sa ?_
  refine c1 MG ?_ (hv:=l0)
  refine a1 jy (hz:=rfl) ?_
  refine Mh hVl hV ?_
  refine s1 (d:=.ag [dI .i64 R,dI .i64 C,gy 4 (R*C)]) (ez (qs:=[(0,[dI .i64 R]),(1,[dI .i64 C]),(2,[gy 4 (R*C)])]) aG (hp1:=hpt 4)) ?_
  refine s1 (d:=.ag [dI .i64 R,dI .i64 C,gy 4 (R*C),dN]) (ez jy) ?_
  have l3:(AF V 4 ((3,[dI .i64 0,dI .i64 0,dN,dN])::V0)).lookup 3=some [dI .i64 0,dI .i64 0,dN,dN]:=(pj (by decide)).trans ai
  refine v1 (k:=3) (F:=[dI .i64 0,dI .i64 0,dN,dN]) (ys:=kz 4 R C++[dN]) Pt.all (by exact rfl) (by exact rfl) rfl ?_ rfl l3 rfl (ht:=jy)
  refine .nil (hK _ _ ?_)
  have h1:=J1 (V:=V) ((hok0.up (M:=4) (by decide)).consM (k:=3) (ds:=[dI .i64 0,dI .i64 0,dN,dN]) (by decide) rfl)
  refine AV.weak (Wk.tms ?_) (yi (kM:=4) (k4:=3) (.inr rfl) (.inl rfl) (by decide) hN h0 qI hB (h1.consM (k:=3) (by decide) (FM (by decide))) hV JK hR hC (al (by decide) ((pj (by decide)).trans (al (by decide) l1))) (al (by decide) ((pj (by decide)).trans (al (by decide) l2))) ai (fun a b=>al (by decide) ?_) (fun k ds h=>?_))
  ·intro p hp
   simp only[jI,va,or_false] at hp
   rcases hp with rfl|rfl|rfl <;> rfl
  ·have:0<R*C:=rf a b
   unfold AF
   rw[ifn_]
   exact ai
  ·rcases dJ h with⟨_,rfl⟩|⟨_,h⟩
   ·exact Jy
   ·refine J2 (fun k ds h=>?_) k ds h
    rcases dJ h with⟨_,rfl⟩|⟨_,h⟩
    ·rfl
    ·exact hno0 k ds h
end
end
section
def pvS(p:Pv):l8:=⟨p.col,nv p.by',p.mov⟩
theorem slE_Pv(l:List Pv):slE uX l=slE bL (l.map pvS):=by
 unfold slE
 rw[bS,IK]
 rfl
def yj(R C:Int)(o:Option (List Nu×List Pv)):c5×Int:=match o with
 |some (U,acc)=>(⟨⟨R,C,U.map nv⟩,acc.map pvS⟩,0)
 |none=>(⟨⟨0,0,[]⟩,[]⟩,30)
structure MatP(m:aE):Prop where
 r0:0≤m.vR
 c0:0≤m.vC
 r1:m.vR≤1000000
 c1:m.vC≤1000000
 rc:m.vR.toNat*m.vC.toNat≤1000000
 len:m.vV.length=m.vR.toNat*m.vC.toNat
 ok:okL m.vV
open Classical in
def ee(m:aE):Option (c5×Int):=
 if MatP m then some (yj m.vR m.vC (jl m.vR.toNat m.vC.toNat m.vC.toNat 0 0 (m.vV.map sY) [])) else none
theorem l5 {eJ:aE}{r:c5×Int}(h:ee eJ=some r):aB prog 63 [dG a9 eJ] (.tu [dG pk r.1,dI .i64 r.2]):=by
 unfold ee at h
 split at h
 ·rename_i hp
  obtain rfl:=eG h
  obtain⟨h1,h2,h3,h4,h5,h6,h7⟩:=hp
  have hV:(eJ.vV.map sY).length=eJ.vR.toNat*eJ.vC.toNat:=by rw[bS];exact h6
  have hw:=LT hV h5 (by omega) (by omega)
  have e1:(.ag [dI .i64 (eJ.vR.toNat:Int),dI .i64 (eJ.vC.toNat:Int),.e (slE aX (eJ.vV.map sY))]:D)=dG a9 eJ:=by
   rw[Hk,FN h7,AQ h1,AQ h2]
   rfl
  rw[e1] at hw
  have e2:∀o:Option (List Nu×List Pv),redE eJ.vR.toNat eJ.vC.toNat o=[dG pk (yj eJ.vR eJ.vC o).1,dI .i64 (yj eJ.vR eJ.vC o).2]:=by
   intro o
   match o with
   |some (U,acc)=>
    show [D.ag [dI .i64 (eJ.vR.toNat:Int),dI .i64 (eJ.vC.toNat:Int),.e (slE aX U),.e (slE uX acc)],dI .i64 0]=_
    rw[Hk,slE_Pv,AQ h1,AQ h2]
    rfl
   |none=>rfl
  rw[e2] at hw
  exact hw
 ·cases h
open Classical in
def fX(l:List ak)(n:Int):Option (List ak):=match l with
 |[a]=>if okR a∧0≤n∧n≤1000000 then some (List.replicate n.toNat a) else none
 |_=>none
theorem t5 {l r:List ak}{n:Int}(h:fX l n=some r):HC prog 77 [dL aj l,dI .i64 n] ⟨[],[],0⟩ (.ow 1 0 36 r.length) ⟨[(1,dC ((cW aj).f r))],[],1+1⟩:=by
 unfold fX at h
 split at h
 ·rename_i a
  split at h
  ·rename_i hp
   obtain rfl:=eG h
   obtain⟨h1,h2,h3⟩:=hp
   have hw:=NP (vs:=[]) (lv:=[]) (N:=0) (a:=sY a) (n:=n.toNat) (by omega)
   have e1:slE aX [sY a]=slE aj [a]:=by rw[Hk];show slE aj [nv (sY a)]=_;rw[DF h1]
   have e2:(cW aX).f (List.replicate n.toNat (sY a))=(cW aj).f (List.replicate n.toNat a):=by
    show (List.replicate n.toNat (sY a)).flatMap aX.f=(List.replicate n.toNat a).flatMap aj.f
    rw[show aX.f=fun x=>aj.f (nv x) from rfl]
    rw[←IK,En,DF h1]
   rw[e1,e2,AQ h2] at hw
   rw[qB]
   exact hw
  ·cases h
 ·cases h
end
section
theorem uAdd(x y:Nu):fF (nv x) (nv y)=some (nv (DH x y)):=by rw[vS];exact Pd x.2 y.2
theorem uMul(x y:Nu):et (nv x) (nv y)=some (nv (qv x y)):=by rw[vQ];exact I2 x.2 y.2
theorem uNeg(x:Nu):ij (nv x)=some (nv (DG x)):=by rw[vP];exact Pc x.2
theorem uGood(x:Nu):bV (nv x)=some (aT x):=by rw[e9];exact kb x.2
theorem uSign(x:Nu):kY (nv x)=some (kw x):=by rw[xa];exact Pb x.2
theorem uOf {n:Int}(h1:-9223372036854775808≤n:=by omega)(h2:n≤9223372036854775807:=by omega):ek n=some (nv (nOf n)):=G_rOf h1 h2
theorem tGood(x:Nu):kU (nv x)=some (aT x):=by rw[e9];exact R_Good x.2
theorem CE {l:List Nu}{i:Nat}(h:i<l.length:=by omega):(l.map nv)[i]! =nv l[i]! :=by
 rw[pR,pR,cF,eg h];rfl
theorem nv_eq {x y:Nu}:nv x=nv y↔x=y:=⟨fun h=>Subtype.ext h,fun h=>by rw[h]⟩
section
variable {R:Type}
theorem kOr(b x:Bool):cnd b (some true) (some x)=some (b||x):=by cases b <;> rfl
theorem kF(x y:Option R):cnd false x y=y:=rfl
theorem kT(x y:Option R):cnd true x y=x:=rfl
theorem w64 {n:Int}(h1:-9223372036854775808≤n:=by omega)(h2:n≤9223372036854775807:=by omega):i64.wrap n=n:=Kx ⟨h1,h2⟩
theorem DJ {n:Nat}(hn:n≤1000000)(ok:Nat→Bool){b:Int→Option (Int⊕(Bool⊕Unit))}(h:∀i:Nat,i<n→b i=cnd (!ok i) (some (.inr (.inl false))) (some (.inl (i64.wrap ((i:Int)+(1:Int))))))(he:b n=some (.inr (.inr ()))):
  a7 b (0:Int)=some (if (List.range n).all ok then .inr () else .inl false):=by
 have key:∀m i:Nat,i+m=n→a7 b (i:Int)=some (if (List.range' i m).all ok then .inr () else .inl false):=by
  intro m
  induction m with
  |zero=>
       intro i hi;obtain rfl:i=n:=by omega
       exact fa he
  |succ m ih=>
   intro i hi
   have hb:=h i (by omega)
   rw[rT,js]
   cases hk:ok i with
   |false=>
    rw[hk] at hb
    rw[fa (by rw[hb];rfl)];rfl
   |true=>
    rw[hk,w64] at hb
    rw[jN (by rw[hb];rfl)]
    exact ih (i+1) (by omega)
 rw[show ((0:Int))=((0:Nat):Int) from rfl,key n 0 (by omega),xN]
theorem zm {n:Nat}(hn:n≤1000000)(ok:Nat→Bool){b:Int→Option (Int⊕(Int⊕Unit))}(h:∀i:Nat,i<n→b i=cnd (ok i) (some (.inr (.inl (i:Int)))) (some (.inl (i64.wrap ((i:Int)+(1:Int))))))(he:b n=some (.inr (.inr ()))):
  (a7 b (0:Int)=some (.inr ())∧(List.range n).any ok=false)∨∃j:Nat,a7 b (0:Int)=some (.inl (j:Int))∧(List.range n).any ok=true:=by
 have key:∀m i:Nat,i+m=n→(a7 b (i:Int)=some (.inr ())∧(List.range' i m).any ok=false)∨∃j:Nat,a7 b (i:Int)=some (.inl (j:Int))∧(List.range' i m).any ok=true:=by
  intro m
  induction m with
  |zero=>
       intro i hi;obtain rfl:i=n:=by omega
       exact .inl ⟨fa he,rfl⟩
  |succ m ih=>
   intro i hi
   have hb:=h i (by omega)
   rw[rT,List.any_cons]
   cases hk:ok i with
   |true=>
    rw[hk] at hb
    exact .inr ⟨i,fa (by rw[hb];rfl),rfl⟩
   |false=>
    rw[hk,w64] at hb
    rw[jN (show b (i:Int)=some (.inl (((i+1:Nat):Int))) by rw[hb];rfl)]
    exact ih (i+1) (by omega)
 rw[xN]
 exact key n 0 (by omega)
end
theorem Kb {α:Type}[Inhabited α](l:List α)(p:α→Bool):(List.range l.length).all (fun i=>p l[i]!)=l.all p:=by
 rw[CZ,b7,b7]
 constructor
 ·intro h x hx
  obtain⟨i,hi,rfl⟩:=List.getElem_of_mem hx
  have:=h i (AP.2 hi)
  rwa[pR,eg hi] at this
 ·intro h i hi
  have hi:=AP.1 hi
  rw[pR,eg hi]
  exact h _ (u6 hi)
theorem Ka {α:Type}[Inhabited α](l:List α)(p:α→Bool):(List.range l.length).any (fun i=>p l[i]!)=l.any p:=by
 have:=Kb l (fun x=>!p x)
 rw[←Bool.not_inj_iff,←Iq,←Iq] at this
 simpa using this
theorem tL {C:Nat}(hC:C≤1000000){b:Int×List ak→Option ((Int×List ak)⊕List ak)}(f:Nat→Nu)(acc:List Nu)(hl:acc.length+C≤1000000)
  (h:∀k:Nat,k<C→∀l:List ak,b ((k:Int),l)=gd ((l++[nv (f k)]).length*136≤140737488355328) (some (.inl (i64.wrap ((k:Int)+(1:Int)),l++[nv (f k)]))))
  (he:∀l,b ((C:Int),l)=some (.inr l)):a7 b ((0:Int),acc.map nv)=some ((acc++(List.range C).map f).map nv):=by
 have:=jA (b:=b) (fun k=>((k:Int),(acc++(List.range k).map f).map nv)) 0 C ((acc++(List.range C).map f).map nv) (de _) (fun k _ hk=>?_) (he _)
 ·simpa using this
 ·rw[h k hk,aF (by simp;omega),w64,qA]
  simp
theorem qU {R C:Nat}(hR:R≤1000000){b:Int×List ak→Option ((Int×List ak)⊕List ak)}(f:Nat→Nat→Nu)(hl:R*C≤1000000)
  (h:∀i:Nat,i<R→∀acc:List Nu,acc.length+C≤1000000→b ((i:Int),acc.map nv)=some (.inl (i64.wrap ((i:Int)+(1:Int)),(acc++(List.range C).map (f i)).map nv)))
  (he:∀l,b ((R:Int),l)=some (.inr l)):a7 b ((0:Int),([]:List ak))=some ((mkM R C f).map nv):=by
 have:=jA (b:=b) (fun i=>((i:Int),(mkM i C f).map nv)) 0 R ((mkM R C f).map nv) (de _) (fun i _ hi=>?_) (he _)
 ·simpa[mkM] using this
 ·have:(i+1)*C≤R*C:=cc _ hi
  rw[h i hi _ (by rw[fy];rw[qk] at this;omega),w64,←zY]
  rfl
end
def l7(bj:ak):Option Bool:=bnd (bV bj) fun x1=>some (!x1)
theorem yK {bj:ak}{r:Bool}(h:l7 bj=some r):aB prog 103 [dG aj bj] (dB r):=by
 refine bJ (rs:=[.tmp 2]) (fun cx hx h0=>?_) func103
 unfold l7 at h
 refine ra hx ?_
 refine rs hx fun K hK=>?_
 refine s1 (d:=dG aj bj) (aD (an.id _ _) ay) ?_
 refine scb h fx fun x1 h=>?_
 iterate 2 refine sa ?_
 refine .nil (hK _ _ (AW.ret ?_))
 cases h
 exact rv1
def bf(nF:List ak):Int→Option (Int⊕(Int⊕Unit)):=fun aV=>cnd (decide (aV<((nF).length:Int))) (gd (0≤aV∧aV<((nF).length:Int)) (bnd (l7 ((nF)[(aV).toNat]!)) fun x4=>cnd x4 (some (.inr (.inl aV))) (some (.inl (i64.wrap (aV+(1:Int))))))) (some (.inr (.inr ())))
def bA(nF:List ak):Option Int:=bnd (a7 (bf nF) (0:Int)) fun y7=>match y7 with| .inl r=>some r| .inr ()=>some (-1:Int)
theorem gO {nF:List ak}{r:Int}(h:bA nF=some r):aB prog 135 [dL aj nF,.e (.lit (.func (.func 103) #[] #[]))] (dI .i64 r):=by
 refine bJ (rs:=[.tmp 4]) (fun cx hx h0=>?_) func135
 unfold bA at h
 refine ra hx ?_
 refine AW.seq (ra hx ?_)
 refine AW.block ?_
 obtain⟨y,hy,h⟩:=ah h
 refine lp (S:=Int) (X:=Int⊕Unit) (fun aV=>[(0,dL aj nF),(1,.e (.lit (.func (.func 103) #[] #[]))),(7,dI .i64 ((nF).length:Int)),(8,dI .i64 aV)]) (fun aV=>⟨[],[],0⟩) (PS (PR [.tmp 4] fun r=>dI .i64 r) (PE cx (.exit 0) (fun ()=>[]) fun ()=>⟨[],[],0⟩)) hy ?_ ?_ ?_
 exact wk h0 [] (wR rfl (wR rfl (wR rfl (wR rfl wTn)))) wVn wLn
 clear hy h
 rintro aV y h
 dsimp only[bf] at h
 refine ra hx ?_
 refine AW.seq (cdh h rfl (fun cQ h=>?_) (fun cQ h=>?_))
 refine AW.skip (AW.seq (AW.block (ra hx ?_)))
 refine rs hx fun K hK=>?_
 iterate 3 refine sa ?_
 obtain⟨mR,h⟩:=az h
 have pH:(aV).toNat<(nF).length:=by omega
 refine s1 (eh mR aJ ay) ?_
 refine s1 (d:=dG aj ((nF)[(aV).toNat]!)) (kN (c:=aj) (l:=nF) (n:=(aV).toNat) (o:=0) ay pH (fm _ _ rfl)) ?_
 refine scb h yK fun x4 h=>?_
 refine .nil (hK _ _ (cdh h rfl (fun ej h=>?_) (fun ej h=>?_)))
 refine ra hx ?_
 refine AW.ret ?_
 cases h
 refine PS.r ⟨by nofun,PS.l (PR.i ?_)⟩
 exact rv1
 refine AW.skip (rb hx ?_)
 cases h
 exact PS.l (pe0 h0 [])
 refine AW.exit ?_
 try dsimp only
 try simp only[bk,reduceIte,Nat.reduceEqDiff,reduceCtorEq]
 cases h
 exact PS.r ⟨by nofun,PS.r (PE.i (wk h0 [] wTn wVn wLn))⟩
 rcases y with r|⟨⟩
 rintro ex tm' hp' ⟨rfl,hw⟩
 cases h
 exact hw
 rintro ex tm' hp' ⟨rfl,hw⟩
 try dsimp only
 try simp only[bk,reduceIte,Nat.reduceEqDiff,reduceCtorEq]
 refine AW.weak hw (ra hx ?_)
 refine AW.ret ?_
 cases h
 exact rv1
def bo(nF:List ak):Option Bool:=bnd (bA nF) fun x1=>some (decide ((0:Int)≤x1))
theorem gt {nF:List ak}{r:Bool}(h:bo nF=some r):aB prog 102 [dL aj nF,.e (.lit (.func (.func 103) #[] #[]))] (dB r):=by
 refine bJ (rs:=[.tmp 4]) (fun cx hx h0=>?_) func102
 unfold bo at h
 refine ra hx ?_
 refine rs hx fun K hK=>?_
 iterate 2 refine sa ?_
 refine scb h gO fun x1 h=>?_
 iterate 2 refine sa ?_
 refine .nil (hK _ _ (AW.ret ?_))
 cases h
 exact rv1
def dA(fV:List ak):Option Bool:=bnd (bo fV) fun x1=>some (!x1)
theorem lM {fV:List ak}{r:Bool}(h:dA fV=some r):aB prog 58 [dL aj fV] (dB r):=by
 refine bJ (rs:=[.tmp 2]) (fun cx hx h0=>?_) func58
 unfold dA at h
 refine ra hx ?_
 refine rs hx fun K hK=>?_
 refine sa ?_
 refine scb h gt fun x1 h=>?_
 iterate 2 refine sa ?_
 refine .nil (hK _ _ (AW.ret ?_))
 cases h
 exact rv1
def dv(eJ:aE):Option Int:=bnd (S:=Bool) (cnd (decide (eJ.vR<(0:Int))) (some (true)) (cnd (decide ((200:Int)<eJ.vR)) (some (true)) (cnd (decide (eJ.vC<(0:Int))) (some (true)) (some (decide ((200:Int)<eJ.vC)))))) fun j3=>cnd j3 (some (2:Int)) (bnd (S:=Bool) (cnd (decide (((eJ.vV).length:Int)≠(i64.wrap (eJ.vR*eJ.vC)))) (some (true)) (bnd (dA eJ.vV) fun x7=>some (!x7))) fun jK=>cnd jK (some (1:Int)) (some (0:Int)))
theorem pp {eJ:aE}{r:Int}(h:dv eJ=some r):aB prog 11 [dG a9 eJ] (dI .i64 r):=by
 refine bJ (rs:=[.tmp 2]) (fun cx hx h0=>?_) func11
 unfold dv at h
 refine rs hx fun K hK=>?_
 refine s1 (d:=.pt 0 0) ka ?_
 refine sa ?_
 refine .nil (hK _ _ (AW.seq (AW.block (AW.seq ?_))))
 obtain⟨j3,hy,h⟩:=ah h
 refine jn ((PE cx .normal (fun j3=>[(1,.pt 0 0),(3,dB j3)]) fun j3=>⟨[(0,[dI .i64 eJ.vR,dI .i64 eJ.vC,dL aj eJ.vV])],[],1⟩) j3) ?_ ?_
 replace h:=hy
 refine rq hx fun K hK=>?_
 refine sa ?_
 refine s1 (aP aR) ?_
 iterate 2 refine sa ?_
 rcases bP (decide (eJ.vR<(0:Int))) with cQ|cQ
 replace h:=ba cQ h
 iterate 3 refine aK rfl rfl cQ ?_
 refine s1 (am cQ) ?_
 refine sa ?_
 iterate 3 refine aK rfl rfl rfl ?_
 refine s1 (am rfl) ?_
 refine sa ?_
 iterate 3 refine aK rfl rfl rfl ?_
 refine s1 (am rfl) ?_
 refine sa ?_
 refine .nil (hK _ _ ?_)
 cases h
 exact pe0 h0 [0]
 replace h:=bb cQ h
 refine ga cQ ?_
 refine g1 cQ (aP aR) ?_
 refine ga cQ ?_
 refine s1 (ax cQ) ?_
 refine sa ?_
 rcases bP (decide ((200:Int)<eJ.vR)) with lL|lL
 replace h:=ba lL h
 iterate 3 refine aK rfl rfl lL ?_
 refine s1 (am lL) ?_
 refine sa ?_
 iterate 3 refine aK rfl rfl rfl ?_
 refine s1 (am rfl) ?_
 refine sa ?_
 refine .nil (hK _ _ ?_)
 cases h
 exact pe0 h0 [0]
 replace h:=bb lL h
 refine ga lL ?_
 refine g1 lL (aP aR) ?_
 refine ga lL ?_
 refine s1 (ax lL) ?_
 refine sa ?_
 rcases bP (decide (eJ.vC<(0:Int))) with bn|bn
 replace h:=ba bn h
 iterate 3 refine aK rfl rfl bn ?_
 refine s1 (am bn) ?_
 refine sa ?_
 refine .nil (hK _ _ ?_)
 cases h
 exact pe0 h0 [0]
 replace h:=bb bn h
 refine ga bn ?_
 refine g1 bn (aP aR) ?_
 refine ga bn ?_
 refine s1 (ax bn) ?_
 refine sa ?_
 refine .nil (hK _ _ ?_)
 cases h
 exact pe0 h0 [0]
 rintro ex tm' hp' ⟨rfl,hw⟩
 refine AW.weak hw (cdh h rfl (fun pI h=>?_) (fun pI h=>?_))
 refine ra hx ?_
 refine AW.ret ?_
 cases h
 exact rv1
 refine AW.seq ?_
 obtain⟨jK,hy,h⟩:=ah h
 refine jn ((PE cx .normal (fun jK=>[(22,dB jK)]) fun jK=>⟨[],[],0⟩) jK) ?_ ?_
 replace h:=hy
 refine rq hx fun K hK=>?_
 refine sa ?_
 refine s1 (aP aJ) ?_
 iterate 2 refine sa ?_
 refine s1 (aP aR) ?_
 refine sa ?_
 refine s1 (aP aR) ?_
 iterate 3 refine sa ?_
 rcases bP (decide (((eJ.vV).length:Int)≠(i64.wrap (eJ.vR*eJ.vC)))) with ej|ej
 replace h:=ba ej h
 iterate 4 refine aK rfl rfl ej ?_
 refine s1 (am ej) ?_
 refine sa ?_
 refine .nil (hK _ _ ?_)
 cases h
 exact pe0 h0 []
 replace h:=bb ej h
 refine ga ej ?_
 refine g1 ej (aP aJ) ?_
 obtain⟨x7,Aa,h⟩:=ah h
 refine g1 ej (c9 rfl (lM Aa) rfl (lA (av _) lAn) (.inl rfl)) ?_
 refine ga ej ?_
 refine s1 (ax ej) ?_
 refine sa ?_
 refine .nil (hK _ _ ?_)
 cases h
 exact pe0 h0 []
 rintro ex tm' hp' ⟨rfl,hw⟩
 refine AW.weak hw (cdh h rfl (fun gz h=>?_) (fun gz h=>?_))
 refine ra hx ?_
 refine AW.ret ?_
 cases h
 exact rv1
 refine AW.skip (ra hx ?_)
 refine AW.ret ?_
 cases h
 exact rv1
def iW(eJ:aE):Option Bool:=bnd (dv eJ) fun x1=>some (decide (x1≠(0:Int)))
theorem wK {eJ:aE}{r:Bool}(h:iW eJ=some r):aB prog 107 [dG a9 eJ] (dB r):=by
 refine bJ (rs:=[.tmp 2]) (fun cx hx h0=>?_) func107
 unfold iW at h
 refine rs hx fun K hK=>?_
 refine s1 (d:=.pt 0 0) ka ?_
 refine sa ?_
 refine .nil (hK _ _ (rs hx fun K hK=>?_))
 refine s1 (d:=dG a9 eJ) (cm aG) ?_
 refine scb h pp fun x1 h=>?_
 iterate 2 refine sa ?_
 refine .nil (hK _ _ (AW.ret ?_))
 cases h
 exact rv1
def aU(nF:List aE):Int→Option (Int⊕(Int⊕Unit)):=fun aV=>cnd (decide (aV<((nF).length:Int))) (gd (0≤aV∧aV<((nF).length:Int)) (bnd (iW ((nF)[(aV).toNat]!)) fun x4=>cnd x4 (some (.inr (.inl aV))) (some (.inl (i64.wrap (aV+(1:Int))))))) (some (.inr (.inr ())))
def bg(nF:List aE):Option Int:=bnd (a7 (aU nF) (0:Int)) fun y7=>match y7 with| .inl r=>some r| .inr ()=>some (-1:Int)
theorem gK {nF:List aE}{r:Int}(h:bg nF=some r):aB prog 136 [dL a9 nF,.e (.lit (.func (.func 107) #[] #[]))] (dI .i64 r):=by
 refine bJ (rs:=[.tmp 4]) (fun cx hx h0=>?_) func136
 unfold bg at h
 refine ra hx ?_
 refine AW.seq (ra hx ?_)
 refine AW.block ?_
 obtain⟨y,hy,h⟩:=ah h
 refine lp (S:=Int) (X:=Int⊕Unit) (fun aV=>[(0,dL a9 nF),(1,.e (.lit (.func (.func 107) #[] #[]))),(7,dI .i64 ((nF).length:Int)),(8,dI .i64 aV)]) (fun aV=>⟨[],[],0⟩) (PS (PR [.tmp 4] fun r=>dI .i64 r) (PE cx (.exit 0) (fun ()=>[]) fun ()=>⟨[],[],0⟩)) hy ?_ ?_ ?_
 exact wk h0 [] (wR rfl (wR rfl (wR rfl (wR rfl wTn)))) wVn wLn
 clear hy h
 rintro aV y h
 dsimp only[aU] at h
 refine ra hx ?_
 refine AW.seq (cdh h rfl (fun cQ h=>?_) (fun cQ h=>?_))
 refine AW.skip (AW.seq (AW.block (ra hx ?_)))
 refine rs hx fun K hK=>?_
 iterate 3 refine sa ?_
 obtain⟨mR,h⟩:=az h
 have pH:(aV).toNat<(nF).length:=by omega
 refine s1 (eh mR sS aG) ?_
 refine s1 (d:=dG a9 ((nF)[(aV).toNat]!)) (kN (c:=a9) (l:=nF) (n:=(aV).toNat) (o:=0) aG pH (fm _ _ rfl)) ?_
 refine scb h wK fun x4 h=>?_
 refine .nil (hK _ _ (cdh h rfl (fun ej h=>?_) (fun ej h=>?_)))
 refine ra hx ?_
 refine AW.ret ?_
 cases h
 refine PS.r ⟨by nofun,PS.l (PR.i ?_)⟩
 exact rv1
 refine AW.skip (rb hx ?_)
 cases h
 exact PS.l (pe0 h0 [])
 refine AW.exit ?_
 try dsimp only
 try simp only[bk,reduceIte,Nat.reduceEqDiff,reduceCtorEq]
 cases h
 exact PS.r ⟨by nofun,PS.r (PE.i (wk h0 [] wTn wVn wLn))⟩
 rcases y with r|⟨⟩
 rintro ex tm' hp' ⟨rfl,hw⟩
 cases h
 exact hw
 rintro ex tm' hp' ⟨rfl,hw⟩
 try dsimp only
 try simp only[bk,reduceIte,Nat.reduceEqDiff,reduceCtorEq]
 refine AW.weak hw (ra hx ?_)
 refine AW.ret ?_
 cases h
 exact rv1
def be(nF:List aE):Option Bool:=bnd (bg nF) fun x1=>some (decide ((0:Int)≤x1))
theorem gc {nF:List aE}{r:Bool}(h:be nF=some r):aB prog 106 [dL a9 nF,.e (.lit (.func (.func 107) #[] #[]))] (dB r):=by
 refine bJ (rs:=[.tmp 4]) (fun cx hx h0=>?_) func106
 unfold be at h
 refine ra hx ?_
 refine rs hx fun K hK=>?_
 iterate 2 refine sa ?_
 refine scb h gK fun x1 h=>?_
 iterate 2 refine sa ?_
 refine .nil (hK _ _ (AW.ret ?_))
 cases h
 exact rv1
def b9(fV:List aE):Option Bool:=bnd (be fV) fun x1=>some (!x1)
theorem iH {fV:List aE}{r:Bool}(h:b9 fV=some r):aB prog 62 [dL a9 fV] (dB r):=by
 refine bJ (rs:=[.tmp 2]) (fun cx hx h0=>?_) func62
 unfold b9 at h
 refine ra hx ?_
 refine rs hx fun K hK=>?_
 refine sa ?_
 refine scb h gc fun x1 h=>?_
 iterate 2 refine sa ?_
 refine .nil (hK _ _ (AW.ret ?_))
 cases h
 exact rv1
def fY(gI:Int)(eK:Int):Option ak:=cnd (decide (gI=eK)) (bnd (ek (1:Int)) fun x2=>some x2) (bnd (ek (0:Int)) fun x4=>some x4)
theorem oF {gI:Int}{eK:Int}{r:ak}(h:fY gI eK=some r):aB prog 95 [dI .i64 gI,dI .i64 eK] (dG aj r):=by
 refine bJ (rs:=[.cell 4 34]) (fun cx hx h0=>?_) func95
 unfold fY at h
 refine rs hx fun K hK=>?_
 refine s1 (bq (F:=aj.f cU) ay) ?_
 refine .nil (hK _ _ (AW.seq (ra hx ?_)))
 refine cdh h rfl (fun cQ h=>?_) (fun cQ h=>?_)
 refine rs hx fun K hK=>?_
 refine scb h jf fun x2 h=>?_
 refine s0 (aO (b':=x2) (an.id _ _) ay) ?_
 refine .nil (hK _ _ (AW.ret ?_))
 cases h
 exact rv1
 refine AW.skip (rs hx fun K hK=>?_)
 refine scb h jf fun x4 h=>?_
 refine s0 (aO (b':=x4) (an.id _ _) ay) ?_
 refine .nil (hK _ _ (AW.ret ?_))
 cases h
 exact rv1
def cD(eC:Int)(aQ:Int):Int×(List ak)→Option ((Int×(List ak))⊕((List ak))):=fun (dE,cw)=>cnd (decide (dE<eC)) (bnd (fY aQ dE) fun x3=>gd ((cw++[x3]).length*136≤140737488355328) (some (.inl (i64.wrap (dE+(1:Int)),cw++[x3])))) (some (.inr cw))
def cM(fU:Int)(eC:Int):Int×(List ak)→Option ((Int×(List ak))⊕((List ak))):=fun (aQ,aZ)=>cnd (decide (aQ<fU)) (bnd (a7 (cD eC aQ) ((0:Int),aZ)) fun dX=>some (.inl (i64.wrap (aQ+(1:Int)),dX))) (some (.inr aZ))
def ct(fU:Int)(eC:Int):Option (aE×Int):=bnd (a7 (cM fU eC) ((0:Int),([]:List ak))) fun aN=>bnd (dA aN) fun x8=>cnd (!x8) (some ((⟨(0:Int),(0:Int),([]:List ak)⟩:aE),(30:Int))) (some ((⟨fU,eC,aN⟩:aE),(0:Int)))
theorem ni {fU:Int}{eC:Int}{r:aE×Int}(h:ct fU eC=some r):aB prog 73 [dI .i64 fU,dI .i64 eC,.e (.lit (.func (.func 95) #[] #[]))] (.tu [dG a9 r.1,dI .i64 r.2]):=by
 refine bJ (rs:=[.cell 6 24,.tmp 7]) (fun cx hx h0=>?_) func73
 unfold ct at h
 refine rs hx fun K hK=>?_
 refine s1 (d:=.pt 0 0) (cr aG) ?_
 refine sa ?_
 refine .nil (hK _ _ (rs hx fun K hK=>?_))
 iterate 2 refine sa ?_
 refine s1 (d:=.ag [dI .i64 fU,dI .i64 eC,dN]) (ez aG) ?_
 refine s1 (d:=.pt 1 0) (cr aG) ?_
 refine s0 (gv (ds':=[dI .i64 fU,dI .i64 eC,dN]) aG) ?_
 refine .nil (hK _ _ (AW.seq (ra hx ?_)))
 refine AW.block ?_
 obtain⟨aN,hy,h⟩:=ah h
 refine lp (S:=Int×(List ak)) (X:=(List ak)) (fun (aQ,aZ)=>[(1,dI .i64 eC),(2,.e (.lit (.func (.func 95) #[] #[]))),(6,.pt 0 0),(8,.pt 1 0),(14,dI .i64 fU),(15,dI .i64 aQ)]) (fun (aQ,aZ)=>⟨[(0,[dI .i64 (0:Int),dI .i64 (0:Int),dN]),(1,[dI .i64 fU,dI .i64 eC,dO 2 aj aZ])],[(2,(aZ).length,36,34)],3⟩) (PE cx (.exit 0) (fun aN=>[(6,.pt 0 0),(8,.pt 1 0)]) fun aN=>⟨[(0,[dI .i64 (0:Int),dI .i64 (0:Int),dN]),(1,[dI .i64 fU,dI .i64 eC,dO 2 aj aN])],[(2,(aN).length,36,34)],3⟩) hy ?_ ?_ ?_
 exact Wk.trans (Wk.nilOwn (ds':=[dI .i64 fU,dI .i64 eC,dO 2 aj ([]:List ak)]) 1 2 34 36) (wk h0 [0,1,2] (wR rfl (wR rfl (wR rfl (wR rfl (wR rfl (wR rfl wTn)))))) (vR rfl (vR rfl wVn)) (wL rfl rfl wLn))
 clear hy h
 rintro⟨aQ,aZ⟩ y h
 dsimp only[cM] at h
 refine ra hx ?_
 refine AW.seq (cdh h rfl (fun cQ h=>?_) (fun cQ h=>?_))
 refine AW.skip (AW.seq (AW.block ?_))
 iterate 2 refine ra hx ?_
 refine AW.block ?_
 obtain⟨dX,hy,h⟩:=ah h
 refine lp (S:=Int×(List ak)) (X:=(List ak)) (fun (dE,cw)=>[(1,dI .i64 eC),(2,.e (.lit (.func (.func 95) #[] #[]))),(6,.pt 0 0),(8,.pt 1 0),(9,dI .i64 aQ),(14,dI .i64 fU),(15,dI .i64 aQ),(18,dI .i64 eC),(19,dI .i64 dE)]) (fun (dE,cw)=>⟨[(0,[dI .i64 (0:Int),dI .i64 (0:Int),dN]),(1,[dI .i64 fU,dI .i64 eC,dO 2 aj cw])],[(2,(cw).length,36,34)],3⟩) (PE cx (.exit 2) (fun dX=>[(1,dI .i64 eC),(2,.e (.lit (.func (.func 95) #[] #[]))),(6,.pt 0 0),(8,.pt 1 0),(14,dI .i64 fU),(15,dI .i64 aQ)]) fun dX=>⟨[(0,[dI .i64 (0:Int),dI .i64 (0:Int),dN]),(1,[dI .i64 fU,dI .i64 eC,dO 2 aj dX])],[(2,(dX).length,36,34)],3⟩) hy ?_ ?_ ?_
 exact wk h0 [0,1,2] (wR rfl (wR rfl (wR rfl (wR rfl (wR rfl (wR rfl (wR rfl (wR rfl (wR rfl wTn))))))))) (vR rfl (vR rfl wVn)) (wL rfl rfl wLn)
 clear hy h
 rintro⟨dE,cw⟩ y h
 dsimp only[cD] at h
 refine ra hx ?_
 refine AW.seq (cdh h rfl (fun lL h=>?_) (fun lL h=>?_))
 refine AW.skip (AW.seq (AW.block (ra hx ?_)))
 obtain⟨x3,EX,h⟩:=ah h
 obtain⟨JI,h⟩:=az h
 refine jn (PE cx .normal (fun (_:Unit)=>[(1,dI .i64 eC),(2,.e (.lit (.func (.func 95) #[] #[]))),(6,.pt 0 0),(8,.pt 1 0),(9,dI .i64 aQ),(14,dI .i64 fU),(15,dI .i64 aQ),(18,dI .i64 eC),(19,dI .i64 dE)]) (fun (_:Unit)=>⟨[(0,[dI .i64 (0:Int),dI .i64 (0:Int),dN]),(1,[dI .i64 fU,dI .i64 eC,dO 2 aj (cw++[x3])])],[(2,(cw++[x3]).length,36,34)],3⟩) ()) ?_ ?_
 refine dw (DW.split 1 5 (by decide) ?_ ?_)
 refine dwg [] [0,1,2,3,4,5,6,7,8,9] hx (by kernel_rfl) (by kernel_rfl) (by kernel_rfl) fun K hK=>?_
 dsimp only[dq,lg,lx,List.map]
 refine sa ?_
 refine s1 (aP aJ) ?_
 iterate 3 refine sa ?_
 refine sc (oF EX) ?_
 refine s1 (qp ([x3]:List ak) aj aJ ay) ?_
 refine s1 (d:=dO 2 aj (cw++[x3])) (j4 aJ ay JI) ?_
 refine sa ?_
 refine s0 (gv (ds':=[dI .i64 fU,dI .i64 eC,dO 2 aj (cw++[x3])]) aJ) ?_
 exact .nil (hK _ _ (pe0 h0 [0,1,2]))
 refine dwg [] [0,2,3,4,5,1,6,7,8,9] hx (by kernel_rfl) (by kernel_rfl) (by kernel_rfl) fun K hK=>?_
 dsimp only[dq,lg,lx,List.map]
 iterate 4 refine sa ?_
 refine sc (oF EX) ?_
 refine s1 (aP aJ) ?_
 refine s1 (qp ([x3]:List ak) aj aJ ay) ?_
 refine s1 (d:=dO 2 aj (cw++[x3])) (j4 aJ ay JI) ?_
 refine sa ?_
 refine s0 (gv (ds':=[dI .i64 fU,dI .i64 eC,dO 2 aj (cw++[x3])]) aJ) ?_
 exact .nil (hK _ _ (pe0 h0 [0,1,2]))
 rintro ex tm' hp' ⟨rfl,hw⟩
 refine AW.weak hw (rb hx ?_)
 cases h
 exact PS.l (pe0 h0 [0,1,2])
 refine AW.exit ?_
 try dsimp only
 try simp only[bk,reduceIte,Nat.reduceEqDiff,reduceCtorEq]
 cases h
 exact PS.r ⟨by nofun,PE.i (wk h0 [0,1,2] (wR rfl (wR rfl (wR rfl (wR rfl (wR rfl (wR rfl wTn)))))) (vR rfl (vR rfl wVn)) (wL rfl rfl wLn))⟩
 rintro ex tm' hp' ⟨rfl,hw⟩
 try dsimp only
 try simp only[bk,reduceIte,Nat.reduceEqDiff,reduceCtorEq]
 refine AW.weak hw (rb hx ?_)
 cases h
 exact PS.l (pe0 h0 [0,1,2])
 refine AW.exit ?_
 try dsimp only
 try simp only[bk,reduceIte,Nat.reduceEqDiff,reduceCtorEq]
 cases h
 exact PS.r ⟨by nofun,PE.i (wk h0 [0,1,2] (wR rfl (wR rfl wTn)) (vR rfl (vR rfl wVn)) (wL rfl rfl wLn))⟩
 rintro ex tm' hp' ⟨rfl,hw⟩
 try dsimp only
 try simp only[bk,reduceIte,Nat.reduceEqDiff,reduceCtorEq]
 refine AW.weak hw (AW.seq (rs hx fun K hK=>?_))
 refine sa ?_
 refine s1 (aP aJ) ?_
 refine scb h lM fun x8 h=>?_
 refine sa ?_
 refine .nil (hK _ _ (cdh h rfl (fun gz h=>?_) (fun gz h=>?_)))
 refine rs hx fun K hK=>?_
 refine s1 (d:=.ag [dI .i64 (0:Int),dI .i64 (0:Int),dN]) (ez aG) ?_
 refine s0 (gv (ds':=[dI .i64 (0:Int),dI .i64 (0:Int),dN]) aG) ?_
 refine sa ?_
 refine .nil (hK _ _ (AW.ret ?_))
 cases h
 exact gQ.mk2 (lw (es:=[dI .i64 (0:Int),dI .i64 (0:Int),dN]) rfl aG rfl rfl (ltb rfl) (leb rfl) rfl (c7 rfl (.inr ⟨_,_,(oJ (wc (ly _) (wc (ly _) (wc (FU rfl) wcn)))),(av _),⟨rfl,rfl⟩,rfl⟩)))
 refine AW.skip (rs hx fun K hK=>?_)
 refine s1 (d:=.ag [dI .i64 fU,dI .i64 eC,dO 2 aj aN]) (cm aG) ?_
 refine s0 (gv (ds':=[dI .i64 fU,dI .i64 eC,dO 2 aj aN]) aG) ?_
 refine sa ?_
 refine .nil (hK _ _ (AW.ret ?_))
 cases h
 exact gQ.mk2 (lw (es:=[dI .i64 fU,dI .i64 eC,dO 2 aj aN]) rfl aG rfl rfl (ltb rfl) (leb rfl) rfl (c7 rfl (.inr ⟨_,_,(oJ (wc (ly _) (wc (ly _) (wc (HH _) wcn)))),(av _),⟨rfl,rfl⟩,rfl⟩)))
def fO(da:Int):Option aE:=bnd (S:=Bool) (cnd (decide (da<(0:Int))) (some (true)) (some (decide ((200:Int)<da)))) fun bQ=>cnd bQ (some (⟨(0:Int),(0:Int),([]:List ak)⟩:aE)) (bnd (ct da da) fun x4=>some x4.1)
theorem vz {da:Int}{r:aE}(h:fO da=some r):aB prog 43 [dI .i64 da] (dG a9 r):=by
 refine bJ (rs:=[.cell 2 24]) (fun cx hx h0=>?_) func43
 unfold fO at h
 refine rs hx fun K hK=>?_
 refine s1 (d:=.pt 0 0) (cr aG) ?_
 refine .nil (hK _ _ ?_)
 iterate 2 refine AW.seq ?_
 obtain⟨bQ,hy,h⟩:=ah h
 refine jn ((PE cx .normal (fun bQ=>[(0,dI .i64 da),(2,.pt 0 0),(10,dB bQ)]) fun bQ=>⟨[(0,[dI .i64 (0:Int),dI .i64 (0:Int),dN])],[],1⟩) bQ) ?_ ?_
 replace h:=hy
 refine rq hx fun K hK=>?_
 iterate 3 refine sa ?_
 rcases bP (decide (da<(0:Int))) with cQ|cQ
 replace h:=ba cQ h
 iterate 2 refine aK rfl rfl cQ ?_
 refine s1 (am cQ) ?_
 refine .nil (hK _ _ ?_)
 cases h
 exact pe0 h0 [0]
 replace h:=bb cQ h
 iterate 2 refine ga cQ ?_
 refine s1 (ax cQ) ?_
 refine .nil (hK _ _ ?_)
 cases h
 exact pe0 h0 [0]
 rintro ex tm' hp' ⟨rfl,hw⟩
 refine AW.weak hw (cdh h rfl (fun bn h=>?_) (fun bn h=>?_))
 refine rs hx fun K hK=>?_
 refine s1 (d:=.ag [dI .i64 (0:Int),dI .i64 (0:Int),dN]) (ez aG) ?_
 refine s0 (gv (ds':=[dI .i64 (0:Int),dI .i64 (0:Int),dN]) aG) ?_
 refine .nil (hK _ _ (AW.ret ?_))
 cases h
 exact gQ.mk1 (lw (es:=[dI .i64 (0:Int),dI .i64 (0:Int),dN]) rfl aG rfl rfl (ltb rfl) (leb rfl) rfl (.inr (.inr ⟨_,(oJ (wc (ly _) (wc (ly _) (wc (FU rfl) wcn)))),rfl,rfl⟩)))
 refine AW.skip (rs hx fun K hK=>?_)
 iterate 2 refine sa ?_
 refine scb h ni fun x4 h=>?_
 iterate 3 refine sa ?_
 refine s1 (d:=.pt 1 0) (cr aG) ?_
 refine s0 (gv (ds':=[dI .i64 x4.1.vR,dI .i64 x4.1.vC,dL aj x4.1.vV]) aG) ?_
 refine sa ?_
 refine .nil (hK _ _ (rs hx fun K hK=>?_))
 refine s1 (d:=dG a9 x4.1) (cm aG) ?_
 refine s0 (gv (ds':=[dI .i64 x4.1.vR,dI .i64 x4.1.vC,dL aj x4.1.vV]) aG) ?_
 refine .nil (hK _ _ (AW.ret ?_))
 cases h
 exact gQ.mk1 (lw (es:=(a9.f x4.1).map .e) rfl aG rfl rfl (ltb rfl) (leb rfl) rfl (.inr (.inr ⟨_,(av _),rfl,rfl⟩)))
def cv(eJ:aE)(gI:Int)(eK:Int):Option ak:=gd (0≤i64.wrap ((i64.wrap (gI*eJ.vC))+eK)∧i64.wrap ((i64.wrap (gI*eJ.vC))+eK)<((eJ.vV).length:Int)) (bnd (some ((eJ.vV)[(i64.wrap ((i64.wrap (gI*eJ.vC))+eK)).toNat]!)) fun x3=>some x3)
theorem ko {eJ:aE}{gI:Int}{eK:Int}{r:ak}(h:cv eJ gI eK=some r):aB prog 75 [dG a9 eJ,dI .i64 gI,dI .i64 eK] (dG aj r):=by
 refine bJ (rs:=[.cell 6 34]) (fun cx hx h0=>?_) func75
 unfold cv at h
 refine rs hx fun K hK=>?_
 refine s1 (d:=.pt 0 0) ka ?_
 refine s1 (bq (F:=aj.f cU) ay) ?_
 refine .nil (hK _ _ (rs hx fun K hK=>?_))
 refine sa ?_
 refine s1 (aP aJ) ?_
 iterate 2 refine sa ?_
 refine s1 (aP aR) ?_
 iterate 3 refine sa ?_
 obtain⟨JJ,h⟩:=az h
 have F8:(i64.wrap ((i64.wrap (gI*eJ.vC))+eK)).toNat<(eJ.vV).length:=by omega
 refine s1 (eh JJ aJ ay) ?_
 refine s1 (d:=dG aj ((eJ.vV)[(i64.wrap ((i64.wrap (gI*eJ.vC))+eK)).toNat]!)) (kN (c:=aj) (l:=eJ.vV) (n:=(i64.wrap ((i64.wrap (gI*eJ.vC))+eK)).toNat) (o:=0) ay F8 (fm _ _ rfl)) ?_
 obtain⟨x3,EX,h⟩:=ah h
 replace EX:=eG EX
 refine s0 (jx (b':=(eJ.vV)[(i64.wrap ((i64.wrap (gI*eJ.vC))+eK)).toNat]!) (an.id _ _) ay EX) ?_
 refine .nil (hK _ _ (AW.ret ?_))
 cases h
 exact rv1
def nN(gI:Int)(eK:Int)(cT:aE)(jz:aE):Option ak:=bnd (cv cT gI eK) fun x1=>bnd (cv jz gI eK) fun x3=>bnd (fF x1 x3) fun x5=>some x5
def lz(eC:Int)(cT:aE)(jz:aE)(aQ:Int):Int×(List ak)→Option ((Int×(List ak))⊕((List ak))):=fun (dE,cw)=>cnd (decide (dE<eC)) (bnd (nN aQ dE cT jz) fun x3=>gd ((cw++[x3]).length*136≤140737488355328) (some (.inl (i64.wrap (dE+(1:Int)),cw++[x3])))) (some (.inr cw))
def mg(fU:Int)(eC:Int)(cT:aE)(jz:aE):Int×(List ak)→Option ((Int×(List ak))⊕((List ak))):=fun (aQ,aZ)=>cnd (decide (aQ<fU)) (bnd (a7 (lz eC cT jz aQ) ((0:Int),aZ)) fun dX=>some (.inl (i64.wrap (aQ+(1:Int)),dX))) (some (.inr aZ))
def oA(fU:Int)(eC:Int)(cT:aE)(jz:aE):Option (aE×Int):=bnd (a7 (mg fU eC cT jz) ((0:Int),([]:List ak))) fun aN=>bnd (dA aN) fun x8=>cnd (!x8) (some ((⟨(0:Int),(0:Int),([]:List ak)⟩:aE),(30:Int))) (some ((⟨fU,eC,aN⟩:aE),(0:Int)))
def wa(aY:aE)(a8:aE):Option (aE×Int):=bnd (S:=Bool) (bnd (b9 [aY,a8]) fun x1=>cnd (!x1) (some (true)) (cnd (decide (aY.vR≠a8.vR)) (some (true)) (some (decide (aY.vC≠a8.vC))))) fun bQ=>cnd bQ (some ((⟨(0:Int),(0:Int),([]:List ak)⟩:aE),(1:Int))) (bnd (oA aY.vR aY.vC aY a8) fun x7=>some (x7.1,x7.2))
def ip(gI:Int)(eK:Int)(cT:aE)(jz:aE):Int×ak→Option ((Int×ak)⊕ak):=fun (dh,a17_1)=>cnd (decide (dh<cT.vC)) (bnd (cv cT gI dh) fun t9=>bnd (cv jz dh eK) fun qq=>bnd (et t9 qq) fun uC=>bnd (fF a17_1 uC) fun pl=>some (.inl (i64.wrap (dh+(1:Int)),pl))) (some (.inr a17_1))
def lb(gI:Int)(eK:Int)(cT:aE)(jz:aE):Option ak:=cnd (decide (cT.vC=(0:Int))) (bnd (ek (0:Int)) fun x2=>some x2) (bnd (cv cT gI (0:Int)) fun x4=>bnd (cv jz (0:Int) eK) fun x6=>bnd (et x4 x6) fun x8=>bnd (a7 (ip gI eK cT jz) ((1:Int),x8)) fun se=>some se)
def kH(eC:Int)(cT:aE)(jz:aE)(aQ:Int):Int×(List ak)→Option ((Int×(List ak))⊕((List ak))):=fun (dE,cw)=>cnd (decide (dE<eC)) (bnd (lb aQ dE cT jz) fun x3=>gd ((cw++[x3]).length*136≤140737488355328) (some (.inl (i64.wrap (dE+(1:Int)),cw++[x3])))) (some (.inr cw))
def lD(fU:Int)(eC:Int)(cT:aE)(jz:aE):Int×(List ak)→Option ((Int×(List ak))⊕((List ak))):=fun (aQ,aZ)=>cnd (decide (aQ<fU)) (bnd (a7 (kH eC cT jz aQ) ((0:Int),aZ)) fun dX=>some (.inl (i64.wrap (aQ+(1:Int)),dX))) (some (.inr aZ))
def nM(fU:Int)(eC:Int)(cT:aE)(jz:aE):Option (aE×Int):=bnd (a7 (lD fU eC cT jz) ((0:Int),([]:List ak))) fun aN=>bnd (dA aN) fun x8=>cnd (!x8) (some ((⟨(0:Int),(0:Int),([]:List ak)⟩:aE),(30:Int))) (some ((⟨fU,eC,aN⟩:aE),(0:Int)))
def v9(aY:aE)(a8:aE):Option (aE×Int):=bnd (S:=Bool) (bnd (b9 [aY,a8]) fun x1=>cnd (!x1) (some (true)) (some (decide (aY.vC≠a8.vR)))) fun bQ=>cnd bQ (some ((⟨(0:Int),(0:Int),([]:List ak)⟩:aE),(1:Int))) (bnd (nM aY.vR a8.vC aY a8) fun x6=>some (x6.1,x6.2))
def fZ(gI:Int)(eK:Int)(cT:aE)(jz:aE):Option ak:=cnd (decide (eK<cT.vC)) (bnd (cv cT gI eK) fun x2=>some x2) (bnd (cv jz gI (i64.wrap (eK - cT.vC))) fun x4=>some x4)
theorem oG {gI:Int}{eK:Int}{cT:aE}{jz:aE}{r:ak}(h:fZ gI eK cT jz=some r):HC prog 98 [dI .i64 gI,dI .i64 eK,.pt 0 0,.pt 1 0] ⟨[(0,[dI .i64 cT.vR,dI .i64 cT.vC,dL aj cT.vV]),(1,[dI .i64 jz.vR,dI .i64 jz.vC,dL aj jz.vV])],[],2⟩ (dG aj r) ⟨[(0,[dI .i64 cT.vR,dI .i64 cT.vC,dL aj cT.vV]),(1,[dI .i64 jz.vR,dI .i64 jz.vC,dL aj jz.vV])],[],2⟩:=by
 refine HC.ofX (rs:=[.cell 6 34]) tok func98 rfl rfl (cg rfl) rfl (fun cx hx h1=>?_)
 have h0:cx.hp0.next=2:=by rw[h1]
 simp only[eZ,Nat.reduceAdd,bE]
 unfold fZ at h
 refine rs hx fun K hK=>?_
 refine s1 (bq (F:=aj.f cU) ay) ?_
 refine .nil (hK _ _ (AW.seq (rs hx fun K hK=>?_)))
 iterate 2 refine sa ?_
 refine s1 (aP aR) ?_
 refine sa ?_
 refine .nil (hK _ _ (cdh h rfl (fun cQ h=>?_) (fun cQ h=>?_)))
 refine rs hx fun K hK=>?_
 refine s1 (d:=dG a9 cT) (cm aG) ?_
 iterate 2 refine sa ?_
 refine scb h ko fun x2 h=>?_
 refine s0 (aO (b':=x2) (an.id _ _) ay) ?_
 refine .nil (hK _ _ (AW.ret ?_))
 cases h
 exact⟨_,uL rfl ay rfl rfl (ltb rfl) (aj.h _) (rfl),yd.of_wk (by rw[hx];exact cg rfl) (wkN h0 [] (wG rfl (av _) wTn) (vR rfl (vR rfl wVn)) wLn)⟩
 refine AW.skip (rs hx fun K hK=>?_)
 refine s1 (d:=dG a9 jz) (cm aG) ?_
 iterate 3 refine sa ?_
 refine s1 (aP aR) ?_
 refine sa ?_
 refine scb h ko fun x4 h=>?_
 refine s0 (aO (b':=x4) (an.id _ _) ay) ?_
 refine .nil (hK _ _ (AW.ret ?_))
 cases h
 exact⟨_,uL rfl ay rfl rfl (ltb rfl) (aj.h _) (rfl),yd.of_wk (by rw[hx];exact cg rfl) (wkN h0 [] (wG rfl (av _) wTn) (vR rfl (vR rfl wVn)) wLn)⟩
def il(eC:Int)(cT:aE)(jz:aE)(aQ:Int):Int×(List ak)→Option ((Int×(List ak))⊕((List ak))):=fun (dE,cw)=>cnd (decide (dE<eC)) (bnd (fZ aQ dE cT jz) fun x3=>gd ((cw++[x3]).length*136≤140737488355328) (some (.inl (i64.wrap (dE+(1:Int)),cw++[x3])))) (some (.inr cw))
def iF(fU:Int)(eC:Int)(cT:aE)(jz:aE):Int×(List ak)→Option ((Int×(List ak))⊕((List ak))):=fun (aQ,aZ)=>cnd (decide (aQ<fU)) (bnd (a7 (il eC cT jz aQ) ((0:Int),aZ)) fun dX=>some (.inl (i64.wrap (aQ+(1:Int)),dX))) (some (.inr aZ))
def iY(fU:Int)(eC:Int)(cT:aE)(jz:aE):Option (aE×Int):=bnd (a7 (iF fU eC cT jz) ((0:Int),([]:List ak))) fun aN=>bnd (dA aN) fun x8=>cnd (!x8) (some ((⟨(0:Int),(0:Int),([]:List ak)⟩:aE),(30:Int))) (some ((⟨fU,eC,aN⟩:aE),(0:Int)))
theorem wN {fU:Int}{eC:Int}{cT:aE}{jz:aE}{r:aE×Int}(h:iY fU eC cT jz=some r):HC prog 73 [dI .i64 fU,dI .i64 eC,.fn 98 [0,1]] ⟨[(0,[dI .i64 cT.vR,dI .i64 cT.vC,dL aj cT.vV]),(1,[dI .i64 jz.vR,dI .i64 jz.vC,dL aj jz.vV])],[],2⟩ (.tu [dG a9 r.1,dI .i64 r.2]) ⟨[(0,[dI .i64 cT.vR,dI .i64 cT.vC,dL aj cT.vV]),(1,[dI .i64 jz.vR,dI .i64 jz.vC,dL aj jz.vV])],[],2⟩:=by
 refine HC.ofX (rs:=[.cell 6 24,.tmp 7]) tok func73 rfl rfl (cg rfl) rfl (fun cx hx h1=>?_)
 have h0:cx.hp0.next=2:=by rw[h1]
 simp only[eZ,Nat.reduceAdd,bE]
 unfold iY at h
 refine rs hx fun K hK=>?_
 refine s1 (d:=.pt 2 0) (cr aG) ?_
 refine sa ?_
 refine .nil (hK _ _ (rs hx fun K hK=>?_))
 iterate 2 refine sa ?_
 refine s1 (d:=.ag [dI .i64 fU,dI .i64 eC,dN]) (ez aG) ?_
 refine s1 (d:=.pt 3 0) (cr aG) ?_
 refine s0 (gv (ds':=[dI .i64 fU,dI .i64 eC,dN]) aG) ?_
 refine .nil (hK _ _ (AW.seq (ra hx ?_)))
 refine AW.block ?_
 obtain⟨aN,hy,h⟩:=ah h
 refine lp (S:=Int×(List ak)) (X:=(List ak)) (fun (aQ,aZ)=>[(1,dI .i64 eC),(2,.fn 98 [0,1]),(6,.pt 2 0),(8,.pt 3 0),(14,dI .i64 fU),(15,dI .i64 aQ)]) (fun (aQ,aZ)=>⟨[(0,[dI .i64 cT.vR,dI .i64 cT.vC,dL aj cT.vV]),(1,[dI .i64 jz.vR,dI .i64 jz.vC,dL aj jz.vV]),(2,[dI .i64 (0:Int),dI .i64 (0:Int),dN]),(3,[dI .i64 fU,dI .i64 eC,dO 4 aj aZ])],[(4,(aZ).length,36,34)],5⟩) (PE cx (.exit 0) (fun aN=>[(6,.pt 2 0),(8,.pt 3 0)]) fun aN=>⟨[(0,[dI .i64 cT.vR,dI .i64 cT.vC,dL aj cT.vV]),(1,[dI .i64 jz.vR,dI .i64 jz.vC,dL aj jz.vV]),(2,[dI .i64 (0:Int),dI .i64 (0:Int),dN]),(3,[dI .i64 fU,dI .i64 eC,dO 4 aj aN])],[(4,(aN).length,36,34)],5⟩) hy ?_ ?_ ?_
 exact Wk.trans (Wk.nilOwn (ds':=[dI .i64 fU,dI .i64 eC,dO 4 aj ([]:List ak)]) 3 2 34 36) (wkN h0 [2,3,4] (wR rfl (wR rfl (wR rfl (wR rfl (wR rfl (wR rfl wTn)))))) (vR rfl (vR rfl (vR rfl (vR rfl wVn)))) (wL rfl rfl wLn))
 clear hy h
 rintro⟨aQ,aZ⟩ y h
 dsimp only[iF] at h
 refine ra hx ?_
 refine AW.seq (cdh h rfl (fun cQ h=>?_) (fun cQ h=>?_))
 refine AW.skip (AW.seq (AW.block ?_))
 iterate 2 refine ra hx ?_
 refine AW.block ?_
 obtain⟨dX,hy,h⟩:=ah h
 refine lp (S:=Int×(List ak)) (X:=(List ak)) (fun (dE,cw)=>[(1,dI .i64 eC),(2,.fn 98 [0,1]),(6,.pt 2 0),(8,.pt 3 0),(9,dI .i64 aQ),(14,dI .i64 fU),(15,dI .i64 aQ),(18,dI .i64 eC),(19,dI .i64 dE)]) (fun (dE,cw)=>⟨[(0,[dI .i64 cT.vR,dI .i64 cT.vC,dL aj cT.vV]),(1,[dI .i64 jz.vR,dI .i64 jz.vC,dL aj jz.vV]),(2,[dI .i64 (0:Int),dI .i64 (0:Int),dN]),(3,[dI .i64 fU,dI .i64 eC,dO 4 aj cw])],[(4,(cw).length,36,34)],5⟩) (PE cx (.exit 2) (fun dX=>[(1,dI .i64 eC),(2,.fn 98 [0,1]),(6,.pt 2 0),(8,.pt 3 0),(14,dI .i64 fU),(15,dI .i64 aQ)]) fun dX=>⟨[(0,[dI .i64 cT.vR,dI .i64 cT.vC,dL aj cT.vV]),(1,[dI .i64 jz.vR,dI .i64 jz.vC,dL aj jz.vV]),(2,[dI .i64 (0:Int),dI .i64 (0:Int),dN]),(3,[dI .i64 fU,dI .i64 eC,dO 4 aj dX])],[(4,(dX).length,36,34)],5⟩) hy ?_ ?_ ?_
 exact wkN h0 [2,3,4] (wR rfl (wR rfl (wR rfl (wR rfl (wR rfl (wR rfl (wR rfl (wR rfl (wR rfl wTn))))))))) (vR rfl (vR rfl (vR rfl (vR rfl wVn)))) (wL rfl rfl wLn)
 clear hy h
 rintro⟨dE,cw⟩ y h
 dsimp only[il] at h
 refine ra hx ?_
 refine AW.seq (cdh h rfl (fun lL h=>?_) (fun lL h=>?_))
 refine AW.skip (AW.seq (AW.block (ra hx ?_)))
 obtain⟨x3,EX,h⟩:=ah h
 obtain⟨JI,h⟩:=az h
 refine jn (PE cx .normal (fun (_:Unit)=>[(1,dI .i64 eC),(2,.fn 98 [0,1]),(6,.pt 2 0),(8,.pt 3 0),(9,dI .i64 aQ),(14,dI .i64 fU),(15,dI .i64 aQ),(18,dI .i64 eC),(19,dI .i64 dE)]) (fun (_:Unit)=>⟨[(0,[dI .i64 cT.vR,dI .i64 cT.vC,dL aj cT.vV]),(1,[dI .i64 jz.vR,dI .i64 jz.vC,dL aj jz.vV]),(2,[dI .i64 (0:Int),dI .i64 (0:Int),dN]),(3,[dI .i64 fU,dI .i64 eC,dO 4 aj (cw++[x3])])],[(4,(cw++[x3]).length,36,34)],5⟩) ()) ?_ ?_
 refine dw (DW.split 1 5 (by decide) ?_ ?_)
 refine dwg [] [0,1,2,3,4,5,6,7,8,9] hx (by kernel_rfl) (by kernel_rfl) (by kernel_rfl) fun K hK=>?_
 dsimp only[dq,lg,lx,List.map]
 refine sa ?_
 refine s1 (aP aJ) ?_
 iterate 3 refine sa ?_
 refine s1 (wx [0,1] rfl (oG EX) (fA (av _) (fA (av _) (fA (av _) (fA (av _) fAn)))) (vR rfl (vR rfl wVn)) wLn (rvE (rvE rvN)) (AB _ _ _) (Js _ _)) ?_
 refine s1 (qp ([x3]:List ak) aj aJ ay) ?_
 refine s1 (d:=dO 4 aj (cw++[x3])) (j4 aJ ay JI) ?_
 refine sa ?_
 refine s0 (gv (ds':=[dI .i64 fU,dI .i64 eC,dO 4 aj (cw++[x3])]) aJ) ?_
 exact .nil (hK _ _ (PE.i (wkN h0 [2,3,4] (wR rfl (wR rfl (wR rfl (wR rfl (wR rfl (wR rfl (wR rfl (wR rfl (wR rfl wTn))))))))) (vR rfl (vR rfl (vR rfl (vR rfl wVn)))) (wL rfl rfl wLn))))
 refine dwg [] [0,2,3,4,5,1,6,7,8,9] hx (by kernel_rfl) (by kernel_rfl) (by kernel_rfl) fun K hK=>?_
 dsimp only[dq,lg,lx,List.map]
 iterate 4 refine sa ?_
 refine s1 (wx [0,1] rfl (oG EX) (fA (av _) (fA (av _) (fA (av _) (fA (av _) fAn)))) (vR rfl (vR rfl wVn)) wLn (rvE (rvE rvN)) (AB _ _ _) (Js _ _)) ?_
 refine s1 (aP aJ) ?_
 refine s1 (qp ([x3]:List ak) aj aJ ay) ?_
 refine s1 (d:=dO 4 aj (cw++[x3])) (j4 aJ ay JI) ?_
 refine sa ?_
 refine s0 (gv (ds':=[dI .i64 fU,dI .i64 eC,dO 4 aj (cw++[x3])]) aJ) ?_
 exact .nil (hK _ _ (PE.i (wkN h0 [2,3,4] (wR rfl (wR rfl (wR rfl (wR rfl (wR rfl (wR rfl (wR rfl (wR rfl (wR rfl wTn))))))))) (vR rfl (vR rfl (vR rfl (vR rfl wVn)))) (wL rfl rfl wLn))))
 rintro ex tm' hp' ⟨rfl,hw⟩
 refine AW.weak hw (rb hx ?_)
 cases h
 exact PS.l (PE.i (wkN h0 [2,3,4] (wR rfl (wR rfl (wR rfl (wR rfl (wR rfl (wR rfl (wR rfl (wR rfl (wR rfl wTn))))))))) (vR rfl (vR rfl (vR rfl (vR rfl wVn)))) (wL rfl rfl wLn)))
 refine AW.exit ?_
 try dsimp only
 try simp only[bk,reduceIte,Nat.reduceEqDiff,reduceCtorEq]
 cases h
 exact PS.r ⟨by nofun,PE.i (wkN h0 [2,3,4] (wR rfl (wR rfl (wR rfl (wR rfl (wR rfl (wR rfl wTn)))))) (vR rfl (vR rfl (vR rfl (vR rfl wVn)))) (wL rfl rfl wLn))⟩
 rintro ex tm' hp' ⟨rfl,hw⟩
 try dsimp only
 try simp only[bk,reduceIte,Nat.reduceEqDiff,reduceCtorEq]
 refine AW.weak hw (rb hx ?_)
 cases h
 exact PS.l (PE.i (wkN h0 [2,3,4] (wR rfl (wR rfl (wR rfl (wR rfl (wR rfl (wR rfl wTn)))))) (vR rfl (vR rfl (vR rfl (vR rfl wVn)))) (wL rfl rfl wLn)))
 refine AW.exit ?_
 try dsimp only
 try simp only[bk,reduceIte,Nat.reduceEqDiff,reduceCtorEq]
 cases h
 exact PS.r ⟨by nofun,PE.i (wkN h0 [2,3,4] (wR rfl (wR rfl wTn)) (vR rfl (vR rfl (vR rfl (vR rfl wVn)))) (wL rfl rfl wLn))⟩
 rintro ex tm' hp' ⟨rfl,hw⟩
 try dsimp only
 try simp only[bk,reduceIte,Nat.reduceEqDiff,reduceCtorEq]
 refine AW.weak hw (AW.seq (rs hx fun K hK=>?_))
 refine sa ?_
 refine s1 (aP aJ) ?_
 refine scb h lM fun x8 h=>?_
 refine sa ?_
 refine .nil (hK _ _ (cdh h rfl (fun gz h=>?_) (fun gz h=>?_)))
 refine rs hx fun K hK=>?_
 refine s1 (d:=.ag [dI .i64 (0:Int),dI .i64 (0:Int),dN]) (ez aG) ?_
 refine s0 (gv (ds':=[dI .i64 (0:Int),dI .i64 (0:Int),dN]) aG) ?_
 refine sa ?_
 refine .nil (hK _ _ (AW.ret ?_))
 cases h
 exact⟨_,lw (es:=[dI .i64 (0:Int),dI .i64 (0:Int),dN]) rfl aG rfl rfl (ltb rfl) (leb rfl) rfl (c7 rfl (rfl)),yd.of_wk2 (by rw[hx];exact cg rfl) (wkN h0 [] (wG rfl (oJ (wc (ly _) (wc (ly _) (wc (FU rfl) wcn)))) (wR rfl wTn)) (vR rfl (vR rfl wVn)) wLn)⟩
 refine AW.skip (rs hx fun K hK=>?_)
 refine s1 (d:=.ag [dI .i64 fU,dI .i64 eC,dO 4 aj aN]) (cm aG) ?_
 refine s0 (gv (ds':=[dI .i64 fU,dI .i64 eC,dO 4 aj aN]) aG) ?_
 refine sa ?_
 refine .nil (hK _ _ (AW.ret ?_))
 cases h
 exact⟨_,lw (es:=[dI .i64 fU,dI .i64 eC,dO 4 aj aN]) rfl aG rfl rfl (ltb rfl) (leb rfl) rfl (c7 rfl (rfl)),yd.of_wk2 (by rw[hx];exact cg rfl) (wkN h0 [] (wG rfl (oJ (wc (ly _) (wc (ly _) (wc (HH _) wcn)))) (wR rfl wTn)) (vR rfl (vR rfl wVn)) wLn)⟩
def gX(aY:aE)(a8:aE):Option (aE×Int):=bnd (S:=Bool) (bnd (b9 [aY,a8]) fun x1=>cnd (!x1) (some (true)) (some (decide (aY.vR≠a8.vR)))) fun j3=>cnd j3 (some ((⟨(0:Int),(0:Int),([]:List ak)⟩:aE),(1:Int))) (cnd (decide ((200:Int)<(i64.wrap (aY.vC+a8.vC)))) (some ((⟨(0:Int),(0:Int),([]:List ak)⟩:aE),(2:Int))) (bnd (iY aY.vR (i64.wrap (aY.vC+a8.vC)) aY a8) fun x7=>some (x7.1,x7.2)))
theorem yL {aY:aE}{a8:aE}{r:aE×Int}(h:gX aY a8=some r):aB prog 51 [dG a9 aY,dG a9 a8] (.tu [dG a9 r.1,dI .i64 r.2]):=by
 refine bJ (rs:=[.cell 4 24,.tmp 5]) (fun cx hx h0=>?_) func51
 unfold gX at h
 refine rs hx fun K hK=>?_
 refine s1 (d:=.pt 0 0) ka ?_
 refine s1 (d:=.pt 1 0) ka ?_
 refine s1 (d:=.pt 2 0) (cr aG) ?_
 refine sa ?_
 refine .nil (hK _ _ (AW.seq (AW.block (AW.seq ?_))))
 obtain⟨j3,hy,h⟩:=ah h
 refine jn ((PE cx .normal (fun j3=>[(2,.pt 0 0),(3,.pt 1 0),(4,.pt 2 0),(6,dB j3)]) fun j3=>⟨[(0,[dI .i64 aY.vR,dI .i64 aY.vC,dL aj aY.vV]),(1,[dI .i64 a8.vR,dI .i64 a8.vC,dL aj a8.vV]),(2,[dI .i64 (0:Int),dI .i64 (0:Int),dN])],[],3⟩) j3) ?_ ?_
 replace h:=hy
 refine rq hx fun K hK=>?_
 refine s1 (d:=dG a9 aY) (cm aG) ?_
 refine s1 (d:=dG a9 a8) (cm aG) ?_
 refine s1 (d:=dO 3 a9 [aY,a8]) (jL sS aG) ?_
 refine scb h iH fun x1 h=>?_
 iterate 2 refine sa ?_
 rcases bP (!x1) with bn|bn
 replace h:=ba bn h
 iterate 5 refine aK rfl rfl bn ?_
 refine s1 (am bn) ?_
 refine sa ?_
 refine .nil (hK _ _ ?_)
 cases h
 exact pe0 h0 [0,1,2]
 replace h:=bb bn h
 refine ga bn ?_
 refine g1 bn (aP aR) ?_
 refine ga bn ?_
 refine g1 bn (aP aR) ?_
 refine ga bn ?_
 refine s1 (ax bn) ?_
 refine sa ?_
 refine .nil (hK _ _ ?_)
 cases h
 exact pe0 h0 [0,1,2]
 rintro ex tm' hp' ⟨rfl,hw⟩
 refine AW.weak hw (cdh h rfl (fun pI h=>?_) (fun pI h=>?_))
 refine rs hx fun K hK=>?_
 refine s1 (d:=.ag [dI .i64 (0:Int),dI .i64 (0:Int),dN]) (ez aG) ?_
 refine s0 (gv (ds':=[dI .i64 (0:Int),dI .i64 (0:Int),dN]) aG) ?_
 refine sa ?_
 refine .nil (hK _ _ (AW.ret ?_))
 cases h
 exact gQ.mk2 (lw (es:=[dI .i64 (0:Int),dI .i64 (0:Int),dN]) rfl aG rfl rfl (ltb rfl) (leb rfl) rfl (c7 rfl (.inr ⟨_,_,(oJ (wc (ly _) (wc (ly _) (wc (FU rfl) wcn)))),(av _),⟨rfl,rfl⟩,rfl⟩)))
 refine rs hx fun K hK=>?_
 refine sa ?_
 refine s1 (aP aR) ?_
 refine sa ?_
 refine s1 (aP aR) ?_
 iterate 3 refine sa ?_
 refine .nil (hK _ _ (cdh h rfl (fun ej h=>?_) (fun ej h=>?_)))
 refine rs hx fun K hK=>?_
 refine s1 (d:=.ag [dI .i64 (0:Int),dI .i64 (0:Int),dN]) (ez aG) ?_
 refine s0 (gv (ds':=[dI .i64 (0:Int),dI .i64 (0:Int),dN]) aG) ?_
 refine sa ?_
 refine .nil (hK _ _ (AW.ret ?_))
 cases h
 exact gQ.mk2 (lw (es:=[dI .i64 (0:Int),dI .i64 (0:Int),dN]) rfl aG rfl rfl (ltb rfl) (leb rfl) rfl (c7 rfl (.inr ⟨_,_,(oJ (wc (ly _) (wc (ly _) (wc (FU rfl) wcn)))),(av _),⟨rfl,rfl⟩,rfl⟩)))
 refine AW.skip (rs hx fun K hK=>?_)
 refine sa ?_
 refine s1 (aP aR) ?_
 refine sa ?_
 refine s1 (aP aR) ?_
 refine sa ?_
 refine s1 (aP aR) ?_
 refine sa ?_
 refine s1 Bn ?_
 obtain⟨x7,Aa,h⟩:=ah h
 refine s1 (Kf [0,1] rfl (wN Aa) (fA (av _) (fA (av _) (fA (av _) fAn))) (vR rfl (vR rfl wVn)) wLn) ?_
 iterate 2 refine sa ?_
 refine s0 (gv (ds':=[dI .i64 x7.1.vR,dI .i64 x7.1.vC,dL aj x7.1.vV]) aG) ?_
 refine sa ?_
 refine .nil (hK _ _ (AW.ret ?_))
 cases h
 exact gQ.mk2 (lw (es:=(a9.f x7.1).map .e) rfl aG rfl rfl (ltb rfl) (leb rfl) rfl (c7 rfl (.inr ⟨_,_,(av _),(av _),⟨rfl,rfl⟩,rfl⟩)))
abbrev mS(R C:Int)(V:List Nu):aE:=⟨R,C,V.map nv⟩
abbrev mZ:aE:=⟨0,0,[]⟩
def bi(R C:Int)(V:List Nu):Int:=if R<0∨200<R∨C<0∨200<C then 2 else if (V.length:Int)≠R*C∨V.all aT=false then 1 else 0
structure MV(R C:Nat)(V:List Nu):Prop where
 r:R≤200
 c:C≤200
 len:V.length=R*C
 good:V.all aT=true
theorem iv {R C:Int}{V:List Nu}:bi R C V=0↔∃r c:Nat,R=r∧C=c∧MV r c V:=by
 unfold bi
 constructor
 ·intro h
  split at h
  ·cases h
  ·rename_i h1
   split at h
   ·cases h
   ·rename_i h2
    obtain⟨r,rfl⟩:∃r:Nat,R=r:=⟨R.toNat,by omega⟩
    obtain⟨c,rfl⟩:∃c:Nat,C=c:=⟨C.toNat,by omega⟩
    refine⟨r,c,rfl,rfl,by omega,by omega,?_,?_⟩
    ·have h3:(V.length:Int)=(r:Int)*c:=It fun e=>h2 (.inl e)
     exact_mod_cast h3
    ·cases hg:V.all aT with
     |true=>rfl
     |false=>exact absurd (.inr hg) h2
 ·rintro⟨r,c,rfl,rfl,hm⟩
  have h1:=hm.r
  have h2:=hm.c
  rw[ifn_,aq]
  rintro (h|h)
  ·exact h (by rw[hm.len];exact_mod_cast rfl)
  ·rw[hm.good] at h;cases h
theorem MV.rc {R C:Nat}{V:List Nu}(h:MV R C V):R*C≤40000:=lW h.r h.c
theorem MV.chk {R C:Nat}{V:List Nu}(h:MV R C V):bi R C V=0:=iv.2 ⟨R,C,rfl,rfl,h⟩
theorem sk {V:List Nu}(h:V.length≤1000000):dA (V.map nv)=some (V.all aT):=by
 unfold dA bo bA
 have key:=zm (b:=bf (V.map nv)) (n:=V.length) h (fun i=>!aT V[i]!) (fun i hi=>by
  unfold bf l7
  rw[bS,bu _ _,aF,aW,CE hi,uGood]
  rfl) (by
  unfold bf
  rw[bS,bw _ _])
 rw[Ka V (fun x=>!aT x)] at key
 have e:V.all aT= !V.any fun x=>!aT x:=by rw[Iq];simp
 rcases key with⟨h1,h2⟩|⟨j,h1,h2⟩ <;> rw[h1,e,h2]
 ·rfl
 ·simp[bnd]
theorem tZ {R C:Int}{V:List Nu}(h:V.length≤1000000):dv (mS R C V)=some (bi R C V):=by
 unfold dv bi
 dsimp only
 simp only[kOr,ab,sk h]
 by_cases h1:R<0∨200<R∨C<0∨200<C
 ·rw[ao h1]
  have:(decide (R<0)||(decide (200<R)||(decide (C<0)||decide (200<C))))=true:=by simpa using h1
  rw[this];rfl
 ·rw[aq h1]
  have:(decide (R<0)||(decide (200<R)||(decide (C<0)||decide (200<C))))=false:=by simpa using h1
  rw[this,kF]
  have LG:0≤R*C∧R*C≤40000:=by
   obtain⟨r,rfl⟩:∃r:Nat,R=r:=⟨R.toNat,by omega⟩
   obtain⟨c,rfl⟩:∃c:Nat,C=c:=⟨C.toNat,by omega⟩
   have:r*c≤200*200:=lW (by omega) (by omega)
   have e:((r:Int)*c)=((r*c:Nat):Int):=by exact_mod_cast rfl
   rw[e];omega
  rw[w64,bS]
  by_cases h2:(V.length:Int)≠R*C∨V.all aT=false
  ·rw[ao h2]
   have:(decide ((V.length:Int)≠R*C)||!V.all aT)=true:=by
    rcases h2 with h2|h2
    ·rw[dy h2];rfl
    ·rw[h2];simp
   rw[this];rfl
  ·rw[aq h2]
   have:(decide ((V.length:Int)≠R*C)||!V.all aT)=false:=by
    have a:¬(V.length:Int)≠R*C:=fun e=>h2 (.inl e)
    have b:V.all aT=true:=by cases hg:V.all aT with
     |true=>rfl
     |false=>exact absurd (.inr hg) h2
    rw[gM a,b];rfl
   rw[this];rfl
theorem rm {R C:Int}{V:List Nu}(h:V.length≤1000000):b9 [mS R C V]=some (decide (bi R C V=0)):=by
 unfold b9 be bg
 have key:=zm (b:=aU [mS R C V]) (n:=1) (by decide) (fun i=>decide (bi R C V≠0)) (fun i hi=>by
  obtain rfl:i=0:=by omega
  unfold aU iW
  rw[bu _ _ (by simp),aF ⟨by simp,by simp⟩]
  show bnd (bnd (dv (mS R C V)) _) _=_
  rw[tZ h]
  rfl) rfl
 rcases key with⟨h1,h2⟩|⟨j,h1,h2⟩ <;> rw[h1] <;> by_cases hc:bi R C V=0 <;> simp[hc,bnd,qA] at h2 ⊢
theorem Bq {R C R' C':Int}{V V':List Nu}(h:V.length≤1000000)(h':V'.length≤1000000):b9 [mS R C V,mS R' C' V']=some (decide (bi R C V=0)&&decide (bi R' C' V'=0)):=by
 unfold b9 be bg
 have key:=zm (b:=aU [mS R C V,mS R' C' V']) (n:=2) (by decide) (fun i=>if i=0 then decide (bi R C V≠0) else decide (bi R' C' V'≠0)) (fun i hi=>by
  unfold aU iW
  have hi2:i=0∨i=1:=by omega
  rcases hi2 with rfl|rfl
  ·rw[bu _ _ (by simp),aF ⟨by simp,by simp⟩]
   show bnd (bnd (dv (mS R C V)) _) _=_
   rw[tZ h]
   rfl
  ·rw[bu _ _ (by simp),aF ⟨by simp,by simp⟩]
   show bnd (bnd (dv (mS R' C' V')) _) _=_
   rw[tZ h']
   rfl) rfl
 rcases key with⟨h1,h2⟩|⟨j,h1,h2⟩ <;> rw[h1] <;> by_cases hc:bi R C V=0 <;> by_cases NM:bi R' C' V'=0 <;> simp[hc,NM,bnd,qA] at h2 ⊢<;> omega
theorem wy {R C:Nat}{V:List Nu}(hV:V.length=R*C)(LG:R*C≤1000000){i k:Nat}(hi:i<R)(hk:k<C):cv (mS R C V) i k=some (nv V[i*C+k]!):=by
 have h1:=bH hi hk
 have e:(i:Int)*(C:Int)=((i*C:Nat):Int):=by exact_mod_cast rfl
 unfold cv
 dsimp only
 rw[e]
 generalize i*C=p at*
 generalize R*C=n at*
 rw[w64 (n:=(p:Int)),w64 (n:=(p:Int)+(k:Int)),bS,aF]
 simp only[ab]
 rw[show (p:Int)+(k:Int)=((p+k:Nat):Int) by omega,aW,CE]
def mM(R C:Nat)(V:List Nu):aE×Int:=if V.all aT then (mS R C V,0) else (mZ,30)
theorem za {R C:Nat}(hR:R≤400)(hC:C≤400)(f:Nat→Nat→Nu)(hf:∀i k:Nat,i<R→k<C→fY (i:Int) (k:Int)=some (nv (f i k))):ct R C=some (mM R C (mkM R C f)):=by
 have LG:R*C≤400*400:=lW hR hC
 unfold ct
 rw[qU (R:=R) (C:=C) (by omega) f (by omega) (fun i hi acc yY=>?_) (fun l=>?_)]
 ·simp only[ab]
  rw[sk (by rw[fy];omega)]
  simp only[ab]
  unfold mM
  cases (mkM R C f).all aT <;> rfl
 ·unfold cM
  dsimp only
  rw[bu _ _,tL (C:=C) (by omega) (f i) acc yY (fun k hk l=>?_) (fun l=>?_)]
  ·rfl
  ·unfold cD
   dsimp only
   rw[bu _ _,hf i k hi hk]
   rfl
  ·unfold cD
   dsimp only
   rw[bw _ _]
 ·unfold cM
  dsimp only
  rw[bw _ _]
theorem IZ {R C:Nat}{a b:aE}(hR:R≤400)(hC:C≤400)(f:Nat→Nat→Nu)(hf:∀i k:Nat,i<R→k<C→nN (i:Int) (k:Int) a b=some (nv (f i k))):oA R C a b=some (mM R C (mkM R C f)):=by
 have LG:R*C≤400*400:=lW hR hC
 unfold oA
 rw[qU (R:=R) (C:=C) (by omega) f (by omega) (fun i hi acc yY=>?_) (fun l=>?_)]
 ·simp only[ab]
  rw[sk (by rw[fy];omega)]
  simp only[ab]
  unfold mM
  cases (mkM R C f).all aT <;> rfl
 ·unfold mg
  dsimp only
  rw[bu _ _,tL (C:=C) (by omega) (f i) acc yY (fun k hk l=>?_) (fun l=>?_)]
  ·rfl
  ·unfold lz
   dsimp only
   rw[bu _ _,hf i k hi hk]
   rfl
  ·unfold lz
   dsimp only
   rw[bw _ _]
 ·unfold mg
  dsimp only
  rw[bw _ _]
theorem IY {R C:Nat}{a b:aE}(hR:R≤400)(hC:C≤400)(f:Nat→Nat→Nu)(hf:∀i k:Nat,i<R→k<C→lb (i:Int) (k:Int) a b=some (nv (f i k))):nM R C a b=some (mM R C (mkM R C f)):=by
 have LG:R*C≤400*400:=lW hR hC
 unfold nM
 rw[qU (R:=R) (C:=C) (by omega) f (by omega) (fun i hi acc yY=>?_) (fun l=>?_)]
 ·simp only[ab]
  rw[sk (by rw[fy];omega)]
  simp only[ab]
  unfold mM
  cases (mkM R C f).all aT <;> rfl
 ·unfold lD
  dsimp only
  rw[bu _ _,tL (C:=C) (by omega) (f i) acc yY (fun k hk l=>?_) (fun l=>?_)]
  ·rfl
  ·unfold kH
   dsimp only
   rw[bu _ _,hf i k hi hk]
   rfl
  ·unfold kH
   dsimp only
   rw[bw _ _]
 ·unfold lD
  dsimp only
  rw[bw _ _]
theorem Co {R C:Nat}{a b:aE}(hR:R≤400)(hC:C≤400)(f:Nat→Nat→Nu)(hf:∀i k:Nat,i<R→k<C→fZ (i:Int) (k:Int) a b=some (nv (f i k))):iY R C a b=some (mM R C (mkM R C f)):=by
 have LG:R*C≤400*400:=lW hR hC
 unfold iY
 rw[qU (R:=R) (C:=C) (by omega) f (by omega) (fun i hi acc yY=>?_) (fun l=>?_)]
 ·simp only[ab]
  rw[sk (by rw[fy];omega)]
  simp only[ab]
  unfold mM
  cases (mkM R C f).all aT <;> rfl
 ·unfold iF
  dsimp only
  rw[bu _ _,tL (C:=C) (by omega) (f i) acc yY (fun k hk l=>?_) (fun l=>?_)]
  ·rfl
  ·unfold il
   dsimp only
   rw[bu _ _,hf i k hi hk]
   rfl
  ·unfold il
   dsimp only
   rw[bw _ _]
 ·unfold iF
  dsimp only
  rw[bw _ _]
section
def idF(i k:Nat):Nu:=if i=k then nOf 1 else nOf 0
def addF(C:Nat)(A B:List Nu)(i k:Nat):Nu:=DH A[i*C+k]! B[i*C+k]!
def N9(C K:Nat)(A B:List Nu)(i k:Nat):Nat→Nu
 |0=>qv A[i*C]! B[k]!
 |j+1=>DH (N9 C K A B i k j) (qv A[i*C+(j+1)]! B[(j+1)*K+k]!)
def mulF(C K:Nat)(A B:List Nu)(i k:Nat):Nu:=if C=0 then nOf 0 else N9 C K A B i k (C - 1)
def AK(C K:Nat)(A B:List Nu)(i k:Nat):Nu:=if k<C then A[i*C+k]! else B[i*K+(k - C)]!
def idP(n:Int):aE:=if n<0∨200<n then mZ else mS n n (mkM n.toNat n.toNat idF)
def addP(R C:Int)(A:List Nu)(R' C':Int)(B:List Nu):aE×Int:=if bi R C A=0∧bi R' C' B=0∧R=R'∧C=C' then mM R.toNat C.toNat (mkM R.toNat C.toNat (addF C.toNat A B)) else (mZ,1)
def mulP(R C:Int)(A:List Nu)(R' C':Int)(B:List Nu):aE×Int:=if bi R C A=0∧bi R' C' B=0∧C=R' then mM R.toNat C'.toNat (mkM R.toNat C'.toNat (mulF C.toNat C'.toNat A B)) else (mZ,1)
def Ll(R C:Int)(A:List Nu)(R' C':Int)(B:List Nu):aE×Int:=if bi R C A=0∧bi R' C' B=0∧R=R' then if 200<C+C' then (mZ,2) else mM R.toNat (C+C').toNat (mkM R.toNat (C+C').toNat (AK C.toNat C'.toNat A B)) else (mZ,1)
theorem FZ(i k:Nat):aT (idF i k)=true:=by unfold idF;split;exact of1.1;exact of0.1
theorem uN {R C:Nat}{f:Nat→Nat→Nu}(h:∀i k,i<R→k<C→aT (f i k)=true):mM R C (mkM R C f)=(mS R C (mkM R C f),0):=by
 unfold mM
 rw[ao (zi.2 h)]
theorem e_mul(i C:Nat):(i:Int)*(C:Int)=((i*C:Nat):Int):=by exact_mod_cast rfl
section
variable {A B V:List Nu} {R C R' C':Int}
theorem Bt {n:Int}:fO n=some (idP n):=by
 unfold fO idP
 simp only[kOr,ab]
 by_cases h:n<0∨200<n
 ·have:(decide (n<0)||decide (200<n))=true:=by simpa using h
  rw[this,ao h];rfl
 ·have:(decide (n<0)||decide (200<n))=false:=by simpa using h
  rw[this,aq h,kF]
  obtain⟨m,rfl⟩:∃m:Nat,n=m:=⟨n.toNat,by omega⟩
  rw[za (R:=m) (C:=m) (by omega) (by omega) idF (fun i k hi hk=>?_),uN fun i k _ _=>FZ i k]
  ·simp only[ab,aW]
  ·unfold fY idF
   by_cases e:i=k
   ·rw[bu _ _,ao e,uOf];rfl
   ·rw[bw _ _,aq e,uOf];rfl
theorem P_Add(hA:A.length≤1000000)(hB:B.length≤1000000):wa (mS R C A) (mS R' C' B)=some (addP R C A R' C' B):=by
 unfold wa addP
 rw[Bq hA hB]
 simp only[ab,kOr]
 by_cases h0:bi R C A=0∧bi R' C' B=0∧R=R'∧C=C'
 ·rw[ao h0]
  obtain⟨h1,h2,rfl,rfl⟩:=h0
  obtain⟨r,c,rfl,rfl,hm⟩:=iv.1 h1
  obtain⟨r',c',hr,hc,zp⟩:=iv.1 h2
  obtain rfl:r=r':=by omega
  obtain rfl:c=c':=by omega
  rw[h1,h2]
  have:=hm.rc
  have h3:=hm.r
  have h4:=hm.c
  have e:(!(decide ((0:Int)=0)&&decide ((0:Int)=0))||(decide ((r:Int)≠r)||decide ((c:Int)≠c)))=false:=by simp
  rw[e,kF]
  rw[IZ (by omega) (by omega) (addF c A B) (fun i k hi hk=>?_)]
  ·simp only[ab,aW]
  ·unfold nN
   rw[wy hm.len (by omega) hi hk,wy zp.len (by omega) hi hk]
   simp only[ab,uAdd]
   rfl
 ·rw[aq h0]
  have e:(!(decide (bi R C A=0)&&decide (bi R' C' B=0))||(decide (R≠R')||decide (C≠C')))=true:=by
   by_cases a:bi R C A=0
   ·by_cases b:bi R' C' B=0
    ·by_cases c:R=R'
     ·by_cases d:C=C'
      ·exact absurd ⟨a,b,c,d⟩ h0
      ·simp[d]
     ·simp[c]
    ·simp[b]
   ·simp[a]
  rw[e,kT]
theorem P_dot {r c c':Nat}(hm:MV r c A)(zp:MV c c' B){i k:Nat}(hi:i<r)(hk:k<c'):lb (i:Int) (k:Int) (mS r c A) (mS c c' B)=some (nv (mulF c c' A B i k)):=by
 have h1:=hm.rc
 have h2:=zp.rc
 have h3:=hm.c
 unfold lb mulF
 dsimp only
 by_cases h0:c=0
 ·rw[bu _ _,ao h0,uOf];rfl
 ·rw[bw _ _,aq h0]
  have a0:=wy hm.len (by omega) hi (show 0<c by omega)
  have b0:=wy zp.len (by omega) (show 0<c by omega) hk
  rw[i6] at a0
  rw[e7,bE] at b0
  rw[show ((0:Int))=((0:Nat):Int) from rfl,a0,b0]
  simp only[ab,uMul]
  have:=jA (b:=ip (i:Int) (k:Int) (mS r c A) (mS c c' B)) (fun j=>((j:Int),nv (N9 c c' A B i k (j - 1)))) 1 c (nv (N9 c c' A B i k (c - 1))) (by omega) (fun j hj1 Ai=>?_) ?_
  ·rw[show (((1:Nat):Int),nv (N9 c c' A B i k (1 - 1)))=((1:Int),nv (qv A[i*c]! B[k]!)) from rfl] at this
   rw[this];rfl
  ·unfold ip
   dsimp only
   rw[bu _ _,wy hm.len (by omega) hi Ai,wy zp.len (by omega) Ai hk]
   simp only[ab,uMul,uAdd]
   rw[w64]
   obtain⟨m,rfl⟩:∃m,j=m+1:=⟨j - 1,by omega⟩
   rfl
  ·unfold ip
   dsimp only
   rw[bw _ _]
theorem P_Mul(hA:A.length≤1000000)(hB:B.length≤1000000):v9 (mS R C A) (mS R' C' B)=some (mulP R C A R' C' B):=by
 unfold v9 mulP
 rw[Bq hA hB]
 simp only[ab,kOr]
 by_cases h0:bi R C A=0∧bi R' C' B=0∧C=R'
 ·rw[ao h0]
  obtain⟨h1,h2,rfl⟩:=h0
  obtain⟨r,c,rfl,rfl,hm⟩:=iv.1 h1
  obtain⟨r',c',hr,rfl,zp⟩:=iv.1 h2
  obtain rfl:c=r':=by omega
  rw[h1,h2]
  have h3:=hm.r
  have h4:=zp.c
  have e:(!(decide ((0:Int)=0)&&decide ((0:Int)=0))||decide ((c:Int)≠c))=false:=by simp
  rw[e,kF]
  rw[IY (by omega) (by omega) (mulF c c' A B) (fun i k hi hk=>P_dot hm zp hi hk)]
  simp only[ab,aW]
 ·rw[aq h0]
  have e:(!(decide (bi R C A=0)&&decide (bi R' C' B=0))||decide (C≠R'))=true:=by
   by_cases a:bi R C A=0
   ·by_cases b:bi R' C' B=0
    ·by_cases c:C=R'
     ·exact absurd ⟨a,b,c⟩ h0
     ·simp[c]
    ·simp[b]
   ·simp[a]
  rw[e,kT]
theorem GZ(hA:A.length≤1000000)(hB:B.length≤1000000):gX (mS R C A) (mS R' C' B)=some (Ll R C A R' C' B):=by
 unfold gX Ll
 rw[Bq hA hB]
 simp only[ab,kOr]
 by_cases h0:bi R C A=0∧bi R' C' B=0∧R=R'
 ·rw[ao h0]
  obtain⟨h1,h2,rfl⟩:=h0
  obtain⟨r,c,rfl,rfl,hm⟩:=iv.1 h1
  obtain⟨r',c',hr,rfl,zp⟩:=iv.1 h2
  obtain rfl:r=r':=by omega
  rw[h1,h2]
  have h3:=hm.r
  have h4:=hm.c
  have h5:=zp.c
  have h6:=hm.rc
  have h7:=zp.rc
  have e:(!(decide ((0:Int)=0)&&decide ((0:Int)=0))||decide ((r:Int)≠r))=false:=by simp
  rw[e,kF,w64]
  by_cases hc:(200:Int)<(c:Int)+c'
  ·rw[bu _ _ hc,ao hc]
  ·rw[bw _ _ hc,aq hc,show ((c:Int)+(c':Int))=((c+c':Nat):Int) by omega]
   rw[Co (by omega) (by omega) (AK c c' A B) (fun i k hi hk=>?_)]
   ·simp only[ab,aW]
   ·unfold fZ AK
    dsimp only
    by_cases yV:k<c
    ·rw[bu _ _,ao yV,wy hm.len (by omega) hi yV];rfl
    ·rw[bw _ _,aq yV,w64,show (k:Int) - (c:Int)=((k - c:Nat):Int) by omega,wy zp.len (by omega) hi (by omega)];rfl
 ·rw[aq h0]
  have e:(!(decide (bi R C A=0)&&decide (bi R' C' B=0))||decide (R≠R'))=true:=by
   by_cases a:bi R C A=0
   ·by_cases b:bi R' C' B=0
    ·by_cases c:R=R'
     ·exact absurd ⟨a,b,c⟩ h0
     ·simp[c]
    ·simp[b]
   ·simp[a]
  rw[e,kT]
end
end
section
theorem wix {i c k:Nat}(h:i*c+k≤1000000:=by omega):i64.wrap (i64.wrap ((i:Int)*(c:Int))+(k:Int))=((i*c+k:Nat):Int):=by
 rw[e_mul]
 generalize i*c=p at*
 rw[w64 (n:=(p:Int)),w64];omega
section
variable {A B V:List Nu} {R C R' C':Int}
theorem Q_good(h:V.length≤1000000):mW (V.map nv)=some (V.all aT):=by
 unfold mW
 rw[DJ (b:=jE (V.map nv)) (n:=V.length) h (fun i=>aT V[i]!) (fun i hi=>by
  unfold jE
  rw[bS,bu _ _,aF,aW,CE hi,tGood]
  rfl) (by
  unfold jE
  rw[bS,bw _ _])]
 rw[Kb V aT]
 cases V.all aT <;> rfl
theorem Q_Check(h:V.length≤1000000):lR (mS R C V)=some (bi R C V):=by
 rw[←tZ h]
 unfold lR dv
 dsimp only
 rw[Q_good h,sk h]
theorem Q_valid(h:V.length≤1000000):lP (mS R C V)=some (decide (bi R C V=0)):=by
 unfold lP
 rw[Q_Check h];rfl
end
end
section
section
variable {A B V:List Nu} {R C R' C':Int}
theorem MV.gd {r c:Nat}(hm:MV r c A){t:Nat}(h:t<r*c):aT A[t]! =true:=oX hm.good (by rw[hm.len];exact h)
theorem bes_ok {r c c':Nat}(hm:MV r c A)(zp:MV r c' B):mM r (c+c') (mkM r (c+c') (AK c c' A B))=(mS r ((c+c':Nat):Int) (mkM r (c+c') (AK c c' A B)),0):=uN fun i k hi hk=>by
 unfold AK
 split
 ·rename_i h;exact hm.gd (bH hi h)
 ·exact zp.gd (bH hi (by omega))
end
end
def d5(bj:c5):(List Int)×Int→Option (((List Int)×Int)⊕((List Int))):=fun (aQ,aZ)=>cnd (decide (aZ<((bj.vl).length:Int))) (gd (0≤aZ∧aZ<((bj.vl).length:Int)) (gd ((aQ++[((bj.vl)[(aZ).toNat]!).vcol]).length*8≤140737488355328) (some (.inl (aQ++[((bj.vl)[(aZ).toNat]!).vcol],i64.wrap (aZ+(1:Int))))))) (some (.inr aQ))
def ce(bj:c5):Option (List Int):=bnd (a7 (d5 bj) (([]:List Int),(0:Int))) fun aN=>some aN
theorem jV {bj:c5}{r:List Int}(h:ce bj=some r):aB prog 64 [dG pk bj] (.own 3 (cI .i64).sz r.length (r.flatMap (cI .i64).f)):=by
 refine bJ (rs:=[.tmp 2]) (fun cx hx h0=>?_) func64
 unfold ce at h
 refine rs hx fun K hK=>?_
 refine s1 (d:=.pt 0 0) ka ?_
 refine s1 (d:=dO 1 (cI .i64) ([]:List Int)) (d8 bK aR) ?_
 refine .nil (hK _ _ (rs hx fun K hK=>?_))
 refine s1 (d:=dO 2 (cI .i64) ([]:List Int)) (d8 bK aR) ?_
 refine .nil (hK _ _ (AW.seq (rs hx fun K hK=>?_)))
 refine sa ?_
 refine s1 (aP ss) ?_
 iterate 2 refine sa ?_
 refine .nil (hK _ _ (AW.block ?_))
 obtain⟨aN,hy,h⟩:=ah h
 refine lp (S:=(List Int)×Int) (X:=(List Int)) (fun (aQ,aZ)=>[(3,dO 0 (cI .i64) aQ),(7,dL bL bj.vl),(8,dI .i64 ((bj.vl).length:Int)),(9,dI .i64 aZ)]) (fun (aQ,aZ)=>⟨[],[(0,(aQ).length,1,3)],1⟩) (PE cx (.exit 0) (fun aN=>[(3,dO 0 (cI .i64) aN)]) fun aN=>⟨[],[(0,(aN).length,1,3)],1⟩) hy ?_ ?_ ?_
 exact wk h0 [2] (wR rfl (wR rfl (wR rfl (wR rfl wTn)))) wVn (wL rfl rfl wLn)
 clear hy h
 rintro⟨aQ,aZ⟩ y h
 dsimp only[d5] at h
 refine ra hx ?_
 refine AW.seq (cdh h rfl (fun cQ h=>?_) (fun cQ h=>?_))
 refine AW.skip (AW.seq (AW.block (rs hx fun K hK=>?_)))
 obtain⟨mR,h⟩:=az h
 have pH:(aZ).toNat<(bj.vl).length:=by omega
 refine s1 (eh mR ss iI) ?_
 refine s1 (d:=dG bL ((bj.vl)[(aZ).toNat]!)) (kN (c:=bL) (l:=bj.vl) (n:=(aZ).toNat) (o:=0) iI pH (fm _ _ rfl)) ?_
 refine s1 (bq (F:=bL.f (⟨(0:Int),cU,false⟩:l8)) iI) ?_
 refine s0 (aO (b':=(bj.vl)[(aZ).toNat]!) (an.id _ _) iI) ?_
 refine .nil (hK _ _ (rq hx fun K hK=>?_))
 iterate 2 refine sa ?_
 refine s1 (a6 (BZ ((bj.vl)[(aZ).toNat]!)) aR) ?_
 refine s1 (d:=dO 2 (cI .i64) [((bj.vl)[(aZ).toNat]!).vcol]) (jL bK aR) ?_
 obtain⟨E2,h⟩:=az h
 refine s1 (d:=dO 0 (cI .i64) (aQ++[((bj.vl)[(aZ).toNat]!).vcol])) (j4 bK aR E2) ?_
 refine sa ?_
 refine .nil (hK _ _ (rb hx ?_))
 cases h
 exact PS.l (pe0 h0 [0])
 refine AW.exit ?_
 try dsimp only
 try simp only[bk,reduceIte,Nat.reduceEqDiff,reduceCtorEq]
 cases h
 exact PS.r ⟨by nofun,PE.i (wk h0 [0] (wR rfl wTn) wVn (wL rfl rfl wLn))⟩
 rintro ex tm' hp' ⟨rfl,hw⟩
 try dsimp only
 try simp only[bk,reduceIte,Nat.reduceEqDiff,reduceCtorEq]
 refine AW.weak hw (ra hx ?_)
 refine AW.ret ?_
 cases h
 exact gQ.own rfl rfl
def bY(eJ:aE):Option (aE×(List Int)×Int):=bnd (b9 [eJ]) fun x1=>cnd (!x1) (some ((⟨(0:Int),(0:Int),([]:List ak)⟩:aE),([]:List Int),(1:Int))) (bnd (ee eJ) fun x4=>cnd (decide (x4.2≠(0:Int))) (some ((⟨(0:Int),(0:Int),([]:List ak)⟩:aE),([]:List Int),x4.2)) (bnd (ce x4.1) fun x7=>some (x4.1.vm,x7,(0:Int))))
theorem eN {eJ:aE}{r:aE×(List Int)×Int}(h:bY eJ=some r):aB prog 13 [dG a9 eJ] (.tu [dG a9 r.1,dL (cI .i64) r.2.1,dI .i64 r.2.2]):=by
 refine bJ (rs:=[.cell 2 24,.tmp 3,.tmp 4]) (fun cx hx h0=>?_) func13
 unfold bY at h
 refine rs hx fun K hK=>?_
 refine s1 (d:=.pt 0 0) ka ?_
 refine s1 (d:=.pt 1 0) (cr aG) ?_
 refine s1 (d:=dO 2 (cI .i64) ([]:List Int)) (d8 bK aR) ?_
 refine sa ?_
 refine .nil (hK _ _ (AW.seq (rs hx fun K hK=>?_)))
 refine s1 (d:=dG a9 eJ) (cm aG) ?_
 refine s1 (d:=dO 3 a9 [eJ]) (jL sS aG) ?_
 refine scb h iH fun x1 h=>?_
 refine sa ?_
 refine .nil (hK _ _ (cdh h rfl (fun bn h=>?_) (fun bn h=>?_)))
 refine rs hx fun K hK=>?_
 refine s1 (d:=.ag [dI .i64 (0:Int),dI .i64 (0:Int),dN]) (ez aG) ?_
 refine s0 (gv (ds':=[dI .i64 (0:Int),dI .i64 (0:Int),dN]) aG) ?_
 refine s1 (d:=dO 4 (cI .i64) ([]:List Int)) (d8 bK aR) ?_
 refine sa ?_
 refine .nil (hK _ _ (AW.ret ?_))
 cases h
 exact gQ.mk3 (lw (es:=[dI .i64 (0:Int),dI .i64 (0:Int),dN]) rfl aG rfl rfl (ltb rfl) (leb rfl) rfl (c7 rfl (c7 rfl (.inr ⟨_,_,_,(oJ (wc (ly _) (wc (ly _) (wc (FU rfl) wcn)))),(qd _),(av _),⟨rfl,rfl,rfl⟩,rfl⟩))))
 refine AW.skip (rs hx fun K hK=>?_)
 refine s1 (d:=dG a9 eJ) (cm aG) ?_
 refine scb h l5 fun x4 h=>?_
 iterate 3 refine sa ?_
 refine s1 (d:=.pt 4 0) (cr jy) ?_
 refine s0 (gv (ds':=[dI .i64 x4.1.vm.vR,dI .i64 x4.1.vm.vC,dL aj x4.1.vm.vV,dL bL x4.1.vl]) jy) ?_
 refine sa ?_
 refine .nil (hK _ _ (AW.seq (ra hx ?_)))
 refine cdh h rfl (fun ej h=>?_) (fun ej h=>?_)
 refine rs hx fun K hK=>?_
 refine s1 (d:=.ag [dI .i64 (0:Int),dI .i64 (0:Int),dN]) (ez aG) ?_
 refine sa ?_
 refine s0 (gv (ds':=[dI .i64 (0:Int),dI .i64 (0:Int),dN]) aG) ?_
 refine s1 (d:=dO 5 (cI .i64) ([]:List Int)) (d8 bK aR) ?_
 refine sa ?_
 refine .nil (hK _ _ (AW.ret ?_))
 cases h
 exact gQ.mk3 (lw (es:=[dI .i64 (0:Int),dI .i64 (0:Int),dN]) rfl aG rfl rfl (ltb rfl) (leb rfl) rfl (c7 rfl (c7 rfl (.inr ⟨_,_,_,(oJ (wc (ly _) (wc (ly _) (wc (FU rfl) wcn)))),(qd _),(av _),⟨rfl,rfl,rfl⟩,rfl⟩))))
 refine AW.skip (rsd [] hx fun K hK=>?_)
 refine sa ?_
 refine s1 (d:=dG a9 x4.1.vm) (cm aG) ?_
 refine s1 (d:=dG pk x4.1) (cm jy) ?_
 obtain⟨x7,Aa,h⟩:=ah h
 refine s1 (EO rfl (jV Aa) (by simp only[e8,gL,js,lE,iC,iB];exact bh _ _) (lA (av _) lAn)) ?_
 refine s0 (gv (ds':=[dI .i64 x4.1.vm.vR,dI .i64 x4.1.vm.vC,dL aj x4.1.vm.vV]) aG) ?_
 iterate 2 refine sa ?_
 refine .nil (hK _ _ (AW.ret ?_))
 cases h
 exact gQ.mk3 (lw (es:=(a9.f x4.1.vm).map .e) rfl aG rfl rfl (ltb rfl) (leb rfl) rfl (c7 rfl (c7 rfl (.inr ⟨_,_,_,(av _),(qd _),(av _),⟨rfl,rfl,rfl⟩,rfl⟩))))
def i1(x8:c5×Int):Int×Int→Option ((Int×Int)⊕Int):=fun (qn,pW)=>cnd (decide (pW<((x8.1.vl).length:Int))) (bnd (S:=Int) (gd (0≤pW∧pW<((x8.1.vl).length:Int)) (cnd (((x8.1.vl)[(pW).toNat]!).vmoved) (some (i64.wrap (0 - qn))) (some (qn)))) fun C5=>some (.inl (C5,i64.wrap (pW+(1:Int))))) (some (.inr qn))
def iZ(x8:c5×Int):Int×ak→Option ((Int×ak)⊕ak):=fun (qm,Bf)=>cnd (decide (qm<((x8.1.vl).length:Int))) (gd (0≤qm∧qm<((x8.1.vl).length:Int)) (bnd (et Bf (((x8.1.vl)[(qm).toNat]!).vby)) fun wA=>some (.inl (i64.wrap (qm+(1:Int)),wA)))) (some (.inr Bf))
def fB(eJ:aE):Option (ak×Int):=bnd (S:=Bool) (bnd (b9 [eJ]) fun x1=>cnd (!x1) (some (true)) (some (decide (eJ.vR≠eJ.vC)))) fun bQ=>cnd bQ (bnd (some ((⟨(⟨false,false,(bM)⟩:ar),(⟨false,false,(bM)⟩:ar)⟩:ak))) fun x6=>some (x6,(1:Int))) (bnd (ee eJ) fun x8=>cnd (decide (x8.2≠(0:Int))) (bnd (some ((⟨(⟨false,false,(bM)⟩:ar),(⟨false,false,(bM)⟩:ar)⟩:ak))) fun t9=>some (t9,x8.2)) (cnd (decide (((x8.1.vl).length:Int)<eJ.vR)) (bnd (ek (0:Int)) fun pm=>some (pm,(0:Int))) (bnd (a7 (i1 x8) ((1:Int),(0:Int))) fun ws=>bnd (ek ws) fun nq=>bnd (a7 (iZ x8) ((0:Int),nq)) fun o0=>bnd (bV o0) fun I7=>cnd (!I7) (bnd (some ((⟨(⟨false,false,(bM)⟩:ar),(⟨false,false,(bM)⟩:ar)⟩:ak))) fun wJ=>some (wJ,(30:Int))) (some (o0,(0:Int))))))
theorem kQ {eJ:aE}{r:ak×Int}(h:fB eJ=some r):aB prog 16 [dG a9 eJ] (.tu [dG aj r.1,dI .i64 r.2]):=by
 refine bJ (rs:=[.cell 2 34,.tmp 3]) (fun cx hx h0=>?_) func16
 unfold fB at h
 refine rs hx fun K hK=>?_
 refine s1 (d:=.pt 0 0) ka ?_
 refine s1 (bq (F:=aj.f cU) ay) ?_
 refine sa ?_
 refine .nil (hK _ _ ?_)
 iterate 2 refine AW.seq ?_
 obtain⟨bQ,hy,h⟩:=ah h
 refine jn ((PE cx .normal (fun bQ=>[(1,.pt 0 0),(2,.pt 1 0),(22,dB bQ)]) fun bQ=>⟨[(0,[dI .i64 eJ.vR,dI .i64 eJ.vC,dL aj eJ.vV]),(1,dC (aj.f cU))],[],2⟩) bQ) ?_ ?_
 replace h:=hy
 refine rq hx fun K hK=>?_
 refine s1 (d:=dG a9 eJ) (cm aG) ?_
 refine s1 (d:=dO 2 a9 [eJ]) (jL sS aG) ?_
 refine scb h iH fun x1 h=>?_
 iterate 2 refine sa ?_
 rcases bP (!x1) with bn|bn
 replace h:=ba bn h
 iterate 5 refine aK rfl rfl bn ?_
 refine s1 (am bn) ?_
 refine .nil (hK _ _ ?_)
 cases h
 exact pe0 h0 [0,1]
 replace h:=bb bn h
 refine ga bn ?_
 refine g1 bn (aP aR) ?_
 refine ga bn ?_
 refine g1 bn (aP aR) ?_
 refine ga bn ?_
 refine s1 (ax bn) ?_
 refine .nil (hK _ _ ?_)
 cases h
 exact pe0 h0 [0,1]
 rintro ex tm' hp' ⟨rfl,hw⟩
 refine AW.weak hw (cdh h rfl (fun pI h=>?_) (fun pI h=>?_))
 refine rs hx fun K hK=>?_
 refine s1 (d:=dG aj cU) (i8 (FL.nil _) ay) ?_
 obtain⟨x6,sZ,h⟩:=ah h
 replace sZ:=eG sZ
 refine s0 (jx (b':=cU) (an.id _ _) ay sZ) ?_
 refine sa ?_
 refine .nil (hK _ _ (AW.ret ?_))
 cases h
 exact rv2
 refine AW.skip (rs hx fun K hK=>?_)
 refine s1 (d:=dG a9 eJ) (cm aG) ?_
 refine scb h l5 fun x8 h=>?_
 iterate 3 refine sa ?_
 refine s1 (d:=.pt 2 0) (cr jy) ?_
 refine s0 (gv (ds':=[dI .i64 x8.1.vm.vR,dI .i64 x8.1.vm.vC,dL aj x8.1.vm.vV,dL bL x8.1.vl]) jy) ?_
 refine sa ?_
 refine .nil (hK _ _ (AW.seq (AW.block (ra hx ?_))))
 refine cdh h rfl (fun gz h=>?_) (fun gz h=>?_)
 refine rs hx fun K hK=>?_
 refine s1 (d:=dG aj cU) (i8 (FL.nil _) ay) ?_
 refine sa ?_
 obtain⟨t9,M1,h⟩:=ah h
 replace M1:=eG M1
 refine s0 (jx (b':=cU) (an.id _ _) ay M1) ?_
 refine sa ?_
 refine .nil (hK _ _ (AW.ret ?_))
 cases h
 exact rv2
 refine rs hx fun K hK=>?_
 refine sa ?_
 refine s1 (aP ss) ?_
 iterate 2 refine sa ?_
 refine s1 (aP aR) ?_
 iterate 2 refine sa ?_
 refine .nil (hK _ _ (cdh h rfl (fun xA h=>?_) (fun xA h=>?_)))
 refine rs hx fun K hK=>?_
 refine scb h jf fun pm h=>?_
 refine s0 (aO (b':=pm) (an.id _ _) ay) ?_
 refine sa ?_
 refine .nil (hK _ _ (AW.ret ?_))
 cases h
 exact rv2
 refine AW.skip (ra hx ?_)
 refine AW.seq (rs hx fun K hK=>?_)
 refine sa ?_
 refine s1 (aP ss) ?_
 iterate 2 refine sa ?_
 refine .nil (hK _ _ (AW.block ?_))
 obtain⟨ws,hy,h⟩:=ah h
 refine lp (S:=Int×Int) (X:=Int) (fun (qn,pW)=>[(2,.pt 0 0),(4,.pt 1 0),(6,dI .i64 qn),(43,dL bL x8.1.vl),(44,dI .i64 ((x8.1.vl).length:Int)),(45,dI .i64 pW)]) (fun (qn,pW)=>⟨[(0,dC (aj.f cU)),(1,[dI .i64 x8.1.vm.vR,dI .i64 x8.1.vm.vC,dL aj x8.1.vm.vV,dL bL x8.1.vl])],[],2⟩) (PE cx (.exit 1) (fun ws=>[(2,.pt 0 0),(4,.pt 1 0),(6,dI .i64 ws)]) fun ws=>⟨[(0,dC (aj.f cU)),(1,[dI .i64 x8.1.vm.vR,dI .i64 x8.1.vm.vC,dL aj x8.1.vm.vV,dL bL x8.1.vl])],[],2⟩) hy ?_ ?_ ?_
 exact wk h0 [1,2] (wR rfl (wR rfl (wR rfl (wR rfl (wR rfl (wR rfl wTn)))))) (vC rfl (vR rfl wVn)) wLn
 clear hy h
 rintro⟨qn,pW⟩ y h
 dsimp only[i1] at h
 refine ra hx ?_
 refine AW.seq (cdh h rfl (fun If h=>?_) (fun If h=>?_))
 refine AW.skip (AW.seq ?_)
 obtain⟨C5,hy,h⟩:=ah h
 refine jn ((PE cx .normal (fun C5=>[(2,.pt 0 0),(4,.pt 1 0),(6,dI .i64 C5),(43,dL bL x8.1.vl),(44,dI .i64 ((x8.1.vl).length:Int)),(45,dI .i64 pW)]) fun C5=>⟨[(0,dC (aj.f cU)),(1,[dI .i64 x8.1.vm.vR,dI .i64 x8.1.vm.vC,dL aj x8.1.vm.vV,dL bL x8.1.vl])],[],2⟩) C5) ?_ ?_
 replace h:=hy
 refine AW.block (rs hx fun K hK=>?_)
 obtain⟨hc17,h⟩:=az h
 have hn18:(pW).toNat<(x8.1.vl).length:=by omega
 refine s1 (eh hc17 ss iI) ?_
 refine s1 (d:=dG bL ((x8.1.vl)[(pW).toNat]!)) (kN (c:=bL) (l:=x8.1.vl) (n:=(pW).toNat) (o:=0) iI hn18 (fm _ _ rfl)) ?_
 refine s1 (bq (F:=bL.f (⟨(0:Int),cU,false⟩:l8)) iI) ?_
 refine s0 (aO (b':=(x8.1.vl)[(pW).toNat]!) (an.id _ _) iI) ?_
 refine .nil (hK _ _ (rs hx fun K hK=>?_))
 refine sa ?_
 refine s1 (a6 (yO ((x8.1.vl)[(pW).toNat]!)) ge) ?_
 refine .nil (hK _ _ (cdh h rfl (fun Ap h=>?_) (fun Ap h=>?_)))
 refine rb hx ?_
 cases h
 exact pe0 h0 [0,1]
 refine AW.skip ?_
 cases h
 exact pe0 h0 [0,1]
 rintro ex tm' hp' ⟨rfl,hw⟩
 refine AW.weak hw (rb hx ?_)
 cases h
 exact PS.l (pe0 h0 [0,1])
 refine AW.exit ?_
 try dsimp only
 try simp only[bk,reduceIte,Nat.reduceEqDiff,reduceCtorEq]
 cases h
 exact PS.r ⟨by nofun,PE.i (wk h0 [0,1] (wR rfl (wR rfl (wR rfl wTn))) (vC rfl (vR rfl wVn)) wLn)⟩
 rintro ex tm' hp' ⟨rfl,hw⟩
 try dsimp only
 try simp only[bk,reduceIte,Nat.reduceEqDiff,reduceCtorEq]
 refine AW.weak hw (rs hx fun K hK=>?_)
 refine sa ?_
 refine scb h jf fun nq h=>?_
 refine s1 (bq (F:=aj.f cU) ay) ?_
 refine s0 (aO (b':=nq) (an.id _ _) ay) ?_
 refine .nil (hK _ _ (AW.seq (rs hx fun K hK=>?_)))
 refine sa ?_
 refine s1 (aP ss) ?_
 iterate 2 refine sa ?_
 refine .nil (hK _ _ (AW.block ?_))
 obtain⟨o0,hy,h⟩:=ah h
 refine lp (S:=Int×ak) (X:=ak) (fun (qm,Bf)=>[(2,.pt 0 0),(9,.pt 1 0),(57,dL bL x8.1.vl),(58,dI .i64 ((x8.1.vl).length:Int)),(59,dI .i64 qm)]) (fun (qm,Bf)=>⟨[(0,dC (aj.f cU)),(1,dC (aj.f Bf))],[],2⟩) (PE cx (.exit 3) (fun o0=>[(2,.pt 0 0),(9,.pt 1 0)]) fun o0=>⟨[(0,dC (aj.f cU)),(1,dC (aj.f o0))],[],2⟩) hy ?_ ?_ ?_
 exact wk h0 [0,2] (wR rfl (wR rfl (wR rfl (wR rfl (wR rfl wTn))))) (vC rfl (vC rfl wVn)) wLn
 clear hy h
 rintro⟨qm,Bf⟩ y h
 dsimp only[iZ] at h
 refine ra hx ?_
 refine AW.seq (cdh h rfl (fun xx h=>?_) (fun xx h=>?_))
 refine AW.skip (AW.seq (AW.block (rs hx fun K hK=>?_)))
 obtain⟨hc25,h⟩:=az h
 have Nq:(qm).toNat<(x8.1.vl).length:=by omega
 refine s1 (eh hc25 ss iI) ?_
 refine s1 (d:=dG bL ((x8.1.vl)[(qm).toNat]!)) (kN (c:=bL) (l:=x8.1.vl) (n:=(qm).toNat) (o:=0) iI Nq (fm _ _ rfl)) ?_
 refine s1 (bq (F:=bL.f (⟨(0:Int),cU,false⟩:l8)) iI) ?_
 refine s0 (aO (b':=(x8.1.vl)[(qm).toNat]!) (an.id _ _) iI) ?_
 refine .nil (hK _ _ (rq hx fun K hK=>?_))
 refine s1 (d:=dG aj Bf) (aD (an.id _ _) ay) ?_
 refine sa ?_
 refine s1 (aD (DK ((x8.1.vl)[(qm).toNat]!)) ay) ?_
 refine scb h sO fun wA h=>?_
 refine s0 (aO (b':=wA) (an.id _ _) ay) ?_
 refine .nil (hK _ _ (rb hx ?_))
 cases h
 exact PS.l (pe0 h0 [0,1])
 refine AW.exit ?_
 try dsimp only
 try simp only[bk,reduceIte,Nat.reduceEqDiff,reduceCtorEq]
 cases h
 exact PS.r ⟨by nofun,PE.i (wk h0 [0,1] (wR rfl (wR rfl wTn)) (vC rfl (vC rfl wVn)) wLn)⟩
 rintro ex tm' hp' ⟨rfl,hw⟩
 try dsimp only
 try simp only[bk,reduceIte,Nat.reduceEqDiff,reduceCtorEq]
 refine AW.weak hw (AW.seq (rs hx fun K hK=>?_))
 refine s1 (d:=dG aj o0) (aD (an.id _ _) ay) ?_
 refine scb h fx fun I7 h=>?_
 refine sa ?_
 refine .nil (hK _ _ (cdh h rfl (fun hb32 h=>?_) (fun hb32 h=>?_)))
 refine rs hx fun K hK=>?_
 refine s1 (d:=dG aj cU) (i8 (FL.nil _) ay) ?_
 obtain⟨wJ,HN,h⟩:=ah h
 replace HN:=eG HN
 refine s0 (jx (b':=cU) (an.id _ _) ay HN) ?_
 refine sa ?_
 refine .nil (hK _ _ (AW.ret ?_))
 cases h
 exact rv2
 refine AW.skip (rs hx fun K hK=>?_)
 refine s1 (d:=dG aj o0) (aD (an.id _ _) ay) ?_
 refine s0 (aO (b':=o0) (an.id _ _) ay) ?_
 refine sa ?_
 refine .nil (hK _ _ (AW.ret ?_))
 cases h
 exact rv2
def dP(nF:List Int)(mE:Int):Int→Option (Int⊕(Int⊕Unit)):=fun aV=>cnd (decide (aV<((nF).length:Int))) (gd (0≤aV∧aV<((nF).length:Int)) (cnd (decide (mE=((nF)[(aV).toNat]!))) (some (.inr (.inl aV))) (some (.inl (i64.wrap (aV+(1:Int))))))) (some (.inr (.inr ())))
def gi(nF:List Int)(mE:Int):Option Int:=bnd (a7 (dP nF mE) (0:Int)) fun y5=>match y5 with| .inl r=>some r| .inr ()=>some (-1:Int)
theorem rx {nF:List Int}{mE:Int}{r:Int}(h:gi nF mE=some r):aB prog 121 [dL (cI .i64) nF,dI .i64 mE] (dI .i64 r):=by
 refine bJ (rs:=[.tmp 4]) (fun cx hx h0=>?_) func121
 unfold gi at h
 refine ra hx ?_
 refine AW.seq (ra hx ?_)
 refine AW.block ?_
 obtain⟨y,hy,h⟩:=ah h
 refine lp (S:=Int) (X:=Int⊕Unit) (fun aV=>[(0,dL (cI .i64) nF),(1,dI .i64 mE),(7,dI .i64 ((nF).length:Int)),(8,dI .i64 aV)]) (fun aV=>⟨[],[],0⟩) (PS (PR [.tmp 4] fun r=>dI .i64 r) (PE cx (.exit 0) (fun ()=>[]) fun ()=>⟨[],[],0⟩)) hy ?_ ?_ ?_
 exact wk h0 [] (wR rfl (wR rfl (wR rfl (wR rfl wTn)))) wVn wLn
 clear hy h
 rintro aV y h
 dsimp only[dP] at h
 refine ra hx ?_
 refine AW.seq (cdh h rfl (fun cQ h=>?_) (fun cQ h=>?_))
 refine AW.skip (AW.seq (AW.block (ra hx ?_)))
 refine rs hx fun K hK=>?_
 iterate 3 refine sa ?_
 obtain⟨mR,h⟩:=az h
 have pH:(aV).toNat<(nF).length:=by omega
 refine s1 (eh mR bK aR) ?_
 refine s1 (nf (c:=(cI .i64)) (l:=nF) (n:=(aV).toNat) (o:=0) aR pH) ?_
 refine sa ?_
 refine .nil (hK _ _ (cdh h rfl (fun qy h=>?_) (fun qy h=>?_)))
 refine ra hx ?_
 refine AW.ret ?_
 cases h
 refine PS.r ⟨by nofun,PS.l (PR.i ?_)⟩
 exact rv1
 refine AW.skip (rb hx ?_)
 cases h
 exact PS.l (pe0 h0 [])
 refine AW.exit ?_
 try dsimp only
 try simp only[bk,reduceIte,Nat.reduceEqDiff,reduceCtorEq]
 cases h
 exact PS.r ⟨by nofun,PS.r (PE.i (wk h0 [] wTn wVn wLn))⟩
 rcases y with r|⟨⟩
 rintro ex tm' hp' ⟨rfl,hw⟩
 cases h
 exact hw
 rintro ex tm' hp' ⟨rfl,hw⟩
 try dsimp only
 try simp only[bk,reduceIte,Nat.reduceEqDiff,reduceCtorEq]
 refine AW.weak hw (ra hx ?_)
 refine AW.ret ?_
 cases h
 exact rv1
def cJ(nF:List Int)(mE:Int):Option Bool:=bnd (gi nF mE) fun x1=>some (decide ((0:Int)≤x1))
theorem lj {nF:List Int}{mE:Int}{r:Bool}(h:cJ nF mE=some r):aB prog 76 [dL (cI .i64) nF,dI .i64 mE] (dB r):=by
 refine bJ (rs:=[.tmp 4]) (fun cx hx h0=>?_) func76
 unfold cJ at h
 refine ra hx ?_
 refine rs hx fun K hK=>?_
 iterate 2 refine sa ?_
 refine scb h rx fun x1 h=>?_
 iterate 2 refine sa ?_
 refine .nil (hK _ _ (AW.ret ?_))
 cases h
 exact rv1
def ff(aY:aE)(i9:c5×Int):(List ak)×Int→Option (((List ak)×Int)⊕((List ak))):=fun (wm,Bg)=>cnd (decide (Bg<((i9.1.vl).length:Int))) (bnd (cv i9.1.vm Bg aY.vC) fun nq=>gd ((wm++[nq]).length*136≤140737488355328) (some (.inl (wm++[nq],i64.wrap (Bg+(1:Int)))))) (some (.inr wm))
def gD(aY:aE)(a8:List ak):Option ((List ak)×Int):=bnd (S:=Bool) (bnd (b9 [aY]) fun x1=>cnd (!x1) (some (true)) (cnd (decide (((a8).length:Int)≠aY.vR)) (some (true)) (bnd (dA a8) fun x5=>some (!x5)))) fun bQ=>cnd bQ (some (([]:List ak),(1:Int))) (bnd (gX aY (⟨aY.vR,(1:Int),a8⟩:aE)) fun x9=>cnd (decide (x9.2≠(0:Int))) (some (([]:List ak),x9.2)) (bnd (ee x9.1) fun i9=>cnd (decide (i9.2≠(0:Int))) (some (([]:List ak),i9.2)) (bnd (ce i9.1) fun uC=>bnd (cJ uC aY.vC) fun pl=>cnd pl (some (([]:List ak),(200:Int))) (cnd (decide (((i9.1.vl).length:Int)<aY.vC)) (some (([]:List ak),(70:Int))) (bnd (a7 (ff aY i9) (([]:List ak),(0:Int))) fun tT=>some (tT,(0:Int)))))))
theorem po {aY:aE}{a8:List ak}{r:(List ak)×Int}(h:gD aY a8=some r):aB prog 29 [dG a9 aY,dL aj a8] (.tu [dL aj r.1,dI .i64 r.2]):=by
 refine bJ (rs:=[.tmp 4,.tmp 5]) (fun cx hx h0=>?_) func29
 unfold gD at h
 refine rs hx fun K hK=>?_
 refine s1 (d:=.pt 0 0) ka ?_
 refine s1 (d:=dO 1 aj ([]:List ak)) (d8 aJ ay) ?_
 refine sa ?_
 refine .nil (hK _ _ ?_)
 iterate 2 refine AW.seq ?_
 obtain⟨bQ,hy,h⟩:=ah h
 refine jn ((PE cx .normal (fun bQ=>[(1,dL aj a8),(2,.pt 0 0),(26,dB bQ)]) fun bQ=>⟨[(0,[dI .i64 aY.vR,dI .i64 aY.vC,dL aj aY.vV])],[],1⟩) bQ) ?_ ?_
 replace h:=hy
 refine rq hx fun K hK=>?_
 refine s1 (d:=dG a9 aY) (cm aG) ?_
 refine s1 (d:=dO 2 a9 [aY]) (jL sS aG) ?_
 refine scb h iH fun x1 h=>?_
 iterate 2 refine sa ?_
 rcases bP (!x1) with bn|bn
 replace h:=ba bn h
 iterate 5 refine aK rfl rfl bn ?_
 refine s1 (am bn) ?_
 refine sa ?_
 iterate 3 refine aK rfl rfl rfl ?_
 refine s1 (am rfl) ?_
 refine .nil (hK _ _ ?_)
 cases h
 exact pe0 h0 [0]
 replace h:=bb bn h
 iterate 3 refine ga bn ?_
 refine g1 bn (aP aR) ?_
 refine ga bn ?_
 refine s1 (ax bn) ?_
 refine sa ?_
 rcases bP (decide (((a8).length:Int)≠aY.vR)) with qy|qy
 replace h:=ba qy h
 iterate 3 refine aK rfl rfl qy ?_
 refine s1 (am qy) ?_
 refine .nil (hK _ _ ?_)
 cases h
 exact pe0 h0 [0]
 replace h:=bb qy h
 refine ga qy ?_
 obtain⟨x5,DO,h⟩:=ah h
 refine g1 qy (c9 rfl (lM DO) rfl (lA (av _) lAn) (.inl rfl)) ?_
 refine ga qy ?_
 refine s1 (ax qy) ?_
 refine .nil (hK _ _ ?_)
 cases h
 exact pe0 h0 [0]
 rintro ex tm' hp' ⟨rfl,hw⟩
 refine AW.weak hw (cdh h rfl (fun pg h=>?_) (fun pg h=>?_))
 refine rs hx fun K hK=>?_
 refine s1 (d:=dO 1 aj ([]:List ak)) (d8 aJ ay) ?_
 refine sa ?_
 refine .nil (hK _ _ (AW.ret ?_))
 cases h
 exact gQ.mk2 (c7 rfl (c7 rfl (.inr ⟨_,_,(qd _),(av _),⟨rfl,rfl⟩,rfl⟩)))
 refine AW.skip (rs hx fun K hK=>?_)
 refine s1 (d:=dG a9 aY) (cm aG) ?_
 refine sa ?_
 refine s1 (aP aR) ?_
 refine sa ?_
 refine s1 (d:=dG a9 (⟨aY.vR,(1:Int),a8⟩:aE)) (ez aG) ?_
 refine scb h yL fun x9 h=>?_
 iterate 3 refine sa ?_
 refine s1 (d:=.pt 1 0) (cr aG) ?_
 refine s0 (gv (ds':=[dI .i64 x9.1.vR,dI .i64 x9.1.vC,dL aj x9.1.vV]) aG) ?_
 refine sa ?_
 refine .nil (hK _ _ (AW.seq (ra hx ?_)))
 refine cdh h rfl (fun NN h=>?_) (fun NN h=>?_)
 refine rs hx fun K hK=>?_
 refine sa ?_
 refine s1 (d:=dO 2 aj ([]:List ak)) (d8 aJ ay) ?_
 refine sa ?_
 refine .nil (hK _ _ (AW.ret ?_))
 cases h
 exact gQ.mk2 (c7 rfl (c7 rfl (.inr ⟨_,_,(qd _),(av _),⟨rfl,rfl⟩,rfl⟩)))
 refine AW.skip (rs hx fun K hK=>?_)
 refine s1 (d:=dG a9 x9.1) (cm aG) ?_
 refine scb h l5 fun i9 h=>?_
 iterate 3 refine sa ?_
 refine s1 (d:=.pt 2 0) (cr jy) ?_
 refine s0 (gv (ds':=[dI .i64 i9.1.vm.vR,dI .i64 i9.1.vm.vC,dL aj i9.1.vm.vV,dL bL i9.1.vl]) jy) ?_
 refine sa ?_
 refine .nil (hK _ _ (AW.seq (AW.block (ra hx ?_))))
 refine cdh h rfl (fun mf h=>?_) (fun mf h=>?_)
 refine rs hx fun K hK=>?_
 refine sa ?_
 refine s1 (d:=dO 3 aj ([]:List ak)) (d8 aJ ay) ?_
 refine sa ?_
 refine .nil (hK _ _ (AW.ret ?_))
 cases h
 exact gQ.mk2 (c7 rfl (c7 rfl (.inr ⟨_,_,(qd _),(av _),⟨rfl,rfl⟩,rfl⟩)))
 refine rsd [76] hx fun K hK=>?_
 refine s1 (d:=dG pk i9.1) (cm jy) ?_
 obtain⟨uC,hx16,h⟩:=ah h
 refine s1 (EO rfl (jV hx16) (by simp only[e8,gL,js,lE,iC,iB];exact bh _ _) (lA (av _) lAn)) ?_
 refine sa ?_
 refine s1 (aP aR) ?_
 refine cqb h lj fun pl h=>?_
 refine sa ?_
 refine .nil (hK _ _ (cdh h rfl (fun Ap h=>?_) (fun Ap h=>?_)))
 refine rs hx fun K hK=>?_
 refine s1 (d:=dO 4 aj ([]:List ak)) (d8 aJ ay) ?_
 refine sa ?_
 refine .nil (hK _ _ (AW.ret ?_))
 cases h
 exact gQ.mk2 (c7 rfl (c7 rfl (.inr ⟨_,_,(qd _),(av _),⟨rfl,rfl⟩,rfl⟩)))
 refine rs hx fun K hK=>?_
 refine sa ?_
 refine s1 (aP ss) ?_
 iterate 2 refine sa ?_
 refine s1 (aP aR) ?_
 iterate 2 refine sa ?_
 refine .nil (hK _ _ (cdh h rfl (fun uU h=>?_) (fun uU h=>?_)))
 refine rs hx fun K hK=>?_
 refine s1 (d:=dO 4 aj ([]:List ak)) (d8 aJ ay) ?_
 refine sa ?_
 refine .nil (hK _ _ (AW.ret ?_))
 cases h
 exact gQ.mk2 (c7 rfl (c7 rfl (.inr ⟨_,_,(qd _),(av _),⟨rfl,rfl⟩,rfl⟩)))
 refine AW.skip (rs hx fun K hK=>?_)
 refine s1 (d:=dO 4 aj ([]:List ak)) (d8 aJ ay) ?_
 refine .nil (hK _ _ (AW.seq (rs hx fun K hK=>?_)))
 refine sa ?_
 refine s1 (aP ss) ?_
 iterate 2 refine sa ?_
 refine .nil (hK _ _ (AW.block ?_))
 obtain⟨tT,hy,h⟩:=ah h
 refine lp (S:=(List ak)×Int) (X:=(List ak)) (fun (wm,Bg)=>[(2,.pt 0 0),(8,.pt 1 0),(9,dO 2 aj wm),(63,dI .i64 ((i9.1.vl).length:Int)),(64,dI .i64 Bg)]) (fun (wm,Bg)=>⟨[(0,[dI .i64 aY.vR,dI .i64 aY.vC,dL aj aY.vV]),(1,[dI .i64 i9.1.vm.vR,dI .i64 i9.1.vm.vC,dL aj i9.1.vm.vV,dL bL i9.1.vl])],[(2,(wm).length,36,34)],3⟩) (PE cx (.exit 1) (fun tT=>[(9,dO 0 aj tT)]) fun tT=>⟨[],[(0,(tT).length,36,34)],1⟩) hy ?_ ?_ ?_
 exact wk h0 [0,2,4] (wR rfl (wR rfl (wR rfl (wR rfl (wR rfl wTn))))) (vR rfl (vR rfl wVn)) (wL rfl rfl wLn)
 clear hy h
 rintro⟨wm,Bg⟩ y h
 dsimp only[ff] at h
 refine ra hx ?_
 refine AW.seq (cdh h rfl (fun D4 h=>?_) (fun D4 h=>?_))
 refine AW.skip (AW.seq (AW.block (ra hx ?_)))
 refine rq hx fun K hK=>?_
 iterate 2 refine sa ?_
 refine s1 (d:=dG a9 i9.1.vm) (cm aG) ?_
 iterate 2 refine sa ?_
 refine s1 (aP aR) ?_
 refine scb h ko fun nq h=>?_
 refine s1 (pX ([nq]:List ak) aj aJ ay) ?_
 obtain⟨v5,h⟩:=az h
 refine s1 (d:=dO 2 aj (wm++[nq])) (j4 aJ ay v5) ?_
 refine sa ?_
 refine .nil (hK _ _ (rb hx ?_))
 cases h
 exact PS.l (pe0 h0 [0,1,2])
 refine AW.exit ?_
 try dsimp only
 try simp only[bk,reduceIte,Nat.reduceEqDiff,reduceCtorEq]
 cases h
 exact PS.r ⟨by nofun,PE.i (wk h0 [2] (wR rfl wTn) wVn (wL rfl rfl wLn))⟩
 rintro ex tm' hp' ⟨rfl,hw⟩
 try dsimp only
 try simp only[bk,reduceIte,Nat.reduceEqDiff,reduceCtorEq]
 refine AW.weak hw (ra hx ?_)
 refine AW.ret ?_
 cases h
 exact gQ.mk2 (c7 rfl (c7 rfl (.inr ⟨_,_,(qd _),(av _),⟨rfl,rfl⟩,rfl⟩)))
def kI(gI:Int)(eK:Int)(cT:c5)(jz:aE):Option ak:=bnd (cv cT.vm gI (i64.wrap (jz.vR+eK))) fun x1=>some x1
def kG(eC:Int)(cT:c5)(jz:aE)(aQ:Int):Int×(List ak)→Option ((Int×(List ak))⊕((List ak))):=fun (dE,cw)=>cnd (decide (dE<eC)) (bnd (kI aQ dE cT jz) fun x3=>gd ((cw++[x3]).length*136≤140737488355328) (some (.inl (i64.wrap (dE+(1:Int)),cw++[x3])))) (some (.inr cw))
def lB(fU:Int)(eC:Int)(cT:c5)(jz:aE):Int×(List ak)→Option ((Int×(List ak))⊕((List ak))):=fun (aQ,aZ)=>cnd (decide (aQ<fU)) (bnd (a7 (kG eC cT jz aQ) ((0:Int),aZ)) fun dX=>some (.inl (i64.wrap (aQ+(1:Int)),dX))) (some (.inr aZ))
def kZ(fU:Int)(eC:Int)(cT:c5)(jz:aE):Option (aE×Int):=bnd (a7 (lB fU eC cT jz) ((0:Int),([]:List ak))) fun aN=>bnd (dA aN) fun x8=>cnd (!x8) (some ((⟨(0:Int),(0:Int),([]:List ak)⟩:aE),(30:Int))) (some ((⟨fU,eC,aN⟩:aE),(0:Int)))
def iq(t9:c5×Int):Int→Option (Int⊕((aE×Int)⊕Unit)):=fun C7=>cnd (decide (C7<((t9.1.vl).length:Int))) (gd (0≤C7∧C7<((t9.1.vl).length:Int)) (cnd (decide ((((t9.1.vl)[(C7).toNat]!).vcol)≠C7)) (some (.inr (.inl ((⟨(0:Int),(0:Int),([]:List ak)⟩:aE),(70:Int))))) (some (.inl (i64.wrap (C7+(1:Int))))))) (some (.inr (.inr ())))
def qY(eJ:aE):Option (aE×Int):=bnd (S:=Bool) (bnd (b9 [eJ]) fun x1=>cnd (!x1) (some (true)) (some (decide (eJ.vR≠eJ.vC)))) fun bQ=>cnd bQ (some ((⟨(0:Int),(0:Int),([]:List ak)⟩:aE),(1:Int))) (bnd (fO eJ.vR) fun x6=>bnd (gX eJ x6) fun x8=>cnd (decide (x8.2≠(0:Int))) (some ((⟨(0:Int),(0:Int),([]:List ak)⟩:aE),x8.2)) (bnd (ee x8.1) fun t9=>cnd (decide (t9.2≠(0:Int))) (some ((⟨(0:Int),(0:Int),([]:List ak)⟩:aE),t9.2)) (bnd (a7 (iq t9) (0:Int)) fun y18=>match y18 with| .inl r=>some r| .inr ()=>bnd (kZ eJ.vR eJ.vR t9.1 eJ) fun I8=>some (I8.1,I8.2))))
def im(x4:c5×Int)(x7:List Int)(kL:Int)(uC:List ak):Int×(List ak)→Option ((Int×(List ak))⊕((List ak))):=fun (nb,uA)=>cnd (decide (nb<((x7).length:Int))) (bnd (S:=(List ak)) (gd (0≤nb∧nb<((x7).length:Int)) (cnd (decide (((x7)[(nb).toNat]!)<kL)) (bnd (cv x4.1.vm nb kL) fun Ly=>bnd (ij Ly) fun wA=>gd (0≤(x7)[(nb).toNat]!∧(x7)[(nb).toNat]! <(((uC).length:Nat):Int)∧(x7)[(nb).toNat]! <((uA).length:Int)) (some ((uA).set (((x7)[(nb).toNat]!).toNat) wA))) (some (uA)))) fun C2=>some (.inl (i64.wrap (nb+(1:Int)),C2))) (some (.inr uA))
def io(eJ:aE)(x4:c5×Int)(x7:List Int):(List (List ak))×Int→Option (((List (List ak))×Int)⊕((List (List ak)))):=fun (f9,kL)=>cnd (decide (kL<eJ.vC)) (bnd (S:=(List (List ak))) (bnd (cJ x7 kL) fun nr=>cnd nr (some (f9)) (bnd (ek (0:Int)) fun qq=>bnd (fX [qq] eJ.vC) fun uC=>bnd (ek (1:Int)) fun pl=>gd (0≤kL∧kL<(((uC).length:Nat):Int)∧kL<((uC).length:Int)) (bnd (a7 (im x4 x7 kL uC) ((0:Int),(uC).set ((kL).toNat) pl)) fun pc=>gd ((uC).length=(pc).length) (gd ((f9++[pc]).length*24≤140737488355328) (some (f9++[pc])))))) fun Bj=>some (.inl (Bj,i64.wrap (kL+(1:Int))))) (some (.inr f9))
def jT(eJ:aE):Option ((List (List ak))×Int):=bnd (b9 [eJ]) fun x1=>cnd (!x1) (some (([]:List (List ak)),(1:Int))) (bnd (ee eJ) fun x4=>cnd (decide (x4.2≠(0:Int))) (some (([]:List (List ak)),x4.2)) (bnd (ce x4.1) fun x7=>bnd (a7 (io eJ x4 x7) (([]:List (List ak)),(0:Int))) fun tX=>some (tX,(0:Int))))
theorem BT {eJ:aE}{r:(List (List ak))×Int}(h:jT eJ=some r):aB prog 21 [dG a9 eJ] (.tu [dL (cL aj) r.1,dI .i64 r.2]):=by
 refine bJ (rs:=[.tmp 2,.tmp 3]) (fun cx hx h0=>?_) func21
 unfold jT at h
 refine rs hx fun K hK=>?_
 refine s1 (d:=.pt 0 0) ka ?_
 refine s1 (d:=dO 1 (cL aj) ([]:List (List ak))) (d8 lN aJ) ?_
 refine sa ?_
 refine .nil (hK _ _ (AW.seq (rs hx fun K hK=>?_)))
 refine s1 (d:=dG a9 eJ) (cm aG) ?_
 refine s1 (d:=dO 2 a9 [eJ]) (jL sS aG) ?_
 refine scb h iH fun x1 h=>?_
 refine sa ?_
 refine .nil (hK _ _ (cdh h rfl (fun bn h=>?_) (fun bn h=>?_)))
 refine rs hx fun K hK=>?_
 refine s1 (d:=dO 3 (cL aj) ([]:List (List ak))) (d8 lN aJ) ?_
 refine sa ?_
 refine .nil (hK _ _ (AW.ret ?_))
 cases h
 exact gQ.mk2 (c7 rfl (c7 rfl (.inr ⟨_,_,(qd _),(av _),⟨rfl,rfl⟩,rfl⟩)))
 refine AW.skip (rs hx fun K hK=>?_)
 refine s1 (d:=dG a9 eJ) (cm aG) ?_
 refine scb h l5 fun x4 h=>?_
 iterate 3 refine sa ?_
 refine s1 (d:=.pt 3 0) (cr jy) ?_
 refine s0 (gv (ds':=[dI .i64 x4.1.vm.vR,dI .i64 x4.1.vm.vC,dL aj x4.1.vm.vV,dL bL x4.1.vl]) jy) ?_
 refine sa ?_
 refine .nil (hK _ _ (AW.seq (ra hx ?_)))
 refine cdh h rfl (fun ej h=>?_) (fun ej h=>?_)
 refine rs hx fun K hK=>?_
 refine sa ?_
 refine s1 (d:=dO 4 (cL aj) ([]:List (List ak))) (d8 lN aJ) ?_
 refine sa ?_
 refine .nil (hK _ _ (AW.ret ?_))
 cases h
 exact gQ.mk2 (c7 rfl (c7 rfl (.inr ⟨_,_,(qd _),(av _),⟨rfl,rfl⟩,rfl⟩)))
 refine AW.skip (rs hx fun K hK=>?_)
 refine s1 (d:=dG pk x4.1) (cm jy) ?_
 obtain⟨x7,Aa,h⟩:=ah h
 refine s1 (EO rfl (jV Aa) (by simp only[e8,gL,js,lE,iC,iB];exact bh _ _) (lA (av _) lAn)) ?_
 refine sa ?_
 refine .nil (hK _ _ (rs hx fun K hK=>?_))
 refine s1 (d:=dO 5 (cL aj) ([]:List (List ak))) (d8 lN aJ) ?_
 refine .nil (hK _ _ (AW.seq (rs hx fun K hK=>?_)))
 refine sa ?_
 refine s1 (aP aR) ?_
 refine sa ?_
 refine .nil (hK _ _ (AW.block ?_))
 obtain⟨tX,hy,h⟩:=ah h
 refine lp (S:=(List (List ak))×Int) (X:=(List (List ak))) (fun (f9,kL)=>[(1,.pt 0 0),(4,.pt 1 0),(6,dO 2 (cI .i64) x7),(7,dO 3 (cL aj) f9),(27,dI .i64 eJ.vC),(28,dI .i64 kL)]) (fun (f9,kL)=>⟨[(0,[dI .i64 eJ.vR,dI .i64 eJ.vC,dL aj eJ.vV]),(1,[dI .i64 x4.1.vm.vR,dI .i64 x4.1.vm.vC,dL aj x4.1.vm.vV,dL bL x4.1.vl])],[(2,(x7).length,1,3),(3,(f9).length,1,22)],4⟩) (PE cx (.exit 0) (fun tX=>[(7,dO 0 (cL aj) tX)]) fun tX=>⟨[],[(0,(tX).length,1,22)],1⟩) hy ?_ ?_ ?_
 exact wk h0 [0,3,4,5] (wR rfl (wR rfl (wR rfl (wR rfl (wR rfl (wR rfl wTn)))))) (vR rfl (vR rfl wVn)) (wL rfl rfl (wL rfl rfl wLn))
 clear hy h
 rintro⟨f9,kL⟩ y h
 dsimp only[io] at h
 refine ra hx ?_
 refine AW.seq (cdh h rfl (fun DY h=>?_) (fun DY h=>?_))
 refine AW.skip (AW.seq ?_)
 obtain⟨Bj,hy,h⟩:=ah h
 refine jn ((PE cx .normal (fun Bj=>[(1,.pt 0 0),(4,.pt 1 0),(6,dO 2 (cI .i64) x7),(7,dO 3 (cL aj) Bj),(27,dI .i64 eJ.vC),(28,dI .i64 kL)]) fun Bj=>⟨[(0,[dI .i64 eJ.vR,dI .i64 eJ.vC,dL aj eJ.vV]),(1,[dI .i64 x4.1.vm.vR,dI .i64 x4.1.vm.vC,dL aj x4.1.vm.vV,dL bL x4.1.vl])],[(2,(x7).length,1,3),(3,(Bj).length,1,22)],4⟩) Bj) ?_ ?_
 replace h:=hy
 refine AW.block (ra hx ?_)
 refine AW.seq (rs hx fun K hK=>?_)
 iterate 2 refine sa ?_
 refine scb h lj fun nr h=>?_
 refine .nil (hK _ _ (cdh h rfl (fun td h=>?_) (fun td h=>?_)))
 refine AW.exit ?_
 try dsimp only
 try simp only[bk,reduceIte,Nat.reduceEqDiff,reduceCtorEq]
 cases h
 exact pe0 h0 [0,1,2,3]
 refine AW.skip (rsd [60] hx fun K hK=>?_)
 refine cqb h jf fun qq h=>?_
 refine s1 (qp ([qq]:List ak) aj aJ ay) ?_
 refine sa ?_
 refine s1 (aP aR) ?_
 obtain⟨uC,hx16,h⟩:=ah h
 refine sC0 (d:=.ow 5 0 36 ((uC).length)) (hp':=⟨[(5,dC ((cW aj).f uC)),(0,[dI .i64 eJ.vR,dI .i64 eJ.vC,dL aj eJ.vV]),(1,[dI .i64 x4.1.vm.vR,dI .i64 x4.1.vm.vC,dL aj x4.1.vm.vV,dL bL x4.1.vl])],[(2,(x7).length,1,3),(3,(f9).length,1,22)],6⟩) (t5 hx16) (ARs.cons (AR.le (qd _) rfl) (ARs.cons (AR.le (av _) rfl) ARs.nil)) (tF.l _ _) ?_
 refine sa ?_
 refine .nil (hK _ _ (rs hx fun K hK=>?_))
 iterate 2 refine sa ?_
 refine scb h jf fun pl h=>?_
 obtain⟨hc19,h⟩:=az h
 have hn20:(kL).toNat<(uC).length:=by omega
 refine s1 (om ⟨hc19.1,hc19.2.1⟩ aJ ay) ?_
 refine s0 (aO (b':=pl) (an.seqW aj uC ((kL).toNat) hn20) ay) ?_
 refine .nil (hK _ _ (AW.seq (ra hx ?_)))
 refine AW.block ?_
 obtain⟨pc,hy,h⟩:=ah h
 refine lp (S:=Int×(List ak)) (X:=(List ak)) (fun (nb,uA)=>[(1,.pt 0 0),(4,.pt 1 0),(6,dO 2 (cI .i64) x7),(7,dO 3 (cL aj) f9),(8,dI .i64 kL),(9,.ow 4 0 36 ((uC).length)),(27,dI .i64 eJ.vC),(28,dI .i64 kL),(43,dO 2 (cI .i64) x7),(44,dI .i64 ((x7).length:Int)),(45,dI .i64 nb)]) (fun (nb,uA)=>⟨[(0,[dI .i64 eJ.vR,dI .i64 eJ.vC,dL aj eJ.vV]),(1,[dI .i64 x4.1.vm.vR,dI .i64 x4.1.vm.vC,dL aj x4.1.vm.vV,dL bL x4.1.vl]),(4,dC ((cW aj).f uA))],[(2,(x7).length,1,3),(3,(f9).length,1,22)],5⟩) (PE cx (.exit 2) (fun pc=>[(1,.pt 0 0),(4,.pt 1 0),(6,dO 2 (cI .i64) x7),(7,dO 3 (cL aj) f9),(9,.ow 4 0 36 ((uC).length)),(27,dI .i64 eJ.vC),(28,dI .i64 kL)]) fun pc=>⟨[(0,[dI .i64 eJ.vR,dI .i64 eJ.vC,dL aj eJ.vV]),(1,[dI .i64 x4.1.vm.vR,dI .i64 x4.1.vm.vC,dL aj x4.1.vm.vV,dL bL x4.1.vl]),(4,dC ((cW aj).f pc))],[(2,(x7).length,1,3),(3,(f9).length,1,22)],5⟩) hy ?_ ?_ ?_
 exact wk h0 [0,1,2,3,5] (wR rfl (wR rfl (wR rfl (wR rfl (wR rfl (wR rfl (wR rfl (wR rfl (wR rfl (wR rfl (wR rfl wTn))))))))))) (vR rfl (vR rfl (vC rfl wVn))) (wL rfl rfl (wL rfl rfl wLn))
 clear hy h
 rintro⟨nb,uA⟩ y h
 dsimp only[im] at h
 refine ra hx ?_
 refine AW.seq (cdh h rfl (fun D4 h=>?_) (fun D4 h=>?_))
 refine AW.skip (AW.seq ?_)
 obtain⟨C2,hy,h⟩:=ah h
 refine jn ((PE cx .normal (fun C2=>[(1,.pt 0 0),(4,.pt 1 0),(6,dO 2 (cI .i64) x7),(7,dO 3 (cL aj) f9),(8,dI .i64 kL),(9,.ow 4 0 36 ((uC).length)),(27,dI .i64 eJ.vC),(28,dI .i64 kL),(43,dO 2 (cI .i64) x7),(44,dI .i64 ((x7).length:Int)),(45,dI .i64 nb)]) fun C2=>⟨[(0,[dI .i64 eJ.vR,dI .i64 eJ.vC,dL aj eJ.vV]),(1,[dI .i64 x4.1.vm.vR,dI .i64 x4.1.vm.vC,dL aj x4.1.vm.vV,dL bL x4.1.vl]),(4,dC ((cW aj).f C2))],[(2,(x7).length,1,3),(3,(f9).length,1,22)],5⟩) C2) ?_ ?_
 replace h:=hy
 refine AW.block (rs hx fun K hK=>?_)
 refine sa ?_
 obtain⟨DV,h⟩:=az h
 have hn23:(nb).toNat<(x7).length:=by omega
 refine s1 (eh DV bK aR) ?_
 refine s1 (nf (c:=(cI .i64)) (l:=x7) (n:=(nb).toNat) (o:=0) aR hn23) ?_
 iterate 2 refine sa ?_
 refine .nil (hK _ _ (ra hx ?_))
 refine cdh h rfl (fun xx h=>?_) (fun xx h=>?_)
 refine rq hx fun K hK=>?_
 iterate 3 refine sa ?_
 refine s1 (d:=dG a9 x4.1.vm) (cm aG) ?_
 iterate 2 refine sa ?_
 refine scb h ko fun Ly h=>?_
 refine scb h p9 fun wA h=>?_
 obtain⟨hc29,h⟩:=az h
 have hn30:((x7)[(nb).toNat]!).toNat<(uA).length:=by omega
 refine s1 (om ⟨hc29.1,hc29.2.1⟩ aJ ay) ?_
 refine s0 (aO (b':=wA) (an.seqW aj uA (((x7)[(nb).toNat]!).toNat) hn30) ay) ?_
 refine .nil (hK _ _ ?_)
 cases h
 exact pe0 h0 [0,1,2,3,4]
 refine AW.skip ?_
 cases h
 exact pe0 h0 [0,1,2,3,4]
 rintro ex tm' hp' ⟨rfl,hw⟩
 refine AW.weak hw (rb hx ?_)
 cases h
 exact PS.l (pe0 h0 [0,1,2,3,4])
 refine AW.exit ?_
 try dsimp only
 try simp only[bk,reduceIte,Nat.reduceEqDiff,reduceCtorEq]
 cases h
 exact PS.r ⟨by nofun,PE.i (wk h0 [0,1,2,3,4] (wR rfl (wR rfl (wR rfl (wR rfl (wR rfl (wR rfl (wR rfl wTn))))))) (vR rfl (vR rfl (vC rfl wVn))) (wL rfl rfl (wL rfl rfl wLn)))⟩
 rintro ex tm' hp' ⟨rfl,hw⟩
 try dsimp only
 try simp only[bk,reduceIte,Nat.reduceEqDiff,reduceCtorEq]
 refine AW.weak hw (rq hx fun K hK=>?_)
 iterate 2 refine sa ?_
 obtain⟨hc33,h⟩:=az h
 refine fzO aj (n:=(uC).length) 4 [9,64] hc33 ?_ (all2 rfl (all1 rfl))
 refine s1 (d:=dO 5 (cL aj) [pc]) (jL lN aJ) ?_
 obtain⟨hc34,h⟩:=az h
 refine s1 (d:=dO 3 (cL aj) (f9++[pc])) (j4 lN aJ hc34) ?_
 refine sa ?_
 refine .nil (hK _ _ ?_)
 cases h
 exact pe0 h0 [0,1,2,3]
 rintro ex tm' hp' ⟨rfl,hw⟩
 refine AW.weak hw (rb hx ?_)
 cases h
 exact PS.l (pe0 h0 [0,1,2,3])
 refine AW.exit ?_
 try dsimp only
 try simp only[bk,reduceIte,Nat.reduceEqDiff,reduceCtorEq]
 cases h
 exact PS.r ⟨by nofun,PE.i (wk h0 [3] (wR rfl wTn) wVn (wL rfl rfl wLn))⟩
 rintro ex tm' hp' ⟨rfl,hw⟩
 try dsimp only
 try simp only[bk,reduceIte,Nat.reduceEqDiff,reduceCtorEq]
 refine AW.weak hw (ra hx ?_)
 refine AW.ret ?_
 cases h
 exact gQ.mk2 (c7 rfl (c7 rfl (.inr ⟨_,_,(qd _),(av _),⟨rfl,rfl⟩,rfl⟩)))
def eW(gI:Int)(eK:Int)(cT:aE):Option ak:=bnd (cv cT gI eK) fun x1=>some x1
theorem nt {gI:Int}{eK:Int}{cT:aE}{r:ak}(h:eW gI eK cT=some r):HC prog 80 [dI .i64 gI,dI .i64 eK,.pt 0 0] ⟨[(0,[dI .i64 cT.vR,dI .i64 cT.vC,dL aj cT.vV])],[],1⟩ (dG aj r) ⟨[(0,[dI .i64 cT.vR,dI .i64 cT.vC,dL aj cT.vV])],[],1⟩:=by
 refine HC.ofX (rs:=[.cell 5 34]) tok func80 rfl rfl (cg rfl) rfl (fun cx hx h1=>?_)
 have h0:cx.hp0.next=1:=by rw[h1]
 simp only[eZ,Nat.reduceAdd,bE]
 unfold eW at h
 refine rs hx fun K hK=>?_
 refine s1 (bq (F:=aj.f cU) ay) ?_
 refine .nil (hK _ _ (rs hx fun K hK=>?_))
 refine s1 (d:=dG a9 cT) (cm aG) ?_
 iterate 2 refine sa ?_
 refine scb h ko fun x1 h=>?_
 refine s0 (aO (b':=x1) (an.id _ _) ay) ?_
 refine .nil (hK _ _ (AW.ret ?_))
 cases h
 exact⟨_,uL rfl ay rfl rfl (ltb rfl) (aj.h _) (rfl),yd.of_wk (by rw[hx];exact cg rfl) (wkN h0 [] (wG rfl (av _) wTn) (vR rfl wVn) wLn)⟩
def ik(eC:Int)(cT:aE)(aQ:Int):Int×(List ak)→Option ((Int×(List ak))⊕((List ak))):=fun (dE,cw)=>cnd (decide (dE<eC)) (bnd (eW aQ dE cT) fun x3=>gd ((cw++[x3]).length*136≤140737488355328) (some (.inl (i64.wrap (dE+(1:Int)),cw++[x3])))) (some (.inr cw))
def iE(fU:Int)(eC:Int)(cT:aE):Int×(List ak)→Option ((Int×(List ak))⊕((List ak))):=fun (aQ,aZ)=>cnd (decide (aQ<fU)) (bnd (a7 (ik eC cT aQ) ((0:Int),aZ)) fun dX=>some (.inl (i64.wrap (aQ+(1:Int)),dX))) (some (.inr aZ))
def iX(fU:Int)(eC:Int)(cT:aE):Option (aE×Int):=bnd (a7 (iE fU eC cT) ((0:Int),([]:List ak))) fun aN=>bnd (dA aN) fun x8=>cnd (!x8) (some ((⟨(0:Int),(0:Int),([]:List ak)⟩:aE),(30:Int))) (some ((⟨fU,eC,aN⟩:aE),(0:Int)))
theorem wM {fU:Int}{eC:Int}{cT:aE}{r:aE×Int}(h:iX fU eC cT=some r):HC prog 73 [dI .i64 fU,dI .i64 eC,.fn 80 [0]] ⟨[(0,[dI .i64 cT.vR,dI .i64 cT.vC,dL aj cT.vV])],[],1⟩ (.tu [dG a9 r.1,dI .i64 r.2]) ⟨[(0,[dI .i64 cT.vR,dI .i64 cT.vC,dL aj cT.vV])],[],1⟩:=by
 refine HC.ofX (rs:=[.cell 6 24,.tmp 7]) tok func73 rfl rfl (cg rfl) rfl (fun cx hx h1=>?_)
 have h0:cx.hp0.next=1:=by rw[h1]
 simp only[eZ,Nat.reduceAdd,bE]
 unfold iX at h
 refine rs hx fun K hK=>?_
 refine s1 (d:=.pt 1 0) (cr aG) ?_
 refine sa ?_
 refine .nil (hK _ _ (rs hx fun K hK=>?_))
 iterate 2 refine sa ?_
 refine s1 (d:=.ag [dI .i64 fU,dI .i64 eC,dN]) (ez aG) ?_
 refine s1 (d:=.pt 2 0) (cr aG) ?_
 refine s0 (gv (ds':=[dI .i64 fU,dI .i64 eC,dN]) aG) ?_
 refine .nil (hK _ _ (AW.seq (ra hx ?_)))
 refine AW.block ?_
 obtain⟨aN,hy,h⟩:=ah h
 refine lp (S:=Int×(List ak)) (X:=(List ak)) (fun (aQ,aZ)=>[(1,dI .i64 eC),(2,.fn 80 [0]),(6,.pt 1 0),(8,.pt 2 0),(14,dI .i64 fU),(15,dI .i64 aQ)]) (fun (aQ,aZ)=>⟨[(0,[dI .i64 cT.vR,dI .i64 cT.vC,dL aj cT.vV]),(1,[dI .i64 (0:Int),dI .i64 (0:Int),dN]),(2,[dI .i64 fU,dI .i64 eC,dO 3 aj aZ])],[(3,(aZ).length,36,34)],4⟩) (PE cx (.exit 0) (fun aN=>[(6,.pt 1 0),(8,.pt 2 0)]) fun aN=>⟨[(0,[dI .i64 cT.vR,dI .i64 cT.vC,dL aj cT.vV]),(1,[dI .i64 (0:Int),dI .i64 (0:Int),dN]),(2,[dI .i64 fU,dI .i64 eC,dO 3 aj aN])],[(3,(aN).length,36,34)],4⟩) hy ?_ ?_ ?_
 exact Wk.trans (Wk.nilOwn (ds':=[dI .i64 fU,dI .i64 eC,dO 3 aj ([]:List ak)]) 2 2 34 36) (wkN h0 [1,2,3] (wR rfl (wR rfl (wR rfl (wR rfl (wR rfl (wR rfl wTn)))))) (vR rfl (vR rfl (vR rfl wVn))) (wL rfl rfl wLn))
 clear hy h
 rintro⟨aQ,aZ⟩ y h
 dsimp only[iE] at h
 refine ra hx ?_
 refine AW.seq (cdh h rfl (fun cQ h=>?_) (fun cQ h=>?_))
 refine AW.skip (AW.seq (AW.block ?_))
 iterate 2 refine ra hx ?_
 refine AW.block ?_
 obtain⟨dX,hy,h⟩:=ah h
 refine lp (S:=Int×(List ak)) (X:=(List ak)) (fun (dE,cw)=>[(1,dI .i64 eC),(2,.fn 80 [0]),(6,.pt 1 0),(8,.pt 2 0),(9,dI .i64 aQ),(14,dI .i64 fU),(15,dI .i64 aQ),(18,dI .i64 eC),(19,dI .i64 dE)]) (fun (dE,cw)=>⟨[(0,[dI .i64 cT.vR,dI .i64 cT.vC,dL aj cT.vV]),(1,[dI .i64 (0:Int),dI .i64 (0:Int),dN]),(2,[dI .i64 fU,dI .i64 eC,dO 3 aj cw])],[(3,(cw).length,36,34)],4⟩) (PE cx (.exit 2) (fun dX=>[(1,dI .i64 eC),(2,.fn 80 [0]),(6,.pt 1 0),(8,.pt 2 0),(14,dI .i64 fU),(15,dI .i64 aQ)]) fun dX=>⟨[(0,[dI .i64 cT.vR,dI .i64 cT.vC,dL aj cT.vV]),(1,[dI .i64 (0:Int),dI .i64 (0:Int),dN]),(2,[dI .i64 fU,dI .i64 eC,dO 3 aj dX])],[(3,(dX).length,36,34)],4⟩) hy ?_ ?_ ?_
 exact wkN h0 [1,2,3] (wR rfl (wR rfl (wR rfl (wR rfl (wR rfl (wR rfl (wR rfl (wR rfl (wR rfl wTn))))))))) (vR rfl (vR rfl (vR rfl wVn))) (wL rfl rfl wLn)
 clear hy h
 rintro⟨dE,cw⟩ y h
 dsimp only[ik] at h
 refine ra hx ?_
 refine AW.seq (cdh h rfl (fun lL h=>?_) (fun lL h=>?_))
 refine AW.skip (AW.seq (AW.block (ra hx ?_)))
 obtain⟨x3,EX,h⟩:=ah h
 obtain⟨JI,h⟩:=az h
 refine jn (PE cx .normal (fun (_:Unit)=>[(1,dI .i64 eC),(2,.fn 80 [0]),(6,.pt 1 0),(8,.pt 2 0),(9,dI .i64 aQ),(14,dI .i64 fU),(15,dI .i64 aQ),(18,dI .i64 eC),(19,dI .i64 dE)]) (fun (_:Unit)=>⟨[(0,[dI .i64 cT.vR,dI .i64 cT.vC,dL aj cT.vV]),(1,[dI .i64 (0:Int),dI .i64 (0:Int),dN]),(2,[dI .i64 fU,dI .i64 eC,dO 3 aj (cw++[x3])])],[(3,(cw++[x3]).length,36,34)],4⟩) ()) ?_ ?_
 refine dw (DW.split 1 5 (by decide) ?_ ?_)
 refine dwg [] [0,1,2,3,4,5,6,7,8,9] hx (by kernel_rfl) (by kernel_rfl) (by kernel_rfl) fun K hK=>?_
 dsimp only[dq,lg,lx,List.map]
 refine sa ?_
 refine s1 (aP aJ) ?_
 iterate 3 refine sa ?_
 refine s1 (wx [0] rfl (nt EX) (fA (av _) (fA (av _) (fA (av _) fAn))) (vR rfl wVn) wLn (rvE rvN) (AB _ _ _) (Js _ _)) ?_
 refine s1 (qp ([x3]:List ak) aj aJ ay) ?_
 refine s1 (d:=dO 3 aj (cw++[x3])) (j4 aJ ay JI) ?_
 refine sa ?_
 refine s0 (gv (ds':=[dI .i64 fU,dI .i64 eC,dO 3 aj (cw++[x3])]) aJ) ?_
 exact .nil (hK _ _ (PE.i (wkN h0 [1,2,3] (wR rfl (wR rfl (wR rfl (wR rfl (wR rfl (wR rfl (wR rfl (wR rfl (wR rfl wTn))))))))) (vR rfl (vR rfl (vR rfl wVn))) (wL rfl rfl wLn))))
 refine dwg [] [0,2,3,4,5,1,6,7,8,9] hx (by kernel_rfl) (by kernel_rfl) (by kernel_rfl) fun K hK=>?_
 dsimp only[dq,lg,lx,List.map]
 iterate 4 refine sa ?_
 refine s1 (wx [0] rfl (nt EX) (fA (av _) (fA (av _) (fA (av _) fAn))) (vR rfl wVn) wLn (rvE rvN) (AB _ _ _) (Js _ _)) ?_
 refine s1 (aP aJ) ?_
 refine s1 (qp ([x3]:List ak) aj aJ ay) ?_
 refine s1 (d:=dO 3 aj (cw++[x3])) (j4 aJ ay JI) ?_
 refine sa ?_
 refine s0 (gv (ds':=[dI .i64 fU,dI .i64 eC,dO 3 aj (cw++[x3])]) aJ) ?_
 exact .nil (hK _ _ (PE.i (wkN h0 [1,2,3] (wR rfl (wR rfl (wR rfl (wR rfl (wR rfl (wR rfl (wR rfl (wR rfl (wR rfl wTn))))))))) (vR rfl (vR rfl (vR rfl wVn))) (wL rfl rfl wLn))))
 rintro ex tm' hp' ⟨rfl,hw⟩
 refine AW.weak hw (rb hx ?_)
 cases h
 exact PS.l (PE.i (wkN h0 [1,2,3] (wR rfl (wR rfl (wR rfl (wR rfl (wR rfl (wR rfl (wR rfl (wR rfl (wR rfl wTn))))))))) (vR rfl (vR rfl (vR rfl wVn))) (wL rfl rfl wLn)))
 refine AW.exit ?_
 try dsimp only
 try simp only[bk,reduceIte,Nat.reduceEqDiff,reduceCtorEq]
 cases h
 exact PS.r ⟨by nofun,PE.i (wkN h0 [1,2,3] (wR rfl (wR rfl (wR rfl (wR rfl (wR rfl (wR rfl wTn)))))) (vR rfl (vR rfl (vR rfl wVn))) (wL rfl rfl wLn))⟩
 rintro ex tm' hp' ⟨rfl,hw⟩
 try dsimp only
 try simp only[bk,reduceIte,Nat.reduceEqDiff,reduceCtorEq]
 refine AW.weak hw (rb hx ?_)
 cases h
 exact PS.l (PE.i (wkN h0 [1,2,3] (wR rfl (wR rfl (wR rfl (wR rfl (wR rfl (wR rfl wTn)))))) (vR rfl (vR rfl (vR rfl wVn))) (wL rfl rfl wLn)))
 refine AW.exit ?_
 try dsimp only
 try simp only[bk,reduceIte,Nat.reduceEqDiff,reduceCtorEq]
 cases h
 exact PS.r ⟨by nofun,PE.i (wkN h0 [1,2,3] (wR rfl (wR rfl wTn)) (vR rfl (vR rfl (vR rfl wVn))) (wL rfl rfl wLn))⟩
 rintro ex tm' hp' ⟨rfl,hw⟩
 try dsimp only
 try simp only[bk,reduceIte,Nat.reduceEqDiff,reduceCtorEq]
 refine AW.weak hw (AW.seq (rs hx fun K hK=>?_))
 refine sa ?_
 refine s1 (aP aJ) ?_
 refine scb h lM fun x8 h=>?_
 refine sa ?_
 refine .nil (hK _ _ (cdh h rfl (fun gz h=>?_) (fun gz h=>?_)))
 refine rs hx fun K hK=>?_
 refine s1 (d:=.ag [dI .i64 (0:Int),dI .i64 (0:Int),dN]) (ez aG) ?_
 refine s0 (gv (ds':=[dI .i64 (0:Int),dI .i64 (0:Int),dN]) aG) ?_
 refine sa ?_
 refine .nil (hK _ _ (AW.ret ?_))
 cases h
 exact⟨_,lw (es:=[dI .i64 (0:Int),dI .i64 (0:Int),dN]) rfl aG rfl rfl (ltb rfl) (leb rfl) rfl (c7 rfl (rfl)),yd.of_wk2 (by rw[hx];exact cg rfl) (wkN h0 [] (wG rfl (oJ (wc (ly _) (wc (ly _) (wc (FU rfl) wcn)))) (wR rfl wTn)) (vR rfl wVn) wLn)⟩
 refine AW.skip (rs hx fun K hK=>?_)
 refine s1 (d:=.ag [dI .i64 fU,dI .i64 eC,dO 3 aj aN]) (cm aG) ?_
 refine s0 (gv (ds':=[dI .i64 fU,dI .i64 eC,dO 3 aj aN]) aG) ?_
 refine sa ?_
 refine .nil (hK _ _ (AW.ret ?_))
 cases h
 exact⟨_,lw (es:=[dI .i64 fU,dI .i64 eC,dO 3 aj aN]) rfl aG rfl rfl (ltb rfl) (leb rfl) rfl (c7 rfl (rfl)),yd.of_wk2 (by rw[hx];exact cg rfl) (wkN h0 [] (wG rfl (oJ (wc (ly _) (wc (ly _) (wc (HH _) wcn)))) (wR rfl wTn)) (vR rfl wVn) wLn)⟩
def eU(eJ:aE)(bT:Int):Int→Option (Int⊕((Bool×Int)⊕Unit)):=fun f9=>cnd (decide (f9<bT)) (bnd (cv eJ bT f9) fun x8=>bnd (cv eJ f9 bT) fun nr=>cnd (decide (¬(x8=nr))) (some (.inr (.inl (false,(0:Int))))) (some (.inl (i64.wrap (f9+(1:Int)))))) (some (.inr (.inr ())))
def eV(eJ:aE):Int→Option (Int⊕((Bool×Int)⊕Unit)):=fun bT=>cnd (decide (bT<eJ.vR)) (bnd (a7 (eU eJ bT) (0:Int)) fun y13=>match y13 with| .inl r=>some (.inr (.inl r))| .inr ()=>some (.inl (i64.wrap (bT+(1:Int))))) (some (.inr (.inr ())))
def c8(eJ:aE):Int→Option (Int⊕((Bool×Int)⊕Unit)):=fun wl=>cnd (decide (wl≤eJ.vR)) (bnd (iX wl wl eJ) fun yH=>bnd (fB yH.1) fun p7=>bnd (S:=Bool) (cnd (decide (p7.2≠(0:Int))) (some (true)) (bnd (kY p7.1) fun BE=>some (decide (BE≤(0:Int))))) fun C0=>cnd C0 (some (.inr (.inl (false,p7.2)))) (some (.inl (i64.wrap (wl+(1:Int)))))) (some (.inr (.inr ())))
def fM(eJ:aE):Option (Bool×Int):=bnd (S:=Bool) (bnd (b9 [eJ]) fun x1=>cnd (!x1) (some (true)) (some (decide (eJ.vR≠eJ.vC)))) fun bQ=>cnd bQ (some (false,(1:Int))) (bnd (a7 (eV eJ) (0:Int)) fun y14=>match y14 with| .inl r=>some r| .inr ()=>bnd (a7 (c8 eJ) (1:Int)) fun y25=>match y25 with| .inl r=>some r| .inr ()=>some (true,(0:Int)))
theorem qa {eJ:aE}{r:Bool×Int}(h:fM eJ=some r):aB prog 23 [dG a9 eJ] (.tu [dB r.1,dI .i64 r.2]):=by
 refine bJ (rs:=[.tmp 2,.tmp 3]) (fun cx hx h0=>?_) func23
 unfold fM at h
 refine rs hx fun K hK=>?_
 refine s1 (d:=.pt 0 0) ka ?_
 iterate 2 refine sa ?_
 refine .nil (hK _ _ ?_)
 iterate 2 refine AW.seq ?_
 obtain⟨bQ,hy,h⟩:=ah h
 refine jn ((PE cx .normal (fun bQ=>[(1,.pt 0 0),(21,dB bQ)]) fun bQ=>⟨[(0,[dI .i64 eJ.vR,dI .i64 eJ.vC,dL aj eJ.vV])],[],1⟩) bQ) ?_ ?_
 replace h:=hy
 refine rq hx fun K hK=>?_
 refine s1 (d:=dG a9 eJ) (cm aG) ?_
 refine s1 (d:=dO 1 a9 [eJ]) (jL sS aG) ?_
 refine scb h iH fun x1 h=>?_
 iterate 2 refine sa ?_
 rcases bP (!x1) with bn|bn
 replace h:=ba bn h
 iterate 5 refine aK rfl rfl bn ?_
 refine s1 (am bn) ?_
 refine .nil (hK _ _ ?_)
 cases h
 exact pe0 h0 [0]
 replace h:=bb bn h
 refine ga bn ?_
 refine g1 bn (aP aR) ?_
 refine ga bn ?_
 refine g1 bn (aP aR) ?_
 refine ga bn ?_
 refine s1 (ax bn) ?_
 refine .nil (hK _ _ ?_)
 cases h
 exact pe0 h0 [0]
 rintro ex tm' hp' ⟨rfl,hw⟩
 refine AW.weak hw (cdh h rfl (fun pI h=>?_) (fun pI h=>?_))
 refine ra hx ?_
 refine AW.ret ?_
 cases h
 exact rv2
 refine AW.skip (AW.seq (rs hx fun K hK=>?_))
 refine sa ?_
 refine s1 (aP aR) ?_
 refine sa ?_
 refine .nil (hK _ _ (AW.block ?_))
 obtain⟨y,hy,h⟩:=ah h
 refine lp (S:=Int) (X:=(Bool×Int)⊕Unit) (fun bT=>[(1,.pt 0 0),(23,dI .i64 eJ.vR),(24,dI .i64 bT)]) (fun bT=>⟨[(0,[dI .i64 eJ.vR,dI .i64 eJ.vC,dL aj eJ.vV])],[],1⟩) (PS (PR [.tmp 2,.tmp 3] fun r=>.tu [dB r.1,dI .i64 r.2]) (PE cx (.exit 0) (fun ()=>[(1,.pt 0 0)]) fun ()=>⟨[(0,[dI .i64 eJ.vR,dI .i64 eJ.vC,dL aj eJ.vV])],[],1⟩)) hy ?_ ?_ ?_
 exact wk h0 [0] (wR rfl (wR rfl (wR rfl wTn))) (vR rfl wVn) wLn
 clear hy h
 rintro bT y h
 dsimp only[eV] at h
 refine ra hx ?_
 refine AW.seq (cdh h rfl (fun ej h=>?_) (fun ej h=>?_))
 refine AW.skip (AW.seq (AW.block ?_))
 iterate 2 refine ra hx ?_
 refine AW.block ?_
 obtain⟨y,hy,h⟩:=ah h
 refine lp (S:=Int) (X:=(Bool×Int)⊕Unit) (fun f9=>[(1,.pt 0 0),(4,dI .i64 bT),(23,dI .i64 eJ.vR),(24,dI .i64 bT),(27,dI .i64 bT),(28,dI .i64 f9)]) (fun f9=>⟨[(0,[dI .i64 eJ.vR,dI .i64 eJ.vC,dL aj eJ.vV])],[],1⟩) (PS (PR [.tmp 2,.tmp 3] fun r=>.tu [dB r.1,dI .i64 r.2]) (PE cx (.exit 2) (fun ()=>[(1,.pt 0 0),(23,dI .i64 eJ.vR),(24,dI .i64 bT)]) fun ()=>⟨[(0,[dI .i64 eJ.vR,dI .i64 eJ.vC,dL aj eJ.vV])],[],1⟩)) hy ?_ ?_ ?_
 exact wk h0 [0] (wR rfl (wR rfl (wR rfl (wR rfl (wR rfl (wR rfl wTn)))))) (vR rfl wVn) wLn
 clear hy h
 rintro f9 y h
 dsimp only[eU] at h
 refine ra hx ?_
 refine AW.seq (cdh h rfl (fun v6 h=>?_) (fun v6 h=>?_))
 refine AW.skip (AW.seq (AW.block (ra hx ?_)))
 refine rsd [75] hx fun K hK=>?_
 refine s1 (d:=dG a9 eJ) (cm aG) ?_
 iterate 2 refine sa ?_
 refine cqb h ko fun x8 h=>?_
 refine s1 (d:=dG a9 eJ) (cm aG) ?_
 iterate 2 refine sa ?_
 refine cqb h ko fun nr h=>?_
 refine s1 (xY tok 4 (by decide) nP ay) ?_
 refine .nil (hK _ _ (cdh h rfl (fun td h=>?_) (fun td h=>?_)))
 refine ra hx ?_
 refine AW.ret ?_
 cases h
 refine PS.r ⟨by nofun,PS.l (PR.i ?_)⟩
 exact rv2
 refine AW.skip (rb hx ?_)
 cases h
 exact PS.l (pe0 h0 [0])
 refine AW.exit ?_
 try dsimp only
 try simp only[bk,reduceIte,Nat.reduceEqDiff,reduceCtorEq]
 cases h
 exact PS.r ⟨by nofun,PS.r (PE.i (wk h0 [0] (wR rfl (wR rfl (wR rfl wTn))) (vR rfl wVn) wLn))⟩
 rcases y with r|⟨⟩
 rintro ex tm' hp' ⟨rfl,hw⟩
 cases h
 exact PS.r ⟨by nofun,PS.l (PR.i hw)⟩
 rintro ex tm' hp' ⟨rfl,hw⟩
 try dsimp only
 try simp only[bk,reduceIte,Nat.reduceEqDiff,reduceCtorEq]
 refine AW.weak hw (rb hx ?_)
 cases h
 exact PS.l (pe0 h0 [0])
 refine AW.exit ?_
 try dsimp only
 try simp only[bk,reduceIte,Nat.reduceEqDiff,reduceCtorEq]
 cases h
 exact PS.r ⟨by nofun,PS.r (PE.i (wk h0 [0] (wR rfl wTn) (vR rfl wVn) wLn))⟩
 rcases y with r|⟨⟩
 rintro ex tm' hp' ⟨rfl,hw⟩
 cases h
 exact hw
 rintro ex tm' hp' ⟨rfl,hw⟩
 try dsimp only
 try simp only[bk,reduceIte,Nat.reduceEqDiff,reduceCtorEq]
 refine AW.weak hw (AW.seq (ra hx ?_))
 refine AW.block ?_
 obtain⟨y,hy,h⟩:=ah h
 refine lp (S:=Int) (X:=(Bool×Int)⊕Unit) (fun wl=>[(1,.pt 0 0),(6,dI .i64 wl)]) (fun wl=>⟨[(0,[dI .i64 eJ.vR,dI .i64 eJ.vC,dL aj eJ.vV])],[],1⟩) (PS (PR [.tmp 2,.tmp 3] fun r=>.tu [dB r.1,dI .i64 r.2]) (PE cx (.exit 4) (fun ()=>[]) fun ()=>⟨[],[],0⟩)) hy ?_ ?_ ?_
 exact wk h0 [0] (wR rfl (wR rfl wTn)) (vR rfl wVn) wLn
 clear hy h
 rintro wl y h
 dsimp only[c8] at h
 refine AW.seq (rs hx fun K hK=>?_)
 iterate 2 refine sa ?_
 refine s1 (aP aR) ?_
 refine sa ?_
 refine .nil (hK _ _ (cdh h rfl (fun xz h=>?_) (fun xz h=>?_)))
 refine AW.skip (AW.seq (AW.block (rs hx fun K hK=>?_)))
 iterate 2 refine sa ?_
 refine s1 Bn ?_
 obtain⟨yH,hx17,h⟩:=ah h
 refine s1 (Kf [0] rfl (wM hx17) (fA (av _) (fA (av _) (fA (av _) fAn))) (vR rfl wVn) wLn) ?_
 iterate 3 refine sa ?_
 refine s1 (d:=.pt 1 0) (cr aG) ?_
 refine s0 (gv (ds':=[dI .i64 yH.1.vR,dI .i64 yH.1.vC,dL aj yH.1.vV]) aG) ?_
 refine sa ?_
 refine .nil (hK _ _ (rs hx fun K hK=>?_))
 refine s1 (d:=dG a9 yH.1) (cm aG) ?_
 refine scb h kQ fun p7 h=>?_
 iterate 3 refine sa ?_
 refine s1 (bq (F:=aj.f cU) ay) ?_
 refine s0 (aO (b':=p7.1) (an.id _ _) ay) ?_
 refine sa ?_
 refine .nil (hK _ _ (AW.seq ?_))
 obtain⟨C0,hy,h⟩:=ah h
 refine jn ((PE cx .normal (fun C0=>[(1,.pt 0 0),(6,dI .i64 wl),(10,dI .i64 p7.2),(66,dB C0)]) fun C0=>⟨[(0,[dI .i64 eJ.vR,dI .i64 eJ.vC,dL aj eJ.vV])],[],1⟩) C0) ?_ ?_
 replace h:=hy
 refine rq hx fun K hK=>?_
 iterate 3 refine sa ?_
 rcases bP (decide (p7.2≠(0:Int))) with uU|uU
 replace h:=ba uU h
 iterate 3 refine aK rfl rfl uU ?_
 refine s1 (am uU) ?_
 refine .nil (hK _ _ ?_)
 cases h
 exact pe0 h0 [0]
 replace h:=bb uU h
 refine g1 (d:=dG aj p7.1) uU (aD (an.id _ _) ay) ?_
 obtain⟨BE,MZ,h⟩:=ah h
 refine g1 uU (c9 rfl (vy MZ) (by simp only[e8,gL,js,lE,iC,iB];exact bh _ _) (lA (fb _ _) lAn) (.inl rfl)) ?_
 refine ga uU ?_
 refine s1 (ax uU) ?_
 refine .nil (hK _ _ ?_)
 cases h
 exact pe0 h0 [0]
 rintro ex tm' hp' ⟨rfl,hw⟩
 refine AW.weak hw (cdh h rfl (fun xx h=>?_) (fun xx h=>?_))
 refine ra hx ?_
 refine AW.ret ?_
 cases h
 refine PS.r ⟨by nofun,PS.l (PR.i ?_)⟩
 exact rv2
 refine AW.skip (rb hx ?_)
 cases h
 exact PS.l (pe0 h0 [0])
 refine AW.exit ?_
 try dsimp only
 try simp only[bk,reduceIte,Nat.reduceEqDiff,reduceCtorEq]
 cases h
 exact PS.r ⟨by nofun,PS.r (PE.i (wk h0 [] wTn wVn wLn))⟩
 rcases y with r|⟨⟩
 rintro ex tm' hp' ⟨rfl,hw⟩
 cases h
 exact hw
 rintro ex tm' hp' ⟨rfl,hw⟩
 try dsimp only
 try simp only[bk,reduceIte,Nat.reduceEqDiff,reduceCtorEq]
 refine AW.weak hw (ra hx ?_)
 refine AW.ret ?_
 cases h
 exact rv2
section
theorem Br {R C:Nat}{a:c5}{b:aE}(hR:R≤400)(hC:C≤400)(f:Nat→Nat→Nu)(hf:∀i k:Nat,i<R→k<C→kI (i:Int) (k:Int) a b=some (nv (f i k))):kZ R C a b=some (mM R C (mkM R C f)):=by
 have LG:R*C≤400*400:=lW hR hC
 unfold kZ
 rw[qU (R:=R) (C:=C) (by omega) f (by omega) (fun i hi acc yY=>?_) (fun l=>?_)]
 ·simp only[ab]
  rw[sk (by rw[fy];omega)]
  simp only[ab]
  unfold mM
  cases (mkM R C f).all aT <;> rfl
 ·unfold lB
  dsimp only
  rw[bu _ _,tL (C:=C) (by omega) (f i) acc yY (fun k hk l=>?_) (fun l=>?_)]
  ·rfl
  ·unfold kG
   dsimp only
   rw[bu _ _,hf i k hi hk]
   rfl
  ·unfold kG
   dsimp only
   rw[bw _ _]
 ·unfold lB
  dsimp only
  rw[bw _ _]
theorem yZ {R C:Nat}{a:aE}(hR:R≤400)(hC:C≤400)(f:Nat→Nat→Nu)(hf:∀i k:Nat,i<R→k<C→eW (i:Int) (k:Int) a=some (nv (f i k))):iX R C a=some (mM R C (mkM R C f)):=by
 have LG:R*C≤400*400:=lW hR hC
 unfold iX
 rw[qU (R:=R) (C:=C) (by omega) f (by omega) (fun i hi acc yY=>?_) (fun l=>?_)]
 ·simp only[ab]
  rw[sk (by rw[fy];omega)]
  simp only[ab]
  unfold mM
  cases (mkM R C f).all aT <;> rfl
 ·unfold iE
  dsimp only
  rw[bu _ _,tL (C:=C) (by omega) (f i) acc yY (fun k hk l=>?_) (fun l=>?_)]
  ·rfl
  ·unfold ik
   dsimp only
   rw[bu _ _,hf i k hi hk]
   rfl
  ·unfold ik
   dsimp only
   rw[bw _ _]
 ·unfold iE
  dsimp only
  rw[bw _ _]
abbrev jm(R C:Nat)(V:List Nu):Option (List Nu×List Pv):=jl R C C 0 0 V []
def fk(acc:List Pv):List Int:=acc.map fun p=>(p.col:Int)
theorem sV {R C:Nat}:∀{n k r:Nat} {V:List Nu} {acc:List Pv} {W:List Nu} {l:List Pv},jl R C n k r V acc=some (W,l)→l.length≤acc.length+n
 |0,_,_,_,_,_,_,h=>by
  unfold jl at h
  injection h with h
  injection h with h1 h2
  rw[←h2];omega
 |n+1,k,r,V,acc,W,l,h=>by
  unfold jl at h
  split at h
  ·split at h
   ·have:=sV h;omega
   ·split at h
    ·have:=sV h
     rw[eH] at this
     simp at this;omega
    ·cases h
  ·injection h with h
   injection h with h1 h2
   rw[←h2];omega
theorem w6 {R C:Nat}:∀{n k r:Nat} {V:List Nu} {acc:List Pv} {W:List Nu} {l:List Pv},acc.length=r→r≤R→jl R C n k r V acc=some (W,l)→l.length≤R
 |0,_,_,_,_,_,_,ha,hr,h=>by
  unfold jl at h
  injection h with h
  injection h with h1 h2
  rw[←h2];omega
 |n+1,k,r,V,acc,W,l,ha,hr,h=>by
  unfold jl at h
  split at h
  ·rename_i bz
   split at h
   ·exact w6 ha hr h
   ·split at h
    ·exact w6 (by rw[eH,ha];rfl) bz h
    ·cases h
  ·injection h with h
   injection h with h1 h2
   rw[←h2];omega
theorem ze {R C:Nat}{V W:List Nu}{l:List Pv}(h:jm R C V=some (W,l)):l.length≤R:=w6 (r:=0) (acc:=[]) rfl (de _) h
section
variable {V B:List Nu} {r c:Nat}
theorem tE(hr:r≤1000)(hc:c≤1000)(hV:V.length=r*c):ee (mS r c V)=some (yj r c (jm r c V)):=by
 have LG:r*c≤1000*1000:=lW hr hc
 unfold ee
 rw[ao ⟨by show (0:Int)≤r;omega,by show (0:Int)≤c;omega,by show (r:Int)≤1000000;omega,by show (c:Int)≤1000000;omega,by show (r:Int).toNat*(c:Int).toNat≤1000000;rw[aW,aW];omega,by show (V.map nv).length=(r:Int).toNat*(c:Int).toNat;rw[bS,aW,aW];exact hV,okL_nv V⟩]
 show some (yj (r:Int) (c:Int) (jl (r:Int).toNat (c:Int).toNat (c:Int).toNat 0 0 ((V.map nv).map sY) []))=_
 rw[map_nv,aW,aW]
theorem I0 {m:aE}{acc:List Pv}(h:acc.length≤1000000):ce ⟨m,acc.map pvS⟩=some (fk acc):=by
 unfold ce
 have:=jA (b:=d5 ⟨m,acc.map pvS⟩) (fun k=>(fk (acc.take k),(k:Int))) 0 acc.length (fk acc) (de _) (fun k _ hk=>?_) ?_
 ·rw[show (fk (acc.take 0),((0:Nat):Int))=(([]:List Int),(0:Int)) from rfl] at this
  rw[this];rfl
 ·unfold d5
  dsimp only
  have e:((acc.map pvS)[k]!).vcol=((acc[k]).col:Int):=by
   rw[pR,cF,eg hk];rfl
  have e2:fk (acc.take k)++[((acc[k]).col:Int)]=fk (acc.take (k+1)):=by
   unfold fk
   rw[List.take_succ,eg hk,lY];rfl
  rw[bS,bu _ _,aF,aW,e,e2,aF (by unfold fk;rw[bS,eA];omega),w64]
  rfl
 ·unfold d5
  dsimp only
  rw[bS,bw _ _,GS]
end
def mL(R C:Int)(V:List Nu):aE×List Int×Int:=if bi R C V=0 then match jm R.toNat C.toNat V with
 |some (U,acc)=>(mS R C U,fk acc,0)
 |none=>(mZ,[],30) else (mZ,[],1)
theorem rp {R C:Int}{V:List Nu}(hV:V.length≤1000000):bY (mS R C V)=some (mL R C V):=by
 unfold bY mL
 rw[rm hV]
 simp only[ab]
 by_cases h1:bi R C V=0
 ·rw[ao h1]
  obtain⟨r,c,rfl,rfl,hm⟩:=iv.1 h1
  have h3:=hm.r
  have h4:=hm.c
  rw[h1,show (!decide ((0:Int)=0))=false by simp,kF,tE (by omega) (by omega) hm.len,aW,aW]
  simp only[ab]
  cases mF:jm r c V with
  |none=>rfl
  |some p=>
   obtain⟨U,acc⟩:=p
   have:=sV mF
   show bnd (ce ⟨mS r c U,acc.map pvS⟩) _=_
   rw[I0 (by simp at this;omega)];rfl
 ·rw[aq h1,show (!decide (bi R C V=0))=true by simp[h1],kT]
abbrev rZ:ak:=⟨⟨false,false,Vector.replicate 16 0⟩,⟨false,false,Vector.replicate 16 0⟩⟩
def ji(acc:List Pv):Int:=acc.foldl (fun s p=>if p.mov then -s else s) 1
def qS(s:Int)(acc:List Pv):Nu:=acc.foldl (fun x p=>qv x p.by') (nOf s)
def detR(n:Nat)(o:Option (List Nu×List Pv)):ak×Int:=match o with
 |none=>(rZ,30)
 |some (_,acc)=>if acc.length<n then (nv (nOf 0),0) else if aT (qS (ji acc) acc) then (nv (qS (ji acc) acc),0) else (rZ,30)
def Gy(R C:Int)(V:List Nu):ak×Int:=if bi R C V=0∧R=C then detR R.toNat (jm R.toNat R.toNat V) else (rZ,1)
theorem Dw(acc:List Pv)(s:Int)(h:s=1∨s=-1):acc.foldl (fun s p=>if p.mov then -s else s) s=1∨acc.foldl (fun s p=>if p.mov then -s else s) s=-1:=by
 induction acc generalizing s with
 |nil=>exact h
 |cons p acc ih=>
  rw[pS]
  refine ih _ ?_
  rcases h with rfl|rfl <;> cases p.mov <;> simp
theorem NU {acc:List Pv}{k:Nat}(hk:k<acc.length):(acc.map pvS)[k]! =pvS acc[k]:=by
 rw[pR,cF,eg hk];rfl
theorem Ki {R C:Int}{V:List Nu}(hV:V.length≤1000000):fB (mS R C V)=some (Gy R C V):=by
 unfold fB Gy
 rw[rm hV]
 simp only[ab,kOr]
 by_cases h0:bi R C V=0∧R=C
 ·rw[ao h0]
  obtain⟨h1,rfl⟩:=h0
  obtain⟨r,c,rfl,hc,hm⟩:=iv.1 h1
  obtain rfl:r=c:=by omega
  have h3:=hm.r
  rw[h1,show (!decide ((0:Int)=0)||decide ((r:Int)≠r))=false by simp,kF,tE (by omega) (by omega) hm.len,aW]
  simp only[ab]
  cases mF:jm r r V with
  |none=>rfl
  |some p=>
   obtain⟨U,acc⟩:=p
   have K8:=sV mF
   rw[List.length_nil,bE] at K8
   rw[show yj (r:Int) (r:Int) (some (U,acc))=((⟨mS r r U,acc.map pvS⟩:c5),(0:Int)) from rfl]
   dsimp only
   rw[bw _ _ (by simp),bS]
   unfold detR
   by_cases hl:acc.length<r
   ·rw[bu _ _,uOf]
    dsimp only
    rw[ao hl];rfl
   ·rw[bw _ _]
    dsimp only
    rw[aq hl]
    have k1:=jA (b:=i1 (⟨mS r r U,acc.map pvS⟩,0)) (fun k=>(ji (acc.take k),(k:Int))) 0 acc.length (ji acc) (de _) (fun k _ hk=>?_) ?_
    ·rw[show (ji (acc.take 0),((0:Nat):Int))=((1:Int),(0:Int)) from rfl] at k1
     rw[k1]
     simp only[ab]
     have hs:=Dw acc 1 (.inl rfl)
     rw[uOf (by show -9223372036854775808≤ji acc;unfold ji;omega) (by show ji acc≤_;unfold ji;omega)]
     simp only[ab]
     have k2:=jA (b:=iZ (⟨mS r r U,acc.map pvS⟩,0)) (fun k=>((k:Int),nv (qS (ji acc) (acc.take k)))) 0 acc.length (nv (qS (ji acc) acc)) (de _) (fun k _ hk=>?_) ?_
     ·rw[show (((0:Nat):Int),nv (qS (ji acc) (acc.take 0)))=((0:Int),nv (nOf (ji acc))) from rfl] at k2
      rw[k2]
      simp only[ab,uGood]
      cases aT (qS (ji acc) acc) <;> rfl
     ·unfold iZ
      dsimp only
      rw[bS,bu _ _,aF,aW,NU hk]
      show bnd (et (nv (qS (ji acc) (acc.take k))) (nv (acc[k]).by')) _=_
      rw[uMul]
      simp only[ab]
      rw[w64]
      have:qS (ji acc) (acc.take (k+1))=qv (qS (ji acc) (acc.take k)) (acc[k]).by':=by
       unfold qS
       rw[List.take_succ,eg hk,Is];rfl
      rw[this];rfl
     ·unfold iZ
      dsimp only
      rw[bS,bw _ _,GS]
    ·unfold i1
     dsimp only
     rw[bS,bu _ _,aF,aW,NU hk]
     have hs:=Dw (acc.take k) 1 (.inl rfl)
     have e2:ji (acc.take (k+1))=if (acc[k]).mov then -ji (acc.take k) else ji (acc.take k):=by
      unfold ji
      rw[List.take_succ,eg hk,Is];rfl
     rw[e2]
     show bnd (cnd (acc[k]).mov _ _) _=_
     have w1:i64.wrap (0 - ji (acc.take k))=-ji (acc.take k):=by
      rw[w64 (by unfold ji;omega) (by unfold ji;omega)];omega
     rw[w1,w64 (n:=(k:Int)+1)]
     cases (acc[k]).mov <;> rfl
    ·unfold i1
     dsimp only
     rw[bS,bw _ _,GS]
 ·rw[aq h0]
  have e:(!decide (bi R C V=0)||decide (R≠C))=true:=by
   by_cases a:bi R C V=0
   ·by_cases b:R=C
    ·exact absurd ⟨a,b⟩ h0
    ·simp[b]
   ·simp[a]
  rw[e,kT]
theorem Bu {l:List Int}(h:l.length≤1000000)(v:Int):cJ l v=some (l.any fun x=>decide (v=x)):=by
 unfold cJ gi
 have key:=zm (b:=dP l v) (n:=l.length) h (fun i=>decide (v=l[i]!)) (fun i hi=>by
  unfold dP
  rw[bu _ _,aF,aW]) (by
  unfold dP
  rw[bw _ _])
 rw[Ka l (fun x=>decide (v=x))] at key
 rcases key with⟨h1,h2⟩|⟨j,h1,h2⟩ <;> rw[h1,h2]
 ·rfl
 ·simp[bnd]
def solvR(c:Nat)(o:Option (List Nu×List Pv)):List ak×Int:=match o with
 |none=>([],30)
 |some (U,acc)=>if (fk acc).any (fun x=>decide ((c:Int)=x)) then ([],200) else if acc.length<c then ([],70) else (((List.range acc.length).map fun i=>U[i*(c+1)+c]!).map nv,0)
def Fu(R C:Int)(A b:List Nu):List ak×Int:=if bi R C A=0∧(b.length:Int)=R∧b.all aT=true then (if 200<C+1 then ([],2) else solvR C.toNat (jm R.toNat (C.toNat+1) (mkM R.toNat (C.toNat+1) (AK C.toNat 1 A b)))) else ([],1)
theorem bes1 {r c:Nat}{A b:List Nu}(hm:MV r c A)(hb:b.length=r)(hg:b.all aT=true):MV r 1 b:=⟨hm.r,by decide,by rw[hb,rX],hg⟩
theorem J7 {r c c':Nat}{A B:List Nu}(hm:MV r c A)(zp:MV r c' B)(hc:(200:Int)<(c:Int)+(c':Int)):Ll (r:Int) (c:Int) A (r:Int) (c':Int) B=(mZ,2):=by
 unfold Ll
 rw[ao ⟨hm.chk,zp.chk,rfl⟩,ao hc]
theorem J6 {r c c':Nat}{A B:List Nu}(hm:MV r c A)(zp:MV r c' B)(hc:¬(200:Int)<(c:Int)+(c':Int)):Ll (r:Int) (c:Int) A (r:Int) (c':Int) B=(mS r ((c+c':Nat):Int) (mkM r (c+c') (AK c c' A B)),0):=by
 unfold Ll
 rw[ao ⟨hm.chk,zp.chk,rfl⟩,aq hc,show ((c:Int)+(c':Int))=((c+c':Nat):Int) by omega]
 simp only[aW]
 exact bes_ok hm zp
theorem EP {R C:Int}{A b:List Nu}(hA:A.length≤1000000)(hb:b.length≤1000000):gD (mS R C A) (b.map nv)=some (Fu R C A b):=by
 unfold gD Fu
 rw[rm hA]
 simp only[ab,sk hb,kOr,bS]
 by_cases h0:bi R C A=0∧(b.length:Int)=R∧b.all aT=true
 ·rw[ao h0]
  obtain⟨h1,h2,h5⟩:=h0
  obtain⟨r,c,rfl,rfl,hm⟩:=iv.1 h1
  have h3:=hm.r
  have h4:=hm.c
  have K2:=bes1 hm (by omega) h5
  rw[h1,h5,show (!decide ((0:Int)=0)||(decide ((b.length:Int)≠(r:Int))||!true))=false by simp[h2],kF]
  rw[show (⟨(r:Int),(1:Int),b.map nv⟩:aE)=mS (r:Int) ((1:Nat):Int) b from rfl,GZ hA hb]
  by_cases hc:(200:Int)<(c:Int)+((1:Nat):Int)
  ·rw[J7 hm K2 hc,ao (show (200:Int)<(c:Int)+1 by omega)];rfl
  ·rw[J6 hm K2 hc,aq (show ¬(200:Int)<(c:Int)+1 by omega)]
   simp only[ab,aW]
   rw[bw _ _ (by simp),tE (by omega) (by omega) fy]
   simp only[ab]
   cases mF:jm r (c+1) (mkM r (c+1) (AK c 1 A b)) with
   |none=>rfl
   |some p=>
    obtain⟨U,acc⟩:=p
    have K8:=sV mF
    rw[List.length_nil,bE] at K8
    have hU:=kt fy mF
    have hle:acc.length≤r:=ze mF
    have LG:r*(c+1)≤200*201:=lW h3 (by omega)
    show cnd (decide ((0:Int)≠0)) _ (bnd (ce ⟨mS r ((c+1:Nat):Int) U,acc.map pvS⟩) _)=_
    rw[bw _ _ (by simp),I0 (by omega)]
    simp only[ab]
    rw[Bu (by unfold fk;rw[bS];omega)]
    simp only[ab]
    unfold solvR
    dsimp only
    cases hany:(fk acc).any fun x=>decide ((c:Int)=x) with
    |true=>rfl
    |false=>
     rw[kF]
     show cnd (decide (((acc.map pvS).length:Int)<(c:Int))) _ (bnd (a7 (ff (mS r c A) (⟨mS r ((c+1:Nat):Int) U,acc.map pvS⟩,0)) (([]:List ak),(0:Int))) _)=_
     rw[bS]
     by_cases hl:acc.length<c
     ·rw[bu _ _,ao hl];rfl
     ·rw[bw _ _,aq hl]
      have key:=jA (b:=ff (mS r c A) (⟨mS r ((c+1:Nat):Int) U,acc.map pvS⟩,0)) (fun k=>(((List.range k).map fun i=>U[i*(c+1)+c]!).map nv,(k:Int))) 0 acc.length (((List.range acc.length).map fun i=>U[i*(c+1)+c]!).map nv) (de _) (fun k _ hk=>?_) ?_
      ·rw[show (((List.range 0).map fun i=>U[i*(c+1)+c]!).map nv,((0:Nat):Int))=(([]:List ak),(0:Int)) from rfl] at key
       rw[key];rfl
      ·unfold ff
       dsimp only
       rw[bS,bu _ _,wy hU (by omega) (by omega) (by omega)]
       simp only[ab]
       rw[aF (by simp;omega),w64,qA]
       simp
      ·unfold ff
       dsimp only
       rw[bS,bw _ _]
 ·rw[aq h0]
  have e:(!decide (bi R C A=0)||(decide ((b.length:Int)≠R)||!b.all aT))=true:=by
   by_cases a:bi R C A=0
   ·by_cases d:(b.length:Int)=R
    ·by_cases e:b.all aT=true
     ·exact absurd ⟨a,d,e⟩ h0
     ·simp only[Bool.not_eq_true] at e;simp[e]
    ·simp[d]
   ·simp[a]
  rw[e,kT]
end
theorem HB {R:Type}{n:Nat}(hn:n≤1000000)(ok:Nat→Bool)(res:R){b:Int→Option (Int⊕(R⊕Unit))}(h:∀i:Nat,i<n→b i=cnd (!ok i) (some (.inr (.inl res))) (some (.inl (i64.wrap ((i:Int)+(1:Int))))))(he:b n=some (.inr (.inr ()))):
  a7 b (0:Int)=some (if (List.range n).all ok then .inr () else .inl res):=by
 have key:∀m i:Nat,i+m=n→a7 b (i:Int)=some (if (List.range' i m).all ok then .inr () else .inl res):=by
  intro m
  induction m with
  |zero=>
       intro i hi;obtain rfl:i=n:=by omega
       exact fa he
  |succ m ih=>
   intro i hi
   have hb:=h i (by omega)
   rw[rT,js]
   cases hk:ok i with
   |false=>
    rw[hk] at hb
    rw[fa (by rw[hb];rfl)];rfl
   |true=>
    rw[hk,w64] at hb
    rw[jN (by rw[hb];rfl)]
    exact ih (i+1) (by omega)
 rw[show ((0:Int))=((0:Nat):Int) from rfl,key n 0 (by omega),xN]
theorem dne {α:Type}[DecidableEq α](a b:α):decide (a≠b)= !decide (a=b):=by by_cases h:a=b <;> simp[h]
theorem id_MV {n:Nat}(h:n≤200):MV n n (mkM n n idF):=⟨h,h,fy,zi.2 fun i k _ _=>FZ i k⟩
def Od(acc:List Pv):Bool:=(List.range acc.length).all fun i=>decide ((((acc.map pvS)[i]!).vcol:Int)=i)
def invF(n:Nat)(U:List Nu)(i k:Nat):Nu:=U[i*(n+n)+(n+k)]!
def invR(n:Nat)(o:Option (List Nu×List Pv)):aE×Int:=match o with
 |none=>(mZ,30)
 |some (U,acc)=>if Od acc then mM n n (mkM n n (invF n U)) else (mZ,70)
def invP(R C:Int)(A:List Nu):aE×Int:=if bi R C A=0∧R=C then (if 200<R+R then (mZ,2) else invR R.toNat (jm R.toNat (R.toNat+R.toNat) (mkM R.toNat (R.toNat+R.toNat) (AK R.toNat R.toNat A (mkM R.toNat R.toNat idF))))) else (mZ,1)
theorem idP_nat {n:Nat}(h:n≤200):idP (n:Int)=mS n n (mkM n n idF):=by
 unfold idP
 rw[ifn_,aW]
theorem P_Inverse {R C:Int}{A:List Nu}(hA:A.length≤1000000):qY (mS R C A)=some (invP R C A):=by
 unfold qY invP
 rw[rm hA]
 simp only[ab,kOr]
 by_cases h0:bi R C A=0∧R=C
 ·rw[ao h0]
  obtain⟨h1,rfl⟩:=h0
  obtain⟨n,c,rfl,hc,hm⟩:=iv.1 h1
  obtain rfl:n=c:=by omega
  have h3:=hm.r
  rw[h1,show (!decide ((0:Int)=0)||decide ((n:Int)≠n))=false by simp,kF,Bt]
  simp only[ab]
  rw[idP_nat h3,GZ hA (by rw[fy];have:=hm.rc;omega)]
  have hi:=id_MV h3
  by_cases hb:(200:Int)<(n:Int)+(n:Int)
  ·rw[J7 hm hi hb,ao hb];rfl
  ·rw[J6 hm hi hb,aq hb]
   simp only[ab,aW]
   rw[bw _ _ (by simp),tE (by omega) (by omega) fy]
   simp only[ab]
   cases mF:jm n (n+n) (mkM n (n+n) (AK n n A (mkM n n idF))) with
   |none=>rfl
   |some p=>
    obtain⟨U,acc⟩:=p
    have hU:=kt fy mF
    have hle:acc.length≤n:=ze mF
    have LG:n*(n+n)≤200*200:=lW h3 (by omega)
    rw[show yj (n:Int) ((n+n:Nat):Int) (some (U,acc))=((⟨mS n ((n+n:Nat):Int) U,acc.map pvS⟩:c5),(0:Int)) from rfl]
    dsimp only
    rw[bw _ _ (by simp)]
    rw[HB (b:=iq (⟨mS n ((n+n:Nat):Int) U,acc.map pvS⟩,0)) (n:=acc.length) (by omega) (fun i=>decide ((((acc.map pvS)[i]!).vcol:Int)=i)) (mZ,70) (fun i hi2=>?_) ?_]
    ·unfold invR
     dsimp only
     show bnd (some (if Od acc then _ else _)) _=_
     cases hd:Od acc with
     |false=>rfl
     |true=>
      show bnd (kZ (n:Int) (n:Int) ⟨mS n ((n+n:Nat):Int) U,acc.map pvS⟩ (mS n n A)) _=_
      rw[Br (by omega) (by omega) (invF n U) (fun i k hi2 hk=>?_)]
      ·rfl
      ·unfold kI
       dsimp only
       rw[w64,show (n:Int)+(k:Int)=((n+k:Nat):Int) by omega,wy hU (by omega) hi2 (by omega)]
       rfl
    ·unfold iq
     dsimp only
     rw[bS,bw _ _]
    ·unfold iq
     dsimp only
     rw[bS,bu _ _,aF,aW,dne]
 ·rw[aq h0]
  have e:(!decide (bi R C A=0)||decide (R≠C))=true:=by
   by_cases a:bi R C A=0
   ·by_cases b:R=C
    ·exact absurd ⟨a,b⟩ h0
    ·simp[b]
   ·simp[a]
  rw[e,kT]
def Il(acc:List Pv)(i:Nat):Nat:=(acc[i]!).col
def pz(C:Nat)(U:List Nu)(acc:List Pv)(k:Nat):Nat→List Nu
 |0=>(List.replicate C (nOf 0)).set k (nOf 1)
 |n+1=>if Il acc n<k then (pz C U acc k n).set (Il acc n) (DG U[n*C+k]!) else pz C U acc k n
theorem tK {C:Nat}{U:List Nu}{acc:List Pv}{k:Nat}:∀n,(pz C U acc k n).length=C
 |0=>by simp[pz]
 |n+1=>by
  unfold pz
  split
  ·rw[yy];exact tK n
  ·exact tK n
def vL(C:Nat)(acc:List Pv):List Nat:=(List.range C).filter fun k=>!(fk acc).any fun x=>decide ((k:Int)=x)
def nullR(C:Nat)(o:Option (List Nu×List Pv)):List (List Nu)×Int:=match o with
 |none=>([],30)
 |some (U,acc)=>((vL C acc).map fun k=>pz C U acc k acc.length,0)
def Jt(R C:Int)(V:List Nu):List (List Nu)×Int:=if bi R C V=0 then nullR C.toNat (jm R.toNat C.toNat V) else ([],1)
theorem Li {acc:List Pv}{i:Nat}(h:i<acc.length):(fk acc)[i]! =((Il acc i:Nat):Int):=by
 unfold fk Il
 rw[pR,pR,cF,eg h];rfl
theorem Hx {C:Nat}{acc:List Pv}:vL (C+1) acc=vL C acc++if ((fk acc).any fun x=>decide ((C:Int)=x)) then [] else [C]:=by
 unfold vL
 rw[qA,List.filter_append]
 congr 1
 rw[IF]
 cases ((fk acc).any fun x=>decide ((C:Int)=x)) <;> rfl
theorem P_Null {R C:Int}{V:List Nu}(hV:V.length≤1000000):jT (mS R C V)=some ((Jt R C V).1.map (List.map nv),(Jt R C V).2):=by
 unfold jT Jt
 rw[rm hV]
 simp only[ab]
 by_cases h1:bi R C V=0
 ·rw[ao h1]
  obtain⟨r,c,rfl,rfl,hm⟩:=iv.1 h1
  have h3:=hm.r
  have h4:=hm.c
  have h5:=hm.rc
  rw[h1,show (!decide ((0:Int)=0))=false by simp,kF,tE (by omega) (by omega) hm.len,aW,aW]
  simp only[ab]
  cases mF:jm r c V with
  |none=>rfl
  |some p=>
   obtain⟨U,acc⟩:=p
   have hU:=kt hm.len mF
   have hle:acc.length≤r:=ze mF
   rw[show yj (r:Int) (c:Int) (some (U,acc))=((⟨mS r c U,acc.map pvS⟩:c5),(0:Int)) from rfl]
   dsimp only
   rw[bw _ _ (by simp),I0 (by omega)]
   simp only[ab]
   have key:=jA (b:=io (mS r c V) (⟨mS r c U,acc.map pvS⟩,0) (fk acc)) (fun k=>(((vL k acc).map fun j=>pz c U acc j acc.length).map (List.map nv),(k:Int))) 0 c (((vL c acc).map fun j=>pz c U acc j acc.length).map (List.map nv)) (de _) (fun k _ hk=>?_) ?_
   ·rw[show (((vL 0 acc).map fun j=>pz c U acc j acc.length).map (List.map nv),((0:Nat):Int))=(([]:List (List ak)),(0:Int)) from rfl] at key
    rw[key];rfl
   ·unfold io
    dsimp only
    have hkl:(vL k acc).length≤k:=by unfold vL;exact cG (Et _ _) (by rw[List.length_range];omega)
    rw[bu _ _,Bu (by unfold fk;rw[bS];omega),Hx]
    simp only[ab]
    cases hany:(fk acc).any fun x=>decide ((k:Int)=x) with
    |true=>
     rw[kT]
     simp only[ab]
     rw[w64];simp only[bk,tp];rfl
    |false=>
     rw[kF,uOf]
     simp only[ab]
     have cE:fX [nv (nOf 0)] (c:Int)=some ((List.replicate c (nOf 0)).map nv):=by
      unfold fX
      dsimp only
      rw[ao ⟨(nOf 0).2,by omega,by omega⟩,aW,En]
     rw[cE,uOf]
     simp only[ab]
     rw[aF ⟨by omega,by rw[bS,qB];omega,by rw[bS,qB];omega⟩,aW,←Kd]
     have inner:=jA (b:=im (⟨mS r c U,acc.map pvS⟩,0) (fk acc) (k:Int) ((List.replicate c (nOf 0)).map nv)) (fun n=>((n:Int),(pz c U acc k n).map nv)) 0 acc.length ((pz c U acc k acc.length).map nv) (de _) (fun n _ hn=>?_) ?_
     ·rw[show (((0:Nat):Int),(pz c U acc k 0).map nv)=((0:Int),((List.replicate c (nOf 0)).set k (nOf 1)).map nv) from rfl] at inner
      rw[inner]
      simp only[ab]
      rw[aF (by simp[tK]),aF (by simp;omega),w64]
      simp only[ab]
      simp only[Es,lG,lY];rfl
     ·unfold im
      dsimp only
      have Aj:(fk acc).length=acc.length:=by unfold fk;rw[bS]
      rw[Aj,bu _ _,aF,aW,Li hn]
      rw[show pz c U acc k (n+1)=if Il acc n<k then (pz c U acc k n).set (Il acc n) (DG U[n*c+k]!) else pz c U acc k n from rfl]
      by_cases bz:Il acc n<k
      ·rw[bu _ _,ao bz,wy hU (by omega) (by omega) hk]
       simp only[ab,uNeg]
       rw[aF ⟨by omega,by rw[bS,qB];omega,by rw[bS,tK];omega⟩,aW,←Kd,w64]
       rfl
      ·rw[bw _ _,aq bz]
       simp only[ab]
       rw[w64];rfl
     ·unfold im
      dsimp only
      rw[show (fk acc).length=acc.length by unfold fk;rw[bS],bw _ _]
   ·unfold io
    dsimp only
    rw[bw _ _]
 ·rw[aq h1,show (!decide (bi R C V=0))=true by simp[h1],kT];rfl
def oB(n:Nat)(o:Option (List Nu×List Pv)):Nu×Int:=match o with
 |none=>(nOf 0,30)
 |some (_,acc)=>if acc.length<n then (nOf 0,0) else if aT (qS (ji acc) acc) then (qS (ji acc) acc,0) else (nOf 0,30)
theorem J0(n:Nat)(o:Option (List Nu×List Pv)):detR n o=(if (oB n o).2=0 then nv (oB n o).1 else rZ,(oB n o).2):=by
 unfold detR oB
 cases o with
 |none=>rfl
 |some p=>
  obtain⟨U,acc⟩:=p
  dsimp only
  split
  ·rfl
  ·split <;> rfl
def sw(n:Nat)(V:List Nu)(i k:Nat):Nu:=V[i*n+k]!
def KK(n:Nat)(V:List Nu):Nat→Nat→Bool×Int
 |0,_=>(true,0)
 |m+1,j=>if (oB j (jm j j (mkM j j (sw n V)))).2≠0∨kw (oB j (jm j j (mkM j j (sw n V)))).1≤0 then (false,(oB j (jm j j (mkM j j (sw n V)))).2) else KK n V m (j+1)
def symP(n:Nat)(V:List Nu):Bool:=(List.range n).all fun i=>(List.range i).all fun k=>decide (V[i*n+k]! =V[k*n+i]!)
def Jo(R C:Int)(V:List Nu):Bool×Int:=if bi R C V=0∧R=C then (if symP R.toNat V then KK R.toNat V R.toNat 1 else (false,0)) else (false,1)
theorem lead_MV {n j:Nat}{V:List Nu}(hm:MV n n V)(hj:j≤n):MV j j (mkM j j (sw n V)):=⟨cG hj hm.r,cG hj hm.r,fy,zi.2 fun i k hi hk=>hm.gd (bH (by omega) (by omega))⟩
theorem Bs {R C:Int}{V:List Nu}(hV:V.length≤1000000):fM (mS R C V)=some (Jo R C V):=by
 unfold fM Jo
 rw[rm hV]
 simp only[ab,kOr]
 by_cases h0:bi R C V=0∧R=C
 ·rw[ao h0]
  obtain⟨h1,rfl⟩:=h0
  obtain⟨n,c,rfl,hc,hm⟩:=iv.1 h1
  obtain rfl:n=c:=by omega
  have h3:=hm.r
  have h5:=hm.rc
  rw[h1,show (!decide ((0:Int)=0)||decide ((n:Int)≠n))=false by simp,kF,aW]
  rw[HB (b:=eV (mS n n V)) (n:=n) (by omega) (fun i=>(List.range i).all fun k=>decide (V[i*n+k]! =V[k*n+i]!)) (false,0) (fun i hi=>?_) ?_]
  ·show bnd (some (if symP n V then _ else _)) _=_
   cases hs:symP n V with
   |false=>rfl
   |true=>
    show bnd (a7 (c8 (mS n n V)) (1:Int)) _=some (KK n V n 1)
    have key:∀m j:Nat,j+m=n+1→∃z,a7 (c8 (mS n n V)) (j:Int)=some z∧((z=.inr ()∧KK n V m j=(true,0))∨z=.inl (KK n V m j)):=by
     intro m
     induction m with
     |zero=>
      intro j hj
      refine⟨.inr (),fa ?_,.inl ⟨rfl,rfl⟩⟩
      unfold c8
      dsimp only
      rw[bw _ _]
     |succ m ih=>
      intro j hj
      have hb:c8 (mS n n V) (j:Int)=if (oB j (jm j j (mkM j j (sw n V)))).2≠0∨kw (oB j (jm j j (mkM j j (sw n V)))).1≤0 then some (.inr (.inl (false,(oB j (jm j j (mkM j j (sw n V)))).2))) else some (.inl ((j+1:Nat):Int)):=by
       unfold c8
       dsimp only
       have hl:=lead_MV hm (show j≤n by omega)
       rw[bu _ _,yZ (by omega) (by omega) (sw n V) (fun i k hi hk=>by unfold eW;rw[wy hm.len (by omega) (by omega) (by omega)];rfl)]
       simp only[ab]
       rw[uN (f:=sw n V) fun i k hi hk=>hm.gd (bH (show i<n by omega) (show k<n by omega))]
       dsimp only
       rw[Ki (by rw[fy];have:=hl.rc;omega)]
       unfold Gy
       rw[ao ⟨hl.chk,rfl⟩,aW,J0]
       simp only[ab]
       generalize oB j (jm j j (mkM j j (sw n V)))=d
       by_cases hd:d.2=0
       ·rw[bw _ _ (by simpa using hd),ao hd,uSign]
        simp only[ab]
        by_cases LE:kw d.1≤0
        ·rw[bu _ _ LE,ao (.inr LE)]
        ·rw[bw _ _ LE,aq (by intro h;rcases h with h|h;exact h hd;exact LE h),w64];rfl
       ·rw[bu _ _ hd,ao (.inl hd)]
        simp only[ab]
        rw[kT]
      unfold KK
      by_cases hd:(oB j (jm j j (mkM j j (sw n V)))).2≠0∨kw (oB j (jm j j (mkM j j (sw n V)))).1≤0
      ·rw[ao hd] at hb
       rw[ao hd]
       exact⟨_,fa hb,.inr rfl⟩
      ·rw[aq hd] at hb
       rw[aq hd,jN hb]
       exact ih (j+1) (by omega)
    obtain⟨z,hz,h6⟩:=key n 1 (by omega)
    rw[show (((1:Nat):Int))=1 from rfl] at hz
    rw[hz]
    rcases h6 with⟨rfl,h6⟩|rfl
    ·rw[h6];rfl
    ·rfl
  ·unfold eV
   dsimp only
   rw[bw _ _]
  ·unfold eV
   dsimp only
   rw[bu _ _,HB (b:=eU (mS n n V) (i:Int)) (n:=i) (by omega) (fun k=>decide (V[i*n+k]! =V[k*n+i]!)) (false,0) (fun k hk=>?_) ?_]
   ·simp only[ab]
    cases (List.range i).all fun k=>decide (V[i*n+k]! =V[k*n+i]!) <;> rfl
   ·unfold eU
    try dsimp only
    rw[bw _ _]
   ·unfold eU
    try dsimp only
    rw[bu _ _,wy hm.len (by omega) hi (by omega),wy hm.len (by omega) (by omega) hi]
    simp only[ab,nv_eq]
    have:decide (¬V[i*n+k]! =V[k*n+i]!)= !decide (V[i*n+k]! =V[k*n+i]!):=dne _ _
    rw[this]
 ·rw[aq h0]
  have e:(!decide (bi R C V=0)||decide (R≠C))=true:=by
   by_cases a:bi R C V=0
   ·by_cases b:R=C
    ·exact absurd ⟨a,b⟩ h0
    ·simp[b]
   ·simp[a]
  rw[e,kT]
theorem Lh(acc:List Pv):(fk acc).length=acc.length:=by unfold fk;rw[bS]
theorem w7 {R C:Nat}:∀{n k r:Nat} {V:List Nu} {acc:List Pv} {W:List Nu} {l:List Pv},V.all aT=true→jl R C n k r V acc=some (W,l)→W.all aT=true
 |0,_,_,_,_,_,_,hg,h=>by
  unfold jl at h
  injection h with h
  injection h with h1 h2
  rw[←h1];exact hg
 |n+1,k,r,V,acc,W,l,hg,h=>by
  unfold jl at h
  split at h
  ·split at h
   ·exact w7 hg h
   ·split at h
    ·rename_i hq
     exact w7 hq h
    ·cases h
  ·injection h with h
   injection h with h1 h2
   rw[←h1];exact hg
theorem det_two {n:Nat}{f:Nat→Col}{a b:Nat}(ha:a<n)(hb:b<n)(As:a≠b)(u v:Col):det n (cV (cV f a u) b v)=-det n (cV (cV f a v) b u):=by
 have same:∀u:Col,det n (cV (cV f a u) b u)=0:=fun u=>JZ _ ha hb As fun r=>by
  unfold cV
  rw[aq As,ao rfl,ao rfl]
 have lin1:∀u u' v:Col,det n (cV (cV f a fun r=>1*u r+u' r) b v)=1*det n (cV (cV f a u) b v)+det n (cV (cV f a u') b v):=fun u u' v=>by
  rw[pe f As,pe f As,pe f As]
  exact qh 1 (cV f b v) a u u' ha
 have lin2:∀u v v':Col,det n (cV (cV f a u) b fun r=>1*v r+v' r)=1*det n (cV (cV f a u) b v)+det n (cV (cV f a u) b v'):=fun u v v'=>qh 1 (cV f a u) b v v' hb
 have s:=same fun r=>1*u r+v r
 rw[lin1,lin2,lin2,same u,same v] at s
 grind
theorem nQ(n:Nat):vf n (det n):=by
 refine⟨fun f g h=>CU fun c hc r hr=>h c r hc hr,fun f a b ha hb As=>?_,fun f r c hr=>?_,fun f r i c hr hi hir=>?_⟩
 ·have e1:fC f a b=cV (cV f a (f b)) b (f a):=by
   funext i k
   unfold fC cV
   by_cases h1:i=a
   ·rw[ao h1,ifn_,ao h1]
   ·by_cases h2:i=b
    ·rw[aq h1,ao h2,ao h2]
    ·rw[aq h1,aq h2,aq h2,aq h1]
  have e2:f=cV (cV f a (f a)) b (f b):=by rw[pd,pd]
  rw[e1,det_two ha hb As,←e2]
 ·have e1:(fun i k=>if i=r then c*f r k else f i k:RM)=cV f r fun k=>c*f r k+(fun _=>(0:Rat)) k:=by
   funext i k
   unfold cV
   by_cases h:i=r
   ·rw[ao h,ao h];grind
   ·rw[aq h,aq h]
  rw[e1,qh c f r (f r) (fun _=>0) hr,Og f hr,pd]
  grind
 ·have e1:(fun j k=>if j=i then f i k+c*f r k else f j k:RM)=cV f i fun k=>c*f r k+f i k:=by
   funext j k
   unfold cV
   by_cases h:j=i
   ·rw[ao h,ao h];grind
   ·rw[aq h,aq h]
  rw[e1,qh c f i (f r) (f i) hi,pd,JZ (cV f i (f r)) hi hr hir fun k=>by
   unfold cV
   rw[ao rfl,ifn_]]
  grind
theorem Gw:∀n,det n Hu=1
 |0=>rfl
 |n+1=>by
  unfold det
  rw[dp (g:=fun j=>if j=0 then 1 else 0) fun j hj=>by
   by_cases h:j=0
   ·rw[h,ao rfl]
    have:minor Hu 0=Hu:=by
     funext c r
     show (if (if c<0 then c else c+1)=r+1 then (1:Rat) else 0)=if c=r then 1 else 0
     rw[show (if c<0 then c else c+1)=c+1 from ifn_]
     by_cases e:c=r
     ·rw[ao e,ifp_]
     ·rw[aq e,ifn_]
    rw[this,Gw n]
    unfold sgd Hu
    rw[ao rfl,ao (by decide)];grind
   ·rw[aq h]
    unfold Hu
    rw[aq h];grind]
  exact n6 0 1 _ (by omega)
theorem Jn:∀(acc:List Pv) (x:Nu),aT (acc.foldl (fun x p=>qv x p.by') x)=true→aT x=true∧rv (acc.foldl (fun x p=>qv x p.by') x)=acc.foldl (fun c p=>c*rv p.by') (rv x)
 |[],x,h=>⟨h,rfl⟩
 |p::acc,x,h=>by
  rw[pS] at h ⊢
  obtain⟨h1,h2⟩:=Jn acc _ h
  obtain⟨h3,h4⟩:=Gl h1
  refine⟨h3,?_⟩
  rw[h2,pS,Jv h3 h4 h1]
theorem FD:∀(acc:List Pv) (x k:Rat),acc.foldl (fun c p=>c*rv p.by') (k*x)=k*acc.foldl (fun c p=>c*rv p.by') x
 |[],x,k=>rfl
 |p::acc,x,k=>by
  rw[pS,pS,show k*x*rv p.by'=k*(x*rv p.by') by grind,FD acc]
theorem FC:∀(acc:List Pv) (s:Int) (y:Rat),acc.foldl (fun c p=>c*(rv p.by'*if p.mov then -1 else 1)) ((s:Rat)*y)=((acc.foldl (fun s p=>if p.mov then -s else s) s:Int):Rat)*acc.foldl (fun c p=>c*rv p.by') y
 |[],s,y=>rfl
 |p::acc,s,y=>by
  rw[pS,pS,pS]
  have e:(s:Rat)*y*(rv p.by'*if p.mov=true then -1 else 1)=((if p.mov=true then -s else s:Int):Rat)*(y*rv p.by'):=by
   cases p.mov with
   |true=>
    simp only[bk]
    rw[Rat.intCast_neg];grind
   |false=>
    simp only[Es,lG];grind
  rw[e,FC acc]
theorem of_1:aT (nOf (-1))=true∧rv (nOf (-1))=-1:=zW (q:=((-1:Int):Rat)) ⟨by decide,by decide⟩
theorem Gx {n:Nat}{V:List Nu}{d:Nu}(hV:V.length=n*n)(hg:V.all aT=true)(h:oB n (jm n n V)=(d,0)):aT d=true∧rv d=det n (toR n V):=by
 cases mF:jm n n V with
 |none=>
  rw[mF] at h
  unfold oB at h
  injection h with h1 h2
  exact absurd h2 (by decide)
 |some p=>
  obtain⟨U,acc⟩:=p
  have hok:=uM hV hg mF
  have hle:=hok.red.le
  rw[bS] at hle
  have hd:=hok.det (det n) rfl (nQ n)
  rw[mF] at h
  unfold oB at h
  dsimp only at h
  by_cases hl:acc.length<n
  ·rw[ao hl] at h
   injection h with h1 h2
   rw[←h1,hd,(nQ n).zero (r:=acc.length) hl fun t ht=>hok.red.z2 _ t (by rw[bS];omega) hl ht]
   exact⟨of0.1,by rw[of0.2];grind⟩
  ·rw[aq hl] at h
   by_cases JH:aT (qS (ji acc) acc)=true
   ·rw[ao JH] at h
    injection h with h1 h2
    rw[←h1]
    refine⟨JH,?_⟩
    have h3:=(Jn acc (nOf (ji acc)) JH).2
    have KX:=isR_one hok.red (by rw[bS];omega)
    rw[hd,(nQ n).congr _ Hu KX,Gw]
    have h4:=FC acc 1 1
    rw[show (((1:Int):Rat)*1)=1 by grind] at h4
    rw[h4]
    show rv (acc.foldl (fun x p=>qv x p.by') (nOf (ji acc)))=_
    rw[h3]
    have h5:rv (nOf (ji acc))=((ji acc:Int):Rat):=by
     rcases Dw acc 1 (.inl rfl) with h6|h6
     ·rw[show ji acc=1 from h6,of1.2];rfl
     ·rw[show ji acc=-1 from h6,of_1.2];rfl
    have h7:=FD acc 1 ((ji acc:Int):Rat)
    rw[show ((ji acc:Int):Rat)*1=((ji acc:Int):Rat) by grind] at h7
    rw[h5,h7]
    show ((ji acc:Int):Rat)*_=((ji acc:Int):Rat)*_*1
    grind
   ·rw[aq JH] at h
    injection h with h1 h2
    exact absurd h2 (by decide)
end
end Go.Proofs.YtgfcnncojhkcoaaGreat
