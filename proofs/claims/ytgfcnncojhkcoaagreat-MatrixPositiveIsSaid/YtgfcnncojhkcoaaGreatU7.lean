/-
  Lemmas, part 7. Conditions: none.
-/
import Derived.Test.YtgfcnncojhkcoaaGreatU6
import Derived.Test.YtgfcnncojhkcoaaGreatRows
import Derived.ProofKit
import Derived.OpenShut
import Derived.ChangeSame
import Derived.Deep.Slices
import Derived.JoinedCond
import Derived.SizedLaws
import Derived.Deep.CondSized
set_option linter.all false
set_option maxRecDepth 100000
set_option maxHeartbeats 40000000
namespace Go.Proofs.YtgfcnncojhkcoaaGreat
open Go.RowKit Go.IntKind Tryz Go.Proofs.Tryz
noncomputable section
theorem Ib {R:Type}{n:Nat}(hn:n≤1000000)(ok:Nat→Bool)(res:R){b:Int→Option (Int⊕(R⊕Unit))}(h:∀i:Nat,i<n→b i=cnd (!ok i) (some (.inr (.inl res))) (some (.inl (i64.wrap ((i:Int)+(1:Int))))))(he:b n=some (.inr (.inr ()))):
  a5 b (0:Int)=some (if (List.range n).all ok then .inr () else .inl res):=by
 have key:∀m i:Nat,i+m=n→a5 b (i:Int)=some (if (List.range' i m).all ok then .inr () else .inl res):=by
  intro m
  induction m with
  |zero=>
       intro i hi;obtain rfl:i=n:=by omega
       exact fS he
  |succ m ih=>
   intro i hi
   have hb:=h i (by omega)
   rw[Fc,jZ]
   cases hk:ok i with
   |false=>
    rw[hk] at hb
    rw[fS (by rw[hb];rfl)];rfl
   |true=>
    rw[hk,w64] at hb
    rw[kB (by rw[hb];rfl)]
    exact ih (i+1) (by omega)
 rw[show ((0:Int))=((0:Nat):Int) from rfl,key n 0 (by omega),LU]
theorem dne {α:Type}[DecidableEq α](a b:α):decide (a≠b)= !decide (a=b):=by by_cases h:a=b <;> simp[h]
theorem id_MV {n:Nat}(h:n≤200):MV n n (mkM n n idF):=⟨h,h,et,oO.2 fun i k _ _=>GE i k⟩
def OI(acc:List Pv):Bool:=(List.range acc.length).all fun i=>decide ((((acc.map pvS)[i]!).vcol:Int)=i)
def invF(n:Nat)(U:List Nu)(i k:Nat):Nu:=U[i*(n+n)+(n+k)]!
def invR(n:Nat)(o:Option (List Nu×List Pv)):av×Int:=match o with
 |none=>(mZ,30)
 |some (U,acc)=>if OI acc then ip n n (mkM n n (invF n U)) else (mZ,70)
def invP(R C:Int)(A:List Nu):av×Int:=if aW R C A=0∧R=C then (if 200<R+R then (mZ,2) else invR R.toNat (lw R.toNat (R.toNat+R.toNat) (mkM R.toNat (R.toNat+R.toNat) (Bp R.toNat R.toNat A (mkM R.toNat R.toNat idF))))) else (mZ,1)
theorem idP_nat {n:Nat}(h:n≤200):idP (n:Int)=mS n n (mkM n n idF):=by
 unfold idP
 rw[ifn_,bH]
theorem P_Inverse {R C:Int}{A:List Nu}(hA:A.length≤1000000):rP (mS R C A)=some (invP R C A):=by
 unfold rP invP
 rw[nZ hA]
 simp only[ab,kOr]
 by_cases h0:aW R C A=0∧R=C
 ·rw[ay h0]
  obtain⟨h1,rfl⟩:=h0
  obtain⟨n,c,rfl,hc,hm⟩:=eT.1 h1
  obtain rfl:n=c:=by omega
  have h3:=hm.r
  rw[h1,show (!decide ((0:Int)=0)||decide ((n:Int)≠n))=false by simp,kF,B0]
  simp only[ab]
  rw[idP_nat h3,Hw hA (by rw[et];have:=hm.rc;omega)]
  have hi:=id_MV h3
  by_cases hb:(200:Int)<(n:Int)+(n:Int)
  ·rw[KH hm hi hb,ay hb];rfl
  ·rw[KG hm hi hb,aA hb]
   simp only[ab,bH]
   rw[bu _ _ (by simp),ua (by omega) (by omega) et]
   simp only[ab]
   cases n6:lw n (n+n) (mkM n (n+n) (Bp n n A (mkM n n idF))) with
   |none=>rfl
   |some p=>
    obtain⟨U,acc⟩:=p
    have hU:=m5 et n6
    have hle:acc.length≤n:=D7 n6
    have L9:n*(n+n)≤200*200:=pY h3 (by omega)
    rw[show yZ (n:Int) ((n+n:Nat):Int) (some (U,acc))=((⟨mS n ((n+n:Nat):Int) U,acc.map pvS⟩:c8),(0:Int)) from rfl]
    dsimp only
    rw[bu _ _ (by simp)]
    rw[Ib (b:=iK (⟨mS n ((n+n:Nat):Int) U,acc.map pvS⟩,0)) (n:=acc.length) (by omega) (fun i=>decide ((((acc.map pvS)[i]!).vcol:Int)=i)) (mZ,70) (fun i hi2=>?_) ?_]
    ·unfold invR
     dsimp only
     show bnd (some (if OI acc then _ else _)) _=_
     cases hd:OI acc with
     |false=>rfl
     |true=>
      show bnd (lY (n:Int) (n:Int) ⟨mS n ((n+n:Nat):Int) U,acc.map pvS⟩ (mS n n A)) _=_
      rw[BZ (by omega) (by omega) (invF n U) (fun i k hi2 hk=>?_)]
      ·rfl
      ·unfold lN
       dsimp only
       rw[w64,show (n:Int)+(k:Int)=((n+k:Nat):Int) by omega,ub hU (by omega) hi2 (by omega)]
       rfl
    ·unfold iK
     dsimp only
     rw[eG,bu _ _]
    ·unfold iK
     dsimp only
     rw[eG,bt _ _,aJ,bH,dne]
 ·rw[aA h0]
  have e:(!decide (aW R C A=0)||decide (R≠C))=true:=by
   by_cases a:aW R C A=0
   ·by_cases b:R=C
    ·exact absurd ⟨a,b⟩ h0
    ·simp[b]
   ·simp[a]
  rw[e,kT]
def IQ(acc:List Pv)(i:Nat):Nat:=(acc[i]!).col
def qk(C:Nat)(U:List Nu)(acc:List Pv)(k:Nat):Nat→List Nu
 |0=>(List.replicate C (nOf 0)).set k (nOf 1)
 |n+1=>if IQ acc n<k then (qk C U acc k n).set (IQ acc n) (Gn U[n*C+k]!) else qk C U acc k n
theorem uh {C:Nat}{U:List Nu}{acc:List Pv}{k:Nat}:∀n,(qk C U acc k n).length=C
 |0=>by simp[qk]
 |n+1=>by
  unfold qk
  split
  ·rw[IU];exact uh n
  ·exact uh n
def wx(C:Nat)(acc:List Pv):List Nat:=(List.range C).filter fun k=>!(ku acc).any fun x=>decide ((k:Int)=x)
def nullR(C:Nat)(o:Option (List Nu×List Pv)):List (List Nu)×Int:=match o with
 |none=>([],30)
 |some (U,acc)=>((wx C acc).map fun k=>qk C U acc k acc.length,0)
def JX(R C:Int)(V:List Nu):List (List Nu)×Int:=if aW R C V=0 then nullR C.toNat (lw R.toNat C.toNat V) else ([],1)
theorem LM {acc:List Pv}{i:Nat}(h:i<acc.length):(ku acc)[i]! =((IQ acc i:Nat):Int):=by
 unfold ku IQ
 rw[Br,Br,de,ff h];rfl
theorem H9 {C:Nat}{acc:List Pv}:wx (C+1) acc=wx C acc++if ((ku acc).any fun x=>decide ((C:Int)=x)) then [] else [C]:=by
 unfold wx
 rw[u7,List.filter_append]
 congr 1
 rw[Ph]
 cases ((ku acc).any fun x=>decide ((C:Int)=x)) <;> rfl
theorem P_Null {R C:Int}{V:List Nu}(hV:V.length≤1000000):kI (mS R C V)=some ((JX R C V).1.map (List.map nv),(JX R C V).2):=by
 unfold kI JX
 rw[nZ hV]
 simp only[ab]
 by_cases h1:aW R C V=0
 ·rw[ay h1]
  obtain⟨r,c,rfl,rfl,hm⟩:=eT.1 h1
  have h3:=hm.r
  have h4:=hm.c
  have h5:=hm.rc
  rw[h1,show (!decide ((0:Int)=0))=false by simp,kF,ua (by omega) (by omega) hm.len,bH,bH]
  simp only[ab]
  cases n6:lw r c V with
  |none=>rfl
  |some p=>
   obtain⟨U,acc⟩:=p
   have hU:=m5 hm.len n6
   have hle:acc.length≤r:=D7 n6
   rw[show yZ (r:Int) (c:Int) (some (U,acc))=((⟨mS r c U,acc.map pvS⟩:c8),(0:Int)) from rfl]
   dsimp only
   rw[bu _ _ (by simp),Jt (by omega)]
   simp only[ab]
   have key:=lz (b:=iI (mS r c V) (⟨mS r c U,acc.map pvS⟩,0) (ku acc)) (fun k=>(((wx k acc).map fun j=>qk c U acc j acc.length).map (List.map nv),(k:Int))) 0 c (((wx c acc).map fun j=>qk c U acc j acc.length).map (List.map nv)) (dU _) (fun k _ hk=>?_) ?_
   ·rw[show (((wx 0 acc).map fun j=>qk c U acc j acc.length).map (List.map nv),((0:Nat):Int))=(([]:List (List ak)),(0:Int)) from rfl] at key
    rw[key];rfl
   ·unfold iI
    dsimp only
    have hkl:(wx k acc).length≤k:=by unfold wx;exact cX (KQ _ _) (by rw[List.length_range];omega)
    rw[bt _ _,B1 (by unfold ku;rw[eG];omega),H9]
    simp only[ab]
    cases hany:(ku acc).any fun x=>decide ((k:Int)=x) with
    |true=>
     rw[kT]
     simp only[ab]
     rw[w64];simp only[aM,tX];rfl
    |false=>
     rw[kF,uOf]
     simp only[ab]
     have cM:gf [nv (nOf 0)] (c:Int)=some ((List.replicate c (nOf 0)).map nv):=by
      unfold gf
      dsimp only
      rw[ay ⟨(nOf 0).2,by omega,by omega⟩,bH,KP]
     rw[cM,uOf]
     simp only[ab]
     rw[aJ ⟨by omega,by rw[eG,u6];omega,by rw[eG,u6];omega⟩,bH,←List.map_set]
     have inner:=lz (b:=iH (⟨mS r c U,acc.map pvS⟩,0) (ku acc) (k:Int) ((List.replicate c (nOf 0)).map nv)) (fun n=>((n:Int),(qk c U acc k n).map nv)) 0 acc.length ((qk c U acc k acc.length).map nv) (dU _) (fun n _ hn=>?_) ?_
     ·rw[show (((0:Nat):Int),(qk c U acc k 0).map nv)=((0:Int),((List.replicate c (nOf 0)).set k (nOf 1)).map nv) from rfl] at inner
      rw[inner]
      simp only[ab]
      rw[aJ (by simp[uh]),aJ (by simp;omega),w64]
      simp only[ab]
      simp only[KO,qB,nd];rfl
     ·unfold iH
      dsimp only
      have A1:(ku acc).length=acc.length:=by unfold ku;rw[eG]
      rw[A1,bt _ _,aJ,bH,LM hn]
      rw[show qk c U acc k (n+1)=if IQ acc n<k then (qk c U acc k n).set (IQ acc n) (Gn U[n*c+k]!) else qk c U acc k n from rfl]
      by_cases bI:IQ acc n<k
      ·rw[bt _ _,ay bI,ub hU (by omega) (by omega) hk]
       simp only[ab,uNeg]
       rw[aJ ⟨by omega,by rw[eG,u6];omega,by rw[eG,uh];omega⟩,bH,←List.map_set,w64]
       rfl
      ·rw[bu _ _,aA bI]
       simp only[ab]
       rw[w64];rfl
     ·unfold iH
      dsimp only
      rw[show (ku acc).length=acc.length by unfold ku;rw[eG],bu _ _]
   ·unfold iI
    dsimp only
    rw[bu _ _]
 ·rw[aA h1,show (!decide (aW R C V=0))=true by simp[h1],kT];rfl
def mT(n:Nat)(o:Option (List Nu×List Pv)):Nu×Int:=match o with
 |none=>(nOf 0,30)
 |some (_,acc)=>if acc.length<n then (nOf 0,0) else if aQ (rJ (jR acc) acc) then (rJ (jR acc) acc,0) else (nOf 0,30)
theorem KB(n:Nat)(o:Option (List Nu×List Pv)):detR n o=(if (mT n o).2=0 then nv (mT n o).1 else rZ,(mT n o).2):=by
 unfold detR mT
 cases o with
 |none=>rfl
 |some p=>
  obtain⟨U,acc⟩:=p
  dsimp only
  split
  ·rfl
  ·split <;> rfl
def mq(n:Nat)(V:List Nu)(i k:Nat):Nu:=V[i*n+k]!
def vn(n:Nat)(V:List Nu):Nat→Nat→Bool×Int
 |0,_=>(true,0)
 |m+1,j=>if (mT j (lw j j (mkM j j (mq n V)))).2≠0∨eA (mT j (lw j j (mkM j j (mq n V)))).1≤0 then (false,(mT j (lw j j (mkM j j (mq n V)))).2) else vn n V m (j+1)
def FY(n:Nat)(V:List Nu):Bool:=(List.range n).all fun i=>(List.range i).all fun k=>decide (V[i*n+k]! =V[k*n+i]!)
def l8(R C:Int)(V:List Nu):Bool×Int:=if aW R C V=0∧R=C then (if FY R.toNat V then vn R.toNat V R.toNat 1 else (false,0)) else (false,1)
theorem J6 {n j:Nat}{V:List Nu}(hm:MV n n V)(hj:j≤n):MV j j (mkM j j (mq n V)):=⟨cX hj hm.r,cX hj hm.r,et,oO.2 fun i k hi hk=>hm.gd (cC (by omega) (by omega))⟩
theorem sS {R C:Int}{V:List Nu}(hV:V.length≤1000000):d5 (mS R C V)=some (l8 R C V):=by
 unfold d5 l8
 rw[nZ hV]
 simp only[ab,kOr]
 by_cases h0:aW R C V=0∧R=C
 ·rw[ay h0]
  obtain⟨h1,rfl⟩:=h0
  obtain⟨n,c,rfl,hc,hm⟩:=eT.1 h1
  obtain rfl:n=c:=by omega
  have h3:=hm.r
  have h5:=hm.rc
  rw[h1,show (!decide ((0:Int)=0)||decide ((n:Int)≠n))=false by simp,kF,bH]
  rw[Ib (b:=fm (mS n n V)) (n:=n) (by omega) (fun i=>(List.range i).all fun k=>decide (V[i*n+k]! =V[k*n+i]!)) (false,0) (fun i hi=>?_) ?_]
  ·show bnd (some (if FY n V then _ else _)) _=_
   cases hs:FY n V with
   |false=>rfl
   |true=>
    show bnd (a5 (da (mS n n V)) (1:Int)) _=some (vn n V n 1)
    have key:∀m j:Nat,j+m=n+1→∃z,a5 (da (mS n n V)) (j:Int)=some z∧((z=.inr ()∧vn n V m j=(true,0))∨z=.inl (vn n V m j)):=by
     intro m
     induction m with
     |zero=>
      intro j hj
      refine⟨.inr (),fS ?_,.inl ⟨rfl,rfl⟩⟩
      unfold da
      dsimp only
      rw[bu _ _]
     |succ m ih=>
      intro j hj
      have hb:da (mS n n V) (j:Int)=if (mT j (lw j j (mkM j j (mq n V)))).2≠0∨eA (mT j (lw j j (mkM j j (mq n V)))).1≤0 then some (.inr (.inl (false,(mT j (lw j j (mkM j j (mq n V)))).2))) else some (.inl ((j+1:Nat):Int)):=by
       unfold da
       dsimp only
       have hl:=J6 hm (show j≤n by omega)
       rw[bt _ _,zR (by omega) (by omega) (mq n V) (fun i k hi hk=>by unfold fq;rw[ub hm.len (by omega) (by omega) (by omega)];rfl)]
       simp only[ab]
       rw[sx (f:=mq n V) fun i k hi hk=>hm.gd (cC (show i<n by omega) (show k<n by omega))]
       dsimp only
       rw[Px (by rw[et];have:=hl.rc;omega)]
       unfold EI
       rw[ay ⟨hl.chk,rfl⟩,bH,KB]
       simp only[ab]
       generalize mT j (lw j j (mkM j j (mq n V)))=d
       by_cases hd:d.2=0
       ·rw[bu _ _ (by simpa using hd),ay hd,FV]
        simp only[ab]
        by_cases L7:eA d.1≤0
        ·rw[bt _ _ L7,ay (.inr L7)]
        ·rw[bu _ _ L7,aA (by intro h;rcases h with h|h;exact h hd;exact L7 h),w64];rfl
       ·rw[bt _ _ hd,ay (.inl hd)]
        simp only[ab]
        rw[kT]
      unfold vn
      by_cases hd:(mT j (lw j j (mkM j j (mq n V)))).2≠0∨eA (mT j (lw j j (mkM j j (mq n V)))).1≤0
      ·rw[ay hd] at hb
       rw[ay hd]
       exact⟨_,fS hb,.inr rfl⟩
      ·rw[aA hd] at hb
       rw[aA hd,kB hb]
       exact ih (j+1) (by omega)
    obtain⟨z,hz,h6⟩:=key n 1 (by omega)
    rw[show (((1:Nat):Int))=1 from rfl] at hz
    rw[hz]
    rcases h6 with⟨rfl,h6⟩|rfl
    ·rw[h6];rfl
    ·rfl
  ·unfold fm
   dsimp only
   rw[bu _ _]
  ·unfold fm
   dsimp only
   rw[bt _ _,Ib (b:=fk (mS n n V) (i:Int)) (n:=i) (by omega) (fun k=>decide (V[i*n+k]! =V[k*n+i]!)) (false,0) (fun k hk=>?_) ?_]
   ·simp only[ab]
    cases (List.range i).all fun k=>decide (V[i*n+k]! =V[k*n+i]!) <;> rfl
   ·unfold fk
    try dsimp only
    rw[bu _ _]
   ·unfold fk
    try dsimp only
    rw[bt _ _,ub hm.len (by omega) hi (by omega),ub hm.len (by omega) (by omega) hi]
    simp only[ab,nv_eq]
    have:decide (¬V[i*n+k]! =V[k*n+i]!)= !decide (V[i*n+k]! =V[k*n+i]!):=dne _ _
    rw[this]
 ·rw[aA h0]
  have e:(!decide (aW R C V=0)||decide (R≠C))=true:=by
   by_cases a:aW R C V=0
   ·by_cases b:R=C
    ·exact absurd ⟨a,b⟩ h0
    ·simp[b]
   ·simp[a]
  rw[e,kT]
theorem det_two {n:Nat}{f:Nat→Col}{a b:Nat}(ha:a<n)(hb:b<n)(yk:a≠b)(u v:Col):det n (cv (cv f a u) b v)=-det n (cv (cv f a v) b u):=by
 have same:∀u:Col,det n (cv (cv f a u) b u)=0:=fun u=>EG _ ha hb yk fun r=>by
  unfold cv
  rw[aA yk,ay rfl,ay rfl]
 have lin1:∀u u' v:Col,det n (cv (cv f a fun r=>1*u r+u' r) b v)=1*det n (cv (cv f a u) b v)+det n (cv (cv f a u') b v):=fun u u' v=>by
  rw[p7 f yk,p7 f yk,p7 f yk]
  exact pX 1 (cv f b v) a u u' ha
 have lin2:∀u v v':Col,det n (cv (cv f a u) b fun r=>1*v r+v' r)=1*det n (cv (cv f a u) b v)+det n (cv (cv f a u) b v'):=fun u v v'=>pX 1 (cv f a u) b v v' hb
 have s:=same fun r=>1*u r+v r
 rw[lin1,lin2,lin2,same u,same v] at s
 grind
theorem bJ(n:Nat):mn n (det n):=by
 refine⟨fun f g h=>yq fun c hc r hr=>h c r hc hr,fun f a b ha hb yk=>?_,fun f r c hr=>?_,fun f r i c hr hi N5=>?_⟩
 ·have e1:d7 f a b=cv (cv f a (f b)) b (f a):=by
   funext i k
   unfold d7 cv
   by_cases h1:i=a
   ·rw[ay h1,ifn_,ay h1]
   ·by_cases h2:i=b
    ·rw[aA h1,ay h2,ay h2]
    ·rw[aA h1,aA h2,aA h2,aA h1]
  have e2:f=cv (cv f a (f a)) b (f b):=by rw[oo,oo]
  rw[e1,det_two ha hb yk,←e2]
 ·have e1:(fun i k=>if i=r then c*f r k else f i k:RM)=cv f r fun k=>c*f r k+(fun _=>(0:Rat)) k:=by
   funext i k
   unfold cv
   by_cases h:i=r
   ·rw[ay h,ay h];grind
   ·rw[aA h,aA h]
  rw[e1,pX c f r (f r) (fun _=>0) hr,Bf f hr,oo]
  grind
 ·have e1:(fun j k=>if j=i then f i k+c*f r k else f j k:RM)=cv f i fun k=>c*f r k+f i k:=by
   funext j k
   unfold cv
   by_cases h:j=i
   ·rw[ay h,ay h];grind
   ·rw[aA h,aA h]
  rw[e1,pX c f i (f r) (f i) hi,oo,EG (cv f i (f r)) hi hr N5 fun k=>by
   unfold cv
   rw[ay rfl,ifn_]]
  grind
theorem pg:∀n,det n jH=1
 |0=>rfl
 |n+1=>by
  unfold det
  rw[aX (g:=fun j=>if j=0 then 1 else 0) fun j hj=>by
   by_cases h:j=0
   ·rw[h,ay rfl]
    have:minor jH 0=jH:=by
     funext c r
     show (if (if c<0 then c else c+1)=r+1 then (1:Rat) else 0)=if c=r then 1 else 0
     rw[show (if c<0 then c else c+1)=c+1 from ifn_]
     by_cases e:c=r
     ·rw[ay e,ifp_]
     ·rw[aA e,ifn_]
    rw[this,pg n]
    unfold sgd jH
    rw[ay rfl,ay (by decide)];grind
   ·rw[aA h]
    unfold jH
    rw[aA h];grind]
  exact ls 0 1 _ (by omega)
theorem JU:∀(acc:List Pv) (x:Nu),aQ (acc.foldl (fun x p=>qM x p.by') x)=true→aQ x=true∧rv (acc.foldl (fun x p=>qM x p.by') x)=acc.foldl (fun c p=>c*rv p.by') (rv x)
 |[],x,h=>⟨h,rfl⟩
 |p::acc,x,h=>by
  rw[tV] at h ⊢
  obtain⟨h1,h2⟩:=JU acc _ h
  obtain⟨h3,h4⟩:=wQ h1
  refine⟨h3,?_⟩
  rw[h2,tV,z3 h3 h4 h1]
theorem Gb:∀(acc:List Pv) (x k:Rat),acc.foldl (fun c p=>c*rv p.by') (k*x)=k*acc.foldl (fun c p=>c*rv p.by') x
 |[],x,k=>rfl
 |p::acc,x,k=>by
  rw[tV,tV,show k*x*rv p.by'=k*(x*rv p.by') by grind,Gb acc]
theorem Ga:∀(acc:List Pv) (s:Int) (y:Rat),acc.foldl (fun c p=>c*(rv p.by'*if p.mov then -1 else 1)) ((s:Rat)*y)=((acc.foldl (fun s p=>if p.mov then -s else s) s:Int):Rat)*acc.foldl (fun c p=>c*rv p.by') y
 |[],s,y=>rfl
 |p::acc,s,y=>by
  rw[tV,tV,tV]
  have e:(s:Rat)*y*(rv p.by'*if p.mov=true then -1 else 1)=((if p.mov=true then -s else s:Int):Rat)*(y*rv p.by'):=by
   cases p.mov with
   |true=>
    simp only[aM]
    rw[Rat.intCast_neg];grind
   |false=>
    simp only[KO,qB];grind
  rw[e,Ga acc]
theorem of_1:aQ (nOf (-1))=true∧rv (nOf (-1))=-1:=AC (q:=((-1:Int):Rat)) ⟨by decide,by decide⟩
theorem G3 {n:Nat}{V:List Nu}{d:Nu}(hV:V.length=n*n)(hg:V.all aQ=true)(h:mT n (lw n n V)=(d,0)):aQ d=true∧rv d=det n (toR n V):=by
 cases n6:lw n n V with
 |none=>
  rw[n6] at h
  unfold mT at h
  injection h with h1 h2
  exact absurd h2 (by decide)
 |some p=>
  obtain⟨U,acc⟩:=p
  have hok:=H5 hV hg n6
  have hle:=hok.red.le
  rw[eG] at hle
  have hd:=hok.det (det n) rfl (bJ n)
  rw[n6] at h
  unfold mT at h
  dsimp only at h
  by_cases hl:acc.length<n
  ·rw[ay hl] at h
   injection h with h1 h2
   rw[←h1,hd,(bJ n).zero (r:=acc.length) hl fun t ht=>hok.red.z2 _ t (by rw[eG];omega) hl ht]
   exact⟨of0.1,by rw[of0.2];grind⟩
  ·rw[aA hl] at h
   by_cases Ke:aQ (rJ (jR acc) acc)=true
   ·rw[ay Ke] at h
    injection h with h1 h2
    rw[←h1]
    refine⟨Ke,?_⟩
    have h3:=(JU acc (nOf (jR acc)) Ke).2
    have Lt:=J7 hok.red (by rw[eG];omega)
    rw[hd,(bJ n).congr _ jH Lt,pg]
    have h4:=Ga acc 1 1
    rw[show (((1:Int):Rat)*1)=1 by grind] at h4
    rw[h4]
    show rv (acc.foldl (fun x p=>qM x p.by') (nOf (jR acc)))=_
    rw[h3]
    have h5:rv (nOf (jR acc))=((jR acc:Int):Rat):=by
     rcases D4 acc 1 (.inl rfl) with h6|h6
     ·rw[show jR acc=1 from h6,of1.2];rfl
     ·rw[show jR acc=-1 from h6,of_1.2];rfl
    have h7:=Gb acc 1 ((jR acc:Int):Rat)
    rw[show ((jR acc:Int):Rat)*1=((jR acc:Int):Rat) by grind] at h7
    rw[h5,h7]
    show ((jR acc:Int):Rat)*_=((jR acc:Int):Rat)*_*1
    grind
   ·rw[aA Ke] at h
    injection h with h1 h2
    exact absurd h2 (by decide)
def mC(lj:List Int):Int×(List ak)→Option ((Int×(List ak))⊕((List ak))):=fun (aK,aT)=>cnd (decide (aK<((lj).length:Int))) (gd (0≤aK∧aK<((lj).length:Int)) (bnd (eE ((lj)[(aK).toNat]!)) fun x4=>gd ((aT++[x4]).length*136≤140737488355328) (some (.inl (i64.wrap (aK+(1:Int)),aT++[x4]))))) (some (.inr aT))
def fG(cf:Int)(bR:Int)(lj:List Int):Option av:=bnd (a5 (mC lj) ((0:Int),([]:List ak))) fun aG=>some (⟨cf,bR,aG⟩:av)
theorem jP {cf:Int}{bR:Int}{lj:List Int}{r:av}(h:fG cf bR lj=some r):aB prog 59 [dI .i64 cf,dI .i64 bR,dL (cI .i64) lj] (dG aR r):=by
 refine bL (rs:=[.cell 6 24]) (fun cx hx h0=>?_) func59
 unfold fG at h
 refine rs hx fun K hK=>?_
 refine s1 (d:=.pt 0 0) (bZ ax) ?_
 refine .nil (hK _ _ (rs hx fun K hK=>?_))
 iterate 2 refine sa ?_
 refine s1 (d:=.ag [dI .i64 cf,dI .i64 bR,dN]) (cY ax) ?_
 refine s1 (d:=.pt 1 0) (bZ ax) ?_
 refine s0 (dX (ds':=[dI .i64 cf,dI .i64 bR,dN]) ax) ?_
 refine .nil (hK _ _ (AW.seq (ra hx ?_)))
 refine AW.block ?_
 obtain⟨aG,hy,h⟩:=ah h
 refine lp (S:=Int×(List ak)) (X:=(List ak)) (fun (aK,aT)=>[(6,.pt 0 0),(7,.pt 1 0),(13,dL (cI .i64) lj),(14,dI .i64 ((lj).length:Int)),(15,dI .i64 aK)]) (fun (aK,aT)=>⟨[(0,[dI .i64 (0:Int),dI .i64 (0:Int),dN]),(1,[dI .i64 cf,dI .i64 bR,dO 2 aj aT])],[(2,(aT).length,36,34)],3⟩) (PE cx (.exit 0) (fun aG=>[(6,.pt 0 0),(7,.pt 1 0)]) fun aG=>⟨[(0,[dI .i64 (0:Int),dI .i64 (0:Int),dN]),(1,[dI .i64 cf,dI .i64 bR,dO 2 aj aG])],[(2,(aG).length,36,34)],3⟩) hy ?_ ?_ ?_
 exact Wk.trans (Wk.nilOwn (ds':=[dI .i64 cf,dI .i64 bR,dO 2 aj ([]:List ak)]) 1 2 34 36) (wk h0 [0,1,2] (wR rfl (wR rfl (wR rfl (wR rfl (wR rfl wTn))))) (vR rfl (vR rfl wVn)) (wL rfl rfl wLn))
 clear hy h
 rintro⟨aK,aT⟩ y h
 dsimp only[mC] at h
 refine ra hx ?_
 refine AW.seq (cdh h rfl (fun cE h=>?_) (fun cE h=>?_))
 refine AW.skip (AW.seq (AW.block (rs hx fun K hK=>?_)))
 obtain⟨ni,h⟩:=aC h
 have pU:(aK).toNat<(lj).length:=by omega
 refine s1 (fZ ni b7 a6) ?_
 refine s1 (pm (c:=(cI .i64)) (l:=lj) (n:=(aK).toNat) (o:=0) a6 pU) ?_
 refine sa ?_
 refine .nil (hK _ _ (rqd [60] hx fun K hK=>?_))
 refine sa ?_
 refine s1 (bc aP) ?_
 refine sa ?_
 refine cqb h iP fun x4 h=>?_
 refine s1 (lf ([x4]:List ak) aj aP aD) ?_
 obtain⟨hc6,h⟩:=aC h
 refine s1 (d:=dO 2 aj (aT++[x4])) (iS aP aD hc6) ?_
 refine sa ?_
 refine s0 (dX (ds':=[dI .i64 cf,dI .i64 bR,dO 2 aj (aT++[x4])]) aP) ?_
 refine .nil (hK _ _ (rb hx ?_))
 cases h
 exact PS.l (pe0 h0 [0,1,2])
 refine AW.exit ?_
 try dsimp only
 try simp only[aM,reduceIte,Nat.reduceEqDiff,reduceCtorEq]
 cases h
 exact PS.r ⟨by nofun,PE.i (wk h0 [0,1,2] (wR rfl (wR rfl wTn)) (vR rfl (vR rfl wVn)) (wL rfl rfl wLn))⟩
 rintro ex tm' hp' ⟨rfl,hw⟩
 try dsimp only
 try simp only[aM,reduceIte,Nat.reduceEqDiff,reduceCtorEq]
 refine AW.weak hw (rs hx fun K hK=>?_)
 refine s1 (d:=.ag [dI .i64 cf,dI .i64 bR,dO 2 aj aG]) (bS ax) ?_
 refine s0 (dX (ds':=[dI .i64 cf,dI .i64 bR,dO 2 aj aG]) ax) ?_
 refine .nil (hK _ _ (AW.ret ?_))
 cases h
 exact fK.mk1 (eD (es:=[dI .i64 cf,dI .i64 bR,dO 2 aj aG]) rfl ax rfl rfl (ltb rfl) (leb rfl) rfl (.inr (.inr ⟨_,(lD (wc (gY _) (wc (gY _) (wc (GA _) wcn)))),rfl,rfl⟩)))
def gv(lj:List Int):Option (List ak):=bnd (fG (1:Int) ((lj).length:Int) lj) fun x1=>some x1.vV
theorem ny {lj:List Int}{r:List ak}(h:gv lj=some r):aB prog 36 [dL (cI .i64) lj] (dL aj r):=by
 refine bL (rs:=[.tmp 2]) (fun cx hx h0=>?_) func36
 unfold gv at h
 refine rs hx fun K hK=>?_
 refine s1 (d:=dO 0 aj ([]:List ak)) (ep aP aD) ?_
 refine .nil (hK _ _ (rs hx fun K hK=>?_))
 iterate 3 refine sa ?_
 refine scb h jP fun x1 h=>?_
 refine s1 (T_fldC ax aP) ?_
 refine sa ?_
 refine .nil (hK _ _ (AW.ret ?_))
 cases h
 exact rv1
def jB(eJ:List ak):Int→Option (Int⊕(Bool⊕Unit)):=fun aS=>cnd (decide (aS<((eJ).length:Int))) (gd (0≤aS∧aS<((eJ).length:Int)) (bnd (S:=Bool) (bnd (ey ((eJ)[(aS).toNat]!)) fun x4=>cnd (decide (x4≠(0:Int))) (some (true)) (bnd (bN ((eJ)[(aS).toNat]!)) fun x7=>some (!x7))) fun bh=>cnd bh (some (.inr (.inl false))) (some (.inl (i64.wrap (aS+(1:Int))))))) (some (.inr (.inr ())))
def mB(eJ:List ak):Option Bool:=bnd (a5 (jB eJ) (0:Int)) fun y11=>match y11 with| .inl r=>some r| .inr ()=>some true
theorem Cp {eJ:List ak}{r:Bool}(h:mB eJ=some r):aB prog 45 [dL aj eJ] (dB r):=by
 refine bL (rs:=[.tmp 2]) (fun cx hx h0=>?_) func45
 unfold mB at h
 refine ra hx ?_
 refine AW.seq (ra hx ?_)
 refine AW.block ?_
 obtain⟨y,hy,h⟩:=ah h
 refine lp (S:=Int) (X:=Bool⊕Unit) (fun aS=>[(5,dL aj eJ),(6,dI .i64 ((eJ).length:Int)),(7,dI .i64 aS)]) (fun aS=>⟨[],[],0⟩) (PS (PR [.tmp 2] fun r=>dB r) (PE cx (.exit 0) (fun ()=>[]) fun ()=>⟨[],[],0⟩)) hy ?_ ?_ ?_
 exact wk h0 [] (wR rfl (wR rfl (wR rfl wTn))) wVn wLn
 clear hy h
 rintro aS y h
 dsimp only[jB] at h
 refine ra hx ?_
 refine AW.seq (cdh h rfl (fun cE h=>?_) (fun cE h=>?_))
 refine AW.skip (AW.seq (AW.block (rs hx fun K hK=>?_)))
 obtain⟨ni,h⟩:=aC h
 have pU:(aS).toNat<(eJ).length:=by omega
 refine s1 (fZ ni aP aD) ?_
 refine s1 (d:=dG aj ((eJ)[(aS).toNat]!)) (pl (c:=aj) (l:=eJ) (n:=(aS).toNat) (o:=0) aD pU (jM _ _ rfl)) ?_
 refine s1 (bo (F:=aj.f cu) aD) ?_
 refine s0 (aO (b':=(eJ)[(aS).toNat]!) (an.id _ _) aD) ?_
 refine .nil (hK _ _ (AW.seq ?_))
 obtain⟨bh,hy,h⟩:=ah h
 refine jn ((PE cx .normal (fun bh=>[(5,dL aj eJ),(6,dI .i64 ((eJ).length:Int)),(7,dI .i64 aS),(18,dB bh)]) fun bh=>⟨[],[],0⟩) bh) ?_ ?_
 replace h:=hy
 refine rq hx fun K hK=>?_
 refine s1 (d:=dG aj ((eJ)[(aS).toNat]!)) (aF (an.id _ _) aD) ?_
 refine scb h lS fun x4 h=>?_
 iterate 2 refine sa ?_
 rcases aZ (decide (x4≠(0:Int))) with dy|dy
 replace h:=a3 dy h
 iterate 3 refine aI rfl rfl dy ?_
 refine s1 (al dy) ?_
 refine .nil (hK _ _ ?_)
 cases h
 exact pe0 h0 []
 replace h:=a4 dy h
 refine g1 (d:=dG aj ((eJ)[(aS).toNat]!)) dy (aF (an.id _ _) aD) ?_
 obtain⟨x7,xZ,h⟩:=ah h
 refine g1 dy (dP rfl (eM xZ) (by simp only[cD,dT,jZ,gj,eh,eC];exact bn _ _) (lA (eK _ _) lAn) (.inl rfl)) ?_
 refine ga dy ?_
 refine s1 (au dy) ?_
 refine .nil (hK _ _ ?_)
 cases h
 exact pe0 h0 []
 rintro ex tm' hp' ⟨rfl,hw⟩
 refine AW.weak hw (cdh h rfl (fun fh h=>?_) (fun fh h=>?_))
 refine ra hx ?_
 refine AW.ret ?_
 cases h
 refine PS.r ⟨by nofun,PS.l (PR.i ?_)⟩
 exact rv1
 refine AW.skip (rb hx ?_)
 cases h
 exact PS.l (pe0 h0 [])
 refine AW.exit ?_
 try dsimp only
 try simp only[aM,reduceIte,Nat.reduceEqDiff,reduceCtorEq]
 cases h
 exact PS.r ⟨by nofun,PS.r (PE.i (wk h0 [] wTn wVn wLn))⟩
 rcases y with r|⟨⟩
 rintro ex tm' hp' ⟨rfl,hw⟩
 cases h
 exact hw
 rintro ex tm' hp' ⟨rfl,hw⟩
 try dsimp only
 try simp only[aM,reduceIte,Nat.reduceEqDiff,reduceCtorEq]
 refine AW.weak hw (ra hx ?_)
 refine AW.ret ?_
 cases h
 exact rv1
def eS :Option Bool:=bnd (fG (2:Int) (2:Int) [(1:Int),(2:Int),(3:Int),(4:Int)]) fun x1=>bnd (ij x1) fun x3=>bnd (jV x1) fun x5=>bnd (fG (2:Int) (3:Int) [(0:Int),(2:Int),(4:Int),(0:Int),(1:Int),(2:Int)]) fun x7=>bnd (ij x7) fun x9=>bnd (gv [(5:Int),(6:Int)]) fun s8=>bnd (gS x1 s8) fun qN=>bnd (fG (1:Int) (2:Int) [(1:Int),(1:Int)]) fun uG=>bnd (gv [(2:Int)]) fun pQ=>bnd (gS uG pQ) fun JC=>bnd (fG (2:Int) (1:Int) [(1:Int),(1:Int)]) fun B9=>bnd (gv [(1:Int),(2:Int)]) fun Fp=>bnd (gS B9 Fp) fun L2=>bnd (fG (1:Int) (3:Int) [(1:Int),(2:Int),(3:Int)]) fun xo=>bnd (kI xo) fun v8=>bnd (fG (2:Int) (2:Int) [(2:Int),(1:Int),(1:Int),(2:Int)]) fun JA=>bnd (d5 JA) fun uF=>bnd (fG (2:Int) (2:Int) [(1:Int),(2:Int),(2:Int),(1:Int)]) fun x35=>bnd (d5 x35) fun zT=>bnd (S:=Bool) (cnd (decide (x3.2.2≠(0:Int))) (some (true)) (cnd (decide (x5.2≠(0:Int))) (some (true)) (cnd (decide (x9.2.2≠(0:Int))) (some (true)) (cnd (decide (qN.2≠(0:Int))) (some (true)) (cnd (decide (JC.2≠(70:Int))) (some (true)) (cnd (decide (L2.2≠(200:Int))) (some (true)) (cnd (decide (v8.2≠(0:Int))) (some (true)) (cnd (decide (uF.2≠(0:Int))) (some (true)) (cnd (decide (zT.2≠(0:Int))) (some (true)) (cnd (decide (((v8.1).length:Int)≠(2:Int))) (some (true)) (cnd (decide (((qN.1).length:Int)≠(2:Int))) (some (true)) (cnd (decide (((x3.2.1).length:Int)≠(2:Int))) (some (true)) (some (decide (((x9.2.1).length:Int)≠(1:Int)))))))))))))))) fun jE=>cnd jE (some false) (bnd (S:=Bool) (bnd (fV (2:Int)) fun x53=>bnd (gu x3.1 x53) fun x55=>cnd x55 (gd (0≤(0:Int)∧(0:Int)<((x3.2.1).length:Int)) (cnd (decide (((x3.2.1)[((0:Int)).toNat]!)=(0:Int))) (gd (0≤(1:Int)∧(1:Int)<((x3.2.1).length:Int)) (cnd (decide (((x3.2.1)[((1:Int)).toNat]!)=(1:Int))) (bnd (eE (-2:Int)) fun x64=>cnd (decide (x5.1=x64)) (bnd (fG (2:Int) (3:Int) [(0:Int),(1:Int),(2:Int),0,0,0]) fun x67=>bnd (gu x9.1 x67) fun x69=>cnd x69 (gd (0≤(0:Int)∧(0:Int)<((x9.2.1).length:Int)) (bnd (some (decide (((x9.2.1)[((0:Int)).toNat]!)=(1:Int)))) fun x74=>some (x74))) (some (false))) (some (false))) (some (false)))) (some (false)))) (some (false))) fun mF=>bnd (S:=Bool) (cnd mF (gd (0≤(0:Int)∧(0:Int)<((qN.1).length:Int)) (bnd (eE (-4:Int)) fun x80=>cnd (decide ((qN.1)[((0:Int)).toNat]! =x80)) (gd (0≤(1:Int)∧(1:Int)<((qN.1).length:Int)) (bnd (nN (9:Int) (2:Int)) fun x85=>cnd (decide ((qN.1)[((1:Int)).toNat]! =x85)) (gd (0≤(0:Int)∧(0:Int)<((v8.1).length:Int)) (bnd (gv [(-2:Int),(1:Int),(0:Int)]) fun x90=>bnd (c6 ((v8.1)[((0:Int)).toNat]!) x90) fun x92=>cnd x92 (gd (0≤(1:Int)∧(1:Int)<((v8.1).length:Int)) (bnd (gv [(-3:Int),(0:Int),(1:Int)]) fun x97=>bnd (c6 ((v8.1)[((1:Int)).toNat]!) x97) fun x99=>cnd x99 (cnd uF.1 (some (!zT.1)) (some (false))) (some (false)))) (some (false)))) (some (false)))) (some (false)))) (some (false))) fun q8=>some q8)
theorem nt  {r:Bool}(h:eS=some r):aB prog 12 [] (dB r):=by
 refine bL (rs:=[.tmp 0]) (fun cx hx h0=>?_) func12
 unfold eS at h
 refine ra hx ?_
 refine rs hx fun K hK=>?_
 refine s1 (d:=dO 0 (cI .i64) [(1:Int),(2:Int),(3:Int),(4:Int)]) (iM b7 a6) ?_
 refine scb h jP fun x1 h=>?_
 refine s1 (d:=.pt 1 0) (bZ ax) ?_
 refine s0 (dX (ds':=[dI .i64 x1.vR,dI .i64 x1.vC,dL aj x1.vV]) ax) ?_
 refine .nil (hK _ _ (rs hx fun K hK=>?_))
 refine s1 (d:=dG aR x1) (bS ax) ?_
 refine scb h sV fun x3 h=>?_
 iterate 4 refine sa ?_
 refine s1 (d:=.pt 2 0) (bZ ax) ?_
 refine s0 (dX (ds':=[dI .i64 x3.1.vR,dI .i64 x3.1.vC,dL aj x3.1.vV]) ax) ?_
 iterate 2 refine sa ?_
 refine .nil (hK _ _ (rs hx fun K hK=>?_))
 refine s1 (d:=dG aR x1) (bS ax) ?_
 refine scb h sj fun x5 h=>?_
 iterate 3 refine sa ?_
 refine s1 (bo (F:=aj.f cu) aD) ?_
 refine s0 (aO (b':=x5.1) (an.id _ _) aD) ?_
 refine sa ?_
 refine .nil (hK _ _ (rs hx fun K hK=>?_))
 refine s1 (d:=dO 4 (cI .i64) [(0:Int),(2:Int),(4:Int),(0:Int),(1:Int),(2:Int)]) (iM b7 a6) ?_
 refine scb h jP fun x7 h=>?_
 refine scb h sV fun x9 h=>?_
 iterate 4 refine sa ?_
 refine s1 (d:=.pt 5 0) (bZ ax) ?_
 refine s0 (dX (ds':=[dI .i64 x9.1.vR,dI .i64 x9.1.vC,dL aj x9.1.vV]) ax) ?_
 iterate 2 refine sa ?_
 refine .nil (hK _ _ (rsd [36,29] hx fun K hK=>?_))
 refine s1 (d:=dG aR x1) (bS ax) ?_
 refine s1 (yN b7 a6) ?_
 refine cqb h ny fun s8 h=>?_
 refine cqb h qc fun qN h=>?_
 iterate 5 refine sa ?_
 refine .nil (hK _ _ (rs hx fun K hK=>?_))
 refine s1 (d:=dO 6 (cI .i64) [(1:Int),(1:Int)]) (iM b7 a6) ?_
 refine scb h jP fun uG h=>?_
 refine s1 (d:=dO 7 (cI .i64) [(2:Int)]) (iM b7 a6) ?_
 refine scb h ny fun pQ h=>?_
 refine scb h qc fun JC h=>?_
 iterate 5 refine sa ?_
 refine .nil (hK _ _ (rs hx fun K hK=>?_))
 refine s1 (d:=dO 8 (cI .i64) [(1:Int),(1:Int)]) (iM b7 a6) ?_
 refine scb h jP fun B9 h=>?_
 refine s1 (d:=dO 9 (cI .i64) [(1:Int),(2:Int)]) (iM b7 a6) ?_
 refine scb h ny fun Fp h=>?_
 refine scb h qc fun L2 h=>?_
 iterate 5 refine sa ?_
 refine .nil (hK _ _ (rs hx fun K hK=>?_))
 refine s1 (d:=dO 10 (cI .i64) [(1:Int),(2:Int),(3:Int)]) (iM b7 a6) ?_
 refine scb h jP fun xo h=>?_
 refine scb h Cn fun v8 h=>?_
 iterate 5 refine sa ?_
 refine .nil (hK _ _ (rs hx fun K hK=>?_))
 refine s1 (d:=dO 11 (cI .i64) [(2:Int),(1:Int),(1:Int),(2:Int)]) (iM b7 a6) ?_
 refine scb h jP fun JA h=>?_
 refine scb h kV fun uF h=>?_
 iterate 5 refine sa ?_
 refine .nil (hK _ _ (rs hx fun K hK=>?_))
 refine s1 (d:=dO 12 (cI .i64) [(1:Int),(2:Int),(2:Int),(1:Int)]) (iM b7 a6) ?_
 refine scb h jP fun x35 h=>?_
 refine scb h kV fun zT h=>?_
 iterate 5 refine sa ?_
 refine .nil (hK _ _ ?_)
 iterate 2 refine AW.seq ?_
 obtain⟨jE,hy,h⟩:=ah h
 refine jn ((PE cx .normal (fun jE=>[(2,.pt 0 0),(3,dL (cI .i64) x3.2.1),(5,.pt 1 0),(7,.pt 2 0),(8,dL (cI .i64) x9.2.1),(10,dL aj qN.1),(16,dL (cL aj) v8.1),(18,dB uF.1),(20,dB zT.1),(137,dB jE)]) fun jE=>⟨[(0,[dI .i64 x3.1.vR,dI .i64 x3.1.vC,dL aj x3.1.vV]),(1,dC (aj.f x5.1)),(2,[dI .i64 x9.1.vR,dI .i64 x9.1.vC,dL aj x9.1.vV])],[],3⟩) jE) ?_ ?_
 replace h:=hy
 refine rq hx fun K hK=>?_
 iterate 3 refine sa ?_
 rcases aZ (decide (x3.2.2≠(0:Int))) with Ew|Ew
 replace h:=a3 Ew h
 iterate 2 refine aI rfl rfl Ew ?_
 refine s1 (al Ew) ?_
 refine sa ?_
 iterate 2 refine aI rfl rfl rfl ?_
 refine s1 (al rfl) ?_
 refine sa ?_
 iterate 2 refine aI rfl rfl rfl ?_
 refine s1 (al rfl) ?_
 refine sa ?_
 iterate 2 refine aI rfl rfl rfl ?_
 refine s1 (al rfl) ?_
 refine sa ?_
 iterate 2 refine aI rfl rfl rfl ?_
 refine s1 (al rfl) ?_
 refine sa ?_
 iterate 2 refine aI rfl rfl rfl ?_
 refine s1 (al rfl) ?_
 refine sa ?_
 iterate 2 refine aI rfl rfl rfl ?_
 refine s1 (al rfl) ?_
 refine sa ?_
 iterate 2 refine aI rfl rfl rfl ?_
 refine s1 (al rfl) ?_
 refine sa ?_
 iterate 3 refine aI rfl rfl rfl ?_
 refine s1 (al rfl) ?_
 refine sa ?_
 iterate 3 refine aI rfl rfl rfl ?_
 refine s1 (al rfl) ?_
 refine sa ?_
 iterate 3 refine aI rfl rfl rfl ?_
 refine s1 (al rfl) ?_
 refine sa ?_
 iterate 3 refine aI rfl rfl rfl ?_
 refine s1 (al rfl) ?_
 refine .nil (hK _ _ ?_)
 cases h
 exact pe0 h0 [2,3,5]
 replace h:=a4 Ew h
 iterate 2 refine ga Ew ?_
 refine s1 (au Ew) ?_
 refine sa ?_
 rcases aZ (decide (x5.2≠(0:Int))) with vA|vA
 replace h:=a3 vA h
 iterate 2 refine aI rfl rfl vA ?_
 refine s1 (al vA) ?_
 refine sa ?_
 iterate 2 refine aI rfl rfl rfl ?_
 refine s1 (al rfl) ?_
 refine sa ?_
 iterate 2 refine aI rfl rfl rfl ?_
 refine s1 (al rfl) ?_
 refine sa ?_
 iterate 2 refine aI rfl rfl rfl ?_
 refine s1 (al rfl) ?_
 refine sa ?_
 iterate 2 refine aI rfl rfl rfl ?_
 refine s1 (al rfl) ?_
 refine sa ?_
 iterate 2 refine aI rfl rfl rfl ?_
 refine s1 (al rfl) ?_
 refine sa ?_
 iterate 2 refine aI rfl rfl rfl ?_
 refine s1 (al rfl) ?_
 refine sa ?_
 iterate 3 refine aI rfl rfl rfl ?_
 refine s1 (al rfl) ?_
 refine sa ?_
 iterate 3 refine aI rfl rfl rfl ?_
 refine s1 (al rfl) ?_
 refine sa ?_
 iterate 3 refine aI rfl rfl rfl ?_
 refine s1 (al rfl) ?_
 refine sa ?_
 iterate 3 refine aI rfl rfl rfl ?_
 refine s1 (al rfl) ?_
 refine .nil (hK _ _ ?_)
 cases h
 exact pe0 h0 [2,3,5]
 replace h:=a4 vA h
 iterate 2 refine ga vA ?_
 refine s1 (au vA) ?_
 refine sa ?_
 rcases aZ (decide (x9.2.2≠(0:Int))) with sC|sC
 replace h:=a3 sC h
 iterate 2 refine aI rfl rfl sC ?_
 refine s1 (al sC) ?_
 refine sa ?_
 iterate 2 refine aI rfl rfl rfl ?_
 refine s1 (al rfl) ?_
 refine sa ?_
 iterate 2 refine aI rfl rfl rfl ?_
 refine s1 (al rfl) ?_
 refine sa ?_
 iterate 2 refine aI rfl rfl rfl ?_
 refine s1 (al rfl) ?_
 refine sa ?_
 iterate 2 refine aI rfl rfl rfl ?_
 refine s1 (al rfl) ?_
 refine sa ?_
 iterate 2 refine aI rfl rfl rfl ?_
 refine s1 (al rfl) ?_
 refine sa ?_
 iterate 3 refine aI rfl rfl rfl ?_
 refine s1 (al rfl) ?_
 refine sa ?_
 iterate 3 refine aI rfl rfl rfl ?_
 refine s1 (al rfl) ?_
 refine sa ?_
 iterate 3 refine aI rfl rfl rfl ?_
 refine s1 (al rfl) ?_
 refine sa ?_
 iterate 3 refine aI rfl rfl rfl ?_
 refine s1 (al rfl) ?_
 refine .nil (hK _ _ ?_)
 cases h
 exact pe0 h0 [2,3,5]
 replace h:=a4 sC h
 iterate 2 refine ga sC ?_
 refine s1 (au sC) ?_
 refine sa ?_
 rcases aZ (decide (qN.2≠(0:Int))) with Ev|Ev
 replace h:=a3 Ev h
 iterate 2 refine aI rfl rfl Ev ?_
 refine s1 (al Ev) ?_
 refine sa ?_
 iterate 2 refine aI rfl rfl rfl ?_
 refine s1 (al rfl) ?_
 refine sa ?_
 iterate 2 refine aI rfl rfl rfl ?_
 refine s1 (al rfl) ?_
 refine sa ?_
 iterate 2 refine aI rfl rfl rfl ?_
 refine s1 (al rfl) ?_
 refine sa ?_
 iterate 2 refine aI rfl rfl rfl ?_
 refine s1 (al rfl) ?_
 refine sa ?_
 iterate 3 refine aI rfl rfl rfl ?_
 refine s1 (al rfl) ?_
 refine sa ?_
 iterate 3 refine aI rfl rfl rfl ?_
 refine s1 (al rfl) ?_
 refine sa ?_
 iterate 3 refine aI rfl rfl rfl ?_
 refine s1 (al rfl) ?_
 refine sa ?_
 iterate 3 refine aI rfl rfl rfl ?_
 refine s1 (al rfl) ?_
 refine .nil (hK _ _ ?_)
 cases h
 exact pe0 h0 [2,3,5]
 replace h:=a4 Ev h
 iterate 2 refine ga Ev ?_
 refine s1 (au Ev) ?_
 refine sa ?_
 rcases aZ (decide (JC.2≠(70:Int))) with Eu|Eu
 replace h:=a3 Eu h
 iterate 2 refine aI rfl rfl Eu ?_
 refine s1 (al Eu) ?_
 refine sa ?_
 iterate 2 refine aI rfl rfl rfl ?_
 refine s1 (al rfl) ?_
 refine sa ?_
 iterate 2 refine aI rfl rfl rfl ?_
 refine s1 (al rfl) ?_
 refine sa ?_
 iterate 2 refine aI rfl rfl rfl ?_
 refine s1 (al rfl) ?_
 refine sa ?_
 iterate 3 refine aI rfl rfl rfl ?_
 refine s1 (al rfl) ?_
 refine sa ?_
 iterate 3 refine aI rfl rfl rfl ?_
 refine s1 (al rfl) ?_
 refine sa ?_
 iterate 3 refine aI rfl rfl rfl ?_
 refine s1 (al rfl) ?_
 refine sa ?_
 iterate 3 refine aI rfl rfl rfl ?_
 refine s1 (al rfl) ?_
 refine .nil (hK _ _ ?_)
 cases h
 exact pe0 h0 [2,3,5]
 replace h:=a4 Eu h
 iterate 2 refine ga Eu ?_
 refine s1 (au Eu) ?_
 refine sa ?_
 rcases aZ (decide (L2.2≠(200:Int))) with IH|IH
 replace h:=a3 IH h
 iterate 2 refine aI rfl rfl IH ?_
 refine s1 (al IH) ?_
 refine sa ?_
 iterate 2 refine aI rfl rfl rfl ?_
 refine s1 (al rfl) ?_
 refine sa ?_
 iterate 2 refine aI rfl rfl rfl ?_
 refine s1 (al rfl) ?_
 refine sa ?_
 iterate 3 refine aI rfl rfl rfl ?_
 refine s1 (al rfl) ?_
 refine sa ?_
 iterate 3 refine aI rfl rfl rfl ?_
 refine s1 (al rfl) ?_
 refine sa ?_
 iterate 3 refine aI rfl rfl rfl ?_
 refine s1 (al rfl) ?_
 refine sa ?_
 iterate 3 refine aI rfl rfl rfl ?_
 refine s1 (al rfl) ?_
 refine .nil (hK _ _ ?_)
 cases h
 exact pe0 h0 [2,3,5]
 replace h:=a4 IH h
 iterate 2 refine ga IH ?_
 refine s1 (au IH) ?_
 refine sa ?_
 rcases aZ (decide (v8.2≠(0:Int))) with vz|vz
 replace h:=a3 vz h
 iterate 2 refine aI rfl rfl vz ?_
 refine s1 (al vz) ?_
 refine sa ?_
 iterate 2 refine aI rfl rfl rfl ?_
 refine s1 (al rfl) ?_
 refine sa ?_
 iterate 3 refine aI rfl rfl rfl ?_
 refine s1 (al rfl) ?_
 refine sa ?_
 iterate 3 refine aI rfl rfl rfl ?_
 refine s1 (al rfl) ?_
 refine sa ?_
 iterate 3 refine aI rfl rfl rfl ?_
 refine s1 (al rfl) ?_
 refine sa ?_
 iterate 3 refine aI rfl rfl rfl ?_
 refine s1 (al rfl) ?_
 refine .nil (hK _ _ ?_)
 cases h
 exact pe0 h0 [2,3,5]
 replace h:=a4 vz h
 iterate 2 refine ga vz ?_
 refine s1 (au vz) ?_
 refine sa ?_
 rcases aZ (decide (uF.2≠(0:Int))) with IG|IG
 replace h:=a3 IG h
 iterate 2 refine aI rfl rfl IG ?_
 refine s1 (al IG) ?_
 refine sa ?_
 iterate 3 refine aI rfl rfl rfl ?_
 refine s1 (al rfl) ?_
 refine sa ?_
 iterate 3 refine aI rfl rfl rfl ?_
 refine s1 (al rfl) ?_
 refine sa ?_
 iterate 3 refine aI rfl rfl rfl ?_
 refine s1 (al rfl) ?_
 refine sa ?_
 iterate 3 refine aI rfl rfl rfl ?_
 refine s1 (al rfl) ?_
 refine .nil (hK _ _ ?_)
 cases h
 exact pe0 h0 [2,3,5]
 replace h:=a4 IG h
 iterate 2 refine ga IG ?_
 refine s1 (au IG) ?_
 refine sa ?_
 rcases aZ (decide (zT.2≠(0:Int))) with IF|IF
 replace h:=a3 IF h
 iterate 3 refine aI rfl rfl IF ?_
 refine s1 (al IF) ?_
 refine sa ?_
 iterate 3 refine aI rfl rfl rfl ?_
 refine s1 (al rfl) ?_
 refine sa ?_
 iterate 3 refine aI rfl rfl rfl ?_
 refine s1 (al rfl) ?_
 refine sa ?_
 iterate 3 refine aI rfl rfl rfl ?_
 refine s1 (al rfl) ?_
 refine .nil (hK _ _ ?_)
 cases h
 exact pe0 h0 [2,3,5]
 replace h:=a4 IF h
 iterate 3 refine ga IF ?_
 refine s1 (au IF) ?_
 refine sa ?_
 rcases aZ (decide (((v8.1).length:Int)≠(2:Int))) with IE|IE
 replace h:=a3 IE h
 iterate 3 refine aI rfl rfl IE ?_
 refine s1 (al IE) ?_
 refine sa ?_
 iterate 3 refine aI rfl rfl rfl ?_
 refine s1 (al rfl) ?_
 refine sa ?_
 iterate 3 refine aI rfl rfl rfl ?_
 refine s1 (al rfl) ?_
 refine .nil (hK _ _ ?_)
 cases h
 exact pe0 h0 [2,3,5]
 replace h:=a4 IE h
 iterate 3 refine ga IE ?_
 refine s1 (au IE) ?_
 refine sa ?_
 rcases aZ (decide (((qN.1).length:Int)≠(2:Int))) with ID|ID
 replace h:=a3 ID h
 iterate 3 refine aI rfl rfl ID ?_
 refine s1 (al ID) ?_
 refine sa ?_
 iterate 3 refine aI rfl rfl rfl ?_
 refine s1 (al rfl) ?_
 refine .nil (hK _ _ ?_)
 cases h
 exact pe0 h0 [2,3,5]
 replace h:=a4 ID h
 iterate 3 refine ga ID ?_
 refine s1 (au ID) ?_
 refine sa ?_
 rcases aZ (decide (((x3.2.1).length:Int)≠(2:Int))) with IC|IC
 replace h:=a3 IC h
 iterate 3 refine aI rfl rfl IC ?_
 refine s1 (al IC) ?_
 refine .nil (hK _ _ ?_)
 cases h
 exact pe0 h0 [2,3,5]
 replace h:=a4 IC h
 iterate 3 refine ga IC ?_
 refine s1 (au IC) ?_
 refine .nil (hK _ _ ?_)
 cases h
 exact pe0 h0 [2,3,5]
 rintro ex tm' hp' ⟨rfl,hw⟩
 refine AW.weak hw (cdh h rfl (fun hb52 h=>?_) (fun hb52 h=>?_))
 refine ra hx ?_
 refine AW.ret ?_
 cases h
 exact rv1
 refine AW.skip (AW.seq ?_)
 obtain⟨mF,hy,h⟩:=ah h
 refine jn ((PE cx .normal (fun mF=>[(10,dL aj qN.1),(16,dL (cL aj) v8.1),(18,dB uF.1),(20,dB zT.1),(22,dB mF)]) fun mF=>⟨[],[],0⟩) mF) ?_ ?_
 replace h:=hy
 refine rqd [43,14,60,59] hx fun K hK=>?_
 refine s1 (d:=dG aR x3.1) (bS ax) ?_
 refine cqb h wm fun x53 h=>?_
 refine cqb h wi fun x55 h=>?_
 refine sa ?_
 rcases aZ x55 with CK|CK
 replace h:=a3 CK h
 refine ga CK ?_
 obtain⟨hc58,h⟩:=aC h
 have hn59:((0:Int)).toNat<(x3.2.1).length:=by omega
 refine g1 CK (fZ hc58 b7 a6) ?_
 refine g1 CK (pm (c:=(cI .i64)) (l:=x3.2.1) (n:=((0:Int)).toNat) (o:=0) a6 hn59) ?_
 refine ga CK ?_
 refine s1 (al CK) ?_
 refine sa ?_
 rcases aZ (decide (((x3.2.1)[((0:Int)).toNat]!)=(0:Int))) with CJ|CJ
 replace h:=a3 CJ h
 refine ga CJ ?_
 obtain⟨hc61,h⟩:=aC h
 have hn62:((1:Int)).toNat<(x3.2.1).length:=by omega
 refine g1 CJ (fZ hc61 b7 a6) ?_
 refine g1 CJ (pm (c:=(cI .i64)) (l:=x3.2.1) (n:=((1:Int)).toNat) (o:=0) a6 hn62) ?_
 refine ga CJ ?_
 refine s1 (al CJ) ?_
 refine sa ?_
 rcases aZ (decide (((x3.2.1)[((1:Int)).toNat]!)=(1:Int))) with tK|tK
 replace h:=a3 tK h
 refine g1 (d:=dG aj x5.1) tK (aF (an.id _ _) aD) ?_
 obtain⟨x64,hx65,h⟩:=ah h
 refine sqg tok rfl rfl tK (iP hx65) rfl (lA (ao _) lAn) (.inl (jf _ _)) ?_
 refine g1 tK (v3 tok 4 (by decide) rR aD) ?_
 refine s1 (al tK) ?_
 refine sa ?_
 rcases aZ (decide (x5.1=x64)) with CI|CI
 replace h:=a3 CI h
 refine g1 (d:=dG aR x9.1) CI (bS ax) ?_
 refine g1 CI (yN b7 a6) ?_
 obtain⟨x67,hx68,h⟩:=ah h
 refine sqg tok rfl rfl CI (jP hx68) rfl (lA (ao _) (lA (ao _) (lA (ao _) lAn))) (.inl (jf _ _)) ?_
 obtain⟨x69,hx70,h⟩:=ah h
 refine sqg tok rfl rfl CI (wi hx70) (by simp only[cD,dT,jZ,gj,eh,eC];exact⟨bn _ _,bn _ _⟩) (lA (ao _) (lA (ao _) lAn)) (.inl rfl) ?_
 refine s1 (al CI) ?_
 refine sa ?_
 rcases aZ x69 with CH|CH
 replace h:=a3 CH h
 refine ga CH ?_
 obtain⟨hc72,h⟩:=aC h
 have hn73:((0:Int)).toNat<(x9.2.1).length:=by omega
 refine g1 CH (fZ hc72 b7 a6) ?_
 refine g1 CH (pm (c:=(cI .i64)) (l:=x9.2.1) (n:=((0:Int)).toNat) (o:=0) a6 hn73) ?_
 refine ga CH ?_
 refine s1 (al CH) ?_
 obtain⟨x74,hx75,h⟩:=ah h
 replace hx75:=co hx75
 refine s2 (d2:=dB x74) li (fT (congrArg dB hx75)) ?_
 refine .nil (hK _ _ ?_)
 cases h
 exact pe0 h0 []
 replace h:=a4 CH h
 iterate 4 refine aI rfl rfl CH ?_
 refine s1 (au CH) ?_
 refine sa ?_
 refine .nil (hK _ _ ?_)
 cases h
 exact pe0 h0 []
 replace h:=a4 CI h
 iterate 4 refine aI rfl rfl CI ?_
 refine s1 (au CI) ?_
 refine sa ?_
 iterate 4 refine aI rfl rfl rfl ?_
 refine s1 (au rfl) ?_
 refine sa ?_
 refine .nil (hK _ _ ?_)
 cases h
 exact pe0 h0 []
 replace h:=a4 tK h
 iterate 3 refine aI rfl rfl tK ?_
 refine s1 (au tK) ?_
 refine sa ?_
 iterate 4 refine aI rfl rfl rfl ?_
 refine s1 (au rfl) ?_
 refine sa ?_
 iterate 4 refine aI rfl rfl rfl ?_
 refine s1 (au rfl) ?_
 refine sa ?_
 refine .nil (hK _ _ ?_)
 cases h
 exact pe0 h0 []
 replace h:=a4 CJ h
 iterate 4 refine aI rfl rfl CJ ?_
 refine s1 (au CJ) ?_
 refine sa ?_
 iterate 3 refine aI rfl rfl rfl ?_
 refine s1 (au rfl) ?_
 refine sa ?_
 iterate 4 refine aI rfl rfl rfl ?_
 refine s1 (au rfl) ?_
 refine sa ?_
 iterate 4 refine aI rfl rfl rfl ?_
 refine s1 (au rfl) ?_
 refine sa ?_
 refine .nil (hK _ _ ?_)
 cases h
 exact pe0 h0 []
 replace h:=a4 CK h
 iterate 4 refine aI rfl rfl CK ?_
 refine s1 (au CK) ?_
 refine sa ?_
 iterate 4 refine aI rfl rfl rfl ?_
 refine s1 (au rfl) ?_
 refine sa ?_
 iterate 3 refine aI rfl rfl rfl ?_
 refine s1 (au rfl) ?_
 refine sa ?_
 iterate 4 refine aI rfl rfl rfl ?_
 refine s1 (au rfl) ?_
 refine sa ?_
 iterate 4 refine aI rfl rfl rfl ?_
 refine s1 (au rfl) ?_
 refine sa ?_
 refine .nil (hK _ _ ?_)
 cases h
 exact pe0 h0 []
 rintro ex tm' hp' ⟨rfl,hw⟩
 refine AW.weak hw (AW.seq ?_)
 obtain⟨q8,hy,h⟩:=ah h
 refine jn ((PE cx .normal (fun q8=>[(0,dB q8)]) fun q8=>⟨[],[],0⟩) q8) ?_ ?_
 replace h:=hy
 refine rqd [60,61,36,27] hx fun K hK=>?_
 iterate 2 refine sa ?_
 rcases aZ mF with A3|A3
 replace h:=a3 A3 h
 refine ga A3 ?_
 obtain⟨hc78,h⟩:=aC h
 have hn79:((0:Int)).toNat<(qN.1).length:=by omega
 refine g1 A3 (fZ hc78 aP aD) ?_
 refine g1 (d:=dG aj ((qN.1)[((0:Int)).toNat]!)) A3 (pl (c:=aj) (l:=qN.1) (n:=((0:Int)).toNat) (o:=0) aD hn79 (jM _ _ rfl)) ?_
 obtain⟨x80,hx81,h⟩:=ah h
 refine sqg tok rfl rfl A3 (iP hx81) rfl (lA (ao _) lAn) (.inl (jf _ _)) ?_
 refine g1 A3 (v3 tok 4 (by decide) rR aD) ?_
 refine s1 (al A3) ?_
 refine sa ?_
 rcases aZ (decide ((qN.1)[((0:Int)).toNat]! =x80)) with A2|A2
 replace h:=a3 A2 h
 refine ga A2 ?_
 obtain⟨hc83,h⟩:=aC h
 have hn84:((1:Int)).toNat<(qN.1).length:=by omega
 refine g1 A2 (fZ hc83 aP aD) ?_
 refine g1 (d:=dG aj ((qN.1)[((1:Int)).toNat]!)) A2 (pl (c:=aj) (l:=qN.1) (n:=((1:Int)).toNat) (o:=0) aD hn84 (jM _ _ rfl)) ?_
 obtain⟨x85,hx86,h⟩:=ah h
 refine sqg tok rfl rfl A2 (DS hx86) rfl (lA (ao _) (lA (ao _) lAn)) (.inl (jf _ _)) ?_
 refine g1 A2 (v3 tok 4 (by decide) rR aD) ?_
 refine s1 (al A2) ?_
 refine sa ?_
 rcases aZ (decide ((qN.1)[((1:Int)).toNat]! =x85)) with zP|zP
 replace h:=a3 zP h
 refine ga zP ?_
 obtain⟨hc88,h⟩:=aC h
 have hn89:((0:Int)).toNat<(v8.1).length:=by omega
 refine g1 zP (fZ hc88 mp aP) ?_
 refine g1 zP (pm (c:=(cL aj)) (l:=v8.1) (n:=((0:Int)).toNat) (o:=0) aP hn89) ?_
 refine g1 zP (yN b7 a6) ?_
 obtain⟨x90,hx91,h⟩:=ah h
 refine sqg tok rfl rfl zP (ny hx91) rfl (lA (ao _) lAn) (.inl rfl) ?_
 obtain⟨x92,hx93,h⟩:=ah h
 refine sqg tok rfl rfl zP (om hx93) rfl (lA (ao _) (lA (ao _) lAn)) (.inl rfl) ?_
 refine s1 (al zP) ?_
 refine sa ?_
 rcases aZ x92 with zO|zO
 replace h:=a3 zO h
 refine ga zO ?_
 obtain⟨hc95,h⟩:=aC h
 have hn96:((1:Int)).toNat<(v8.1).length:=by omega
 refine g1 zO (fZ hc95 mp aP) ?_
 refine g1 zO (pm (c:=(cL aj)) (l:=v8.1) (n:=((1:Int)).toNat) (o:=0) aP hn96) ?_
 refine g1 zO (yN b7 a6) ?_
 obtain⟨x97,hx98,h⟩:=ah h
 refine sqg tok rfl rfl zO (ny hx98) rfl (lA (ao _) lAn) (.inl rfl) ?_
 obtain⟨x99,hx100,h⟩:=ah h
 refine sqg tok rfl rfl zO (om hx100) rfl (lA (ao _) (lA (ao _) lAn)) (.inl rfl) ?_
 refine s1 (al zO) ?_
 refine sa ?_
 rcases aZ x99 with A8|A8
 replace h:=a3 A8 h
 refine ga A8 ?_
 refine s1 (al A8) ?_
 refine sa ?_
 rcases aZ uF.1 with A7|A7
 replace h:=a3 A7 h
 iterate 2 refine ga A7 ?_
 refine s1 (al A7) ?_
 refine sa ?_
 refine .nil (hK _ _ ?_)
 cases h
 exact pe0 h0 []
 replace h:=a4 A7 h
 iterate 2 refine aI rfl rfl A7 ?_
 refine s1 (au A7) ?_
 refine sa ?_
 refine .nil (hK _ _ ?_)
 cases h
 exact pe0 h0 []
 replace h:=a4 A8 h
 refine aI rfl rfl A8 ?_
 refine s1 (au A8) ?_
 refine sa ?_
 iterate 2 refine aI rfl rfl rfl ?_
 refine s1 (au rfl) ?_
 refine sa ?_
 refine .nil (hK _ _ ?_)
 cases h
 exact pe0 h0 []
 replace h:=a4 zO h
 iterate 6 refine aI rfl rfl zO ?_
 refine s1 (au zO) ?_
 refine sa ?_
 refine aI rfl rfl rfl ?_
 refine s1 (au rfl) ?_
 refine sa ?_
 iterate 2 refine aI rfl rfl rfl ?_
 refine s1 (au rfl) ?_
 refine sa ?_
 refine .nil (hK _ _ ?_)
 cases h
 exact pe0 h0 []
 replace h:=a4 zP h
 iterate 6 refine aI rfl rfl zP ?_
 refine s1 (au zP) ?_
 refine sa ?_
 iterate 6 refine aI rfl rfl rfl ?_
 refine s1 (au rfl) ?_
 refine sa ?_
 refine aI rfl rfl rfl ?_
 refine s1 (au rfl) ?_
 refine sa ?_
 iterate 2 refine aI rfl rfl rfl ?_
 refine s1 (au rfl) ?_
 refine sa ?_
 refine .nil (hK _ _ ?_)
 cases h
 exact pe0 h0 []
 replace h:=a4 A2 h
 iterate 5 refine aI rfl rfl A2 ?_
 refine s1 (au A2) ?_
 refine sa ?_
 iterate 6 refine aI rfl rfl rfl ?_
 refine s1 (au rfl) ?_
 refine sa ?_
 iterate 6 refine aI rfl rfl rfl ?_
 refine s1 (au rfl) ?_
 refine sa ?_
 refine aI rfl rfl rfl ?_
 refine s1 (au rfl) ?_
 refine sa ?_
 iterate 2 refine aI rfl rfl rfl ?_
 refine s1 (au rfl) ?_
 refine sa ?_
 refine .nil (hK _ _ ?_)
 cases h
 exact pe0 h0 []
 replace h:=a4 A3 h
 iterate 5 refine aI rfl rfl A3 ?_
 refine s1 (au A3) ?_
 refine sa ?_
 iterate 5 refine aI rfl rfl rfl ?_
 refine s1 (au rfl) ?_
 refine sa ?_
 iterate 6 refine aI rfl rfl rfl ?_
 refine s1 (au rfl) ?_
 refine sa ?_
 iterate 6 refine aI rfl rfl rfl ?_
 refine s1 (au rfl) ?_
 refine sa ?_
 refine aI rfl rfl rfl ?_
 refine s1 (au rfl) ?_
 refine sa ?_
 iterate 2 refine aI rfl rfl rfl ?_
 refine s1 (au rfl) ?_
 refine sa ?_
 refine .nil (hK _ _ ?_)
 cases h
 exact pe0 h0 []
 rintro ex tm' hp' ⟨rfl,hw⟩
 refine AW.weak hw (AW.ret ?_)
 cases h
 exact rv1
theorem OY {A k:Nat}(h:A<2 ^ (k+1))(hb:(dg 65536 A (k / 16) / 2 ^ (k % 16)) % 2=0):A<2 ^ k:=by
 have e1:(dg 65536 A (k / 16)).testBit (k % 16)=A.testBit k:=by
  unfold dg
  rw[show (65536:Nat) ^ (k / 16)=2 ^ (16*(k / 16)) by rw[Dw],show (65536:Nat)=2 ^ 16 by decide,Nat.testBit_mod_two_pow,Nat.testBit_div_two_pow,cV (dA _ (by decide)),Hl]
  congr 1;omega
 rw[al_36,al_36] at e1
 have h2:A / 2 ^ k % 2=0:=by
  rcases Nat.mod_two_eq_zero_or_one (A / 2 ^ k) with h3|h3
  ·exact h3
  ·rw[h3] at e1
   have:=pO (e1.trans (cV rfl))
   omega
 have h3:A / 2 ^ k<2:=by rw[oh (cJ (by decide))];rw[eH] at h;omega
 have h4:A / 2 ^ k=0:=by
  generalize A / 2 ^ k=q at h2 h3
  omega
 rcases Nat.div_eq_zero_iff.1 h4 with h5|h5
 ·have:=cJ (n:=k) (show 0<2 by decide);omega
 ·exact h5
theorem R_bit {A k:Nat}(hk:k≤100000):pb (dl A) (k:Int)=some (((dg 65536 A (k / 16) / 2 ^ (k % 16)) % 2:Nat):Int):=by
 unfold pb
 have e1:i64.wrap (Int.tdiv (k:Int) (16:Int))=((k / 16:Nat):Int):=by
  rw[Int.tdiv_eq_ediv_of_nonneg (by omega),w64];omega
 have e2:Int.tmod (k:Int) (16:Int)=((k % 16:Nat):Int):=by
  rw[Int.tmod_eq_emod_of_nonneg (by omega)];rfl
 rw[e1,e2,show dl A=dk (sz6 A) A from rfl,sU (jQ A),ab,aJ,xW _ _ _ (by have:k % 16<16:=dA _ (by decide);show k % 16≤64;omega)]
 generalize dg 65536 A (k / 16) / 2 ^ (k % 16)=q
 have e3:Int.tmod (q:Int) 2=((q % 2:Nat):Int):=by rw[Int.tmod_eq_emod_of_nonneg (by omega)];rfl
 rw[e3]
theorem R_Bits {z:Int}(hz:z.natAbs<LIM):∃n:Nat,ew (enc z)=some (n:Int)∧z.natAbs<2 ^ n:=by
 have hsz:sz6 z.natAbs≤32:=ri (bW hz (by decide))
 have bI:=jQ z.natAbs
 have hlen:=IL z.natAbs
 obtain⟨x,hl,hx⟩:=uT (b:=lX (dl z.natAbs)) (fun s:Int=>0≤s∧s≤512∧z.natAbs<2 ^ s.toNat) (fun s=>s.toNat) (fun x=>0≤x∧x≤512∧z.natAbs<2 ^ x.toNat) (fun s ⟨h1,h2,h3⟩=>by
  unfold lX
  by_cases h0:0<s
  ·obtain⟨k,rfl⟩:∃k:Nat,s=(k:Int)+1:=⟨(s - 1).toNat,by omega⟩
   rw[bt _ _ h0,w64 (n:=(k:Int)+1 - 1),show (k:Int)+1 - 1=(k:Int) by omega,R_bit (by omega),ab]
   have e:((k:Int)+1).toNat=k+1:=by omega
   rw[e] at h3
   by_cases hb:(dg 65536 z.natAbs (k / 16) / 2 ^ (k % 16)) % 2=0
   ·refine .inl ⟨(k:Int),?_,⟨by omega,by omega,?_⟩,by omega⟩
    ·rw[det_];rfl
    ·rw[show ((k:Int)).toNat=k by omega];exact OY h3 hb
   ·refine .inr ⟨(k:Int)+1,?_,by omega,by omega,by rw[e];exact h3⟩
    rw[def_];rfl
  ·obtain rfl:s=0:=by omega
   exact .inr ⟨0,by rw[bu _ _ h0];rfl,by omega,by omega,h3⟩) (16*(sz6 z.natAbs:Int)) ⟨by omega,by omega,by
   rw[show (16*(sz6 z.natAbs:Int)).toNat=16*sz6 z.natAbs by omega,Dw];exact bI⟩
 refine⟨x.toNat,?_,hx.2.2⟩
 unfold ew
 rw[l6,bQ hz,ab,sb hz]
 rw[show (!true)=false from rfl,kF]
 simp only[ab]
 rw[hlen,w64,hl,ab]
 congr 1;omega
theorem HE {x:aq}(h:okI x):∃n:Int,ew x=some n:=by
 cases hg:dq x with
 |true=>
  obtain⟨z,hz,rfl⟩:=tM h hg
  obtain⟨n,hn,_⟩:=R_Bits hz
  exact⟨n,hn⟩
 |false=>
  refine⟨0,?_⟩
  unfold ew
  rw[l6,hg];rfl
theorem KT {l:List Nu}(hl:l.length≤1000000):∃b,kG (l.map nv)=some b:=by
 obtain⟨fN,hN⟩:∃fN:Nat→Int,fN=fun i=>(ew (nv l[i]!).vN).getD 0:=⟨_,rfl⟩
 obtain⟨fD,hD⟩:∃fD:Nat→Int,fD=fun i=>(ew (nv l[i]!).vD).getD 0:=⟨_,rfl⟩
 unfold kG
 rw[AI (b:=jo (l.map nv)) (n:=l.length) hl (fun i=>!(decide (60<fN i)||decide (60<fD i))) (fun i hi=>by
  unfold jo
  rw[eG,bt _ _,aJ,aJ,bH,Gk hi]
  obtain⟨n1,h1⟩:=HE (l[i]!).2.1
  obtain⟨n2,h2⟩:=HE (l[i]!).2.2
  have h1:ew (nv l[i]!).vN=some n1:=h1
  have h2:ew (nv l[i]!).vD=some n2:=h2
  have e1:fN i=n1:=by rw[hN];dsimp only;rw[h1];rfl
  have e2:fD i=n2:=by rw[hD];dsimp only;rw[h2];rfl
  rw[h1,h2,e1,e2]
  simp only[ab,kOr,Bool.not_not]) (by
  unfold jo
  rw[eG,bu _ _])]
 cases (List.range l.length).all fun i=>!(decide (60<fN i)||decide (60<fD i))
 ·exact⟨false,rfl⟩
 ·exact⟨true,rfl⟩
theorem Q_Light {R C:Int}{V:List Nu}:∃b,mv (mS R C V)=some b∧(b=true→V.length≤60∧(aW R C V=0→R≤6∧C≤7)):=by
 unfold mv
 dsimp only
 rw[eG]
 by_cases h:(60:Int)<V.length
 ·rw[bt _ _ h];exact⟨false,rfl,fun h=>by cases h⟩
 ·rw[bu _ _ h,Q_valid (by omega)]
  simp only[ab]
  by_cases hv:aW R C V=0
  ·rw[show (!decide (aW R C V=0))=false by simp[hv],kF]
   by_cases h1:R≤6
   ·by_cases h2:C≤7
    ·rw[bt _ _ h1,bt _ _ h2]
     obtain⟨b,hb⟩:=KT (l:=V) (by omega)
     rw[hb]
     exact⟨b,rfl,fun _=>⟨by omega,fun _=>⟨h1,h2⟩⟩⟩
    ·rw[bt _ _ h1,bu _ _ h2];exact⟨false,rfl,fun h=>by cases h⟩
   ·rw[bu _ _ h1];exact⟨false,rfl,fun h=>by cases h⟩
  ·rw[show (!decide (aW R C V=0))=true by simp[hv],kT]
   exact⟨true,rfl,fun _=>⟨by omega,fun h=>absurd h hv⟩⟩
theorem all_eqL {α:Type}[DecidableEq α][Inhabited α]{a b:List α}(h:a.length=b.length):(List.range a.length).all (fun i=>decide (a[i]! =b[i]!))=decide (a=b):=by
 rw[Dv,bV,qZ]
 constructor
 ·intro hh
  refine KN h fun i h1 h2=>?_
  have:=pO (hh i (s7.2 h1))
  rwa[gF a i h1,gF b i h2] at this
 ·rintro rfl i _
  exact cV rfl
theorem BX {a b:List ak}(ha:a.length≤1000000):c6 a b=some (decide (a=b)):=by
 unfold c6
 by_cases h:a.length=b.length
 ·rw[bu _ _,AI (b:=fL a b) (n:=a.length) ha (fun i=>decide (a[i]! =b[i]!)) (fun i hi=>by
   unfold fL
   rw[bt _ _,aJ,aJ,bH]
   rw[show decide (¬a[i]! =b[i]!)= !decide (a[i]! =b[i]!) from dne _ _]) (by
   unfold fL
   rw[bu _ _])]
  rw[all_eqL h]
  cases decide (a=b) <;> rfl
 ·rw[bt _ _,gG (fun e=>h (by rw[e]))]
theorem Q_Same {a b:av}(ha:a.vV.length≤1000000):gu a b=some (decide (a=b)):=by
 unfold gu
 rw[BX ha]
 obtain⟨R,C,V⟩:=a
 obtain⟨R',C',V'⟩:=b
 dsimp only
 by_cases h1:R=R'
 ·by_cases h2:C=C'
  ·rw[bt _ _ h1,bt _ _ h2]
   simp only[ab]
   rw[h1,h2]
   by_cases h3:V=V'
   ·rw[h3];simp
   ·rw[gG h3,gG (fun e=>h3 (by injection e))]
  ·rw[bt _ _ h1,bu _ _ h2,gG (fun e=>h2 (by injection e))];rfl
 ·rw[bu _ _ h1,gG (fun e=>h1 (by injection e))];rfl
theorem L_zeros {l:List Nu}(hl:l.length≤1000000):mB (l.map nv)=some (l.all fun x=>decide (eA x=0)&&aQ x):=by
 unfold mB
 rw[AI (b:=jB (l.map nv)) (n:=l.length) hl (fun i=>decide (eA l[i]! =0)&&aQ l[i]!) (fun i hi=>by
  unfold jB
  rw[eG,bt _ _,aJ,bH,Gk hi,FV,JJ]
  simp only[ab,kOr]
  rw[show decide (eA l[i]!≠0)= !decide (eA l[i]! =0) from dne _ _,Bool.not_and]) (by
  unfold jB
  rw[eG,bu _ _])]
 rw[EN l (fun x=>decide (eA x=0)&&aQ x)]
 cases l.all fun x=>decide (eA x=0)&&aQ x <;> rfl
theorem Fk {r c:Int}{l:List Int}(hl:l.length≤1000)(h:∀i,i<l.length→-1000≤l[i]!∧l[i]!≤1000):fG r c l=some (mS r c (l.map nOf)):=by
 unfold fG
 have key:=lz (b:=mC l) (fun i:Nat=>((i:Int),((l.take i).map nOf).map nv)) 0 l.length ((l.map nOf).map nv) (dU _) (fun i _ hi=>?_) ?_
 ·have e:((((0:Nat):Int),((l.take 0).map nOf).map nv))=((0:Int),([]:List ak)):=by simp
  rw[e] at key
  rw[key];rfl
 ·unfold mC
  dsimp only
  have NA:l.take (i+1)=l.take i++[l[i]!]:=by rw[List.take_add_one,ff hi,gF l i hi];rfl
  obtain⟨h1,h2⟩:=h i hi
  rw[bt _ _,aJ,bH,uOf,ab,aJ (by simp;omega),w64,NA]
  simp only[nd,cD,dT]
  rfl
 ·unfold mC
  dsimp only
  rw[bu _ _,jL (aL _)]
theorem B2 {l:List Int}(hl:l.length≤1000)(h:∀i,i<l.length→-1000≤l[i]!∧l[i]!≤1000):gv l=some ((l.map nOf).map nv):=by
 unfold gv
 rw[Fk hl h];rfl
def fr(a b:Int):Nu:=nuR (some (Rat.divInt a b))
theorem s1T:zX 2 2 ([1,2,3,4].map nOf)=(mS 2 2 ([1,0,0,1].map nOf),[0,1],0):=by decide +kernel
theorem s2T:EI 2 2 ([1,2,3,4].map nOf)=(nv (nOf (-2)),0):=by decide +kernel
theorem s3T:zX 2 3 ([0,2,4,0,1,2].map nOf)=(mS 2 3 ([0,1,2,0,0,0].map nOf),[1],0):=by decide +kernel
theorem s4T:F4 2 2 ([1,2,3,4].map nOf) ([5,6].map nOf)=([nv (nOf (-4)),nv (fr 9 2)],0):=by decide +kernel
theorem s5T:F4 1 2 ([1,1].map nOf) ([2].map nOf)=([],70):=by decide +kernel
theorem s6T:F4 2 1 ([1,1].map nOf) ([1,2].map nOf)=([],200):=by decide +kernel
theorem s7T:JX 1 3 ([1,2,3].map nOf)=([[-2,1,0].map nOf,[-3,0,1].map nOf],0):=by decide +kernel
theorem s8T:l8 2 2 ([2,1,1,2].map nOf)=(true,0):=by decide +kernel
theorem s9T:l8 2 2 ([1,2,2,1].map nOf)=(false,0):=by decide +kernel
theorem sFrac:nN 9 2=some (nv (fr 9 2)):=by
 unfold nN
 rw[Fm (by decide) (by decide),ab,Fm (by decide) (by decide),ab,yT (by decide) (by decide) (by decide),ab]
 rfl
theorem sSame {a b:av}(ha:a.vV.length≤1000000)(h:a=b):gu a b=some true:=by rw[Q_Same ha,cV h]
theorem sList {a:List ak}(ha:a.length≤1000000):c6 a a=some true:=by rw[BX ha,cV rfl]
theorem xm:eS=some true:=by
 have o1:=Fk (r:=2) (c:=2) (l:=[1,2,3,4]) (by decide) (by decide)
 have o2:=Fk (r:=2) (c:=3) (l:=[0,2,4,0,1,2]) (by decide) (by decide)
 have o3:=B2 (l:=[5,6]) (by decide) (by decide)
 have o4:=Fk (r:=1) (c:=2) (l:=[1,1]) (by decide) (by decide)
 have o5:=B2 (l:=[2]) (by decide) (by decide)
 have o6:=Fk (r:=2) (c:=1) (l:=[1,1]) (by decide) (by decide)
 have o7:=B2 (l:=[1,2]) (by decide) (by decide)
 have o8:=Fk (r:=1) (c:=3) (l:=[1,2,3]) (by decide) (by decide)
 have o9:=Fk (r:=2) (c:=2) (l:=[2,1,1,2]) (by decide) (by decide)
 have o10:=Fk (r:=2) (c:=2) (l:=[1,2,2,1]) (by decide) (by decide)
 have o11:=Fk (r:=2) (c:=3) (l:=[0,1,2,0,0,0]) (by decide) (by decide)
 have o12:=B2 (l:=[-2,1,0]) (by decide) (by decide)
 have o13:=B2 (l:=[-3,0,1]) (by decide) (by decide)
 have r1:=(Hv (R:=2) (C:=2) (V:=[1,2,3,4].map nOf) (by decide)).trans (congrArg some s1T)
 have r2:=(Px (R:=2) (C:=2) (V:=[1,2,3,4].map nOf) (by decide)).trans (congrArg some s2T)
 have r3:=(Hv (R:=2) (C:=3) (V:=[0,2,4,0,1,2].map nOf) (by decide)).trans (congrArg some s3T)
 have r4:=(Fj (R:=2) (C:=2) (A:=[1,2,3,4].map nOf) (b:=[5,6].map nOf) (by decide) (by decide)).trans (congrArg some s4T)
 have r5:=(Fj (R:=1) (C:=2) (A:=[1,1].map nOf) (b:=[2].map nOf) (by decide) (by decide)).trans (congrArg some s5T)
 have r6:=(Fj (R:=2) (C:=1) (A:=[1,1].map nOf) (b:=[1,2].map nOf) (by decide) (by decide)).trans (congrArg some s6T)
 have r7:kI (mS 1 3 ([1,2,3].map nOf))=some ([([-2,1,0].map nOf).map nv,([-3,0,1].map nOf).map nv],0):=(P_Null (R:=1) (C:=3) (V:=[1,2,3].map nOf) (by decide)).trans (by rw[s7T];rfl)
 have r8:=(sS (R:=2) (C:=2) (V:=[2,1,1,2].map nOf) (by decide)).trans (congrArg some s8T)
 have r9:=(sS (R:=2) (C:=2) (V:=[1,2,2,1].map nOf) (by decide)).trans (congrArg some s9T)
 have u1:=uOf (n:=-2) (by decide) (by decide)
 have u2:=uOf (n:=-4) (by decide) (by decide)
 have e1:gu (mS 2 2 ([1,0,0,1].map nOf)) (idP 2)=some true:=sSame (by decide) rfl
 have e2:gu (mS 2 3 ([0,1,2,0,0,0].map nOf)) (mS 2 3 ([0,1,2,0,0,0].map nOf))=some true:=sSame (by decide) rfl
 have e3:c6 (([-2,1,0].map nOf).map nv) (([-2,1,0].map nOf).map nv)=some true:=sList (by decide)
 have e4:c6 (([-3,0,1].map nOf).map nv) (([-3,0,1].map nOf).map nv)=some true:=sList (by decide)
 unfold eS
 rw[o1,ab,r1,ab,r2,ab,o2,ab,r3,ab,o3,ab,r4,ab,o4,ab,o5,ab,r5,ab,o6,ab,o7,ab,r6,ab,o8,ab,r7,ab,o9,ab,r8,ab,o10,ab,r9,ab]
 refine (congrArg (fun o=>bnd o _) (show _=some false from rfl)).trans ?_
 rw[ab,kF,B0,ab,o11,u1,u2,sFrac,o12,o13]
 refine (congrArg (fun o=>bnd o _) (show _=some true from ?_)).trans ?_
 ·refine (congrArg (fun o=>bnd o _) e1).trans ?_
  rw[ab,kT,aJ (by decide)]
  refine (bt _ _ (by rfl)).trans ?_
  rw[aJ (by decide)]
  refine (bt _ _ (by rfl)).trans ?_
  rw[ab]
  refine (bt _ _ (by rfl)).trans ?_
  rw[ab]
  refine (congrArg (fun o=>bnd o _) e2).trans ?_
  rfl
 ·rw[ab]
  refine (congrArg (fun o=>bnd o _) (show _=some true from ?_)).trans ?_
  ·rw[kT,aJ (by decide),ab]
   refine (bt _ _ (by rfl)).trans ?_
   rw[aJ (by decide),ab]
   refine (bt _ _ (by rfl)).trans ?_
   rw[aJ (by decide),ab]
   refine (congrArg (fun o=>bnd o _) e3).trans ?_
   rw[ab,kT,aJ (by decide),ab]
   refine (congrArg (fun o=>bnd o _) e4).trans ?_
   rfl
  ·rfl
theorem rL {α:Type}{R C:Nat}{f:Nat→Nat→α}(hR:R≤400)(hC:C≤400):(mkM R C f).length≤1000000:=by
 have:R*C≤400*400:=pY hR hC
 rw[et];omega
theorem Kx {C K:Nat}{A B:List Nu}{i k:Nat}:∀n,aQ (EE C K A B i k n)=true→rv (EE C K A B i k n)=bA (n+1) fun j=>rv A[i*C+j]! *rv B[j*K+k]!
 |0,h=>by
  unfold EE at h ⊢
  obtain⟨h1,h2⟩:=wQ h
  rw[z3 h1 h2 h]
  show _=0+rv A[i*C+0]! *rv B[0*K+k]!
  rw[lc,fe,bq];grind
 |n+1,h=>by
  unfold EE at h
  obtain⟨h1,h2⟩:=GU h
  obtain⟨h3,h4⟩:=wQ h2
  show rv (Cu _ _)=bA (n+1) _+_
  rw[JY h1 h2 h,Kx n h1,z3 h3 h4 h2]
theorem z4 {C K:Nat}{A B:List Nu}{i k:Nat}(h:aQ (j8 C K A B i k)=true):rv (j8 C K A B i k)=bA C fun j=>rv A[i*C+j]! *rv B[j*K+k]! :=by
 unfold j8 at h ⊢
 by_cases h0:C=0
 ·rw[ay h0,h0,of0.2];rfl
 ·rw[aA h0] at h ⊢
  have:=Kx _ h
  rw[this,show C - 1+1=C by omega]
theorem ui {R C R' C':Int}{A B:List Nu}(h:(vp R C A R' C' B).2=0):∃r c k:Nat,R=r∧C=c∧R'=c∧C'=k∧MV r c A∧MV c k B∧(mkM r k (j8 c k A B)).all aQ=true∧vp R C A R' C' B=(mS r k (mkM r k (j8 c k A B)),0):=by
 unfold vp at h ⊢
 by_cases h0:aW R C A=0∧aW R' C' B=0∧C=R'
 ·rw[ay h0] at h ⊢
  obtain⟨h1,h2,rfl⟩:=h0
  obtain⟨r,c,rfl,rfl,hm⟩:=eT.1 h1
  obtain⟨r',c',hr,rfl,ze⟩:=eT.1 h2
  obtain rfl:c=r':=by omega
  rw[bH,bH,bH] at h ⊢
  refine⟨r,c,c',rfl,rfl,rfl,rfl,hm,ze,?_⟩
  unfold ip at h ⊢
  cases hg:(mkM r c' (j8 c c' A B)).all aQ with
  |true=>exact⟨rfl,rfl⟩
  |false=>
   rw[hg] at h
   exact absurd h (by show ¬(30:Int)=0;decide)
 ·rw[aA h0] at h
  exact absurd h (by decide)
def vJ(x:List Nu):Int×Int×List Nu:=if aW x.length 1 x=0 then ((x.length:Int),1,x) else (0,0,[])
theorem colP_eq(x:List Nu):OS x=mS (vJ x).1 (vJ x).2.1 (vJ x).2.2:=by
 unfold OS J2 vJ
 split <;> rfl
def mcP(R C:Int)(A x:List Nu):av×Int:=vp R C A (vJ x).1 (vJ x).2.1 (vJ x).2.2
theorem Ps {R C:Int}{A x:List Nu}(hA:A.length≤1000000)(hx:x.length≤1000000):iJ (mS R C A) (OS x)=some (mcP R C A x):=by
 rw[colP_eq]
 refine Pu hA ?_
 unfold vJ
 split
 ·exact hx
 ·exact dU _
theorem mcP_ok {R C:Int}{A x:List Nu}(h:(mcP R C A x).2=0)(hC:C≠0):∃r c:Nat,R=r∧C=c∧MV r c A∧x.length=c∧x.all aQ=true∧(mkM r 1 (j8 c 1 A x)).all aQ=true∧mcP R C A x=(mS r ((1:Nat):Int) (mkM r 1 (j8 c 1 A x)),0):=by
 unfold mcP vJ at h ⊢
 by_cases h0:aW x.length 1 x=0
 ·rw[ay h0] at h ⊢
  obtain⟨r,c,k,h1,h2,h3,h4,h5,h6,h7,h8⟩:=ui h
  obtain rfl:k=1:=by
   have:(1:Int)=(k:Int):=h4
   omega
  have h3:(x.length:Int)=(c:Int):=h3
  exact⟨r,c,h1,h2,h5,by omega,h6.good,h7,h8⟩
 ·rw[aA h0] at h
  obtain⟨r,c,k,h1,h2,h3,h4,h5,h6,h7,h8⟩:=ui h
  have h3:(0:Int)=(c:Int):=h3
  exact absurd (by omega) hC
section
def wD(n:Nat)(f g:RM):RM:=fun i k=>bA n fun j=>f i j*g j k
theorem My {n:Nat}(a:Nat→Rat){i:Nat}(hi:i<n):bA n (fun j=>jH i j*a j)=a i:=C2 a hi
theorem ws {n:Nat}(a:Nat→Rat){k:Nat}(hk:k<n):bA n (fun j=>a j*jH j k)=a k:=by
 rw[aX (g:=fun j=>(if k=j then 1 else 0)*a j) fun j _=>by
  unfold jH
  by_cases h:j=k
  ·rw[ay h,ay h.symm];grind
  ·rw[aA h,aA (mb h)];grind,C2 a hk]
section
variable {n:Nat} {f g:RM}
theorem Ab:det n (wD n f g)=det n f*det n g:=by
 have hD:mn n fun f=>det n (wD n f g):=by
  refine⟨fun f f' h=>?_,fun f a b ha hb yk=>?_,fun f r c hr=>?_,fun f r i c hr hi N5=>?_⟩
  ·exact (bJ n).congr _ _ fun i k hi hk=>aX fun j hj=>by rw[h i j hi hj]
  ·rw[←(bJ n).swap _ a b ha hb yk]
   refine (bJ n).congr _ _ fun i k _ _=>?_
   show bA n (fun j=>d7 f a b i j*g j k)=d7 (wD n f g) a b i k
   unfold d7
   by_cases h1:i=a
   ·simp only[h1,aM];rfl
   ·by_cases h2:i=b
    ·simp only[aA h1,ay h2];rfl
    ·simp only[aA h1,aA h2];rfl
  ·rw[←(bJ n).scale _ r c hr]
   refine (bJ n).congr _ _ fun i k _ _=>?_
   show bA n (fun j=>(if i=r then c*f r j else f i j)*g j k)=if i=r then c*wD n f g r k else wD n f g i k
   by_cases h1:i=r
   ·simp only[ay h1]
    unfold wD
    rw[←gM]
    exact aX fun j _=>by grind
   ·simp only[aA h1];rfl
  ·rw[←(bJ n).add (wD n f g) r i c hr hi N5]
   refine (bJ n).congr _ _ fun j k _ _=>?_
   show bA n (fun t=>(if j=i then f i t+c*f r t else f j t)*g t k)=if j=i then wD n f g i k+c*wD n f g r k else wD n f g j k
   by_cases h1:j=i
   ·simp only[ay h1]
    unfold wD
    rw[←gM,←oU]
    exact aX fun j _=>by grind
   ·simp only[aA h1];rfl
 rw[hD.unique (bJ n) (pg n) f]
 congr 1
 exact (bJ n).congr _ _ fun i k hi _=>My (fun j=>g j k) hi
abbrev trM(f:RM):RM:=fun i k=>f k i
theorem IN:det n (trM f)=det n f:=by
 have hD:mn n fun f=>det n (trM f):=by
  refine⟨fun f f' h=>?_,fun f a b ha hb yk=>?_,fun f r c hr=>?_,fun f r i c hr hi N5=>?_⟩
  ·exact (bJ n).congr _ _ fun i k hi hk=>h k i hk hi
  ·have h1:det n (trM (d7 f a b))=det n (wD n (trM f) (d7 jH a b)):=(bJ n).congr _ _ fun i k hi hk=>by
    have e:∀j,d7 jH a b j k=jH j (if k=a then b else if k=b then a else k):=fun j=>by
     unfold d7 jH
     (repeat' split) <;> first|rfl|(exfalso;omega)
    have yh:(if k=a then b else if k=b then a else k)<n:=by split <;> (try split) <;> omega
    show d7 f a b k i=bA n fun j=>f j i*d7 jH a b j k
    rw[aX (g:=fun j=>f j i*jH j (if k=a then b else if k=b then a else k)) fun j _=>by rw[e j],ws (fun j=>f j i) yh]
    unfold d7
    by_cases h1:k=a
    ·simp only[ay h1]
    ·by_cases h2:k=b
     ·simp only[aA h1,ay h2]
     ·simp only[aA h1,aA h2]
   rw[h1,Ab,(bJ n).swap _ a b ha hb yk,pg]
   grind
  ·have h1:det n (trM fun i k=>if i=r then c*f r k else f i k)=det n (wD n (trM f) fun i k=>if i=r then c*jH r k else jH i k):=(bJ n).congr _ _ fun i k hi hk=>by
    show (if k=r then c*f r i else f k i)=bA n fun j=>f j i*(if j=r then c*jH r k else jH j k)
    rw[aX (g:=fun j=>((if k=r then c else 1)*f j i)*jH j k) fun j _=>by
     unfold jH
     by_cases e1:j=r
     ·by_cases e2:k=r
      ·simp only[e1,e2,aM];grind
      ·simp only[e1,aM,aA e2,aA (mb e2)];grind
     ·by_cases e2:k=r
      ·simp only[aA e1,e2,aM];grind
      ·simp only[aA e1,aA e2];grind,ws (fun j=>(if k=r then c else 1)*f j i) hk]
    by_cases e2:k=r
    ·rw[ay e2,ay e2,e2]
    ·rw[aA e2,aA e2];grind
   rw[h1,Ab,(bJ n).scale jH r c hr,pg]
   grind
  ·have h1:det n (trM fun j k=>if j=i then f i k+c*f r k else f j k)=det n (wD n (trM f) fun j k=>if j=r then jH r k+c*jH i k else jH j k):=(bJ n).congr _ _ fun a k ha hk=>by
    show (if k=i then f i a+c*f r a else f k a)=bA n fun j=>f j a*(if j=r then jH r k+c*jH i k else jH j k)
    rw[aX (g:=fun j=>f j a*jH j k+((if k=i then c else 0)*f j a)*jH j r) fun j _=>by
     unfold jH
     by_cases e1:j=r
     ·by_cases e2:k=i
      ·simp only[e1,e2,aM];grind
      ·simp only[e1,aM,aA e2,aA (mb e2)];grind
     ·simp only[aA e1];grind,oU,ws (fun j=>f j a) hk,ws (fun j=>(if k=i then c else 0)*f j a) hr]
    by_cases e2:k=i
    ·rw[ay e2,ay e2,e2]
    ·rw[aA e2,aA e2];grind
   rw[h1,Ab,(bJ n).add jH i r c hi hr (mb N5),pg]
   grind
 rw[hD.unique (bJ n) (pg n) f]
 have:det n (trM jH)=1:=by
  rw[←pg n]
  refine (bJ n).congr _ _ fun i k _ _=>?_
  show jH k i=jH i k
  unfold jH
  by_cases e:i=k
  ·rw[ay e,ay e.symm]
  ·rw[aA e,aA (mb e)]
 show det n f*det n (trM jH)=_
 rw[this];grind
theorem det_ker {y:Nat→Rat}(h:∀r,r<n→bA n (fun i=>f r i*y i)=0){m:Nat}(hm:m<n)(hy:y m=1):det n f=0:=by
 have:=cramer (n:=n) (trM f) hm y (fun _=>0) fun r hr=>by
  rw[←h r hr]
  exact aX fun i _=>by show f r i*y i=y i*f r i;grind
 rw[Bf _ hm,IN,hy] at this
 grind
end
end
def qf(n:Nat)(f:RM)(y:Nat→Rat):Rat:=bA n fun i=>y i*bA n fun j=>f i j*y j
def qQ(f:RM):RM:=fun i j=>f (i+1) (j+1) - f (i+1) 0*(f 0 (j+1) / f 0 0)
theorem sm(h:Nat→Rat):∀n,bA (n+1) h=h 0+bA n fun i=>h (i+1)
 |0=>by show (0:Rat)+h 0=h 0+0;grind
 |n+1=>by
  show bA (n+1) h+h (n+1)=h 0+(bA n (fun i=>h (i+1))+h (n+1))
  rw[sm h n];grind
theorem Dr {n:Nat}{f:RM}(hD:mn (n+1) (det (n+1)))(h0:f 0 0≠0):det (n+1) f=f 0 0*det n (qQ f):=by
 have h1:=hD.elim (f:=f) (r:=0) (k:=0) (by omega) h0
 have h2:det (n+1) (kt f 0 0)=det n (qQ f):=by
  show bA (n+1) (fun j=>sgd j*(kt f 0 0 j 0*det n (minor (kt f 0 0) j)))=_
  refine (aX (g:=fun j=>if j=0 then det n (qQ f) else 0) fun j hj=>?_).trans (ls 0 (det n (qQ f)) (n+1) (by omega))
  by_cases e:j=0
  ·subst e
   rw[ay rfl]
   have hm:minor (kt f 0 0) 0=qQ f:=by
    funext c r
    unfold minor kt qQ skip
    rw[aA (w6 c),aA (Nat.succ_ne_zero c)]
   have he:kt f 0 0 0 0=1:=by unfold kt;rw[ay rfl];grind
   rw[hm,he]
   unfold sgd
   rw[ifp_];grind
  ·have he:kt f 0 0 j 0=0:=by unfold kt;rw[aA e];grind
   rw[aA e,he];grind
 rw[h2] at h1
 rw[h1];grind
def BV(n:Nat)(f:RM):Prop:=∀i j,i<n→j<n→f i j=f j i
def yP(n:Nat)(f:RM):Prop:=∀y:Nat→Rat,(∃i,i<n∧y i≠0)→0<qf n f y
theorem BV.sch {n:Nat}{f:RM}(h:BV (n+1) f):BV n (qQ f):=fun i j hi hj=>by
 unfold qQ
 rw[h (i+1) (j+1) (by omega) (by omega),h (i+1) 0 (by omega) (by omega),h (j+1) 0 (by omega) (by omega)];grind
theorem F9 {n:Nat}{f:RM}(hs:BV (n+1) f)(h0:f 0 0≠0)(y:Nat→Rat):
  qf (n+1) f y=f 0 0*((y 0+bA n (fun j=>f 0 (j+1)*y (j+1)) / f 0 0)*(y 0+bA n (fun j=>f 0 (j+1)*y (j+1)) / f 0 0))+qf n (qQ f) fun i=>y (i+1):=by
 have hB:∃B,B=bA n fun j=>f 0 (j+1)*y (j+1):=⟨_,rfl⟩
 obtain⟨B,hB⟩:=hB
 have e1:∀i,i<n→y (i+1)*bA (n+1) (fun j=>f (i+1) j*y j)=y (i+1)*bA n (fun j=>f (i+1) (j+1)*y (j+1))+y 0*(f 0 (i+1)*y (i+1)):=fun i hi=>by
  rw[sm,hs (i+1) 0 (by omega) (by omega)];grind
 have e2:∀i,i<n→y (i+1)*bA n (fun j=>qQ f i j*y (j+1))=y (i+1)*bA n (fun j=>f (i+1) (j+1)*y (j+1)) - (B / f 0 0)*(f 0 (i+1)*y (i+1)):=fun i hi=>by
  have:bA n (fun j=>qQ f i j*y (j+1))=bA n (fun j=>f (i+1) (j+1)*y (j+1)) - (f (i+1) 0 / f 0 0)*B:=by
   rw[hB,←gM,←Aq]
   refine aX fun j hj=>?_
   unfold qQ
   grind
  rw[this,hs (i+1) 0 (by omega) (by omega)]
  grind
 unfold qf
 rw[sm,sm,←hB,aX e1,aX e2,oU,Aq,gM,gM,←hB]
 grind
theorem yP.sch {n:Nat}{f:RM}(hs:BV (n+1) f)(h:yP (n+1) f):0<f 0 0∧yP n (qQ f):=by
 have h0:0<f 0 0:=by
  have:=h (fun i=>if i=0 then 1 else 0) ⟨0,by omega,by rw[ay rfl];decide⟩
  have e:qf (n+1) f (fun i=>if i=0 then 1 else 0)=f 0 0:=by
   unfold qf
   refine (aX (g:=fun i=>if i=0 then f 0 0 else 0) fun i hi=>?_).trans (ls 0 _ _ (by omega))
   by_cases e:i=0
   ·subst e
    have e2:bA (n+1) (fun j=>f 0 j*(if j=0 then 1 else 0))=f 0 0:=(aX (g:=fun j=>if j=0 then f 0 0 else 0) fun j hj=>by
     by_cases e:j=0
     ·subst e;rw[ay rfl,ay rfl];grind
     ·rw[aA e,aA e];grind).trans (ls 0 _ _ (by omega))
    dsimp only
    rw[e2,ay rfl,ay rfl];grind
   ·dsimp only
    rw[aA e,aA e];grind
  rw[e] at this;exact this
 refine⟨h0,fun y ⟨i,hi,hy⟩=>?_⟩
 have h1:=h (fun i=>if i=0 then -(bA n (fun j=>f 0 (j+1)*y j) / f 0 0) else y (i - 1)) ⟨i+1,by omega,by rw[ifn_];exact hy⟩
 rw[F9 hs (fun e=>by rw[e] at h0;exact absurd h0 (by decide))] at h1
 have e2:∀j,(fun i=>if i=0 then -(bA n (fun j=>f 0 (j+1)*y j) / f 0 0) else y (i - 1)) (j+1)=y j:=fun j=>by
  show (if j+1=0 then _ else y (j+1 - 1))=_
  rw[ifn_,Bu]
 simp only[e2,aM] at h1
 have e3:-(bA n (fun j=>f 0 (j+1)*y j) / f 0 0)+bA n (fun j=>f 0 (j+1)*y j) / f 0 0=0:=by grind
 rw[e3] at h1
 have e4:f 0 0*((0:Rat)*0)+qf n (qQ f) y=qf n (qQ f) y:=by grind
 rwa[←e4]
theorem JO(x:Rat):0≤x*x:=by
 rcases (Rat.le_total:0≤x∨x≤0) with h|h
 ·exact KM h h
 ·have:=KM (a:=-x) (b:=-x) (by grind) (by grind)
  grind
theorem yP.of_sch {n:Nat}{f:RM}(hs:BV (n+1) f)(h0:0<f 0 0)(h:yP n (qQ f)):yP (n+1) f:=by
 intro y ⟨i,hi,hy⟩
 have lh:f 0 0≠0:=fun e=>by rw[e] at h0;exact absurd h0 (by decide)
 rw[F9 hs lh]
 have hq:=KM (Rat.le_of_lt h0) (JO (y 0+bA n (fun j=>f 0 (j+1)*y (j+1)) / f 0 0))
 by_cases hz:∃i,i<n∧y (i+1)≠0
 ·have:=h (fun i=>y (i+1)) hz
  grind
 ·have hz:∀i,i<n→y (i+1)=0:=fun i hi=>u5 fun e=>hz ⟨i,hi,e⟩
  have hi0:i=0:=by
   rcases ma i with h|h
   ·exact h
   ·have:=hz (i - 1) (by omega)
    rw[show i - 1+1=i by omega] at this
    exact absurd this hy
  subst hi0
  have e1:qf n (qQ f) (fun i=>y (i+1))=0:=by
   unfold qf
   rw[aX (g:=fun _=>0) fun i hi=>by dsimp only;rw[hz i hi];grind,rE]
  have e2:bA n (fun j=>f 0 (j+1)*y (j+1))=0:=by
   rw[aX (g:=fun _=>0) fun i hi=>by rw[hz i hi];grind,rE]
  rw[e1,e2]
  have hp:0<y 0*y 0:=by
   rcases (Rat.le_total:0≤y 0∨y 0≤0) with h|h
   ·have:0<y 0:=by grind
    exact Rat.mul_pos this this
   ·have:0< -y 0:=by grind
    have:=Rat.mul_pos this this
    grind
  have:=Rat.mul_pos h0 hp
  have e3:y 0+0 / f 0 0=y 0:=by grind
  rw[e3]
  grind
theorem posd_of {n:Nat}(hD:∀n,mn n (det n)):∀{f:RM},BV n f→(∀k,0<k→k≤n→0<det k f)→yP n f:=by
 induction n with
 |zero=>intro f _ _ y ⟨i,hi,_⟩;omega
 |succ n ih=>
  intro f hs h
  have h0:0<f 0 0:=by
   have:=h 1 (by omega) (by omega)
   have e:det 1 f=f 0 0:=by
    show (0:Rat)+sgd 0*(f 0 0*1)=_
    unfold sgd;rw[ifp_];grind
   rw[e] at this;exact this
  have lh:f 0 0≠0:=fun e=>by rw[e] at h0;exact absurd h0 (by decide)
  refine .of_sch hs h0 (ih hs.sch fun k hk wN=>?_)
  have:=h (k+1) (by omega) (by omega)
  rw[Dr (hD _) lh] at this
  refine u5 fun hn=>?_
  have h1:det k (qQ f)≤0:=Rat.not_lt.1 hn
  have h2:=KM (Rat.le_of_lt h0) (b:=-det k (qQ f)) (by grind)
  grind
theorem zk {n:Nat}(hD:∀n,mn n (det n)):∀{f:RM},BV n f→yP n f→∀k,k≤n→0<det k f:=by
 induction n with
 |zero=>
      intro f _ _ k hk;obtain rfl:k=0:=by omega
      exact (by decide:(0:Rat)<1)
 |succ n ih=>
  intro f hs h k hk
  obtain⟨h0,h1⟩:=h.sch hs
  have lh:f 0 0≠0:=fun e=>by rw[e] at h0;exact absurd h0 (by decide)
  cases k with
  |zero=>exact (by decide:(0:Rat)<1)
  |succ k=>
   rw[Dr (hD _) lh]
   exact Rat.mul_pos h0 (ih hs.sch h1 k (by omega))
theorem Li {n:Nat}{f:RM}(h:yP n f){i:Nat}(hi:i<n):0<f i i:=by
 have:=h (fun j=>if j=i then 1 else 0) ⟨i,hi,by rw[ay rfl];decide⟩
 have e:qf n f (fun j=>if j=i then 1 else 0)=f i i:=by
  unfold qf
  refine (aX (g:=fun j=>if j=i then f i i else 0) fun j hj=>?_).trans (ls i _ _ hi)
  by_cases e:j=i
  ·have e2:bA n (fun k=>f j k*(if k=i then 1 else 0))=f j i:=(aX (g:=fun k=>if k=i then f j i else 0) fun k hk=>by
    by_cases e:k=i
    ·subst e;rw[ay rfl,ay rfl];grind
    ·rw[aA e,aA e];grind).trans (ls i _ _ hi)
   dsimp only
   rw[e2,ay e,ay e,e];grind
  ·dsimp only
   rw[aA e,aA e];grind
 rw[e] at this;exact this
theorem Mx {f:Nat→Rat}:∀{n:Nat},bA n (fun j=>f j*f j)=0→∀j,j<n→f j=0
 |0,_,j,h=>by omega
 |n+1,h,j,hj=>by
  have h1:bA n (fun j=>f j*f j)+f n*f n=0:=h
  have h2:=tE (n:=n) (f:=fun j=>f j*f j) fun t _=>JO _
  have h3:=JO (f n)
  rcases ck j n with h4|h4
  ·exact Mx (by grind) j h4
  ·obtain rfl:j=n:=by omega
   have h5:f j*f j=0:=by grind
   rcases Rat.mul_eq_zero.1 h5 with h|h <;> exact h
theorem posd_sq {n:Nat}{a g:RM}(hg:∀i k,i<n→k<n→g i k=bA n fun j=>a i j*a k j)(hk:∀y:Nat→Rat,(∀j,j<n→bA n (fun i=>a i j*y i)=0)→∀i,i<n→y i=0):yP n g:=by
 intro y ⟨i,hi,hy⟩
 have e:qf n g y=bA n fun j=>bA n (fun i=>a i j*y i)*bA n (fun i=>a i j*y i):=by
  have e1:∀i,i<n→y i*bA n (fun k=>g i k*y k)=bA n fun j=>(a i j*y i)*bA n (fun k=>a k j*y k):=fun i hi=>by
   have:bA n (fun k=>g i k*y k)=bA n fun j=>a i j*bA n (fun k=>a k j*y k):=by
    rw[aX (g:=fun k=>bA n fun j=>a i j*(a k j*y k)) fun k hk=>by
     rw[hg i k hi hk,show bA n (fun j=>a i j*a k j)*y k=y k*bA n (fun j=>a i j*a k j) by grind,←gM]
     exact aX fun j _=>by grind,xE]
    exact aX fun j _=>by rw[gM]
   rw[this,←gM]
   exact aX fun j _=>by grind
  unfold qf
  rw[aX e1,xE]
  refine aX fun j _=>?_
  rw[aX (g:=fun i=>bA n (fun k=>a k j*y k)*(a i j*y i)) fun i _=>by grind,gM]
 rw[e]
 have h1:=tE (n:=n) (f:=fun j=>bA n (fun i=>a i j*y i)*bA n (fun i=>a i j*y i)) fun t _=>JO _
 refine u5 fun hn=>?_
 have h2:=Mx (n:=n) (f:=fun j=>bA n fun i=>a i j*y i) (by have:=Rat.not_lt.1 hn;grind)
 exact hy (hk y h2 i hi)
section
open Go.ChangeShapes Go.WideShapes Go.ChangeAt Go.RowKit Go.Deep
section
variable {H:Type} {enc:TypeId×Value→H} {P:Program}
theorem Cs {f:Func}{s:ChangeSpec}{apart fresh handsOn again:Bool}{W W':World}{args:Array Value}{v:Value}{ds gs:List (DataW H)}{before pa pv:List MemPlace}
  (hW:DataW.Whole enc P f.params.toList s.vars apart W args.toList ds gs before)
  (lT:∀(b:Nat) (sp:Nat→Bool) (hd:Bool),DataW.TrodAll enc P W' b sp hd f.resultTypes.toList (v.resultList f.resultTypes.size) (s.fn H (ds++gs)).results [])
  (qU:∀sp:Nat→Bool,(∀p∈before,sp p.block=true)→DataW.TrodAll enc P W' 0 sp true f.params.toList args.toList (s.fn H (ds++gs)).args pa)
  (J9:∀sp:Nat→Bool,(∀p∈before,sp p.block=true)→DataW.TrodVars enc P W' sp s.vars (s.fn H (ds++gs)).vars pv)
  (NH:before=pa++pv) (hb:Below W.heap.size W W')
  (hok:∀(j:Nat) (t:TypeId) (r:Value),f.resultTypes[j]? =some t→(v.resultList f.resultTypes.size)[j]? =some r→Value.okWide P W' .any 0 t r):
  s.post enc P f apart fresh handsOn again W args v W':=by
 have bI:∀p∈before,p.block<W.heap.size:=fun p hp=>hW.lt p hp
 have hold:∀p∈before,(fun b=>decide (b<W.heap.size)) p.block=true:=fun p hp=>by simpa using bI p hp
 refine⟨ds,gs,before,[],pa,pv,hW,lT _ _ _,qU _ hold,J9 _ hold,World.keptBut_mono (fun p hp=>⟨hp,?_⟩) (hb.frame (·∈before)),fun _=>?_⟩
 ·rw[NH,tU] at hp
  exact Or.inr hp
 ·obtain⟨_,_,_,_,_,hz,hn⟩:=hW
  refine⟨hok,_,_,([]++pa)++pv,⟨[]++pa,pv,trodAll_append (qU _ (fun _ _=>rfl)) (lT _ _ _),J9 _ (fun _ _=>rfl),rfl,?_,?_⟩,?_⟩
  ·intro b off hp
   have CC:MemPlace.cell b off∈before:=by rw[NH];simpa using hp
   rw[hb.frozen (bI _ CC)]
   exact hz b off CC
  ·intro ha
   have:=hn ha
   rw[NH] at this
   simpa using this
  ·intro p hp _
   rw[NH]
   simpa using hp
theorem Cq(hl:laidOutB P=true){W W':World}(hb:Below W.heap.size W W'){sp:Nat→Bool}:∀(ts:List TypeId) (vs:List Value) (ds:List (DataW H)) (p:List MemPlace),
  (ts.all fun t=>P.readableRec t&&decide (t<P.types.size))=true→DataW.TrodAll enc P W 0 (fun _=>true) true ts vs ds p→(∀x∈p,x.block<W.heap.size)→(∀x∈p,sp x.block=true)→
  DataW.TrodAll enc P W' 0 sp true ts vs ds p:=by
 intro ts
 induction ts with
 |nil=>
  intro vs ds p _ h _ _
  cases vs with
  |nil=>cases ds with
   |nil=>exact h
   |cons d ds=>exact h.elim
  |cons v vs=>exact h.elim
 |cons t ts ih=>
  intro vs ds p hr h bI hs
  cases vs with
  |nil=>exact h.elim
  |cons v vs=>
   cases ds with
   |nil=>exact h.elim
   |cons d ds=>
    obtain⟨p1,q,h1,h2,rfl⟩:=h
    simp only[jZ,eC,qZ] at hr
    refine⟨p1,q,WideElems.Trod_stays hl hr.1.1 hr.1.2 h1 (fun x hx=>hb.same (bI x (by simp[hx]))) (fun x hx=>hs x (by simp[hx])),ih vs ds q hr.2 h2 (fun x hx=>bI x (by simp[hx])) (fun x hx=>hs x (by simp[hx])),rfl⟩
theorem Nl {f:Func}{s:ChangeSpec}{W W':World}{args:Array Value}{ds gs:List (DataW H)}{before:List MemPlace}{tb:TypeId}
  (hl:laidOutB P=true) (hv:s.vars=[]) (zL:(f.params.toList.all fun t=>P.readableRec t&&decide (t<P.types.size))=true)
  (lT:f.resultTypes=#[tb]) (htb:P.underlying tb=some .bool)
  (hW:DataW.Whole enc P f.params.toList s.vars false W args.toList ds gs before)
  (N9:s.fn H (ds++gs)={results:=[.lit (.bool true)],args:=ds}) (hb:Below W.heap.size W W'):
  s.post enc P f false true false false W args (.bool true) W':=by
 have hW':=hW
 obtain⟨p,q,hA,hV,hpq,_,_⟩:=hW
 rw[hv] at hV
 have hq:q=[]:=by
  cases gs with
  |nil=>exact hV
  |cons g gs=>exact hV.elim
 subst hq
 rw[tX] at hpq
 subst hpq
 refine Cs (pa:=before) (pv:=[]) hW' (fun b sp hd=>?_) (fun sp hsp=>?_) (fun sp _=>?_) (by simp) hb ?_
 ·rw[lT,N9]
  exact trodAll_cons_mk (shut_bool htb _) trodAll_mk0
 ·rw[N9]
  exact Cq hl hb _ _ _ _ zL hA (fun x hx=>hW'.lt x hx) hsp
 ·rw[hv,N9];rfl
 ·exact ok_one lT rfl (okWide_bool_mk htb _)
end
theorem hv_of {P:Program}{W:World}{params:Array TypeId}{args:Array Value}(h:∀(j:Nat) t v,params[j]? =some t→args[j]? =some v→Value.okWide P W .any 0 t v∨∃base,Value.okWide P W .any base t v)(j:Nat){t:TypeId}{v:Value}
  (h1:params[j]? =some t) (h2:args[j]? =some v):∃base,Value.okWide P W .any base t v:=by
 rcases h j t v h1 h2 with h|h
 ·exact⟨0,h⟩
 ·exact h
end
section
open Go.ChangeShapes Go.WideShapes Go.ChangeAt Go.RowKit Go.Deep
def wtFs(tb:TypeId→Option TyE)(f:TypeId→List E→Prop):List (Nat×TypeId)→List E→Prop
 |[],xs=>xs=[]
 |(_,t)::fs,xs=>∃j,tb t=some j∧j.size≤xs.length∧f t (xs.take j.size)∧wtFs tb f fs (xs.drop j.size)
def wtE(tb:TypeId→Option TyE):Nat→TypeId→List E→Prop
 |0,_,_=>False
 |k+1,t,xs=>∃i,tb t=some i∧xs.length=i.size∧match i.ty with
  | .int kd=>∃n,xs=[.lit (.int kd n)]∧(Lit.int kd n).wf=true
  | .bool=>∃b,xs=[.lit (.bool b)]
  | .str=>∃s:ByteArray,xs=[.lit (.string s)]∧s.size≤maxLen
  | .slice e=>∃j n ys,tb e=some j∧xs=[.sl j.size n ys]∧ys.length=n*j.size∧n≤maxLen∧∀i,i<n→wtE tb k e ((ys.drop (i*j.size)).take j.size)
  | .struct fs=>wtFs tb (wtE tb k) fs xs
  | .arr n e=>∃j,tb e=some j∧xs.length=n*j.size∧∀i,i<n→wtE tb k e ((xs.drop (i*j.size)).take j.size)
  |_=>False
def An(tb:TypeId→Option TyE)(f:TypeId→Bool):List (Nat×TypeId)→Nat→Nat→Bool
 |[],off,n=>off == n
 |(o,t)::fs,off,n=>o == off&&f t&&match tb t with
  |some j=>An tb f fs (off+j.size) n
  |none=>false
def Ed(tb:TypeId→Option TyE):Nat→TypeId→Bool
 |0,_=>false
 |k+1,t=>match tb t with
  |some i=>match i.ty with
   | .int _| .bool| .str=>i.size == 1
   | .slice e=>i.size == 1&&Ed tb k e&&match tb e with
    |some j=>decide (0<j.size)
    |none=>false
   | .struct fs=>An tb (Ed tb k) fs 0 i.size
   | .arr n e=>Ed tb k e&&match tb e with
    |some j=>i.size == n*j.size
    |none=>false
   |_=>false
  |none=>false
section
variable {H:Type} {enc:TypeId×Value→H} {P:Program} {tb:TypeId→Option TyE} {W:World} {sp:Nat→Bool} {hd:Bool} {base:Nat}
theorem TOk.cells(tok:TOk P tb){t:TypeId}{i:TyE}(h:tb t=some i):P.cellsOf t=i.size:=by
 obtain⟨f,z,h1,h2,_⟩:=tok.inf h
 unfold Program.cellsOf
 rw[h1]
 exact h2
def F0:Addr→Prop:=fun _=>False
theorem yr {z:Nat}{us:List Value}{Good:List E→Prop}:∀(n:Nat),us.length=n*z→(∀i,i<n→∃xs,Pw (cH W F0) xs ((us.drop (i*z)).take z)∧Good xs)→
  ∃ys,Pw (cH W F0) ys us∧ys.length=n*z∧∀i,i<n→Good ((ys.drop (i*z)).take z)
 |0,hl,_=>⟨[],by rw[fe] at hl;rw[lb hl];exact Pw.nil,by simp,fun i h=>absurd h (w6 _)⟩
 |n+1,hl,h=>by
  rw[rV] at hl
  have bI:(us.take (n*z)).length=n*z:=by rw[eL];omega
  obtain⟨ys,h1,h2,h3⟩:=yr (us:=us.take (n*z)) n bI fun i hi=>by
   obtain⟨xs,g1,g2⟩:=h i (by omega)
   have hm:i*z+z≤n*z:=by rw[←rV];exact ci _ hi
   refine⟨xs,?_,g2⟩
   rw[Hk,Du,tT (by omega)]
   exact g1
  obtain⟨xs,g1,g2⟩:=h n (by omega)
  have hx:xs.length=z:=by rw[g1.1,eL,gi];omega
  refine⟨ys++xs,?_,by rw[eU,h2,hx,rV],fun i hi=>?_⟩
  ·have e:us=us.take (n*z)++(us.drop (n*z)).take z:=by
    rw[jL (l:=us.drop (n*z)) (by rw[gi];omega),tS]
   rw[e]
   exact h1.append g1
  ·rcases ck i n with CC|CC
   ·have hm:i*z+z≤n*z:=by rw[←rV];exact ci _ CC
    rw[Pc (by omega),zt (by rw[gi];omega)]
    exact h3 i CC
   ·obtain rfl:i=n:=by omega
    rw[Pb,h2,Nat.sub_self,Bt (by omega)]
    simp only[qA,pN]
    rw[jL (by omega)]
    exact g2
theorem um(tok:TOk P tb):∀(k:Nat) (fuel:Nat) (t:TypeId) (cs:List Value) (x:DataW H×List MemPlace),Ed tb k t=true→DataW.trod enc P W base sp hd fuel t cs=some x→∃xs,Pw (cH W F0) xs cs∧wtE tb k t xs
 |0,_,_,_,_,h,_=>by cases h
 |k+1,fuel,t,cs,x,hok,h=>by
  unfold Ed at hok
  cases ht:tb t with
  |none=>rw[ht] at hok;cases hok
  |some i=>
   rw[ht] at hok
   dsimp only at hok
   cases iU:i.ty with
   |int kd=>
    rw[iU] at hok
    have hz:i.size=1:=by simpa using hok
    obtain⟨n,rfl,_,hw⟩:=DataW.trod_int (tok.int ht iU) h
    exact⟨[.lit (.int kd n)],Pw.cons (.lit _ rfl) Pw.nil,i,ht,by rw[hz];rfl,by rw[iU];exact⟨n,rfl,hw⟩⟩
   |bool=>
    rw[iU] at hok
    have hz:i.size=1:=by simpa using hok
    obtain⟨dd,Mc,GK⟩:=tok.und ht
    rw[iU] at GK
    have hb:P.underlying t=some .bool:=by cases dd <;> simp[Ty.of] at GK;exact Mc
    obtain⟨b,rfl,_⟩:=DataW.trod_bool hb h
    exact⟨[.lit (.bool b)],Pw.cons (.lit _ rfl) Pw.nil,i,ht,by rw[hz];rfl,by rw[iU];exact⟨b,rfl⟩⟩
   |str=>
    rw[iU] at hok
    have hz:i.size=1:=by simpa using hok
    obtain⟨s,rfl,_,hs⟩:=DataW.trod_string (tok.str ht iU) h
    exact⟨[.lit (.string s)],Pw.cons (.lit _ rfl) Pw.nil,i,ht,by rw[hz];rfl,by rw[iU];exact⟨s,rfl,hs⟩⟩
   |slice e=>
    rw[iU] at hok
    dsimp only at hok
    cases he:tb e with
    |none=>rw[he] at hok;simp at hok
    |some j=>
     rw[he] at hok
     simp only[eC,beq_iff_eq,qZ] at hok
     obtain⟨⟨hz,hoe⟩,Ep⟩:=hok
     have hce:=tok.cells he
     rcases open_slice (tok.slice ht iU) h with⟨rfl,_⟩|⟨a,len,cap,m,n,D,Pl,rfl,hb,hlc,n7,hm,_,hi⟩
     ·exact⟨[.sl j.size 0 []],Pw.cons (.sl _ 0 [] none 0 (fun _=>undef) (by simp) Ep (aL _) (dU _) (fun h=>absurd h (Bs _)) (fun _ h=>by cases h) (fun _ _ h=>by simp at h)) Pw.nil,
       i,ht,by rw[hz];rfl,by rw[iU];exact⟨j,0,[],he,rfl,by simp,dU _,fun i h=>absurd h (w6 _)⟩⟩
     ·have hle:len≤m:=by rw[hm];split <;> omega
      rw[hce] at hi
      let us:List Value:=(List.range (len*j.size)).map fun q=>(W.cell? (a.add q)).getD undef
      have Ka:us.length=len*j.size:=by simp[us]
      have hu:∀q,q<len*j.size→us[q]? =some ((W.cell? (a.add q)).getD undef):=fun q hq=>by simp[us,hq]
      have Oc:∀i,i<len→∃th,W.cells? base (a.add (i*j.size)) j.size=some th∧th=(us.drop (i*j.size)).take j.size:=by
       intro i Kc
       obtain⟨th,hc,_⟩:=hi i (by omega)
       obtain⟨_,A1,Dk⟩:=World.cells?_some hc
       refine⟨th,hc,KL fun q=>?_⟩
       have hm2:i*j.size+j.size≤len*j.size:=by rw[←rV];exact ci _ Kc
       rw[gV,pM]
       split
       ·rename_i hq
        have h1:=Dk q hq
        rw[oI] at h1
        rw[hu _ (by omega),h1]
        rw[ff (by omega)];rfl
       ·rename_i hq
        rw[kw (by omega)]
      obtain⟨ys,L3,AO,hy3⟩:=yr (W:=W) (us:=us) (z:=j.size) (Good:=wtE tb k e) len Ka fun i Kc=>by
       obtain⟨th,hc,hcs'⟩:=Oc i Kc
       obtain⟨cs2,ni,htr⟩:=hi i (by omega)
       rw[hc] at ni
       injection ni with ni
       subst ni
       rw[←hcs']
       exact um tok k _ e th _ hoe htr
      have zi:∀q v,us[q]? =some v→W.cell? (a.add q)=some v:=by
       intro q v hv
       have hq:q<len*j.size:=by
        rcases ck q us.length with h|h
        ·omega
        ·rw[kw h] at hv;cases hv
       -- the cell lies in a chunk
       have hqd:q / j.size<len:=Hj (by rw[cj];exact hq)
       obtain⟨th,hc,hcs'⟩:=Oc (q / j.size) hqd
       obtain⟨_,A1,Dk⟩:=World.cells?_some hc
       have h1:=Dk (q % j.size) (dA _ Ep)
       rw[oI,cj,og] at h1
       rw[hu q hq] at hv
       injection hv with hv
       rw[h1] at hv
       rw[h1,ff (by have:=dA q Ep;omega)] at*
       simp only[w5] at hv
       rw[hv]
      refine⟨[.sl j.size len ys],Pw.cons (.sl _ len ys (some a) cap (fun q=>us.getD q undef) AO Ep hlc n7 (fun hpl=>⟨a,rfl,?_⟩) (fun ad LE q y hq=>?_) (fun q y hq=>?_)) Pw.nil,i,ht,by rw[hz];rfl,by rw[iU];exact⟨j,len,ys,he,rfl,AO,cX hlc n7,hy3⟩⟩
      ·have h0:0<len*j.size:=rU hpl Ep
       have:=World.block_lt_of_cell? W _ (zi 0 _ (hu 0 h0))
       rwa[iL] at this
      ·injection LE with LE
       subst LE
       obtain⟨v,hv,_⟩:=L3.get hq
       refine⟨?_,fun hf=>hf⟩
       rw[zi q v hv,List.getD,hv];rfl
      ·obtain⟨v,hv,hr⟩:=L3.get hq
       rw[List.getD,hv]
       exact hr
   |other=>rw[iU] at hok;cases hok
   |struct fs=>
    rw[iU] at hok
    dsimp only at hok
    obtain⟨fields,hf,Fw⟩:=tok.struct ht iU
    obtain⟨xs,n,_,_,A1,z7,iR⟩:=DataW.trod_struct hf h
    rw[tok.cells ht] at A1
    have key:∀(l:List Field) (off:Nat),(∀f∈l,∃x,DataW.trod enc P W base sp hd n f.type ((cs.drop f.offset).take (P.cellsOf f.type))=some x)→off≤cs.length→An tb (Ed tb k) (l.map fun f=>(f.offset,f.type)) off i.size=true→
      ∃ys,Pw (cH W F0) ys (cs.drop off)∧wtFs tb (wtE tb k) (l.map fun f=>(f.offset,f.type)) ys:=by
     intro l
     induction l with
     |nil=>
      intro off _ ho uV
      have:off=i.size:=by simpa[An] using uV
      exact⟨[],by rw[Bt (by omega)];exact Pw.nil,rfl⟩
     |cons f l ih=>
      intro off hl ho uV
      simp only[cD,An,eC,beq_iff_eq] at uV
      obtain⟨⟨hof,yg⟩,uV⟩:=uV
      cases hj:tb f.type with
      |none=>rw[hj] at uV;cases uV
      |some j=>
       rw[hj] at uV
       dsimp only at uV
       obtain⟨x,hx⟩:=hl f (pk ..)
       rw[tok.cells hj,hof] at hx
       obtain⟨zs,Ii,hz2⟩:=um tok k _ f.type _ _ yg hx
       have hzl:zs.length=j.size:=by
        cases k with
        |zero=>cases hz2
        |succ k=>
         obtain⟨j',HG,N3,_⟩:=hz2
         rw[hj] at HG
         injection HG with HG
         subst HG
         exact N3
       have hlen:off+j.size≤cs.length:=by
        have:=Ii.1
        rw[hzl,eL,gi] at this
        omega
       obtain⟨ys,L3,AO⟩:=ih (off+j.size) (fun g hg=>hl g (nV _ hg)) hlen uV
       refine⟨zs++ys,?_,j,hj,by rw[eU];omega,?_,?_⟩
       ·have e:cs.drop off=(cs.drop off).take j.size++cs.drop (off+j.size):=by
         rw[←pj,tS]
        rw[e]
        exact Ii.append L3
       ·rw[zt (by omega),jL (by omega)]
        exact hz2
       ·rw[Pc (by omega),Bt (by omega)]
        exact AO
    obtain⟨ys,L3,AO⟩:=key fields.toList 0 (fun f hfm=>by
     obtain⟨q,hq⟩:=zq hfm
     have hq':fields[q]? =some f:=by simpa using hq
     have bI:q<xs.length:=by rw[z7];exact (gD.1 hq').1
     exact⟨xs[q],by rw[iR q f hq',ff bI]⟩) (dU _) (by rw[Fw];exact hok)
    rw[qA] at L3
    exact⟨ys,L3,i,ht,by rw[L3.1,A1],by rw[iU];rw[Fw] at AO;exact AO⟩
   |arr n e=>
    rw[iU] at hok
    dsimp only at hok
    cases he:tb e with
    |none=>rw[he] at hok;simp at hok
    |some j=>
     rw[he] at hok
     simp only[eC,beq_iff_eq] at hok
     obtain⟨hoe,hz⟩:=hok
     obtain⟨xs,m,_,_,A1,z7,iR⟩:=DataW.trod_array (tok.arr ht iU) h
     rw[tok.cells ht] at A1
     rw[tok.cells he] at iR
     obtain⟨ys,L3,AO,hy3⟩:=yr (W:=W) (us:=cs) (z:=j.size) (Good:=wtE tb k e) n (by rw[A1,hz]) fun q hq=>by
      have hq':=iR q hq
      rw[ff (by omega)] at hq'
      exact um tok k _ e _ _ hoe hq'
     exact⟨ys,L3,i,ht,by rw[L3.1,A1],by rw[iU];exact⟨j,he,AO,hy3⟩⟩
def argD(g:Bool)(xs:List E):D:=match g with
 |true=>.ag (xs.map D.e)
 |false=>.e (xs.headD .any)
theorem arg_rep(tok:TOk P tb){k:Nat}{t:TypeId}{i:TyE}{v:Value}{d:DataW H}{p:List MemPlace}{r:Reach}{b0:Nat}(hok:Ed tb k t=true)(ht:tb t=some i)(rN:Value.okWide P W r b0 t v)(h:DataW.Trod enc P W base sp hd t v d p):
  ∃xs,wtE tb k t xs∧kU W F0 (argD i.ty.agg xs) v:=by
 obtain⟨fuel,hf⟩:=h
 obtain⟨xs,hx,hw⟩:=um tok k fuel t _ _ hok hf
 refine⟨xs,hw,?_⟩
 have one:v.cells=#[v]→kU W F0 (.e (xs.headD .any)) v:=by
  intro hv
  rw[hv] at hx
  cases xs with
  |nil=>have:=hx.1;simp at this
  |cons y ys=>exact aN.e _ _ (hx.2 0 y v rfl rfl)
 have agg:∀cs,v=.agg cs→kU W F0 (.ag (xs.map D.e)) v:=by
  rintro cs rfl
  have hx':Pw (cH W F0) xs cs.toList:=hx
  refine aN.ag _ cs (by simpa using hx'.1.symm) (fun j u hu=>?_) (fun j d u hd hu=>?_)
  ·have sZ:cs.toList[j]? =some u:=by simpa using hu
   have bI:j<xs.length:=by
    rw[hx'.1]
    exact (pL.1 sZ).1
   exact (hx'.2 j _ u (ff bI) sZ).one
  ·rw[de] at hd
   cases hxj:xs[j]? with
   |none=>simp[hxj] at hd
   |some y=>
    simp only[hxj,nb,na] at hd
    subst hd
    exact .e _ _ (hx'.2 j y u hxj (by simpa using hu))
 cases iU:i.ty with
 |int kd=>obtain⟨n,rfl⟩:=okWide_int (tok.int ht iU) rN;exact one rfl
 |bool=>
  obtain⟨dd,Mc,GK⟩:=tok.und ht
  rw[iU] at GK
  have hb:P.underlying t=some .bool:=by cases dd <;> simp[Ty.of] at GK;exact Mc
  obtain⟨b,rfl⟩:=okWide_bool hb rN
  exact one rfl
 |str=>obtain⟨s,rfl⟩:=okWide_string (tok.str ht iU) rN;exact one rfl
 |slice e=>obtain⟨a,l,c,rfl⟩:=okWide_slice (tok.slice ht iU) rN;exact one rfl
 |struct fs=>
  obtain⟨fields,hf,_⟩:=tok.struct ht iU
  obtain⟨cs,rfl,_⟩:=okWide_struct hf rN
  exact agg cs rfl
 |arr n e=>
  have ha:=tok.arr ht iU
  unfold Value.okWide at rN
  rw[ha] at rN
  obtain⟨cs,rfl,_⟩:=rN
  exact agg cs rfl
 |other=>
  cases k with
  |zero=>cases hok
  |succ k=>unfold Ed at hok;rw[ht] at hok;dsimp only at hok;rw[iU] at hok;cases hok
theorem says_of {f:FuncId}{ds:List D}{args:Array Value}(hc:aB P f ds (.e (.lit (.bool true))))(hsz:args.size=ds.length)(qU:∀(j:Nat) (d:D) (u:Value),ds[j]? =some d→args[j]? =some u→kU W F0 d u):
  Calls P f args W fun e w'=>e=.returned (.bool true)∧Below W.heap.size W w':=by
 refine (hc.2 W F0 args (fun _ h=>h.elim) hsz qU).mono ?_
 rintro e w' ⟨v,rfl,lT,hb⟩
 have hr:kU w' F0 (.e (.lit (.bool true))) v:=lT
 exact⟨by rw[aN.lit hr],hb⟩
theorem sG {α:Type}(cells:α→List E)(z:Nat)(good:α→Prop):∀(n:Nat) (ys:List E),ys.length=n*z→(∀i,i<n→∃a,(ys.drop (i*z)).take z=cells a∧good a)→∃l:List α,l.length=n∧ys=l.flatMap cells∧∀a∈l,good a
 |0,ys,hl,_=>⟨[],rfl,by rw[fe] at hl;rw[lb hl];rfl,by simp⟩
 |n+1,ys,hl,h=>by
  rw[rV] at hl
  obtain⟨a,ha,hga⟩:=h 0 (Nat.succ_pos n)
  obtain⟨l,h1,h2,h3⟩:=sG cells z good n (ys.drop z) (by rw[gi];omega) fun i hi=>by
   have:=h (i+1) (by omega)
   rw[pj,show z+i*z=(i+1)*z by rw[rV];omega]
   exact this
  simp only[fe,qA] at ha
  refine⟨a::l,by simp[h1],?_,fun b hb=>?_⟩
  ·rw[qz,←ha,←h2,tS]
  ·rcases m9.1 hb with rfl|hb
   ·exact hga
   ·exact h3 b hb
end
end
section
def Rd(tb:TypeId→Option TyE)(t:TypeId)(d:Nat){α:Type}(c:Cd α)(W:α→Prop):Prop:=∀k xs,wtE tb (k+d) t xs→∃a,xs=c.f a∧W a
theorem Rd.up {tb:TypeId→Option TyE}{t:TypeId}{d:Nat}{α:Type}{c:Cd α}{W:α→Prop}(h:Rd tb t d c W)(m:Nat):Rd tb t (d+m) c W:=fun k xs h'=>h (k+m) xs (by rw[pK,pi m d];exact h')
def Wi(k:IntKind)(n:Int):Prop:=k.min≤n∧n≤k.max
section
variable {tb:TypeId→Option TyE} {t e:TypeId} {i j:TyE} {d:Nat} {α:Type} {c:Cd α} {W:α→Prop}
theorem rd_I {k:IntKind}(ht:tb t=some i)(hi:i.ty=.int k):Rd tb t 1 (cI k) (Wi k):=by
 intro n xs h
 obtain⟨i',h1,_,h⟩:=h
 rw[ht] at h1;cases h1
 rw[hi] at h
 obtain⟨m,h1,h2⟩:=h
 exact⟨m,h1,by unfold Wi;simpa[Lit.wf] using h2⟩
theorem rd_B(ht:tb t=some i)(hi:i.ty=.bool):Rd tb t 1 cB (fun _=>True):=by
 intro n xs h
 obtain⟨i',h1,_,h⟩:=h
 rw[ht] at h1;cases h1
 rw[hi] at h
 obtain⟨m,h1⟩:=h
 exact⟨m,h1,trivial⟩
theorem rd_L(ht:tb t=some i)(he:tb e=some j)(hc:Rd tb e d c W)(hi:i.ty=.slice e:=by exact rfl)(hz:c.sz=j.size:=by exact rfl):Rd tb t (d+1) (cL c) (fun l=>l.length≤maxLen∧∀a∈l,W a):=by
 intro n xs h
 obtain⟨i',h1,_,h⟩:=h
 rw[ht] at h1;cases h1
 rw[hi] at h
 obtain⟨j',m,ys,h1,h2,h3,h4,h5⟩:=h
 rw[he] at h1;cases h1
 obtain⟨l,h6,h7,h8⟩:=sG c.f j.size W m ys h3 fun i hi=>hc n _ (h5 i hi)
 refine⟨l,?_,by omega,h8⟩
 rw[h2,h7,←h6,←hz];rfl
theorem lr {xs:List E}{n:Nat}{ys zs:List E}(h1:xs.take n=ys)(h2:xs.drop n=zs):xs=ys++zs:=by
 rw[←h1,←h2,tS]
theorem O9 {P:Program}{H:Type}{enc:TypeId×Value→H}{Wd:World}{sp:Nat→Bool}{hd:Bool}{base k:Nat}{v:Value}{dw:DataW H}{p:List MemPlace}{r:Reach}{b0:Nat}(tok:TOk P tb)(hok:Ed tb (k+d) t=true)(ht:tb t=some i)(hc:Rd tb t d c W)(rN:Value.okWide P Wd r b0 t v)(h:DataW.Trod enc P Wd base sp hd t v dw p):
  ∃a,kU Wd F0 (argD i.ty.agg (c.f a)) v∧W a:=by
 obtain⟨xs,h1,h2⟩:=arg_rep tok hok ht rN h
 obtain⟨a,rfl,h3⟩:=hc k xs h1
 exact⟨a,h2,h3⟩
end
end
theorem rd_A {tb:TypeId→Option TyE}{t e:TypeId}{i j:TyE}{d n:Nat}{α:Type}{c:Cd α}{W:α→Prop}(ht:tb t=some i)(he:tb e=some j)(hc:Rd tb e d c W)(hi:i.ty=.arr n e:=by exact rfl)(hz:c.sz=j.size:=by exact rfl):Rd tb t (d+1) (cA n c) (fun v=>∀a∈v.toList,W a):=by
 intro m xs h
 obtain⟨i',h1,_,h⟩:=h
 rw[ht] at h1;cases h1
 rw[hi] at h
 obtain⟨j',h1,h3,h5⟩:=h
 rw[he] at h1;cases h1
 obtain⟨l,h6,h7,h8⟩:=sG c.f j.size W n xs h3 fun i hi=>hc m _ (h5 i hi)
 exact⟨⟨l.toArray,by simpa using h6⟩,h7,h8⟩
def QR(x:ak):Prop:=(True∧True∧∀a∈x.vN.vW.toList,Wi .u32 a)∧(True∧True∧∀a∈x.vD.vW.toList,Wi .u32 a)
theorem M0 {x:aq}(h:∀a∈x.vW.toList,Wi .u32 a):okI x:=fun j hj=>by
 have h2:=h x.vW[j]! (by rw[gF x.vW j hj];simp)
 exact⟨h2.1,by have:x.vW[j]!≤4294967295:=h2.2;omega⟩
theorem okR_of {x:ak}(h:QR x):okR x:=⟨M0 h.1.2.2,M0 h.2.2.2⟩
def QL(l:List ak):Prop:=l.length≤maxLen∧∀x∈l,QR x
theorem QL.nu {l:List ak}(h:QL l):l=(l.map tI).map nv∧(l.map tI).length≤9223372036854775807:=by
 refine⟨(Gt fun x hx=>okR_of (h.2 x hx)).symm,?_⟩
 rw[eG]
 exact cX h.1 (by decide)
theorem Gq {R C R' C':Int}{A B:List Nu}(h:(vp R C A R' C' B).2≠0):(vp R C A R' C' B).1=mZ:=by
 unfold vp ip at h ⊢
 split
 ·rename_i h0
  rw[ay h0] at h
  split
  ·rename_i h1;rw[ay h1] at h;exact absurd rfl h
  ·rfl
 ·rfl
theorem detP_V {n:Nat}{V:List Nu}(hm:MV n n V):EI n n V=(if (mT n (lw n n V)).2=0 then nv (mT n (lw n n V)).1 else rZ,(mT n (lw n n V)).2):=by
 unfold EI
 rw[ay ⟨hm.chk,rfl⟩,bH,KB]
theorem detP_ok {n:Nat}{V:List Nu}(hm:MV n n V)(h:(EI n n V).2=0):∃d:Nu,EI n n V=(nv d,0)∧aQ d=true∧rv d=det n (toR n V):=by
 rw[detP_V hm] at h ⊢
 dsimp only at h
 have hv:=G3 (d:=(mT n (lw n n V)).1) hm.len hm.good (by rw[←h])
 exact⟨_,by rw[ay h,h],hv.1,hv.2⟩
theorem toR_mul {n:Nat}{A B:List Nu}(hg:(mkM n n (j8 n n A B)).all aQ=true):det n (toR n (mkM n n (j8 n n A B)))=det n (toR n A)*det n (toR n B):=by
 rw[←Ab]
 refine (bJ n).congr _ _ fun i k hi hk=>?_
 show rv (mkM n n (j8 n n A B))[i*n+k]! =_
 rw[oN hi hk,z4 (oO.1 hg i k hi hk)];rfl
theorem toR_tr {n:Nat}{A:List Nu}:det n (toR n (mkM n n (jc n A)))=det n (toR n A):=by
 rw[←IN (f:=toR n A)]
 refine (bJ n).congr _ _ fun i k hi hk=>?_
 show rv (mkM n n (jc n A))[i*n+k]! =_
 rw[oN hi hk];rfl
theorem neF {a b:Int}(h:a=b):decide (a≠b)=false:=by simp[h]
theorem neT {a b:Int}(h:¬a=b):decide (a≠b)=true:=by simp[h]
def cU(aY:av)(oL:av×Int):Int→Option (Int⊕(Bool⊕Unit)):=fun zu=>cnd (decide (zu<aY.vR)) (bnd (pe oL.1 zu zu) fun x54=>bnd (ey x54) fun x56=>cnd (decide (x56≤(0:Int))) (some (.inr (.inl false))) (some (.inl (i64.wrap (zu+(1:Int)))))) (some (.inr (.inr ())))
def ee(aY:av)(bj:List ak):Option Bool:=bnd (S:=Bool) (bnd (mv aY) fun x1=>cnd (!x1) (some (true)) (bnd (dt aY) fun x4=>cnd (decide (x4≠(0:Int))) (some (true)) (cnd (decide (aY.vR≠aY.vC)) (some (true)) (cnd (decide ((4:Int)<aY.vR)) (some (true)) (cnd (decide (((bj).length:Int)≠aY.vR)) (some (true)) (bnd (kG bj) fun nl=>some (!nl))))))) fun bB=>cnd bB (bnd (eS) fun pF=>some pF) (bnd (gR aY) fun tp=>bnd (iJ aY tp.1) fun oa=>bnd (jV aY) fun xq=>bnd (nO aY tp.1) fun oL=>bnd (S:=Bool) (cnd (decide (tp.2≠(0:Int))) (some (true)) (cnd (decide (oa.2≠(0:Int))) (some (true)) (cnd (decide (xq.2≠(0:Int))) (some (true)) (some (decide (oL.2≠(0:Int))))))) fun DG=>cnd DG (bnd (eS) fun v8=>some v8) (bnd (d5 oa.1) fun JA=>bnd (d5 oL.1) fun uF=>bnd (S:=Bool) (cnd (decide (JA.2=(0:Int))) (bnd (ey xq.1) fun x36=>some (!(JA.1 == (decide (x36≠(0:Int)))))) (some (false))) fun DE=>cnd DE (some false) (bnd (S:=Bool) (cnd (decide (uF.2≠(0:Int))) (some (true)) (some (!uF.1))) fun qD=>cnd qD (bnd (S:=Bool) (bnd (eS) fun x43=>cnd x43 (some (decide (uF.2≠(1:Int)))) (some (false))) fun rX=>some rX) (bnd (kq bj) fun x47=>bnd (iJ oL.1 x47) fun x49=>bnd (iJ (⟨(1:Int),((bj).length:Int),bj⟩:av) x49.1) fun zB=>bnd (a5 (cU aY oL) (0:Int)) fun y59=>match y59 with| .inl r=>some r| .inr ()=>bnd (S:=Bool) (bnd (eS) fun x60=>cnd x60 (cnd (decide (aY.vR=(0:Int))) (some (true)) (cnd (decide (x49.2≠(0:Int))) (some (true)) (cnd (decide (zB.2≠(0:Int))) (some (true)) (bnd (mB bj) fun x66=>cnd x66 (some (true)) (gd (0≤(0:Int)∧(0:Int)<((zB.1.vV).length:Int)) (bnd (ey ((zB.1.vV)[((0:Int)).toNat]!)) fun x71=>some (decide ((0:Int)<x71)))))))) (some (false))) fun Dx=>some Dx))))
theorem rh {aY:av}{bj:List ak}{r:Bool}(h:ee aY bj=some r):aB prog 8 [dG aR aY,dL aj bj] (dB r):=by
 refine bL (rs:=[.tmp 4]) (fun cx hx h0=>?_) func8
 unfold ee at h
 refine rs hx fun K hK=>?_
 refine s1 (d:=.pt 0 0) iN ?_
 refine sa ?_
 refine .nil (hK _ _ ?_)
 iterate 2 refine AW.seq ?_
 obtain⟨bB,hy,h⟩:=ah h
 refine jn ((PE cx .normal (fun bB=>[(1,dL aj bj),(2,.pt 0 0),(53,dB bB)]) fun bB=>⟨[(0,[dI .i64 aY.vR,dI .i64 aY.vC,dL aj aY.vV])],[],1⟩) bB) ?_ ?_
 replace h:=hy
 refine rq hx fun K hK=>?_
 refine s1 (d:=dG aR aY) (bS ax) ?_
 refine scb h Ci fun x1 h=>?_
 iterate 2 refine sa ?_
 rcases aZ (!x1) with bm|bm
 replace h:=a3 bm h
 iterate 3 refine aI rfl rfl bm ?_
 refine s1 (al bm) ?_
 refine sa ?_
 iterate 5 refine aI rfl rfl rfl ?_
 refine s1 (al rfl) ?_
 refine sa ?_
 iterate 3 refine aI rfl rfl rfl ?_
 refine s1 (al rfl) ?_
 refine sa ?_
 iterate 5 refine aI rfl rfl rfl ?_
 refine s1 (al rfl) ?_
 refine sa ?_
 iterate 3 refine aI rfl rfl rfl ?_
 refine s1 (al rfl) ?_
 refine .nil (hK _ _ ?_)
 cases h
 exact pe0 h0 [0]
 replace h:=a4 bm h
 refine g1 (d:=dG aR aY) bm (bS ax) ?_
 obtain⟨x4,vu,h⟩:=ah h
 refine g1 bm (dP rfl (qd vu) (by simp only[cD,dT,jZ,gj,eh,eC];exact bn _ _) (lA (ao _) lAn) (.inl rfl)) ?_
 refine ga bm ?_
 refine s1 (au bm) ?_
 refine sa ?_
 rcases aZ (decide (x4≠(0:Int))) with dy|dy
 replace h:=a3 dy h
 iterate 5 refine aI rfl rfl dy ?_
 refine s1 (al dy) ?_
 refine sa ?_
 iterate 3 refine aI rfl rfl rfl ?_
 refine s1 (al rfl) ?_
 refine sa ?_
 iterate 5 refine aI rfl rfl rfl ?_
 refine s1 (al rfl) ?_
 refine sa ?_
 iterate 3 refine aI rfl rfl rfl ?_
 refine s1 (al rfl) ?_
 refine .nil (hK _ _ ?_)
 cases h
 exact pe0 h0 [0]
 replace h:=a4 dy h
 refine ga dy ?_
 refine g1 dy (bc a6) ?_
 refine ga dy ?_
 refine g1 dy (bc a6) ?_
 refine ga dy ?_
 refine s1 (au dy) ?_
 refine sa ?_
 rcases aZ (decide (aY.vR≠aY.vC)) with tg|tg
 replace h:=a3 tg h
 iterate 3 refine aI rfl rfl tg ?_
 refine s1 (al tg) ?_
 refine sa ?_
 iterate 5 refine aI rfl rfl rfl ?_
 refine s1 (al rfl) ?_
 refine sa ?_
 iterate 3 refine aI rfl rfl rfl ?_
 refine s1 (al rfl) ?_
 refine .nil (hK _ _ ?_)
 cases h
 exact pe0 h0 [0]
 replace h:=a4 tg h
 refine ga tg ?_
 refine g1 tg (bc a6) ?_
 refine ga tg ?_
 refine s1 (au tg) ?_
 refine sa ?_
 rcases aZ (decide ((4:Int)<aY.vR)) with oe|oe
 replace h:=a3 oe h
 iterate 5 refine aI rfl rfl oe ?_
 refine s1 (al oe) ?_
 refine sa ?_
 iterate 3 refine aI rfl rfl rfl ?_
 refine s1 (al rfl) ?_
 refine .nil (hK _ _ ?_)
 cases h
 exact pe0 h0 [0]
 replace h:=a4 oe h
 iterate 3 refine ga oe ?_
 refine g1 oe (bc a6) ?_
 refine ga oe ?_
 refine s1 (au oe) ?_
 refine sa ?_
 rcases aZ (decide (((bj).length:Int)≠aY.vR)) with wP|wP
 replace h:=a3 wP h
 iterate 3 refine aI rfl rfl wP ?_
 refine s1 (al wP) ?_
 refine .nil (hK _ _ ?_)
 cases h
 exact pe0 h0 [0]
 replace h:=a4 wP h
 refine ga wP ?_
 obtain⟨nl,wK,h⟩:=ah h
 refine g1 wP (dP rfl (uM wK) rfl (lA (ao _) lAn) (.inl rfl)) ?_
 refine ga wP ?_
 refine s1 (au wP) ?_
 refine .nil (hK _ _ ?_)
 cases h
 exact pe0 h0 [0]
 rintro ex tm' hp' ⟨rfl,hw⟩
 refine AW.weak hw (cdh h rfl (fun vE h=>?_) (fun vE h=>?_))
 refine rs hx fun K hK=>?_
 refine scb h nt fun pF h=>?_
 refine sa ?_
 refine .nil (hK _ _ (AW.ret ?_))
 cases h
 exact rv1
 refine AW.skip (rs hx fun K hK=>?_)
 refine s1 (d:=dG aR aY) (bS ax) ?_
 refine scb h vc fun tp h=>?_
 iterate 3 refine sa ?_
 refine s1 (d:=.pt 1 0) (bZ ax) ?_
 refine s0 (dX (ds':=[dI .i64 tp.1.vR,dI .i64 tp.1.vC,dL aj tp.1.vV]) ax) ?_
 refine sa ?_
 refine .nil (hK _ _ (rs hx fun K hK=>?_))
 refine s1 (d:=dG aR aY) (bS ax) ?_
 refine s1 (d:=dG aR tp.1) (bS ax) ?_
 refine scb h si fun oa h=>?_
 iterate 3 refine sa ?_
 refine s1 (d:=.pt 2 0) (bZ ax) ?_
 refine s0 (dX (ds':=[dI .i64 oa.1.vR,dI .i64 oa.1.vC,dL aj oa.1.vV]) ax) ?_
 refine sa ?_
 refine .nil (hK _ _ (rs hx fun K hK=>?_))
 refine s1 (d:=dG aR aY) (bS ax) ?_
 refine scb h sj fun xq h=>?_
 iterate 3 refine sa ?_
 refine s1 (bo (F:=aj.f cu) aD) ?_
 refine s0 (aO (b':=xq.1) (an.id _ _) aD) ?_
 refine sa ?_
 refine .nil (hK _ _ (rs hx fun K hK=>?_))
 refine s1 (d:=dG aR aY) (bS ax) ?_
 refine s1 (d:=dG aR tp.1) (bS ax) ?_
 refine scb h DT fun oL h=>?_
 iterate 3 refine sa ?_
 refine s1 (d:=.pt 4 0) (bZ ax) ?_
 refine s0 (dX (ds':=[dI .i64 oL.1.vR,dI .i64 oL.1.vC,dL aj oL.1.vV]) ax) ?_
 refine sa ?_
 refine .nil (hK _ _ ?_)
 iterate 2 refine AW.seq ?_
 obtain⟨DG,hy,h⟩:=ah h
 refine jn ((PE cx .normal (fun DG=>[(1,dL aj bj),(2,.pt 0 0),(7,.pt 1 0),(9,.pt 2 0),(11,.pt 3 0),(90,dB DG)]) fun DG=>⟨[(0,[dI .i64 aY.vR,dI .i64 aY.vC,dL aj aY.vV]),(1,[dI .i64 oa.1.vR,dI .i64 oa.1.vC,dL aj oa.1.vV]),(2,dC (aj.f xq.1)),(3,[dI .i64 oL.1.vR,dI .i64 oL.1.vC,dL aj oL.1.vV])],[],4⟩) DG) ?_ ?_
 replace h:=hy
 refine rq hx fun K hK=>?_
 iterate 3 refine sa ?_
 rcases aZ (decide (tp.2≠(0:Int))) with rk|rk
 replace h:=a3 rk h
 iterate 2 refine aI rfl rfl rk ?_
 refine s1 (al rk) ?_
 refine sa ?_
 iterate 2 refine aI rfl rfl rfl ?_
 refine s1 (al rfl) ?_
 refine sa ?_
 iterate 2 refine aI rfl rfl rfl ?_
 refine s1 (al rfl) ?_
 refine .nil (hK _ _ ?_)
 cases h
 exact pe0 h0 [0,2,3,4]
 replace h:=a4 rk h
 iterate 2 refine ga rk ?_
 refine s1 (au rk) ?_
 refine sa ?_
 rcases aZ (decide (oa.2≠(0:Int))) with II|II
 replace h:=a3 II h
 iterate 2 refine aI rfl rfl II ?_
 refine s1 (al II) ?_
 refine sa ?_
 iterate 2 refine aI rfl rfl rfl ?_
 refine s1 (al rfl) ?_
 refine .nil (hK _ _ ?_)
 cases h
 exact pe0 h0 [0,2,3,4]
 replace h:=a4 II h
 iterate 2 refine ga II ?_
 refine s1 (au II) ?_
 refine sa ?_
 rcases aZ (decide (xq.2≠(0:Int))) with A4|A4
 replace h:=a3 A4 h
 iterate 2 refine aI rfl rfl A4 ?_
 refine s1 (al A4) ?_
 refine .nil (hK _ _ ?_)
 cases h
 exact pe0 h0 [0,2,3,4]
 replace h:=a4 A4 h
 iterate 2 refine ga A4 ?_
 refine s1 (au A4) ?_
 refine .nil (hK _ _ ?_)
 cases h
 exact pe0 h0 [0,2,3,4]
 rintro ex tm' hp' ⟨rfl,hw⟩
 refine AW.weak hw (cdh h rfl (fun hb28 h=>?_) (fun hb28 h=>?_))
 refine rs hx fun K hK=>?_
 refine scb h nt fun v8 h=>?_
 refine sa ?_
 refine .nil (hK _ _ (AW.ret ?_))
 cases h
 exact rv1
 refine AW.skip (rs hx fun K hK=>?_)
 refine s1 (d:=dG aR oa.1) (bS ax) ?_
 refine scb h kV fun JA h=>?_
 iterate 5 refine sa ?_
 refine .nil (hK _ _ (rs hx fun K hK=>?_))
 refine s1 (d:=dG aR oL.1) (bS ax) ?_
 refine scb h kV fun uF h=>?_
 iterate 5 refine sa ?_
 refine .nil (hK _ _ ?_)
 iterate 2 refine AW.seq ?_
 obtain⟨DE,hy,h⟩:=ah h
 refine jn ((PE cx .normal (fun DE=>[(1,dL aj bj),(2,.pt 0 0),(11,.pt 1 0),(15,dB uF.1),(16,dI .i64 uF.2),(110,dB DE)]) fun DE=>⟨[(0,[dI .i64 aY.vR,dI .i64 aY.vC,dL aj aY.vV]),(1,[dI .i64 oL.1.vR,dI .i64 oL.1.vC,dL aj oL.1.vV])],[],2⟩) DE) ?_ ?_
 replace h:=hy
 refine rq hx fun K hK=>?_
 iterate 3 refine sa ?_
 rcases aZ (decide (JA.2=(0:Int))) with CL|CL
 replace h:=a3 CL h
 refine ga CL ?_
 refine g1 (d:=dG aj xq.1) CL (aF (an.id _ _) aD) ?_
 obtain⟨x36,hx37,h⟩:=ah h
 refine g1 CL (dP rfl (lS hx37) (by simp only[cD,dT,jZ,gj,eh,eC];exact bn _ _) (lA (eK _ _) lAn) (.inl rfl)) ?_
 iterate 2 refine ga CL ?_
 refine s1 (al CL) ?_
 refine .nil (hK _ _ ?_)
 cases h
 exact pe0 h0 [0,3]
 replace h:=a4 CL h
 iterate 5 refine aI rfl rfl CL ?_
 refine s1 (au CL) ?_
 refine .nil (hK _ _ ?_)
 cases h
 exact pe0 h0 [0,3]
 rintro ex tm' hp' ⟨rfl,hw⟩
 refine AW.weak hw (cdh h rfl (fun Ew h=>?_) (fun Ew h=>?_))
 refine ra hx ?_
 refine AW.ret ?_
 cases h
 exact rv1
 refine AW.skip ?_
 iterate 2 refine AW.seq ?_
 obtain⟨qD,hy,h⟩:=ah h
 refine jn ((PE cx .normal (fun qD=>[(1,dL aj bj),(2,.pt 0 0),(11,.pt 1 0),(16,dI .i64 uF.2),(116,dB qD)]) fun qD=>⟨[(0,[dI .i64 aY.vR,dI .i64 aY.vC,dL aj aY.vV]),(1,[dI .i64 oL.1.vR,dI .i64 oL.1.vC,dL aj oL.1.vV])],[],2⟩) qD) ?_ ?_
 replace h:=hy
 refine rq hx fun K hK=>?_
 iterate 3 refine sa ?_
 rcases aZ (decide (uF.2≠(0:Int))) with vA|vA
 replace h:=a3 vA h
 iterate 2 refine aI rfl rfl vA ?_
 refine s1 (al vA) ?_
 refine .nil (hK _ _ ?_)
 cases h
 exact pe0 h0 [0,1]
 replace h:=a4 vA h
 iterate 2 refine ga vA ?_
 refine s1 (au vA) ?_
 refine .nil (hK _ _ ?_)
 cases h
 exact pe0 h0 [0,1]
 rintro ex tm' hp' ⟨rfl,hw⟩
 refine AW.weak hw (cdh h rfl (fun Ev h=>?_) (fun Ev h=>?_))
 refine AW.seq ?_
 obtain⟨rX,hy,h⟩:=ah h
 refine jn ((PE cx .normal (fun rX=>[(4,dB rX)]) fun rX=>⟨[],[],0⟩) rX) ?_ ?_
 replace h:=hy
 refine rq hx fun K hK=>?_
 refine scb h nt fun x43 h=>?_
 refine sa ?_
 rcases aZ x43 with vz|vz
 replace h:=a3 vz h
 iterate 2 refine ga vz ?_
 refine s1 (al vz) ?_
 refine sa ?_
 refine .nil (hK _ _ ?_)
 cases h
 exact pe0 h0 []
 replace h:=a4 vz h
 iterate 2 refine aI rfl rfl vz ?_
 refine s1 (au vz) ?_
 refine sa ?_
 refine .nil (hK _ _ ?_)
 cases h
 exact pe0 h0 []
 rintro ex tm' hp' ⟨rfl,hw⟩
 refine AW.weak hw (AW.ret ?_)
 cases h
 exact rv1
 refine AW.skip (rsd [32,31] hx fun K hK=>?_)
 refine s1 (d:=dG aR oL.1) (bS ax) ?_
 refine sa ?_
 refine cqb h zG fun x47 h=>?_
 refine cqb h si fun x49 h=>?_
 iterate 3 refine sa ?_
 refine s1 (d:=.pt 2 0) (bZ ax) ?_
 refine s0 (dX (ds':=[dI .i64 x49.1.vR,dI .i64 x49.1.vC,dL aj x49.1.vV]) ax) ?_
 refine sa ?_
 refine .nil (hK _ _ (rs hx fun K hK=>?_))
 iterate 3 refine sa ?_
 refine s1 (d:=dG aR (⟨(1:Int),((bj).length:Int),bj⟩:av)) (cY ax) ?_
 refine s1 (d:=dG aR x49.1) (bS ax) ?_
 refine scb h si fun zB h=>?_
 iterate 3 refine sa ?_
 refine s1 (d:=.pt 3 0) (bZ ax) ?_
 refine s0 (dX (ds':=[dI .i64 zB.1.vR,dI .i64 zB.1.vC,dL aj zB.1.vV]) ax) ?_
 refine sa ?_
 refine .nil (hK _ _ (AW.seq (rs hx fun K hK=>?_)))
 refine sa ?_
 refine s1 (bc a6) ?_
 refine sa ?_
 refine .nil (hK _ _ (AW.block ?_))
 obtain⟨y,hy,h⟩:=ah h
 refine lp (S:=Int) (X:=Bool⊕Unit) (fun zu=>[(1,dL aj bj),(2,.pt 0 0),(11,.pt 1 0),(18,dI .i64 x49.2),(19,.pt 2 0),(20,dI .i64 zB.2),(139,dI .i64 aY.vR),(140,dI .i64 zu)]) (fun zu=>⟨[(0,[dI .i64 aY.vR,dI .i64 aY.vC,dL aj aY.vV]),(1,[dI .i64 oL.1.vR,dI .i64 oL.1.vC,dL aj oL.1.vV]),(2,[dI .i64 zB.1.vR,dI .i64 zB.1.vC,dL aj zB.1.vV])],[],3⟩) (PS (PR [.tmp 4] fun r=>dB r) (PE cx (.exit 0) (fun ()=>[(1,dL aj bj),(2,.pt 0 0),(18,dI .i64 x49.2),(19,.pt 1 0),(20,dI .i64 zB.2)]) fun ()=>⟨[(0,[dI .i64 aY.vR,dI .i64 aY.vC,dL aj aY.vV]),(1,[dI .i64 zB.1.vR,dI .i64 zB.1.vC,dL aj zB.1.vV])],[],2⟩)) hy ?_ ?_ ?_
 exact wk h0 [0,1,3] (wR rfl (wR rfl (wR rfl (wR rfl (wR rfl (wR rfl (wR rfl (wR rfl wTn)))))))) (vR rfl (vR rfl (vR rfl wVn))) wLn
 clear hy h
 rintro zu y h
 dsimp only[cU] at h
 refine ra hx ?_
 refine AW.seq (cdh h rfl (fun hb53 h=>?_) (fun hb53 h=>?_))
 refine AW.skip (AW.seq (AW.block (ra hx ?_)))
 refine rs hx fun K hK=>?_
 refine s1 (d:=dG aR oL.1) (bS ax) ?_
 iterate 2 refine sa ?_
 refine scb h FM fun x54 h=>?_
 refine scb h lS fun x56 h=>?_
 refine sa ?_
 refine .nil (hK _ _ (cdh h rfl (fun hb58 h=>?_) (fun hb58 h=>?_)))
 refine ra hx ?_
 refine AW.ret ?_
 cases h
 refine PS.r ⟨by nofun,PS.l (PR.i ?_)⟩
 exact rv1
 refine AW.skip (rb hx ?_)
 cases h
 exact PS.l (pe0 h0 [0,1,2])
 refine AW.exit ?_
 try dsimp only
 try simp only[aM,reduceIte,Nat.reduceEqDiff,reduceCtorEq]
 cases h
 exact PS.r ⟨by nofun,PS.r (PE.i (wk h0 [0,2] (wR rfl (wR rfl (wR rfl (wR rfl (wR rfl wTn))))) (vR rfl (vR rfl wVn)) wLn))⟩
 rcases y with r|⟨⟩
 rintro ex tm' hp' ⟨rfl,hw⟩
 cases h
 exact hw
 rintro ex tm' hp' ⟨rfl,hw⟩
 try dsimp only
 try simp only[aM,reduceIte,Nat.reduceEqDiff,reduceCtorEq]
 refine AW.weak hw (AW.seq ?_)
 obtain⟨Dx,hy,h⟩:=ah h
 refine jn ((PE cx .normal (fun Dx=>[(4,dB Dx)]) fun Dx=>⟨[],[],0⟩) Dx) ?_ ?_
 replace h:=hy
 refine rq hx fun K hK=>?_
 refine scb h nt fun x60 h=>?_
 refine sa ?_
 rcases aZ x60 with jI|jI
 replace h:=a3 jI h
 refine ga jI ?_
 refine g1 jI (bc a6) ?_
 iterate 2 refine ga jI ?_
 rcases aZ (decide (aY.vR=(0:Int))) with tK|tK
 replace h:=a3 tK h
 iterate 2 refine aI rfl rfl tK ?_
 refine g1 jI (al tK) ?_
 refine ga jI ?_
 iterate 2 refine aI rfl rfl rfl ?_
 refine g1 jI (al rfl) ?_
 refine ga jI ?_
 iterate 2 refine aI rfl rfl rfl ?_
 refine g1 jI (al rfl) ?_
 refine ga jI ?_
 iterate 6 refine aI rfl rfl rfl ?_
 refine g1 jI (al rfl) ?_
 refine s1 (al jI) ?_
 refine sa ?_
 refine .nil (hK _ _ ?_)
 cases h
 exact pe0 h0 []
 replace h:=a4 tK h
 iterate 2 refine ga tK ?_
 refine g1 jI (au tK) ?_
 refine ga jI ?_
 rcases aZ (decide (x49.2≠(0:Int))) with IB|IB
 replace h:=a3 IB h
 iterate 2 refine aI rfl rfl IB ?_
 refine g1 jI (al IB) ?_
 refine ga jI ?_
 iterate 2 refine aI rfl rfl rfl ?_
 refine g1 jI (al rfl) ?_
 refine ga jI ?_
 iterate 6 refine aI rfl rfl rfl ?_
 refine g1 jI (al rfl) ?_
 refine s1 (al jI) ?_
 refine sa ?_
 refine .nil (hK _ _ ?_)
 cases h
 exact pe0 h0 []
 replace h:=a4 IB h
 iterate 2 refine ga IB ?_
 refine g1 jI (au IB) ?_
 refine ga jI ?_
 rcases aZ (decide (zB.2≠(0:Int))) with GN|GN
 replace h:=a3 GN h
 iterate 2 refine aI rfl rfl GN ?_
 refine g1 jI (al GN) ?_
 refine ga jI ?_
 iterate 6 refine aI rfl rfl rfl ?_
 refine g1 jI (al rfl) ?_
 refine s1 (al jI) ?_
 refine sa ?_
 refine .nil (hK _ _ ?_)
 cases h
 exact pe0 h0 []
 replace h:=a4 GN h
 refine ga GN ?_
 obtain⟨x66,hx67,h⟩:=ah h
 refine g1 GN (dP rfl (Cp hx67) rfl (lA (ao _) lAn) (.inl rfl)) ?_
 refine g1 jI (au GN) ?_
 refine ga jI ?_
 rcases aZ x66 with zQ|zQ
 replace h:=a3 zQ h
 iterate 6 refine aI rfl rfl zQ ?_
 refine g1 jI (al zQ) ?_
 refine s1 (al jI) ?_
 refine sa ?_
 refine .nil (hK _ _ ?_)
 cases h
 exact pe0 h0 []
 replace h:=a4 zQ h
 refine ga zQ ?_
 refine g1 zQ (bc aP) ?_
 obtain⟨hc69,h⟩:=aC h
 have hn70:((0:Int)).toNat<(zB.1.vV).length:=by omega
 refine g1 zQ (fZ hc69 aP aD) ?_
 refine g1 (d:=dG aj ((zB.1.vV)[((0:Int)).toNat]!)) zQ (pl (c:=aj) (l:=zB.1.vV) (n:=((0:Int)).toNat) (o:=0) aD hn70 (jM _ _ rfl)) ?_
 obtain⟨x71,hx72,h⟩:=ah h
 refine g1 zQ (dP rfl (lS hx72) (by simp only[cD,dT,jZ,gj,eh,eC];exact bn _ _) (lA (eK _ _) lAn) (.inl rfl)) ?_
 refine ga zQ ?_
 refine g1 jI (au zQ) ?_
 refine s1 (al jI) ?_
 refine sa ?_
 refine .nil (hK _ _ ?_)
 cases h
 exact pe0 h0 []
 replace h:=a4 jI h
 iterate 4 refine aI rfl rfl jI ?_
 iterate 2 refine M6 rfl rfl ?_
 iterate 2 refine aI rfl rfl jI ?_
 iterate 2 refine M6 rfl rfl ?_
 iterate 2 refine aI rfl rfl jI ?_
 iterate 2 refine M6 rfl rfl ?_
 iterate 2 refine aI rfl rfl jI ?_
 iterate 6 refine M6 rfl rfl ?_
 refine aI rfl rfl jI ?_
 refine s1 (au jI) ?_
 refine sa ?_
 refine .nil (hK _ _ ?_)
 cases h
 exact pe0 h0 []
 rintro ex tm' hp' ⟨rfl,hw⟩
 refine AW.weak hw (AW.ret ?_)
 cases h
 exact rv1
section
section
variable {n:Nat} {V:List Nu}
theorem Gz(hm:MV n n V){t:Nat}(ht:t≤n)(h:(mT t (lw t t (mkM t t (mq n V)))).2=0):aQ (mT t (lw t t (mkM t t (mq n V)))).1=true∧rv (mT t (lw t t (mkM t t (mq n V)))).1=det t (toR n V):=by
 have hl:=J6 hm ht
 obtain⟨h1,h2⟩:=G3 (d:=(mT t (lw t t (mkM t t (mq n V)))).1) hl.len hl.good (by rw[←h])
 refine⟨h1,h2.trans ?_⟩
 refine (bJ t).congr _ _ fun i k hi hk=>?_
 show rv (mkM t t (mq n V))[i*t+k]! =_
 rw[oN hi hk];rfl
theorem detV_e(t:Nat)(o:Option (List Nu×List Pv)):(mT t o).2=0∨(mT t o).2=30:=by
 unfold mT
 cases o with
 |none=>exact .inr rfl
 |some p=>
  obtain⟨U,acc⟩:=p
  dsimp only
  split
  ·exact .inl rfl
  ·split
   ·exact .inl rfl
   ·exact .inr rfl
theorem MX:∀m j,(vn n V m j).2=0∨(vn n V m j).2=30
 |0,_=>.inl rfl
 |m+1,j=>by
  unfold vn
  split
  ·exact detV_e _ _
  ·exact MX m (j+1)
theorem C7:∀{m j:Nat},(vn n V m j).1=true→∀t,j≤t→t<j+m→(mT t (lw t t (mkM t t (mq n V)))).2=0∧0<eA (mT t (lw t t (mkM t t (mq n V)))).1
 |0,j,_,t,h1,h2=>by omega
 |m+1,j,h,t,h1,h2=>by
  unfold vn at h
  split at h
  ·cases h
  ·rename_i h3
   by_cases e:t=j
   ·subst e
    exact⟨u5 fun e=>h3 (.inl e),Int.not_le.1 fun e=>h3 (.inr e)⟩
   ·exact C7 h t (by omega) (by omega)
theorem Aw:∀{m j:Nat},(vn n V m j).2=0→(vn n V m j).1=false→∃t,j≤t∧t<j+m∧(mT t (lw t t (mkM t t (mq n V)))).2=0∧eA (mT t (lw t t (mkM t t (mq n V)))).1≤0
 |0,j,_,h=>by cases h
 |m+1,j,h,h'=>by
  unfold vn at h h'
  split at h
  ·rename_i h3
   exact⟨j,aL _,by omega,h,by
    rcases h3 with h3|h3
    ·exact absurd h h3
    ·exact h3⟩
  ·rename_i h3
   rw[aA h3] at h'
   obtain⟨t,h1,h2,h4⟩:=Aw h h'
   exact⟨t,by omega,by omega,h4⟩
theorem Ap(hs:FY n V=true):BV n (toR n V):=by
 have h:=bV.1 hs
 have key:∀i k,i<n→k<i→toR n V i k=toR n V k i:=fun i k hi hk=>by
  have h1:=bV.1 (h i (s7.2 hi)) k (s7.2 hk)
  show rv V[i*n+k]! =rv V[k*n+i]!
  rw[pO h1]
 intro i k hi hk
 rcases yK i k with e|e|e
 ·exact (key k i hk e).symm
 ·rw[e]
 ·exact key i k hi e
theorem symP_of(h:∀i k,i<n→k<i→V[i*n+k]! =V[k*n+i]!):FY n V=true:=by
 refine bV.2 fun i hi=>bV.2 fun k hk=>cV (h i k (s7.1 hi) (s7.1 hk))
theorem Eb(hm:MV n n V):l8 n n V=if FY n V then vn n V n 1 else (false,0):=by
 unfold l8
 rw[ay ⟨hm.chk,rfl⟩,bH]
theorem posMP_e(hm:MV n n V):(l8 n n V).2=0∨(l8 n n V).2=30:=by
 rw[Eb hm]
 split
 ·exact MX _ _
 ·exact .inl rfl
theorem Ax(hm:MV n n V)(h:(l8 n n V).1=true):BV n (toR n V)∧yP n (toR n V):=by
 rw[Eb hm] at h
 split at h
 ·rename_i hs
  refine⟨Ap hs,posd_of bJ (Ap hs) fun k hk wN=>?_⟩
  obtain⟨h1,h2⟩:=C7 h k (by omega) (by omega)
  obtain⟨h3,h4⟩:=Gz hm wN h1
  rw[←h4]
  exact (JQ h3).1 h2
 ·cases h
theorem Gc(hm:MV n n V)(hs:FY n V=true)(h0:(l8 n n V).2=0)(h:(l8 n n V).1=false):¬yP n (toR n V):=by
 rw[Eb hm,ay hs] at h h0
 obtain⟨t,h1,h2,h3,h4⟩:=Aw h0 h
 obtain⟨h5,h6⟩:=Gz hm (show t≤n by omega) h3
 intro hp
 have:=zk bJ (Ap hs) hp t (by omega)
 rw[←h6] at this
 have:=(JQ h5).2 this
 omega
end
theorem OM {n:Nat}{f:RM}(hs:BV n f)(h:yP n f):0<det n f:=zk bJ hs h n (aL _)
theorem ker0 {n:Nat}{f:RM}(hd:det n f≠0)(y:Nat→Rat)(h:∀j,j<n→bA n (fun i=>f i j*y i)=0):∀i,i<n→y i=0:=fun i hi=>u5 fun e=>by
 refine hd ?_
 rw[←IN]
 refine det_ker (y:=fun t=>y t / y i) (fun r hr=>?_) hi (by grind)
 have:=h r hr
 rw[aX (g:=fun t=>(1 / y i)*(f t r*y t)) fun t _=>by show f t r*(y t / y i)=_;grind,gM,this]
 grind
theorem sq_pos {n:Nat}{A:List Nu}(hm:MV n n A)(hg:(mkM n n (j8 n n A (mkM n n (jc n A)))).all aQ=true)(he:(l8 n n (mkM n n (j8 n n A (mkM n n (jc n A))))).2=0){d:Nu}(gd:aQ d=true)(vd:rv d=det n (toR n A)):
  (l8 n n (mkM n n (j8 n n A (mkM n n (jc n A))))).1=decide (eA d≠0):=by
 have hmt:MV n n (mkM n n (j8 n n A (mkM n n (jc n A)))):=⟨hm.r,hm.r,et,hg⟩
 have rN:∀i k,i<n→k<n→toR n (mkM n n (j8 n n A (mkM n n (jc n A)))) i k=bA n fun j=>toR n A i j*toR n A k j:=fun i k hi hk=>by
  show rv (mkM n n (j8 n n A (mkM n n (jc n A))))[i*n+k]! =_
  rw[oN hi hk,z4 (oO.1 hg i k hi hk)]
  exact aX fun j hj=>by rw[oN hj hk];rfl
 have hs:FY n (mkM n n (j8 n n A (mkM n n (jc n A))))=true:=symP_of fun i k hi hk=>by
  rw[oN hi (by omega),oN (by omega) hi]
  refine Oo (oO.1 hg i k hi (by omega)) (oO.1 hg k i (by omega) hi) ?_
  have h1:=rN i k hi (by omega)
  have h2:=rN k i (by omega) hi
  unfold toR at h1 h2
  rw[oN hi (by omega)] at h1
  rw[oN (by omega) hi] at h2
  rw[h1,h2]
  exact aX fun j _=>by grind
 have hdet:det n (toR n (mkM n n (j8 n n A (mkM n n (jc n A)))))=det n (toR n A)*det n (toR n A):=by
  rw[toR_mul hg,toR_tr]
 by_cases h0:eA d=0
 ·rw[show decide (eA d≠0)=false by simp[h0]]
  cases hb:(l8 n n (mkM n n (j8 n n A (mkM n n (jc n A))))).1 with
  |false=>rfl
  |true=>
   obtain⟨h1,h2⟩:=Ax hmt hb
   have:=OM h1 h2
   rw[hdet,←vd,(C3 gd).1 h0] at this
   exact absurd this (by grind)
 ·rw[show decide (eA d≠0)=true by simp[h0]]
  cases hb:(l8 n n (mkM n n (j8 n n A (mkM n n (jc n A))))).1 with
  |true=>rfl
  |false=>
   refine absurd ?_ (Gc hmt hs he hb)
   refine posd_sq rN fun y hy=>ker0 (f:=toR n A) (fun e=>h0 ((C3 gd).2 (vd.trans e))) y hy
theorem HM {n:Nat}{x:List Nu}(hl:x.length=n)(hg:x.all aQ=true)(h:(x.all fun x=>decide (eA x=0)&&aQ x)=false):∃i,i<n∧rv x[i]!≠0:=by
 refine u5 fun hn=>?_
 have:(x.all fun x=>decide (eA x=0)&&aQ x)=true:=bV.2 fun a ha=>by
  obtain⟨i,hi,rfl⟩:=List.mem_iff_getElem.1 ha
  have h1:=wS hg hi
  rw[gF x i hi] at h1
  rw[h1,eh]
  refine cV ((C3 h1).2 (u5 fun e=>hn ⟨i,by omega,?_⟩))
  rw[gF x i hi];exact e
 rw[this] at h;cases h
theorem addP_0 {n:Nat}{A B:List Nu}(h:(LV n n A n n B).2=0):(mkM n n (Hn n A B)).all aQ=true∧LV n n A n n B=(mS n n (mkM n n (Hn n A B)),0):=by
 unfold LV at h ⊢
 split at h
 ·rename_i h0
  rw[ay h0]
  rw[bH] at h ⊢
  unfold ip at h ⊢
  cases hg:(mkM n n (Hn n A B)).all aQ with
  |true=>exact⟨rfl,rfl⟩
  |false=>
   rw[hg] at h
   exact absurd h (by show ¬(30:Int)=0;decide)
 ·exact absurd h (by show ¬(1:Int)=0;decide)
theorem row_mul {n:Nat}{x Y:List Nu}{h:(vp 1 (x.length:Int) x n 1 Y).2=0}(hl:x.length=n):∃d:Nu,(vp 1 (x.length:Int) x n 1 Y).1.vV=[nv d]∧aQ d=true∧rv d=bA n fun j=>rv x[j]! *rv Y[j]! :=by
 obtain⟨r,c,k,h1,h2,h3,h4,h5,h6,h7,h8⟩:=ui h
 obtain rfl:r=1:=by
  have:(1:Int)=(r:Int):=h1
  omega
 obtain rfl:k=1:=by
  have:(1:Int)=(k:Int):=h4
  omega
 obtain rfl:n=c:=by omega
 rw[h8]
 have hg:=oO.1 h7 0 0 (by omega) (by omega)
 refine⟨j8 n 1 x Y 0 0,rfl,hg,?_⟩
 rw[z4 hg]
 exact aX fun j _=>by rw[fe,bq,pE,lc]
theorem M9 {R C R' C':Int}{A B:List Nu}:(vp R C A R' C' B).1.vV.length≤1000000:=by
 by_cases h:(vp R C A R' C' B).2=0
 ·obtain⟨r,c,k,h1,h2,h3,h4,h5,h6,h7,h8⟩:=ui h
  rw[h8]
  show ((mkM r k (j8 c k A B)).map nv).length≤_
  rw[eG]
  exact rL (by have:=h5.r;omega) (by have:=h6.c;omega)
 ·rw[Gq h];exact dU _
theorem M8 {r c:Nat}{A x:List Nu}(hf:(mkM r 1 (j8 c 1 A x)).all aQ=true){i:Nat}(hi:i<r):rv (j8 c 1 A x i 0)=bA c fun j=>rv A[i*c+j]! *rv x[j]! :=by
 rw[z4 (oO.1 hf i 0 hi (by omega))]
 exact aX fun t _=>by rw[pE,lc]
theorem Jv {R C:Int}{A x:List Nu}:ee (mS R C A) (x.map nv)=some true:=by
 unfold ee
 obtain⟨b1,h1,k1⟩:=Q_Light (R:=R) (C:=C) (V:=A)
 rw[h1]
 simp only[ab,eG]
 have sn:(bnd eS fun x=>some x)=some true:=by rw[xm];rfl
 rw[sn]
 cases b1 with
 |false=>rw[show (!false)=true from rfl,kT,ab,kT]
 |true=>
  have hA:A.length≤1000000:=by have:=(k1 rfl).1;omega
  rw[show (!true)=false from rfl,kF,uz hA,ab]
  by_cases g1:aW R C A=0
  rotate_left
  ·rw[neT g1,kT,ab,kT]
  rw[neF g1,kF]
  by_cases g3:R=C
  rotate_left
  ·rw[show decide ((mS R C A).vR≠(mS R C A).vC)=true from neT g3,kT,ab,kT]
  rw[show decide ((mS R C A).vR≠(mS R C A).vC)=false from neF g3,kF]
  by_cases g6:(4:Int)<R
  ·rw[show decide ((4:Int)<(mS R C A).vR)=true from cV g6,kT,ab,kT]
  rw[show decide ((4:Int)<(mS R C A).vR)=false from gG g6,kF]
  by_cases g7:(x.length:Int)=R
  rotate_left
  ·rw[show decide ((x.length:Int)≠(mS R C A).vR)=true from neT g7,kT,ab,kT]
  rw[show decide ((x.length:Int)≠(mS R C A).vR)=false from neF g7,kF]
  subst g3
  obtain⟨n,c,rfl,hc,hm⟩:=eT.1 g1
  obtain rfl:n=c:=by omega
  have hl:x.length=n:=by omega
  have hx:x.length≤1000000:=by omega
  obtain⟨b2,e2⟩:=KT hx
  rw[e2,ab]
  cases b2 with
  |false=>rw[show (!false)=true from rfl,ab,kT]
  |true=>
   rw[show (!true)=false from rfl,ab,kF,Hu hA,ab]
   have ht:JL n n A=(mS n n (mkM n n (jc n A)),0):=by
    unfold JL
    rw[ay g1,bH]
    exact tran_ok hm
   have hmt:MV n n (mkM n n (jc n A)):=⟨hm.r,hm.r,et,oO.2 fun i k hi hk=>hm.gd (cC hk hi)⟩
   have hTl:(mkM n n (jc n A)).length≤1000000:=rL (by omega) (by omega)
   rw[ht]
   dsimp only
   rw[Pu hA hTl,ab,Px hA,ab,P_Add hA hTl,ab,neF rfl,kF]
   by_cases f1:(vp n n A n n (mkM n n (jc n A))).2=0
   rotate_left
   ·rw[neT f1,kT,ab,kT]
   rw[neF f1,kF]
   by_cases f2:(EI n n A).2=0
   rotate_left
   ·rw[neT f2,kT,ab,kT]
   rw[neF f2,kF]
   by_cases f3:(LV n n A n n (mkM n n (jc n A))).2=0
   rotate_left
   ·rw[neT f3,ab,kT]
   rw[neF f3,ab,kF]
   obtain⟨r,c,k,q1,q2,q3,q4,hma,hmb,hg,h5⟩:=ui f1
   obtain rfl:n=r:=by omega
   obtain rfl:n=c:=by omega
   obtain rfl:n=k:=by omega
   obtain⟨d,dx,gx,vx⟩:=detP_ok hm f2
   obtain⟨hga,h6⟩:=addP_0 f3
   rw[h5,h6,dx]
   dsimp only
   rw[sS (rL (by omega) (by omega)),ab,sS (rL (by omega) (by omega)),ab]
   have mid:(cnd (decide ((l8 n n (mkM n n (j8 n n A (mkM n n (jc n A))))).2=(0:Int))) (bnd (ey (nv d)) fun x36=>some (!((l8 n n (mkM n n (j8 n n A (mkM n n (jc n A))))).1 == (decide (x36≠(0:Int)))))) (some (false)))=some false:=by
    by_cases hj:(l8 n n (mkM n n (j8 n n A (mkM n n (jc n A))))).2=0
    ·rw[bt _ _ hj,FV,ab,sq_pos hm hg hj gx vx]
     simp
    ·rw[bu _ _ hj]
   rw[mid,ab,kF]
   have hmh:MV n n (mkM n n (Hn n A (mkM n n (jc n A)))):=⟨hm.r,hm.r,et,hga⟩
   have hHl:(mkM n n (Hn n A (mkM n n (jc n A)))).length≤1000000:=rL (by omega) (by omega)
   generalize mkM n n (Hn n A (mkM n n (jc n A)))=H at hmh hHl ⊢
   by_cases f4:(l8 n n H).2=0
   rotate_left
   ·rw[neT f4,kT,ab,kT,xm,ab,kT,ab]
    have:=posMP_e hmh
    rw[neT (show ¬(l8 n n H).2=1 by omega)]
   rw[neF f4,kF,ab]
   cases hb:(l8 n n H).1 with
   |false=>
    rw[show (!false)=true from rfl,kT,xm,ab,kT,ab,neT (show ¬(l8 n n H).2=1 by omega)]
   |true=>
    obtain⟨hsy,hpd⟩:=Ax hmh hb
    rw[show (!true)=false from rfl,kF,Py hx,ab,Ps hHl hx,ab]
    have hB:=M9 (R:=n) (C:=n) (A:=H) (R':=(vJ x).1) (C':=(vJ x).2.1) (B:=(vJ x).2.2)
    have hz:∃Y:List Nu,Y.length≤1000000∧(mcP n n H x).1=mS (mcP n n H x).1.vR (mcP n n H x).1.vC Y∧((mcP n n H x).2=0→n≠0→x.all aQ=true∧(mcP n n H x).1.vR=n∧(mcP n n H x).1.vC=1∧∀i,i<n→rv Y[i]! =bA n fun j=>toR n H i j*rv x[j]!):=by
     by_cases h0:(mcP n n H x).2=0
     ·obtain⟨r,c,k,e1,e2,e3,e4,e5,e6,e7,e8⟩:=ui h0
      refine⟨mkM r k (j8 c k H (vJ x).2.2),rL (by have:=e5.r;omega) (by have:=e6.c;omega),by rw[show mcP n n H x=_ from e8],fun _ hn=>?_⟩
      obtain⟨r',c',i1,i2,i3,i4,i5,i6,i7⟩:=mcP_ok h0 (by omega)
      obtain rfl:n=r':=by omega
      obtain rfl:n=c':=by omega
      have i8:mS (r:Int) (k:Int) (mkM r k (j8 c k H (vJ x).2.2))=mS (n:Int) ((1:Nat):Int) (mkM n 1 (j8 n 1 H x)):=congrArg Prod.fst (e8.symm.trans i7)
      have i9:(mkM r k (j8 c k H (vJ x).2.2)).map nv=(mkM n 1 (j8 n 1 H x)).map nv:=congrArg av.vV i8
      rw[nvl_eq.1 i9]
      refine⟨i5,by rw[i7],by rw[i7];rfl,fun i hi=>?_⟩
      have:=oN (f:=j8 n 1 H x) hi (show 0<1 by omega)
      rw[pE,lc] at this
      rw[this,M8 i6 hi];rfl
     ·exact⟨[],by decide,by rw[show (mcP n n H x).1=mZ from Gq h0];rfl,fun h=>absurd h h0⟩
    obtain⟨Y,hY,eY,kY⟩:=hz
    rw[eY,show (⟨(1:Int),(x.length:Int),x.map nv⟩:av)=mS 1 (x.length:Int) x from rfl,Pu hx hY,ab]
    rw[AI (b:=cU (mS (n:Int) (n:Int) A) (mS (n:Int) (n:Int) H,0)) (n:=n) (by omega) (fun i=>decide (0<eA H[i*n+i]!)) (fun i hi=>?_) ?_]
    ·have iR:(List.range n).all (fun i=>decide (0<eA H[i*n+i]!))=true:=bV.2 fun i hi=>by
      have hi:=s7.1 hi
      exact cV ((JQ (hmh.gd (cC hi hi))).2 (Li hpd hi))
     rw[iR,ay rfl,ab]
     dsimp only
     rw[xm,ab,kT]
     by_cases c0:n=0
     ·rw[show decide ((mS (n:Int) (n:Int) A).vR=(0:Int))=true from cV (by rw[c0];rfl),kT,ab]
     ·rw[show decide ((mS (n:Int) (n:Int) A).vR=(0:Int))=false from gG (fun e=>c0 (by have:(n:Int)=0:=e;omega)),kF]
      by_cases c1:(mcP n n H x).2=0
      rotate_left
      ·rw[neT c1,kT,ab]
      rw[neF c1,kF]
      obtain⟨k1,k2,k3,k4⟩:=kY c1 c0
      rw[k2,k3]
      by_cases c2:(vp 1 (x.length:Int) x n 1 Y).2=0
      rotate_left
      ·rw[neT c2,kT,ab]
      rw[neF c2,kF,L_zeros hx,ab]
      cases hzz:x.all fun x=>decide (eA x=0)&&aQ x with
      |true=>rw[kT,ab]
      |false=>
       rw[kF]
       obtain⟨d,d1,d2,d3⟩:=row_mul (h:=c2) hl
       rw[d1]
       have hpos:=hpd (fun j=>rv x[j]!) (HM hl k1 hzz)
       have e9:qf n (toR n H) (fun j=>rv x[j]!)=rv d:=by
        rw[d3]
        exact aX fun i hi=>by rw[k4 i hi]
       rw[e9] at hpos
       show bnd (gd (0≤(0:Int)∧(0:Int)<(([nv d]:List ak).length:Int)) (bnd (ey (nv d)) fun x71=>some (decide ((0:Int)<x71)))) _=_
       rw[FV,ab,cV ((JQ d2).2 hpos)]
       rfl
    ·unfold cU
     dsimp only
     rw[show decide ((n:Int)<(mS (n:Int) (n:Int) A).vR)=false from gG (show ¬(n:Int)<n by omega),kF]
    ·unfold cU
     dsimp only
     rw[show decide ((i:Int)<(mS (n:Int) (n:Int) A).vR)=true from cV (show (i:Int)<n by omega),kT,P_At hHl,ab,FV,ab]
     have e1:atP n n H i i=H[i*n+i]! :=by
      unfold atP
      rw[ay ⟨hmh.chk,by omega,by omega,by omega,by omega⟩,bH,bH]
     rw[e1,show decide (eA H[i*n+i]!≤(0:Int))= !decide (0<eA H[i*n+i]!) by
      by_cases h:0<eA H[i*n+i]!
      ·rw[cV h,def_];rfl
      ·rw[gG h,det_];rfl]
theorem Hz {a:av}{x:List ak}(hA:QL a.vV)(hx:QL x):ee a x=some true:=by
 obtain⟨R,C,A⟩:=a
 dsimp only at hA
 rw[hA.nu.1,hx.nu.1]
 exact Jv
end
section
open Go.ChangeShapes Go.WideShapes Go.ChangeAt Go.RowKit Go.ChangeMaps
namespace matrixPositive
theorem k0:(Rows.matrixPositiveIsRow.wf (OpenSpec.ofChange Rows.matrixPositiveIsSpec))=true:=by kernel_rfl
theorem k1:(laidOutB prog)=true:=by kernel_rfl
theorem k2:(mapsRowed prog)=true:=by kernel_rfl
theorem k3:(f8.params.all (prog.readableRec ·))=true:=by kernel_rfl
theorem k4:(namedTie prog Rows.matrixPositiveIsRow.named Rows.matrixPositiveIsSpec.vars)=true:=by kernel_rfl
theorem k5:((Rows.matrixPositiveIsRow.stops == []))=true:=by kernel_rfl
theorem k6:((prog.stops == []))=true:=by kernel_rfl
theorem k7:((Rows.matrixPositiveIsRow.knobs == []))=true:=by kernel_rfl
theorem k8:((prog.stopKnobs == []))=true:=by kernel_rfl
theorem k9:((Rows.matrixPositiveIsRow.inPlace == prog.inPlace 8))=true:=by kernel_rfl
theorem k10:((Rows.matrixPositiveIsRow.unfollowed == prog.unfollowed 8))=true:=by kernel_rfl
theorem k11:((Rows.matrixPositiveIsRow.recurses == prog.recurses 8))=true:=by kernel_rfl
theorem k12:((Rows.matrixPositiveIsRow.named == prog.varsNamed 8))=true:=by kernel_rfl
theorem k13:((Rows.matrixPositiveIsRow.maps == (f8.params.toList++Rows.matrixPositiveIsSpec.plain.varTypes prog).any (prog.mapsRec ·)))=true:=by kernel_rfl
theorem k14:((Rows.matrixPositiveIsRow.ifaces == (f8.params.toList++Rows.matrixPositiveIsSpec.plain.varTypes prog).any (prog.ifacesRec ·)))=true:=by kernel_rfl
theorem k15:((Rows.matrixPositiveIsRow.mapsOut == prog.mapsAmong f8.resultTypes.toList))=true:=by kernel_rfl
theorem k16:((Rows.matrixPositiveIsRow.loops == (f8.params.toList++Rows.matrixPositiveIsSpec.plain.varTypes prog).any (prog.loopsFrom ·)))=true:=by kernel_rfl
theorem k17:((Rows.matrixPositiveIsRow.wideKeys == (f8.params.toList++Rows.matrixPositiveIsSpec.plain.varTypes prog++f8.resultTypes.toList).any (prog.wideKeysFrom ·)))=true:=by kernel_rfl
theorem k18:(Rows.matrixPositiveIsSpec.vars.all (prog.varReadable ·))=true:=by kernel_rfl
theorem k19:(f8.resultTypes.all (fun t=>prog.readableRec t&&decide (t<prog.types.size)))=true:=by kernel_rfl
theorem k20:((Rows.matrixPositiveIsRow.ifacesOut == f8.resultTypes.toList.any (prog.ifacesRec ·)))=true:=by kernel_rfl
theorem k21:((Rows.matrixPositiveIsRow.loopsOut == f8.resultTypes.toList.any (prog.loopsFrom ·)))=true:=by kernel_rfl
theorem k22:((Rows.matrixPositiveIsRow.plainKeys == prog.plainKeys))=true:=by kernel_rfl
theorem k23:(Rows.matrixPositiveIsRow.shortTexts.isNone)=true:=by kernel_rfl
theorem k24:(prog.stopsHeard)=true:=by kernel_rfl
theorem k25:(prog.mayEnter)=true:=by kernel_rfl
theorem k26:((Rows.matrixPositiveIsRow.lifted == prog.liftsFinal))=true:=by kernel_rfl
theorem k27:((prog.make == some Rows.matrixPositiveIsRow.make))=true:=by kernel_rfl
theorem k28:((Rows.matrixPositiveIsRow.kinds == (if Rows.matrixPositiveIsRow.domain.isEmpty then [] else f8.params.toList.map fun t=>match prog.underlying t with|some (.int k)=>some k|_=>none)))=true:=by kernel_rfl
theorem k29:((Rows.matrixPositiveIsRow.pinned == Rows.matrixPositiveIsRow.pinnedBy))=true:=by kernel_rfl
theorem k30:((Rows.matrixPositiveIsRow.veiled == (f8.params.toList++Rows.matrixPositiveIsSpec.plain.varTypes prog++f8.resultTypes.toList).any (prog.veiledRec ·)))=true:=by kernel_rfl
theorem k31:(Rows.matrixPositiveIsRow.veiledFits prog f8.params.toList (f8.params.toList++Rows.matrixPositiveIsSpec.plain.varTypes prog++f8.resultTypes.toList))=true:=by kernel_rfl
theorem mU {a b:Bool}(h:a=true)(h2:b=true):(a&&b)=true:=by rw[h,h2];rfl
theorem closed:joinedFacts prog 8 f8 Rows.matrixPositiveIsSpec Rows.matrixPositiveIsRow=true:=by
 delta joinedFacts
 exact mU (mU (mU (mU (mU (mU (mU (mU (mU (mU (mU (mU (mU (mU (mU (mU (mU (mU (mU (mU (mU (mU (mU (mU (mU (mU (mU (mU (mU (mU (mU k0 k1) k2) k3) k4) k5) k6) k7) k8) k9) k10) k11) k12) k13) k14) k15) k16) k17) k18) k19) k20) k21) k22) k23) k24) k25) k26) k27) k28) k29) k30) k31
end matrixPositive
end
end
end Go.Proofs.YtgfcnncojhkcoaaGreat
