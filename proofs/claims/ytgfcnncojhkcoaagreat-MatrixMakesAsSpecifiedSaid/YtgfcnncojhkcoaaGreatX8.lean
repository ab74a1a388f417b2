/-
  Lemmas, part 8. Conditions: none.
-/
import Derived.Test.YtgfcnncojhkcoaaGreatX7
import Derived.Test.YtgfcnncojhkcoaaGreatRows
import Derived.ProofKit
import Derived.OpenShut
import Derived.ChangeSame
import Derived.Deep.Slices
import Derived.JoinedCond
import Derived.SizedLaws
import Derived.Deep.CondSized
set_option linter.all false
set_option maxRecDepth 100000
set_option maxHeartbeats 40000000
namespace Go.Proofs.YtgfcnncojhkcoaaGreat
open Go.RowKit Go.IntKind Tryz Go.Proofs.Tryz
noncomputable section
section
abbrev fnd(p:ap×Int):bp:=⟨p.1,p.2⟩
theorem wix {i c k:Nat}(h:i*c+k≤1000000:=by omega):i64.wrap (i64.wrap ((i:Int)*(c:Int))+(k:Int))=((i*c+k:Nat):Int):=by
 rw[e_mul]
 generalize i*c=p at*
 rw[w64 (n:=(p:Int)),w64];omega
theorem wim {i c:Nat}(h:i*c≤1000000:=by omega):i64.wrap ((i:Int)*(c:Int))=((i*c:Nat):Int):=by
 rw[e_mul]
 generalize i*c=p at*
 rw[w64]
theorem BQ {r c i j pos:Nat}{g g':Nat→Nat→Nu}{x:Nu}(hi:i<r)(hj:j<c)(hp:pos=i*c+j)(h:∀a b,a<r→b<c→(if a=i∧b=j then x else g a b)=g' a b):((mkM r c g).map nv).set pos (nv x)=(mkM r c g').map nv:=by
 rw[←List.map_set,hp,mkM_set hi hj,n6 h]
def ut(c t:Nat)(f:Nat→Nat→Nu)(i j:Nat):Nu:=if i*c+j<t then f i j else nOf 0
theorem zH {r c i j:Nat}{f:Nat→Nat→Nu}(hi:i<r)(hj:j<c):((mkM r c (ut c (i*c+j) f)).map nv).set (i*c+j) (nv (f i j))=(mkM r c (ut c (i*c+j+1) f)).map nv:=by
 refine BQ hi hj rfl fun a b ha hb=>?_
 unfold ut
 by_cases h:a=i∧b=j
 ·obtain⟨rfl,rfl⟩:=h
  rw[aQ ⟨rfl,rfl⟩,ifp_]
 ·rw[aV h]
  have:a*c+b≠i*c+j:=fun e=>h (Ex hb hj e)
  by_cases h2:a*c+b<i*c+j
  ·rw[aQ h2,ifp_]
  ·rw[aV h2,ifn_]
theorem Jj {r c:Nat}{f:Nat→Nat→Nu}:mkM r c (fun _ _=>nOf 0)=mkM r c (ut c 0 f):=n6 fun a b _ _=>by unfold ut;rw[ifn_]
theorem BU {r c:Nat}{f:Nat→Nat→Nu}:mkM r c (ut c (r*c) f)=mkM r c f:=n6 fun a b ha hb=>by unfold ut;rw[aQ (cK ha hb)]
section
variable {A B V:List Nu} {R C R' C':Int}
theorem Qs(h:V.length≤1000000):mR (V.map nv)=some (V.all cM):=by
 unfold mR
 rw[Jq (b:=lG (V.map nv)) (n:=V.length) h (fun i=>cM V[i]!) (fun i hi=>by
  unfold lG
  rw[bH,bF _ _,aI,bh,uw hi,tGood]
  rfl) (by
  unfold lG
  rw[bH,bA _ _])]
 rw[LF V cM]
 cases V.all cM <;> rfl
theorem GK(h:V.length≤1000000):jD (mS R C V)=some (aX R C V):=by
 rw[←wo h]
 unfold jD eu
 dsimp only
 rw[Qs h,rP h]
theorem qd(h:V.length≤1000000):bY (mS R C V)=some (decide (aX R C V=0)):=by
 unfold bY
 rw[GK h];rfl
theorem Qu(h:V.length≤1000000):mT R C (V.map nv)=some (fnd (B0 R C V)):=by
 unfold mT B0
 rw[pB,bH,aI,GK h]
 simp only[ab]
 by_cases h0:aX R C V=0
 ·rw[bA _ _ (by simpa using h0),aQ h0]
 ·rw[bF _ _ h0,aV h0]
theorem Qv(h:V.length≤1000000):mA (V.map nv)=some (PO V):=by
 unfold mA PO
 rw[bH,Qu h];rfl
theorem wn(h:V.length≤1000000){r c:Nat}:fK (mS r c V)=some (fnd (iQ r c V)):=by
 unfold fK iQ
 rw[Qs h]
 simp only[ab]
 cases V.all cM <;> rfl
theorem GJ {r c:Nat}(hr:r≤400)(hc:c≤400):bf (fY (r:Int) (c:Int)) ((0:Int),([]:List aj))=some ((mkM r c fun _ _=>nOf 0).map nv):=by
 have H3:r*c≤400*400:=iS hr hc
 rw[Od]
 have:=qP (b:=fY (r:Int) (c:Int)) (C:=r*c) (by omega) (fun _=>nOf 0) [] (by simp;omega) (fun k hk l=>?_) (fun l=>?_)
 ·rw[pB,List.map_const',Gv] at this
  exact this
 ·unfold fY
  dsimp only
  rw[wim,bF _ _,tOf];rfl
 ·unfold fY
  dsimp only
  rw[wim,bA _ _]
theorem Dj {r c:Nat}(hr:r≤400)(hc:c≤400):ib (r:Int) (c:Int)=some (mS r c (mkM r c fun _ _=>nOf 0)):=by
 unfold ib
 rw[GJ hr hc];rfl
theorem vL {r c:Nat}(hr:r≤400)(hc:c≤400)(h0:0<r*c):et (r:Int) (c:Int)=some (mS r c (mkM r c fun _ _=>nOf 0)):=by
 unfold et
 rw[show mf=fY from rfl,GJ hr hc]
 simp only[ab]
 rw[aI (by rw[bH,br];exact h0)]
theorem tz {r c:Nat}(hr:r≤400)(hc:c≤400)(h0:r*c=0):et (r:Int) (c:Int)=none:=by
 unfold et
 rw[show mf=fY from rfl,GJ hr hc]
 simp only[ab]
 exact aV (by rw[bH,br];omega)
theorem mk0 {α:Type}{r c:Nat}{f g:Nat→Nat→α}(h0:r*c=0):mkM r c f=mkM r c g:=by
 rw[kL (l:=mkM r c f) (by rw[br];exact h0),kL (l:=mkM r c g) (by rw[br];exact h0)]
theorem KH {n:Int}:mU n=some (idP n):=by
 unfold mU kZ lf idP
 simp only[kOr,ab]
 by_cases h:n<0∨200<n
 ·have:(decide (n<0)||decide (200<n))=true:=by simpa using h
  rw[this,aQ h];rfl
 ·have:(decide (n<0)||decide (200<n))=false:=by simpa using h
  rw[this,aV h,kF,kF]
  obtain⟨m,rfl⟩:∃m:Nat,n=m:=⟨n.toNat,by omega⟩
  rw[bh]
  rcases kN m with h0|h0
  ·subst h0
   rw[tz (by decide) (by decide) rfl,Dj (by decide) (by decide)]
   show orO none _=_
   simp only[ab]
   rw[eF (x:=()) (by unfold lc;rw[bA _ _ (by decide)])]
   rfl
  ·rw[vL (by omega) (by omega) (sr h0 h0)]
   simp only[ab]
   have hmm:m*m≤200*200:=iS (by omega) (by omega)
   have key:=eK (b:=fO (m:Int) (mS m m (mkM m m fun _ _=>nOf 0))) (fun t=>((t:Int),(mkM m m fun a b=>if a=b∧a<t then nOf 1 else nOf 0).map nv)) 0 m ((mkM m m idF).map nv) (fH _) (fun t _ ht=>?_) ?_
   ·rw[show (mkM m m fun a b=>if a=b∧a<0 then nOf 1 else nOf 0)=mkM m m fun _ _=>nOf 0 from n6 fun a b _ _=>ifn_] at key
    rw[show (((0:Nat):Int))=0 from rfl] at key
    rw[key]
    simp only[ab]
    rw[aI (by simp[br])]
    rfl
   ·unfold fO
    dsimp only
    have h1:=cK ht ht
    rw[bF _ _,tOf,wix]
    simp only[ab]
    rw[aI ⟨by omega,by rw[bH,br];omega,by rw[bH,br];omega⟩,bh,w64]
    rw[BQ ht ht rfl (g':=fun a b=>if a=b∧a<t+1 then nOf 1 else nOf 0) (fun a b _ _=>?_)]
    ·rfl
    ·by_cases e:a=t∧b=t
     ·rw[aQ e,aQ ⟨by omega,by omega⟩]
     ·rw[aV e]
      by_cases e2:a=b∧a<t
      ·rw[aQ e2,aQ ⟨e2.1,by omega⟩]
      ·rw[aV e2,ifn_]
   ·unfold fO
    dsimp only
    rw[bA _ _]
    rw[show (mkM m m fun a b=>if a=b∧a<m then nOf 1 else nOf 0)=mkM m m idF from n6 fun a b ha _=>by unfold idF;by_cases e:a=b;rw[aQ ⟨e,ha⟩,aQ e];rw[aV (fun h=>e h.1),aV e]]
theorem Q_At(h:V.length≤1000000){i k:Int}:rB (mS R C V) i k=some (nv (atP R C V i k)):=by
 rw[←P_At h]
 unfold rB oa
 rw[qd h,nH h]
 simp only[ab,kOr]
 cases hb:(!decide (aX R C V=0)||(decide (i<0)||(decide (R≤i)||(decide (k<0)||decide (C≤k))))) with
 |true=>rw[kT,kT,tBad,uBad]
 |false=>
  rw[kF,kF]
  unfold cC
  dsimp only
  unfold gd
  split <;> rfl
theorem Q_Add(hA:A.length≤1000000)(hB:B.length≤1000000):sh (mS R C A) (mS R' C' B)=some (fnd (MR R C A R' C' B)):=by
 unfold sh p9 qa MR
 rw[qd hA,qd hB]
 simp only[ab,kOr]
 by_cases h0:aX R C A=0∧aX R' C' B=0∧R=R'∧C=C'
 ·rw[aQ h0]
  obtain⟨h1,h2,rfl,rfl⟩:=h0
  obtain⟨r,c,rfl,rfl,hm⟩:=cX.1 h1
  obtain⟨r',c',hr,hc,tU⟩:=cX.1 h2
  obtain rfl:r=r':=by omega
  obtain rfl:c=c':=by omega
  rw[h1,h2]
  have H3:=hm.rc
  have h3:=hm.r
  have h4:=hm.c
  have e:(!decide ((0:Int)=0)||(!decide ((0:Int)=0)||(decide ((r:Int)≠r)||decide ((c:Int)≠c))))=false:=by simp
  rw[e,kF,kF]
  simp only[bh]
  rcases kN (r*c) with hz|hz
  ·rw[tz (by omega) (by omega) hz,Dj (by omega) (by omega)]
   show orO none _=_
   simp only[ab]
   rw[eF (x:=()) (by unfold oM;rw[bA _ _ (by rw[bH,br];omega)])]
   simp only[ab]
   rw[wn (by rw[br];omega),mk0 (g:=MS c A B) hz];rfl
  ·rw[vL (by omega) (by omega) hz]
   simp only[ab]
   have key:=eK (b:=jf (mS r c A) (mS r c B) (mS r c (mkM r c fun _ _=>nOf 0))) (fun t=>((t:Int),(mkM r c (ut c t (MS c A B))).map nv)) 0 (r*c) ((mkM r c (MS c A B)).map nv) (fH _) (fun t _ ht=>?_) ?_
   ·rw[←Jj] at key
    rw[show (((0:Nat):Int))=0 from rfl] at key
    rw[key]
    simp only[ab]
    rw[aI (by simp[br]),wn (by rw[br];omega)]
    rfl
   ·unfold jf
    dsimp only
    have la:=hm.len
    have lb:=tU.len
    rw[bF _ _ (by rw[bH,br];omega),aI ⟨by omega,by rw[bH];omega⟩,aI ⟨by omega,by rw[bH];omega⟩,bh,uw,uw,tAdd]
    simp only[ab]
    rw[aI ⟨by omega,by rw[bH,br];omega,by rw[bH,br];omega⟩,w64]
    obtain⟨i,j,hi,hj,rfl⟩:=sY ht
    rw[show Jn A[i*c+j]! B[i*c+j]! =MS c A B i j from rfl,zH hi hj]
    rfl
   ·unfold jf
    dsimp only
    rw[bA _ _ (by rw[bH,br];omega),BU]
 ·rw[aV h0]
  have e:(!decide (aX R C A=0)||(!decide (aX R' C' B=0)||(decide (R≠R')||decide (C≠C'))))=true:=by
   by_cases a:aX R C A=0
   ·by_cases b:aX R' C' B=0
    ·by_cases c:R=R'
     ·by_cases d:C=C'
      ·exact absurd ⟨a,b,c,d⟩ h0
      ·simp[d]
     ·simp[c]
    ·simp[b]
   ·simp[a]
  rw[e,kT];rfl
theorem Q_Scale(hA:A.length≤1000000){x:Nu}:p6 (mS R C A) (nv x)=some (fnd (zC R C A x)):=by
 unfold p6 nK nL zC
 rw[qd hA]
 simp only[ab,tGood,kOr]
 by_cases h0:aX R C A=0∧cM x=true
 ·rw[aQ h0]
  obtain⟨h1,h2⟩:=h0
  obtain⟨r,c,rfl,rfl,hm⟩:=cX.1 h1
  rw[h1,h2]
  have H3:=hm.rc
  have h3:=hm.r
  have h4:=hm.c
  have e:(!decide ((0:Int)=0)||!true)=false:=by simp
  rw[e,kF,kF]
  simp only[bh]
  rcases kN (r*c) with hz|hz
  ·rw[tz (by omega) (by omega) hz,Dj (by omega) (by omega)]
   show orO none _=_
   simp only[ab]
   rw[eF (x:=()) (by unfold ni;rw[bA _ _ (by rw[bH,br];omega)])]
   simp only[ab]
   rw[wn (by rw[br];omega),mk0 (g:=zD c A x) hz];rfl
  ·rw[vL (by omega) (by omega) hz]
   simp only[ab]
   have key:=eK (b:=gU (mS r c A) (nv x) (mS r c (mkM r c fun _ _=>nOf 0))) (fun t=>((t:Int),(mkM r c (ut c t (zD c A x))).map nv)) 0 (r*c) ((mkM r c (zD c A x)).map nv) (fH _) (fun t _ ht=>?_) ?_
   ·rw[←Jj] at key
    rw[show (((0:Nat):Int))=0 from rfl] at key
    rw[key]
    simp only[ab]
    rw[aI (by simp[br]),wn (by rw[br];omega)]
    rfl
   ·unfold gU
    dsimp only
    have la:=hm.len
    rw[bF _ _ (by rw[bH,br];omega),aI ⟨by omega,by rw[bH];omega⟩,bh,uw,tMul]
    simp only[ab]
    rw[aI ⟨by omega,by rw[bH,br];omega,by rw[bH,br];omega⟩,w64]
    obtain⟨i,j,hi,hj,rfl⟩:=sY ht
    rw[show uG A[i*c+j]! x=zD c A x i j from rfl,zH hi hj]
    rfl
   ·unfold gU
    dsimp only
    rw[bA _ _ (by rw[bH,br];omega),BU]
 ·rw[aV h0]
  have e:(!decide (aX R C A=0)||!cM x)=true:=by
   by_cases a:aX R C A=0
   ·by_cases b:cM x=true
    ·exact absurd ⟨a,b⟩ h0
    ·simp[b]
   ·simp[a]
  rw[e,kT];rfl
end
end
section
section
variable {A B V:List Nu} {R C R' C':Int}
theorem Q_dot {r c c':Nat}(hm:MV r c A)(tU:MV c c' B){i k:Nat}(hi:i<r)(hk:k<c'):n9 (mS r c A) (i:Int) (mS c c' B) (k:Int)=some (nv (BX c c' A B i k)):=by
 have h1:=hm.rc
 have h2:=tU.rc
 have h3:=hm.c
 have la:=hm.len
 have lb:=tU.len
 unfold n9 BX
 dsimp only
 by_cases h0:c=0
 ·rw[bF _ _,aQ h0,tOf];rfl
 ·rw[bA _ _,aV h0]
  have a0:=cK hi (show 0<c by omega)
  have b0:=cK (show 0<c by omega) hk
  rw[mi] at a0
  rw[gb,dA] at b0
  rw[wim,bH,bH,aI,aI,bh,bh,uw,uw,tMul]
  simp only[ab]
  have:=eK (b:=lH (mS r c A) (i:Int) (mS c c' B) (k:Int)) (fun j=>((j:Int),nv (In c c' A B i k (j - 1)))) 1 c (nv (In c c' A B i k (c - 1))) (by omega) (fun j O0 GW=>?_) ?_
  ·rw[show (((1:Nat):Int),nv (In c c' A B i k (1 - 1)))=((1:Int),nv (uG A[i*c]! B[k]!)) from rfl] at this
   rw[this];rfl
  ·unfold lH
   dsimp only
   have a1:=cK hi GW
   have b1:=cK GW hk
   rw[bF _ _,wix,wix,bH,bH,aI,aI,bh,bh,uw,uw,tMul]
   simp only[ab,tAdd]
   rw[w64]
   obtain⟨m,rfl⟩:∃m,j=m+1:=⟨j - 1,by omega⟩
   rfl
  ·unfold lH
   dsimp only
   rw[bA _ _]
theorem Q_Mul(hA:A.length≤1000000)(hB:B.length≤1000000):sf (mS R C A) (mS R' C' B)=some (fnd (Mi R C A R' C' B)):=by
 unfold sf p7 p8 Mi
 rw[qd hA,qd hB]
 simp only[ab,kOr]
 by_cases h0:aX R C A=0∧aX R' C' B=0∧C=R'
 ·rw[aQ h0]
  obtain⟨h1,h2,rfl⟩:=h0
  obtain⟨r,c,rfl,rfl,hm⟩:=cX.1 h1
  obtain⟨r',c',hr,rfl,tU⟩:=cX.1 h2
  obtain rfl:c=r':=by omega
  rw[h1,h2]
  have h3:=hm.r
  have h4:=tU.c
  have H3:r*c'≤200*200:=iS h3 h4
  have e:(!decide ((0:Int)=0)||(!decide ((0:Int)=0)||decide ((c:Int)≠c)))=false:=by simp
  rw[e,kF,kF]
  simp only[bh]
  rcases kN (r*c') with hz|hz
  ·rw[tz (by omega) (by omega) hz,Dj (by omega) (by omega)]
   show orO none _=_
   simp only[ab]
   have key:=eK (b:=je (mS r c A) (mS c c' B) (mS r c' (mkM r c' fun _ _=>nOf 0))) (fun i=>(i:Int)) 0 r () (fH _) (fun i _ hi=>?_) ?_
   ·rw[show (((0:Nat):Int))=0 from rfl] at key
    rw[key]
    simp only[ab]
    rw[wn (by rw[br];omega),mk0 (g:=BX c c' A B) hz];rfl
   ·unfold je
    dsimp only
    have hc0:c'=0:=by
     rcases Nat.mul_eq_zero.1 hz with h|h
     ·omega
     ·exact h
    rw[bF _ _,eF (x:=()) (by unfold oL;rw[bA _ _ (show ¬(0:Int)<(c':Int) by omega)])]
    simp only[ab]
    rw[w64];rfl
   ·unfold je
    dsimp only
    rw[bA _ _]
  ·rw[vL (by omega) (by omega) hz]
   simp only[ab]
   have key:=eK (b:=jd (mS r c A) (mS c c' B) (mS r c' (mkM r c' fun _ _=>nOf 0))) (fun i=>((i:Int),(mkM r c' (ut c' (i*c') (BX c c' A B))).map nv)) 0 r ((mkM r c' (BX c c' A B)).map nv) (fH _) (fun i _ hi=>?_) ?_
   ·rw[gb,←Jj] at key
    rw[show (((0:Nat):Int))=0 from rfl] at key
    rw[key]
    simp only[ab]
    rw[aI (by simp[br]),wn (by rw[br];omega)]
    rfl
   ·unfold jd
    dsimp only
    rw[bF _ _]
    have inner:=eK (b:=jc (mS r c A) (mS c c' B) (mS r c' (mkM r c' fun _ _=>nOf 0)) (i:Int)) (fun k=>((k:Int),(mkM r c' (ut c' (i*c'+k) (BX c c' A B))).map nv)) 0 c' ((mkM r c' (ut c' (i*c'+c') (BX c c' A B))).map nv) (fH _) (fun k _ hk=>?_) ?_
    ·rw[mi,show (((0:Nat):Int))=0 from rfl] at inner
     rw[inner]
     simp only[ab]
     rw[w64,←qu];rfl
    ·unfold jc
     dsimp only
     have h5:=cK hi hk
     rw[bF _ _,Q_dot hm tU hi hk]
     simp only[ab]
     rw[wix,aI ⟨by omega,by rw[bH,br];omega,by rw[bH,br];omega⟩,bh,zH hi hk,w64]
     rfl
    ·unfold jc
     dsimp only
     rw[bA _ _]
   ·unfold jd
    dsimp only
    rw[bA _ _,BU]
 ·rw[aV h0]
  have e:(!decide (aX R C A=0)||(!decide (aX R' C' B=0)||decide (C≠R')))=true:=by
   by_cases a:aX R C A=0
   ·by_cases b:aX R' C' B=0
    ·by_cases c:C=R'
     ·exact absurd ⟨a,b,c⟩ h0
     ·simp[c]
    ·simp[b]
   ·simp[a]
  rw[e,kT];rfl
theorem MV.gd {r c:Nat}(hm:MV r c A){t:Nat}(h:t<r*c):cM A[t]! =true:=good_at hm.good (by rw[hm.len];exact h)
theorem tran_ok {r c:Nat}(hm:MV r c A):iQ c r (mkM c r (ri c A))=(mS c r (mkM c r (ri c A)),0):=tP fun i k hi hk=>hm.gd (cK hk hi)
def wN(i k:Nat)(f:Nat→Nat→Nu)(a b:Nat):Nu:=if b<i∨(b=i∧a<k) then f a b else nOf 0
theorem IG(hA:A.length≤1000000):mg (mS R C A)=some (fnd (Er R C A)):=by
 unfold mg jK jL Er
 rw[qd hA]
 simp only[ab]
 by_cases h1:aX R C A=0
 ·rw[aQ h1]
  obtain⟨r,c,rfl,rfl,hm⟩:=cX.1 h1
  rw[h1]
  have la:=hm.len
  have H3:=hm.rc
  have h3:=hm.r
  have h4:=hm.c
  have hcr:c*r≤200*200:=iS h4 h3
  have e:(!decide ((0:Int)=0))=false:=by simp
  rw[e,kF,kF]
  simp only[bh]
  rw[tran_ok hm]
  rcases kN (c*r) with hz|hz
  ·rw[tz (by omega) (by omega) hz,Dj (by omega) (by omega)]
   show orO none _=_
   simp only[ab]
   have key:=eK (b:=fB (mS r c A) (mS c r (mkM c r fun _ _=>nOf 0))) (fun i=>(i:Int)) 0 r () (fH _) (fun i _ hi=>?_) ?_
   ·rw[show (((0:Nat):Int))=0 from rfl] at key
    rw[key]
    simp only[ab]
    rw[mk0 (g:=ri c A) hz];rfl
   ·unfold fB
    dsimp only
    have hc0:c=0:=by
     rcases Nat.mul_eq_zero.1 hz with h|h
     ·exact h
     ·omega
    rw[bF _ _,eF (x:=()) (by unfold jZ;rw[bA _ _ (show ¬(0:Int)<(c:Int) by omega)])]
    simp only[ab]
    rw[w64];rfl
   ·unfold fB
    dsimp only
    rw[bA _ _]
  ·rw[vL (by omega) (by omega) hz]
   simp only[ab]
   have key:=eK (b:=fy (mS r c A) (mS c r (mkM c r fun _ _=>nOf 0))) (fun i=>((i:Int),(mkM c r (wN i 0 (ri c A))).map nv)) 0 r ((mkM c r (ri c A)).map nv) (fH _) (fun i _ hi=>?_) ?_
   ·rw[show mkM c r (wN 0 0 (ri c A))=mkM c r fun _ _=>nOf 0 from n6 fun a b _ _=>ifn_] at key
    rw[show (((0:Nat):Int))=0 from rfl] at key
    rw[key]
    simp only[ab]
    rw[aI (by simp[br])]
    rfl
   ·unfold fy
    dsimp only
    rw[bF _ _]
    have inner:=eK (b:=fx (mS r c A) (mS c r (mkM c r fun _ _=>nOf 0)) (i:Int)) (fun k=>((k:Int),(mkM c r (wN i k (ri c A))).map nv)) 0 c ((mkM c r (wN i c (ri c A))).map nv) (fH _) (fun k _ hk=>?_) ?_
    ·rw[show (((0:Nat):Int))=0 from rfl] at inner
     rw[inner]
     simp only[ab]
     have hpt:mkM c r (wN i c (ri c A))=mkM c r (wN (i+1) 0 (ri c A)):=by
      refine n6 fun a b ha hb=>?_
      unfold wN
      by_cases h:b<i∨(b=i∧a<c)
      ·rw[aQ h,ifp_]
      ·rw[aV h,ifn_]
     rw[w64,hpt];rfl
    ·unfold fx
     dsimp only
     have h5:=cK hi hk
     have h6:=cK hk hi
     rw[bF _ _,wix,wix,aI ⟨by omega,by rw[bH];omega⟩,aI ⟨by omega,by rw[bH,br];omega,by rw[bH,br];omega⟩,bh,bh,uw,w64]
     simp only[ab]
     rw[BQ hk hi rfl (g':=wN i (k+1) (ri c A)) (fun a b ha hb=>?_)]
     ·rfl
     ·unfold wN
      by_cases h:a=k∧b=i
      ·obtain⟨rfl,rfl⟩:=h
       rw[aQ ⟨rfl,rfl⟩,ifp_];rfl
      ·rw[aV h]
       by_cases h2:b<i∨(b=i∧a<k)
       ·rw[aQ h2,ifp_]
       ·rw[aV h2,ifn_]
    ·unfold fx
     dsimp only
     rw[bA _ _]
   ·unfold fy
    dsimp only
    rw[bA _ _,show mkM c r (wN r 0 (ri c A))=mkM c r (ri c A) from n6 fun a b _ hb=>aQ (.inl hb)]
 ·rw[aV h1]
  have e:(!decide (aX R C A=0))=true:=by simp[h1]
  rw[e,kT];rfl
theorem P3 {r c c':Nat}(hm:MV r c A)(tU:MV r c' B):iQ r (c+c') (mkM r (c+c') (uL c c' A B))=(mS r ((c+c':Nat):Int) (mkM r (c+c') (uL c c' A B)),0):=tP fun i k hi hk=>by
 unfold uL
 split
 ·rename_i h;exact hm.gd (cK hi h)
 ·exact tU.gd (cK hi (by omega))
theorem rowE {r c:Nat}(hA:A.length=r*c){i:Nat}(hi:i<r):(A.drop (i*c)).take c=(List.range c).map fun k=>A[i*c+k]! :=by
 conv=>lhs;rw[mkM_of hA]
 exact mkM_row hi
theorem bes_row {r c c':Nat}(hA:A.length=r*c)(hB:B.length=r*c'){i:Nat}(hi:i<r):(List.range (c+c')).map (uL c c' A B i)=(A.drop (i*c)).take c++(B.drop (i*c')).take c':=by
 rw[rowE hA hi,rowE hB hi,List.range_add,nd,nl]
 congr 1
 ·exact oY fun k hk=>aQ (AO.1 hk)
 ·refine oY fun k hk=>?_
  show uL c c' A B i (c+k)=_
  unfold uL
  rw[ifn_,C2]
theorem Qw(hA:A.length≤1000000)(hB:B.length≤1000000):mB (mS R C A) (mS R' C' B)=some (fnd (Eg R C A R' C' B)):=by
 unfold mB Eg
 rw[qd hA,qd hB]
 simp only[ab,kOr]
 by_cases h0:aX R C A=0∧aX R' C' B=0∧R=R'
 ·rw[aQ h0]
  obtain⟨h1,h2,rfl⟩:=h0
  obtain⟨r,c,rfl,rfl,hm⟩:=cX.1 h1
  obtain⟨r',c',hr,rfl,tU⟩:=cX.1 h2
  obtain rfl:r=r':=by omega
  rw[h1,h2]
  have h3:=hm.r
  have h4:=hm.c
  have h5:=tU.c
  have h6:=hm.rc
  have h7:=tU.rc
  have la:=hm.len
  have lb:=tU.len
  have e:(!decide ((0:Int)=0)||(!decide ((0:Int)=0)||decide ((r:Int)≠r)))=false:=by simp
  rw[e,kF,w64]
  by_cases hc:(200:Int)<(c:Int)+c'
  ·rw[bF _ _ hc,aQ hc]
  ·rw[bA _ _ hc,aV hc,show ((c:Int)+(c':Int))=((c+c':Nat):Int) by omega]
   simp only[bh]
   rw[P3 hm tU]
   have hrcc:r*(c+c')≤200*200:=iS h3 (by omega)
   have key:=eK (b:=iy (mS r c A) (mS r c' B)) (fun i=>((i:Int),(mkM i (c+c') (uL c c' A B)).map nv)) 0 r ((mkM r (c+c') (uL c c' A B)).map nv) (fH _) (fun i _ hi=>?_) ?_
   ·rw[show (((0:Nat):Int),(mkM 0 (c+c') (uL c c' A B)).map nv)=((0:Int),([]:List aj)) from rfl] at key
    rw[key];rfl
   ·unfold iy
    dsimp only
    have a1:(i+1)*c≤r*c:=c6 _ hi
    have b1:(i+1)*c'≤r*c':=c6 _ hi
    have a2:(i+1)*c=i*c+c:=qu ..
    have b2:(i+1)*c'=i*c'+c':=qu ..
    have a3:(i+1)*(c+c')≤r*(c+c'):=c6 _ hi
    have a4:(i+1)*(c+c')=i*(c+c')+(c+c'):=qu ..
    have w1:i64.wrap ((i:Int)+(1:Int))=((i+1:Nat):Int):=w64
    rw[bF _ _,w1,wim,wim,wim,wim,bH,bH]
    have sA:rR (A.map nv) ((i*c:Nat):Int) (((i+1)*c:Nat):Int)=((A.drop (i*c)).take c).map nv:=by
     unfold rR
     rw[bh,show ((((i+1)*c:Nat):Int) - ((i*c:Nat):Int)).toNat=c by rw[a2];omega,←vn,←ub]
    have sB:rR (B.map nv) ((i*c':Nat):Int) (((i+1)*c':Nat):Int)=((B.drop (i*c')).take c').map nv:=by
     unfold rR
     rw[bh,show ((((i+1)*c':Nat):Int) - ((i*c':Nat):Int)).toNat=c' by rw[b2];omega,←vn,←ub]
    rw[sA,sB,←nd,←nd]
    have l1:((A.drop (i*c)).take c).length≤c:=by rw[ff];omega
    have l2:((B.drop (i*c')).take c').length≤c':=by rw[ff];omega
    have l3:(mkM i (c+c') (uL c c' A B)).length=i*(c+c'):=br
    rw[aI,aI (by rw[bH,fg];omega),aI,aI (by rw[bH,fg,fg];omega)]
    rw[gr,←bes_row la lb hi,←yp]
   ·unfold iy
    dsimp only
    rw[bA _ _]
 ·rw[aV h0]
  have e:(!decide (aX R C A=0)||(!decide (aX R' C' B=0)||decide (R≠R')))=true:=by
   by_cases a:aX R C A=0
   ·by_cases b:aX R' C' B=0
    ·by_cases c:R=R'
     ·exact absurd ⟨a,b,c⟩ h0
     ·simp[c]
    ·simp[b]
   ·simp[a]
  rw[e,kT]
end
end
def eV(bm:ee):(List Int)×Int→Option (((List Int)×Int)⊕((List Int))):=fun (aL,a6)=>cnd (decide (a6<((bm.vl).length:Int))) (gd (0≤a6∧a6<((bm.vl).length:Int)) (gd ((aL++[((bm.vl)[(a6).toNat]!).vcol]).length*8≤140737488355328) (some (.inl (aL++[((bm.vl)[(a6).toNat]!).vcol],i64.wrap (a6+(1:Int))))))) (some (.inr aL))
def cR(bm:ee):Option (List Int):=bnd (bf (eV bm) (([]:List Int),(0:Int))) fun aD=>some aD
theorem l6 {bm:ee}{r:List Int}(h:cR bm=some r):aB prog 64 [dG qZ bm] (.own 3 (cI .i64).sz r.length (r.flatMap (cI .i64).f)):=by
 refine bC (rs:=[.tmp 2]) (fun cx hx h0=>?_) func64
 unfold cR at h
 refine rs hx fun K hK=>?_
 refine s1 (d:=.pt 0 0) d8 ?_
 refine s1 (d:=dO 1 (cI .i64) ([]:List Int)) (eZ cz aT) ?_
 refine .nil (hK _ _ (rs hx fun K hK=>?_))
 refine s1 (d:=dO 2 (cI .i64) ([]:List Int)) (eZ cz aT) ?_
 refine .nil (hK _ _ (AW.seq (rs hx fun K hK=>?_)))
 refine sa ?_
 refine s1 (aG um) ?_
 iterate 2 refine sa ?_
 refine .nil (hK _ _ (AW.block ?_))
 obtain⟨aD,hy,h⟩:=ah h
 refine lp (S:=(List Int)×Int) (X:=(List Int)) (fun (aL,a6)=>[(3,dO 0 (cI .i64) aL),(7,dL cv bm.vl),(8,dI .i64 ((bm.vl).length:Int)),(9,dI .i64 a6)]) (fun (aL,a6)=>⟨[],[(0,(aL).length,1,3)],1⟩) (PE cx (.exit 0) (fun aD=>[(3,dO 0 (cI .i64) aD)]) fun aD=>⟨[],[(0,(aD).length,1,3)],1⟩) hy ?_ ?_ ?_
 exact wk h0 [2] (wR rfl (wR rfl (wR rfl (wR rfl wTn)))) wVn (wL rfl rfl wLn)
 clear hy h
 rintro⟨aL,a6⟩ y h
 dsimp only[eV] at h
 refine ra hx ?_
 refine AW.seq (cdh h rfl (fun cE h=>?_) (fun cE h=>?_))
 refine AW.skip (AW.seq (AW.block (rs hx fun K hK=>?_)))
 obtain⟨pg,h⟩:=az h
 have rz:(a6).toNat<(bm.vl).length:=by omega
 refine s1 (ej pg um jS) ?_
 refine s1 (d:=dG cv ((bm.vl)[(a6).toNat]!)) (jI (c:=cv) (l:=bm.vl) (n:=(a6).toNat) (o:=0) jS rz (eM _ _ rfl)) ?_
 refine s1 (bq (F:=cv.f (⟨(0:Int),cb,false⟩:nN)) jS) ?_
 refine s0 (aN (b':=(bm.vl)[(a6).toNat]!) (ao.id _ _) jS) ?_
 refine .nil (hK _ _ (rq hx fun K hK=>?_))
 iterate 2 refine sa ?_
 refine s1 (bg (DX ((bm.vl)[(a6).toNat]!)) aT) ?_
 refine s1 (d:=dO 2 (cI .i64) [((bm.vl)[(a6).toNat]!).vcol]) (iI cz aT) ?_
 obtain⟨Bv,h⟩:=az h
 refine s1 (d:=dO 0 (cI .i64) (aL++[((bm.vl)[(a6).toNat]!).vcol])) (gc cz aT Bv) ?_
 refine sa ?_
 refine .nil (hK _ _ (rb hx ?_))
 cases h
 exact PS.l (pe0 h0 [0])
 refine AW.exit ?_
 try dsimp only
 try simp only[aO,reduceIte,Nat.reduceEqDiff,reduceCtorEq]
 cases h
 exact PS.r ⟨by nofun,PE.i (wk h0 [0] (wR rfl wTn) wVn (wL rfl rfl wLn))⟩
 rintro ex tm' hp' ⟨rfl,hw⟩
 try dsimp only
 try simp only[aO,reduceIte,Nat.reduceEqDiff,reduceCtorEq]
 refine AW.weak hw (ra hx ?_)
 refine AW.ret ?_
 cases h
 exact dh.own rfl rfl
def i2(cQ:ap):Option (ap×(List Int)×Int):=bnd (b9 [cQ]) fun x1=>cnd (!x1) (some ((⟨(0:Int),(0:Int),([]:List aj)⟩:ap),([]:List Int),(1:Int))) (bnd (e9 cQ) fun x4=>cnd (decide (x4.2≠(0:Int))) (some ((⟨(0:Int),(0:Int),([]:List aj)⟩:ap),([]:List Int),x4.2)) (bnd (cR x4.1) fun x7=>some (x4.1.vm,x7,(0:Int))))
theorem uk {cQ:ap}{r:ap×(List Int)×Int}(h:i2 cQ=some r):aB prog 13 [dG aE cQ] (.tu [dG aE r.1,dL (cI .i64) r.2.1,dI .i64 r.2.2]):=by
 refine bC (rs:=[.cell 2 24,.tmp 3,.tmp 4]) (fun cx hx h0=>?_) func13
 unfold i2 at h
 refine rs hx fun K hK=>?_
 refine s1 (d:=.pt 0 0) d8 ?_
 refine s1 (d:=.pt 1 0) (bc aq) ?_
 refine s1 (d:=dO 2 (cI .i64) ([]:List Int)) (eZ cz aT) ?_
 refine sa ?_
 refine .nil (hK _ _ (AW.seq (rs hx fun K hK=>?_)))
 refine s1 (d:=dG aE cQ) (bb aq) ?_
 refine s1 (d:=dO 3 aE [cQ]) (iI pH aq) ?_
 refine scb h ep fun x1 h=>?_
 refine sa ?_
 refine .nil (hK _ _ (cdh h rfl (fun a8 h=>?_) (fun a8 h=>?_)))
 refine rs hx fun K hK=>?_
 refine s1 (d:=.ag [dI .i64 (0:Int),dI .i64 (0:Int),dN]) (bE aq) ?_
 refine s0 (bO (ds':=[dI .i64 (0:Int),dI .i64 (0:Int),dN]) aq) ?_
 refine s1 (d:=dO 4 (cI .i64) ([]:List Int)) (eZ cz aT) ?_
 refine sa ?_
 refine .nil (hK _ _ (AW.ret ?_))
 cases h
 exact dh.mk3 (bJ (es:=[dI .i64 (0:Int),dI .i64 (0:Int),dN]) rfl aq rfl rfl (ltb rfl) (leb rfl) rfl (ci rfl (ci rfl (.inr ⟨_,_,_,(eA (wc (co _) (wc (co _) (wc (nT rfl) wcn)))),(sd _),(al _),⟨rfl,rfl,rfl⟩,rfl⟩))))
 refine AW.skip (rs hx fun K hK=>?_)
 refine s1 (d:=dG aE cQ) (bb aq) ?_
 refine scb h nI fun x4 h=>?_
 iterate 3 refine sa ?_
 refine s1 (d:=.pt 4 0) (bc ly) ?_
 refine s0 (bO (ds':=[dI .i64 x4.1.vm.vR,dI .i64 x4.1.vm.vC,dL ae x4.1.vm.vV,dL cv x4.1.vl]) ly) ?_
 refine sa ?_
 refine .nil (hK _ _ (AW.seq (ra hx ?_)))
 refine cdh h rfl (fun bU h=>?_) (fun bU h=>?_)
 refine rs hx fun K hK=>?_
 refine s1 (d:=.ag [dI .i64 (0:Int),dI .i64 (0:Int),dN]) (bE aq) ?_
 refine sa ?_
 refine s0 (bO (ds':=[dI .i64 (0:Int),dI .i64 (0:Int),dN]) aq) ?_
 refine s1 (d:=dO 5 (cI .i64) ([]:List Int)) (eZ cz aT) ?_
 refine sa ?_
 refine .nil (hK _ _ (AW.ret ?_))
 cases h
 exact dh.mk3 (bJ (es:=[dI .i64 (0:Int),dI .i64 (0:Int),dN]) rfl aq rfl rfl (ltb rfl) (leb rfl) rfl (ci rfl (ci rfl (.inr ⟨_,_,_,(eA (wc (co _) (wc (co _) (wc (nT rfl) wcn)))),(sd _),(al _),⟨rfl,rfl,rfl⟩,rfl⟩))))
 refine AW.skip (rsd [] hx fun K hK=>?_)
 refine sa ?_
 refine s1 (d:=dG aE x4.1.vm) (bb aq) ?_
 refine s1 (d:=dG qZ x4.1) (bb ly) ?_
 obtain⟨x7,xn,h⟩:=ah h
 refine s1 (BA rfl (l6 xn) (by simp only[bN,cl,cF,cZ,ck,cr];exact aM _ _) (lA (al _) lAn)) ?_
 refine s0 (bO (ds':=[dI .i64 x4.1.vm.vR,dI .i64 x4.1.vm.vC,dL ae x4.1.vm.vV]) aq) ?_
 iterate 2 refine sa ?_
 refine .nil (hK _ _ (AW.ret ?_))
 cases h
 exact dh.mk3 (bJ (es:=(aE.f x4.1.vm).map .e) rfl aq rfl rfl (ltb rfl) (leb rfl) rfl (ci rfl (ci rfl (.inr ⟨_,_,_,(al _),(sd _),(al _),⟨rfl,rfl,rfl⟩,rfl⟩))))
def kj(x8:ee×Int):Int×Int→Option ((Int×Int)⊕Int):=fun (sv,rL)=>cnd (decide (rL<((x8.1.vl).length:Int))) (bnd (S:=Int) (gd (0≤rL∧rL<((x8.1.vl).length:Int)) (cnd (((x8.1.vl)[(rL).toNat]!).vmoved) (some (i64.wrap (0 - sv))) (some (sv)))) fun su=>some (.inl (su,i64.wrap (rL+(1:Int))))) (some (.inr sv))
def kg(x8:ee×Int):Int×aj→Option ((Int×aj)⊕aj):=fun (ss,C7)=>cnd (decide (ss<((x8.1.vl).length:Int))) (gd (0≤ss∧ss<((x8.1.vl).length:Int)) (bnd (eO C7 (((x8.1.vl)[(ss).toNat]!).vby)) fun uC=>some (.inl (i64.wrap (ss+(1:Int)),uC)))) (some (.inr C7))
def m4(cQ:ap):Option (aj×Int):=bnd (S:=Bool) (bnd (b9 [cQ]) fun x1=>cnd (!x1) (some (true)) (some (decide (cQ.vR≠cQ.vC)))) fun a7=>cnd a7 (bnd (some ((⟨(⟨false,false,(cw)⟩:ay),(⟨false,false,(cw)⟩:ay)⟩:aj))) fun x6=>some (x6,(1:Int))) (bnd (e9 cQ) fun x8=>cnd (decide (x8.2≠(0:Int))) (bnd (some ((⟨(⟨false,false,(cw)⟩:ay),(⟨false,false,(cw)⟩:ay)⟩:aj))) fun qx=>some (qx,x8.2)) (cnd (decide (((x8.1.vl).length:Int)<cQ.vR)) (bnd (fk (0:Int)) fun og=>some (og,(0:Int))) (bnd (bf (kj x8) ((1:Int),(0:Int))) fun yP=>bnd (fk yP) fun rQ=>bnd (bf (kg x8) ((0:Int),rQ)) fun qV=>bnd (cu qV) fun KP=>cnd (!KP) (bnd (some ((⟨(⟨false,false,(cw)⟩:ay),(⟨false,false,(cw)⟩:ay)⟩:aj))) fun ze=>some (ze,(30:Int))) (some (qV,(0:Int))))))
theorem yc {cQ:ap}{r:aj×Int}(h:m4 cQ=some r):aB prog 16 [dG aE cQ] (.tu [dG ae r.1,dI .i64 r.2]):=by
 refine bC (rs:=[.cell 2 34,.tmp 3]) (fun cx hx h0=>?_) func16
 unfold m4 at h
 refine rs hx fun K hK=>?_
 refine s1 (d:=.pt 0 0) d8 ?_
 refine s1 (bq (F:=ae.f cb) ax) ?_
 refine sa ?_
 refine .nil (hK _ _ ?_)
 iterate 2 refine AW.seq ?_
 obtain⟨a7,hy,h⟩:=ah h
 refine jn ((PE cx .normal (fun a7=>[(1,.pt 0 0),(2,.pt 1 0),(22,dB a7)]) fun a7=>⟨[(0,[dI .i64 cQ.vR,dI .i64 cQ.vC,dL ae cQ.vV]),(1,dC (ae.f cb))],[],2⟩) a7) ?_ ?_
 replace h:=hy
 refine rq hx fun K hK=>?_
 refine s1 (d:=dG aE cQ) (bb aq) ?_
 refine s1 (d:=dO 2 aE [cQ]) (iI pH aq) ?_
 refine scb h ep fun x1 h=>?_
 iterate 2 refine sa ?_
 rcases aW (!x1) with a8|a8
 replace h:=aY a8 h
 iterate 5 refine aJ rfl rfl a8 ?_
 refine s1 (am a8) ?_
 refine .nil (hK _ _ ?_)
 cases h
 exact pe0 h0 [0,1]
 replace h:=aZ a8 h
 refine ga a8 ?_
 refine g1 a8 (aG aT) ?_
 refine ga a8 ?_
 refine g1 a8 (aG aT) ?_
 refine ga a8 ?_
 refine s1 (au a8) ?_
 refine .nil (hK _ _ ?_)
 cases h
 exact pe0 h0 [0,1]
 rintro ex tm' hp' ⟨rfl,hw⟩
 refine AW.weak hw (cdh h rfl (fun iO h=>?_) (fun iO h=>?_))
 refine rs hx fun K hK=>?_
 refine s1 (d:=dG ae cb) (iH (FL.nil _) ax) ?_
 obtain⟨x6,td,h⟩:=ah h
 replace td:=cP td
 refine s0 (kD (b':=cb) (ao.id _ _) ax td) ?_
 refine sa ?_
 refine .nil (hK _ _ (AW.ret ?_))
 cases h
 exact rv2
 refine AW.skip (rs hx fun K hK=>?_)
 refine s1 (d:=dG aE cQ) (bb aq) ?_
 refine scb h nI fun x8 h=>?_
 iterate 3 refine sa ?_
 refine s1 (d:=.pt 2 0) (bc ly) ?_
 refine s0 (bO (ds':=[dI .i64 x8.1.vm.vR,dI .i64 x8.1.vm.vC,dL ae x8.1.vm.vV,dL cv x8.1.vl]) ly) ?_
 refine sa ?_
 refine .nil (hK _ _ (AW.seq (AW.block (ra hx ?_))))
 refine cdh h rfl (fun eH h=>?_) (fun eH h=>?_)
 refine rs hx fun K hK=>?_
 refine s1 (d:=dG ae cb) (iH (FL.nil _) ax) ?_
 refine sa ?_
 obtain⟨qx,FE,h⟩:=ah h
 replace FE:=cP FE
 refine s0 (kD (b':=cb) (ao.id _ _) ax FE) ?_
 refine sa ?_
 refine .nil (hK _ _ (AW.ret ?_))
 cases h
 exact rv2
 refine rs hx fun K hK=>?_
 refine sa ?_
 refine s1 (aG um) ?_
 iterate 2 refine sa ?_
 refine s1 (aG aT) ?_
 iterate 2 refine sa ?_
 refine .nil (hK _ _ (cdh h rfl (fun xu h=>?_) (fun xu h=>?_)))
 refine rs hx fun K hK=>?_
 refine scb h jA fun og h=>?_
 refine s0 (aN (b':=og) (ao.id _ _) ax) ?_
 refine sa ?_
 refine .nil (hK _ _ (AW.ret ?_))
 cases h
 exact rv2
 refine AW.skip (ra hx ?_)
 refine AW.seq (rs hx fun K hK=>?_)
 refine sa ?_
 refine s1 (aG um) ?_
 iterate 2 refine sa ?_
 refine .nil (hK _ _ (AW.block ?_))
 obtain⟨yP,hy,h⟩:=ah h
 refine lp (S:=Int×Int) (X:=Int) (fun (sv,rL)=>[(2,.pt 0 0),(4,.pt 1 0),(6,dI .i64 sv),(43,dL cv x8.1.vl),(44,dI .i64 ((x8.1.vl).length:Int)),(45,dI .i64 rL)]) (fun (sv,rL)=>⟨[(0,dC (ae.f cb)),(1,[dI .i64 x8.1.vm.vR,dI .i64 x8.1.vm.vC,dL ae x8.1.vm.vV,dL cv x8.1.vl])],[],2⟩) (PE cx (.exit 1) (fun yP=>[(2,.pt 0 0),(4,.pt 1 0),(6,dI .i64 yP)]) fun yP=>⟨[(0,dC (ae.f cb)),(1,[dI .i64 x8.1.vm.vR,dI .i64 x8.1.vm.vC,dL ae x8.1.vm.vV,dL cv x8.1.vl])],[],2⟩) hy ?_ ?_ ?_
 exact wk h0 [1,2] (wR rfl (wR rfl (wR rfl (wR rfl (wR rfl (wR rfl wTn)))))) (vC rfl (vR rfl wVn)) wLn
 clear hy h
 rintro⟨sv,rL⟩ y h
 dsimp only[kj] at h
 refine ra hx ?_
 refine AW.seq (cdh h rfl (fun FT h=>?_) (fun FT h=>?_))
 refine AW.skip (AW.seq ?_)
 obtain⟨su,hy,h⟩:=ah h
 refine jn ((PE cx .normal (fun su=>[(2,.pt 0 0),(4,.pt 1 0),(6,dI .i64 su),(43,dL cv x8.1.vl),(44,dI .i64 ((x8.1.vl).length:Int)),(45,dI .i64 rL)]) fun su=>⟨[(0,dC (ae.f cb)),(1,[dI .i64 x8.1.vm.vR,dI .i64 x8.1.vm.vC,dL ae x8.1.vm.vV,dL cv x8.1.vl])],[],2⟩) su) ?_ ?_
 replace h:=hy
 refine AW.block (rs hx fun K hK=>?_)
 obtain⟨hc17,h⟩:=az h
 have hn18:(rL).toNat<(x8.1.vl).length:=by omega
 refine s1 (ej hc17 um jS) ?_
 refine s1 (d:=dG cv ((x8.1.vl)[(rL).toNat]!)) (jI (c:=cv) (l:=x8.1.vl) (n:=(rL).toNat) (o:=0) jS hn18 (eM _ _ rfl)) ?_
 refine s1 (bq (F:=cv.f (⟨(0:Int),cb,false⟩:nN)) jS) ?_
 refine s0 (aN (b':=(x8.1.vl)[(rL).toNat]!) (ao.id _ _) jS) ?_
 refine .nil (hK _ _ (rs hx fun K hK=>?_))
 refine sa ?_
 refine s1 (bg (A4 ((x8.1.vl)[(rL).toNat]!)) fF) ?_
 refine .nil (hK _ _ (cdh h rfl (fun Co h=>?_) (fun Co h=>?_)))
 refine rb hx ?_
 cases h
 exact pe0 h0 [0,1]
 refine AW.skip ?_
 cases h
 exact pe0 h0 [0,1]
 rintro ex tm' hp' ⟨rfl,hw⟩
 refine AW.weak hw (rb hx ?_)
 cases h
 exact PS.l (pe0 h0 [0,1])
 refine AW.exit ?_
 try dsimp only
 try simp only[aO,reduceIte,Nat.reduceEqDiff,reduceCtorEq]
 cases h
 exact PS.r ⟨by nofun,PE.i (wk h0 [0,1] (wR rfl (wR rfl (wR rfl wTn))) (vC rfl (vR rfl wVn)) wLn)⟩
 rintro ex tm' hp' ⟨rfl,hw⟩
 try dsimp only
 try simp only[aO,reduceIte,Nat.reduceEqDiff,reduceCtorEq]
 refine AW.weak hw (rs hx fun K hK=>?_)
 refine sa ?_
 refine scb h jA fun rQ h=>?_
 refine s1 (bq (F:=ae.f cb) ax) ?_
 refine s0 (aN (b':=rQ) (ao.id _ _) ax) ?_
 refine .nil (hK _ _ (AW.seq (rs hx fun K hK=>?_)))
 refine sa ?_
 refine s1 (aG um) ?_
 iterate 2 refine sa ?_
 refine .nil (hK _ _ (AW.block ?_))
 obtain⟨qV,hy,h⟩:=ah h
 refine lp (S:=Int×aj) (X:=aj) (fun (ss,C7)=>[(2,.pt 0 0),(9,.pt 1 0),(57,dL cv x8.1.vl),(58,dI .i64 ((x8.1.vl).length:Int)),(59,dI .i64 ss)]) (fun (ss,C7)=>⟨[(0,dC (ae.f cb)),(1,dC (ae.f C7))],[],2⟩) (PE cx (.exit 3) (fun qV=>[(2,.pt 0 0),(9,.pt 1 0)]) fun qV=>⟨[(0,dC (ae.f cb)),(1,dC (ae.f qV))],[],2⟩) hy ?_ ?_ ?_
 exact wk h0 [0,2] (wR rfl (wR rfl (wR rfl (wR rfl (wR rfl wTn))))) (vC rfl (vC rfl wVn)) wLn
 clear hy h
 rintro⟨ss,C7⟩ y h
 dsimp only[kg] at h
 refine ra hx ?_
 refine AW.seq (cdh h rfl (fun z4 h=>?_) (fun z4 h=>?_))
 refine AW.skip (AW.seq (AW.block (rs hx fun K hK=>?_)))
 obtain⟨hc25,h⟩:=az h
 have OR:(ss).toNat<(x8.1.vl).length:=by omega
 refine s1 (ej hc25 um jS) ?_
 refine s1 (d:=dG cv ((x8.1.vl)[(ss).toNat]!)) (jI (c:=cv) (l:=x8.1.vl) (n:=(ss).toNat) (o:=0) jS OR (eM _ _ rfl)) ?_
 refine s1 (bq (F:=cv.f (⟨(0:Int),cb,false⟩:nN)) jS) ?_
 refine s0 (aN (b':=(x8.1.vl)[(ss).toNat]!) (ao.id _ _) jS) ?_
 refine .nil (hK _ _ (rq hx fun K hK=>?_))
 refine s1 (d:=dG ae C7) (aA (ao.id _ _) ax) ?_
 refine sa ?_
 refine s1 (aA (Fx ((x8.1.vl)[(ss).toNat]!)) ax) ?_
 refine scb h n4 fun uC h=>?_
 refine s0 (aN (b':=uC) (ao.id _ _) ax) ?_
 refine .nil (hK _ _ (rb hx ?_))
 cases h
 exact PS.l (pe0 h0 [0,1])
 refine AW.exit ?_
 try dsimp only
 try simp only[aO,reduceIte,Nat.reduceEqDiff,reduceCtorEq]
 cases h
 exact PS.r ⟨by nofun,PE.i (wk h0 [0,1] (wR rfl (wR rfl wTn)) (vC rfl (vC rfl wVn)) wLn)⟩
 rintro ex tm' hp' ⟨rfl,hw⟩
 try dsimp only
 try simp only[aO,reduceIte,Nat.reduceEqDiff,reduceCtorEq]
 refine AW.weak hw (AW.seq (rs hx fun K hK=>?_))
 refine s1 (d:=dG ae qV) (aA (ao.id _ _) ax) ?_
 refine scb h fL fun KP h=>?_
 refine sa ?_
 refine .nil (hK _ _ (cdh h rfl (fun hb32 h=>?_) (fun hb32 h=>?_)))
 refine rs hx fun K hK=>?_
 refine s1 (d:=dG ae cb) (iH (FL.nil _) ax) ?_
 obtain⟨ze,Jx,h⟩:=ah h
 replace Jx:=cP Jx
 refine s0 (kD (b':=cb) (ao.id _ _) ax Jx) ?_
 refine sa ?_
 refine .nil (hK _ _ (AW.ret ?_))
 cases h
 exact rv2
 refine AW.skip (rs hx fun K hK=>?_)
 refine s1 (d:=dG ae qV) (aA (ao.id _ _) ax) ?_
 refine s0 (aN (b':=qV) (ao.id _ _) ax) ?_
 refine sa ?_
 refine .nil (hK _ _ (AW.ret ?_))
 cases h
 exact rv2
def eL(pJ:List Int)(iJ:Int):Int→Option (Int⊕(Int⊕Unit)):=fun be=>cnd (decide (be<((pJ).length:Int))) (gd (0≤be∧be<((pJ).length:Int)) (cnd (decide (iJ=((pJ)[(be).toNat]!))) (some (.inr (.inl be))) (some (.inl (i64.wrap (be+(1:Int))))))) (some (.inr (.inr ())))
def ia(pJ:List Int)(iJ:Int):Option Int:=bnd (bf (eL pJ iJ) (0:Int)) fun y5=>match y5 with| .inl r=>some r| .inr ()=>some (-1:Int)
theorem tE {pJ:List Int}{iJ:Int}{r:Int}(h:ia pJ iJ=some r):aB prog 121 [dL (cI .i64) pJ,dI .i64 iJ] (dI .i64 r):=by
 refine bC (rs:=[.tmp 4]) (fun cx hx h0=>?_) func121
 unfold ia at h
 refine ra hx ?_
 refine AW.seq (ra hx ?_)
 refine AW.block ?_
 obtain⟨y,hy,h⟩:=ah h
 refine lp (S:=Int) (X:=Int⊕Unit) (fun be=>[(0,dL (cI .i64) pJ),(1,dI .i64 iJ),(7,dI .i64 ((pJ).length:Int)),(8,dI .i64 be)]) (fun be=>⟨[],[],0⟩) (PS (PR [.tmp 4] fun r=>dI .i64 r) (PE cx (.exit 0) (fun ()=>[]) fun ()=>⟨[],[],0⟩)) hy ?_ ?_ ?_
 exact wk h0 [] (wR rfl (wR rfl (wR rfl (wR rfl wTn)))) wVn wLn
 clear hy h
 rintro be y h
 dsimp only[eL] at h
 refine ra hx ?_
 refine AW.seq (cdh h rfl (fun cE h=>?_) (fun cE h=>?_))
 refine AW.skip (AW.seq (AW.block (ra hx ?_)))
 refine rs hx fun K hK=>?_
 iterate 3 refine sa ?_
 obtain⟨pg,h⟩:=az h
 have rz:(be).toNat<(pJ).length:=by omega
 refine s1 (ej pg cz aT) ?_
 refine s1 (qv (c:=(cI .i64)) (l:=pJ) (n:=(be).toNat) (o:=0) aT rz) ?_
 refine sa ?_
 refine .nil (hK _ _ (cdh h rfl (fun lz h=>?_) (fun lz h=>?_)))
 refine ra hx ?_
 refine AW.ret ?_
 cases h
 refine PS.r ⟨by nofun,PS.l (PR.i ?_)⟩
 exact rv1
 refine AW.skip (rb hx ?_)
 cases h
 exact PS.l (pe0 h0 [])
 refine AW.exit ?_
 try dsimp only
 try simp only[aO,reduceIte,Nat.reduceEqDiff,reduceCtorEq]
 cases h
 exact PS.r ⟨by nofun,PS.r (PE.i (wk h0 [] wTn wVn wLn))⟩
 rcases y with r|⟨⟩
 rintro ex tm' hp' ⟨rfl,hw⟩
 cases h
 exact hw
 rintro ex tm' hp' ⟨rfl,hw⟩
 try dsimp only
 try simp only[aO,reduceIte,Nat.reduceEqDiff,reduceCtorEq]
 refine AW.weak hw (ra hx ?_)
 refine AW.ret ?_
 cases h
 exact rv1
def dQ(pJ:List Int)(iJ:Int):Option Bool:=bnd (ia pJ iJ) fun x1=>some (decide ((0:Int)≤x1))
theorem m8 {pJ:List Int}{iJ:Int}{r:Bool}(h:dQ pJ iJ=some r):aB prog 76 [dL (cI .i64) pJ,dI .i64 iJ] (dB r):=by
 refine bC (rs:=[.tmp 4]) (fun cx hx h0=>?_) func76
 unfold dQ at h
 refine ra hx ?_
 refine rs hx fun K hK=>?_
 iterate 2 refine sa ?_
 refine scb h tE fun x1 h=>?_
 iterate 2 refine sa ?_
 refine .nil (hK _ _ (AW.ret ?_))
 cases h
 exact rv1
def gl(aS:ap)(ii:ee×Int):(List aj)×Int→Option (((List aj)×Int)⊕((List aj))):=fun (yK,C8)=>cnd (decide (C8<((ii.1.vl).length:Int))) (bnd (cC ii.1.vm C8 aS.vC) fun rQ=>gd ((yK++[rQ]).length*136≤140737488355328) (some (.inl (yK++[rQ],i64.wrap (C8+(1:Int)))))) (some (.inr yK))
def iE(aS:ap)(aU:List aj):Option ((List aj)×Int):=bnd (S:=Bool) (bnd (b9 [aS]) fun x1=>cnd (!x1) (some (true)) (cnd (decide (((aU).length:Int)≠aS.vR)) (some (true)) (bnd (dJ aU) fun x5=>some (!x5)))) fun a7=>cnd a7 (some (([]:List aj),(1:Int))) (bnd (gR aS (⟨aS.vR,(1:Int),aU⟩:ap)) fun x9=>cnd (decide (x9.2≠(0:Int))) (some (([]:List aj),x9.2)) (bnd (e9 x9.1) fun ii=>cnd (decide (ii.2≠(0:Int))) (some (([]:List aj),ii.2)) (bnd (cR ii.1) fun sQ=>bnd (dQ sQ aS.vC) fun ny=>cnd ny (some (([]:List aj),(200:Int))) (cnd (decide (((ii.1.vl).length:Int)<aS.vC)) (some (([]:List aj),(70:Int))) (bnd (bf (gl aS ii) (([]:List aj),(0:Int))) fun wg=>some (wg,(0:Int)))))))
theorem q8 {aS:ap}{aU:List aj}{r:(List aj)×Int}(h:iE aS aU=some r):aB prog 29 [dG aE aS,dL ae aU] (.tu [dL ae r.1,dI .i64 r.2]):=by
 refine bC (rs:=[.tmp 4,.tmp 5]) (fun cx hx h0=>?_) func29
 unfold iE at h
 refine rs hx fun K hK=>?_
 refine s1 (d:=.pt 0 0) d8 ?_
 refine s1 (d:=dO 1 ae ([]:List aj)) (eZ aF ax) ?_
 refine sa ?_
 refine .nil (hK _ _ ?_)
 iterate 2 refine AW.seq ?_
 obtain⟨a7,hy,h⟩:=ah h
 refine jn ((PE cx .normal (fun a7=>[(1,dL ae aU),(2,.pt 0 0),(26,dB a7)]) fun a7=>⟨[(0,[dI .i64 aS.vR,dI .i64 aS.vC,dL ae aS.vV])],[],1⟩) a7) ?_ ?_
 replace h:=hy
 refine rq hx fun K hK=>?_
 refine s1 (d:=dG aE aS) (bb aq) ?_
 refine s1 (d:=dO 2 aE [aS]) (iI pH aq) ?_
 refine scb h ep fun x1 h=>?_
 iterate 2 refine sa ?_
 rcases aW (!x1) with a8|a8
 replace h:=aY a8 h
 iterate 5 refine aJ rfl rfl a8 ?_
 refine s1 (am a8) ?_
 refine sa ?_
 iterate 3 refine aJ rfl rfl rfl ?_
 refine s1 (am rfl) ?_
 refine .nil (hK _ _ ?_)
 cases h
 exact pe0 h0 [0]
 replace h:=aZ a8 h
 iterate 3 refine ga a8 ?_
 refine g1 a8 (aG aT) ?_
 refine ga a8 ?_
 refine s1 (au a8) ?_
 refine sa ?_
 rcases aW (decide (((aU).length:Int)≠aS.vR)) with lz|lz
 replace h:=aY lz h
 iterate 3 refine aJ rfl rfl lz ?_
 refine s1 (am lz) ?_
 refine .nil (hK _ _ ?_)
 cases h
 exact pe0 h0 [0]
 replace h:=aZ lz h
 refine ga lz ?_
 obtain⟨x5,FB,h⟩:=ah h
 refine g1 lz (cj rfl (gu FB) rfl (lA (al _) lAn) (.inl rfl)) ?_
 refine ga lz ?_
 refine s1 (au lz) ?_
 refine .nil (hK _ _ ?_)
 cases h
 exact pe0 h0 [0]
 rintro ex tm' hp' ⟨rfl,hw⟩
 refine AW.weak hw (cdh h rfl (fun py h=>?_) (fun py h=>?_))
 refine rs hx fun K hK=>?_
 refine s1 (d:=dO 1 ae ([]:List aj)) (eZ aF ax) ?_
 refine sa ?_
 refine .nil (hK _ _ (AW.ret ?_))
 cases h
 exact dh.mk2 (ci rfl (ci rfl (.inr ⟨_,_,(sd _),(al _),⟨rfl,rfl⟩,rfl⟩)))
 refine AW.skip (rs hx fun K hK=>?_)
 refine s1 (d:=dG aE aS) (bb aq) ?_
 refine sa ?_
 refine s1 (aG aT) ?_
 refine sa ?_
 refine s1 (d:=dG aE (⟨aS.vR,(1:Int),aU⟩:ap)) (bE aq) ?_
 refine scb h ul fun x9 h=>?_
 iterate 3 refine sa ?_
 refine s1 (d:=.pt 1 0) (bc aq) ?_
 refine s0 (bO (ds':=[dI .i64 x9.1.vR,dI .i64 x9.1.vC,dL ae x9.1.vV]) aq) ?_
 refine sa ?_
 refine .nil (hK _ _ (AW.seq (ra hx ?_)))
 refine cdh h rfl (fun FU h=>?_) (fun FU h=>?_)
 refine rs hx fun K hK=>?_
 refine sa ?_
 refine s1 (d:=dO 2 ae ([]:List aj)) (eZ aF ax) ?_
 refine sa ?_
 refine .nil (hK _ _ (AW.ret ?_))
 cases h
 exact dh.mk2 (ci rfl (ci rfl (.inr ⟨_,_,(sd _),(al _),⟨rfl,rfl⟩,rfl⟩)))
 refine AW.skip (rs hx fun K hK=>?_)
 refine s1 (d:=dG aE x9.1) (bb aq) ?_
 refine scb h nI fun ii h=>?_
 iterate 3 refine sa ?_
 refine s1 (d:=.pt 2 0) (bc ly) ?_
 refine s0 (bO (ds':=[dI .i64 ii.1.vm.vR,dI .i64 ii.1.vm.vC,dL ae ii.1.vm.vV,dL cv ii.1.vl]) ly) ?_
 refine sa ?_
 refine .nil (hK _ _ (AW.seq (AW.block (ra hx ?_))))
 refine cdh h rfl (fun oH h=>?_) (fun oH h=>?_)
 refine rs hx fun K hK=>?_
 refine sa ?_
 refine s1 (d:=dO 3 ae ([]:List aj)) (eZ aF ax) ?_
 refine sa ?_
 refine .nil (hK _ _ (AW.ret ?_))
 cases h
 exact dh.mk2 (ci rfl (ci rfl (.inr ⟨_,_,(sd _),(al _),⟨rfl,rfl⟩,rfl⟩)))
 refine rsd [76] hx fun K hK=>?_
 refine s1 (d:=dG qZ ii.1) (bb ly) ?_
 obtain⟨sQ,hx16,h⟩:=ah h
 refine s1 (BA rfl (l6 hx16) (by simp only[bN,cl,cF,cZ,ck,cr];exact aM _ _) (lA (al _) lAn)) ?_
 refine sa ?_
 refine s1 (aG aT) ?_
 refine cqb h m8 fun ny h=>?_
 refine sa ?_
 refine .nil (hK _ _ (cdh h rfl (fun Co h=>?_) (fun Co h=>?_)))
 refine rs hx fun K hK=>?_
 refine s1 (d:=dO 4 ae ([]:List aj)) (eZ aF ax) ?_
 refine sa ?_
 refine .nil (hK _ _ (AW.ret ?_))
 cases h
 exact dh.mk2 (ci rfl (ci rfl (.inr ⟨_,_,(sd _),(al _),⟨rfl,rfl⟩,rfl⟩)))
 refine rs hx fun K hK=>?_
 refine sa ?_
 refine s1 (aG um) ?_
 iterate 2 refine sa ?_
 refine s1 (aG aT) ?_
 iterate 2 refine sa ?_
 refine .nil (hK _ _ (cdh h rfl (fun xt h=>?_) (fun xt h=>?_)))
 refine rs hx fun K hK=>?_
 refine s1 (d:=dO 4 ae ([]:List aj)) (eZ aF ax) ?_
 refine sa ?_
 refine .nil (hK _ _ (AW.ret ?_))
 cases h
 exact dh.mk2 (ci rfl (ci rfl (.inr ⟨_,_,(sd _),(al _),⟨rfl,rfl⟩,rfl⟩)))
 refine AW.skip (rs hx fun K hK=>?_)
 refine s1 (d:=dO 4 ae ([]:List aj)) (eZ aF ax) ?_
 refine .nil (hK _ _ (AW.seq (rs hx fun K hK=>?_)))
 refine sa ?_
 refine s1 (aG um) ?_
 iterate 2 refine sa ?_
 refine .nil (hK _ _ (AW.block ?_))
 obtain⟨wg,hy,h⟩:=ah h
 refine lp (S:=(List aj)×Int) (X:=(List aj)) (fun (yK,C8)=>[(2,.pt 0 0),(8,.pt 1 0),(9,dO 2 ae yK),(63,dI .i64 ((ii.1.vl).length:Int)),(64,dI .i64 C8)]) (fun (yK,C8)=>⟨[(0,[dI .i64 aS.vR,dI .i64 aS.vC,dL ae aS.vV]),(1,[dI .i64 ii.1.vm.vR,dI .i64 ii.1.vm.vC,dL ae ii.1.vm.vV,dL cv ii.1.vl])],[(2,(yK).length,36,34)],3⟩) (PE cx (.exit 1) (fun wg=>[(9,dO 0 ae wg)]) fun wg=>⟨[],[(0,(wg).length,36,34)],1⟩) hy ?_ ?_ ?_
 exact wk h0 [0,2,4] (wR rfl (wR rfl (wR rfl (wR rfl (wR rfl wTn))))) (vR rfl (vR rfl wVn)) (wL rfl rfl wLn)
 clear hy h
 rintro⟨yK,C8⟩ y h
 dsimp only[gl] at h
 refine ra hx ?_
 refine AW.seq (cdh h rfl (fun FR h=>?_) (fun FR h=>?_))
 refine AW.skip (AW.seq (AW.block (ra hx ?_)))
 refine rq hx fun K hK=>?_
 iterate 2 refine sa ?_
 refine s1 (d:=dG aE ii.1.vm) (bb aq) ?_
 iterate 2 refine sa ?_
 refine s1 (aG aT) ?_
 refine scb h eg fun rQ h=>?_
 refine s1 (qI ([rQ]:List aj) ae aF ax) ?_
 obtain⟨Pc,h⟩:=az h
 refine s1 (d:=dO 2 ae (yK++[rQ])) (gc aF ax Pc) ?_
 refine sa ?_
 refine .nil (hK _ _ (rb hx ?_))
 cases h
 exact PS.l (pe0 h0 [0,1,2])
 refine AW.exit ?_
 try dsimp only
 try simp only[aO,reduceIte,Nat.reduceEqDiff,reduceCtorEq]
 cases h
 exact PS.r ⟨by nofun,PE.i (wk h0 [2] (wR rfl wTn) wVn (wL rfl rfl wLn))⟩
 rintro ex tm' hp' ⟨rfl,hw⟩
 try dsimp only
 try simp only[aO,reduceIte,Nat.reduceEqDiff,reduceCtorEq]
 refine AW.weak hw (ra hx ?_)
 refine AW.ret ?_
 cases h
 exact dh.mk2 (ci rfl (ci rfl (.inr ⟨_,_,(sd _),(al _),⟨rfl,rfl⟩,rfl⟩)))
def mI(gq:Int)(fj:Int)(bZ:ee)(er:ap):Option aj:=bnd (cC bZ.vm gq (i64.wrap (er.vR+fj))) fun x1=>some x1
def mG(bz:Int)(bZ:ee)(er:ap)(aL:Int):Int×(List aj)→Option ((Int×(List aj))⊕((List aj))):=fun (bQ,bn)=>cnd (decide (bQ<bz)) (bnd (mI aL bQ bZ er) fun x3=>gd ((bn++[x3]).length*136≤140737488355328) (some (.inl (i64.wrap (bQ+(1:Int)),bn++[x3])))) (some (.inr bn))
def nj(bL:Int)(bz:Int)(bZ:ee)(er:ap):Int×(List aj)→Option ((Int×(List aj))⊕((List aj))):=fun (aL,a6)=>cnd (decide (aL<bL)) (bnd (bf (mG bz bZ er aL) ((0:Int),a6)) fun bM=>some (.inl (i64.wrap (aL+(1:Int)),bM))) (some (.inr a6))
def m3(bL:Int)(bz:Int)(bZ:ee)(er:ap):Option (ap×Int):=bnd (bf (nj bL bz bZ er) ((0:Int),([]:List aj))) fun aD=>bnd (dJ aD) fun x8=>cnd (!x8) (some ((⟨(0:Int),(0:Int),([]:List aj)⟩:ap),(30:Int))) (some ((⟨bL,bz,aD⟩:ap),(0:Int)))
def jw(qx:ee×Int):Int→Option (Int⊕((ap×Int)⊕Unit)):=fun E2=>cnd (decide (E2<((qx.1.vl).length:Int))) (gd (0≤E2∧E2<((qx.1.vl).length:Int)) (cnd (decide ((((qx.1.vl)[(E2).toNat]!).vcol)≠E2)) (some (.inr (.inl ((⟨(0:Int),(0:Int),([]:List aj)⟩:ap),(70:Int))))) (some (.inl (i64.wrap (E2+(1:Int))))))) (some (.inr (.inr ())))
def th(cQ:ap):Option (ap×Int):=bnd (S:=Bool) (bnd (b9 [cQ]) fun x1=>cnd (!x1) (some (true)) (some (decide (cQ.vR≠cQ.vC)))) fun a7=>cnd a7 (some ((⟨(0:Int),(0:Int),([]:List aj)⟩:ap),(1:Int))) (bnd (fS cQ.vR) fun x6=>bnd (gR cQ x6) fun x8=>cnd (decide (x8.2≠(0:Int))) (some ((⟨(0:Int),(0:Int),([]:List aj)⟩:ap),x8.2)) (bnd (e9 x8.1) fun qx=>cnd (decide (qx.2≠(0:Int))) (some ((⟨(0:Int),(0:Int),([]:List aj)⟩:ap),qx.2)) (bnd (bf (jw qx) (0:Int)) fun y18=>match y18 with| .inl r=>some r| .inr ()=>bnd (m3 cQ.vR cQ.vR qx.1 cQ) fun sP=>some (sP.1,sP.2))))
def ju(x4:ee×Int)(x7:List Int)(gZ:Int)(sQ:List aj):Int×(List aj)→Option ((Int×(List aj))⊕((List aj))):=fun (pc,w8)=>cnd (decide (pc<((x7).length:Int))) (bnd (S:=(List aj)) (gd (0≤pc∧pc<((x7).length:Int)) (cnd (decide (((x7)[(pc).toNat]!)<gZ)) (bnd (cC x4.1.vm pc gZ) fun DF=>bnd (mF DF) fun uC=>gd (0≤(x7)[(pc).toNat]!∧(x7)[(pc).toNat]! <(((sQ).length:Nat):Int)∧(x7)[(pc).toNat]! <((w8).length:Int)) (some ((w8).set (((x7)[(pc).toNat]!).toNat) uC))) (some (w8)))) fun EZ=>some (.inl (i64.wrap (pc+(1:Int)),EZ))) (some (.inr w8))
def jv(cQ:ap)(x4:ee×Int)(x7:List Int):(List (List aj))×Int→Option (((List (List aj))×Int)⊕((List (List aj)))):=fun (ez,gZ)=>cnd (decide (gZ<cQ.vC)) (bnd (S:=(List (List aj))) (bnd (dQ x7 gZ) fun fb=>cnd fb (some (ez)) (bnd (fk (0:Int)) fun lw=>bnd (gT [lw] cQ.vC) fun sQ=>bnd (fk (1:Int)) fun ny=>gd (0≤gZ∧gZ<(((sQ).length:Nat):Int)∧gZ<((sQ).length:Int)) (bnd (bf (ju x4 x7 gZ sQ) ((0:Int),(sQ).set ((gZ).toNat) ny)) fun qW=>gd ((sQ).length=(qW).length) (gd ((ez++[qW]).length*24≤140737488355328) (some (ez++[qW])))))) fun Dc=>some (.inl (Dc,i64.wrap (gZ+(1:Int))))) (some (.inr ez))
def lZ(cQ:ap):Option ((List (List aj))×Int):=bnd (b9 [cQ]) fun x1=>cnd (!x1) (some (([]:List (List aj)),(1:Int))) (bnd (e9 cQ) fun x4=>cnd (decide (x4.2≠(0:Int))) (some (([]:List (List aj)),x4.2)) (bnd (cR x4.1) fun x7=>bnd (bf (jv cQ x4 x7) (([]:List (List aj)),(0:Int))) fun wl=>some (wl,(0:Int))))
theorem DR {cQ:ap}{r:(List (List aj))×Int}(h:lZ cQ=some r):aB prog 21 [dG aE cQ] (.tu [dL (cL ae) r.1,dI .i64 r.2]):=by
 refine bC (rs:=[.tmp 2,.tmp 3]) (fun cx hx h0=>?_) func21
 unfold lZ at h
 refine rs hx fun K hK=>?_
 refine s1 (d:=.pt 0 0) d8 ?_
 refine s1 (d:=dO 1 (cL ae) ([]:List (List aj))) (eZ nz aF) ?_
 refine sa ?_
 refine .nil (hK _ _ (AW.seq (rs hx fun K hK=>?_)))
 refine s1 (d:=dG aE cQ) (bb aq) ?_
 refine s1 (d:=dO 2 aE [cQ]) (iI pH aq) ?_
 refine scb h ep fun x1 h=>?_
 refine sa ?_
 refine .nil (hK _ _ (cdh h rfl (fun a8 h=>?_) (fun a8 h=>?_)))
 refine rs hx fun K hK=>?_
 refine s1 (d:=dO 3 (cL ae) ([]:List (List aj))) (eZ nz aF) ?_
 refine sa ?_
 refine .nil (hK _ _ (AW.ret ?_))
 cases h
 exact dh.mk2 (ci rfl (ci rfl (.inr ⟨_,_,(sd _),(al _),⟨rfl,rfl⟩,rfl⟩)))
 refine AW.skip (rs hx fun K hK=>?_)
 refine s1 (d:=dG aE cQ) (bb aq) ?_
 refine scb h nI fun x4 h=>?_
 iterate 3 refine sa ?_
 refine s1 (d:=.pt 3 0) (bc ly) ?_
 refine s0 (bO (ds':=[dI .i64 x4.1.vm.vR,dI .i64 x4.1.vm.vC,dL ae x4.1.vm.vV,dL cv x4.1.vl]) ly) ?_
 refine sa ?_
 refine .nil (hK _ _ (AW.seq (ra hx ?_)))
 refine cdh h rfl (fun bU h=>?_) (fun bU h=>?_)
 refine rs hx fun K hK=>?_
 refine sa ?_
 refine s1 (d:=dO 4 (cL ae) ([]:List (List aj))) (eZ nz aF) ?_
 refine sa ?_
 refine .nil (hK _ _ (AW.ret ?_))
 cases h
 exact dh.mk2 (ci rfl (ci rfl (.inr ⟨_,_,(sd _),(al _),⟨rfl,rfl⟩,rfl⟩)))
 refine AW.skip (rs hx fun K hK=>?_)
 refine s1 (d:=dG qZ x4.1) (bb ly) ?_
 obtain⟨x7,xn,h⟩:=ah h
 refine s1 (BA rfl (l6 xn) (by simp only[bN,cl,cF,cZ,ck,cr];exact aM _ _) (lA (al _) lAn)) ?_
 refine sa ?_
 refine .nil (hK _ _ (rs hx fun K hK=>?_))
 refine s1 (d:=dO 5 (cL ae) ([]:List (List aj))) (eZ nz aF) ?_
 refine .nil (hK _ _ (AW.seq (rs hx fun K hK=>?_)))
 refine sa ?_
 refine s1 (aG aT) ?_
 refine sa ?_
 refine .nil (hK _ _ (AW.block ?_))
 obtain⟨wl,hy,h⟩:=ah h
 refine lp (S:=(List (List aj))×Int) (X:=(List (List aj))) (fun (ez,gZ)=>[(1,.pt 0 0),(4,.pt 1 0),(6,dO 2 (cI .i64) x7),(7,dO 3 (cL ae) ez),(27,dI .i64 cQ.vC),(28,dI .i64 gZ)]) (fun (ez,gZ)=>⟨[(0,[dI .i64 cQ.vR,dI .i64 cQ.vC,dL ae cQ.vV]),(1,[dI .i64 x4.1.vm.vR,dI .i64 x4.1.vm.vC,dL ae x4.1.vm.vV,dL cv x4.1.vl])],[(2,(x7).length,1,3),(3,(ez).length,1,22)],4⟩) (PE cx (.exit 0) (fun wl=>[(7,dO 0 (cL ae) wl)]) fun wl=>⟨[],[(0,(wl).length,1,22)],1⟩) hy ?_ ?_ ?_
 exact wk h0 [0,3,4,5] (wR rfl (wR rfl (wR rfl (wR rfl (wR rfl (wR rfl wTn)))))) (vR rfl (vR rfl wVn)) (wL rfl rfl (wL rfl rfl wLn))
 clear hy h
 rintro⟨ez,gZ⟩ y h
 dsimp only[jv] at h
 refine ra hx ?_
 refine AW.seq (cdh h rfl (fun v9 h=>?_) (fun v9 h=>?_))
 refine AW.skip (AW.seq ?_)
 obtain⟨Dc,hy,h⟩:=ah h
 refine jn ((PE cx .normal (fun Dc=>[(1,.pt 0 0),(4,.pt 1 0),(6,dO 2 (cI .i64) x7),(7,dO 3 (cL ae) Dc),(27,dI .i64 cQ.vC),(28,dI .i64 gZ)]) fun Dc=>⟨[(0,[dI .i64 cQ.vR,dI .i64 cQ.vC,dL ae cQ.vV]),(1,[dI .i64 x4.1.vm.vR,dI .i64 x4.1.vm.vC,dL ae x4.1.vm.vV,dL cv x4.1.vl])],[(2,(x7).length,1,3),(3,(Dc).length,1,22)],4⟩) Dc) ?_ ?_
 replace h:=hy
 refine AW.block (ra hx ?_)
 refine AW.seq (rs hx fun K hK=>?_)
 iterate 2 refine sa ?_
 refine scb h m8 fun fb h=>?_
 refine .nil (hK _ _ (cdh h rfl (fun mw h=>?_) (fun mw h=>?_)))
 refine AW.exit ?_
 try dsimp only
 try simp only[aO,reduceIte,Nat.reduceEqDiff,reduceCtorEq]
 cases h
 exact pe0 h0 [0,1,2,3]
 refine AW.skip (rsd [60] hx fun K hK=>?_)
 refine cqb h jA fun lw h=>?_
 refine s1 (iM ([lw]:List aj) ae aF ax) ?_
 refine sa ?_
 refine s1 (aG aT) ?_
 obtain⟨sQ,hx16,h⟩:=ah h
 refine sC0 (d:=.ow 5 0 36 ((sQ).length)) (hp':=⟨[(5,dC ((cW ae).f sQ)),(0,[dI .i64 cQ.vR,dI .i64 cQ.vC,dL ae cQ.vV]),(1,[dI .i64 x4.1.vm.vR,dI .i64 x4.1.vm.vC,dL ae x4.1.vm.vV,dL cv x4.1.vl])],[(2,(x7).length,1,3),(3,(ez).length,1,22)],6⟩) (wt hx16) (ARs.cons (AR.le (sd _) rfl) (ARs.cons (AR.le (al _) rfl) ARs.nil)) (tA.l _ _) ?_
 refine sa ?_
 refine .nil (hK _ _ (rs hx fun K hK=>?_))
 iterate 2 refine sa ?_
 refine scb h jA fun ny h=>?_
 obtain⟨FN,h⟩:=az h
 have Ms:(gZ).toNat<(sQ).length:=by omega
 refine s1 (sx ⟨FN.1,FN.2.1⟩ aF ax) ?_
 refine s0 (aN (b':=ny) (ao.seqW ae sQ ((gZ).toNat) Ms) ax) ?_
 refine .nil (hK _ _ (AW.seq (ra hx ?_)))
 refine AW.block ?_
 obtain⟨qW,hy,h⟩:=ah h
 refine lp (S:=Int×(List aj)) (X:=(List aj)) (fun (pc,w8)=>[(1,.pt 0 0),(4,.pt 1 0),(6,dO 2 (cI .i64) x7),(7,dO 3 (cL ae) ez),(8,dI .i64 gZ),(9,.ow 4 0 36 ((sQ).length)),(27,dI .i64 cQ.vC),(28,dI .i64 gZ),(43,dO 2 (cI .i64) x7),(44,dI .i64 ((x7).length:Int)),(45,dI .i64 pc)]) (fun (pc,w8)=>⟨[(0,[dI .i64 cQ.vR,dI .i64 cQ.vC,dL ae cQ.vV]),(1,[dI .i64 x4.1.vm.vR,dI .i64 x4.1.vm.vC,dL ae x4.1.vm.vV,dL cv x4.1.vl]),(4,dC ((cW ae).f w8))],[(2,(x7).length,1,3),(3,(ez).length,1,22)],5⟩) (PE cx (.exit 2) (fun qW=>[(1,.pt 0 0),(4,.pt 1 0),(6,dO 2 (cI .i64) x7),(7,dO 3 (cL ae) ez),(9,.ow 4 0 36 ((sQ).length)),(27,dI .i64 cQ.vC),(28,dI .i64 gZ)]) fun qW=>⟨[(0,[dI .i64 cQ.vR,dI .i64 cQ.vC,dL ae cQ.vV]),(1,[dI .i64 x4.1.vm.vR,dI .i64 x4.1.vm.vC,dL ae x4.1.vm.vV,dL cv x4.1.vl]),(4,dC ((cW ae).f qW))],[(2,(x7).length,1,3),(3,(ez).length,1,22)],5⟩) hy ?_ ?_ ?_
 exact wk h0 [0,1,2,3,5] (wR rfl (wR rfl (wR rfl (wR rfl (wR rfl (wR rfl (wR rfl (wR rfl (wR rfl (wR rfl (wR rfl wTn))))))))))) (vR rfl (vR rfl (vC rfl wVn))) (wL rfl rfl (wL rfl rfl wLn))
 clear hy h
 rintro⟨pc,w8⟩ y h
 dsimp only[ju] at h
 refine ra hx ?_
 refine AW.seq (cdh h rfl (fun FR h=>?_) (fun FR h=>?_))
 refine AW.skip (AW.seq ?_)
 obtain⟨EZ,hy,h⟩:=ah h
 refine jn ((PE cx .normal (fun EZ=>[(1,.pt 0 0),(4,.pt 1 0),(6,dO 2 (cI .i64) x7),(7,dO 3 (cL ae) ez),(8,dI .i64 gZ),(9,.ow 4 0 36 ((sQ).length)),(27,dI .i64 cQ.vC),(28,dI .i64 gZ),(43,dO 2 (cI .i64) x7),(44,dI .i64 ((x7).length:Int)),(45,dI .i64 pc)]) fun EZ=>⟨[(0,[dI .i64 cQ.vR,dI .i64 cQ.vC,dL ae cQ.vV]),(1,[dI .i64 x4.1.vm.vR,dI .i64 x4.1.vm.vC,dL ae x4.1.vm.vV,dL cv x4.1.vl]),(4,dC ((cW ae).f EZ))],[(2,(x7).length,1,3),(3,(ez).length,1,22)],5⟩) EZ) ?_ ?_
 replace h:=hy
 refine AW.block (rs hx fun K hK=>?_)
 refine sa ?_
 obtain⟨Cj,h⟩:=az h
 have hn23:(pc).toNat<(x7).length:=by omega
 refine s1 (ej Cj cz aT) ?_
 refine s1 (qv (c:=(cI .i64)) (l:=x7) (n:=(pc).toNat) (o:=0) aT hn23) ?_
 iterate 2 refine sa ?_
 refine .nil (hK _ _ (ra hx ?_))
 refine cdh h rfl (fun z4 h=>?_) (fun z4 h=>?_)
 refine rq hx fun K hK=>?_
 iterate 3 refine sa ?_
 refine s1 (d:=dG aE x4.1.vm) (bb aq) ?_
 iterate 2 refine sa ?_
 refine scb h eg fun DF h=>?_
 refine scb h Ax fun uC h=>?_
 obtain⟨hc29,h⟩:=az h
 have hn30:((x7)[(pc).toNat]!).toNat<(w8).length:=by omega
 refine s1 (sx ⟨hc29.1,hc29.2.1⟩ aF ax) ?_
 refine s0 (aN (b':=uC) (ao.seqW ae w8 (((x7)[(pc).toNat]!).toNat) hn30) ax) ?_
 refine .nil (hK _ _ ?_)
 cases h
 exact pe0 h0 [0,1,2,3,4]
 refine AW.skip ?_
 cases h
 exact pe0 h0 [0,1,2,3,4]
 rintro ex tm' hp' ⟨rfl,hw⟩
 refine AW.weak hw (rb hx ?_)
 cases h
 exact PS.l (pe0 h0 [0,1,2,3,4])
 refine AW.exit ?_
 try dsimp only
 try simp only[aO,reduceIte,Nat.reduceEqDiff,reduceCtorEq]
 cases h
 exact PS.r ⟨by nofun,PE.i (wk h0 [0,1,2,3,4] (wR rfl (wR rfl (wR rfl (wR rfl (wR rfl (wR rfl (wR rfl wTn))))))) (vR rfl (vR rfl (vC rfl wVn))) (wL rfl rfl (wL rfl rfl wLn)))⟩
 rintro ex tm' hp' ⟨rfl,hw⟩
 try dsimp only
 try simp only[aO,reduceIte,Nat.reduceEqDiff,reduceCtorEq]
 refine AW.weak hw (rq hx fun K hK=>?_)
 iterate 2 refine sa ?_
 obtain⟨hc33,h⟩:=az h
 refine fzO ae (n:=(sQ).length) 4 [9,64] hc33 ?_ (all2 rfl (all1 rfl))
 refine s1 (d:=dO 5 (cL ae) [qW]) (iI nz aF) ?_
 obtain⟨hc34,h⟩:=az h
 refine s1 (d:=dO 3 (cL ae) (ez++[qW])) (gc nz aF hc34) ?_
 refine sa ?_
 refine .nil (hK _ _ ?_)
 cases h
 exact pe0 h0 [0,1,2,3]
 rintro ex tm' hp' ⟨rfl,hw⟩
 refine AW.weak hw (rb hx ?_)
 cases h
 exact PS.l (pe0 h0 [0,1,2,3])
 refine AW.exit ?_
 try dsimp only
 try simp only[aO,reduceIte,Nat.reduceEqDiff,reduceCtorEq]
 cases h
 exact PS.r ⟨by nofun,PE.i (wk h0 [3] (wR rfl wTn) wVn (wL rfl rfl wLn))⟩
 rintro ex tm' hp' ⟨rfl,hw⟩
 try dsimp only
 try simp only[aO,reduceIte,Nat.reduceEqDiff,reduceCtorEq]
 refine AW.weak hw (ra hx ?_)
 refine AW.ret ?_
 cases h
 exact dh.mk2 (ci rfl (ci rfl (.inr ⟨_,_,(sd _),(al _),⟨rfl,rfl⟩,rfl⟩)))
def gg(gq:Int)(fj:Int)(bZ:ap):Option aj:=bnd (cC bZ gq fj) fun x1=>some x1
theorem pp {gq:Int}{fj:Int}{bZ:ap}{r:aj}(h:gg gq fj bZ=some r):HC prog 80 [dI .i64 gq,dI .i64 fj,.pt 0 0] ⟨[(0,[dI .i64 bZ.vR,dI .i64 bZ.vC,dL ae bZ.vV])],[],1⟩ (dG ae r) ⟨[(0,[dI .i64 bZ.vR,dI .i64 bZ.vC,dL ae bZ.vV])],[],1⟩:=by
 refine HC.ofX (rs:=[.cell 5 34]) tok func80 rfl rfl (dM rfl) rfl (fun cx hx h1=>?_)
 have h0:cx.hp0.next=1:=by rw[h1]
 simp only[eC,Nat.reduceAdd,dA]
 unfold gg at h
 refine rs hx fun K hK=>?_
 refine s1 (bq (F:=ae.f cb) ax) ?_
 refine .nil (hK _ _ (rs hx fun K hK=>?_))
 refine s1 (d:=dG aE bZ) (bb aq) ?_
 iterate 2 refine sa ?_
 refine scb h eg fun x1 h=>?_
 refine s0 (aN (b':=x1) (ao.id _ _) ax) ?_
 refine .nil (hK _ _ (AW.ret ?_))
 cases h
 exact⟨_,qz rfl ax rfl rfl (ltb rfl) (ae.h _) (rfl),nr.of_wk (by rw[hx];exact dM rfl) (wkN h0 [] (wG rfl (al _) wTn) (vR rfl wVn) wLn)⟩
def jp(bz:Int)(bZ:ap)(aL:Int):Int×(List aj)→Option ((Int×(List aj))⊕((List aj))):=fun (bQ,bn)=>cnd (decide (bQ<bz)) (bnd (gg aL bQ bZ) fun x3=>gd ((bn++[x3]).length*136≤140737488355328) (some (.inl (i64.wrap (bQ+(1:Int)),bn++[x3])))) (some (.inr bn))
def jN(bL:Int)(bz:Int)(bZ:ap):Int×(List aj)→Option ((Int×(List aj))⊕((List aj))):=fun (aL,a6)=>cnd (decide (aL<bL)) (bnd (bf (jp bz bZ aL) ((0:Int),a6)) fun bM=>some (.inl (i64.wrap (aL+(1:Int)),bM))) (some (.inr a6))
def j8(bL:Int)(bz:Int)(bZ:ap):Option (ap×Int):=bnd (bf (jN bL bz bZ) ((0:Int),([]:List aj))) fun aD=>bnd (dJ aD) fun x8=>cnd (!x8) (some ((⟨(0:Int),(0:Int),([]:List aj)⟩:ap),(30:Int))) (some ((⟨bL,bz,aD⟩:ap),(0:Int)))
theorem zh {bL:Int}{bz:Int}{bZ:ap}{r:ap×Int}(h:j8 bL bz bZ=some r):HC prog 73 [dI .i64 bL,dI .i64 bz,.fn 80 [0]] ⟨[(0,[dI .i64 bZ.vR,dI .i64 bZ.vC,dL ae bZ.vV])],[],1⟩ (.tu [dG aE r.1,dI .i64 r.2]) ⟨[(0,[dI .i64 bZ.vR,dI .i64 bZ.vC,dL ae bZ.vV])],[],1⟩:=by
 refine HC.ofX (rs:=[.cell 6 24,.tmp 7]) tok func73 rfl rfl (dM rfl) rfl (fun cx hx h1=>?_)
 have h0:cx.hp0.next=1:=by rw[h1]
 simp only[eC,Nat.reduceAdd,dA]
 unfold j8 at h
 refine rs hx fun K hK=>?_
 refine s1 (d:=.pt 1 0) (bc aq) ?_
 refine sa ?_
 refine .nil (hK _ _ (rs hx fun K hK=>?_))
 iterate 2 refine sa ?_
 refine s1 (d:=.ag [dI .i64 bL,dI .i64 bz,dN]) (bE aq) ?_
 refine s1 (d:=.pt 2 0) (bc aq) ?_
 refine s0 (bO (ds':=[dI .i64 bL,dI .i64 bz,dN]) aq) ?_
 refine .nil (hK _ _ (AW.seq (ra hx ?_)))
 refine AW.block ?_
 obtain⟨aD,hy,h⟩:=ah h
 refine lp (S:=Int×(List aj)) (X:=(List aj)) (fun (aL,a6)=>[(1,dI .i64 bz),(2,.fn 80 [0]),(6,.pt 1 0),(8,.pt 2 0),(14,dI .i64 bL),(15,dI .i64 aL)]) (fun (aL,a6)=>⟨[(0,[dI .i64 bZ.vR,dI .i64 bZ.vC,dL ae bZ.vV]),(1,[dI .i64 (0:Int),dI .i64 (0:Int),dN]),(2,[dI .i64 bL,dI .i64 bz,dO 3 ae a6])],[(3,(a6).length,36,34)],4⟩) (PE cx (.exit 0) (fun aD=>[(6,.pt 1 0),(8,.pt 2 0)]) fun aD=>⟨[(0,[dI .i64 bZ.vR,dI .i64 bZ.vC,dL ae bZ.vV]),(1,[dI .i64 (0:Int),dI .i64 (0:Int),dN]),(2,[dI .i64 bL,dI .i64 bz,dO 3 ae aD])],[(3,(aD).length,36,34)],4⟩) hy ?_ ?_ ?_
 exact Wk.trans (Wk.nilOwn (ds':=[dI .i64 bL,dI .i64 bz,dO 3 ae ([]:List aj)]) 2 2 34 36) (wkN h0 [1,2,3] (wR rfl (wR rfl (wR rfl (wR rfl (wR rfl (wR rfl wTn)))))) (vR rfl (vR rfl (vR rfl wVn))) (wL rfl rfl wLn))
 clear hy h
 rintro⟨aL,a6⟩ y h
 dsimp only[jN] at h
 refine ra hx ?_
 refine AW.seq (cdh h rfl (fun cE h=>?_) (fun cE h=>?_))
 refine AW.skip (AW.seq (AW.block ?_))
 iterate 2 refine ra hx ?_
 refine AW.block ?_
 obtain⟨bM,hy,h⟩:=ah h
 refine lp (S:=Int×(List aj)) (X:=(List aj)) (fun (bQ,bn)=>[(1,dI .i64 bz),(2,.fn 80 [0]),(6,.pt 1 0),(8,.pt 2 0),(9,dI .i64 aL),(14,dI .i64 bL),(15,dI .i64 aL),(18,dI .i64 bz),(19,dI .i64 bQ)]) (fun (bQ,bn)=>⟨[(0,[dI .i64 bZ.vR,dI .i64 bZ.vC,dL ae bZ.vV]),(1,[dI .i64 (0:Int),dI .i64 (0:Int),dN]),(2,[dI .i64 bL,dI .i64 bz,dO 3 ae bn])],[(3,(bn).length,36,34)],4⟩) (PE cx (.exit 2) (fun bM=>[(1,dI .i64 bz),(2,.fn 80 [0]),(6,.pt 1 0),(8,.pt 2 0),(14,dI .i64 bL),(15,dI .i64 aL)]) fun bM=>⟨[(0,[dI .i64 bZ.vR,dI .i64 bZ.vC,dL ae bZ.vV]),(1,[dI .i64 (0:Int),dI .i64 (0:Int),dN]),(2,[dI .i64 bL,dI .i64 bz,dO 3 ae bM])],[(3,(bM).length,36,34)],4⟩) hy ?_ ?_ ?_
 exact wkN h0 [1,2,3] (wR rfl (wR rfl (wR rfl (wR rfl (wR rfl (wR rfl (wR rfl (wR rfl (wR rfl wTn))))))))) (vR rfl (vR rfl (vR rfl wVn))) (wL rfl rfl wLn)
 clear hy h
 rintro⟨bQ,bn⟩ y h
 dsimp only[jp] at h
 refine ra hx ?_
 refine AW.seq (cdh h rfl (fun mm h=>?_) (fun mm h=>?_))
 refine AW.skip (AW.seq (AW.block (ra hx ?_)))
 obtain⟨x3,xQ,h⟩:=ah h
 obtain⟨Bu,h⟩:=az h
 refine jn (PE cx .normal (fun (_:Unit)=>[(1,dI .i64 bz),(2,.fn 80 [0]),(6,.pt 1 0),(8,.pt 2 0),(9,dI .i64 aL),(14,dI .i64 bL),(15,dI .i64 aL),(18,dI .i64 bz),(19,dI .i64 bQ)]) (fun (_:Unit)=>⟨[(0,[dI .i64 bZ.vR,dI .i64 bZ.vC,dL ae bZ.vV]),(1,[dI .i64 (0:Int),dI .i64 (0:Int),dN]),(2,[dI .i64 bL,dI .i64 bz,dO 3 ae (bn++[x3])])],[(3,(bn++[x3]).length,36,34)],4⟩) ()) ?_ ?_
 refine dw (DW.split 1 5 (by decide) ?_ ?_)
 refine dwg [] [0,1,2,3,4,5,6,7,8,9] hx (by kernel_rfl) (by kernel_rfl) (by kernel_rfl) fun K hK=>?_
 dsimp only[eJ,nE,nS,List.map]
 refine sa ?_
 refine s1 (aG aF) ?_
 iterate 3 refine sa ?_
 refine s1 (lQ [0] rfl (pp xQ) (fA (al _) (fA (al _) (fA (al _) fAn))) (vR rfl wVn) wLn (rvE rvN) (pP _ _ _) (uu _ _)) ?_
 refine s1 (iM ([x3]:List aj) ae aF ax) ?_
 refine s1 (d:=dO 3 ae (bn++[x3])) (gc aF ax Bu) ?_
 refine sa ?_
 refine s0 (bO (ds':=[dI .i64 bL,dI .i64 bz,dO 3 ae (bn++[x3])]) aF) ?_
 exact .nil (hK _ _ (PE.i (wkN h0 [1,2,3] (wR rfl (wR rfl (wR rfl (wR rfl (wR rfl (wR rfl (wR rfl (wR rfl (wR rfl wTn))))))))) (vR rfl (vR rfl (vR rfl wVn))) (wL rfl rfl wLn))))
 refine dwg [] [0,2,3,4,5,1,6,7,8,9] hx (by kernel_rfl) (by kernel_rfl) (by kernel_rfl) fun K hK=>?_
 dsimp only[eJ,nE,nS,List.map]
 iterate 4 refine sa ?_
 refine s1 (lQ [0] rfl (pp xQ) (fA (al _) (fA (al _) (fA (al _) fAn))) (vR rfl wVn) wLn (rvE rvN) (pP _ _ _) (uu _ _)) ?_
 refine s1 (aG aF) ?_
 refine s1 (iM ([x3]:List aj) ae aF ax) ?_
 refine s1 (d:=dO 3 ae (bn++[x3])) (gc aF ax Bu) ?_
 refine sa ?_
 refine s0 (bO (ds':=[dI .i64 bL,dI .i64 bz,dO 3 ae (bn++[x3])]) aF) ?_
 exact .nil (hK _ _ (PE.i (wkN h0 [1,2,3] (wR rfl (wR rfl (wR rfl (wR rfl (wR rfl (wR rfl (wR rfl (wR rfl (wR rfl wTn))))))))) (vR rfl (vR rfl (vR rfl wVn))) (wL rfl rfl wLn))))
 rintro ex tm' hp' ⟨rfl,hw⟩
 refine AW.weak hw (rb hx ?_)
 cases h
 exact PS.l (PE.i (wkN h0 [1,2,3] (wR rfl (wR rfl (wR rfl (wR rfl (wR rfl (wR rfl (wR rfl (wR rfl (wR rfl wTn))))))))) (vR rfl (vR rfl (vR rfl wVn))) (wL rfl rfl wLn)))
 refine AW.exit ?_
 try dsimp only
 try simp only[aO,reduceIte,Nat.reduceEqDiff,reduceCtorEq]
 cases h
 exact PS.r ⟨by nofun,PE.i (wkN h0 [1,2,3] (wR rfl (wR rfl (wR rfl (wR rfl (wR rfl (wR rfl wTn)))))) (vR rfl (vR rfl (vR rfl wVn))) (wL rfl rfl wLn))⟩
 rintro ex tm' hp' ⟨rfl,hw⟩
 try dsimp only
 try simp only[aO,reduceIte,Nat.reduceEqDiff,reduceCtorEq]
 refine AW.weak hw (rb hx ?_)
 cases h
 exact PS.l (PE.i (wkN h0 [1,2,3] (wR rfl (wR rfl (wR rfl (wR rfl (wR rfl (wR rfl wTn)))))) (vR rfl (vR rfl (vR rfl wVn))) (wL rfl rfl wLn)))
 refine AW.exit ?_
 try dsimp only
 try simp only[aO,reduceIte,Nat.reduceEqDiff,reduceCtorEq]
 cases h
 exact PS.r ⟨by nofun,PE.i (wkN h0 [1,2,3] (wR rfl (wR rfl wTn)) (vR rfl (vR rfl (vR rfl wVn))) (wL rfl rfl wLn))⟩
 rintro ex tm' hp' ⟨rfl,hw⟩
 try dsimp only
 try simp only[aO,reduceIte,Nat.reduceEqDiff,reduceCtorEq]
 refine AW.weak hw (AW.seq (rs hx fun K hK=>?_))
 refine sa ?_
 refine s1 (aG aF) ?_
 refine scb h gu fun x8 h=>?_
 refine sa ?_
 refine .nil (hK _ _ (cdh h rfl (fun eH h=>?_) (fun eH h=>?_)))
 refine rs hx fun K hK=>?_
 refine s1 (d:=.ag [dI .i64 (0:Int),dI .i64 (0:Int),dN]) (bE aq) ?_
 refine s0 (bO (ds':=[dI .i64 (0:Int),dI .i64 (0:Int),dN]) aq) ?_
 refine sa ?_
 refine .nil (hK _ _ (AW.ret ?_))
 cases h
 exact⟨_,bJ (es:=[dI .i64 (0:Int),dI .i64 (0:Int),dN]) rfl aq rfl rfl (ltb rfl) (leb rfl) rfl (ci rfl (rfl)),nr.of_wk2 (by rw[hx];exact dM rfl) (wkN h0 [] (wG rfl (eA (wc (co _) (wc (co _) (wc (nT rfl) wcn)))) (wR rfl wTn)) (vR rfl wVn) wLn)⟩
 refine AW.skip (rs hx fun K hK=>?_)
 refine s1 (d:=.ag [dI .i64 bL,dI .i64 bz,dO 3 ae aD]) (bb aq) ?_
 refine s0 (bO (ds':=[dI .i64 bL,dI .i64 bz,dO 3 ae aD]) aq) ?_
 refine sa ?_
 refine .nil (hK _ _ (AW.ret ?_))
 cases h
 exact⟨_,bJ (es:=[dI .i64 bL,dI .i64 bz,dO 3 ae aD]) rfl aq rfl rfl (ltb rfl) (leb rfl) rfl (ci rfl (rfl)),nr.of_wk2 (by rw[hx];exact dM rfl) (wkN h0 [] (wG rfl (eA (wc (co _) (wc (co _) (wc (A5 _) wcn)))) (wR rfl wTn)) (vR rfl wVn) wLn)⟩
def ge(cQ:ap)(eh:Int):Int→Option (Int⊕((Bool×Int)⊕Unit)):=fun ez=>cnd (decide (ez<eh)) (bnd (cC cQ eh ez) fun x8=>bnd (cC cQ ez eh) fun fb=>cnd (decide (¬(x8=fb))) (some (.inr (.inl (false,(0:Int))))) (some (.inl (i64.wrap (ez+(1:Int)))))) (some (.inr (.inr ())))
def gf(cQ:ap):Int→Option (Int⊕((Bool×Int)⊕Unit)):=fun eh=>cnd (decide (eh<cQ.vR)) (bnd (bf (ge cQ eh) (0:Int)) fun y13=>match y13 with| .inl r=>some (.inr (.inl r))| .inr ()=>some (.inl (i64.wrap (eh+(1:Int))))) (some (.inr (.inr ())))
def ek(cQ:ap):Int→Option (Int⊕((Bool×Int)⊕Unit)):=fun yJ=>cnd (decide (yJ≤cQ.vR)) (bnd (j8 yJ yJ cQ) fun sy=>bnd (m4 sy.1) fun nt=>bnd (S:=Bool) (cnd (decide (nt.2≠(0:Int))) (some (true)) (bnd (mY nt.1) fun uP=>some (decide (uP≤(0:Int))))) fun EY=>cnd EY (some (.inr (.inl (false,nt.2)))) (some (.inl (i64.wrap (yJ+(1:Int)))))) (some (.inr (.inr ())))
def gI(cQ:ap):Option (Bool×Int):=bnd (S:=Bool) (bnd (b9 [cQ]) fun x1=>cnd (!x1) (some (true)) (some (decide (cQ.vR≠cQ.vC)))) fun a7=>cnd a7 (some (false,(1:Int))) (bnd (bf (gf cQ) (0:Int)) fun y14=>match y14 with| .inl r=>some r| .inr ()=>bnd (bf (ek cQ) (1:Int)) fun y25=>match y25 with| .inl r=>some r| .inr ()=>some (true,(0:Int)))
theorem rW {cQ:ap}{r:Bool×Int}(h:gI cQ=some r):aB prog 23 [dG aE cQ] (.tu [dB r.1,dI .i64 r.2]):=by
 refine bC (rs:=[.tmp 2,.tmp 3]) (fun cx hx h0=>?_) func23
 unfold gI at h
 refine rs hx fun K hK=>?_
 refine s1 (d:=.pt 0 0) d8 ?_
 iterate 2 refine sa ?_
 refine .nil (hK _ _ ?_)
 iterate 2 refine AW.seq ?_
 obtain⟨a7,hy,h⟩:=ah h
 refine jn ((PE cx .normal (fun a7=>[(1,.pt 0 0),(21,dB a7)]) fun a7=>⟨[(0,[dI .i64 cQ.vR,dI .i64 cQ.vC,dL ae cQ.vV])],[],1⟩) a7) ?_ ?_
 replace h:=hy
 refine rq hx fun K hK=>?_
 refine s1 (d:=dG aE cQ) (bb aq) ?_
 refine s1 (d:=dO 1 aE [cQ]) (iI pH aq) ?_
 refine scb h ep fun x1 h=>?_
 iterate 2 refine sa ?_
 rcases aW (!x1) with a8|a8
 replace h:=aY a8 h
 iterate 5 refine aJ rfl rfl a8 ?_
 refine s1 (am a8) ?_
 refine .nil (hK _ _ ?_)
 cases h
 exact pe0 h0 [0]
 replace h:=aZ a8 h
 refine ga a8 ?_
 refine g1 a8 (aG aT) ?_
 refine ga a8 ?_
 refine g1 a8 (aG aT) ?_
 refine ga a8 ?_
 refine s1 (au a8) ?_
 refine .nil (hK _ _ ?_)
 cases h
 exact pe0 h0 [0]
 rintro ex tm' hp' ⟨rfl,hw⟩
 refine AW.weak hw (cdh h rfl (fun iO h=>?_) (fun iO h=>?_))
 refine ra hx ?_
 refine AW.ret ?_
 cases h
 exact rv2
 refine AW.skip (AW.seq (rs hx fun K hK=>?_))
 refine sa ?_
 refine s1 (aG aT) ?_
 refine sa ?_
 refine .nil (hK _ _ (AW.block ?_))
 obtain⟨y,hy,h⟩:=ah h
 refine lp (S:=Int) (X:=(Bool×Int)⊕Unit) (fun eh=>[(1,.pt 0 0),(23,dI .i64 cQ.vR),(24,dI .i64 eh)]) (fun eh=>⟨[(0,[dI .i64 cQ.vR,dI .i64 cQ.vC,dL ae cQ.vV])],[],1⟩) (PS (PR [.tmp 2,.tmp 3] fun r=>.tu [dB r.1,dI .i64 r.2]) (PE cx (.exit 0) (fun ()=>[(1,.pt 0 0)]) fun ()=>⟨[(0,[dI .i64 cQ.vR,dI .i64 cQ.vC,dL ae cQ.vV])],[],1⟩)) hy ?_ ?_ ?_
 exact wk h0 [0] (wR rfl (wR rfl (wR rfl wTn))) (vR rfl wVn) wLn
 clear hy h
 rintro eh y h
 dsimp only[gf] at h
 refine ra hx ?_
 refine AW.seq (cdh h rfl (fun bU h=>?_) (fun bU h=>?_))
 refine AW.skip (AW.seq (AW.block ?_))
 iterate 2 refine ra hx ?_
 refine AW.block ?_
 obtain⟨y,hy,h⟩:=ah h
 refine lp (S:=Int) (X:=(Bool×Int)⊕Unit) (fun ez=>[(1,.pt 0 0),(4,dI .i64 eh),(23,dI .i64 cQ.vR),(24,dI .i64 eh),(27,dI .i64 eh),(28,dI .i64 ez)]) (fun ez=>⟨[(0,[dI .i64 cQ.vR,dI .i64 cQ.vC,dL ae cQ.vV])],[],1⟩) (PS (PR [.tmp 2,.tmp 3] fun r=>.tu [dB r.1,dI .i64 r.2]) (PE cx (.exit 2) (fun ()=>[(1,.pt 0 0),(23,dI .i64 cQ.vR),(24,dI .i64 eh)]) fun ()=>⟨[(0,[dI .i64 cQ.vR,dI .i64 cQ.vC,dL ae cQ.vV])],[],1⟩)) hy ?_ ?_ ?_
 exact wk h0 [0] (wR rfl (wR rfl (wR rfl (wR rfl (wR rfl (wR rfl wTn)))))) (vR rfl wVn) wLn
 clear hy h
 rintro ez y h
 dsimp only[ge] at h
 refine ra hx ?_
 refine AW.seq (cdh h rfl (fun nh h=>?_) (fun nh h=>?_))
 refine AW.skip (AW.seq (AW.block (ra hx ?_)))
 refine rsd [75] hx fun K hK=>?_
 refine s1 (d:=dG aE cQ) (bb aq) ?_
 iterate 2 refine sa ?_
 refine cqb h eg fun x8 h=>?_
 refine s1 (d:=dG aE cQ) (bb aq) ?_
 iterate 2 refine sa ?_
 refine cqb h eg fun fb h=>?_
 refine s1 (xG tok 4 (by decide) qX ax) ?_
 refine .nil (hK _ _ (cdh h rfl (fun mw h=>?_) (fun mw h=>?_)))
 refine ra hx ?_
 refine AW.ret ?_
 cases h
 refine PS.r ⟨by nofun,PS.l (PR.i ?_)⟩
 exact rv2
 refine AW.skip (rb hx ?_)
 cases h
 exact PS.l (pe0 h0 [0])
 refine AW.exit ?_
 try dsimp only
 try simp only[aO,reduceIte,Nat.reduceEqDiff,reduceCtorEq]
 cases h
 exact PS.r ⟨by nofun,PS.r (PE.i (wk h0 [0] (wR rfl (wR rfl (wR rfl wTn))) (vR rfl wVn) wLn))⟩
 rcases y with r|⟨⟩
 rintro ex tm' hp' ⟨rfl,hw⟩
 cases h
 exact PS.r ⟨by nofun,PS.l (PR.i hw)⟩
 rintro ex tm' hp' ⟨rfl,hw⟩
 try dsimp only
 try simp only[aO,reduceIte,Nat.reduceEqDiff,reduceCtorEq]
 refine AW.weak hw (rb hx ?_)
 cases h
 exact PS.l (pe0 h0 [0])
 refine AW.exit ?_
 try dsimp only
 try simp only[aO,reduceIte,Nat.reduceEqDiff,reduceCtorEq]
 cases h
 exact PS.r ⟨by nofun,PS.r (PE.i (wk h0 [0] (wR rfl wTn) (vR rfl wVn) wLn))⟩
 rcases y with r|⟨⟩
 rintro ex tm' hp' ⟨rfl,hw⟩
 cases h
 exact hw
 rintro ex tm' hp' ⟨rfl,hw⟩
 try dsimp only
 try simp only[aO,reduceIte,Nat.reduceEqDiff,reduceCtorEq]
 refine AW.weak hw (AW.seq (ra hx ?_))
 refine AW.block ?_
 obtain⟨y,hy,h⟩:=ah h
 refine lp (S:=Int) (X:=(Bool×Int)⊕Unit) (fun yJ=>[(1,.pt 0 0),(6,dI .i64 yJ)]) (fun yJ=>⟨[(0,[dI .i64 cQ.vR,dI .i64 cQ.vC,dL ae cQ.vV])],[],1⟩) (PS (PR [.tmp 2,.tmp 3] fun r=>.tu [dB r.1,dI .i64 r.2]) (PE cx (.exit 4) (fun ()=>[]) fun ()=>⟨[],[],0⟩)) hy ?_ ?_ ?_
 exact wk h0 [0] (wR rfl (wR rfl wTn)) (vR rfl wVn) wLn
 clear hy h
 rintro yJ y h
 dsimp only[ek] at h
 refine AW.seq (rs hx fun K hK=>?_)
 iterate 2 refine sa ?_
 refine s1 (aG aT) ?_
 refine sa ?_
 refine .nil (hK _ _ (cdh h rfl (fun sH h=>?_) (fun sH h=>?_)))
 refine AW.skip (AW.seq (AW.block (rs hx fun K hK=>?_)))
 iterate 2 refine sa ?_
 refine s1 vH ?_
 obtain⟨sy,Mn,h⟩:=ah h
 refine s1 (yX [0] rfl (zh Mn) (fA (al _) (fA (al _) (fA (al _) fAn))) (vR rfl wVn) wLn) ?_
 iterate 3 refine sa ?_
 refine s1 (d:=.pt 1 0) (bc aq) ?_
 refine s0 (bO (ds':=[dI .i64 sy.1.vR,dI .i64 sy.1.vC,dL ae sy.1.vV]) aq) ?_
 refine sa ?_
 refine .nil (hK _ _ (rs hx fun K hK=>?_))
 refine s1 (d:=dG aE sy.1) (bb aq) ?_
 refine scb h yc fun nt h=>?_
 iterate 3 refine sa ?_
 refine s1 (bq (F:=ae.f cb) ax) ?_
 refine s0 (aN (b':=nt.1) (ao.id _ _) ax) ?_
 refine sa ?_
 refine .nil (hK _ _ (AW.seq ?_))
 obtain⟨EY,hy,h⟩:=ah h
 refine jn ((PE cx .normal (fun EY=>[(1,.pt 0 0),(6,dI .i64 yJ),(10,dI .i64 nt.2),(66,dB EY)]) fun EY=>⟨[(0,[dI .i64 cQ.vR,dI .i64 cQ.vC,dL ae cQ.vV])],[],1⟩) EY) ?_ ?_
 replace h:=hy
 refine rq hx fun K hK=>?_
 iterate 3 refine sa ?_
 rcases aW (decide (nt.2≠(0:Int))) with xt|xt
 replace h:=aY xt h
 iterate 3 refine aJ rfl rfl xt ?_
 refine s1 (am xt) ?_
 refine .nil (hK _ _ ?_)
 cases h
 exact pe0 h0 [0]
 replace h:=aZ xt h
 refine g1 (d:=dG ae nt.1) xt (aA (ao.id _ _) ax) ?_
 obtain⟨uP,Oz,h⟩:=ah h
 refine g1 xt (cj rfl (yb Oz) (by simp only[bN,cl,cF,cZ,ck,cr];exact aM _ _) (lA (dT _ _) lAn) (.inl rfl)) ?_
 refine ga xt ?_
 refine s1 (au xt) ?_
 refine .nil (hK _ _ ?_)
 cases h
 exact pe0 h0 [0]
 rintro ex tm' hp' ⟨rfl,hw⟩
 refine AW.weak hw (cdh h rfl (fun z4 h=>?_) (fun z4 h=>?_))
 refine ra hx ?_
 refine AW.ret ?_
 cases h
 refine PS.r ⟨by nofun,PS.l (PR.i ?_)⟩
 exact rv2
 refine AW.skip (rb hx ?_)
 cases h
 exact PS.l (pe0 h0 [0])
 refine AW.exit ?_
 try dsimp only
 try simp only[aO,reduceIte,Nat.reduceEqDiff,reduceCtorEq]
 cases h
 exact PS.r ⟨by nofun,PS.r (PE.i (wk h0 [] wTn wVn wLn))⟩
 rcases y with r|⟨⟩
 rintro ex tm' hp' ⟨rfl,hw⟩
 cases h
 exact hw
 rintro ex tm' hp' ⟨rfl,hw⟩
 try dsimp only
 try simp only[aO,reduceIte,Nat.reduceEqDiff,reduceCtorEq]
 refine AW.weak hw (ra hx ?_)
 refine AW.ret ?_
 cases h
 exact rv2
section
theorem Dm {R C:Nat}{a:ee}{b:ap}(hR:R≤400)(hC:C≤400)(f:Nat→Nat→Nu)(hf:∀i k:Nat,i<R→k<C→mI (i:Int) (k:Int) a b=some (nv (f i k))):m3 R C a b=some (iQ R C (mkM R C f)):=by
 have H3:R*C≤400*400:=iS hR hC
 unfold m3
 rw[qi (R:=R) (C:=C) (by omega) f (by omega) (fun i hi acc wy=>?_) (fun l=>?_)]
 ·simp only[ab]
  rw[rP (by rw[br];omega)]
  simp only[ab]
  unfold iQ
  cases (mkM R C f).all cM <;> rfl
 ·unfold nj
  dsimp only
  rw[bF _ _,qP (C:=C) (by omega) (f i) acc wy (fun k hk l=>?_) (fun l=>?_)]
  ·rfl
  ·unfold mG
   dsimp only
   rw[bF _ _,hf i k hi hk]
   rfl
  ·unfold mG
   dsimp only
   rw[bA _ _]
 ·unfold nj
  dsimp only
  rw[bA _ _]
theorem Bi {R C:Nat}{a:ap}(hR:R≤400)(hC:C≤400)(f:Nat→Nat→Nu)(hf:∀i k:Nat,i<R→k<C→gg (i:Int) (k:Int) a=some (nv (f i k))):j8 R C a=some (iQ R C (mkM R C f)):=by
 have H3:R*C≤400*400:=iS hR hC
 unfold j8
 rw[qi (R:=R) (C:=C) (by omega) f (by omega) (fun i hi acc wy=>?_) (fun l=>?_)]
 ·simp only[ab]
  rw[rP (by rw[br];omega)]
  simp only[ab]
  unfold iQ
  cases (mkM R C f).all cM <;> rfl
 ·unfold jN
  dsimp only
  rw[bF _ _,qP (C:=C) (by omega) (f i) acc wy (fun k hk l=>?_) (fun l=>?_)]
  ·rfl
  ·unfold jp
   dsimp only
   rw[bF _ _,hf i k hi hk]
   rfl
  ·unfold jp
   dsimp only
   rw[bA _ _]
 ·unfold jN
  dsimp only
  rw[bA _ _]
abbrev sE(R C:Nat)(V:List Nu):Option (List Nu×List Pv):=oB R C C 0 0 V []
def lM(acc:List Pv):List Int:=acc.map fun p=>(p.col:Int)
theorem u6 {R C:Nat}:∀{n k r:Nat} {V:List Nu} {acc:List Pv} {W:List Nu} {l:List Pv},oB R C n k r V acc=some (W,l)→l.length≤acc.length+n
 |0,_,_,_,_,_,_,h=>by
  unfold oB at h
  injection h with h
  injection h with h1 h2
  rw[←h2];omega
 |n+1,k,r,V,acc,W,l,h=>by
  unfold oB at h
  split at h
  ·split at h
   ·have:=u6 h;omega
   ·split at h
    ·have:=u6 h
     rw[fg] at this
     simp at this;omega
    ·cases h
  ·injection h with h
   injection h with h1 h2
   rw[←h2];omega
theorem zF {R C:Nat}:∀{n k r:Nat} {V:List Nu} {acc:List Pv} {W:List Nu} {l:List Pv},acc.length=r→r≤R→oB R C n k r V acc=some (W,l)→l.length≤R
 |0,_,_,_,_,_,_,ha,hr,h=>by
  unfold oB at h
  injection h with h
  injection h with h1 h2
  rw[←h2];omega
 |n+1,k,r,V,acc,W,l,ha,hr,h=>by
  unfold oB at h
  split at h
  ·rename_i cg
   split at h
   ·exact zF ha hr h
   ·split at h
    ·exact zF (by rw[fg,ha];rfl) cg h
    ·cases h
  ·injection h with h
   injection h with h1 h2
   rw[←h2];omega
theorem Fo {R C:Nat}{V W:List Nu}{l:List Pv}(h:sE R C V=some (W,l)):l.length≤R:=zF (r:=0) (acc:=[]) rfl (fH _) h
section
variable {V B:List Nu} {r c:Nat}
theorem vO(hr:r≤1000)(hc:c≤1000)(hV:V.length=r*c):e9 (mS r c V)=some (AA r c (sE r c V)):=by
 have H3:r*c≤1000*1000:=iS hr hc
 unfold e9
 rw[aQ ⟨by show (0:Int)≤r;omega,by show (0:Int)≤c;omega,by show (r:Int)≤1000000;omega,by show (c:Int)≤1000000;omega,by show (r:Int).toNat*(c:Int).toNat≤1000000;rw[bh,bh];omega,by show (V.map nv).length=(r:Int).toNat*(c:Int).toNat;rw[bH,bh,bh];exact hV,okL_nv V⟩]
 show some (AA (r:Int) (c:Int) (oB (r:Int).toNat (c:Int).toNat (c:Int).toNat 0 0 ((V.map nv).map uF) []))=_
 rw[map_nv,bh,bh]
theorem KK {m:ap}{acc:List Pv}(h:acc.length≤1000000):cR ⟨m,acc.map pvS⟩=some (lM acc):=by
 unfold cR
 have:=eK (b:=eV ⟨m,acc.map pvS⟩) (fun k=>(lM (acc.take k),(k:Int))) 0 acc.length (lM acc) (fH _) (fun k _ hk=>?_) ?_
 ·rw[show (lM (acc.take 0),((0:Nat):Int))=(([]:List Int),(0:Int)) from rfl] at this
  rw[this];rfl
 ·unfold eV
  dsimp only
  have e:((acc.map pvS)[k]!).vcol=((acc[k]).col:Int):=by
   rw[yG,dZ,fI hk];rfl
  have e2:lM (acc.take k)++[((acc[k]).col:Int)]=lM (acc.take (k+1)):=by
   unfold lM
   rw[List.take_succ,fI hk,nd];rfl
  rw[bH,bF _ _,aI,bh,e,e2,aI (by unfold lM;rw[bH,ff];omega),w64]
  rfl
 ·unfold eV
  dsimp only
  rw[bH,bA _ _,Ke]
end
def Bn(R C:Int)(V:List Nu):ap×List Int×Int:=if aX R C V=0 then match sE R.toNat C.toNat V with
 |some (U,acc)=>(mS R C U,lM acc,0)
 |none=>(mZ,[],30) else (mZ,[],1)
theorem IJ {R C:Int}{V:List Nu}(hV:V.length≤1000000):i2 (mS R C V)=some (Bn R C V):=by
 unfold i2 Bn
 rw[nH hV]
 simp only[ab]
 by_cases h1:aX R C V=0
 ·rw[aQ h1]
  obtain⟨r,c,rfl,rfl,hm⟩:=cX.1 h1
  have h3:=hm.r
  have h4:=hm.c
  rw[h1,show (!decide ((0:Int)=0))=false by simp,kF,vO (by omega) (by omega) hm.len,bh,bh]
  simp only[ab]
  cases qQ:sE r c V with
  |none=>rfl
  |some p=>
   obtain⟨U,acc⟩:=p
   have:=u6 qQ
   show bnd (cR ⟨mS r c U,acc.map pvS⟩) _=_
   rw[KK (by simp at this;omega)];rfl
 ·rw[aV h1,show (!decide (aX R C V=0))=true by simp[h1],kT]
abbrev rZ:aj:=⟨⟨false,false,Vector.replicate 16 0⟩,⟨false,false,Vector.replicate 16 0⟩⟩
def pI(acc:List Pv):Int:=acc.foldl (fun s p=>if p.mov then -s else s) 1
def ur(s:Int)(acc:List Pv):Nu:=acc.foldl (fun x p=>uG x p.by') (nOf s)
def detR(n:Nat)(o:Option (List Nu×List Pv)):aj×Int:=match o with
 |none=>(rZ,30)
 |some (_,acc)=>if acc.length<n then (nv (nOf 0),0) else if cM (ur (pI acc) acc) then (nv (ur (pI acc) acc),0) else (rZ,30)
def detP(R C:Int)(V:List Nu):aj×Int:=if aX R C V=0∧R=C then detR R.toNat (sE R.toNat R.toNat V) else (rZ,1)
theorem KX(acc:List Pv)(s:Int)(h:s=1∨s=-1):acc.foldl (fun s p=>if p.mov then -s else s) s=1∨acc.foldl (fun s p=>if p.mov then -s else s) s=-1:=by
 induction acc generalizing s with
 |nil=>exact h
 |cons p acc ih=>
  rw[List.foldl_cons]
  refine ih _ ?_
  rcases h with rfl|rfl <;> cases p.mov <;> simp
theorem Pj {acc:List Pv}{k:Nat}(hk:k<acc.length):(acc.map pvS)[k]! =pvS acc[k]:=by
 rw[yG,dZ,fI hk];rfl
theorem P_Det {R C:Int}{V:List Nu}(hV:V.length≤1000000):m4 (mS R C V)=some (detP R C V):=by
 unfold m4 detP
 rw[nH hV]
 simp only[ab,kOr]
 by_cases h0:aX R C V=0∧R=C
 ·rw[aQ h0]
  obtain⟨h1,rfl⟩:=h0
  obtain⟨r,c,rfl,hc,hm⟩:=cX.1 h1
  obtain rfl:r=c:=by omega
  have h3:=hm.r
  rw[h1,show (!decide ((0:Int)=0)||decide ((r:Int)≠r))=false by simp,kF,vO (by omega) (by omega) hm.len,bh]
  simp only[ab]
  cases qQ:sE r r V with
  |none=>rfl
  |some p=>
   obtain⟨U,acc⟩:=p
   have hal:=u6 qQ
   rw[List.length_nil,dA] at hal
   rw[show AA (r:Int) (r:Int) (some (U,acc))=((⟨mS r r U,acc.map pvS⟩:ee),(0:Int)) from rfl]
   dsimp only
   rw[bA _ _ (by simp),bH]
   unfold detR
   by_cases hl:acc.length<r
   ·rw[bF _ _,uOf]
    dsimp only
    rw[aQ hl];rfl
   ·rw[bA _ _]
    dsimp only
    rw[aV hl]
    have k1:=eK (b:=kj (⟨mS r r U,acc.map pvS⟩,0)) (fun k=>(pI (acc.take k),(k:Int))) 0 acc.length (pI acc) (fH _) (fun k _ hk=>?_) ?_
    ·rw[show (pI (acc.take 0),((0:Nat):Int))=((1:Int),(0:Int)) from rfl] at k1
     rw[k1]
     simp only[ab]
     have hs:=KX acc 1 (.inl rfl)
     rw[uOf (by show -9223372036854775808≤pI acc;unfold pI;omega) (by show pI acc≤_;unfold pI;omega)]
     simp only[ab]
     have k2:=eK (b:=kg (⟨mS r r U,acc.map pvS⟩,0)) (fun k=>((k:Int),nv (ur (pI acc) (acc.take k)))) 0 acc.length (nv (ur (pI acc) acc)) (fH _) (fun k _ hk=>?_) ?_
     ·rw[show (((0:Nat):Int),nv (ur (pI acc) (acc.take 0)))=((0:Int),nv (nOf (pI acc))) from rfl] at k2
      rw[k2]
      simp only[ab,Nr]
      cases cM (ur (pI acc) acc) <;> rfl
     ·unfold kg
      dsimp only
      rw[bH,bF _ _,aI,bh,Pj hk]
      show bnd (eO (nv (ur (pI acc) (acc.take k))) (nv (acc[k]).by')) _=_
      rw[uMul]
      simp only[ab]
      rw[w64]
      have:ur (pI acc) (acc.take (k+1))=uG (ur (pI acc) (acc.take k)) (acc[k]).by':=by
       unfold ur
       rw[List.take_succ,fI hk,List.foldl_append];rfl
      rw[this];rfl
     ·unfold kg
      dsimp only
      rw[bH,bA _ _,Ke]
    ·unfold kj
     dsimp only
     rw[bH,bF _ _,aI,bh,Pj hk]
     have hs:=KX (acc.take k) 1 (.inl rfl)
     have e2:pI (acc.take (k+1))=if (acc[k]).mov then -pI (acc.take k) else pI (acc.take k):=by
      unfold pI
      rw[List.take_succ,fI hk,List.foldl_append];rfl
     rw[e2]
     show bnd (cnd (acc[k]).mov _ _) _=_
     have w1:i64.wrap (0 - pI (acc.take k))=-pI (acc.take k):=by
      rw[w64 (by unfold pI;omega) (by unfold pI;omega)];omega
     rw[w1,w64 (n:=(k:Int)+1)]
     cases (acc[k]).mov <;> rfl
    ·unfold kj
     dsimp only
     rw[bH,bA _ _,Ke]
 ·rw[aV h0]
  have e:(!decide (aX R C V=0)||decide (R≠C))=true:=by
   by_cases a:aX R C V=0
   ·by_cases b:R=C
    ·exact absurd ⟨a,b⟩ h0
    ·simp[b]
   ·simp[a]
  rw[e,kT]
theorem Do {l:List Int}(h:l.length≤1000000)(v:Int):dQ l v=some (l.any fun x=>decide (v=x)):=by
 unfold dQ ia
 have key:=Bt (b:=eL l v) (n:=l.length) h (fun i=>decide (v=l[i]!)) (fun i hi=>by
  unfold eL
  rw[bF _ _,aI,bh]) (by
  unfold eL
  rw[bA _ _])
 rw[LE l (fun x=>decide (v=x))] at key
 rcases key with⟨h1,h2⟩|⟨j,h1,h2⟩ <;> rw[h1,h2]
 ·rfl
 ·simp[bnd]
def solvR(c:Nat)(o:Option (List Nu×List Pv)):List aj×Int:=match o with
 |none=>([],30)
 |some (U,acc)=>if (lM acc).any (fun x=>decide ((c:Int)=x)) then ([],200) else if acc.length<c then ([],70) else (((List.range acc.length).map fun i=>U[i*(c+1)+c]!).map nv,0)
def Hv(R C:Int)(A b:List Nu):List aj×Int:=if aX R C A=0∧(b.length:Int)=R∧b.all cM=true then (if 200<C+1 then ([],2) else solvR C.toNat (sE R.toNat (C.toNat+1) (mkM R.toNat (C.toNat+1) (uL C.toNat 1 A b)))) else ([],1)
theorem bes1 {r c:Nat}{A b:List Nu}(hm:MV r c A)(hb:b.length=r)(hg:b.all cM=true):MV r 1 b:=⟨hm.r,by decide,by rw[hb,uc],hg⟩
theorem LB {r c c':Nat}{A B:List Nu}(hm:MV r c A)(tU:MV r c' B)(hc:(200:Int)<(c:Int)+(c':Int)):Eg (r:Int) (c:Int) A (r:Int) (c':Int) B=(mZ,2):=by
 unfold Eg
 rw[aQ ⟨hm.chk,tU.chk,rfl⟩,aQ hc]
theorem LA {r c c':Nat}{A B:List Nu}(hm:MV r c A)(tU:MV r c' B)(hc:¬(200:Int)<(c:Int)+(c':Int)):Eg (r:Int) (c:Int) A (r:Int) (c':Int) B=(mS r ((c+c':Nat):Int) (mkM r (c+c') (uL c c' A B)),0):=by
 unfold Eg
 rw[aQ ⟨hm.chk,tU.chk,rfl⟩,aV hc,show ((c:Int)+(c':Int))=((c+c':Nat):Int) by omega]
 simp only[bh]
 exact P3 hm tU
theorem GM {R C:Int}{A b:List Nu}(hA:A.length≤1000000)(hb:b.length≤1000000):iE (mS R C A) (b.map nv)=some (Hv R C A b):=by
 unfold iE Hv
 rw[nH hA]
 simp only[ab,rP hb,kOr,bH]
 by_cases h0:aX R C A=0∧(b.length:Int)=R∧b.all cM=true
 ·rw[aQ h0]
  obtain⟨h1,h2,h5⟩:=h0
  obtain⟨r,c,rfl,rfl,hm⟩:=cX.1 h1
  have h3:=hm.r
  have h4:=hm.c
  have Mt:=bes1 hm (by omega) h5
  rw[h1,h5,show (!decide ((0:Int)=0)||(decide ((b.length:Int)≠(r:Int))||!true))=false by simp[h2],kF]
  rw[show (⟨(r:Int),(1:Int),b.map nv⟩:ap)=mS (r:Int) ((1:Nat):Int) b from rfl,Dp hA hb]
  by_cases hc:(200:Int)<(c:Int)+((1:Nat):Int)
  ·rw[LB hm Mt hc,aQ (show (200:Int)<(c:Int)+1 by omega)];rfl
  ·rw[LA hm Mt hc,aV (show ¬(200:Int)<(c:Int)+1 by omega)]
   simp only[ab,bh]
   rw[bA _ _ (by simp),vO (by omega) (by omega) br]
   simp only[ab]
   cases qQ:sE r (c+1) (mkM r (c+1) (uL c 1 A b)) with
   |none=>rfl
   |some p=>
    obtain⟨U,acc⟩:=p
    have hal:=u6 qQ
    rw[List.length_nil,dA] at hal
    have hU:=n5 br qQ
    have hle:acc.length≤r:=Fo qQ
    have H3:r*(c+1)≤200*201:=iS h3 (by omega)
    show cnd (decide ((0:Int)≠0)) _ (bnd (cR ⟨mS r ((c+1:Nat):Int) U,acc.map pvS⟩) _)=_
    rw[bA _ _ (by simp),KK (by omega)]
    simp only[ab]
    rw[Do (by unfold lM;rw[bH];omega)]
    simp only[ab]
    unfold solvR
    dsimp only
    cases hany:(lM acc).any fun x=>decide ((c:Int)=x) with
    |true=>rfl
    |false=>
     rw[kF]
     show cnd (decide (((acc.map pvS).length:Int)<(c:Int))) _ (bnd (bf (gl (mS r c A) (⟨mS r ((c+1:Nat):Int) U,acc.map pvS⟩,0)) (([]:List aj),(0:Int))) _)=_
     rw[bH]
     by_cases hl:acc.length<c
     ·rw[bF _ _,aQ hl];rfl
     ·rw[bA _ _,aV hl]
      have key:=eK (b:=gl (mS r c A) (⟨mS r ((c+1:Nat):Int) U,acc.map pvS⟩,0)) (fun k=>(((List.range k).map fun i=>U[i*(c+1)+c]!).map nv,(k:Int))) 0 acc.length (((List.range acc.length).map fun i=>U[i*(c+1)+c]!).map nv) (fH _) (fun k _ hk=>?_) ?_
      ·rw[show (((List.range 0).map fun i=>U[i*(c+1)+c]!).map nv,((0:Nat):Int))=(([]:List aj),(0:Int)) from rfl] at key
       rw[key];rfl
      ·unfold gl
       dsimp only
       rw[bH,bF _ _,vP hU (by omega) (by omega) (by omega)]
       simp only[ab]
       rw[aI (by simp;omega),w64,w7]
       simp
      ·unfold gl
       dsimp only
       rw[bH,bA _ _]
 ·rw[aV h0]
  have e:(!decide (aX R C A=0)||(decide ((b.length:Int)≠R)||!b.all cM))=true:=by
   by_cases a:aX R C A=0
   ·by_cases d:(b.length:Int)=R
    ·by_cases e:b.all cM=true
     ·exact absurd ⟨a,d,e⟩ h0
     ·simp only[Bool.not_eq_true] at e;simp[e]
    ·simp[d]
   ·simp[a]
  rw[e,kT]
end
theorem Jp {R:Type}{n:Nat}(hn:n≤1000000)(ok:Nat→Bool)(res:R){b:Int→Option (Int⊕(R⊕Unit))}(h:∀i:Nat,i<n→b i=cnd (!ok i) (some (.inr (.inl res))) (some (.inl (i64.wrap ((i:Int)+(1:Int))))))(he:b n=some (.inr (.inr ()))):
  bf b (0:Int)=some (if (List.range n).all ok then .inr () else .inl res):=by
 have key:∀m i:Nat,i+m=n→bf b (i:Int)=some (if (List.range' i m).all ok then .inr () else .inl res):=by
  intro m
  induction m with
  |zero=>
       intro i hi;obtain rfl:i=n:=by omega
       exact eF he
  |succ m ih=>
   intro i hi
   have hb:=h i (by omega)
   rw[yF,cF]
   cases hk:ok i with
   |false=>
    rw[hk] at hb
    rw[eF (by rw[hb];rfl)];rfl
   |true=>
    rw[hk,w64] at hb
    rw[lS (by rw[hb];rfl)]
    exact ih (i+1) (by omega)
 rw[show ((0:Int))=((0:Nat):Int) from rfl,key n 0 (by omega),EV]
theorem dne {α:Type}[DecidableEq α](a b:α):decide (a≠b)= !decide (a=b):=by by_cases h:a=b <;> simp[h]
theorem id_MV {n:Nat}(h:n≤200):MV n n (mkM n n idF):=⟨h,h,br,Fu.2 fun i k _ _=>HW i k⟩
def PF(acc:List Pv):Bool:=(List.range acc.length).all fun i=>decide ((((acc.map pvS)[i]!).vcol:Int)=i)
def invF(n:Nat)(U:List Nu)(i k:Nat):Nu:=U[i*(n+n)+(n+k)]!
def invR(n:Nat)(o:Option (List Nu×List Pv)):ap×Int:=match o with
 |none=>(mZ,30)
 |some (U,acc)=>if PF acc then iQ n n (mkM n n (invF n U)) else (mZ,70)
def invP(R C:Int)(A:List Nu):ap×Int:=if aX R C A=0∧R=C then (if 200<R+R then (mZ,2) else invR R.toNat (sE R.toNat (R.toNat+R.toNat) (mkM R.toNat (R.toNat+R.toNat) (uL R.toNat R.toNat A (mkM R.toNat R.toNat idF))))) else (mZ,1)
theorem idP_nat {n:Nat}(h:n≤200):idP (n:Int)=mS n n (mkM n n idF):=by
 unfold idP
 rw[ifn_,bh]
theorem P_Inverse {R C:Int}{A:List Nu}(hA:A.length≤1000000):th (mS R C A)=some (invP R C A):=by
 unfold th invP
 rw[nH hA]
 simp only[ab,kOr]
 by_cases h0:aX R C A=0∧R=C
 ·rw[aQ h0]
  obtain⟨h1,rfl⟩:=h0
  obtain⟨n,c,rfl,hc,hm⟩:=cX.1 h1
  obtain rfl:n=c:=by omega
  have h3:=hm.r
  rw[h1,show (!decide ((0:Int)=0)||decide ((n:Int)≠n))=false by simp,kF,xK]
  simp only[ab]
  rw[idP_nat h3,Dp hA (by rw[br];have:=hm.rc;omega)]
  have hi:=id_MV h3
  by_cases hb:(200:Int)<(n:Int)+(n:Int)
  ·rw[LB hm hi hb,aQ hb];rfl
  ·rw[LA hm hi hb,aV hb]
   simp only[ab,bh]
   rw[bA _ _ (by simp),vO (by omega) (by omega) br]
   simp only[ab]
   cases qQ:sE n (n+n) (mkM n (n+n) (uL n n A (mkM n n idF))) with
   |none=>rfl
   |some p=>
    obtain⟨U,acc⟩:=p
    have hU:=n5 br qQ
    have hle:acc.length≤n:=Fo qQ
    have H3:n*(n+n)≤200*200:=iS h3 (by omega)
    rw[show AA (n:Int) ((n+n:Nat):Int) (some (U,acc))=((⟨mS n ((n+n:Nat):Int) U,acc.map pvS⟩:ee),(0:Int)) from rfl]
    dsimp only
    rw[bA _ _ (by simp)]
    rw[Jp (b:=jw (⟨mS n ((n+n:Nat):Int) U,acc.map pvS⟩,0)) (n:=acc.length) (by omega) (fun i=>decide ((((acc.map pvS)[i]!).vcol:Int)=i)) (mZ,70) (fun i hi2=>?_) ?_]
    ·unfold invR
     dsimp only
     show bnd (some (if PF acc then _ else _)) _=_
     cases hd:PF acc with
     |false=>rfl
     |true=>
      show bnd (m3 (n:Int) (n:Int) ⟨mS n ((n+n:Nat):Int) U,acc.map pvS⟩ (mS n n A)) _=_
      rw[Dm (by omega) (by omega) (invF n U) (fun i k hi2 hk=>?_)]
      ·rfl
      ·unfold mI
       dsimp only
       rw[w64,show (n:Int)+(k:Int)=((n+k:Nat):Int) by omega,vP hU (by omega) hi2 (by omega)]
       rfl
    ·unfold jw
     dsimp only
     rw[bH,bA _ _]
    ·unfold jw
     dsimp only
     rw[bH,bF _ _,aI,bh,dne]
 ·rw[aV h0]
  have e:(!decide (aX R C A=0)||decide (R≠C))=true:=by
   by_cases a:aX R C A=0
   ·by_cases b:R=C
    ·exact absurd ⟨a,b⟩ h0
    ·simp[b]
   ·simp[a]
  rw[e,kT]
def J5(acc:List Pv)(i:Nat):Nat:=(acc[i]!).col
def rm(C:Nat)(U:List Nu)(acc:List Pv)(k:Nat):Nat→List Nu
 |0=>(List.replicate C (nOf 0)).set k (nOf 1)
 |n+1=>if J5 acc n<k then (rm C U acc k n).set (J5 acc n) (N8 U[n*C+k]!) else rm C U acc k n
theorem v5 {C:Nat}{U:List Nu}{acc:List Pv}{k:Nat}:∀n,(rm C U acc k n).length=C
 |0=>by simp[rm]
 |n+1=>by
  unfold rm
  split
  ·rw[CK];exact v5 n
  ·exact v5 n
def ym(C:Nat)(acc:List Pv):List Nat:=(List.range C).filter fun k=>!(lM acc).any fun x=>decide ((k:Int)=x)
def nullR(C:Nat)(o:Option (List Nu×List Pv)):List (List Nu)×Int:=match o with
 |none=>([],30)
 |some (U,acc)=>((ym C acc).map fun k=>rm C U acc k acc.length,0)
def K4(R C:Int)(V:List Nu):List (List Nu)×Int:=if aX R C V=0 then nullR C.toNat (sE R.toNat C.toNat V) else ([],1)
theorem MJ {acc:List Pv}{i:Nat}(h:i<acc.length):(lM acc)[i]! =((J5 acc i:Nat):Int):=by
 unfold lM J5
 rw[yG,yG,dZ,fI h];rfl
theorem Jm {C:Nat}{acc:List Pv}:ym (C+1) acc=ym C acc++if ((lM acc).any fun x=>decide ((C:Int)=x)) then [] else [C]:=by
 unfold ym
 rw[w7,List.filter_append]
 congr 1
 rw[Km]
 cases ((lM acc).any fun x=>decide ((C:Int)=x)) <;> rfl
theorem P_Null {R C:Int}{V:List Nu}(hV:V.length≤1000000):lZ (mS R C V)=some ((K4 R C V).1.map (List.map nv),(K4 R C V).2):=by
 unfold lZ K4
 rw[nH hV]
 simp only[ab]
 by_cases h1:aX R C V=0
 ·rw[aQ h1]
  obtain⟨r,c,rfl,rfl,hm⟩:=cX.1 h1
  have h3:=hm.r
  have h4:=hm.c
  have h5:=hm.rc
  rw[h1,show (!decide ((0:Int)=0))=false by simp,kF,vO (by omega) (by omega) hm.len,bh,bh]
  simp only[ab]
  cases qQ:sE r c V with
  |none=>rfl
  |some p=>
   obtain⟨U,acc⟩:=p
   have hU:=n5 hm.len qQ
   have hle:acc.length≤r:=Fo qQ
   rw[show AA (r:Int) (c:Int) (some (U,acc))=((⟨mS r c U,acc.map pvS⟩:ee),(0:Int)) from rfl]
   dsimp only
   rw[bA _ _ (by simp),KK (by omega)]
   simp only[ab]
   have key:=eK (b:=jv (mS r c V) (⟨mS r c U,acc.map pvS⟩,0) (lM acc)) (fun k=>(((ym k acc).map fun j=>rm c U acc j acc.length).map (List.map nv),(k:Int))) 0 c (((ym c acc).map fun j=>rm c U acc j acc.length).map (List.map nv)) (fH _) (fun k _ hk=>?_) ?_
   ·rw[show (((ym 0 acc).map fun j=>rm c U acc j acc.length).map (List.map nv),((0:Nat):Int))=(([]:List (List aj)),(0:Int)) from rfl] at key
    rw[key];rfl
   ·unfold jv
    dsimp only
    have hkl:(ym k acc).length≤k:=by unfold ym;exact da (Gk _ _) (by rw[Gv];omega)
    rw[bF _ _,Do (by unfold lM;rw[bH];omega),Jm]
    simp only[ab]
    cases hany:(lM acc).any fun x=>decide ((k:Int)=x) with
    |true=>
     rw[kT]
     simp only[ab]
     rw[w64];simp only[aO,vo];rfl
    |false=>
     rw[kF,uOf]
     simp only[ab]
     have dK:gT [nv (nOf 0)] (c:Int)=some ((List.replicate c (nOf 0)).map nv):=by
      unfold gT
      dsimp only
      rw[aQ ⟨(nOf 0).2,by omega,by omega⟩,bh,LG]
     rw[dK,uOf]
     simp only[ab]
     rw[aI ⟨by omega,by rw[bH,vh];omega,by rw[bH,vh];omega⟩,bh,←List.map_set]
     have inner:=eK (b:=ju (⟨mS r c U,acc.map pvS⟩,0) (lM acc) (k:Int) ((List.replicate c (nOf 0)).map nv)) (fun n=>((n:Int),(rm c U acc k n).map nv)) 0 acc.length ((rm c U acc k acc.length).map nv) (fH _) (fun n _ hn=>?_) ?_
     ·rw[show (((0:Nat):Int),(rm c U acc k 0).map nv)=((0:Int),((List.replicate c (nOf 0)).set k (nOf 1)).map nv) from rfl] at inner
      rw[inner]
      simp only[ab]
      rw[aI (by simp[v5]),aI (by simp;omega),w64]
      simp only[ab]
      simp only[Bool.false_eq_true,vj,nd];rfl
     ·unfold ju
      dsimp only
      have Ci:(lM acc).length=acc.length:=by unfold lM;rw[bH]
      rw[Ci,bF _ _,aI,bh,MJ hn]
      rw[show rm c U acc k (n+1)=if J5 acc n<k then (rm c U acc k n).set (J5 acc n) (N8 U[n*c+k]!) else rm c U acc k n from rfl]
      by_cases cg:J5 acc n<k
      ·rw[bF _ _,aQ cg,vP hU (by omega) (by omega) hk]
       simp only[ab,uNeg]
       rw[aI ⟨by omega,by rw[bH,vh];omega,by rw[bH,v5];omega⟩,bh,←List.map_set,w64]
       rfl
      ·rw[bA _ _,aV cg]
       simp only[ab]
       rw[w64];rfl
     ·unfold ju
      dsimp only
      rw[show (lM acc).length=acc.length by unfold lM;rw[bH],bA _ _]
   ·unfold jv
    dsimp only
    rw[bA _ _]
 ·rw[aV h1,show (!decide (aX R C V=0))=true by simp[h1],kT];rfl
def z9(n:Nat)(o:Option (List Nu×List Pv)):Nu×Int:=match o with
 |none=>(nOf 0,30)
 |some (_,acc)=>if acc.length<n then (nOf 0,0) else if cM (ur (pI acc) acc) then (ur (pI acc) acc,0) else (nOf 0,30)
theorem detR_eq(n:Nat)(o:Option (List Nu×List Pv)):detR n o=(if (z9 n o).2=0 then nv (z9 n o).1 else rZ,(z9 n o).2):=by
 unfold detR z9
 cases o with
 |none=>rfl
 |some p=>
  obtain⟨U,acc⟩:=p
  dsimp only
  split
  ·rfl
  ·split <;> rfl
def ux(n:Nat)(V:List Nu)(i k:Nat):Nu:=V[i*n+k]!
def Ma(n:Nat)(V:List Nu):Nat→Nat→Bool×Int
 |0,_=>(true,0)
 |m+1,j=>if (z9 j (sE j j (mkM j j (ux n V)))).2≠0∨va (z9 j (sE j j (mkM j j (ux n V)))).1≤0 then (false,(z9 j (sE j j (mkM j j (ux n V)))).2) else Ma n V m (j+1)
def symP(n:Nat)(V:List Nu):Bool:=(List.range n).all fun i=>(List.range i).all fun k=>decide (V[i*n+k]! =V[k*n+i]!)
def K1(R C:Int)(V:List Nu):Bool×Int:=if aX R C V=0∧R=C then (if symP R.toNat V then Ma R.toNat V R.toNat 1 else (false,0)) else (false,1)
theorem lead_MV {n j:Nat}{V:List Nu}(hm:MV n n V)(hj:j≤n):MV j j (mkM j j (ux n V)):=⟨da hj hm.r,da hj hm.r,br,Fu.2 fun i k hi hk=>hm.gd (cK (by omega) (by omega))⟩
theorem Dn {R C:Int}{V:List Nu}(hV:V.length≤1000000):gI (mS R C V)=some (K1 R C V):=by
 unfold gI K1
 rw[nH hV]
 simp only[ab,kOr]
 by_cases h0:aX R C V=0∧R=C
 ·rw[aQ h0]
  obtain⟨h1,rfl⟩:=h0
  obtain⟨n,c,rfl,hc,hm⟩:=cX.1 h1
  obtain rfl:n=c:=by omega
  have h3:=hm.r
  have h5:=hm.rc
  rw[h1,show (!decide ((0:Int)=0)||decide ((n:Int)≠n))=false by simp,kF,bh]
  rw[Jp (b:=gf (mS n n V)) (n:=n) (by omega) (fun i=>(List.range i).all fun k=>decide (V[i*n+k]! =V[k*n+i]!)) (false,0) (fun i hi=>?_) ?_]
  ·show bnd (some (if symP n V then _ else _)) _=_
   cases hs:symP n V with
   |false=>rfl
   |true=>
    show bnd (bf (ek (mS n n V)) (1:Int)) _=some (Ma n V n 1)
    have key:∀m j:Nat,j+m=n+1→∃z,bf (ek (mS n n V)) (j:Int)=some z∧((z=.inr ()∧Ma n V m j=(true,0))∨z=.inl (Ma n V m j)):=by
     intro m
     induction m with
     |zero=>
      intro j hj
      refine⟨.inr (),eF ?_,.inl ⟨rfl,rfl⟩⟩
      unfold ek
      dsimp only
      rw[bA _ _]
     |succ m ih=>
      intro j hj
      have hb:ek (mS n n V) (j:Int)=if (z9 j (sE j j (mkM j j (ux n V)))).2≠0∨va (z9 j (sE j j (mkM j j (ux n V)))).1≤0 then some (.inr (.inl (false,(z9 j (sE j j (mkM j j (ux n V)))).2))) else some (.inl ((j+1:Nat):Int)):=by
       unfold ek
       dsimp only
       have hl:=lead_MV hm (show j≤n by omega)
       rw[bF _ _,Bi (by omega) (by omega) (ux n V) (fun i k hi hk=>by unfold gg;rw[vP hm.len (by omega) (by omega) (by omega)];rfl)]
       simp only[ab]
       rw[tP (f:=ux n V) fun i k hi hk=>hm.gd (cK (show i<n by omega) (show k<n by omega))]
       dsimp only
       rw[P_Det (by rw[br];have:=hl.rc;omega)]
       unfold detP
       rw[aQ ⟨hl.chk,rfl⟩,bh,detR_eq]
       simp only[ab]
       generalize z9 j (sE j j (mkM j j (ux n V)))=d
       by_cases hd:d.2=0
       ·rw[bA _ _ (by simpa using hd),aQ hd,uSign]
        simp only[ab]
        by_cases JC:va d.1≤0
        ·rw[bF _ _ JC,aQ (.inr JC)]
        ·rw[bA _ _ JC,aV (by intro h;rcases h with h|h;exact h hd;exact JC h),w64];rfl
       ·rw[bF _ _ hd,aQ (.inl hd)]
        simp only[ab]
        rw[kT]
      unfold Ma
      by_cases hd:(z9 j (sE j j (mkM j j (ux n V)))).2≠0∨va (z9 j (sE j j (mkM j j (ux n V)))).1≤0
      ·rw[aQ hd] at hb
       rw[aQ hd]
       exact⟨_,eF hb,.inr rfl⟩
      ·rw[aV hd] at hb
       rw[aV hd,lS hb]
       exact ih (j+1) (by omega)
    obtain⟨z,hz,h6⟩:=key n 1 (by omega)
    rw[show (((1:Nat):Int))=1 from rfl] at hz
    rw[hz]
    rcases h6 with⟨rfl,h6⟩|rfl
    ·rw[h6];rfl
    ·rfl
  ·unfold gf
   dsimp only
   rw[bA _ _]
  ·unfold gf
   dsimp only
   rw[bF _ _,Jp (b:=ge (mS n n V) (i:Int)) (n:=i) (by omega) (fun k=>decide (V[i*n+k]! =V[k*n+i]!)) (false,0) (fun k hk=>?_) ?_]
   ·simp only[ab]
    cases (List.range i).all fun k=>decide (V[i*n+k]! =V[k*n+i]!) <;> rfl
   ·unfold ge
    try dsimp only
    rw[bA _ _]
   ·unfold ge
    try dsimp only
    rw[bF _ _,vP hm.len (by omega) hi (by omega),vP hm.len (by omega) (by omega) hi]
    simp only[ab,nv_eq]
    have:decide (¬V[i*n+k]! =V[k*n+i]!)= !decide (V[i*n+k]! =V[k*n+i]!):=dne _ _
    rw[this]
 ·rw[aV h0]
  have e:(!decide (aX R C V=0)||decide (R≠C))=true:=by
   by_cases a:aX R C V=0
   ·by_cases b:R=C
    ·exact absurd ⟨a,b⟩ h0
    ·simp[b]
   ·simp[a]
  rw[e,kT]
def nD(iJ:List Int):Int×(List aj)→Option ((Int×(List aj))⊕((List aj))):=fun (aL,a6)=>cnd (decide (aL<((iJ).length:Int))) (gd (0≤aL∧aL<((iJ).length:Int)) (bnd (fk ((iJ)[(aL).toNat]!)) fun x4=>gd ((a6++[x4]).length*136≤140737488355328) (some (.inl (i64.wrap (aL+(1:Int)),a6++[x4]))))) (some (.inr a6))
def gm(bL:Int)(bz:Int)(iJ:List Int):Option ap:=bnd (bf (nD iJ) ((0:Int),([]:List aj))) fun aD=>some (⟨bL,bz,aD⟩:ap)
theorem kU {bL:Int}{bz:Int}{iJ:List Int}{r:ap}(h:gm bL bz iJ=some r):aB prog 59 [dI .i64 bL,dI .i64 bz,dL (cI .i64) iJ] (dG aE r):=by
 refine bC (rs:=[.cell 6 24]) (fun cx hx h0=>?_) func59
 unfold gm at h
 refine rs hx fun K hK=>?_
 refine s1 (d:=.pt 0 0) (bc aq) ?_
 refine .nil (hK _ _ (rs hx fun K hK=>?_))
 iterate 2 refine sa ?_
 refine s1 (d:=.ag [dI .i64 bL,dI .i64 bz,dN]) (bE aq) ?_
 refine s1 (d:=.pt 1 0) (bc aq) ?_
 refine s0 (bO (ds':=[dI .i64 bL,dI .i64 bz,dN]) aq) ?_
 refine .nil (hK _ _ (AW.seq (ra hx ?_)))
 refine AW.block ?_
 obtain⟨aD,hy,h⟩:=ah h
 refine lp (S:=Int×(List aj)) (X:=(List aj)) (fun (aL,a6)=>[(6,.pt 0 0),(7,.pt 1 0),(13,dL (cI .i64) iJ),(14,dI .i64 ((iJ).length:Int)),(15,dI .i64 aL)]) (fun (aL,a6)=>⟨[(0,[dI .i64 (0:Int),dI .i64 (0:Int),dN]),(1,[dI .i64 bL,dI .i64 bz,dO 2 ae a6])],[(2,(a6).length,36,34)],3⟩) (PE cx (.exit 0) (fun aD=>[(6,.pt 0 0),(7,.pt 1 0)]) fun aD=>⟨[(0,[dI .i64 (0:Int),dI .i64 (0:Int),dN]),(1,[dI .i64 bL,dI .i64 bz,dO 2 ae aD])],[(2,(aD).length,36,34)],3⟩) hy ?_ ?_ ?_
 exact Wk.trans (Wk.nilOwn (ds':=[dI .i64 bL,dI .i64 bz,dO 2 ae ([]:List aj)]) 1 2 34 36) (wk h0 [0,1,2] (wR rfl (wR rfl (wR rfl (wR rfl (wR rfl wTn))))) (vR rfl (vR rfl wVn)) (wL rfl rfl wLn))
 clear hy h
 rintro⟨aL,a6⟩ y h
 dsimp only[nD] at h
 refine ra hx ?_
 refine AW.seq (cdh h rfl (fun cE h=>?_) (fun cE h=>?_))
 refine AW.skip (AW.seq (AW.block (rs hx fun K hK=>?_)))
 obtain⟨pg,h⟩:=az h
 have rz:(aL).toNat<(iJ).length:=by omega
 refine s1 (ej pg cz aT) ?_
 refine s1 (qv (c:=(cI .i64)) (l:=iJ) (n:=(aL).toNat) (o:=0) aT rz) ?_
 refine sa ?_
 refine .nil (hK _ _ (rqd [60] hx fun K hK=>?_))
 refine sa ?_
 refine s1 (aG aF) ?_
 refine sa ?_
 refine cqb h jA fun x4 h=>?_
 refine s1 (iM ([x4]:List aj) ae aF ax) ?_
 obtain⟨Mz,h⟩:=az h
 refine s1 (d:=dO 2 ae (a6++[x4])) (gc aF ax Mz) ?_
 refine sa ?_
 refine s0 (bO (ds':=[dI .i64 bL,dI .i64 bz,dO 2 ae (a6++[x4])]) aF) ?_
 refine .nil (hK _ _ (rb hx ?_))
 cases h
 exact PS.l (pe0 h0 [0,1,2])
 refine AW.exit ?_
 try dsimp only
 try simp only[aO,reduceIte,Nat.reduceEqDiff,reduceCtorEq]
 cases h
 exact PS.r ⟨by nofun,PE.i (wk h0 [0,1,2] (wR rfl (wR rfl wTn)) (vR rfl (vR rfl wVn)) (wL rfl rfl wLn))⟩
 rintro ex tm' hp' ⟨rfl,hw⟩
 try dsimp only
 try simp only[aO,reduceIte,Nat.reduceEqDiff,reduceCtorEq]
 refine AW.weak hw (rs hx fun K hK=>?_)
 refine s1 (d:=.ag [dI .i64 bL,dI .i64 bz,dO 2 ae aD]) (bb aq) ?_
 refine s0 (bO (ds':=[dI .i64 bL,dI .i64 bz,dO 2 ae aD]) aq) ?_
 refine .nil (hK _ _ (AW.ret ?_))
 cases h
 exact dh.mk1 (bJ (es:=[dI .i64 bL,dI .i64 bz,dO 2 ae aD]) rfl aq rfl rfl (ltb rfl) (leb rfl) rfl (.inr (.inr ⟨_,(eA (wc (co _) (wc (co _) (wc (A5 _) wcn)))),rfl,rfl⟩)))
def ic(iJ:List Int):Option (List aj):=bnd (gm (1:Int) ((iJ).length:Int) iJ) fun x1=>some x1.vV
theorem ox {iJ:List Int}{r:List aj}(h:ic iJ=some r):aB prog 36 [dL (cI .i64) iJ] (dL ae r):=by
 refine bC (rs:=[.tmp 2]) (fun cx hx h0=>?_) func36
 unfold ic at h
 refine rs hx fun K hK=>?_
 refine s1 (d:=dO 0 ae ([]:List aj)) (eZ aF ax) ?_
 refine .nil (hK _ _ (rs hx fun K hK=>?_))
 iterate 3 refine sa ?_
 refine scb h kU fun x1 h=>?_
 refine s1 (T_fldC aq aF) ?_
 refine sa ?_
 refine .nil (hK _ _ (AW.ret ?_))
 cases h
 exact rv1
def fT(cQ:ap)(p_e:Int)(Jk:bp):Option Bool:=bnd (S:=Bool) (cnd (decide (p_e=Jk.vE)) (bnd (e7 cQ Jk.vM) fun x2=>some (x2)) (some (false))) fun gF=>some gF
theorem mP {cQ:ap}{p_e:Int}{Jk:bp}{r:Bool}(h:fT cQ p_e Jk=some r):aB prog 25 [dG aE cQ,dI .i64 p_e,dG dX Jk] (dB r):=by
 refine bC (rs:=[.tmp 6]) (fun cx hx h0=>?_) func25
 unfold fT at h
 refine rs hx fun K hK=>?_
 refine s1 (d:=.pt 0 0) d8 ?_
 refine s1 (d:=.pt 1 0) d8 ?_
 refine sa ?_
 refine .nil (hK _ _ (AW.seq ?_))
 obtain⟨gF,hy,h⟩:=ah h
 refine jn ((PE cx .normal (fun gF=>[(6,dB gF)]) fun gF=>⟨[],[],0⟩) gF) ?_ ?_
 replace h:=hy
 refine rq hx fun K hK=>?_
 iterate 2 refine sa ?_
 refine s1 (aG Hs) ?_
 iterate 2 refine sa ?_
 rcases aW (decide (p_e=Jk.vE)) with cE|cE
 replace h:=aY cE h
 refine g1 (d:=dG aE cQ) cE (bb aq) ?_
 refine ga cE ?_
 refine g1 (d:=dG aE Jk.vM) cE (bb aq) ?_
 obtain⟨x2,Mm,h⟩:=ah h
 refine g1 cE (cj rfl (oo Mm) (by simp only[bN,cl,cF,cZ,ck,cr];exact⟨aM _ _,aM _ _⟩) (lA (al _) (lA (al _) lAn)) (.inl rfl)) ?_
 refine s1 (am cE) ?_
 refine sa ?_
 refine .nil (hK _ _ ?_)
 cases h
 exact pe0 h0 []
 replace h:=aZ cE h
 iterate 4 refine aJ rfl rfl cE ?_
 refine s1 (au cE) ?_
 refine sa ?_
 refine .nil (hK _ _ ?_)
 cases h
 exact pe0 h0 []
 rintro ex tm' hp' ⟨rfl,hw⟩
 refine AW.weak hw (AW.ret ?_)
 cases h
 exact rv1
def kq :Option Bool:=bnd (gm (2:Int) (2:Int) [(1:Int),(2:Int),(3:Int),(4:Int)]) fun x1=>bnd (i2 x1) fun x3=>bnd (m4 x1) fun x5=>bnd (gm (2:Int) (3:Int) [(0:Int),(2:Int),(4:Int),(0:Int),(1:Int),(2:Int)]) fun x7=>bnd (i2 x7) fun x9=>bnd (ic [(5:Int),(6:Int)]) fun qx=>bnd (iE x1 qx) fun lw=>bnd (gm (1:Int) (2:Int) [(1:Int),(1:Int)]) fun sQ=>bnd (ic [(2:Int)]) fun ny=>bnd (iE sQ ny) fun sP=>bnd (gm (2:Int) (1:Int) [(1:Int),(1:Int)]) fun uP=>bnd (ic [(1:Int),(2:Int)]) fun sO=>bnd (iE uP sO) fun DF=>bnd (gm (1:Int) (3:Int) [(1:Int),(2:Int),(3:Int)]) fun uC=>bnd (lZ uC) fun uN=>bnd (gm (2:Int) (2:Int) [(2:Int),(1:Int),(1:Int),(2:Int)]) fun IU=>bnd (gI IU) fun ze=>bnd (gm (2:Int) (2:Int) [(1:Int),(2:Int),(2:Int),(1:Int)]) fun M0=>bnd (gI M0) fun wz=>bnd (S:=Bool) (cnd (decide (x3.2.2≠(0:Int))) (some (true)) (cnd (decide (x5.2≠(0:Int))) (some (true)) (cnd (decide (x9.2.2≠(0:Int))) (some (true)) (cnd (decide (lw.2≠(0:Int))) (some (true)) (cnd (decide (sP.2≠(70:Int))) (some (true)) (cnd (decide (DF.2≠(200:Int))) (some (true)) (cnd (decide (uN.2≠(0:Int))) (some (true)) (cnd (decide (ze.2≠(0:Int))) (some (true)) (cnd (decide (wz.2≠(0:Int))) (some (true)) (cnd (decide (((uN.1).length:Int)≠(2:Int))) (some (true)) (cnd (decide (((lw.1).length:Int)≠(2:Int))) (some (true)) (cnd (decide (((x3.2.1).length:Int)≠(2:Int))) (some (true)) (some (decide (((x9.2.1).length:Int)≠(1:Int)))))))))))))))) fun cD=>cnd cD (some false) (bnd (S:=Bool) (bnd (fS (2:Int)) fun x53=>bnd (e7 x3.1 x53) fun x55=>cnd x55 (gd (0≤(0:Int)∧(0:Int)<((x3.2.1).length:Int)) (cnd (decide (((x3.2.1)[((0:Int)).toNat]!)=(0:Int))) (gd (0≤(1:Int)∧(1:Int)<((x3.2.1).length:Int)) (cnd (decide (((x3.2.1)[((1:Int)).toNat]!)=(1:Int))) (bnd (fk (-2:Int)) fun x64=>cnd (decide (x5.1=x64)) (bnd (gm (2:Int) (3:Int) [(0:Int),(1:Int),(2:Int),0,0,0]) fun x67=>bnd (e7 x9.1 x67) fun x69=>cnd x69 (gd (0≤(0:Int)∧(0:Int)<((x9.2.1).length:Int)) (bnd (some (decide (((x9.2.1)[((0:Int)).toNat]!)=(1:Int)))) fun x74=>some (x74))) (some (false))) (some (false))) (some (false)))) (some (false)))) (some (false))) fun nG=>bnd (S:=Bool) (cnd nG (gd (0≤(0:Int)∧(0:Int)<((lw.1).length:Int)) (bnd (fk (-4:Int)) fun x80=>cnd (decide ((lw.1)[((0:Int)).toNat]! =x80)) (gd (0≤(1:Int)∧(1:Int)<((lw.1).length:Int)) (bnd (oN (9:Int) (2:Int)) fun x85=>cnd (decide ((lw.1)[((1:Int)).toNat]! =x85)) (gd (0≤(0:Int)∧(0:Int)<((uN.1).length:Int)) (bnd (ic [(-2:Int),(1:Int),(0:Int)]) fun x90=>bnd (d9 ((uN.1)[((0:Int)).toNat]!) x90) fun x92=>cnd x92 (gd (0≤(1:Int)∧(1:Int)<((uN.1).length:Int)) (bnd (ic [(-3:Int),(0:Int),(1:Int)]) fun x97=>bnd (d9 ((uN.1)[((1:Int)).toNat]!) x97) fun x99=>cnd x99 (cnd ze.1 (some (!wz.1)) (some (false))) (some (false)))) (some (false)))) (some (false)))) (some (false)))) (some (false))) fun sv=>some sv)
theorem uZ  {r:Bool}(h:kq=some r):aB prog 12 [] (dB r):=by
 refine bC (rs:=[.tmp 0]) (fun cx hx h0=>?_) func12
 unfold kq at h
 refine ra hx ?_
 refine rs hx fun K hK=>?_
 refine s1 (d:=dO 0 (cI .i64) [(1:Int),(2:Int),(3:Int),(4:Int)]) (iI cz aT) ?_
 refine scb h kU fun x1 h=>?_
 refine s1 (d:=.pt 1 0) (bc aq) ?_
 refine s0 (bO (ds':=[dI .i64 x1.vR,dI .i64 x1.vC,dL ae x1.vV]) aq) ?_
 refine .nil (hK _ _ (rs hx fun K hK=>?_))
 refine s1 (d:=dG aE x1) (bb aq) ?_
 refine scb h uk fun x3 h=>?_
 iterate 4 refine sa ?_
 refine s1 (d:=.pt 2 0) (bc aq) ?_
 refine s0 (bO (ds':=[dI .i64 x3.1.vR,dI .i64 x3.1.vC,dL ae x3.1.vV]) aq) ?_
 iterate 2 refine sa ?_
 refine .nil (hK _ _ (rs hx fun K hK=>?_))
 refine s1 (d:=dG aE x1) (bb aq) ?_
 refine scb h yc fun x5 h=>?_
 iterate 3 refine sa ?_
 refine s1 (bq (F:=ae.f cb) ax) ?_
 refine s0 (aN (b':=x5.1) (ao.id _ _) ax) ?_
 refine sa ?_
 refine .nil (hK _ _ (rs hx fun K hK=>?_))
 refine s1 (d:=dO 4 (cI .i64) [(0:Int),(2:Int),(4:Int),(0:Int),(1:Int),(2:Int)]) (iI cz aT) ?_
 refine scb h kU fun x7 h=>?_
 refine scb h uk fun x9 h=>?_
 iterate 4 refine sa ?_
 refine s1 (d:=.pt 5 0) (bc aq) ?_
 refine s0 (bO (ds':=[dI .i64 x9.1.vR,dI .i64 x9.1.vC,dL ae x9.1.vV]) aq) ?_
 iterate 2 refine sa ?_
 refine .nil (hK _ _ (rsd [36,29] hx fun K hK=>?_))
 refine s1 (d:=dG aE x1) (bb aq) ?_
 refine s1 (Ao cz aT) ?_
 refine cqb h ox fun qx h=>?_
 refine cqb h q8 fun lw h=>?_
 iterate 5 refine sa ?_
 refine .nil (hK _ _ (rs hx fun K hK=>?_))
 refine s1 (d:=dO 6 (cI .i64) [(1:Int),(1:Int)]) (iI cz aT) ?_
 refine scb h kU fun sQ h=>?_
 refine s1 (d:=dO 7 (cI .i64) [(2:Int)]) (iI cz aT) ?_
 refine scb h ox fun ny h=>?_
 refine scb h q8 fun sP h=>?_
 iterate 5 refine sa ?_
 refine .nil (hK _ _ (rs hx fun K hK=>?_))
 refine s1 (d:=dO 8 (cI .i64) [(1:Int),(1:Int)]) (iI cz aT) ?_
 refine scb h kU fun uP h=>?_
 refine s1 (d:=dO 9 (cI .i64) [(1:Int),(2:Int)]) (iI cz aT) ?_
 refine scb h ox fun sO h=>?_
 refine scb h q8 fun DF h=>?_
 iterate 5 refine sa ?_
 refine .nil (hK _ _ (rs hx fun K hK=>?_))
 refine s1 (d:=dO 10 (cI .i64) [(1:Int),(2:Int),(3:Int)]) (iI cz aT) ?_
 refine scb h kU fun uC h=>?_
 refine scb h DR fun uN h=>?_
 iterate 5 refine sa ?_
 refine .nil (hK _ _ (rs hx fun K hK=>?_))
 refine s1 (d:=dO 11 (cI .i64) [(2:Int),(1:Int),(1:Int),(2:Int)]) (iI cz aT) ?_
 refine scb h kU fun IU h=>?_
 refine scb h rW fun ze h=>?_
 iterate 5 refine sa ?_
 refine .nil (hK _ _ (rs hx fun K hK=>?_))
 refine s1 (d:=dO 12 (cI .i64) [(1:Int),(2:Int),(2:Int),(1:Int)]) (iI cz aT) ?_
 refine scb h kU fun M0 h=>?_
 refine scb h rW fun wz h=>?_
 iterate 5 refine sa ?_
 refine .nil (hK _ _ ?_)
 iterate 2 refine AW.seq ?_
 obtain⟨cD,hy,h⟩:=ah h
 refine jn ((PE cx .normal (fun cD=>[(2,.pt 0 0),(3,dL (cI .i64) x3.2.1),(5,.pt 1 0),(7,.pt 2 0),(8,dL (cI .i64) x9.2.1),(10,dL ae lw.1),(16,dL (cL ae) uN.1),(18,dB ze.1),(20,dB wz.1),(137,dB cD)]) fun cD=>⟨[(0,[dI .i64 x3.1.vR,dI .i64 x3.1.vC,dL ae x3.1.vV]),(1,dC (ae.f x5.1)),(2,[dI .i64 x9.1.vR,dI .i64 x9.1.vC,dL ae x9.1.vV])],[],3⟩) cD) ?_ ?_
 replace h:=hy
 refine rq hx fun K hK=>?_
 iterate 3 refine sa ?_
 rcases aW (decide (x3.2.2≠(0:Int))) with FQ|FQ
 replace h:=aY FQ h
 iterate 2 refine aJ rfl rfl FQ ?_
 refine s1 (am FQ) ?_
 refine sa ?_
 iterate 2 refine aJ rfl rfl rfl ?_
 refine s1 (am rfl) ?_
 refine sa ?_
 iterate 2 refine aJ rfl rfl rfl ?_
 refine s1 (am rfl) ?_
 refine sa ?_
 iterate 2 refine aJ rfl rfl rfl ?_
 refine s1 (am rfl) ?_
 refine sa ?_
 iterate 2 refine aJ rfl rfl rfl ?_
 refine s1 (am rfl) ?_
 refine sa ?_
 iterate 2 refine aJ rfl rfl rfl ?_
 refine s1 (am rfl) ?_
 refine sa ?_
 iterate 2 refine aJ rfl rfl rfl ?_
 refine s1 (am rfl) ?_
 refine sa ?_
 iterate 2 refine aJ rfl rfl rfl ?_
 refine s1 (am rfl) ?_
 refine sa ?_
 iterate 3 refine aJ rfl rfl rfl ?_
 refine s1 (am rfl) ?_
 refine sa ?_
 iterate 3 refine aJ rfl rfl rfl ?_
 refine s1 (am rfl) ?_
 refine sa ?_
 iterate 3 refine aJ rfl rfl rfl ?_
 refine s1 (am rfl) ?_
 refine sa ?_
 iterate 3 refine aJ rfl rfl rfl ?_
 refine s1 (am rfl) ?_
 refine .nil (hK _ _ ?_)
 cases h
 exact pe0 h0 [2,3,5]
 replace h:=aZ FQ h
 iterate 2 refine ga FQ ?_
 refine s1 (au FQ) ?_
 refine sa ?_
 rcases aW (decide (x5.2≠(0:Int))) with JZ|JZ
 replace h:=aY JZ h
 iterate 2 refine aJ rfl rfl JZ ?_
 refine s1 (am JZ) ?_
 refine sa ?_
 iterate 2 refine aJ rfl rfl rfl ?_
 refine s1 (am rfl) ?_
 refine sa ?_
 iterate 2 refine aJ rfl rfl rfl ?_
 refine s1 (am rfl) ?_
 refine sa ?_
 iterate 2 refine aJ rfl rfl rfl ?_
 refine s1 (am rfl) ?_
 refine sa ?_
 iterate 2 refine aJ rfl rfl rfl ?_
 refine s1 (am rfl) ?_
 refine sa ?_
 iterate 2 refine aJ rfl rfl rfl ?_
 refine s1 (am rfl) ?_
 refine sa ?_
 iterate 2 refine aJ rfl rfl rfl ?_
 refine s1 (am rfl) ?_
 refine sa ?_
 iterate 3 refine aJ rfl rfl rfl ?_
 refine s1 (am rfl) ?_
 refine sa ?_
 iterate 3 refine aJ rfl rfl rfl ?_
 refine s1 (am rfl) ?_
 refine sa ?_
 iterate 3 refine aJ rfl rfl rfl ?_
 refine s1 (am rfl) ?_
 refine sa ?_
 iterate 3 refine aJ rfl rfl rfl ?_
 refine s1 (am rfl) ?_
 refine .nil (hK _ _ ?_)
 cases h
 exact pe0 h0 [2,3,5]
 replace h:=aZ JZ h
 iterate 2 refine ga JZ ?_
 refine s1 (au JZ) ?_
 refine sa ?_
 rcases aW (decide (x9.2.2≠(0:Int))) with tW|tW
 replace h:=aY tW h
 iterate 2 refine aJ rfl rfl tW ?_
 refine s1 (am tW) ?_
 refine sa ?_
 iterate 2 refine aJ rfl rfl rfl ?_
 refine s1 (am rfl) ?_
 refine sa ?_
 iterate 2 refine aJ rfl rfl rfl ?_
 refine s1 (am rfl) ?_
 refine sa ?_
 iterate 2 refine aJ rfl rfl rfl ?_
 refine s1 (am rfl) ?_
 refine sa ?_
 iterate 2 refine aJ rfl rfl rfl ?_
 refine s1 (am rfl) ?_
 refine sa ?_
 iterate 2 refine aJ rfl rfl rfl ?_
 refine s1 (am rfl) ?_
 refine sa ?_
 iterate 3 refine aJ rfl rfl rfl ?_
 refine s1 (am rfl) ?_
 refine sa ?_
 iterate 3 refine aJ rfl rfl rfl ?_
 refine s1 (am rfl) ?_
 refine sa ?_
 iterate 3 refine aJ rfl rfl rfl ?_
 refine s1 (am rfl) ?_
 refine sa ?_
 iterate 3 refine aJ rfl rfl rfl ?_
 refine s1 (am rfl) ?_
 refine .nil (hK _ _ ?_)
 cases h
 exact pe0 h0 [2,3,5]
 replace h:=aZ tW h
 iterate 2 refine ga tW ?_
 refine s1 (au tW) ?_
 refine sa ?_
 rcases aW (decide (lw.2≠(0:Int))) with JY|JY
 replace h:=aY JY h
 iterate 2 refine aJ rfl rfl JY ?_
 refine s1 (am JY) ?_
 refine sa ?_
 iterate 2 refine aJ rfl rfl rfl ?_
 refine s1 (am rfl) ?_
 refine sa ?_
 iterate 2 refine aJ rfl rfl rfl ?_
 refine s1 (am rfl) ?_
 refine sa ?_
 iterate 2 refine aJ rfl rfl rfl ?_
 refine s1 (am rfl) ?_
 refine sa ?_
 iterate 2 refine aJ rfl rfl rfl ?_
 refine s1 (am rfl) ?_
 refine sa ?_
 iterate 3 refine aJ rfl rfl rfl ?_
 refine s1 (am rfl) ?_
 refine sa ?_
 iterate 3 refine aJ rfl rfl rfl ?_
 refine s1 (am rfl) ?_
 refine sa ?_
 iterate 3 refine aJ rfl rfl rfl ?_
 refine s1 (am rfl) ?_
 refine sa ?_
 iterate 3 refine aJ rfl rfl rfl ?_
 refine s1 (am rfl) ?_
 refine .nil (hK _ _ ?_)
 cases h
 exact pe0 h0 [2,3,5]
 replace h:=aZ JY h
 iterate 2 refine ga JY ?_
 refine s1 (au JY) ?_
 refine sa ?_
 rcases aW (decide (sP.2≠(70:Int))) with FP|FP
 replace h:=aY FP h
 iterate 2 refine aJ rfl rfl FP ?_
 refine s1 (am FP) ?_
 refine sa ?_
 iterate 2 refine aJ rfl rfl rfl ?_
 refine s1 (am rfl) ?_
 refine sa ?_
 iterate 2 refine aJ rfl rfl rfl ?_
 refine s1 (am rfl) ?_
 refine sa ?_
 iterate 2 refine aJ rfl rfl rfl ?_
 refine s1 (am rfl) ?_
 refine sa ?_
 iterate 3 refine aJ rfl rfl rfl ?_
 refine s1 (am rfl) ?_
 refine sa ?_
 iterate 3 refine aJ rfl rfl rfl ?_
 refine s1 (am rfl) ?_
 refine sa ?_
 iterate 3 refine aJ rfl rfl rfl ?_
 refine s1 (am rfl) ?_
 refine sa ?_
 iterate 3 refine aJ rfl rfl rfl ?_
 refine s1 (am rfl) ?_
 refine .nil (hK _ _ ?_)
 cases h
 exact pe0 h0 [2,3,5]
 replace h:=aZ FP h
 iterate 2 refine ga FP ?_
 refine s1 (au FP) ?_
 refine sa ?_
 rcases aW (decide (DF.2≠(200:Int))) with JX|JX
 replace h:=aY JX h
 iterate 2 refine aJ rfl rfl JX ?_
 refine s1 (am JX) ?_
 refine sa ?_
 iterate 2 refine aJ rfl rfl rfl ?_
 refine s1 (am rfl) ?_
 refine sa ?_
 iterate 2 refine aJ rfl rfl rfl ?_
 refine s1 (am rfl) ?_
 refine sa ?_
 iterate 3 refine aJ rfl rfl rfl ?_
 refine s1 (am rfl) ?_
 refine sa ?_
 iterate 3 refine aJ rfl rfl rfl ?_
 refine s1 (am rfl) ?_
 refine sa ?_
 iterate 3 refine aJ rfl rfl rfl ?_
 refine s1 (am rfl) ?_
 refine sa ?_
 iterate 3 refine aJ rfl rfl rfl ?_
 refine s1 (am rfl) ?_
 refine .nil (hK _ _ ?_)
 cases h
 exact pe0 h0 [2,3,5]
 replace h:=aZ JX h
 iterate 2 refine ga JX ?_
 refine s1 (au JX) ?_
 refine sa ?_
 rcases aW (decide (uN.2≠(0:Int))) with JW|JW
 replace h:=aY JW h
 iterate 2 refine aJ rfl rfl JW ?_
 refine s1 (am JW) ?_
 refine sa ?_
 iterate 2 refine aJ rfl rfl rfl ?_
 refine s1 (am rfl) ?_
 refine sa ?_
 iterate 3 refine aJ rfl rfl rfl ?_
 refine s1 (am rfl) ?_
 refine sa ?_
 iterate 3 refine aJ rfl rfl rfl ?_
 refine s1 (am rfl) ?_
 refine sa ?_
 iterate 3 refine aJ rfl rfl rfl ?_
 refine s1 (am rfl) ?_
 refine sa ?_
 iterate 3 refine aJ rfl rfl rfl ?_
 refine s1 (am rfl) ?_
 refine .nil (hK _ _ ?_)
 cases h
 exact pe0 h0 [2,3,5]
 replace h:=aZ JW h
 iterate 2 refine ga JW ?_
 refine s1 (au JW) ?_
 refine sa ?_
 rcases aW (decide (ze.2≠(0:Int))) with JV|JV
 replace h:=aY JV h
 iterate 2 refine aJ rfl rfl JV ?_
 refine s1 (am JV) ?_
 refine sa ?_
 iterate 3 refine aJ rfl rfl rfl ?_
 refine s1 (am rfl) ?_
 refine sa ?_
 iterate 3 refine aJ rfl rfl rfl ?_
 refine s1 (am rfl) ?_
 refine sa ?_
 iterate 3 refine aJ rfl rfl rfl ?_
 refine s1 (am rfl) ?_
 refine sa ?_
 iterate 3 refine aJ rfl rfl rfl ?_
 refine s1 (am rfl) ?_
 refine .nil (hK _ _ ?_)
 cases h
 exact pe0 h0 [2,3,5]
 replace h:=aZ JV h
 iterate 2 refine ga JV ?_
 refine s1 (au JV) ?_
 refine sa ?_
 rcases aW (decide (wz.2≠(0:Int))) with JU|JU
 replace h:=aY JU h
 iterate 3 refine aJ rfl rfl JU ?_
 refine s1 (am JU) ?_
 refine sa ?_
 iterate 3 refine aJ rfl rfl rfl ?_
 refine s1 (am rfl) ?_
 refine sa ?_
 iterate 3 refine aJ rfl rfl rfl ?_
 refine s1 (am rfl) ?_
 refine sa ?_
 iterate 3 refine aJ rfl rfl rfl ?_
 refine s1 (am rfl) ?_
 refine .nil (hK _ _ ?_)
 cases h
 exact pe0 h0 [2,3,5]
 replace h:=aZ JU h
 iterate 3 refine ga JU ?_
 refine s1 (au JU) ?_
 refine sa ?_
 rcases aW (decide (((uN.1).length:Int)≠(2:Int))) with JT|JT
 replace h:=aY JT h
 iterate 3 refine aJ rfl rfl JT ?_
 refine s1 (am JT) ?_
 refine sa ?_
 iterate 3 refine aJ rfl rfl rfl ?_
 refine s1 (am rfl) ?_
 refine sa ?_
 iterate 3 refine aJ rfl rfl rfl ?_
 refine s1 (am rfl) ?_
 refine .nil (hK _ _ ?_)
 cases h
 exact pe0 h0 [2,3,5]
 replace h:=aZ JT h
 iterate 3 refine ga JT ?_
 refine s1 (au JT) ?_
 refine sa ?_
 rcases aW (decide (((lw.1).length:Int)≠(2:Int))) with JS|JS
 replace h:=aY JS h
 iterate 3 refine aJ rfl rfl JS ?_
 refine s1 (am JS) ?_
 refine sa ?_
 iterate 3 refine aJ rfl rfl rfl ?_
 refine s1 (am rfl) ?_
 refine .nil (hK _ _ ?_)
 cases h
 exact pe0 h0 [2,3,5]
 replace h:=aZ JS h
 iterate 3 refine ga JS ?_
 refine s1 (au JS) ?_
 refine sa ?_
 rcases aW (decide (((x3.2.1).length:Int)≠(2:Int))) with JR|JR
 replace h:=aY JR h
 iterate 3 refine aJ rfl rfl JR ?_
 refine s1 (am JR) ?_
 refine .nil (hK _ _ ?_)
 cases h
 exact pe0 h0 [2,3,5]
 replace h:=aZ JR h
 iterate 3 refine ga JR ?_
 refine s1 (au JR) ?_
 refine .nil (hK _ _ ?_)
 cases h
 exact pe0 h0 [2,3,5]
 rintro ex tm' hp' ⟨rfl,hw⟩
 refine AW.weak hw (cdh h rfl (fun hb52 h=>?_) (fun hb52 h=>?_))
 refine ra hx ?_
 refine AW.ret ?_
 cases h
 exact rv1
 refine AW.skip (AW.seq ?_)
 obtain⟨nG,hy,h⟩:=ah h
 refine jn ((PE cx .normal (fun nG=>[(10,dL ae lw.1),(16,dL (cL ae) uN.1),(18,dB ze.1),(20,dB wz.1),(22,dB nG)]) fun nG=>⟨[],[],0⟩) nG) ?_ ?_
 replace h:=hy
 refine rqd [43,14,60,59] hx fun K hK=>?_
 refine s1 (d:=dG aE x3.1) (bb aq) ?_
 refine cqb h rX fun x53 h=>?_
 refine cqb h oo fun x55 h=>?_
 refine sa ?_
 rcases aW x55 with D9|D9
 replace h:=aY D9 h
 refine ga D9 ?_
 obtain⟨hc58,h⟩:=az h
 have hn59:((0:Int)).toNat<(x3.2.1).length:=by omega
 refine g1 D9 (ej hc58 cz aT) ?_
 refine g1 D9 (qv (c:=(cI .i64)) (l:=x3.2.1) (n:=((0:Int)).toNat) (o:=0) aT hn59) ?_
 refine ga D9 ?_
 refine s1 (am D9) ?_
 refine sa ?_
 rcases aW (decide (((x3.2.1)[((0:Int)).toNat]!)=(0:Int))) with D8|D8
 replace h:=aY D8 h
 refine ga D8 ?_
 obtain⟨hc61,h⟩:=az h
 have hn62:((1:Int)).toNat<(x3.2.1).length:=by omega
 refine g1 D8 (ej hc61 cz aT) ?_
 refine g1 D8 (qv (c:=(cI .i64)) (l:=x3.2.1) (n:=((1:Int)).toNat) (o:=0) aT hn62) ?_
 refine ga D8 ?_
 refine s1 (am D8) ?_
 refine sa ?_
 rcases aW (decide (((x3.2.1)[((1:Int)).toNat]!)=(1:Int))) with FO|FO
 replace h:=aY FO h
 refine g1 (d:=dG ae x5.1) FO (aA (ao.id _ _) ax) ?_
 obtain⟨x64,hx65,h⟩:=ah h
 refine sqg tok rfl rfl FO (jA hx65) rfl (lA (al _) lAn) (.inl (eE _ _)) ?_
 refine g1 FO (xH tok 4 (by decide) qX ax) ?_
 refine s1 (am FO) ?_
 refine sa ?_
 rcases aW (decide (x5.1=x64)) with D7|D7
 replace h:=aY D7 h
 refine g1 (d:=dG aE x9.1) D7 (bb aq) ?_
 refine g1 D7 (Ao cz aT) ?_
 obtain⟨x67,hx68,h⟩:=ah h
 refine sqg tok rfl rfl D7 (kU hx68) rfl (lA (al _) (lA (al _) (lA (al _) lAn))) (.inl (eE _ _)) ?_
 obtain⟨x69,hx70,h⟩:=ah h
 refine sqg tok rfl rfl D7 (oo hx70) (by simp only[bN,cl,cF,cZ,ck,cr];exact⟨aM _ _,aM _ _⟩) (lA (al _) (lA (al _) lAn)) (.inl rfl) ?_
 refine s1 (am D7) ?_
 refine sa ?_
 rcases aW x69 with D6|D6
 replace h:=aY D6 h
 refine ga D6 ?_
 obtain⟨hc72,h⟩:=az h
 have hn73:((0:Int)).toNat<(x9.2.1).length:=by omega
 refine g1 D6 (ej hc72 cz aT) ?_
 refine g1 D6 (qv (c:=(cI .i64)) (l:=x9.2.1) (n:=((0:Int)).toNat) (o:=0) aT hn73) ?_
 refine ga D6 ?_
 refine s1 (am D6) ?_
 obtain⟨x74,hx75,h⟩:=ah h
 replace hx75:=cP hx75
 refine s2 (d2:=dB x74) l9 (gv (congrArg dB hx75)) ?_
 refine .nil (hK _ _ ?_)
 cases h
 exact pe0 h0 []
 replace h:=aZ D6 h
 iterate 4 refine aJ rfl rfl D6 ?_
 refine s1 (au D6) ?_
 refine sa ?_
 refine .nil (hK _ _ ?_)
 cases h
 exact pe0 h0 []
 replace h:=aZ D7 h
 iterate 4 refine aJ rfl rfl D7 ?_
 refine s1 (au D7) ?_
 refine sa ?_
 iterate 4 refine aJ rfl rfl rfl ?_
 refine s1 (au rfl) ?_
 refine sa ?_
 refine .nil (hK _ _ ?_)
 cases h
 exact pe0 h0 []
 replace h:=aZ FO h
 iterate 3 refine aJ rfl rfl FO ?_
 refine s1 (au FO) ?_
 refine sa ?_
 iterate 4 refine aJ rfl rfl rfl ?_
 refine s1 (au rfl) ?_
 refine sa ?_
 iterate 4 refine aJ rfl rfl rfl ?_
 refine s1 (au rfl) ?_
 refine sa ?_
 refine .nil (hK _ _ ?_)
 cases h
 exact pe0 h0 []
 replace h:=aZ D8 h
 iterate 4 refine aJ rfl rfl D8 ?_
 refine s1 (au D8) ?_
 refine sa ?_
 iterate 3 refine aJ rfl rfl rfl ?_
 refine s1 (au rfl) ?_
 refine sa ?_
 iterate 4 refine aJ rfl rfl rfl ?_
 refine s1 (au rfl) ?_
 refine sa ?_
 iterate 4 refine aJ rfl rfl rfl ?_
 refine s1 (au rfl) ?_
 refine sa ?_
 refine .nil (hK _ _ ?_)
 cases h
 exact pe0 h0 []
 replace h:=aZ D9 h
 iterate 4 refine aJ rfl rfl D9 ?_
 refine s1 (au D9) ?_
 refine sa ?_
 iterate 4 refine aJ rfl rfl rfl ?_
 refine s1 (au rfl) ?_
 refine sa ?_
 iterate 3 refine aJ rfl rfl rfl ?_
 refine s1 (au rfl) ?_
 refine sa ?_
 iterate 4 refine aJ rfl rfl rfl ?_
 refine s1 (au rfl) ?_
 refine sa ?_
 iterate 4 refine aJ rfl rfl rfl ?_
 refine s1 (au rfl) ?_
 refine sa ?_
 refine .nil (hK _ _ ?_)
 cases h
 exact pe0 h0 []
 rintro ex tm' hp' ⟨rfl,hw⟩
 refine AW.weak hw (AW.seq ?_)
 obtain⟨sv,hy,h⟩:=ah h
 refine jn ((PE cx .normal (fun sv=>[(0,dB sv)]) fun sv=>⟨[],[],0⟩) sv) ?_ ?_
 replace h:=hy
 refine rqd [60,61,36,27] hx fun K hK=>?_
 iterate 2 refine sa ?_
 rcases aW nG with Cm|Cm
 replace h:=aY Cm h
 refine ga Cm ?_
 obtain⟨hc78,h⟩:=az h
 have hn79:((0:Int)).toNat<(lw.1).length:=by omega
 refine g1 Cm (ej hc78 aF ax) ?_
 refine g1 (d:=dG ae ((lw.1)[((0:Int)).toNat]!)) Cm (jI (c:=ae) (l:=lw.1) (n:=((0:Int)).toNat) (o:=0) ax hn79 (eM _ _ rfl)) ?_
 obtain⟨x80,hx81,h⟩:=ah h
 refine sqg tok rfl rfl Cm (jA hx81) rfl (lA (al _) lAn) (.inl (eE _ _)) ?_
 refine g1 Cm (xH tok 4 (by decide) qX ax) ?_
 refine s1 (am Cm) ?_
 refine sa ?_
 rcases aW (decide ((lw.1)[((0:Int)).toNat]! =x80)) with Cl|Cl
 replace h:=aY Cl h
 refine ga Cl ?_
 obtain⟨hc83,h⟩:=az h
 have hn84:((1:Int)).toNat<(lw.1).length:=by omega
 refine g1 Cl (ej hc83 aF ax) ?_
 refine g1 (d:=dG ae ((lw.1)[((1:Int)).toNat]!)) Cl (jI (c:=ae) (l:=lw.1) (n:=((1:Int)).toNat) (o:=0) ax hn84 (eM _ _ rfl)) ?_
 obtain⟨x85,hx86,h⟩:=ah h
 refine sqg tok rfl rfl Cl (Fb hx86) rfl (lA (al _) (lA (al _) lAn)) (.inl (eE _ _)) ?_
 refine g1 Cl (xH tok 4 (by decide) qX ax) ?_
 refine s1 (am Cl) ?_
 refine sa ?_
 rcases aW (decide ((lw.1)[((1:Int)).toNat]! =x85)) with Ba|Ba
 replace h:=aY Ba h
 refine ga Ba ?_
 obtain⟨hc88,h⟩:=az h
 have hn89:((0:Int)).toNat<(uN.1).length:=by omega
 refine g1 Ba (ej hc88 nz aF) ?_
 refine g1 Ba (qv (c:=(cL ae)) (l:=uN.1) (n:=((0:Int)).toNat) (o:=0) aF hn89) ?_
 refine g1 Ba (Ao cz aT) ?_
 obtain⟨x90,hx91,h⟩:=ah h
 refine sqg tok rfl rfl Ba (ox hx91) rfl (lA (al _) lAn) (.inl rfl) ?_
 obtain⟨x92,hx93,h⟩:=ah h
 refine sqg tok rfl rfl Ba (pE hx93) rfl (lA (al _) (lA (al _) lAn)) (.inl rfl) ?_
 refine s1 (am Ba) ?_
 refine sa ?_
 rcases aW x92 with A9|A9
 replace h:=aY A9 h
 refine ga A9 ?_
 obtain⟨hc95,h⟩:=az h
 have hn96:((1:Int)).toNat<(uN.1).length:=by omega
 refine g1 A9 (ej hc95 nz aF) ?_
 refine g1 A9 (qv (c:=(cL ae)) (l:=uN.1) (n:=((1:Int)).toNat) (o:=0) aF hn96) ?_
 refine g1 A9 (Ao cz aT) ?_
 obtain⟨x97,hx98,h⟩:=ah h
 refine sqg tok rfl rfl A9 (ox hx98) rfl (lA (al _) lAn) (.inl rfl) ?_
 obtain⟨x99,hx100,h⟩:=ah h
 refine sqg tok rfl rfl A9 (pE hx100) rfl (lA (al _) (lA (al _) lAn)) (.inl rfl) ?_
 refine s1 (am A9) ?_
 refine sa ?_
 rcases aW x99 with Cq|Cq
 replace h:=aY Cq h
 refine ga Cq ?_
 refine s1 (am Cq) ?_
 refine sa ?_
 rcases aW ze.1 with Cp|Cp
 replace h:=aY Cp h
 iterate 2 refine ga Cp ?_
 refine s1 (am Cp) ?_
 refine sa ?_
 refine .nil (hK _ _ ?_)
 cases h
 exact pe0 h0 []
 replace h:=aZ Cp h
 iterate 2 refine aJ rfl rfl Cp ?_
 refine s1 (au Cp) ?_
 refine sa ?_
 refine .nil (hK _ _ ?_)
 cases h
 exact pe0 h0 []
 replace h:=aZ Cq h
 refine aJ rfl rfl Cq ?_
 refine s1 (au Cq) ?_
 refine sa ?_
 iterate 2 refine aJ rfl rfl rfl ?_
 refine s1 (au rfl) ?_
 refine sa ?_
 refine .nil (hK _ _ ?_)
 cases h
 exact pe0 h0 []
 replace h:=aZ A9 h
 iterate 6 refine aJ rfl rfl A9 ?_
 refine s1 (au A9) ?_
 refine sa ?_
 refine aJ rfl rfl rfl ?_
 refine s1 (au rfl) ?_
 refine sa ?_
 iterate 2 refine aJ rfl rfl rfl ?_
 refine s1 (au rfl) ?_
 refine sa ?_
 refine .nil (hK _ _ ?_)
 cases h
 exact pe0 h0 []
 replace h:=aZ Ba h
 iterate 6 refine aJ rfl rfl Ba ?_
 refine s1 (au Ba) ?_
 refine sa ?_
 iterate 6 refine aJ rfl rfl rfl ?_
 refine s1 (au rfl) ?_
 refine sa ?_
 refine aJ rfl rfl rfl ?_
 refine s1 (au rfl) ?_
 refine sa ?_
 iterate 2 refine aJ rfl rfl rfl ?_
 refine s1 (au rfl) ?_
 refine sa ?_
 refine .nil (hK _ _ ?_)
 cases h
 exact pe0 h0 []
 replace h:=aZ Cl h
 iterate 5 refine aJ rfl rfl Cl ?_
 refine s1 (au Cl) ?_
 refine sa ?_
 iterate 6 refine aJ rfl rfl rfl ?_
 refine s1 (au rfl) ?_
 refine sa ?_
 iterate 6 refine aJ rfl rfl rfl ?_
 refine s1 (au rfl) ?_
 refine sa ?_
 refine aJ rfl rfl rfl ?_
 refine s1 (au rfl) ?_
 refine sa ?_
 iterate 2 refine aJ rfl rfl rfl ?_
 refine s1 (au rfl) ?_
 refine sa ?_
 refine .nil (hK _ _ ?_)
 cases h
 exact pe0 h0 []
 replace h:=aZ Cm h
 iterate 5 refine aJ rfl rfl Cm ?_
 refine s1 (au Cm) ?_
 refine sa ?_
 iterate 5 refine aJ rfl rfl rfl ?_
 refine s1 (au rfl) ?_
 refine sa ?_
 iterate 6 refine aJ rfl rfl rfl ?_
 refine s1 (au rfl) ?_
 refine sa ?_
 iterate 6 refine aJ rfl rfl rfl ?_
 refine s1 (au rfl) ?_
 refine sa ?_
 refine aJ rfl rfl rfl ?_
 refine s1 (au rfl) ?_
 refine sa ?_
 iterate 2 refine aJ rfl rfl rfl ?_
 refine s1 (au rfl) ?_
 refine sa ?_
 refine .nil (hK _ _ ?_)
 cases h
 exact pe0 h0 []
 rintro ex tm' hp' ⟨rfl,hw⟩
 refine AW.weak hw (AW.ret ?_)
 cases h
 exact rv1
theorem PW {A k:Nat}(h:A<2 ^ (k+1))(hb:(dg 65536 A (k / 16) / 2 ^ (k % 16)) % 2=0):A<2 ^ k:=by
 have e1:(dg 65536 A (k / 16)).testBit (k % 16)=A.testBit k:=by
  unfold dg
  rw[show (65536:Nat) ^ (k / 16)=2 ^ (16*(k / 16)) by rw[Am],show (65536:Nat)=2 ^ 16 by decide,Nat.testBit_mod_two_pow,Nat.testBit_div_two_pow,iP (ey _ (by decide)),CO]
  congr 1;omega
 rw[Qe,Qe] at e1
 have h2:A / 2 ^ k % 2=0:=by
  rcases Nat.mod_two_eq_zero_or_one (A / 2 ^ k) with h3|h3
  ·exact h3
  ·rw[h3] at e1
   have:=xz (e1.trans (iP rfl))
   omega
 have h3:A / 2 ^ k<2:=by rw[pz (dP (by decide))];rw[fe] at h;omega
 have h4:A / 2 ^ k=0:=by
  generalize A / 2 ^ k=q at h2 h3
  omega
 rcases Nat.div_eq_zero_iff.1 h4 with h5|h5
 ·have:=dP (n:=k) (show 0<2 by decide);omega
 ·exact h5
theorem R_bit {A k:Nat}(hk:k≤100000):ql (dl A) (k:Int)=some (((dg 65536 A (k / 16) / 2 ^ (k % 16)) % 2:Nat):Int):=by
 unfold ql
 have e1:i64.wrap (Int.tdiv (k:Int) (16:Int))=((k / 16:Nat):Int):=by
  rw[Int.tdiv_eq_ediv_of_nonneg (by omega),w64];omega
 have e2:Int.tmod (k:Int) (16:Int)=((k % 16:Nat):Int):=by
  rw[Int.tmod_eq_emod_of_nonneg (by omega)];rfl
 rw[e1,e2,show dl A=dk (sz6 A) A from rfl,uj (fG A),ab,aI,zR _ _ _ (by have:k % 16<16:=ey _ (by decide);show k % 16≤64;omega)]
 generalize dg 65536 A (k / 16) / 2 ^ (k % 16)=q
 have e3:Int.tmod (q:Int) 2=((q % 2:Nat):Int):=by rw[Int.tmod_eq_emod_of_nonneg (by omega)];rfl
 rw[e3]
theorem R_Bits {z:Int}(hz:z.natAbs<LIM):∃n:Nat,e8 (enc z)=some (n:Int)∧z.natAbs<2 ^ n:=by
 have hsz:sz6 z.natAbs≤32:=qy (cm hz (by decide))
 have cg:=fG z.natAbs
 have hlen:=J3 z.natAbs
 obtain⟨x,hl,hx⟩:=wS (b:=mX (dl z.natAbs)) (fun s:Int=>0≤s∧s≤512∧z.natAbs<2 ^ s.toNat) (fun s=>s.toNat) (fun x=>0≤x∧x≤512∧z.natAbs<2 ^ x.toNat) (fun s ⟨h1,h2,h3⟩=>by
  unfold mX
  by_cases h0:0<s
  ·obtain⟨k,rfl⟩:∃k:Nat,s=(k:Int)+1:=⟨(s - 1).toNat,by omega⟩
   rw[bF _ _ h0,w64 (n:=(k:Int)+1 - 1),show (k:Int)+1 - 1=(k:Int) by omega,R_bit (by omega),ab]
   have e:((k:Int)+1).toNat=k+1:=by omega
   rw[e] at h3
   by_cases hb:(dg 65536 z.natAbs (k / 16) / 2 ^ (k % 16)) % 2=0
   ·refine .inl ⟨(k:Int),?_,⟨by omega,by omega,?_⟩,by omega⟩
    ·rw[det_];rfl
    ·rw[show ((k:Int)).toNat=k by omega];exact PW h3 hb
   ·refine .inr ⟨(k:Int)+1,?_,by omega,by omega,by rw[e];exact h3⟩
    rw[def_];rfl
  ·obtain rfl:s=0:=by omega
   exact .inr ⟨0,by rw[bA _ _ h0];rfl,by omega,by omega,h3⟩) (16*(sz6 z.natAbs:Int)) ⟨by omega,by omega,by
   rw[show (16*(sz6 z.natAbs:Int)).toNat=16*sz6 z.natAbs by omega,Am];exact cg⟩
 refine⟨x.toNat,?_,hx.2.2⟩
 unfold e8
 rw[fC,bD hz,ab,iw hz]
 rw[show (!true)=false from rfl,kF]
 simp only[ab]
 rw[hlen,w64,hl,ab]
 congr 1;omega
theorem IS {x:ay}(h:okI x):∃n:Int,e8 x=some n:=by
 cases hg:cV x with
 |true=>
  obtain⟨z,hz,rfl⟩:=rA h hg
  obtain⟨n,hn,_⟩:=R_Bits hz
  exact⟨n,hn⟩
 |false=>
  refine⟨0,?_⟩
  unfold e8
  rw[fC,hg];rfl
theorem LL {l:List Nu}(hl:l.length≤1000000):∃b,lW (l.map nv)=some b:=by
 obtain⟨fN,hN⟩:∃fN:Nat→Int,fN=fun i=>(e8 (nv l[i]!).vN).getD 0:=⟨_,rfl⟩
 obtain⟨fD,hD⟩:∃fD:Nat→Int,fD=fun i=>(e8 (nv l[i]!).vD).getD 0:=⟨_,rfl⟩
 unfold lW
 rw[Jq (b:=j3 (l.map nv)) (n:=l.length) hl (fun i=>!(decide (60<fN i)||decide (60<fD i))) (fun i hi=>by
  unfold j3
  rw[bH,bF _ _,aI,aI,bh,uw hi]
  obtain⟨n1,h1⟩:=IS (l[i]!).2.1
  obtain⟨n2,h2⟩:=IS (l[i]!).2.2
  have h1:e8 (nv l[i]!).vN=some n1:=h1
  have h2:e8 (nv l[i]!).vD=some n2:=h2
  have e1:fN i=n1:=by rw[hN];dsimp only;rw[h1];rfl
  have e2:fD i=n2:=by rw[hD];dsimp only;rw[h2];rfl
  rw[h1,h2,e1,e2]
  simp only[ab,kOr,Bool.not_not]) (by
  unfold j3
  rw[bH,bA _ _])]
 cases (List.range l.length).all fun i=>!(decide (60<fN i)||decide (60<fD i))
 ·exact⟨false,rfl⟩
 ·exact⟨true,rfl⟩
theorem LM {R C:Int}{V:List Nu}:∃b,lX (mS R C V)=some b∧(b=true→V.length≤60∧(aX R C V=0→R≤6∧C≤7)):=by
 unfold lX
 dsimp only
 rw[bH]
 by_cases h:(60:Int)<V.length
 ·rw[bF _ _ h];exact⟨false,rfl,fun h=>by cases h⟩
 ·rw[bA _ _ h,qd (by omega)]
  simp only[ab]
  by_cases hv:aX R C V=0
  ·rw[show (!decide (aX R C V=0))=false by simp[hv],kF]
   by_cases h1:R≤6
   ·by_cases h2:C≤7
    ·rw[bF _ _ h1,bF _ _ h2]
     obtain⟨b,hb⟩:=LL (l:=V) (by omega)
     rw[hb]
     exact⟨b,rfl,fun _=>⟨by omega,fun _=>⟨h1,h2⟩⟩⟩
    ·rw[bF _ _ h1,bA _ _ h2];exact⟨false,rfl,fun h=>by cases h⟩
   ·rw[bA _ _ h1];exact⟨false,rfl,fun h=>by cases h⟩
  ·rw[show (!decide (aX R C V=0))=true by simp[hv],kT]
   exact⟨true,rfl,fun _=>⟨by omega,fun h=>absurd h hv⟩⟩
theorem all_eqL {α:Type}[DecidableEq α][Inhabited α]{a b:List α}(h:a.length=b.length):(List.range a.length).all (fun i=>decide (a[i]! =b[i]!))=decide (a=b):=by
 rw[EU,eS,oX]
 constructor
 ·intro hh
  refine Gg h fun i h1 h2=>?_
  have:=xz (hh i (AO.2 h1))
  rwa[iR a i h1,iR b i h2] at this
 ·rintro rfl i _
  exact iP rfl
theorem Dk {a b:List aj}(ha:a.length≤1000000):d9 a b=some (decide (a=b)):=by
 unfold d9
 by_cases h:a.length=b.length
 ·rw[bA _ _,Jq (b:=gx a b) (n:=a.length) ha (fun i=>decide (a[i]! =b[i]!)) (fun i hi=>by
   unfold gx
   rw[bF _ _,aI,aI,bh]
   rw[show decide (¬a[i]! =b[i]!)= !decide (a[i]! =b[i]!) from dne _ _]) (by
   unfold gx
   rw[bA _ _])]
  rw[all_eqL h]
  cases decide (a=b) <;> rfl
 ·rw[bF _ _,gX (fun e=>h (by rw[e]))]
theorem Qt {a b:ap}(ha:a.vV.length≤1000000):e7 a b=some (decide (a=b)):=by
 unfold e7
 rw[Dk ha]
 obtain⟨R,C,V⟩:=a
 obtain⟨R',C',V'⟩:=b
 dsimp only
 by_cases h1:R=R'
 ·by_cases h2:C=C'
  ·rw[bF _ _ h1,bF _ _ h2]
   simp only[ab]
   rw[h1,h2]
   by_cases h3:V=V'
   ·rw[h3];simp
   ·rw[gX h3,gX (fun e=>h3 (by injection e))]
  ·rw[bF _ _ h1,bA _ _ h2,gX (fun e=>h2 (by injection e))];rfl
 ·rw[bA _ _ h1,gX (fun e=>h1 (by injection e))];rfl
theorem L_same {m:ap}{e:Int}{w:bp}(hm:m.vV.length≤1000000):fT m e w=some (decide (e=w.vE)&&decide (m=w.vM)):=by
 unfold fT
 rw[Qt hm]
 simp only[ab]
 cases decide (e=w.vE) <;> rfl
theorem GN {r c:Int}{l:List Int}(hl:l.length≤1000)(h:∀i,i<l.length→-1000≤l[i]!∧l[i]!≤1000):gm r c l=some (mS r c (l.map nOf)):=by
 unfold gm
 have key:=eK (b:=nD l) (fun i:Nat=>((i:Int),((l.take i).map nOf).map nv)) 0 l.length ((l.map nOf).map nv) (fH _) (fun i _ hi=>?_) ?_
 ·have e:((((0:Nat):Int),((l.take 0).map nOf).map nv))=((0:Int),([]:List aj)):=by simp
  rw[e] at key
  rw[key];rfl
 ·unfold nD
  dsimp only
  have M3:l.take (i+1)=l.take i++[l[i]!]:=by rw[List.take_add_one,fI hi,iR l i hi];rfl
  obtain⟨h1,h2⟩:=h i hi
  rw[bF _ _,aI,bh,uOf,ab,aI (by simp;omega),w64,M3]
  simp only[nd,bN,cl]
  rfl
 ·unfold nD
  dsimp only
  rw[bA _ _,kO (bI _)]
theorem Dq {l:List Int}(hl:l.length≤1000)(h:∀i,i<l.length→-1000≤l[i]!∧l[i]!≤1000):ic l=some ((l.map nOf).map nv):=by
 unfold ic
 rw[GN hl h];rfl
def fr(a b:Int):Nu:=nuR (some (Rat.divInt a b))
theorem s1T:Bn 2 2 ([1,2,3,4].map nOf)=(mS 2 2 ([1,0,0,1].map nOf),[0,1],0):=by decide +kernel
theorem s2T:detP 2 2 ([1,2,3,4].map nOf)=(nv (nOf (-2)),0):=by decide +kernel
theorem s3T:Bn 2 3 ([0,2,4,0,1,2].map nOf)=(mS 2 3 ([0,1,2,0,0,0].map nOf),[1],0):=by decide +kernel
theorem s4T:Hv 2 2 ([1,2,3,4].map nOf) ([5,6].map nOf)=([nv (nOf (-4)),nv (fr 9 2)],0):=by decide +kernel
theorem s5T:Hv 1 2 ([1,1].map nOf) ([2].map nOf)=([],70):=by decide +kernel
theorem s6T:Hv 2 1 ([1,1].map nOf) ([1,2].map nOf)=([],200):=by decide +kernel
theorem s7T:K4 1 3 ([1,2,3].map nOf)=([[-2,1,0].map nOf,[-3,0,1].map nOf],0):=by decide +kernel
theorem s8T:K1 2 2 ([2,1,1,2].map nOf)=(true,0):=by decide +kernel
theorem s9T:K1 2 2 ([1,2,2,1].map nOf)=(false,0):=by decide +kernel
theorem sFrac:oN 9 2=some (nv (fr 9 2)):=by
 unfold oN
 rw[GR (by decide) (by decide),ab,GR (by decide) (by decide),ab,As (by decide) (by decide) (by decide),ab]
 rfl
theorem KY {a b:ap}(ha:a.vV.length≤1000000)(h:a=b):e7 a b=some true:=by rw[Qt ha,iP h]
theorem sList {a:List aj}(ha:a.length≤1000000):d9 a a=some true:=by rw[Dk ha,iP rfl]
theorem yY:kq=some true:=by
 have o1:=GN (r:=2) (c:=2) (l:=[1,2,3,4]) (by decide) (by decide)
 have o2:=GN (r:=2) (c:=3) (l:=[0,2,4,0,1,2]) (by decide) (by decide)
 have o3:=Dq (l:=[5,6]) (by decide) (by decide)
 have o4:=GN (r:=1) (c:=2) (l:=[1,1]) (by decide) (by decide)
 have o5:=Dq (l:=[2]) (by decide) (by decide)
 have o6:=GN (r:=2) (c:=1) (l:=[1,1]) (by decide) (by decide)
 have o7:=Dq (l:=[1,2]) (by decide) (by decide)
 have o8:=GN (r:=1) (c:=3) (l:=[1,2,3]) (by decide) (by decide)
 have o9:=GN (r:=2) (c:=2) (l:=[2,1,1,2]) (by decide) (by decide)
 have o10:=GN (r:=2) (c:=2) (l:=[1,2,2,1]) (by decide) (by decide)
 have o11:=GN (r:=2) (c:=3) (l:=[0,1,2,0,0,0]) (by decide) (by decide)
 have o12:=Dq (l:=[-2,1,0]) (by decide) (by decide)
 have o13:=Dq (l:=[-3,0,1]) (by decide) (by decide)
 have r1:=(IJ (R:=2) (C:=2) (V:=[1,2,3,4].map nOf) (by decide)).trans (congrArg some s1T)
 have r2:=(P_Det (R:=2) (C:=2) (V:=[1,2,3,4].map nOf) (by decide)).trans (congrArg some s2T)
 have r3:=(IJ (R:=2) (C:=3) (V:=[0,2,4,0,1,2].map nOf) (by decide)).trans (congrArg some s3T)
 have r4:=(GM (R:=2) (C:=2) (A:=[1,2,3,4].map nOf) (b:=[5,6].map nOf) (by decide) (by decide)).trans (congrArg some s4T)
 have r5:=(GM (R:=1) (C:=2) (A:=[1,1].map nOf) (b:=[2].map nOf) (by decide) (by decide)).trans (congrArg some s5T)
 have r6:=(GM (R:=2) (C:=1) (A:=[1,1].map nOf) (b:=[1,2].map nOf) (by decide) (by decide)).trans (congrArg some s6T)
 have r7:lZ (mS 1 3 ([1,2,3].map nOf))=some ([([-2,1,0].map nOf).map nv,([-3,0,1].map nOf).map nv],0):=(P_Null (R:=1) (C:=3) (V:=[1,2,3].map nOf) (by decide)).trans (by rw[s7T];rfl)
 have r8:=(Dn (R:=2) (C:=2) (V:=[2,1,1,2].map nOf) (by decide)).trans (congrArg some s8T)
 have r9:=(Dn (R:=2) (C:=2) (V:=[1,2,2,1].map nOf) (by decide)).trans (congrArg some s9T)
 have u1:=uOf (n:=-2) (by decide) (by decide)
 have u2:=uOf (n:=-4) (by decide) (by decide)
 have e1:e7 (mS 2 2 ([1,0,0,1].map nOf)) (idP 2)=some true:=KY (by decide) rfl
 have e2:e7 (mS 2 3 ([0,1,2,0,0,0].map nOf)) (mS 2 3 ([0,1,2,0,0,0].map nOf))=some true:=KY (by decide) rfl
 have e3:d9 (([-2,1,0].map nOf).map nv) (([-2,1,0].map nOf).map nv)=some true:=sList (by decide)
 have e4:d9 (([-3,0,1].map nOf).map nv) (([-3,0,1].map nOf).map nv)=some true:=sList (by decide)
 unfold kq
 rw[o1,ab,r1,ab,r2,ab,o2,ab,r3,ab,o3,ab,r4,ab,o4,ab,o5,ab,r5,ab,o6,ab,o7,ab,r6,ab,o8,ab,r7,ab,o9,ab,r8,ab,o10,ab,r9,ab]
 refine (congrArg (fun o=>bnd o _) (show _=some false from rfl)).trans ?_
 rw[ab,kF,xK,ab,o11,u1,u2,sFrac,o12,o13]
 refine (congrArg (fun o=>bnd o _) (show _=some true from ?_)).trans ?_
 ·refine (congrArg (fun o=>bnd o _) e1).trans ?_
  rw[ab,kT,aI (by decide)]
  refine (bF _ _ (by rfl)).trans ?_
  rw[aI (by decide)]
  refine (bF _ _ (by rfl)).trans ?_
  rw[ab]
  refine (bF _ _ (by rfl)).trans ?_
  rw[ab]
  refine (congrArg (fun o=>bnd o _) e2).trans ?_
  rfl
 ·rw[ab]
  refine (congrArg (fun o=>bnd o _) (show _=some true from ?_)).trans ?_
  ·rw[kT,aI (by decide),ab]
   refine (bF _ _ (by rfl)).trans ?_
   rw[aI (by decide),ab]
   refine (bF _ _ (by rfl)).trans ?_
   rw[aI (by decide),ab]
   refine (congrArg (fun o=>bnd o _) e3).trans ?_
   rw[ab,kT,aI (by decide),ab]
   refine (congrArg (fun o=>bnd o _) e4).trans ?_
   rfl
  ·rfl
def dx(aS:ap)(aU:ap)(bm:aj)(gq:Int)(fj:Int):Option Bool:=bnd (S:=Bool) (bnd (lX aS) fun x1=>cnd (!x1) (some (true)) (bnd (lX aU) fun x4=>cnd (!x4) (some (true)) (bnd (lW [bm]) fun x7=>some (!x7)))) fun a7=>cnd a7 (bnd (kq) fun qx=>some qx) (bnd (S:=Bool) (bnd (eu aS) fun lw=>bnd (jD aS) fun sQ=>cnd (decide (lw≠sQ)) (some (true)) (bnd (oa aS gq fj) fun nt=>bnd (rB aS gq fj) fun Au=>cnd (decide (¬(nt=Au))) (some (true)) (bnd (lL aS.vV) fun sO=>bnd (mA aS.vV) fun DF=>bnd (e7 sO DF) fun uC=>some (!uC)))) fun kC=>cnd kC (some false) (bnd (S:=Bool) (cnd (decide (gq≤(8:Int))) (bnd (fS gq) fun M1=>bnd (mU gq) fun Nd=>bnd (e7 M1 Nd) fun x36=>some (!x36)) (some (false))) fun bQ=>cnd bQ (some false) (bnd (l4 aS.vR aS.vC aS.vV) fun x40=>bnd (oP aS aU) fun x42=>bnd (mH aS bm) fun MZ=>bnd (oO aS aU) fun G4=>bnd (iD aS) fun G3=>bnd (gR aS aU) fun Nc=>bnd (S:=Bool) (bnd (mT aS.vR aS.vC aS.vV) fun x52=>bnd (fT x40.1 x40.2 x52) fun x54=>cnd x54 (bnd (sh aS aU) fun x57=>bnd (fT x42.1 x42.2 x57) fun x59=>cnd x59 (bnd (p6 aS bm) fun x62=>bnd (fT MZ.1 MZ.2 x62) fun x64=>some (x64)) (some (false))) (some (false))) fun su=>bnd (S:=Bool) (bnd (kq) fun x67=>cnd x67 (cnd su (bnd (sf aS aU) fun x71=>bnd (fT G4.1 G4.2 x71) fun x73=>cnd x73 (bnd (mg aS) fun x76=>bnd (fT G3.1 G3.2 x76) fun x78=>cnd x78 (bnd (mB aS aU) fun x81=>bnd (fT Nc.1 Nc.2 x81) fun x83=>some (x83)) (some (false))) (some (false))) (some (false))) (some (false))) fun tv=>some tv)))
theorem pG {aS:ap}{aU:ap}{bm:aj}{gq:Int}{fj:Int}{r:Bool}(h:dx aS aU bm gq fj=some r):aB prog 9 [dG aE aS,dG aE aU,dG ae bm,dI .i64 gq,dI .i64 fj] (dB r):=by
 refine bC (rs:=[.tmp 10]) (fun cx hx h0=>?_) func9
 unfold dx at h
 refine rs hx fun K hK=>?_
 refine s1 (d:=.pt 0 0) d8 ?_
 refine s1 (d:=.pt 1 0) d8 ?_
 iterate 2 refine sa ?_
 refine .nil (hK _ _ ?_)
 iterate 2 refine AW.seq ?_
 obtain⟨a7,hy,h⟩:=ah h
 refine jn ((PE cx .normal (fun a7=>[(3,dI .i64 gq),(4,dI .i64 fj),(5,.pt 0 0),(6,.pt 1 0),(7,.pt 2 0),(38,dB a7)]) fun a7=>⟨[(0,[dI .i64 aS.vR,dI .i64 aS.vC,dL ae aS.vV]),(1,[dI .i64 aU.vR,dI .i64 aU.vC,dL ae aU.vV]),(2,dC (ae.f bm))],[],3⟩) a7) ?_ ?_
 replace h:=hy
 refine rq hx fun K hK=>?_
 refine s1 (d:=dG aE aS) (bb aq) ?_
 refine scb h wI fun x1 h=>?_
 iterate 2 refine sa ?_
 rcases aW (!x1) with a8|a8
 replace h:=aY a8 h
 iterate 3 refine aJ rfl rfl a8 ?_
 refine s1 (am a8) ?_
 refine sa ?_
 iterate 4 refine aJ rfl rfl rfl ?_
 refine s1 (am rfl) ?_
 refine .nil (hK _ _ ?_)
 cases h
 exact pe0 h0 [0,1,2]
 replace h:=aZ a8 h
 refine g1 (d:=dG aE aU) a8 (bb aq) ?_
 obtain⟨x4,pk,h⟩:=ah h
 refine g1 a8 (cj rfl (wI pk) (by simp only[bN,cl,cF,cZ,ck,cr];exact aM _ _) (lA (al _) lAn) (.inl rfl)) ?_
 refine ga a8 ?_
 refine s1 (au a8) ?_
 refine sa ?_
 rcases aW (!x4) with bU|bU
 replace h:=aY bU h
 iterate 4 refine aJ rfl rfl bU ?_
 refine s1 (am bU) ?_
 refine .nil (hK _ _ ?_)
 cases h
 exact pe0 h0 [0,1,2]
 replace h:=aZ bU h
 refine g1 (d:=dG ae bm) bU (aA (ao.id _ _) ax) ?_
 refine g1 bU (qI ([bm]:List aj) ae aF ax) ?_
 obtain⟨x7,xn,h⟩:=ah h
 refine g1 bU (cj rfl (wH xn) rfl (lA (al _) lAn) (.inl rfl)) ?_
 refine ga bU ?_
 refine s1 (au bU) ?_
 refine .nil (hK _ _ ?_)
 cases h
 exact pe0 h0 [0,1,2]
 rintro ex tm' hp' ⟨rfl,hw⟩
 refine AW.weak hw (cdh h rfl (fun eH h=>?_) (fun eH h=>?_))
 refine rs hx fun K hK=>?_
 refine scb h uZ fun qx h=>?_
 refine sa ?_
 refine .nil (hK _ _ (AW.ret ?_))
 cases h
 exact rv1
 refine AW.skip ?_
 iterate 2 refine AW.seq ?_
 obtain⟨kC,hy,h⟩:=ah h
 refine jn ((PE cx .normal (fun kC=>[(3,dI .i64 gq),(5,.pt 0 0),(6,.pt 1 0),(7,.pt 2 0),(65,dB kC)]) fun kC=>⟨[(0,[dI .i64 aS.vR,dI .i64 aS.vC,dL ae aS.vV]),(1,[dI .i64 aU.vR,dI .i64 aU.vC,dL ae aU.vV]),(2,dC (ae.f bm))],[],3⟩) kC) ?_ ?_
 replace h:=hy
 refine rqd [11,46,44,47,32,48,14] hx fun K hK=>?_
 refine s1 (d:=dG aE aS) (bb aq) ?_
 refine cqb h rf fun lw h=>?_
 refine s1 (d:=dG aE aS) (bb aq) ?_
 refine cqb h sD fun sQ h=>?_
 iterate 2 refine sa ?_
 rcases aW (decide (lw≠sQ)) with oG|oG
 replace h:=aY oG h
 iterate 9 refine aJ rfl rfl oG ?_
 refine s1 (am oG) ?_
 refine sa ?_
 iterate 8 refine aJ rfl rfl rfl ?_
 refine s1 (am rfl) ?_
 refine .nil (hK _ _ ?_)
 cases h
 exact pe0 h0 [0,1,2]
 replace h:=aZ oG h
 refine g1 (d:=dG aE aS) oG (bb aq) ?_
 iterate 2 refine ga oG ?_
 obtain⟨nt,xo,h⟩:=ah h
 refine sqg tok rfl rfl oG (Hh xo) (by simp only[bN,cl,cF,cZ,ck,cr];exact⟨aM _ _,rfl,rfl⟩) (lA (al _) (lA (al _) (lA (al _) lAn))) (.inl (eE _ _)) ?_
 refine g1 (d:=dG aE aS) oG (bb aq) ?_
 iterate 2 refine ga oG ?_
 obtain⟨Au,hx21,h⟩:=ah h
 refine sqg tok rfl rfl oG (I3 hx21) (by simp only[bN,cl,cF,cZ,ck,cr];exact⟨aM _ _,rfl,rfl⟩) (lA (al _) (lA (al _) (lA (al _) lAn))) (.inl (eE _ _)) ?_
 refine g1 oG (xG tok 4 (by decide) qX ax) ?_
 refine s1 (au oG) ?_
 refine sa ?_
 rcases aW (decide (¬(nt=Au))) with uK|uK
 replace h:=aY uK h
 iterate 8 refine aJ rfl rfl uK ?_
 refine s1 (am uK) ?_
 refine .nil (hK _ _ ?_)
 cases h
 exact pe0 h0 [0,1,2]
 replace h:=aZ uK h
 refine ga uK ?_
 refine g1 uK (aG aF) ?_
 obtain⟨sO,Jy,h⟩:=ah h
 refine sqg tok rfl rfl uK (A3 Jy) rfl (lA (al _) lAn) (.inl (eE _ _)) ?_
 refine ga uK ?_
 refine g1 uK (aG aF) ?_
 obtain⟨DF,hx26,h⟩:=ah h
 refine sqg tok rfl rfl uK (BH hx26) rfl (lA (al _) lAn) (.inl (eE _ _)) ?_
 obtain⟨uC,FC,h⟩:=ah h
 refine sqg tok rfl rfl uK (oo FC) (by simp only[bN,cl,cF,cZ,ck,cr];exact⟨aM _ _,aM _ _⟩) (lA (al _) (lA (al _) lAn)) (.inl rfl) ?_
 refine ga uK ?_
 refine s1 (au uK) ?_
 refine .nil (hK _ _ ?_)
 cases h
 exact pe0 h0 [0,1,2]
 rintro ex tm' hp' ⟨rfl,hw⟩
 refine AW.weak hw (cdh h rfl (fun Pe h=>?_) (fun Pe h=>?_))
 refine ra hx ?_
 refine AW.ret ?_
 cases h
 exact rv1
 refine AW.skip (AW.seq (ra hx ?_))
 refine AW.seq ?_
 obtain⟨bQ,hy,h⟩:=ah h
 refine jn ((PE cx .normal (fun bQ=>[(5,.pt 0 0),(6,.pt 1 0),(7,.pt 2 0),(76,dB bQ)]) fun bQ=>⟨[(0,[dI .i64 aS.vR,dI .i64 aS.vC,dL ae aS.vV]),(1,[dI .i64 aU.vR,dI .i64 aU.vC,dL ae aU.vV]),(2,dC (ae.f bm))],[],3⟩) bQ) ?_ ?_
 replace h:=hy
 refine rq hx fun K hK=>?_
 iterate 3 refine sa ?_
 rcases aW (decide (gq≤(8:Int))) with tg|tg
 replace h:=aY tg h
 refine ga tg ?_
 obtain⟨M1,hx33,h⟩:=ah h
 refine g1 tg (cj rfl (rX hx33) rfl (lA (al _) lAn) (.inl (eE _ _))) ?_
 refine ga tg ?_
 obtain⟨Nd,hx35,h⟩:=ah h
 refine g1 tg (cj rfl (zf hx35) rfl (lA (al _) lAn) (.inl (eE _ _))) ?_
 obtain⟨x36,hx37,h⟩:=ah h
 refine g1 tg (cj rfl (oo hx37) (by simp only[bN,cl,cF,cZ,ck,cr];exact⟨aM _ _,aM _ _⟩) (lA (al _) (lA (al _) lAn)) (.inl rfl)) ?_
 refine ga tg ?_
 refine s1 (am tg) ?_
 refine .nil (hK _ _ ?_)
 cases h
 exact pe0 h0 [0,1,2]
 replace h:=aZ tg h
 iterate 6 refine aJ rfl rfl tg ?_
 refine s1 (au tg) ?_
 refine .nil (hK _ _ ?_)
 cases h
 exact pe0 h0 [0,1,2]
 rintro ex tm' hp' ⟨rfl,hw⟩
 refine AW.weak hw (cdh h rfl (fun FQ h=>?_) (fun FQ h=>?_))
 refine ra hx ?_
 refine AW.ret ?_
 cases h
 exact rv1
 refine AW.skip (rs hx fun K hK=>?_)
 refine sa ?_
 refine s1 (aG aT) ?_
 refine sa ?_
 refine s1 (aG aT) ?_
 refine sa ?_
 refine s1 (aG aF) ?_
 refine scb h wK fun x40 h=>?_
 iterate 3 refine sa ?_
 refine s1 (d:=.pt 3 0) (bc aq) ?_
 refine s0 (bO (ds':=[dI .i64 x40.1.vR,dI .i64 x40.1.vC,dL ae x40.1.vV]) aq) ?_
 refine sa ?_
 refine .nil (hK _ _ (rs hx fun K hK=>?_))
 refine s1 (d:=dG aE aS) (bb aq) ?_
 refine s1 (d:=dG aE aU) (bb aq) ?_
 refine scb h Fd fun x42 h=>?_
 iterate 3 refine sa ?_
 refine s1 (d:=.pt 4 0) (bc aq) ?_
 refine s0 (bO (ds':=[dI .i64 x42.1.vR,dI .i64 x42.1.vC,dL ae x42.1.vV]) aq) ?_
 refine sa ?_
 refine .nil (hK _ _ (rs hx fun K hK=>?_))
 refine s1 (d:=dG aE aS) (bb aq) ?_
 refine s1 (d:=dG ae bm) (aA (ao.id _ _) ax) ?_
 refine scb h BJ fun MZ h=>?_
 iterate 3 refine sa ?_
 refine s1 (d:=.pt 5 0) (bc aq) ?_
 refine s0 (bO (ds':=[dI .i64 MZ.1.vR,dI .i64 MZ.1.vC,dL ae MZ.1.vV]) aq) ?_
 refine sa ?_
 refine .nil (hK _ _ (rs hx fun K hK=>?_))
 refine s1 (d:=dG aE aS) (bb aq) ?_
 refine s1 (d:=dG aE aU) (bb aq) ?_
 refine scb h Fc fun G4 h=>?_
 iterate 3 refine sa ?_
 refine s1 (d:=.pt 6 0) (bc aq) ?_
 refine s0 (bO (ds':=[dI .i64 G4.1.vR,dI .i64 G4.1.vC,dL ae G4.1.vV]) aq) ?_
 refine sa ?_
 refine .nil (hK _ _ (rs hx fun K hK=>?_))
 refine s1 (d:=dG aE aS) (bb aq) ?_
 refine scb h xc fun G3 h=>?_
 iterate 3 refine sa ?_
 refine s1 (d:=.pt 7 0) (bc aq) ?_
 refine s0 (bO (ds':=[dI .i64 G3.1.vR,dI .i64 G3.1.vC,dL ae G3.1.vV]) aq) ?_
 refine sa ?_
 refine .nil (hK _ _ (rs hx fun K hK=>?_))
 refine s1 (d:=dG aE aS) (bb aq) ?_
 refine s1 (d:=dG aE aU) (bb aq) ?_
 refine scb h ul fun Nc h=>?_
 iterate 3 refine sa ?_
 refine s1 (d:=.pt 8 0) (bc aq) ?_
 refine s0 (bO (ds':=[dI .i64 Nc.1.vR,dI .i64 Nc.1.vC,dL ae Nc.1.vV]) aq) ?_
 refine sa ?_
 refine .nil (hK _ _ (AW.seq ?_))
 obtain⟨su,hy,h⟩:=ah h
 refine jn ((PE cx .normal (fun su=>[(5,.pt 0 0),(6,.pt 1 0),(18,.pt 2 0),(19,dI .i64 G4.2),(20,.pt 3 0),(21,dI .i64 G3.2),(22,.pt 4 0),(23,dI .i64 Nc.2),(24,dB su)]) fun su=>⟨[(0,[dI .i64 aS.vR,dI .i64 aS.vC,dL ae aS.vV]),(1,[dI .i64 aU.vR,dI .i64 aU.vC,dL ae aU.vV]),(2,[dI .i64 G4.1.vR,dI .i64 G4.1.vC,dL ae G4.1.vV]),(3,[dI .i64 G3.1.vR,dI .i64 G3.1.vC,dL ae G3.1.vV]),(4,[dI .i64 Nc.1.vR,dI .i64 Nc.1.vC,dL ae Nc.1.vV])],[],5⟩) su) ?_ ?_
 replace h:=hy
 refine rqd [35,25,52,53] hx fun K hK=>?_
 refine s1 (d:=dG aE x40.1) (bb aq) ?_
 iterate 2 refine sa ?_
 refine s1 (aG aT) ?_
 refine sa ?_
 refine s1 (aG aT) ?_
 refine sa ?_
 refine s1 (aG aF) ?_
 refine cqb h xX fun x52 h=>?_
 refine cqb h mP fun x54 h=>?_
 refine sa ?_
 rcases aW x54 with Be|Be
 replace h:=aY Be h
 refine g1 (d:=dG aE x42.1) Be (bb aq) ?_
 refine ga Be ?_
 refine g1 (d:=dG aE aS) Be (bb aq) ?_
 refine g1 (d:=dG aE aU) Be (bb aq) ?_
 obtain⟨x57,hx58,h⟩:=ah h
 refine sqg tok rfl rfl Be (Ha hx58) (by simp only[bN,cl,cF,cZ,ck,cr];exact⟨aM _ _,aM _ _⟩) (lA (al _) (lA (al _) lAn)) (.inl (eE _ _)) ?_
 obtain⟨x59,hx60,h⟩:=ah h
 refine sqg tok rfl rfl Be (mP hx60) (by simp only[bN,cl,cF,cZ,ck,cr];exact⟨aM _ _,rfl,aM _ _⟩) (lA (al _) (lA (al _) (lA (al _) lAn))) (.inl rfl) ?_
 refine s1 (am Be) ?_
 refine sa ?_
 rcases aW x59 with Bd|Bd
 replace h:=aY Bd h
 refine g1 (d:=dG aE MZ.1) Bd (bb aq) ?_
 refine ga Bd ?_
 refine g1 (d:=dG aE aS) Bd (bb aq) ?_
 refine g1 (d:=dG ae bm) Bd (aA (ao.id _ _) ax) ?_
 obtain⟨x62,hx63,h⟩:=ah h
 refine sqg tok rfl rfl Bd (DJ hx63) (by simp only[bN,cl,cF,cZ,ck,cr];exact⟨aM _ _,aM _ _⟩) (lA (al _) (lA (dT _ _) lAn)) (.inl (eE _ _)) ?_
 obtain⟨x64,hx65,h⟩:=ah h
 refine sqg tok rfl rfl Bd (mP hx65) (by simp only[bN,cl,cF,cZ,ck,cr];exact⟨aM _ _,rfl,aM _ _⟩) (lA (al _) (lA (al _) (lA (al _) lAn))) (.inl rfl) ?_
 refine s1 (am Bd) ?_
 refine sa ?_
 refine .nil (hK _ _ ?_)
 cases h
 exact pe0 h0 [0,1,6,7,8]
 replace h:=aZ Bd h
 iterate 6 refine aJ rfl rfl Bd ?_
 refine s1 (au Bd) ?_
 refine sa ?_
 refine .nil (hK _ _ ?_)
 cases h
 exact pe0 h0 [0,1,6,7,8]
 replace h:=aZ Be h
 iterate 6 refine aJ rfl rfl Be ?_
 refine s1 (au Be) ?_
 refine sa ?_
 iterate 6 refine aJ rfl rfl rfl ?_
 refine s1 (au rfl) ?_
 refine sa ?_
 refine .nil (hK _ _ ?_)
 cases h
 exact pe0 h0 [0,1,6,7,8]
 rintro ex tm' hp' ⟨rfl,hw⟩
 refine AW.weak hw (AW.seq ?_)
 obtain⟨tv,hy,h⟩:=ah h
 refine jn ((PE cx .normal (fun tv=>[(10,dB tv)]) fun tv=>⟨[],[],0⟩) tv) ?_ ?_
 replace h:=hy
 refine rqd [12,54,25,55,56] hx fun K hK=>?_
 refine cqb h uZ fun x67 h=>?_
 refine sa ?_
 rcases aW x67 with JQ|JQ
 replace h:=aY JQ h
 refine ga JQ ?_
 refine s1 (am JQ) ?_
 refine sa ?_
 rcases aW su with Bc|Bc
 replace h:=aY Bc h
 refine g1 (d:=dG aE G4.1) Bc (bb aq) ?_
 refine ga Bc ?_
 refine g1 (d:=dG aE aS) Bc (bb aq) ?_
 refine g1 (d:=dG aE aU) Bc (bb aq) ?_
 obtain⟨x71,hx72,h⟩:=ah h
 refine sqg tok rfl rfl Bc (G9 hx72) (by simp only[bN,cl,cF,cZ,ck,cr];exact⟨aM _ _,aM _ _⟩) (lA (al _) (lA (al _) lAn)) (.inl (eE _ _)) ?_
 obtain⟨x73,hx74,h⟩:=ah h
 refine sqg tok rfl rfl Bc (mP hx74) (by simp only[bN,cl,cF,cZ,ck,cr];exact⟨aM _ _,rfl,aM _ _⟩) (lA (al _) (lA (al _) (lA (al _) lAn))) (.inl rfl) ?_
 refine s1 (am Bc) ?_
 refine sa ?_
 rcases aW x73 with Cn|Cn
 replace h:=aY Cn h
 refine g1 (d:=dG aE G3.1) Cn (bb aq) ?_
 refine ga Cn ?_
 refine g1 (d:=dG aE aS) Cn (bb aq) ?_
 obtain⟨x76,hx77,h⟩:=ah h
 refine sqg tok rfl rfl Cn (xW hx77) (by simp only[bN,cl,cF,cZ,ck,cr];exact aM _ _) (lA (al _) lAn) (.inl (eE _ _)) ?_
 obtain⟨x78,hx79,h⟩:=ah h
 refine sqg tok rfl rfl Cn (mP hx79) (by simp only[bN,cl,cF,cZ,ck,cr];exact⟨aM _ _,rfl,aM _ _⟩) (lA (al _) (lA (al _) (lA (al _) lAn))) (.inl rfl) ?_
 refine s1 (am Cn) ?_
 refine sa ?_
 rcases aW x78 with Bb|Bb
 replace h:=aY Bb h
 refine g1 (d:=dG aE Nc.1) Bb (bb aq) ?_
 refine ga Bb ?_
 refine g1 (d:=dG aE aS) Bb (bb aq) ?_
 refine g1 (d:=dG aE aU) Bb (bb aq) ?_
 obtain⟨x81,hx82,h⟩:=ah h
 refine sqg tok rfl rfl Bb (BI hx82) (by simp only[bN,cl,cF,cZ,ck,cr];exact⟨aM _ _,aM _ _⟩) (lA (al _) (lA (al _) lAn)) (.inl (eE _ _)) ?_
 obtain⟨x83,hx84,h⟩:=ah h
 refine sqg tok rfl rfl Bb (mP hx84) (by simp only[bN,cl,cF,cZ,ck,cr];exact⟨aM _ _,rfl,aM _ _⟩) (lA (al _) (lA (al _) (lA (al _) lAn))) (.inl rfl) ?_
 refine s1 (am Bb) ?_
 refine sa ?_
 refine .nil (hK _ _ ?_)
 cases h
 exact pe0 h0 []
 replace h:=aZ Bb h
 iterate 6 refine aJ rfl rfl Bb ?_
 refine s1 (au Bb) ?_
 refine sa ?_
 refine .nil (hK _ _ ?_)
 cases h
 exact pe0 h0 []
 replace h:=aZ Cn h
 iterate 5 refine aJ rfl rfl Cn ?_
 refine s1 (au Cn) ?_
 refine sa ?_
 iterate 6 refine aJ rfl rfl rfl ?_
 refine s1 (au rfl) ?_
 refine sa ?_
 refine .nil (hK _ _ ?_)
 cases h
 exact pe0 h0 []
 replace h:=aZ Bc h
 iterate 6 refine aJ rfl rfl Bc ?_
 refine s1 (au Bc) ?_
 refine sa ?_
 iterate 5 refine aJ rfl rfl rfl ?_
 refine s1 (au rfl) ?_
 refine sa ?_
 iterate 6 refine aJ rfl rfl rfl ?_
 refine s1 (au rfl) ?_
 refine sa ?_
 refine .nil (hK _ _ ?_)
 cases h
 exact pe0 h0 []
 replace h:=aZ JQ h
 refine aJ rfl rfl JQ ?_
 refine s1 (au JQ) ?_
 refine sa ?_
 iterate 6 refine aJ rfl rfl rfl ?_
 refine s1 (au rfl) ?_
 refine sa ?_
 iterate 5 refine aJ rfl rfl rfl ?_
 refine s1 (au rfl) ?_
 refine sa ?_
 iterate 6 refine aJ rfl rfl rfl ?_
 refine s1 (au rfl) ?_
 refine sa ?_
 refine .nil (hK _ _ ?_)
 cases h
 exact pe0 h0 []
 rintro ex tm' hp' ⟨rfl,hw⟩
 refine AW.weak hw (AW.ret ?_)
 cases h
 exact rv1
theorem dt2:decide (¬True)=false:=rfl
theorem s8 {R C:Nat}{V:List Nu}(h:V.length≤1000000):(iQ R C V).1.vV.length≤1000000:=by
 unfold iQ
 split
 ·rw[bH];exact h
 ·exact fH _
theorem EB {R C:Int}{V:List Nu}(h:V.length≤1000000):(B0 R C V).1.vV.length≤1000000:=by
 unfold B0
 split
 ·rw[bH];exact h
 ·exact fH _
theorem s7 {α:Type}{R C:Nat}{f:Nat→Nat→α}(hR:R≤400)(hC:C≤400):(mkM R C f).length≤1000000:=by
 have:R*C≤400*400:=iS hR hC
 rw[br];omega
theorem Qh {R C R' C':Int}{A B:List Nu}:(MR R C A R' C' B).1.vV.length≤1000000:=by
 unfold MR
 split
 ·rename_i h
  obtain⟨r,c,rfl,rfl,hm⟩:=cX.1 h.1
  have h3:=hm.r
  have h4:=hm.c
  exact s8 (s7 (by omega) (by omega))
 ·exact fH _
theorem Jc {R C:Int}{A:List Nu}{x:Nu}:(zC R C A x).1.vV.length≤1000000:=by
 unfold zC
 split
 ·rename_i h
  obtain⟨r,c,rfl,rfl,hm⟩:=cX.1 h.1
  have h3:=hm.r
  have h4:=hm.c
  exact s8 (s7 (by omega) (by omega))
 ·exact fH _
theorem Oc {R C R' C':Int}{A B:List Nu}:(Mi R C A R' C' B).1.vV.length≤1000000:=by
 unfold Mi
 split
 ·rename_i h
  obtain⟨r,c,rfl,rfl,hm⟩:=cX.1 h.1
  obtain⟨r',c',hr,rfl,tU⟩:=cX.1 h.2.1
  have h3:=hm.r
  have h4:=tU.c
  exact s8 (s7 (by omega) (by omega))
 ·exact fH _
theorem L2 {R C:Int}{A:List Nu}:(Er R C A).1.vV.length≤1000000:=by
 unfold Er
 split
 ·rename_i h
  obtain⟨r,c,rfl,rfl,hm⟩:=cX.1 h
  have h3:=hm.r
  have h4:=hm.c
  exact s8 (s7 (by omega) (by omega))
 ·exact fH _
theorem P4 {R C R' C':Int}{A B:List Nu}:(Eg R C A R' C' B).1.vV.length≤1000000:=by
 unfold Eg
 split
 ·rename_i h
  obtain⟨r,c,rfl,rfl,hm⟩:=cX.1 h.1
  have h3:=hm.r
  split
  ·exact fH _
  ·exact s8 (s7 (by omega) (by omega))
 ·exact fH _
theorem idP_len {n:Int}:(idP n).vV.length≤1000000:=by
 unfold idP
 split
 ·exact fH _
 ·rw[bH];exact s7 (by omega) (by omega)
theorem PN {V:List Nu}(h:V.length≤1000000):(PO V).vV.length≤1000000:=EB h
theorem Eu {p:ap×Int}(h:p.1.vV.length≤1000000):fT p.1 p.2 (fnd p)=some true:=by
 rw[L_same h,iP rfl,iP rfl];rfl
theorem G_makes {R C R' C':Int}{A B:List Nu}{x:Nu}{i k:Int}:dx (mS R C A) (mS R' C' B) (nv x) i k=some true:=by
 unfold dx
 obtain⟨b1,h1,k1⟩:=LM (R:=R) (C:=C) (V:=A)
 obtain⟨b2,h2,k2⟩:=LM (R:=R') (C:=C') (V:=B)
 obtain⟨b3,h3⟩:=LL (l:=[x]) (by simp)
 rw[h1,h2,show [nv x]=[x].map nv from rfl,h3]
 simp only[ab,kOr]
 cases b1 with
 |false=>rw[show (!false||(!b2||!b3))=true from rfl,kT,yY];rfl
 |true=>
  cases b2 with
  |false=>rw[show (!true||(!false||!b3))=true from rfl,kT,yY];rfl
  |true=>
   cases b3 with
   |false=>rw[show (!true||(!true||!false))=true from rfl,kT,yY];rfl
   |true=>
    have hA:A.length≤1000000:=by have:=(k1 rfl).1;omega
    have hB:B.length≤1000000:=by have:=(k2 rfl).1;omega
    rw[show (!true||(!true||!true))=false from rfl,kF,wo hA,GK hA,P_At hA,Q_At hA,Qy hA,Qv hA]
    simp only[ab]
    rw[KY (PN hA) rfl]
    simp only[ab]
    rw[bA _ _ (by simp),dt2,kF]
    simp only[ab]
    rw[show (!true)=false from rfl,kF,xK,KH]
    simp only[ab]
    rw[KY idP_len rfl]
    simp only[ab]
    rw[show cnd (decide (i≤8)) (some (!true)) (some false)=some false by cases decide (i≤8) <;> rfl]
    simp only[ab]
    rw[kF,Qx hA,P_Add hA hB,P_Scale hA,P_Mul hA hB,II hA,Dp hA hB,Qu hA,Q_Add hA hB,Q_Scale hA,Q_Mul hA hB,IG hA,Qw hA hB]
    simp only[ab]
    rw[Eu (EB hA),Eu Qh,Eu Jc,Eu Oc,Eu L2,Eu P4,yY]
    rfl
section
open Go.ChangeShapes Go.WideShapes Go.ChangeAt Go.RowKit Go.Deep
section
variable {H:Type} {enc:TypeId×Value→H} {P:Program}
theorem DU {f:Func}{s:ChangeSpec}{apart fresh handsOn again:Bool}{W W':World}{args:Array Value}{v:Value}{ds gs:List (DataW H)}{before pa pv:List MemPlace}
  (hW:DataW.Whole enc P f.params.toList s.vars apart W args.toList ds gs before)
  (mQ:∀(b:Nat) (sp:Nat→Bool) (hd:Bool),DataW.TrodAll enc P W' b sp hd f.resultTypes.toList (v.resultList f.resultTypes.size) (s.fn H (ds++gs)).results [])
  (se:∀sp:Nat→Bool,(∀p∈before,sp p.block=true)→DataW.TrodAll enc P W' 0 sp true f.params.toList args.toList (s.fn H (ds++gs)).args pa)
  (Lc:∀sp:Nat→Bool,(∀p∈before,sp p.block=true)→DataW.TrodVars enc P W' sp s.vars (s.fn H (ds++gs)).vars pv)
  (OH:before=pa++pv) (hb:Below W.heap.size W W')
  (hok:∀(j:Nat) (t:TypeId) (r:Value),f.resultTypes[j]? =some t→(v.resultList f.resultTypes.size)[j]? =some r→Value.okWide P W' .any 0 t r):
  s.post enc P f apart fresh handsOn again W args v W':=by
 have cg:∀p∈before,p.block<W.heap.size:=fun p hp=>hW.lt p hp
 have hold:∀p∈before,(fun b=>decide (b<W.heap.size)) p.block=true:=fun p hp=>by simpa using cg p hp
 refine⟨ds,gs,before,[],pa,pv,hW,mQ _ _ _,se _ hold,Lc _ hold,World.keptBut_mono (fun p hp=>⟨hp,?_⟩) (hb.frame (·∈before)),fun _=>?_⟩
 ·rw[OH,sJ] at hp
  exact Or.inr hp
 ·obtain⟨_,_,_,_,_,hz,hn⟩:=hW
  refine⟨hok,_,_,([]++pa)++pv,⟨[]++pa,pv,trodAll_append (se _ (fun _ _=>rfl)) (mQ _ _ _),Lc _ (fun _ _=>rfl),rfl,?_,?_⟩,?_⟩
  ·intro b off hp
   have JL:MemPlace.cell b off∈before:=by rw[OH];simpa using hp
   rw[hb.frozen (cg _ JL)]
   exact hz b off JL
  ·intro ha
   have:=hn ha
   rw[OH] at this
   simpa using this
  ·intro p hp _
   rw[OH]
   simpa using hp
theorem DS(hl:laidOutB P=true){W W':World}(hb:Below W.heap.size W W'){sp:Nat→Bool}:∀(ts:List TypeId) (vs:List Value) (ds:List (DataW H)) (p:List MemPlace),
  (ts.all fun t=>P.readableRec t&&decide (t<P.types.size))=true→DataW.TrodAll enc P W 0 (fun _=>true) true ts vs ds p→(∀x∈p,x.block<W.heap.size)→(∀x∈p,sp x.block=true)→
  DataW.TrodAll enc P W' 0 sp true ts vs ds p:=by
 intro ts
 induction ts with
 |nil=>
  intro vs ds p _ h _ _
  cases vs with
  |nil=>cases ds with
   |nil=>exact h
   |cons d ds=>exact h.elim
  |cons v vs=>exact h.elim
 |cons t ts ih=>
  intro vs ds p hr h cg hs
  cases vs with
  |nil=>exact h.elim
  |cons v vs=>
   cases ds with
   |nil=>exact h.elim
   |cons d ds=>
    obtain⟨p1,q,h1,h2,rfl⟩:=h
    simp only[cF,cr,oX] at hr
    refine⟨p1,q,WideElems.Trod_stays hl hr.1.1 hr.1.2 h1 (fun x hx=>hb.same (cg x (by simp[hx]))) (fun x hx=>hs x (by simp[hx])),ih vs ds q hr.2 h2 (fun x hx=>cg x (by simp[hx])) (fun x hx=>hs x (by simp[hx])),rfl⟩
theorem On {f:Func}{s:ChangeSpec}{W W':World}{args:Array Value}{ds gs:List (DataW H)}{before:List MemPlace}{tb:TypeId}
  (hl:laidOutB P=true) (hv:s.vars=[]) (A6:(f.params.toList.all fun t=>P.readableRec t&&decide (t<P.types.size))=true)
  (mQ:f.resultTypes=#[tb]) (htb:P.underlying tb=some .bool)
  (hW:DataW.Whole enc P f.params.toList s.vars false W args.toList ds gs before)
  (O5:s.fn H (ds++gs)={results:=[.lit (.bool true)],args:=ds}) (hb:Below W.heap.size W W'):
  s.post enc P f false true false false W args (.bool true) W':=by
 have hW':=hW
 obtain⟨p,q,hA,hV,hpq,_,_⟩:=hW
 rw[hv] at hV
 have hq:q=[]:=by
  cases gs with
  |nil=>exact hV
  |cons g gs=>exact hV.elim
 subst hq
 rw[vo] at hpq
 subst hpq
 refine DU (pa:=before) (pv:=[]) hW' (fun b sp hd=>?_) (fun sp hsp=>?_) (fun sp _=>?_) (by simp) hb ?_
 ·rw[mQ,O5]
  exact trodAll_cons_mk (shut_bool htb _) trodAll_mk0
 ·rw[O5]
  exact DS hl hb _ _ _ _ A6 hA (fun x hx=>hW'.lt x hx) hsp
 ·rw[hv,O5];rfl
 ·exact ok_one mQ rfl (okWide_bool_mk htb _)
end
theorem HY {P:Program}{W:World}{params:Array TypeId}{args:Array Value}(h:∀(j:Nat) t v,params[j]? =some t→args[j]? =some v→Value.okWide P W .any 0 t v∨∃base,Value.okWide P W .any base t v)(j:Nat){t:TypeId}{v:Value}
  (h1:params[j]? =some t) (h2:args[j]? =some v):∃base,Value.okWide P W .any base t v:=by
 rcases h j t v h1 h2 with h|h
 ·exact⟨0,h⟩
 ·exact h
end
section
open Go.ChangeShapes Go.WideShapes Go.ChangeAt Go.RowKit Go.Deep
def wtFs(tb:TypeId→Option TyE)(f:TypeId→List E→Prop):List (Nat×TypeId)→List E→Prop
 |[],xs=>xs=[]
 |(_,t)::fs,xs=>∃j,tb t=some j∧j.size≤xs.length∧f t (xs.take j.size)∧wtFs tb f fs (xs.drop j.size)
def wtE(tb:TypeId→Option TyE):Nat→TypeId→List E→Prop
 |0,_,_=>False
 |k+1,t,xs=>∃i,tb t=some i∧xs.length=i.size∧match i.ty with
  | .int kd=>∃n,xs=[.lit (.int kd n)]∧(Lit.int kd n).wf=true
  | .bool=>∃b,xs=[.lit (.bool b)]
  | .str=>∃s:ByteArray,xs=[.lit (.string s)]∧s.size≤maxLen
  | .slice e=>∃j n ys,tb e=some j∧xs=[.sl j.size n ys]∧ys.length=n*j.size∧n≤maxLen∧∀i,i<n→wtE tb k e ((ys.drop (i*j.size)).take j.size)
  | .struct fs=>wtFs tb (wtE tb k) fs xs
  | .arr n e=>∃j,tb e=some j∧xs.length=n*j.size∧∀i,i<n→wtE tb k e ((xs.drop (i*j.size)).take j.size)
  |_=>False
def BM(tb:TypeId→Option TyE)(f:TypeId→Bool):List (Nat×TypeId)→Nat→Nat→Bool
 |[],off,n=>off == n
 |(o,t)::fs,off,n=>o == off&&f t&&match tb t with
  |some j=>BM tb f fs (off+j.size) n
  |none=>false
def Fs(tb:TypeId→Option TyE):Nat→TypeId→Bool
 |0,_=>false
 |k+1,t=>match tb t with
  |some i=>match i.ty with
   | .int _| .bool| .str=>i.size == 1
   | .slice e=>i.size == 1&&Fs tb k e&&match tb e with
    |some j=>decide (0<j.size)
    |none=>false
   | .struct fs=>BM tb (Fs tb k) fs 0 i.size
   | .arr n e=>Fs tb k e&&match tb e with
    |some j=>i.size == n*j.size
    |none=>false
   |_=>false
  |none=>false
section
variable {H:Type} {enc:TypeId×Value→H} {P:Program} {tb:TypeId→Option TyE} {W:World} {sp:Nat→Bool} {hd:Bool} {base:Nat}
theorem TOk.cells(tok:TOk P tb){t:TypeId}{i:TyE}(h:tb t=some i):P.cellsOf t=i.size:=by
 obtain⟨f,z,h1,h2,_⟩:=tok.inf h
 unfold Program.cellsOf
 rw[h1]
 exact h2
def F0:Addr→Prop:=fun _=>False
theorem Aa {z:Nat}{us:List Value}{Good:List E→Prop}:∀(n:Nat),us.length=n*z→(∀i,i<n→∃xs,Pw (dE W F0) xs ((us.drop (i*z)).take z)∧Good xs)→
  ∃ys,Pw (dE W F0) ys us∧ys.length=n*z∧∀i,i<n→Good ((ys.drop (i*z)).take z)
 |0,hl,_=>⟨[],by rw[gb] at hl;rw[kL hl];exact Pw.nil,by simp,fun i h=>absurd h (vk _)⟩
 |n+1,hl,h=>by
  rw[qu] at hl
  have cg:(us.take (n*z)).length=n*z:=by rw[ff];omega
  obtain⟨ys,h1,h2,h3⟩:=Aa (us:=us.take (n*z)) n cg fun i hi=>by
   obtain⟨xs,g1,g2⟩:=h i (by omega)
   have hm:i*z+z≤n*z:=by rw[←qu];exact c6 _ hi
   refine⟨xs,?_,g2⟩
   rw[CL,Ag,rH (by omega)]
   exact g1
  obtain⟨xs,g1,g2⟩:=h n (by omega)
  have hx:xs.length=z:=by rw[g1.1,ff,gY];omega
  refine⟨ys++xs,?_,by rw[fg,h2,hx,qu],fun i hi=>?_⟩
  ·have e:us=us.take (n*z)++(us.drop (n*z)).take z:=by
    rw[kO (l:=us.drop (n*z)) (by rw[gY];omega),rI]
   rw[e]
   exact h1.append g1
  ·rcases cc i n with JL|JL
   ·have hm:i*z+z≤n*z:=by rw[←qu];exact c6 _ JL
    rw[Kd (by omega),AP (by rw[gY];omega)]
    exact h3 i JL
   ·obtain rfl:i=n:=by omega
    rw[Kp,h2,Nat.sub_self,CV (by omega)]
    simp only[nZ,pB]
    rw[kO (by omega)]
    exact g2
theorem wb(tok:TOk P tb):∀(k:Nat) (fuel:Nat) (t:TypeId) (cs:List Value) (x:DataW H×List MemPlace),Fs tb k t=true→DataW.trod enc P W base sp hd fuel t cs=some x→∃xs,Pw (dE W F0) xs cs∧wtE tb k t xs
 |0,_,_,_,_,h,_=>by cases h
 |k+1,fuel,t,cs,x,hok,h=>by
  unfold Fs at hok
  cases ht:tb t with
  |none=>rw[ht] at hok;cases hok
  |some i=>
   rw[ht] at hok
   dsimp only at hok
   cases jH:i.ty with
   |int kd=>
    rw[jH] at hok
    have hz:i.size=1:=by simpa using hok
    obtain⟨n,rfl,_,hw⟩:=DataW.trod_int (tok.int ht jH) h
    exact⟨[.lit (.int kd n)],Pw.cons (.lit _ rfl) Pw.nil,i,ht,by rw[hz];rfl,by rw[jH];exact⟨n,rfl,hw⟩⟩
   |bool=>
    rw[jH] at hok
    have hz:i.size=1:=by simpa using hok
    obtain⟨dd,M6,H7⟩:=tok.und ht
    rw[jH] at H7
    have hb:P.underlying t=some .bool:=by cases dd <;> simp[Ty.of] at H7;exact M6
    obtain⟨b,rfl,_⟩:=DataW.trod_bool hb h
    exact⟨[.lit (.bool b)],Pw.cons (.lit _ rfl) Pw.nil,i,ht,by rw[hz];rfl,by rw[jH];exact⟨b,rfl⟩⟩
   |str=>
    rw[jH] at hok
    have hz:i.size=1:=by simpa using hok
    obtain⟨s,rfl,_,hs⟩:=DataW.trod_string (tok.str ht jH) h
    exact⟨[.lit (.string s)],Pw.cons (.lit _ rfl) Pw.nil,i,ht,by rw[hz];rfl,by rw[jH];exact⟨s,rfl,hs⟩⟩
   |slice e=>
    rw[jH] at hok
    dsimp only at hok
    cases he:tb e with
    |none=>rw[he] at hok;simp at hok
    |some j=>
     rw[he] at hok
     simp only[cr,beq_iff_eq,oX] at hok
     obtain⟨⟨hz,hoe⟩,FJ⟩:=hok
     have hce:=tok.cells he
     rcases open_slice (tok.slice ht jH) h with⟨rfl,_⟩|⟨a,len,cap,m,n,D,Pl,rfl,hb,hlc,oh,hm,_,hi⟩
     ·exact⟨[.sl j.size 0 []],Pw.cons (.sl _ 0 [] none 0 (fun _=>undef) (by simp) FJ (bI _) (fH _) (fun h=>absurd h (Gr _)) (fun _ h=>by cases h) (fun _ _ h=>by simp at h)) Pw.nil,
       i,ht,by rw[hz];rfl,by rw[jH];exact⟨j,0,[],he,rfl,by simp,fH _,fun i h=>absurd h (vk _)⟩⟩
     ·have hle:len≤m:=by rw[hm];split <;> omega
      rw[hce] at hi
      let us:List Value:=(List.range (len*j.size)).map fun q=>(W.cell? (a.add q)).getD undef
      have Ld:us.length=len*j.size:=by simp[us]
      have hu:∀q,q<len*j.size→us[q]? =some ((W.cell? (a.add q)).getD undef):=fun q hq=>by simp[us,hq]
      have O8:∀i,i<len→∃t4,W.cells? base (a.add (i*j.size)) j.size=some t4∧t4=(us.drop (i*j.size)).take j.size:=by
       intro i Mw
       obtain⟨t4,hc,_⟩:=hi i (by omega)
       obtain⟨_,Ci,DE⟩:=World.cells?_some hc
       refine⟨t4,hc,xD fun q=>?_⟩
       have hm2:i*j.size+j.size≤len*j.size:=by rw[←qu];exact c6 _ Mw
       rw[eY,mN]
       split
       ·rename_i hq
        have h1:=DE q hq
        rw[pV] at h1
        rw[hu _ (by omega),h1]
        rw[fI (by omega)];rfl
       ·rename_i hq
        rw[fV (by omega)]
      obtain⟨ys,Lb,B6,hy3⟩:=Aa (W:=W) (us:=us) (z:=j.size) (Good:=wtE tb k e) len Ld fun i Mw=>by
       obtain⟨t4,hc,hcs'⟩:=O8 i Mw
       obtain⟨cs2,pg,htr⟩:=hi i (by omega)
       rw[hc] at pg
       injection pg with pg
       subst pg
       rw[←hcs']
       exact wb tok k _ e t4 _ hoe htr
      have AJ:∀q v,us[q]? =some v→W.cell? (a.add q)=some v:=by
       intro q v hv
       have hq:q<len*j.size:=by
        rcases cc q us.length with h|h
        ·omega
        ·rw[fV h] at hv;cases hv
       -- the cell lies in a chunk
       have hqd:q / j.size<len:=C6 (by rw[cY];exact hq)
       obtain⟨t4,hc,hcs'⟩:=O8 (q / j.size) hqd
       obtain⟨_,Ci,DE⟩:=World.cells?_some hc
       have h1:=DE (q % j.size) (ey _ FJ)
       rw[pV,cY,oV] at h1
       rw[hu q hq] at hv
       injection hv with hv
       rw[h1] at hv
       rw[h1,fI (by have:=ey q FJ;omega)] at*
       simp only[ua] at hv
       rw[hv]
      refine⟨[.sl j.size len ys],Pw.cons (.sl _ len ys (some a) cap (fun q=>us.getD q undef) B6 FJ hlc oh (fun hpl=>⟨a,rfl,?_⟩) (fun ad MC q y hq=>?_) (fun q y hq=>?_)) Pw.nil,i,ht,by rw[hz];rfl,by rw[jH];exact⟨j,len,ys,he,rfl,B6,da hlc oh,hy3⟩⟩
      ·have h0:0<len*j.size:=sr hpl FJ
       have:=World.block_lt_of_cell? W _ (AJ 0 _ (hu 0 h0))
       rwa[ie] at this
      ·injection MC with MC
       subst MC
       obtain⟨v,hv,_⟩:=Lb.get hq
       refine⟨?_,fun hf=>hf⟩
       rw[AJ q v hv,List.getD,hv];rfl
      ·obtain⟨v,hv,hr⟩:=Lb.get hq
       rw[List.getD,hv]
       exact hr
   |other=>rw[jH] at hok;cases hok
   |struct fs=>
    rw[jH] at hok
    dsimp only at hok
    obtain⟨fields,hf,GY⟩:=tok.struct ht jH
    obtain⟨xs,n,_,_,Ci,zb,ml⟩:=DataW.trod_struct hf h
    rw[tok.cells ht] at Ci
    have key:∀(l:List Field) (off:Nat),(∀f∈l,∃x,DataW.trod enc P W base sp hd n f.type ((cs.drop f.offset).take (P.cellsOf f.type))=some x)→off≤cs.length→BM tb (Fs tb k) (l.map fun f=>(f.offset,f.type)) off i.size=true→
      ∃ys,Pw (dE W F0) ys (cs.drop off)∧wtFs tb (wtE tb k) (l.map fun f=>(f.offset,f.type)) ys:=by
     intro l
     induction l with
     |nil=>
      intro off _ ho wV
      have:off=i.size:=by simpa[BM] using wV
      exact⟨[],by rw[CV (by omega)];exact Pw.nil,rfl⟩
     |cons f l ih=>
      intro off hl ho wV
      simp only[bN,BM,cr,beq_iff_eq] at wV
      obtain⟨⟨hof,zX⟩,wV⟩:=wV
      cases hj:tb f.type with
      |none=>rw[hj] at wV;cases wV
      |some j=>
       rw[hj] at wV
       dsimp only at wV
       obtain⟨x,hx⟩:=hl f (mL ..)
       rw[tok.cells hj,hof] at hx
       obtain⟨zs,Jw,hz2⟩:=wb tok k _ f.type _ _ zX hx
       have hzl:zs.length=j.size:=by
        cases k with
        |zero=>cases hz2
        |succ k=>
         obtain⟨j',GX,OY,_⟩:=hz2
         rw[hj] at GX
         injection GX with GX
         subst GX
         exact OY
       have hlen:off+j.size≤cs.length:=by
        have:=Jw.1
        rw[hzl,ff,gY] at this
        omega
       obtain⟨ys,Lb,B6⟩:=ih (off+j.size) (fun g hg=>hl g (ln _ hg)) hlen wV
       refine⟨zs++ys,?_,j,hj,by rw[fg];omega,?_,?_⟩
       ·have e:cs.drop off=(cs.drop off).take j.size++cs.drop (off+j.size):=by
         rw[←mM,rI]
        rw[e]
        exact Jw.append Lb
       ·rw[AP (by omega),kO (by omega)]
        exact hz2
       ·rw[Kd (by omega),CV (by omega)]
        exact B6
    obtain⟨ys,Lb,B6⟩:=key fields.toList 0 (fun f hfm=>by
     obtain⟨q,hq⟩:=vp hfm
     have hq':fields[q]? =some f:=by simpa using hq
     have cg:q<xs.length:=by rw[zb];exact (eI.1 hq').1
     exact⟨xs[q],by rw[ml q f hq',fI cg]⟩) (fH _) (by rw[GY];exact hok)
    rw[nZ] at Lb
    exact⟨ys,Lb,i,ht,by rw[Lb.1,Ci],by rw[jH];rw[GY] at B6;exact B6⟩
   |arr n e=>
    rw[jH] at hok
    dsimp only at hok
    cases he:tb e with
    |none=>rw[he] at hok;simp at hok
    |some j=>
     rw[he] at hok
     simp only[cr,beq_iff_eq] at hok
     obtain⟨hoe,hz⟩:=hok
     obtain⟨xs,m,_,_,Ci,zb,ml⟩:=DataW.trod_array (tok.arr ht jH) h
     rw[tok.cells ht] at Ci
     rw[tok.cells he] at ml
     obtain⟨ys,Lb,B6,hy3⟩:=Aa (W:=W) (us:=cs) (z:=j.size) (Good:=wtE tb k e) n (by rw[Ci,hz]) fun q hq=>by
      have hq':=ml q hq
      rw[fI (by omega)] at hq'
      exact wb tok k _ e _ _ hoe hq'
     exact⟨ys,Lb,i,ht,by rw[Lb.1,Ci],by rw[jH];exact⟨j,he,B6,hy3⟩⟩
def argD(g:Bool)(xs:List E):D:=match g with
 |true=>.ag (xs.map D.e)
 |false=>.e (xs.headD .any)
theorem arg_rep(tok:TOk P tb){k:Nat}{t:TypeId}{i:TyE}{v:Value}{d:DataW H}{p:List MemPlace}{r:Reach}{b0:Nat}(hok:Fs tb k t=true)(ht:tb t=some i)(tT:Value.okWide P W r b0 t v)(h:DataW.Trod enc P W base sp hd t v d p):
  ∃xs,wtE tb k t xs∧ma W F0 (argD i.ty.agg xs) v:=by
 obtain⟨fuel,hf⟩:=h
 obtain⟨xs,hx,hw⟩:=wb tok k fuel t _ _ hok hf
 refine⟨xs,hw,?_⟩
 have one:v.cells=#[v]→ma W F0 (.e (xs.headD .any)) v:=by
  intro hv
  rw[hv] at hx
  cases xs with
  |nil=>have:=hx.1;simp at this
  |cons y ys=>exact aR.e _ _ (hx.2 0 y v rfl rfl)
 have agg:∀cs,v=.agg cs→ma W F0 (.ag (xs.map D.e)) v:=by
  rintro cs rfl
  have hx':Pw (dE W F0) xs cs.toList:=hx
  refine aR.ag _ cs (by simpa using hx'.1.symm) (fun j u hu=>?_) (fun j d u hd hu=>?_)
  ·have uy:cs.toList[j]? =some u:=by simpa using hu
   have cg:j<xs.length:=by
    rw[hx'.1]
    exact (l8.1 uy).1
   exact (hx'.2 j _ u (fI cg) uy).one
  ·rw[dZ] at hd
   cases hxj:xs[j]? with
   |none=>simp[hxj] at hd
   |some y=>
    simp only[hxj,kB,kA] at hd
    subst hd
    exact .e _ _ (hx'.2 j y u hxj (by simpa using hu))
 cases jH:i.ty with
 |int kd=>obtain⟨n,rfl⟩:=okWide_int (tok.int ht jH) tT;exact one rfl
 |bool=>
  obtain⟨dd,M6,H7⟩:=tok.und ht
  rw[jH] at H7
  have hb:P.underlying t=some .bool:=by cases dd <;> simp[Ty.of] at H7;exact M6
  obtain⟨b,rfl⟩:=okWide_bool hb tT
  exact one rfl
 |str=>obtain⟨s,rfl⟩:=okWide_string (tok.str ht jH) tT;exact one rfl
 |slice e=>obtain⟨a,l,c,rfl⟩:=okWide_slice (tok.slice ht jH) tT;exact one rfl
 |struct fs=>
  obtain⟨fields,hf,_⟩:=tok.struct ht jH
  obtain⟨cs,rfl,_⟩:=okWide_struct hf tT
  exact agg cs rfl
 |arr n e=>
  have ha:=tok.arr ht jH
  unfold Value.okWide at tT
  rw[ha] at tT
  obtain⟨cs,rfl,_⟩:=tT
  exact agg cs rfl
 |other=>
  cases k with
  |zero=>cases hok
  |succ k=>unfold Fs at hok;rw[ht] at hok;dsimp only at hok;rw[jH] at hok;cases hok
theorem says_of {f:FuncId}{ds:List D}{args:Array Value}(hc:aB P f ds (.e (.lit (.bool true))))(hsz:args.size=ds.length)(se:∀(j:Nat) (d:D) (u:Value),ds[j]? =some d→args[j]? =some u→ma W F0 d u):
  Calls P f args W fun e w'=>e=.returned (.bool true)∧Below W.heap.size W w':=by
 refine (hc.2 W F0 args (fun _ h=>h.elim) hsz se).mono ?_
 rintro e w' ⟨v,rfl,mQ,hb⟩
 have hr:ma w' F0 (.e (.lit (.bool true))) v:=mQ
 exact⟨by rw[aR.lit hr],hb⟩
theorem t5 {α:Type}(cells:α→List E)(z:Nat)(good:α→Prop):∀(n:Nat) (ys:List E),ys.length=n*z→(∀i,i<n→∃a,(ys.drop (i*z)).take z=cells a∧good a)→∃l:List α,l.length=n∧ys=l.flatMap cells∧∀a∈l,good a
 |0,ys,hl,_=>⟨[],rfl,by rw[gb] at hl;rw[kL hl];rfl,by simp⟩
 |n+1,ys,hl,h=>by
  rw[qu] at hl
  obtain⟨a,ha,hga⟩:=h 0 (Nat.succ_pos n)
  obtain⟨l,h1,h2,h3⟩:=t5 cells z good n (ys.drop z) (by rw[gY];omega) fun i hi=>by
   have:=h (i+1) (by omega)
   rw[mM,show z+i*z=(i+1)*z by rw[qu];omega]
   exact this
  simp only[gb,nZ] at ha
  refine⟨a::l,by simp[h1],?_,fun b hb=>?_⟩
  ·rw[nX,←ha,←h2,rI]
  ·rcases nb.1 hb with rfl|hb
   ·exact hga
   ·exact h3 b hb
end
end
section
def Rd(tb:TypeId→Option TyE)(t:TypeId)(d:Nat){α:Type}(c:Cd α)(W:α→Prop):Prop:=∀k xs,wtE tb (k+d) t xs→∃a,xs=c.f a∧W a
theorem Rd.up {tb:TypeId→Option TyE}{t:TypeId}{d:Nat}{α:Type}{c:Cd α}{W:α→Prop}(h:Rd tb t d c W)(m:Nat):Rd tb t (d+m) c W:=fun k xs h'=>h (k+m) xs (by rw[nq,qr m d];exact h')
def Wi(k:IntKind)(n:Int):Prop:=k.min≤n∧n≤k.max
section
variable {tb:TypeId→Option TyE} {t e:TypeId} {i j:TyE} {d:Nat} {α:Type} {c:Cd α} {W:α→Prop}
theorem NL {k:IntKind}(ht:tb t=some i)(hi:i.ty=.int k):Rd tb t 1 (cI k) (Wi k):=by
 intro n xs h
 obtain⟨i',h1,_,h⟩:=h
 rw[ht] at h1;cases h1
 rw[hi] at h
 obtain⟨m,h1,h2⟩:=h
 exact⟨m,h1,by unfold Wi;simpa[Lit.wf] using h2⟩
theorem rd_B(ht:tb t=some i)(hi:i.ty=.bool):Rd tb t 1 cB (fun _=>True):=by
 intro n xs h
 obtain⟨i',h1,_,h⟩:=h
 rw[ht] at h1;cases h1
 rw[hi] at h
 obtain⟨m,h1⟩:=h
 exact⟨m,h1,trivial⟩
theorem rd_L(ht:tb t=some i)(he:tb e=some j)(hc:Rd tb e d c W)(hi:i.ty=.slice e:=by exact rfl)(hz:c.sz=j.size:=by exact rfl):Rd tb t (d+1) (cL c) (fun l=>l.length≤maxLen∧∀a∈l,W a):=by
 intro n xs h
 obtain⟨i',h1,_,h⟩:=h
 rw[ht] at h1;cases h1
 rw[hi] at h
 obtain⟨j',m,ys,h1,h2,h3,h4,h5⟩:=h
 rw[he] at h1;cases h1
 obtain⟨l,h6,h7,h8⟩:=t5 c.f j.size W m ys h3 fun i hi=>hc n _ (h5 i hi)
 refine⟨l,?_,by omega,h8⟩
 rw[h2,h7,←h6,←hz];rfl
theorem mr {xs:List E}{n:Nat}{ys zs:List E}(h1:xs.take n=ys)(h2:xs.drop n=zs):xs=ys++zs:=by
 rw[←h1,←h2,rI]
theorem CG {P:Program}{H:Type}{enc:TypeId×Value→H}{Wd:World}{sp:Nat→Bool}{hd:Bool}{base k:Nat}{v:Value}{dw:DataW H}{p:List MemPlace}{r:Reach}{b0:Nat}(tok:TOk P tb)(hok:Fs tb (k+d) t=true)(ht:tb t=some i)(hc:Rd tb t d c W)(tT:Value.okWide P Wd r b0 t v)(h:DataW.Trod enc P Wd base sp hd t v dw p):
  ∃a,ma Wd F0 (argD i.ty.agg (c.f a)) v∧W a:=by
 obtain⟨xs,h1,h2⟩:=arg_rep tok hok ht tT h
 obtain⟨a,rfl,h3⟩:=hc k xs h1
 exact⟨a,h2,h3⟩
end
end
theorem rd_A {tb:TypeId→Option TyE}{t e:TypeId}{i j:TyE}{d n:Nat}{α:Type}{c:Cd α}{W:α→Prop}(ht:tb t=some i)(he:tb e=some j)(hc:Rd tb e d c W)(hi:i.ty=.arr n e:=by exact rfl)(hz:c.sz=j.size:=by exact rfl):Rd tb t (d+1) (cA n c) (fun v=>∀a∈v.toList,W a):=by
 intro m xs h
 obtain⟨i',h1,_,h⟩:=h
 rw[ht] at h1;cases h1
 rw[hi] at h
 obtain⟨j',h1,h3,h5⟩:=h
 rw[he] at h1;cases h1
 obtain⟨l,h6,h7,h8⟩:=t5 c.f j.size W n xs h3 fun i hi=>hc m _ (h5 i hi)
 exact⟨⟨l.toArray,by simpa using h6⟩,h7,h8⟩
def QR(x:aj):Prop:=(True∧True∧∀a∈x.vN.vW.toList,Wi .u32 a)∧(True∧True∧∀a∈x.vD.vW.toList,Wi .u32 a)
theorem NX {x:ay}(h:∀a∈x.vW.toList,Wi .u32 a):okI x:=fun j hj=>by
 have h2:=h x.vW[j]! (by rw[iR x.vW j hj];simp)
 exact⟨h2.1,by have:x.vW[j]!≤4294967295:=h2.2;omega⟩
theorem NW {x:aj}(h:QR x):okR x:=⟨NX h.1.2.2,NX h.2.2.2⟩
def QL(l:List aj):Prop:=l.length≤maxLen∧∀x∈l,QR x
theorem QL.nu {l:List aj}(h:QL l):l=(l.map uF).map nv∧(l.map uF).length≤9223372036854775807:=by
 refine⟨(HK fun x hx=>NW (h.2 x hx)).symm,?_⟩
 rw[bH]
 exact da h.1 (by decide)
theorem QR.nu {x:aj}(h:QR x):x=nv (uF x):=(Br (NW h)).symm
theorem QO {a b:ap}{x:aj}{i k:Int}(hA:QL a.vV)(hB:QL b.vV)(hx:QR x):dx a b x i k=some true:=by
 obtain⟨R,C,A⟩:=a
 obtain⟨R',C',B⟩:=b
 dsimp only at hA hB
 rw[hA.nu.1,hB.nu.1,hx.nu]
 exact G_makes
end
end Go.Proofs.YtgfcnncojhkcoaaGreat
