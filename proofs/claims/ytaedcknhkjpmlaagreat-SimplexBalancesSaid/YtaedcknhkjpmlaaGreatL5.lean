/-
Lemmas. Conditions: none.
-/
import Derived.Test.YtaedcknhkjpmlaaGreatL4
set_option linter.all false
set_option maxRecDepth 100000
namespace Go.Proofs.YtaedcknhkjpmlaaGreat
open Go.RowKit Go.IntKind Tryz
noncomputable section
theorem dg_cons {R d i:Nat}(hd:d<65536):dg 65536 (R*65536+d) (i+1)=dg 65536 R i:=by
 have e:(R*65536+d) / 65536=R:=by omega
 unfold dg
 rw[cK,bz (65536 ^ i),←ia,e]
theorem G_at {n A k:Nat}(hA:A<65536 ^ n):iR (dk n A) (k:Int)=some ((dg 65536 A k:Nat):Int):=by
 unfold iR
 rw[cr _ _,v7 hA,ab]
theorem V5 {l:List Int}{k:Int}(h:k<0):iR l k=some 0:=by
 unfold iR
 rw[cH _ _ h]
def AJ(A:Nat)(m:Nat):Nat:=if m<2 then 0 else dg 65536 A (m - 2)
theorem OS {A m:Nat}:AJ A m<65536:=by
 unfold AJ;split
 ·omega
 ·exact lz
theorem G_at2 {n A m:Nat}(hA:A<65536 ^ n)(hm:0<m)(Tz:m<100000):iR (dk n A) (i64.wrap ((m:Int) - (2:Int)))=some ((AJ A m:Nat):Int):=by
 unfold AJ
 rw[ce]
 by_cases h:m<2
 ·rw[ah h,V5 (by omega)];rfl
 ·rw[ai h,show (m:Int) - 2=((m - 2:Nat):Int) from by omega,G_at hA]
def Np(x0 x1 x2:Nat):Nat:=x0*4294967296+x1*65536+x2
theorem Q7 {x0 x1 x2:Nat}(h0:x0<65536)(h1:x1<65536)(h2:x2<65536):i64.wrap ((i64.wrap ((i64.wrap ((x0:Int)*(4294967296:Int)))+(i64.wrap ((x1:Int)*(65536:Int)))))+(x2:Int))=((Np x0 x1 x2:Nat):Int):=by
 unfold Np
 rw[ce (z:=(x0:Int)*(4294967296:Int)) (by omega),ce (z:=(x1:Int)*(65536:Int)) (by omega),ce (z:=(x0:Int)*4294967296+(x1:Int)*65536) (by omega),ce]
 omega
theorem est3_lt {x0 x1 x2:Nat}(h0:x0<65536)(h1:x1<65536)(h2:x2<65536):Np x0 x1 x2<281474976710656:=by
 unfold Np;omega
theorem quo_w {S T:Nat}(h:S<281474976710656):i64.wrap (Int.tdiv (S:Int) (T:Int))=((S / T:Nat):Int):=by
 have:=pj S T
 rw[←tZ]
 generalize S / T=q at this ⊢
 rw[ce]
theorem min_w {e:Nat}:min (65535:Int) (e:Int)=((min 65535 e:Nat):Int):=by omega
theorem est_ge {X B m:Nat}(hm:0<m)(hB:B<65536 ^ m)(T5:65536 ^ (m - 1)≤B)(hX:X<B*65536):
  X / B≤Np (dg 65536 X m) (dg 65536 X (m - 1)) (AJ X m) / (dg 65536 B (m - 1)*65536+AJ B m):=by
 unfold Np
 have IX:0<B:=bM (bV (by decide)) T5
 have hXm:X<65536 ^ (m+1):=by
  rw[cK];exact bM hX (cz _ (mL hB))
 by_cases h:m<2
 ·obtain rfl:m=1:=by omega
  have eX:X=dg 65536 X 1*65536+dg 65536 X 0:=by
   have:=cG (b:=65536) (A:=X) (k:=0)
   rw[gf,nE] at this
   have e2:=cG (b:=65536) (A:=X) (k:=1)
   rw[eI hXm,gS,bw] at e2
   rw[←e2];exact this
  have eB:B=dg 65536 B 0:=by
   have:=cG (b:=65536) (A:=B) (k:=0)
   rw[gf,nE,eI hB,gS,bw] at this
   exact this
  unfold AJ
  rw[ifp_,ifp_,iT,iT,show 1 - 1=0 from rfl,←eB]
  have:dg 65536 X 1*4294967296+dg 65536 X 0*65536=X*65536:=by omega
  rw[this,Nat.mul_div_mul_right _ _ (by decide)]
  exact az _
 ·obtain⟨p,rfl⟩:∃p,m=p+2:=⟨m - 2,by omega⟩
  have hp:0<65536 ^ p:=bV (by decide)
  have eX:X / 65536 ^ p=dg 65536 X (p+2)*4294967296+dg 65536 X (p+1)*65536+dg 65536 X p:=by
   have e0:=cG (b:=65536) (A:=X) (k:=p)
   have e1:=cG (b:=65536) (A:=X) (k:=p+1)
   have e2:=cG (b:=65536) (A:=X) (k:=p+2)
   rw[eI hXm,gS,bw] at e2
   rw[e0,e1,show p+1+1=p+2 from rfl,e2,bP,eR]
  have eB:B / 65536 ^ p=dg 65536 B (p+1)*65536+dg 65536 B p:=by
   have e0:=cG (b:=65536) (A:=B) (k:=p)
   have e1:=cG (b:=65536) (A:=B) (k:=p+1)
   rw[eI hB,gS,bw] at e1
   rw[e0,e1]
  unfold AJ
  rw[ai h,ai h,show p+2 - 2=p from rfl,show p+2 - 1=p+1 from rfl,←eX,←eB]
  have hT:0<B / 65536 ^ p:=by
   refine Fo (dm ?_ T5) hp
   exact hJ (by decide) (by omega)
  rw[qk hT,qk hp,eR]
  refine dm (Ba _ (NX _ _)) ?_
  rw[bz]
  exact Nat.mul_div_le _ _
theorem KR {X B d:Nat}(hB:0<B):X<B*d↔X / B<d:=by
 rw[l7 hB,bz]
theorem Ur {X B m:Nat}(hm:m<900)(hB:B<65536 ^ m)(IX:0<B)(hXs:sz6 X≤m+1)(d:Nat)(hd:X / B≤d)(yR:d≤65535):
  bt (iO (dk m B) (dl X)) ((d:Int),dl (B*d))=some (((X / B:Nat):Int),dl (B*(X / B))):=by
 obtain⟨x,hl,hx⟩:=wh (b:=iO (dk m B) (dl X)) (fun s=>∃d:Nat,s=((d:Int),dl (B*d))∧X / B≤d∧d≤65535) (fun s=>s.1.toNat) (fun x=>x=(((X / B:Nat):Int),dl (B*(X / B))))
  (by
   rintro s ⟨d,rfl,h1,h2⟩
   have hBd:B*d<65536 ^ (m+1):=by
    rw[cK];exact Nat.mul_lt_mul_of_lt_of_le hB (by omega) (by decide)
   have hsz:=r5 hBd
   dsimp only[iO]
   rw[G_dless (j4 X) (j4 (B*d)) (by omega) (by omega),ab]
   by_cases bO:X<B*d
   ·left
    have h3:=(KR IX).1 bO
    have wK:0<d:=dM (cy _) h3
    have h4:B≤B*d:=HH _ wK
    refine⟨_,by rw[cH _ _ bO,Mb (j4 (B*d)) hB (by omega) h4,ab,ce],⟨d - 1,?_,by omega,by omega⟩,?_⟩
    ·rw[Nat.mul_sub,zb]
     congr 1
     omega
    ·show ((d:Int) - 1).toNat<((d:Nat):Int).toNat
     omega
   ·right
    have h3:=mt (KR IX).2 bO
    obtain rfl:d=X / B:=by omega
    exact⟨_,by rw[cr _ _ bO],rfl⟩) ((d:Int),dl (B*d)) ⟨d,rfl,hd,yR⟩
 rw[hl,hx]
set_option maxRecDepth 10000 in
theorem Mc {A B:Nat}(hA:sz6 A<800)(hBs:sz6 B<800)(IX:0<B):iQ (dl A) (dl B)=some (dl (A / B),dl (A % B)):=by
 obtain⟨m,hm⟩:∃m,m=sz6 B:=⟨_,rfl⟩
 obtain⟨n,hn⟩:∃n,n=sz6 A:=⟨_,rfl⟩
 have hB:=j4 B
 have T5:=(As B).2 (DA IX)
 have Gi:=DA IX
 have hAn:=j4 A
 show iQ (dk (sz6 A) A) (dk (sz6 B) B)=_
 rw[←hm] at hB T5 Gi hBs ⊢
 rw[←hn] at hAn hA ⊢
 have fT:1≤dg 65536 B (m - 1):=by
  have:=cG (b:=65536) (A:=B) (k:=m - 1)
  rw[show m - 1+1=m from by omega,eI hB,gS,bw] at this
  rw[←this]
  exact (qk (bV (by decide))).2 (by rw[fk];exact T5)
 have hbl:=@lz B (m - 1)
 have M9:=@OS B m
 have em1:i64.wrap ((m:Int) - (1:Int))=((m - 1:Nat):Int):=by rw[ce];omega
 have hm5:m<100000:=by omega
 have htop:((dg 65536 B (m - 1)*65536+AJ B m:Nat):Int)≠0:=by omega
 have hl:=SK (b:=iP (dk n A) (dk m B) ((dg 65536 B (m - 1)*65536+AJ B m:Nat):Int)) (s0:=(([]:List Int),(n:Int) - 1,List.replicate n (0:Int))) (fun k=>(dl (A / 65536 ^ k % B),(k:Int) - 1,lF n (fun j=>if k≤j then dg 65536 (A / B) j else 0))) n (dl (A / 65536 ^ 0 % B),lF n (fun j=>if 0≤j then dg 65536 (A / B) j else 0))
  (by
   rw[eI hAn,Nat.zero_mod,dl_zero,SS]
   congr 2
   exact vf fun j hj=>ifn_)
  (fun k hk=>by
   obtain⟨h1,h2⟩:=zB (b:=65536) (A:=A) (k:=k) (d:=B) (by decide) IX
   have hr:=ey (A / 65536 ^ (k+1)) IX
   have ha:=@lz A k
   generalize A / 65536 ^ (k+1) % B=R at h1 h2 hr ⊢
   generalize A / 65536 ^ k % B=R' at h2 ⊢
   have hX:R*65536+dg 65536 A k<B*65536:=by
    have:(R+1)*65536≤B*65536:=cz _ hr
    omega
   have hRs:sz6 R≤m:=r5 (by omega)
   have hXm:R*65536+dg 65536 A k<65536 ^ (m+1):=by
    rw[cK];exact bM hX (cz _ (mL hB))
   have hXs:=r5 hXm
   have hcons:[(dg 65536 A k:Int)]++dl R=dk (sz6 R+1) (R*65536+dg 65536 A k):=by
    unfold dl
    rw[lF_cons]
    exact vf fun j hj=>by
     by_cases hj0:j=0
     ·subst hj0
      rw[ah rfl]
      unfold dg
      rw[gf,nE]
      have:=@lz A k
      unfold dg at this
      omega
     ·rw[ai hj0]
      obtain⟨i,rfl⟩:∃i,j=i+1:=⟨j - 1,by omega⟩
      exact (dg_cons ha).symm
   have hXlt:R*65536+dg 65536 A k<65536 ^ (sz6 R+1):=by
    have:=j4 R
    rw[cK]
    have h3:(R+1)*65536≤65536 ^ sz6 R*65536:=cz _ this
    rw[bP,fk] at h3
    exact bM (Fu ha _) h3
   have hszR:sz6 R+1<1000:=by
    have:=dM hRs hBs
    exact bM (Nat.succ_lt_succ this) (by decide)
   have ei:((k+1:Nat):Int) - 1=(k:Int):=by omega
   have QN:=est_ge Gi hB T5 hX
   have d1:=@lz (R*65536+dg 65536 A k) m
   have d2:=@lz (R*65536+dg 65536 A k) (m - 1)
   have d3:=@OS (R*65536+dg 65536 A k) m
   have hqk:(R*65536+dg 65536 A k) / B<65536:=(l7 IX).2 (by rw[bz 65536 B];exact hX)
   dsimp only[iP]
   rw[ei,cH _ _ (Jq k)]
   rw[cQ,cQ,cQ]
   rw[aC (show (0:Int)≤(k:Int)∧(k:Int)<(n:Int) from⟨Jq k,Int.ofNat_lt.2 hk⟩)]
   rw[bH,bH]
   rw[q9 hk,hcons,cQ]
   rw[aC (show (sz6 R+1)*8≤140737488355328 from dm (cz _ (mL hszR)) (by decide))]
   rw[Aa hXlt (Cy hszR (by decide)),ab,G_at (j4 _),ab]
   rw[show i64.wrap ((m:Int) - (1:Int))=((m - 1:Nat):Int) from em1,G_at (j4 _),ab,G_at2 (j4 _) Gi hm5,ab,aC htop]
   obtain⟨X,hX2⟩:∃X,X=R*65536+dg 65536 A k:=⟨_,rfl⟩
   rw[←hX2] at h1 h2 hX hXm hXs hXlt QN d1 d2 d3 hqk ⊢
   generalize dg 65536 X m=x0 at QN d1 ⊢
   generalize dg 65536 X (m - 1)=x1 at QN d2 ⊢
   generalize AJ X m=x2 at QN d3 ⊢
   have hS:=est3_lt d1 d2 d3
   rw[Q7 d1 d2 d3,quo_w hS]
   generalize Np x0 x1 x2 / (dg 65536 B (m - 1)*65536+AJ B m)=e at QN ⊢
   have DI:X / B≤min 65535 e:=Nat.le_min.2 ⟨Nat.le_of_lt_succ hqk,QN⟩
   have yR:min 65535 e≤65535:=Nat.min_le_left ..
   rw[min_w,ab]
   generalize min 65535 e=d at DI yR ⊢
   have e1:[(d:Int)]=dk 1 d:=by
    show _=lF 1 _
    unfold lF dg
    simp only[List.range_one,iX,l6,gf,nE]
    rw[eD (by omega)]
   have hmul:B*(X / B)≤X:=Nat.mul_div_le _ _
   have hms:sz6 (B*(X / B))≤m+1:=r5 (by omega)
   rw[e1,V3 hB (by rw[xA];omega) (by omega) (by omega),ab,Ur (by omega) hB IX hXs d DI yR,ab]
   dsimp only
   rw[aC,Mb (j4 X) (j4 _) (by omega) hmul,ab,ce,MU]
   have em:X - B*(X / B)=X % B:=by have:=l8 X B;omega
   rw[em,h2,h1]
   have ef:lF n (fun j=>if j=k then dg 65536 (A / B) k else if k+1≤j then dg 65536 (A / B) j else 0)=lF n (fun j=>if k≤j then dg 65536 (A / B) j else 0):=vf fun j _=>by
    by_cases h:j=k
    ·rw[ah h,ifp_,h]
    ·rw[ai h]
     by_cases h3:k+1≤j
     ·rw[ah h3,ifp_]
     ·rw[ai h3,ifn_]
   rw[ef])
  (by
   dsimp only[iP]
   rw[cr _ _])
 have hq:A / B<65536 ^ n:=dM (pj _ _) hAn
 unfold iQ
 rw[cQ,cQ,aC,show i64.wrap ((m:Int) - (1:Int))=((m - 1:Nat):Int) from by rw[ce];omega,aC,G_at2 hB Gi (by omega),ab,bH,bH,q9 (by omega),ce (z:=(dg 65536 B (m - 1):Int)*65536) (by omega),ce,ab,ce,ab,show (dg 65536 B (m - 1):Int)*65536+(AJ B m:Int)=((dg 65536 B (m - 1)*65536+AJ B m:Nat):Int) from by omega,hl,ab]
 dsimp only
 rw[cQ,aC rfl,vf (n:=n) (f:=fun j=>if 0≤j then dg 65536 (A / B) j else 0) (g:=dg 65536 (A / B)) fun j _=>ah (cy _),Aa hq (by omega),ab,gf,nE]
theorem LIM6:LIM=65536 ^ 32:=by decide +kernel
theorem Ps {A k:Nat}:dg 4294967296 A k=dg 65536 A (2*k+1)*65536+dg 65536 A (2*k):=by
 have e:(4294967296:Nat) ^ k=65536 ^ (2*k):=by rw[Cz]
 unfold dg
 rw[e,cK,←ia]
 omega
theorem V4 {x:ap}{A:Nat}(hx:x.vW=W A)(hA:A<LIM):bB x=some (dl A):=by
 have hl:=sf (b:=jH x) (s0:=(([]:List Int),(0:Int))) (fun k=>(dk (2*k) A,(k:Int))) 16 (dk 32 A)
  (by rfl)
  (fun k hk=>by
   have hp:=Ps (A:=A) (k:=k)
   have h0:=@lz A (2*k)
   have h1:=@lz A (2*k+1)
   dsimp only[jH]
   rw[cH _ _,aC,aC,hx,bH,gV hk]
   have e1:i64.wrap (Int.tmod (dg 4294967296 A k:Int) (65536:Int))=(dg 65536 A (2*k):Int):=by
    rw[show (65536:Int)=((65536:Nat):Int) from rfl,←tY,ce];omega
   have e2:i64.wrap (u32.wrap (Int.tdiv (dg 4294967296 A k:Int) (65536:Int)))=(dg 65536 A (2*k+1):Int):=by
    rw[show (65536:Int)=((65536:Nat):Int) from rfl,←tZ,BA,ce];omega
   rw[e1,e2,show dk (2*k) A++[(dg 65536 A (2*k):Int),(dg 65536 A (2*k+1):Int)]=(dk (2*k) A++[(dg 65536 A (2*k):Int)])++[(dg 65536 A (2*k+1):Int)] from by rw[dh];rfl,AL,AL,cQ,aC,ce]
   rfl)
  (by
   dsimp only[jH]
   rw[cr _ _])
 unfold bB
 rw[hl,ab,Aa (by rw[←LIM6];exact hA) (by decide),ab]
theorem VV:fK=some LC:=by unfold fK;rw[r16];rfl
theorem SE {n A:Nat}(hn:n≤32)(neg:Bool):
  bt (f8 (dk n A)) ((0:Int),(⟨false,neg,W 0⟩:ap))=some (⟨false,neg,W (A % 65536 ^ n)⟩:ap):=by
 have hb:0<(4294967296:Nat):=by decide
 have hl:=sf (b:=f8 (dk n A)) (s0:=((0:Int),(⟨false,neg,W 0⟩:ap))) (fun k=>((k:Int),(⟨false,neg,W (A % 65536 ^ k)⟩:ap))) n (⟨false,neg,W (A % 65536 ^ n)⟩:ap)
  (by rw[gf,nF];rfl)
  (fun k hk=>by
   have h0:=@lz A k
   have bO:A % 65536 ^ k<65536 ^ k:=ey _ (bV (by decide))
   have hdiv:i64.wrap (Int.tdiv (k:Int) (2:Int))=((k / 2:Nat):Int):=by
    rw[show (2:Int)=((2:Nat):Int) from rfl,←tZ,ce]
   have e1:=Ps (A:=A % 65536 ^ k) (k:=k / 2)
   have hu:=fun x:Nat=>Mv (b:=4294967296) (A:=A % 65536 ^ k) (p:=k / 2) (x:=x)
   dsimp only[f8]
   rw[cQ,cH _ _,hdiv,aC,aC,aC,ab,aC,aC,aC,ab,bH,bH,gV (by omega),q9 hk,show (2:Int)=((2:Nat):Int) from rfl,←tY,BA (n:=dg 65536 A k) (by omega),gz]
   have rP:A % 65536 ^ (k+1)=A % 65536 ^ k+65536 ^ k*dg 65536 A k:=ic
   have hpow:(4294967296:Nat) ^ (k / 2)=65536 ^ (2*(k / 2)):=by rw[Cz]
   by_cases he:k % 2=0
   ·have zK:2*(k / 2)=k:=by omega
    have d0:dg 4294967296 (A % 65536 ^ k) (k / 2)=0:=by
     rw[e1,zK,mg bO,mg (bM bO (hJ (by decide) (by omega)))]
    rw[ifp_,ab,d0,←kK,BA,Bw hb (by omega) (by omega),ce]
    have:=hu (0+dg 65536 A k)
    rw[d0,hpow,zK] at this
    rw[gS,iT,bw] at this
    rw[show up1 4294967296 (A % 65536 ^ k) (k / 2) (0+dg 65536 A k)=A % 65536 ^ (k+1) from by rw[rP,bz (65536 ^ k),bw];exact this]
    rfl
   ·have zK:2*(k / 2)+1=k:=by omega
    have d1:dg 4294967296 (A % 65536 ^ k) (k / 2)=dg 65536 A (2*(k / 2)):=by
     rw[e1,zK,mg bO,gS,bw,n4 (by omega)]
    have h2:=@lz A (2*(k / 2))
    rw[ifn_,ab,d1,show ((dg 65536 A k:Nat):Int)*(65536:Int)=((dg 65536 A k*65536:Nat):Int) from by omega,BA (n:=dg 65536 A k*65536) (by omega),←kK,BA,Bw hb (by omega) (by omega),ce]
    have:=hu (dg 65536 A (2*(k / 2))+dg 65536 A k*65536)
    rw[d1,hpow,bP] at this
    have dp:65536 ^ (2*(k / 2))*65536=(65536:Nat) ^ k:=by rw[←cK];exact congrArg _ zK
    have e3:dg 65536 A k*65536*65536 ^ (2*(k / 2))=65536 ^ k*dg 65536 A k:=by
     rw[eR,bz 65536,dp,bz]
    rw[e3,Nat.add_left_comm,qR] at this
    have wF:=Nat.add_left_cancel this
    rw[show up1 4294967296 (A % 65536 ^ k) (k / 2) (dg 65536 A (2*(k / 2))+dg 65536 A k*65536)=A % 65536 ^ (k+1) from by rw[rP];exact wF]
    rfl)
  (by
   dsimp only[f8]
   rw[cQ,cr _ _])
 exact hl
theorem FY {n A:Nat}(hA:A<65536 ^ n)(hn:n<100000)(neg:Bool):cp neg (dk n A)=some (enc (bif neg then -(A:Int) else (A:Int))):=by
 have hiff:32<sz6 A↔¬A<LIM:=by
  rw[LIM6]
  constructor
  ·intro h h2
   have:=r5 h2;omega
  ·intro h
   rcases d9 32 (sz6 A) with h1|h1
   ·exact h1
   ·exact absurd (bM (j4 A) (hJ (by decide) h1)) h
 have Gn:(bif neg then -(A:Int) else (A:Int)).natAbs=A:=by cases neg <;> simp
 unfold cp
 rw[Aa hA (by omega),ab,Nt,r16]
 by_cases h:32<sz6 A
 ·rw[cH _ _,VV,ab,EV (by rw[Gn];exact hiff.1 h)]
 ·have hAL:A<LIM:=Decidable.byContradiction fun h2=>h (hiff.2 h2)
  have nB:decide ((0:Int)<((sz6 A:Nat):Int))= !decide (A=0):=by
   rw[←LJ]
   refine lE.2 ?_
   constructor
   ·intro h3 h4;subst h4;rw[D8] at h3;omega
   ·intro h3;have:=DA (z4 h3);omega
  have S9:(cnd neg (bnd (some ((⟨false,decide ((0:Int)<((sz6 A:Nat):Int)),W 0⟩:ap))) fun x7=>some (x7)) (some ((⟨false,false,W 0⟩:ap))))=some (⟨false,neg&&!decide (A=0),W 0⟩:ap):=by
   rw[ab,nB]
   cases neg <;> rfl
  rw[cr _ _,S9,ab,SE (by omega),ab,eD (j4 A),Um hAL]
theorem zeroW {v:Vector Int 16}:(∀j:Nat,j<16→v[j]! =0)↔v=W 0:=by
 constructor
 ·intro h
  apply oR
  intro j hj
  rw[h j hj,gV hj]
  unfold dg;simp
 ·rintro rfl j hj
  rw[gV hj]
  unfold dg;simp
theorem iG(x:ap):bp x=some (ee x):=by
 have hl:=sf (b:=kB x) (s0:=(true,(0:Int))) (fun k=>(decide (∀j:Nat,j<k→x.vW[j]! =0),(k:Int))) 16 (decide (∀j:Nat,j<16→x.vW[j]! =0))
  (by
   rw[aB (p:=∀j:Nat,j<0→x.vW[j]! =0) (fun j hj=>by omega)]
   rfl)
  (fun k hk=>by
   dsimp only[kB]
   rw[cH _ _,aC,bH,cnd_and,ab,ce,←Bool.decide_and]
   have:((∀j:Nat,j<k→x.vW[j]! =0)∧x.vW[k]! =0)↔∀j:Nat,j<k+1→x.vW[j]! =0:=by
    constructor
    ·rintro⟨h1,h2⟩ j hj
     by_cases h:j=k
     ·rw[h];exact h2
     ·exact h1 j (by omega)
    ·intro h
     exact⟨fun j hj=>h j (by omega),h k (by omega)⟩
   rw[lE.2 this]
   rfl)
  (by
   dsimp only[kB]
   rw[cr _ _])
 have hz:decide (∀j:Nat,j<16→x.vW[j]! =0)=decide (x.vW=W 0):=lE.2 zeroW
 unfold bp qw ee
 rw[hl,ab,hz]
 cases x.vBad <;> cases decide (x.vW=W 0) <;> cases x.vNeg <;> rfl
theorem O6 {A:Nat}(hA:A<LIM)(h:∀j,2≤j→j<16→dg 4294967296 A j=0):A / 4294967296 ^ 2=0:=by
 have key:∀d,d≤14→A / 4294967296 ^ (16 - d)=0:=by
  intro d
  induction d with
  |zero=>intro _;exact eI hA
  |succ d ih=>
   intro hd
   have h1:=ih (by omega)
   have h2:=cG (b:=4294967296) (A:=A) (k:=16 - (d+1))
   rw[show 16 - (d+1)+1=16 - d from by omega,h1,gS,bw,h _ (by omega) (by omega)] at h2
   exact h2
 exact key 14 (az _)
structure nr(a:Int):Prop where
 h:a.natAbs<4611686018427387904
instance(a:Int):Decidable (nr a):=decidable_of_iff (a.natAbs<4611686018427387904) ⟨fun h=>⟨h⟩,fun h=>h.h⟩
theorem RK {A:Nat}(hA:A<LIM):A<4611686018427387904↔dg 4294967296 A 1<1073741824∧∀j,2≤j→j<16→dg 4294967296 A j=0:=by
 constructor
 ·intro h
  refine⟨?_,fun j h1 _=>mg (bM h ?_)⟩
  ·unfold dg;rw[xA];omega
  ·exact dm (by decide:4611686018427387904≤4294967296 ^ 2) (hJ (by decide) h1)
 ·rintro⟨h1,h2⟩
  have h3:=O6 hA h2
  have h4:=cG (b:=4294967296) (A:=A) (k:=1)
  rw[show 1+1=2 from rfl,h3,gS,bw,xA] at h4
  omega
theorem JP {a:Int}(ha:a.natAbs<LIM):eW (enc a)=some (if nr a then (a,true) else (0,false)):=by
 have hwi:=RK ha
 obtain⟨x,hl,hx⟩:=wh (b:=mT (enc a)) (fun s=>∃k:Nat,s=(k:Int)∧2≤k∧k≤16∧∀j,2≤j→j<k→dg 4294967296 a.natAbs j=0) (fun s=>16 - s.toNat) (fun x=>match x with| .inl r=>r=((0:Int),false)∧¬(∀j,2≤j→j<16→dg 4294967296 a.natAbs j=0)| .inr _=>∀j,2≤j→j<16→dg 4294967296 a.natAbs j=0)
  (by
   rintro s ⟨k,rfl,zK,hk,hz⟩
   dsimp only[mT]
   rw[mf ha]
   by_cases h16:k<16
   ·rw[cH _ _,aC,bH,gV h16]
    by_cases hd:dg 4294967296 a.natAbs k=0
    ·left
     refine⟨((k+1:Nat):Int),by rw[cr _ _,ce];rfl,⟨k+1,rfl,by omega,by omega,fun j h1 h2=>?_⟩,by omega⟩
     by_cases h:j=k
     ·rw[h];exact hd
     ·exact hz j h1 (by omega)
    ·right
     refine⟨(Sum.inl ((0:Int),false):(Int×Bool)⊕Unit),by rw[cH _ _],rfl,fun h=>hd (h k zK h16)⟩
   ·right
    refine⟨(Sum.inr ():(Int×Bool)⊕Unit),by rw[cr _ _],?_⟩
    obtain rfl:k=16:=by omega
    exact hz) (2:Int) ⟨2,rfl,by omega,by omega,fun j h1 h2=>by omega⟩
 have e1:(W a.natAbs)[((1:Int)).toNat]! =(dg 4294967296 a.natAbs 1:Int):=gV (by decide)
 have e0:(W a.natAbs)[((0:Int)).toNat]! =(dg 4294967296 a.natAbs 0:Int):=gV (by decide)
 have d0:=@dgl a.natAbs 0
 unfold eW
 rw[iG,bi ha,ab,c8,aI,ab,mf ha,e1,e0,jY ha]
 by_cases h1:dg 4294967296 a.natAbs 1<1073741824
 ·rw[cr _ _,hl,ab]
  cases x with
  |inl r=>
   obtain⟨rfl,h2⟩:=hx
   have:¬nr a:=fun h=>h2 (hwi.1 h.h).2
   rw[ai this]
  |inr u=>
   have h2:nr a:=⟨hwi.2 ⟨h1,hx⟩⟩
   have h3:=O6 ha hx
   have h4:=cG (b:=4294967296) (A:=a.natAbs) (k:=1)
   rw[show 1+1=2 from rfl,h3,gS,bw,xA] at h4
   have h5:dg 4294967296 a.natAbs 0=a.natAbs % 4294967296:=by unfold dg;rw[gf,nE]
   have h6:(dg 4294967296 a.natAbs 1:Int)*4294967296+(dg 4294967296 a.natAbs 0:Int)=(a.natAbs:Int):=by omega
   have h7:=h2.h
   dsimp only
   rw[ce (z:=(dg 4294967296 a.natAbs 1:Int)) (by omega),ce (z:=(dg 4294967296 a.natAbs 1:Int)*4294967296) (by omega),ce (z:=(dg 4294967296 a.natAbs 0:Int)) (by omega),h6,ce (z:=(a.natAbs:Int)) (by omega),ab,gz,ah h2]
   by_cases hn:a<0
   ·rw[ah hn,ce,show (0:Int) - (a.natAbs:Int)=a from by omega]
   ·rw[ai hn,show (a.natAbs:Int)=a from by omega]
 ·have:¬nr a:=fun h=>h1 (hwi.1 h.h).1
  rw[cH _ _,ai this]
theorem dk4 {N:Nat}:dk 4 N=[(dg 65536 N 0:Int),(dg 65536 N 1:Int),(dg 65536 N 2:Int),(dg 65536 N 3:Int)]:=rfl
theorem of4 {N:Nat}(hN:N<9223372036854775808):[Int.tmod (N:Int) (65536:Int),Int.tmod (i64.wrap (Int.tdiv (N:Int) (65536:Int))) (65536:Int),Int.tmod (i64.wrap (Int.tdiv (N:Int) (4294967296:Int))) (65536:Int),i64.wrap (Int.tdiv (N:Int) (281474976710656:Int))]=dk 4 N:=by
 have e1:i64.wrap (Int.tdiv (N:Int) (65536:Int))=((N / 65536:Nat):Int):=by
  rw[show (65536:Int)=((65536:Nat):Int) from rfl,←tZ,ce]
 have e2:i64.wrap (Int.tdiv (N:Int) (4294967296:Int))=((N / 4294967296:Nat):Int):=by
  rw[show (4294967296:Int)=((4294967296:Nat):Int) from rfl,←tZ,ce]
 have e3:i64.wrap (Int.tdiv (N:Int) (281474976710656:Int))=((N / 281474976710656:Nat):Int):=by
  rw[show (281474976710656:Int)=((281474976710656:Nat):Int) from rfl,←tZ,ce]
 rw[e1,e2,e3,dk4,show (65536:Int)=((65536:Nat):Int) from rfl,←tY,←tY,←tY]
 have d0:dg 65536 N 0=N % 65536:=by unfold dg;rw[gf,nE]
 have d1:dg 65536 N 1=N / 65536 % 65536:=by unfold dg;rw[xA]
 have d2:dg 65536 N 2=N / 4294967296 % 65536:=rfl
 have d3:dg 65536 N 3=N / 281474976710656:=by
  have:dg 65536 N 3=N / 281474976710656 % 65536:=rfl
  rw[this];omega
 rw[d0,d1,d2,d3]
theorem SA:[(1:Int)]=dk 1 1:=rfl
theorem rL {n:Int}(h1:-9223372036854775808≤n)(h2:n≤9223372036854775807):e7 n=some (enc n):=by
 unfold e7
 by_cases hn:0≤n
 ·obtain⟨N,rfl⟩:∃N:Nat,n=(N:Int):=⟨n.toNat,by omega⟩
  have hN4:N<65536 ^ 4:=bM (show N<9223372036854775808 by omega) (by decide)
  rw[cH _ _ hn,of4 (by omega),FY hN4 (by decide),ab]
  rfl
 ·obtain⟨M,hM⟩:∃M:Nat,-(n+1)=(M:Int):=⟨(-(n+1)).toNat,by omega⟩
  have hM4:M<65536 ^ 4:=bM (show M<9223372036854775808 by omega) (by decide)
  have e:i64.wrap (0 - (i64.wrap (n+(1:Int))))=(M:Int):=by
   rw[ce (z:=n+1) (by omega),ce];omega
  rw[cr _ _ hn,e,ab,of4 (by omega),SA,PV hM4 (by decide) (by decide) (by decide),ab,FY (A:=M+1) (j4 _) (dM (r5 (A:=M+1) (n:=5) (dM (show M+1≤65536 ^ 4 from hM4) (by decide))) (by decide)),ab]
  congr 2
  simp only[kJ]
  omega
theorem uZ {A:Nat}(h:A<LIM):sz6 A≤32:=r5 (by rw[←LIM6];exact h)
theorem sz_add {A B:Nat}(hA:A<LIM)(hB:B<LIM):sz6 (A+B)≤33:=r5 (by
 have h1:A+B<2*LIM:=by omega
 have h2:2*LIM≤65536 ^ 33:=by rw[LIM6,cK,bz];exact Ba _ (by decide)
 exact bM h1 h2)
theorem H2 {A:Nat}(h:sz6 A≤1000)(neg:Bool):cp neg (dl A)=some (enc (bif neg then -(A:Int) else (A:Int))):=
 FY (j4 A) (dM h (by decide)) neg
theorem nh {a:Int}(ha:a.natAbs<LIM):bB (enc a)=some (dl a.natAbs):=V4 (mf ha) ha
theorem VW {a:Int}(ha:a.natAbs<LIM):qO (enc a)=some (enc (a.natAbs:Int)):=by
 unfold qO
 rw[iG,bi ha,ab,c8,aI,nh ha,ab,H2 (dm (uZ ha) (by decide)),ab]
 rfl
theorem VU {a:Int}(ha:a.natAbs<LIM):qN (enc a)=some (enc (-a)):=by
 unfold qN
 rw[iG,bi ha,ab,c8,aI,nh ha,ab,jY ha,H2 (dm (uZ ha) (by decide)),ab]
 congr 2
 by_cases h:a<0
 ·simp only[h,sQ,c8,cond_false];omega
 ·simp only[h,sP,sO,kJ];omega
theorem H0 {a:Int}(ha:a.natAbs<LIM):lx (enc a)=some a.sign:=by
 unfold lx
 rw[iG,bi ha,ab,c8,aI,nh ha,ab,ab,jY ha]
 have hz:((dl a.natAbs).length:Int)=0↔a=0:=by
  rw[show ((dl a.natAbs).length:Int)=0↔(dl a.natAbs).length=0 from by omega,Ns];omega
 rcases xB a 0 with h|h|h
 ·rw[cr _ _ (by rw[hz];omega),cH _ _ h,vK h]
 ·subst h;rw[cH _ _ (hz.2 rfl)];rfl
 ·rw[cr _ _ (by rw[hz];omega),cr _ _,sM h]
theorem fast2(p q:Prop)[Decidable p][Decidable q](a c:Int):(cnd (if p then (a,true) else (0,false):Int×Bool).2 (some (if q then (c,true) else (0,false):Int×Bool).2) (some false))=some (decide (p∧q)):=by
 by_cases hp:p <;> by_cases hq:q <;> simp[hp,hq,cnd]
theorem good2r(x y:ap):(bnd (S:=Bool) (bnd (bp x) fun oG=>cnd (!oG) (some (true)) (bnd (bp y) fun qW=>some (!qW))) fun b=>some b)=some (!(ee x&&ee y)):=by
 rw[iG,iG,ab,ab]
 cases ee x <;> cases ee y <;> rfl
theorem G_floor {n m:Int}(Gi:m≠0)(hn:n.natAbs<4611686018427387904):nN n m=some (n.fdiv m):=by
 obtain⟨h1,h2,h3⟩:=BD (x:=n) Gi
 have hq:=Kw (x:=n) (y:=m) (by omega)
 have hnq:(n.tdiv m).natAbs≤n.natAbs:=by rw[Int.natAbs_tdiv];exact pj _ _
 have rB:(cnd (decide ((Int.tmod n m)≠(0:Int))) (some (!((decide (n<(0:Int))) == (decide (m<(0:Int)))))) (some (false)))=some (decide (n.fdiv m≠n.tdiv m)):=by
  rw[←h1,gz,gz]
  by_cases h:n.tmod m≠0
  ·rw[ah h,ah h]
   congr 3
   refine lE.2 ?_
   constructor
   ·intro nB
    have:=Int.tmod_nonneg m (show 0≤-n by omega)
    rw[Int.neg_tmod] at this
    omega
   ·intro nB
    by_cases h4:n<0
    ·exact h4
    ·have:=Int.tmod_nonneg m (show 0≤n by omega)
     omega
  ·rw[ai h,ai h]
 unfold nN
 rw[aC Gi,aC Gi,rB,ab,gz]
 by_cases h:n.fdiv m=n.tdiv m
 ·rw[ai (fun hh=>hh h),ab,ce,h]
 ·rw[ah h,ce (z:=n.tdiv m) (by omega),ce,ab,ab,(h2 h).1]
theorem Sk {a c:Int}(h0:c≠0):(bif (!(decide (a<0) == decide (c<0))) then -((a.natAbs / c.natAbs+(if a.natAbs % c.natAbs=0 then 0 else 1):Nat):Int) else ((a.natAbs / c.natAbs:Nat):Int))=a.fdiv c:=by
 have hr:=ey a.natAbs (show 0<c.natAbs by omega)
 have hdm:=l8 a.natAbs c.natAbs
 have Nb:(c.natAbs:Int)*((a.natAbs / c.natAbs:Nat):Int)+((a.natAbs % c.natAbs:Nat):Int)=(a.natAbs:Int):=by rw[←ir,←kK,hdm]
 generalize a.natAbs / c.natAbs=Q at Nb ⊢
 generalize a.natAbs % c.natAbs=R at Nb hr ⊢
 have hmul:∀z:Int,z*c=(if c<0 then -1 else 1)*((c.natAbs:Int)*z):=by
  intro z
  split
  ·have e:c=-(c.natAbs:Int):=by omega
   conv=>lhs;rw[e]
   rw[CA,Fp,zY,lD]
  ·have e:c=(c.natAbs:Int):=by omega
   conv=>lhs;rw[e]
   rw[zY,lD]
 by_cases hs:decide (a<0)=decide (c<0)
 ·have QF:=lE.1 hs
  rw[hs,Ft,c8,cond_false]
  exact (mX (x:=a) h0 (Q:Int) (if c<0 then -(R:Int) else (R:Int)) (by rw[hmul];split <;> omega) (by split <;> omega)).1
 ·have QF:¬((a<0)↔(c<0)):=fun h=>hs (lE.2 h)
  have hb:(decide (a<0) == decide (c<0))=false:=LN.2 hs
  rw[hb,sO,kJ]
  by_cases hR:R=0
  ·rw[ah hR]
   refine (mX (x:=a) h0 _ 0 ?_ (by omega)).1
   rw[hmul,CA,iT]
   split <;> omega
  ·rw[ai hR]
   refine (mX (x:=a) h0 _ (if c<0 then -((c.natAbs:Int) - (R:Int)) else (c.natAbs:Int) - (R:Int)) ?_ (by split <;> omega)).1
   rw[hmul,CA,kK,Int.mul_add]
   split <;> omega
theorem dig1(A:Nat):decide (((dl A).length:Int)=0)=decide (A=0):=by
 refine lE.2 ?_
 rw[show ((dl A).length:Int)=0↔(dl A).length=0 from by omega,Ns]
theorem dig2(A:Nat):decide ((0:Int)<((dl A).length:Int))=decide (A≠0):=by
 refine lE.2 ?_
 have:=@Ns A
 omega
theorem good3r {x:ap}{c:Int}(_hx:okI x)(hc:c.natAbs<LIM):(bnd (S:=Bool) (bnd (bp x) fun qW=>cnd (!qW) (some (true)) (bnd (bp (enc c)) fun Bs=>cnd (!Bs) (some (true)) (bnd (bB (enc c)) fun ww=>some (decide (((ww).length:Int)=(0:Int)))))) fun b=>some b)=some (!(ee x&&decide (c≠0))):=by
 rw[iG,iG,nh hc,ab,ab,ab,bi hc,dig1,vw]
 have:decide (c≠0)= !decide (c.natAbs=0):=by
  rw[←LJ];exact lE.2 (by omega)
 rw[this]
 cases ee x <;> cases decide (c.natAbs=0) <;> rfl
theorem fastq(a c:Int):(cnd (if nr a then (a,true) else (0,false):Int×Bool).2 (cnd (if nr c then (c,true) else (0,false):Int×Bool).2 (some (decide ((if nr c then (c,true) else (0,false):Int×Bool).1≠(0:Int)))) (some (false))) (some (false)))=some (decide (nr a∧nr c∧c≠0)):=by
 by_cases hp:nr a <;> by_cases hq:nr c <;> simp[hp,hq,cnd]
theorem L9 {a c:Int}(ha:a.natAbs<LIM)(hc:c.natAbs<LIM)(h0:c≠0):kW (enc a) (enc c)=some (enc (a.fdiv c)):=by
 unfold kW
 rw[JP ha,JP hc,ab,ab,fastq,ab,gz]
 by_cases hw:nr a∧nr c∧c≠0
 ·have hq:a.fdiv c=a.tdiv c∨a.fdiv c=a.tdiv c - 1:=by
   obtain⟨_,h2,_⟩:=BD (x:=a) h0
   by_cases h:a.fdiv c=a.tdiv c
   ·exact .inl h
   ·exact .inr (h2 h).1
  have h1:=hw.1.h
  have hnq:(a.tdiv c).natAbs≤a.natAbs:=by rw[Int.natAbs_tdiv];exact pj _ _
  rw[ah hw,ah hw.1,ah hw.2.1]
  dsimp only
  rw[G_floor h0 hw.1.h,ab,rL (by omega) (by omega),ab]
 ·have hg:=good3r (DE a) hc
  rw[vw] at hg
  have hq:a.natAbs / c.natAbs<LIM:=dM (pj _ _) ha
  have hdl:decide ((0:Int)<((dl (a.natAbs % c.natAbs)).length:Int))=decide (a.natAbs % c.natAbs≠0):=dig2 _
  rw[ai hw,hg,bi ha,aB h0,ab,eQ,c8,aI,nh ha,ab,nh hc,ab,Mc (dM (uZ ha) (by decide)) (dM (uZ hc) (by decide)) (by omega),ab,jY ha,jY hc]
  dsimp only
  rw[SA,PV (j4 _) (by decide) (dM (uZ hq) (by decide)) (by decide),ab,hdl,←Sk h0]
  have hs1:sz6 (a.natAbs / c.natAbs+1)≤1000:=dm (sz_add hq (by decide)) (by decide)
  have Mk:sz6 (a.natAbs / c.natAbs)≤1000:=dm (uZ hq) (by decide)
  cases JW:(!(decide (a<0) == decide (c<0))) with
  |false=>
   rw[aI,ab,aI,ab,H2 Mk,ab]
   rfl
  |true=>
   rw[gN,ab,gz]
   by_cases hR:a.natAbs % c.natAbs=0
   ·rw[ai (fun h=>h hR),ab,H2 Mk,ab,ah hR,iT]
   ·rw[ah hR,ab,H2 hs1,ab,ai hR]
    rfl
theorem Ua(n m:Int):∃r:Int,bt jm (n,m)=some r∧r.natAbs=Nat.gcd n.natAbs m.natAbs:=by
 induction hk:m.natAbs using Nat.strongRecOn generalizing n m with
 |_ k ih=>
  subst hk
  by_cases hm:m=0
  ·subst hm
   refine⟨n,oc (by dsimp only[jm];rw[cr _ _ (fun h=>h rfl)]),?_⟩
   rw[Int.natAbs_zero,Jv]
  ·have h1:jm (n,m)=some (.inl (m,n.tmod m)):=by
    dsimp only[jm]
    rw[cH _ _ hm,aC hm]
   have e:=Int.natAbs_tmod n m
   obtain⟨r,h2,h3⟩:=ih (n.tmod m).natAbs (by rw[e];exact ey _ (by omega)) m (n.tmod m) rfl
   exact⟨r,(pY h1).trans h2,by rw[h3,e,←AU]⟩
theorem Ub(x y:Nat)(hx:sz6 x<800)(hy:sz6 y<800):bt jl (dl x,dl y)=some (dl (Nat.gcd x y)):=by
 induction y using Nat.strongRecOn generalizing x with
 |_ y ih=>
  by_cases h0:y=0
  ·subst h0
   rw[Jv]
   refine oc ?_
   dsimp only[jl]
   rw[dig2,cr _ _ (fun h=>h rfl)]
  ·have h1:jl (dl x,dl y)=some (.inl (dl y,dl (x % y))):=by
    dsimp only[jl]
    rw[dig2,cH _ _ h0,Mc hx hy (by omega),ab]
   have bO:=ey x (show 0<y by omega)
   have hs:sz6 (x % y)<800:=dM (r5 (Cy bO (j4 y))) hy
   rw[pY h1,ih (x % y) bO y hy hs,←AU]
theorem Ma {a c:Int}(ha:a.natAbs<LIM)(hc:c.natAbs<LIM):mG (enc a) (enc c)=some (enc (Nat.gcd a.natAbs c.natAbs:Nat)):=by
 have O9:Nat.gcd a.natAbs c.natAbs<LIM:=by
  rcases sJ a.natAbs with h|h
  ·rw[h,NS];exact hc
  ·exact dM (Cw _ h) ha
 unfold mG
 rw[JP ha,JP hc,ab,ab,fast2,ab,gz]
 by_cases hw:nr a∧nr c
 ·have h1:=hw.1.h
  have h2:=hw.2.h
  rw[ah hw,ah hw.1,ah hw.2]
  dsimp only
  obtain⟨r,h3,h4⟩:=Ua a c
  have hr:r.natAbs<4611686018427387904:=by
   rw[h4]
   rcases sJ a.natAbs with h|h
   ·rw[h,NS];exact h2
   ·exact dM (Cw _ h) h1
  rw[h3,ab,rL (by omega) (by omega),ab,VW (by rw[h4];exact O9),ab,h4]
 ·have hg:=good2r (enc a) (enc c)
  rw[vw] at hg
  rw[ai hw,hg,bi ha,bi hc,ab,eQ,c8,aI,nh ha,ab,nh hc,ab,Ub _ _ (dM (uZ ha) (by decide)) (dM (uZ hc) (by decide)),ab,H2 (dm (uZ O9) (by decide)),ab]
  rfl
theorem R_one:mE=some (enc 1):=by
 unfold mE
 rw[rL (by decide) (by decide),ab]
theorem R_Good {x:am}(hx:okR x):fF x=some (cC x).isSome:=by
 rw[←iV hx]
 obtain⟨n,d⟩:=x
 obtain⟨h1,h2⟩:=hx
 dsimp only at h1 h2
 unfold fF aS
 dsimp only
 rw[iG,iG,qA,qA,ab,ab,ab,ab]
 cases CY:ee n with
 |false=>rfl
 |true=>
  cases EN:ee d with
  |false=>rfl
  |true=>
   obtain⟨n,hn,rfl⟩:=AT h1 CY
   obtain⟨d,hd,rfl⟩:=AT h2 EN
   rw[H0 hd,xP hd,Ma hn hd,PZ hn hd,R_one,PU]
   rfl
theorem VE {n d:Int}(hn:n.natAbs<LIM)(hd:d.natAbs<LIM)(h0:d≠0):gu (enc n) (enc d)=some (ly (Rat.divInt n d)):=by
 obtain⟨CY,EN⟩:=IZ (n:=n) h0 hd
 obtain⟨e1,e2⟩:=KP (n:=n) h0
 have O9:(((Nat.gcd n.natAbs d.natAbs:Nat):Int)).natAbs<LIM:=by simpa using CY
 unfold gu
 rw[iG,iG,ab,ab,bi hn,bi hd,c8,aI,aI,H0 hd,ab,ab,cr _ _ (by rw[Cv];exact h0),Ma hn hd,ab,ab,VU O9,ab]
 have S9:(cnd (decide (d.sign<(0:Int))) (some (enc (-((Nat.gcd n.natAbs d.natAbs:Nat):Int)))) (some (enc ((Nat.gcd n.natAbs d.natAbs:Nat):Int))))=some (enc (bif decide (d<0) then -((Nat.gcd n.natAbs d.natAbs:Nat):Int) else ((Nat.gcd n.natAbs d.natAbs:Nat):Int))):=by
  by_cases h:d<0
  ·rw[cH _ _ (by rw[Fk];exact h),aB h];rfl
  ·rw[cr _ _ (by rw[Fk];exact h),bm h];rfl
 have Gb:((bif decide (d<0) then -((Nat.gcd n.natAbs d.natAbs:Nat):Int) else ((Nat.gcd n.natAbs d.natAbs:Nat):Int))).natAbs<LIM∧(bif decide (d<0) then -((Nat.gcd n.natAbs d.natAbs:Nat):Int) else ((Nat.gcd n.natAbs d.natAbs:Nat):Int))≠0:=by
  cases decide (d<0)
  ·simp only[cond_false];omega
  ·simp only[kJ];omega
 rw[S9,ab,L9 hn Gb.1 Gb.2,ab,L9 hd Gb.1 Gb.2,ab,e1,e2]
 rfl
theorem R_Of {n:Int}(h1:-9223372036854775808≤n)(h2:n≤9223372036854775807):qa n=some (ly (n:Rat)):=by
 have hL:n.natAbs<LIM:=bM (show n.natAbs<18446744073709551616 by omega) (by decide)
 unfold qa
 rw[rL h1 h2,ab,R_one,ab,VE hL (by decide) (by decide),ab,EX]
def tW(a c:Int):Int:=if a<c then -1 else if c<a then 1 else 0
theorem G_Rem {a c:Int}(ha:a.natAbs<LIM)(hc:c.natAbs<LIM)(h0:c≠0):oi (enc a) (enc c)=some (enc (a.fmod c)):=by
 unfold oi
 rw[H3 ha hc h0,ab]
theorem G_Cmp {a c:Int}(ha:a.natAbs<LIM)(hc:c.natAbs<LIM):qK (enc a) (enc c)=some (tW a c):=by
 unfold qK
 rw[v6,v6,ab,ab,bi ha,bi hc]
 simp only[c8,aI,ab,jY ha,jY hc,mf ha,mf hc]
 rw[DU ha hc,DU hc ha,ab,ab]
 unfold tW Iv
 by_cases h1:a<0 <;> by_cases h2:c<0 <;> simp only[h1,h2,sQ,sP,Ft,c8,Bool.true_beq,Bool.false_beq,sO,gN,aI]
 ·by_cases h3:a<c
  ·rw[ah h3,ifp_]
  ·rw[ai h3,ifn_]
   by_cases h4:c<a
   ·rw[ah h4,ifp_]
   ·rw[ai h4,ifn_]
 ·rw[ifp_]
 ·rw[ifn_,ifp_]
 ·by_cases h3:a<c
  ·rw[ah h3,ifp_]
  ·rw[ai h3,ifn_]
   by_cases h4:c<a
   ·rw[ah h4,ifp_]
   ·rw[ai h4,ifn_]
def Du(n1 d1 n2 d2:Int):Int:=tW (n1*d2) (n2*d1)
theorem E4 {n1 d1 n2 d2:Int}(h1:0<d1)(h2:0<d2)(h:n1.fdiv d1<n2.fdiv d2):n1*d2<n2*d1:=by
 have e1:d1*n1.fdiv d1+n1.fmod d1=n1:=Fj n1 d1
 have e2:d2*n2.fdiv d2+n2.fmod d2=n2:=Fj n2 d2
 have r1:=zZ n1 h1
 have r2:=xz n2 h2
 generalize n1.fdiv d1=f1 at*
 generalize n2.fdiv d2=f2 at*
 generalize n1.fmod d1=m1 at*
 generalize n2.fmod d2=m2 at*
 have h3:d1*(f1+1)≤d1*f2:=Int.mul_le_mul_of_nonneg_left (by omega) (by omega)
 rw[Int.mul_add,Int.mul_one] at h3
 have h4:n1+1≤d1*f2:=by omega
 have h5:(n1+1)*d2≤d1*f2*d2:=Ju h4 (by omega)
 have h6:d2*f2*d1≤n2*d1:=Ju (by omega) (by omega)
 have h7:d1*f2*d2=d2*f2*d1:=by rw[lD d1,lD d2,Fi,Fi,lD d1]
 rw[Int.add_mul,zY] at h5
 omega
theorem HD {a c:Int}:tW a c=(a - c).sign:=by
 unfold tW
 rcases xB a c with h|h|h
 ·rw[ah h,vK (by omega)]
 ·subst h;rw[ifn_,ifn_,Int.sub_self];rfl
 ·rw[ifn_,ah h,sM (by omega)]
theorem UI {n1 d1 n2 d2:Int}(h1:0<d1)(h2:0<d2):(tW (n1.fdiv d1) (n2.fdiv d2)≠0→Du n1 d1 n2 d2=tW (n1.fdiv d1) (n2.fdiv d2))∧
  (tW (n1.fdiv d1) (n2.fdiv d2)=0→((n1.fmod d1).sign=0∨(n2.fmod d2).sign=0→Du n1 d1 n2 d2=(n1.fmod d1).sign - (n2.fmod d2).sign)∧(¬((n1.fmod d1).sign=0∨(n2.fmod d2).sign=0)→0<n1.fmod d1∧n1.fmod d1<d1∧0<n2.fmod d2∧Du n1 d1 n2 d2=- Du d1 (n1.fmod d1) d2 (n2.fmod d2))):=by
 have r1:=xz n1 h1
 have r2:=xz n2 h2
 have e1:d1*n1.fdiv d1+n1.fmod d1=n1:=Fj n1 d1
 have e2:d2*n2.fdiv d2+n2.fmod d2=n2:=Fj n2 d2
 constructor
 ·intro h
  rcases xB (n1.fdiv d1) (n2.fdiv d2) with h3|h3|h3
  ·have:=E4 h1 h2 h3
   unfold Du tW
   rw[ah this,ah h3]
  ·exfalso;apply h;unfold tW;rw[ifn_,ifn_]
  ·have:=E4 h2 h1 h3
   unfold Du tW
   rw[ifn_,ah this,ifn_,ah h3]
 ·intro h
  have h3:n1.fdiv d1=n2.fdiv d2:=by
   unfold tW at h
   split at h
   ·cases h
   ·split at h
    ·cases h
    ·omega
  rw[h3] at e1
  have key:n1*d2 - n2*d1=n1.fmod d1*d2 - n2.fmod d2*d1:=by
   have a1:n1*d2=d1*n2.fdiv d2*d2+n1.fmod d1*d2:=by rw[←Int.add_mul,e1]
   have a2:n2*d1=d2*n2.fdiv d2*d1+n2.fmod d2*d1:=by rw[←Int.add_mul,e2]
   have:d1*n2.fdiv d2*d2=d2*n2.fdiv d2*d1:=by rw[lD d1,lD d2,Fi,Fi,lD d1]
   rw[a1,a2,this]
   omega
  have hs:Du n1 d1 n2 d2=(n1.fmod d1*d2 - n2.fmod d2*d1).sign:=by unfold Du;rw[HD,key]
  have p1:=zZ n1 h1
  generalize n1.fmod d1=m1 at*
  generalize n2.fmod d2=m2 at*
  constructor
  ·intro h4
   rw[hs]
   have KN:∀{x y:Int},0<y→(x*y).sign=x.sign:=fun {x y} hy=>by rw[Int.sign_mul,sM hy,Int.mul_one]
   rcases h4 with h4|h4
   ·have:m1=0:=Cv.1 h4
    subst this
    rw[h4,Jp,Int.zero_sub,Int.zero_sub,Int.sign_neg,KN h1]
   ·have:m2=0:=Cv.1 h4
    subst this
    rw[h4,Jp,Int.sub_zero,Int.sub_zero,KN h2]
  ·intro h4
   have h5:m1≠0:=fun h=>h4 (.inl (by rw[h];rfl))
   have h6:m2≠0:=fun h=>h4 (.inr (by rw[h];rfl))
   refine⟨by omega,by omega,by omega,?_⟩
   rw[hs]
   unfold Du
   rw[HD,←Int.sign_neg]
   congr 1
   rw[Int.neg_sub,lD d2,lD d1]
theorem UJ(a c:Int):tW a c=-1∨tW a c=0∨tW a c=1:=by
 unfold tW
 split
 ·exact .inl rfl
 ·split
  ·exact .inr (.inr rfl)
  ·exact .inr (.inl rfl)
theorem OE(a:Int):a.sign=-1∨a.sign=0∨a.sign=1:=by
 rcases xB a 0 with h|h|h
 ·exact .inl (vK h)
 ·subst h;exact .inr (.inl rfl)
 ·exact .inr (.inr (sM h))
theorem Sn {n1 d1:Int}(h1:0<d1)(l1:n1.natAbs<LIM)(l2:d1.natAbs<LIM):(n1.fdiv d1).natAbs<LIM∧(n1.fmod d1).natAbs<LIM:=by
  have e:=Fj n1 d1
  have r1:=xz n1 h1
  have r2:=zZ n1 h1
  have hq:-(n1.natAbs:Int)≤n1.fdiv d1∧n1.fdiv d1≤n1.natAbs:=by
   rw[NM _ (Int.le_of_lt h1)]
   constructor
   ·exact (Int.le_ediv_iff_mul_le h1).2 (by have:-(n1.natAbs:Int)*d1≤-(n1.natAbs:Int)*1:=Int.mul_le_mul_of_nonpos_left (by omega) (by omega);omega)
   ·have:n1 / d1<n1.natAbs+1:=Int.ediv_lt_of_lt_mul h1 (by have:((n1.natAbs:Int)+1)*1≤((n1.natAbs:Int)+1)*d1:=Int.mul_le_mul_of_nonneg_left (by omega) (by omega);omega)
    omega
  omega
theorem V8(k:Nat):∀{n1 d1 n2 d2 out:Int},d1.natAbs≤k→0<d1→0<d2→n1.natAbs<LIM→d1.natAbs<LIM→n2.natAbs<LIM→d2.natAbs<LIM→(out=1∨out=-1)→
  bt jo (out,(⟨enc n1,enc d1⟩:am),(⟨enc n2,enc d2⟩:am))=some (out*Du n1 d1 n2 d2):=by
 induction k with
 |zero=>intro n1 d1 n2 d2 out h h1;omega
 |succ k ih=>
  intro n1 d1 n2 d2 out hk h1 h2 l1 l2 l3 l4 ho
  obtain⟨ca,cb⟩:=UI (n1:=n1) (n2:=n2) h1 h2
  have q1:=Sn h1 l1 l2
  have q2:=Sn h2 l3 l4
  have iY:∀r,jo (out,(⟨enc n1,enc d1⟩:am),(⟨enc n2,enc d2⟩:am))=r↔(cnd (decide (tW (n1.fdiv d1) (n2.fdiv d2)≠(0:Int))) (some (.inr (i64.wrap (out*tW (n1.fdiv d1) (n2.fdiv d2))))) (cnd (decide ((n1.fmod d1).sign=0∨(n2.fmod d2).sign=0)) (some (.inr (i64.wrap (out*(i64.wrap ((n1.fmod d1).sign - (n2.fmod d2).sign)))))) (some (.inl (i64.wrap (0 - out),(⟨enc d1,enc (n1.fmod d1)⟩:am),(⟨enc d2,enc (n2.fmod d2)⟩:am))))))=r:=by
   intro r
   dsimp only[jo]
   rw[H4 l1 l2 (by omega),ab,H4 l3 l4 (by omega),ab,G_Cmp q1.1 q2.1,ab,G_Rem l1 l2 (by omega),ab,G_Rem l3 l4 (by omega),ab,xP q1.2,ab,xP q2.2,ab,UH,ab,ab,←Bool.decide_or]
  have rc:=UJ (n1.fdiv d1) (n2.fdiv d2)
  have rs1:=OE (n1.fmod d1)
  have rs2:=OE (n2.fmod d2)
  by_cases hc:tW (n1.fdiv d1) (n2.fdiv d2)≠0
  ·refine oc ((iY _).2 ?_)
   rw[cH _ _ hc,ca hc,ce (by rcases ho with rfl|rfl <;> omega)]
  ·have hc0:tW (n1.fdiv d1) (n2.fdiv d2)=0:=Decidable.byContradiction hc
   obtain⟨cc,cd⟩:=cb hc0
   by_cases hz:(n1.fmod d1).sign=0∨(n2.fmod d2).sign=0
   ·refine oc ((iY _).2 ?_)
    rw[cr _ _ hc,cH _ _ hz,cc hz,ce (z:=(n1.fmod d1).sign - (n2.fmod d2).sign) (by omega),ce (by rcases ho with rfl|rfl <;> omega)]
   ·obtain⟨g1,g2,g3,g4⟩:=cd hz
    refine (pY ((iY _).2 ?_)).trans ((ih (n1:=d1) (d1:=n1.fmod d1) (n2:=d2) (d2:=n2.fmod d2) (out:=0 - out) (by omega) g1 g3 l2 q1.2 l4 q2.2 (by omega)).trans ?_)
    ·rw[cr _ _ hc,cr _ _ hz,ce]
    ·rw[g4,Int.zero_sub,Fp,CA]
def ocmp(a b:Option Rat):Int:=match a,b with
 |none,none=>0
 |none,some _=>-1
 |some _,none=>1
 |some p,some q=>if p<q then -1 else if q<p then 1 else 0
theorem UK(p q:Rat):Du p.num p.den q.num q.den=if p<q then -1 else if q<p then 1 else 0:=by
 unfold Du tW
 simp only[Rat.lt_iff]
theorem VZ {x y:am}(hx:okR x)(hy:okR y):fL x y=some (ocmp (cC x) (cC y)):=by
 unfold fL
 rw[iV hx,iV hy,ab,ab]
 cases h1:cC x with
 |none=>
  cases h2:cC y with
  |none=>rfl
  |some q=>rfl
 |some p=>
  cases h2:cC y with
  |none=>rfl
  |some q=>
   obtain⟨hp,rfl⟩:=dQ.1 h1
   obtain⟨hq,rfl⟩:=dQ.1 h2
   have e:=V8 p.den (n1:=p.num) (d1:=(p.den:Int)) (n2:=q.num) (d2:=(q.den:Int)) (out:=1) (by omega) (by have:=p.den_pos;omega) (by have:=q.den_pos;omega) hp.1 (jZ hp) hq.1 (jZ hq) (.inl rfl)
   simp only[Cr,c8,aI,ab]
   show (bnd (bt jo ((1:Int),ly p,ly q)) fun vS=>some vS)=_
   unfold ly
   rw[e,ab,zY,UK]
   rfl
theorem Un {x:am}{q:Rat}(h:cC x=some q):x=ly q:=(dQ.1 h).2
def Nu:={x:am // okR x}
instance:DecidableEq Nu:=inferInstanceAs (DecidableEq {x:am // okR x})
theorem okR0:okR (default:am):=by
 have h:∀j:Nat,j<16→(default:ap).vW[j]! =0:=by
  intro j hj
  show (er)[j]! =0
  rw[bT (er) j hj,Vector.getElem_replicate]
 exact⟨fun j hj=>by show 0≤(default:ap).vW[j]!∧(default:ap).vW[j]! <4294967296;rw[h j hj];omega,fun j hj=>by show 0≤(default:ap).vW[j]!∧(default:ap).vW[j]! <4294967296;rw[h j hj];omega⟩
instance:Inhabited Nu:=⟨⟨default,okR0⟩⟩
def nuR(o:Option Rat):Nu:=⟨Cl o,vb o⟩
def decW(v:Vector Int 16):Nat:=gP 4294967296 (fun j=>(v[j]!).toNat) 16
def GX(x:ap):Int:=if x.vNeg then -(decW x.vW:Int) else decW x.vW
theorem decW_W {A:Nat}(h:A<LIM):decW (W A)=A:=by
 refine Uu (b:=4294967296) (n:=16) ?_ h fun j hj=>?_
 ·exact Dy (by decide) _ fun j hj=>by
   rw[gV hj]
   have:=@dgl A j
   omega
 ·unfold decW
  rw[I6 (by decide) 16 (fun i hi=>by
   rw[gV hi]
   have:=@dgl A i
   omega) j hj,gV hj]
  omega
theorem A5 {z:Int}(h:z.natAbs<LIM):GX (enc z)=z:=by
 rw[sx h]
 unfold GX
 dsimp only
 rw[decW_W h]
 by_cases hz:z<0
 ·rw[ah (aB hz)];omega
 ·rw[ai (by simpa using hz)];omega
def zt(x:am):Option Rat:=if mn (Rat.divInt (GX x.vN) (GX x.vD))∧ly (Rat.divInt (GX x.vN) (GX x.vD))=x then some (Rat.divInt (GX x.vN) (GX x.vD)) else none
theorem tj:zt=cC:=by
 funext x
 unfold zt
 cases h:cC x with
 |none=>exact ai fun hh=>Bu.1 h _ hh.1 hh.2.symm
 |some q=>
  obtain⟨h1,h2⟩:=dQ.1 h
  have hn:GX x.vN=q.num:=by rw[h2];exact A5 h1.1
  have hd:GX x.vD=(q.den:Int):=by rw[h2];exact A5 (jZ h1)
  rw[hn,hd,show Rat.divInt q.num q.den=q from by rw[NL];exact Rat.mkRat_self q,ah ⟨h1,h2.symm⟩]
def jw(x y:Nu):Nu:=nuR (Iy (zt x.1) (zt y.1))
def lX(x y:Nu):Nu:=nuR (BQ (zt x.1) (zt y.1))
def xa(x y:Nu):Nu:=nuR (osub (zt x.1) (zt y.1))
def oJ(x y:Nu):Nu:=nuR (GG (zt x.1) (zt y.1))
def eU(x:Nu):Nu:=nuR (Qq (zt x.1))
def nOf(n:Int):Nu:=nuR (some (n:Rat))
def bE(x:Nu):Int:=osgn (zt x.1)
def au(x:Nu):Bool:=(zt x.1).isSome
def qH(x y:Nu):Int:=ocmp (zt x.1) (zt y.1)
theorem oW(x y:Nu):jw x y=nuR (Iy (cC x.1) (cC y.1)):=by unfold jw;rw[tj]
theorem r9(x y:Nu):lX x y=nuR (BQ (cC x.1) (cC y.1)):=by unfold lX;rw[tj]
theorem KM(x y:Nu):xa x y=nuR (osub (cC x.1) (cC y.1)):=by unfold xa;rw[tj]
theorem Et(x y:Nu):oJ x y=nuR (GG (cC x.1) (cC y.1)):=by unfold oJ;rw[tj]
theorem xb(x:Nu):eU x=nuR (Qq (cC x.1)):=by unfold eU;rw[tj]
theorem BU(x:Nu):bE x=osgn (cC x.1):=by unfold bE;rw[tj]
theorem eK(x:Nu):au x=(cC x.1).isSome:=by unfold au;rw[tj]
theorem Eu(x y:Nu):qH x y=ocmp (cC x.1) (cC y.1):=by unfold qH;rw[tj]
section
section
variable {B:Nat} {hp:Hp} {g:Gh} {w w':World}
def Hp.re(hp:Hp)(k:Nat)(ds:List D):Hp:=⟨(hp.next,ds)::hp.vars.filter fun p=>!([k]:List Nat).contains p.1,hp.live,hp.next+1⟩
theorem Ax {k:Nat}{ds a:List D}{j:Nat}(h:(hp.re k ds).vars.lookup j=some a):(j=hp.next∧a=ds)∨(j≠hp.next∧j≠k∧hp.vars.lookup j=some a):=by
 by_cases hj:j=hp.next
 ·subst hj
  have:some ds=some a:=by rw[←h];exact aa.symm
  injection this with this
  exact .inl ⟨rfl,this.symm⟩
 ·have h1:(hp.vars.filter fun p=>!([k]:List Nat).contains p.1).lookup j=some a:=by rw[←h];exact (ao hj).symm
  obtain⟨h2,h3⟩:=jx h1
  exact .inr ⟨hj,by simpa using h2,h3⟩
theorem cM.re(hr:HR B hp g w){k b:Nat}{tB:List D}(hk:hp.vars.lookup k=some tB)(ds:List D)(hs:w.heap.size≤w'.heap.size)(ho:∀c,c<w.heap.size→c≠g.μ k→w'.heap[c]? =w.heap[c]?)(hz:SzB w w' (g.μ k))(hb:b=g.μ k∨w.heap.size≤b):
  cM hp g w (hp.re k ds) (g.var hp.next b) w':=by
 have bO:=hr.var_lt hk
 obtain⟨h1,h2,h3,_⟩:=hr.var k tB hk
 refine⟨hs,fun p jP hf=>World.cell?_of_block (ho _ jP fun e=>hf (h3 p e)),fun p hpb hf=>?_,jM _,fun j hj=>?_,fun _ _ m _ hm=>⟨m,hm,az _,fun _=>rfl⟩,fun c hc hf=>⟨ho _ hc fun e=>hf.1 k tB hk e.symm,fun _ _ h=>.inl h,fun j a hj=>?_,hf.2⟩,fun c=>?_⟩
 ·rcases hf with hf|hf
  ·exact hf
  ·rcases hb with hb|hb
   ·exact h3 p (by rw[hf,hb])
   ·omega
 ·show (if j=hp.next then _ else _)=_
  rw[ifn_]
 ·rcases Ax hj with⟨rfl,_⟩|⟨fS,_,h⟩
  ·show (if _ then _ else _)≠_
   rw[ah rfl]
   rcases hb with hb|hb
   ·rw[hb];exact hf.1 k tB hk
   ·omega
  ·show (if _ then _ else _)≠_
   rw[ai fS]
   exact hf.1 j a h
 ·by_cases hc:c=g.μ k
  ·subst hc;exact hz
  ·exact .same fun h=>ho c h hc
theorem HR.re(hr:HR B hp g w){k b:Nat}{tB:List D}(hk:hp.vars.lookup k=some tB)(ds:List D)(hs:w.heap.size≤w'.heap.size)(ho:∀c,c<w.heap.size→c≠g.μ k→w'.heap[c]? =w.heap[c]?)(hz:SzB w w' (g.μ k))(hb:b=g.μ k∨w.heap.size≤b)
  (cs:Array Value) (ty:TypeId) (hn:w'.heap[b]? =some (.cells cs ty (0,0))) (hl:ds.length≤cs.size) (hc:∀(j:Nat) (u:Value),cs[j]? =some u→(j<ds.length→u.oneCell'=true)∧∀d,ds[j]? =some d→aF hp g w d u):HR B (hp.re k ds) (g.var hp.next b) w':=by
 have m:=cM.re hr hk ds hs ho hz hb
 have hkl:=hr.var_lt hk
 obtain⟨TC,zK,hk3,_⟩:=hr.var k tB hk
 have hbl:b<w'.heap.size:=(pl.1 hn).1
 have JU:(g.var hp.next b).μ hp.next=b:=ah rfl
 have hμ:∀j,j<hp.next→(g.var hp.next b).μ j=g.μ j:=m.μ
 have Pe:∀{j:Nat} {a:List D},j≠k→hp.vars.lookup j=some a→g.μ j≠g.μ k:=fun hj h e=>hj (hr.inj _ _ _ _ h hk e)
 have t6:∀{j:Nat} {a:List D},j≠k→hp.vars.lookup j=some a→g.μ j≠b:=fun hj h e=>by
  rcases hb with hb|hb
  ·exact Pe hj h (by rw[e,hb])
  ·have:=hr.var_lt h;omega
 refine⟨fun j a hj=>?_,fun j j' a a' hj CW he=>?_,fun id n e hi=>?_,fun id Cb t t' c hi wE he Hs=>hr.tinj id Cb t t' c hi wE he Hs,dm hr.base hs,fun p hf=>?_⟩
 ·rcases Ax hj with⟨rfl,rfl⟩|⟨fS,hjk,h0⟩
  ·rw[JU]
   refine⟨ez _,?_,fun p hp'=>.inr hp',cs,ty,hn,hl,fun i u hu=>⟨(hc i u hu).1,fun d hd=>((hc i u hu).2 d hd).mono m⟩⟩
   rcases hb with hb|hb
   ·rw[hb];exact zK
   ·exact dm hr.base hb
  ·have bO:=hr.var_lt h0
   obtain⟨h1,h2,h3,xn,Mj,h4,h5,h6⟩:=hr.var j a h0
   rw[hμ j h1]
   exact⟨zc h1,h2,fun p hp'=>.inl (h3 p hp'),xn,Mj,(ho _ bO (Pe hjk h0)).trans h4,h5,fun i u hu=>⟨(h6 i u hu).1,fun d hd=>((h6 i u hu).2 d hd).mono m⟩⟩
 ·rcases Ax hj with⟨h1,_⟩|⟨h1,hjk,h0⟩ <;> rcases Ax CW with⟨h2,_⟩|⟨h2,hjk',J1⟩
  ·omega
  ·rw[h1,JU,hμ j' (hr.var j' a' J1).1] at he
   exact absurd he.symm (t6 hjk' J1)
  ·rw[h2,JU,hμ j (hr.var j a h0).1] at he
   exact absurd he (t6 hjk h0)
  ·rw[hμ j (hr.var j a h0).1,hμ j' (hr.var j' a' J1).1] at he
   exact hr.inj j j' a a' h0 J1 he
 ·obtain⟨h1,us,hz',h2,h3⟩:=hr.tok id n e hi
  refine⟨zc h1,us,hz',⟨h2.1,?_⟩,fun c EP=>⟨fun p h4 h5=>.inl ((h3 c EP).1 p h4 h5),fun j a hj=>?_⟩⟩
  ·rcases h2.2 with h0|⟨c,cap,cur,hv,hB,hh,r⟩
   ·exact .inl h0
   ·exact .inr ⟨c,cap,cur,hv,hB,(ho c (pl.1 hh).1 fun e=>(h3 c (by rw[hv];rfl)).2 k tB hk e.symm).trans hh,r⟩
  ·rcases Ax hj with⟨rfl,_⟩|⟨fS,_,h0⟩
   ·rw[JU]
    rcases hb with hb|hb
    ·rw[hb];exact (h3 c EP).2 k tB hk
    ·have:=(h2.lt c EP).2;omega
   ·rw[hμ j (hr.var j a h0).1]
    exact (h3 c EP).2 j a h0
 ·rcases hf with hf|hf
  ·exact bM (hr.fits p hf) hs
  ·rw[hf];exact hbl
theorem cM.addVar(hp:Hp)(g:Gh)(ds:List D){b:Nat}(hs:w.heap.size≤w'.heap.size)(hb:∀c,c<w.heap.size→w'.heap[c]? =w.heap[c]?)(wl:w.heap.size≤b):cM hp g w (hp.var ds) (g.var hp.next b) w':=by
 refine⟨hs,fun p jP _=>World.cell?_of_block (hb _ jP),fun p hpb hf=>?_,jM _,fun k hk=>?_,fun _ _ m _ hm=>⟨m,hm,az _,fun _=>rfl⟩,fun c hc hf=>⟨hb _ hc,fun _ _ h=>.inl h,fun k ds' hk=>?_,hf.2⟩,fun c=>.same (hb c)⟩
 ·rcases hf with hf|hf
  ·exact hf
  ·omega
 ·show (if k=hp.next then _ else _)=_
  rw[ifn_]
 ·show (if k=hp.next then _ else _)≠_
  by_cases xY:k=hp.next
  ·rw[ah xY];omega
  ·rw[ai xY]
   exact hf.1 k ds' (by rw[←hk];exact (ao xY).symm)
theorem HR.addVar(hr:HR B hp g w)(ds:List D){b:Nat}(hs:w.heap.size≤w'.heap.size)(hb:∀c,c<w.heap.size→w'.heap[c]? =w.heap[c]?)(wl:w.heap.size≤b)(cs:Array Value)(ty:TypeId)(hn:w'.heap[b]? =some (.cells cs ty (0,0)))(hl:ds.length≤cs.size)
  (hc:∀(j:Nat) (u:Value),cs[j]? =some u→(j<ds.length→u.oneCell'=true)∧∀d,ds[j]? =some d→aF (hp.var ds) (g.var hp.next b) w' d u):HR B (hp.var ds) (g.var hp.next b) w':=by
 have m:=cM.addVar hp g ds hs hb wl
 have hμ:∀k,k<hp.next→(g.var hp.next b).μ k=g.μ k:=m.μ
 have JU:(g.var hp.next b).μ hp.next=b:=ah rfl
 have hbl:b<w'.heap.size:=(pl.1 hn).1
 have look:∀{j:Nat} {a:List D},(hp.var ds).vars.lookup j=some a→(j=hp.next∧a=ds)∨(j≠hp.next∧hp.vars.lookup j=some a):=by
  intro j a hj
  by_cases t7:j=hp.next
  ·subst t7
   have:some ds=some a:=by rw[←hj];exact aa.symm
   injection this with this
   exact .inl ⟨rfl,this.symm⟩
  ·exact .inr ⟨t7,by rw[←hj];exact (ao t7).symm⟩
 refine⟨fun j a hj=>?_,fun j j' a a' hj CW he=>?_,fun id n e hi=>?_,fun id Cb t t' c hi wE he Hs=>hr.tinj id Cb t t' c hi wE he Hs,dm hr.base hs,fun p hf=>?_⟩
 ·rcases look hj with⟨rfl,rfl⟩|⟨fS,h0⟩
  ·rw[JU]
   exact⟨ez _,dm hr.base wl,fun p hp'=>.inr hp',cs,ty,hn,hl,hc⟩
  ·have bO:=hr.var_lt h0
   obtain⟨h1,h2,h3,xn,Mj,h4,h5,h6⟩:=hr.var j a h0
   rw[hμ j h1]
   exact⟨zc h1,h2,fun p hp'=>.inl (h3 p hp'),xn,Mj,(hb _ bO).trans h4,h5,fun i u hu=>⟨(h6 i u hu).1,fun d hd=>((h6 i u hu).2 d hd).mono m⟩⟩
 ·rcases look hj with⟨h1,_⟩|⟨h1,h0⟩ <;> rcases look CW with⟨h2,_⟩|⟨h2,J1⟩
  ·omega
  ·rw[h1,JU,hμ j' (hr.var j' a' J1).1] at he
   have:=hr.var_lt J1;omega
  ·rw[h2,JU,hμ j (hr.var j a h0).1] at he
   have:=hr.var_lt h0;omega
  ·rw[hμ j (hr.var j a h0).1,hμ j' (hr.var j' a' J1).1] at he
   exact hr.inj j j' a a' h0 J1 he
 ·obtain⟨h1,us,hz',h2,h3⟩:=hr.tok id n e hi
  refine⟨zc h1,us,hz',⟨h2.1,?_⟩,fun c EP=>⟨fun p h4 h5=>.inl ((h3 c EP).1 p h4 h5),fun j a hj=>?_⟩⟩
  ·rcases h2.2 with h0|⟨c,cap,cur,hv,hB,hh,r⟩
   ·exact .inl h0
   ·exact .inr ⟨c,cap,cur,hv,hB,(hb c (pl.1 hh).1).trans hh,r⟩
  ·rcases look hj with⟨rfl,_⟩|⟨fS,h0⟩
   ·rw[JU]
    have:=(h2.lt c EP).2;omega
   ·rw[hμ j (hr.var j a h0).1]
    exact (h3 c EP).2 j a h0
 ·rcases hf with hf|hf
  ·exact bM (hr.fits p hf) hs
  ·rw[hf];exact hbl
end
end
section
def D.toOw:D→D
 | .gw k z n=>.ow k 0 z n
 |d=>d
section
variable {P:Program} {tb:TypeId→Option TyE} {md:Md} {B:Nat} {hp hp':Hp} {g:Gh} {w w':World} {d:D} {v:Value}
theorem aF.toOw(h:aF hp g w d v):aF hp g w d.toOw v:=by
 cases h with
 |gw k z n c hk h1 h2 hs=>exact .ow k 0 z n c hk h1 h2
 |e x v h=>exact .e x v h
 |own id z n xs v h hid ht=>exact .own id z n xs v h hid ht
 |fu z n xs A h=>exact .fu z n xs A h
 |ag ds cs hl h1 hr=>exact .ag ds cs hl h1 hr
 |tu ds cs hl hr=>exact .tu ds cs hl hr
 |fp xs off ad hb hc=>exact .fp xs off ad hb hc
 |pt k off hk=>exact .pt k off hk
 |ow k off z n c hk h1 h2=>exact .ow k off z n c hk h1 h2
 |fn f ks hk=>exact .fn f ks hk
 |opt b d v hi h=>exact .opt b d v hi h
 |top v=>exact .top v
theorem Oy {k off:Nat}(d:D):d.toOw.un=.pt k off↔d.un=.pt k off:=by cases d <;> simp[D.toOw,D.un]
theorem rK.toOw {o:Oper}{ev:Operand→D}(h:rK P o (fun x=>(ev x).toOw) hp d hp'):rK P o ev hp d hp':=
 fun B g w a Kn Q hr hx hk=>h B g w a Kn Q hr (fun x yM=>(hx x yM).toOw) hk
theorem nf.toOw {o:Oper}{ev:Operand→D}(h:nf P tb md o (fun x=>(ev x).toOw) hp d hp'):nf P tb md o ev hp d hp':=
 ⟨h.ok.toOw,fun h1=>⟨(h.quiet h1).1,fun dp h3=>((h.quiet h1).2 dp fun hl x hx j off e=>h3 hl x hx j off ((Oy _).1 e)).toOw⟩,h.fr,fun hl x hx j off e=>h.lk hl x hx j off ((Oy _).2 e)⟩
variable {ops:Array Oper} {K:List (Nat×D)→Hp→Prop} {os:List Oper} {tm:List (Nat×D)} {t:Tmp} {dst:Option Tmp} {op:Op} {ty:TypeId} {pos:String} {af:Array Edge} {gd:Option (Nat×Bool)}
theorem stG(tok:TOk P tb)(h:AVC P tb md.dr op ty (fun x=>(evD tm x).toOw) hp (Kq d hp'))(h2:a8 P tb md ops K os (BO dst d tm) hp')(hn:md.nc tb op=true:=by exact rfl):a8 P tb md ops K (⟨dst,op,ty,pos,af,none⟩::os) tm hp:=
 Qf rfl (((AVC.snd (o:=⟨dst,op,ty,pos,af,none⟩) tok h).q hn).toOw) h2
theorem litR(tok:TOk P tb){ev:Operand→D}{tt e:TypeId}{ti j:TyE}{x:Operand}{cs:List D}(ht:tb tt=some ti)(he:tb e=some j)(hx:(ev x).cells=some cs)(hl:cs.length=j.size)(yO:ti.ty=.slice e:=by exact rfl)(hz:Nat.ble 1 j.size=true:=by exact rfl)(hsm:Nat.ble j.size 16777216=true:=by exact rfl)(href:MP tb (.buildSlice tt 1 #[(0,x)])=true:=by exact rfl)(qU:md.nc tb (.buildSlice tt 1 #[(0,x)])=true:=by exact rfl):
  nf P tb md ⟨dst,.buildSlice tt 1 #[(0,x)],ty,pos,af,gd⟩ ev hp (.gw hp.next j.size 1) (hp.var cs):=by
 have hz:=bb hz
 have hsm:=bb hsm
 have hu:=tok.slice ht yO
 refine⟨.step fun B g w a hr yM=>?_,fun hq=>?_,fun _=>⟨jM _,fun j hj=>ao (by omega)⟩,fun h=>by cases h⟩
 rotate_left
 ·exfalso
  cases md with
  |seq=>cases hq
  |any L=>
   have h1:((pV (.buildSlice tt 1 #[(0,x)])&&!MP tb (.buildSlice tt 1 #[(0,x)]))||pd tb L (.buildSlice tt 1 #[(0,x)]))=true:=hq
   rw[href] at h1
   simp[pV,pd] at h1
 have cY:=yM x (by simp[Op.operands])
 have pw:=cY.cells hx
 have t8:(a.eval x).cells.size=j.size:=by rw[←i7,←pw.1.1,hl]
 obtain⟨zv,hzv,Hm⟩:=tok.run_zero he w
 obtain⟨_,_,hzl,MW⟩:=tok e j he
 have hs:=tok.run_sizeOf he w
 have CZ:Instr.fill (fun i=>some (i*j.size,j.size)) ((Array.range (1*j.size)).map (zv.cells[·% zv.cells.size]!)) [(0,a.eval x)]=some (a.eval x).cells:=by
  have h0:gp (fun i=>some (i*j.size,j.size)) ((Array.range (1*j.size)).map (zv.cells[·% zv.cells.size]!)).toList ([(0,a.eval x)].map fun p=>(p.1,p.2.cells.toList))=some (a.eval x).cells.toList:=by
   have Ml:((Array.range (1*j.size)).map (zv.cells[·% zv.cells.size]!)).toList.length=j.size:=by simp
   simp only[iX,l6,gp,gS,bw,i7]
   rw[ai (by rw[t8,Array.size_map,Array.size_range];omega)]
   rw[Fb,nR,Db (by rw[Ml];omega),tG]
  have:=DO h0
  simpa using this
 have cf:(Instr.buildSlice tt 1 #[(0,a.eval x)]).run P w=.ok (.slice (some ⟨w.heap.size,0,none⟩) 1 1) (w.alloc (.cells (a.eval x).cells e)):=by
  have hsm2:¬1*j.size > 2 ^ 24:=by omega
  have fS:¬1*j.size=0:=by omega
  simp only[Instr.buildSlice,Sem.run_bind,run_underlying hu,Result.andThen_ok,hs,ai hsm2,ai fS,hzv,Sem.run_pure]
  simp only[CZ]
  rfl
 refine⟨.slice (some ⟨w.heap.size,0,none⟩) 1 1,g.var hp.next w.heap.size,w.alloc (.cells (a.eval x).cells e),?_,hr.newVar cs _ e (by rw[t8,hl];exact az _) (fun i u hu=>?_),cM.var hp g w cs _,?_,(Below.refl _ _).alloc hr.base _,fun p _ h=>.inl h⟩
 ·simp[execOp,cf]
 ·have wi:(a.eval x).cells.toList[i]? =some u:=by simpa using hu
  exact⟨fun _=>pw.2 u (eg wi),fun d hd=>pw.1.2 i d u hd wi⟩
 ·have:=aF.gw (hp:=hp.var cs) (g:=g.var hp.next w.heap.size) (w:=w.alloc (.cells (a.eval x).cells e)) hp.next j.size 1 1 (ez _) (az _) (by decide) ⟨(a.eval x).cells,e,(0,0),by rw[show (g.var hp.next w.heap.size).μ hp.next=w.heap.size from ah rfl];exact heap_alloc_new w _,by omega⟩
  rwa[show (g.var hp.next w.heap.size).μ hp.next=w.heap.size from ah rfl] at this
theorem BI(w:World)(t ty e tt:TypeId)(i:TypeInfo)(ht:P.underlying t=some (.slice e))(hi:P.info? e=some i)
  (g MC sCap:Nat) (cur:Array Value) (hg:w.heap[g]? =some (.cells cur tt (0,0)))
  (a:Addr) (m c:Nat) (news:List Value) (hl:news.length=m*i.size) (tr:∀j u,news[j]? =some u→w.cell? (a.add j)=some u) (h1:∀u∈news,u.oneCell'=true)
  (wj:MC+m≤sCap) (GQ:MC*i.size+news.length≤cur.size):
  (Builtin.append_ #[t,t] ty #[.slice (some ⟨g,0,none⟩) MC sCap,.slice (some a) m c]).run P w=
   .ok (.slice (some ⟨g,0,none⟩) (MC+m) sCap) (w.setRow g (cur.toList.take (MC*i.size)++news++cur.toList.drop (MC*i.size+news.length)).toArray):=by
 have hf:=run_firstCells_some (P:=P) w i.size m a m c news hl tr
 have Ho:=run_storeCells_at P g (MC*i.size) tt news 0 cur w hg (by simpa using GQ) h1
 simp only[iT] at Ho
 simp[Builtin.append_,run_underlying ht,sizeOf,typeInfo,hi,Builtin.lenOf,wj,hf,Addr.add_lit,Ho]
structure AppG(w:World)(g:Nat)(v':Value)(w':World)(b n z:Nat)(xs:List Value):Prop where
 size:w.heap.size≤w'.heap.size
 old:∀c,c<w.heap.size→c≠g→w'.heap[c]? =w.heap[c]?
 sz:SzB w w' g
 blk:b=g∨w.heap.size≤b
 rest:w'.os=w.os∧w'.tape=w.tape∧w'.output=w.output
 row:∃(cs:Array Value) (tt:TypeId) (cap:Nat),v'=.slice (some ⟨b,0,none⟩) n cap∧n≤cap∧cap≤maxLen∧w'.heap[b]? =some (.cells cs tt (0,0))∧cap*z≤cs.size∧cs.toList.take (n*z)=xs
theorem GD(tok:TOk P tb){t e:TypeId}{ti j:TyE}(ht:tb t=some ti)(yO:ti.ty=.slice e)(he:tb e=some j)(hz:0<j.size)(w:World)(ty tt:TypeId)(g n cap:Nat)(cur:Array Value)(hg:w.heap[g]? =some (.cells cur tt (0,0)))(qU:n≤cap)(oY:cap≤maxLen)(pw:cap*j.size≤cur.size)
  (a:Addr) (m c:Nat) (news:List Value) (hl:news.length=m*j.size) (tr:∀j u,news[j]? =some u→w.cell? (a.add j)=some u) (h1:∀u∈news,u.oneCell'=true) (hm:0<m) (hb:(n+m)*max 1 j.bytes≤140737488355328):
  ∃v' w' b,(Builtin.append_ #[t,t] ty #[.slice (some ⟨g,0,none⟩) n cap,.slice (some a) m c]).run P w=.ok v' w'∧AppG w g v' w' b (n+m) j.size (cur.toList.take (n*j.size)++news):=by
 obtain⟨f,zz,Rx,Pd,Dq,Pc,hf4,_⟩:=tok.inf he
 have hu:=tok.slice ht yO
 have O9:g<w.heap.size:=(pl.1 hg).1
 have Ru:n+m≤140737488355328:=dm (HH _ (by omega)) hb
 have t6:(n+m)*f.bytes≤140737488355328:=dm (Ba _ (by rw[Dq];omega)) hb
 have Ts:n*j.size≤cap*j.size:=cz _ qU
 have Ce:(cur.toList.take (n*j.size)).length=n*j.size:=by rw[eu,i7];omega
 by_cases wj:n+m≤cap
 ·have O2:(n+m)*j.size≤cap*j.size:=cz _ wj
  rw[bP] at O2
  have hr:=BI (P:=P) w t ty e tt f hu Rx g n cap cur hg a m c news (by rw[Pd];exact hl) tr h1 wj (by rw[Pd,hl];omega)
  rw[Pd] at hr
  have Bp:(cur.toList.take (n*j.size)++news++cur.toList.drop (n*j.size+news.length)).toArray.size=cur.size:=by
   simp only[sK,cJ,eu,fh,i7];omega
  refine⟨_,_,g,hr,by simp,fun c _ hc=>setRow_other w g c _ hc,SzB.row hg Bp,.inl rfl,⟨rfl,rfl,rfl⟩,_,tt,cap,rfl,wj,oY,setRow_heap w g cur _ tt (0,0) hg,by rw[Bp];exact pw,?_⟩
  have e1:(n+m)*j.size=(cur.toList.take (n*j.size)++news).length:=by rw[cJ,Ce,hl,bP]
  rw[e1]
  exact wr
 ·have holds:∀i u,(cur.toList.take (n*j.size))[i]? =some u→w.cell? ((⟨g,0,none⟩:Addr).add i)=some u:=fun i u hu=>by
   rw[gU] at hu
   split at hu
   ·rw[Addr.add_lit]
    simpa[World.cell?,hg] using hu
   ·cases hu
  have hr:=run_append_grow (P:=P) w t ty e f zz hu Rx Pc ⟨g,0,none⟩ n cap (cur.toList.take (n*j.size)) (by rw[Pd];exact Ce) holds a m c news (by rw[Pd];exact hl) tr (by omega) (by omega) (growslice_fits (by omega) t6)
  have wl:=grownCap_ge w (n+m) cap e
  have hzs:zz.cells.size=j.size:=by
   have h4:=(tok e j he).2.2.1
   rw[←i7,hf4,h4]
  refine⟨_,_,w.heap.size,hr,by simp,fun c hc _=>heap_alloc_old w.drew _ hc,.same fun h=>heap_alloc_old w.drew _ h,.inr (az _),⟨rfl,rfl,rfl⟩,_,e,_,rfl,wl,grownCap_le_maxLen w (n+m) cap e (by unfold maxLen;omega),heap_alloc_new w.drew _,?_,?_⟩
  ·simp only[LM,sK,size_zeroCells,hzs,Ce,hl,←bP]
   exact cz _ (by omega)
  ·have e1:(n+m)*j.size=(cur.toList.take (n*j.size)++news).length:=by rw[cJ,Ce,hl,bP]
   simp only[PK]
   rw[e1]
   exact wr
theorem appR(tok:TOk P tb){ev:Operand→D}{t e:TypeId}{ti j:TyE}{x y:Operand}{k n ky:Nat}{ds news:List D}(ht:tb t=some ti)(he:tb e=some j)(hk:hp.vars.lookup k=some ds)(hy:hp.vars.lookup ky=some news)(hx:ev x=.gw k j.size n)(Qy:ev y=.gw ky j.size 1)(hl:ds.length=n*j.size)(Ml:news.length=j.size)(hb:(n+1)*max 1 j.bytes≤140737488355328)
  (yO:ti.ty=.slice e:=by exact rfl) (hz:Nat.ble 1 j.size=true:=by exact rfl) (href:cpB tb ⟨.builtin .append,#[x,y],#[t,t]⟩=true:=by exact rfl):
  nf P tb md ⟨dst,.call ⟨.builtin .append,#[x,y],#[t,t]⟩,ty,pos,af,gd⟩ ev hp (.gw hp.next j.size (n+1)) (hp.re k (ds++news)):=by
 have hz:=bb hz
 refine⟨.step fun B g w a hr yM=>?_,fun hq=>?_,fun h=>?_,fun h=>by cases h⟩
 ·have h1:=yM x (cX (by simp))
  have h2:=yM y (cX (by simp))
  rw[hx] at h1
  rw[Qy] at h2
  obtain⟨q1,q2,q3,cs,tt,q4,q5,q6⟩:=hr.var k ds hk
  obtain⟨y1,y2,y3,ys,yt,y4,y5,y6⟩:=hr.var ky news hy
  generalize hv1:a.eval x=v1 at h1
  generalize S5:a.eval y=v2 at h2
  cases h1 with
  |gw _ _ _ cap xY qU oY hs=>
  cases h2 with
  |gw _ _ _ c hkn2 hnc2 hcm2 Mk=>
  obtain⟨xn,tt',l',h3,h4⟩:=hs
  rw[q4] at h3
  injection h3 with h3
  injection h3 with h3 h5 h6
  subst h3;subst h5;subst h6
  have tr:∀i u,(ys.toList.take j.size)[i]? =some u→w.cell? ((⟨g.μ ky,0,none⟩:Addr).add i)=some u:=fun i u hu=>by
   rw[gU] at hu
   split at hu
   ·rw[Addr.add_lit]
    simpa[World.cell?,y4] using hu
   ·cases hu
  have hyone:∀u∈ys.toList.take j.size,u.oneCell'=true:=fun u hu=>by
   obtain⟨i,hi⟩:=Bc hu
   rw[gU] at hi
   split at hi
   ·rename_i bO
    exact (y6 i u (by simpa using hi)).1 (by omega)
   ·cases hi
  obtain⟨v',w',b,cf,tU⟩:=GD tok ht yO he hz w ty tt (g.μ k) n cap cs q4 qU oY h4 ⟨g.μ ky,0,none⟩ 1 c (ys.toList.take j.size) (by rw[eu,i7];omega) tr hyone (by omega) hb
  obtain⟨cs2,tt2,cap2,wC,Mn,rA,hh2,hc3,Pf⟩:=tU.row
  have hlen:(ds++news).length=(n+1)*j.size:=by rw[cJ,hl,Ml,bP,fk]
  have DJ:(n+1)*j.size≤cap2*j.size:=cz _ Mn
  have hHR:HR B (hp.re k (ds++news)) (g.var hp.next b) w':=hr.re hk _ tU.size tU.old tU.sz tU.blk cs2 tt2 hh2 (by rw[hlen];omega) (fun i u hu=>by
   have hwin:i<(n+1)*j.size→(cs.toList.take (n*j.size)++ys.toList.take j.size)[i]? =some u:=fun hi=>by
    rw[←Pf,gU,ah hi];simpa using hu
   have htk:(cs.toList.take (n*j.size)).length=n*j.size:=by rw[eu,i7];omega
   have look:∀hi:i<(n+1)*j.size,(i<n*j.size∧cs[i]? =some u)∨(n*j.size≤i∧i - n*j.size<j.size∧ys[i - n*j.size]? =some u):=fun hi=>by
    have h:=hwin hi
    rcases d9 i (n*j.size) with bO|wl
    ·rw[za (by omega),gU,ah bO] at h
     exact .inl ⟨bO,by simpa using h⟩
    ·rw[qi (by omega),htk,gU] at h
     rw[bP,fk] at hi
     rw[ifp_] at h
     exact .inr ⟨wl,by omega,by simpa using h⟩
   refine⟨fun hi=>?_,fun d hd=>?_⟩
   ·rw[hlen] at hi
    rcases look hi with⟨h5,h6⟩|⟨h5,h6,h7⟩
    ·exact (q6 i u h6).1 (by omega)
    ·exact (y6 _ u h7).1 (by omega)
   ·have hi:i<(n+1)*j.size:=by rw[←hlen];exact (fW.1 hd).1
    rcases look hi with⟨h5,h6⟩|⟨h5,h6,h7⟩
    ·rw[za (by omega)] at hd
     exact (q6 i u h6).2 d hd
    ·rw[qi (by omega),hl] at hd
     exact (y6 _ u h7).2 d hd)
  refine⟨v',g.var hp.next b,w',?_,hHR,cM.re hr hk _ tU.size tU.old tU.sz tU.blk,?_,⟨tU.rest.1,tU.rest.2.1,tU.rest.2.2,tU.size,fun c hc=>tU.old c (bM hc hr.base) (by omega)⟩,fun p h5 h6=>.inl h6⟩
  ·simp only[execOp,Array.map_map,al_5,iX,l6,resolve,invoke,builtin,hv1,S5,Sem.run_bind]
   simp[resolve,invoke,builtin,hv1,S5,cf]
  ·subst wC
   have JU:(g.var hp.next b).μ hp.next=b:=ah rfl
   have:=aF.gw (hp:=hp.re k (ds++news)) (g:=g.var hp.next b) (w:=w') hp.next j.size (n+1) cap2 (ez _) Mn rA ⟨cs2,tt2,(0,0),by rw[JU];exact hh2,hc3⟩
   rwa[JU] at this
 ·exfalso
  cases md with
  |seq=>cases hq
  |any L=>
   have h1:((pV (.call ⟨.builtin .append,#[x,y],#[t,t]⟩)&&!MP tb (.call ⟨.builtin .append,#[x,y],#[t,t]⟩))||pd tb L (.call ⟨.builtin .append,#[x,y],#[t,t]⟩))=true:=hq
   simp[pV,pd] at h1
 ·have h2:(hvB tb ⟨.builtin .append,#[x,y],#[t,t]⟩||cpB tb ⟨.builtin .append,#[x,y],#[t,t]⟩)=false:=h
  rw[href,Bool.or_true] at h2
  cases h2
end
end
section
section
variable {P:Program} {tb:TypeId→Option TyE} {md:Md} {B:Nat} {hp hp':Hp} {g:Gh} {w w':World} {d:D} {v:Value}
theorem appN(tok:TOk P tb){ev:Operand→D}{dst:Option Tmp}{ty:TypeId}{pos:String}{af:Array Edge}{gd:Option (Nat×Bool)}{t e:TypeId}{ti j:TyE}{x y:Operand}{ky:Nat}{news:List D}(ht:tb t=some ti)(he:tb e=some j)(hy:hp.vars.lookup ky=some news)(hx:ev x=.e (.lit (.slice none 0 0)))(Qy:ev y=.gw ky j.size 1)(Ml:news.length=j.size)(hb:1*max 1 j.bytes≤140737488355328)
  (yO:ti.ty=.slice e:=by exact rfl) (hz:Nat.ble 1 j.size=true:=by exact rfl):
  nf P tb md ⟨dst,.call ⟨.builtin .append,#[x,y],#[t,t]⟩,ty,pos,af,gd⟩ ev hp (.gw hp.next j.size 1) (hp.var news):=by
 have hz:=bb hz
 refine⟨.step fun B g w a hr yM=>?_,fun hq=>?_,fun _=>⟨jM _,fun j hj=>ao (by omega)⟩,fun h=>by cases h⟩
 ·have h1:=yM x (cX (by simp))
  have h2:=yM y (cX (by simp))
  rw[hx] at h1
  rw[Qy] at h2
  have h1:=h1.lit
  obtain⟨y1,y2,y3,ys,yt,y4,y5,y6⟩:=hr.var ky news hy
  generalize S5:a.eval y=v2 at h2
  cases h2 with
  |gw _ _ _ c hkn2 hnc2 hcm2 Mk=>
  obtain⟨f,zz,Rx,Pd,Dq,Pc,hf4,_⟩:=tok.inf he
  have hu:=tok.slice ht yO
  have hzs:zz.cells.size=j.size:=by
   have h4:=(tok e j he).2.2.1
   rw[←i7,hf4,h4]
  have t6:f.bytes≤140737488355328:=by rw[Dq];omega
  have tr:∀i u,(ys.toList.take j.size)[i]? =some u→w.cell? ((⟨g.μ ky,0,none⟩:Addr).add i)=some u:=fun i u hu=>by
   rw[gU] at hu
   split at hu
   ·rw[Addr.add_lit]
    simpa[World.cell?,y4] using hu
   ·cases hu
  have Bp:(ys.toList.take j.size).length=j.size:=by rw[eu,i7];omega
  have cf:=run_append_nil (P:=P) w t ty e f zz hu Rx Pc ⟨g.μ ky,0,none⟩ 1 c (ys.toList.take j.size) (by rw[Pd,Bp];omega) tr (by omega) (by omega) (by omega)
  have wl:=grownCap_ge w 1 0 e
  have hold:∀c,c<w.heap.size→(w.drew.alloc (.cells ((ys.toList.take j.size).toArray++Builtin.zeroCells zz.cells (grownCap w 1 0 e - 1)) e)).heap[c]? =w.heap[c]? :=fun c hc=>heap_alloc_old w.drew _ hc
  have Dp:=heap_alloc_new w.drew (.cells ((ys.toList.take j.size).toArray++Builtin.zeroCells zz.cells (grownCap w 1 0 e - 1)) e)
  have mo:=cM.addVar (w:=w) (w':=w.drew.alloc (.cells ((ys.toList.take j.size).toArray++Builtin.zeroCells zz.cells (grownCap w 1 0 e - 1)) e)) hp g news (b:=w.heap.size) (by simp) hold (az _)
  have hsz:((ys.toList.take j.size).toArray++Builtin.zeroCells zz.cells (grownCap w 1 0 e - 1)).size=grownCap w 1 0 e*j.size:=by
   simp only[LM,sK,size_zeroCells,hzs,Bp]
   have:grownCap w 1 0 e=1+(grownCap w 1 0 e - 1):=by omega
   rw[this,bP,fk]
   congr 2
   omega
  have h1z:1*j.size≤grownCap w 1 0 e*j.size:=cz _ wl
  refine⟨.slice (some ⟨w.heap.size,0,none⟩) 1 (grownCap w 1 0 e),g.var hp.next w.heap.size,_,?_,hr.addVar news (w':=w.drew.alloc (.cells ((ys.toList.take j.size).toArray++Builtin.zeroCells zz.cells (grownCap w 1 0 e - 1)) e)) (by simp) hold (az _) _ e Dp (by rw[hsz,Ml];omega) (fun i u hu=>?_),mo,?_,⟨rfl,rfl,rfl,by simp,fun c hc=>hold c (bM hc hr.base)⟩,fun p h5 h6=>.inl h6⟩
  ·simp only[execOp,Array.map_map,al_5,iX,l6,resolve,invoke,builtin,h1,S5,Sem.run_bind]
   simp[resolve,invoke,builtin,h1,S5,cf]
  ·have GP:i<news.length→ys[i]? =some u:=fun hi=>by
    have wE:i<(ys.toList.take j.size).toArray.size:=by rw[sK,Bp];omega
    rw[NK wE,Fw,gU,ifp_] at hu
    simpa using hu
   exact⟨fun hi=>(y6 i u (GP hi)).1 hi,fun d hd=>((y6 i u (GP (fW.1 hd).1)).2 d hd).mono mo⟩
  ·have JU:(g.var hp.next w.heap.size).μ hp.next=w.heap.size:=ah rfl
   have:=aF.gw (hp:=hp.var news) (g:=g.var hp.next w.heap.size) (w:=w.drew.alloc (.cells ((ys.toList.take j.size).toArray++Builtin.zeroCells zz.cells (grownCap w 1 0 e - 1)) e)) hp.next j.size 1 (grownCap w 1 0 e) (ez _) wl (grownCap_le_maxLen w 1 0 e (by decide)) ⟨_,e,(0,0),by rw[JU];exact Dp,by rw[hsz];exact az _⟩
   rwa[JU] at this
 ·exfalso
  cases md with
  |seq=>cases hq
  |any L=>
   have h1:((pV (.call ⟨.builtin .append,#[x,y],#[t,t]⟩)&&!MP tb (.call ⟨.builtin .append,#[x,y],#[t,t]⟩))||pd tb L (.call ⟨.builtin .append,#[x,y],#[t,t]⟩))=true:=hq
   simp[pV,pd] at h1
def Fv(hp:Hp)(g:Gh):Addr→Prop:=fun p=>g.F p∧∀k ds,hp.vars.lookup k=some ds→g.μ k≠p.block
def AR(hp:Hp)(d d':D):Prop:=∀(B:Nat) (g:Gh) (w:World) (v:Value),HR B hp g w→aF hp g w d v→l9 w (Fv hp g) d' v
theorem AR.data(h:d.ex.pure=true):AR hp d d.ex:=fun _ _ _ _ _ hd=>(hd.xport h).less fun _ hp=>hp.1
theorem AR.sl {k z n off:Nat}{F:List E}(hv:hp.vars.lookup k=some (dC F))(hz:0<z)(hl:off+n*z≤F.length):AR hp (.ow k off z n) (.e (.sl z n ((F.drop off).take (n*z)))):=by
 intro B g w v hr hd
 obtain⟨h1,h2,h3,cs,ty,h4,h5,h6⟩:=hr.var k _ hv
 rw[eH] at h5
 cases hd with
 |ow _ _ _ _ c hk qU oY=>
  refine .e _ _ (.sl z n _ (some ⟨g.μ k,off,none⟩) c (fun i=>cs.getD (off+i) undef) (by rw[eu,fh];omega) hz qU oY (fun _=>⟨_,rfl,(pl.1 h4).1⟩) (fun ad ha i e hi=>?_) (fun i e hi=>?_))
  ·injection ha with ha
   subst ha
   have wE:i<n*z:=by
    have:=(fW.1 hi).1
    rw[eu] at this;omega
   have Rz:(⟨g.μ k,off,none⟩:Addr).add i=⟨g.μ k,off+i,none⟩:=by unfold Addr.add;split <;> simp_all
   refine⟨?_,fun hf=>hf.2 k _ hv (by rw[gD])⟩
   rw[Rz]
   have bO:off+i<cs.size:=by omega
   simp[World.cell?,h4,e9,bO]
  ·have wE:i<n*z:=by
    have:=(fW.1 hi).1
    rw[eu] at this;omega
   have bO:off+i<cs.size:=by omega
   rw[gU,ah wE,nQ] at hi
   have hu:=h6 (off+i) (cs.getD (off+i) undef) (by simp[e9,bO])
   have:=hu.2 (.e e) (by unfold dC;rw[dW,hi];rfl)
   cases this with
   |e _ _ h7=>exact h7.less fun p hp=>hp.1
theorem AR.gw {k z n:Nat}{F:List E}(hv:hp.vars.lookup k=some (dC F))(hz:0<z)(hl:F.length=n*z):AR hp (.gw k z n) (.e (.sl z n F)):=by
 intro B g w v hr hd
 have:=AR.sl (off:=0) hv hz (n:=n) (by omega) B g w v hr hd.toOw
 rwa[rp,ii (by omega)] at this
def ARs(hp:Hp):List D→List D→Prop
 |[],[]=>True
 |d::ds,e::es=>AR hp d e∧ARs hp ds es
 |_,_=>False
theorem ARs.get:∀{ds es:List D},ARs hp ds es→ds.length=es.length∧∀(j:Nat) (e:D),es[j]? =some e→∃d,ds[j]? =some d∧AR hp d e
 |[],[],_=>⟨rfl,fun j e h=>by simp at h⟩
 |d::ds,e::es,⟨h1,h2⟩=>by
  obtain⟨h3,h4⟩:=ARs.get h2
  refine⟨by simp[h3],fun j x hx=>?_⟩
  cases j with
  |zero=>simp at hx;subst hx;exact⟨d,rfl,h1⟩
  |succ j=>exact h4 j x (by simpa using hx)
 |[],_::_,h=>h.elim
 |_::_,[],h=>h.elim
theorem AR.ag {ds es:List D}(h:ARs hp ds es):AR hp (.ag ds) (.ag es):=by
 intro B g w v hr hd
 obtain⟨h1,h2⟩:=h.get
 cases hd with
 |ag _ cs hl ho M4=>
  refine .ag es cs (by omega) ho fun j e u hj hu=>?_
  obtain⟨d,h3,h4⟩:=h2 j e hj
  exact h4 B g w u hr (M4 j d u h3 hu)
def D.flatC:D→Bool
 | .e (.lit _)=>true
 |_=>false
def D.flat1:D→Bool
 | .ag ds=>ds.all D.flatC
 |d=>d.flatC
def D.flat:D→Bool
 | .tu ds=>ds.all D.flat1
 |d=>d.flat1
theorem Lh {F:Addr→Prop}(h:l9 w F d v)(hf:d.flatC=true)(hp:Hp)(g:Gh)(w':World):aF hp g w' d v:=by
 cases h with
 |e x v h=>
  cases x with
  |lit u=>cases h with|lit _ ho=>exact .e _ _ (.lit _ ho)
  |_=>cases hf
 |_=>cases hf
theorem Li {F:Addr→Prop}(h:l9 w F d v)(hf:d.flat1=true)(hp:Hp)(g:Gh)(w':World):aF hp g w' d v:=by
 cases d with
 |ag ds=>
  cases h with
  |ag _ cs hl ho M4=>exact .ag ds cs hl ho fun j d u hj hu=>Lh (M4 j d u hj hu) (a7.1 hf d (eg hj)) hp g w'
 |_=>exact Lh h hf hp g w'
theorem flat_to {F:Addr→Prop}(h:l9 w F d v)(hf:d.flat=true)(hp:Hp)(g:Gh)(w':World):aF hp g w' d v:=by
 cases d with
 |tu ds=>
  cases h with
  |tu _ cs hl M4=>exact .tu ds cs hl fun j d u hj hu=>Li (M4 j d u hj hu) (a7.1 hf d (eg hj)) hp g w'
 |_=>exact Li h hf hp g w'
theorem Fv_fits(hr:HR B hp g w):∀p:Addr,Fv hp g p→p.block<w.heap.size:=fun p h=>hr.fits p h.1
theorem HF {f:FuncId}{ds ds':List D}{r:D}(hc:ar P f ds' r)(ha:ARs hp ds ds'){vs:Array Value}(hr:HR B hp g w)(hsz:vs.size=ds.length)(cY:∀(j:Nat) (d:D) (u:Value),ds[j]? =some d→vs[j]? =some u→aF hp g w d u):
  Calls P f vs w fun e w'=>∃v,e=.returned v∧wI w.heap.size (Fv hp g) w' r v∧Below w.heap.size w w':=by
 obtain⟨h1,h2⟩:=ha.get
 refine hc.2 w _ vs (Fv_fits hr) (by omega) fun j e u hj hu=>?_
 obtain⟨d,h3,h4⟩:=h2 j e hj
 exact h4 B g w u hr (cY j d u h3 hu)
theorem HC.frz {f:FuncId}{ds ds':List D}{r:D}(hc:ar P f ds' r)(ha:ARs hp ds ds')(hf:r.flat=true):HC P f ds hp r hp:=by
 refine⟨hc.1,fun B g w vs hr hsz cY=>(HF hc ha hr hsz cY).mono ?_⟩
 rintro e w' ⟨v,rfl,qJ,hb⟩
 have Te:l9 w' (Fv hp g) r v:=by
  unfold wI at qJ
  split at qJ
  ·cases hf
  ·exact qJ
 exact⟨v,g,rfl,hr.keep hb.size hb.block,cM.keep hp g hb.size hb.block,flat_to Te hf hp g w',hb.mono hr.base,fun _ _ h=>h⟩
def E.isLit:E→Bool
 | .lit _=>true
 |_=>false
theorem HC.adopt {f:FuncId}{ds ds':List D}{e z n:Nat}{xs:List E}(hc:ar P f ds' (.own e z n xs))(ha:ARs hp ds ds')(hn:0<n)(hx:xs.all E.isLit=true):HC P f ds hp (.gw hp.next z n) (hp.var (dC xs)):=by
 refine⟨hc.1,fun B g w vs hr hsz cY=>(HF hc ha hr hsz cY).mono ?_⟩
 rintro en w' ⟨v,rfl,⟨hz,⟨us,ho⟩,qJ⟩,hb⟩
 rcases ho.2 with⟨rfl,rfl⟩|⟨b,cap,cur,rfl,hB,hh,qU,oY,pw,htk⟩
 ·omega
 have Ce:xs.length=n*z:=by cases qJ with|sl _ _ _ _ _ _ hl=>exact hl
 have O1:=ho.1
 have Ts:n*z≤cap*z:=cz _ qU
 have mo:=cM.addVar hp g (dC xs) hb.size hb.block hB
 have JU:(g.var hp.next b).μ hp.next=b:=ah rfl
 have cells:∀(i:Nat) (u:Value),cur[i]? =some u→∀x,xs[i]? =some x→∃y,x=.lit y∧u=y∧y.oneCell'=true:=fun i u hu x hxi=>by
  have hlit:x.isLit=true:=a7.1 hx x (eg hxi)
  cases qJ with
  |sl _ _ _ _ _ us2 _ _ _ _ hA EP M4=>
   obtain⟨h5,_⟩:=EP _ rfl i x hxi
   have h6:w'.cell? ((⟨b,0,none⟩:Addr).add i)=cur[i]? :=by rw[Addr.add_lit];simp[World.cell?,hh]
   rw[h6,hu] at h5
   injection h5 with h5
   have h7:=M4 i x hxi
   rw[←h5] at h7
   cases x with
   |lit y=>cases h7 with|lit _ ho=>exact⟨_,rfl,rfl,ho⟩
   |_=>cases hlit
 refine⟨_,g.var hp.next b,rfl,hr.addVar (dC xs) hb.size hb.block hB cur e hh (by rw[eH,Ce,pw];exact Ts) (fun i u hu=>⟨fun hi=>?_,fun d hd=>?_⟩),mo,?_,hb.mono hr.base,fun p _ h=>.inl h⟩
 ·rw[eH] at hi
  obtain⟨y,_,rfl,h⟩:=cells i u hu xs[i] (cP hi)
  exact h
 ·unfold dC at hd
  rw[dW] at hd
  obtain⟨x,Hn,rfl⟩:=yY.1 hd
  obtain⟨y,rfl,rfl,h⟩:=cells i u hu x Hn
  exact .e _ _ (.lit _ h)
 ·have:=aF.gw (hp:=hp.var (dC xs)) (g:=g.var hp.next b) (w:=w') hp.next z n cap (ez _) qU oY ⟨cur,e,(0,0),by rw[JU];exact hh,by omega⟩
  rwa[JU] at this
end
end
section
section
variable {P:Program} {tb:TypeId→Option TyE} {md:Md} {hp hp':Hp} {d:D} {dst:Option Tmp} {ty:TypeId} {pos:String} {af:Array Edge} {gd:Option (Nat×Bool)} {ev:Operand→D}
theorem opHC {x:Operand}{f:FuncId}{aS:List Operand}{ts:Array TypeId}{ds:List D}(AQ:ev x=.e (.lit (.func (.func f) #[] #[])))(hc:HC P f ds hp d hp')(hd:aS.map ev=ds):rK P ⟨dst,.call ⟨.value x,aS.toArray,ts⟩,ty,pos,af,gd⟩ ev hp d hp':=by
 intro B g w a Kn Q hr hx xY
 subst hd
 obtain⟨⟨fn,hf,hn,C3⟩,AS⟩:=hc
 have hv:=hx x (by simp[Op.operands,Call.operands])
 rw[AQ] at hv
 have hv:=hv.lit
 have t8:=AS B g w (aS.map a.eval).toArray hr (by simp) (fun j d u hd hu=>by
  rw[dW] at hd
  obtain⟨y,hy,rfl⟩:=yY.1 hd
  have wi:(aS.map a.eval)[j]? =some u:=by simpa using hu
  rw[dW,hy] at wi
  injection wi with wi
  subst wi
  exact hx y (cX (by simpa using eg hy)))
 refine EU (R:=fun v w'=>∃g',HR B hp' g' w'∧cM hp g w hp' g' w'∧aF hp' g' w' d v∧Below B w w'∧∀p:Addr,p.block<B→g.F p→g'.F p) ?_ (t8.mono ?_) ?_
 ·have hn' : fn.name ≠ "runtime.NumGoroutine" := by simpa using hn
  have pC:¬fn.body=none:=fun e=>by rw[e] at C3;cases C3
  have hcf:(callFunc f (aS.map a.eval).toArray).run P w=.ok (.enter f (aS.map a.eval).toArray) w:=by
   simp[callFunc,hf,hn',pC]
  rw[←hcf]
  simp[execOp,resolve,invoke,Deferred.ofValue,hv]
 ·rintro e w' ⟨v,g',rfl,h1⟩
  exact⟨v,rfl,g',h1⟩
 ·rintro v w' ⟨g',h1,h2,h3,h4,h5⟩
  exact xY v g' w' h1 h2 h3 h4 h5
theorem opHF {x:Operand}{f:FuncId}{ks:List Nat}{aS:List Operand}{ts:Array TypeId}{ds:List D}(AQ:ev x=.fn f ks)(hc:HC P f ds hp d hp')(hd:aS.map ev++ks.map (fun k=>D.pt k 0)=ds):rK P ⟨dst,.call ⟨.value x,aS.toArray,ts⟩,ty,pos,af,gd⟩ ev hp d hp':=by
 intro B g w a Kn Q hr hx xY
 subst hd
 obtain⟨⟨fn,hf,hn,C3⟩,AS⟩:=hc
 have hv:=hx x (by simp[Op.operands,Call.operands])
 rw[AQ] at hv
 generalize hu0:a.eval x=u0 at hv
 cases hv with
 |fn _ _ hks=>
 have t8:=AS B g w (aS.map a.eval++ks.map fun k=>Value.pointer (some ⟨g.μ k,0,none⟩)).toArray hr (by simp) (fun j d u hd hu=>by
  have wi:(aS.map a.eval++ks.map fun k=>Value.pointer (some ⟨g.μ k,0,none⟩))[j]? =some u:=by simpa using hu
  rcases d9 j aS.length with hj|hj
  ·rw[za (by simpa using hj),dW] at hd wi
   obtain⟨y,hy,rfl⟩:=yY.1 hd
   rw[hy] at wi
   injection wi with wi
   subst wi
   exact hx y (cX (by simpa using eg hy))
  ·rw[qi (by simpa using hj),dW] at hd wi
   obtain⟨k,hk,rfl⟩:=yY.1 hd
   simp only[bg] at hk wi
   rw[hk] at wi
   injection wi with wi
   subst wi
   exact .pt k 0 (hks k (eg hk)))
 refine EU (R:=fun v w'=>∃g',HR B hp' g' w'∧cM hp g w hp' g' w'∧aF hp' g' w' d v∧Below B w w'∧∀p:Addr,p.block<B→g.F p→g'.F p) ?_ (t8.mono ?_) ?_
 ·have hn' : fn.name ≠ "runtime.NumGoroutine" := by simpa using hn
  have pC:¬fn.body=none:=fun e=>by rw[e] at C3;cases C3
  have hcf:(callFunc f (aS.map a.eval++ks.map fun k=>Value.pointer (some ⟨g.μ k,0,none⟩)).toArray).run P w=.ok (.enter f (aS.map a.eval++ks.map fun k=>Value.pointer (some ⟨g.μ k,0,none⟩)).toArray) w:=by
   simp[callFunc,hf,hn',pC]
  have wm:(aS.map a.eval++ks.map fun k=>Value.pointer (some ⟨g.μ k,0,none⟩)).toArray=aS.toArray.map a.eval++(ks.map fun k=>Value.pointer (some ⟨g.μ k,0,none⟩)).toArray:=by apply pg.1;simp
  rw[←hcf,wm]
  simp[execOp,resolve,invoke,Deferred.ofValue,hu0]
 ·rintro e w' ⟨v,g',rfl,h1⟩
  exact⟨v,rfl,g',h1⟩
 ·rintro v w' ⟨g',h1,h2,h3,h4,h5⟩
  exact xY v g' w' h1 h2 h3 h4 h5
theorem sndOf {c:Call}{x:Operand}(EP:c.callee=.value x)(h:rK P ⟨dst,.call c,ty,pos,af,gd⟩ ev hp d hp')(hfr:hvB tb c=true∨Fr hp hp')(hn:md.nc tb (.call c)=true):nf P tb md ⟨dst,.call c,ty,pos,af,gd⟩ ev hp d hp':=by
 refine⟨h,fun hq=>?_,fun hv=>?_,fun h=>by cases h⟩
 ·exfalso
  cases md with
  |seq=>cases hq
  |any L=>
   have h1:((pV (.call c)&&!MP tb (.call c))||pd tb L (.call c))=true:=hq
   have h2:(!pd tb L (.call c))=true:=hn
   rw[CE] at h2
   rw[h2,Bool.or_false] at h1
   simp[pV,EP] at h1
 ·rcases hfr with h1|h1
  ·have h2:(hvB tb c||cpB tb c)=false:=hv
   rw[h1] at h2;cases h2
  ·exact h1
theorem sHC {x:Operand}{f:FuncId}{aS:List Operand}{ts:Array TypeId}{ds:List D}(hc:HC P f ds hp d hp')(hd:aS.map ev=ds)(hfr:hvB tb ⟨.value x,aS.toArray,ts⟩=true∨Fr hp hp')(AQ:ev x=.e (.lit (.func (.func f) #[] #[])):=by exact rfl)(hn:md.nc tb (.call ⟨.value x,aS.toArray,ts⟩)=true:=by exact rfl):
  nf P tb md ⟨dst,.call ⟨.value x,aS.toArray,ts⟩,ty,pos,af,gd⟩ ev hp d hp':=sndOf rfl (opHC AQ hc hd) hfr hn
theorem sHF {x:Operand}{f:FuncId}{ks:List Nat}{aS:List Operand}{ts:Array TypeId}{ds:List D}(hc:HC P f ds hp d hp')(hd:aS.map ev++ks.map (fun k=>D.pt k 0)=ds)(AQ:ev x=.fn f ks:=by exact rfl)(hfr:hvB tb ⟨.value x,aS.toArray,ts⟩=true:=by exact rfl)(hn:md.nc tb (.call ⟨.value x,aS.toArray,ts⟩)=true:=by exact rfl):
  nf P tb md ⟨dst,.call ⟨.value x,aS.toArray,ts⟩,ty,pos,af,gd⟩ ev hp d hp':=sndOf rfl (opHF AQ hc hd) (.inl hfr) hn
end
structure Pt(F:List D)(o:Nat)(bs:List D)(F':List D→List D):Prop where
 le:o+bs.length≤F.length
 g:(F.drop o).take bs.length=bs
 p:∀ys:List D,ys.length=bs.length→F.take o++ys++F.drop (o+bs.length)=F' ys
theorem Pt.of {F bs:List D}{o:Nat}{F':List D→List D}(A C:List D)(hA:A.length=o)(hF:F=A++bs++C)(hp:∀y,F' y=A++y++C):Pt F o bs F':=by
 subst hA hF
 refine⟨by simp only[cJ];omega,?_,fun y hy=>?_⟩
 ·rw[dh,t3,wr]
 ·rw[hp,dh A bs C,wr,←nG,t3,t3]
section
variable {P:Program} {tb:TypeId→Option TyE} {dr:Bool} {ty:TypeId} {ev:Operand→D} {hp:Hp} {k o:Nat} {F bs:List D} {F':List D→List D} {t:TypeId} {i:TyE} {x y:Operand} {d:D}
theorem Dg(L:Pt F o bs F')(hv:hp.vars.lookup k=some F)(hk:k<hp.next)(ht:tb t=some i)(hz:bs.length=i.size)(hg:i.ty.agg=true:=by exact rfl)(hx:ev x=.pt k o:=by exact rfl):AVC P tb dr (.load t x) ty ev hp (Kq (.ag bs) hp):=by
 rw[rF,hx,oX,ht,hv]
 simp only[hg]
 refine⟨hk,by rw[←hz];exact L.le,?_⟩
 rw[←hz,L.g]
 exact Kq.here _ _
theorem kO(L:Pt F o [d] F')(hv:hp.vars.lookup k=some F)(hk:k<hp.next)(ht:tb t=some i)(hg:i.ty.agg=false:=by exact rfl)(hx:ev x=.pt k o:=by exact rfl):AVC P tb dr (.load t x) ty ev hp (Kq d hp):=by
 rw[rF,hx,oX,ht,hv]
 simp only[hg]
 refine⟨hk,d,?_,Kq.here _ _⟩
 have h:=L.g
 have hle:=L.le
 have:((F.drop o).take 1)[0]? =some d:=by rw[show (1:Nat)=[d].length from rfl,h];rfl
 rw[gU,ifp_,nQ,iT] at this
 exact this
theorem HW {ys F2:List D}{hp':Hp}(L:Pt F o bs F')(hv:hp.vars.lookup k=some F)(hyc:(ev y).cells=some ys)(ht:tb t=some i)(hz:bs.length=i.size)(hl:ys.length=bs.length)(h2:F' ys=F2)(hx:ev x=.pt k o:=by exact rfl)(he:hp.set k F2=hp':=by exact rfl):AVC P tb dr (.store t x y) ty ev hp (Kq .top hp'):=by
 subst he h2
 rw[E9,hx,BG,ht,hv,hyc]
 simp only
 refine⟨by omega,by rw[←hz];exact L.le,?_⟩
 rw[hl,L.p ys hl]
 exact Kq.here _ _
end
end
def ax:Cd Nu:=⟨36,fun x=>aj.f x.1,fun x=>aj.h x.1⟩
theorem w_Add(x y:Nu):ar prog 66 [dG ax x,dG ax y] (dG ax (jw x y)):=by rw[oW];exact wW (Oh x.2 y.2)
theorem w_Mul(x y:Nu):ar prog 29 [dG ax x,dG ax y] (dG ax (lX x y)):=by rw[r9];exact wV (Og x.2 y.2)
theorem w_Sub(x y:Nu):ar prog 76 [dG ax x,dG ax y] (dG ax (xa x y)):=by rw[KM];exact Kh (G_osub x.2 y.2)
theorem RR(x y:Nu):ar prog 153 [dG ax x,dG ax y] (dG ax (oJ x y)):=by rw[Et];exact Kj (G_odiv x.2 y.2)
theorem Kk(x:Nu):ar prog 42 [dG ax x] (dG ax (eU x)):=by rw[xb];exact th (Of x.2)
theorem Gz(n:Int)(h:-2≤n∧n≤2):ar prog 28 [dI .i64 n] (dG ax (nOf n)):=D3 (G_rOf (by omega) (by omega))
theorem zo(x:Nu):ar prog 30 [dG ax x] (dI .i64 (bE x)):=by rw[BU];exact oO (VY x.2)
theorem w_Good(x:Nu):ar prog 92 [dG ax x] (dB (au x)):=by rw[eK];exact bQ (iV x.2)
theorem w_Cmp(x y:Nu):ar prog 32 [dG ax x,dG ax y] (dI .i64 (qH x y)):=by rw[Eu];exact mr (VZ x.2 y.2)
structure z8 where
 vk:am
 vc:List am
 deriving Inhabited,DecidableEq
def tX:Cd z8:=⟨37,fun x=>aj.f x.vk++[slE aj x.vc],fun x=>by simp[aj.h,show aj.sz=36 from rfl]⟩
theorem MN(x:z8):b9 (tX.f x) aj 0 x.vk (fun y=>tX.f (⟨y,x.vc⟩:z8)):=
 b9.of ([]) (((cL aj)).f x.vc) (by first|rfl|(simp[(cL aj).h,aj.h];first|rfl|done)) (by first|rfl|simp[tX,cI,cB,cS,cL,dh]) (fun y=>by first|rfl|simp[tX,cI,cB,cS,cL,dh])
theorem MO(x:z8):b9 (tX.f x) (cL aj) 36 x.vc (fun y=>tX.f (⟨x.vk,y⟩:z8)):=
 b9.of ((aj).f x.vk) ([]) (by first|rfl|(simp[(cL aj).h,aj.h];first|rfl|done)) (by first|rfl|simp[tX,cI,cB,cS,cL,dh]) (fun y=>by first|rfl|simp[tX,cI,cB,cS,cL,dh])
def iL(aK:am):Option Bool:=bnd (aS aK) fun x1=>some (!x1)
theorem zj {aK:am}{r:Bool}(h:iL aK=some r):ar prog 120 [dG aj aK] (dB r):=by
 refine bk (rs:=[.tmp 2]) (fun cx hx h0=>?_) func120
 unfold iL at h
 refine ra hx ?_
 refine rs hx fun K hK=>?_
 refine mbr ?_
 refine scb h bQ fun x1 h=>?_
 refine nbr hK ?_
 exact AW.ret (rtv h)
def aJ(wz:List am):Int→Option (Int⊕(Int⊕Unit)):=fun aD=>cnd (decide (aD<((wz).length:Int))) (gd (0≤aD∧aD<((wz).length:Int)) (bnd (iL ((wz)[(aD).toNat]!)) fun x4=>cnd x4 (some (.inr (.inl aD))) (some (.inl (i64.wrap (aD+(1:Int))))))) (some (.inr (.inr ())))
def aZ(wz:List am):Option Int:=bnd (bt (aJ wz) (0:Int)) fun y7=>match y7 with| .inl r=>some r| .inr ()=>some (-1:Int)
theorem iD {wz:List am}{r:Int}(h:aZ wz=some r):ar prog 106 [dL aj wz,.e (.lit (.func (.func 120) #[] #[]))] (dI .i64 r):=by
 refine bk (rs:=[.tmp 4]) (fun cx hx h0=>?_) func106
 unfold aZ at h
 refine ra hx ?_
 refine AW.seq (ra hx ?_)
 refine AW.block ?_
 obtain⟨y,hy,h⟩:=ae h
 refine lp (S:=Int) (X:=Int⊕Unit) (fun aD=>[(0,dL aj wz),(1,.e (.lit (.func (.func 120) #[] #[]))),(7,dI .i64 ((wz).length:Int)),(8,dI .i64 aD)]) (fun aD=>⟨[],[],0⟩) (PS (PR [.tmp 4] fun r=>dI .i64 r) (PE cx (.exit 0) (fun ()=>[]) fun ()=>⟨[],[],0⟩)) hy ?_ ?_ ?_
 exact wk0 h0 []
 clear hy h
 rintro aD y h
 dsimp only[aJ] at h
 refine ra hx ?_
 refine AW.seq (cdh h rfl (fun fT h=>?_) (fun fT h=>?_))
 refine AW.skip (AW.seq (AW.block (ra hx ?_)))
 refine rs hx fun K hK=>?_
 iterate 3 refine sa ?_
 obtain⟨rA,h⟩:=aA h
 have yv:(aD).toNat<(wz).length:=by omega
 refine sbr ?_
 refine s1 (d:=dG aj ((wz)[(aD).toNat]!)) (i8 (c:=aj) (l:=wz) (n:=(aD).toNat) (o:=0) aQ yv (eS _ _ rfl)) ?_
 refine scb h zj fun x4 h=>?_
 refine nl hK ?_
 refine cdh h rfl (fun qV h=>?_) (fun qV h=>?_)
 refine ra hx ?_
 refine AW.ret ?_
 cases h
 refine PS.r ⟨by nofun,PS.l (PR.i ?_)⟩
 exact rv1
 refine AW.skip (rb hx ?_)
 exact pel h h0 []
 exact AW.exit (peq h h0 [])
 rcases y with r|⟨⟩
 rintro ex tm' hp' ⟨rfl,hw⟩
 cases h
 exact hw
 refine lwr ?_
 refine ra hx ?_
 exact AW.ret (rtv h)
def aW(wz:List am):Option Bool:=bnd (aZ wz) fun x1=>some (decide ((0:Int)≤x1))
theorem gX {wz:List am}{r:Bool}(h:aW wz=some r):ar prog 119 [dL aj wz,.e (.lit (.func (.func 120) #[] #[]))] (dB r):=by
 refine bk (rs:=[.tmp 4]) (fun cx hx h0=>?_) func119
 unfold aW at h
 refine ra hx ?_
 refine rs hx fun K hK=>?_
 refine mbr ?_
 refine scb h iD fun x1 h=>?_
 refine nbr hK ?_
 exact AW.ret (rtv h)
def c6(eE:List am):Option Bool:=bnd (aW eE) fun x1=>some (!x1)
theorem fY {eE:List am}{r:Bool}(h:c6 eE=some r):ar prog 62 [dL aj eE] (dB r):=by
 refine bk (rs:=[.tmp 2]) (fun cx hx h0=>?_) func62
 unfold c6 at h
 refine ra hx ?_
 refine rs hx fun K hK=>?_
 refine sa ?_
 refine scb h gX fun x1 h=>?_
 refine nbr hK ?_
 exact AW.ret (rtv h)
def jX(eE:z8):Option Bool:=bnd (S:=Bool) (bnd (aS eE.vk) fun x1=>cnd x1 (bnd (c6 eE.vc) fun x4=>some (x4)) (some (false))) fun bn=>some bn
theorem yp {eE:z8}{r:Bool}(h:jX eE=some r):ar prog 109 [dG tX eE] (dB r):=by
 refine bk (rs:=[.tmp 2]) (fun cx hx h0=>?_) func109
 unfold jX at h
 refine ra hx ?_
 refine AW.seq ?_
 obtain⟨bn,hy,h⟩:=ae h
 refine jn ((PE cx .normal (fun bn=>[(2,dB bn)]) fun bn=>⟨[],[],0⟩) bn) ?_ ?_
 replace h:=hy
 refine rq hx fun K hK=>?_
 refine sa ?_
 refine s1 (Bm (MN eE) aQ) ?_
 refine scb h bQ fun x1 h=>?_
 refine sa ?_
 rcases aE h with⟨fI,h⟩|⟨fI,h⟩
 refine ga fI ?_
 refine g1 fI (xI (MO eE) cg) ?_
 refine gcb h fY fun x4 h=>?_
 refine nbr hK ?_
 exact pe1 h h0 []
 refine nbr hK ?_
 exact pe1 h h0 []
 refine lw0 ?_
 exact AW.ret (rtv h)
def nv(x:Nu):am:=x.1
theorem Rn(x:Nu):iL (nv x)=some (!au x):=by
 unfold iL nv
 rw[iV x.2,eK]
 rfl
theorem G_idx {c:List Nu}(h:c.length≤1000000):∃y,aZ (c.map nv)=some y∧(0≤y↔c.all au=false):=by
 have key:=wh (b:=aJ (c.map nv)) (fun i:Int=>0≤i∧i≤c.length∧∀j:Nat,j<i.toNat→∀x,c[j]? =some x→au x=true) (fun i=>(c.length - i).toNat)
  (fun y=>match y with| .inl r=>0≤r∧c.all au=false| .inr _=>c.all au=true) (fun i ⟨h1,h2,h3⟩=>?_) 0 ⟨by omega,by omega,fun j hj=>absurd hj (by simp)⟩
 ·obtain⟨y,hy,hp⟩:=key
  unfold aZ
  rw[hy]
  cases y with
  |inl r=>exact⟨r,rfl,fun _=>hp.2,fun _=>hp.1⟩
  |inr u=>exact⟨-1,rfl,fun h=>absurd h (by omega),fun h=>by rw[hp] at h;cases h⟩
 ·have hlen:((c.map nv).length:Int)=c.length:=by rw[bg]
  by_cases hi:i<c.length
  ·have GP:i.toNat<c.length:=by omega
   have fq:(c.map nv)[i.toNat]! =nv c[i.toNat]:=by rw[bT _ _ (by rw[bg];exact GP),Fy]
   have hb:aJ (c.map nv) i=cnd (!au c[i.toNat]) (some (.inr (.inl i))) (some (.inl (i64.wrap (i+(1:Int))))):=by
    unfold aJ
    rw[hlen,cH _ _ hi,aC,fq,Rn]
    rfl
   cases hg:au c[i.toNat] with
   |false=>
    refine .inr ⟨.inl i,by rw[hb,hg];rfl,h1,?_⟩
    rw[NR]
    exact⟨c[i.toNat],n7 _,by rw[hg];simp⟩
   |true=>
    refine .inl ⟨i+1,by rw[hb,hg,eh (by omega) (by omega)];rfl,⟨by omega,by omega,fun j hj x hx=>?_⟩,by omega⟩
    rcases d9 j i.toNat with h4|h4
    ·exact h3 j h4 x hx
    ·obtain rfl:j=i.toNat:=by omega
     rw[cP GP] at hx
     injection hx with hx
     rw[←hx];exact hg
  ·refine .inr ⟨.inr (),?_,a7.2 fun x hx=>?_⟩
   ·unfold aJ
    rw[hlen,cr _ _ hi]
   ·obtain⟨j,hj⟩:=Bc hx
    exact h3 j (by have:=(fW.1 hj).1;omega) x hj
theorem w_good(k:Nu)(c:List Nu)(h:c.length≤1000000):ar prog 109 [.ag (dC (ax.f k)++[.e (slE ax c)])] (dB (au k&&c.all au)):=by
 obtain⟨y,hy,ED⟩:=G_idx h
 have O8:jX ⟨k.1,c.map nv⟩=some (au k&&c.all au):=by
  unfold jX c6 aW
  dsimp only
  rw[iV k.2,hy]
  show _=some (au k&&c.all au)
  have e:(cC k.1).isSome=au k:=(eK k).symm
  rw[e]
  cases hk:au k with
  |false=>rfl
  |true=>
   by_cases h0:0≤y
   ·have:=ED.1 h0
    rw[this]
    simp[bnd,cnd,h0]
   ·have:c.all au=true:=by
     cases hc:c.all au with
     |true=>rfl
     |false=>exact absurd (ED.2 hc) h0
    rw[this]
    simp[bnd,cnd,h0]
 have hw:=yp O8
 have hd:dG tX ⟨k.1,c.map nv⟩=.ag (dC (ax.f k)++[.e (slE ax c)]):=by
  show D.ag ((aj.f k.1++[slE aj (c.map nv)]).map D.e)=_
  have:slE aj (c.map nv)=slE ax c:=by
   unfold slE
   rw[bg,List.flatMap_map]
   rfl
  rw[this,iZ]
  rfl
 rw[hd] at hw
 exact hw
def yx(q:Nu)(xc:List Nu)(but:Int):Nat→List Nu→List Nu
 |0,l=>l
 |t+1,l=>if (t:Int)=but then yx q xc but t l else (yx q xc but t l).set t (jw (yx q xc but t l)[t]! (lX q xc[t]!))
theorem qS(q:Nu)(xc:List Nu)(but:Int):∀(t:Nat) (l:List Nu),(yx q xc but t l).length=l.length
 |0,l=>rfl
 |t+1,l=>by
  unfold yx
  split
  ·exact qS q xc but t l
  ·rw[c7];exact qS q xc but t l
def xG(q xk lk:Nu):Nu:=if bE q=0 then lk else jw lk (lX q xk)
def uI(q:Nu)(xc:List Nu)(but:Int)(lc:List Nu):List Nu:=if bE q=0 then lc else yx q xc but lc.length lc
structure Row where
 k:Nu
 c:List Nu
 b:Int
instance:Inhabited Row:=⟨⟨default,[],0⟩⟩
structure Dic where
 rows:List Row
 gk:Nu
 gc:List Nu
 n:Int
 piv:Int
 most:Int
def gl(k:Nu)(c:List Nu):Bool:=au k&&c.all au
def lkO(d:Dic):Option Nat→Nu|none=>d.gk|some j=>d.rows[j]!.k
def lcO(d:Dic):Option Nat→List Nu|none=>d.gc|some j=>d.rows[j]!.c
def MB(d:Dic)(o:Option Nat)(k:Nu)(c:List Nu):Dic:=match o with
 |none=>⟨d.rows,k,c,d.n,d.piv,d.most⟩
 |some j=>⟨d.rows.set j ⟨k,c,d.rows[j]!.b⟩,d.gk,d.gc,d.n,d.piv,d.most⟩
def R3(r1:Row)(s:Nat)(d:Dic)(o:Option Nat):Dic:=MB d o (xG (lcO d o)[s]! r1.k (lkO d o)) (uI (lcO d o)[s]! r1.c s ((lcO d o).set s (nOf 0)))
def w6(r1:Row)(s:Nat)(p:Dic×Bool)(o:Option Nat):Dic×Bool:=(R3 r1 s p.1 o,p.2&&gl (xG (lcO p.1 o)[s]! r1.k (lkO p.1 o)) (uI (lcO p.1 o)[s]! r1.c s ((lcO p.1 o).set s (nOf 0))))
theorem uH(q:Nu)(xc:List Nu)(but:Int)(lc:List Nu):(uI q xc but lc).length=lc.length:=by
 unfold uI
 split
 ·rfl
 ·exact qS _ _ _ _ _
def yr(at' i:Nat):List (Option Nat):=none::((List.range i).filter fun j=>decide (j≠at')).map some
theorem Sx {at' i:Nat}{o:Option Nat}(h:o∈yr at' i):o≠some at'∧∀j,o=some j→j<i:=by
 rcases kY.1 h with rfl|h
 ·exact⟨fun e=>(by cases e),fun j e=>(by cases e)⟩
 ·obtain⟨j,hj,rfl⟩:=uF.1 h
  obtain⟨h1,h2⟩:=List.mem_filter.1 hj
  exact⟨fun e=>by injection e with e;simp[e] at h2,fun j' e=>by injection e with e;rw[←e];exact iq.1 h1⟩
def pO(r1:Row)(s at' i:Nat)(p:Dic×Bool)(u:Nat):Dic×Bool:=((yr at' i).take u).foldl (w6 r1 s) p
def tp(p:Nu):Nat→List Nu→List Nu
 |0,l=>l
 |t+1,l=>(tp p t l).set t (oJ (eU (tp p t l)[t]!) p)
theorem BC(p:Nu):∀(t:Nat) (l:List Nu),(tp p t l).length=l.length
 |0,_=>rfl
 |t+1,l=>by unfold tp;rw[c7];exact BC p t l
def bc(r:Row)(s:Nat):Row:=⟨oJ (eU r.k) r.c[s]!,((tp r.c[s]! r.c.length r.c).set s (nOf 0)).set r.b.toNat (oJ (nOf 1) r.c[s]!),s⟩
def dX(d:Dic)(at' s:Nat):Int×Dic:=
 if d.most≤d.piv then (220,d) else
 let r1:=bc d.rows[at']! s
 let p:=pO r1 s at' d.rows.length (⟨d.rows.set at' r1,d.gk,d.gc,d.n,d.piv+1,d.most⟩,gl r1.k r1.c) (yr at' d.rows.length).length
 (if p.2 then 0 else 30,p.1)
def dJ(l:List Row)(v:Int):Int:=match l.findIdx? fun r=>decide (r.b=v) with
 |some i=>i
 |none=>-1
theorem Q6 {l:List Row}{v:Int}{i:Nat}{r:Row}(hr:l[i]? =some r)(h:r.b=v)(mR:∀(j:Nat) (r':Row),j<i→l[j]? =some r'→r'.b≠v):dJ l v=i:=by
 obtain⟨h1,h2⟩:=fW.1 hr
 have:l.findIdx? (fun r=>decide (r.b=v))=some i:=by
  rw[ph]
  exact⟨h1,by rw[h2];exact aB h,fun j hj=>by have:=mR j l[j] hj (cP (by omega));simpa using this⟩
 unfold dJ;rw[this]
theorem Nn {l:List Row}{v:Int}(mR:∀(j:Nat) (r':Row),l[j]? =some r'→r'.b≠v):dJ l v=-1:=by
 have:l.findIdx? (fun r=>decide (r.b=v))=none:=by
  rw[vH]
  intro r hr
  obtain⟨j,hj⟩:=Bc hr
  exact bm (mR j r hj)
 unfold dJ;rw[this]
def bY(d:Dic)(nn:Nat):List Nu:=(d.gc.drop (nn+1)).map eU
def si(l:List Row)(s:Nat)(p:Int×Nu)(i:Nat):Option (Int×Nu):=
 let r:=l[i]!
 if 0≤bE r.c[s]! then some p else
 let q:=oJ r.k (eU r.c[s]!)
 if au q=false then none else
 if p.1<0∨qH q p.2<0∨(qH q p.2=0∧r.b<l[p.1.toNat]!.b) then some ((i:Int),q) else some p
def jy(l:List Row)(s:Nat)(z:Nu):Nat→Option (Int×Nu)
 |0=>some (-1,z)
 |i+1=>match jy l s z i with
  |none=>none
  |some p=>si l s p i
section
theorem jb(a:Nu):(dC (ax.f a)).length=36:=by rw[eH,ax.h];rfl
section
variable {dr:Bool} {ty:TypeId} {ev:Operand→D} {hp hp':Hp} {k o:Nat} {F F2:List D} {F':List D→List D} {x y:Operand} {a b:Nu}
theorem ldN(L:Pt F o (dC (ax.f a)) F')(hv:hp.vars.lookup k=some F)(hk:k<hp.next)(hx:ev x=.pt k o:=by exact rfl):AVC prog tbl dr (.load 43 x) ty ev hp (Kq (dG ax a) hp):=Dg L hv hk aQ (jb a) rfl hx
theorem stN(L:Pt F o (dC (ax.f a)) F')(hv:hp.vars.lookup k=some F)(h2:F' (dC (ax.f b))=F2)(hx:ev x=.pt k o:=by exact rfl)(hy:ev y=dG ax b:=by exact rfl)(he:hp.set k F2=hp':=by exact rfl):AVC prog tbl dr (.store 43 x y) ty ev hp (Kq .top hp'):=
 HW (ys:=dC (ax.f b)) L hv (by rw[hy];rfl) aQ (jb a) (by rw[jb,jb]) h2 hx he
theorem Pt.idN(a:Nu):Pt (dC (ax.f a)) 0 (dC (ax.f a)) id:=Pt.of [] [] rfl (by simp) (fun y=>by simp)
end
section
variable {vs vs2 pR:List (Nat×List D)} {lv:List (Nat×Nat×Nat×TypeId)} {N n2 k:Nat}
theorem cw.lt(hok:cw ⟨vs,lv,N⟩){ds:List D}(h:vs.lookup k=some ds):k<N:=(hok.var k ds h).1
theorem cw.ne(hok:cw ⟨vs,lv,N⟩){ds:List D}(h:vs.lookup k=some ds){m:Nat}(hm:N≤m):k≠m:=by have:=hok.lt h;omega
theorem al {j m:Nat}{b:List D}{l:List (Nat×List D)}{r:Option (List D)}(hj:j≠m)(h:l.lookup j=r):((m,b)::l).lookup j=r:=(ao hj).trans h
theorem Pt.ids {F bs:List D}{o:Nat}{F':List D→List D}(L:Pt F o bs F'){ys:List D}(hl:ys.length=bs.length)(hF:F.all (D.idsC N)=true)(hy:ys.all (D.idsC N)=true):(F' ys).all (D.idsC N)=true:=by
 rw[←L.p ys hl,mi,mi,bK,bK]
 have hF':=a7.1 hF
 exact⟨⟨a7.2 fun d hd=>hF' d (PJ hd),hy⟩,a7.2 fun d hd=>hF' d (U8 hd)⟩
theorem eG(l:List E):(dC l).all (D.idsC N)=true:=Ja (fun _=>rfl) l
theorem leave {x:Cx}{tm tm':List (Nat×D)}{rs:List ResultVar}{r:D}(h0:x.hp0=⟨vs,lv,N⟩)(hok:cw ⟨vs,lv,N⟩)(hN:N≤n2)(ht:∀p∈tm',(∃d,tm.lookup p.1=some d∧(p.2=d∨p.2=d.ex))∧p.2.idsB N=true)
  (hv:∀j ds,pR.lookup j=some ds→(vs2.lookup j=some ds∧j<N∧ds.all (D.idsC N)=true)) (hr:t5 tbl rs tm' ⟨pR,lv,N⟩ r):∃tm',Wk x tm ⟨vs2,lv,n2⟩ tm' ⟨pR,lv,N⟩∧t5 tbl rs tm' ⟨pR,lv,N⟩ r:=by
 refine⟨tm',Wk.look (by rw[h0];exact az _) hN ht (fun j ds h=>?_) (fun id y h=>⟨hok.tok id y h,h⟩),hr⟩
 obtain⟨h1,h2,h3⟩:=hv j ds h
 exact⟨h2,ds,h1,rM _,h3⟩
theorem SP {x:Cx}{tm:List (Nat×D)}{F F2:List D}(h0:x.hp0=⟨vs,lv,N⟩)(hok:cw ⟨vs,lv,N⟩)(hN:N≤n2)(hk:vs.lookup k=some F)(hF:F2.all (D.idsC N)=true)(S5:vs2.lookup k=some F2)(hv:∀j ds,j≠k→vs.lookup j=some ds→vs2.lookup j=some ds):
  ∃tm',Wk x tm ⟨vs2,lv,n2⟩ tm' ⟨(k,F2)::vs,lv,N⟩∧t5 tbl [] tm' ⟨(k,F2)::vs,lv,N⟩ (.tu []):=by
 refine leave (tm':=[]) h0 hok hN (fun p hp=>absurd hp (rj)) (fun j ds h=>?_) rfl
 by_cases hj:j=k
 ·subst hj
  have:some F2=some ds:=by rw[←h];exact aa.symm
  injection this with this
  subst this
  exact⟨S5,hok.lt hk,hF⟩
 ·have h1:vs.lookup j=some ds:=by rw[←h];exact (ao hj).symm
  exact⟨hv j ds hj h1,hok.lt h1,(hok.var j ds h1).2⟩
theorem h_sum {o kq:Nat}{F:List D}{F':List D→List D}{q a y:Nu}(hk:vs.lookup k=some F)(hN:k<N)(L:Pt F o (dC (ax.f a)) F')(hq:vs.lookup kq=some (dC (ax.f q)))(hqN:kq<N):
  HC prog 156 [.pt k o,dG ax y,.pt kq 0] ⟨vs,lv,N⟩ (.tu []) ⟨(k,F' (dC (ax.f (jw a (lX q y)))))::vs,lv,N⟩:=by
 refine HC.of (rs:=[]) tok func156 rfl rfl (bb rfl) rfl (fun cx hx h0 hok=>?_)
 simp only[fP,Nat.reduceAdd,bw]
 refine rs hx fun K hK=>?_
 refine sa ?_
 refine nl hK ?_
 have xY:=hok.ne hk (az N)
 have hqn:=hok.ne hq (az N)
 refine rqd [29,66] hx fun K hK=>?_
 iterate 3 refine sa ?_
 refine s1 (ldN L (al xY hk) (zc hN)) ?_
 refine s1 (ldN (Pt.idN q) (al hqn hq) (zc hqN)) ?_
 refine s1 (ldN (Pt.idN y) aa (ez _)) ?_
 refine cq (w_Mul q y) ?_
 refine cq (w_Add a _) ?_
 refine sa ?_
 refine s0 (stN L (al xY hk) rfl) ?_
 refine nl hK ?_
 exact SP h0 hok (jM _) hk (L.ids (by rw[jb,jb]) (hok.var k F hk).2 (eG _)) aa fun j ds hj h=>al hj (al (hok.ne h (az N)) h)
theorem TU {o kp:Nat}{F:List D}{F':List D→List D}{p a:Nu}(hk:vs.lookup k=some F)(hN:k<N)(L:Pt F o (dC (ax.f a)) F')(hq:vs.lookup kp=some (dC (ax.f p)))(hqN:kp<N):
  HC prog 152 [.pt k o,.pt kp 0] ⟨vs,lv,N⟩ (.tu []) ⟨(k,F' (dC (ax.f (oJ (eU a) p))))::vs,lv,N⟩:=by
 refine HC.of (rs:=[]) tok func152 rfl rfl (bb rfl) rfl (fun cx hx h0 hok=>?_)
 simp only[fP,Nat.reduceAdd,bw]
 refine rqd [42,153] hx fun K hK=>?_
 iterate 3 refine sa ?_
 refine s1 (ldN L hk hN) ?_
 refine cq (Kk a) ?_
 refine s1 (ldN (Pt.idN p) hq hqN) ?_
 refine cq (RR _ p) ?_
 refine sa ?_
 refine s0 (stN L hk rfl) ?_
 refine nl hK ?_
 exact SP h0 hok (az _) hk (L.ids (by rw[jb,jb]) (hok.var k F hk).2 (eG _)) aa fun j ds hj h=>al hj h
theorem cw.cons {M:Nat}{ds:List D}(hok:cw ⟨vs,lv,N⟩)(hN:N≤M)(hk:k<M)(hd:ds.all (D.idsC M)=true):cw ⟨(k,ds)::vs,lv,M⟩:=by
 refine⟨fun j es h=>?_,fun id e h=>bM (hok.tok id e h) hN⟩
 by_cases hj:j=k
 ·subst hj
  have:some ds=some es:=by rw[←h];exact aa.symm
  injection this with this
  subst this
  exact⟨hk,hd⟩
 ·obtain⟨h1,h2⟩:=hok.var j es (by rw[←h];exact (ao hj).symm)
  exact⟨bM h1 hN,a7.2 fun d hd=>D.idsC_le hN (a7.1 h2 d hd)⟩
def bI(n:Nat)(tm tm':List (Nat×D)):Prop:=∀p∈tm',(∃d,tm.lookup p.1=some d∧(p.2=d∨p.2=d.ex))∧p.2.idsB n=true
theorem bI.nil {n:Nat}{tm:List (Nat×D)}:bI n tm []:=fun p hp=>absurd hp (rj)
theorem bI.cons {n t:Nat}{d:D}{tm tm':List (Nat×D)}(h2:bI n tm tm')(h:tm.lookup t=some d:=by exact rfl)(hi:d.idsB n=true:=by exact rfl):bI n tm ((t,d)::tm'):=fun p hp=>by
 rcases kY.1 hp with rfl|hp
 ·exact⟨⟨d,h,.inl rfl⟩,hi⟩
 ·exact h2 p hp
theorem wkS {x:Cx}{tm tm':List (Nat×D)}{n':Nat}(h0:x.hp0.next≤n')(hn:n'≤n2)(hok:cw ⟨pR,lv,n'⟩)(hv:∀j ds,pR.lookup j=some ds→vs2.lookup j=some ds)(ht:bI n' tm tm'):Wk x tm ⟨vs2,lv,n2⟩ tm' ⟨pR,lv,n'⟩:=
 Wk.look h0 hn ht (fun j ds h=>⟨(hok.var j ds h).1,ds,hv j ds h,rM _,(hok.var j ds h).2⟩) fun id y h=>⟨hok.tok id y h,h⟩
theorem xe {j:Nat}{a b:List D}{l:List (Nat×List D)}:((k,b)::(k,a)::l).lookup j=((k,b)::l).lookup j:=by
 by_cases hj:j=k
 ·subst hj;rw[aa,aa]
 ·rw[ao hj,ao hj,ao hj]
theorem cm {j a:Nat}{x ds:List D}{l:List (Nat×List D)}(h:((a,x)::l).lookup j=some ds):(j=a∧ds=x)∨(j≠a∧l.lookup j=some ds):=by
 by_cases hj:j=a
 ·subst hj
  have:some x=some ds:=by rw[←h];exact aa.symm
  injection this with this
  exact .inl ⟨rfl,this.symm⟩
 ·exact .inr ⟨hj,by rw[←h];exact (ao hj).symm⟩
theorem SN {x:Cx}{tm:List (Nat×D)}(h0:x.hp0=⟨vs,lv,N⟩)(hN:N≤n2)(hok:cw ⟨pR,lv,N⟩)(hv:∀j ds,pR.lookup j=some ds→vs2.lookup j=some ds):∃tm',Wk x tm ⟨vs2,lv,n2⟩ tm' ⟨pR,lv,N⟩∧t5 tbl [] tm' ⟨pR,lv,N⟩ (.tu []):=
 ⟨[],wkS (by rw[h0];exact az _) hN hok hv bI.nil,rfl⟩
def ba(a:Nu)(kc n:Nat):List D:=dC (ax.f a)++[.ow kc 0 36 n]
theorem bZ(a:Nu)(kc n:Nat):(ba a kc n).length=37:=by unfold ba;rw[cJ,jb];rfl
theorem jc {M:Nat}{a:Nu}{kc n:Nat}(h:kc<M):(ba a kc n).all (D.idsC M)=true:=by
 unfold ba;rw[mi,eG];simp[D.idsC,h]
structure pN(F:List D)(o:Nat)(a:Nu)(kc n:Nat)(A C:List D):Prop where
 len:A.length=o
 eq:F=A++ba a kc n++C
section
variable {F A C:List D} {o kc n:Nat} {a:Nu}
theorem pN.pk(h:pN F o a kc n A C):Pt F o (dC (ax.f a)) (fun ys=>A++(ys++[.ow kc 0 36 n])++C):=
 Pt.of A ([.ow kc 0 36 n]++C) h.len (by rw[h.eq];unfold ba;simp only[dh]) fun y=>by simp only[dh]
theorem pN.pc(h:pN F o a kc n A C):Pt F (o+36) [.ow kc 0 36 n] (fun ys=>A++(dC (ax.f a)++ys)++C):=
 Pt.of (A++dC (ax.f a)) C (by rw[cJ,h.len,jb]) (by rw[h.eq];unfold ba;simp only[dh]) fun y=>by simp only[dh]
theorem pN.pa(h:pN F o a kc n A C):Pt F o (ba a kc n) (fun ys=>A++ys++C):=Pt.of A C h.len h.eq fun y=>rfl
theorem pN.self(a:Nu)(kc n:Nat):pN (ba a kc n) 0 a kc n [] []:=⟨rfl,by simp⟩
theorem pN.new(h:pN F o a kc n A C)(b:Nu):pN (A++ba b kc n++C) o b kc n A C:=⟨h.len,rfl⟩
end
theorem Pt.elN(l:List Nu)(i:Nat)(h:i<l.length):Pt (dC ((cW ax).f l)) (0+i*36) (dC (ax.f l[i]!)) (fun ys=>(dC ((cW ax).f l)).take (0+i*36)++ys++(dC ((cW ax).f l)).drop (0+i*36+36)):=by
 have L:=b9.seqW ax l i h
 have e:ax.sz=36:=rfl
 rw[e] at L
 refine⟨?_,?_,fun ys hy=>by rw[jb]⟩
 ·have:=L.le
  rw[jb,eH];exact this
 ·have:=L.g
  rw[jb]
  unfold dC
  rw[←xD,←vP]
  exact congrArg _ this
theorem Pt.elN_set(l:List Nu)(i:Nat)(h:i<l.length)(b:Nu):(dC ((cW ax).f l)).take (0+i*36)++dC (ax.f b)++(dC ((cW ax).f l)).drop (0+i*36+36)=dC ((cW ax).f (l.set i b)):=by
 have L:=b9.seqW ax l i h
 have e:ax.sz=36:=rfl
 rw[e] at L
 have:=L.p b
 rw[e] at this
 unfold dC
 rw[←vP,←xD,←iZ,←iZ]
 exact congrArg _ this
end
end
section
theorem b7 {t:Nat}(h:t<9223372036854775807:=by omega):i64.wrap ((t:Int)+1)=((t+1:Nat):Int):=by
 rw[eh (by omega) (by omega)];omega
section
variable {vs:List (Nat×List D)} {lv:List (Nat×Nat×Nat×TypeId)} {N kl ol kc kx n:Nat} {F A C:List D} {lk xk q:Nu} {lc xc:List Nu} {but:Int}
theorem h_add(hl:vs.lookup kl=some F)(L:pN F ol lk kc n A C)(hc:vs.lookup kc=some (dC ((cW ax).f lc)))(hlc:lc.length=n)(xX:vs.lookup kx=some (dC ((cW ax).f xc)))(hxc:xc.length=n)(h1:kl≠kc)(h2:kx≠kc)(h3:kx≠kl)(hn:n≤1000000):
  HC prog 108 [.pt kl ol,dG ax q,.ag (ba xk kx n),dI .i64 but] ⟨vs,lv,N⟩ (.tu []) ⟨(kc,dC ((cW ax).f (uI q xc but lc)))::(kl,A++ba (xG q xk lk) kc n++C)::vs,lv,N⟩:=by
 refine HC.of (rs:=[]) tok func108 rfl rfl (bb rfl) rfl (fun cx hx h0 hok=>?_)
 simp only[fP,Nat.reduceAdd,bw]
 refine rs hx fun K hK=>?_
 refine sa ?_
 refine s1 (fQ (cs:=ba xk kx n)) ?_
 refine nl hK ?_
 have hlN:=hok.lt hl
 have hcN:=hok.lt hc
 have hxN:=hok.lt xX
 have hFi:(A++ba lk kc n++C).all (D.idsC N)=true:=by rw[←L.eq];exact (hok.var kl F hl).2
 have Do:∀(lk':Nu) (lc':List Nu) (M:Nat),N≤M→cw ⟨(kc,dC ((cW ax).f lc'))::(kl,A++ba lk' kc n++C)::vs,lv,M⟩:=fun lk' lc' M hM=>by
  refine (cw.cons (N:=M) (hok.cons hM (bM hlN hM) ?_) (az _) (bM hcN hM) (eG _))
  rw[mi,mi,bK,bK] at hFi ⊢
  exact⟨⟨a7.2 fun d hd=>D.idsC_le hM (a7.1 hFi.1.1 d hd),jc (bM hcN hM)⟩,a7.2 fun d hd=>D.idsC_le hM (a7.1 hFi.2 d hd)⟩
 have hFi2:=Do
 have t8:kc≠kl:=fun e=>h1 e.symm
 refine AW.seq (rs hx fun K hK=>?_)
 refine s1 (ldN (Pt.idN q) (al (by omega) aa) (show N<N+1+1 by omega)) ?_
 refine cq (zo q) ?_
 refine sa ?_
 refine nl hK ?_
 refine AW.condS rfl (fun hb=>?_) (fun hb=>?_)
 ·have hq:bE q=0:=bq hb
  refine AW.ret (SN h0 (by omega) (Do _ _ N (az _)) fun j ds h=>?_)
  unfold uI xG at h
  rw[ah hq,ah hq] at h
  have hj:=(Do lk lc N (az _)).lt h
  refine al (show j≠N+1 by omega) (al (show j≠N by omega) ?_)
  rcases cm h with⟨rfl,rfl⟩|⟨_,h⟩
  ·exact hc
  rcases cm h with⟨rfl,rfl⟩|⟨_,h⟩
  ·rw[←L.eq];exact hl
  ·exact h
 have hq:¬bE q=0:=dK hb
 refine AW.skip (rs hx fun K hK=>?_)
 refine s1 (FJ (ks:=[N])) ?_
 refine sa ?_
 refine nl hK ?_
 refine rsd [] hx fun K hK=>?_
 iterate 5 refine sa ?_
 refine s1 (ldN (pN.self xk kx n).pk aa (show N+1<N+1+1 by omega)) ?_
 refine q1 (sHF (h_sum (vs:=(N+1,ba xk kx n)::(N,dC (ax.f q))::vs) (N:=N+1+1) (al (show kl≠N+1 by omega) (al (show kl≠N by omega) hl)) (show kl<N+1+1 by omega) L.pk (al (show N≠N+1 by omega) aa) (show N<N+1+1 by omega)) rfl) ?_
 refine nl hK ?_
 refine rs hx fun K hK=>?_
 iterate 3 refine sa ?_
 refine s1 (kO (L.new (jw lk (lX q xk))).pc aa (show kl<N+1+1 by omega) tbI) ?_
 iterate 2 refine sa ?_
 refine nl hK ?_
 have IQ:∀t,cw ⟨(kc,dC ((cW ax).f (yx q xc but t lc)))::(kl,A++ba (jw lk (lX q xk)) kc n++C)::(N+1,ba xk kx n)::(N,dC (ax.f q))::vs,lv,N+1+1⟩:=fun t=>by
  have M6:cw ⟨(N+1,ba xk kx n)::(N,dC (ax.f q))::vs,lv,N+1+1⟩:=(cw.cons (N:=N+1) (hok.cons (jM N) (ez N) (eG _)) (jM _) (ez _) (jc (by omega)))
  refine cw.cons (N:=N+1+1) (M6.cons (az _) (show kl<N+1+1 by omega) ?_) (az _) (show kc<N+1+1 by omega) (eG _)
  exact ((Do (jw lk (lX q xk)) lc (N+1+1) (by omega)).var kl _ (al h1 aa)).2
 have hTm:∀(t:Nat) (tm:List (Nat×D)),tm.lookup 0=some (.pt kl ol)→tm.lookup 3=some (dI .i64 but)→tm.lookup 6=some (.pt (N+1) 0)→tm.lookup 8=some (.fn 156 [N])→tm.lookup 25=some (dI .i64 n)→tm.lookup 26=some (dI .i64 t)→bI (N+1+1) tm [(0,.pt kl ol),(3,dI .i64 but),(6,.pt (N+1) 0),(8,.fn 156 [N]),(25,dI .i64 n),(26,dI .i64 t)]:=fun t tm a b c d e f=>
  ((((((bI.nil.cons f).cons e).cons d (a7.2 fun k hk=>aB (by rw[ri.1 hk];omega))).cons c (aB (show N+1<N+1+1 by omega))).cons b).cons a (aB (show kl<N+1+1 by omega)))
 refine AW.block ?_
 refine AW.loopW (fun t:Nat=>[(0,.pt kl ol),(3,dI .i64 but),(6,.pt (N+1) 0),(8,.fn 156 [N]),(25,dI .i64 n),(26,dI .i64 t)])
  (fun t=>⟨(kc,dC ((cW ax).f (yx q xc but t lc)))::(kl,A++ba (jw lk (lX q xk)) kc n++C)::(N+1,ba xk kx n)::(N,dC (ax.f q))::vs,lv,N+1+1⟩) (fun t=>t≤n) (fun t=>n - t) 0 ?_ (cy _) ?_
 ·refine wkS (by rw[h0];show N≤N+1+1;omega) (az _) (IQ 0) (fun j ds h=>?_) (hTm 0 _ rfl rfl rfl rfl rfl rfl)
  rcases cm h with⟨rfl,rfl⟩|⟨_,h⟩
  ·exact al t8 (al (show j≠N+1 by omega) (al (show j≠N by omega) hc))
  ·exact h
 ·intro t ht
  have M9:(yx q xc but t lc).length=n:=by rw[qS,hlc]
  refine rs hx fun K hK=>?_
  refine sa ?_
  refine nl hK ?_
  refine AW.seq (AW.condS rfl (fun hb=>?_) (fun hb=>?_))
  rotate_left
  ·refine AW.exit ?_
   have htn:t=n:=by have:=dK hb;omega
   refine SN h0 (by omega) (Do _ _ N (az _)) fun j ds h=>?_
   have hj:=(Do _ _ N (az _)).lt h
   unfold uI xG at h
   rw[ai hq,ai hq,hlc] at h
   rw[htn]
   rcases cm h with⟨rfl,rfl⟩|⟨O5,h⟩
   ·exact aa
   rcases cm h with⟨rfl,rfl⟩|⟨CV,h⟩
   ·exact al h1 aa
   ·exact al O5 (al CV (al (show j≠N+1 by omega) (al (show j≠N by omega) h)))
  have htn:t<n:=by have:=bq hb;omega
  refine AW.skip (AW.seq (AW.block (rs hx fun K hK=>?_)))
  iterate 2 refine sa ?_
  refine nl hK ?_
  refine rs hx fun K hK=>?_
  iterate 3 refine sa ?_
  refine nl hK ?_
  refine AW.condS rfl (fun hb=>?_) (fun hb=>?_)
  ·have hbt:¬(t:Int)=but:=bq hb
   refine rqd [] hx fun K hK=>?_
   iterate 4 refine sa ?_
   refine s1 (kO (L.new (jw lk (lX q xk))).pc (al h1 aa) (show kl<N+1+1 by omega) tbI) ?_
   refine sa ?_
   refine s1 (xJ (v:=(t:Int)) (n:=n) ⟨by omega,by omega⟩ tbI aQ) ?_
   refine sa ?_
   refine s1 (kO (pN.self xk kx n).pc (al (show N+1≠kc by omega) (al (show N+1≠kl by omega) aa)) (show N+1<N+1+1 by omega) tbI) ?_
   refine sa ?_
   refine s1 (xJ (v:=(t:Int)) (n:=n) ⟨by omega,by omega⟩ tbI aQ) ?_
   refine s1 (ldN (Pt.elN xc t (by omega)) (al h2 (al h3 (al (show kx≠N+1 by omega) (al (show kx≠N by omega) xX)))) (show kx<N+1+1 by omega)) ?_
   refine q1 (sHF (h_sum aa (show kc<N+1+1 by omega) (Pt.elN (yx q xc but t lc) t (by omega)) (al (show N≠kc by omega) (al (show N≠kl by omega) (al (show N≠N+1 by omega) aa))) (show N<N+1+1 by omega)) rfl) ?_
   refine nl hK ?_
   refine rq hx fun K hK=>?_
   iterate 2 refine sa ?_
   refine nl hK ?_
   rw[b7]
   refine⟨t+1,wkS (by rw[h0];show N≤N+1+1;omega) (az _) (IQ (t+1)) (fun j ds h=>?_) (hTm (t+1) _ rfl rfl rfl rfl rfl rfl),htn,by omega⟩
   rw[Pt.elN_set _ _ (by omega),xe]
   unfold yx at h
   rw[ai hbt] at h
   exact h
  ·have hbt:(t:Int)=but:=by have:=dK hb;simpa using this
   refine AW.skip (rq hx fun K hK=>?_)
   iterate 2 refine sa ?_
   refine nl hK ?_
   rw[b7]
   refine⟨t+1,wkS (by rw[h0];show N≤N+1+1;omega) (az _) (IQ (t+1)) (fun j ds h=>?_) (hTm (t+1) _ rfl rfl rfl rfl rfl rfl),htn,by omega⟩
   unfold yx at h
   rw[ah hbt] at h
   exact h
end
end
section
def zN:List E:=(List.replicate 2 (E.lit (.bool false))++List.replicate 16 (E.lit (.int .u32 0)))++(List.replicate 2 (E.lit (.bool false))++List.replicate 16 (E.lit (.int .u32 0)))
theorem LV {dr:Bool}{ty:TypeId}{ev:Operand→D}{vs:List (Nat×List D)}{lv:List (Nat×Nat×Nat×TypeId)}{N:Nat}:AVC prog tbl dr (.alloc 43) ty ev ⟨vs,lv,N⟩ (Kq (.pt N 0) ⟨(N,dC zN)::vs,lv,N+1⟩):=zf aQ
theorem Pt.zN:Pt (dC zN) 0 (dC zN) id:=Pt.of [] [] rfl (by simp) (fun y=>by simp)
theorem stZ {dr:Bool}{ty:TypeId}{ev:Operand→D}{hp hp':Hp}{k:Nat}{x y:Operand}{b:Nu}(hv:hp.vars.lookup k=some (dC zN))(hx:ev x=.pt k 0:=by exact rfl)(hy:ev y=dG ax b:=by exact rfl)(he:hp.set k (dC (ax.f b))=hp':=by exact rfl):AVC prog tbl dr (.store 43 x y) ty ev hp (Kq .top hp'):=
 HW (ys:=dC (ax.f b)) Pt.zN hv (by rw[hy];rfl) aQ rfl (by rw[jb];rfl) rfl hx he
theorem iaN {dr:Bool}{ty:TypeId}{ev:Operand→D}{hp:Hp}{k i n:Nat}{kn:IntKind}{x y:Operand}(h:i<n)(hx:ev x=.ow k 0 36 n:=by exact rfl)(hy:ev y=dI kn (i:Int):=by exact rfl):AVC prog tbl dr (.indexAddr 22 x y) ty ev hp (Kq (.pt k (i*36)) hp):=by
 have:=xJ (P:=prog) (tb:=tbl) (dr:=dr) (ty:=ty) (ev:=ev) (hp:=hp) (x:=x) (y:=y) (v:=(i:Int)) (n:=n) (kn:=kn) ⟨by omega,by omega⟩ cg aQ rfl hx rfl hy
 rwa[bH,bw] at this
theorem iaR {dr:Bool}{ty:TypeId}{ev:Operand→D}{hp:Hp}{k i n:Nat}{kn:IntKind}{x y:Operand}(h:i<n)(hx:ev x=.ow k 0 38 n:=by exact rfl)(hy:ev y=dI kn (i:Int):=by exact rfl):AVC prog tbl dr (.indexAddr 71 x y) ty ev hp (Kq (.pt k (i*38)) hp):=by
 have:=xJ (P:=prog) (tb:=tbl) (dr:=dr) (ty:=ty) (ev:=ev) (hp:=hp) (x:=x) (y:=y) (v:=(i:Int)) (n:=n) (kn:=kn) ⟨by omega,by omega⟩ CM ud rfl hx rfl hy
 rwa[bH,bw] at this
theorem Pt.el(l:List Nu)(i:Nat)(h:i<l.length):Pt (dC ((cW ax).f l)) (i*36) (dC (ax.f l[i]!)) (fun ys=>(dC ((cW ax).f l)).take (i*36)++ys++(dC ((cW ax).f l)).drop (i*36+36)):=by
 have:=Pt.elN l i h
 rwa[bw] at this
theorem Pt.el_set(l:List Nu)(i:Nat)(h:i<l.length)(b:Nu):(dC ((cW ax).f l)).take (i*36)++dC (ax.f b)++(dC ((cW ax).f l)).drop (i*36+36)=dC ((cW ax).f (l.set i b)):=by
 have:=Pt.elN_set l i h b
 rwa[bw] at this
theorem sj {x:Cx}{c1 c2:Code}{tm:List (Nat×D)}{hp:Hp}{Q:Exit→List (Nat×D)→Hp→Prop}(T:List (Nat×D))(H:Hp)(h1:AW prog x c1 tm hp fun ex tm' hp'=>ex=.normal∧Wk x tm' hp' T H)(h2:AW prog x c2 T H Q):AW prog x (.seq c1 c2) tm hp Q:=by
 refine AW.seq (AW.mono h1 ?_)
 rintro ex tm' hp' ⟨rfl,hw⟩
 exact AW.weak hw h2
def ja(C:Nat→Nat)(w i:Nat)(r:Row):List D:=ba r.k (C i) w++[dI .i64 r.b]
theorem ug(C:Nat→Nat)(w i:Nat)(r:Row):(ja C w i r).length=38:=by unfold ja;rw[cJ,bZ];rfl
def gj(C:Nat→Nat)(w:Nat):Nat→List Row→List D
 |_,[]=>[]
 |i,r::l=>ja C w i r++gj C w (i+1) l
theorem BJ(C:Nat→Nat)(w:Nat):∀(i:Nat) (l:List Row),(gj C w i l).length=l.length*38
 |_,[]=>rfl
 |i,r::l=>by
  unfold gj
  rw[cJ,ug,BJ C w (i+1) l,sI,bP]
  omega
theorem BK(C:Nat→Nat)(w:Nat):∀(i:Nat) (l l2:List Row),gj C w i (l++l2)=gj C w i l++gj C w (i+l.length) l2
 |i,[],l2=>by simp[gj]
 |i,r::l,l2=>by
  show ja C w i r++gj C w (i+1) (l++l2)=(ja C w i r++gj C w (i+1) l)++gj C w (i+(l.length+1)) l2
  rw[BK C w (i+1) l l2,dh,show i+1+l.length=i+(l.length+1) by omega]
theorem Sd(C:Nat→Nat)(w:Nat)(l:List Row)(j:Nat)(h:j<l.length):∃A B:List D,A.length=j*38∧∀r:Row,gj C w 0 (l.set j r)=A++ja C w j r++B:=by
 refine⟨gj C w 0 (l.take j),gj C w (j+1) (l.drop (j+1)),?_,fun r=>?_⟩
 ·rw[BJ,eu,tE (by omega)]
 ·rw[Vc,ah h,BK,eu,tE (by omega),bw]
  show _++(ja C w j r++_)=_
  rw[dh]
theorem Sa {l:List Row}{j:Nat}{r:Row}(h:l[j]? =some r):l.set j r=l:=by
 obtain⟨h1,h2⟩:=fW.1 h
 rw[←h2,List.set_getElem_self]
theorem mQ(C:Nat→Nat)(w:Nat)(l:List Row)(j:Nat){r:Row}(h:l[j]? =some r):∃A B:List D,A.length=j*38∧(∀r:Row,gj C w 0 (l.set j r)=A++ja C w j r++B)∧gj C w 0 l=A++ja C w j r++B∧pN (gj C w 0 l) (j*38) r.k (C j) w A ([dI .i64 r.b]++B)∧Pt (gj C w 0 l) (j*38+37) [dI .i64 r.b] (fun ys=>A++(ba r.k (C j) w++ys)++B):=by
 obtain⟨A,B,h1,h2⟩:=Sd C w l j (fW.1 h).1
 have h3:=h2 r
 rw[Sa h] at h3
 refine⟨A,B,h1,h2,h3,⟨h1,?_⟩,Pt.of (A++ba r.k (C j) w) B (by rw[cJ,h1,bZ]) ?_ fun y=>by simp only[dh]⟩
 ·rw[h3];unfold ja;simp only[dh]
 ·rw[h3];unfold ja;simp only[dh]
theorem xS {C:Nat→Nat}{w M:Nat}:∀(i:Nat) (l:List Row),(∀j,j<l.length→C (i+j)<M)→(gj C w i l).all (D.idsC M)=true
 |_,[],_=>rfl
 |i,r::l,h=>by
  unfold gj ja
  rw[mi,mi,jc (by have:=h 0 (by simp);simpa using this),xS (i+1) l (fun j hj=>by have:=h (j+1) (by simpa using hj);rwa[show i+(j+1)=i+1+j by omega] at this)]
  rfl
def fm(R:Nat)(l:List Row):D:=match l with
 |[]=>.e (.lit (.slice none 0 0))
 |_=>.gw R 38 l.length
theorem qF {R:Nat}{l:List Row}(h:l≠[]):fm R l=.gw R 38 l.length:=by cases l with|nil=>exact absurd rfl h|cons r l=>rfl
def nC(R G w:Nat)(d:Dic):List D:=[fm R d.rows]++ba d.gk G w++[dI .i64 d.n,dI .i64 d.piv,dI .i64 d.most]
structure DAt(vs:List (Nat×List D))(kd R G:Nat)(C:Nat→Nat)(w:Nat)(d:Dic):Prop where
 hd:vs.lookup kd=some (nC R G w d)
 hR:d.rows≠[]→vs.lookup R=some (gj C w 0 d.rows)
 hG:vs.lookup G=some (dC ((cW ax).f d.gc))
 hC:∀(i:Nat) (r:Row),d.rows[i]? =some r→vs.lookup (C i)=some (dC ((cW ax).f r.c))
 lG:d.gc.length=w
 lC:∀(i:Nat) (r:Row),d.rows[i]? =some r→r.c.length=w
structure Dif(m kd R G:Nat)(C:Nat→Nat):Prop where
 dR:kd≠R
 dG:kd≠G
 RG:R≠G
 C1:∀i,i<m→C i≠kd∧C i≠R∧C i≠G
 C2:∀i j,i<m→j<m→C i=C j→i=j
def cOv(C:Nat→Nat):Nat→List Row→List (Nat×List D)
 |_,[]=>[]
 |i,r::l=>(C i,dC ((cW ax).f r.c))::cOv C (i+1) l
def rOv(R:Nat)(C:Nat→Nat)(w:Nat)(l:List Row):List (Nat×List D):=match l with
 |[]=>[]
 |_=>[(R,gj C w 0 l)]
def ov(kd R G:Nat)(C:Nat→Nat)(w:Nat)(d:Dic)(vs:List (Nat×List D)):List (Nat×List D):=(kd,nC R G w d)::(G,dC ((cW ax).f d.gc))::(rOv R C w d.rows++(cOv C 0 d.rows++vs))
theorem UN {C:Nat→Nat}{j:Nat}{r:Row}{vs:List (Nat×List D)}{m:Nat}(hC:∀i j,i<m→j<m→C i=C j→i=j):∀(i:Nat) (l:List Row),i+l.length≤m→l[j]? =some r→(cOv C i l++vs).lookup (C (i+j))=some (dC ((cW ax).f r.c))
 |_,[],_,h=>by simp at h
 |i,s::l,hm,h=>by
  unfold cOv
  rw[Fh]
  cases j with
  |zero=>
   simp at h
   subst h
   exact aa
  |succ j=>
   have bO:=(fW.1 h).1
   simp only[sI] at hm bO
   refine al (fun e=>?_) ?_
   ·have:=hC _ _ (by omega) (by omega) e;omega
   ·rw[show i+(j+1)=i+1+j by omega]
    exact UN hC (i+1) l (by omega) (by simpa using h)
theorem Py {C:Nat→Nat}{k:Nat}{vs:List (Nat×List D)}:∀(i:Nat) (l:List Row),(∀j,j<l.length→k≠C (i+j))→(cOv C i l++vs).lookup k=vs.lookup k
 |_,[],_=>rfl
 |i,s::l,h=>by
  unfold cOv
  rw[Fh]
  exact al (h 0 (by simp)) (Py (i+1) l fun j hj=>by have:=h (j+1) (by simpa using hj);rwa[show i+(j+1)=i+1+j by omega] at this)
theorem Sj {R:Nat}{C:Nat→Nat}{w:Nat}{l:List Row}{k:Nat}{vs:List (Nat×List D)}(h:k≠R):(rOv R C w l++vs).lookup k=vs.lookup k:=by
 cases l with
 |nil=>rfl
 |cons r l=>exact ao h
section
variable {kd R G w:Nat} {C:Nat→Nat} {d d':Dic} {vs vs2:List (Nat×List D)}
theorem DAt.ov(hf:Dif d.rows.length kd R G C)(lG:d.gc.length=w)(lC:∀(i:Nat) (r:Row),d.rows[i]? =some r→r.c.length=w):DAt (ov kd R G C w d vs) kd R G C w d:=by
 refine⟨aa,fun fS=>?_,al hf.dG.symm aa,fun i r h=>?_,lG,lC⟩
 ·refine al hf.dR.symm (al hf.RG ?_)
  cases hl:d.rows with
  |nil=>exact absurd hl fS
  |cons r l=>exact aa
 ·have hi:=(fW.1 h).1
  obtain⟨h1,h2,h3⟩:=hf.C1 i hi
  refine al h1 (al h3 ?_)
  rw[Sj h2]
  have:=UN (vs:=vs) hf.C2 0 d.rows (by omega) h
  rwa[bw] at this
theorem Iu {k:Nat}(h1:k≠kd)(h2:k≠R)(h3:k≠G)(h4:∀j,j<d.rows.length→k≠C j):(ov kd R G C w d vs).lookup k=vs.lookup k:=by
 refine al h1 (al h3 ?_)
 rw[Sj h2]
 exact Py 0 _ fun j hj=>by rw[bw];exact h4 j hj
theorem Ek(hf:Dif d.rows.length kd R G C)(h:DAt vs2 kd R G C w d)(hr:∀k ds,k≠kd→k≠R→k≠G→(∀j,j<d.rows.length→k≠C j)→vs.lookup k=some ds→vs2.lookup k=some ds)(hnil:d.rows=[]→∀ds,vs.lookup R=some ds→vs2.lookup R=some ds):
  ∀k ds,(ov kd R G C w d vs).lookup k=some ds→vs2.lookup k=some ds:=by
 intro k ds hk
 have h0:=DAt.ov (vs:=vs) hf h.lG h.lC
 by_cases h1:k=kd
 ·subst h1;rw[h0.hd] at hk;rw[h.hd];exact hk
 by_cases h2:k=R
 ·subst h2
  by_cases fS:d.rows=[]
  ·refine hnil fS ds ?_
   rw[←hk]
   refine Eq.symm (al h1 (al hf.RG ?_))
   rw[fS];rfl
  ·rw[h0.hR fS] at hk;rw[h.hR fS];exact hk
 by_cases h3:k=G
 ·subst h3;rw[h0.hG] at hk;rw[h.hG];exact hk
 by_cases h4:∀j,j<d.rows.length→k≠C j
 ·rw[Iu h1 h2 h3 h4] at hk
  exact hr k ds h1 h2 h3 h4 hk
 ·obtain⟨j,hj⟩:=NQ.1 h4
  obtain⟨O5,CV⟩:=NP.1 hj
  have CV:=Cs.1 CV
  subst CV
  have hr:=cP O5
  rw[h0.hC j _ hr] at hk;rw[h.hC j _ hr];exact hk
theorem sE {M:Nat}(hR:R<M)(hG:G<M):(nC R G w d).all (D.idsC M)=true:=by
 unfold nC
 rw[mi,mi,jc hG]
 cases d.rows <;> simp[fm,D.idsC,hR]
theorem CQ {lv:List (Nat×Nat×Nat×TypeId)}{N:Nat}(hok:cw ⟨vs,lv,N⟩)(hd:kd<N)(hR:R<N)(hG:G<N)(hC:∀j,j<d.rows.length→C j<N):cw ⟨ov kd R G C w d vs,lv,N⟩:=by
 have h1:∀(i:Nat) (l:List Row),(∀j,j<l.length→C (i+j)<N)→cw ⟨cOv C i l++vs,lv,N⟩:=by
  intro i l
  induction l generalizing i with
  |nil=>intro _;exact hok
  |cons r l ih=>
   intro h
   exact (ih (i+1) fun j hj=>by have:=h (j+1) (by simpa using hj);rwa[show i+(j+1)=i+1+j by omega] at this).cons (az _) (h 0 (by simp)) (eG _)
 have h2:cw ⟨rOv R C w d.rows++(cOv C 0 d.rows++vs),lv,N⟩:=by
  have h3:=h1 0 d.rows fun j hj=>by rw[bw];exact hC j hj
  cases hl:d.rows with
  |nil=>rw[hl] at h3;exact h3
  |cons r l=>
   rw[hl] at h3
   refine h3.cons (az _) hR (xS 0 _ fun j hj=>?_)
   rw[bw];exact hC j (by rw[hl];exact hj)
 exact (h2.cons (az _) hG (eG _)).cons (az _) hd (sE hR hG)
end
end
section
section
variable {kd R G w:Nat} {C:Nat→Nat} {d:Dic} {vs vs2:List (Nat×List D)}
theorem Qi {R:Nat}{l l2:List Row}(h:l.length=l2.length):fm R l=fm R l2:=by
 cases l with
 |nil=>cases l2 with
  |nil=>rfl
  |cons _ _=>simp at h
 |cons _ _=>cases l2 with
  |nil=>simp at h
  |cons _ _=>show D.gw R 38 _=D.gw R 38 _;rw[h]
theorem DAt.look(h:DAt vs kd R G C w d)(h2:∀k ds,(k=kd∨k=R∨k=G∨∃i,i<d.rows.length∧k=C i)→vs.lookup k=some ds→vs2.lookup k=some ds):DAt vs2 kd R G C w d:=
 ⟨h2 _ _ (.inl rfl) h.hd,fun fS=>h2 _ _ (.inr (.inl rfl)) (h.hR fS),h2 _ _ (.inr (.inr (.inl rfl))) h.hG,fun i r hr=>h2 _ _ (.inr (.inr (.inr ⟨i,(fW.1 hr).1,rfl⟩))) (h.hC i r hr),h.lG,h.lC⟩
theorem DAt.setRow(h:DAt vs kd R G C w d)(hf:Dif d.rows.length kd R G C){j:Nat}(hj:j<d.rows.length)(r:Row)(hl:r.c.length=w)(hR:vs2.lookup R=some (gj C w 0 (d.rows.set j r)))(hC:vs2.lookup (C j)=some (dC ((cW ax).f r.c)))
  (h2:∀k ds,k≠R→k≠C j→vs.lookup k=some ds→vs2.lookup k=some ds):DAt vs2 kd R G C w ⟨d.rows.set j r,d.gk,d.gc,d.n,d.piv,d.most⟩:=by
 obtain⟨h3,h4,h5⟩:=hf.C1 j hj
 refine⟨?_,fun _=>hR,h2 _ _ hf.RG.symm h5.symm h.hG,fun i r' hr=>?_,h.lG,fun i r' hr=>?_⟩
 ·have:nC R G w ⟨d.rows.set j r,d.gk,d.gc,d.n,d.piv,d.most⟩=nC R G w d:=by
   unfold nC
   rw[show fm R (d.rows.set j r)=fm R d.rows from Qi (c7 ..)]
  rw[this]
  exact h2 _ _ hf.dR h3.symm h.hd
 ·by_cases CX:i=j
  ·subst CX
   rw[HJ hj] at hr
   injection hr with hr
   subst hr
   exact hC
  ·rw[Cq (fun e=>CX e.symm)] at hr
   have hi:=(fW.1 hr).1
   exact h2 _ _ (hf.C1 i hi).2.1 (fun e=>CX (hf.C2 i j hi hj e)) (h.hC i r' hr)
 ·by_cases CX:i=j
  ·subst CX
   rw[HJ hj] at hr
   injection hr with hr
   subst hr
   exact hl
  ·rw[Cq (fun e=>CX e.symm)] at hr
   exact h.lC i r' hr
theorem DAt.setDic(h:DAt vs kd R G C w d)(hf:Dif d.rows.length kd R G C)(d':Dic)(hr:d'.rows=d.rows)(hl:d'.gc.length=w)(hd:vs2.lookup kd=some (nC R G w d'))(hG:vs2.lookup G=some (dC ((cW ax).f d'.gc)))
  (h2:∀k ds,k≠kd→k≠G→vs.lookup k=some ds→vs2.lookup k=some ds):DAt vs2 kd R G C w d':=by
 refine⟨hd,fun fS=>?_,hG,fun i r hi=>?_,hl,fun i r hi=>?_⟩
 ·rw[hr] at fS ⊢
  exact h2 _ _ hf.dR.symm hf.RG (h.hR fS)
 ·rw[hr] at hi
  obtain⟨h3,h4,h5⟩:=hf.C1 i (fW.1 hi).1
  exact h2 _ _ h3 h5 (h.hC i r hi)
 ·rw[hr] at hi
  exact h.lC i r hi
end
theorem xW {k:Nat}{os:List Nat}(h:k∉os):∀{l:List (Nat×List D)} {ds:List D},l.lookup k=some ds→(l.filter fun p=>!os.contains p.1).lookup k=some ds
 |[],_,h'=>by simp at h'
 |(j,a)::l,ds,h'=>by
  by_cases hj:k=j
  ·subst hj
   rw[Jo (by simpa using h)]
   rw[aa] at h' ⊢
   exact h'
  ·have h1:l.lookup k=some ds:=by rw[←h'];exact (ao hj).symm
   by_cases hm:j∈os
   ·rw[NJ (by simpa using hm)]
    exact xW h h1
   ·rw[Jo (by simpa using hm)]
    exact al hj (xW h h1)
section
variable {hp:Hp}
theorem Wa:∀(l:List E),ARs hp (dC l) (dC l)
 |[]=>trivial
 |e::l=>⟨AR.data (d:=.e e) rfl,Wa l⟩
theorem ARs.append:∀{ds es ds2 es2:List D},ARs hp ds es→ARs hp ds2 es2→ARs hp (ds++ds2) (es++es2)
 |[],[],_,_,_,h=>h
 |_::_,_::_,_,_,⟨h1,h2⟩,h=>⟨h1,ARs.append h2 h⟩
 |[],_::_,_,_,h,_=>h.elim
 |_::_,[],_,_,h,_=>h.elim
theorem AR.list {k n:Nat}{l:List Nu}(hv:hp.vars.lookup k=some (dC ((cW ax).f l)))(hl:l.length=n):AR hp (.ow k 0 36 n) (.e (slE ax l)):=by
 subst hl
 have hlen:((cW ax).f l).length=l.length*36:=iB ax.f ax.h l
 have:=AR.sl (off:=0) hv (n:=l.length) (z:=36) (by omega) (by omega)
 rw[rp,ii (by omega)] at this
 exact this
theorem AR.line {kc n:Nat}{k:Nu}{l:List Nu}(hv:hp.vars.lookup kc=some (dC ((cW ax).f l)))(hl:l.length=n):AR hp (.ag (ba k kc n)) (.ag (dC (ax.f k)++[.e (slE ax l)])):=
 AR.ag (ARs.append (Wa _) ⟨AR.list hv hl,trivial⟩)
end
theorem Nh {vs:List (Nat×List D)}{lv:List (Nat×Nat×Nat×TypeId)}{N kc n:Nat}{k:Nu}{l:List Nu}(hv:vs.lookup kc=some (dC ((cW ax).f l)))(hl:l.length=n)(hn:n≤1000000):HC prog 109 [.ag (ba k kc n)] ⟨vs,lv,N⟩ (dB (gl k l)) ⟨vs,lv,N⟩:=
 HC.frz (w_good k l (by omega)) ⟨AR.line hv hl,trivial⟩ rfl
end
section
def klO(kd R:Nat):Option Nat→Nat|none=>kd|some _=>R
def olO:Option Nat→Nat|none=>1|some j=>j*38
def kcO(G:Nat)(C:Nat→Nat):Option Nat→Nat|none=>G|some j=>C j
section
variable {kd R G w:Nat} {C:Nat→Nat} {d:Dic} {vs:List (Nat×List D)}
theorem lineO(h:DAt vs kd R G C w d)(hf:Dif d.rows.length kd R G C)(o:Option Nat)(ho:∀j,o=some j→j<d.rows.length):
  ∃F A B:List D,vs.lookup (klO kd R o)=some F∧pN F (olO o) (lkO d o) (kcO G C o) w A B∧vs.lookup (kcO G C o)=some (dC ((cW ax).f (lcO d o)))∧(lcO d o).length=w∧klO kd R o≠kcO G C o∧
   ∀(v2:List (Nat×List D)) (lk:Nu) (lc:List Nu),lc.length=w→v2.lookup (klO kd R o)=some (A++ba lk (kcO G C o) w++B)→v2.lookup (kcO G C o)=some (dC ((cW ax).f lc))→
    (∀k ds,k≠klO kd R o→k≠kcO G C o→vs.lookup k=some ds→v2.lookup k=some ds)→DAt v2 kd R G C w (MB d o lk lc):=by
 cases o with
 |none=>
  refine⟨nC R G w d,[fm R d.rows],[dI .i64 d.n,dI .i64 d.piv,dI .i64 d.most],h.hd,⟨rfl,rfl⟩,h.hG,h.lG,hf.dG,fun v2 lk lc hl h1 h2 h3=>?_⟩
  exact h.setDic hf ⟨d.rows,lk,lc,d.n,d.piv,d.most⟩ rfl hl h1 h2 h3
 |some j=>
  have hj:=ho j rfl
  have hr:d.rows[j]? =some d.rows[j]! :=by rw[bT d.rows j hj];exact cP hj
  obtain⟨A,B,h1,h2,h3,h4,_⟩:=mQ C w d.rows j hr
  have fS:d.rows≠[]:=fun e=>by rw[e] at hj;simp at hj
  refine⟨gj C w 0 d.rows,A,[dI .i64 d.rows[j]!.b]++B,h.hR fS,h4,h.hC j _ hr,h.lC j _ hr,(hf.C1 j hj).2.1.symm,fun v2 lk lc hl h5 h6 h7=>?_⟩
  refine h.setRow hf hj ⟨lk,lc,d.rows[j]!.b⟩ hl ?_ h6 h7
  rw[h2]
  have h5':v2.lookup R=some (A++ba lk (C j) w++([dI .i64 d.rows[j]!.b]++B)):=h5
  rw[h5']
  unfold ja
  simp only[dh]
theorem Sb(d:Dic)(o:Option Nat)(k:Nu)(c:List Nu):(MB d o k c).rows.length=d.rows.length:=by
 cases o with
 |none=>rfl
 |some j=>exact c7 ..
theorem setO_ne {o:Option Nat}{i:Nat}(h:o≠some i)(k:Nu)(c:List Nu):(MB d o k c).rows[i]? =d.rows[i]? :=by
 cases o with
 |none=>rfl
 |some j=>
  have:j≠i:=fun e=>h (by rw[e])
  exact Cq this
end
theorem pO_succ {r1:Row}{s at' i u:Nat}{p:Dic×Bool}{o:Option Nat}(h:(yr at' i)[u]? =some o):pO r1 s at' i p (u+1)=w6 r1 s (pO r1 s at' i p u) o:=by
 unfold pO
 rw[Bb,h,List.foldl_append]
 rfl
theorem Pt.cell {F:List D}{t:Nat}{x:D}(h:F[t]? =some x):Pt F t [x] (fun ys=>F.take t++ys++F.drop (t+1)):=by
 obtain⟨h1,h2⟩:=fW.1 h
 refine⟨by simp;omega,?_,fun ys _=>rfl⟩
 show (F.drop t).take 1=[x]
 rw[FA h1,N6,Fb,h2]
theorem iaP {dr:Bool}{ty:TypeId}{ev:Operand→D}{hp:Hp}{k i n:Nat}{kn:IntKind}{x y:Operand}(h:i<n)(hx:ev x=.ow k 0 1 n:=by exact rfl)(hy:ev y=dI kn (i:Int):=by exact rfl):AVC prog tbl dr (.indexAddr 161 x y) ty ev hp (Kq (.pt k i) hp):=by
 have:=xJ (P:=prog) (tb:=tbl) (dr:=dr) (ty:=ty) (ev:=ev) (hp:=hp) (x:=x) (y:=y) (v:=(i:Int)) (n:=n) (kn:=kn) ⟨by omega,by omega⟩ BE zw rfl hx rfl hy
 rwa[bH,bw,show i*1=i from zb i] at this
theorem SO {x:Cx}{kd R G w N n2 q:Nat}{C:Nat→Nat}{d':Dic}{vs v:List (Nat×List D)}{lv:List (Nat×Nat×Nat×TypeId)}{tm:List (Nat×D)}{e:Int}(h0:x.hp0=⟨vs,lv,N⟩)(hok:cw ⟨vs,lv,N⟩)(hN:N≤n2)(hD:DAt v kd R G C w d')(hf:Dif d'.rows.length kd R G C)
  (GO:kd<N) (hR:R<N) (hG:G<N) (hC:∀j,j<d'.rows.length→C j<N) (hr:∀k ds,k≠kd→k≠R→k≠G→(∀j,j<d'.rows.length→k≠C j)→vs.lookup k=some ds→v.lookup k=some ds) (hnil:d'.rows=[]→∀ds,vs.lookup R=some ds→v.lookup R=some ds) (hq:tm.lookup q=some (dI .i64 e)):
  ∃tm',Wk x tm ⟨v,lv,n2⟩ tm' ⟨ov kd R G C w d' vs,lv,N⟩∧t5 tbl [.tmp q] tm' ⟨ov kd R G C w d' vs,lv,N⟩ (dI .i64 e):=by
 have hok':=CQ (d:=d') (w:=w) hok GO hR hG hC
 refine⟨[(q,dI .i64 e)],wkS (by rw[h0];exact az N) hN hok' (Ek hf hD hr hnil) (bI.nil.cons hq),?_⟩
 exact⟨dI .i64 e,aa,rfl⟩
section
variable {R G w:Nat} {d:Dic}
theorem gM:Pt (nC R G w d) 0 [fm R d.rows] (fun ys=>ys++(ba d.gk G w++[dI .i64 d.n,dI .i64 d.piv,dI .i64 d.most])):=Pt.of [] (ba d.gk G w++[dI .i64 d.n,dI .i64 d.piv,dI .i64 d.most]) rfl (by unfold nC;simp) fun y=>by simp
theorem mJ:pN (nC R G w d) 1 d.gk G w [fm R d.rows] [dI .i64 d.n,dI .i64 d.piv,dI .i64 d.most]:=⟨rfl,rfl⟩
theorem dic_n:Pt (nC R G w d) 38 [dI .i64 d.n] (fun ys=>[fm R d.rows]++ba d.gk G w++(ys++[dI .i64 d.piv,dI .i64 d.most])):=Pt.of ([fm R d.rows]++ba d.gk G w) [dI .i64 d.piv,dI .i64 d.most] (by rw[cJ,bZ];rfl) (by unfold nC;simp) fun y=>by simp
theorem o8:Pt (nC R G w d) 39 [dI .i64 d.piv] (fun ys=>[fm R d.rows]++ba d.gk G w++([dI .i64 d.n]++ys++[dI .i64 d.most])):=Pt.of ([fm R d.rows]++ba d.gk G w++[dI .i64 d.n]) [dI .i64 d.most] (by rw[cJ,cJ,bZ];rfl) (by unfold nC;simp) fun y=>by simp
theorem Us:Pt (nC R G w d) 40 [dI .i64 d.most] (fun ys=>[fm R d.rows]++ba d.gk G w++([dI .i64 d.n,dI .i64 d.piv]++ys)):=Pt.of ([fm R d.rows]++ba d.gk G w++[dI .i64 d.n,dI .i64 d.piv]) [] (by rw[cJ,cJ,bZ];rfl) (by unfold nC;simp) fun y=>by simp
end
end
section
theorem IG {x:Cx}{tm:List (Nat×D)}{vs vs2:List (Nat×List D)}{lv:List (Nat×Nat×Nat×TypeId)}{N n2 q:Nat}{d:D}(h0:x.hp0=⟨vs,lv,N⟩)(hok:cw ⟨vs,lv,N⟩)(hN:N≤n2)(hv:∀j ds,vs.lookup j=some ds→vs2.lookup j=some ds)(hq:tm.lookup q=some d)(hd:d.idsB N=true):
  ∃tm',Wk x tm ⟨vs2,lv,n2⟩ tm' ⟨vs,lv,N⟩∧t5 tbl [.tmp q] tm' ⟨vs,lv,N⟩ d:=
 ⟨[(q,d)],wkS (by rw[h0];exact az N) hN hok hv (bI.nil.cons hq hd),⟨d,aa,rfl⟩⟩
section
variable {ops:Array Oper} {K:List (Nat×D)→Hp→Prop} {os:List Oper} {tm:List (Nat×D)} {hp:Hp} {t:Tmp} {ty:TypeId} {pos:String} {af:Array Edge} {md:Md}
theorem OB {R:Nat}{l:List Row}{x:Operand}(hx:evD tm x=fm R l)(h2:a8 prog tbl md ops K os ((t,dI .i64 l.length)::tm) hp)(hn:md.nc tbl (.call ⟨.builtin .len,#[x],#[71]⟩)=true:=by exact rfl):a8 prog tbl md ops K (⟨some t,.call ⟨.builtin .len,#[x],#[71]⟩,ty,pos,af,none⟩::os) tm hp:=by
 cases l with
 |nil=>exact s1 (Vq CM ud rfl (by rw[hx];rfl)) h2 hn
 |cons r l=>exact stG (d:=dI .i64 (r::l).length) tok (CH (k:=R) (off:=0) (z:=38) CM ud rfl (by rw[hx];rfl)) h2 hn
end
section
variable {vs:List (Nat×List D)} {lv:List (Nat×Nat×Nat×TypeId)} {N kv R w:Nat} {C:Nat→Nat} {v:Int}
theorem h_findf {i:Nat}(r:Row)(hv:vs.lookup kv=some [dI .i64 v]):HC prog 155 [.ag (ja C w i r),.pt kv 0] ⟨vs,lv,N⟩ (dB (decide (r.b=v))) ⟨vs,lv,N⟩:=by
 refine HC.of (rs:=[.tmp 3]) tok func155 rfl rfl (bb rfl) rfl (fun cx hx h0 hok=>?_)
 simp only[fP,Nat.reduceAdd,bw]
 have hkv:=hok.lt hv
 refine rs hx fun K hK=>?_
 refine s1 (fQ (cs:=ja C w i r)) ?_
 refine sa ?_
 refine nl hK ?_
 refine rs hx fun K hK=>?_
 refine sa ?_
 refine s1 (kO (Pt.of (F:=ja C w i r) (bs:=[dI .i64 r.b]) (ba r.k (C i) w) [] (bZ _ _ _) (by unfold ja;simp) (F':=fun ys=>ba r.k (C i) w++ys++[]) fun y=>rfl) aa (ez N) tbI) ?_
 refine s1 (kO (Pt.of (F:=[dI .i64 v]) (bs:=[dI .i64 v]) [] [] rfl (by simp) (F':=id) fun y=>by simp) (al (show kv≠N by omega) hv) (show kv<N+1 by omega) tbI) ?_
 iterate 2 refine sa ?_
 refine nl hK ?_
 exact AW.ret (IG h0 hok (jM N) (fun j ds h=>al (hok.ne h (az N)) h) rfl rfl)
theorem TW {l:List Row}(hm:l.length≤1000000)(hR:l≠[]→vs.lookup R=some (gj C w 0 l))(hv:vs.lookup kv=some [dI .i64 v]):
  HC prog 154 [fm R l,.fn 155 [kv]] ⟨vs,lv,N⟩ (dI .i64 (dJ l v)) ⟨vs,lv,N⟩:=by
 refine HC.of (rs:=[.tmp 4]) tok func154 rfl rfl (bb rfl) rfl (fun cx hx h0 hok=>?_)
 simp only[fP,Nat.reduceAdd,bw]
 have hkv:=hok.lt hv
 have hRi:(fm R l).idsB N=true:=by
  cases hl:l with
  |nil=>rfl
  |cons r l'=>exact aB (hok.lt (hR (by rw[hl];simp)))
 refine rs hx fun K hK=>?_
 refine sa ?_
 refine nl hK ?_
 refine AW.seq (rs hx fun K hK=>?_)
 refine sa ?_
 refine OB (R:=R) (l:=l) rfl ?_
 refine sa ?_
 refine nl hK ?_
 refine AW.block (AW.loopW (fun i:Nat=>[(0,fm R l),(1,.fn 155 [kv]),(7,dI .i64 l.length),(8,dI .i64 i)]) (fun _=>⟨vs,lv,N⟩) (fun i=>i≤l.length∧∀(j:Nat) (r':Row),j<i→l[j]? =some r'→r'.b≠v) (fun i=>l.length - i) 0 ?_ ⟨cy _,fun j _ hj=>absurd hj (rk _)⟩ ?_)
 ·exact wkS (by rw[h0];exact az N) (az _) hok (fun j ds h=>h) (bI.cons (t:=0) (d:=fm R l) (bI.cons (t:=1) (d:=.fn 155 [kv]) (bI.cons (t:=7) (d:=dI .i64 l.length) (bI.cons (t:=8) (d:=dI .i64 (0:Nat)) bI.nil rfl rfl) rfl rfl) rfl (a7.2 fun k hk=>aB (by rw[ri.1 hk];exact hkv))) rfl hRi)
 ·rintro i ⟨hi,mR⟩
  refine rs hx fun K hK=>?_
  refine sa ?_
  refine nl hK ?_
  refine AW.seq (AW.condS rfl (fun hb=>?_) (fun hb=>?_))
  ·have zL:i<l.length:=by have:=bq hb;omega
   have fS:l≠[]:=fun e=>by rw[e] at zL;simp at zL
   have hr:l[i]? =some l[i]:=cP zL
   obtain⟨A,B,hA,_,h3,_,_⟩:=mQ C w l i hr
   have DK:=hok.lt (hR fS)
   refine AW.skip (AW.seq (AW.block (rs hx fun K hK=>?_)))
   iterate 2 refine sa ?_
   refine nl hK ?_
   refine rs hx fun K hK=>?_
   iterate 3 refine sa ?_
   refine stG (d:=.pt R (i*38)) tok (iaR (i:=i) (n:=l.length) zL (by show (fm R l).toOw=_;rw[qF fS];rfl) rfl) ?_
   refine s1 (Dg (Pt.of A B hA h3 (F':=fun ys=>A++ys++B) fun y=>rfl) (hR fS) DK ud (ug _ _ _ _)) ?_
   refine q1 (sHF (h_findf l[i] hv) rfl) ?_
   refine nl hK ?_
   refine AW.condS rfl (fun hb=>?_) (fun hb=>?_)
   ·have hbv:l[i].b=v:=bq hb
    refine rs hx fun K hK=>?_
    iterate 2 refine sa ?_
    refine nl hK ?_
    refine AW.ret ?_
    rw[Q6 hr hbv mR]
    exact IG h0 hok (az N) (fun j ds h=>h) rfl rfl
   ·have hbv:¬l[i].b=v:=dK hb
    refine AW.skip (rq hx fun K hK=>?_)
    iterate 2 refine sa ?_
    refine nl hK ?_
    rw[b7]
    refine⟨i+1,wkS (by rw[h0];exact az N) (az _) hok (fun j ds h=>h) (bI.cons (t:=0) (d:=fm R l) (bI.cons (t:=1) (d:=.fn 155 [kv]) (bI.cons (t:=7) (d:=dI .i64 l.length) (bI.cons (t:=8) (d:=dI .i64 (i+1:Nat)) bI.nil rfl rfl) rfl rfl) rfl (a7.2 fun k hk=>aB (by rw[ri.1 hk];exact hkv))) rfl hRi),⟨zL,fun j r' hj qu=>?_⟩,by omega⟩
    rcases d9 j i with h|h
    ·exact mR j r' h qu
    ·obtain rfl:j=i:=by omega
     rw[hr] at qu
     injection qu with qu
     rw[←qu];exact hbv
  ·refine AW.exit ?_
   have zL:i=l.length:=by have:=dK hb;omega
   refine rs hx fun K hK=>?_
   refine sa ?_
   refine nl hK ?_
   refine AW.ret ?_
   rw[Nn fun j r' qu=>mR j r' (by rw[zL];exact (fW.1 qu).1) qu]
   exact IG h0 hok (az N) (fun j ds h=>h) rfl rfl
theorem Ni {kd G:Nat}{d:Dic}(hD:DAt vs kd R G C w d)(hm:d.rows.length≤1000000):HC prog 105 [.pt kd 0,dI .i64 v] ⟨vs,lv,N⟩ (dI .i64 (dJ d.rows v)) ⟨vs,lv,N⟩:=by
 refine HC.of (rs:=[.tmp 4]) tok func105 rfl rfl (bb rfl) rfl (fun cx hx h0 hok=>?_)
 simp only[fP,Nat.reduceAdd,bw]
 have GO:=hok.lt hD.hd
 refine rs hx fun K hK=>?_
 refine s1 (fQ (cs:=[dI .i64 v])) ?_
 refine sa ?_
 refine nl hK ?_
 refine rs hx fun K hK=>?_
 iterate 3 refine sa ?_
 refine s1 (kO gM (al (show kd≠N by omega) hD.hd) (show kd<N+1 by omega) tbI) ?_
 refine s1 (FJ (ks:=[N])) ?_
 refine q1 (sHC (TW (vs:=(N,[dI .i64 v])::vs) (lv:=lv) (N:=N+1) (C:=C) (w:=w) hm (fun fS=>al (hok.ne (hD.hR fS) (az N)) (hD.hR fS)) aa) rfl (.inl (by kernel_rfl))) ?_
 refine sa ?_
 refine nl hK ?_
 exact AW.ret (IG h0 hok (jM N) (fun j ds h=>al (hok.ne h (az N)) h) rfl rfl)
end
end
def rD(aK:Int)(kR:Int):Option (Int×Int):=bnd (some (u64.wrap ((KX .u64 aK (4294967295:Int))*(KX .u64 kR (4294967295:Int))))) fun x1=>bnd (some (u64.wrap ((u64.wrap ((mA .u64 aK (32:Int))*(KX .u64 kR (4294967295:Int))))+(mA .u64 x1 (32:Int))))) fun x3=>bnd (some (u64.wrap ((KX .u64 x3 (4294967295:Int))+(u64.wrap ((KX .u64 aK (4294967295:Int))*(mA .u64 kR (32:Int))))))) fun x5=>bnd (some (u64.wrap ((u64.wrap ((u64.wrap ((mA .u64 aK (32:Int))*(mA .u64 kR (32:Int))))+(mA .u64 x3 (32:Int))))+(mA .u64 x5 (32:Int))))) fun x7=>some (x7,u64.wrap (aK*kR))
theorem Ib {aK:Int}{kR:Int}{r:Int×Int}(h:rD aK kR=some r):ar prog 183 [dI .u64 aK,dI .u64 kR] (.tu [dI .u64 r.1,dI .u64 r.2]):=by
 refine bk (rs:=[.tmp 4,.tmp 5]) (fun cx hx h0=>?_) func183
 unfold rD at h
 iterate 5 refine ra hx ?_
 refine rs hx fun K hK=>?_
 iterate 3 refine sa ?_
 obtain⟨x1,xX,h⟩:=ae h
 replace xX:=bD xX
 refine s2 (d2:=dI .u64 x1) lP (gG (congrArg (dI .u64) xX)) ?_
 refine nl hK ?_
 refine rs hx fun K hK=>?_
 iterate 6 refine sa ?_
 obtain⟨x3,S0,h⟩:=ae h
 replace S0:=bD S0
 refine s2 (d2:=dI .u64 x3) lP (gG (congrArg (dI .u64) S0)) ?_
 refine nl hK ?_
 iterate 2 refine ra hx ?_
 refine rs hx fun K hK=>?_
 iterate 5 refine sa ?_
 obtain⟨x5,GK,h⟩:=ae h
 replace GK:=bD GK
 refine s2 (d2:=dI .u64 x5) lP (gG (congrArg (dI .u64) GK)) ?_
 refine nl hK ?_
 refine rs hx fun K hK=>?_
 iterate 8 refine sa ?_
 obtain⟨x7,SZ,h⟩:=ae h
 replace SZ:=bD SZ
 refine s2 (d2:=dI .u64 x7) lP (gG (congrArg (dI .u64) SZ)) ?_
 refine nl hK ?_
 refine ra hx ?_
 refine AW.ret ?_
 cases h
 exact rv2
def vm(aK:Int)(kR:Int):Option (Int×Int):=bnd (rD aK kR) fun x1=>some (x1.1,x1.2)
theorem Mt {aK:Int}{kR:Int}{r:Int×Int}(h:vm aK kR=some r):ar prog 151 [dI .u64 aK,dI .u64 kR] (.tu [dI .u64 r.1,dI .u64 r.2]):=by
 refine bk (rs:=[.tmp 4,.tmp 5]) (fun cx hx h0=>?_) func151
 unfold vm at h
 refine ra hx ?_
 refine AW.seq (AW.condF rfl rfl (AW.skip (rs hx fun K hK=>?_)))
 refine mbr ?_
 refine scb h Ib fun x1 h=>?_
 refine nbr hK ?_
 refine ra hx ?_
 refine AW.ret ?_
 cases h
 exact rv2
theorem SX {m:Nat}(h:m<4294967296):KX .u64 (m:Int) (4294967295:Int)=(m:Int):=by
 have h1:(BitVec.ofInt 64 (m:Int) &&&BitVec.ofInt 64 (4294967295:Int)).toNat=m:=by
  have a:(BitVec.ofInt 64 (m:Int)).toNat=m:=by
   rw[BitVec.ofInt_natCast,BitVec.toNat_ofNat];omega
  have b:(BitVec.ofInt 64 (4294967295:Int)).toNat=2 ^ 32 - 1:=by decide
  rw[BitVec.toNat_and,a,b,Nat.and_two_pow_sub_one_eq_mod];omega
 show u64.wrap (((BitVec.ofInt 64 (m:Int) &&&BitVec.ofInt 64 (4294967295:Int)).toNat:Nat):Int)=m
 rw[h1]
 exact iE
theorem mul1 {n:Nat}(h:n≤1000000):vm (u64.wrap 1) (u64.wrap (n:Int))=some (0,(n:Int)):=by
 have e1:u64.wrap 1=((1:Nat):Int):=iE (n:=1) (by omega)
 have a1:=SX (m:=1) (by omega)
 have a2:=SX (m:=n) (by omega)
 have s1:=yI 1
 have s2:=yI n
 have m1:(1:Nat) / 4294967296=0:=rfl
 have m2:n / 4294967296=0:=eI (by omega)
 rw[m1] at s1
 rw[m2] at s2
 have z0:u64.wrap ((0:Nat):Int)=((0:Nat):Int):=iE (n:=0) (by omega)
 have zn:u64.wrap (n:Int)=(n:Int):=iE
 have i0:KX .u64 ((0:Nat):Int) (4294967295:Int)=((0:Nat):Int):=SX (m:=0) (by omega)
 have h0:mA .u64 ((0:Nat):Int) (32:Int)=((0:Nat):Int):=yI 0
 rw[e1,zn]
 unfold vm rD
 rw[a1,a2,s1,s2]
 simp only[bnd,Fg]
 have p1:((1:Nat):Int)*(n:Int)=(n:Int):=by omega
 have p2:((0:Nat):Int)*(n:Int)=((0:Nat):Int):=by omega
 have p3:((1:Nat):Int)*((0:Nat):Int)=((0:Nat):Int):=by omega
 have p4:((0:Nat):Int)*((0:Nat):Int)=((0:Nat):Int):=by omega
 have p5:((0:Nat):Int)+((0:Nat):Int)=((0:Nat):Int):=by omega
 rw[p1,p2,p3,p4,zn,z0,s2,p5,z0,i0,p5,z0,h0,p5,z0,p5,z0]
 rfl
section
def zP(a:Nu)(n s:Nat):List Nu:=List.replicate s a++List.replicate (n - s) default
theorem E0 {a:Nu}{n s:Nat}(h:s≤n):(zP a n s).length=n:=by
 unfold zP;rw[cJ,sS,sS];omega
theorem cont_cp {a:Nu}{n s:Nat}(h:s≤n):lCp (zP a n s) s (((((zP a n s).drop 0).take s)).take (n - s))=zP a n (s+min s (n - s)):=by
 have h1:((zP a n s).drop 0).take s=List.replicate s a:=by
  unfold zP
  rw[rp,t0 (by simp),ii (by simp)]
 rw[h1,List.take_replicate]
 unfold lCp
 rw[sS]
 unfold zP
 rw[t0 (by simp),ii (by simp),NI,sS,Db (by simp),nR,List.drop_replicate]
 rw[List.replicate_append_replicate,Nat.min_comm,show n - s - (s+min s (n - s) - s)=n - (s+min s (n - s)) by omega]
theorem zNu:ax.f (default:Nu)=zN:=rfl
theorem Gs {x:Cx}{tm tm':List (Nat×D)}{vs2 pR:List (Nat×List D)}{lv F9:List (Nat×Nat×Nat×TypeId)}{n' n2:Nat}(h0:x.hp0.next≤n')(hn:n'≤n2)(hok:cw ⟨pR,lv,n'⟩)(hv:∀j ds,pR.lookup j=some ds→vs2.lookup j=some ds)(hl:∀j y,lv.lookup j=some y→F9.lookup j=some y)(ht:bI n' tm tm'):Wk x tm ⟨vs2,F9,n2⟩ tm' ⟨pR,lv,n'⟩:=
 Wk.look h0 hn ht (fun j ds h=>⟨(hok.var j ds h).1,ds,hv j ds h,rM _,(hok.var j ds h).2⟩) fun id y h=>⟨hok.tok id y h,hl id y h⟩
section
variable {md:Md} {dst:Option Tmp} {ty:TypeId} {pos:String} {af:Array Edge} {gd:Option (Nat×Bool)} {ev:Operand→D} {hp:Hp} {k s n:Nat} {x y:Operand}
theorem slT(h:s<n)(hx:ev x=.ow k 0 36 n:=by exact rfl)(hy:ev y=dI .i64 (s:Int):=by exact rfl):nf prog tbl md ⟨dst,.slice 22 x (some y) none none,ty,pos,af,gd⟩ ev hp (.ow k (s*36) 36 (n - s)) hp:=by
 have:=slW (P:=prog) (tb:=tbl) (md:=md) (dst:=dst) (ty2:=ty) (pos:=pos) (af:=af) (gd:=gd) (ev:=ev) (hp:=hp) (x:=x) (lo:=some y) (hi:=none) (l:=(s:Int)) (h:=(n:Int)) tok ⟨by omega,by omega,by omega,by omega⟩ cg aQ ⟨.i64,hy⟩ rfl rfl hx rfl
 rw[show ((n:Int) - (s:Int)).toNat=n - s by omega,bH,bw] at this
 exact this
theorem slHd(h:s≤n)(h0:0<n)(hx:ev x=.ow k 0 36 n:=by exact rfl)(hy:ev y=dI .i64 (s:Int):=by exact rfl):nf prog tbl md ⟨dst,.slice 22 x none (some y) none,ty,pos,af,gd⟩ ev hp (.ow k (0*36) 36 s) hp:=by
 have:=slW (P:=prog) (tb:=tbl) (md:=md) (dst:=dst) (ty2:=ty) (pos:=pos) (af:=af) (gd:=gd) (ev:=ev) (hp:=hp) (x:=x) (lo:=none) (hi:=some y) (l:=(0:Int)) (h:=(s:Int)) tok ⟨by omega,by omega,by omega,by omega⟩ cg aQ rfl ⟨.i64,hy⟩ rfl hx rfl
 rw[show ((s:Int) - 0).toNat=s by omega,bw] at this
 exact this
end
section
variable {vs:List (Nat×List D)} {lv:List (Nat×Nat×Nat×TypeId)} {N n:Nat} {a:Nu}
theorem Lc(hn:n≤1000000):HC prog 103 [.e (slE ax [a]),dI .i64 n] ⟨vs,lv,N⟩ (.ow (N+1) 0 36 n) ⟨(N+1,dC ((cW ax).f (List.replicate n a)))::vs,lv,N+1+1⟩:=by
 refine HC.of (rs:=[.tmp 4]) tok func103 rfl rfl (bb rfl) rfl (fun cx hx h0 hok=>?_)
 simp only[fP,Nat.reduceAdd,bw]
 refine rs hx fun K hK=>?_
 refine s1 (d:=dO N ax ([]:List Nu)) (gi cg aQ) ?_
 refine nl hK ?_
 refine AW.seq (rs hx fun K hK=>?_)
 iterate 2 refine sa ?_
 refine nl hK ?_
 refine AW.condF rfl (def_) (AW.skip (rs hx fun K hK=>?_))
 iterate 5 refine sa ?_
 refine cq (Mt (mul1 hn)) ?_
 iterate 5 refine sa ?_
 refine nl hK ?_
 refine AW.seq (rs hx fun K hK=>?_)
 iterate 3 refine sa ?_
 iterate 2 refine ga (show decide ((0:Int)<0)=false by decide) ?_
 refine s1 (mm (show decide ((0:Int)<0)=false by decide)) ?_
 refine nl hK ?_
 refine AW.condF rfl (def_) (AW.skip (rs hx fun K hK=>?_))
 iterate 2 refine sa ?_
 rw[eh (show -9223372036854775808≤(n:Int) by omega) (by omega)]
 refine q1 (sMk (c:=ax) (z0:=default) (v:=(n:Int)) tok ⟨by omega,by omega⟩ cg aQ rfl) ?_
 rw[bH]
 refine sa ?_
 refine nl hK ?_
 have S6:xM ⟨(N+1,dC ((cW ax).f (List.replicate n default)))::vs,(N,0,36,43)::lv,N+1+1⟩ (.e (slE ax [a])) 36 1 ([a].flatMap ax.f):=xM.dat rfl (by simp[ax.h];rfl)
 refine rs hx fun K hK=>?_
 iterate 2 refine sa ?_
 refine q1 (sCpW (c:=ax) (l:=List.replicate n default) (s:=[a]) (m:=1) (n:=n) tok cg aQ S6 rfl aa 0 (by simp) rfl) ?_
 refine sa ?_
 refine nl hK ?_
 have hc0:lCp (List.replicate n (default:Nu)) 0 ([a].take n)=zP a n (min 1 n):=by
  cases n with
  |zero=>rfl
  |succ n=>
   unfold lCp zP
   rw[show min 1 (n+1)=1 by omega]
   simp[List.replicate_succ]
 rw[hc0]
 have GN:∀l:List Nu,cw ⟨(N+1,dC ((cW ax).f l))::vs,lv,N+1+1⟩:=fun l=>hok.cons (by omega) (ez _) (eG _)
 have hNlv:∀j y,lv.lookup j=some y→((N,0,36,43)::lv).lookup j=some y:=fun j y h=>(ao (by have:=hok.tok j y h;have h2:j<N:=this;omega)).trans h
 refine AW.seq (AW.block (AW.loopW (fun s:Nat=>[(7,.ow (N+1) 0 36 n),(8,dI .i64 s)]) (fun s=>⟨(N+1,dC ((cW ax).f (zP a n s)))::vs,lv,N+1+1⟩) (fun s=>s≤n∧(0<n→0<s)) (fun s=>n - s) (min 1 n) ?_ ⟨by omega,by omega⟩ ?_))
 ·exact Gs (by rw[h0];show N≤N+1+1;omega) (az _) (GN _) (fun j ds h=>by rw[xe];exact h) hNlv (bI.cons (t:=7) (d:=.ow (N+1) 0 36 n) (bI.cons (t:=8) (d:=dI .i64 (min 1 n:Nat)) bI.nil rfl rfl) rfl (aB (ez _)))
 ·rintro s ⟨hsn,hs0⟩
  refine AW.seq (rs hx fun K hK=>?_)
  iterate 4 refine sa ?_
  refine nl hK ?_
  refine AW.condS rfl (fun hb=>?_) (fun hb=>?_)
  ·have bO:s<n:=by have:=bq hb;omega
   have hs1:0<s:=hs0 (by omega)
   refine AW.skip (AW.block (rqd [] hx fun K hK=>?_))
   iterate 3 refine sa ?_
   refine q1 (slT bO) ?_
   iterate 2 refine sa ?_
   refine q1 (slHd (by omega) (by omega)) ?_
   refine q1 (sCpW (c:=ax) (l:=zP a n s) (s:=((zP a n s).drop 0).take s) (m:=s) (n:=n - s) tok cg aQ (xM.lst aa 0 (by rw[E0 hsn];omega)) (by rw[eu,rp,E0 hsn];omega) aa s (by rw[E0 hsn];omega) rfl) ?_
   rw[cont_cp hsn]
   iterate 2 refine sa ?_
   refine nl hK ?_
   rw[show i64.wrap ((s:Int)+(min s (n - s):Nat))=((s+min s (n - s):Nat):Int) by rw[eh (by omega) (by omega)];omega]
   exact⟨s+min s (n - s),wkS (by rw[h0];show N≤N+1+1;omega) (az _) (GN _) (fun j ds h=>by rw[xe];exact h) (bI.cons (t:=7) (d:=.ow (N+1) 0 36 n) (bI.cons (t:=8) (d:=dI .i64 (s+min s (n - s):Nat)) bI.nil rfl rfl) rfl (aB (ez _))),⟨by omega,by omega⟩,by omega⟩
  ·refine AW.exit ?_
   have hsn2:s=n:=by have:=dK hb;omega
   subst hsn2
   have DJ:zP a s s=List.replicate s a:=by unfold zP;simp
   rw[DJ]
   refine rs hx fun K hK=>?_
   iterate 2 refine sa ?_
   refine nl hK ?_
   exact AW.ret (⟨[(4,.ow (N+1) 0 36 s)],wkS (by rw[h0];show N≤N+1+1;omega) (az _) (GN _) (fun j ds h=>h) (bI.cons (t:=4) (d:=.ow (N+1) 0 36 s) bI.nil rfl (aB (ez _))),⟨_,aa,rfl⟩⟩)
end
end
theorem HC.args {P:Program}{f:FuncId}{ds ds':List D}{hp hp':Hp}{d:D}(hl:leL ds ds')(hc:HC P f ds' hp d hp'):HC P f ds hp d hp':=by
 obtain⟨h1,h2⟩:=DG hl
 refine⟨hc.1,fun B g w vs hr hsz cY=>hc.2 B g w vs hr (by omega) fun j e u he hu=>?_⟩
 obtain⟨d0,h3,h4⟩:=h2 he
 exact (cY j d0 u h3 hu).le h4
theorem T_bldL {dr:Bool}{ty:TypeId}{ev:Operand→D}{hp:Hp}{x y:Operand}{a:Nu}{k n:Nat}(hx:ev x=dG ax a:=by exact rfl)(hy:ev y=.ow k 0 36 n:=by exact rfl):AVC prog tbl dr (.build 73 #[(0,x),(1,y)]) ty ev hp (Kq (.ag (ba a k n)) hp):=by
 have h0:([(0,x),(1,y)]:List (Nat×Operand)).map (fun p=>(p.1,ev p.2))=[(0,dG ax a),(1,.ow k 0 36 n)]:=by simp only[iX,l6,hx,hy]
 rw[show (#[(0,x),(1,y)]:Array (Nat×Operand))=([(0,x),(1,y)]:List (Nat×Operand)).toArray from rfl,xr,h0,uD,Ar]
 have hp:my [(0,dG ax a),(1,.ow k 0 36 n)]=some [(0,dC (ax.f a)),(1,[.ow k 0 36 n])]:=rfl
 rw[hp]
 dsimp only
 refine⟨by decide,?_⟩
 have hz:∀zs:List D,zs.length=37→gp (oV tbl [(0,43),(36,22)]) zs [(0,dC (ax.f a)),(1,[.ow k 0 36 n])]=some (ba a k n):=fun zs hzs=>by
  have p0:oV tbl [(0,43),(36,22)] 0=some (0,36):=rfl
  have p1:oV tbl [(0,43),(36,22)] 1=some (36,1):=rfl
  simp only[gp,p0,p1,jb]
  rw[ai (by simp[hzs])]
  rw[ai (by simp[jb,hzs])]
  unfold ba
  rw[Fb,nR,bw,t0 (by rw[jb];exact az _),ii (by rw[jb];exact az _),Db (by simp[jb,hzs]),tG]
 rw[hz _ (by rfl)]
 exact Kq.here _ _
theorem xZ {vs:List (Nat×List D)}{lv:List (Nat×Nat×Nat×TypeId)}{N n:Nat}(hn:n≤1000000):HC prog 41 [dI .i64 n] ⟨vs,lv,N⟩ (.ag (ba (nOf 0) (N+3) n)) ⟨(N,ba (nOf 0) (N+3) n)::(N+3,dC ((cW ax).f (List.replicate n (nOf 0))))::vs,lv,N+4⟩:=by
 refine HC.of (rs:=[.cell 2 73]) tok func41 rfl rfl (bb rfl) rfl (fun cx hx h0 hok=>?_)
 simp only[fP,Nat.reduceAdd,bw]
 refine rs hx fun K hK=>?_
 refine s1 (zf (F:=zN++[.lit (.slice none 0 0)]) Ar) ?_
 refine nl hK ?_
 refine rs hx fun K hK=>?_
 refine cq (Gz 0 (by omega)) ?_
 refine cq (Gz 0 (by omega)) ?_
 refine s1 (kP [nOf 0] ax cg aQ) ?_
 refine sa ?_
 refine q1 (sHC (HC.args (ds:=[dO (N+1) ax [nOf 0],dI .i64 n]) (ds':=[.e (slE ax [nOf 0]),dI .i64 n]) ⟨SQ _,aw _,trivial⟩ (Lc hn)) rfl (.inr ⟨by show N+1+1≤N+1+1+1+1;omega,fun j hj=>ao (by have:j<N+1+1:=hj;omega)⟩)) ?_
 refine s1 T_bldL ?_
 refine s0 (HW (ys:=ba (nOf 0) (N+3) n) (bs:=dC (zN++[.lit (.slice none 0 0)])) (Pt.of [] [] rfl (by simp) (F':=id) fun y=>by simp) (al (show N≠N+1+1+1 by omega) aa) rfl Ar rfl (bZ _ _ _) rfl) ?_
 refine nl hK ?_
 refine AW.ret ?_
 have hokF:cw ⟨(N,ba (nOf 0) (N+3) n)::(N+3,dC ((cW ax).f (List.replicate n (nOf 0))))::vs,lv,N+4⟩:=(cw.cons (N:=N+4) (hok.cons (by omega) (show N+3<N+4 by omega) (eG _)) (az _) (show N<N+4 by omega) (jc (by omega)))
 refine⟨[(2,.pt N 0)],Gs (by rw[h0];show N≤N+4;omega) (az _) hokF (fun j ds h=>?_) (fun j y h=>(ao (by have:=hok.tok j y h;have h2:j<N:=this;omega)).trans h) (bI.cons (t:=2) (d:=.pt N 0) bI.nil rfl (aB (show N<N+4 by omega))),?_⟩
 ·rcases cm h with⟨rfl,rfl⟩|⟨h1,h⟩
  ·exact aa
  rcases cm h with⟨rfl,rfl⟩|⟨h2,h⟩
  ·exact al h1 aa
  ·exact al h1 (al h2 (al h1 h))
 ·refine⟨.pt N 0,aa,⟨_,Ar⟩,?_⟩
  rw[oX,Ar]
  rw[show (⟨(N,ba (nOf 0) (N+3) n)::(N+3,dC ((cW ax).f (List.replicate n (nOf 0))))::vs,lv,N+4⟩:Hp).vars.lookup N=some (ba (nOf 0) (N+3) n) from aa]
  dsimp only[Ty.agg]
  refine⟨show N<N+4 by omega,by rw[bZ];exact az _,?_⟩
  rw[rp,ii (by rw[bZ];exact az _)]
section
section
variable {md:Md} {dst:Option Tmp} {ty:TypeId} {pos:String} {af:Array Edge} {gd:Option (Nat×Bool)} {ev:Operand→D} {hp:Hp} {k n:Nat} {x y:Operand}
theorem slZ(hx:ev x=.ow k 0 36 n:=by exact rfl)(hy:ev y=dI .i64 (n:Int):=by exact rfl):nf prog tbl md ⟨dst,.slice 22 x (some y) none none,ty,pos,af,gd⟩ ev hp (.e (slE ax [])) hp:=by
 refine (Snd.calm (dr:=md.dr) fun dp _=>.pure fun B g w a hr yM=>?_).q (by cases md <;> rfl)
 have h1:=yM x (by simp[Op.operands])
 have h2:=yM y (by simp[Op.operands])
 rw[hx] at h1
 rw[hy] at h2
 have h2:=h2.lit
 have hs:=tok.run_sizeOf aQ w
 generalize hv:a.eval x=v at h1
 cases h1 with
 |ow _ _ _ _ c hk qU oY=>
  have hbd:=iI (P:=prog) (w:=w) true n c (some (.int .i64 (n:Int))) none n n (.inr ⟨.i64,rfl⟩) (.inl ⟨rfl,rfl⟩) (az _) qU
  have fin:∀A:Option Addr,aF dp g w (.e (slE ax [])) (.slice A 0 (c - n)):=fun A=>.e _ _ (.sl 36 0 [] A (c - n) (fun _=>undef) rfl (by decide) (cy _) (by omega) (fun h=>absurd h (by omega)) (fun _ _ _ _ h=>by simp at h) (fun _ _ h=>by simp at h))
  by_cases DJ:c=n
  ·subst DJ
   refine⟨.slice (some ⟨g.μ k,0,none⟩) 0 (c - c),?_,fin _⟩
   simp[execOp,Instr.sliceAt,Instr.slice,hv,h2,run_underlying (tok.slice cg rfl),hbd,hs]
  ·have fS:¬c=n:=DJ
   refine⟨.slice (some ((⟨g.μ k,0,none⟩:Addr).add (n*36))) 0 (c - n),?_,fin _⟩
   simp[execOp,Instr.sliceAt,Instr.slice,hv,h2,run_underlying (tok.slice cg rfl),hbd,hs,fS]
end
theorem iaO {dr:Bool}{ty:TypeId}{ev:Operand→D}{hp:Hp}{k o i n:Nat}{kn:IntKind}{x y:Operand}(h:i<n)(hx:ev x=.ow k (o*36) 36 n)(hy:ev y=dI kn (i:Int):=by exact rfl):AVC prog tbl dr (.indexAddr 22 x y) ty ev hp (Kq (.pt k ((o+i)*36)) hp):=by
 have:=xJ (P:=prog) (tb:=tbl) (dr:=dr) (ty:=ty) (ev:=ev) (hp:=hp) (x:=x) (y:=y) (v:=(i:Int)) (n:=n) (kn:=kn) ⟨by omega,by omega⟩ cg aQ rfl hx rfl hy
 rw[bH] at this
 rw[bP]
 exact this
theorem bI.consX {n t:Nat}{d:D}{tm tm':List (Nat×D)}(h2:bI n tm tm')(h:tm.lookup t=some d)(hi:d.ex.idsB n=true):bI n tm ((t,d.ex)::tm'):=fun p hp=>by
 rcases kY.1 hp with rfl|hp
 ·exact⟨⟨d,h,.inr rfl⟩,hi⟩
 ·exact h2 p hp
theorem TV {vs:List (Nat×List D)}{lv:List (Nat×Nat×Nat×TypeId)}{N kd R G w nn:Nat}{C:Nat→Nat}{d:Dic}(hD:DAt vs kd R G C w d)(QH:d.n=(nn:Int))(hw:nn+1≤w)(hw2:w≤1000000):
  HC prog 44 [.pt kd 0] ⟨vs,lv,N⟩ (.e (slE ax (bY d nn))) ⟨vs,lv,N⟩:=by
 refine HC.of (rs:=[.tmp 2]) tok func44 rfl rfl (bb rfl) rfl (fun cx hx h0 hok=>?_)
 simp only[fP,Nat.reduceAdd,bw]
 have GO:=hok.lt hD.hd
 have T3:=hok.lt hD.hG
 have O9:=hD.lG
 refine rs hx fun K hK=>?_
 refine s1 (d:=dO N ax ([]:List Nu)) (gi cg aQ) ?_
 refine nl hK ?_
 refine rs hx fun K hK=>?_
 refine s1 (d:=dO (N+1) ax ([]:List Nu)) (gi cg aQ) ?_
 refine nl hK ?_
 obtain⟨L,hL⟩:∃L,L=w - (nn+1):=⟨_,rfl⟩
 obtain⟨sD,hs1,hs0⟩:∃sD:D,(nn+1<w→sD=.ow G ((nn+1)*36) 36 L)∧(nn+1=w→sD=.e (slE ax [])):=by
  by_cases h:nn+1<w
  ·exact⟨_,fun _=>rfl,fun e=>by omega⟩
  ·exact⟨_,fun e=>absurd e h,fun _=>rfl⟩
 have hsi:sD.idsB (N+2)=true:=by
  by_cases h:nn+1<w
  ·rw[hs1 h];exact aB (show G<N+2 by omega)
  ·rw[hs0 (by omega)];rfl
 refine AW.seq (rsd [] hx fun K hK=>?_)
 iterate 4 refine sa ?_
 refine s1 (kO mJ.pc hD.hd (show kd<N+1+1 by omega) tbI) ?_
 iterate 3 refine sa ?_
 refine s1 (kO dic_n hD.hd (show kd<N+1+1 by omega) tbI) ?_
 rw[QH]
 refine sa ?_
 rw[b7]
 refine q1 (d:=sD) (by
  by_cases h:nn+1<w
  ·rw[hs1 h,hL];exact slT h
  ·have hw3:nn+1=w:=by omega
   rw[hs0 hw3]
   exact slZ rfl (by rw[←hw3];rfl)) ?_
 refine s1 (d:=dI .i64 L) (by
  by_cases h:nn+1<w
  ·exact CH cg aQ rfl (hs1 h)
  ·have hL0:L=0:=by omega
   rw[hL0]
   exact Vq cg aQ rfl (by show D.asSl 36 sD=_;rw[hs0 (by omega)];rfl)) ?_
 refine sa ?_
 refine nl hK ?_
 have Tp:∀u:Nat,cw ⟨vs,(N+1,u,36,43)::lv,N+1+1⟩:=fun u=>by
  refine⟨fun j ds h=>?_,fun id e h=>?_⟩
  ·obtain⟨h1,h2⟩:=hok.var j ds h
   have h1:j<N:=h1
   exact⟨show j<N+1+1 by omega,a7.2 fun d hd=>D.idsC_le (show N≤N+1+1 by omega) (a7.1 h2 d hd)⟩
  ·by_cases hid:id=N+1
   ·show id<N+1+1;omega
   ·have:=hok.tok id e (by rw[←h];exact (ao hid).symm)
    have:id<N:=this
    show id<N+1+1;omega
 refine AW.block (AW.loopW (fun u:Nat=>[(3,dO (N+1) ax (((d.gc.drop (nn+1)).take u).map eU)),(16,sD),(17,dI .i64 L),(18,dI .i64 u)]) (fun u=>⟨vs,(N+1,u,36,43)::lv,N+1+1⟩) (fun u=>u≤L) (fun u=>L - u) 0 ?_ (cy _) ?_)
 ·refine Gs (by rw[h0];show N≤N+1+1;omega) (az _) (Tp 0) (fun j ds h=>h) (fun j y h=>?_) (bI.cons (t:=3) (d:=dO (N+1) ax ([]:List Nu)) (bI.cons (t:=16) (d:=sD) (bI.cons (t:=17) (d:=dI .i64 L) (bI.cons (t:=18) (d:=dI .i64 (0:Nat)) bI.nil rfl rfl) rfl rfl) rfl hsi) rfl (aB (show N+1<N+1+1 by omega)))
  by_cases hj:j=N+1
  ·subst hj
   rw[←h]
   exact aa.trans aa.symm
  ·have h1:lv.lookup j=some y:=by rw[←h];exact (ao hj).symm
   have h2:j<N:=hok.tok j y h1
   exact (ao hj).trans ((ao (show j≠N by omega)).trans h1)
 ·intro u hu
  have QJ:(((d.gc.drop (nn+1)).take u).map eU).length=u:=by rw[bg,eu,fh];omega
  refine rs hx fun K hK=>?_
  refine sa ?_
  refine nl hK ?_
  refine AW.seq (AW.condS rfl (fun hb=>?_) (fun hb=>?_))
  ·have M0:u<L:=by have:=bq hb;omega
   refine AW.skip (AW.seq (AW.block (rs hx fun K hK=>?_)))
   refine s1 (iaO (o:=nn+1) M0 (hs1 (by omega))) ?_
   refine s1 (ldN (Pt.el d.gc (nn+1+u) (by omega)) hD.hG (show G<N+1+1 by omega)) ?_
   refine s1 LV ?_
   refine s0 (stZ aa) ?_
   refine nl hK ?_
   refine rq hx fun K hK=>?_
   refine sa ?_
   refine s1 (ldN (Pt.idN _) aa (ez _)) ?_
   refine cq (Kk _) ?_
   refine s1 (kP [eU d.gc[nn+1+u]!] ax cg aQ) ?_
   have CU:((d.gc.drop (nn+1)).take u).map eU++[eU d.gc[nn+1+u]!]=((d.gc.drop (nn+1)).take (u+1)).map eU:=by
    rw[Bb,iZ,nQ,bT d.gc (nn+1+u) (by omega),cP (by omega)]
    rfl
   refine s1 (qn (id:=N+1) (l:=((d.gc.drop (nn+1)).take u).map eU) (l':=[eU d.gc[nn+1+u]!]) cg aQ (by rw[cJ,QJ];show (u+1)*136≤140737488355328;omega) rfl rfl rfl rfl (by rw[QJ];exact (ao (show N+1≠N+1+1+1 by omega)).trans aa)) ?_
   rw[CU]
   refine sa ?_
   refine nl hK ?_
   refine rq hx fun K hK=>?_
   iterate 2 refine sa ?_
   refine nl hK ?_
   rw[b7]
   have hlu1:(((d.gc.drop (nn+1)).take (u+1)).map eU).length=u+1:=by rw[←CU,cJ,QJ];rfl
   refine⟨u+1,Gs (by rw[h0];show N≤N+1+1;omega) (show N+1+1≤N+1+1+1+1 by omega) (Tp (u+1)) (fun j ds h=>?_) (fun j y h=>?_) (bI.cons (t:=3) (d:=dO (N+1) ax (((d.gc.drop (nn+1)).take (u+1)).map eU)) (bI.cons (t:=16) (d:=sD) (bI.cons (t:=17) (d:=dI .i64 L) (bI.cons (t:=18) (d:=dI .i64 (u+1:Nat)) bI.nil rfl rfl) rfl rfl) rfl hsi) rfl (aB (show N+1<N+1+1 by omega))),M0,by omega⟩
   ·have hj:j<N:=hok.lt h
    exact al (show j≠N+1+1 by omega) (al (show j≠N+1+1 by omega) h)
   ·by_cases hj:j=N+1
    ·subst hj
     have h1:some (u+1,36,43)=some y:=by rw[←h];exact aa.symm
     rw[←h1]
     exact aa.trans (by rw[hlu1])
    ·have h1:lv.lookup j=some y:=by rw[←h];exact (ao hj).symm
     have h2:j<N:=hok.tok j y h1
     exact (ao hj).trans ((ao (show j≠N+1+1+1 by omega)).trans ((ao hj).trans h1))
  ·refine AW.exit ?_
   have M0:u=L:=by have:=dK hb;omega
   refine rs hx fun K hK=>?_
   iterate 2 refine sa ?_
   refine nl hK ?_
   refine AW.ret ?_
   have wF:((d.gc.drop (nn+1)).take u).map eU=bY d nn:=by
    unfold bY
    rw[ii (by rw[fh];omega)]
   rw[wF]
   exact⟨[(2,D.ex (dO (N+1) ax (bY d nn)))],Gs (by rw[h0];exact az N) (show N≤N+1+1 by omega) hok (fun j ds h=>h) (fun j y h=>(ao (by have h2:j<N:=hok.tok j y h;omega)).trans h) (bI.consX bI.nil rfl rfl),⟨_,aa,rfl⟩⟩
end
section
section
variable {vs vs2 pR:List (Nat×List D)} {lv F9:List (Nat×Nat×Nat×TypeId)} {N M n2 k:Nat}
theorem cw.up(hok:cw ⟨vs,lv,N⟩)(h:N≤M):cw ⟨vs,lv,M⟩:=
 ⟨fun j es hj=>by obtain⟨h1,h2⟩:=hok.var j es hj;exact⟨bM h1 h,a7.2 fun d hd=>D.idsC_le h (a7.1 h2 d hd)⟩,fun id e hi=>bM (hok.tok id e hi) h⟩
theorem cw.consM {ds:List D}(hok:cw ⟨vs,lv,M⟩)(hk:k<M)(hd:ds.all (D.idsC M)=true):cw ⟨(k,ds)::vs,lv,M⟩:=hok.cons (az M) hk hd
theorem wk1 {x:Cx}{tm tm':List (Nat×D)}{vs0:List (Nat×List D)}{lv0:List (Nat×Nat×Nat×TypeId)}{N0 n':Nat}(h0:x.hp0=⟨vs0,lv0,N0⟩)(hN:N0≤n':=by omega)(hn:n'≤n2:=by omega)(hok:cw ⟨pR,lv,n'⟩:=by (repeat (first|assumption|refine cw.consM ?_ (by omega) (by (first|exact eG _|exact jc (by omega)|exact sE (by omega) (by omega)|assumption|exact rfl|(simp only[gh,io,eQ];exact det_)))|exact cw.up (by assumption) (by omega))))
  (hv:∀j ds,pR.lookup j=some ds→vs2.lookup j=some ds:=by (intro j ds h;(repeat (rcases cm h with⟨rfl,rfl⟩|⟨hj,h⟩;·(repeat (first|exact aa|assumption|refine al (by first|assumption|exact mK (by assumption)|omega) ?_))));have hjN:=cw.lt (by assumption) h;(repeat (first|exact aa|assumption|refine al (by first|assumption|exact mK (by assumption)|omega) ?_)))) (ht:bI n' tm tm':=by (repeat (first|exact bI.nil|refine bI.cons ?_ (by exact rfl) (by (first|exact rfl|assumption|exact det_|exact a7.2 (fun k hk=>aB (by simp only[kY,rj,or_false] at hk;omega))))))):Wk x tm ⟨vs2,lv,n2⟩ tm' ⟨pR,lv,n'⟩:=wkS (by rw[h0];exact hN) hn hok hv ht
theorem rt1 {x:Cx}{tm:List (Nat×D)}{q:Nat}{d:D}(h0:x.hp0=⟨vs,lv,N⟩)(hok:cw ⟨pR,lv,N⟩:=by (repeat (first|assumption|refine cw.consM ?_ (by omega) (by (first|exact eG _|exact jc (by omega)|exact sE (by omega) (by omega)|assumption|exact rfl|(simp only[gh,io,eQ];exact det_)))|exact cw.up (by assumption) (by omega))))(hN:N≤n2:=by omega)(hv:∀j ds,pR.lookup j=some ds→vs2.lookup j=some ds:=by (intro j ds h;(repeat (rcases cm h with⟨rfl,rfl⟩|⟨hj,h⟩;·(repeat (first|exact aa|assumption|refine al (by first|assumption|exact mK (by assumption)|omega) ?_))));have hjN:=cw.lt (by assumption) h;(repeat (first|exact aa|assumption|refine al (by first|assumption|exact mK (by assumption)|omega) ?_))))(hq:tm.lookup q=some d:=by exact rfl)(hd:d.idsB N=true:=by (first|exact rfl|assumption|exact det_|exact a7.2 (fun k hk=>aB (by simp only[kY,rj,or_false] at hk;omega)))):
  ∃tm',Wk x tm ⟨vs2,lv,n2⟩ tm' ⟨pR,lv,N⟩∧t5 tbl [.tmp q] tm' ⟨pR,lv,N⟩ d:=
 ⟨[(q,d)],wkS (by rw[h0];exact az N) hN hok hv (bI.nil.cons hq hd),⟨d,aa,rfl⟩⟩
theorem rt2 {x:Cx}{tm:List (Nat×D)}{q p:Nat}{d e:D}(h0:x.hp0=⟨vs,lv,N⟩)(hok:cw ⟨pR,lv,N⟩:=by (repeat (first|assumption|refine cw.consM ?_ (by omega) (by (first|exact eG _|exact jc (by omega)|exact sE (by omega) (by omega)|assumption|exact rfl|(simp only[gh,io,eQ];exact det_)))|exact cw.up (by assumption) (by omega))))(hN:N≤n2:=by omega)(hv:∀j ds,pR.lookup j=some ds→vs2.lookup j=some ds:=by (intro j ds h;(repeat (rcases cm h with⟨rfl,rfl⟩|⟨hj,h⟩;·(repeat (first|exact aa|assumption|refine al (by first|assumption|exact mK (by assumption)|omega) ?_))));have hjN:=cw.lt (by assumption) h;(repeat (first|exact aa|assumption|refine al (by first|assumption|exact mK (by assumption)|omega) ?_))))(hq:tm.lookup q=some d:=by exact rfl)(hp:tm.lookup p=some e:=by exact rfl)(hd:d.idsB N=true:=by (first|exact rfl|assumption|exact det_|exact a7.2 (fun k hk=>aB (by simp only[kY,rj,or_false] at hk;omega))))(he:e.idsB N=true:=by (first|exact rfl|assumption|exact det_|exact a7.2 (fun k hk=>aB (by simp only[kY,rj,or_false] at hk;omega))))(fS:p≠q:=by decide):
  ∃tm',Wk x tm ⟨vs2,lv,n2⟩ tm' ⟨pR,lv,N⟩∧t5 tbl [.tmp q,.tmp p] tm' ⟨pR,lv,N⟩ (.tu [d,e]):=
 ⟨[(q,d),(p,e)],wkS (by rw[h0];exact az N) hN hok hv ((bI.nil.cons hp he).cons hq hd),⟨d,aa,⟨e,(ao fS).trans aa,rfl⟩⟩⟩
end
section
variable {md:Md} {ops:Array Oper} {K:List (Nat×D)→Hp→Prop} {os:List Oper} {tm:List (Nat×D)} {hp hp':Hp} {t s:Tmp} {op:Op} {ty:TypeId} {pos:String} {af:Array Edge} {d:D} {j k o n i:Nat} {want c:Bool} {F F2:List D} {F':List D→List D} {a b:Nu} {x y:Operand}
theorem gn(hw:c= !want)(h2:a8 prog tbl md ops K os ((t,.tu [])::tm) hp)(hj:(ops[j]?).bind (·.dst)=some s:=by exact rfl)(hc:tm.lookup s=some (.e (.lit (.bool c))):=by exact rfl):a8 prog tbl md ops K (⟨some t,op,ty,pos,af,some (j,want)⟩::os) tm hp:=Es hj hc hw h2
theorem gm(h2:a8 prog tbl md ops K os ((t,.tu [])::tm) hp)(hj:(ops[j]?).bind (·.dst)=some s:=by exact rfl)(hc:tm.lookup s=some (.tu []):=by exact rfl):a8 prog tbl md ops K (⟨some t,op,ty,pos,af,some (j,want)⟩::os) tm hp:=SG hj hc h2
theorem l1(L:Pt F o (dC (ax.f a)) F')(h2:a8 prog tbl md ops K os ((t,dG ax a)::tm) hp)(hx:evD tm x=.pt k o:=by exact rfl)(hv:hp.vars.lookup k=some F:=by (repeat (first|exact aa|assumption|refine al (by first|assumption|exact mK (by assumption)|omega) ?_)))(hk:k<hp.next:=by (first|omega|(dsimp only;omega)))(hn:md.nc tbl (.load 43 x)=true:=by exact rfl):a8 prog tbl md ops K (⟨some t,.load 43 x,ty,pos,af,none⟩::os) tm hp:=s1 (ldN L hv hk hx) h2 hn
theorem t1 {vs:List (Nat×List D)}{lv:List (Nat×Nat×Nat×TypeId)}{N:Nat}(L:Pt F o (dC (ax.f a)) F')(h3:F' (dC (ax.f b))=F2)(h2:a8 prog tbl md ops K os tm ⟨(k,F2)::vs,lv,N⟩)(hx:evD tm x=.pt k o:=by exact rfl)(hv:vs.lookup k=some F:=by (repeat (first|exact aa|assumption|refine al (by first|assumption|exact mK (by assumption)|omega) ?_)))(hy:evD tm y=dG ax b:=by exact rfl)(hn:md.nc tbl (.store 43 x y)=true:=by exact rfl):a8 prog tbl md ops K (⟨none,.store 43 x y,ty,pos,af,none⟩::os) tm ⟨vs,lv,N⟩:=s0 (stN L hv h3 hx hy rfl) h2 hn
theorem l1g(L:Pt F o (dC (ax.f a)) F')(hw:c=want)(h2:a8 prog tbl md ops K os ((t,dG ax a)::tm) hp)(hx:evD tm x=.pt k o:=by exact rfl)(hv:hp.vars.lookup k=some F:=by (repeat (first|exact aa|assumption|refine al (by first|assumption|exact mK (by assumption)|omega) ?_)))(hk:k<hp.next:=by (first|omega|(dsimp only;omega)))(hj:(ops[j]?).bind (·.dst)=some s:=by exact rfl)(hc:tm.lookup s=some (.e (.lit (.bool c))):=by exact rfl)(hn:md.nc tbl (.load 43 x)=true:=by exact rfl):a8 prog tbl md ops K (⟨some t,.load 43 x,ty,pos,af,some (j,want)⟩::os) tm hp:=g1 hw (ldN L hv hk hx) h2 hj hc hn
theorem cqg {f:FuncId}{la:List Operand}{ts:Array TypeId}{ds:List D}{r:D}(hc:ar prog f ds r)(hw:c=want)(h2:a8 prog tbl md ops K os ((t,r)::tm) hp)(hj:(ops[j]?).bind (·.dst)=some s:=by exact rfl)(hg:tm.lookup s=some (.e (.lit (.bool c))):=by exact rfl)(jP:((la.map (evD tm)).map D.ex).all D.pure=true:=by repeat (first|exact pn|refine pA (cl _ _) ?_|refine pA rfl ?_))(hl:leL ((la.map (evD tm)).map D.ex) ds:=by repeat (first|exact lAn|refine lC (nZ _ _) ?_|refine lC (aw _) ?_))(hr:r.pure=true∨∃ds,r=.tu ds:=by (first|exact .inl (jS _ _)|exact .inl rfl|exact .inr ⟨_,rfl⟩)):
  a8 prog tbl md ops K (⟨some t,.call ⟨.value (.func f),la.toArray,ts⟩,ty,pos,af,some (j,want)⟩::os) tm hp:=sqg tok hj hg hw hc jP hl hr h2
theorem n1 {vs:List (Nat×List D)}{lv:List (Nat×Nat×Nat×TypeId)}{N:Nat}(h2:a8 prog tbl md ops K os ((t,.pt N 0)::tm) ⟨(N,dC zN)::vs,lv,N+1⟩)(hn:md.nc tbl (.alloc 43)=true:=by exact rfl):a8 prog tbl md ops K (⟨some t,.alloc 43,ty,pos,af,none⟩::os) tm ⟨vs,lv,N⟩:=s1 LV h2 hn
theorem z1 {vs:List (Nat×List D)}{lv:List (Nat×Nat×Nat×TypeId)}{N:Nat}(h2:a8 prog tbl md ops K os tm ⟨(k,(dC (ax.f b)))::vs,lv,N⟩)(hx:evD tm x=.pt k 0:=by exact rfl)(hv:vs.lookup k=some (dC zN):=by (repeat (first|exact aa|assumption|refine al (by first|assumption|exact mK (by assumption)|omega) ?_)))(hy:evD tm y=dG ax b:=by exact rfl)(hn:md.nc tbl (.store 43 x y)=true:=by exact rfl):a8 prog tbl md ops K (⟨none,.store 43 x y,ty,pos,af,none⟩::os) tm ⟨vs,lv,N⟩:=s0 (stZ hv hx hy rfl) h2 hn
theorem c1 {tt:TypeId}{ti:TyE}(L:Pt F o [d] F')(h2:a8 prog tbl md ops K os ((t,d)::tm) hp)(hx:evD tm x=.pt k o:=by exact rfl)(hv:hp.vars.lookup k=some F:=by (repeat (first|exact aa|assumption|refine al (by first|assumption|exact mK (by assumption)|omega) ?_)))(hk:k<hp.next:=by (first|omega|(dsimp only;omega)))(ht:tbl tt=some ti:=by exact tbI)(hg:ti.ty.agg=false:=by exact rfl)(hn:md.nc tbl (.load tt x)=true:=by exact rfl):a8 prog tbl md ops K (⟨some t,.load tt x,ty,pos,af,none⟩::os) tm hp:=s1 (kO L hv hk ht hg hx) h2 hn
theorem c1g {tt:TypeId}{ti:TyE}(L:Pt F o [d] F')(hw:c=want)(h2:a8 prog tbl md ops K os ((t,d)::tm) hp)(hx:evD tm x=.pt k o:=by exact rfl)(hv:hp.vars.lookup k=some F:=by (repeat (first|exact aa|assumption|refine al (by first|assumption|exact mK (by assumption)|omega) ?_)))(hk:k<hp.next:=by (first|omega|(dsimp only;omega)))(ht:tbl tt=some ti:=by exact tbI)(hg:ti.ty.agg=false:=by exact rfl)(hj:(ops[j]?).bind (·.dst)=some s:=by exact rfl)(hc:tm.lookup s=some (.e (.lit (.bool c))):=by exact rfl)(hn:md.nc tbl (.load tt x)=true:=by exact rfl):a8 prog tbl md ops K (⟨some t,.load tt x,ty,pos,af,some (j,want)⟩::os) tm hp:=g1 hw (kO L hv hk ht hg hx) h2 hj hc hn
theorem p1 {tt:TypeId}{ti:TyE}{bs:List D}(L:Pt F o bs F')(hz:bs.length=ti.size)(h2:a8 prog tbl md ops K os ((t,.ag bs)::tm) hp)(hx:evD tm x=.pt k o:=by exact rfl)(hv:hp.vars.lookup k=some F:=by (repeat (first|exact aa|assumption|refine al (by first|assumption|exact mK (by assumption)|omega) ?_)))(hk:k<hp.next:=by (first|omega|(dsimp only;omega)))(ht:tbl tt=some ti:=by exact tbI)(hg:ti.ty.agg=true:=by exact rfl)(hn:md.nc tbl (.load tt x)=true:=by exact rfl):a8 prog tbl md ops K (⟨some t,.load tt x,ty,pos,af,none⟩::os) tm hp:=s1 (Dg L hv hk ht hz hg hx) h2 hn
theorem v1 {vs:List (Nat×List D)}{lv:List (Nat×Nat×Nat×TypeId)}{N:Nat}{tt:TypeId}{ti:TyE}{bs ys:List D}(L:Pt F o bs F')(hz:bs.length=ti.size)(hl:ys.length=bs.length)(h3:F' ys=F2)(h2:a8 prog tbl md ops K os tm ⟨(k,F2)::vs,lv,N⟩)(hx:evD tm x=.pt k o:=by exact rfl)(hv:vs.lookup k=some F:=by (repeat (first|exact aa|assumption|refine al (by first|assumption|exact mK (by assumption)|omega) ?_)))(hyc:(evD tm y).cells=some ys:=by exact rfl)(ht:tbl tt=some ti:=by exact tbI)(hn:md.nc tbl (.store tt x y)=true:=by exact rfl):a8 prog tbl md ops K (⟨none,.store tt x y,ty,pos,af,none⟩::os) tm ⟨vs,lv,N⟩:=s0 (HW L hv hyc ht hz hl h3 hx rfl) h2 hn
theorem i1(h:i<n)(h2:a8 prog tbl md ops K os ((t,.pt k (i*36))::tm) hp)(hx:evD tm x=.ow k 0 36 n:=by exact rfl)(hy:evD tm y=dI .i64 (i:Int):=by exact rfl)(hn:md.nc tbl (.indexAddr 22 x y)=true:=by exact rfl):a8 prog tbl md ops K (⟨some t,.indexAddr 22 x y,ty,pos,af,none⟩::os) tm hp:=s1 (iaN h hx hy) h2 hn
theorem r1(h:i<n)(h2:a8 prog tbl md ops K os ((t,.pt k (i*38))::tm) hp)(hx:(evD tm x).toOw=.ow k 0 38 n:=by exact rfl)(hy:(evD tm y).toOw=dI .i64 (i:Int):=by exact rfl)(hn:md.nc tbl (.indexAddr 71 x y)=true:=by exact rfl):a8 prog tbl md ops K (⟨some t,.indexAddr 71 x y,ty,pos,af,none⟩::os) tm hp:=stG (d:=.pt k (i*38)) tok (iaR h hx hy) h2 hn
theorem r1g'(h:i<n)(hw:c=want)(h2:a8 prog tbl md ops K os ((t,.pt k (i*38))::tm) hp)(hx:evD tm x=.gw k 38 n:=by exact rfl)(hy:evD tm y=dI .i64 (i:Int):=by exact rfl)(hj:(ops[j]?).bind (·.dst)=some s:=by exact rfl)(hc:tm.lookup s=some (.e (.lit (.bool c))):=by exact rfl)(hn:md.nc tbl (.indexAddr 71 x y)=true:=by exact rfl):a8 prog tbl md ops K (⟨some t,.indexAddr 71 x y,ty,pos,af,some (j,want)⟩::os) tm hp:=
 OA hj hc (by subst hw;cases c <;> rfl) (nf.toOw ((AVC.snd (o:=⟨some t,.indexAddr 71 x y,ty,pos,af,some (j,want)⟩) tok (iaR h (by rw[hx];rfl) (by rw[hy];rfl))).q1 hn)) h2
theorem a1 {vs:List (Nat×List D)}{lv:List (Nat×Nat×Nat×TypeId)}{N:Nat}{tt:TypeId}{ti:TyE}{F:List E}(ht:tbl tt=some ti)(h2:a8 prog tbl md ops K os ((t,.pt N 0)::tm) ⟨(N,dC F)::vs,lv,N+1⟩)(hz:ti.zero.map E.lit=F:=by kernel_rfl)(hn:md.nc tbl (.alloc tt)=true:=by exact rfl):a8 prog tbl md ops K (⟨some t,.alloc tt,ty,pos,af,none⟩::os) tm ⟨vs,lv,N⟩:=s1 (zf ht hz) h2 hn
end
end
def rv(x:Nu):Rat:=(cC x.1).getD 0
theorem bF {x:Nu}:au x=true↔cC x.1=some (rv x):=by
 rw[eK];unfold rv
 cases cC x.1 <;> simp
theorem Lf {x:Nu}(h:au x=true):mn (rv x):=(dQ.1 (bF.1 h)).1
theorem DM {x:Nu}(h:au x=true):x=nuR (some (rv x)):=Subtype.ext (Un (bF.1 h))
theorem ES {x y:Nu}(hx:au x=true)(hy:au y=true)(h:rv x=rv y):x=y:=by
 rw[DM hx,DM hy,h]
theorem oS {o:Option Rat}(h:Ch o):cC (nuR o).1=o:=Bv h
theorem uh {q:Rat}(h:mn q):au (nuR (some q))=true∧rv (nuR (some q))=q:=by
 have:cC (nuR (some q)).1=some q:=oS (o:=some q) fun p hp=>by injection hp with hp;rw[←hp];exact h
 rw[eK];unfold rv
 rw[this]
 exact⟨rfl,rfl⟩
theorem fit0:mn 0:=⟨by decide,by decide⟩
theorem fit1:mn 1:=⟨by decide,by decide⟩
theorem LIM_one:1<LIM:=by decide
theorem of0:au (nOf 0)=true∧rv (nOf 0)=0:=uh (q:=((0:Int):Rat)) fit0
theorem of1:au (nOf 1)=true∧rv (nOf 1)=1:=uh (q:=((1:Int):Rat)) fit1
theorem ofm1:au (nOf (-1))=true∧rv (nOf (-1))=-1:=uh (q:=((-1:Int):Rat)) (Lk fit1)
theorem pX {x:Nu}(h:au x=true):bE x=(rv x).num.sign:=by rw[BU,bF.1 h];rfl
theorem At {x:Nu}(h:au x=true):bE x=0↔rv x=0:=by
 rw[pX h,Cv]
 exact Rat.num_eq_zero
theorem KH {q:Rat}:0<q.num↔0<q:=by
 rw[Rat.lt_iff];simp
theorem Er {q:Rat}:q.num<0↔q<0:=by
 rw[Rat.lt_iff];simp
theorem KA {x:Nu}(h:au x=true):0<bE x↔0<rv x:=by
 rw[pX h,Int.sign_pos_iff];exact KH
theorem r7 {x:Nu}(h:au x=true):bE x<0↔rv x<0:=by
 rw[pX h,Fk];exact Er
theorem IB {x y:Nu}(hx:au x=true)(hy:au y=true)(h:au (jw x y)=true):rv (jw x y)=rv x+rv y:=by
 have h1:=bF.1 h
 rw[oW] at h1 ⊢
 rw[oS (AD _ _),bF.1 hx,bF.1 hy] at h1
 have h2:Dk (rv x) (rv y)=some (rv (nuR (Iy (some (rv x)) (some (rv y))))):=h1
 rw[bF.1 hx,bF.1 hy]
 unfold Dk at h2
 split at h2
 ·injection h2 with h2;exact h2.symm
 ·cases h2
theorem IA {x y:Nu}(hx:au x=true)(hy:au y=true)(h:au (lX x y)=true):rv (lX x y)=rv x*rv y:=by
 have h1:=bF.1 h
 rw[r9] at h1 ⊢
 rw[oS (Eo _ _)] at h1
 rw[bF.1 hx,bF.1 hy] at h1 ⊢
 have h2:BL (rv x) (rv y)=some (rv (nuR (BQ (some (rv x)) (some (rv y))))):=h1
 unfold BL at h2
 split at h2
 ·injection h2 with h2;exact h2.symm
 ·cases h2
theorem xg {x y:Nu}(h:au (jw x y)=true):au x=true∧au y=true:=by
 rw[eK,oW,oS (AD _ _)] at h
 rw[eK,eK]
 cases h1:cC x.1 <;> cases h2:cC y.1 <;> simp_all [Iy]
theorem T7 {x y:Nu}(h:au (lX x y)=true):au x=true∧au y=true:=by
 rw[eK,r9,oS (Eo _ _)] at h
 rw[eK,eK]
 cases h1:cC x.1 <;> cases h2:cC y.1 <;> simp_all [BQ]
theorem ob {x:Nu}:au (eU x)=au x:=by
 rw[eK,eK,xb,oS (AC (AY _))]
 cases cC x.1 <;> rfl
theorem ik {x:Nu}:rv (eU x)=-rv x:=by
 unfold rv
 rw[xb,oS (AC (AY _))]
 cases cC x.1
 ·simp[Qq]
 ·rfl
theorem uy {x y:Nu}(h:au (oJ x y)=true):au x=true∧au y=true∧rv y≠0∧rv (oJ x y)=rv x / rv y:=by
 have h1:=bF.1 h
 rw[Et] at h1 ⊢
 rw[oS (SD _ _)] at h1
 have hx:au x=true:=by
  rw[eK]
  cases h2:cC x.1 with
  |some _=>rfl
  |none=>rw[h2] at h1;cases h1
 have hy:au y=true:=by
  rw[eK]
  cases h2:cC y.1 with
  |some _=>rfl
  |none=>rw[h2] at h1;unfold GG BQ MJ at h1;cases h3:cC x.1 <;> simp[h3] at h1
 rw[bF.1 hx,bF.1 hy] at h1 ⊢
 by_cases h0:rv y=0
 ·unfold GG BQ MJ at h1
  simp[h0] at h1
 ·have h2:BL (rv x) (rv y)⁻¹=some (rv (nuR (GG (some (rv x)) (some (rv y))))):=by
   rw[←h1]
   unfold GG BQ MJ
   simp[h0]
  refine⟨hx,hy,h0,?_⟩
  unfold BL at h2
  split at h2
  ·injection h2 with h2;rw[←h2,iS]
  ·cases h2
theorem Hg {q y:Nu}(hq:au q=true)(h0:rv q=0)(hy:au y=true):lX q y=nOf 0:=by
 unfold nOf
 rw[r9,bF.1 hq,bF.1 hy,h0]
 show nuR (BL 0 (rv y))=_
 unfold BL
 rw[Jr,ah fit0]
 rfl
theorem zG {q:Nu}(hq:au q=true):lX q (nOf 0)=nOf 0:=by
 have h1:cC (nOf 0).1=some 0:=by have:=bF.1 of0.1;rw[of0.2] at this;exact this
 rw[r9,bF.1 hq,h1]
 show nuR (BL (rv q) 0)=_
 unfold BL
 rw[sL,ah fit0]
 rfl
theorem Hb {x:Rat}(h:mn x):Dk x 0=some x:=by
 unfold Dk
 rw[ah,Rat.add_zero]
 have h1:Nat.gcd x.den (0:Rat).den=1:=Nat.gcd_one_right _
 rw[h1]
 have e1:(0:Rat).den=1:=rfl
 have e2:(0:Rat).num=0:=rfl
 have:=LIM_one
 rw[e1,e2]
 simp only[nE,Int.mul_one,Jp,Int.add_zero,zb]
 exact⟨by simpa using h.1,by simp;omega,by simpa using h.1,h.2⟩
theorem xV {x:Nu}(hx:au x=true):jw x (nOf 0)=x:=by
 have h1:=bF.1 hx
 rw[oW,h1,show cC (nOf 0).1=some 0 from by have:=bF.1 of0.1;rw[of0.2] at this;exact this]
 show nuR (Dk (rv x) 0)=x
 rw[Hb (Lf hx)]
 exact (DM hx).symm
theorem Hh {x q y:Nu}(hx:au x=true)(hq:au q=true)(hy:au y=true)(h0:bE q=0):jw x (lX q y)=x:=by
 rw[Hg hq ((At hq).1 h0) hy,xV hx]
theorem good0 {x:Nu}(h:au x=true)(h0:bE x=0):x=nOf 0:=ES h of0.1 (((At h).1 h0).trans of0.2.symm)
structure Lin where
 k:Nu
 c:List Nu
instance:Inhabited Lin:=⟨⟨default,[]⟩⟩
def goodR(l:Lin):Bool:=gl l.k l.c
def BN(l row:Lin)(s:Nat):Lin:=⟨jw l.k (lX l.c[s]! row.k),(List.range l.c.length).map fun t=>if t=s then nOf 0 else jw l.c[t]! (lX l.c[s]! row.c[t]!)⟩
theorem Ku(p:Nu)(l:List Nu):∀t,t≤l.length→tp p t l=(l.take t).map (fun x=>oJ (eU x) p)++l.drop t
 |0,_=>by simp[tp]
 |t+1,h=>by
  have ih:=Ku p l t (by omega)
  unfold tp
  have hl:((l.take t).map fun x=>oJ (eU x) p).length=t:=by simp;omega
  have hg:(tp p t l)[t]! =l[t]:=by
   rw[ih,zW,qi (by omega),hl,zV,nQ,iT,cP (by omega)]
   rfl
  rw[hg,ih,List.set_append_right _ _ (by omega),hl,zV,FA (by omega),List.set_cons_zero,Bb,cP (by omega)]
  simp only[iZ,dh,iX,l6,Fh,nR,Option.toList]
theorem Qc(p:Nu)(l:List Nu):tp p l.length l=l.map fun x=>oJ (eU x) p:=by
 rw[Ku p l _ (az _)];simp
theorem uz {α:Type}[Inhabited α]{l:List α}{i:Nat}(h:i<l.length):l[i]? =some l[i]! :=by rw[bT l i h];exact cP h
theorem cZ {α:Type}[Inhabited α]{l:List α}{i:Nat}{x:α}(h:l[i]? =some x):l[i]! =x:=by rw[zW,h];rfl
theorem Qk {n i:Nat}(h:i<n):(List.range n)[i]? =some i:=by rw[cP (by simpa using h),N4]
theorem bS {α:Type}{n i:Nat}(f:Nat→α)(h:i<n):((List.range n).map f)[i]? =some (f i):=by rw[dW,Qk h];rfl
theorem nK {α:Type}[Inhabited α]{l:List α}{n:Nat}{f:Nat→α}(hl:l.length=n)(h:∀i,i<n→l[i]! =f i):l=(List.range n).map f:=by
 apply LI
 intro i
 by_cases hi:i<n
 ·rw[uz (by omega),bS f hi,h i hi]
 ·rw[rH (by omega),rH (by simp;omega)]
theorem eJ {α:Type}[Inhabited α]{l:List α}{i j:Nat}{x:α}(hj:j<l.length):(l.set i x)[j]! =if i=j then x else l[j]! :=by
 apply cZ
 rw[List.getElem?_set]
 by_cases h:i=j
 ·subst h;simp[hj]
 ·rw[ai h,ai h,uz hj]
theorem JF(q:Nu)(xc:List Nu)(s:Nat)(l:List Nu):∀t i,i<l.length→(yx q xc s t l)[i]! =if i<t∧i≠s then jw l[i]! (lX q xc[i]!) else l[i]!
 |0,i,_=>by rw[ifn_];rfl
 |t+1,i,h=>by
  have ih:=JF q xc s l t
  unfold yx
  by_cases rO:(t:Int)=(s:Int)
  ·rw[ah rO,ih i h]
   by_cases hi:i<t∧i≠s
   ·rw[ah hi,ifp_]
   ·rw[ai hi,ifn_]
  ·rw[ai rO,eJ (by rw[qS];exact h)]
   by_cases yO:t=i
   ·subst yO
    rw[ah rfl,ifp_,ih t h,ifn_]
   ·rw[ai yO,ih i h]
    by_cases hi:i<t∧i≠s
    ·rw[ah hi,ifp_]
    ·rw[ai hi,ifn_]
theorem DS(q:Nu)(xc:List Nu)(l:List Nu):∀t i,i<l.length→(yx q xc (-1) t l)[i]! =if i<t then jw l[i]! (lX q xc[i]!) else l[i]!
 |0,i,_=>by rw[ifn_];rfl
 |t+1,i,h=>by
  have ih:=DS q xc l t
  unfold yx
  rw[ifn_,eJ (by rw[qS];exact h)]
  by_cases yO:t=i
  ·subst yO
   rw[ah rfl,ifp_,ih t h,ifn_]
  ·rw[ai yO,ih i h]
   by_cases hi:i<t
   ·rw[ah hi,ifp_]
   ·rw[ai hi,ifn_]
theorem all_get {l:List Nu}(h:l.all au=true){i:Nat}(hi:i<l.length):au l[i]! =true:=by
 rw[bT l i hi];exact a7.1 h _ (n7 hi)
theorem Jh {l:List Nu}(h:∀i,i<l.length→au l[i]! =true):l.all au=true:=by
 rw[a7]
 intro x hx
 obtain⟨i,hi,rfl⟩:=xy.1 hx
 have:=h i hi
 rwa[bT l i hi] at this
theorem br {k:Nu}{c:List Nu}:gl k c=true↔au k=true∧∀i,i<c.length→au c[i]! =true:=by
 unfold gl
 rw[bK]
 exact⟨fun h=>⟨h.1,fun i hi=>all_get h.2 hi⟩,fun h=>⟨h.1,Jh h.2⟩⟩
def g5(k:Nu)(c:List Nu)(r1:Row)(s:Nat):Lin:=⟨xG c[s]! r1.k k,uI c[s]! r1.c s (c.set s (nOf 0))⟩
theorem r8(k:Nu)(c:List Nu)(r1:Row)(s:Nat):(g5 k c r1 s).c.length=c.length:=by unfold g5;rw[uH,c7]
theorem putP_eq {k:Nu}{c:List Nu}{r1:Row}{s:Nat}(hg:gl k c=true)(hr:gl r1.k r1.c=true)(hs:s<c.length)(hl:r1.c.length=c.length):g5 k c r1 s=BN ⟨k,c⟩ ⟨r1.k,r1.c⟩ s:=by
 obtain⟨h1,h2⟩:=br.1 hg
 obtain⟨h3,h4⟩:=br.1 hr
 have hq:=h2 s hs
 unfold g5 BN xG uI
 by_cases h0:bE c[s]! =0
 ·rw[ah h0,ah h0]
  congr 1
  ·exact (Hh h1 hq h3 h0).symm
  ·refine nK (by rw[c7]) fun i hi=>?_
   have hi:i<c.length:=hi
   rw[eJ hi]
   by_cases his:s=i
   ·rw[ah his,ah his.symm]
   ·rw[ai his,ai (fun e=>his e.symm)]
    exact (Hh (h2 i hi) hq (h4 i (by omega)) h0).symm
 ·rw[ai h0,ai h0]
  congr 1
  refine nK (by rw[qS,c7]) fun i hi=>?_
  have hi:i<c.length:=hi
  rw[JF _ _ _ _ _ i (by rw[c7];exact hi),c7,eJ hi]
  by_cases his:s=i
  ·subst his;simp
  ·rw[ah ⟨hi,fun e=>his e.symm⟩,ai his,ai (fun e=>his e.symm)]
theorem rZ(r:Row)(s:Nat):(bc r s).c.length=r.c.length:=by unfold bc;simp[BC]
def pT(rows:List Row)(r1:Row)(s at' i:Nat):List Row:=(List.range rows.length).map fun j=>if j≠at'∧j<i then⟨(g5 rows[j]!.k rows[j]!.c r1 s).k,(g5 rows[j]!.k rows[j]!.c r1 s).c,rows[j]!.b⟩ else rows[j]!
theorem Qp(at' i:Nat):yr at' (i+1)=if i=at' then yr at' i else yr at' i++[some i]:=by
 unfold yr
 rw[wo,NH,iZ]
 by_cases h:i=at'
 ·rw[ah h];simp[h]
 ·rw[ai h];simp[h]
theorem Pn(d:Dic)(r1:Row)(s at':Nat)(g:Bool):∀i,i≤d.rows.length→(yr at' i).foldl (w6 r1 s) (d,g)=
  (⟨pT d.rows r1 s at' i,(g5 d.gk d.gc r1 s).k,(g5 d.gk d.gc r1 s).c,d.n,d.piv,d.most⟩,g&&(gl (g5 d.gk d.gc r1 s).k (g5 d.gk d.gc r1 s).c&&(List.range i).all fun j=>decide (j=at')||gl (g5 d.rows[j]!.k d.rows[j]!.c r1 s).k (g5 d.rows[j]!.k d.rows[j]!.c r1 s).c))
 |0,_=>by
  have h0:pT d.rows r1 s at' 0=d.rows:=by
   unfold pT
   exact (nK rfl fun i hi=>by rw[ifn_]).symm
  rw[h0]
  show w6 r1 s (d,g) none=_
  simp[w6,R3,MB,lkO,lcO,g5]
 |i+1,h=>by
  have ih:=Pn d r1 s at' g i (by omega)
  rw[Qp]
  by_cases hi:i=at'
  ·rw[ah hi,ih]
   congr 1
   ·congr 1
    unfold pT
    refine sR fun j hj=>?_
    by_cases CV:j≠at'∧j<i
    ·rw[ah CV,ifp_]
    ·rw[ai CV,ifn_]
   ·rw[wo,mi]
    simp[hi]
  ·rw[ai hi,List.foldl_append,ih]
   have fq:(pT d.rows r1 s at' i)[i]! =d.rows[i]! :=by
    apply cZ
    unfold pT
    rw[bS _ (by omega),ifn_]
   have Dm:∀x:Row,(pT d.rows r1 s at' i).set i x=(List.range d.rows.length).map fun j=>if j=i then x else (pT d.rows r1 s at' i)[j]! :=fun x=>by
    refine nK (by simp[pT]) fun j hj=>?_
    rw[eJ (by simpa[pT] using hj)]
    by_cases CX:i=j
    ·rw[ah CX,ah CX.symm]
    ·rw[ai CX,ai (fun e=>CX e.symm)]
   simp only[List.foldl_cons,List.foldl_nil,w6,R3,MB,lkO,lcO,fq]
   congr 1
   ·congr 1
    rw[Dm]
    unfold pT
    refine sR fun j hj=>?_
    have hj:=iq.1 hj
    by_cases Ab:j=i
    ·subst Ab
     rw[ah rfl,ah ⟨hi,by omega⟩]
     rfl
    ·rw[ai Ab]
     have:((List.range d.rows.length).map fun j=>if j≠at'∧j<i then (⟨(g5 d.rows[j]!.k d.rows[j]!.c r1 s).k,(g5 d.rows[j]!.k d.rows[j]!.c r1 s).c,d.rows[j]!.b⟩:Row) else d.rows[j]!)[j]! =_:=cZ (bS _ hj)
     rw[this]
     by_cases CV:j≠at'∧j<i
     ·rw[ah CV,ifp_]
     ·rw[ai CV,ifn_]
   ·rw[wo,mi]
    simp[hi,g5,Jt]
structure Fine(d:Dic)(w:Nat):Prop where
 lg:d.gc.length=w
 lr:∀i,i<d.rows.length→d.rows[i]!.c.length=w
 gg:gl d.gk d.gc=true
 gr:∀i,i<d.rows.length→gl d.rows[i]!.k d.rows[i]!.c=true
def gF(d:Dic)(at' s:Nat):Dic:=
 let r1:=bc d.rows[at']! s
 ⟨(List.range d.rows.length).map fun j=>if j=at' then r1 else⟨(g5 d.rows[j]!.k d.rows[j]!.c r1 s).k,(g5 d.rows[j]!.k d.rows[j]!.c r1 s).c,d.rows[j]!.b⟩,(g5 d.gk d.gc r1 s).k,(g5 d.gk d.gc r1 s).c,d.n,d.piv+1,d.most⟩
theorem BP(d:Dic)(at' s:Nat)(hat:at'<d.rows.length)(hp:¬d.most≤d.piv):(dX d at' s).2=gF d at' s∧
  ((dX d at' s).1=0∨(dX d at' s).1=30)∧((dX d at' s).1=0↔gl (gF d at' s).gk (gF d at' s).gc=true∧∀i,i<d.rows.length→gl (gF d at' s).rows[i]!.k (gF d at' s).rows[i]!.c=true):=by
 have iW:∀(p:Dic×Bool) (r1:Row),pO r1 s at' d.rows.length p (yr at' d.rows.length).length=(yr at' d.rows.length).foldl (w6 r1 s) p:=fun p r1=>by unfold pO;rw[List.take_length]
 unfold dX
 rw[ai hp]
 simp only[iW]
 obtain⟨r1,Ge⟩:∃r1,r1=bc d.rows[at']! s:=⟨_,rfl⟩
 have hr1':=Ge
 rw[←Ge]
 obtain⟨d1,DI⟩:∃d1:Dic,d1=⟨d.rows.set at' r1,d.gk,d.gc,d.n,d.piv+1,d.most⟩:=⟨_,rfl⟩
 have hdl:d1.rows.length=d.rows.length:=by rw[DI];exact c7 ..
 rw[←DI]
 have hf:=Pn d1 r1 s at' (gl r1.k r1.c) d.rows.length (by omega)
 rw[hf]
 have IN:∀j,j<d.rows.length→d1.rows[j]! =if at'=j then r1 else d.rows[j]! :=fun j hj=>by rw[DI];exact eJ hj
 have hpD:gF d at' s=⟨pT d1.rows r1 s at' d.rows.length,(g5 d1.gk d1.gc r1 s).k,(g5 d1.gk d1.gc r1 s).c,d1.n,d1.piv,d1.most⟩:=by
  unfold gF
  rw[←Ge,DI]
  dsimp only
  congr 1
  unfold pT
  rw[c7]
  refine sR fun j hj=>?_
  have hj:=iq.1 hj
  rw[eJ hj]
  by_cases s6:j=at'
  ·subst s6;simp
  ·rw[ai s6,ah ⟨s6,hj⟩,ai (fun e=>s6 e.symm)]
 refine⟨hpD.symm,?_,?_⟩
 ·dsimp only
  split <;> simp
 ·dsimp only
  have fq:∀i,i<d.rows.length→(gF d at' s).rows[i]! =if i=at' then r1 else⟨(g5 d.rows[i]!.k d.rows[i]!.c r1 s).k,(g5 d.rows[i]!.k d.rows[i]!.c r1 s).c,d.rows[i]!.b⟩:=fun i hi=>by
   apply cZ
   unfold gF
   rw[←Ge]
   exact bS _ hi
  constructor
  ·intro h
   split at h
   ·rename_i hb
    simp only[bK,a7] at hb
    obtain⟨h1,h2,h3⟩:=hb
    refine⟨by rw[hpD];exact h2,fun i hi=>?_⟩
    rw[fq i hi]
    by_cases rQ:i=at'
    ·rw[ah rQ];exact h1
    ·rw[ai rQ]
     have:=h3 i (iq.2 hi)
     rw[IN i hi,ai (fun e=>rQ e.symm)] at this
     simpa[rQ] using this
   ·cases h
  ·rintro⟨h1,h2⟩
   rw[ah]
   simp only[bK,a7]
   refine⟨?_,by rw[hpD] at h1;exact h1,fun i hi=>?_⟩
   ·have:=h2 at' hat
    rw[fq at' hat,ah rfl] at this
    exact this
   ·have hi:=iq.1 hi
    have:=h2 i hi
    rw[fq i hi] at this
    by_cases rQ:i=at'
    ·simp[rQ]
    ·rw[ai rQ] at this
     rw[IN i hi,ai (fun e=>rQ e.symm)]
     simp only[JB]
     exact .inr this
end
end Go.Proofs.YtaedcknhkjpmlaaGreat
