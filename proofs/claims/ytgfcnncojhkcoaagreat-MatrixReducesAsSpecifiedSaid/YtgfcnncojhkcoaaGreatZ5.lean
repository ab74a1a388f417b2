/-
  Lemmas, part 5. Conditions: none.
-/
import Derived.Test.YtgfcnncojhkcoaaGreatZ4
set_option linter.all false
set_option maxRecDepth 100000
namespace Go.Proofs.YtgfcnncojhkcoaaGreat
open Go.RowKit Go.IntKind Tryz
noncomputable section
theorem dg_cons {R d i:Nat}(hd:d<65536):dg 65536 (R*65536+d) (i+1)=dg 65536 R i:=by
 have e:(R*65536+d) / 65536=R:=by omega
 unfold dg
 rw[eZ,cC (65536 ^ i),←mc,e]
theorem G_at {n A k:Nat}(hA:A<65536 ^ n):iX (dk n A) (k:Int)=some ((dg 65536 A k:Nat):Int):=by
 unfold iX
 rw[a7 _ _,vz hA,ab]
theorem S4 {l:List Int}{k:Int}(h:k<0):iX l k=some 0:=by
 unfold iX
 rw[bb _ _ h]
def zK(A:Nat)(m:Nat):Nat:=if m<2 then 0 else dg 65536 A (m - 2)
theorem MK {A m:Nat}:zK A m<65536:=by
 unfold zK;split
 ·omega
 ·exact lU
theorem G_at2 {n A m:Nat}(hA:A<65536 ^ n)(hm:0<m)(hm2:m<100000):iX (dk n A) (i64.wrap ((m:Int) - (2:Int)))=some ((zK A m:Nat):Int):=by
 unfold zK
 rw[cg]
 by_cases h:m<2
 ·rw[ar h,S4 (by omega)];rfl
 ·rw[aA h,show (m:Int) - 2=((m - 2:Nat):Int) from by omega,G_at hA]
def Lx(x0 x1 x2:Nat):Nat:=x0*4294967296+x1*65536+x2
theorem OH {x0 x1 x2:Nat}(h0:x0<65536)(h1:x1<65536)(h2:x2<65536):i64.wrap ((i64.wrap ((i64.wrap ((x0:Int)*(4294967296:Int)))+(i64.wrap ((x1:Int)*(65536:Int)))))+(x2:Int))=((Lx x0 x1 x2:Nat):Int):=by
 unfold Lx
 rw[cg (z:=(x0:Int)*(4294967296:Int)) (by omega),cg (z:=(x1:Int)*(65536:Int)) (by omega),cg (z:=(x0:Int)*4294967296+(x1:Int)*65536) (by omega),cg]
 omega
theorem est3_lt {x0 x1 x2:Nat}(h0:x0<65536)(h1:x1<65536)(h2:x2<65536):Lx x0 x1 x2<281474976710656:=by
 unfold Lx;omega
theorem quo_w {S T:Nat}(h:S<281474976710656):i64.wrap (Int.tdiv (S:Int) (T:Int))=((S / T:Nat):Int):=by
 have:=qN S T
 rw[←t7]
 generalize S / T=q at this ⊢
 rw[cg]
theorem min_w {e:Nat}:min (65535:Int) (e:Int)=((min 65535 e:Nat):Int):=by omega
theorem est_ge {X B m:Nat}(hm:0<m)(hB:B<65536 ^ m)(hB1:65536 ^ (m - 1)≤B)(hX:X<B*65536):
  X / B≤Lx (dg 65536 X m) (dg 65536 X (m - 1)) (zK X m) / (dg 65536 B (m - 1)*65536+zK B m):=by
 unfold Lx
 have JF:0<B:=bU (dE (by decide)) hB1
 have hXm:X<65536 ^ (m+1):=by
  rw[eZ];exact bU hX (bJ _ (pX hB))
 by_cases h:m<2
 ·obtain rfl:m=1:=by omega
  have eX:X=dg 65536 X 1*65536+dg 65536 X 0:=by
   have:=cO (b:=65536) (A:=X) (k:=0)
   rw[kX,sX] at this
   have e2:=cO (b:=65536) (A:=X) (k:=1)
   rw[gO hXm,fP,bB] at e2
   rw[←e2];exact this
  have eB:B=dg 65536 B 0:=by
   have:=cO (b:=65536) (A:=B) (k:=0)
   rw[kX,sX,gO hB,fP,bB] at this
   exact this
  unfold zK
  rw[ifp_,ifp_,mK,mK,show 1 - 1=0 from rfl,←eB]
  have:dg 65536 X 1*4294967296+dg 65536 X 0*65536=X*65536:=by omega
  rw[this,Nat.mul_div_mul_right _ _ (by decide)]
  exact aD _
 ·obtain⟨p,rfl⟩:∃p,m=p+2:=⟨m - 2,by omega⟩
  have hp:0<65536 ^ p:=dE (by decide)
  have eX:X / 65536 ^ p=dg 65536 X (p+2)*4294967296+dg 65536 X (p+1)*65536+dg 65536 X p:=by
   have e0:=cO (b:=65536) (A:=X) (k:=p)
   have e1:=cO (b:=65536) (A:=X) (k:=p+1)
   have e2:=cO (b:=65536) (A:=X) (k:=p+2)
   rw[gO hXm,fP,bB] at e2
   rw[e0,e1,show p+1+1=p+2 from rfl,e2,bZ,i1]
  have eB:B / 65536 ^ p=dg 65536 B (p+1)*65536+dg 65536 B p:=by
   have e0:=cO (b:=65536) (A:=B) (k:=p)
   have e1:=cO (b:=65536) (A:=B) (k:=p+1)
   rw[gO hB,fP,bB] at e1
   rw[e0,e1]
  unfold zK
  rw[aA h,aA h,show p+2 - 2=p from rfl,show p+2 - 1=p+1 from rfl,←eX,←eB]
  have hT:0<B / 65536 ^ p:=by
   refine Ef (cw ?_ hB1) hp
   exact nY (by decide) (by omega)
  rw[qP hT,qP hp,i1]
  refine cw (t8 _ (L9 _ _)) ?_
  rw[cC]
  exact Nat.mul_div_le _ _
theorem Ji {X B d:Nat}(hB:0<B):X<B*d↔X / B<d:=by
 rw[qv hB,cC]
theorem RB {X B m:Nat}(hm:m<900)(hB:B<65536 ^ m)(JF:0<B)(hXs:sz6 X≤m+1)(d:Nat)(hd:X / B≤d)(Jw:d≤65535):
  aK (iU (dk m B) (dl X)) ((d:Int),dl (B*d))=some (((X / B:Nat):Int),dl (B*(X / B))):=by
 obtain⟨x,hl,hx⟩:=xV (b:=iU (dk m B) (dl X)) (fun s=>∃d:Nat,s=((d:Int),dl (B*d))∧X / B≤d∧d≤65535) (fun s=>s.1.toNat) (fun x=>x=(((X / B:Nat):Int),dl (B*(X / B))))
  (by
   rintro s ⟨d,rfl,h1,h2⟩
   have hBd:B*d<65536 ^ (m+1):=by
    rw[eZ];exact Nat.mul_lt_mul_of_lt_of_le hB (by omega) (by decide)
   have hsz:=rF hBd
   dsimp only[iU]
   rw[NC (fm X) (fm (B*d)) (by omega) (by omega),ab]
   by_cases bG:X<B*d
   ·left
    have h3:=(Ji JF).1 bG
    have EP:0<d:=cD (bY _) h3
    have h4:B≤B*d:=yQ _ EP
    refine⟨_,by rw[bb _ _ bG,Al (fm (B*d)) hB (by omega) h4,ab,cg],⟨d - 1,?_,by omega,by omega⟩,?_⟩
    ·rw[Nat.mul_sub,z5]
     congr 1
     omega
    ·show ((d:Int) - 1).toNat<((d:Nat):Int).toNat
     omega
   ·right
    have h3:=mt (Ji JF).2 bG
    obtain rfl:d=X / B:=by omega
    exact⟨_,by rw[a7 _ _ bG],rfl⟩) ((d:Int),dl (B*d)) ⟨d,rfl,hd,Jw⟩
 rw[hl,hx]
set_option maxRecDepth 10000 in
theorem Kp {A B:Nat}(hA:sz6 A<800)(hBs:sz6 B<800)(JF:0<B):iW (dl A) (dl B)=some (dl (A / B),dl (A % B)):=by
 obtain⟨m,hm⟩:∃m,m=sz6 B:=⟨_,rfl⟩
 obtain⟨n,hn⟩:∃n,n=sz6 A:=⟨_,rfl⟩
 have hB:=fm B
 have hB1:=(zx B).2 (Cv JF)
 have QU:=Cv JF
 have hAn:=fm A
 show iW (dk (sz6 A) A) (dk (sz6 B) B)=_
 rw[←hm] at hB hB1 QU hBs ⊢
 rw[←hn] at hAn hA ⊢
 have eF:1≤dg 65536 B (m - 1):=by
  have:=cO (b:=65536) (A:=B) (k:=m - 1)
  rw[show m - 1+1=m from by omega,gO hB,fP,bB] at this
  rw[←this]
  exact (qP (dE (by decide))).2 (by rw[d8];exact hB1)
 have hbl:=@lU B (m - 1)
 have hll:=@MK B m
 have em1:i64.wrap ((m:Int) - (1:Int))=((m - 1:Nat):Int):=by rw[cg];omega
 have hm5:m<100000:=by omega
 have htop:((dg 65536 B (m - 1)*65536+zK B m:Nat):Int)≠0:=by omega
 have hl:=P9 (b:=iV (dk n A) (dk m B) ((dg 65536 B (m - 1)*65536+zK B m:Nat):Int)) (s0:=(([]:List Int),(n:Int) - 1,List.replicate n (0:Int))) (fun k=>(dl (A / 65536 ^ k % B),(k:Int) - 1,lF n (fun j=>if k≤j then dg 65536 (A / B) j else 0))) n (dl (A / 65536 ^ 0 % B),lF n (fun j=>if 0≤j then dg 65536 (A / B) j else 0))
  (by
   rw[gO hAn,Nat.zero_mod,dl_zero,Qd]
   congr 2
   exact u6 fun j hj=>ifn_)
  (fun k hk=>by
   obtain⟨h1,h2⟩:=yw (b:=65536) (A:=A) (k:=k) (d:=B) (by decide) JF
   have hr:=ep (A / 65536 ^ (k+1)) JF
   have ha:=@lU A k
   generalize A / 65536 ^ (k+1) % B=R at h1 h2 hr ⊢
   generalize A / 65536 ^ k % B=R' at h2 ⊢
   have hX:R*65536+dg 65536 A k<B*65536:=by
    have:(R+1)*65536≤B*65536:=bJ _ hr
    omega
   have hRs:sz6 R≤m:=rF (by omega)
   have hXm:R*65536+dg 65536 A k<65536 ^ (m+1):=by
    rw[eZ];exact bU hX (bJ _ (pX hB))
   have hXs:=rF hXm
   have hcons:[(dg 65536 A k:Int)]++dl R=dk (sz6 R+1) (R*65536+dg 65536 A k):=by
    unfold dl
    rw[lF_cons]
    exact u6 fun j hj=>by
     by_cases hj0:j=0
     ·subst hj0
      rw[ar rfl]
      unfold dg
      rw[kX,sX]
      have:=@lU A k
      unfold dg at this
      omega
     ·rw[aA hj0]
      obtain⟨i,rfl⟩:∃i,j=i+1:=⟨j - 1,by omega⟩
      exact (dg_cons ha).symm
   have hXlt:R*65536+dg 65536 A k<65536 ^ (sz6 R+1):=by
    have:=fm R
    rw[eZ]
    have h3:(R+1)*65536≤65536 ^ sz6 R*65536:=bJ _ this
    rw[bZ,d8] at h3
    exact bU (wQ ha _) h3
   have hszR:sz6 R+1<1000:=by
    have:=cD hRs hBs
    exact bU (Nat.succ_lt_succ this) (by decide)
   have ei:((k+1:Nat):Int) - 1=(k:Int):=by omega
   have Oq:=est_ge QU hB hB1 hX
   have d1:=@lU (R*65536+dg 65536 A k) m
   have d2:=@lU (R*65536+dg 65536 A k) (m - 1)
   have d3:=@MK (R*65536+dg 65536 A k) m
   have hqk:(R*65536+dg 65536 A k) / B<65536:=(qv JF).2 (by rw[cC 65536 B];exact hX)
   dsimp only[iV]
   rw[ei,bb _ _ (HY k)]
   rw[cX,cX,cX]
   rw[aB (show (0:Int)≤(k:Int)∧(k:Int)<(n:Int) from⟨HY k,Int.ofNat_lt.2 hk⟩)]
   rw[aJ,aJ]
   rw[rI hk,hcons,cX]
   rw[aB (show (sz6 R+1)*8≤140737488355328 from cw (bJ _ (pX hszR)) (by decide))]
   rw[yZ hXlt (Bt hszR (by decide)),ab,G_at (fm _),ab]
   rw[show i64.wrap ((m:Int) - (1:Int))=((m - 1:Nat):Int) from em1,G_at (fm _),ab,G_at2 (fm _) QU hm5,ab,aB htop]
   obtain⟨X,hX2⟩:∃X,X=R*65536+dg 65536 A k:=⟨_,rfl⟩
   rw[←hX2] at h1 h2 hX hXm hXs hXlt Oq d1 d2 d3 hqk ⊢
   generalize dg 65536 X m=x0 at Oq d1 ⊢
   generalize dg 65536 X (m - 1)=x1 at Oq d2 ⊢
   generalize zK X m=x2 at Oq d3 ⊢
   have hS:=est3_lt d1 d2 d3
   rw[OH d1 d2 d3,quo_w hS]
   generalize Lx x0 x1 x2 / (dg 65536 B (m - 1)*65536+zK B m)=e at Oq ⊢
   have O3:X / B≤min 65535 e:=Nat.le_min.2 ⟨Nat.le_of_lt_succ hqk,Oq⟩
   have Jw:min 65535 e≤65535:=Nat.min_le_left ..
   rw[min_w,ab]
   generalize min 65535 e=d at O3 Jw ⊢
   have e1:[(d:Int)]=dk 1 d:=by
    show _=lF 1 _
    unfold lF dg
    simp only[List.range_one,fx,i2,kX,sX]
    rw[gW (by omega)]
   have hmul:B*(X / B)≤X:=Nat.mul_div_le _ _
   have hms:sz6 (B*(X / B))≤m+1:=rF (by omega)
   rw[e1,Ko hB (by rw[wS];omega) (by omega) (by omega),ab,RB (by omega) hB JF hXs d O3 Jw,ab]
   dsimp only
   rw[aB,Al (fm X) (fm _) (by omega) hmul,ab,cg,KX]
   have em:X - B*(X / B)=X % B:=by have:=pW X B;omega
   rw[em,h2,h1]
   have ef:lF n (fun j=>if j=k then dg 65536 (A / B) k else if k+1≤j then dg 65536 (A / B) j else 0)=lF n (fun j=>if k≤j then dg 65536 (A / B) j else 0):=u6 fun j _=>by
    by_cases h:j=k
    ·rw[ar h,ifp_,h]
    ·rw[aA h]
     by_cases h3:k+1≤j
     ·rw[ar h3,ifp_]
     ·rw[aA h3,ifn_]
   rw[ef])
  (by
   dsimp only[iV]
   rw[a7 _ _])
 have hq:A / B<65536 ^ n:=cD (qN _ _) hAn
 unfold iW
 rw[cX,cX,aB,show i64.wrap ((m:Int) - (1:Int))=((m - 1:Nat):Int) from by rw[cg];omega,aB,G_at2 hB QU (by omega),ab,aJ,aJ,rI (by omega),cg (z:=(dg 65536 B (m - 1):Int)*65536) (by omega),cg,ab,cg,ab,show (dg 65536 B (m - 1):Int)*65536+(zK B m:Int)=((dg 65536 B (m - 1)*65536+zK B m:Nat):Int) from by omega,hl,ab]
 dsimp only
 rw[cX,aB rfl,u6 (n:=n) (f:=fun j=>if 0≤j then dg 65536 (A / B) j else 0) (g:=dg 65536 (A / B)) fun j _=>ar (bY _),yZ hq (by omega),ab,kX,sX]
theorem SP:LIM=65536 ^ 32:=by decide +kernel
theorem Nc {A k:Nat}:dg 4294967296 A k=dg 65536 A (2*k+1)*65536+dg 65536 A (2*k):=by
 have e:(4294967296:Nat) ^ k=65536 ^ (2*k):=by rw[Bv]
 unfold dg
 rw[e,eZ,←mc]
 omega
theorem S3 {x:ap}{A:Nat}(hx:x.vW=W A)(hA:A<LIM):bD x=some (dl A):=by
 have hl:=sL (b:=jH x) (s0:=(([]:List Int),(0:Int))) (fun k=>(dk (2*k) A,(k:Int))) 16 (dk 32 A)
  (by rfl)
  (fun k hk=>by
   have hp:=Nc (A:=A) (k:=k)
   have h0:=@lU A (2*k)
   have h1:=@lU A (2*k+1)
   dsimp only[jH]
   rw[bb _ _,aB,aB,hx,aJ,gX hk]
   have e1:i64.wrap (Int.tmod (dg 4294967296 A k:Int) (65536:Int))=(dg 65536 A (2*k):Int):=by
    rw[show (65536:Int)=((65536:Nat):Int) from rfl,←t6,cg];omega
   have e2:i64.wrap (u32.wrap (Int.tdiv (dg 4294967296 A k:Int) (65536:Int)))=(dg 65536 A (2*k+1):Int):=by
    rw[show (65536:Int)=((65536:Nat):Int) from rfl,←t7,AE,cg];omega
   rw[e1,e2,show dk (2*k) A++[(dg 65536 A (2*k):Int),(dg 65536 A (2*k+1):Int)]=(dk (2*k) A++[(dg 65536 A (2*k):Int)])++[(dg 65536 A (2*k+1):Int)] from by rw[fy];rfl,zM,zM,cX,aB,cg]
   rfl)
  (by
   dsimp only[jH]
   rw[a7 _ _])
 unfold bD
 rw[hl,ab,yZ (by rw[←SP];exact hA) (by decide),ab]
theorem EH:fY=some Fo:=by unfold fY;rw[r16];rfl
theorem PW {n A:Nat}(hn:n≤32)(neg:Bool):
  aK (gp (dk n A)) ((0:Int),(⟨false,neg,W 0⟩:ap))=some (⟨false,neg,W (A % 65536 ^ n)⟩:ap):=by
 have hb:0<(4294967296:Nat):=by decide
 have hl:=sL (b:=gp (dk n A)) (s0:=((0:Int),(⟨false,neg,W 0⟩:ap))) (fun k=>((k:Int),(⟨false,neg,W (A % 65536 ^ k)⟩:ap))) n (⟨false,neg,W (A % 65536 ^ n)⟩:ap)
  (by rw[kX,rV];rfl)
  (fun k hk=>by
   have h0:=@lU A k
   have bG:A % 65536 ^ k<65536 ^ k:=ep _ (dE (by decide))
   have hdiv:i64.wrap (Int.tdiv (k:Int) (2:Int))=((k / 2:Nat):Int):=by
    rw[show (2:Int)=((2:Nat):Int) from rfl,←t7,cg]
   have e1:=Nc (A:=A % 65536 ^ k) (k:=k / 2)
   have hu:=fun x:Nat=>KF (b:=4294967296) (A:=A % 65536 ^ k) (p:=k / 2) (x:=x)
   dsimp only[gp]
   rw[cX,bb _ _,hdiv,aB,aB,aB,ab,aB,aB,aB,ab,aJ,aJ,gX (by omega),rI hk,show (2:Int)=((2:Nat):Int) from rfl,←t6,AE (n:=dg 65536 A k) (by omega),fM]
   have ub:A % 65536 ^ (k+1)=A % 65536 ^ k+65536 ^ k*dg 65536 A k:=g7
   have hpow:(4294967296:Nat) ^ (k / 2)=65536 ^ (2*(k / 2)):=by rw[Bv]
   by_cases he:k % 2=0
   ·have E9:2*(k / 2)=k:=by omega
    have d0:dg 4294967296 (A % 65536 ^ k) (k / 2)=0:=by
     rw[e1,E9,mI bG,mI (bU bG (nY (by decide) (by omega)))]
    rw[ifp_,ab,d0,←pf,AE,AC hb (by omega) (by omega),cg]
    have:=hu (0+dg 65536 A k)
    rw[d0,hpow,E9] at this
    rw[fP,mK,bB] at this
    rw[show up1 4294967296 (A % 65536 ^ k) (k / 2) (0+dg 65536 A k)=A % 65536 ^ (k+1) from by rw[ub,cC (65536 ^ k),bB];exact this]
    rfl
   ·have E9:2*(k / 2)+1=k:=by omega
    have d1:dg 4294967296 (A % 65536 ^ k) (k / 2)=dg 65536 A (2*(k / 2)):=by
     rw[e1,E9,mI bG,fP,bB,oI (by omega)]
    have h2:=@lU A (2*(k / 2))
    rw[ifn_,ab,d1,show ((dg 65536 A k:Nat):Int)*(65536:Int)=((dg 65536 A k*65536:Nat):Int) from by omega,AE (n:=dg 65536 A k*65536) (by omega),←pf,AE,AC hb (by omega) (by omega),cg]
    have:=hu (dg 65536 A (2*(k / 2))+dg 65536 A k*65536)
    rw[d1,hpow,bZ] at this
    have bQ:65536 ^ (2*(k / 2))*65536=(65536:Nat) ^ k:=by rw[←eZ];exact congrArg _ E9
    have e3:dg 65536 A k*65536*65536 ^ (2*(k / 2))=65536 ^ k*dg 65536 A k:=by
     rw[i1,cC 65536,bQ,cC]
    rw[e3,Nat.add_left_comm,rz] at this
    have hfin:=Nat.add_left_cancel this
    rw[show up1 4294967296 (A % 65536 ^ k) (k / 2) (dg 65536 A (2*(k / 2))+dg 65536 A k*65536)=A % 65536 ^ (k+1) from by rw[ub];exact hfin]
    rfl)
  (by
   dsimp only[gp]
   rw[cX,a7 _ _])
 exact hl
theorem EL {n A:Nat}(hA:A<65536 ^ n)(hn:n<100000)(neg:Bool):cl neg (dk n A)=some (enc (bif neg then -(A:Int) else (A:Int))):=by
 have hiff:32<sz6 A↔¬A<LIM:=by
  rw[SP]
  constructor
  ·intro h h2
   have:=rF h2;omega
  ·intro h
   rcases bt 32 (sz6 A) with h1|h1
   ·exact h1
   ·exact absurd (bU (fm A) (nY (by decide) h1)) h
 have MX:(bif neg then -(A:Int) else (A:Int)).natAbs=A:=by cases neg <;> simp
 unfold cl
 rw[yZ hA (by omega),ab,Lz,r16]
 by_cases h:32<sz6 A
 ·rw[bb _ _,EH,ab,DI (by rw[MX];exact hiff.1 h)]
 ·have hAL:A<LIM:=Decidable.byContradiction fun h2=>h (hiff.2 h2)
  have hneg:decide ((0:Int)<((sz6 A:Nat):Int))= !decide (A=0):=by
   rw[←Ea]
   refine i3.2 ?_
   constructor
   ·intro h3 h4;subst h4;rw[CX] at h3;omega
   ·intro h3;have:=Cv (vp h3);omega
  have Qu:(cnd neg (bnd (some ((⟨false,decide ((0:Int)<((sz6 A:Nat):Int)),W 0⟩:ap))) fun x7=>some (x7)) (some ((⟨false,false,W 0⟩:ap))))=some (⟨false,neg&&!decide (A=0),W 0⟩:ap):=by
   rw[ab,hneg]
   cases neg <;> rfl
  rw[a7 _ _,Qu,ab,PW (by omega),ab,gW (fm A),Rw hAL]
theorem zeroW {v:Vector Int 16}:(∀j:Nat,j<16→v[j]! =0)↔v=W 0:=by
 constructor
 ·intro h
  apply pB
  intro j hj
  rw[h j hj,gX hj]
  unfold dg;simp
 ·rintro rfl j hj
  rw[gX hj]
  unfold dg;simp
theorem eE(x:ap):br x=some (cv x):=by
 have hl:=sL (b:=kJ x) (s0:=(true,(0:Int))) (fun k=>(decide (∀j:Nat,j<k→x.vW[j]! =0),(k:Int))) 16 (decide (∀j:Nat,j<16→x.vW[j]! =0))
  (by
   rw[d6 (p:=∀j:Nat,j<0→x.vW[j]! =0) (fun j hj=>by omega)]
   rfl)
  (fun k hk=>by
   dsimp only[kJ]
   rw[bb _ _,aB,aJ,CH,ab,cg,←wP]
   have:((∀j:Nat,j<k→x.vW[j]! =0)∧x.vW[k]! =0)↔∀j:Nat,j<k+1→x.vW[j]! =0:=by
    constructor
    ·rintro⟨h1,h2⟩ j hj
     by_cases h:j=k
     ·rw[h];exact h2
     ·exact h1 j (by omega)
    ·intro h
     exact⟨fun j hj=>h j (by omega),h k (by omega)⟩
   rw[i3.2 this]
   rfl)
  (by
   dsimp only[kJ]
   rw[a7 _ _])
 have hz:decide (∀j:Nat,j<16→x.vW[j]! =0)=decide (x.vW=W 0):=i3.2 zeroW
 unfold br qX cv
 rw[hl,ab,hz]
 cases x.vBad <;> cases decide (x.vW=W 0) <;> cases x.vNeg <;> rfl
theorem MU {A:Nat}(hA:A<LIM)(h:∀j,2≤j→j<16→dg 4294967296 A j=0):A / 4294967296 ^ 2=0:=by
 have key:∀d,d≤14→A / 4294967296 ^ (16 - d)=0:=by
  intro d
  induction d with
  |zero=>intro _;exact gO hA
  |succ d ih=>
   intro hd
   have h1:=ih (by omega)
   have h2:=cO (b:=4294967296) (A:=A) (k:=16 - (d+1))
   rw[show 16 - (d+1)+1=16 - d from by omega,h1,fP,bB,h _ (by omega) (by omega)] at h2
   exact h2
 exact key 14 (aD _)
structure ii(a:Int):Prop where
 h:a.natAbs<4611686018427387904
instance(a:Int):Decidable (ii a):=decidable_of_iff (a.natAbs<4611686018427387904) ⟨fun h=>⟨h⟩,fun h=>h.h⟩
theorem Pa {A:Nat}(hA:A<LIM):A<4611686018427387904↔dg 4294967296 A 1<1073741824∧∀j,2≤j→j<16→dg 4294967296 A j=0:=by
 constructor
 ·intro h
  refine⟨?_,fun j h1 _=>mI (bU h ?_)⟩
  ·unfold dg;rw[wS];omega
  ·exact cw (by decide:4611686018427387904≤4294967296 ^ 2) (nY (by decide) h1)
 ·rintro⟨h1,h2⟩
  have h3:=MU hA h2
  have h4:=cO (b:=4294967296) (A:=A) (k:=1)
  rw[show 1+1=2 from rfl,h3,fP,bB,wS] at h4
  omega
theorem t9 {a:Int}(ha:a.natAbs<LIM):c6 (enc a)=some (if ii a then (a,true) else (0,false)):=by
 have hwi:=Pa ha
 obtain⟨x,hl,hx⟩:=xV (b:=nJ (enc a)) (fun s=>∃k:Nat,s=(k:Int)∧2≤k∧k≤16∧∀j,2≤j→j<k→dg 4294967296 a.natAbs j=0) (fun s=>16 - s.toNat) (fun x=>match x with| .inl r=>r=((0:Int),false)∧¬(∀j,2≤j→j<16→dg 4294967296 a.natAbs j=0)| .inr _=>∀j,2≤j→j<16→dg 4294967296 a.natAbs j=0)
  (by
   rintro s ⟨k,rfl,E9,hk,hz⟩
   dsimp only[nJ]
   rw[nX ha]
   by_cases h16:k<16
   ·rw[bb _ _,aB,aJ,gX h16]
    by_cases hd:dg 4294967296 a.natAbs k=0
    ·left
     refine⟨((k+1:Nat):Int),by rw[a7 _ _,cg];rfl,⟨k+1,rfl,by omega,by omega,fun j h1 h2=>?_⟩,by omega⟩
     by_cases h:j=k
     ·rw[h];exact hd
     ·exact hz j h1 (by omega)
    ·right
     refine⟨(Sum.inl ((0:Int),false):(Int×Bool)⊕Unit),by rw[bb _ _],rfl,fun h=>hd (h k E9 h16)⟩
   ·right
    refine⟨(Sum.inr ():(Int×Bool)⊕Unit),by rw[a7 _ _],?_⟩
    obtain rfl:k=16:=by omega
    exact hz) (2:Int) ⟨2,rfl,by omega,by omega,fun j h1 h2=>by omega⟩
 have e1:(W a.natAbs)[((1:Int)).toNat]! =(dg 4294967296 a.natAbs 1:Int):=gX (by decide)
 have e0:(W a.natAbs)[((0:Int)).toNat]! =(dg 4294967296 a.natAbs 0:Int):=gX (by decide)
 have d0:=@dgl a.natAbs 0
 unfold c6
 rw[eE,bg ha,ab,eH,aL,ab,nX ha,e1,e0,i5 ha]
 by_cases h1:dg 4294967296 a.natAbs 1<1073741824
 ·rw[a7 _ _,hl,ab]
  cases x with
  |inl r=>
   obtain⟨rfl,h2⟩:=hx
   have:¬ii a:=fun h=>h2 (hwi.1 h.h).2
   rw[aA this]
  |inr u=>
   have h2:ii a:=⟨hwi.2 ⟨h1,hx⟩⟩
   have h3:=MU ha hx
   have h4:=cO (b:=4294967296) (A:=a.natAbs) (k:=1)
   rw[show 1+1=2 from rfl,h3,fP,bB,wS] at h4
   have h5:dg 4294967296 a.natAbs 0=a.natAbs % 4294967296:=by unfold dg;rw[kX,sX]
   have h6:(dg 4294967296 a.natAbs 1:Int)*4294967296+(dg 4294967296 a.natAbs 0:Int)=(a.natAbs:Int):=by omega
   have h7:=h2.h
   dsimp only
   rw[cg (z:=(dg 4294967296 a.natAbs 1:Int)) (by omega),cg (z:=(dg 4294967296 a.natAbs 1:Int)*4294967296) (by omega),cg (z:=(dg 4294967296 a.natAbs 0:Int)) (by omega),h6,cg (z:=(a.natAbs:Int)) (by omega),ab,fM,ar h2]
   by_cases hn:a<0
   ·rw[ar hn,cg,show (0:Int) - (a.natAbs:Int)=a from by omega]
   ·rw[aA hn,show (a.natAbs:Int)=a from by omega]
 ·have:¬ii a:=fun h=>h1 (hwi.1 h.h).1
  rw[bb _ _,aA this]
theorem vw {x:ap}(h:cv x=false):c6 x=some (0,false):=by
 unfold c6
 rw[eE,h,ab,qQ,ej,ab,ej]
theorem dk4 {N:Nat}:dk 4 N=[(dg 65536 N 0:Int),(dg 65536 N 1:Int),(dg 65536 N 2:Int),(dg 65536 N 3:Int)]:=rfl
theorem of4 {N:Nat}(hN:N<9223372036854775808):[Int.tmod (N:Int) (65536:Int),Int.tmod (i64.wrap (Int.tdiv (N:Int) (65536:Int))) (65536:Int),Int.tmod (i64.wrap (Int.tdiv (N:Int) (4294967296:Int))) (65536:Int),i64.wrap (Int.tdiv (N:Int) (281474976710656:Int))]=dk 4 N:=by
 have e1:i64.wrap (Int.tdiv (N:Int) (65536:Int))=((N / 65536:Nat):Int):=by
  rw[show (65536:Int)=((65536:Nat):Int) from rfl,←t7,cg]
 have e2:i64.wrap (Int.tdiv (N:Int) (4294967296:Int))=((N / 4294967296:Nat):Int):=by
  rw[show (4294967296:Int)=((4294967296:Nat):Int) from rfl,←t7,cg]
 have e3:i64.wrap (Int.tdiv (N:Int) (281474976710656:Int))=((N / 281474976710656:Nat):Int):=by
  rw[show (281474976710656:Int)=((281474976710656:Nat):Int) from rfl,←t7,cg]
 rw[e1,e2,e3,dk4,show (65536:Int)=((65536:Nat):Int) from rfl,←t6,←t6,←t6]
 have d0:dg 65536 N 0=N % 65536:=by unfold dg;rw[kX,sX]
 have d1:dg 65536 N 1=N / 65536 % 65536:=by unfold dg;rw[wS]
 have d2:dg 65536 N 2=N / 4294967296 % 65536:=rfl
 have d3:dg 65536 N 3=N / 281474976710656:=by
  have:dg 65536 N 3=N / 281474976710656 % 65536:=rfl
  rw[this];omega
 rw[d0,d1,d2,d3]
theorem PT:[(1:Int)]=dk 1 1:=rfl
theorem xw {n:Int}(h1:-9223372036854775808≤n)(h2:n≤9223372036854775807):jZ n=some (enc n):=by
 unfold jZ
 by_cases hn:0≤n
 ·obtain⟨N,rfl⟩:∃N:Nat,n=(N:Int):=⟨n.toNat,by omega⟩
  have hN4:N<65536 ^ 4:=bU (show N<9223372036854775808 by omega) (by decide)
  rw[bb _ _ hn,of4 (by omega),EL hN4 (by decide),ab]
  rfl
 ·obtain⟨M,hM⟩:∃M:Nat,-(n+1)=(M:Int):=⟨(-(n+1)).toNat,by omega⟩
  have hM4:M<65536 ^ 4:=bU (show M<9223372036854775808 by omega) (by decide)
  have e:i64.wrap (0 - (i64.wrap (n+(1:Int))))=(M:Int):=by
   rw[cg (z:=n+1) (by omega),cg];omega
  rw[a7 _ _ hn,e,ab,of4 (by omega),PT,If hM4 (by decide) (by decide) (by decide),ab,EL (A:=M+1) (fm _) (cD (rF (A:=M+1) (n:=5) (cD (show M+1≤65536 ^ 4 from hM4) (by decide))) (by decide)),ab]
  congr 2
  simp only[ix]
  omega
theorem lJ {A:Nat}(h:A<LIM):sz6 A≤32:=rF (by rw[←SP];exact h)
theorem sz_mul {A B:Nat}(hA:A<LIM)(hB:B<LIM):sz6 (A*B)≤64:=rF (by
 have:=DT hA hB
 rw[SP,←me] at this
 exact this)
theorem Pp {A B:Nat}(hA:A<LIM)(hB:B<LIM):sz6 (A+B)≤33:=rF (by
 have h1:A+B<2*LIM:=by omega
 have h2:2*LIM≤65536 ^ 33:=by rw[SP,eZ,cC];exact t8 _ (by decide)
 exact bU h1 h2)
theorem yn {A:Nat}(h:sz6 A≤1000)(neg:Bool):cl neg (dl A)=some (enc (bif neg then -(A:Int) else (A:Int))):=
 EL (fm A) (cD h (by decide)) neg
theorem iL {a:Int}(ha:a.natAbs<LIM):bD (enc a)=some (dl a.natAbs):=S3 (nX ha) ha
theorem SX {a:Int}(ha:a.natAbs<LIM):rr (enc a)=some (enc (a.natAbs:Int)):=by
 unfold rr
 rw[eE,bg ha,ab,eH,aL,iL ha,ab,yn (cw (lJ ha) (by decide)),ab]
 rfl
theorem Km {a:Int}(ha:a.natAbs<LIM):pc (enc a)=some (enc (-a)):=by
 unfold pc
 rw[eE,bg ha,ab,eH,aL,iL ha,ab,i5 ha,yn (cw (lJ ha) (by decide)),ab]
 congr 2
 by_cases h:a<0
 ·simp only[h,tJ,eH,cond_false];omega
 ·simp only[h,p6,qQ,ix];omega
theorem xv {a:Int}(ha:a.natAbs<LIM):jI (enc a)=some a.sign:=by
 unfold jI
 rw[eE,bg ha,ab,eH,aL,iL ha,ab,ab,i5 ha]
 have hz:((dl a.natAbs).length:Int)=0↔a=0:=by
  rw[show ((dl a.natAbs).length:Int)=0↔(dl a.natAbs).length=0 from by omega,Ly];omega
 rcases L2 a 0 with h|h|h
 ·rw[a7 _ _ (by rw[hz];omega),bb _ _ h,L0 h]
 ·subst h;rw[bb _ _ (hz.2 rfl)];rfl
 ·rw[a7 _ _ (by rw[hz];omega),a7 _ _,D9 h]
theorem fast2(p q:Prop)[Decidable p][Decidable q](a c:Int):(cnd (if p then (a,true) else (0,false):Int×Bool).2 (some (if q then (c,true) else (0,false):Int×Bool).2) (some false))=some (decide (p∧q)):=by
 by_cases hp:p <;> by_cases hq:q <;> simp[hp,hq,cnd]
theorem Hk(x y:ap):(bnd (S:=Bool) (bnd (br x) fun iM=>cnd (!iM) (some (true)) (bnd (br y) fun qz=>some (!qz))) fun b=>some b)=some (!(cv x&&cv y)):=by
 rw[eE,eE,ab,ab]
 cases cv x <;> cases cv y <;> rfl
theorem SW {a c:Int}(ha:a.natAbs<LIM)(hc:c.natAbs<LIM):lz (enc a) (enc c)=some (enc (a+c)):=by
 unfold lz
 rw[t9 ha,t9 hc,ab,ab,fast2,ab,fM]
 by_cases hw:ii a∧ii c
 ·have h1:=hw.1.h
  have h2:=hw.2.h
  rw[ar hw,ar hw.1,ar hw.2]
  dsimp only
  rw[cg,xw (by omega) (by omega),ab]
 ·have hg:=Hk (enc a) (enc c)
  rw[pU] at hg
  rw[aA hw,hg,bg ha,bg hc,ab,j7,eH,aL,iL ha,ab,iL hc,ab,i5 ha,i5 hc,If (fm _) (fm _) (cD (lJ ha) (by decide)) (cD (lJ hc) (by decide)),ab,NC (fm _) (fm _) (cD (lJ ha) (by decide)) (cD (lJ hc) (by decide)),ab]
  by_cases hs:decide (a<0)=decide (c<0)
  ·have Kv:=i3.1 hs
   rw[hs,wV,ej,yn (cw (Pp ha hc) (by decide)),ab]
   congr 2
   by_cases h:c<0
   ·simp only[h,tJ,ix];omega
   ·simp only[h,p6,cond_false];omega
  ·have Kv:¬((a<0)↔(c<0)):=fun h=>hs (i3.2 h)
   have hb:(decide (a<0) == decide (c<0))=false:=Bs.2 hs
   rw[hb,aL]
   by_cases h1:a.natAbs<c.natAbs
   ·have hl:c.natAbs - a.natAbs<LIM:=cD (Nat.sub_le _ _) hc
    rw[bb _ _ h1,Al (fm _) (fm _) (cD (lJ hc) (by decide)) (pX h1),ab,yn (cw (lJ hl) (by decide)),ab]
    congr 2
    by_cases h:c<0
    ·simp only[h,tJ,ix];omega
    ·simp only[h,p6,cond_false];omega
   ·have hl:a.natAbs - c.natAbs<LIM:=cD (Nat.sub_le _ _) ha
    rw[a7 _ _ h1,Al (fm _) (fm _) (cD (lJ ha) (by decide)) (by omega),ab,yn (cw (lJ hl) (by decide)),ab]
    congr 2
    by_cases h:a<0
    ·simp only[h,tJ,ix];omega
    ·simp only[h,p6,cond_false];omega
theorem Ru {x y:ap}(hx:okI x)(hy:okI y)(h:(cv x&&cv y)=false):∃p q:Int×Bool,c6 x=some p∧c6 y=some q∧(p.2&&q.2)=false:=by
 cases h1:cv x with
 |false=>
  refine⟨(0,false),?_⟩
  cases h2:cv y with
  |false=>exact⟨(0,false),vw h1,vw h2,rfl⟩
  |true=>
   obtain⟨z,hz,rfl⟩:=sQ hy h2
   exact⟨_,vw h1,t9 hz,rfl⟩
 |true=>
  have h2:cv y=false:=by rw[h1] at h;exact h
  obtain⟨z,hz,rfl⟩:=sQ hx h1
  exact⟨_,(0,false),t9 hz,vw h2,Bool.and_false _⟩
theorem Id {x y:ap}(hx:okI x)(hy:okI y)(h:(cv x&&cv y)=false):lz x y=some Fo:=by
 obtain⟨p,q,h1,h2,h3⟩:=Ru hx hy h
 have hg:=Hk x y
 rw[pU] at hg
 unfold lz
 rw[h1,h2,ab,ab,CH,h3,ab,aL,hg,h,ab,qQ,ej,EH,ab]
theorem JA(n:Int):jG n=some (decide (-2147483648<n∧n<2147483648)):=by
 unfold jG
 rw[CH,ab,←wP]
 congr 1
 exact i3.2 And.comm
theorem PZ(a c:Int):(bif (!(decide (a<0) == decide (c<0))) then -((a.natAbs*c.natAbs:Nat):Int) else ((a.natAbs*c.natAbs:Nat):Int))=a*c:=by
 by_cases ha0:a<0 <;> by_cases hc0:c<0 <;> simp only[ha0,hc0,tJ,p6,wV,eH,qQ,ix,cond_false,Bool.true_beq,Bool.false_beq,ry]
 ·have ea:(a.natAbs:Int)=-a:=by omega
  have ec:(c.natAbs:Int)=-c:=by omega
  rw[ea,ec,H4]
 ·have ea:(a.natAbs:Int)=-a:=by omega
  have ec:(c.natAbs:Int)=c:=by omega
  rw[ea,ec,Eg,Int.neg_neg]
 ·have ea:(a.natAbs:Int)=a:=by omega
  have ec:(c.natAbs:Int)=-c:=by omega
  rw[ea,ec,Bw,Int.neg_neg]
 ·have ea:(a.natAbs:Int)=a:=by omega
  have ec:(c.natAbs:Int)=c:=by omega
  rw[ea,ec]
theorem P0 {n m:Int}(hn:-2147483648<n∧n<2147483648)(hm:-2147483648<m∧m<2147483648):-9223372036854775808≤n*m∧n*m≤9223372036854775807:=by
 have h1:n.natAbs*m.natAbs≤2147483647*2147483647:=ja (by omega) (by omega)
 have h2:(n*m).natAbs=n.natAbs*m.natAbs:=wU _ _
 omega
theorem w7 {a c:Int}(ha:a.natAbs<LIM)(hc:c.natAbs<LIM):jJ (enc a) (enc c)=some (enc (a*c)):=by
 have hf:(cnd (if ii a then (a,true) else (0,false):Int×Bool).2 (cnd (if ii c then (c,true) else (0,false):Int×Bool).2 (bnd (jG (if ii a then (a,true) else (0,false):Int×Bool).1) fun x7=>cnd x7 (bnd (jG (if ii c then (c,true) else (0,false):Int×Bool).1) fun iM=>some (iM)) (some (false))) (some (false))) (some (false)))=some (decide ((-2147483648<a∧a<2147483648)∧(-2147483648<c∧c<2147483648))):=by
  by_cases hwa:ii a
  ·by_cases hwc:ii c
   ·rw[ar hwa,ar hwc,ej,ej,JA,JA,ab,ab,CH,←wP]
   ·rw[ar hwa,aA hwc,ej,aL]
    congr 1
    symm
    refine f8 fun h=>hwc ?_
    constructor;omega
  ·rw[aA hwa,aL]
   congr 1
   symm
   refine f8 fun h=>hwa ?_
   constructor;omega
 unfold jJ
 rw[t9 ha,t9 hc,ab,ab,hf,ab,fM]
 by_cases hw:(-2147483648<a∧a<2147483648)∧(-2147483648<c∧c<2147483648)
 ·have hmh:=P0 hw.1 hw.2
  rw[ar hw,ar (by constructor;omega),ar (by constructor;omega)]
  dsimp only
  rw[cg hmh,xw hmh.1 hmh.2,ab]
 ·have hg:=Hk (enc a) (enc c)
  rw[pU] at hg
  rw[aA hw,hg,bg ha,bg hc,ab,j7,eH,aL,iL ha,ab,iL hc,ab,i5 ha,i5 hc,Ko (fm _) (fm _) (cD (lJ ha) (by decide)) (cD (lJ hc) (by decide)),ab,yn (cw (sz_mul ha hc) (by decide)),ab,PZ]
theorem G_floor {n m:Int}(QU:m≠0)(hn:n.natAbs<4611686018427387904):oo n m=some (n.fdiv m):=by
 obtain⟨h1,h2,h3⟩:=AG (x:=n) QU
 have hq:=IP (x:=n) (y:=m) (by omega)
 have hnq:(n.tdiv m).natAbs≤n.natAbs:=by rw[Int.natAbs_tdiv];exact qN _ _
 have uI:(cnd (decide ((Int.tmod n m)≠(0:Int))) (some (!((decide (n<(0:Int))) == (decide (m<(0:Int)))))) (some (false)))=some (decide (n.fdiv m≠n.tdiv m)):=by
  rw[←h1,fM,fM]
  by_cases h:n.tmod m≠0
  ·rw[ar h,ar h]
   congr 3
   refine i3.2 ?_
   constructor
   ·intro hneg
    have:=Int.tmod_nonneg m (show 0≤-n by omega)
    rw[Int.neg_tmod] at this
    omega
   ·intro hneg
    by_cases h4:n<0
    ·exact h4
    ·have:=Int.tmod_nonneg m (show 0≤n by omega)
     omega
  ·rw[aA h,aA h]
 unfold oo
 rw[aB QU,aB QU,uI,ab,fM]
 by_cases h:n.fdiv m=n.tdiv m
 ·rw[aA (fun hh=>hh h),ab,cg,h]
 ·rw[ar h,cg (z:=n.tdiv m) (by omega),cg,ab,ab,(h2 h).1]
theorem PJ {a c:Int}(h0:c≠0):(bif (!(decide (a<0) == decide (c<0))) then -((a.natAbs / c.natAbs+(if a.natAbs % c.natAbs=0 then 0 else 1):Nat):Int) else ((a.natAbs / c.natAbs:Nat):Int))=a.fdiv c:=by
 have hr:=ep a.natAbs (show 0<c.natAbs by omega)
 have hdm:=pW a.natAbs c.natAbs
 have Lk:(c.natAbs:Int)*((a.natAbs / c.natAbs:Nat):Int)+((a.natAbs % c.natAbs:Nat):Int)=(a.natAbs:Int):=by rw[←ry,←pf,hdm]
 generalize a.natAbs / c.natAbs=Q at Lk ⊢
 generalize a.natAbs % c.natAbs=R at Lk hr ⊢
 have hmul:∀z:Int,z*c=(if c<0 then -1 else 1)*((c.natAbs:Int)*z):=by
  intro z
  split
  ·have e:c=-(c.natAbs:Int):=by omega
   conv=>lhs;rw[e]
   rw[Bw,Eg,Eb,s6]
  ·have e:c=(c.natAbs:Int):=by omega
   conv=>lhs;rw[e]
   rw[Eb,s6]
 by_cases hs:decide (a<0)=decide (c<0)
 ·have Kv:=i3.1 hs
  rw[hs,wV,eH,cond_false]
  exact (nQ (x:=a) h0 (Q:Int) (if c<0 then -(R:Int) else (R:Int)) (by rw[hmul];split <;> omega) (by split <;> omega)).1
 ·have Kv:¬((a<0)↔(c<0)):=fun h=>hs (i3.2 h)
  have hb:(decide (a<0) == decide (c<0))=false:=Bs.2 hs
  rw[hb,qQ,ix]
  by_cases hR:R=0
  ·rw[ar hR]
   refine (nQ (x:=a) h0 _ 0 ?_ (by omega)).1
   rw[hmul,Bw,mK]
   split <;> omega
  ·rw[aA hR]
   refine (nQ (x:=a) h0 _ (if c<0 then -((c.natAbs:Int) - (R:Int)) else (c.natAbs:Int) - (R:Int)) ?_ (by split <;> omega)).1
   rw[hmul,Bw,pf,Int.mul_add]
   split <;> omega
theorem dig1(A:Nat):decide (((dl A).length:Int)=0)=decide (A=0):=by
 refine i3.2 ?_
 rw[show ((dl A).length:Int)=0↔(dl A).length=0 from by omega,Ly]
theorem dig2(A:Nat):decide ((0:Int)<((dl A).length:Int))=decide (A≠0):=by
 refine i3.2 ?_
 have:=@Ly A
 omega
theorem good3r {x:ap}{c:Int}(_hx:okI x)(hc:c.natAbs<LIM):(bnd (S:=Bool) (bnd (br x) fun qz=>cnd (!qz) (some (true)) (bnd (br (enc c)) fun qo=>cnd (!qo) (some (true)) (bnd (bD (enc c)) fun uK=>some (decide (((uK).length:Int)=(0:Int)))))) fun b=>some b)=some (!(cv x&&decide (c≠0))):=by
 rw[eE,eE,iL hc,ab,ab,ab,bg hc,dig1,pU]
 have:decide (c≠0)= !decide (c.natAbs=0):=by
  rw[←Ea];exact i3.2 (by omega)
 rw[this]
 cases cv x <;> cases decide (c.natAbs=0) <;> rfl
theorem fastq(a c:Int):(cnd (if ii a then (a,true) else (0,false):Int×Bool).2 (cnd (if ii c then (c,true) else (0,false):Int×Bool).2 (some (decide ((if ii c then (c,true) else (0,false):Int×Bool).1≠(0:Int)))) (some (false))) (some (false)))=some (decide (ii a∧ii c∧c≠0)):=by
 by_cases hp:ii a <;> by_cases hq:ii c <;> simp[hp,hq,cnd]
theorem Aj {a c:Int}(ha:a.natAbs<LIM)(hc:c.natAbs<LIM)(h0:c≠0):ly (enc a) (enc c)=some (enc (a.fdiv c)):=by
 unfold ly
 rw[t9 ha,t9 hc,ab,ab,fastq,ab,fM]
 by_cases hw:ii a∧ii c∧c≠0
 ·have hq:a.fdiv c=a.tdiv c∨a.fdiv c=a.tdiv c - 1:=by
   obtain⟨_,h2,_⟩:=AG (x:=a) h0
   by_cases h:a.fdiv c=a.tdiv c
   ·exact .inl h
   ·exact .inr (h2 h).1
  have h1:=hw.1.h
  have hnq:(a.tdiv c).natAbs≤a.natAbs:=by rw[Int.natAbs_tdiv];exact qN _ _
  rw[ar hw,ar hw.1,ar hw.2.1]
  dsimp only
  rw[G_floor h0 hw.1.h,ab,xw (by omega) (by omega),ab]
 ·have hg:=good3r (xc a) hc
  rw[pU] at hg
  have hq:a.natAbs / c.natAbs<LIM:=cD (qN _ _) ha
  have hdl:decide ((0:Int)<((dl (a.natAbs % c.natAbs)).length:Int))=decide (a.natAbs % c.natAbs≠0):=dig2 _
  rw[aA hw,hg,bg ha,d6 h0,ab,j7,eH,aL,iL ha,ab,iL hc,ab,Kp (cD (lJ ha) (by decide)) (cD (lJ hc) (by decide)) (by omega),ab,i5 ha,i5 hc]
  dsimp only
  rw[PT,If (fm _) (by decide) (cD (lJ hq) (by decide)) (by decide),ab,hdl,←PJ h0]
  have hs1:sz6 (a.natAbs / c.natAbs+1)≤1000:=cw (Pp hq (by decide)) (by decide)
  have FM:sz6 (a.natAbs / c.natAbs)≤1000:=cw (lJ hq) (by decide)
  cases hsg:(!(decide (a<0) == decide (c<0))) with
  |false=>
   rw[aL,ab,aL,ab,yn FM,ab]
   rfl
  |true=>
   rw[ej,ab,fM]
   by_cases hR:a.natAbs % c.natAbs=0
   ·rw[aA (fun h=>h hR),ab,yn FM,ab,ar hR,mK]
   ·rw[ar hR,ab,yn hs1,ab,aA hR]
    rfl
theorem Rn(n m:Int):∃r:Int,aK jm (n,m)=some r∧r.natAbs=Nat.gcd n.natAbs m.natAbs:=by
 induction hk:m.natAbs using Nat.strongRecOn generalizing n m with
 |_ k ih=>
  subst hk
  by_cases hm:m=0
  ·subst hm
   refine⟨n,cU (by dsimp only[jm];rw[a7 _ _ (fun h=>h rfl)]),?_⟩
   rw[Int.natAbs_zero,H2]
  ·have h1:jm (n,m)=some (.inl (m,n.tmod m)):=by
    dsimp only[jm]
    rw[bb _ _ hm,aB hm]
   have e:=Int.natAbs_tmod n m
   obtain⟨r,h2,h3⟩:=ih (n.tmod m).natAbs (by rw[e];exact ep _ (by omega)) m (n.tmod m) rfl
   exact⟨r,(gR h1).trans h2,by rw[h3,e,←zR]⟩
theorem Ro(x y:Nat)(hx:sz6 x<800)(hy:sz6 y<800):aK jl (dl x,dl y)=some (dl (Nat.gcd x y)):=by
 induction y using Nat.strongRecOn generalizing x with
 |_ y ih=>
  by_cases h0:y=0
  ·subst h0
   rw[H2]
   refine cU ?_
   dsimp only[jl]
   rw[dig2,a7 _ _ (fun h=>h rfl)]
  ·have h1:jl (dl x,dl y)=some (.inl (dl y,dl (x % y))):=by
    dsimp only[jl]
    rw[dig2,bb _ _ h0,Kp hx hy (by omega),ab]
   have bG:=ep x (show 0<y by omega)
   have hs:sz6 (x % y)<800:=cD (rF (Bt bG (fm y))) hy
   rw[gR h1,ih (x % y) bG y hy hs,←zR]
theorem EG {a c:Int}(ha:a.natAbs<LIM)(hc:c.natAbs<LIM):m8 (enc a) (enc c)=some (enc (Nat.gcd a.natAbs c.natAbs:Nat)):=by
 have Oo:Nat.gcd a.natAbs c.natAbs<LIM:=by
  rcases mJ a.natAbs with h|h
  ·rw[h,L3];exact hc
  ·exact cD (yR _ h) ha
 unfold m8
 rw[t9 ha,t9 hc,ab,ab,fast2,ab,fM]
 by_cases hw:ii a∧ii c
 ·have h1:=hw.1.h
  have h2:=hw.2.h
  rw[ar hw,ar hw.1,ar hw.2]
  dsimp only
  obtain⟨r,h3,h4⟩:=Rn a c
  have hr:r.natAbs<4611686018427387904:=by
   rw[h4]
   rcases mJ a.natAbs with h|h
   ·rw[h,L3];exact h2
   ·exact cD (yR _ h) h1
  rw[h3,ab,xw (by omega) (by omega),ab,SX (by rw[h4];exact Oo),ab,h4]
 ·have hg:=Hk (enc a) (enc c)
  rw[pU] at hg
  rw[aA hw,hg,bg ha,bg hc,ab,j7,eH,aL,iL ha,ab,iL hc,ab,Ro _ _ (cD (lJ ha) (by decide)) (cD (lJ hc) (by decide)),ab,yn (cw (lJ Oo) (by decide)),ab]
  rfl
theorem SB:m6=some (enc 1):=by
 unfold m6
 rw[xw (by decide) (by decide),ab]
theorem B6:jD=some zY:=by
 unfold jD
 rw[EH,SB,ab,ab]
 rfl
theorem oc {x:ai}(hx:okR x):ct x=some (d9 x).isSome:=by
 rw[←mN hx]
 obtain⟨n,d⟩:=x
 obtain⟨h1,h2⟩:=hx
 dsimp only at h1 h2
 unfold ct ci
 dsimp only
 rw[eE,eE,qZ,qZ,ab,ab,ab,ab]
 cases Dv:cv n with
 |false=>rfl
 |true=>
  cases MW:cv d with
  |false=>rfl
  |true=>
   obtain⟨n,hn,rfl⟩:=sQ h1 Dv
   obtain⟨d,hd,rfl⟩:=sQ h2 MW
   rw[xv hd,BC hd,EG hn hd,NH hn hd,SB,NB]
   rfl
theorem BA {n d:Int}(hn:n.natAbs<LIM)(hd:d.natAbs<LIM)(h0:d≠0):c5 (enc n) (enc d)=some (kV (Rat.divInt n d)):=by
 obtain⟨Dv,MW⟩:=Hl (n:=n) h0 hd
 obtain⟨e1,e2⟩:=Je (n:=n) h0
 have Oo:(((Nat.gcd n.natAbs d.natAbs:Nat):Int)).natAbs<LIM:=by simpa using Dv
 unfold c5
 rw[eE,eE,ab,ab,bg hn,bg hd,eH,aL,aL,xv hd,ab,ab,a7 _ _ (by rw[L1];exact h0),EG hn hd,ab,ab,Km Oo,ab]
 have Qu:(cnd (decide (d.sign<(0:Int))) (some (enc (-((Nat.gcd n.natAbs d.natAbs:Nat):Int)))) (some (enc ((Nat.gcd n.natAbs d.natAbs:Nat):Int))))=some (enc (bif decide (d<0) then -((Nat.gcd n.natAbs d.natAbs:Nat):Int) else ((Nat.gcd n.natAbs d.natAbs:Nat):Int))):=by
  by_cases h:d<0
  ·rw[bb _ _ (by rw[HX];exact h),d6 h];rfl
  ·rw[a7 _ _ (by rw[HX];exact h),f8 h];rfl
 have Js:((bif decide (d<0) then -((Nat.gcd n.natAbs d.natAbs:Nat):Int) else ((Nat.gcd n.natAbs d.natAbs:Nat):Int))).natAbs<LIM∧(bif decide (d<0) then -((Nat.gcd n.natAbs d.natAbs:Nat):Int) else ((Nat.gcd n.natAbs d.natAbs:Nat):Int))≠0:=by
  cases decide (d<0)
  ·simp only[cond_false];omega
  ·simp only[ix];omega
 rw[Qu,ab,Aj hn Js.1 Js.2,ab,Aj hd Js.1 Js.2,ab,e1,e2]
 rfl
theorem Kg {x:ap}:c5 x (enc 0)=some zY:=by
 unfold c5
 rw[eE,eE,ab,ab,xv (by decide),ab,bg (by decide),B6,ab]
 cases cv x <;> rfl
theorem yV {x y:ap}(h:(cv x&&cv y)=false):c5 x y=some zY:=by
 unfold c5
 rw[eE,eE,ab,ab,B6,ab]
 cases h1:cv x with
 |false=>rfl
 |true=>
  cases h2:cv y with
  |false=>rfl
  |true=>rw[h1,h2] at h;cases h
theorem R_Mul {x y:Rat}(hx:nd x)(hy:nd y):eh (kV x) (kV y)=some (sV (PL x y)):=by
 have hdx:=x.den_pos
 have hdy:=y.den_pos
 obtain⟨c1,c2⟩:=cross x y
 have f1:=vb (n:=x.num) (d:=(y.den:Int)) (by omega) hx.1 (eM hy)
 have f2:=vb (n:=y.num) (d:=(x.den:Int)) (by omega) hy.1 (eM hx)
 unfold eh
 rw[show ct (kV x)=_ from oc (nC (some x)),show ct (kV y)=_ from oc (nC (some y)),pC hx,pC hy,ab,ab]
 simp only[t5,eH,aL,ab,rN,t3]
 rw[BA hx.1 (eM hy) (by omega),ab,BA hy.1 (eM hx) (by omega),ab]
 simp only[rN,t3]
 rw[w7 f1.1 f2.1,ab,w7 (eM f1) (eM f2),ab,←c1,←ry,←c2,pU]
 unfold PL
 by_cases h:nd (x*y)
 ·rw[ar h,BA h.1 (eM h) (by have:=(x*y).den_pos;omega),LZ]
  rfl
 ·rw[aA h,yV]
  ·rfl
  ·rw[jY,jY,←wP,dQ]
   exact f8 h
theorem R_Add {x y:Rat}(hx:nd x)(hy:nd y):iD (kV x) (kV y)=some (sV (PM x y)):=by
 have hdx:=x.den_pos
 have hdy:=y.den_pos
 have hg:0<Nat.gcd x.den y.den:=LY _ hdx
 have Oo:Nat.gcd x.den y.den<LIM:=cD (yR _ hdx) hx.2
 have Q4:((Nat.gcd x.den y.den:Nat):Int).natAbs<LIM:=by simpa using Oo
 have hp:x.den / Nat.gcd x.den y.den<LIM:=cD (qN _ _) hx.2
 have hq:y.den / Nat.gcd x.den y.den<LIM:=cD (qN _ _) hy.2
 have hp0:0<x.den / Nat.gcd x.den y.den:=Ef (yR y.den hdx) hg
 have EP:0<x.den / Nat.gcd x.den y.den*y.den:=tL hp0 hdy
 have haf:=Kb x y
 unfold iD
 rw[show ct (kV x)=_ from oc (nC (some x)),show ct (kV y)=_ from oc (nC (some y)),pC hx,pC hy,ab,ab]
 simp only[t5,eH,aL,ab,rN,t3]
 rw[EG (eM hx) (eM hy),ab,dQ,dQ,Aj (eM hx) Q4 (by omega),ab,Aj (eM hy) Q4 (by omega),ab,Cw,Cw,w7 hx.1 (by rw[dQ];exact hq),ab,w7 hy.1 (by rw[dQ];exact hp),ab,w7 (by rw[dQ];exact hp) (eM hy),←ry]
 unfold PM
 revert haf
 generalize x.num*((y.den / Nat.gcd x.den y.den:Nat):Int)=z1
 generalize y.num*((x.den / Nat.gcd x.den y.den:Nat):Int)=z2
 revert EP
 generalize x.den / Nat.gcd x.den y.den*y.den=D
 intro EP haf
 have hsum:lz (enc z1) (enc z2)=some (if z1.natAbs<LIM∧z2.natAbs<LIM then enc (z1+z2) else Fo):=by
  by_cases h:z1.natAbs<LIM∧z2.natAbs<LIM
  ·rw[ar h,SW h.1 h.2]
  ·rw[aA h,Id (xc _) (xc _) (by rw[jY,jY,←wP];exact f8 h)]
 rw[hsum,ab,ab,pU]
 by_cases h:z1.natAbs<LIM∧z2.natAbs<LIM
 ·rw[ar h]
  by_cases h2:(z1+z2).natAbs<LIM∧D<LIM
  ·rw[BA h2.1 (by rw[dQ];exact h2.2) (by omega),haf,ar ⟨h.1,h.2,h2⟩];rfl
  ·rw[yV (by rw[jY,jY,←wP,dQ];exact f8 h2),aA fun hh=>h2 hh.2.2];rfl
 ·rw[aA h,yV (by rw[Be,Bool.false_and]),aA fun hh=>h ⟨hh.1,hh.2.1⟩];rfl
theorem SD {x y:ai}(hx:okR x)(hy:okR y):iD x y=some (sV (PV (d9 x) (d9 y))):=by
 cases h1:d9 x with
 |none=>
  unfold iD
  rw[oc hx,oc hy,h1,ab,ab,B6,ab];rfl
 |some p=>
  cases h2:d9 y with
  |none=>
   unfold iD
   rw[oc hx,oc hy,h1,h2,ab,ab,B6,ab];rfl
  |some q=>
   obtain⟨hp,rfl⟩:=dY.1 h1
   obtain⟨hq,rfl⟩:=dY.1 h2
   exact R_Add hp hq
theorem SC {x y:ai}(hx:okR x)(hy:okR y):eh x y=some (sV (GL (d9 x) (d9 y))):=by
 cases h1:d9 x with
 |none=>
  unfold eh
  rw[oc hx,oc hy,h1,ab,ab,B6,ab];rfl
 |some p=>
  cases h2:d9 y with
  |none=>
   unfold eh
   rw[oc hx,oc hy,h1,h2,ab,ab,B6,ab];rfl
  |some q=>
   obtain⟨hp,rfl⟩:=dY.1 h1
   obtain⟨hq,rfl⟩:=dY.1 h2
   exact R_Mul hp hq
theorem SA {x:ai}(hx:okR x):m7 x=some (sV (N6 (d9 x))):=by
 unfold m7
 rw[oc hx,ab]
 cases h1:d9 x with
 |none=>rw[B6,ab];rfl
 |some p=>
  obtain⟨hp,rfl⟩:=dY.1 h1
  simp only[t5,eH,aL,rN,t3]
  rw[Km hp.1,ab]
  rfl
theorem R_osub {x y:ai}(hx:okR x)(hy:okR y):lw x y=some (sV (osub (d9 x) (d9 y))):=by
 unfold lw
 rw[SA hy,ab,SD hx (nC _),ab,ug (I0 (JK y))]
 rfl
theorem Mh {q:Rat}(hq:nd q):c5 (enc (q.den:Int)) (enc q.num)=some (sV (oinv (some q))):=by
 by_cases h:q=0
 ·subst h
  show c5 _ (enc 0)=_
  rw[Kg];rfl
 ·have hn:q.num≠0:=fun h0=>h (Rat.num_eq_zero.1 h0)
  rw[BA (eM hq) hq.1 hn,←Rat.inv_def]
  show _=some (sV (if q=0 then none else some q⁻¹))
  rw[aA h];rfl
theorem R_odiv {x y:ai}(hx:okR x)(hy:okR y):lx x y=some (sV (odiv (d9 x) (d9 y))):=by
 unfold lx
 rw[oc hy,ab]
 cases h2:d9 y with
 |none=>
  rw[B6,ab]
  show some zY=some (sV (GL (d9 x) none))
  unfold GL
  cases d9 x <;> rfl
 |some q=>
  obtain⟨hq,rfl⟩:=dY.1 h2
  simp only[t5,eH,aL,rN,t3]
  rw[Mh hq,ab,SC hx (nC _),ab,ug (I1 fun r hr=>by injection hr with hr;subst hr;exact hq)]
  rfl
theorem R_osgn {x:ai}(hx:okR x):gA x=some (osgn (d9 x)):=by
 unfold gA
 rw[oc hx,ab]
 cases h1:d9 x with
 |none=>rfl
 |some p=>
  obtain⟨hp,rfl⟩:=dY.1 h1
  simp only[t5,eH,aL,rN]
  rw[xv hp.1,ab]
  rfl
theorem R_Of {n:Int}(h1:-9223372036854775808≤n)(h2:n≤9223372036854775807):e8 n=some (kV (n:Rat)):=by
 have hL:n.natAbs<LIM:=bU (show n.natAbs<18446744073709551616 by omega) (by decide)
 unfold e8
 rw[xw h1 h2,ab,SB,ab,BA hL (by decide) (by decide),ab,DJ]
def Nu:={x:ai // okR x}
instance:DecidableEq Nu:=inferInstanceAs (DecidableEq {x:ai // okR x})
theorem okR0:okR (default:ai):=by
 have h:∀j:Nat,j<16→(default:ap).vW[j]! =0:=by
  intro j hj
  show (cQ)[j]! =0
  rw[f7 (cQ) j hj,Vector.getElem_replicate]
 exact⟨fun j hj=>by show 0≤(default:ap).vW[j]!∧(default:ap).vW[j]! <4294967296;rw[h j hj];omega,fun j hj=>by show 0≤(default:ap).vW[j]!∧(default:ap).vW[j]! <4294967296;rw[h j hj];omega⟩
instance:Inhabited Nu:=⟨⟨default,okR0⟩⟩
def nuR(o:Option Rat):Nu:=⟨sV o,nC o⟩
def decW(v:Vector Int 16):Nat:=gQ 4294967296 (fun j=>(v[j]!).toNat) 16
def Fl(x:ap):Int:=if x.vNeg then -(decW x.vW:Int) else decW x.vW
theorem decW_W {A:Nat}(h:A<LIM):decW (W A)=A:=by
 refine RD (b:=4294967296) (n:=16) ?_ h fun j hj=>?_
 ·exact Ct (by decide) _ fun j hj=>by
   rw[gX hj]
   have:=@dgl A j
   omega
 ·unfold decW
  rw[Ho (by decide) 16 (fun i hi=>by
   rw[gX hi]
   have:=@dgl A i
   omega) j hj,gX hj]
  omega
theorem JT {z:Int}(h:z.natAbs<LIM):Fl (enc z)=z:=by
 rw[sU h]
 unfold Fl
 dsimp only
 rw[decW_W h]
 by_cases hz:z<0
 ·rw[ar (d6 hz)];omega
 ·rw[aA (by simpa using hz)];omega
def AB(x:ai):Option Rat:=if nd (Rat.divInt (Fl x.vN) (Fl x.vD))∧kV (Rat.divInt (Fl x.vN) (Fl x.vD))=x then some (Rat.divInt (Fl x.vN) (Fl x.vD)) else none
theorem uS:AB=d9:=by
 funext x
 unfold AB
 cases h:d9 x with
 |none=>exact aA fun hh=>AA.1 h _ hh.1 hh.2.symm
 |some q=>
  obtain⟨h1,h2⟩:=dY.1 h
  have hn:Fl x.vN=q.num:=by rw[h2];exact JT h1.1
  have hd:Fl x.vD=(q.den:Int):=by rw[h2];exact JT (eM h1)
  rw[hn,hd,show Rat.divInt q.num q.den=q from by rw[LX];exact Rat.mkRat_self q,ar ⟨h1,h2.symm⟩]
def Ob(x y:Nu):Nu:=nuR (PV (AB x.1) (AB y.1))
def sJ(x y:Nu):Nu:=nuR (GL (AB x.1) (AB y.1))
def yz(x y:Nu):Nu:=nuR (osub (AB x.1) (AB y.1))
def wv(x y:Nu):Nu:=nuR (odiv (AB x.1) (AB y.1))
def I7(x:Nu):Nu:=nuR (N6 (AB x.1))
def nOf(n:Int):Nu:=nuR (some (n:Rat))
def i9(x:Nu):Int:=osgn (AB x.1)
def ck(x:Nu):Bool:=(AB x.1).isSome
theorem I9(x y:Nu):Ob x y=nuR (PV (d9 x.1) (d9 y.1)):=by unfold Ob;rw[uS]
theorem C8(x y:Nu):sJ x y=nuR (GL (d9 x.1) (d9 y.1)):=by unfold sJ;rw[uS]
theorem I5(x y:Nu):yz x y=nuR (osub (d9 x.1) (d9 y.1)):=by unfold yz;rw[uS]
theorem I8(x y:Nu):wv x y=nuR (odiv (d9 x.1) (d9 y.1)):=by unfold wv;rw[uS]
theorem I6(x:Nu):I7 x=nuR (N6 (d9 x.1)):=by unfold I7;rw[uS]
theorem AS(x:Nu):i9 x=osgn (d9 x.1):=by unfold i9;rw[uS]
theorem xe(x:Nu):ck x=(d9 x.1).isSome:=by unfold ck;rw[uS]
def rv(x:Nu):Rat:=(d9 x.1).getD 0
theorem val_nuR {o:Option Rat}(h:JL o):d9 (nuR o).1=o:=ug h
theorem I2 {q:Rat}(h:nd q):ck (nuR (some q))=true∧rv (nuR (some q))=q:=by
 have:d9 (nuR (some q)).1=some q:=val_nuR (o:=some q) fun p hp=>by injection hp with hp;rw[←hp];exact h
 rw[xe];unfold rv
 rw[this]
 exact⟨rfl,rfl⟩
theorem fit0:nd 0:=⟨by decide,by decide⟩
theorem fit1:nd 1:=⟨by decide,by decide⟩
theorem of0:ck (nOf 0)=true∧rv (nOf 0)=0:=I2 (q:=((0:Int):Rat)) fit0
theorem of1:ck (nOf 1)=true∧rv (nOf 1)=1:=I2 (q:=((1:Int):Rat)) fit1
section
def wC(C k:Nat)(V:List Nu):Nat→Nat→Option Nat
 |0,_=>none
 |n+1,i=>if i9 V[i*C+k]!≠0 then some i else wC C k V n (i+1)
def mA(C:Nat)(V:List Nu)(i r:Nat):Nat→List Nu
 |0=>V
 |j+1=>((mA C V i r j).set (i*C+j) (mA C V i r j)[r*C+j]!).set (r*C+j) (mA C V i r j)[i*C+j]!
def ng(V:List Nu)(o:Nat)(h:List Nu→Nat→Nu):Nat→List Nu
 |0=>V
 |j+1=>(ng V o h j).set (o+j) (h (ng V o h j) j)
def g6(C k r:Nat)(V:List Nu):Nat→List Nu
 |0=>V
 |n+1=>if n≠r∧i9 (g6 C k r V n)[n*C+k]!≠0 then ng (g6 C k r V n) (n*C) (fun U j=>yz U[n*C+j]! (sJ (g6 C k r V n)[n*C+k]! U[r*C+j]!)) C else g6 C k r V n
structure Pv where
 col:Nat
 by':Nu
 mov:Bool
 deriving Inhabited
def byN(C k i r:Nat)(V:List Nu):Nu:=(mA C V i r C)[r*C+k]!
def sE(R C k i r:Nat)(V:List Nu):List Nu:=g6 C k r (ng (mA C V i r C) (r*C) (fun U j=>wv U[r*C+j]! (byN C k i r V)) C) R
def ms(R C:Nat):Nat→Nat→Nat→List Nu→List Pv→Option (List Nu×List Pv)
 |0,_,_,V,acc=>some (V,acc)
 |n+1,k,r,V,acc=>if r<R then
   match wC C k V (R - r) r with
   |none=>ms R C n (k+1) r V acc
   |some i=>if (sE R C k i r V).all ck then ms R C n (k+1) (r+1) (sE R C k i r V) (acc++[⟨k,byN C k i r V,decide (i≠r)⟩]) else none
  else some (V,acc)
theorem M0 {V:List Nu}{i t:Nat}{x:Nu}(hi:i<V.length):(V.set i x)[t]! =if t=i then x else V[t]! :=by
 simp only[DX]
 by_cases h:t=i
 ·subst h;rw[ar rfl,HW hi];rfl
 ·rw[aA h,LW (fun e=>h e.symm)]
theorem ss {C:Nat}{V:List Nu}{i r:Nat}:∀j,(mA C V i r j).length=V.length
 |0=>rfl
 |j+1=>by unfold mA;rw[BY,BY,ss j]
theorem nf {V:List Nu}{o:Nat}{h:List Nu→Nat→Nu}:∀j,(ng V o h j).length=V.length
 |0=>rfl
 |j+1=>by unfold ng;rw[BY,nf j]
theorem su {C k r:Nat}{V:List Nu}:∀n,(g6 C k r V n).length=V.length
 |0=>rfl
 |n+1=>by
  unfold g6
  split
  ·rw[nf,su n]
  ·exact su n
theorem AJ {R C k i r:Nat}{V:List Nu}:(sE R C k i r V).length=V.length:=by unfold sE;rw[su,nf,ss]
theorem bj {R C i j:Nat}(hi:i<R)(hj:j<C):i*C+j<R*C:=by
 have:(i+1)*C≤R*C:=bJ C hi
 rw[bZ,d8] at this
 omega
theorem AQ {C i j i' j':Nat}(hj:j<C)(Ip:j'<C)(h:i*C+j=i'*C+j'):i=i'∧j=j':=by
 have h1:(i*C+j) / C=i:=by rw[cC,DV (by omega),gO hj];omega
 have h2:(i'*C+j') / C=i':=by rw[cC,DV (by omega),gO Ip];omega
 have:i=i':=by rw[←h1,←h2,h]
 subst this
 exact⟨rfl,by omega⟩
section
variable {R C:Nat} {V:List Nu}
theorem JW {n o:Nat}{h:List Nu→Nat→Nu}(ho:o+n≤V.length)(hh:∀(U:List Nu) j,j<n→(∀t,t<o∨o+j≤t→U[t]! =V[t]!)→h U j=h V j):∀j,j≤n→∀t,(ng V o h j)[t]! =if o≤t∧t<o+j then h V (t - o) else V[t]!
 |0,_,t=>by rw[ifn_];rfl
 |j+1,hj,t=>by
  have ih:=JW ho hh j (by omega)
  unfold ng
  rw[M0 (by rw[nf];omega)]
  by_cases e:t=o+j
  ·subst e
   rw[ar rfl,ifp_,hh _ j (by omega) (fun t ht=>by rw[ih t,ifn_]),show o+j - o=j by omega]
  ·rw[aA e,ih t]
   by_cases h2:o≤t∧t<o+j
   ·rw[ar h2,ifp_]
   ·rw[aA h2,ifn_]
theorem RN(hV:V.length=R*C){i:Nat}(hi:i<R){h:List Nu→Nat→Nu}(hh:∀(U:List Nu) j,j<C→(∀a b,a<R→b<C→a≠i∨j≤b→U[a*C+b]! =V[a*C+b]!)→h U j=h V j){a b:Nat}(ha:a<R)(hb:b<C):
  (ng V (i*C) h C)[a*C+b]! =if a=i then h V b else V[a*C+b]! :=by
 have hle:i*C+C≤V.length:=by
  rw[hV]
  have:(i+1)*C≤R*C:=bJ C hi
  rw[bZ,d8] at this
  exact this
 rw[JW hle (fun U j hj hU=>hh U j hj fun a b ha hb MX=>hU _ ?_) C (aD _)]
 ·by_cases e:a=i
  ·subst e
   rw[ar ⟨by omega,by omega⟩,ar rfl,show a*C+b - a*C=b by omega]
  ·rw[aA e,aA]
   intro⟨h1,h2⟩
   obtain⟨d,hd⟩:∃d,a*C+b=i*C+d:=⟨a*C+b - i*C,by omega⟩
   exact e (AQ hb (show d<C by omega) hd).1
 ·rcases MX with h1|h1
  ·rcases bt a i with h2|h2
   ·left
    have:(a+1)*C≤i*C:=bJ C h2
    rw[bZ,d8] at this
    omega
   ·right
    have:(i+1)*C≤a*C:=bJ C (by omega)
    rw[bZ,d8] at this
    omega
  ·rcases yP a i with h2|h2|h2
   ·left
    have:(a+1)*C≤i*C:=bJ C h2
    rw[bZ,d8] at this
    omega
   ·subst h2;right;omega
   ·right
    have:(i+1)*C≤a*C:=bJ C (by omega)
    rw[bZ,d8] at this
    omega
theorem FA(hV:V.length=R*C){k r:Nat}(hk:k<C)(hr:r<R):∀n,n≤R→∀a b,a<R→b<C→(g6 C k r V n)[a*C+b]! =if a<n∧a≠r∧i9 V[a*C+k]!≠0 then yz V[a*C+b]! (sJ V[a*C+k]! V[r*C+b]!) else V[a*C+b]!
 |0,_,a,b,_,_=>by rw[ifn_];rfl
 |n+1,hn,a,b,ha,hb=>by
  have ih:=FA hV hk hr n (by omega)
  have hx:(g6 C k r V n)[n*C+k]! =V[n*C+k]! :=by rw[ih n k (by omega) hk,ifn_]
  have hlen:(g6 C k r V n).length=R*C:=by rw[su,hV]
  unfold g6
  by_cases hc:n≠r∧i9 (g6 C k r V n)[n*C+k]!≠0
  ·rw[ar hc,RN hlen (show n<R by omega) (fun U j hj hU=>by rw[hU n j (by omega) hj (.inr (aD _)),hU r j hr hj (.inl (n9 hc.1))]) ha hb]
   rw[hx] at hc ⊢
   by_cases e:a=n
   ·subst e
    rw[ar rfl,ar ⟨by omega,hc⟩,ih a b ha hb,ifn_,ih r b hr hb,ifn_]
   ·rw[aA e,ih a b ha hb]
    by_cases h2:a<n∧a≠r∧i9 V[a*C+k]!≠0
    ·rw[ar h2,ar ⟨by omega,h2.2⟩]
    ·rw[aA h2,aA fun h3=>h2 ⟨by omega,h3.2⟩]
  ·rw[aA hc,ih a b ha hb]
   rw[hx] at hc
   by_cases h2:a<n∧a≠r∧i9 V[a*C+k]!≠0
   ·rw[ar h2,ar ⟨by omega,h2.2⟩]
   ·rw[aA h2,aA fun h3=>?_]
    by_cases e:a=n
    ·subst e;exact hc h3.2
    ·exact h2 ⟨by omega,h3.2⟩
theorem MZ(hg:V.all ck=true){t:Nat}(ht:t<V.length):ck V[t]! =true:=by
 rw[f7 V t ht];exact cb.1 hg _ (B0 ht)
theorem FT {k:Nat}:∀{n i i0:Nat},wC C k V n i=some i0→i≤i0∧i0<i+n∧i9 V[i0*C+k]!≠0
 |0,_,_,h=>by cases h
 |n+1,i,i0,h=>by
  unfold wC at h
  split at h
  ·rename_i hs;cases h;exact⟨by omega,by omega,hs⟩
  ·obtain⟨h1,h2,h3⟩:=FT h;exact⟨by omega,by omega,h3⟩
end
end
section
def mkM {α:Type}(R C:Nat)(f:Nat→Nat→α):List α:=(List.range R).flatMap fun i=>(List.range C).map (f i)
section
variable {α β:Type} {R C:Nat} {f g:Nat→Nat→α}
theorem uo:mkM (R+1) C f=mkM R C f++(List.range C).map (f R):=by
 unfold mkM
 rw[yk,D8]
 simp
theorem bL:(mkM R C f).length=R*C:=by
 induction R with
 |zero=>simp[mkM]
 |succ R ih=>rw[uo,eI,ih,bW,BZ,jS]
theorem sK {i k:Nat}(hi:i<R)(hk:k<C):(mkM R C f)[i*C+k]? =some (f i k):=by
 induction R with
 |zero=>omega
 |succ R ih=>
  rw[uo]
  rcases bt i R with h|h
  ·have:=bj h hk
   rw[wO (by rw[bL];exact this)]
   exact ih h
  ·obtain rfl:i=R:=by omega
   rw[wN (by rw[bL];omega),bL,Ka,fO,wM hk]
   rfl
theorem AK {t:Nat}(h:t<R*C):∃i k,i<R∧k<C∧t=i*C+k:=by
 have hC:0<C:=by
  rcases mJ C with h0|h0
  ·rw[h0,HV] at h;omega
  ·exact h0
 refine⟨t / C,t % C,?_,ep _ hC,?_⟩
 ·exact J8 (by rw[cC];exact h)
 ·rw[cC];exact (pW t C).symm
theorem GO {l:List α}(hl:l.length=R*C)(h:∀i k,i<R→k<C→l[i*C+k]? =some (f i k)):l=mkM R C f:=by
 apply vo
 intro t
 rcases bt t (R*C) with ht|ht
 ·obtain⟨i,k,hi,hk,rfl⟩:=AK ht
  rw[h i k hi hk,sK hi hk]
 ·rw[fa (by omega),fa (by rw[bL];exact ht)]
theorem uq(h:∀i k,i<R→k<C→f i k=g i k):mkM R C f=mkM R C g:=GO bL fun i k hi hk=>by rw[sK hi hk,h i k hi hk]
theorem mkM_of [Inhabited α]{l:List α}(hl:l.length=R*C):l=mkM R C fun i k=>l[i*C+k]! :=GO hl fun i k hi hk=>by
 have:=bj hi hk
 rw[DX,i8 (by omega)];rfl
theorem mkM_set {i k:Nat}(hi:i<R)(hk:k<C)(x:α):(mkM R C f).set (i*C+k) x=mkM R C fun a b=>if a=i∧b=k then x else f a b:=by
 refine GO (by rw[BY,bL]) fun a b ha hb=>?_
 by_cases h:a=i∧b=k
 ·obtain⟨rfl,rfl⟩:=h
  rw[ar ⟨rfl,rfl⟩,HW (by rw[bL];exact bj hi hk)]
 ·rw[aA h,LW (fun e=>h ?_),sK ha hb]
  obtain⟨h1,h2⟩:=AQ hk hb e
  exact⟨h1.symm,h2.symm⟩
theorem CA {p:α→Bool}:(mkM R C f).all p=true↔∀i k,i<R→k<C→p (f i k)=true:=by
 rw[cb]
 constructor
 ·intro h i k hi hk
  exact h _ (bT (sK hi hk))
 ·intro h x hx
  obtain⟨t,ht⟩:=wK hx
  have bG:t<R*C:=by have:=(j4.1 ht).1;rwa[bL] at this
  obtain⟨i,k,hi,hk,rfl⟩:=AK bG
  rw[sK hi hk] at ht
  injection ht with ht
  rw[←ht];exact h i k hi hk
theorem Jb {x:α}:mkM R C (fun _ _=>x)=List.replicate (R*C) x:=by
 apply vo
 intro t
 rcases bt t (R*C) with ht|ht
 ·obtain⟨i,k,hi,hk,rfl⟩:=AK ht
  rw[sK hi hk,List.getElem?_replicate,ar ht]
 ·rw[fa (by rw[bL];exact ht),fa (by rw[Bm];exact ht)]
theorem mkM_row {i:Nat}(hi:i<R):((mkM R C f).drop (i*C)).take C=(List.range C).map (f i):=by
 apply vo
 intro t
 rw[ez]
 split
 ·rename_i ht
  rw[lX,sK hi ht,fO,wM ht];rfl
 ·rename_i ht
  rw[fa (by rw[bW,BZ];omega)]
end
end
section
section
variable {B:Nat} {hp:Hp} {g:Gh} {w w':World}
def Hp.re(hp:Hp)(k:Nat)(ds:List D):Hp:=⟨(hp.next,ds)::hp.vars.filter fun p=>!([k]:List Nat).contains p.1,hp.live,hp.next+1⟩
theorem zB {k:Nat}{ds a:List D}{j:Nat}(h:(hp.re k ds).vars.lookup j=some a):(j=hp.next∧a=ds)∨(j≠hp.next∧j≠k∧hp.vars.lookup j=some a):=by
 by_cases hj:j=hp.next
 ·subst hj
  have:some ds=some a:=by rw[←h];exact ak.symm
  injection this with this
  exact .inl ⟨rfl,this.symm⟩
 ·have h1:(hp.vars.filter fun p=>!([k]:List Nat).contains p.1).lookup j=some a:=by rw[←h];exact (ay hj).symm
  obtain⟨h2,h3⟩:=lq h1
  exact .inr ⟨hj,by simpa using h2,h3⟩
theorem bC.re(hr:HR B hp g w){k b:Nat}{pm:List D}(hk:hp.vars.lookup k=some pm)(ds:List D)(hs:w.heap.size≤w'.heap.size)(ho:∀c,c<w.heap.size→c≠g.μ k→w'.heap[c]? =w.heap[c]?)(hz:SzB w w' (g.μ k))(hb:b=g.μ k∨w.heap.size≤b):
  bC hp g w (hp.re k ds) (g.var hp.next b) w':=by
 have bG:=hr.var_lt hk
 obtain⟨h1,h2,h3,_⟩:=hr.var k pm hk
 refine⟨hs,fun p hp1 hf=>World.cell?_of_block (ho _ hp1 fun e=>hf (h3 p e)),fun p hpb hf=>?_,gN _,fun j hj=>?_,fun _ _ m _ hm=>⟨m,hm,aD _,fun _=>rfl⟩,fun c hc hf=>⟨ho _ hc fun e=>hf.1 k pm hk e.symm,fun _ _ h=>.inl h,fun j a hj=>?_,hf.2⟩,fun c=>?_⟩
 ·rcases hf with hf|hf
  ·exact hf
  ·rcases hb with hb|hb
   ·exact h3 p (by rw[hf,hb])
   ·omega
 ·show (if j=hp.next then _ else _)=_
  rw[ifn_]
 ·rcases zB hj with⟨rfl,_⟩|⟨qu,_,h⟩
  ·show (if _ then _ else _)≠_
   rw[ar rfl]
   rcases hb with hb|hb
   ·rw[hb];exact hf.1 k pm hk
   ·omega
  ·show (if _ then _ else _)≠_
   rw[aA qu]
   exact hf.1 j a h
 ·by_cases hc:c=g.μ k
  ·subst hc;exact hz
  ·exact .same fun h=>ho c h hc
theorem HR.re(hr:HR B hp g w){k b:Nat}{pm:List D}(hk:hp.vars.lookup k=some pm)(ds:List D)(hs:w.heap.size≤w'.heap.size)(ho:∀c,c<w.heap.size→c≠g.μ k→w'.heap[c]? =w.heap[c]?)(hz:SzB w w' (g.μ k))(hb:b=g.μ k∨w.heap.size≤b)
  (cs:Array Value) (ty:TypeId) (hn:w'.heap[b]? =some (.cells cs ty (0,0))) (hl:ds.length≤cs.size) (hc:∀(j:Nat) (u:Value),cs[j]? =some u→(j<ds.length→u.oneCell'=true)∧∀d,ds[j]? =some d→aI hp g w d u):HR B (hp.re k ds) (g.var hp.next b) w':=by
 have m:=bC.re hr hk ds hs ho hz hb
 have hkl:=hr.var_lt hk
 obtain⟨hk1,E9,hk3,_⟩:=hr.var k pm hk
 have hbl:b<w'.heap.size:=(ey.1 hn).1
 have xC:(g.var hp.next b).μ hp.next=b:=ar rfl
 have hμ:∀j,j<hp.next→(g.var hp.next b).μ j=g.μ j:=m.μ
 have hdiff:∀{j:Nat} {a:List D},j≠k→hp.vars.lookup j=some a→g.μ j≠g.μ k:=fun hj h e=>hj (hr.inj _ _ _ _ h hk e)
 have Ci:∀{j:Nat} {a:List D},j≠k→hp.vars.lookup j=some a→g.μ j≠b:=fun hj h e=>by
  rcases hb with hb|hb
  ·exact hdiff hj h (by rw[e,hb])
  ·have:=hr.var_lt h;omega
 refine⟨fun j a hj=>?_,fun j j' a a' hj Ip he=>?_,fun id n e hi=>?_,fun id A9 t t' c hi Ap he FP=>hr.tinj id A9 t t' c hi Ap he FP,cw hr.base hs,fun p hf=>?_⟩
 ·rcases zB hj with⟨rfl,rfl⟩|⟨qu,hjk,h0⟩
  ·rw[xC]
   refine⟨cp _,?_,fun p hp'=>.inr hp',cs,ty,hn,hl,fun i u hu=>⟨(hc i u hu).1,fun d hd=>((hc i u hu).2 d hd).mono m⟩⟩
   rcases hb with hb|hb
   ·rw[hb];exact E9
   ·exact cw hr.base hb
  ·have bG:=hr.var_lt h0
   obtain⟨h1,h2,h3,vd,Ku,h4,h5,h6⟩:=hr.var j a h0
   rw[hμ j h1]
   exact⟨pZ h1,h2,fun p hp'=>.inl (h3 p hp'),vd,Ku,(ho _ bG (hdiff hjk h0)).trans h4,h5,fun i u hu=>⟨(h6 i u hu).1,fun d hd=>((h6 i u hu).2 d hd).mono m⟩⟩
 ·rcases zB hj with⟨h1,_⟩|⟨h1,hjk,h0⟩ <;> rcases zB Ip with⟨h2,_⟩|⟨h2,hjk',Iu⟩
  ·omega
  ·rw[h1,xC,hμ j' (hr.var j' a' Iu).1] at he
   exact absurd he.symm (Ci hjk' Iu)
  ·rw[h2,xC,hμ j (hr.var j a h0).1] at he
   exact absurd he (Ci hjk h0)
  ·rw[hμ j (hr.var j a h0).1,hμ j' (hr.var j' a' Iu).1] at he
   exact hr.inj j j' a a' h0 Iu he
 ·obtain⟨h1,us,hz',h2,h3⟩:=hr.tok id n e hi
  refine⟨pZ h1,us,hz',⟨h2.1,?_⟩,fun c CD=>⟨fun p h4 h5=>.inl ((h3 c CD).1 p h4 h5),fun j a hj=>?_⟩⟩
  ·rcases h2.2 with h0|⟨c,cap,cur,hv,hB,hh,r⟩
   ·exact .inl h0
   ·exact .inr ⟨c,cap,cur,hv,hB,(ho c (ey.1 hh).1 fun e=>(h3 c (by rw[hv];rfl)).2 k pm hk e.symm).trans hh,r⟩
  ·rcases zB hj with⟨rfl,_⟩|⟨qu,_,h0⟩
   ·rw[xC]
    rcases hb with hb|hb
    ·rw[hb];exact (h3 c CD).2 k pm hk
    ·have:=(h2.lt c CD).2;omega
   ·rw[hμ j (hr.var j a h0).1]
    exact (h3 c CD).2 j a h0
 ·rcases hf with hf|hf
  ·exact bU (hr.fits p hf) hs
  ·rw[hf];exact hbl
theorem bC.addVar(hp:Hp)(g:Gh)(ds:List D){b:Nat}(hs:w.heap.size≤w'.heap.size)(hb:∀c,c<w.heap.size→w'.heap[c]? =w.heap[c]?)(ze:w.heap.size≤b):bC hp g w (hp.var ds) (g.var hp.next b) w':=by
 refine⟨hs,fun p hp1 _=>World.cell?_of_block (hb _ hp1),fun p hpb hf=>?_,gN _,fun k hk=>?_,fun _ _ m _ hm=>⟨m,hm,aD _,fun _=>rfl⟩,fun c hc hf=>⟨hb _ hc,fun _ _ h=>.inl h,fun k ds' hk=>?_,hf.2⟩,fun c=>.same (hb c)⟩
 ·rcases hf with hf|hf
  ·exact hf
  ·omega
 ·show (if k=hp.next then _ else _)=_
  rw[ifn_]
 ·show (if k=hp.next then _ else _)≠_
  by_cases BQ:k=hp.next
  ·rw[ar BQ];omega
  ·rw[aA BQ]
   exact hf.1 k ds' (by rw[←hk];exact (ay BQ).symm)
theorem HR.addVar(hr:HR B hp g w)(ds:List D){b:Nat}(hs:w.heap.size≤w'.heap.size)(hb:∀c,c<w.heap.size→w'.heap[c]? =w.heap[c]?)(ze:w.heap.size≤b)(cs:Array Value)(ty:TypeId)(hn:w'.heap[b]? =some (.cells cs ty (0,0)))(hl:ds.length≤cs.size)
  (hc:∀(j:Nat) (u:Value),cs[j]? =some u→(j<ds.length→u.oneCell'=true)∧∀d,ds[j]? =some d→aI (hp.var ds) (g.var hp.next b) w' d u):HR B (hp.var ds) (g.var hp.next b) w':=by
 have m:=bC.addVar hp g ds hs hb ze
 have hμ:∀k,k<hp.next→(g.var hp.next b).μ k=g.μ k:=m.μ
 have xC:(g.var hp.next b).μ hp.next=b:=ar rfl
 have hbl:b<w'.heap.size:=(ey.1 hn).1
 have look:∀{j:Nat} {a:List D},(hp.var ds).vars.lookup j=some a→(j=hp.next∧a=ds)∨(j≠hp.next∧hp.vars.lookup j=some a):=by
  intro j a hj
  by_cases Bc:j=hp.next
  ·subst Bc
   have:some ds=some a:=by rw[←hj];exact ak.symm
   injection this with this
   exact .inl ⟨rfl,this.symm⟩
  ·exact .inr ⟨Bc,by rw[←hj];exact (ay Bc).symm⟩
 refine⟨fun j a hj=>?_,fun j j' a a' hj Ip he=>?_,fun id n e hi=>?_,fun id A9 t t' c hi Ap he FP=>hr.tinj id A9 t t' c hi Ap he FP,cw hr.base hs,fun p hf=>?_⟩
 ·rcases look hj with⟨rfl,rfl⟩|⟨qu,h0⟩
  ·rw[xC]
   exact⟨cp _,cw hr.base ze,fun p hp'=>.inr hp',cs,ty,hn,hl,hc⟩
  ·have bG:=hr.var_lt h0
   obtain⟨h1,h2,h3,vd,Ku,h4,h5,h6⟩:=hr.var j a h0
   rw[hμ j h1]
   exact⟨pZ h1,h2,fun p hp'=>.inl (h3 p hp'),vd,Ku,(hb _ bG).trans h4,h5,fun i u hu=>⟨(h6 i u hu).1,fun d hd=>((h6 i u hu).2 d hd).mono m⟩⟩
 ·rcases look hj with⟨h1,_⟩|⟨h1,h0⟩ <;> rcases look Ip with⟨h2,_⟩|⟨h2,Iu⟩
  ·omega
  ·rw[h1,xC,hμ j' (hr.var j' a' Iu).1] at he
   have:=hr.var_lt Iu;omega
  ·rw[h2,xC,hμ j (hr.var j a h0).1] at he
   have:=hr.var_lt h0;omega
  ·rw[hμ j (hr.var j a h0).1,hμ j' (hr.var j' a' Iu).1] at he
   exact hr.inj j j' a a' h0 Iu he
 ·obtain⟨h1,us,hz',h2,h3⟩:=hr.tok id n e hi
  refine⟨pZ h1,us,hz',⟨h2.1,?_⟩,fun c CD=>⟨fun p h4 h5=>.inl ((h3 c CD).1 p h4 h5),fun j a hj=>?_⟩⟩
  ·rcases h2.2 with h0|⟨c,cap,cur,hv,hB,hh,r⟩
   ·exact .inl h0
   ·exact .inr ⟨c,cap,cur,hv,hB,(hb c (ey.1 hh).1).trans hh,r⟩
  ·rcases look hj with⟨rfl,_⟩|⟨qu,h0⟩
   ·rw[xC]
    have:=(h2.lt c CD).2;omega
   ·rw[hμ j (hr.var j a h0).1]
    exact (h3 c CD).2 j a h0
 ·rcases hf with hf|hf
  ·exact bU (hr.fits p hf) hs
  ·rw[hf];exact hbl
end
end
section
def D.toOw:D→D
 | .gw k z n=>.ow k 0 z n
 |d=>d
section
variable {P:Program} {tb:TypeId→Option TyE} {md:Md} {B:Nat} {hp hp':Hp} {g:Gh} {w w':World} {d:D} {v:Value}
theorem aI.toOw(h:aI hp g w d v):aI hp g w d.toOw v:=by
 cases h with
 |gw k z n c hk h1 h2 hs=>exact .ow k 0 z n c hk h1 h2
 |e x v h=>exact .e x v h
 |own id z n xs v h hid ht=>exact .own id z n xs v h hid ht
 |fu z n xs A h=>exact .fu z n xs A h
 |ag ds cs hl h1 hr=>exact .ag ds cs hl h1 hr
 |tu ds cs hl hr=>exact .tu ds cs hl hr
 |fp xs off ad hb hc=>exact .fp xs off ad hb hc
 |pt k off hk=>exact .pt k off hk
 |ow k off z n c hk h1 h2=>exact .ow k off z n c hk h1 h2
 |fn f ks hk=>exact .fn f ks hk
 |opt b d v hi h=>exact .opt b d v hi h
 |top v=>exact .top v
theorem MB {k off:Nat}(d:D):d.toOw.un=.pt k off↔d.un=.pt k off:=by cases d <;> simp[D.toOw,D.un]
theorem qm.toOw {o:Oper}{ev:Operand→D}(h:qm P o (fun x=>(ev x).toOw) hp d hp'):qm P o ev hp d hp':=
 fun B g w a Kn Q hr hx hk=>h B g w a Kn Q hr (fun x xf=>(hx x xf).toOw) hk
theorem nT.toOw {o:Oper}{ev:Operand→D}(h:nT P tb md o (fun x=>(ev x).toOw) hp d hp'):nT P tb md o ev hp d hp':=
 ⟨h.ok.toOw,fun h1=>⟨(h.quiet h1).1,fun bQ h3=>((h.quiet h1).2 bQ fun hl x hx j off e=>h3 hl x hx j off ((MB _).1 e)).toOw⟩,h.fr,fun hl x hx j off e=>h.lk hl x hx j off ((MB _).2 e)⟩
variable {ops:Array Oper} {K:List (Nat×D)→Hp→Prop} {os:List Oper} {tm:List (Nat×D)} {t:Tmp} {dst:Option Tmp} {op:Op} {ty:TypeId} {pos:String} {af:Array Edge} {gd:Option (Nat×Bool)}
theorem stG(tok:TOk P tb)(h:AVC P tb md.dr op ty (fun x=>(evD tm x).toOw) hp (Kq d hp'))(h2:ba P tb md ops K os (AP dst d tm) hp')(hn:md.nc tb op=true:=by exact rfl):ba P tb md ops K (⟨dst,op,ty,pos,af,none⟩::os) tm hp:=
 GE rfl (((AVC.snd (o:=⟨dst,op,ty,pos,af,none⟩) tok h).q hn).toOw) h2
theorem ML(tok:TOk P tb){ev:Operand→D}{tt e:TypeId}{ti j:TyE}{x:Operand}{cs:List D}(ht:tb tt=some ti)(he:tb e=some j)(hx:(ev x).cells=some cs)(hl:cs.length=j.size)(xZ:ti.ty=.slice e:=by exact rfl)(hz:Nat.ble 1 j.size=true:=by exact rfl)(hsm:Nat.ble j.size 16777216=true:=by exact rfl):
  qm P ⟨dst,.buildSlice tt 1 #[(0,x)],ty,pos,af,gd⟩ ev hp (.gw hp.next j.size 1) (hp.var cs):=by
 have hz:=b7 hz
 have hsm:=b7 hsm
 have hu:=tok.slice ht xZ
 refine .step fun B g w a hr xf=>?_
 have dy:=xf x (by simp[Op.operands])
 have rL:=dy.cells hx
 have Dw:(a.eval x).cells.size=j.size:=by rw[←eK,←rL.1.1,hl]
 obtain⟨zv,hzv,FK⟩:=tok.run_zero he w
 obtain⟨_,_,hzl,K0⟩:=tok e j he
 have hs:=tok.run_sizeOf he w
 have BR:Instr.fill (fun i=>some (i*j.size,j.size)) ((Array.range (1*j.size)).map (zv.cells[·% zv.cells.size]!)) [(0,a.eval x)]=some (a.eval x).cells:=by
  have h0:gU (fun i=>some (i*j.size,j.size)) ((Array.range (1*j.size)).map (zv.cells[·% zv.cells.size]!)).toList ([(0,a.eval x)].map fun p=>(p.1,p.2.cells.toList))=some (a.eval x).cells.toList:=by
   have Lg:((Array.range (1*j.size)).map (zv.cells[·% zv.cells.size]!)).toList.length=j.size:=by simp
   simp only[fx,i2,gU,fP,bB,eK]
   rw[aA (by rw[Dw,Array.size_map,Array.size_range];omega)]
   rw[H3,qw,yO (by rw[Lg];omega),vQ]
  have:=CF h0
  simpa using this
 have bR:(Instr.buildSlice tt 1 #[(0,a.eval x)]).run P w=.ok (.slice (some ⟨w.heap.size,0,none⟩) 1 1) (w.alloc (.cells (a.eval x).cells e)):=by
  have hsm2:¬1*j.size > 2 ^ 24:=by omega
  have qu:¬1*j.size=0:=by omega
  simp only[Instr.buildSlice,Sem.run_bind,run_underlying hu,Result.andThen_ok,hs,aA hsm2,aA qu,hzv,Sem.run_pure]
  simp only[BR]
  rfl
 refine⟨.slice (some ⟨w.heap.size,0,none⟩) 1 1,g.var hp.next w.heap.size,w.alloc (.cells (a.eval x).cells e),?_,hr.newVar cs _ e (by rw[Dw,hl];exact aD _) (fun i u hu=>?_),bC.var hp g w cs _,?_,(Below.refl _ _).alloc hr.base _,fun p _ h=>.inl h⟩
 ·simp[execOp,bR]
 ·have vJ:(a.eval x).cells.toList[i]? =some u:=by simpa using hu
  exact⟨fun _=>rL.2 u (bT vJ),fun d hd=>rL.1.2 i d u hd vJ⟩
 ·have:=aI.gw (hp:=hp.var cs) (g:=g.var hp.next w.heap.size) (w:=w.alloc (.cells (a.eval x).cells e)) hp.next j.size 1 1 (cp _) (aD _) (by decide) ⟨(a.eval x).cells,e,(0,0),by rw[show (g.var hp.next w.heap.size).μ hp.next=w.heap.size from ar rfl];exact heap_alloc_new w _,by omega⟩
  rwa[show (g.var hp.next w.heap.size).μ hp.next=w.heap.size from ar rfl] at this
theorem AL(w:World)(t ty e tt:TypeId)(i:TypeInfo)(ht:P.underlying t=some (.slice e))(hi:P.info? e=some i)
  (g KL sCap:Nat) (cur:Array Value) (hg:w.heap[g]? =some (.cells cur tt (0,0)))
  (a:Addr) (m c:Nat) (news:List Value) (hl:news.length=m*i.size) (sP:∀j u,news[j]? =some u→w.cell? (a.add j)=some u) (h1:∀u∈news,u.oneCell'=true)
  (vK:KL+m≤sCap) (Fc:KL*i.size+news.length≤cur.size):
  (Builtin.append_ #[t,t] ty #[.slice (some ⟨g,0,none⟩) KL sCap,.slice (some a) m c]).run P w=
   .ok (.slice (some ⟨g,0,none⟩) (KL+m) sCap) (w.setRow g (cur.toList.take (KL*i.size)++news++cur.toList.drop (KL*i.size+news.length)).toArray):=by
 have hf:=run_firstCells_some (P:=P) w i.size m a m c news hl sP
 have Dp:=run_storeCells_at P g (KL*i.size) tt news 0 cur w hg (by simpa using Fc) h1
 simp only[mK] at Dp
 simp[Builtin.append_,run_underlying ht,sizeOf,typeInfo,hi,Builtin.lenOf,vK,hf,Addr.add_lit,Dp]
structure AppG(w:World)(g:Nat)(v':Value)(w':World)(b n z:Nat)(xs:List Value):Prop where
 size:w.heap.size≤w'.heap.size
 old:∀c,c<w.heap.size→c≠g→w'.heap[c]? =w.heap[c]?
 sz:SzB w w' g
 blk:b=g∨w.heap.size≤b
 rest:w'.os=w.os∧w'.tape=w.tape∧w'.output=w.output
 row:∃(cs:Array Value) (tt:TypeId) (cap:Nat),v'=.slice (some ⟨b,0,none⟩) n cap∧n≤cap∧cap≤maxLen∧w'.heap[b]? =some (.cells cs tt (0,0))∧cap*z≤cs.size∧cs.toList.take (n*z)=xs
theorem E2(tok:TOk P tb){t e:TypeId}{ti j:TyE}(ht:tb t=some ti)(xZ:ti.ty=.slice e)(he:tb e=some j)(hz:0<j.size)(w:World)(ty tt:TypeId)(g n cap:Nat)(cur:Array Value)(hg:w.heap[g]? =some (.cells cur tt (0,0)))(pl:n≤cap)(oF:cap≤maxLen)(rL:cap*j.size≤cur.size)
  (a:Addr) (m c:Nat) (news:List Value) (hl:news.length=m*j.size) (sP:∀j u,news[j]? =some u→w.cell? (a.add j)=some u) (h1:∀u∈news,u.oneCell'=true) (hm:0<m) (hb:(n+m)*max 1 j.bytes≤140737488355328):
  ∃v' w' b,(Builtin.append_ #[t,t] ty #[.slice (some ⟨g,0,none⟩) n cap,.slice (some a) m c]).run P w=.ok v' w'∧AppG w g v' w' b (n+m) j.size (cur.toList.take (n*j.size)++news):=by
 obtain⟨f,zz,Li,Jv,Q8,hf3,hf4,_⟩:=tok.inf he
 have hu:=tok.slice ht xZ
 have Oo:g<w.heap.size:=(ey.1 hg).1
 have Oj:n+m≤140737488355328:=cw (yQ _ (by omega)) hb
 have Ci:(n+m)*f.bytes≤140737488355328:=cw (t8 _ (by rw[Q8];omega)) hb
 have hns:n*j.size≤cap*j.size:=bJ _ pl
 have An:(cur.toList.take (n*j.size)).length=n*j.size:=by rw[e6,eK];omega
 by_cases vK:n+m≤cap
 ·have Lb:(n+m)*j.size≤cap*j.size:=bJ _ vK
  rw[bZ] at Lb
  have hr:=AL (P:=P) w t ty e tt f hu Li g n cap cur hg a m c news (by rw[Jv];exact hl) sP h1 vK (by rw[Jv,hl];omega)
  rw[Jv] at hr
  have zd:(cur.toList.take (n*j.size)++news++cur.toList.drop (n*j.size+news.length)).toArray.size=cur.size:=by
   simp only[my,eI,e6,ie,eK];omega
  refine⟨_,_,g,hr,by simp,fun c _ hc=>setRow_other w g c _ hc,SzB.row hg zd,.inl rfl,⟨rfl,rfl,rfl⟩,_,tt,cap,rfl,vK,oF,setRow_heap w g cur _ tt (0,0) hg,by rw[zd];exact rL,?_⟩
  have e1:(n+m)*j.size=(cur.toList.take (n*j.size)++news).length:=by rw[eI,An,hl,bZ]
  rw[e1]
  exact rP
 ·have holds:∀i u,(cur.toList.take (n*j.size))[i]? =some u→w.cell? ((⟨g,0,none⟩:Addr).add i)=some u:=fun i u hu=>by
   rw[ez] at hu
   split at hu
   ·rw[Addr.add_lit]
    simpa[World.cell?,hg] using hu
   ·cases hu
  have hr:=run_append_grow (P:=P) w t ty e f zz hu Li hf3 ⟨g,0,none⟩ n cap (cur.toList.take (n*j.size)) (by rw[Jv];exact An) holds a m c news (by rw[Jv];exact hl) sP (by omega) (by omega) (growslice_fits (by omega) Ci)
  have ze:=grownCap_ge w (n+m) cap e
  have hzs:zz.cells.size=j.size:=by
   have h4:=(tok e j he).2.2.1
   rw[←eK,hf4,h4]
  refine⟨_,_,w.heap.size,hr,by simp,fun c hc _=>heap_alloc_old w.drew _ hc,.same fun h=>heap_alloc_old w.drew _ h,.inr (aD _),⟨rfl,rfl,rfl⟩,_,e,_,rfl,ze,grownCap_le_maxLen w (n+m) cap e (by unfold maxLen;omega),heap_alloc_new w.drew _,?_,?_⟩
  ·simp only[Br,my,size_zeroCells,hzs,An,hl,←bZ]
   exact bJ _ (by omega)
  ·have e1:(n+m)*j.size=(cur.toList.take (n*j.size)++news).length:=by rw[eI,An,hl,bZ]
   simp only[HU]
   rw[e1]
   exact rP
theorem appR_ok(tok:TOk P tb){ev:Operand→D}{t e:TypeId}{ti j:TyE}{x y:Operand}{k n ky:Nat}{ds news:List D}(ht:tb t=some ti)(he:tb e=some j)(hk:hp.vars.lookup k=some ds)(hy:hp.vars.lookup ky=some news)(hx:ev x=.gw k j.size n)(hyy:ev y=.gw ky j.size 1)(hl:ds.length=n*j.size)(Lg:news.length=j.size)(hb:(n+1)*max 1 j.bytes≤140737488355328)
  (xZ:ti.ty=.slice e:=by exact rfl) (hz:Nat.ble 1 j.size=true:=by exact rfl):
  qm P ⟨dst,.call ⟨.builtin .append,#[x,y],#[t,t]⟩,ty,pos,af,gd⟩ ev hp (.gw hp.next j.size (n+1)) (hp.re k (ds++news)):=by
 have hz:=b7 hz
 refine .step fun B g w a hr xf=>?_
 ·have h1:=xf x (cr (by simp))
  have h2:=xf y (cr (by simp))
  rw[hx] at h1
  rw[hyy] at h2
  obtain⟨q1,q2,q3,cs,tt,q4,q5,q6⟩:=hr.var k ds hk
  obtain⟨y1,y2,y3,ys,yt,y4,y5,y6⟩:=hr.var ky news hy
  generalize Qr:a.eval x=v1 at h1
  generalize O0:a.eval y=v2 at h2
  cases h1 with
  |gw _ _ _ cap BQ pl oF hs=>
  cases h2 with
  |gw _ _ _ c hkn2 hnc2 hcm2 FM=>
  obtain⟨vd,tt',l',h3,h4⟩:=hs
  rw[q4] at h3
  injection h3 with h3
  injection h3 with h3 h5 h6
  subst h3;subst h5;subst h6
  have sP:∀i u,(ys.toList.take j.size)[i]? =some u→w.cell? ((⟨g.μ ky,0,none⟩:Addr).add i)=some u:=fun i u hu=>by
   rw[ez] at hu
   split at hu
   ·rw[Addr.add_lit]
    simpa[World.cell?,y4] using hu
   ·cases hu
  have hyone:∀u∈ys.toList.take j.size,u.oneCell'=true:=fun u hu=>by
   obtain⟨i,hi⟩:=wK hu
   rw[ez] at hi
   split at hi
   ·rename_i bG
    exact (y6 i u (by simpa using hi)).1 (by omega)
   ·cases hi
  obtain⟨v',w',b,bR,tZ⟩:=E2 tok ht xZ he hz w ty tt (g.μ k) n cap cs q4 pl oF h4 ⟨g.μ ky,0,none⟩ 1 c (ys.toList.take j.size) (by rw[e6,eK];omega) sP hyone (by omega) hb
  obtain⟨cs2,tt2,cap2,xh,zQ,rk,hh2,Ou,Ck⟩:=tZ.row
  have hlen:(ds++news).length=(n+1)*j.size:=by rw[eI,hl,Lg,bZ,d8]
  have Is:(n+1)*j.size≤cap2*j.size:=bJ _ zQ
  have hHR:HR B (hp.re k (ds++news)) (g.var hp.next b) w':=hr.re hk _ tZ.size tZ.old tZ.sz tZ.blk cs2 tt2 hh2 (by rw[hlen];omega) (fun i u hu=>by
   have hwin:i<(n+1)*j.size→(cs.toList.take (n*j.size)++ys.toList.take j.size)[i]? =some u:=fun hi=>by
    rw[←Ck,ez,ar hi];simpa using hu
   have O1:(cs.toList.take (n*j.size)).length=n*j.size:=by rw[e6,eK];omega
   have look:∀hi:i<(n+1)*j.size,(i<n*j.size∧cs[i]? =some u)∨(n*j.size≤i∧i - n*j.size<j.size∧ys[i - n*j.size]? =some u):=fun hi=>by
    have h:=hwin hi
    rcases bt i (n*j.size) with bG|ze
    ·rw[wO (by omega),ez,ar bG] at h
     exact .inl ⟨bG,by simpa using h⟩
    ·rw[wN (by omega),O1,ez] at h
     rw[bZ,d8] at hi
     rw[ifp_] at h
     exact .inr ⟨ze,by omega,by simpa using h⟩
   refine⟨fun hi=>?_,fun d hd=>?_⟩
   ·rw[hlen] at hi
    rcases look hi with⟨h5,h6⟩|⟨h5,h6,h7⟩
    ·exact (q6 i u h6).1 (by omega)
    ·exact (y6 _ u h7).1 (by omega)
   ·have hi:i<(n+1)*j.size:=by rw[←hlen];exact (j4.1 hd).1
    rcases look hi with⟨h5,h6⟩|⟨h5,h6,h7⟩
    ·rw[wO (by omega)] at hd
     exact (q6 i u h6).2 d hd
    ·rw[wN (by omega),hl] at hd
     exact (y6 _ u h7).2 d hd)
  refine⟨v',g.var hp.next b,w',?_,hHR,bC.re hr hk _ tZ.size tZ.old tZ.sz tZ.blk,?_,⟨tZ.rest.1,tZ.rest.2.1,tZ.rest.2.2,tZ.size,fun c hc=>tZ.old c (bU hc hr.base) (by omega)⟩,fun p h5 h6=>.inl h6⟩
  ·simp only[execOp,HT,D7,fx,i2,resolve,invoke,builtin,Qr,O0,Sem.run_bind]
   simp[resolve,invoke,builtin,Qr,O0,bR]
  ·subst xh
   have xC:(g.var hp.next b).μ hp.next=b:=ar rfl
   have:=aI.gw (hp:=hp.re k (ds++news)) (g:=g.var hp.next b) (w:=w') hp.next j.size (n+1) cap2 (cp _) zQ rk ⟨cs2,tt2,(0,0),by rw[xC];exact hh2,Ou⟩
   rwa[xC] at this
end
end
section
section
variable {P:Program} {tb:TypeId→Option TyE} {md:Md} {B:Nat} {hp hp':Hp} {g:Gh} {w w':World} {d:D} {v:Value}
theorem appN(tok:TOk P tb){ev:Operand→D}{dst:Option Tmp}{ty:TypeId}{pos:String}{af:Array Edge}{gd:Option (Nat×Bool)}{t e:TypeId}{ti j:TyE}{x y:Operand}{ky:Nat}{news:List D}(ht:tb t=some ti)(he:tb e=some j)(hy:hp.vars.lookup ky=some news)(hx:ev x=.e (.lit (.slice none 0 0)))(hyy:ev y=.gw ky j.size 1)(Lg:news.length=j.size)(hb:1*max 1 j.bytes≤140737488355328)
  (xZ:ti.ty=.slice e:=by exact rfl) (hz:Nat.ble 1 j.size=true:=by exact rfl):
  nT P tb md ⟨dst,.call ⟨.builtin .append,#[x,y],#[t,t]⟩,ty,pos,af,gd⟩ ev hp (.gw hp.next j.size 1) (hp.var news):=by
 have hz:=b7 hz
 refine⟨.step fun B g w a hr xf=>?_,fun hq=>?_,fun _=>⟨gN _,fun j hj=>ay (by omega)⟩,fun h=>by cases h⟩
 ·have h1:=xf x (cr (by simp))
  have h2:=xf y (cr (by simp))
  rw[hx] at h1
  rw[hyy] at h2
  have h1:=h1.lit
  obtain⟨y1,y2,y3,ys,yt,y4,y5,y6⟩:=hr.var ky news hy
  generalize O0:a.eval y=v2 at h2
  cases h2 with
  |gw _ _ _ c hkn2 hnc2 hcm2 FM=>
  obtain⟨f,zz,Li,Jv,Q8,hf3,hf4,_⟩:=tok.inf he
  have hu:=tok.slice ht xZ
  have hzs:zz.cells.size=j.size:=by
   have h4:=(tok e j he).2.2.1
   rw[←eK,hf4,h4]
  have Ci:f.bytes≤140737488355328:=by rw[Q8];omega
  have sP:∀i u,(ys.toList.take j.size)[i]? =some u→w.cell? ((⟨g.μ ky,0,none⟩:Addr).add i)=some u:=fun i u hu=>by
   rw[ez] at hu
   split at hu
   ·rw[Addr.add_lit]
    simpa[World.cell?,y4] using hu
   ·cases hu
  have zd:(ys.toList.take j.size).length=j.size:=by rw[e6,eK];omega
  have bR:=run_append_nil (P:=P) w t ty e f zz hu Li hf3 ⟨g.μ ky,0,none⟩ 1 c (ys.toList.take j.size) (by rw[Jv,zd];omega) sP (by omega) (by omega) (by omega)
  have ze:=grownCap_ge w 1 0 e
  have hold:∀c,c<w.heap.size→(w.drew.alloc (.cells ((ys.toList.take j.size).toArray++Builtin.zeroCells zz.cells (grownCap w 1 0 e - 1)) e)).heap[c]? =w.heap[c]? :=fun c hc=>heap_alloc_old w.drew _ hc
  have tW:=heap_alloc_new w.drew (.cells ((ys.toList.take j.size).toArray++Builtin.zeroCells zz.cells (grownCap w 1 0 e - 1)) e)
  have mo:=bC.addVar (w:=w) (w':=w.drew.alloc (.cells ((ys.toList.take j.size).toArray++Builtin.zeroCells zz.cells (grownCap w 1 0 e - 1)) e)) hp g news (b:=w.heap.size) (by simp) hold (aD _)
  have hsz:((ys.toList.take j.size).toArray++Builtin.zeroCells zz.cells (grownCap w 1 0 e - 1)).size=grownCap w 1 0 e*j.size:=by
   simp only[Br,my,size_zeroCells,hzs,zd]
   have:grownCap w 1 0 e=1+(grownCap w 1 0 e - 1):=by omega
   rw[this,bZ,d8]
   congr 2
   omega
  have h1z:1*j.size≤grownCap w 1 0 e*j.size:=bJ _ ze
  refine⟨.slice (some ⟨w.heap.size,0,none⟩) 1 (grownCap w 1 0 e),g.var hp.next w.heap.size,_,?_,hr.addVar news (w':=w.drew.alloc (.cells ((ys.toList.take j.size).toArray++Builtin.zeroCells zz.cells (grownCap w 1 0 e - 1)) e)) (by simp) hold (aD _) _ e tW (by rw[hsz,Lg];omega) (fun i u hu=>?_),mo,?_,⟨rfl,rfl,rfl,by simp,fun c hc=>hold c (bU hc hr.base)⟩,fun p h5 h6=>.inl h6⟩
  ·simp only[execOp,HT,D7,fx,i2,resolve,invoke,builtin,h1,O0,Sem.run_bind]
   simp[resolve,invoke,builtin,h1,O0,bR]
  ·have G3:i<news.length→ys[i]? =some u:=fun hi=>by
    have Ap:i<(ys.toList.take j.size).toArray.size:=by rw[my,zd];omega
    rw[yN Ap,Bq,ez,ifp_] at hu
    simpa using hu
   exact⟨fun hi=>(y6 i u (G3 hi)).1 hi,fun d hd=>((y6 i u (G3 (j4.1 hd).1)).2 d hd).mono mo⟩
  ·have xC:(g.var hp.next w.heap.size).μ hp.next=w.heap.size:=ar rfl
   have:=aI.gw (hp:=hp.var news) (g:=g.var hp.next w.heap.size) (w:=w.drew.alloc (.cells ((ys.toList.take j.size).toArray++Builtin.zeroCells zz.cells (grownCap w 1 0 e - 1)) e)) hp.next j.size 1 (grownCap w 1 0 e) (cp _) ze (grownCap_le_maxLen w 1 0 e (by decide)) ⟨_,e,(0,0),by rw[xC];exact tW,by rw[hsz];exact aD _⟩
   rwa[xC] at this
 ·exfalso
  cases md with
  |seq=>cases hq
  |any L=>
   have h1:((oC (.call ⟨.builtin .append,#[x,y],#[t,t]⟩)&&!KU tb (.call ⟨.builtin .append,#[x,y],#[t,t]⟩))||sW tb L (.call ⟨.builtin .append,#[x,y],#[t,t]⟩))=true:=hq
   simp[oC,sW] at h1
def Fv(hp:Hp)(g:Gh):Addr→Prop:=fun p=>g.F p∧∀k ds,hp.vars.lookup k=some ds→g.μ k≠p.block
def AR(hp:Hp)(d d':D):Prop:=∀(B:Nat) (g:Gh) (w:World) (v:Value),HR B hp g w→aI hp g w d v→mz w (Fv hp g) d' v
theorem AR.data(h:d.ex.pure=true):AR hp d d.ex:=fun _ _ _ _ _ hd=>(hd.xport h).less fun _ hp=>hp.1
theorem AR.sl {k z n off:Nat}{F:List E}(hv:hp.vars.lookup k=some (dC F))(hz:0<z)(hl:off+n*z≤F.length):AR hp (.ow k off z n) (.e (.sl z n ((F.drop off).take (n*z)))):=by
 intro B g w v hr hd
 obtain⟨h1,h2,h3,cs,ty,h4,h5,h6⟩:=hr.var k _ hv
 rw[fL] at h5
 cases hd with
 |ow _ _ _ _ c hk pl oF=>
  refine .e _ _ (.sl z n _ (some ⟨g.μ k,off,none⟩) c (fun i=>cs.getD (off+i) undef) (by rw[e6,ie];omega) hz pl oF (fun _=>⟨_,rfl,(ey.1 h4).1⟩) (fun ad ha i e hi=>?_) (fun i e hi=>?_))
  ·injection ha with ha
   subst ha
   have Ap:i<n*z:=by
    have:=(j4.1 hi).1
    rw[e6] at this;omega
   have OA:(⟨g.μ k,off,none⟩:Addr).add i=⟨g.μ k,off+i,none⟩:=by unfold Addr.add;split <;> simp_all
   refine⟨?_,fun hf=>hf.2 k _ hv (by rw[iw])⟩
   rw[OA]
   have bG:off+i<cs.size:=by omega
   simp[World.cell?,h4,de,bG]
  ·have Ap:i<n*z:=by
    have:=(j4.1 hi).1
    rw[e6] at this;omega
   have bG:off+i<cs.size:=by omega
   rw[ez,ar Ap,lX] at hi
   have hu:=h6 (off+i) (cs.getD (off+i) undef) (by simp[de,bG])
   have:=hu.2 (.e e) (by unfold dC;rw[fO,hi];rfl)
   cases this with
   |e _ _ h7=>exact h7.less fun p hp=>hp.1
def ARs(hp:Hp):List D→List D→Prop
 |[],[]=>True
 |d::ds,e::es=>AR hp d e∧ARs hp ds es
 |_,_=>False
theorem ARs.get:∀{ds es:List D},ARs hp ds es→ds.length=es.length∧∀(j:Nat) (e:D),es[j]? =some e→∃d,ds[j]? =some d∧AR hp d e
 |[],[],_=>⟨rfl,fun j e h=>by simp at h⟩
 |d::ds,e::es,⟨h1,h2⟩=>by
  obtain⟨h3,h4⟩:=ARs.get h2
  refine⟨by simp[h3],fun j x hx=>?_⟩
  cases j with
  |zero=>simp at hx;subst hx;exact⟨d,rfl,h1⟩
  |succ j=>exact h4 j x (by simpa using hx)
 |[],_::_,h=>h.elim
 |_::_,[],h=>h.elim
theorem AR.ag {ds es:List D}(h:ARs hp ds es):AR hp (.ag ds) (.ag es):=by
 intro B g w v hr hd
 obtain⟨h1,h2⟩:=h.get
 cases hd with
 |ag _ cs hl ho zc=>
  refine .ag es cs (by omega) ho fun j e u hj hu=>?_
  obtain⟨d,h3,h4⟩:=h2 j e hj
  exact h4 B g w u hr (zc j d u h3 hu)
def D.flatC:D→Bool
 | .e (.lit _)=>true
 |_=>false
def D.flat1:D→Bool
 | .ag ds=>ds.all D.flatC
 |d=>d.flatC
def D.flat:D→Bool
 | .tu ds=>ds.all D.flat1
 |d=>d.flat1
theorem JG {F:Addr→Prop}(h:mz w F d v)(hf:d.flatC=true)(hp:Hp)(g:Gh)(w':World):aI hp g w' d v:=by
 cases h with
 |e x v h=>
  cases x with
  |lit u=>cases h with|lit _ ho=>exact .e _ _ (.lit _ ho)
  |_=>cases hf
 |_=>cases hf
theorem JI {F:Addr→Prop}(h:mz w F d v)(hf:d.flat1=true)(hp:Hp)(g:Gh)(w':World):aI hp g w' d v:=by
 cases d with
 |ag ds=>
  cases h with
  |ag _ cs hl ho zc=>exact .ag ds cs hl ho fun j d u hj hu=>JG (zc j d u hj hu) (cb.1 hf d (bT hj)) hp g w'
 |_=>exact JG h hf hp g w'
theorem flat_to {F:Addr→Prop}(h:mz w F d v)(hf:d.flat=true)(hp:Hp)(g:Gh)(w':World):aI hp g w' d v:=by
 cases d with
 |tu ds=>
  cases h with
  |tu _ cs hl zc=>exact .tu ds cs hl fun j d u hj hu=>JI (zc j d u hj hu) (cb.1 hf d (bT hj)) hp g w'
 |_=>exact JI h hf hp g w'
theorem NJ(hr:HR B hp g w):∀p:Addr,Fv hp g p→p.block<w.heap.size:=fun p h=>hr.fits p h.1
theorem Bj {f:FuncId}{ds ds':List D}{r:D}(hc:ax P f ds' r)(ha:ARs hp ds ds'){vs:Array Value}(hr:HR B hp g w)(hsz:vs.size=ds.length)(dy:∀(j:Nat) (d:D) (u:Value),ds[j]? =some d→vs[j]? =some u→aI hp g w d u):
  Calls P f vs w fun e w'=>∃v,e=.returned v∧v5 w.heap.size (Fv hp g) w' r v∧Below w.heap.size w w':=by
 obtain⟨h1,h2⟩:=ha.get
 refine hc.2 w _ vs (NJ hr) (by omega) fun j e u hj hu=>?_
 obtain⟨d,h3,h4⟩:=h2 j e hj
 exact h4 B g w u hr (dy j d u h3 hu)
theorem HC.frz {f:FuncId}{ds ds':List D}{r:D}(hc:ax P f ds' r)(ha:ARs hp ds ds')(hf:r.flat=true):HC P f ds hp r hp:=by
 refine⟨hc.1,fun B g w vs hr hsz dy=>(Bj hc ha hr hsz dy).mono ?_⟩
 rintro e w' ⟨v,rfl,nE,hb⟩
 have Qw:mz w' (Fv hp g) r v:=by
  unfold v5 at nE
  split at nE
  ·cases hf
  ·exact nE
 exact⟨v,g,rfl,hr.keep hb.size hb.block,bC.keep hp g hb.size hb.block,flat_to Qw hf hp g w',hb.mono hr.base,fun _ _ h=>h⟩
def E.isLit:E→Bool
 | .lit _=>true
 |_=>false
theorem HC.adopt {f:FuncId}{ds ds':List D}{e z n:Nat}{xs:List E}(hc:ax P f ds' (.own e z n xs))(ha:ARs hp ds ds')(hn:0<n)(hx:xs.all E.isLit=true):HC P f ds hp (.gw hp.next z n) (hp.var (dC xs)):=by
 refine⟨hc.1,fun B g w vs hr hsz dy=>(Bj hc ha hr hsz dy).mono ?_⟩
 rintro en w' ⟨v,rfl,⟨hz,⟨us,ho⟩,nE⟩,hb⟩
 rcases ho.2 with⟨rfl,rfl⟩|⟨b,cap,cur,rfl,hB,hh,pl,oF,rL,O1⟩
 ·omega
 have An:xs.length=n*z:=by cases nE with|sl _ _ _ _ _ _ hl=>exact hl
 have MQ:=ho.1
 have hns:n*z≤cap*z:=bJ _ pl
 have mo:=bC.addVar hp g (dC xs) hb.size hb.block hB
 have xC:(g.var hp.next b).μ hp.next=b:=ar rfl
 have cells:∀(i:Nat) (u:Value),cur[i]? =some u→∀x,xs[i]? =some x→∃y,x=.lit y∧u=y∧y.oneCell'=true:=fun i u hu x hxi=>by
  have Du:x.isLit=true:=cb.1 hx x (bT hxi)
  cases nE with
  |sl _ _ _ _ _ us2 _ _ _ _ hA CD zc=>
   obtain⟨h5,_⟩:=CD _ rfl i x hxi
   have h6:w'.cell? ((⟨b,0,none⟩:Addr).add i)=cur[i]? :=by rw[Addr.add_lit];simp[World.cell?,hh]
   rw[h6,hu] at h5
   injection h5 with h5
   have h7:=zc i x hxi
   rw[←h5] at h7
   cases x with
   |lit y=>cases h7 with|lit _ ho=>exact⟨_,rfl,rfl,ho⟩
   |_=>cases Du
 refine⟨_,g.var hp.next b,rfl,hr.addVar (dC xs) hb.size hb.block hB cur e hh (by rw[fL,An,rL];exact hns) (fun i u hu=>⟨fun hi=>?_,fun d hd=>?_⟩),mo,?_,hb.mono hr.base,fun p _ h=>.inl h⟩
 ·rw[fL] at hi
  obtain⟨y,_,rfl,h⟩:=cells i u hu xs[i] (i8 hi)
  exact h
 ·unfold dC at hd
  rw[fO] at hd
  obtain⟨x,E7,rfl⟩:=pY.1 hd
  obtain⟨y,rfl,rfl,h⟩:=cells i u hu x E7
  exact .e _ _ (.lit _ h)
 ·have:=aI.gw (hp:=hp.var (dC xs)) (g:=g.var hp.next b) (w:=w') hp.next z n cap (cp _) pl oF ⟨cur,e,(0,0),by rw[xC];exact hh,by omega⟩
  rwa[xC] at this
end
end
section
section
variable {P:Program} {tb:TypeId→Option TyE} {md:Md} {hp hp':Hp} {d:D} {dst:Option Tmp} {ty:TypeId} {pos:String} {af:Array Edge} {gd:Option (Nat×Bool)} {ev:Operand→D}
theorem N5 {x:Operand}{f:FuncId}{aS:List Operand}{ts:Array TypeId}{ds:List D}(v4:ev x=.e (.lit (.func (.func f) #[] #[])))(hc:HC P f ds hp d hp')(hd:aS.map ev=ds):qm P ⟨dst,.call ⟨.value x,aS.toArray,ts⟩,ty,pos,af,gd⟩ ev hp d hp':=by
 intro B g w a Kn Q hr hx BQ
 subst hd
 obtain⟨⟨fn,hf,hn,BS⟩,zP⟩:=hc
 have hv:=hx x (by simp[Op.operands,Call.operands])
 rw[v4] at hv
 have hv:=hv.lit
 have Dw:=zP B g w (aS.map a.eval).toArray hr (by simp) (fun j d u hd hu=>by
  rw[fO] at hd
  obtain⟨y,hy,rfl⟩:=pY.1 hd
  have vJ:(aS.map a.eval)[j]? =some u:=by simpa using hu
  rw[fO,hy] at vJ
  injection vJ with vJ
  subst vJ
  exact hx y (cr (by simpa using bT hy)))
 refine DH (R:=fun v w'=>∃g',HR B hp' g' w'∧bC hp g w hp' g' w'∧aI hp' g' w' d v∧Below B w w'∧∀p:Addr,p.block<B→g.F p→g'.F p) ?_ (Dw.mono ?_) ?_
 ·have hn' : fn.name ≠ "runtime.NumGoroutine" := by simpa using hn
  have sh:¬fn.body=none:=fun e=>by rw[e] at BS;cases BS
  have hcf:(callFunc f (aS.map a.eval).toArray).run P w=.ok (.enter f (aS.map a.eval).toArray) w:=by
   simp[callFunc,hf,hn',sh]
  rw[←hcf]
  simp[execOp,resolve,invoke,Deferred.ofValue,hv]
 ·rintro e w' ⟨v,g',rfl,h1⟩
  exact⟨v,rfl,g',h1⟩
 ·rintro v w' ⟨g',h1,h2,h3,h4,h5⟩
  exact BQ v g' w' h1 h2 h3 h4 h5
theorem opHF {x:Operand}{f:FuncId}{ks:List Nat}{aS:List Operand}{ts:Array TypeId}{ds:List D}(v4:ev x=.fn f ks)(hc:HC P f ds hp d hp')(hd:aS.map ev++ks.map (fun k=>D.pt k 0)=ds):qm P ⟨dst,.call ⟨.value x,aS.toArray,ts⟩,ty,pos,af,gd⟩ ev hp d hp':=by
 intro B g w a Kn Q hr hx BQ
 subst hd
 obtain⟨⟨fn,hf,hn,BS⟩,zP⟩:=hc
 have hv:=hx x (by simp[Op.operands,Call.operands])
 rw[v4] at hv
 generalize hu0:a.eval x=u0 at hv
 cases hv with
 |fn _ _ On=>
 have Dw:=zP B g w (aS.map a.eval++ks.map fun k=>Value.pointer (some ⟨g.μ k,0,none⟩)).toArray hr (by simp) (fun j d u hd hu=>by
  have vJ:(aS.map a.eval++ks.map fun k=>Value.pointer (some ⟨g.μ k,0,none⟩))[j]? =some u:=by simpa using hu
  rcases bt j aS.length with hj|hj
  ·rw[wO (by simpa using hj),fO] at hd vJ
   obtain⟨y,hy,rfl⟩:=pY.1 hd
   rw[hy] at vJ
   injection vJ with vJ
   subst vJ
   exact hx y (cr (by simpa using bT hy))
  ·rw[wN (by simpa using hj),fO] at hd vJ
   obtain⟨k,hk,rfl⟩:=pY.1 hd
   simp only[bW] at hk vJ
   rw[hk] at vJ
   injection vJ with vJ
   subst vJ
   exact .pt k 0 (On k (bT hk)))
 refine DH (R:=fun v w'=>∃g',HR B hp' g' w'∧bC hp g w hp' g' w'∧aI hp' g' w' d v∧Below B w w'∧∀p:Addr,p.block<B→g.F p→g'.F p) ?_ (Dw.mono ?_) ?_
 ·have hn' : fn.name ≠ "runtime.NumGoroutine" := by simpa using hn
  have sh:¬fn.body=none:=fun e=>by rw[e] at BS;cases BS
  have hcf:(callFunc f (aS.map a.eval++ks.map fun k=>Value.pointer (some ⟨g.μ k,0,none⟩)).toArray).run P w=.ok (.enter f (aS.map a.eval++ks.map fun k=>Value.pointer (some ⟨g.μ k,0,none⟩)).toArray) w:=by
   simp[callFunc,hf,hn',sh]
  have tA:(aS.map a.eval++ks.map fun k=>Value.pointer (some ⟨g.μ k,0,none⟩)).toArray=aS.toArray.map a.eval++(ks.map fun k=>Value.pointer (some ⟨g.μ k,0,none⟩)).toArray:=by apply lW.1;simp
  rw[←hcf,tA]
  simp[execOp,resolve,invoke,Deferred.ofValue,hu0]
 ·rintro e w' ⟨v,g',rfl,h1⟩
  exact⟨v,rfl,g',h1⟩
 ·rintro v w' ⟨g',h1,h2,h3,h4,h5⟩
  exact BQ v g' w' h1 h2 h3 h4 h5
theorem sndOf {c:Call}{x:Operand}(CD:c.callee=.value x)(h:qm P ⟨dst,.call c,ty,pos,af,gd⟩ ev hp d hp')(Q6:hvB tb c=true∨Fr hp hp')(hn:md.nc tb (.call c)=true):nT P tb md ⟨dst,.call c,ty,pos,af,gd⟩ ev hp d hp':=by
 refine⟨h,fun hq=>?_,fun hv=>?_,fun h=>by cases h⟩
 ·exfalso
  cases md with
  |seq=>cases hq
  |any L=>
   have h1:((oC (.call c)&&!KU tb (.call c))||sW tb L (.call c))=true:=hq
   have h2:(!inL L (.call c))=true:=hn
   rw[yM] at h2
   have h2:=Dj (tb:=tb) h2
   rw[h2,Bool.or_false] at h1
   simp[oC,CD] at h1
 ·rcases Q6 with h1|h1
  ·have h2:(hvB tb c||cpB tb c)=false:=Md.vr_C hn hv
   rw[h1] at h2;cases h2
  ·exact h1
theorem sndF {c:Call}{x:Operand}(CD:c.callee=.value x)(h:qm P ⟨dst,.call c,ty,pos,af,gd⟩ ev hp d hp')(hv:hvB tb c=true)(Q6:Fr hp hp'):nT P tb md ⟨dst,.call c,ty,pos,af,gd⟩ ev hp d hp':=by
 refine⟨h,fun hq=>?_,fun _=>Q6,fun h=>by cases h⟩
 exfalso
 cases md with
 |seq=>cases hq
 |any L=>
  have h1:((oC (.call c)&&!KU tb (.call c))||((match c.callee with| .value (.func f)=>L.elem f|_=>false)&&!hvB tb c))=true:=hq
  rw[hv] at h1
  simp[oC,CD] at h1
theorem sHCf {x:Operand}{f:FuncId}{aS:List Operand}{ts:Array TypeId}{ds:List D}(hc:HC P f ds hp d hp')(hd:aS.map ev=ds)(Q6:Fr hp hp')(v4:ev x=.e (.lit (.func (.func f) #[] #[])):=by exact rfl)(hv:hvB tb ⟨.value x,aS.toArray,ts⟩=true:=by exact rfl):
  nT P tb md ⟨dst,.call ⟨.value x,aS.toArray,ts⟩,ty,pos,af,gd⟩ ev hp d hp':=sndF rfl (N5 v4 hc hd) hv Q6
theorem sHC {x:Operand}{f:FuncId}{aS:List Operand}{ts:Array TypeId}{ds:List D}(hc:HC P f ds hp d hp')(hd:aS.map ev=ds)(Q6:hvB tb ⟨.value x,aS.toArray,ts⟩=true∨Fr hp hp')(v4:ev x=.e (.lit (.func (.func f) #[] #[])):=by exact rfl)(hn:md.nc tb (.call ⟨.value x,aS.toArray,ts⟩)=true:=by exact rfl):
  nT P tb md ⟨dst,.call ⟨.value x,aS.toArray,ts⟩,ty,pos,af,gd⟩ ev hp d hp':=sndOf rfl (N5 v4 hc hd) Q6 hn
theorem sHF {x:Operand}{f:FuncId}{ks:List Nat}{aS:List Operand}{ts:Array TypeId}{ds:List D}(hc:HC P f ds hp d hp')(hd:aS.map ev++ks.map (fun k=>D.pt k 0)=ds)(v4:ev x=.fn f ks:=by exact rfl)(Q6:hvB tb ⟨.value x,aS.toArray,ts⟩=true:=by exact rfl)(hn:md.nc tb (.call ⟨.value x,aS.toArray,ts⟩)=true:=by exact rfl):
  nT P tb md ⟨dst,.call ⟨.value x,aS.toArray,ts⟩,ty,pos,af,gd⟩ ev hp d hp':=sndOf rfl (opHF v4 hc hd) (.inl Q6) hn
end
structure Pt(F:List D)(o:Nat)(bs:List D)(F':List D→List D):Prop where
 le:o+bs.length≤F.length
 g:(F.drop o).take bs.length=bs
 p:∀ys:List D,ys.length=bs.length→F.take o++ys++F.drop (o+bs.length)=F' ys
theorem Pt.of {F bs:List D}{o:Nat}{F':List D→List D}(A C:List D)(hA:A.length=o)(hF:F=A++bs++C)(hp:∀y,F' y=A++y++C):Pt F o bs F':=by
 subst hA hF
 refine⟨by simp only[eI];omega,?_,fun y hy=>?_⟩
 ·rw[fy,t4,rP]
 ·rw[hp,fy A bs C,rP,←nj,t4,t4]
section
variable {P:Program} {tb:TypeId→Option TyE} {dr:Bool} {ty:TypeId} {ev:Operand→D} {hp:Hp} {k o:Nat} {F bs:List D} {F':List D→List D} {t:TypeId} {i:TyE} {x y:Operand} {d:D}
theorem T_ldP(L:Pt F o bs F')(hv:hp.vars.lookup k=some F)(hk:k<hp.next)(ht:tb t=some i)(hz:bs.length=i.size)(hg:i.ty.agg=true:=by exact rfl)(hx:ev x=.pt k o:=by exact rfl):AVC P tb dr (.load t x) ty ev hp (Kq (.ag bs) hp):=by
 rw[tH,hx,pG,ht,hv]
 simp only[hg]
 refine⟨hk,by rw[←hz];exact L.le,?_⟩
 rw[←hz,L.g]
 exact Kq.here _ _
theorem T_ld1(L:Pt F o [d] F')(hv:hp.vars.lookup k=some F)(hk:k<hp.next)(ht:tb t=some i)(hg:i.ty.agg=false:=by exact rfl)(hx:ev x=.pt k o:=by exact rfl):AVC P tb dr (.load t x) ty ev hp (Kq d hp):=by
 rw[tH,hx,pG,ht,hv]
 simp only[hg]
 refine⟨hk,d,?_,Kq.here _ _⟩
 have h:=L.g
 have hle:=L.le
 have:((F.drop o).take 1)[0]? =some d:=by rw[show (1:Nat)=[d].length from rfl,h];rfl
 rw[ez,ifp_,lX,mK] at this
 exact this
theorem Si {ys F2:List D}{hp':Hp}(L:Pt F o bs F')(hv:hp.vars.lookup k=some F)(hyc:(ev y).cells=some ys)(ht:tb t=some i)(hz:bs.length=i.size)(hl:ys.length=bs.length)(h2:F' ys=F2)(hx:ev x=.pt k o:=by exact rfl)(he:hp.set k F2=hp':=by exact rfl):AVC P tb dr (.store t x y) ty ev hp (Kq .top hp'):=by
 subst he h2
 rw[DS,hx,AI,ht,hv,hyc]
 simp only
 refine⟨by omega,by rw[←hz];exact L.le,?_⟩
 rw[hl,L.p ys hl]
 exact Kq.here _ _
end
end
def D.ren2(ρ:Nat→Nat):D→D
 | .tu ds=>.tu (ds.map (D.ren ρ))
 |d=>d.ren ρ
section
inductive FzC (k z n n2:Nat) (F:List E):D→D→Prop
 |hit:FzC k z n n2 F (.ow k 0 z n) (.e (.sl z n2 F))
 |hitG:FzC k z n n2 F (.gw k z n) (.e (.sl z n2 F))
 |keep (d:D):FzC k z n n2 F d d
 |drop (d:D):FzC k z n n2 F d .top
inductive FzL (k z n n2:Nat) (F:List E):List D→List D→Prop
 |nil:FzL k z n n2 F [] []
 |cons {a b:D} {l m:List D} (h:FzC k z n n2 F a b) (hl:FzL k z n n2 F l m):FzL k z n n2 F (a::l) (b::m)
inductive FzD (k z n n2:Nat) (F:List E):D→D→Prop
 |c {a b:D} (h:FzC k z n n2 F a b):FzD k z n n2 F a b
 |ag {l m:List D} (h:FzL k z n n2 F l m):FzD k z n n2 F (.ag l) (.ag m)
theorem FzL.get {k z n n2:Nat}{F:List E}{l m:List D}(h:FzL k z n n2 F l m):l.length=m.length∧∀(i:Nat) (b:D),m[i]? =some b→∃a,l[i]? =some a∧FzC k z n n2 F a b:=by
 induction h with
 |nil=>exact⟨rfl,fun i b h=>by simp at h⟩
 |cons h hl ih=>
  refine⟨by simp[ih.1],fun i b hb=>?_⟩
  cases i with
  |zero=>simp at hb;subst hb;exact⟨_,rfl,h⟩
  |succ i=>exact ih.2 i b (by simpa using hb)
theorem FzL.same {k z n n2:Nat}{F:List E}:∀l:List D,FzL k z n n2 F l l
 |[]=>.nil
 |a::l=>.cons (.keep a) (FzL.same l)
section
variable {B k z n N:Nat} {F:List E} {vs pz:List (Nat×List D)} {lv:List (Nat×Nat×Nat×TypeId)} {g:Gh} {w:World} {d d':D} {v:Value}
def Gh.less(g:Gh)(k:Nat):Gh:=⟨g.μ,g.τ,fun p=>g.F p∧p.block≠g.μ k⟩
theorem FzC.rep(hr:HR B ⟨vs,lv,N⟩ g w)(hv:vs.lookup k=some (dC F))(hF:F.length=n*z)(hz:0<z)(mo:bC ⟨vs,lv,N⟩ g w ⟨pz,lv,N⟩ (g.less k) w)(h:FzC k z n n F d d')(hd:aI ⟨vs,lv,N⟩ g w d v):aI ⟨pz,lv,N⟩ (g.less k) w d' v:=by
 have key:∀v,aI ⟨vs,lv,N⟩ g w (.ow k 0 z n) v→aI ⟨pz,lv,N⟩ (g.less k) w (.e (.sl z n F)) v:=by
  intro u dy
  obtain⟨h1,h2,h3,cs,ty,h4,h5,h6⟩:=hr.var k _ hv
  cases dy with
  |ow _ _ _ _ c hk pl oF=>
   have rL:F.length≤cs.size:=by rw[fL] at h5;exact h5
   refine .e _ _ (.sl z n F (some ⟨g.μ k,0,none⟩) c (fun i=>cs.getD i undef) hF hz pl oF (fun _=>⟨_,rfl,(ey.1 h4).1⟩) (fun ad ha i e hi=>?_) (fun i e hi=>?_))
   ·injection ha with ha
    subst ha
    have bG:i<cs.size:=bU (j4.1 hi).1 rL
    refine⟨?_,fun hf=>hf.2 (by rw[iw])⟩
    rw[Addr.add_lit]
    simp[World.cell?,h4,de,bG]
   ·have bG:i<cs.size:=bU (j4.1 hi).1 rL
    have hu:=h6 i (cs.getD i undef) (by simp[de,bG])
    have:=hu.2 (.e e) (by unfold dC;rw[fO,hi];rfl)
    cases this with
    |e _ _ h7=>exact dq.less h7 fun p hp=>hp.1
 cases h with
 |hit=>exact key v hd
 |hitG=>exact key v hd.toOw
 |keep=>exact hd.mono mo
 |drop=>exact .top v
theorem FzD.rep(hr:HR B ⟨vs,lv,N⟩ g w)(hv:vs.lookup k=some (dC F))(hF:F.length=n*z)(hz:0<z)(mo:bC ⟨vs,lv,N⟩ g w ⟨pz,lv,N⟩ (g.less k) w)(h:FzD k z n n F d d')(hd:aI ⟨vs,lv,N⟩ g w d v):aI ⟨pz,lv,N⟩ (g.less k) w d' v:=by
 cases h with
 |c h=>exact h.rep hr hv hF hz mo hd
 |ag h=>
  obtain⟨h1,h2⟩:=h.get
  cases hd with
  |ag _ cs hl ho zc=>
   refine .ag _ cs (by omega) ho fun j b u hj hu=>?_
   obtain⟨a,h3,h4⟩:=h2 j b hj
   exact h4.rep hr hv hF hz mo (zc j a u h3 hu)
theorem yA {α:Type}{l:List (Nat×α)}{k:Nat}{y:α}(h:l.lookup k=some y):(k,y)∈l:=by
 induction l with
 |nil=>simp at h
 |cons p l ih=>
  obtain⟨a,b⟩:=p
  by_cases hk:k=a
  ·subst hk
   rw[ak] at h
   injection h with h
   subst h
   exact ni ..
  ·rw[ay hk] at h
   exact lV _ (ih h)
theorem WkS.frzD {tm ts:List (Nat×D)}{us:List (Nat×List D)}(hF:F.length=n*z)(hz:0<z)(hv:vs.lookup k=some (dC F))(MR:∀p∈ts,∃d0,tm.lookup p.1=some d0∧FzD k z n n F d0 p.2)(Og:∀p∈us,p.1≠k∧∃pm,vs.lookup p.1=some pm∧FzL k z n n F pm p.2):
  WkS tm ⟨vs,lv,N⟩ (ts++tm) ⟨us++vs.filter fun p=>!([k]:List Nat).contains p.1,lv,N⟩:=by
 intro B g w ρ hr i4
 obtain⟨h1,h2,h3,cs,ty,h4,h5,h6⟩:=hr.var k _ hv
 have look:∀{j:Nat} {ds:List D},(us++vs.filter fun p=>!([k]:List Nat).contains p.1).lookup j=some ds→j≠k∧∃pm,vs.lookup j=some pm∧FzL k z n n F pm ds:=by
  intro j ds h
  rcases qD h with h|h
  ·exact Og _ (yA h)
  ·obtain⟨a,b⟩:=lq h
   exact⟨by simpa using a,ds,b,FzL.same ds⟩
 have qu:∀{j:Nat} {ds:List D},j≠k→vs.lookup j=some ds→g.μ j≠g.μ k:=fun hj hl e=>hj (hr.inj _ _ _ _ hl hv e)
 have mo:bC ⟨vs,lv,N⟩ g w ⟨us++vs.filter fun p=>!([k]:List Nat).contains p.1,lv,N⟩ (g.less k) w:=by
  refine⟨aD _,fun _ _ _=>rfl,fun _ _ h=>h.1,aD _,fun _ _=>rfl,fun _ _ m _ h=>⟨m,h,aD _,fun _=>rfl⟩,fun b hb hf=>⟨rfl,fun p hp hq=>⟨hq,?_⟩,fun j ds hj=>?_,hf.2⟩,fun _=>.same fun _=>rfl⟩
  ·rw[hp];exact fun e=>hf.1 k _ hv e.symm
  ·obtain⟨_,pm,h,_⟩:=look hj
   exact hf.1 j pm h
 refine⟨g.less k,⟨fun j ds hj=>?_,fun j j' ds ds' hj Ip he=>?_,fun id m e hi=>?_,hr.tinj,hr.base,fun p hp=>hr.fits p hp.1⟩,mo,fun t' d hd=>?_,fun p hp hq=>⟨hq,?_⟩⟩
 ·obtain⟨a1,pm,a2,a3⟩:=look hj
  obtain⟨a4,a5⟩:=a3.get
  obtain⟨b1,b2,b3,vd,Ku,b4,b5,b6⟩:=hr.var j pm a2
  refine⟨b1,b2,fun p hp=>⟨b3 p hp,by rw[hp];exact qu a1 a2⟩,vd,Ku,b4,by omega,fun i u hu=>⟨fun hi=>(b6 i u hu).1 (by omega),fun d hd=>?_⟩⟩
  obtain⟨d0,c1,c2⟩:=a5 i d hd
  exact c2.rep hr hv hF hz mo ((b6 i u hu).2 d0 c1)
 ·obtain⟨_,_,a2,_⟩:=look hj
  obtain⟨_,_,a2',_⟩:=look Ip
  exact hr.inj j j' _ _ a2 a2' he
 ·obtain⟨b1,v7,b2,b3,b4⟩:=hr.tok id m e hi
  refine⟨b1,v7,b2,b3,fun b hb=>⟨fun p hp hq=>⟨(b4 b hb).1 p hp hq,by rw[hp];exact fun e=>(b4 b hb).2 k _ hv e.symm⟩,fun j ds hj=>?_⟩⟩
  obtain⟨_,_,a2,_⟩:=look hj
  exact (b4 b hb).2 j _ a2
 ·rcases qD hd with h|h
  ·obtain⟨d0,c1,c2⟩:=MR _ (yA h)
   exact c2.rep hr hv hF hz mo (i4 _ _ c1)
  ·exact (i4 t' d h).mono mo
 ·intro e
  omega
end
theorem AR.slW {hp:Hp}{k n:Nat}{α:Type}{c:Cd α}{l:List α}(hv:hp.vars.lookup k=some (dC ((cW c).f l)):=by exact rfl)(hn:n=l.length:=by exact rfl)(hz:Nat.ble 1 c.sz=true:=by exact rfl):AR hp (.ow k 0 c.sz n) (dL c l):=by
 subst hn
 have h:AR hp (.ow k 0 c.sz l.length) (.e (.sl c.sz l.length (List.take (l.length*c.sz) (List.drop 0 (l.flatMap c.f))))):=AR.sl (off:=0) (n:=l.length) hv (b7 hz) (by rw[bB];exact Nat.le_of_eq (fZ c.f c.h l).symm)
 rwa[oa,gu (Nat.le_of_eq (fZ c.f c.h l))] at h
theorem AR.gwW {hp:Hp}{k n:Nat}{α:Type}{c:Cd α}{l:List α}(hv:hp.vars.lookup k=some (dC ((cW c).f l)):=by exact rfl)(hn:n=l.length:=by exact rfl)(hz:Nat.ble 1 c.sz=true:=by exact rfl):AR hp (.gw k c.sz n) (dL c l):=fun B g w v hr hd=>AR.slW hv hn hz B g w v hr hd.toOw
theorem AR.le {hp:Hp}{d d2:D}(h:d.ex.le d2)(hp1:d.ex.pure=true):AR hp d d2:=fun B g w v hr hd=>(AR.data hp1 B g w v hr hd).le h
def D.refC:D→Bool
 | .e (.lit _)=>true
 | .pt _ _=>true
 | .ow _ _ _ _=>true
 | .gw _ _ _=>true
 |_=>false
def D.ref1:D→Bool
 | .ag ds=>ds.all D.refC
 |d=>d.refC
def D.ref2:D→Bool
 | .tu ds=>ds.all D.ref1
 |d=>d.ref1
section
variable {P:Program} {hp bQ:Hp} {g g2:Gh} {w:World} {ρ:Nat→Nat} {d:D} {v:Value}
theorem uj(h:aI hp g w d v)(hn:d.refC=true)(ub:∀i,i<hp.next→ρ i<bQ.next)(hμ:∀i,i<hp.next→g2.μ (ρ i)=g.μ i):aI bQ g2 w (d.renC ρ) v:=by
 cases h with
 |e x v h=>
  cases x with
  |lit u=>cases h with|lit _ ho=>exact .e _ _ (.lit _ ho)
  |_=>cases hn
 |pt k off hk=>rw[←hμ k hk];exact .pt _ off (ub k hk)
 |ow k off z n c hk h1 h2=>rw[←hμ k hk];exact .ow _ off z n c (ub k hk) h1 h2
 |gw k z n c hk h1 h2 hs=>rw[←hμ k hk];exact .gw _ z n c (ub k hk) h1 h2 (by rw[hμ k hk];exact hs)
 |_=>cases hn
theorem uk(h:aI hp g w d v)(hn:d.ref1=true)(ub:∀i,i<hp.next→ρ i<bQ.next)(hμ:∀i,i<hp.next→g2.μ (ρ i)=g.μ i):aI bQ g2 w (d.ren ρ) v:=by
 cases d with
 |ag ds=>
  cases h with
  |ag _ cs hl ho zc=>
   refine .ag _ cs (by simpa using hl) ho fun j d u hj hu=>?_
   rw[fO] at hj
   obtain⟨d0,h4,rfl⟩:=pY.1 hj
   exact uj (zc j d0 u h4 hu) (cb.1 hn d0 (bT h4)) ub hμ
 |e x=>exact uj h hn ub hμ
 |pt k o=>exact uj h hn ub hμ
 |ow k o z n=>exact uj h hn ub hμ
 |gw k z n=>exact uj h hn ub hμ
 |_=>cases hn
theorem PG(h:aI hp g w d v)(hn:d.ref2=true)(ub:∀i,i<hp.next→ρ i<bQ.next)(hμ:∀i,i<hp.next→g2.μ (ρ i)=g.μ i):aI bQ g2 w (d.ren2 ρ) v:=by
 cases d with
 |tu ds=>
  cases h with
  |tu _ cs hl zc=>
   refine .tu _ cs (by simpa using hl) fun j d u hj hu=>?_
   rw[fO] at hj
   obtain⟨d0,h4,rfl⟩:=pY.1 hj
   exact uk (zc j d0 u h4 hu) (cb.1 hn d0 (bT h4)) ub hμ
 |ag ds=>exact uk h hn ub hμ
 |e x=>exact uk h hn ub hμ
 |pt k o=>exact uk h hn ub hμ
 |ow k o z n=>exact uk h hn ub hμ
 |gw k z n=>exact uk h hn ub hμ
 |_=>cases hn
end
theorem HC.frame0R {P:Program}{f:FuncId}{ds dsE:List D}{r:D}{qj vs:List (Nat×List D)}{lv:List (Nat×Nat×Nat×TypeId)}{n' N:Nat}(h:HC P f dsE ⟨[],[],0⟩ r ⟨qj,[],n'⟩)
  (ha:ARs ⟨vs,lv,N⟩ ds dsE) (hr:r.ref2=true) (hvo:∀k cs,qj.lookup k=some cs→cs.all D.refC=true):
  HC P f ds ⟨vs,lv,N⟩ (r.ren2 (fun i=>N+i)) ⟨qj.map (fun p=>(N+p.1,p.2.map (D.renC fun i=>N+i)))++vs,lv,N+n'⟩:=by
 refine⟨h.1,fun B g w us hR hsz dy=>?_⟩
 obtain⟨FN,Cj⟩:=ha.get
 have hS0:HR w.heap.size ⟨[],[],0⟩ ⟨fun _=>0,fun _=>default,Fv ⟨vs,lv,N⟩ g⟩ w:=
  ⟨fun k ds h=>by simp at h,fun k k' a b h=>by simp at h,fun id n e h=>by simp at h,fun id A9 a b c h=>by simp at h,aD _,NJ hR⟩
 refine (h.2 w.heap.size _ w us hS0 (by omega) (fun j e u he hu=>?_)).mono ?_
 ·obtain⟨d,h3,h4⟩:=Cj j e he
  exact h4 B g w u hR (dy j d u h3 hu)
 rintro en w' ⟨v,g',rfl,JD,hM,nE,hB,hF⟩
 let g2:Gh:=⟨fun i=>if i<N then g.μ i else g'.μ (i - N),g.τ,fun p=>g.F p∨∃k cs,qj.lookup k=some cs∧p.block=g'.μ k⟩
 have hμo:∀i,i<N→g2.μ i=g.μ i:=fun i hi=>ar hi
 have xC:∀i,g2.μ (N+i)=g'.μ i:=fun i=>by
  show (if N+i<N then _ else g'.μ (N+i - N))=_
  rw[ifn_,Ka]
 have look:∀{j:Nat} {cs:List D},(qj.map (fun p=>(N+p.1,p.2.map (D.renC fun i=>N+i)))++vs).lookup j=some cs→
   (∃i a,N+i=j∧qj.lookup i=some a∧a.map (D.renC fun i=>N+i)=cs)∨(j<N∧vs.lookup j=some cs):=fun {j cs} h=>by
  rcases qD h with h|h
  ·exact .inl (pF (fun i=>N+i) (fun l:List D=>l.map (D.renC fun i=>N+i)) h)
  ·exact .inr ⟨(hR.var j cs h).1,h⟩
 have hold:∀b,b<w.heap.size→w'.heap[b]? =w.heap[b]? :=hB.block
 have mo:bC ⟨vs,lv,N⟩ g w ⟨qj.map (fun p=>(N+p.1,p.2.map (D.renC fun i=>N+i)))++vs,lv,N+n'⟩ g2 w':=by
  refine⟨hB.size,fun p hp _=>World.cell?_of_block (hold _ hp),fun p hp hf=>?_,qO _ _,fun k hk=>hμo k hk,fun id _ m e hm=>⟨m,hm,aD _,fun _=>rfl⟩,fun b hb hf=>⟨hold b hb,fun p _ hq=>.inl hq,fun k ds hk=>?_,hf.2⟩,fun b=>.same (hold b)⟩
  ·rcases hf with hf|⟨k,cs,hk,he⟩
   ·exact hf
   ·have:=(JD.var k cs hk).2.1
    omega
  ·rcases look hk with⟨i,a,rfl,h1,_⟩|⟨h1,h2⟩
   ·rw[xC]
    have:=(JD.var i a h1).2.1
    omega
   ·rw[hμo k h1];exact hf.1 k ds h2
 refine⟨v,g2,rfl,⟨fun k cs hk=>?_,fun k k' a b hk v3 he=>?_,fun id m e hi=>?_,fun id A9 t t' b h1 h2 h3 h4=>hR.tinj id A9 t t' b h1 h2 h3 h4,cw hR.base hB.size,fun p hf=>?_⟩,mo,PG nE hr (fun i hi=>wQ hi N) (fun i _=>xC i),hB.mono hR.base,fun p _ hp=>.inl hp⟩
 ·rcases look hk with⟨i,a,rfl,h1,h2⟩|⟨h1,h2⟩
  ·obtain⟨b1,b2,b3,ys,ty,b4,b5,b6⟩:=JD.var i a h1
   refine⟨wQ b1 N,by rw[xC];exact cw hR.base b2,fun p hp=>.inr ⟨i,a,h1,by rw[hp,xC]⟩,ys,ty,by rw[xC];exact b4,by rw[←h2,bW];exact b5,fun j u hu=>⟨fun hj=>(b6 j u hu).1 (by rw[←h2,bW] at hj;exact hj),fun d hd=>?_⟩⟩
   rw[←h2,fO] at hd
   obtain⟨d0,h4,rfl⟩:=pY.1 hd
   exact uj ((b6 j u hu).2 d0 h4) (cb.1 (hvo i a h1) d0 (bT h4)) (fun i hi=>wQ hi N) (fun i _=>xC i)
  ·have bG:=hR.var_lt h2
   obtain⟨b1,b2,b3,ys,ty,b4,b5,b6⟩:=hR.var k cs h2
   exact⟨bU b1 (qO _ _),by rw[hμo k h1];exact b2,fun p hp=>.inl (b3 p (by rw[hp,hμo k h1])),ys,ty,by rw[hμo k h1,hold _ bG];exact b4,b5,fun j u hu=>⟨(b6 j u hu).1,fun d hd=>((b6 j u hu).2 d hd).mono mo⟩⟩
 ·rcases look hk with⟨i,x,rfl,h1,_⟩|⟨h1,h2⟩ <;> rcases look v3 with⟨i',x',rfl,uI,_⟩|⟨uI,u9⟩
  ·rw[xC,xC] at he
   rw[JD.inj i i' x x' h1 uI he]
  ·rw[xC,hμo _ uI] at he
   have h3:=(JD.var i x h1).2.1
   have h4:=hR.var_lt u9
   omega
  ·rw[xC,hμo _ h1] at he
   have h3:=(JD.var i' x' uI).2.1
   have h4:=hR.var_lt h2
   omega
  ·rw[hμo _ h1,hμo _ uI] at he
   exact hR.inj k k' a b h2 u9 he
 ·obtain⟨b1,ys,b2,b3,b4⟩:=hR.tok id m e hi
  refine⟨bU b1 (qO _ _),ys,b2,⟨b3.1,?_⟩,fun b hb=>⟨fun p hp hq=>.inl ((b4 b hb).1 p hp hq),fun k cs hk=>?_⟩⟩
  ·rcases b3.2 with h0|⟨b,cap,cur,hv,Rk,hh,r⟩
   ·exact .inl h0
   ·exact .inr ⟨b,cap,cur,hv,Rk,(hold b (ey.1 hh).1).trans hh,r⟩
  ·have hblt:b<w.heap.size:=by
    rcases b3.2 with⟨h0,_⟩|⟨b',cap,cur,hv,Rk,hh,r⟩
    ·rw[show g2.τ id=g.τ id from rfl,h0] at hb;simp[Value.ownBlock] at hb
    ·rw[show g2.τ id=g.τ id from rfl,hv] at hb
     simp[Value.ownBlock] at hb
     subst hb
     exact (ey.1 hh).1
   rcases look hk with⟨i,x,rfl,h1,_⟩|⟨h1,h2⟩
   ·rw[xC]
    have:=(JD.var i x h1).2.1
    omega
   ·rw[hμo _ h1];exact (b4 b hb).2 k cs h2
 ·rcases hf with hf|⟨k,cs,hk,he⟩
  ·exact bU (hR.fits p hf) hB.size
  ·obtain⟨_,_,_,ys,ty,b4,_⟩:=JD.var k cs hk
   rw[he];exact (ey.1 b4).1
def qg(x:Cx)(d:D)(hp:Hp)(d':D)(hp':Hp):Prop:=∀(g:Gh) (w:World) (v:Value),HR x.B hp g w→aI hp g w d v→bC x.hp0 x.g0 x.w0 hp g w→Below x.B x.w0 w→(∀p:Addr,p.block<x.B→x.F0 p→g.F p)→∃g',HR x.B hp' g' w∧aI hp' g' w d' v∧bC x.hp0 x.g0 x.w0 hp' g' w∧∀p:Addr,p.block<x.B→x.F0 p→g'.F p
section
variable {x:Cx} {hp bQ:Hp} {g g2:Gh} {w:World} {v:Value}
theorem JH {d:D}(hf:d.flatC=true)(h:aI hp g w d v):aI bQ g2 w d v:=by
 cases h with
 |e y v h=>
  cases y with
  |lit u=>cases h with|lit _ ho=>exact .e _ _ (.lit _ ho)
  |_=>cases hf
 |_=>cases hf
theorem Se {A C:List D}{y y':D}(hA:A.all D.flatC=true)(hC:C.all D.flatC=true)(hd:aI hp g w (.ag (A++[y]++C)) v)(one:∀u,aI hp g w y u→aI bQ g2 w y' u):aI bQ g2 w (.ag (A++[y']++C)) v:=by
 cases hd with
 |ag _ cs hl ho zc=>
  refine .ag _ cs (by rw[hl];simp) ho fun j d3 u hj hu=>?_
  rcases yP j A.length with h|h|h
  ·rw[fy,wO h] at hj
   exact JH (cb.1 hA d3 (bT hj)) (zc j d3 u (by rw[fy,wO h];exact hj) hu)
  ·subst h
   have e1:(A++[y']++C)[A.length]? =some y':=by simp
   rw[e1] at hj
   injection hj with hj
   subst hj
   exact one u (zc A.length _ u (by simp) hu)
  ·have e1:∀y:D,(A++[y]++C)[j]? =C[j - (A.length+1)]? :=fun y=>by
    rw[wN (by simp;omega)]
    simp
   rw[e1] at hj
   exact JH (cb.1 hC d3 (bT hj)) (zc j d3 u (by rw[e1];exact hj) hu)
theorem OO {A C:List D}{y:D}(hd:aI hp g w (.ag (A++[y]++C)) v):∃u,aI hp g w y u:=by
 cases hd with
 |ag _ cs hl ho zc=>
  have bG:A.length<cs.size:=by rw[hl];simp
  exact⟨_,zc A.length _ cs[A.length] (by simp) (nh bG)⟩
def Gh.one(g:Gh)(b:Nat):Gh:=⟨fun _=>b,fun _=>default,fun p=>g.F p∨p.block=b⟩
theorem qg.core(h0:x.hp0=⟨[],[],0⟩){b:Nat}{xs:List E}{cur:Array Value}{ty:TypeId}(hr:HR x.B hp g w)(hM:bC x.hp0 x.g0 x.w0 hp g w)(ze:x.w0.heap.size≤b)(Rk:x.B≤b)(hh:w.heap[b]? =some (.cells cur ty (0,0)))(hl:xs.length≤cur.size)(cells:∀(i:Nat) (u:Value),cur[i]? =some u→∀y,xs[i]? =some y→∃q,y=.lit q∧u=q∧q.oneCell'=true):
  HR x.B ⟨[(0,dC xs)],[],1⟩ (g.one b) w∧bC x.hp0 x.g0 x.w0 ⟨[(0,dC xs)],[],1⟩ (g.one b) w:=by
 have one:∀{j:Nat} {ds:List D},([(0,dC xs)]:List (Nat×List D)).lookup j=some ds→j=0∧ds=dC xs:=fun {j ds} h=>by
  by_cases hj:j=0
  ·subst hj
   have:some (dC xs)=some ds:=by rw[←h];exact ak.symm
   injection this with this
   exact⟨rfl,this.symm⟩
  ·rw[ay hj] at h;cases h
 refine⟨⟨fun k ds hk=>?_,fun k k' a b hk v3 _=>by rw[(one hk).1,(one v3).1],fun id m e h=>by simp at h,fun id A9 t t' b h=>by simp at h,hr.base,fun p hf=>?_⟩,?_⟩
 ·obtain⟨rfl,rfl⟩:=one hk
  refine⟨cp 0,Rk,fun p hp=>.inr hp,cur,ty,hh,by rw[fL];exact hl,fun i u hu=>⟨fun hi=>?_,fun d hd=>?_⟩⟩
  ·rw[fL] at hi
   obtain⟨q,_,rfl,h⟩:=cells i u hu xs[i] (i8 hi)
   exact h
  ·unfold dC at hd
   rw[fO] at hd
   obtain⟨y,Jp,rfl⟩:=pY.1 hd
   obtain⟨q,rfl,rfl,h⟩:=cells i u hu y Jp
   exact .e _ _ (.lit _ h)
 ·rcases hf with hf|hf
  ·exact hr.fits p hf
  ·rw[hf];exact (ey.1 hh).1
 ·have hn0:x.hp0.next=0:=by rw[h0]
  refine⟨hM.size,hM.cell,fun p hp hf=>?_,by rw[hn0];exact bY _,fun k hk=>by omega,fun id hi=>by omega,fun b' sh hf=>?_,hM.szs⟩
  ·rcases hf with hf|hf
   ·exact hM.forb p hp hf
   ·omega
  ·obtain⟨h1,h2,_⟩:=hM.fr b' sh hf
   exact⟨h1,fun p hp hq=>.inl (h2 p hp hq),fun k ds _=>(show b≠b' by omega),fun id t h=>by simp at h⟩
theorem qg.tok0(h0:x.hp0=⟨[],[],0⟩){vs:List (Nat×List D)}{lv:List (Nat×Nat×Nat×TypeId)}{N id z n:Nat}{e:TypeId}{xs:List E}(hl:lv.lookup id=some (n,z,e))(hn:0<n)(hx:xs.all E.isLit=true)(hr:HR x.B ⟨vs,lv,N⟩ g w)(hM:bC x.hp0 x.g0 x.w0 ⟨vs,lv,N⟩ g w)(hex:∃u,aI ⟨vs,lv,N⟩ g w (.own id z n xs) u):
  ∃g',HR x.B ⟨[(0,dC xs)],[],1⟩ g' w∧bC x.hp0 x.g0 x.w0 ⟨[(0,dC xs)],[],1⟩ g' w∧(∀u,aI ⟨vs,lv,N⟩ g w (.own id z n xs) u→aI ⟨[(0,dC xs)],[],1⟩ g' w (.gw 0 z n) u)∧∀p:Addr,g.F p→g'.F p:=by
 obtain⟨hid,us,hz,lj,hbl⟩:=hr.tok id n _ hl
 dsimp only at hz lj
 rcases lj.2 with⟨_,h2⟩|⟨b,cap,cur,hv,Rk,hh,pl,oF,rL,O1⟩
 ·exfalso
  omega
 have hob:(g.τ id).ownBlock=some b:=by rw[hv];simp[Value.ownBlock]
 have ze:x.w0.heap.size≤b:=by
  rcases bt b x.w0.heap.size with h|h
  ·exfalso
   have Q5:Ih x.hp0 x.g0 b:=by rw[h0];exact⟨fun k ds h=>by simp at h,fun id t h=>by simp at h⟩
   exact (hM.fr b h Q5).2.2.2 id _ hl hob
  ·exact h
 have own:∀v,aI ⟨vs,lv,N⟩ g w (.own id z n xs) v→v=g.τ id∧xs.length=n*z∧∀(i:Nat) (u:Value),cur[i]? =some u→∀y,xs[i]? =some y→∃q,y=.lit q∧u=q∧q.oneCell'=true:=by
  intro v hd
  cases hd with
  |own _ _ _ _ _ hE hid2 hto=>
   obtain⟨_,_,h3⟩:=hto n _ hl
   have hve:=h3 rfl
   subst hve
   rw[hv] at hE
   cases hE with
   |sl _ _ _ A c us2 An hz2 hnc2 hcm2 hA CD zc=>
    refine⟨rfl,An,fun i u hu y hy=>?_⟩
    have Du:y.isLit=true:=cb.1 hx y (bT hy)
    obtain⟨h5,_⟩:=CD _ rfl i y hy
    have h6:w.cell? ((⟨b,0,none⟩:Addr).add i)=cur[i]? :=by rw[Addr.add_lit];simp[World.cell?,hh]
    rw[h6,hu] at h5
    injection h5 with h5
    have h7:=zc i y hy
    rw[←h5] at h7
    cases y with
    |lit q=>cases h7 with|lit _ ho=>exact⟨_,rfl,rfl,ho⟩
    |_=>cases Du
 have hns:n*z≤cap*z:=bJ _ pl
 obtain⟨v0,hv0⟩:=hex
 obtain⟨_,An,cells⟩:=own v0 hv0
 obtain⟨h1,h2⟩:=qg.core h0 hr hM ze Rk hh (by rw[An,rL];exact hns) cells
 refine⟨_,h1,h2,fun v h=>?_,fun p h=>.inl h⟩
 rw[(own v h).1,hv]
 exact .gw (hp:=⟨[(0,dC xs)],[],1⟩) (g:=g.one b) 0 z n cap (cp 0) pl oF ⟨cur,e,(0,0),hh,by omega⟩
theorem qg.tokA(A C:List D)(h0:x.hp0=⟨[],[],0⟩){vs:List (Nat×List D)}{lv:List (Nat×Nat×Nat×TypeId)}{N z n:Nat}{e:TypeId}(id:Nat)(xs:List E)(hl:lv.lookup id=some (n,z,e))(hn:0<n)(hx:xs.all E.isLit=true)(hA:A.all D.flatC=true)(hC:C.all D.flatC=true):qg x (.ag (A++[.own id z n xs]++C)) ⟨vs,lv,N⟩ (.ag (A++[.gw 0 z n]++C)) ⟨[(0,dC xs)],[],1⟩:=by
 intro g w v hr hd hM _ JE
 obtain⟨g',h1,h2,h3,h4⟩:=qg.tok0 h0 hl hn hx hr hM (OO hd)
 exact⟨g',h1,Se hA hC hd h3,h2,fun p hp h=>h4 p (JE p hp h)⟩
theorem qg.var0(h0:x.hp0=⟨[],[],0⟩){k z n:Nat}{xs:List E}(hv:hp.vars.lookup k=some (dC xs))(hx:xs.all E.isLit=true)(hr:HR x.B hp g w)(hM:bC x.hp0 x.g0 x.w0 hp g w):
  ∃g',HR x.B ⟨[(0,dC xs)],[],1⟩ g' w∧bC x.hp0 x.g0 x.w0 ⟨[(0,dC xs)],[],1⟩ g' w∧(∀u,aI hp g w (.gw k z n) u→aI ⟨[(0,dC xs)],[],1⟩ g' w (.gw 0 z n) u)∧∀p:Addr,g.F p→g'.F p:=by
 obtain⟨q1,q2,q3,cs,ty,q4,q5,q6⟩:=hr.var k _ hv
 have ze:x.w0.heap.size≤g.μ k:=by
  rcases bt (g.μ k) x.w0.heap.size with h|h
  ·exfalso
   have Q5:Ih x.hp0 x.g0 (g.μ k):=by rw[h0];exact⟨fun k ds h=>by simp at h,fun id t h=>by simp at h⟩
   exact (hM.fr _ h Q5).2.2.1 k _ hv rfl
  ·exact h
 rw[fL] at q5
 obtain⟨h1,h2⟩:=qg.core h0 hr hM ze q2 q4 q5 (fun i u hu y hy=>by
  have Du:y.isLit=true:=cb.1 hx y (bT hy)
  have h7:=(q6 i u hu).2 (.e y) (by unfold dC;rw[fO,hy];rfl)
  cases y with
  |lit q=>cases h7 with|e _ _ h8=>cases h8 with|lit _ ho=>exact⟨_,rfl,rfl,ho⟩
  |_=>cases Du)
 refine⟨_,h1,h2,fun v h=>?_,fun p h=>.inl h⟩
 cases h with
 |gw _ _ _ c hk pl oF hs=>exact .gw (hp:=⟨[(0,dC xs)],[],1⟩) (g:=g.one (g.μ k)) 0 z n c (cp 0) pl oF hs
theorem qg.varA(A C:List D)(h0:x.hp0=⟨[],[],0⟩){k z n n2:Nat}(xs:List E)(hv:hp.vars.lookup k=some (dC xs))(hn:n=n2)(hx:xs.all E.isLit=true)(hA:A.all D.flatC=true)(hC:C.all D.flatC=true):qg x (.ag (A++[.gw k z n]++C)) hp (.ag (A++[.gw 0 z n2]++C)) ⟨[(0,dC xs)],[],1⟩:=by
 subst hn
 intro g w v hr hd hM _ JE
 obtain⟨g',h1,h2,h3,h4⟩:=qg.var0 (z:=z) (n:=n) h0 hv hx hr hM
 exact⟨g',h1,Se hA hC hd h3,h2,fun p hp h=>h4 p (JE p hp h)⟩
end
theorem qg.of_wk {x:Cx}{d d':D}{hp hp':Hp}(hN:0<x.N)(hw:Wk x [(0,d)] hp [(0,d')] hp'):qg x d hp d' hp':=by
 intro g w v hr hd hM hB hF
 have hrs:RS x [(0,d)] hp {tmps:=(Array.replicate x.N undef).setIfInBounds 0 v,defers:=x.df} w:=by
  refine⟨g,hr,fun t d2 ht=>?_,by simp,rfl,hB,hF,hM⟩
  by_cases h0:t=0
  ·subst h0
   have:some d=some d2:=by rw[←ht];exact ak.symm
   injection this with this
   subst this
   have:((Array.replicate x.N undef).setIfInBounds 0 v).getD 0 undef=v:=by simp[de,hN]
   dsimp only
   rw[this];exact hd
  ·rw[ay h0] at ht;cases ht
 obtain⟨g',h1,h2,_,_,_,h3,h4⟩:=hw _ _ hrs
 refine⟨g',h1,?_,h4,h3⟩
 have:=h2 0 d' ak
 have e:((Array.replicate x.N undef).setIfInBounds 0 v).getD 0 undef=v:=by simp[de,hN]
 dsimp only at this
 rwa[e] at this
theorem qg.of_wk2 {x:Cx}{d d' e e':D}{hp hp':Hp}(hN:1<x.N)(hw:Wk x [(0,d),(1,e)] hp [(0,d'),(1,e')] hp'):qg x (.tu [d,e]) hp (.tu [d',e']) hp':=by
 intro g w v hr hd hM hB hF
 cases hd with
 |tu _ cs hl zc=>
  have Cj:cs.size=2:=hl
  have c0:cs[0]? =some cs[0]:=nh (by omega)
  have c1:cs[1]? =some cs[1]:=nh (by omega)
  have t0:((((Array.replicate x.N undef).setIfInBounds 0 cs[0]).setIfInBounds 1 cs[1]).getD 0 undef)=cs[0]:=by
   have:0<x.N:=by omega
   rw[de,D6 (by decide)]
   simp[this]
  have t1:((((Array.replicate x.N undef).setIfInBounds 0 cs[0]).setIfInBounds 1 cs[1]).getD 1 undef)=cs[1]:=by
   simp[de,hN]
  have hrs:RS x [(0,d),(1,e)] hp {tmps:=((Array.replicate x.N undef).setIfInBounds 0 cs[0]).setIfInBounds 1 cs[1],defers:=x.df} w:=by
   refine⟨g,hr,fun t d2 ht=>?_,by simp,rfl,hB,hF,hM⟩
   by_cases h0:t=0
   ·subst h0
    have:some d=some d2:=by rw[←ht];exact ak.symm
    injection this with this
    subst this
    dsimp only
    rw[t0]
    exact zc 0 d _ rfl c0
   ·rw[ay h0] at ht
    by_cases h1:t=1
    ·subst h1
     have:some e=some d2:=by rw[←ht];exact ak.symm
     injection this with this
     subst this
     dsimp only
     rw[t1]
     exact zc 1 e _ rfl c1
    ·rw[ay h1] at ht;cases ht
  obtain⟨g',h1,h2,_,_,_,h3,h4⟩:=hw _ _ hrs
  have k0:=h2 0 d' ak
  have k1:=h2 1 e' ((ay (by decide)).trans ak)
  dsimp only at k0 k1
  rw[t0] at k0
  rw[t1] at k1
  refine⟨g',h1,.tu _ cs hl fun j dj u hj hu=>?_,h4,h3⟩
  match j,hj,hu with
  |0,hj,hu=>
   have e1:some d'=some dj:=hj
   injection e1 with e1
   rw[c0] at hu
   injection hu with hu
   rw[←e1,←hu];exact k0
  |1,hj,hu=>
   have e1:some e'=some dj:=hj
   injection e1 with e1
   rw[c1] at hu
   injection hu with hu
   rw[←e1,←hu];exact k1
  |n+2,hj,hu=>cases hj
theorem HC.ofX {P : Program} {tb : TypeId → Option TyE} (tok : TOk P tb) {f : FuncId} {fn : Func} {c : Code} {ds : List D} {hp hp' : Hp} {r : D} {rs : List ResultVar} (hf : P.funcs[f]? = some fn) (hb : fn.body = some c) (uu : (fn.name == "runtime.NumGoroutine") = false) (hN : ds.length ≤ fn.ntmps) (hrs : fn.results.toList = rs)
  (h:∀x:Cx,x.N=fn.ntmps→x.hp0=hp→AW P x c (fj 0 ds) hp fun ex tm bQ=>match ex with| .normal| .ret=>∃d,yU tb rs tm bQ d∧qg x d bQ r hp'|_=>False):HC P f ds hp r hp':=by
 subst hrs
 refine⟨⟨fn,hf,uu,by rw[hb];rfl⟩,fun B g w vs hr hsz xg=>?_⟩
 refine calls_of_wp hf hb ?_
 have Do:RS ⟨B,w,g.F,fn.ntmps,hp,g,[]⟩ (fj 0 ds) hp {tmps:=vs++Array.replicate (fn.ntmps - vs.size) undef,defers:=[]} w:=by
  refine⟨g,hr,fun t d ht=>?_,by simp;omega,rfl,Below.refl _ _,fun _ _ h=>h,bC.refl _ _ _⟩
  obtain⟨_,h2⟩:=pV ht
  have bG:t<ds.length:=by
   rw[D5] at h2
   rcases bt t ds.length with hh|hh
   ·exact hh
   ·rw[fa hh] at h2;cases h2
  have hv:vs[t]? =some vs[t]:=nh (by omega)
  have:=xg t d vs[t] (by simpa using h2) hv
  have he:(vs++Array.replicate (fn.ntmps - vs.size) undef).getD t undef=vs[t]:=by
   rw[de,yN (by omega),hv];rfl
  rw[he]
  exact this
 refine wp_mono (h ⟨B,w,g.F,fn.ntmps,hp,g,[]⟩ rfl rfl _ _ Do) ?_
 rintro ex a' w' ⟨tm',bQ,h1,h2⟩
 have fin:(∃d,yU tb fn.results.toList tm' bQ d∧qg ⟨B,w,g.F,fn.ntmps,hp,g,[]⟩ d bQ r hp')→a'.defers=[]∧∃v,(results fn a'.tmps).run P w'=.ok v w'∧∃v' g',Ending.returned v=.returned v'∧HR B hp' g' w'∧bC hp g w hp' g' w'∧aI hp' g' w' r v'∧Below B w w'∧∀p:Addr,p.block<B→g.F p→g'.F p:=by
  rintro⟨d,La,hend⟩
  obtain⟨g1,rD,i4,_,uc,hB,hF,hM⟩:=h1
  obtain⟨v,bR,nE⟩:=vt (x:=⟨B,w,g.F,fn.ntmps,hp,g,[]⟩) tok rfl La rD i4
  obtain⟨g',h3,h4,h5,h6⟩:=hend g1 w' v rD nE hM hB hF
  exact⟨uc,v,bR,v,g',rfl,h3,h5,h4,hB,h6⟩
 cases ex with
 |normal=>exact fin h2
 |ret=>exact fin h2
 |_=>cases h2
section
variable {P:Program} {tb:TypeId→Option TyE} {md:Md} {hp:Hp}
theorem zL(tok:TOk P tb){ev:Operand→D}{dst:Option Tmp}{ty:TypeId}{pos:String}{af:Array Edge}{gd:Option (Nat×Bool)}{tt e:TypeId}{ti j:TyE}(ht:tb tt=some ti)(he:tb e=some j)(xZ:ti.ty=.slice e:=by exact rfl)(hz:Nat.ble 1 j.size=true:=by exact rfl):
  nT P tb md ⟨dst,.buildSlice tt 0 #[],ty,pos,af,gd⟩ ev hp (.fu j.size 0 []) hp:=by
 have hu:=tok.slice ht xZ
 have hz:=b7 hz
 refine⟨.step fun B g w a hr xf=>?_,fun hq=>?_,fun _=>⟨aD _,fun j hj=>rfl⟩,fun h=>by cases h⟩
 ·have hs:=tok.run_sizeOf he w
  have h00:∀f:Nat→Value,Array.map f (Array.range 0)=#[]:=fun f=>D4 (by simp)
  have bR:(Instr.buildSlice tt 0 #[]).run P w=.ok (.slice (some ⟨w.heap.size,0,none⟩) 0 0) (w.alloc (.cells #[] e)):=by
   simp only[Instr.buildSlice,Sem.run_bind,run_underlying hu,Result.andThen_ok,hs,fP,Instr.fill,h00]
   rfl
  have hsz:w.heap.size≤(w.alloc (.cells #[] e)).heap.size:=by simp
  have hbl:∀b,b<w.heap.size→(w.alloc (.cells #[] e)).heap[b]? =w.heap[b]? :=fun b hb=>heap_alloc_old w _ hb
  refine⟨.slice (some ⟨w.heap.size,0,none⟩) 0 0,g,w.alloc (.cells #[] e),?_,hr.keep hsz hbl,bC.keep _ g hsz hbl,?_,(Below.refl _ _).alloc hr.base _,fun p _ h=>h⟩
  ·simp[execOp,bR]
  ·exact .fu _ 0 [] _ (.sl _ 0 [] _ 0 (fun _=>undef) (by simp) hz (aD _) (by decide) (fun h=>absurd h (by omega)) (fun _ _ _ _ h=>by simp at h) (fun _ _ h=>by simp at h))
 ·exfalso
  cases md with
  |seq=>cases hq
  |any L=>
   have h1:((oC (.buildSlice tt 0 #[])&&!KU tb (.buildSlice tt 0 #[]))||sW tb L (.buildSlice tt 0 #[]))=true:=hq
   simp[oC,sW] at h1
theorem news_of {z m:Nat}{ys:List E}{A2:Option Addr}{c2:Nat}{g:Gh}{w:World}(Qx:dq w g.F (.sl z m ys) (.slice A2 m c2))(Du:ys.all E.isLit=true):
  ys.length=m*z∧∃news:List Value,news.length=m*z∧(0<m→∃ad:Addr,A2=some ad∧∀(i:Nat) (u:Value),news[i]? =some u→w.cell? (ad.add i)=some u)∧(∀u∈news,u.oneCell'=true)∧∀(i:Nat) (x:E),ys[i]? =some x→∃u,x=.lit u∧news[i]? =some u:=by
 cases Qx with
 |sl _ _ _ _ _ us hyl hz2 hnc2 hcm2 hA CD zc=>
  have bG:∀i (x:E),ys[i]? =some x→∃u,x=.lit u∧us i=u∧u.oneCell'=true:=fun i x hi=>by
   have h8:=zc i x hi
   have h9:x.isLit=true:=cb.1 Du x (bT hi)
   generalize us i=q at h8
   cases x with
   |lit u=>cases h8 with|lit _ ho=>exact⟨_,rfl,rfl,ho⟩
   |_=>cases h9
  refine⟨hyl,(List.range (m*z)).map us,by simp,fun hm=>?_,fun u hu=>?_,fun i x hi=>?_⟩
  ·obtain⟨ad,e1,_⟩:=hA hm
   refine⟨ad,e1,fun i u hu=>?_⟩
   rw[fO] at hu
   obtain⟨i',h8,rfl⟩:=pY.1 hu
   have Iq:i<m*z:=by have:=(j4.1 h8).1;simpa using this
   obtain rfl:i=i':=by
    rw[wM Iq] at h8
    injection h8
   exact (CD ad e1 i ys[i] (i8 (by omega))).1
  ·obtain⟨i,hi,rfl⟩:=mw.1 hu
   have Iq:i<m*z:=by simpa using hi
   obtain⟨u,_,h9,DE⟩:=bG i ys[i] (i8 (by omega))
   rw[h9];exact DE
  ·obtain⟨u,h8,h9,_⟩:=bG i x hi
   have Iq:i<m*z:=by have:=(j4.1 hi).1;omega
   exact⟨u,h8,by rw[fO,wM Iq,←h9];rfl⟩
theorem appNW(tok:TOk P tb){ev:Operand→D}{dst:Option Tmp}{ty:TypeId}{pos:String}{af:Array Edge}{gd:Option (Nat×Bool)}{t e:TypeId}{ti j:TyE}{x y:Operand}{m:Nat}{ys:List E}(ht:tb t=some ti)(he:tb e=some j)(hx:ev x=.e (.lit (.slice none 0 0))∨ev x=.fu j.size 0 [])(hyy:(ev y).asSl j.size=some (m,ys))(hb:m*max 1 j.bytes≤140737488355328)(hm:0<m)(Du:ys.all E.isLit=true)
  (xZ:ti.ty=.slice e:=by exact rfl) (hz:Nat.ble 1 j.size=true:=by exact rfl):
  nT P tb md ⟨dst,.call ⟨.builtin .append,#[x,y],#[t,t]⟩,ty,pos,af,gd⟩ ev hp (.gw hp.next j.size m) (hp.var (dC ys)):=by
 have hz:=b7 hz
 refine⟨.step fun B g w a hr xf=>?_,fun hq=>?_,fun _=>⟨gN _,fun j hj=>ay (by omega)⟩,fun h=>by cases h⟩
 ·have h1:=xf x (cr (by simp))
  have h2:=xf y (cr (by simp))
  have Qr:∃A,a.eval x=.slice A 0 0:=by
   rcases hx with hx|hx
   ·rw[hx] at h1;exact⟨none,h1.lit⟩
   ·rw[hx] at h1
    generalize a.eval x=v1 at h1
    cases h1 with
    |fu _ _ _ A h=>exact⟨A,rfl⟩
  obtain⟨A1,Qr⟩:=Qr
  generalize O0:a.eval y=v2 at h2
  obtain⟨A2,c2,rfl,Qx⟩:=rx h2 hyy
  obtain⟨hyl,news,zd,hnad,O2,hnlit⟩:=news_of Qx Du
  obtain⟨ad,rfl,wx⟩:=hnad hm
  obtain⟨f,zz,Li,Jv,Q8,hf3,hf4,_⟩:=tok.inf he
  have hu:=tok.slice ht xZ
  have hzs:zz.cells.size=j.size:=by
   have h4:=(tok e j he).2.2.1
   rw[←eK,hf4,h4]
  have Oj:m≤140737488355328:=cw (yQ _ (by omega)) hb
  have Ci:m*f.bytes≤140737488355328:=cw (t8 _ (by rw[Q8];omega)) hb
  have bR:(Builtin.append_ #[t,t] ty #[.slice A1 0 0,.slice (some ad) m c2]).run P w=.ok (.slice (some ⟨w.heap.size,0,none⟩) m (grownCap w m 0 e)) (w.drew.alloc (.cells (news.toArray++Builtin.zeroCells zz.cells (grownCap w m 0 e - m)) e)):=by
   cases A1 with
   |none=>exact run_append_nil (P:=P) w t ty e f zz hu Li hf3 ad m c2 news (by rw[Jv];exact zd) wx (by omega) (by omega) (by omega)
   |some a1=>
    have:=run_append_grow (P:=P) w t ty e f zz hu Li hf3 a1 0 0 [] (by simp) (fun i u h=>by simp at h) ad m c2 news (by rw[Jv];exact zd) wx (by omega) (by omega) (growslice_fits (by omega) (by rw[bB];exact Ci))
    simpa using this
  have ze:=grownCap_ge w m 0 e
  have hold:∀c,c<w.heap.size→(w.drew.alloc (.cells (news.toArray++Builtin.zeroCells zz.cells (grownCap w m 0 e - m)) e)).heap[c]? =w.heap[c]? :=fun c hc=>heap_alloc_old w.drew _ hc
  have tW:=heap_alloc_new w.drew (.cells (news.toArray++Builtin.zeroCells zz.cells (grownCap w m 0 e - m)) e)
  have mo:=bC.addVar (w:=w) (w':=w.drew.alloc (.cells (news.toArray++Builtin.zeroCells zz.cells (grownCap w m 0 e - m)) e)) hp g (dC ys) (b:=w.heap.size) (by simp) hold (aD _)
  have hsz:(news.toArray++Builtin.zeroCells zz.cells (grownCap w m 0 e - m)).size=grownCap w m 0 e*j.size:=by
   simp only[Br,my,size_zeroCells,hzs,zd]
   have:grownCap w m 0 e=m+(grownCap w m 0 e - m):=by omega
   rw[this,bZ]
   congr 2
   omega
  have hmz:m*j.size≤grownCap w m 0 e*j.size:=bJ _ ze
  refine⟨.slice (some ⟨w.heap.size,0,none⟩) m (grownCap w m 0 e),g.var hp.next w.heap.size,w.drew.alloc (.cells (news.toArray++Builtin.zeroCells zz.cells (grownCap w m 0 e - m)) e),?_,hr.addVar (dC ys) (w':=w.drew.alloc (.cells (news.toArray++Builtin.zeroCells zz.cells (grownCap w m 0 e - m)) e)) (by simp) hold (aD _) _ e tW (by rw[hsz,fL,hyl];omega) (fun i u hu=>?_),mo,?_,⟨rfl,rfl,rfl,by simp,fun c hc=>hold c (bU hc hr.base)⟩,fun p h5 h6=>.inl h6⟩
  rotate_left
  ·have G3:i<m*j.size→news[i]? =some u:=fun hi=>by
    have Ap:i<news.toArray.size:=by rw[my,zd];omega
    rw[yN Ap,Bq] at hu
    exact hu
   refine⟨fun hi=>?_,fun d hd=>?_⟩
   ·rw[fL,hyl] at hi
    exact O2 u (bT (G3 hi))
   ·unfold dC at hd
    rw[fO] at hd
    obtain⟨y0,Jp,rfl⟩:=pY.1 hd
    obtain⟨q,rfl,hq⟩:=hnlit _ y0 Jp
    have hi:i<m*j.size:=by have:=(j4.1 Jp).1;omega
    rw[G3 hi] at hq
    injection hq with hq
    subst hq
    exact .e _ _ (.lit _ (O2 u (bT (G3 hi))))
  ·have xC:(g.var hp.next w.heap.size).μ hp.next=w.heap.size:=ar rfl
   have:=aI.gw (hp:=hp.var (dC ys)) (g:=g.var hp.next w.heap.size) (w:=w.drew.alloc (.cells (news.toArray++Builtin.zeroCells zz.cells (grownCap w m 0 e - m)) e)) hp.next j.size m (grownCap w m 0 e) (cp _) ze (grownCap_le_maxLen w m 0 e (by unfold maxLen;omega)) ⟨_,e,(0,0),by rw[xC];exact tW,by rw[hsz];exact aD _⟩
   rwa[xC] at this
  ·simp only[execOp,HT,D7,fx,i2,resolve,invoke,builtin,Qr,O0,Sem.run_bind]
   simp[resolve,invoke,builtin,Qr,O0,bR]
 ·exfalso
  cases md with
  |seq=>cases hq
  |any L=>
   have h1:((oC (.call ⟨.builtin .append,#[x,y],#[t,t]⟩)&&!KU tb (.call ⟨.builtin .append,#[x,y],#[t,t]⟩))||sW tb L (.call ⟨.builtin .append,#[x,y],#[t,t]⟩))=true:=hq
   simp[oC,sW] at h1
end
end
section
theorem ARs.nil {hp:Hp}:ARs hp [] []:=trivial
theorem ARs.cons {hp:Hp}{d e:D}{ds es:List D}(h:AR hp d e)(hl:ARs hp ds es):ARs hp (d::ds) (e::es):=⟨h,hl⟩
class qn {α:Type} (c:Cd α):Prop where
 h:∀x,(c.f x).all E.isLit=true
theorem qn.l {α:Type}(c:Cd α)(l:List α)[qn c]:(l.flatMap c.f).all E.isLit=true:=by
 rw[List.all_flatMap,cb]
 exact fun x _=>qn.h x
instance(k:IntKind):qn (cI k):=⟨fun _=>rfl⟩
instance:qn cS:=⟨fun _=>rfl⟩
instance:qn cB:=⟨fun _=>rfl⟩
instance {α:Type}(n:Nat)(c:Cd α)[qn c]:qn (cA n c):=⟨fun x=>qn.l c x.toList⟩
theorem PD {xs:List E}(ρ:Nat→Nat):(dC xs).map (D.renC ρ)=dC xs:=by
 unfold dC
 rw[rX]
 exact tK fun x _=>rfl
theorem PF {xs:List E}(h:xs.all E.isLit=true):(dC xs).all D.refC=true:=by
 unfold dC
 rw[D3,cb]
 intro y hy
 have:=cb.1 h y hy
 cases y with
 |lit u=>rfl
 |_=>cases this
def orO {α:Type}(a b:Option α):Option α:=match a with
 |some x=>some x
 |none=>b
theorem zF {α:Type}{a b:Option α}{r:α}(h:orO a b=some r):a=some r∨b=some r:=by
 cases a with
 |none=>exact .inr h
 |some x=>exact .inl h
section
variable {md:Md} {ops:Array Oper} {K:List (Nat×D)→Hp→Prop} {os:List Oper} {tm:List (Nat×D)} {hp hp':Hp} {t s:Tmp} {op:Op} {ty:TypeId} {pos:String} {af:Array Edge} {d d2:D} {j:Nat} {want c:Bool}
theorem sG(h:AVC prog tbl md.dr op ty (fun x=>(evD tm x).toOw) hp (Kq d hp'))(h2:ba prog tbl md ops K os ((t,d)::tm) hp')(hn:md.nc tbl op=true:=by exact rfl):ba prog tbl md ops K (⟨some t,op,ty,pos,af,none⟩::os) tm hp:=stG tok h h2 hn
theorem sF {x:Operand}{f:FuncId}{la:List Operand}{ts:Array TypeId}{ds':List D}{r:D}(hc:ax prog f ds' r)(ha:ARs hp (la.map (evD tm)) ds')(hf:r.flat=true)(h2:ba prog tbl md ops K os ((t,r)::tm) hp)(v4:evD tm x=.e (.lit (.func (.func f) #[] #[])):=by exact rfl)(hn:md.nc tbl (.call ⟨.value x,la.toArray,ts⟩)=true:=by exact rfl):
  ba prog tbl md ops K (⟨some t,.call ⟨.value x,la.toArray,ts⟩,ty,pos,af,none⟩::os) tm hp:=GE rfl (sHC (HC.frz hc ha hf) rfl (.inr (Fr.refl _)) v4 hn) h2
theorem sC0 {x:Operand}{f:FuncId}{la:List Operand}{ts:Array TypeId}{dsE:List D}{r:D}{xs:List E}{vs:List (Nat×List D)}{lv:List (Nat×Nat×Nat×TypeId)}{N q:Nat}(hc:HC prog f dsE ⟨[],[],0⟩ r ⟨[(q,dC xs)],[],q+1⟩)(ha:ARs ⟨vs,lv,N⟩ (la.map (evD tm)) dsE)(hx:xs.all E.isLit=true)(h2:ba prog tbl md ops K os ((t,d)::tm) hp')(hr:r.ref2=true:=by exact rfl)(hd:r.ren2 (fun i=>N+i)=d:=by exact rfl)(hh:(⟨(N+q,dC xs)::vs,lv,N+(q+1)⟩:Hp)=hp':=by exact rfl)(v4:evD tm x=.e (.lit (.func (.func f) #[] #[])):=by exact rfl)(hn:md.nc tbl (.call ⟨.value x,la.toArray,ts⟩)=true:=by exact rfl):
  ba prog tbl md ops K (⟨some t,.call ⟨.value x,la.toArray,ts⟩,ty,pos,af,none⟩::os) tm ⟨vs,lv,N⟩:=by
 subst hd hh
 have h:=HC.frame0R (vs:=vs) (lv:=lv) (N:=N) hc ha hr (fun k cs hk=>by
  by_cases h0:k=q
  ·subst h0
   rw[ak] at hk
   injection hk with hk
   subst hk
   exact PF hx
  ·rw[ay h0] at hk;cases hk)
 rw[fx,i2,PD] at h
 exact GE rfl (sHC h rfl (.inr ⟨qO _ _,fun j hj=>ay (Nat.ne_of_lt (bU hj (qO _ _)))⟩) v4 hn) h2
theorem GH {ev:Operand→D}{dst:Option Tmp}{gd:Option (Nat×Bool)}{α:Type}{c:Cd α}{m:List α}{tt e:TypeId}{ti j:TyE}{x y:Operand}(tok:TOk prog tbl)(ht:tbl tt=some ti)(he:tbl e=some j)(hf:m.length*max 1 j.bytes≤140737488355328)(hn:0<m.length)(Du:(m.flatMap c.f).all E.isLit=true)(hx:ev x=.e (.lit (.slice none 0 0))∨ev x=.fu j.size 0 [])(hy:(ev y).asSl j.size=some (m.length,m.flatMap c.f):=by exact rfl)(xZ:ti.ty=.slice e:=by exact rfl)(hz:Nat.ble 1 j.size=true:=by exact rfl):
  nT prog tbl md ⟨dst,.call ⟨.builtin .append,#[x,y],#[tt,tt]⟩,ty,pos,af,gd⟩ ev hp (.gw hp.next j.size m.length) (hp.var (dC ((cW c).f m))):=appNW tok ht he hx hy hf hn Du xZ hz
theorem ftn {k z n n2:Nat}{F:List E}:∀p∈([]:List (Nat×D)),∃d0,tm.lookup p.1=some d0∧FzD k z n n2 F d0 p.2:=fun p h=>by cases h
theorem ftc {k z n n2:Nat}{F:List E}{t:Nat}{d d0:D}{l:List (Nat×D)}(h:tm.lookup t=some d0)(hf:FzD k z n n2 F d0 d)(hl:∀p∈l,∃d0,tm.lookup p.1=some d0∧FzD k z n n2 F d0 p.2):∀p∈(t,d)::l,∃d0,tm.lookup p.1=some d0∧FzD k z n n2 F d0 p.2:=fun p hp=>by
 rcases je.1 hp with rfl|hp
 ·exact⟨d0,h,hf⟩
 ·exact hl p hp
theorem fvn {k z n n2:Nat}{F:List E}{vs:List (Nat×List D)}:∀p∈([]:List (Nat×List D)),p.1≠k∧∃pm,vs.lookup p.1=some pm∧FzL k z n n2 F pm p.2:=fun p h=>by cases h
theorem fvc {k z n n2:Nat}{F:List E}{vs:List (Nat×List D)}{t:Nat}{d d0:List D}{l:List (Nat×List D)}(hk:t≠k)(h:vs.lookup t=some d0)(hf:FzL k z n n2 F d0 d)(hl:∀p∈l,p.1≠k∧∃pm,vs.lookup p.1=some pm∧FzL k z n n2 F pm p.2):∀p∈(t,d)::l,p.1≠k∧∃pm,vs.lookup p.1=some pm∧FzL k z n n2 F pm p.2:=fun p hp=>by
 rcases je.1 hp with rfl|hp
 ·exact⟨hk,d0,h,hf⟩
 ·exact hl p hp
theorem fzOD {α:Type}(c:Cd α){l:List α}{vs:List (Nat×List D)}{lv:List (Nat×Nat×Nat×TypeId)}{N n:Nat}(k:Nat)(ts:List (Nat×D))(us:List (Nat×List D))(hn:n=l.length)(h2:ba prog tbl .seq ops K os (ts++tm) ⟨us++vs.filter fun p=>!([k]:List Nat).contains p.1,lv,N⟩)(MR:∀p∈ts,∃d0,tm.lookup p.1=some d0∧FzD k c.sz n l.length ((cW c).f l) d0 p.2)(Og:∀p∈us,p.1≠k∧∃pm,vs.lookup p.1=some pm∧FzL k c.sz n l.length ((cW c).f l) pm p.2)(hv:vs.lookup k=some (dC ((cW c).f l)):=by exact rfl)(hz:Nat.ble 1 c.sz=true:=by exact rfl):ba prog tbl .seq ops K os tm ⟨vs,lv,N⟩:=by
 subst hn
 exact .wk rfl (WkS.frzD (fZ c.f c.h l) (b7 hz) hv MR Og) h2
variable {x:Cx} {Q:Exit→List (Nat×D)→Hp→Prop}
theorem fzAD {cd:Code}{α:Type}(c:Cd α){l:List α}{vs:List (Nat×List D)}{lv:List (Nat×Nat×Nat×TypeId)}{N n:Nat}(k:Nat)(ts:List (Nat×D))(us:List (Nat×List D))(hn:n=l.length)(h2:AW prog x cd (ts++tm) ⟨us++vs.filter fun p=>!([k]:List Nat).contains p.1,lv,N⟩ Q)(MR:∀p∈ts,∃d0,tm.lookup p.1=some d0∧FzD k c.sz n l.length ((cW c).f l) d0 p.2)(Og:∀p∈us,p.1≠k∧∃pm,vs.lookup p.1=some pm∧FzL k c.sz n l.length ((cW c).f l) pm p.2)(hv:vs.lookup k=some (dC ((cW c).f l)):=by exact rfl)(hz:Nat.ble 1 c.sz=true:=by exact rfl):AW prog x cd tm ⟨vs,lv,N⟩ Q:=by
 subst hn
 exact AW.weak (fun _ _ hr=>(WkS.frzD (fZ c.f c.h l) (b7 hz) hv MR Og).rs hr) h2
end
end
instance:qn az:=⟨fun x=>by unfold az;simp only[vn,nZ,rW,E.isLit,qn.h,j7,D2]⟩
instance:qn ae:=⟨fun x=>by unfold ae;simp only[vn,nZ,rW,E.isLit,qn.h,j7,D2]⟩
theorem pG0 {α:Type}(c:Cd α)(a:α)(l:List E){z:Nat}(h:c.sz=z):((c.f a++l).drop 0).take z=c.f a:=by
 have hl:(c.f a).length=z:=(c.h a).trans h
 rw[oa,wJ (by omega),gu (by omega)]
theorem pG1 {α β:Type}(c:Cd α)(a:α)(k:Cd β)(b:β){o z:Nat}(h:c.sz=o)(h2:k.sz=z):((c.f a++k.f b).drop o).take z=k.f b:=by
 have hl:(c.f a).length=o:=(c.h a).trans h
 have hk:(k.f b).length=z:=(k.h b).trans h2
 rw[←hl,t4,gu (by omega)]
def a9:Cd Nu:=⟨36,fun x=>ae.f x.1,fun x=>ae.h x.1⟩
theorem w_Mul(x y:Nu):ax prog 40 [dG a9 x,dG a9 y] (dG a9 (sJ x y)):=by rw[C8];exact wl (Mq x.2 y.2)
theorem w_Sub(x y:Nu):ax prog 146 [dG a9 x,dG a9 y] (dG a9 (yz x y)):=by rw[I5];exact ID (G_osub x.2 y.2)
theorem w_Div(x y:Nu):ax prog 144 [dG a9 x,dG a9 y] (dG a9 (wv x y)):=by rw[I8];exact IE (G_odiv x.2 y.2)
theorem Pf(x:Nu):ax prog 42 [dG a9 x] (dI .i64 (i9 x)):=by rw[AS];exact zt (SZ x.2)
theorem w_Good(x:Nu):ax prog 41 [dG a9 x] (dB (ck x)):=by rw[xe];exact gz (mN x.2)
def nv(x:Nu):ai:=x.1
section
theorem sM(a:Nu):(dC (a9.f a)).length=36:=by rw[fL,a9.h];rfl
section
variable {dr:Bool} {ty:TypeId} {ev:Operand→D} {hp hp':Hp} {k o:Nat} {F F2:List D} {F':List D→List D} {x y:Operand} {a b:Nu}
theorem ldN(L:Pt F o (dC (a9.f a)) F')(hv:hp.vars.lookup k=some F)(hk:k<hp.next)(hx:ev x=.pt k o:=by exact rfl):AVC prog tbl dr (.load 34 x) ty ev hp (Kq (dG a9 a) hp):=T_ldP L hv hk aC (sM a) rfl hx
theorem stN(L:Pt F o (dC (a9.f a)) F')(hv:hp.vars.lookup k=some F)(h2:F' (dC (a9.f b))=F2)(hx:ev x=.pt k o:=by exact rfl)(hy:ev y=dG a9 b:=by exact rfl)(he:hp.set k F2=hp':=by exact rfl):AVC prog tbl dr (.store 34 x y) ty ev hp (Kq .top hp'):=
 Si (ys:=dC (a9.f b)) L hv (by rw[hy];rfl) aC (sM a) (by rw[sM,sM]) h2 hx he
theorem Pt.idN(a:Nu):Pt (dC (a9.f a)) 0 (dC (a9.f a)) id:=Pt.of [] [] rfl (by simp) (fun y=>by simp)
end
section
variable {vs v6 pz:List (Nat×List D)} {lv:List (Nat×Nat×Nat×TypeId)} {N n2 k:Nat}
theorem fV.lt(hok:fV ⟨vs,lv,N⟩){ds:List D}(h:vs.lookup k=some ds):k<N:=(hok.var k ds h).1
theorem fV.ne(hok:fV ⟨vs,lv,N⟩){ds:List D}(h:vs.lookup k=some ds){m:Nat}(hm:N≤m):k≠m:=by have:=hok.lt h;omega
theorem al {j m:Nat}{b:List D}{l:List (Nat×List D)}{r:Option (List D)}(hj:j≠m)(h:l.lookup j=r):((m,b)::l).lookup j=r:=(ay hj).trans h
theorem qF(l:List E):(dC l).all (D.idsC N)=true:=DK (fun _=>rfl) l
theorem fV.cons {M:Nat}{ds:List D}(hok:fV ⟨vs,lv,N⟩)(hN:N≤M)(hk:k<M)(hd:ds.all (D.idsC M)=true):fV ⟨(k,ds)::vs,lv,M⟩:=by
 refine⟨fun j es h=>?_,fun id e h=>bU (hok.tok id e h) hN⟩
 by_cases hj:j=k
 ·subst hj
  have:some ds=some es:=by rw[←h];exact ak.symm
  injection this with this
  subst this
  exact⟨hk,hd⟩
 ·obtain⟨h1,h2⟩:=hok.var j es (by rw[←h];exact (ay hj).symm)
  exact⟨bU h1 hN,cb.2 fun d hd=>D.idsC_le hN (cb.1 h2 d hd)⟩
def qT(n:Nat)(tm tm':List (Nat×D)):Prop:=∀p∈tm',(∃d,tm.lookup p.1=some d∧(p.2=d∨p.2=d.ex))∧p.2.idsB n=true
theorem qT.nil {n:Nat}{tm:List (Nat×D)}:qT n tm []:=fun p hp=>absurd hp (Bp)
theorem qT.cons {n t:Nat}{d:D}{tm tm':List (Nat×D)}(h2:qT n tm tm')(h:tm.lookup t=some d:=by exact rfl)(hi:d.idsB n=true:=by exact rfl):qT n tm ((t,d)::tm'):=fun p hp=>by
 rcases je.1 hp with rfl|hp
 ·exact⟨⟨d,h,.inl rfl⟩,hi⟩
 ·exact h2 p hp
theorem wkS {x:Cx}{tm tm':List (Nat×D)}{n':Nat}(h0:x.hp0.next≤n')(hn:n'≤n2)(hok:fV ⟨pz,lv,n'⟩)(hv:∀j ds,pz.lookup j=some ds→v6.lookup j=some ds)(ht:qT n' tm tm'):Wk x tm ⟨v6,lv,n2⟩ tm' ⟨pz,lv,n'⟩:=
 Wk.look h0 hn ht (fun j ds h=>⟨(hok.var j ds h).1,ds,hv j ds h,ud _,(hok.var j ds h).2⟩) fun id y h=>⟨hok.tok id y h,h⟩
theorem Jg {j:Nat}{a b:List D}{l:List (Nat×List D)}:((k,b)::(k,a)::l).lookup j=((k,b)::l).lookup j:=by
 by_cases hj:j=k
 ·subst hj;rw[ak,ak]
 ·rw[ay hj,ay hj,ay hj]
theorem ew {j a:Nat}{x ds:List D}{l:List (Nat×List D)}(h:((a,x)::l).lookup j=some ds):(j=a∧ds=x)∨(j≠a∧l.lookup j=some ds):=by
 by_cases hj:j=a
 ·subst hj
  have:some x=some ds:=by rw[←h];exact ak.symm
  injection this with this
  exact .inl ⟨rfl,this.symm⟩
 ·exact .inr ⟨hj,by rw[←h];exact (ay hj).symm⟩
theorem Pt.elN(l:List Nu)(i:Nat)(h:i<l.length):Pt (dC ((cW a9).f l)) (0+i*36) (dC (a9.f l[i]!)) (fun ys=>(dC ((cW a9).f l)).take (0+i*36)++ys++(dC ((cW a9).f l)).drop (0+i*36+36)):=by
 have L:=aX.seqW a9 l i h
 have e:a9.sz=36:=rfl
 rw[e] at L
 refine⟨?_,?_,fun ys hy=>by rw[sM]⟩
 ·have:=L.le
  rw[sM,fL];exact this
 ·have:=L.g
  rw[sM]
  unfold dC
  rw[←yj,←wH]
  exact congrArg _ this
theorem Pt.elN_set(l:List Nu)(i:Nat)(h:i<l.length)(b:Nu):(dC ((cW a9).f l)).take (0+i*36)++dC (a9.f b)++(dC ((cW a9).f l)).drop (0+i*36+36)=dC ((cW a9).f (l.set i b)):=by
 have L:=aX.seqW a9 l i h
 have e:a9.sz=36:=rfl
 rw[e] at L
 have:=L.p b
 rw[e] at this
 unfold dC
 rw[←wH,←yj,←jR,←jR]
 exact congrArg _ this
end
end
theorem pH {t:Nat}(h:t<9223372036854775807:=by omega):i64.wrap ((t:Int)+1)=((t+1:Nat):Int):=by
 rw[tg (by omega) (by omega)];omega
def zN:List E:=(List.replicate 2 (E.lit (.bool false))++List.replicate 16 (E.lit (.int .u32 0)))++(List.replicate 2 (E.lit (.bool false))++List.replicate 16 (E.lit (.int .u32 0)))
theorem T_alN {dr:Bool}{ty:TypeId}{ev:Operand→D}{vs:List (Nat×List D)}{lv:List (Nat×Nat×Nat×TypeId)}{N:Nat}:AVC prog tbl dr (.alloc 34) ty ev ⟨vs,lv,N⟩ (Kq (.pt N 0) ⟨(N,dC zN)::vs,lv,N+1⟩):=lB aC
theorem Pt.zN:Pt (dC zN) 0 (dC zN) id:=Pt.of [] [] rfl (by simp) (fun y=>by simp)
theorem stZ {dr:Bool}{ty:TypeId}{ev:Operand→D}{hp hp':Hp}{k:Nat}{x y:Operand}{b:Nu}(hv:hp.vars.lookup k=some (dC zN))(hx:ev x=.pt k 0:=by exact rfl)(hy:ev y=dG a9 b:=by exact rfl)(he:hp.set k (dC (a9.f b))=hp':=by exact rfl):AVC prog tbl dr (.store 34 x y) ty ev hp (Kq .top hp'):=
 Si (ys:=dC (a9.f b)) Pt.zN hv (by rw[hy];rfl) aC rfl (by rw[sM];rfl) rfl hx he
theorem Pt.el(l:List Nu)(i:Nat)(h:i<l.length):Pt (dC ((cW a9).f l)) (i*36) (dC (a9.f l[i]!)) (fun ys=>(dC ((cW a9).f l)).take (i*36)++ys++(dC ((cW a9).f l)).drop (i*36+36)):=by
 have:=Pt.elN l i h
 rwa[bB] at this
theorem Pt.el_set(l:List Nu)(i:Nat)(h:i<l.length)(b:Nu):(dC ((cW a9).f l)).take (i*36)++dC (a9.f b)++(dC ((cW a9).f l)).drop (i*36+36)=dC ((cW a9).f (l.set i b)):=by
 have:=Pt.elN_set l i h b
 rwa[bB] at this
section
section
variable {hp:Hp}
theorem AR.list {k n:Nat}{l:List Nu}(hv:hp.vars.lookup k=some (dC ((cW a9).f l)))(hl:l.length=n):AR hp (.ow k 0 36 n) (.e (slE a9 l)):=by
 subst hl
 have hlen:((cW a9).f l).length=l.length*36:=fZ a9.f a9.h l
 have:=AR.sl (off:=0) hv (n:=l.length) (z:=36) (by omega) (by omega)
 rw[oa,gu (by omega)] at this
 exact this
end
end
def sj(bS:Int)(od:Int):Option (Int×Int):=bnd (some (u64.wrap ((Jo .u64 bS (4294967295:Int))*(Jo .u64 od (4294967295:Int))))) fun x1=>bnd (some (u64.wrap ((u64.wrap ((mX .u64 bS (32:Int))*(Jo .u64 od (4294967295:Int))))+(mX .u64 x1 (32:Int))))) fun x3=>bnd (some (u64.wrap ((Jo .u64 x3 (4294967295:Int))+(u64.wrap ((Jo .u64 bS (4294967295:Int))*(mX .u64 od (32:Int))))))) fun x5=>bnd (some (u64.wrap ((u64.wrap ((u64.wrap ((mX .u64 bS (32:Int))*(mX .u64 od (32:Int))))+(mX .u64 x3 (32:Int))))+(mX .u64 x5 (32:Int))))) fun x7=>some (x7,u64.wrap (bS*od))
theorem Gw {bS:Int}{od:Int}{r:Int×Int}(h:sj bS od=some r):ax prog 156 [dI .u64 bS,dI .u64 od] (.tu [dI .u64 r.1,dI .u64 r.2]):=by
 refine bn (rs:=[.tmp 4,.tmp 5]) (fun cx hx h0=>?_) func156
 unfold sj at h
 iterate 5 refine ra hx ?_
 refine rs hx fun K hK=>?_
 iterate 3 refine sa ?_
 obtain⟨x1,Cf,h⟩:=ah h
 replace Cf:=d5 Cf
 refine s2 (d2:=dI .u64 x1) mi (gD (congrArg (dI .u64) Cf)) ?_
 refine nl hK ?_
 refine rs hx fun K hK=>?_
 iterate 6 refine sa ?_
 obtain⟨x3,GV,h⟩:=ah h
 replace GV:=d5 GV
 refine s2 (d2:=dI .u64 x3) mi (gD (congrArg (dI .u64) GV)) ?_
 refine nl hK ?_
 iterate 2 refine ra hx ?_
 refine rs hx fun K hK=>?_
 iterate 5 refine sa ?_
 obtain⟨x5,Ce,h⟩:=ah h
 replace Ce:=d5 Ce
 refine s2 (d2:=dI .u64 x5) mi (gD (congrArg (dI .u64) Ce)) ?_
 refine nl hK ?_
 refine rs hx fun K hK=>?_
 iterate 8 refine sa ?_
 obtain⟨x7,K1,h⟩:=ah h
 replace K1:=d5 K1
 refine s2 (d2:=dI .u64 x7) mi (gD (congrArg (dI .u64) K1)) ?_
 refine nl hK ?_
 refine ra hx ?_
 refine AW.ret ?_
 cases h
 exact rv2
def va(bS:Int)(od:Int):Option (Int×Int):=bnd (sj bS od) fun x1=>some (x1.1,x1.2)
theorem KC {bS:Int}{od:Int}{r:Int×Int}(h:va bS od=some r):ax prog 122 [dI .u64 bS,dI .u64 od] (.tu [dI .u64 r.1,dI .u64 r.2]):=by
 refine bn (rs:=[.tmp 4,.tmp 5]) (fun cx hx h0=>?_) func122
 unfold va at h
 refine ra hx ?_
 refine AW.seq (AW.condF rfl rfl (AW.skip (rs hx fun K hK=>?_)))
 refine mbr ?_
 refine scb h Gw fun x1 h=>?_
 refine nbr hK ?_
 refine ra hx ?_
 refine AW.ret ?_
 cases h
 exact rv2
theorem Qm {m:Nat}(h:m<4294967296):Jo .u64 (m:Int) (4294967295:Int)=(m:Int):=by
 have h1:(BitVec.ofInt 64 (m:Int) &&&BitVec.ofInt 64 (4294967295:Int)).toNat=m:=by
  have a:(BitVec.ofInt 64 (m:Int)).toNat=m:=by
   rw[BitVec.ofInt_natCast,BitVec.toNat_ofNat];omega
  have b:(BitVec.ofInt 64 (4294967295:Int)).toNat=2 ^ 32 - 1:=by decide
  rw[BitVec.toNat_and,a,b,Nat.and_two_pow_sub_one_eq_mod];omega
 show u64.wrap (((BitVec.ofInt 64 (m:Int) &&&BitVec.ofInt 64 (4294967295:Int)).toNat:Nat):Int)=m
 rw[h1]
 exact iJ
theorem mul1 {n:Nat}(h:n≤1000000):va (u64.wrap 1) (u64.wrap (n:Int))=some (0,(n:Int)):=by
 have e1:u64.wrap 1=((1:Nat):Int):=iJ (n:=1) (by omega)
 have a1:=Qm (m:=1) (by omega)
 have a2:=Qm (m:=n) (by omega)
 have s1:=xP 1
 have s2:=xP n
 have m1:(1:Nat) / 4294967296=0:=rfl
 have m2:n / 4294967296=0:=gO (by omega)
 rw[m1] at s1
 rw[m2] at s2
 have z0:u64.wrap ((0:Nat):Int)=((0:Nat):Int):=iJ (n:=0) (by omega)
 have zn:u64.wrap (n:Int)=(n:Int):=iJ
 have i0:Jo .u64 ((0:Nat):Int) (4294967295:Int)=((0:Nat):Int):=Qm (m:=0) (by omega)
 have h0:mX .u64 ((0:Nat):Int) (32:Int)=((0:Nat):Int):=xP 0
 rw[e1,zn]
 unfold va sj
 rw[a1,a2,s1,s2]
 simp only[bnd,D1]
 have p1:((1:Nat):Int)*(n:Int)=(n:Int):=by omega
 have p2:((0:Nat):Int)*(n:Int)=((0:Nat):Int):=by omega
 have p3:((1:Nat):Int)*((0:Nat):Int)=((0:Nat):Int):=by omega
 have p4:((0:Nat):Int)*((0:Nat):Int)=((0:Nat):Int):=by omega
 have p5:((0:Nat):Int)+((0:Nat):Int)=((0:Nat):Int):=by omega
 rw[p1,p2,p3,p4,zn,z0,s2,p5,z0,i0,p5,z0,h0,p5,z0,p5,z0]
 rfl
section
def yH(a:Nu)(n s:Nat):List Nu:=List.replicate s a++List.replicate (n - s) default
theorem DL {a:Nu}{n s:Nat}(h:s≤n):(yH a n s).length=n:=by
 unfold yH;rw[eI,Bm,Bm];omega
theorem cont_cp {a:Nu}{n s:Nat}(h:s≤n):lCp (yH a n s) s (((((yH a n s).drop 0).take s)).take (n - s))=yH a n (s+min s (n - s)):=by
 have h1:((yH a n s).drop 0).take s=List.replicate s a:=by
  unfold yH
  rw[oa,wJ (by simp),gu (by simp)]
 rw[h1,List.take_replicate]
 unfold lCp
 rw[Bm]
 unfold yH
 rw[wJ (by simp),gu (by simp),LV,Bm,yO (by simp),qw,List.drop_replicate]
 rw[List.replicate_append_replicate,Nat.min_comm,show n - s - (s+min s (n - s) - s)=n - (s+min s (n - s)) by omega]
theorem wkS2 {x:Cx}{tm tm':List (Nat×D)}{v6 pz:List (Nat×List D)}{lv EN:List (Nat×Nat×Nat×TypeId)}{n' n2:Nat}(h0:x.hp0.next≤n')(hn:n'≤n2)(hok:fV ⟨pz,lv,n'⟩)(hv:∀j ds,pz.lookup j=some ds→v6.lookup j=some ds)(hl:∀j y,lv.lookup j=some y→EN.lookup j=some y)(ht:qT n' tm tm'):Wk x tm ⟨v6,EN,n2⟩ tm' ⟨pz,lv,n'⟩:=
 Wk.look h0 hn ht (fun j ds h=>⟨(hok.var j ds h).1,ds,hv j ds h,ud _,(hok.var j ds h).2⟩) fun id y h=>⟨hok.tok id y h,hl id y h⟩
section
variable {md:Md} {dst:Option Tmp} {ty:TypeId} {pos:String} {af:Array Edge} {gd:Option (Nat×Bool)} {ev:Operand→D} {hp:Hp} {k s n:Nat} {x y:Operand}
theorem slT(h:s<n)(hx:ev x=.ow k 0 36 n:=by exact rfl)(hy:ev y=dI .i64 (s:Int):=by exact rfl):nT prog tbl md ⟨dst,.slice 22 x (some y) none none,ty,pos,af,gd⟩ ev hp (.ow k (s*36) 36 (n - s)) hp:=by
 have:=slW (P:=prog) (tb:=tbl) (md:=md) (dst:=dst) (ty2:=ty) (pos:=pos) (af:=af) (gd:=gd) (ev:=ev) (hp:=hp) (x:=x) (lo:=some y) (hi:=none) (l:=(s:Int)) (h:=(n:Int)) tok ⟨by omega,by omega,by omega,by omega⟩ aF aC ⟨.i64,hy⟩ rfl rfl hx rfl
 rw[show ((n:Int) - (s:Int)).toNat=n - s by omega,aJ,bB] at this
 exact this
theorem slHd(h:s≤n)(h0:0<n)(hx:ev x=.ow k 0 36 n:=by exact rfl)(hy:ev y=dI .i64 (s:Int):=by exact rfl):nT prog tbl md ⟨dst,.slice 22 x none (some y) none,ty,pos,af,gd⟩ ev hp (.ow k (0*36) 36 s) hp:=by
 have:=slW (P:=prog) (tb:=tbl) (md:=md) (dst:=dst) (ty2:=ty) (pos:=pos) (af:=af) (gd:=gd) (ev:=ev) (hp:=hp) (x:=x) (lo:=none) (hi:=some y) (l:=(0:Int)) (h:=(s:Int)) tok ⟨by omega,by omega,by omega,by omega⟩ aF aC rfl ⟨.i64,hy⟩ rfl hx rfl
 rw[show ((s:Int) - 0).toNat=s by omega,bB] at this
 exact this
end
section
variable {vs:List (Nat×List D)} {lv:List (Nat×Nat×Nat×TypeId)} {N n:Nat} {a:Nu}
theorem Rj(hn:n≤1000000):HC prog 77 [.e (slE a9 [a]),dI .i64 n] ⟨vs,lv,N⟩ (.ow (N+1) 0 36 n) ⟨(N+1,dC ((cW a9).f (List.replicate n a)))::vs,lv,N+1+1⟩:=by
 refine HC.of (rs:=[.tmp 4]) tok func77 rfl rfl (b7 rfl) rfl (fun cx hx h0 hok=>?_)
 simp only[fj,Nat.reduceAdd,bB]
 refine rs hx fun K hK=>?_
 refine s1 (d:=dO N a9 ([]:List Nu)) (eC aF aC) ?_
 refine nl hK ?_
 refine AW.seq (rs hx fun K hK=>?_)
 iterate 2 refine sa ?_
 refine nl hK ?_
 refine AW.condF rfl (def_) (AW.skip (rs hx fun K hK=>?_))
 iterate 5 refine sa ?_
 refine cq (KC (mul1 hn)) ?_
 iterate 5 refine sa ?_
 refine nl hK ?_
 refine AW.seq (rs hx fun K hK=>?_)
 iterate 3 refine sa ?_
 iterate 2 refine ga (show decide ((0:Int)<0)=false by decide) ?_
 refine s1 (aN (show decide ((0:Int)<0)=false by decide)) ?_
 refine nl hK ?_
 refine AW.condF rfl (def_) (AW.skip (rs hx fun K hK=>?_))
 iterate 2 refine sa ?_
 rw[tg (show -9223372036854775808≤(n:Int) by omega) (by omega)]
 refine q1 (sMk (c:=a9) (z0:=default) (v:=(n:Int)) tok ⟨by omega,by omega⟩ aF aC rfl) ?_
 rw[aJ]
 refine sa ?_
 refine nl hK ?_
 have Qt:w4 ⟨(N+1,dC ((cW a9).f (List.replicate n default)))::vs,(N,0,36,34)::lv,N+1+1⟩ (.e (slE a9 [a])) 36 1 ([a].flatMap a9.f):=w4.dat rfl (by simp[a9.h];rfl)
 refine rs hx fun K hK=>?_
 iterate 2 refine sa ?_
 refine q1 (sCpW (c:=a9) (l:=List.replicate n default) (s:=[a]) (m:=1) (n:=n) tok aF aC Qt rfl ak 0 (by simp) rfl) ?_
 refine sa ?_
 refine nl hK ?_
 have hc0:lCp (List.replicate n (default:Nu)) 0 ([a].take n)=yH a n (min 1 n):=by
  cases n with
  |zero=>rfl
  |succ n=>
   unfold lCp yH
   rw[show min 1 (n+1)=1 by omega]
   simp[List.replicate_succ]
 rw[hc0]
 have hokA:∀l:List Nu,fV ⟨(N+1,dC ((cW a9).f l))::vs,lv,N+1+1⟩:=fun l=>hok.cons (by omega) (cp _) (qF _)
 have hNlv:∀j y,lv.lookup j=some y→((N,0,36,34)::lv).lookup j=some y:=fun j y h=>(ay (by have:=hok.tok j y h;have h2:j<N:=this;omega)).trans h
 refine AW.seq (AW.block (AW.loopW (fun s:Nat=>[(7,.ow (N+1) 0 36 n),(8,dI .i64 s)]) (fun s=>⟨(N+1,dC ((cW a9).f (yH a n s)))::vs,lv,N+1+1⟩) (fun s=>s≤n∧(0<n→0<s)) (fun s=>n - s) (min 1 n) ?_ ⟨by omega,by omega⟩ ?_))
 ·exact wkS2 (by rw[h0];show N≤N+1+1;omega) (aD _) (hokA _) (fun j ds h=>by rw[Jg];exact h) hNlv (qT.cons (t:=7) (d:=.ow (N+1) 0 36 n) (qT.cons (t:=8) (d:=dI .i64 (min 1 n:Nat)) qT.nil rfl rfl) rfl (d6 (cp _)))
 ·rintro s ⟨hsn,hs0⟩
  refine AW.seq (rs hx fun K hK=>?_)
  iterate 4 refine sa ?_
  refine nl hK ?_
  refine AW.condS rfl (fun hb=>?_) (fun hb=>?_)
  ·have bG:s<n:=by have:=n8 hb;omega
   have hs1:0<s:=hs0 (by omega)
   refine AW.skip (AW.block (rqd [] hx fun K hK=>?_))
   iterate 3 refine sa ?_
   refine q1 (slT bG) ?_
   iterate 2 refine sa ?_
   refine q1 (slHd (by omega) (by omega)) ?_
   refine q1 (sCpW (c:=a9) (l:=yH a n s) (s:=((yH a n s).drop 0).take s) (m:=s) (n:=n - s) tok aF aC (w4.lst ak 0 (by rw[DL hsn];omega)) (by rw[e6,oa,DL hsn];omega) ak s (by rw[DL hsn];omega) rfl) ?_
   rw[cont_cp hsn]
   iterate 2 refine sa ?_
   refine nl hK ?_
   rw[show i64.wrap ((s:Int)+(min s (n - s):Nat))=((s+min s (n - s):Nat):Int) by rw[tg (by omega) (by omega)];omega]
   exact⟨s+min s (n - s),wkS (by rw[h0];show N≤N+1+1;omega) (aD _) (hokA _) (fun j ds h=>by rw[Jg];exact h) (qT.cons (t:=7) (d:=.ow (N+1) 0 36 n) (qT.cons (t:=8) (d:=dI .i64 (s+min s (n - s):Nat)) qT.nil rfl rfl) rfl (d6 (cp _))),⟨by omega,by omega⟩,by omega⟩
  ·refine AW.exit ?_
   have hsn2:s=n:=by have:=rO hb;omega
   subst hsn2
   have Is:yH a s s=List.replicate s a:=by unfold yH;simp
   rw[Is]
   refine rs hx fun K hK=>?_
   iterate 2 refine sa ?_
   refine nl hK ?_
   exact AW.ret (⟨[(4,.ow (N+1) 0 36 s)],wkS (by rw[h0];show N≤N+1+1;omega) (aD _) (hokA _) (fun j ds h=>h) (qT.cons (t:=4) (d:=.ow (N+1) 0 36 s) qT.nil rfl (d6 (cp _))),⟨_,ak,rfl⟩⟩)
end
end
theorem RO(l:List Nu):(cW a9).f l=(cW ae).f (l.map nv):=by
 show l.flatMap a9.f=(l.map nv).flatMap ae.f
 rw[al_1]
 rfl
theorem KK(l:List Nu):slE a9 l=slE ae (l.map nv):=by
 unfold slE
 have:=RO l
 rw[bW]
 show E.sl 36 l.length ((cW a9).f l)=E.sl 36 l.length ((cW ae).f (l.map nv))
 rw[this]
structure an where
 vR:Int
 vC:Int
 vV:List ai
 deriving Inhabited,DecidableEq
def aH:Cd an:=⟨3,fun x=>[.lit (.int .i64 x.vR),.lit (.int .i64 x.vC),slE ae x.vV],fun _=>rfl⟩
end
end Go.Proofs.YtgfcnncojhkcoaaGreat
