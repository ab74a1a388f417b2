/-
  Lemmas, part 5. Conditions: none.
-/
import Derived.Test.YtaedcknhkjpmlaaGreatA4
set_option linter.all false
set_option maxRecDepth 100000
namespace Go.Proofs.YtaedcknhkjpmlaaGreat
open Go.RowKit Go.IntKind
noncomputable section
theorem dg_cons {R d i:Nat}(hd:d<65536):dg 65536 (R*65536+d) (i+1)=dg 65536 R i:=by
 have e:(R*65536+d) / 65536=R:=by omega
 unfold dg
 rw[c8,cZ (65536 ^ i),←gV,e]
theorem G_at {n A k:Nat}(hA:A<65536 ^ n):iD (dk n A) (k:Int)=some ((dg 65536 A k:Nat):Int):=by
 unfold iD
 rw[cK _ _ (by omega),tR hA,ae]
theorem Qd {l:List Int}{k:Int}(h:k<0):iD l k=some 0:=by
 unfold iD
 rw[de _ _ h]
def xX(A:Nat)(m:Nat):Nat:=if m<2 then 0 else dg 65536 A (m - 2)
theorem J2 {A m:Nat}:xX A m<65536:=by
 unfold xX;split
 ·omega
 ·exact kJ
theorem G_at2 {n A m:Nat}(hA:A<65536 ^ n)(hm:0<m)(Oi:m<100000):iD (dk n A) (i64.wrap ((m:Int) - (2:Int)))=some ((xX A m:Nat):Int):=by
 unfold xX
 rw[cm (by omega)]
 by_cases h:m<2
 ·rw[if_pos h,Qd (by omega)];rfl
 ·rw[if_neg h,show (m:Int) - 2=((m - 2:Nat):Int) from by omega,G_at hA]
def Jl(x0 x1 x2:Nat):Nat:=x0*4294967296+x1*65536+x2
theorem LM {x0 x1 x2:Nat}(h0:x0<65536)(h1:x1<65536)(h2:x2<65536):i64.wrap ((i64.wrap ((i64.wrap ((x0:Int)*(4294967296:Int)))+(i64.wrap ((x1:Int)*(65536:Int)))))+(x2:Int))=((Jl x0 x1 x2:Nat):Int):=by
 unfold Jl
 rw[cm (z:=(x0:Int)*(4294967296:Int)) (by omega),cm (z:=(x1:Int)*(65536:Int)) (by omega),cm (z:=(x0:Int)*4294967296+(x1:Int)*65536) (by omega),cm (by omega)]
 omega
theorem est3_lt {x0 x1 x2:Nat}(h0:x0<65536)(h1:x1<65536)(h2:x2<65536):Jl x0 x1 x2<281474976710656:=by
 unfold Jl;omega
theorem quo_w {S T:Nat}(h:S<281474976710656):i64.wrap (Int.tdiv (S:Int) (T:Int))=((S / T:Nat):Int):=by
 have:=qU S T
 rw[←r8]
 generalize S / T=q at this ⊢
 rw[cm (by omega)]
theorem min_w {e:Nat}:min (65535:Int) (e:Int)=((min 65535 e:Nat):Int):=by omega
theorem est_ge {X B m:Nat}(hm:0<m)(hB:B<65536 ^ m)(OL:65536 ^ (m - 1)≤B)(hX:X<B*65536):
  X / B≤Jl (dg 65536 X m) (dg 65536 X (m - 1)) (xX X m) / (dg 65536 B (m - 1)*65536+xX B m):=by
 unfold Jl
 have FG:0<B:=d8 (b9 (by decide)) OL
 have hXm:X<65536 ^ (m+1):=by
  rw[c8];exact d8 hX (dx _ (mh hB))
 by_cases h:m<2
 ·obtain rfl:m=1:=by omega
  have eX:X=dg 65536 X 1*65536+dg 65536 X 0:=by
   have:=cP (b:=65536) (A:=X) (k:=0)
   rw[fZ,mN] at this
   have e2:=cP (b:=65536) (A:=X) (k:=1)
   rw[eM hXm,g5,bJ] at e2
   rw[←e2];exact this
  have eB:B=dg 65536 B 0:=by
   have:=cP (b:=65536) (A:=B) (k:=0)
   rw[fZ,mN,eM hB,g5,bJ] at this
   exact this
  unfold xX
  rw[if_pos (by omega),if_pos (by omega),mf,mf,show 1 - 1=0 from rfl,←eB]
  have:dg 65536 X 1*4294967296+dg 65536 X 0*65536=X*65536:=by omega
  rw[this,Nat.mul_div_mul_right _ _ (by decide)]
  exact aB _
 ·obtain⟨p,rfl⟩:∃p,m=p+2:=⟨m - 2,by omega⟩
  have hp:0<65536 ^ p:=b9 (by decide)
  have eX:X / 65536 ^ p=dg 65536 X (p+2)*4294967296+dg 65536 X (p+1)*65536+dg 65536 X p:=by
   have e0:=cP (b:=65536) (A:=X) (k:=p)
   have e1:=cP (b:=65536) (A:=X) (k:=p+1)
   have e2:=cP (b:=65536) (A:=X) (k:=p+2)
   rw[eM hXm,g5,bJ] at e2
   rw[e0,e1,show p+1+1=p+2 from rfl,e2,cp,fC]
  have eB:B / 65536 ^ p=dg 65536 B (p+1)*65536+dg 65536 B p:=by
   have e0:=cP (b:=65536) (A:=B) (k:=p)
   have e1:=cP (b:=65536) (A:=B) (k:=p+1)
   rw[eM hB,g5,bJ] at e1
   rw[e0,e1]
  unfold xX
  rw[if_neg h,if_neg h,show p+2 - 2=p from rfl,show p+2 - 1=p+1 from rfl,←eX,←eB]
  have hT:0<B / 65536 ^ p:=by
   refine Nat.div_pos (ez ?_ OL) hp
   exact ia (by decide) (by omega)
  rw[oX hT,oX hp,fC]
  refine ez (yl _ (Nat.div_mul_le_self _ _)) ?_
  rw[cZ]
  exact Nat.mul_div_le _ _
theorem G6 {X B d:Nat}(hB:0<B):X<B*d↔X / B<d:=by
 rw[lw hB,cZ]
theorem O2 {X B m:Nat}(hm:m<900)(hB:B<65536 ^ m)(FG:0<B)(hXs:sz6 X≤m+1)(d:Nat)(hd:X / B≤d)(B1:d≤65535):
  bS (iA (dk m B) (dl X)) ((d:Int),dl (B*d))=some (((X / B:Nat):Int),dl (B*(X / B))):=by
 obtain⟨x,hl,hx⟩:=tZ (b:=iA (dk m B) (dl X)) (fun s=>∃d:Nat,s=((d:Int),dl (B*d))∧X / B≤d∧d≤65535) (fun s=>s.1.toNat) (fun x=>x=(((X / B:Nat):Int),dl (B*(X / B))))
  (by
   rintro s ⟨d,rfl,h1,h2⟩
   have hBd:B*d<65536 ^ (m+1):=by
    rw[c8];exact Nat.mul_lt_mul_of_lt_of_le hB (by omega) (by decide)
   have hsz:=qq hBd
   dsimp only[iA]
   rw[G_dless (jG X) (jG (B*d)) (by omega) (by omega),ae]
   by_cases bX:X<B*d
   ·left
    have h3:=(G6 FG).1 bX
    have ws:0<d:=eV (cQ _) h3
    have h4:B≤B*d:=EH _ ws
    refine⟨_,by rw[de _ _ bX,Ia (jG (B*d)) hB (by omega) h4,ae,cm (by omega)],⟨d - 1,?_,by omega,by omega⟩,?_⟩
    ·rw[Nat.mul_sub,wD]
     congr 1
     omega
    ·show ((d:Int) - 1).toNat<((d:Nat):Int).toNat
     omega
   ·right
    have h3:=mt (G6 FG).2 bX
    obtain rfl:d=X / B:=by omega
    exact⟨_,by rw[cK _ _ bX],rfl⟩) ((d:Int),dl (B*d)) ⟨d,rfl,hd,B1⟩
 rw[hl,hx]
set_option maxRecDepth 10000 in
theorem Ib {A B:Nat}(hA:sz6 A<800)(hBs:sz6 B<800)(FG:0<B):iC (dl A) (dl B)=some (dl (A / B),dl (A % B)):=by
 obtain⟨m,hm⟩:∃m,m=sz6 B:=⟨_,rfl⟩
 obtain⟨n,hn⟩:∃n,n=sz6 A:=⟨_,rfl⟩
 have hB:=jG B
 have OL:=(xM B).2 (AU FG)
 have Dj:=AU FG
 have hAn:=jG A
 show iC (dk (sz6 A) A) (dk (sz6 B) B)=_
 rw[←hm] at hB OL Dj hBs ⊢
 rw[←hn] at hAn hA ⊢
 have c5:1≤dg 65536 B (m - 1):=by
  have:=cP (b:=65536) (A:=B) (k:=m - 1)
  rw[show m - 1+1=m from by omega,eM hB,g5,bJ] at this
  rw[←this]
  exact (oX (b9 (by decide))).2 (by rw[jZ];exact OL)
 have hbl:=@kJ B (m - 1)
 have Oj:=@J2 B m
 have em1:i64.wrap ((m:Int) - (1:Int))=((m - 1:Nat):Int):=by rw[cm (by omega)];omega
 have hm5:m<100000:=by omega
 have htop:((dg 65536 B (m - 1)*65536+xX B m:Nat):Int)≠0:=by omega
 have hl:=No (b:=iB (dk n A) (dk m B) ((dg 65536 B (m - 1)*65536+xX B m:Nat):Int)) (s0:=(([]:List Int),(n:Int) - 1,List.replicate n (0:Int))) (fun k=>(dl (A / 65536 ^ k % B),(k:Int) - 1,lF n (fun j=>if k≤j then dg 65536 (A / B) j else 0))) n (dl (A / 65536 ^ 0 % B),lF n (fun j=>if 0≤j then dg 65536 (A / B) j else 0))
  (by
   rw[eM hAn,Nat.zero_mod,dl_zero,Nx]
   congr 2
   exact tk fun j hj=>if_neg (by omega))
  (fun k hk=>by
   obtain⟨h1,h2⟩:=wX (b:=65536) (A:=A) (k:=k) (d:=B) (by decide) FG
   have hr:=eE (A / 65536 ^ (k+1)) FG
   have ha:=@kJ A k
   generalize A / 65536 ^ (k+1) % B=R at h1 h2 hr ⊢
   generalize A / 65536 ^ k % B=R' at h2 ⊢
   have hX:R*65536+dg 65536 A k<B*65536:=by
    have:(R+1)*65536≤B*65536:=dx _ hr
    omega
   have hRs:sz6 R≤m:=qq (by omega)
   have hXm:R*65536+dg 65536 A k<65536 ^ (m+1):=by
    rw[c8];exact d8 hX (dx _ (mh hB))
   have hXs:=qq hXm
   have hcons:[(dg 65536 A k:Int)]++dl R=dk (sz6 R+1) (R*65536+dg 65536 A k):=by
    unfold dl
    rw[lF_cons]
    exact tk fun j hj=>by
     by_cases hj0:j=0
     ·subst hj0
      rw[if_pos rfl]
      unfold dg
      rw[fZ,mN]
      have:=@kJ A k
      unfold dg at this
      omega
     ·rw[if_neg hj0]
      obtain⟨i,rfl⟩:∃i,j=i+1:=⟨j - 1,by omega⟩
      exact (dg_cons ha).symm
   have hXlt:R*65536+dg 65536 A k<65536 ^ (sz6 R+1):=by
    have:=jG R
    rw[c8]
    have h3:(R+1)*65536≤65536 ^ sz6 R*65536:=dx _ this
    rw[cp,jZ] at h3
    exact d8 (CI ha _) h3
   have hszR:sz6 R+1<1000:=by
    have:=eV hRs hBs
    exact d8 (Nat.succ_lt_succ this) (by decide)
   have ei:((k+1:Nat):Int) - 1=(k:Int):=by omega
   have Lx:=est_ge Dj hB OL hX
   have d1:=@kJ (R*65536+dg 65536 A k) m
   have d2:=@kJ (R*65536+dg 65536 A k) (m - 1)
   have d3:=@J2 (R*65536+dg 65536 A k) m
   have hqk:(R*65536+dg 65536 A k) / B<65536:=(lw FG).2 (by rw[cZ 65536 B];exact hX)
   dsimp only[iB]
   rw[ei,de _ _ (Int.natCast_nonneg k)]
   rw[c6,c6,c6]
   rw[aL (show (0:Int)≤(k:Int)∧(k:Int)<(n:Int) from⟨Int.natCast_nonneg k,Int.ofNat_lt.2 hk⟩)]
   rw[cl,cl]
   rw[pF hk,hcons,c6]
   rw[aL (show (sz6 R+1)*8≤140737488355328 from ez (dx _ (mh hszR)) (by decide))]
   rw[xt hXlt (Nat.lt_trans hszR (by decide)),ae,G_at (jG _),ae]
   rw[show i64.wrap ((m:Int) - (1:Int))=((m - 1:Nat):Int) from em1,G_at (jG _),ae,G_at2 (jG _) Dj hm5,ae,aL htop]
   obtain⟨X,hX2⟩:∃X,X=R*65536+dg 65536 A k:=⟨_,rfl⟩
   rw[←hX2] at h1 h2 hX hXm hXs hXlt Lx d1 d2 d3 hqk ⊢
   generalize dg 65536 X m=x0 at Lx d1 ⊢
   generalize dg 65536 X (m - 1)=x1 at Lx d2 ⊢
   generalize xX X m=x2 at Lx d3 ⊢
   have hS:=est3_lt d1 d2 d3
   rw[LM d1 d2 d3,quo_w hS]
   generalize Jl x0 x1 x2 / (dg 65536 B (m - 1)*65536+xX B m)=e at Lx ⊢
   have B5:X / B≤min 65535 e:=Nat.le_min.2 ⟨Nat.le_of_lt_succ hqk,Lx⟩
   have B1:min 65535 e≤65535:=Nat.min_le_left ..
   rw[min_w,ae]
   generalize min 65535 e=d at B5 B1 ⊢
   have e1:[(d:Int)]=dk 1 d:=by
    show _=lF 1 _
    unfold lF dg
    simp only[List.range_one,dJ,eD,fZ,mN]
    rw[gL (by omega)]
   have hmul:B*(X / B)≤X:=Nat.mul_div_le _ _
   have hms:sz6 (B*(X / B))≤m+1:=qq (by omega)
   rw[e1,Qb hB (by rw[Nat.pow_one];omega) (by omega) (by omega),ae,O2 (by omega) hB FG hXs d B5 B1,ae]
   dsimp only
   rw[aL (by omega),Ia (jG X) (jG _) (by omega) hmul,ae,cm (by omega),IL]
   have em:X - B*(X / B)=X % B:=by have:=lx X B;omega
   rw[em,h2,h1]
   have ef:lF n (fun j=>if j=k then dg 65536 (A / B) k else if k+1≤j then dg 65536 (A / B) j else 0)=lF n (fun j=>if k≤j then dg 65536 (A / B) j else 0):=tk fun j _=>by
    by_cases h:j=k
    ·rw[if_pos h,if_pos (by omega),h]
    ·rw[if_neg h]
     by_cases h3:k+1≤j
     ·rw[if_pos h3,if_pos (by omega)]
     ·rw[if_neg h3,if_neg (by omega)]
   rw[ef])
  (by
   dsimp only[iB]
   rw[cK _ _ (by omega)])
 have hq:A / B<65536 ^ n:=eV (qU _ _) hAn
 unfold iC
 rw[c6,c6,aL (by omega),show i64.wrap ((m:Int) - (1:Int))=((m - 1:Nat):Int) from by rw[cm (by omega)];omega,aL (by omega),G_at2 hB Dj (by omega),ae,cl,cl,pF (by omega),cm (z:=(dg 65536 B (m - 1):Int)*65536) (by omega),cm (by omega),ae,cm (by omega),ae,show (dg 65536 B (m - 1):Int)*65536+(xX B m:Int)=((dg 65536 B (m - 1)*65536+xX B m:Nat):Int) from by omega,hl,ae]
 dsimp only
 rw[c6,aL rfl,tk (n:=n) (f:=fun j=>if 0≤j then dg 65536 (A / B) j else 0) (g:=dg 65536 (A / B)) fun j _=>if_pos (cQ _),xt hq (by omega),ae,fZ,mN]
theorem LIM6:LIM=65536 ^ 32:=by decide +kernel
theorem Kr {A k:Nat}:dg 4294967296 A k=dg 65536 A (2*k+1)*65536+dg 65536 A (2*k):=by
 have e:(4294967296:Nat) ^ k=65536 ^ (2*k):=by rw[Nat.pow_mul]
 unfold dg
 rw[e,c8,←gV]
 omega
theorem Qc {x:av}{A:Nat}(hx:x.vW=W A)(hA:A<LIM):bM x=some (dl A):=by
 have hl:=qv (b:=jq x) (s0:=(([]:List Int),(0:Int))) (fun k=>(dk (2*k) A,(k:Int))) 16 (dk 32 A)
  (by rfl)
  (fun k hk=>by
   have hp:=Kr (A:=A) (k:=k)
   have h0:=@kJ A (2*k)
   have h1:=@kJ A (2*k+1)
   dsimp only[jq]
   rw[de _ _ (by omega),aL (by omega),aL (by omega),hx,cl,gO hk]
   have e1:i64.wrap (Int.tmod (dg 4294967296 A k:Int) (65536:Int))=(dg 65536 A (2*k):Int):=by
    rw[show (65536:Int)=((65536:Nat):Int) from rfl,←r7,cm (by omega)];omega
   have e2:i64.wrap (u32.wrap (Int.tdiv (dg 4294967296 A k:Int) (65536:Int)))=(dg 65536 A (2*k+1):Int):=by
    rw[show (65536:Int)=((65536:Nat):Int) from rfl,←r8,yM (by omega),cm (by omega)];omega
   rw[e1,e2,show dk (2*k) A++[(dg 65536 A (2*k):Int),(dg 65536 A (2*k+1):Int)]=(dk (2*k) A++[(dg 65536 A (2*k):Int)])++[(dg 65536 A (2*k+1):Int)] from by rw[dy];rfl,xY,xY,c6,aL (by omega),cm (by omega)]
   rfl)
  (by
   dsimp only[jq]
   rw[cK _ _ (by omega)])
 unfold bM
 rw[hl,ae,xt (by rw[←LIM6];exact hA) (by decide),ae]
theorem P5:fH=some HO:=by unfold fH;rw[r16];rfl
theorem Ni {n A:Nat}(hn:n≤32)(neg:Bool):
  bS (fX (dk n A)) ((0:Int),(⟨false,neg,W 0⟩:av))=some (⟨false,neg,W (A % 65536 ^ n)⟩:av):=by
 have hb:0<(4294967296:Nat):=by decide
 have hl:=qv (b:=fX (dk n A)) (s0:=((0:Int),(⟨false,neg,W 0⟩:av))) (fun k=>((k:Int),(⟨false,neg,W (A % 65536 ^ k)⟩:av))) n (⟨false,neg,W (A % 65536 ^ n)⟩:av)
  (by rw[fZ,mO];rfl)
  (fun k hk=>by
   have h0:=@kJ A k
   have bX:A % 65536 ^ k<65536 ^ k:=eE _ (b9 (by decide))
   have hdiv:i64.wrap (Int.tdiv (k:Int) (2:Int))=((k / 2:Nat):Int):=by
    rw[show (2:Int)=((2:Nat):Int) from rfl,←r8,cm (by omega)]
   have e1:=Kr (A:=A % 65536 ^ k) (k:=k / 2)
   have hu:=fun x:Nat=>Im (b:=4294967296) (A:=A % 65536 ^ k) (p:=k / 2) (x:=x)
   dsimp only[fX]
   rw[c6,de _ _ (by omega),hdiv,aL (by omega),aL (by omega),aL (by omega),ae,aL (by omega),aL (by omega),aL (by omega),ae,cl,cl,gO (by omega),pF hk,show (2:Int)=((2:Nat):Int) from rfl,←r7,yM (n:=dg 65536 A k) (by omega),gj]
   have rk:A % 65536 ^ (k+1)=A % 65536 ^ k+65536 ^ k*dg 65536 A k:=gY
   have hpow:(4294967296:Nat) ^ (k / 2)=65536 ^ (2*(k / 2)):=by rw[Nat.pow_mul]
   by_cases he:k % 2=0
   ·have zw:2*(k / 2)=k:=by omega
    have d0:dg 4294967296 (A % 65536 ^ k) (k / 2)=0:=by
     rw[e1,zw,lM bX,lM (d8 bX (ia (by decide) (by omega)))]
    rw[if_pos (by omega),ae,d0,←j5,yM (by omega),yK hb (by omega) (by omega),cm (by omega)]
    have:=hu (0+dg 65536 A k)
    rw[d0,hpow,zw] at this
    rw[g5,mf,bJ] at this
    rw[show up1 4294967296 (A % 65536 ^ k) (k / 2) (0+dg 65536 A k)=A % 65536 ^ (k+1) from by rw[rk,cZ (65536 ^ k),bJ];exact this]
    rfl
   ·have zw:2*(k / 2)+1=k:=by omega
    have d1:dg 4294967296 (A % 65536 ^ k) (k / 2)=dg 65536 A (2*(k / 2)):=by
     rw[e1,zw,lM bX,g5,bJ,nh (by omega)]
    have h2:=@kJ A (2*(k / 2))
    rw[if_neg (by omega),ae,d1,show ((dg 65536 A k:Nat):Int)*(65536:Int)=((dg 65536 A k*65536:Nat):Int) from by omega,yM (n:=dg 65536 A k*65536) (by omega),←j5,yM (by omega),yK hb (by omega) (by omega),cm (by omega)]
    have:=hu (dg 65536 A (2*(k / 2))+dg 65536 A k*65536)
    rw[d1,hpow,cp] at this
    have dA:65536 ^ (2*(k / 2))*65536=(65536:Nat) ^ k:=by rw[←c8];exact congrArg _ zw
    have e3:dg 65536 A k*65536*65536 ^ (2*(k / 2))=65536 ^ k*dg 65536 A k:=by
     rw[fC,cZ 65536,dA,cZ]
    rw[e3,Nat.add_left_comm,pT] at this
    have ui:=Nat.add_left_cancel this
    rw[show up1 4294967296 (A % 65536 ^ k) (k / 2) (dg 65536 A (2*(k / 2))+dg 65536 A k*65536)=A % 65536 ^ (k+1) from by rw[rk];exact ui]
    rfl)
  (by
   dsimp only[fX]
   rw[c6,cK _ _ (by omega)])
 exact hl
theorem C7 {n A:Nat}(hA:A<65536 ^ n)(hn:n<100000)(neg:Bool):cw neg (dk n A)=some (enc (bif neg then -(A:Int) else (A:Int))):=by
 have hiff:32<sz6 A↔¬A<LIM:=by
  rw[LIM6]
  constructor
  ·intro h h2
   have:=qq h2;omega
  ·intro h
   rcases gW 32 (sz6 A) with h1|h1
   ·exact h1
   ·exact absurd (d8 (jG A) (ia (by decide) h1)) h
 have Mm:(bif neg then -(A:Int) else (A:Int)).natAbs=A:=by cases neg <;> simp
 unfold cw
 rw[xt hA (by omega),ae,Jo,r16]
 by_cases h:32<sz6 A
 ·rw[de _ _ (by omega),P5,ae,Ck (by rw[Mm];exact hiff.1 h)]
 ·have hAL:A<LIM:=Decidable.byContradiction fun h2=>h (hiff.2 h2)
  have v7:decide ((0:Int)<((sz6 A:Nat):Int))= !decide (A=0):=by
   rw[←decide_not]
   refine kM.2 ?_
   constructor
   ·intro h3 h4;subst h4;rw[Bq] at h3;omega
   ·intro h3;have:=AU (xn h3);omega
  have NP:(cnd neg (bnd (some ((⟨false,decide ((0:Int)<((sz6 A:Nat):Int)),W 0⟩:av))) fun x7=>some (x7)) (some ((⟨false,false,W 0⟩:av))))=some (⟨false,neg&&!decide (A=0),W 0⟩:av):=by
   rw[ae,v7]
   cases neg <;> rfl
  rw[cK _ _ (by omega),NP,ae,Ni (by omega),ae,gL (jG A),OY hAL]
theorem zeroW {v:Vector Int 16}:(∀j:Nat,j<16→v[j]! =0)↔v=W 0:=by
 constructor
 ·intro h
  apply nO
  intro j hj
  rw[h j hj,gO hj]
  unfold dg;simp
 ·rintro rfl j hj
  rw[gO hj]
  unfold dg;simp
theorem ir(x:av):bD x=some (ej x):=by
 have hl:=qv (b:=jV x) (s0:=(true,(0:Int))) (fun k=>(decide (∀j:Nat,j<k→x.vW[j]! =0),(k:Int))) 16 (decide (∀j:Nat,j<16→x.vW[j]! =0))
  (by
   rw[aF (p:=∀j:Nat,j<0→x.vW[j]! =0) (fun j hj=>by omega)]
   rfl)
  (fun k hk=>by
   dsimp only[jV]
   rw[de _ _ (by omega),aL (by omega),cl,cnd_and,ae,cm (by omega),←Bool.decide_and]
   have:((∀j:Nat,j<k→x.vW[j]! =0)∧x.vW[k]! =0)↔∀j:Nat,j<k+1→x.vW[j]! =0:=by
    constructor
    ·rintro⟨h1,h2⟩ j hj
     by_cases h:j=k
     ·rw[h];exact h2
     ·exact h1 j (by omega)
    ·intro h
     exact⟨fun j hj=>h j (by omega),h k (by omega)⟩
   rw[kM.2 this]
   rfl)
  (by
   dsimp only[jV]
   rw[cK _ _ (by omega)])
 have hz:decide (∀j:Nat,j<16→x.vW[j]! =0)=decide (x.vW=W 0):=kM.2 zeroW
 unfold bD o5 ej
 rw[hl,ae,hz]
 cases x.vBad <;> cases decide (x.vW=W 0) <;> cases x.vNeg <;> rfl
theorem Kd {A:Nat}(hA:A<LIM)(h:∀j,2≤j→j<16→dg 4294967296 A j=0):A / 4294967296 ^ 2=0:=by
 have key:∀d,d≤14→A / 4294967296 ^ (16 - d)=0:=by
  intro d
  induction d with
  |zero=>intro _;exact eM hA
  |succ d ih=>
   intro hd
   have h1:=ih (by omega)
   have h2:=cP (b:=4294967296) (A:=A) (k:=16 - (d+1))
   rw[show 16 - (d+1)+1=16 - d from by omega,h1,g5,bJ,h _ (by omega) (by omega)] at h2
   exact h2
 exact key 14 (aB _)
structure mH(a:Int):Prop where
 h:a.natAbs<4611686018427387904
instance(a:Int):Decidable (mH a):=decidable_of_iff (a.natAbs<4611686018427387904) ⟨fun h=>⟨h⟩,fun h=>h.h⟩
theorem Mu {A:Nat}(hA:A<LIM):A<4611686018427387904↔dg 4294967296 A 1<1073741824∧∀j,2≤j→j<16→dg 4294967296 A j=0:=by
 constructor
 ·intro h
  refine⟨?_,fun j h1 _=>lM (d8 h ?_)⟩
  ·unfold dg;rw[Nat.pow_one];omega
  ·exact ez (by decide:4611686018427387904≤4294967296 ^ 2) (ia (by decide) h1)
 ·rintro⟨h1,h2⟩
  have h3:=Kd hA h2
  have h4:=cP (b:=4294967296) (A:=A) (k:=1)
  rw[show 1+1=2 from rfl,h3,g5,bJ,Nat.pow_one] at h4
  omega
theorem Gg {a:Int}(ha:a.natAbs<LIM):e6 (enc a)=some (if mH a then (a,true) else (0,false)):=by
 have hwi:=Mu ha
 obtain⟨x,hl,hx⟩:=tZ (b:=ms (enc a)) (fun s=>∃k:Nat,s=(k:Int)∧2≤k∧k≤16∧∀j,2≤j→j<k→dg 4294967296 a.natAbs j=0) (fun s=>16 - s.toNat) (fun x=>match x with| .inl r=>r=((0:Int),false)∧¬(∀j,2≤j→j<16→dg 4294967296 a.natAbs j=0)| .inr _=>∀j,2≤j→j<16→dg 4294967296 a.natAbs j=0)
  (by
   rintro s ⟨k,rfl,zw,hk,hz⟩
   dsimp only[ms]
   rw[lL ha]
   by_cases h16:k<16
   ·rw[de _ _ (by omega),aL (by omega),cl,gO h16]
    by_cases hd:dg 4294967296 a.natAbs k=0
    ·left
     refine⟨((k+1:Nat):Int),by rw[cK _ _ (by omega),cm (by omega)];rfl,⟨k+1,rfl,by omega,by omega,fun j h1 h2=>?_⟩,by omega⟩
     by_cases h:j=k
     ·rw[h];exact hd
     ·exact hz j h1 (by omega)
    ·right
     refine⟨(Sum.inl ((0:Int),false):(Int×Bool)⊕Unit),by rw[de _ _ (by omega)],rfl,fun h=>hd (h k zw h16)⟩
   ·right
    refine⟨(Sum.inr ():(Int×Bool)⊕Unit),by rw[cK _ _ (by omega)],?_⟩
    obtain rfl:k=16:=by omega
    exact hz) (2:Int) ⟨2,rfl,by omega,by omega,fun j h1 h2=>by omega⟩
 have e1:(W a.natAbs)[((1:Int)).toNat]! =(dg 4294967296 a.natAbs 1:Int):=gO (by decide)
 have e0:(W a.natAbs)[((0:Int)).toNat]! =(dg 4294967296 a.natAbs 0:Int):=gO (by decide)
 have d0:=@dgl a.natAbs 0
 unfold e6
 rw[ir,bz ha,ae,c7,aX,ae,lL ha,e1,e0,jE ha]
 by_cases h1:dg 4294967296 a.natAbs 1<1073741824
 ·rw[cK _ _ (by omega),hl,ae]
  cases x with
  |inl r=>
   obtain⟨rfl,h2⟩:=hx
   have:¬mH a:=fun h=>h2 (hwi.1 h.h).2
   rw[if_neg this]
  |inr u=>
   have h2:mH a:=⟨hwi.2 ⟨h1,hx⟩⟩
   have h3:=Kd ha hx
   have h4:=cP (b:=4294967296) (A:=a.natAbs) (k:=1)
   rw[show 1+1=2 from rfl,h3,g5,bJ,Nat.pow_one] at h4
   have h5:dg 4294967296 a.natAbs 0=a.natAbs % 4294967296:=by unfold dg;rw[fZ,mN]
   have h6:(dg 4294967296 a.natAbs 1:Int)*4294967296+(dg 4294967296 a.natAbs 0:Int)=(a.natAbs:Int):=by omega
   have h7:=h2.h
   dsimp only
   rw[cm (z:=(dg 4294967296 a.natAbs 1:Int)) (by omega),cm (z:=(dg 4294967296 a.natAbs 1:Int)*4294967296) (by omega),cm (z:=(dg 4294967296 a.natAbs 0:Int)) (by omega),h6,cm (z:=(a.natAbs:Int)) (by omega),ae,gj,if_pos h2]
   by_cases hn:a<0
   ·rw[if_pos hn,cm (by omega),show (0:Int) - (a.natAbs:Int)=a from by omega]
   ·rw[if_neg hn,show (a.natAbs:Int)=a from by omega]
 ·have:¬mH a:=fun h=>h1 (hwi.1 h.h).1
  rw[de _ _ (by omega),if_neg this]
theorem dk4 {N:Nat}:dk 4 N=[(dg 65536 N 0:Int),(dg 65536 N 1:Int),(dg 65536 N 2:Int),(dg 65536 N 3:Int)]:=rfl
theorem of4 {N:Nat}(hN:N<9223372036854775808):[Int.tmod (N:Int) (65536:Int),Int.tmod (i64.wrap (Int.tdiv (N:Int) (65536:Int))) (65536:Int),Int.tmod (i64.wrap (Int.tdiv (N:Int) (4294967296:Int))) (65536:Int),i64.wrap (Int.tdiv (N:Int) (281474976710656:Int))]=dk 4 N:=by
 have e1:i64.wrap (Int.tdiv (N:Int) (65536:Int))=((N / 65536:Nat):Int):=by
  rw[show (65536:Int)=((65536:Nat):Int) from rfl,←r8,cm (by omega)]
 have e2:i64.wrap (Int.tdiv (N:Int) (4294967296:Int))=((N / 4294967296:Nat):Int):=by
  rw[show (4294967296:Int)=((4294967296:Nat):Int) from rfl,←r8,cm (by omega)]
 have e3:i64.wrap (Int.tdiv (N:Int) (281474976710656:Int))=((N / 281474976710656:Nat):Int):=by
  rw[show (281474976710656:Int)=((281474976710656:Nat):Int) from rfl,←r8,cm (by omega)]
 rw[e1,e2,e3,dk4,show (65536:Int)=((65536:Nat):Int) from rfl,←r7,←r7,←r7]
 have d0:dg 65536 N 0=N % 65536:=by unfold dg;rw[fZ,mN]
 have d1:dg 65536 N 1=N / 65536 % 65536:=by unfold dg;rw[Nat.pow_one]
 have d2:dg 65536 N 2=N / 4294967296 % 65536:=rfl
 have d3:dg 65536 N 3=N / 281474976710656:=by
  have:dg 65536 N 3=N / 281474976710656 % 65536:=rfl
  rw[this];omega
 rw[d0,d1,d2,d3]
theorem Nb:[(1:Int)]=dk 1 1:=rfl
theorem vQ {n:Int}(h1:-9223372036854775808≤n)(h2:n≤9223372036854775807):gU n=some (enc n):=by
 unfold gU
 by_cases hn:0≤n
 ·obtain⟨N,rfl⟩:∃N:Nat,n=(N:Int):=⟨n.toNat,by omega⟩
  have hN4:N<65536 ^ 4:=d8 (show N<9223372036854775808 by omega) (by decide)
  rw[de _ _ hn,of4 (by omega),C7 hN4 (by decide),ae]
  rfl
 ·obtain⟨M,hM⟩:∃M:Nat,-(n+1)=(M:Int):=⟨(-(n+1)).toNat,by omega⟩
  have hM4:M<65536 ^ 4:=d8 (show M<9223372036854775808 by omega) (by decide)
  have e:i64.wrap (0 - (i64.wrap (n+(1:Int))))=(M:Int):=by
   rw[cm (z:=n+1) (by omega),cm (by omega)];omega
  rw[cK _ _ hn,e,ae,of4 (by omega),Nb,KK hM4 (by decide) (by decide) (by decide),ae,C7 (A:=M+1) (jG _) (eV (qq (A:=M+1) (n:=5) (eV (show M+1≤65536 ^ 4 from hM4) (by decide))) (by decide)),ae]
  congr 2
  simp only[j4]
  omega
theorem s9 {A:Nat}(h:A<LIM):sz6 A≤32:=qq (by rw[←LIM6];exact h)
theorem sz_add {A B:Nat}(hA:A<LIM)(hB:B<LIM):sz6 (A+B)≤33:=qq (by
 have h1:A+B<2*LIM:=by omega
 have h2:2*LIM≤65536 ^ 33:=by rw[LIM6,c8,cZ];exact yl _ (by decide)
 exact d8 h1 h2)
theorem ES {A:Nat}(h:sz6 A≤1000)(neg:Bool):cw neg (dl A)=some (enc (bif neg then -(A:Int) else (A:Int))):=
 C7 (jG A) (eV h (by decide)) neg
theorem mC {a:Int}(ha:a.natAbs<LIM):bM (enc a)=some (dl a.natAbs):=Qc (lL ha) ha
theorem P6 {a:Int}(ha:a.natAbs<LIM):po (enc a)=some (enc (a.natAbs:Int)):=by
 unfold po
 rw[ir,bz ha,ae,c7,aX,mC ha,ae,ES (ez (s9 ha) (by decide)),ae]
 rfl
theorem P4 {a:Int}(ha:a.natAbs<LIM):pm (enc a)=some (enc (-a)):=by
 unfold pm
 rw[ir,bz ha,ae,c7,aX,mC ha,ae,jE ha,ES (ez (s9 ha) (by decide)),ae]
 congr 2
 by_cases h:a<0
 ·simp only[h,qT,c7,cond_false];omega
 ·simp only[h,qS,qR,j4];omega
theorem ER {a:Int}(ha:a.natAbs<LIM):kG (enc a)=some a.sign:=by
 unfold kG
 rw[ir,bz ha,ae,c7,aX,mC ha,ae,ae,jE ha]
 have hz:((dl a.natAbs).length:Int)=0↔a=0:=by
  rw[show ((dl a.natAbs).length:Int)=0↔(dl a.natAbs).length=0 from by omega,Jn];omega
 rcases zP a 0 with h|h|h
 ·rw[cK _ _ (by rw[hz];omega),de _ _ h,CH h]
 ·subst h;rw[de _ _ (hz.2 rfl)];rfl
 ·rw[cK _ _ (by rw[hz];omega),cK _ _ (by omega),va h]
theorem fast2(p q:Prop)[Decidable p][Decidable q](a c:Int):(cnd (if p then (a,true) else (0,false):Int×Bool).2 (some (if q then (c,true) else (0,false):Int×Bool).2) (some false))=some (decide (p∧q)):=by
 by_cases hp:p <;> by_cases hq:q <;> simp[hp,hq,cnd]
theorem good2r(x y:av):(bnd (S:=Bool) (bnd (bD x) fun jA=>cnd (!jA) (some (true)) (bnd (bD y) fun mX=>some (!mX))) fun b=>some b)=some (!(ej x&&ej y)):=by
 rw[ir,ir,ae,ae]
 cases ej x <;> cases ej y <;> rfl
theorem G_floor {n m:Int}(Dj:m≠0)(hn:n.natAbs<4611686018427387904):mR n m=some (n.fdiv m):=by
 obtain⟨h1,h2,h3⟩:=yP (x:=n) Dj
 have hq:=GQ (x:=n) (y:=m) (by omega)
 have hnq:(n.tdiv m).natAbs≤n.natAbs:=by rw[Int.natAbs_tdiv];exact qU _ _
 have qa:(cnd (decide ((Int.tmod n m)≠(0:Int))) (some (!((decide (n<(0:Int))) == (decide (m<(0:Int)))))) (some (false)))=some (decide (n.fdiv m≠n.tdiv m)):=by
  rw[←h1,gj,gj]
  by_cases h:n.tmod m≠0
  ·rw[if_pos h,if_pos h]
   congr 3
   refine kM.2 ?_
   constructor
   ·intro v7
    have:=Int.tmod_nonneg m (show 0≤-n by omega)
    rw[Int.neg_tmod] at this
    omega
   ·intro v7
    by_cases h4:n<0
    ·exact h4
    ·have:=Int.tmod_nonneg m (show 0≤n by omega)
     omega
  ·rw[if_neg h,if_neg h]
 unfold mR
 rw[aL Dj,aL Dj,qa,ae,gj]
 by_cases h:n.fdiv m=n.tdiv m
 ·rw[if_neg (fun hh=>hh h),ae,cm (by omega),h]
 ·rw[if_pos h,cm (z:=n.tdiv m) (by omega),cm (by omega),ae,ae,(h2 h).1]
theorem MZ {a c:Int}(h0:c≠0):(bif (!(decide (a<0) == decide (c<0))) then -((a.natAbs / c.natAbs+(if a.natAbs % c.natAbs=0 then 0 else 1):Nat):Int) else ((a.natAbs / c.natAbs:Nat):Int))=a.fdiv c:=by
 have hr:=eE a.natAbs (show 0<c.natAbs by omega)
 have hdm:=lx a.natAbs c.natAbs
 have I3:(c.natAbs:Int)*((a.natAbs / c.natAbs:Nat):Int)+((a.natAbs % c.natAbs:Nat):Int)=(a.natAbs:Int):=by rw[←mT,←j5,hdm]
 generalize a.natAbs / c.natAbs=Q at I3 ⊢
 generalize a.natAbs % c.natAbs=R at I3 hr ⊢
 have hmul:∀z:Int,z*c=(if c<0 then -1 else 1)*((c.natAbs:Int)*z):=by
  intro z
  split
  ·have e:c=-(c.natAbs:Int):=by omega
   conv=>lhs;rw[e]
   rw[Int.mul_neg,Int.neg_mul,Int.one_mul,kL]
  ·have e:c=(c.natAbs:Int):=by omega
   conv=>lhs;rw[e]
   rw[Int.one_mul,kL]
 by_cases hs:decide (a<0)=decide (c<0)
 ·have Lq:=kM.1 hs
  rw[hs,CF,c7,cond_false]
  exact (my (x:=a) h0 (Q:Int) (if c<0 then -(R:Int) else (R:Int)) (by rw[hmul];split <;> omega) (by split <;> omega)).1
 ·have Lq:¬((a<0)↔(c<0)):=fun h=>hs (kM.2 h)
  have hb:(decide (a<0) == decide (c<0))=false:=HX.2 hs
  rw[hb,qR,j4]
  by_cases hR:R=0
  ·rw[if_pos hR]
   refine (my (x:=a) h0 _ 0 ?_ (by omega)).1
   rw[hmul,Int.mul_neg,mf]
   split <;> omega
  ·rw[if_neg hR]
   refine (my (x:=a) h0 _ (if c<0 then -((c.natAbs:Int) - (R:Int)) else (c.natAbs:Int) - (R:Int)) ?_ (by split <;> omega)).1
   rw[hmul,Int.mul_neg,j5,Int.mul_add]
   split <;> omega
theorem dig1(A:Nat):decide (((dl A).length:Int)=0)=decide (A=0):=by
 refine kM.2 ?_
 rw[show ((dl A).length:Int)=0↔(dl A).length=0 from by omega,Jn]
theorem dig2(A:Nat):decide ((0:Int)<((dl A).length:Int))=decide (A≠0):=by
 refine kM.2 ?_
 have:=@Jn A
 omega
theorem good3r {x:av}{c:Int}(_hx:okI x)(hc:c.natAbs<LIM):(bnd (S:=Bool) (bnd (bD x) fun mX=>cnd (!mX) (some (true)) (bnd (bD (enc c)) fun sT=>cnd (!sT) (some (true)) (bnd (bM (enc c)) fun rf=>some (decide (((rf).length:Int)=(0:Int)))))) fun b=>some b)=some (!(ej x&&decide (c≠0))):=by
 rw[ir,ir,mC hc,ae,ae,ae,bz hc,dig1,tB]
 have:decide (c≠0)= !decide (c.natAbs=0):=by
  rw[←decide_not];exact kM.2 (by omega)
 rw[this]
 cases ej x <;> cases decide (c.natAbs=0) <;> rfl
theorem fastq(a c:Int):(cnd (if mH a then (a,true) else (0,false):Int×Bool).2 (cnd (if mH c then (c,true) else (0,false):Int×Bool).2 (some (decide ((if mH c then (c,true) else (0,false):Int×Bool).1≠(0:Int)))) (some (false))) (some (false)))=some (decide (mH a∧mH c∧c≠0)):=by
 by_cases hp:mH a <;> by_cases hq:mH c <;> simp[hp,hq,cnd]
theorem H8 {a c:Int}(ha:a.natAbs<LIM)(hc:c.natAbs<LIM)(h0:c≠0):kg (enc a) (enc c)=some (enc (a.fdiv c)):=by
 unfold kg
 rw[Gg ha,Gg hc,ae,ae,fastq,ae,gj]
 by_cases hw:mH a∧mH c∧c≠0
 ·have hq:a.fdiv c=a.tdiv c∨a.fdiv c=a.tdiv c - 1:=by
   obtain⟨_,h2,_⟩:=yP (x:=a) h0
   by_cases h:a.fdiv c=a.tdiv c
   ·exact .inl h
   ·exact .inr (h2 h).1
  have h1:=hw.1.h
  have hnq:(a.tdiv c).natAbs≤a.natAbs:=by rw[Int.natAbs_tdiv];exact qU _ _
  rw[if_pos hw,if_pos hw.1,if_pos hw.2.1]
  dsimp only
  rw[G_floor h0 hw.1.h,ae,vQ (by omega) (by omega),ae]
 ·have hg:=good3r (A0 a) hc
  rw[tB] at hg
  have hq:a.natAbs / c.natAbs<LIM:=eV (qU _ _) ha
  have hdl:decide ((0:Int)<((dl (a.natAbs % c.natAbs)).length:Int))=decide (a.natAbs % c.natAbs≠0):=dig2 _
  rw[if_neg hw,hg,bz ha,aF h0,ae,bB,c7,aX,mC ha,ae,mC hc,ae,Ib (eV (s9 ha) (by decide)) (eV (s9 hc) (by decide)) (by omega),ae,jE ha,jE hc]
  dsimp only
  rw[Nb,KK (jG _) (by decide) (eV (s9 hq) (by decide)) (by decide),ae,hdl,←MZ h0]
  have hs1:sz6 (a.natAbs / c.natAbs+1)≤1000:=ez (sz_add hq (by decide)) (by decide)
  have Mg:sz6 (a.natAbs / c.natAbs)≤1000:=ez (s9 hq) (by decide)
  cases hsg:(!(decide (a<0) == decide (c<0))) with
  |false=>
   rw[aX,ae,aX,ae,ES Mg,ae]
   rfl
  |true=>
   rw[gz,ae,gj]
   by_cases hR:a.natAbs % c.natAbs=0
   ·rw[if_neg (fun h=>h hR),ae,ES Mg,ae,if_pos hR,mf]
   ·rw[if_pos hR,ae,ES hs1,ae,if_neg hR]
    rfl
theorem OQ(n m:Int):∃r:Int,bS i8 (n,m)=some r∧r.natAbs=Nat.gcd n.natAbs m.natAbs:=by
 induction hk:m.natAbs using Nat.strongRecOn generalizing n m with
 |_ k ih=>
  subst hk
  by_cases hm:m=0
  ·subst hm
   refine⟨n,nl (by dsimp only[i8];rw[cK _ _ (fun h=>h rfl)]),?_⟩
   rw[Int.natAbs_zero,Nat.gcd_zero_right]
  ·have h1:i8 (n,m)=some (.inl (m,n.tmod m)):=by
    dsimp only[i8]
    rw[de _ _ hm,aL hm]
   have e:=Int.natAbs_tmod n m
   obtain⟨r,h2,h3⟩:=ih (n.tmod m).natAbs (by rw[e];exact eE _ (by omega)) m (n.tmod m) rfl
   exact⟨r,(oM h1).trans h2,by rw[h3,e,←ye]⟩
theorem OR(x y:Nat)(hx:sz6 x<800)(hy:sz6 y<800):bS i7 (dl x,dl y)=some (dl (Nat.gcd x y)):=by
 induction y using Nat.strongRecOn generalizing x with
 |_ y ih=>
  by_cases h0:y=0
  ·subst h0
   rw[Nat.gcd_zero_right]
   refine nl ?_
   dsimp only[i7]
   rw[dig2,cK _ _ (fun h=>h rfl)]
  ·have h1:i7 (dl x,dl y)=some (.inl (dl y,dl (x % y))):=by
    dsimp only[i7]
    rw[dig2,de _ _ h0,Ib hx hy (by omega),ae]
   have bX:=eE x (show 0<y by omega)
   have hs:sz6 (x % y)<800:=eV (qq (Nat.lt_trans bX (jG y))) hy
   rw[oM h1,ih (x % y) bX y hy hs,←ye]
theorem H9 {a c:Int}(ha:a.natAbs<LIM)(hc:c.natAbs<LIM):ma (enc a) (enc c)=some (enc (Nat.gcd a.natAbs c.natAbs:Nat)):=by
 have Kf:Nat.gcd a.natAbs c.natAbs<LIM:=by
  rcases qO a.natAbs with h|h
  ·rw[h,Nat.gcd_zero_left];exact hc
  ·exact eV (Nat.gcd_le_left _ h) ha
 unfold ma
 rw[Gg ha,Gg hc,ae,ae,fast2,ae,gj]
 by_cases hw:mH a∧mH c
 ·have h1:=hw.1.h
  have h2:=hw.2.h
  rw[if_pos hw,if_pos hw.1,if_pos hw.2]
  dsimp only
  obtain⟨r,h3,h4⟩:=OQ a c
  have hr:r.natAbs<4611686018427387904:=by
   rw[h4]
   rcases qO a.natAbs with h|h
   ·rw[h,Nat.gcd_zero_left];exact h2
   ·exact eV (Nat.gcd_le_left _ h) h1
  rw[h3,ae,vQ (by omega) (by omega),ae,P6 (by rw[h4];exact Kf),ae,h4]
 ·have hg:=good2r (enc a) (enc c)
  rw[tB] at hg
  rw[if_neg hw,hg,bz ha,bz hc,ae,bB,c7,aX,mC ha,ae,mC hc,ae,OR _ _ (eV (s9 ha) (by decide)) (eV (s9 hc) (by decide)),ae,ES (ez (s9 Kf) (by decide)),ae]
  rfl
theorem R_one:l8=some (enc 1):=by
 unfold l8
 rw[vQ (by decide) (by decide),ae]
theorem R_Good {x:aq}(hx:okR x):fq x=some (dT x).isSome:=by
 rw[←iJ hx]
 obtain⟨n,d⟩:=x
 obtain⟨h1,h2⟩:=hx
 dsimp only at h1 h2
 unfold fq bn
 dsimp only
 rw[ir,ir,o7,o7,ae,ae,ae,ae]
 cases Ag:ej n with
 |false=>rfl
 |true=>
  cases DO:ej d with
  |false=>rfl
  |true=>
   obtain⟨n,hn,rfl⟩:=yc h1 Ag
   obtain⟨d,hd,rfl⟩:=yc h2 DO
   rw[ER hd,vl hd,H9 hn hd,KO hn hd,R_one,KJ]
   rfl
theorem PV {n d:Int}(hn:n.natAbs<LIM)(hd:d.natAbs<LIM)(h0:d≠0):gh (enc n) (enc d)=some (kZ (Rat.divInt n d)):=by
 obtain⟨Ag,DO⟩:=FJ (n:=n) h0 hd
 obtain⟨e1,e2⟩:=G4 (n:=n) h0
 have Kf:(((Nat.gcd n.natAbs d.natAbs:Nat):Int)).natAbs<LIM:=by simpa using Ag
 unfold gh
 rw[ir,ir,ae,ae,bz hn,bz hd,c7,aX,aX,ER hd,ae,ae,cK _ _ (by rw[zM];exact h0),H9 hn hd,ae,ae,P4 Kf,ae]
 have NP:(cnd (decide (d.sign<(0:Int))) (some (enc (-((Nat.gcd n.natAbs d.natAbs:Nat):Int)))) (some (enc ((Nat.gcd n.natAbs d.natAbs:Nat):Int))))=some (enc (bif decide (d<0) then -((Nat.gcd n.natAbs d.natAbs:Nat):Int) else ((Nat.gcd n.natAbs d.natAbs:Nat):Int))):=by
  by_cases h:d<0
  ·rw[de _ _ (by rw[Int.sign_neg_iff];exact h),aF h];rfl
  ·rw[cK _ _ (by rw[Int.sign_neg_iff];exact h),bH h];rfl
 have Dg:((bif decide (d<0) then -((Nat.gcd n.natAbs d.natAbs:Nat):Int) else ((Nat.gcd n.natAbs d.natAbs:Nat):Int))).natAbs<LIM∧(bif decide (d<0) then -((Nat.gcd n.natAbs d.natAbs:Nat):Int) else ((Nat.gcd n.natAbs d.natAbs:Nat):Int))≠0:=by
  cases decide (d<0)
  ·simp only[cond_false];omega
  ·simp only[j4];omega
 rw[NP,ae,H8 hn Dg.1 Dg.2,ae,H8 hd Dg.1 Dg.2,ae,e1,e2]
 rfl
theorem R_Of {n:Int}(h1:-9223372036854775808≤n)(h2:n≤9223372036854775807):oR n=some (kZ (n:Rat)):=by
 have hL:n.natAbs<LIM:=d8 (show n.natAbs<18446744073709551616 by omega) (by decide)
 unfold oR
 rw[vQ h1 h2,ae,R_one,ae,PV hL (by decide) (by decide),ae,Cm]
def r5(a c:Int):Int:=if a<c then -1 else if c<a then 1 else 0
theorem G_Rem {a c:Int}(ha:a.natAbs<LIM)(hc:c.natAbs<LIM)(h0:c≠0):nr (enc a) (enc c)=some (enc (a.fmod c)):=by
 unfold nr
 rw[ET ha hc h0,ae]
theorem G_Cmp {a c:Int}(ha:a.natAbs<LIM)(hc:c.natAbs<LIM):pi (enc a) (enc c)=some (r5 a c):=by
 unfold pi
 rw[tQ,tQ,ae,ae,bz ha,bz hc]
 simp only[c7,aX,ae,jE ha,jE hc,lL ha,lL hc]
 rw[Bf ha hc,Bf hc ha,ae,ae]
 unfold r5 Fe
 by_cases h1:a<0 <;> by_cases h2:c<0 <;> simp only[h1,h2,qT,qS,CF,c7,Bool.true_beq,Bool.false_beq,qR,gz,aX]
 ·by_cases h3:a<c
  ·rw[if_pos h3,if_pos (by omega)]
  ·rw[if_neg h3,if_neg (by omega)]
   by_cases h4:c<a
   ·rw[if_pos h4,if_pos (by omega)]
   ·rw[if_neg h4,if_neg (by omega)]
 ·rw[if_pos (by omega)]
 ·rw[if_neg (by omega),if_pos (by omega)]
 ·by_cases h3:a<c
  ·rw[if_pos h3,if_pos (by omega)]
  ·rw[if_neg h3,if_neg (by omega)]
   by_cases h4:c<a
   ·rw[if_pos h4,if_pos (by omega)]
   ·rw[if_neg h4,if_neg (by omega)]
def AO(n1 d1 n2 d2:Int):Int:=r5 (n1*d2) (n2*d1)
theorem Cs {n1 d1 n2 d2:Int}(h1:0<d1)(h2:0<d2)(h:n1.fdiv d1<n2.fdiv d2):n1*d2<n2*d1:=by
 have e1:d1*n1.fdiv d1+n1.fmod d1=n1:=CD n1 d1
 have e2:d2*n2.fdiv d2+n2.fmod d2=n2:=CD n2 d2
 have r1:=xl n1 h1
 have r2:=u9 n2 h2
 generalize n1.fdiv d1=f1 at*
 generalize n2.fdiv d2=f2 at*
 generalize n1.fmod d1=m1 at*
 generalize n2.fmod d2=m2 at*
 have h3:d1*(f1+1)≤d1*f2:=Int.mul_le_mul_of_nonneg_left (by omega) (by omega)
 rw[Int.mul_add,Int.mul_one] at h3
 have h4:n1+1≤d1*f2:=by omega
 have h5:(n1+1)*d2≤d1*f2*d2:=FY h4 (by omega)
 have h6:d2*f2*d1≤n2*d1:=FY (by omega) (by omega)
 have h7:d1*f2*d2=d2*f2*d1:=by rw[kL d1,kL d2,Int.mul_assoc,Int.mul_assoc,kL d1]
 rw[Int.add_mul,Int.one_mul] at h5
 omega
theorem EC {a c:Int}:r5 a c=(a - c).sign:=by
 unfold r5
 rcases zP a c with h|h|h
 ·rw[if_pos h,CH (by omega)]
 ·subst h;rw[if_neg (by omega),if_neg (by omega),Int.sub_self];rfl
 ·rw[if_neg (by omega),if_pos h,va (by omega)]
theorem Ph {n1 d1 n2 d2:Int}(h1:0<d1)(h2:0<d2):(r5 (n1.fdiv d1) (n2.fdiv d2)≠0→AO n1 d1 n2 d2=r5 (n1.fdiv d1) (n2.fdiv d2))∧
  (r5 (n1.fdiv d1) (n2.fdiv d2)=0→((n1.fmod d1).sign=0∨(n2.fmod d2).sign=0→AO n1 d1 n2 d2=(n1.fmod d1).sign - (n2.fmod d2).sign)∧(¬((n1.fmod d1).sign=0∨(n2.fmod d2).sign=0)→0<n1.fmod d1∧n1.fmod d1<d1∧0<n2.fmod d2∧AO n1 d1 n2 d2=- AO d1 (n1.fmod d1) d2 (n2.fmod d2))):=by
 have r1:=u9 n1 h1
 have r2:=u9 n2 h2
 have e1:d1*n1.fdiv d1+n1.fmod d1=n1:=CD n1 d1
 have e2:d2*n2.fdiv d2+n2.fmod d2=n2:=CD n2 d2
 constructor
 ·intro h
  rcases zP (n1.fdiv d1) (n2.fdiv d2) with h3|h3|h3
  ·have:=Cs h1 h2 h3
   unfold AO r5
   rw[if_pos this,if_pos h3]
  ·exfalso;apply h;unfold r5;rw[if_neg (by omega),if_neg (by omega)]
  ·have:=Cs h2 h1 h3
   unfold AO r5
   rw[if_neg (by omega),if_pos this,if_neg (by omega),if_pos h3]
 ·intro h
  have h3:n1.fdiv d1=n2.fdiv d2:=by
   unfold r5 at h
   split at h
   ·cases h
   ·split at h
    ·cases h
    ·omega
  rw[h3] at e1
  have key:n1*d2 - n2*d1=n1.fmod d1*d2 - n2.fmod d2*d1:=by
   have a1:n1*d2=d1*n2.fdiv d2*d2+n1.fmod d1*d2:=by rw[←Int.add_mul,e1]
   have a2:n2*d1=d2*n2.fdiv d2*d1+n2.fmod d2*d1:=by rw[←Int.add_mul,e2]
   have:d1*n2.fdiv d2*d2=d2*n2.fdiv d2*d1:=by rw[kL d1,kL d2,Int.mul_assoc,Int.mul_assoc,kL d1]
   rw[a1,a2,this]
   omega
  have hs:AO n1 d1 n2 d2=(n1.fmod d1*d2 - n2.fmod d2*d1).sign:=by unfold AO;rw[EC,key]
  have p1:=xl n1 h1
  generalize n1.fmod d1=m1 at*
  generalize n2.fmod d2=m2 at*
  constructor
  ·intro h4
   rw[hs]
   have G2:∀{x y:Int},0<y→(x*y).sign=x.sign:=fun {x y} hy=>by rw[Int.sign_mul,va hy,Int.mul_one]
   rcases h4 with h4|h4
   ·have:m1=0:=zM.1 h4
    subst this
    rw[h4,Int.zero_mul,Int.zero_sub,Int.zero_sub,Int.sign_neg,G2 h1]
   ·have:m2=0:=zM.1 h4
    subst this
    rw[h4,Int.zero_mul,Int.sub_zero,Int.sub_zero,G2 h2]
  ·intro h4
   have h5:m1≠0:=fun h=>h4 (.inl (by rw[h];rfl))
   have h6:m2≠0:=fun h=>h4 (.inr (by rw[h];rfl))
   refine⟨by omega,by omega,by omega,?_⟩
   rw[hs]
   unfold AO
   rw[EC,←Int.sign_neg]
   congr 1
   rw[Int.neg_sub,kL d2,kL d1]
theorem Pi(a c:Int):r5 a c=-1∨r5 a c=0∨r5 a c=1:=by
 unfold r5
 split
 ·exact .inl rfl
 ·split
  ·exact .inr (.inr rfl)
  ·exact .inr (.inl rfl)
theorem JO(a:Int):a.sign=-1∨a.sign=0∨a.sign=1:=by
 rcases zP a 0 with h|h|h
 ·exact .inl (CH h)
 ·subst h;exact .inr (.inl rfl)
 ·exact .inr (.inr (va h))
theorem M1 {n1 d1:Int}(h1:0<d1)(l1:n1.natAbs<LIM)(l2:d1.natAbs<LIM):(n1.fdiv d1).natAbs<LIM∧(n1.fmod d1).natAbs<LIM:=by
  have e:=CD n1 d1
  have r1:=u9 n1 h1
  have r2:=xl n1 h1
  have hq:-(n1.natAbs:Int)≤n1.fdiv d1∧n1.fdiv d1≤n1.natAbs:=by
   rw[Int.fdiv_eq_ediv_of_nonneg _ (Int.le_of_lt h1)]
   constructor
   ·exact (Int.le_ediv_iff_mul_le h1).2 (by have:-(n1.natAbs:Int)*d1≤-(n1.natAbs:Int)*1:=Int.mul_le_mul_of_nonpos_left (by omega) (by omega);omega)
   ·have:n1 / d1<n1.natAbs+1:=Int.ediv_lt_of_lt_mul h1 (by have:((n1.natAbs:Int)+1)*1≤((n1.natAbs:Int)+1)*d1:=Int.mul_le_mul_of_nonneg_left (by omega) (by omega);omega)
    omega
  omega
theorem Qg(k:Nat):∀{n1 d1 n2 d2 out:Int},d1.natAbs≤k→0<d1→0<d2→n1.natAbs<LIM→d1.natAbs<LIM→n2.natAbs<LIM→d2.natAbs<LIM→(out=1∨out=-1)→
  bS i9 (out,(⟨enc n1,enc d1⟩:aq),(⟨enc n2,enc d2⟩:aq))=some (out*AO n1 d1 n2 d2):=by
 induction k with
 |zero=>intro n1 d1 n2 d2 out h h1;omega
 |succ k ih=>
  intro n1 d1 n2 d2 out hk h1 h2 l1 l2 l3 l4 ho
  obtain⟨ca,cb⟩:=Ph (n1:=n1) (n2:=n2) h1 h2
  have q1:=M1 h1 l1 l2
  have q2:=M1 h2 l3 l4
  have iL:∀r,i9 (out,(⟨enc n1,enc d1⟩:aq),(⟨enc n2,enc d2⟩:aq))=r↔(cnd (decide (r5 (n1.fdiv d1) (n2.fdiv d2)≠(0:Int))) (some (.inr (i64.wrap (out*r5 (n1.fdiv d1) (n2.fdiv d2))))) (cnd (decide ((n1.fmod d1).sign=0∨(n2.fmod d2).sign=0)) (some (.inr (i64.wrap (out*(i64.wrap ((n1.fmod d1).sign - (n2.fmod d2).sign)))))) (some (.inl (i64.wrap (0 - out),(⟨enc d1,enc (n1.fmod d1)⟩:aq),(⟨enc d2,enc (n2.fmod d2)⟩:aq))))))=r:=by
   intro r
   dsimp only[i9]
   rw[EU l1 l2 (by omega),ae,EU l3 l4 (by omega),ae,G_Cmp q1.1 q2.1,ae,G_Rem l1 l2 (by omega),ae,G_Rem l3 l4 (by omega),ae,vl q1.2,ae,vl q2.2,ae,Pg,ae,ae,←Bool.decide_or]
  have rc:=Pi (n1.fdiv d1) (n2.fdiv d2)
  have rs1:=JO (n1.fmod d1)
  have rs2:=JO (n2.fmod d2)
  by_cases hc:r5 (n1.fdiv d1) (n2.fdiv d2)≠0
  ·refine nl ((iL _).2 ?_)
   rw[de _ _ hc,ca hc,cm]
   rcases ho with rfl|rfl <;> omega
  ·have hc0:r5 (n1.fdiv d1) (n2.fdiv d2)=0:=Decidable.byContradiction hc
   obtain⟨cc,cd⟩:=cb hc0
   by_cases hz:(n1.fmod d1).sign=0∨(n2.fmod d2).sign=0
   ·refine nl ((iL _).2 ?_)
    rw[cK _ _ hc,de _ _ hz,cc hz,cm (z:=(n1.fmod d1).sign - (n2.fmod d2).sign) (by omega),cm]
    rcases ho with rfl|rfl <;> omega
   ·obtain⟨g1,g2,g3,g4⟩:=cd hz
    refine (oM ((iL _).2 ?_)).trans ((ih (n1:=d1) (d1:=n1.fmod d1) (n2:=d2) (d2:=n2.fmod d2) (out:=0 - out) (by omega) g1 g3 l2 q1.2 l4 q2.2 (by omega)).trans ?_)
    ·rw[cK _ _ hc,cK _ _ hz,cm (by omega)]
    ·rw[g4,Int.zero_sub,Int.neg_mul,Int.mul_neg]
def ocmp(a b:Option Rat):Int:=match a,b with
 |none,none=>0
 |none,some _=>-1
 |some _,none=>1
 |some p,some q=>if p<q then -1 else if q<p then 1 else 0
theorem Pj(p q:Rat):AO p.num p.den q.num q.den=if p<q then -1 else if q<p then 1 else 0:=by
 unfold AO r5
 simp only[Rat.lt_iff]
theorem P9 {x y:aq}(hx:okR x)(hy:okR y):js x y=some (ocmp (dT x) (dT y)):=by
 unfold js
 rw[iJ hx,iJ hy,ae,ae]
 cases h1:dT x with
 |none=>
  cases h2:dT y with
  |none=>rfl
  |some q=>rfl
 |some p=>
  cases h2:dT y with
  |none=>rfl
  |some q=>
   obtain⟨hp,rfl⟩:=eG.1 h1
   obtain⟨hq,rfl⟩:=eG.1 h2
   have e:=Qg p.den (n1:=p.num) (d1:=(p.den:Int)) (n2:=q.num) (d2:=(q.den:Int)) (out:=1) (by omega) (by have:=p.den_pos;omega) (by have:=q.den_pos;omega) hp.1 (jF hp) hq.1 (jF hq) (.inl rfl)
   simp only[zL,c7,aX,ae]
   show (bnd (bS i9 ((1:Int),kZ p,kZ q)) fun tL=>some tL)=_
   unfold kZ
   rw[e,ae,Int.one_mul,Pj]
   rfl
theorem OZ {x:aq}{q:Rat}(h:dT x=some q):x=kZ q:=(eG.1 h).2
def Nu:={x:aq // okR x}
instance:DecidableEq Nu:=inferInstanceAs (DecidableEq {x:aq // okR x})
theorem okR0:okR (default:aq):=by
 have h:∀j:Nat,j<16→(default:av).vW[j]! =0:=by
  intro j hj
  show (cy)[j]! =0
  rw[cz (cy) j hj,Vector.getElem_replicate]
 exact⟨fun j hj=>by show 0≤(default:av).vW[j]!∧(default:av).vW[j]! <4294967296;rw[h j hj];omega,fun j hj=>by show 0≤(default:av).vW[j]!∧(default:av).vW[j]! <4294967296;rw[h j hj];omega⟩
instance:Inhabited Nu:=⟨⟨default,okR0⟩⟩
def nuR(o:Option Rat):Nu:=⟨zD o,th o⟩
def decW(v:Vector Int 16):Nat:=gG 4294967296 (fun j=>(v[j]!).toNat) 16
def DX(x:av):Int:=if x.vNeg then -(decW x.vW:Int) else decW x.vW
theorem decW_W {A:Nat}(h:A<LIM):decW (W A)=A:=by
 refine O5 (b:=4294967296) (n:=16) ?_ h fun j hj=>?_
 ·exact AS (by decide) _ fun j hj=>by
   rw[gO hj]
   have:=@dgl A j
   omega
 ·unfold decW
  rw[FR (by decide) 16 (fun i hi=>by
   rw[gO hi]
   have:=@dgl A i
   omega) j hj,gO hj]
  omega
theorem HE {z:Int}(h:z.natAbs<LIM):DX (enc z)=z:=by
 rw[qE h]
 unfold DX
 dsimp only
 rw[decW_W h]
 by_cases hz:z<0
 ·rw[if_pos (aF hz)];omega
 ·rw[if_neg (by simpa using hz)];omega
def wP(x:aq):Option Rat:=if nf (Rat.divInt (DX x.vN) (DX x.vD))∧kZ (Rat.divInt (DX x.vN) (DX x.vD))=x then some (Rat.divInt (DX x.vN) (DX x.vD)) else none
theorem rx:wP=dT:=by
 funext x
 unfold wP
 cases h:dT x with
 |none=>exact if_neg fun hh=>yI.1 h _ hh.1 hh.2.symm
 |some q=>
  obtain⟨h1,h2⟩:=eG.1 h
  have hn:DX x.vN=q.num:=by rw[h2];exact HE h1.1
  have hd:DX x.vD=(q.den:Int):=by rw[h2];exact HE (jF h1)
  rw[hn,hd,show Rat.divInt q.num q.den=q from by rw[Rat.divInt_ofNat];exact Rat.mkRat_self q,if_pos ⟨h1,h2.symm⟩]
def od(x y:Nu):Nu:=nuR (IA (wP x.1) (wP y.1))
def pd(x y:Nu):Nu:=nuR (AC (wP x.1) (wP y.1))
def Fg(x y:Nu):Nu:=nuR (osub (wP x.1) (wP y.1))
def ri(x y:Nu):Nu:=nuR (GY (wP x.1) (wP y.1))
def gX(x:Nu):Nu:=nuR (Ld (wP x.1))
def nOf(n:Int):Nu:=nuR (some (n:Rat))
def dv(x:Nu):Int:=osgn (wP x.1)
def aK(x:Nu):Bool:=(wP x.1).isSome
def pD(x y:Nu):Int:=ocmp (wP x.1) (wP y.1)
theorem uK(x y:Nu):od x y=nuR (IA (dT x.1) (dT y.1)):=by unfold od;rw[rx]
theorem sk(x y:Nu):pd x y=nuR (AC (dT x.1) (dT y.1)):=by unfold pd;rw[rx]
theorem Nm(x y:Nu):Fg x y=nuR (osub (dT x.1) (dT y.1)):=by unfold Fg;rw[rx]
theorem G1(x y:Nu):ri x y=nuR (GY (dT x.1) (dT y.1)):=by unfold ri;rw[rx]
theorem xU(x:Nu):gX x=nuR (Ld (dT x.1)):=by unfold gX;rw[rx]
theorem zc(x:Nu):dv x=osgn (dT x.1):=by unfold dv;rw[rx]
theorem eO(x:Nu):aK x=(dT x.1).isSome:=by unfold aK;rw[rx]
theorem BI(x y:Nu):pD x y=ocmp (dT x.1) (dT y.1):=by unfold pD;rw[rx]
section
section
variable {B:Nat} {hp:Hp} {g:Gh} {w w':World}
def Hp.re(hp:Hp)(k:Nat)(ds:List D):Hp:=⟨(hp.next,ds)::hp.vars.filter fun p=>!([k]:List Nat).contains p.1,hp.live,hp.next+1⟩
theorem xP {k:Nat}{ds a:List D}{j:Nat}(h:(hp.re k ds).vars.lookup j=some a):(j=hp.next∧a=ds)∨(j≠hp.next∧j≠k∧hp.vars.lookup j=some a):=by
 by_cases hj:j=hp.next
 ·subst hj
  have:some ds=some a:=by rw[←h];exact aa.symm
  injection this with this
  exact .inl ⟨rfl,this.symm⟩
 ·have h1:(hp.vars.filter fun p=>!([k]:List Nat).contains p.1).lookup j=some a:=by rw[←h];exact (ar hj).symm
  obtain⟨h2,h3⟩:=je h1
  exact .inr ⟨hj,by simpa using h2,h3⟩
theorem c9.re(hr:HR B hp g w){k b:Nat}{rI:List D}(hk:hp.vars.lookup k=some rI)(ds:List D)(hs:w.heap.size≤w'.heap.size)(ho:∀c,c<w.heap.size→c≠g.μ k→w'.heap[c]? =w.heap[c]?)(hz:SzB w w' (g.μ k))(hb:b=g.μ k∨w.heap.size≤b):
  c9 hp g w (hp.re k ds) (g.var hp.next b) w':=by
 have bX:=hr.var_lt hk
 obtain⟨h1,h2,h3,_⟩:=hr.var k rI hk
 refine⟨hs,fun p ka hf=>World.cell?_of_block (ho _ ka fun e=>hf (h3 p e)),fun p hpb hf=>?_,jt _,fun j hj=>?_,fun _ _ m _ hm=>⟨m,hm,aB _,fun _=>rfl⟩,fun c hc hf=>⟨ho _ hc fun e=>hf.1 k rI hk e.symm,fun _ _ h=>.inl h,fun j a hj=>?_,hf.2⟩,fun c=>?_⟩
 ·rcases hf with hf|hf
  ·exact hf
  ·rcases hb with hb|hb
   ·exact h3 p (by rw[hf,hb])
   ·omega
 ·show (if j=hp.next then _ else _)=_
  rw[if_neg (by omega)]
 ·rcases xP hj with⟨rfl,_⟩|⟨ge,_,h⟩
  ·show (if _ then _ else _)≠_
   rw[if_pos rfl]
   rcases hb with hb|hb
   ·rw[hb];exact hf.1 k rI hk
   ·omega
  ·show (if _ then _ else _)≠_
   rw[if_neg ge]
   exact hf.1 j a h
 ·by_cases hc:c=g.μ k
  ·subst hc;exact hz
  ·exact .same fun h=>ho c h hc
theorem HR.re(hr:HR B hp g w){k b:Nat}{rI:List D}(hk:hp.vars.lookup k=some rI)(ds:List D)(hs:w.heap.size≤w'.heap.size)(ho:∀c,c<w.heap.size→c≠g.μ k→w'.heap[c]? =w.heap[c]?)(hz:SzB w w' (g.μ k))(hb:b=g.μ k∨w.heap.size≤b)
  (cs:Array Value) (ty:TypeId) (hn:w'.heap[b]? =some (.cells cs ty (0,0))) (hl:ds.length≤cs.size) (hc:∀(j:Nat) (u:Value),cs[j]? =some u→(j<ds.length→u.oneCell'=true)∧∀d,ds[j]? =some d→aO hp g w d u):HR B (hp.re k ds) (g.var hp.next b) w':=by
 have m:=c9.re hr hk ds hs ho hz hb
 have hkl:=hr.var_lt hk
 obtain⟨hk1,zw,hk3,_⟩:=hr.var k rI hk
 have hbl:b<w'.heap.size:=(n8.1 hn).1
 have Gl:(g.var hp.next b).μ hp.next=b:=if_pos rfl
 have hμ:∀j,j<hp.next→(g.var hp.next b).μ j=g.μ j:=m.μ
 have hdiff:∀{j:Nat} {a:List D},j≠k→hp.vars.lookup j=some a→g.μ j≠g.μ k:=fun hj h e=>hj (hr.inj _ _ _ _ h hk e)
 have Di:∀{j:Nat} {a:List D},j≠k→hp.vars.lookup j=some a→g.μ j≠b:=fun hj h e=>by
  rcases hb with hb|hb
  ·exact hdiff hj h (by rw[e,hb])
  ·have:=hr.var_lt h;omega
 refine⟨fun j a hj=>?_,fun j j' a a' hj FE he=>?_,fun id n e hi=>?_,fun id zt t t' c hi wr he Et=>hr.tinj id zt t t' c hi wr he Et,ez hr.base hs,fun p hf=>?_⟩
 ·rcases xP hj with⟨rfl,rfl⟩|⟨ge,hjk,h0⟩
  ·rw[Gl]
   refine⟨eT _,?_,fun p hp'=>.inr hp',cs,ty,hn,hl,fun i u hu=>⟨(hc i u hu).1,fun d hd=>((hc i u hu).2 d hd).mono m⟩⟩
   rcases hb with hb|hb
   ·rw[hb];exact zw
   ·exact ez hr.base hb
  ·have bX:=hr.var_lt h0
   obtain⟨h1,h2,h3,uZ,If,h4,h5,h6⟩:=hr.var j a h0
   rw[hμ j h1]
   exact⟨wE h1,h2,fun p hp'=>.inl (h3 p hp'),uZ,If,(ho _ bX (hdiff hjk h0)).trans h4,h5,fun i u hu=>⟨(h6 i u hu).1,fun d hd=>((h6 i u hu).2 d hd).mono m⟩⟩
 ·rcases xP hj with⟨h1,_⟩|⟨h1,hjk,h0⟩ <;> rcases xP FE with⟨h2,_⟩|⟨h2,hjk',Gs⟩
  ·omega
  ·rw[h1,Gl,hμ j' (hr.var j' a' Gs).1] at he
   exact absurd he.symm (Di hjk' Gs)
  ·rw[h2,Gl,hμ j (hr.var j a h0).1] at he
   exact absurd he (Di hjk h0)
  ·rw[hμ j (hr.var j a h0).1,hμ j' (hr.var j' a' Gs).1] at he
   exact hr.inj j j' a a' h0 Gs he
 ·obtain⟨h1,us,hz',h2,h3⟩:=hr.tok id n e hi
  refine⟨wE h1,us,hz',⟨h2.1,?_⟩,fun c B7=>⟨fun p h4 h5=>.inl ((h3 c B7).1 p h4 h5),fun j a hj=>?_⟩⟩
  ·rcases h2.2 with h0|⟨c,cap,cur,hv,hB,hh,r⟩
   ·exact .inl h0
   ·exact .inr ⟨c,cap,cur,hv,hB,(ho c (n8.1 hh).1 fun e=>(h3 c (by rw[hv];rfl)).2 k rI hk e.symm).trans hh,r⟩
  ·rcases xP hj with⟨rfl,_⟩|⟨ge,_,h0⟩
   ·rw[Gl]
    rcases hb with hb|hb
    ·rw[hb];exact (h3 c B7).2 k rI hk
    ·have:=(h2.lt c B7).2;omega
   ·rw[hμ j (hr.var j a h0).1]
    exact (h3 c B7).2 j a h0
 ·rcases hf with hf|hf
  ·exact d8 (hr.fits p hf) hs
  ·rw[hf];exact hbl
theorem c9.addVar(hp:Hp)(g:Gh)(ds:List D){b:Nat}(hs:w.heap.size≤w'.heap.size)(hb:∀c,c<w.heap.size→w'.heap[c]? =w.heap[c]?)(t4:w.heap.size≤b):c9 hp g w (hp.var ds) (g.var hp.next b) w':=by
 refine⟨hs,fun p ka _=>World.cell?_of_block (hb _ ka),fun p hpb hf=>?_,jt _,fun k hk=>?_,fun _ _ m _ hm=>⟨m,hm,aB _,fun _=>rfl⟩,fun c hc hf=>⟨hb _ hc,fun _ _ h=>.inl h,fun k ds' hk=>?_,hf.2⟩,fun c=>.same (hb c)⟩
 ·rcases hf with hf|hf
  ·exact hf
  ·omega
 ·show (if k=hp.next then _ else _)=_
  rw[if_neg (by omega)]
 ·show (if k=hp.next then _ else _)≠_
  by_cases w8:k=hp.next
  ·rw[if_pos w8];omega
  ·rw[if_neg w8]
   exact hf.1 k ds' (by rw[←hk];exact (ar w8).symm)
theorem HR.addVar(hr:HR B hp g w)(ds:List D){b:Nat}(hs:w.heap.size≤w'.heap.size)(hb:∀c,c<w.heap.size→w'.heap[c]? =w.heap[c]?)(t4:w.heap.size≤b)(cs:Array Value)(ty:TypeId)(hn:w'.heap[b]? =some (.cells cs ty (0,0)))(hl:ds.length≤cs.size)
  (hc:∀(j:Nat) (u:Value),cs[j]? =some u→(j<ds.length→u.oneCell'=true)∧∀d,ds[j]? =some d→aO (hp.var ds) (g.var hp.next b) w' d u):HR B (hp.var ds) (g.var hp.next b) w':=by
 have m:=c9.addVar hp g ds hs hb t4
 have hμ:∀k,k<hp.next→(g.var hp.next b).μ k=g.μ k:=m.μ
 have Gl:(g.var hp.next b).μ hp.next=b:=if_pos rfl
 have hbl:b<w'.heap.size:=(n8.1 hn).1
 have look:∀{j:Nat} {a:List D},(hp.var ds).vars.lookup j=some a→(j=hp.next∧a=ds)∨(j≠hp.next∧hp.vars.lookup j=some a):=by
  intro j a hj
  by_cases zx:j=hp.next
  ·subst zx
   have:some ds=some a:=by rw[←hj];exact aa.symm
   injection this with this
   exact .inl ⟨rfl,this.symm⟩
  ·exact .inr ⟨zx,by rw[←hj];exact (ar zx).symm⟩
 refine⟨fun j a hj=>?_,fun j j' a a' hj FE he=>?_,fun id n e hi=>?_,fun id zt t t' c hi wr he Et=>hr.tinj id zt t t' c hi wr he Et,ez hr.base hs,fun p hf=>?_⟩
 ·rcases look hj with⟨rfl,rfl⟩|⟨ge,h0⟩
  ·rw[Gl]
   exact⟨eT _,ez hr.base t4,fun p hp'=>.inr hp',cs,ty,hn,hl,hc⟩
  ·have bX:=hr.var_lt h0
   obtain⟨h1,h2,h3,uZ,If,h4,h5,h6⟩:=hr.var j a h0
   rw[hμ j h1]
   exact⟨wE h1,h2,fun p hp'=>.inl (h3 p hp'),uZ,If,(hb _ bX).trans h4,h5,fun i u hu=>⟨(h6 i u hu).1,fun d hd=>((h6 i u hu).2 d hd).mono m⟩⟩
 ·rcases look hj with⟨h1,_⟩|⟨h1,h0⟩ <;> rcases look FE with⟨h2,_⟩|⟨h2,Gs⟩
  ·omega
  ·rw[h1,Gl,hμ j' (hr.var j' a' Gs).1] at he
   have:=hr.var_lt Gs;omega
  ·rw[h2,Gl,hμ j (hr.var j a h0).1] at he
   have:=hr.var_lt h0;omega
  ·rw[hμ j (hr.var j a h0).1,hμ j' (hr.var j' a' Gs).1] at he
   exact hr.inj j j' a a' h0 Gs he
 ·obtain⟨h1,us,hz',h2,h3⟩:=hr.tok id n e hi
  refine⟨wE h1,us,hz',⟨h2.1,?_⟩,fun c B7=>⟨fun p h4 h5=>.inl ((h3 c B7).1 p h4 h5),fun j a hj=>?_⟩⟩
  ·rcases h2.2 with h0|⟨c,cap,cur,hv,hB,hh,r⟩
   ·exact .inl h0
   ·exact .inr ⟨c,cap,cur,hv,hB,(hb c (n8.1 hh).1).trans hh,r⟩
  ·rcases look hj with⟨rfl,_⟩|⟨ge,h0⟩
   ·rw[Gl]
    have:=(h2.lt c B7).2;omega
   ·rw[hμ j (hr.var j a h0).1]
    exact (h3 c B7).2 j a h0
 ·rcases hf with hf|hf
  ·exact d8 (hr.fits p hf) hs
  ·rw[hf];exact hbl
end
end
section
def D.toOw:D→D
 | .gw k z n=>.ow k 0 z n
 |d=>d
section
variable {P:Program} {tb:TypeId→Option TyE} {md:Md} {B:Nat} {hp hp':Hp} {g:Gh} {w w':World} {d:D} {v:Value}
theorem aO.toOw(h:aO hp g w d v):aO hp g w d.toOw v:=by
 cases h with
 |gw k z n c hk h1 h2 hs=>exact .ow k 0 z n c hk h1 h2
 |e x v h=>exact .e x v h
 |own id z n xs v h hid ht=>exact .own id z n xs v h hid ht
 |fu z n xs A h=>exact .fu z n xs A h
 |ag ds cs hl h1 hr=>exact .ag ds cs hl h1 hr
 |tu ds cs hl hr=>exact .tu ds cs hl hr
 |fp xs off ad hb hc=>exact .fp xs off ad hb hc
 |pt k off hk=>exact .pt k off hk
 |ow k off z n c hk h1 h2=>exact .ow k off z n c hk h1 h2
 |fn f ks hk=>exact .fn f ks hk
 |opt b d v hi h=>exact .opt b d v hi h
 |top v=>exact .top v
theorem JJ {k off:Nat}(d:D):d.toOw.un=.pt k off↔d.un=.pt k off:=by cases d <;> simp[D.toOw,D.un]
theorem qi.toOw {o:Oper}{ev:Operand→D}(h:qi P o (fun x=>(ev x).toOw) hp d hp'):qi P o ev hp d hp':=
 fun B g w a Kn Q hr hx hk=>h B g w a Kn Q hr (fun x wn=>(hx x wn).toOw) hk
theorem mB.toOw {o:Oper}{ev:Operand→D}(h:mB P tb md o (fun x=>(ev x).toOw) hp d hp'):mB P tb md o ev hp d hp':=
 ⟨h.ok.toOw,fun h1=>⟨(h.quiet h1).1,fun dA h3=>((h.quiet h1).2 dA fun hl x hx j off e=>h3 hl x hx j off ((JJ _).1 e)).toOw⟩,h.fr,fun hl x hx j off e=>h.lk hl x hx j off ((JJ _).2 e)⟩
variable {ops:Array Oper} {K:List (Nat×D)→Hp→Prop} {os:List Oper} {tm:List (Nat×D)} {t:Tmp} {dst:Option Tmp} {op:Op} {ty:TypeId} {pos:String} {af:Array Edge} {gd:Option (Nat×Bool)}
theorem stG(tok:TOk P tb)(h:AVC P tb md.dr op ty (fun x=>(evD tm x).toOw) hp (Kq d hp'))(h2:ce P tb md ops K os (yZ dst d tm) hp')(hn:md.nc tb op=true:=by exact rfl):ce P tb md ops K (⟨dst,op,ty,pos,af,none⟩::os) tm hp:=
 K1 rfl (((AVC.snd (o:=⟨dst,op,ty,pos,af,none⟩) tok h).q hn).toOw) h2
theorem litR(tok:TOk P tb){ev:Operand→D}{tt e:TypeId}{ti j:TyE}{x:Operand}{cs:List D}(ht:tb tt=some ti)(he:tb e=some j)(hx:(ev x).cells=some cs)(hl:cs.length=j.size)(xZ:ti.ty=.slice e:=by exact rfl)(hz:Nat.ble 1 j.size=true:=by exact rfl)(hsm:Nat.ble j.size 16777216=true:=by exact rfl)(href:IH tb (.buildSlice tt 1 #[(0,x)])=true:=by exact rfl)(pz:md.nc tb (.buildSlice tt 1 #[(0,x)])=true:=by exact rfl):
  mB P tb md ⟨dst,.buildSlice tt 1 #[(0,x)],ty,pos,af,gd⟩ ev hp (.gw hp.next j.size 1) (hp.var cs):=by
 have hz:=dq hz
 have hsm:=dq hsm
 have hu:=tok.slice ht xZ
 refine⟨.step fun B g w a hr wn=>?_,fun hq=>?_,fun _=>⟨jt _,fun j hj=>ar (by omega)⟩,fun h=>by cases h⟩
 rotate_left
 ·exfalso
  cases md with
  |seq=>cases hq
  |any L=>
   have h1:((oL (.buildSlice tt 1 #[(0,x)])&&!IH tb (.buildSlice tt 1 #[(0,x)]))||n4 tb L (.buildSlice tt 1 #[(0,x)]))=true:=hq
   rw[href] at h1
   simp[oL,n4] at h1
 have dc:=wn x (by simp[Op.operands])
 have p9:=dc.cells hx
 have sU:(a.eval x).cells.size=j.size:=by rw[←iN,←p9.1.1,hl]
 obtain⟨zv,hzv,Eo⟩:=tok.run_zero he w
 obtain⟨_,_,hzl,IN⟩:=tok e j he
 have hs:=tok.run_sizeOf he w
 have Ah:Instr.fill (fun i=>some (i*j.size,j.size)) ((Array.range (1*j.size)).map (zv.cells[·% zv.cells.size]!)) [(0,a.eval x)]=some (a.eval x).cells:=by
  have h0:f5 (fun i=>some (i*j.size,j.size)) ((Array.range (1*j.size)).map (zv.cells[·% zv.cells.size]!)).toList ([(0,a.eval x)].map fun p=>(p.1,p.2.cells.toList))=some (a.eval x).cells.toList:=by
   have Ig:((Array.range (1*j.size)).map (zv.cells[·% zv.cells.size]!)).toList.length=j.size:=by simp
   simp only[dJ,eD,f5,g5,bJ,iN]
   rw[if_neg (by rw[sU,Array.size_map,Array.size_range];omega)]
   rw[CA,mU,Ar (by rw[Ig];omega),rM]
  have:=Ba h0
  simpa using this
 have co:(Instr.buildSlice tt 1 #[(0,a.eval x)]).run P w=.ok (.slice (some ⟨w.heap.size,0,none⟩) 1 1) (w.alloc (.cells (a.eval x).cells e)):=by
  have hsm2:¬1*j.size > 2 ^ 24:=by omega
  have ge:¬1*j.size=0:=by omega
  simp only[Instr.buildSlice,Sem.run_bind,run_underlying hu,Result.andThen_ok,hs,if_neg hsm2,if_neg ge,hzv,Sem.run_pure]
  simp only[Ah]
  rfl
 refine⟨.slice (some ⟨w.heap.size,0,none⟩) 1 1,g.var hp.next w.heap.size,w.alloc (.cells (a.eval x).cells e),?_,hr.newVar cs _ e (by rw[sU,hl];exact aB _) (fun i u hu=>?_),c9.var hp g w cs _,?_,(Below.refl _ _).alloc hr.base _,fun p _ h=>.inl h⟩
 ·simp[execOp,co]
 ·have t0:(a.eval x).cells.toList[i]? =some u:=by simpa using hu
  exact⟨fun _=>p9.2 u (eo t0),fun d hd=>p9.1.2 i d u hd t0⟩
 ·have:=aO.gw (hp:=hp.var cs) (g:=g.var hp.next w.heap.size) (w:=w.alloc (.cells (a.eval x).cells e)) hp.next j.size 1 1 (eT _) (aB _) (by decide) ⟨(a.eval x).cells,e,(0,0),by rw[show (g.var hp.next w.heap.size).μ hp.next=w.heap.size from if_pos rfl];exact heap_alloc_new w _,by omega⟩
  rwa[show (g.var hp.next w.heap.size).μ hp.next=w.heap.size from if_pos rfl] at this
theorem yT(w:World)(t ty e tt:TypeId)(i:TypeInfo)(ht:P.underlying t=some (.slice e))(hi:P.info? e=some i)
  (g Is sCap:Nat) (cur:Array Value) (hg:w.heap[g]? =some (.cells cur tt (0,0)))
  (a:Addr) (m c:Nat) (news:List Value) (hl:news.length=m*i.size) (rD:∀j u,news[j]? =some u→w.cell? (a.add j)=some u) (h1:∀u∈news,u.oneCell'=true)
  (t3:Is+m≤sCap) (DP:Is*i.size+news.length≤cur.size):
  (Builtin.append_ #[t,t] ty #[.slice (some ⟨g,0,none⟩) Is sCap,.slice (some a) m c]).run P w=
   .ok (.slice (some ⟨g,0,none⟩) (Is+m) sCap) (w.setRow g (cur.toList.take (Is*i.size)++news++cur.toList.drop (Is*i.size+news.length)).toArray):=by
 have hf:=run_firstCells_some (P:=P) w i.size m a m c news hl rD
 have IU:=run_storeCells_at P g (Is*i.size) tt news 0 cur w hg (by simpa using DP) h1
 simp only[mf] at IU
 simp[Builtin.append_,run_underlying ht,sizeOf,typeInfo,hi,Builtin.lenOf,t3,hf,Addr.add_lit,IU]
structure AppG(w:World)(g:Nat)(v':Value)(w':World)(b n z:Nat)(xs:List Value):Prop where
 size:w.heap.size≤w'.heap.size
 old:∀c,c<w.heap.size→c≠g→w'.heap[c]? =w.heap[c]?
 sz:SzB w w' g
 blk:b=g∨w.heap.size≤b
 rest:w'.os=w.os∧w'.tape=w.tape∧w'.output=w.output
 row:∃(cs:Array Value) (tt:TypeId) (cap:Nat),v'=.slice (some ⟨b,0,none⟩) n cap∧n≤cap∧cap≤maxLen∧w'.heap[b]? =some (.cells cs tt (0,0))∧cap*z≤cs.size∧cs.toList.take (n*z)=xs
theorem DC(tok:TOk P tb){t e:TypeId}{ti j:TyE}(ht:tb t=some ti)(xZ:ti.ty=.slice e)(he:tb e=some j)(hz:0<j.size)(w:World)(ty tt:TypeId)(g n cap:Nat)(cur:Array Value)(hg:w.heap[g]? =some (.cells cur tt (0,0)))(pz:n≤cap)(oo:cap≤maxLen)(p9:cap*j.size≤cur.size)
  (a:Addr) (m c:Nat) (news:List Value) (hl:news.length=m*j.size) (rD:∀j u,news[j]? =some u→w.cell? (a.add j)=some u) (h1:∀u∈news,u.oneCell'=true) (hm:0<m) (hb:(n+m)*max 1 j.bytes≤140737488355328):
  ∃v' w' b,(Builtin.append_ #[t,t] ty #[.slice (some ⟨g,0,none⟩) n cap,.slice (some a) m c]).run P w=.ok v' w'∧AppG w g v' w' b (n+m) j.size (cur.toList.take (n*j.size)++news):=by
 obtain⟨f,zz,Mk,On,B0,hf3,hf4,_⟩:=tok.inf he
 have hu:=tok.slice ht xZ
 have Kf:g<w.heap.size:=(n8.1 hg).1
 have Mh:n+m≤140737488355328:=ez (EH _ (by omega)) hb
 have Di:(n+m)*f.bytes≤140737488355328:=ez (yl _ (by rw[B0];omega)) hb
 have hns:n*j.size≤cap*j.size:=dx _ pz
 have Ad:(cur.toList.take (n*j.size)).length=n*j.size:=by rw[ey,iN];omega
 by_cases t3:n+m≤cap
 ·have hr2:(n+m)*j.size≤cap*j.size:=dx _ t3
  rw[cp] at hr2
  have hr:=yT (P:=P) w t ty e tt f hu Mk g n cap cur hg a m c news (by rw[On];exact hl) rD h1 t3 (by rw[On,hl];omega)
  rw[On] at hr
  have yF:(cur.toList.take (n*j.size)++news++cur.toList.drop (n*j.size+news.length)).toArray.size=cur.size:=by
   simp only[qN,cR,ey,fB,iN];omega
  refine⟨_,_,g,hr,by simp,fun c _ hc=>setRow_other w g c _ hc,SzB.row hg yF,.inl rfl,⟨rfl,rfl,rfl⟩,_,tt,cap,rfl,t3,oo,setRow_heap w g cur _ tt (0,0) hg,by rw[yF];exact p9,?_⟩
  have e1:(n+m)*j.size=(cur.toList.take (n*j.size)++news).length:=by rw[cR,Ad,hl,cp]
  rw[e1]
  exact t9
 ·have holds:∀i u,(cur.toList.take (n*j.size))[i]? =some u→w.cell? ((⟨g,0,none⟩:Addr).add i)=some u:=fun i u hu=>by
   rw[gM] at hu
   split at hu
   ·rw[Addr.add_lit]
    simpa[World.cell?,hg] using hu
   ·cases hu
  have hr:=run_append_grow (P:=P) w t ty e f zz hu Mk hf3 ⟨g,0,none⟩ n cap (cur.toList.take (n*j.size)) (by rw[On];exact Ad) holds a m c news (by rw[On];exact hl) rD (by omega) (by omega) (growslice_fits (by omega) Di)
  have t4:=grownCap_ge w (n+m) cap e
  have hzs:zz.cells.size=j.size:=by
   have h4:=(tok e j he).2.2.1
   rw[←iN,hf4,h4]
  refine⟨_,_,w.heap.size,hr,by simp,fun c hc _=>heap_alloc_old w.drew _ hc,.same fun h=>heap_alloc_old w.drew _ h,.inr (aB _),⟨rfl,rfl,rfl⟩,_,e,_,rfl,t4,grownCap_le_maxLen w (n+m) cap e (by unfold maxLen;omega),heap_alloc_new w.drew _,?_,?_⟩
  ·simp only[Array.size_append,qN,size_zeroCells,hzs,Ad,hl,←cp]
   exact dx _ (by omega)
  ·have e1:(n+m)*j.size=(cur.toList.take (n*j.size)++news).length:=by rw[cR,Ad,hl,cp]
   simp only[Array.toList_append]
   rw[e1]
   exact t9
theorem appR(tok:TOk P tb){ev:Operand→D}{t e:TypeId}{ti j:TyE}{x y:Operand}{k n ky:Nat}{ds news:List D}(ht:tb t=some ti)(he:tb e=some j)(hk:hp.vars.lookup k=some ds)(hy:hp.vars.lookup ky=some news)(hx:ev x=.gw k j.size n)(NE:ev y=.gw ky j.size 1)(hl:ds.length=n*j.size)(Ig:news.length=j.size)(hb:(n+1)*max 1 j.bytes≤140737488355328)
  (xZ:ti.ty=.slice e:=by exact rfl) (hz:Nat.ble 1 j.size=true:=by exact rfl) (href:cpB tb ⟨.builtin .append,#[x,y],#[t,t]⟩=true:=by exact rfl):
  mB P tb md ⟨dst,.call ⟨.builtin .append,#[x,y],#[t,t]⟩,ty,pos,af,gd⟩ ev hp (.gw hp.next j.size (n+1)) (hp.re k (ds++news)):=by
 have hz:=dq hz
 refine⟨.step fun B g w a hr wn=>?_,fun hq=>?_,fun h=>?_,fun h=>by cases h⟩
 ·have h1:=wn x (db (by simp))
  have h2:=wn y (db (by simp))
  rw[hx] at h1
  rw[NE] at h2
  obtain⟨q1,q2,q3,cs,tt,q4,q5,q6⟩:=hr.var k ds hk
  obtain⟨y1,y2,y3,ys,yt,y4,y5,y6⟩:=hr.var ky news hy
  generalize hv1:a.eval x=v1 at h1
  generalize NK:a.eval y=v2 at h2
  cases h1 with
  |gw _ _ _ cap w8 pz oo hs=>
  cases h2 with
  |gw _ _ _ c hkn2 hnc2 hcm2 Mg=>
  obtain⟨uZ,tt',l',h3,h4⟩:=hs
  rw[q4] at h3
  injection h3 with h3
  injection h3 with h3 h5 h6
  subst h3;subst h5;subst h6
  have rD:∀i u,(ys.toList.take j.size)[i]? =some u→w.cell? ((⟨g.μ ky,0,none⟩:Addr).add i)=some u:=fun i u hu=>by
   rw[gM] at hu
   split at hu
   ·rw[Addr.add_lit]
    simpa[World.cell?,y4] using hu
   ·cases hu
  have hyone:∀u∈ys.toList.take j.size,u.oneCell'=true:=fun u hu=>by
   obtain⟨i,hi⟩:=yn hu
   rw[gM] at hi
   split at hi
   ·rename_i bX
    exact (y6 i u (by simpa using hi)).1 (by omega)
   ·cases hi
  obtain⟨v',w',b,co,r4⟩:=DC tok ht xZ he hz w ty tt (g.μ k) n cap cs q4 pz oo h4 ⟨g.μ ky,0,none⟩ 1 c (ys.toList.take j.size) (by rw[ey,iN];omega) rD hyone (by omega) hb
  obtain⟨cs2,tt2,cap2,ug,I9,ml,hh2,Ly,Eu⟩:=r4.row
  have hlen:(ds++news).length=(n+1)*j.size:=by rw[cR,hl,Ig,cp,jZ]
  have DQ:(n+1)*j.size≤cap2*j.size:=dx _ I9
  have hHR:HR B (hp.re k (ds++news)) (g.var hp.next b) w':=hr.re hk _ r4.size r4.old r4.sz r4.blk cs2 tt2 hh2 (by rw[hlen];omega) (fun i u hu=>by
   have hwin:i<(n+1)*j.size→(cs.toList.take (n*j.size)++ys.toList.take j.size)[i]? =some u:=fun hi=>by
    rw[←Eu,gM,if_pos hi];simpa using hu
   have htk:(cs.toList.take (n*j.size)).length=n*j.size:=by rw[ey,iN];omega
   have look:∀hi:i<(n+1)*j.size,(i<n*j.size∧cs[i]? =some u)∨(n*j.size≤i∧i - n*j.size<j.size∧ys[i - n*j.size]? =some u):=fun hi=>by
    have h:=hwin hi
    rcases gW i (n*j.size) with bX|t4
    ·rw[yo (by omega),gM,if_pos bX] at h
     exact .inl ⟨bX,by simpa using h⟩
    ·rw[pL (by omega),htk,gM] at h
     rw[cp,jZ] at hi
     rw[if_pos (by omega)] at h
     exact .inr ⟨t4,by omega,by simpa using h⟩
   refine⟨fun hi=>?_,fun d hd=>?_⟩
   ·rw[hlen] at hi
    rcases look hi with⟨h5,h6⟩|⟨h5,h6,h7⟩
    ·exact (q6 i u h6).1 (by omega)
    ·exact (y6 _ u h7).1 (by omega)
   ·have hi:i<(n+1)*j.size:=by rw[←hlen];exact (fP.1 hd).1
    rcases look hi with⟨h5,h6⟩|⟨h5,h6,h7⟩
    ·rw[yo (by omega)] at hd
     exact (q6 i u h6).2 d hd
    ·rw[pL (by omega),hl] at hd
     exact (y6 _ u h7).2 d hd)
  refine⟨v',g.var hp.next b,w',?_,hHR,c9.re hr hk _ r4.size r4.old r4.sz r4.blk,?_,⟨r4.rest.1,r4.rest.2.1,r4.rest.2.2,r4.size,fun c hc=>r4.old c (d8 hc hr.base) (by omega)⟩,fun p h5 h6=>.inl h6⟩
  ·simp only[execOp,Array.map_map,List.map_toArray,dJ,eD,resolve,invoke,builtin,hv1,NK,Sem.run_bind]
   simp[resolve,invoke,builtin,hv1,NK,co]
  ·subst ug
   have Gl:(g.var hp.next b).μ hp.next=b:=if_pos rfl
   have:=aO.gw (hp:=hp.re k (ds++news)) (g:=g.var hp.next b) (w:=w') hp.next j.size (n+1) cap2 (eT _) I9 ml ⟨cs2,tt2,(0,0),by rw[Gl];exact hh2,Ly⟩
   rwa[Gl] at this
 ·exfalso
  cases md with
  |seq=>cases hq
  |any L=>
   have h1:((oL (.call ⟨.builtin .append,#[x,y],#[t,t]⟩)&&!IH tb (.call ⟨.builtin .append,#[x,y],#[t,t]⟩))||n4 tb L (.call ⟨.builtin .append,#[x,y],#[t,t]⟩))=true:=hq
   simp[oL,n4] at h1
 ·have h2:(hvB tb ⟨.builtin .append,#[x,y],#[t,t]⟩||cpB tb ⟨.builtin .append,#[x,y],#[t,t]⟩)=false:=h
  rw[href,Bool.or_true] at h2
  cases h2
end
end
section
section
variable {P:Program} {tb:TypeId→Option TyE} {md:Md} {B:Nat} {hp hp':Hp} {g:Gh} {w w':World} {d:D} {v:Value}
theorem appN(tok:TOk P tb){ev:Operand→D}{dst:Option Tmp}{ty:TypeId}{pos:String}{af:Array Edge}{gd:Option (Nat×Bool)}{t e:TypeId}{ti j:TyE}{x y:Operand}{ky:Nat}{news:List D}(ht:tb t=some ti)(he:tb e=some j)(hy:hp.vars.lookup ky=some news)(hx:ev x=.e (.lit (.slice none 0 0)))(NE:ev y=.gw ky j.size 1)(Ig:news.length=j.size)(hb:1*max 1 j.bytes≤140737488355328)
  (xZ:ti.ty=.slice e:=by exact rfl) (hz:Nat.ble 1 j.size=true:=by exact rfl):
  mB P tb md ⟨dst,.call ⟨.builtin .append,#[x,y],#[t,t]⟩,ty,pos,af,gd⟩ ev hp (.gw hp.next j.size 1) (hp.var news):=by
 have hz:=dq hz
 refine⟨.step fun B g w a hr wn=>?_,fun hq=>?_,fun _=>⟨jt _,fun j hj=>ar (by omega)⟩,fun h=>by cases h⟩
 ·have h1:=wn x (db (by simp))
  have h2:=wn y (db (by simp))
  rw[hx] at h1
  rw[NE] at h2
  have h1:=h1.lit
  obtain⟨y1,y2,y3,ys,yt,y4,y5,y6⟩:=hr.var ky news hy
  generalize NK:a.eval y=v2 at h2
  cases h2 with
  |gw _ _ _ c hkn2 hnc2 hcm2 Mg=>
  obtain⟨f,zz,Mk,On,B0,hf3,hf4,_⟩:=tok.inf he
  have hu:=tok.slice ht xZ
  have hzs:zz.cells.size=j.size:=by
   have h4:=(tok e j he).2.2.1
   rw[←iN,hf4,h4]
  have Di:f.bytes≤140737488355328:=by rw[B0];omega
  have rD:∀i u,(ys.toList.take j.size)[i]? =some u→w.cell? ((⟨g.μ ky,0,none⟩:Addr).add i)=some u:=fun i u hu=>by
   rw[gM] at hu
   split at hu
   ·rw[Addr.add_lit]
    simpa[World.cell?,y4] using hu
   ·cases hu
  have yF:(ys.toList.take j.size).length=j.size:=by rw[ey,iN];omega
  have co:=run_append_nil (P:=P) w t ty e f zz hu Mk hf3 ⟨g.μ ky,0,none⟩ 1 c (ys.toList.take j.size) (by rw[On,yF];omega) rD (by omega) (by omega) (by omega)
  have t4:=grownCap_ge w 1 0 e
  have hold:∀c,c<w.heap.size→(w.drew.alloc (.cells ((ys.toList.take j.size).toArray++Builtin.zeroCells zz.cells (grownCap w 1 0 e - 1)) e)).heap[c]? =w.heap[c]? :=fun c hc=>heap_alloc_old w.drew _ hc
  have AG:=heap_alloc_new w.drew (.cells ((ys.toList.take j.size).toArray++Builtin.zeroCells zz.cells (grownCap w 1 0 e - 1)) e)
  have mo:=c9.addVar (w:=w) (w':=w.drew.alloc (.cells ((ys.toList.take j.size).toArray++Builtin.zeroCells zz.cells (grownCap w 1 0 e - 1)) e)) hp g news (b:=w.heap.size) (by simp) hold (aB _)
  have hsz:((ys.toList.take j.size).toArray++Builtin.zeroCells zz.cells (grownCap w 1 0 e - 1)).size=grownCap w 1 0 e*j.size:=by
   simp only[Array.size_append,qN,size_zeroCells,hzs,yF]
   have:grownCap w 1 0 e=1+(grownCap w 1 0 e - 1):=by omega
   rw[this,cp,jZ]
   congr 2
   omega
  have h1z:1*j.size≤grownCap w 1 0 e*j.size:=dx _ t4
  refine⟨.slice (some ⟨w.heap.size,0,none⟩) 1 (grownCap w 1 0 e),g.var hp.next w.heap.size,_,?_,hr.addVar news (w':=w.drew.alloc (.cells ((ys.toList.take j.size).toArray++Builtin.zeroCells zz.cells (grownCap w 1 0 e - 1)) e)) (by simp) hold (aB _) _ e AG (by rw[hsz,Ig];omega) (fun i u hu=>?_),mo,?_,⟨rfl,rfl,rfl,by simp,fun c hc=>hold c (d8 hc hr.base)⟩,fun p h5 h6=>.inl h6⟩
  ·simp only[execOp,Array.map_map,List.map_toArray,dJ,eD,resolve,invoke,builtin,h1,NK,Sem.run_bind]
   simp[resolve,invoke,builtin,h1,NK,co]
  ·have DN:i<news.length→ys[i]? =some u:=fun hi=>by
    have wr:i<(ys.toList.take j.size).toArray.size:=by rw[qN,yF];omega
    rw[Array.getElem?_append_left wr,CJ,gM,if_pos (by omega)] at hu
    simpa using hu
   exact⟨fun hi=>(y6 i u (DN hi)).1 hi,fun d hd=>((y6 i u (DN (fP.1 hd).1)).2 d hd).mono mo⟩
  ·have Gl:(g.var hp.next w.heap.size).μ hp.next=w.heap.size:=if_pos rfl
   have:=aO.gw (hp:=hp.var news) (g:=g.var hp.next w.heap.size) (w:=w.drew.alloc (.cells ((ys.toList.take j.size).toArray++Builtin.zeroCells zz.cells (grownCap w 1 0 e - 1)) e)) hp.next j.size 1 (grownCap w 1 0 e) (eT _) t4 (grownCap_le_maxLen w 1 0 e (by decide)) ⟨_,e,(0,0),by rw[Gl];exact AG,by rw[hsz];exact aB _⟩
   rwa[Gl] at this
 ·exfalso
  cases md with
  |seq=>cases hq
  |any L=>
   have h1:((oL (.call ⟨.builtin .append,#[x,y],#[t,t]⟩)&&!IH tb (.call ⟨.builtin .append,#[x,y],#[t,t]⟩))||n4 tb L (.call ⟨.builtin .append,#[x,y],#[t,t]⟩))=true:=hq
   simp[oL,n4] at h1
def Fv(hp:Hp)(g:Gh):Addr→Prop:=fun p=>g.F p∧∀k ds,hp.vars.lookup k=some ds→g.μ k≠p.block
def AR(hp:Hp)(d d':D):Prop:=∀(B:Nat) (g:Gh) (w:World) (v:Value),HR B hp g w→aO hp g w d v→lz w (Fv hp g) d' v
theorem AR.data(h:d.ex.pure=true):AR hp d d.ex:=fun _ _ _ _ _ hd=>(hd.xport h).less fun _ hp=>hp.1
theorem AR.sl {k z n off:Nat}{F:List E}(hv:hp.vars.lookup k=some (dC F))(hz:0<z)(hl:off+n*z≤F.length):AR hp (.ow k off z n) (.e (.sl z n ((F.drop off).take (n*z)))):=by
 intro B g w v hr hd
 obtain⟨h1,h2,h3,cs,ty,h4,h5,h6⟩:=hr.var k _ hv
 rw[eK] at h5
 cases hd with
 |ow _ _ _ _ c hk pz oo=>
  refine .e _ _ (.sl z n _ (some ⟨g.μ k,off,none⟩) c (fun i=>cs.getD (off+i) undef) (by rw[ey,fB];omega) hz pz oo (fun _=>⟨_,rfl,(n8.1 h4).1⟩) (fun ad ha i e hi=>?_) (fun i e hi=>?_))
  ·injection ha with ha
   subst ha
   have wr:i<n*z:=by
    have:=(fP.1 hi).1
    rw[ey] at this;omega
   have Ml:(⟨g.μ k,off,none⟩:Addr).add i=⟨g.μ k,off+i,none⟩:=by unfold Addr.add;split <;> simp_all
   refine⟨?_,fun hf=>hf.2 k _ hv (by rw[gl])⟩
   rw[Ml]
   have bX:off+i<cs.size:=by omega
   simp[World.cell?,h4,iF,bX]
  ·have wr:i<n*z:=by
    have:=(fP.1 hi).1
    rw[ey] at this;omega
   have bX:off+i<cs.size:=by omega
   rw[gM,if_pos wr,nA] at hi
   have hu:=h6 (off+i) (cs.getD (off+i) undef) (by simp[iF,bX])
   have:=hu.2 (.e e) (by unfold dC;rw[ek,hi];rfl)
   cases this with
   |e _ _ h7=>exact h7.less fun p hp=>hp.1
theorem AR.gw {k z n:Nat}{F:List E}(hv:hp.vars.lookup k=some (dC F))(hz:0<z)(hl:F.length=n*z):AR hp (.gw k z n) (.e (.sl z n F)):=by
 intro B g w v hr hd
 have:=AR.sl (off:=0) hv hz (n:=n) (by omega) B g w v hr hd.toOw
 rwa[pR,g6 (by omega)] at this
def ARs(hp:Hp):List D→List D→Prop
 |[],[]=>True
 |d::ds,e::es=>AR hp d e∧ARs hp ds es
 |_,_=>False
theorem ARs.get:∀{ds es:List D},ARs hp ds es→ds.length=es.length∧∀(j:Nat) (e:D),es[j]? =some e→∃d,ds[j]? =some d∧AR hp d e
 |[],[],_=>⟨rfl,fun j e h=>by simp at h⟩
 |d::ds,e::es,⟨h1,h2⟩=>by
  obtain⟨h3,h4⟩:=ARs.get h2
  refine⟨by simp[h3],fun j x hx=>?_⟩
  cases j with
  |zero=>simp at hx;subst hx;exact⟨d,rfl,h1⟩
  |succ j=>exact h4 j x (by simpa using hx)
 |[],_::_,h=>h.elim
 |_::_,[],h=>h.elim
theorem AR.ag {ds es:List D}(h:ARs hp ds es):AR hp (.ag ds) (.ag es):=by
 intro B g w v hr hd
 obtain⟨h1,h2⟩:=h.get
 cases hd with
 |ag _ cs hl ho IW=>
  refine .ag es cs (by omega) ho fun j e u hj hu=>?_
  obtain⟨d,h3,h4⟩:=h2 j e hj
  exact h4 B g w u hr (IW j d u h3 hu)
def D.flatC:D→Bool
 | .e (.lit _)=>true
 |_=>false
def D.flat1:D→Bool
 | .ag ds=>ds.all D.flatC
 |d=>d.flatC
def D.flat:D→Bool
 | .tu ds=>ds.all D.flat1
 |d=>d.flat1
theorem Ht {F:Addr→Prop}(h:lz w F d v)(hf:d.flatC=true)(hp:Hp)(g:Gh)(w':World):aO hp g w' d v:=by
 cases h with
 |e x v h=>
  cases x with
  |lit u=>cases h with|lit _ ho=>exact .e _ _ (.lit _ ho)
  |_=>cases hf
 |_=>cases hf
theorem Hu {F:Addr→Prop}(h:lz w F d v)(hf:d.flat1=true)(hp:Hp)(g:Gh)(w':World):aO hp g w' d v:=by
 cases d with
 |ag ds=>
  cases h with
  |ag _ cs hl ho IW=>exact .ag ds cs hl ho fun j d u hj hu=>Ht (IW j d u hj hu) (cX.1 hf d (eo hj)) hp g w'
 |_=>exact Ht h hf hp g w'
theorem flat_to {F:Addr→Prop}(h:lz w F d v)(hf:d.flat=true)(hp:Hp)(g:Gh)(w':World):aO hp g w' d v:=by
 cases d with
 |tu ds=>
  cases h with
  |tu _ cs hl IW=>exact .tu ds cs hl fun j d u hj hu=>Hu (IW j d u hj hu) (cX.1 hf d (eo hj)) hp g w'
 |_=>exact Hu h hf hp g w'
theorem Fv_fits(hr:HR B hp g w):∀p:Addr,Fv hp g p→p.block<w.heap.size:=fun p h=>hr.fits p h.1
theorem EE {f:FuncId}{ds ds':List D}{r:D}(hc:ax P f ds' r)(ha:ARs hp ds ds'){vs:Array Value}(hr:HR B hp g w)(hsz:vs.size=ds.length)(dc:∀(j:Nat) (d:D) (u:Value),ds[j]? =some d→vs[j]? =some u→aO hp g w d u):
  Calls P f vs w fun e w'=>∃v,e=.returned v∧uk w.heap.size (Fv hp g) w' r v∧Below w.heap.size w w':=by
 obtain⟨h1,h2⟩:=ha.get
 refine hc.2 w _ vs (Fv_fits hr) (by omega) fun j e u hj hu=>?_
 obtain⟨d,h3,h4⟩:=h2 j e hj
 exact h4 B g w u hr (dc j d u h3 hu)
theorem HC.frz {f:FuncId}{ds ds':List D}{r:D}(hc:ax P f ds' r)(ha:ARs hp ds ds')(hf:r.flat=true):HC P f ds hp r hp:=by
 refine⟨hc.1,fun B g w vs hr hsz dc=>(EE hc ha hr hsz dc).mono ?_⟩
 rintro e w' ⟨v,rfl,pg,hb⟩
 have NU:lz w' (Fv hp g) r v:=by
  unfold uk at pg
  split at pg
  ·cases hf
  ·exact pg
 exact⟨v,g,rfl,hr.keep hb.size hb.block,c9.keep hp g hb.size hb.block,flat_to NU hf hp g w',hb.mono hr.base,fun _ _ h=>h⟩
def E.isLit:E→Bool
 | .lit _=>true
 |_=>false
theorem HC.adopt {f:FuncId}{ds ds':List D}{e z n:Nat}{xs:List E}(hc:ax P f ds' (.own e z n xs))(ha:ARs hp ds ds')(hn:0<n)(hx:xs.all E.isLit=true):HC P f ds hp (.gw hp.next z n) (hp.var (dC xs)):=by
 refine⟨hc.1,fun B g w vs hr hsz dc=>(EE hc ha hr hsz dc).mono ?_⟩
 rintro en w' ⟨v,rfl,⟨hz,⟨us,ho⟩,pg⟩,hb⟩
 rcases ho.2 with⟨rfl,rfl⟩|⟨b,cap,cur,rfl,hB,hh,pz,oo,p9,htk⟩
 ·omega
 have Ad:xs.length=n*z:=by cases pg with|sl _ _ _ _ _ _ hl=>exact hl
 have Ka:=ho.1
 have hns:n*z≤cap*z:=dx _ pz
 have mo:=c9.addVar hp g (dC xs) hb.size hb.block hB
 have Gl:(g.var hp.next b).μ hp.next=b:=if_pos rfl
 have cells:∀(i:Nat) (u:Value),cur[i]? =some u→∀x,xs[i]? =some x→∃y,x=.lit y∧u=y∧y.oneCell'=true:=fun i u hu x hxi=>by
  have hlit:x.isLit=true:=cX.1 hx x (eo hxi)
  cases pg with
  |sl _ _ _ _ _ us2 _ _ _ _ hA B7 IW=>
   obtain⟨h5,_⟩:=B7 _ rfl i x hxi
   have h6:w'.cell? ((⟨b,0,none⟩:Addr).add i)=cur[i]? :=by rw[Addr.add_lit];simp[World.cell?,hh]
   rw[h6,hu] at h5
   injection h5 with h5
   have h7:=IW i x hxi
   rw[←h5] at h7
   cases x with
   |lit y=>cases h7 with|lit _ ho=>exact⟨_,rfl,rfl,ho⟩
   |_=>cases hlit
 refine⟨_,g.var hp.next b,rfl,hr.addVar (dC xs) hb.size hb.block hB cur e hh (by rw[eK,Ad,p9];exact hns) (fun i u hu=>⟨fun hi=>?_,fun d hd=>?_⟩),mo,?_,hb.mono hr.base,fun p _ h=>.inl h⟩
 ·rw[eK] at hi
  obtain⟨y,_,rfl,h⟩:=cells i u hu xs[i] (c0 hi)
  exact h
 ·unfold dC at hd
  rw[ek] at hd
  obtain⟨x,Ep,rfl⟩:=wB.1 hd
  obtain⟨y,rfl,rfl,h⟩:=cells i u hu x Ep
  exact .e _ _ (.lit _ h)
 ·have:=aO.gw (hp:=hp.var (dC xs)) (g:=g.var hp.next b) (w:=w') hp.next z n cap (eT _) pz oo ⟨cur,e,(0,0),by rw[Gl];exact hh,by omega⟩
  rwa[Gl] at this
end
end
section
section
variable {P:Program} {tb:TypeId→Option TyE} {md:Md} {hp hp':Hp} {d:D} {dst:Option Tmp} {ty:TypeId} {pos:String} {af:Array Edge} {gd:Option (Nat×Bool)} {ev:Operand→D}
theorem opHC {x:Operand}{f:FuncId}{aS:List Operand}{ts:Array TypeId}{ds:List D}(AH:ev x=.e (.lit (.func (.func f) #[] #[])))(hc:HC P f ds hp d hp')(hd:aS.map ev=ds):qi P ⟨dst,.call ⟨.value x,aS.toArray,ts⟩,ty,pos,af,gd⟩ ev hp d hp':=by
 intro B g w a Kn Q hr hx w8
 subst hd
 obtain⟨⟨fn,hf,hn,Aj⟩,yb⟩:=hc
 have hv:=hx x (by simp[Op.operands,Call.operands])
 rw[AH] at hv
 have hv:=hv.lit
 have sU:=yb B g w (aS.map a.eval).toArray hr (by simp) (fun j d u hd hu=>by
  rw[ek] at hd
  obtain⟨y,hy,rfl⟩:=wB.1 hd
  have t0:(aS.map a.eval)[j]? =some u:=by simpa using hu
  rw[ek,hy] at t0
  injection t0 with t0
  subst t0
  exact hx y (db (by simpa using eo hy)))
 refine Ci (R:=fun v w'=>∃g',HR B hp' g' w'∧c9 hp g w hp' g' w'∧aO hp' g' w' d v∧Below B w w'∧∀p:Addr,p.block<B→g.F p→g'.F p) ?_ (sU.mono ?_) ?_
 ·have hn' : fn.name ≠ "runtime.NumGoroutine" := by simpa using hn
  have ph:¬fn.body=none:=fun e=>by rw[e] at Aj;cases Aj
  have hcf:(callFunc f (aS.map a.eval).toArray).run P w=.ok (.enter f (aS.map a.eval).toArray) w:=by
   simp[callFunc,hf,hn',ph]
  rw[←hcf]
  simp[execOp,resolve,invoke,Deferred.ofValue,hv]
 ·rintro e w' ⟨v,g',rfl,h1⟩
  exact⟨v,rfl,g',h1⟩
 ·rintro v w' ⟨g',h1,h2,h3,h4,h5⟩
  exact w8 v g' w' h1 h2 h3 h4 h5
theorem opHF {x:Operand}{f:FuncId}{ks:List Nat}{aS:List Operand}{ts:Array TypeId}{ds:List D}(AH:ev x=.fn f ks)(hc:HC P f ds hp d hp')(hd:aS.map ev++ks.map (fun k=>D.pt k 0)=ds):qi P ⟨dst,.call ⟨.value x,aS.toArray,ts⟩,ty,pos,af,gd⟩ ev hp d hp':=by
 intro B g w a Kn Q hr hx w8
 subst hd
 obtain⟨⟨fn,hf,hn,Aj⟩,yb⟩:=hc
 have hv:=hx x (by simp[Op.operands,Call.operands])
 rw[AH] at hv
 generalize hu0:a.eval x=u0 at hv
 cases hv with
 |fn _ _ hks=>
 have sU:=yb B g w (aS.map a.eval++ks.map fun k=>Value.pointer (some ⟨g.μ k,0,none⟩)).toArray hr (by simp) (fun j d u hd hu=>by
  have t0:(aS.map a.eval++ks.map fun k=>Value.pointer (some ⟨g.μ k,0,none⟩))[j]? =some u:=by simpa using hu
  rcases gW j aS.length with hj|hj
  ·rw[yo (by simpa using hj),ek] at hd t0
   obtain⟨y,hy,rfl⟩:=wB.1 hd
   rw[hy] at t0
   injection t0 with t0
   subst t0
   exact hx y (db (by simpa using eo hy))
  ·rw[pL (by simpa using hj),ek] at hd t0
   obtain⟨k,hk,rfl⟩:=wB.1 hd
   simp only[bT] at hk t0
   rw[hk] at t0
   injection t0 with t0
   subst t0
   exact .pt k 0 (hks k (eo hk)))
 refine Ci (R:=fun v w'=>∃g',HR B hp' g' w'∧c9 hp g w hp' g' w'∧aO hp' g' w' d v∧Below B w w'∧∀p:Addr,p.block<B→g.F p→g'.F p) ?_ (sU.mono ?_) ?_
 ·have hn' : fn.name ≠ "runtime.NumGoroutine" := by simpa using hn
  have ph:¬fn.body=none:=fun e=>by rw[e] at Aj;cases Aj
  have hcf:(callFunc f (aS.map a.eval++ks.map fun k=>Value.pointer (some ⟨g.μ k,0,none⟩)).toArray).run P w=.ok (.enter f (aS.map a.eval++ks.map fun k=>Value.pointer (some ⟨g.μ k,0,none⟩)).toArray) w:=by
   simp[callFunc,hf,hn',ph]
  have t5:(aS.map a.eval++ks.map fun k=>Value.pointer (some ⟨g.μ k,0,none⟩)).toArray=aS.toArray.map a.eval++(ks.map fun k=>Value.pointer (some ⟨g.μ k,0,none⟩)).toArray:=by apply n7.1;simp
  rw[←hcf,t5]
  simp[execOp,resolve,invoke,Deferred.ofValue,hu0]
 ·rintro e w' ⟨v,g',rfl,h1⟩
  exact⟨v,rfl,g',h1⟩
 ·rintro v w' ⟨g',h1,h2,h3,h4,h5⟩
  exact w8 v g' w' h1 h2 h3 h4 h5
theorem sndOf {c:Call}{x:Operand}(B7:c.callee=.value x)(h:qi P ⟨dst,.call c,ty,pos,af,gd⟩ ev hp d hp')(hfr:hvB tb c=true∨Fr hp hp')(hn:md.nc tb (.call c)=true):mB P tb md ⟨dst,.call c,ty,pos,af,gd⟩ ev hp d hp':=by
 refine⟨h,fun hq=>?_,fun hv=>?_,fun h=>by cases h⟩
 ·exfalso
  cases md with
  |seq=>cases hq
  |any L=>
   have h1:((oL (.call c)&&!IH tb (.call c))||n4 tb L (.call c))=true:=hq
   have h2:(!n4 tb L (.call c))=true:=hn
   rw[EG] at h2
   rw[h2,Bool.or_false] at h1
   simp[oL,B7] at h1
 ·rcases hfr with h1|h1
  ·have h2:(hvB tb c||cpB tb c)=false:=hv
   rw[h1] at h2;cases h2
  ·exact h1
theorem sHC {x:Operand}{f:FuncId}{aS:List Operand}{ts:Array TypeId}{ds:List D}(hc:HC P f ds hp d hp')(hd:aS.map ev=ds)(hfr:hvB tb ⟨.value x,aS.toArray,ts⟩=true∨Fr hp hp')(AH:ev x=.e (.lit (.func (.func f) #[] #[])):=by exact rfl)(hn:md.nc tb (.call ⟨.value x,aS.toArray,ts⟩)=true:=by exact rfl):
  mB P tb md ⟨dst,.call ⟨.value x,aS.toArray,ts⟩,ty,pos,af,gd⟩ ev hp d hp':=sndOf rfl (opHC AH hc hd) hfr hn
theorem sHF {x:Operand}{f:FuncId}{ks:List Nat}{aS:List Operand}{ts:Array TypeId}{ds:List D}(hc:HC P f ds hp d hp')(hd:aS.map ev++ks.map (fun k=>D.pt k 0)=ds)(AH:ev x=.fn f ks:=by exact rfl)(hfr:hvB tb ⟨.value x,aS.toArray,ts⟩=true:=by exact rfl)(hn:md.nc tb (.call ⟨.value x,aS.toArray,ts⟩)=true:=by exact rfl):
  mB P tb md ⟨dst,.call ⟨.value x,aS.toArray,ts⟩,ty,pos,af,gd⟩ ev hp d hp':=sndOf rfl (opHF AH hc hd) (.inl hfr) hn
end
structure Pt(F:List D)(o:Nat)(bs:List D)(F':List D→List D):Prop where
 le:o+bs.length≤F.length
 g:(F.drop o).take bs.length=bs
 p:∀ys:List D,ys.length=bs.length→F.take o++ys++F.drop (o+bs.length)=F' ys
theorem Pt.of {F bs:List D}{o:Nat}{F':List D→List D}(A C:List D)(hA:A.length=o)(hF:F=A++bs++C)(hp:∀y,F' y=A++y++C):Pt F o bs F':=by
 subst hA hF
 refine⟨by simp only[cR];omega,?_,fun y hy=>?_⟩
 ·rw[dy,wz,t9]
 ·rw[hp,dy A bs C,t9,←pQ,wz,wz]
section
variable {P:Program} {tb:TypeId→Option TyE} {dr:Bool} {ty:TypeId} {ev:Operand→D} {hp:Hp} {k o:Nat} {F bs:List D} {F':List D→List D} {t:TypeId} {i:TyE} {x y:Operand} {d:D}
theorem Aw(L:Pt F o bs F')(hv:hp.vars.lookup k=some F)(hk:k<hp.next)(ht:tb t=some i)(hz:bs.length=i.size)(hg:i.ty.agg=true:=by exact rfl)(hx:ev x=.pt k o:=by exact rfl):AVC P tb dr (.load t x) ty ev hp (Kq (.ag bs) hp):=by
 rw[qe,hx,nR,ht,hv]
 simp only[hg]
 refine⟨hk,by rw[←hz];exact L.le,?_⟩
 rw[←hz,L.g]
 exact Kq.here _ _
theorem j8(L:Pt F o [d] F')(hv:hp.vars.lookup k=some F)(hk:k<hp.next)(ht:tb t=some i)(hg:i.ty.agg=false:=by exact rfl)(hx:ev x=.pt k o:=by exact rfl):AVC P tb dr (.load t x) ty ev hp (Kq d hp):=by
 rw[qe,hx,nR,ht,hv]
 simp only[hg]
 refine⟨hk,d,?_,Kq.here _ _⟩
 have h:=L.g
 have hle:=L.le
 have:((F.drop o).take 1)[0]? =some d:=by rw[show (1:Nat)=[d].length from rfl,h];rfl
 rw[gM,if_pos (by omega),nA,mf] at this
 exact this
theorem EN {ys F2:List D}{hp':Hp}(L:Pt F o bs F')(hv:hp.vars.lookup k=some F)(hyc:(ev y).cells=some ys)(ht:tb t=some i)(hz:bs.length=i.size)(hl:ys.length=bs.length)(h2:F' ys=F2)(hx:ev x=.pt k o:=by exact rfl)(he:hp.set k F2=hp':=by exact rfl):AVC P tb dr (.store t x y) ty ev hp (Kq .top hp'):=by
 subst he h2
 rw[Cz,hx,yS,ht,hv,hyc]
 simp only
 refine⟨by omega,by rw[←hz];exact L.le,?_⟩
 rw[hl,L.p ys hl]
 exact Kq.here _ _
end
end
def az:Cd Nu:=⟨36,fun x=>ai.f x.1,fun x=>ai.h x.1⟩
theorem w_Add(x y:Nu):ax Tryz.prog 66 [dG az x,dG az y] (dG az (od x y)):=by rw[uK];exact uA (JA x.2 y.2)
theorem w_Mul(x y:Nu):ax Tryz.prog 29 [dG az x,dG az y] (dG az (pd x y)):=by rw[sk];exact uz (Jz x.2 y.2)
theorem w_Sub(x y:Nu):ax Tryz.prog 76 [dG az x,dG az y] (dG az (Fg x y)):=by rw[Nm];exact GF (G_osub x.2 y.2)
theorem MA(x y:Nu):ax Tryz.prog 153 [dG az x,dG az y] (dG az (ri x y)):=by rw[G1];exact GG (G_odiv x.2 y.2)
theorem GI(x:Nu):ax Tryz.prog 42 [dG az x] (dG az (gX x)):=by rw[xU];exact uy (Jy x.2)
theorem Dy(n:Int)(h:-2≤n∧n≤2):ax Tryz.prog 28 [dI .i64 n] (dG az (nOf n)):=Bm (G_rOf (by omega) (by omega))
theorem wN(x:Nu):ax Tryz.prog 30 [dG az x] (dI .i64 (dv x)):=by rw[zc];exact s7 (P8 x.2)
theorem w_Good(x:Nu):ax Tryz.prog 92 [dG az x] (dB (aK x)):=by rw[eO];exact cC (iJ x.2)
theorem w_Cmp(x y:Nu):ax Tryz.prog 32 [dG az x,dG az y] (dI .i64 (pD x y)):=by rw[BI];exact ru (P9 x.2 y.2)
structure xq where
 vk:aq
 vc:List aq
 deriving Inhabited,DecidableEq
def r6:Cd xq:=⟨37,fun x=>ai.f x.vk++[slE ai x.vc],fun x=>by simp[ai.h,show ai.sz=36 from rfl]⟩
theorem IF(x:xq):am (r6.f x) ai 0 x.vk (fun y=>r6.f (⟨y,x.vc⟩:xq)):=
 am.of ([]) (((cL ai)).f x.vc) (by first|rfl|(simp[(cL ai).h,ai.h];first|rfl|done)) (by first|rfl|simp[r6,cI,cB,cS,cL,dy]) (fun y=>by first|rfl|simp[r6,cI,cB,cS,cL,dy])
theorem IG(x:xq):am (r6.f x) (cL ai) 36 x.vc (fun y=>r6.f (⟨x.vk,y⟩:xq)):=
 am.of ((ai).f x.vk) ([]) (by first|rfl|(simp[(cL ai).h,ai.h];first|rfl|done)) (by first|rfl|simp[r6,cI,cB,cS,cL,dy]) (fun y=>by first|rfl|simp[r6,cI,cB,cS,cL,dy])
def ix(aY:aq):Option Bool:=bnd (bn aY) fun x1=>some (!x1)
theorem wJ {aY:aq}{r:Bool}(h:ix aY=some r):ax Tryz.prog 120 [dG ai aY] (dB r):=by
 refine bE (rs:=[.tmp 2]) (fun cx hx h0=>?_) Tryz.func120
 unfold ix at h
 refine ra hx ?_
 refine rs hx fun K hK=>?_
 refine s1 (d:=dG ai aY) (au (am.id _ _) ay) ?_
 refine scb h cC fun x1 h=>?_
 iterate 2 refine sa ?_
 refine .nil (hK _ _ (AW.ret ?_))
 cases h
 exact rv1
def aZ(ue:List aq):Int→Option (Int⊕(Int⊕Unit)):=fun aJ=>cnd (decide (aJ<((ue).length:Int))) (gd (0≤aJ∧aJ<((ue).length:Int)) (bnd (ix ((ue)[(aJ).toNat]!)) fun x4=>cnd x4 (some (.inr (.inl aJ))) (some (.inl (i64.wrap (aJ+(1:Int))))))) (some (.inr (.inr ())))
def bk(ue:List aq):Option Int:=bnd (bS (aZ ue) (0:Int)) fun y7=>match y7 with| .inl r=>some r| .inr ()=>some (-1:Int)
theorem ip {ue:List aq}{r:Int}(h:bk ue=some r):ax Tryz.prog 106 [dL ai ue,.e (.lit (.func (.func 120) #[] #[]))] (dI .i64 r):=by
 refine bE (rs:=[.tmp 4]) (fun cx hx h0=>?_) Tryz.func106
 unfold bk at h
 refine ra hx ?_
 refine AW.seq (ra hx ?_)
 refine AW.block ?_
 obtain⟨y,hy,h⟩:=ab h
 refine lp (S:=Int) (X:=Int⊕Unit) (fun aJ=>[(0,dL ai ue),(1,.e (.lit (.func (.func 120) #[] #[]))),(7,dI .i64 ((ue).length:Int)),(8,dI .i64 aJ)]) (fun aJ=>⟨[],[],0⟩) (PS (PR [.tmp 4] fun r=>dI .i64 r) (PE cx (.exit 0) (fun ()=>[]) fun ()=>⟨[],[],0⟩)) hy ?_ ?_ ?_
 exact wk h0 [] (wR rfl (wR rfl (wR rfl (wR rfl wTn)))) wVn wLn
 clear hy h
 rintro aJ y h
 dsimp only[aZ] at h
 refine ra hx ?_
 refine AW.seq (cdh h rfl (fun c5 h=>?_) (fun c5 h=>?_))
 refine AW.skip (AW.seq (AW.block (ra hx ?_)))
 refine rs hx fun K hK=>?_
 iterate 3 refine sa ?_
 obtain⟨ml,h⟩:=aC h
 have p8:(aJ).toNat<(ue).length:=by omega
 refine s1 (g7 ml aM ay) ?_
 refine s1 (d:=dG ai ((ue)[(aJ).toNat]!)) (mi (c:=ai) (l:=ue) (n:=(aJ).toNat) (o:=0) ay p8 (f8 _ _ rfl)) ?_
 refine scb h wJ fun x4 h=>?_
 refine .nil (hK _ _ (cdh h rfl (fun fe h=>?_) (fun fe h=>?_)))
 refine ra hx ?_
 refine AW.ret ?_
 cases h
 refine PS.r ⟨by nofun,PS.l (PR.i ?_)⟩
 exact rv1
 refine AW.skip (rb hx ?_)
 cases h
 exact PS.l (pe0 h0 [])
 refine AW.exit ?_
 try dsimp only
 try simp only[aU,reduceIte,Nat.reduceEqDiff,reduceCtorEq]
 cases h
 exact PS.r ⟨by nofun,PS.r (PE.i (wk h0 [] wTn wVn wLn))⟩
 rcases y with r|⟨⟩
 rintro ex tm' hp' ⟨rfl,hw⟩
 cases h
 exact hw
 rintro ex tm' hp' ⟨rfl,hw⟩
 try dsimp only
 try simp only[aU,reduceIte,Nat.reduceEqDiff,reduceCtorEq]
 refine AW.weak hw (ra hx ?_)
 refine AW.ret ?_
 cases h
 exact rv1
def bf(ue:List aq):Option Bool:=bnd (bk ue) fun x1=>some (decide ((0:Int)≤x1))
theorem gP {ue:List aq}{r:Bool}(h:bf ue=some r):ax Tryz.prog 119 [dL ai ue,.e (.lit (.func (.func 120) #[] #[]))] (dB r):=by
 refine bE (rs:=[.tmp 4]) (fun cx hx h0=>?_) Tryz.func119
 unfold bf at h
 refine ra hx ?_
 refine rs hx fun K hK=>?_
 iterate 2 refine sa ?_
 refine scb h ip fun x1 h=>?_
 iterate 2 refine sa ?_
 refine .nil (hK _ _ (AW.ret ?_))
 cases h
 exact rv1
def dp(ep:List aq):Option Bool:=bnd (bf ep) fun x1=>some (!x1)
theorem fR {ep:List aq}{r:Bool}(h:dp ep=some r):ax Tryz.prog 62 [dL ai ep] (dB r):=by
 refine bE (rs:=[.tmp 2]) (fun cx hx h0=>?_) Tryz.func62
 unfold dp at h
 refine ra hx ?_
 refine rs hx fun K hK=>?_
 refine sa ?_
 refine scb h gP fun x1 h=>?_
 iterate 2 refine sa ?_
 refine .nil (hK _ _ (AW.ret ?_))
 cases h
 exact rv1
def jD(ep:xq):Option Bool:=bnd (S:=Bool) (bnd (bn ep.vk) fun x1=>cnd x1 (bnd (dp ep.vc) fun x4=>some (x4)) (some (false))) fun bI=>some bI
theorem vT {ep:xq}{r:Bool}(h:jD ep=some r):ax Tryz.prog 109 [dG r6 ep] (dB r):=by
 refine bE (rs:=[.tmp 2]) (fun cx hx h0=>?_) Tryz.func109
 unfold jD at h
 refine ra hx ?_
 refine AW.seq ?_
 obtain⟨bI,hy,h⟩:=ab h
 refine jn ((PE cx .normal (fun bI=>[(2,dB bI)]) fun bI=>⟨[],[],0⟩) bI) ?_ ?_
 replace h:=hy
 refine rq hx fun K hK=>?_
 refine sa ?_
 refine s1 (au (IF ep) ay) ?_
 refine scb h cC fun x1 h=>?_
 refine sa ?_
 rcases aD x1 with bb|bb
 replace h:=aP bb h
 refine ga bb ?_
 refine g1 bb (aW (IG ep) aM) ?_
 obtain⟨x4,p6,h⟩:=ab h
 refine g1 bb (bj rfl (fR p6) rfl (lA (ao _) lAn) (.inl rfl)) ?_
 refine s1 (aw bb) ?_
 refine sa ?_
 refine .nil (hK _ _ ?_)
 cases h
 exact pe0 h0 []
 replace h:=aQ bb h
 iterate 3 refine aH rfl rfl bb ?_
 refine s1 (al bb) ?_
 refine sa ?_
 refine .nil (hK _ _ ?_)
 cases h
 exact pe0 h0 []
 rintro ex tm' hp' ⟨rfl,hw⟩
 refine AW.weak hw (AW.ret ?_)
 cases h
 exact rv1
def nv(x:Nu):aq:=x.1
theorem L9(x:Nu):ix (nv x)=some (!aK x):=by
 unfold ix nv
 rw[iJ x.2,eO]
 rfl
theorem G_idx {c:List Nu}(h:c.length≤1000000):∃y,bk (c.map nv)=some y∧(0≤y↔c.all aK=false):=by
 have key:=tZ (b:=aZ (c.map nv)) (fun i:Int=>0≤i∧i≤c.length∧∀j:Nat,j<i.toNat→∀x,c[j]? =some x→aK x=true) (fun i=>(c.length - i).toNat)
  (fun y=>match y with| .inl r=>0≤r∧c.all aK=false| .inr _=>c.all aK=true) (fun i ⟨h1,h2,h3⟩=>?_) 0 ⟨by omega,by omega,fun j hj=>absurd hj (by simp)⟩
 ·obtain⟨y,hy,hp⟩:=key
  unfold bk
  rw[hy]
  cases y with
  |inl r=>exact⟨r,rfl,fun _=>hp.2,fun _=>hp.1⟩
  |inr u=>exact⟨-1,rfl,fun h=>absurd h (by omega),fun h=>by rw[hp] at h;cases h⟩
 ·have hlen:((c.map nv).length:Int)=c.length:=by rw[bT]
  by_cases hi:i<c.length
  ·have DN:i.toNat<c.length:=by omega
   have jK:(c.map nv)[i.toNat]! =nv c[i.toNat]:=by rw[cz _ _ (by rw[bT];exact DN),List.getElem_map]
   have hb:aZ (c.map nv) i=cnd (!aK c[i.toNat]) (some (.inr (.inl i))) (some (.inl (i64.wrap (i+(1:Int))))):=by
    unfold aZ
    rw[hlen,de _ _ hi,aL (by omega),jK,L9]
    rfl
   cases hg:aK c[i.toNat] with
   |false=>
    refine .inr ⟨.inl i,by rw[hb,hg];rfl,h1,?_⟩
    rw[List.all_eq_false]
    exact⟨c[i.toNat],pM _,by rw[hg];simp⟩
   |true=>
    refine .inl ⟨i+1,by rw[hb,hg,fb (by omega) (by omega)];rfl,⟨by omega,by omega,fun j hj x hx=>?_⟩,by omega⟩
    rcases gW j i.toNat with h4|h4
    ·exact h3 j h4 x hx
    ·obtain rfl:j=i.toNat:=by omega
     rw[c0 DN] at hx
     injection hx with hx
     rw[←hx];exact hg
  ·refine .inr ⟨.inr (),?_,cX.2 fun x hx=>?_⟩
   ·unfold aZ
    rw[hlen,cK _ _ hi]
   ·obtain⟨j,hj⟩:=yn hx
    exact h3 j (by have:=(fP.1 hj).1;omega) x hj
theorem w_good(k:Nu)(c:List Nu)(h:c.length≤1000000):ax Tryz.prog 109 [.ag (dC (az.f k)++[.e (slE az c)])] (dB (aK k&&c.all aK)):=by
 obtain⟨y,hy,BR⟩:=G_idx h
 have hgood:jD ⟨k.1,c.map nv⟩=some (aK k&&c.all aK):=by
  unfold jD dp bf
  dsimp only
  rw[iJ k.2,hy]
  show _=some (aK k&&c.all aK)
  have e:(dT k.1).isSome=aK k:=(eO k).symm
  rw[e]
  cases hk:aK k with
  |false=>rfl
  |true=>
   by_cases h0:0≤y
   ·have:=BR.1 h0
    rw[this]
    simp[bnd,cnd,h0]
   ·have:c.all aK=true:=by
     cases hc:c.all aK with
     |true=>rfl
     |false=>exact absurd (BR.2 hc) h0
    rw[this]
    simp[bnd,cnd,h0]
 have hw:=vT hgood
 have hd:dG r6 ⟨k.1,c.map nv⟩=.ag (dC (az.f k)++[.e (slE az c)]):=by
  show D.ag ((ai.f k.1++[slE ai (c.map nv)]).map D.e)=_
  have:slE ai (c.map nv)=slE az c:=by
   unfold slE
   rw[bT,List.flatMap_map]
   rfl
  rw[this,jz]
  rfl
 rw[hd] at hw
 exact hw
def yp(q:Nu)(xc:List Nu)(but:Int):Nat→List Nu→List Nu
 |0,l=>l
 |t+1,l=>if (t:Int)=but then yp q xc but t l else (yp q xc but t l).set t (od (yp q xc but t l)[t]! (pd q xc[t]!))
theorem sK(q:Nu)(xc:List Nu)(but:Int):∀(t:Nat) (l:List Nu),(yp q xc but t l).length=l.length
 |0,l=>rfl
 |t+1,l=>by
  unfold yp
  split
  ·exact sK q xc but t l
  ·rw[eL];exact sK q xc but t l
def CK(q xk lk:Nu):Nu:=if dv q=0 then lk else od lk (pd q xk)
def zT(q:Nu)(xc:List Nu)(but:Int)(lc:List Nu):List Nu:=if dv q=0 then lc else yp q xc but lc.length lc
structure Row where
 k:Nu
 c:List Nu
 b:Int
instance:Inhabited Row:=⟨⟨default,[],0⟩⟩
structure Dic where
 rows:List Row
 gk:Nu
 gc:List Nu
 n:Int
 piv:Int
 most:Int
def iM(k:Nu)(c:List Nu):Bool:=aK k&&c.all aK
def lkO(d:Dic):Option Nat→Nu|none=>d.gk|some j=>d.rows[j]!.k
def lcO(d:Dic):Option Nat→List Nu|none=>d.gc|some j=>d.rows[j]!.c
def Ir(d:Dic)(o:Option Nat)(k:Nu)(c:List Nu):Dic:=match o with
 |none=>⟨d.rows,k,c,d.n,d.piv,d.most⟩
 |some j=>⟨d.rows.set j ⟨k,c,d.rows[j]!.b⟩,d.gk,d.gc,d.n,d.piv,d.most⟩
def MJ(r1:Row)(s:Nat)(d:Dic)(o:Option Nat):Dic:=Ir d o (CK (lcO d o)[s]! r1.k (lkO d o)) (zT (lcO d o)[s]! r1.c s ((lcO d o).set s (nOf 0)))
def uF(r1:Row)(s:Nat)(p:Dic×Bool)(o:Option Nat):Dic×Bool:=(MJ r1 s p.1 o,p.2&&iM (CK (lcO p.1 o)[s]! r1.k (lkO p.1 o)) (zT (lcO p.1 o)[s]! r1.c s ((lcO p.1 o).set s (nOf 0))))
theorem yq(q:Nu)(xc:List Nu)(but:Int)(lc:List Nu):(zT q xc but lc).length=lc.length:=by
 unfold zT
 split
 ·rfl
 ·exact sK _ _ _ _ _
def vZ(at' i:Nat):List (Option Nat):=none::((List.range i).filter fun j=>decide (j≠at')).map some
theorem Na {at' i:Nat}{o:Option Nat}(h:o∈vZ at' i):o≠some at'∧∀j,o=some j→j<i:=by
 rcases kj.1 h with rfl|h
 ·exact⟨fun e=>(by cases e),fun j e=>(by cases e)⟩
 ·obtain⟨j,hj,rfl⟩:=sH.1 h
  obtain⟨h1,h2⟩:=List.mem_filter.1 hj
  exact⟨fun e=>by injection e with e;simp[e] at h2,fun j' e=>by injection e with e;rw[←e];exact pw.1 h1⟩
def pO(r1:Row)(s at' i:Nat)(p:Dic×Bool)(u:Nat):Dic×Bool:=((vZ at' i).take u).foldl (uF r1 s) p
def rA(p:Nu):Nat→List Nu→List Nu
 |0,l=>l
 |t+1,l=>(rA p t l).set t (ri (gX (rA p t l)[t]!) p)
theorem yO(p:Nu):∀(t:Nat) (l:List Nu),(rA p t l).length=l.length
 |0,_=>rfl
 |t+1,l=>by unfold rA;rw[eL];exact yO p t l
def bZ(r:Row)(s:Nat):Row:=⟨ri (gX r.k) r.c[s]!,((rA r.c[s]! r.c.length r.c).set s (nOf 0)).set r.b.toNat (ri (nOf 1) r.c[s]!),s⟩
def eg(d:Dic)(at' s:Nat):Int×Dic:=
 if d.most≤d.piv then (220,d) else
 let r1:=bZ d.rows[at']! s
 let p:=pO r1 s at' d.rows.length (⟨d.rows.set at' r1,d.gk,d.gc,d.n,d.piv+1,d.most⟩,iM r1.k r1.c) (vZ at' d.rows.length).length
 (if p.2 then 0 else 30,p.1)
def ew(l:List Row)(v:Int):Int:=match l.findIdx? fun r=>decide (r.b=v) with
 |some i=>i
 |none=>-1
theorem LL {l:List Row}{v:Int}{i:Nat}{r:Row}(hr:l[i]? =some r)(h:r.b=v)(nH:∀(j:Nat) (r':Row),j<i→l[j]? =some r'→r'.b≠v):ew l v=i:=by
 obtain⟨h1,h2⟩:=fP.1 hr
 have:l.findIdx? (fun r=>decide (r.b=v))=some i:=by
  rw[pK]
  exact⟨h1,by rw[h2];exact aF h,fun j hj=>by have:=nH j l[j] hj (c0 (by omega));simpa using this⟩
 unfold ew;rw[this]
theorem Jj {l:List Row}{v:Int}(nH:∀(j:Nat) (r':Row),l[j]? =some r'→r'.b≠v):ew l v=-1:=by
 have:l.findIdx? (fun r=>decide (r.b=v))=none:=by
  rw[zK]
  intro r hr
  obtain⟨j,hj⟩:=yn hr
  exact bH (nH j r hj)
 unfold ew;rw[this]
def fj(d:Dic)(nn:Nat):List Nu:=(d.gc.drop (nn+1)).map gX
def uO(l:List Row)(s:Nat)(p:Int×Nu)(i:Nat):Option (Int×Nu):=
 let r:=l[i]!
 if 0≤dv r.c[s]! then some p else
 let q:=ri r.k (gX r.c[s]!)
 if aK q=false then none else
 if p.1<0∨pD q p.2<0∨(pD q p.2=0∧r.b<l[p.1.toNat]!.b) then some ((i:Int),q) else some p
def pf(l:List Row)(s:Nat)(z:Nu):Nat→Option (Int×Nu)
 |0=>some (-1,z)
 |i+1=>match pf l s z i with
  |none=>none
  |some p=>uO l s p i
section
theorem iR(a:Nu):(dC (az.f a)).length=36:=by rw[eK,az.h];rfl
section
variable {dr:Bool} {ty:TypeId} {ev:Operand→D} {hp hp':Hp} {k o:Nat} {F F2:List D} {F':List D→List D} {x y:Operand} {a b:Nu}
theorem ldN(L:Pt F o (dC (az.f a)) F')(hv:hp.vars.lookup k=some F)(hk:k<hp.next)(hx:ev x=.pt k o:=by exact rfl):AVC Tryz.prog tbl dr (.load 43 x) ty ev hp (Kq (dG az a) hp):=Aw L hv hk ay (iR a) rfl hx
theorem stN(L:Pt F o (dC (az.f a)) F')(hv:hp.vars.lookup k=some F)(h2:F' (dC (az.f b))=F2)(hx:ev x=.pt k o:=by exact rfl)(hy:ev y=dG az b:=by exact rfl)(he:hp.set k F2=hp':=by exact rfl):AVC Tryz.prog tbl dr (.store 43 x y) ty ev hp (Kq .top hp'):=
 EN (ys:=dC (az.f b)) L hv (by rw[hy];rfl) ay (iR a) (by rw[iR,iR]) h2 hx he
theorem Pt.idN(a:Nu):Pt (dC (az.f a)) 0 (dC (az.f a)) id:=Pt.of [] [] rfl (by simp) (fun y=>by simp)
end
section
variable {vs vs2 oG:List (Nat×List D)} {lv:List (Nat×Nat×Nat×TypeId)} {N n2 k:Nat}
theorem cE.lt(hok:cE ⟨vs,lv,N⟩){ds:List D}(h:vs.lookup k=some ds):k<N:=(hok.var k ds h).1
theorem cE.ne(hok:cE ⟨vs,lv,N⟩){ds:List D}(h:vs.lookup k=some ds){m:Nat}(hm:N≤m):k≠m:=by have:=hok.lt h;omega
theorem ak {j m:Nat}{b:List D}{l:List (Nat×List D)}{r:Option (List D)}(hj:j≠m)(h:l.lookup j=r):((m,b)::l).lookup j=r:=(ar hj).trans h
theorem Pt.ids {F bs:List D}{o:Nat}{F':List D→List D}(L:Pt F o bs F'){ys:List D}(hl:ys.length=bs.length)(hF:F.all (D.idsC N)=true)(hy:ys.all (D.idsC N)=true):(F' ys).all (D.idsC N)=true:=by
 rw[←L.p ys hl,lN,lN,bq,bq]
 have hF':=cX.1 hF
 exact⟨⟨cX.2 fun d hd=>hF' d (List.mem_of_mem_take hd),hy⟩,cX.2 fun d hd=>hF' d (List.mem_of_mem_drop hd)⟩
theorem eJ(l:List E):(dC l).all (D.idsC N)=true:=FT (fun _=>rfl) l
theorem leave {x:Cx}{tm tm':List (Nat×D)}{rs:List ResultVar}{r:D}(h0:x.hp0=⟨vs,lv,N⟩)(hok:cE ⟨vs,lv,N⟩)(hN:N≤n2)(ht:∀p∈tm',(∃d,tm.lookup p.1=some d∧(p.2=d∨p.2=d.ex))∧p.2.idsB N=true)
  (hv:∀j ds,oG.lookup j=some ds→(vs2.lookup j=some ds∧j<N∧ds.all (D.idsC N)=true)) (hr:r9 tbl rs tm' ⟨oG,lv,N⟩ r):∃tm',Wk x tm ⟨vs2,lv,n2⟩ tm' ⟨oG,lv,N⟩∧r9 tbl rs tm' ⟨oG,lv,N⟩ r:=by
 refine⟨tm',Wk.look (by rw[h0];exact aB _) hN ht (fun j ds h=>?_) (fun id y h=>⟨hok.tok id y h,h⟩),hr⟩
 obtain⟨h1,h2,h3⟩:=hv j ds h
 exact⟨h2,ds,h1,qj _,h3⟩
theorem Nt {x:Cx}{tm:List (Nat×D)}{F F2:List D}(h0:x.hp0=⟨vs,lv,N⟩)(hok:cE ⟨vs,lv,N⟩)(hN:N≤n2)(hk:vs.lookup k=some F)(hF:F2.all (D.idsC N)=true)(NK:vs2.lookup k=some F2)(hv:∀j ds,j≠k→vs.lookup j=some ds→vs2.lookup j=some ds):
  ∃tm',Wk x tm ⟨vs2,lv,n2⟩ tm' ⟨(k,F2)::vs,lv,N⟩∧r9 tbl [] tm' ⟨(k,F2)::vs,lv,N⟩ (.tu []):=by
 refine leave (tm':=[]) h0 hok hN (fun p hp=>absurd hp (pJ)) (fun j ds h=>?_) rfl
 by_cases hj:j=k
 ·subst hj
  have:some F2=some ds:=by rw[←h];exact aa.symm
  injection this with this
  subst this
  exact⟨NK,hok.lt hk,hF⟩
 ·have h1:vs.lookup j=some ds:=by rw[←h];exact (ar hj).symm
  exact⟨hv j ds hj h1,hok.lt h1,(hok.var j ds h1).2⟩
theorem h_sum {o kq:Nat}{F:List D}{F':List D→List D}{q a y:Nu}(hk:vs.lookup k=some F)(hN:k<N)(L:Pt F o (dC (az.f a)) F')(hq:vs.lookup kq=some (dC (az.f q)))(hqN:kq<N):
  HC Tryz.prog 156 [.pt k o,dG az y,.pt kq 0] ⟨vs,lv,N⟩ (.tu []) ⟨(k,F' (dC (az.f (od a (pd q y)))))::vs,lv,N⟩:=by
 refine HC.of (rs:=[]) tok Tryz.func156 rfl rfl (dq rfl) rfl (fun cx hx h0 hok=>?_)
 simp only[fL,Nat.reduceAdd,bJ]
 refine rs hx fun K hK=>?_
 refine sa ?_
 refine .nil (hK _ _ ?_)
 have w8:=hok.ne hk (aB N)
 have hqn:=hok.ne hq (aB N)
 refine rqd [29,66] hx fun K hK=>?_
 iterate 3 refine sa ?_
 refine s1 (ldN L (ak w8 hk) (wE hN)) ?_
 refine s1 (ldN (Pt.idN q) (ak hqn hq) (wE hqN)) ?_
 refine s1 (ldN (Pt.idN y) aa (eT _)) ?_
 refine cq (w_Mul q y) ?_
 refine cq (w_Add a _) ?_
 refine sa ?_
 refine s0 (stN L (ak w8 hk) rfl) ?_
 exact .nil (hK _ _ (Nt h0 hok (jt _) hk (L.ids (by rw[iR,iR]) (hok.var k F hk).2 (eJ _)) aa fun j ds hj h=>ak hj (ak (hok.ne h (aB N)) h)))
theorem OA {o kp:Nat}{F:List D}{F':List D→List D}{p a:Nu}(hk:vs.lookup k=some F)(hN:k<N)(L:Pt F o (dC (az.f a)) F')(hq:vs.lookup kp=some (dC (az.f p)))(hqN:kp<N):
  HC Tryz.prog 152 [.pt k o,.pt kp 0] ⟨vs,lv,N⟩ (.tu []) ⟨(k,F' (dC (az.f (ri (gX a) p))))::vs,lv,N⟩:=by
 refine HC.of (rs:=[]) tok Tryz.func152 rfl rfl (dq rfl) rfl (fun cx hx h0 hok=>?_)
 simp only[fL,Nat.reduceAdd,bJ]
 refine rqd [42,153] hx fun K hK=>?_
 iterate 3 refine sa ?_
 refine s1 (ldN L hk hN) ?_
 refine cq (GI a) ?_
 refine s1 (ldN (Pt.idN p) hq hqN) ?_
 refine cq (MA _ p) ?_
 refine sa ?_
 refine s0 (stN L hk rfl) ?_
 exact .nil (hK _ _ (Nt h0 hok (aB _) hk (L.ids (by rw[iR,iR]) (hok.var k F hk).2 (eJ _)) aa fun j ds hj h=>ak hj h))
theorem cE.cons {M:Nat}{ds:List D}(hok:cE ⟨vs,lv,N⟩)(hN:N≤M)(hk:k<M)(hd:ds.all (D.idsC M)=true):cE ⟨(k,ds)::vs,lv,M⟩:=by
 refine⟨fun j es h=>?_,fun id e h=>d8 (hok.tok id e h) hN⟩
 by_cases hj:j=k
 ·subst hj
  have:some ds=some es:=by rw[←h];exact aa.symm
  injection this with this
  subst this
  exact⟨hk,hd⟩
 ·obtain⟨h1,h2⟩:=hok.var j es (by rw[←h];exact (ar hj).symm)
  exact⟨d8 h1 hN,cX.2 fun d hd=>D.idsC_le hN (cX.1 h2 d hd)⟩
def bU(n:Nat)(tm tm':List (Nat×D)):Prop:=∀p∈tm',(∃d,tm.lookup p.1=some d∧(p.2=d∨p.2=d.ex))∧p.2.idsB n=true
theorem bU.nil {n:Nat}{tm:List (Nat×D)}:bU n tm []:=fun p hp=>absurd hp (pJ)
theorem bU.cons {n t:Nat}{d:D}{tm tm':List (Nat×D)}(h2:bU n tm tm')(h:tm.lookup t=some d:=by exact rfl)(hi:d.idsB n=true:=by exact rfl):bU n tm ((t,d)::tm'):=fun p hp=>by
 rcases kj.1 hp with rfl|hp
 ·exact⟨⟨d,h,.inl rfl⟩,hi⟩
 ·exact h2 p hp
theorem wkS {x:Cx}{tm tm':List (Nat×D)}{n':Nat}(h0:x.hp0.next≤n')(hn:n'≤n2)(hok:cE ⟨oG,lv,n'⟩)(hv:∀j ds,oG.lookup j=some ds→vs2.lookup j=some ds)(ht:bU n' tm tm'):Wk x tm ⟨vs2,lv,n2⟩ tm' ⟨oG,lv,n'⟩:=
 Wk.look h0 hn ht (fun j ds h=>⟨(hok.var j ds h).1,ds,hv j ds h,qj _,(hok.var j ds h).2⟩) fun id y h=>⟨hok.tok id y h,h⟩
theorem uN {j:Nat}{a b:List D}{l:List (Nat×List D)}:((k,b)::(k,a)::l).lookup j=((k,b)::l).lookup j:=by
 by_cases hj:j=k
 ·subst hj;rw[aa,aa]
 ·rw[ar hj,ar hj,ar hj]
theorem cu {j a:Nat}{x ds:List D}{l:List (Nat×List D)}(h:((a,x)::l).lookup j=some ds):(j=a∧ds=x)∨(j≠a∧l.lookup j=some ds):=by
 by_cases hj:j=a
 ·subst hj
  have:some x=some ds:=by rw[←h];exact aa.symm
  injection this with this
  exact .inl ⟨rfl,this.symm⟩
 ·exact .inr ⟨hj,by rw[←h];exact (ar hj).symm⟩
theorem Nr {x:Cx}{tm:List (Nat×D)}(h0:x.hp0=⟨vs,lv,N⟩)(hN:N≤n2)(hok:cE ⟨oG,lv,N⟩)(hv:∀j ds,oG.lookup j=some ds→vs2.lookup j=some ds):∃tm',Wk x tm ⟨vs2,lv,n2⟩ tm' ⟨oG,lv,N⟩∧r9 tbl [] tm' ⟨oG,lv,N⟩ (.tu []):=
 ⟨[],wkS (by rw[h0];exact aB _) hN hok hv bU.nil,rfl⟩
def bp(a:Nu)(kc n:Nat):List D:=dC (az.f a)++[.ow kc 0 36 n]
theorem cf(a:Nu)(kc n:Nat):(bp a kc n).length=37:=by unfold bp;rw[cR,iR];rfl
theorem iT {M:Nat}{a:Nu}{kc n:Nat}(h:kc<M):(bp a kc n).all (D.idsC M)=true:=by
 unfold bp;rw[lN,eJ];simp[D.idsC,h]
structure oD(F:List D)(o:Nat)(a:Nu)(kc n:Nat)(A C:List D):Prop where
 len:A.length=o
 eq:F=A++bp a kc n++C
section
variable {F A C:List D} {o kc n:Nat} {a:Nu}
theorem oD.pk(h:oD F o a kc n A C):Pt F o (dC (az.f a)) (fun ys=>A++(ys++[.ow kc 0 36 n])++C):=
 Pt.of A ([.ow kc 0 36 n]++C) h.len (by rw[h.eq];unfold bp;simp only[dy]) fun y=>by simp only[dy]
theorem oD.pc(h:oD F o a kc n A C):Pt F (o+36) [.ow kc 0 36 n] (fun ys=>A++(dC (az.f a)++ys)++C):=
 Pt.of (A++dC (az.f a)) C (by rw[cR,h.len,iR]) (by rw[h.eq];unfold bp;simp only[dy]) fun y=>by simp only[dy]
theorem oD.pa(h:oD F o a kc n A C):Pt F o (bp a kc n) (fun ys=>A++ys++C):=Pt.of A C h.len h.eq fun y=>rfl
theorem oD.self(a:Nu)(kc n:Nat):oD (bp a kc n) 0 a kc n [] []:=⟨rfl,by simp⟩
theorem oD.new(h:oD F o a kc n A C)(b:Nu):oD (A++bp b kc n++C) o b kc n A C:=⟨h.len,rfl⟩
end
theorem Pt.elN(l:List Nu)(i:Nat)(h:i<l.length):Pt (dC ((cW az).f l)) (0+i*36) (dC (az.f l[i]!)) (fun ys=>(dC ((cW az).f l)).take (0+i*36)++ys++(dC ((cW az).f l)).drop (0+i*36+36)):=by
 have L:=am.seqW az l i h
 have e:az.sz=36:=rfl
 rw[e] at L
 refine⟨?_,?_,fun ys hy=>by rw[iR]⟩
 ·have:=L.le
  rw[iR,eK];exact this
 ·have:=L.g
  rw[iR]
  unfold dC
  rw[←List.map_drop,←Aq]
  exact congrArg _ this
theorem Pt.elN_set(l:List Nu)(i:Nat)(h:i<l.length)(b:Nu):(dC ((cW az).f l)).take (0+i*36)++dC (az.f b)++(dC ((cW az).f l)).drop (0+i*36+36)=dC ((cW az).f (l.set i b)):=by
 have L:=am.seqW az l i h
 have e:az.sz=36:=rfl
 rw[e] at L
 have:=L.p b
 rw[e] at this
 unfold dC
 rw[←Aq,←List.map_drop,←jz,←jz]
 exact congrArg _ this
end
end
section
theorem cg {t:Nat}(h:t<9223372036854775807):i64.wrap ((t:Int)+1)=((t+1:Nat):Int):=by
 rw[fb (by omega) (by omega)];omega
section
variable {vs:List (Nat×List D)} {lv:List (Nat×Nat×Nat×TypeId)} {N kl ol kc kx n:Nat} {F A C:List D} {lk xk q:Nu} {lc xc:List Nu} {but:Int}
theorem h_add(hl:vs.lookup kl=some F)(L:oD F ol lk kc n A C)(hc:vs.lookup kc=some (dC ((cW az).f lc)))(hlc:lc.length=n)(vu:vs.lookup kx=some (dC ((cW az).f xc)))(hxc:xc.length=n)(h1:kl≠kc)(h2:kx≠kc)(h3:kx≠kl)(hn:n≤1000000):
  HC Tryz.prog 108 [.pt kl ol,dG az q,.ag (bp xk kx n),dI .i64 but] ⟨vs,lv,N⟩ (.tu []) ⟨(kc,dC ((cW az).f (zT q xc but lc)))::(kl,A++bp (CK q xk lk) kc n++C)::vs,lv,N⟩:=by
 refine HC.of (rs:=[]) tok Tryz.func108 rfl rfl (dq rfl) rfl (fun cx hx h0 hok=>?_)
 simp only[fL,Nat.reduceAdd,bJ]
 refine rs hx fun K hK=>?_
 refine sa ?_
 refine s1 (gD (cs:=bp xk kx n)) ?_
 refine .nil (hK _ _ ?_)
 have hlN:=hok.lt hl
 have hcN:=hok.lt hc
 have hxN:=hok.lt vu
 have hFi:(A++bp lk kc n++C).all (D.idsC N)=true:=by rw[←L.eq];exact (hok.var kl F hl).2
 have AF:∀(lk':Nu) (lc':List Nu) (M:Nat),N≤M→cE ⟨(kc,dC ((cW az).f lc'))::(kl,A++bp lk' kc n++C)::vs,lv,M⟩:=fun lk' lc' M hM=>by
  refine (cE.cons (N:=M) (hok.cons hM (d8 hlN hM) ?_) (aB _) (d8 hcN hM) (eJ _))
  rw[lN,lN,bq,bq] at hFi ⊢
  exact⟨⟨cX.2 fun d hd=>D.idsC_le hM (cX.1 hFi.1.1 d hd),iT (d8 hcN hM)⟩,cX.2 fun d hd=>D.idsC_le hM (cX.1 hFi.2 d hd)⟩
 have hFi2:=AF
 have sU:kc≠kl:=fun e=>h1 e.symm
 refine AW.seq (rs hx fun K hK=>?_)
 refine s1 (ldN (Pt.idN q) (ak (by omega) aa) (show N<N+1+1 by omega)) ?_
 refine cq (wN q) ?_
 refine sa ?_
 refine .nil (hK _ _ (AW.condS rfl (fun hb=>?_) (fun hb=>?_)))
 ·have hq:dv q=0:=cj hb
  refine AW.ret (Nr h0 (by omega) (AF _ _ N (aB _)) fun j ds h=>?_)
  unfold zT CK at h
  rw[if_pos hq,if_pos hq] at h
  have hj:=(AF lk lc N (aB _)).lt h
  refine ak (show j≠N+1 by omega) (ak (show j≠N by omega) ?_)
  rcases cu h with⟨rfl,rfl⟩|⟨_,h⟩
  ·exact hc
  rcases cu h with⟨rfl,rfl⟩|⟨_,h⟩
  ·rw[←L.eq];exact hl
  ·exact h
 have hq:¬dv q=0:=dV hb
 refine AW.skip (rs hx fun K hK=>?_)
 refine s1 (CU (ks:=[N])) ?_
 refine sa ?_
 refine .nil (hK _ _ (rsd [] hx fun K hK=>?_))
 iterate 5 refine sa ?_
 refine s1 (ldN (oD.self xk kx n).pk aa (show N+1<N+1+1 by omega)) ?_
 refine q1 (sHF (h_sum (vs:=(N+1,bp xk kx n)::(N,dC (az.f q))::vs) (N:=N+1+1) (ak (show kl≠N+1 by omega) (ak (show kl≠N by omega) hl)) (show kl<N+1+1 by omega) L.pk (ak (show N≠N+1 by omega) aa) (show N<N+1+1 by omega)) rfl) ?_
 refine .nil (hK _ _ (rs hx fun K hK=>?_))
 iterate 3 refine sa ?_
 refine s1 (j8 (L.new (od lk (pd q xk))).pc aa (show kl<N+1+1 by omega) tbI) ?_
 iterate 2 refine sa ?_
 refine .nil (hK _ _ ?_)
 have Fz:∀t,cE ⟨(kc,dC ((cW az).f (yp q xc but t lc)))::(kl,A++bp (od lk (pd q xk)) kc n++C)::(N+1,bp xk kx n)::(N,dC (az.f q))::vs,lv,N+1+1⟩:=fun t=>by
  have IX:cE ⟨(N+1,bp xk kx n)::(N,dC (az.f q))::vs,lv,N+1+1⟩:=(cE.cons (N:=N+1) (hok.cons (jt N) (eT N) (eJ _)) (jt _) (eT _) (iT (by omega)))
  refine cE.cons (N:=N+1+1) (IX.cons (aB _) (show kl<N+1+1 by omega) ?_) (aB _) (show kc<N+1+1 by omega) (eJ _)
  exact ((AF (od lk (pd q xk)) lc (N+1+1) (by omega)).var kl _ (ak h1 aa)).2
 have hTm:∀(t:Nat) (tm:List (Nat×D)),tm.lookup 0=some (.pt kl ol)→tm.lookup 3=some (dI .i64 but)→tm.lookup 6=some (.pt (N+1) 0)→tm.lookup 8=some (.fn 156 [N])→tm.lookup 25=some (dI .i64 n)→tm.lookup 26=some (dI .i64 t)→bU (N+1+1) tm [(0,.pt kl ol),(3,dI .i64 but),(6,.pt (N+1) 0),(8,.fn 156 [N]),(25,dI .i64 n),(26,dI .i64 t)]:=fun t tm a b c d e f=>
  ((((((bU.nil.cons f).cons e).cons d (cX.2 fun k hk=>aF (by rw[pI.1 hk];omega))).cons c (aF (show N+1<N+1+1 by omega))).cons b).cons a (aF (show kl<N+1+1 by omega)))
 refine AW.block ?_
 refine AW.loopW (fun t:Nat=>[(0,.pt kl ol),(3,dI .i64 but),(6,.pt (N+1) 0),(8,.fn 156 [N]),(25,dI .i64 n),(26,dI .i64 t)])
  (fun t=>⟨(kc,dC ((cW az).f (yp q xc but t lc)))::(kl,A++bp (od lk (pd q xk)) kc n++C)::(N+1,bp xk kx n)::(N,dC (az.f q))::vs,lv,N+1+1⟩) (fun t=>t≤n) (fun t=>n - t) 0 ?_ (cQ _) ?_
 ·refine wkS (by rw[h0];show N≤N+1+1;omega) (aB _) (Fz 0) (fun j ds h=>?_) (hTm 0 _ rfl rfl rfl rfl rfl rfl)
  rcases cu h with⟨rfl,rfl⟩|⟨_,h⟩
  ·exact ak sU (ak (show j≠N+1 by omega) (ak (show j≠N by omega) hc))
  ·exact h
 ·intro t ht
  have Oj:(yp q xc but t lc).length=n:=by rw[sK,hlc]
  refine rs hx fun K hK=>?_
  refine sa ?_
  refine .nil (hK _ _ (AW.seq (AW.condS rfl (fun hb=>?_) (fun hb=>?_))))
  rotate_left
  ·refine AW.exit ?_
   have htn:t=n:=by have:=dV hb;omega
   refine Nr h0 (by omega) (AF _ _ N (aB _)) fun j ds h=>?_
   have hj:=(AF _ _ N (aB _)).lt h
   unfold zT CK at h
   rw[if_neg hq,if_neg hq,hlc] at h
   rw[htn]
   rcases cu h with⟨rfl,rfl⟩|⟨Mj,h⟩
   ·exact aa
   rcases cu h with⟨rfl,rfl⟩|⟨Dk,h⟩
   ·exact ak h1 aa
   ·exact ak Mj (ak Dk (ak (show j≠N+1 by omega) (ak (show j≠N by omega) h)))
  have htn:t<n:=by have:=cj hb;omega
  refine AW.skip (AW.seq (AW.block (rs hx fun K hK=>?_)))
  iterate 2 refine sa ?_
  refine .nil (hK _ _ (rs hx fun K hK=>?_))
  iterate 3 refine sa ?_
  refine .nil (hK _ _ (AW.condS rfl (fun hb=>?_) (fun hb=>?_)))
  ·have hbt:¬(t:Int)=but:=cj hb
   refine rqd [] hx fun K hK=>?_
   iterate 4 refine sa ?_
   refine s1 (j8 (L.new (od lk (pd q xk))).pc (ak h1 aa) (show kl<N+1+1 by omega) tbI) ?_
   refine sa ?_
   refine s1 (vf (v:=(t:Int)) (n:=n) ⟨by omega,by omega⟩ tbI ay) ?_
   refine sa ?_
   refine s1 (j8 (oD.self xk kx n).pc (ak (show N+1≠kc by omega) (ak (show N+1≠kl by omega) aa)) (show N+1<N+1+1 by omega) tbI) ?_
   refine sa ?_
   refine s1 (vf (v:=(t:Int)) (n:=n) ⟨by omega,by omega⟩ tbI ay) ?_
   refine s1 (ldN (Pt.elN xc t (by omega)) (ak h2 (ak h3 (ak (show kx≠N+1 by omega) (ak (show kx≠N by omega) vu)))) (show kx<N+1+1 by omega)) ?_
   refine q1 (sHF (h_sum aa (show kc<N+1+1 by omega) (Pt.elN (yp q xc but t lc) t (by omega)) (ak (show N≠kc by omega) (ak (show N≠kl by omega) (ak (show N≠N+1 by omega) aa))) (show N<N+1+1 by omega)) rfl) ?_
   refine .nil (hK _ _ (rq hx fun K hK=>?_))
   iterate 2 refine sa ?_
   refine .nil (hK _ _ ?_)
   rw[cg (by omega)]
   refine⟨t+1,wkS (by rw[h0];show N≤N+1+1;omega) (aB _) (Fz (t+1)) (fun j ds h=>?_) (hTm (t+1) _ rfl rfl rfl rfl rfl rfl),htn,by omega⟩
   rw[Pt.elN_set _ _ (by omega),uN]
   unfold yp at h
   rw[if_neg hbt] at h
   exact h
  ·have hbt:(t:Int)=but:=by have:=dV hb;simpa using this
   refine AW.skip (rq hx fun K hK=>?_)
   iterate 2 refine sa ?_
   refine .nil (hK _ _ ?_)
   rw[cg (by omega)]
   refine⟨t+1,wkS (by rw[h0];show N≤N+1+1;omega) (aB _) (Fz (t+1)) (fun j ds h=>?_) (hTm (t+1) _ rfl rfl rfl rfl rfl rfl),htn,by omega⟩
   unfold yp at h
   rw[if_pos hbt] at h
   exact h
end
end
section
def zN:List E:=(List.replicate 2 (E.lit (.bool false))++List.replicate 16 (E.lit (.int .u32 0)))++(List.replicate 2 (E.lit (.bool false))++List.replicate 16 (E.lit (.int .u32 0)))
theorem H2 {dr:Bool}{ty:TypeId}{ev:Operand→D}{vs:List (Nat×List D)}{lv:List (Nat×Nat×Nat×TypeId)}{N:Nat}:AVC Tryz.prog tbl dr (.alloc 43) ty ev ⟨vs,lv,N⟩ (Kq (.pt N 0) ⟨(N,dC zN)::vs,lv,N+1⟩):=bm ay
theorem Pt.zN:Pt (dC zN) 0 (dC zN) id:=Pt.of [] [] rfl (by simp) (fun y=>by simp)
theorem stZ {dr:Bool}{ty:TypeId}{ev:Operand→D}{hp hp':Hp}{k:Nat}{x y:Operand}{b:Nu}(hv:hp.vars.lookup k=some (dC zN))(hx:ev x=.pt k 0:=by exact rfl)(hy:ev y=dG az b:=by exact rfl)(he:hp.set k (dC (az.f b))=hp':=by exact rfl):AVC Tryz.prog tbl dr (.store 43 x y) ty ev hp (Kq .top hp'):=
 EN (ys:=dC (az.f b)) Pt.zN hv (by rw[hy];rfl) ay rfl (by rw[iR];rfl) rfl hx he
theorem iaN {dr:Bool}{ty:TypeId}{ev:Operand→D}{hp:Hp}{k i n:Nat}{kn:IntKind}{x y:Operand}(h:i<n)(hx:ev x=.ow k 0 36 n:=by exact rfl)(hy:ev y=dI kn (i:Int):=by exact rfl):AVC Tryz.prog tbl dr (.indexAddr 22 x y) ty ev hp (Kq (.pt k (i*36)) hp):=by
 have:=vf (P:=Tryz.prog) (tb:=tbl) (dr:=dr) (ty:=ty) (ev:=ev) (hp:=hp) (x:=x) (y:=y) (v:=(i:Int)) (n:=n) (kn:=kn) ⟨by omega,by omega⟩ aM ay rfl hx rfl hy
 rwa[cl,bJ] at this
theorem iaR {dr:Bool}{ty:TypeId}{ev:Operand→D}{hp:Hp}{k i n:Nat}{kn:IntKind}{x y:Operand}(h:i<n)(hx:ev x=.ow k 0 38 n:=by exact rfl)(hy:ev y=dI kn (i:Int):=by exact rfl):AVC Tryz.prog tbl dr (.indexAddr 71 x y) ty ev hp (Kq (.pt k (i*38)) hp):=by
 have:=vf (P:=Tryz.prog) (tb:=tbl) (dr:=dr) (ty:=ty) (ev:=ev) (hp:=hp) (x:=x) (y:=y) (v:=(i:Int)) (n:=n) (kn:=kn) ⟨by omega,by omega⟩ z4 sf rfl hx rfl hy
 rwa[cl,bJ] at this
theorem Pt.el(l:List Nu)(i:Nat)(h:i<l.length):Pt (dC ((cW az).f l)) (i*36) (dC (az.f l[i]!)) (fun ys=>(dC ((cW az).f l)).take (i*36)++ys++(dC ((cW az).f l)).drop (i*36+36)):=by
 have:=Pt.elN l i h
 rwa[bJ] at this
theorem Pt.el_set(l:List Nu)(i:Nat)(h:i<l.length)(b:Nu):(dC ((cW az).f l)).take (i*36)++dC (az.f b)++(dC ((cW az).f l)).drop (i*36+36)=dC ((cW az).f (l.set i b)):=by
 have:=Pt.elN_set l i h b
 rwa[bJ] at this
theorem sj {x:Cx}{c1 c2:Code}{tm:List (Nat×D)}{hp:Hp}{Q:Exit→List (Nat×D)→Hp→Prop}(T:List (Nat×D))(H:Hp)(h1:AW Tryz.prog x c1 tm hp fun ex tm' hp'=>ex=.normal∧Wk x tm' hp' T H)(h2:AW Tryz.prog x c2 T H Q):AW Tryz.prog x (.seq c1 c2) tm hp Q:=by
 refine AW.seq (AW.mono h1 ?_)
 rintro ex tm' hp' ⟨rfl,hw⟩
 exact AW.weak hw h2
def iP(C:Nat→Nat)(w i:Nat)(r:Row):List D:=bp r.k (C i) w++[dI .i64 r.b]
theorem si(C:Nat→Nat)(w i:Nat)(r:Row):(iP C w i r).length=38:=by unfold iP;rw[cR,cf];rfl
def f4(C:Nat→Nat)(w:Nat):Nat→List Row→List D
 |_,[]=>[]
 |i,r::l=>iP C w i r++f4 C w (i+1) l
theorem yU(C:Nat→Nat)(w:Nat):∀(i:Nat) (l:List Row),(f4 C w i l).length=l.length*38
 |_,[]=>rfl
 |i,r::l=>by
  unfold f4
  rw[cR,si,yU C w (i+1) l,qM,cp]
  omega
theorem yV(C:Nat→Nat)(w:Nat):∀(i:Nat) (l l2:List Row),f4 C w i (l++l2)=f4 C w i l++f4 C w (i+l.length) l2
 |i,[],l2=>by simp[f4]
 |i,r::l,l2=>by
  show iP C w i r++f4 C w (i+1) (l++l2)=(iP C w i r++f4 C w (i+1) l)++f4 C w (i+(l.length+1)) l2
  rw[yV C w (i+1) l l2,dy,show i+1+l.length=i+(l.length+1) by omega]
theorem MT(C:Nat→Nat)(w:Nat)(l:List Row)(j:Nat)(h:j<l.length):∃A B:List D,A.length=j*38∧∀r:Row,f4 C w 0 (l.set j r)=A++iP C w j r++B:=by
 refine⟨f4 C w 0 (l.take j),f4 C w (j+1) (l.drop (j+1)),?_,fun r=>?_⟩
 ·rw[yU,ey,rL (by omega)]
 ·rw[List.set_eq_take_append_cons_drop,if_pos h,yV,ey,rL (by omega),bJ]
  show _++(iP C w j r++_)=_
  rw[dy]
theorem MQ {l:List Row}{j:Nat}{r:Row}(h:l[j]? =some r):l.set j r=l:=by
 obtain⟨h1,h2⟩:=fP.1 h
 rw[←h2,List.set_getElem_self]
theorem mq(C:Nat→Nat)(w:Nat)(l:List Row)(j:Nat){r:Row}(h:l[j]? =some r):∃A B:List D,A.length=j*38∧(∀r:Row,f4 C w 0 (l.set j r)=A++iP C w j r++B)∧f4 C w 0 l=A++iP C w j r++B∧oD (f4 C w 0 l) (j*38) r.k (C j) w A ([dI .i64 r.b]++B)∧Pt (f4 C w 0 l) (j*38+37) [dI .i64 r.b] (fun ys=>A++(bp r.k (C j) w++ys)++B):=by
 obtain⟨A,B,h1,h2⟩:=MT C w l j (fP.1 h).1
 have h3:=h2 r
 rw[MQ h] at h3
 refine⟨A,B,h1,h2,h3,⟨h1,?_⟩,Pt.of (A++bp r.k (C j) w) B (by rw[cR,h1,cf]) ?_ fun y=>by simp only[dy]⟩
 ·rw[h3];unfold iP;simp only[dy]
 ·rw[h3];unfold iP;simp only[dy]
theorem vn {C:Nat→Nat}{w M:Nat}:∀(i:Nat) (l:List Row),(∀j,j<l.length→C (i+j)<M)→(f4 C w i l).all (D.idsC M)=true
 |_,[],_=>rfl
 |i,r::l,h=>by
  unfold f4 iP
  rw[lN,lN,iT (by have:=h 0 (by simp);simpa using this),vn (i+1) l (fun j hj=>by have:=h (j+1) (by simpa using hj);rwa[show i+(j+1)=i+1+j by omega] at this)]
  rfl
def fc(R:Nat)(l:List Row):D:=match l with
 |[]=>.e (.lit (.slice none 0 0))
 |_=>.gw R 38 l.length
theorem pb {R:Nat}{l:List Row}(h:l≠[]):fc R l=.gw R 38 l.length:=by cases l with|nil=>exact absurd rfl h|cons r l=>rfl
def mM(R G w:Nat)(d:Dic):List D:=[fc R d.rows]++bp d.gk G w++[dI .i64 d.n,dI .i64 d.piv,dI .i64 d.most]
structure DAt(vs:List (Nat×List D))(kd R G:Nat)(C:Nat→Nat)(w:Nat)(d:Dic):Prop where
 hd:vs.lookup kd=some (mM R G w d)
 hR:d.rows≠[]→vs.lookup R=some (f4 C w 0 d.rows)
 hG:vs.lookup G=some (dC ((cW az).f d.gc))
 hC:∀(i:Nat) (r:Row),d.rows[i]? =some r→vs.lookup (C i)=some (dC ((cW az).f r.c))
 lG:d.gc.length=w
 lC:∀(i:Nat) (r:Row),d.rows[i]? =some r→r.c.length=w
structure Dif(m kd R G:Nat)(C:Nat→Nat):Prop where
 dR:kd≠R
 dG:kd≠G
 RG:R≠G
 C1:∀i,i<m→C i≠kd∧C i≠R∧C i≠G
 C2:∀i j,i<m→j<m→C i=C j→i=j
def cOv(C:Nat→Nat):Nat→List Row→List (Nat×List D)
 |_,[]=>[]
 |i,r::l=>(C i,dC ((cW az).f r.c))::cOv C (i+1) l
def rOv(R:Nat)(C:Nat→Nat)(w:Nat)(l:List Row):List (Nat×List D):=match l with
 |[]=>[]
 |_=>[(R,f4 C w 0 l)]
def ov(kd R G:Nat)(C:Nat→Nat)(w:Nat)(d:Dic)(vs:List (Nat×List D)):List (Nat×List D):=(kd,mM R G w d)::(G,dC ((cW az).f d.gc))::(rOv R C w d.rows++(cOv C 0 d.rows++vs))
theorem Pn {C:Nat→Nat}{j:Nat}{r:Row}{vs:List (Nat×List D)}{m:Nat}(hC:∀i j,i<m→j<m→C i=C j→i=j):∀(i:Nat) (l:List Row),i+l.length≤m→l[j]? =some r→(cOv C i l++vs).lookup (C (i+j))=some (dC ((cW az).f r.c))
 |_,[],_,h=>by simp at h
 |i,s::l,hm,h=>by
  unfold cOv
  rw[List.cons_append]
  cases j with
  |zero=>
   simp at h
   subst h
   exact aa
  |succ j=>
   have bX:=(fP.1 h).1
   simp only[qM] at hm bX
   refine ak (fun e=>?_) ?_
   ·have:=hC _ _ (by omega) (by omega) e;omega
   ·rw[show i+(j+1)=i+1+j by omega]
    exact Pn hC (i+1) l (by omega) (by simpa using h)
theorem Ku {C:Nat→Nat}{k:Nat}{vs:List (Nat×List D)}:∀(i:Nat) (l:List Row),(∀j,j<l.length→k≠C (i+j))→(cOv C i l++vs).lookup k=vs.lookup k
 |_,[],_=>rfl
 |i,s::l,h=>by
  unfold cOv
  rw[List.cons_append]
  exact ak (h 0 (by simp)) (Ku (i+1) l fun j hj=>by have:=h (j+1) (by simpa using hj);rwa[show i+(j+1)=i+1+j by omega] at this)
theorem MY {R:Nat}{C:Nat→Nat}{w:Nat}{l:List Row}{k:Nat}{vs:List (Nat×List D)}(h:k≠R):(rOv R C w l++vs).lookup k=vs.lookup k:=by
 cases l with
 |nil=>rfl
 |cons r l=>exact ar h
section
variable {kd R G w:Nat} {C:Nat→Nat} {d d':Dic} {vs vs2:List (Nat×List D)}
theorem DAt.ov(hf:Dif d.rows.length kd R G C)(lG:d.gc.length=w)(lC:∀(i:Nat) (r:Row),d.rows[i]? =some r→r.c.length=w):DAt (ov kd R G C w d vs) kd R G C w d:=by
 refine⟨aa,fun ge=>?_,ak hf.dG.symm aa,fun i r h=>?_,lG,lC⟩
 ·refine ak hf.dR.symm (ak hf.RG ?_)
  cases hl:d.rows with
  |nil=>exact absurd hl ge
  |cons r l=>exact aa
 ·have hi:=(fP.1 h).1
  obtain⟨h1,h2,h3⟩:=hf.C1 i hi
  refine ak h1 (ak h3 ?_)
  rw[MY h2]
  have:=Pn (vs:=vs) hf.C2 0 d.rows (by omega) h
  rwa[bJ] at this
theorem Fd {k:Nat}(h1:k≠kd)(h2:k≠R)(h3:k≠G)(h4:∀j,j<d.rows.length→k≠C j):(ov kd R G C w d vs).lookup k=vs.lookup k:=by
 refine ak h1 (ak h3 ?_)
 rw[MY h2]
 exact Ku 0 _ fun j hj=>by rw[bJ];exact h4 j hj
theorem BB(hf:Dif d.rows.length kd R G C)(h:DAt vs2 kd R G C w d)(hr:∀k ds,k≠kd→k≠R→k≠G→(∀j,j<d.rows.length→k≠C j)→vs.lookup k=some ds→vs2.lookup k=some ds)(hnil:d.rows=[]→∀ds,vs.lookup R=some ds→vs2.lookup R=some ds):
  ∀k ds,(ov kd R G C w d vs).lookup k=some ds→vs2.lookup k=some ds:=by
 intro k ds hk
 have h0:=DAt.ov (vs:=vs) hf h.lG h.lC
 by_cases h1:k=kd
 ·subst h1;rw[h0.hd] at hk;rw[h.hd];exact hk
 by_cases h2:k=R
 ·subst h2
  by_cases ge:d.rows=[]
  ·refine hnil ge ds ?_
   rw[←hk]
   refine Eq.symm (ak h1 (ak hf.RG ?_))
   rw[ge];rfl
  ·rw[h0.hR ge] at hk;rw[h.hR ge];exact hk
 by_cases h3:k=G
 ·subst h3;rw[h0.hG] at hk;rw[h.hG];exact hk
 by_cases h4:∀j,j<d.rows.length→k≠C j
 ·rw[Fd h1 h2 h3 h4] at hk
  exact hr k ds h1 h2 h3 h4 hk
 ·obtain⟨j,hj⟩:=Classical.not_forall.1 h4
  obtain⟨Mj,Dk⟩:=Classical.not_imp.1 hj
  have Dk:=Classical.not_not.1 Dk
  subst Dk
  have hr:=c0 Mj
  rw[h0.hC j _ hr] at hk;rw[h.hC j _ hr];exact hk
theorem qF {M:Nat}(hR:R<M)(hG:G<M):(mM R G w d).all (D.idsC M)=true:=by
 unfold mM
 rw[lN,lN,iT hG]
 cases d.rows <;> simp[fc,D.idsC,hR]
theorem z9 {lv:List (Nat×Nat×Nat×TypeId)}{N:Nat}(hok:cE ⟨vs,lv,N⟩)(hd:kd<N)(hR:R<N)(hG:G<N)(hC:∀j,j<d.rows.length→C j<N):cE ⟨ov kd R G C w d vs,lv,N⟩:=by
 have h1:∀(i:Nat) (l:List Row),(∀j,j<l.length→C (i+j)<N)→cE ⟨cOv C i l++vs,lv,N⟩:=by
  intro i l
  induction l generalizing i with
  |nil=>intro _;exact hok
  |cons r l ih=>
   intro h
   exact (ih (i+1) fun j hj=>by have:=h (j+1) (by simpa using hj);rwa[show i+(j+1)=i+1+j by omega] at this).cons (aB _) (h 0 (by simp)) (eJ _)
 have h2:cE ⟨rOv R C w d.rows++(cOv C 0 d.rows++vs),lv,N⟩:=by
  have h3:=h1 0 d.rows fun j hj=>by rw[bJ];exact hC j hj
  cases hl:d.rows with
  |nil=>rw[hl] at h3;exact h3
  |cons r l=>
   rw[hl] at h3
   refine h3.cons (aB _) hR (vn 0 _ fun j hj=>?_)
   rw[bJ];exact hC j (by rw[hl];exact hj)
 exact (h2.cons (aB _) hG (eJ _)).cons (aB _) hd (qF hR hG)
end
end
section
section
variable {kd R G w:Nat} {C:Nat→Nat} {d:Dic} {vs vs2:List (Nat×List D)}
theorem K3 {R:Nat}{l l2:List Row}(h:l.length=l2.length):fc R l=fc R l2:=by
 cases l with
 |nil=>cases l2 with
  |nil=>rfl
  |cons _ _=>simp at h
 |cons _ _=>cases l2 with
  |nil=>simp at h
  |cons _ _=>show D.gw R 38 _=D.gw R 38 _;rw[h]
theorem DAt.look(h:DAt vs kd R G C w d)(h2:∀k ds,(k=kd∨k=R∨k=G∨∃i,i<d.rows.length∧k=C i)→vs.lookup k=some ds→vs2.lookup k=some ds):DAt vs2 kd R G C w d:=
 ⟨h2 _ _ (.inl rfl) h.hd,fun ge=>h2 _ _ (.inr (.inl rfl)) (h.hR ge),h2 _ _ (.inr (.inr (.inl rfl))) h.hG,fun i r hr=>h2 _ _ (.inr (.inr (.inr ⟨i,(fP.1 hr).1,rfl⟩))) (h.hC i r hr),h.lG,h.lC⟩
theorem DAt.setRow(h:DAt vs kd R G C w d)(hf:Dif d.rows.length kd R G C){j:Nat}(hj:j<d.rows.length)(r:Row)(hl:r.c.length=w)(hR:vs2.lookup R=some (f4 C w 0 (d.rows.set j r)))(hC:vs2.lookup (C j)=some (dC ((cW az).f r.c)))
  (h2:∀k ds,k≠R→k≠C j→vs.lookup k=some ds→vs2.lookup k=some ds):DAt vs2 kd R G C w ⟨d.rows.set j r,d.gk,d.gc,d.n,d.piv,d.most⟩:=by
 obtain⟨h3,h4,h5⟩:=hf.C1 j hj
 refine⟨?_,fun _=>hR,h2 _ _ hf.RG.symm h5.symm h.hG,fun i r' hr=>?_,h.lG,fun i r' hr=>?_⟩
 ·have:mM R G w ⟨d.rows.set j r,d.gk,d.gc,d.n,d.piv,d.most⟩=mM R G w d:=by
   unfold mM
   rw[show fc R (d.rows.set j r)=fc R d.rows from K3 (eL ..)]
  rw[this]
  exact h2 _ _ hf.dR h3.symm h.hd
 ·by_cases Gq:i=j
  ·subst Gq
   rw[HV hj] at hr
   injection hr with hr
   subst hr
   exact hC
  ·rw[CC (fun e=>Gq e.symm)] at hr
   have hi:=(fP.1 hr).1
   exact h2 _ _ (hf.C1 i hi).2.1 (fun e=>Gq (hf.C2 i j hi hj e)) (h.hC i r' hr)
 ·by_cases Gq:i=j
  ·subst Gq
   rw[HV hj] at hr
   injection hr with hr
   subst hr
   exact hl
  ·rw[CC (fun e=>Gq e.symm)] at hr
   exact h.lC i r' hr
theorem DAt.setDic(h:DAt vs kd R G C w d)(hf:Dif d.rows.length kd R G C)(d':Dic)(hr:d'.rows=d.rows)(hl:d'.gc.length=w)(hd:vs2.lookup kd=some (mM R G w d'))(hG:vs2.lookup G=some (dC ((cW az).f d'.gc)))
  (h2:∀k ds,k≠kd→k≠G→vs.lookup k=some ds→vs2.lookup k=some ds):DAt vs2 kd R G C w d':=by
 refine⟨hd,fun ge=>?_,hG,fun i r hi=>?_,hl,fun i r hi=>?_⟩
 ·rw[hr] at ge ⊢
  exact h2 _ _ hf.dR.symm hf.RG (h.hR ge)
 ·rw[hr] at hi
  obtain⟨h3,h4,h5⟩:=hf.C1 i (fP.1 hi).1
  exact h2 _ _ h3 h5 (h.hC i r hi)
 ·rw[hr] at hi
  exact h.lC i r hi
end
theorem vr {k:Nat}{os:List Nat}(h:k∉os):∀{l:List (Nat×List D)} {ds:List D},l.lookup k=some ds→(l.filter fun p=>!os.contains p.1).lookup k=some ds
 |[],_,h'=>by simp at h'
 |(j,a)::l,ds,h'=>by
  by_cases hj:k=j
  ·subst hj
   rw[List.filter_cons_of_pos (by simpa using h)]
   rw[aa] at h' ⊢
   exact h'
  ·have h1:l.lookup k=some ds:=by rw[←h'];exact (ar hj).symm
   by_cases hm:j∈os
   ·rw[List.filter_cons_of_neg (by simpa using hm)]
    exact vr h h1
   ·rw[List.filter_cons_of_pos (by simpa using hm)]
    exact ak hj (vr h h1)
section
variable {hp:Hp}
theorem Qi:∀(l:List E),ARs hp (dC l) (dC l)
 |[]=>trivial
 |e::l=>⟨AR.data (d:=.e e) rfl,Qi l⟩
theorem ARs.append:∀{ds es ds2 es2:List D},ARs hp ds es→ARs hp ds2 es2→ARs hp (ds++ds2) (es++es2)
 |[],[],_,_,_,h=>h
 |_::_,_::_,_,_,⟨h1,h2⟩,h=>⟨h1,ARs.append h2 h⟩
 |[],_::_,_,_,h,_=>h.elim
 |_::_,[],_,_,h,_=>h.elim
theorem AR.list {k n:Nat}{l:List Nu}(hv:hp.vars.lookup k=some (dC ((cW az).f l)))(hl:l.length=n):AR hp (.ow k 0 36 n) (.e (slE az l)):=by
 subst hl
 have hlen:((cW az).f l).length=l.length*36:=im az.f az.h l
 have:=AR.sl (off:=0) hv (n:=l.length) (z:=36) (by omega) (by omega)
 rw[pR,g6 (by omega)] at this
 exact this
theorem AR.line {kc n:Nat}{k:Nu}{l:List Nu}(hv:hp.vars.lookup kc=some (dC ((cW az).f l)))(hl:l.length=n):AR hp (.ag (bp k kc n)) (.ag (dC (az.f k)++[.e (slE az l)])):=
 AR.ag (ARs.append (Qi _) ⟨AR.list hv hl,trivial⟩)
end
theorem Jf {vs:List (Nat×List D)}{lv:List (Nat×Nat×Nat×TypeId)}{N kc n:Nat}{k:Nu}{l:List Nu}(hv:vs.lookup kc=some (dC ((cW az).f l)))(hl:l.length=n)(hn:n≤1000000):HC Tryz.prog 109 [.ag (bp k kc n)] ⟨vs,lv,N⟩ (dB (iM k l)) ⟨vs,lv,N⟩:=
 HC.frz (w_good k l (by omega)) ⟨AR.line hv hl,trivial⟩ rfl
end
section
def klO(kd R:Nat):Option Nat→Nat|none=>kd|some _=>R
def olO:Option Nat→Nat|none=>1|some j=>j*38
def kcO(G:Nat)(C:Nat→Nat):Option Nat→Nat|none=>G|some j=>C j
section
variable {kd R G w:Nat} {C:Nat→Nat} {d:Dic} {vs:List (Nat×List D)}
theorem lineO(h:DAt vs kd R G C w d)(hf:Dif d.rows.length kd R G C)(o:Option Nat)(ho:∀j,o=some j→j<d.rows.length):
  ∃F A B:List D,vs.lookup (klO kd R o)=some F∧oD F (olO o) (lkO d o) (kcO G C o) w A B∧vs.lookup (kcO G C o)=some (dC ((cW az).f (lcO d o)))∧(lcO d o).length=w∧klO kd R o≠kcO G C o∧
   ∀(v2:List (Nat×List D)) (lk:Nu) (lc:List Nu),lc.length=w→v2.lookup (klO kd R o)=some (A++bp lk (kcO G C o) w++B)→v2.lookup (kcO G C o)=some (dC ((cW az).f lc))→
    (∀k ds,k≠klO kd R o→k≠kcO G C o→vs.lookup k=some ds→v2.lookup k=some ds)→DAt v2 kd R G C w (Ir d o lk lc):=by
 cases o with
 |none=>
  refine⟨mM R G w d,[fc R d.rows],[dI .i64 d.n,dI .i64 d.piv,dI .i64 d.most],h.hd,⟨rfl,rfl⟩,h.hG,h.lG,hf.dG,fun v2 lk lc hl h1 h2 h3=>?_⟩
  exact h.setDic hf ⟨d.rows,lk,lc,d.n,d.piv,d.most⟩ rfl hl h1 h2 h3
 |some j=>
  have hj:=ho j rfl
  have hr:d.rows[j]? =some d.rows[j]! :=by rw[cz d.rows j hj];exact c0 hj
  obtain⟨A,B,h1,h2,h3,h4,_⟩:=mq C w d.rows j hr
  have ge:d.rows≠[]:=fun e=>by rw[e] at hj;simp at hj
  refine⟨f4 C w 0 d.rows,A,[dI .i64 d.rows[j]!.b]++B,h.hR ge,h4,h.hC j _ hr,h.lC j _ hr,(hf.C1 j hj).2.1.symm,fun v2 lk lc hl h5 h6 h7=>?_⟩
  refine h.setRow hf hj ⟨lk,lc,d.rows[j]!.b⟩ hl ?_ h6 h7
  rw[h2]
  have h5':v2.lookup R=some (A++bp lk (C j) w++([dI .i64 d.rows[j]!.b]++B)):=h5
  rw[h5']
  unfold iP
  simp only[dy]
theorem MR(d:Dic)(o:Option Nat)(k:Nu)(c:List Nu):(Ir d o k c).rows.length=d.rows.length:=by
 cases o with
 |none=>rfl
 |some j=>exact eL ..
theorem setO_ne {o:Option Nat}{i:Nat}(h:o≠some i)(k:Nu)(c:List Nu):(Ir d o k c).rows[i]? =d.rows[i]? :=by
 cases o with
 |none=>rfl
 |some j=>
  have:j≠i:=fun e=>h (by rw[e])
  exact CC this
end
theorem pO_succ {r1:Row}{s at' i u:Nat}{p:Dic×Bool}{o:Option Nat}(h:(vZ at' i)[u]? =some o):pO r1 s at' i p (u+1)=uF r1 s (pO r1 s at' i p u) o:=by
 unfold pO
 rw[ym,h,List.foldl_append]
 rfl
theorem Pt.cell {F:List D}{t:Nat}{x:D}(h:F[t]? =some x):Pt F t [x] (fun ys=>F.take t++ys++F.drop (t+1)):=by
 obtain⟨h1,h2⟩:=fP.1 h
 refine⟨by simp;omega,?_,fun ys _=>rfl⟩
 show (F.drop t).take 1=[x]
 rw[HU h1,List.take_succ_cons,CA,h2]
theorem iaP {dr:Bool}{ty:TypeId}{ev:Operand→D}{hp:Hp}{k i n:Nat}{kn:IntKind}{x y:Operand}(h:i<n)(hx:ev x=.ow k 0 1 n:=by exact rfl)(hy:ev y=dI kn (i:Int):=by exact rfl):AVC Tryz.prog tbl dr (.indexAddr 161 x y) ty ev hp (Kq (.pt k i) hp):=by
 have:=vf (P:=Tryz.prog) (tb:=tbl) (dr:=dr) (ty:=ty) (ev:=ev) (hp:=hp) (x:=x) (y:=y) (v:=(i:Int)) (n:=n) (kn:=kn) ⟨by omega,by omega⟩ yQ wU rfl hx rfl hy
 rwa[cl,bJ,show i*1=i from wD i] at this
theorem Ns {x:Cx}{kd R G w N n2 q:Nat}{C:Nat→Nat}{d':Dic}{vs v:List (Nat×List D)}{lv:List (Nat×Nat×Nat×TypeId)}{tm:List (Nat×D)}{e:Int}(h0:x.hp0=⟨vs,lv,N⟩)(hok:cE ⟨vs,lv,N⟩)(hN:N≤n2)(hD:DAt v kd R G C w d')(hf:Dif d'.rows.length kd R G C)
  (DM:kd<N) (hR:R<N) (hG:G<N) (hC:∀j,j<d'.rows.length→C j<N) (hr:∀k ds,k≠kd→k≠R→k≠G→(∀j,j<d'.rows.length→k≠C j)→vs.lookup k=some ds→v.lookup k=some ds) (hnil:d'.rows=[]→∀ds,vs.lookup R=some ds→v.lookup R=some ds) (hq:tm.lookup q=some (dI .i64 e)):
  ∃tm',Wk x tm ⟨v,lv,n2⟩ tm' ⟨ov kd R G C w d' vs,lv,N⟩∧r9 tbl [.tmp q] tm' ⟨ov kd R G C w d' vs,lv,N⟩ (dI .i64 e):=by
 have hok':=z9 (d:=d') (w:=w) hok DM hR hG hC
 refine⟨[(q,dI .i64 e)],wkS (by rw[h0];exact aB N) hN hok' (BB hf hD hr hnil) (bU.nil.cons hq),?_⟩
 exact⟨dI .i64 e,aa,rfl⟩
section
variable {R G w:Nat} {d:Dic}
theorem gy:Pt (mM R G w d) 0 [fc R d.rows] (fun ys=>ys++(bp d.gk G w++[dI .i64 d.n,dI .i64 d.piv,dI .i64 d.most])):=Pt.of [] (bp d.gk G w++[dI .i64 d.n,dI .i64 d.piv,dI .i64 d.most]) rfl (by unfold mM;simp) fun y=>by simp
theorem me:oD (mM R G w d) 1 d.gk G w [fc R d.rows] [dI .i64 d.n,dI .i64 d.piv,dI .i64 d.most]:=⟨rfl,rfl⟩
theorem dic_n:Pt (mM R G w d) 38 [dI .i64 d.n] (fun ys=>[fc R d.rows]++bp d.gk G w++(ys++[dI .i64 d.piv,dI .i64 d.most])):=Pt.of ([fc R d.rows]++bp d.gk G w) [dI .i64 d.piv,dI .i64 d.most] (by rw[cR,cf];rfl) (by unfold mM;simp) fun y=>by simp
theorem n0:Pt (mM R G w d) 39 [dI .i64 d.piv] (fun ys=>[fc R d.rows]++bp d.gk G w++([dI .i64 d.n]++ys++[dI .i64 d.most])):=Pt.of ([fc R d.rows]++bp d.gk G w++[dI .i64 d.n]) [dI .i64 d.most] (by rw[cR,cR,cf];rfl) (by unfold mM;simp) fun y=>by simp
theorem O3:Pt (mM R G w d) 40 [dI .i64 d.most] (fun ys=>[fc R d.rows]++bp d.gk G w++([dI .i64 d.n,dI .i64 d.piv]++ys)):=Pt.of ([fc R d.rows]++bp d.gk G w++[dI .i64 d.n,dI .i64 d.piv]) [] (by rw[cR,cR,cf];rfl) (by unfold mM;simp) fun y=>by simp
end
end
section
theorem Fs {x:Cx}{tm:List (Nat×D)}{vs vs2:List (Nat×List D)}{lv:List (Nat×Nat×Nat×TypeId)}{N n2 q:Nat}{d:D}(h0:x.hp0=⟨vs,lv,N⟩)(hok:cE ⟨vs,lv,N⟩)(hN:N≤n2)(hv:∀j ds,vs.lookup j=some ds→vs2.lookup j=some ds)(hq:tm.lookup q=some d)(hd:d.idsB N=true):
  ∃tm',Wk x tm ⟨vs2,lv,n2⟩ tm' ⟨vs,lv,N⟩∧r9 tbl [.tmp q] tm' ⟨vs,lv,N⟩ d:=
 ⟨[(q,d)],wkS (by rw[h0];exact aB N) hN hok hv (bU.nil.cons hq hd),⟨d,aa,rfl⟩⟩
section
variable {ops:Array Oper} {K:List (Nat×D)→Hp→Prop} {os:List Oper} {tm:List (Nat×D)} {hp:Hp} {t:Tmp} {ty:TypeId} {pos:String} {af:Array Edge} {md:Md}
theorem JM {R:Nat}{l:List Row}{x:Operand}(hx:evD tm x=fc R l)(h2:ce Tryz.prog tbl md ops K os ((t,dI .i64 l.length)::tm) hp)(hn:md.nc tbl (.call ⟨.builtin .len,#[x],#[71]⟩)=true:=by exact rfl):ce Tryz.prog tbl md ops K (⟨some t,.call ⟨.builtin .len,#[x],#[71]⟩,ty,pos,af,none⟩::os) tm hp:=by
 cases l with
 |nil=>exact s1 (PM z4 sf rfl (by rw[hx];rfl)) h2 hn
 |cons r l=>exact stG (d:=dI .i64 (r::l).length) tok (zU (k:=R) (off:=0) (z:=38) z4 sf rfl (by rw[hx];rfl)) h2 hn
end
section
variable {vs:List (Nat×List D)} {lv:List (Nat×Nat×Nat×TypeId)} {N kv R w:Nat} {C:Nat→Nat} {v:Int}
theorem h_findf {i:Nat}(r:Row)(hv:vs.lookup kv=some [dI .i64 v]):HC Tryz.prog 155 [.ag (iP C w i r),.pt kv 0] ⟨vs,lv,N⟩ (dB (decide (r.b=v))) ⟨vs,lv,N⟩:=by
 refine HC.of (rs:=[.tmp 3]) tok Tryz.func155 rfl rfl (dq rfl) rfl (fun cx hx h0 hok=>?_)
 simp only[fL,Nat.reduceAdd,bJ]
 have hkv:=hok.lt hv
 refine rs hx fun K hK=>?_
 refine s1 (gD (cs:=iP C w i r)) ?_
 refine sa ?_
 refine .nil (hK _ _ (rs hx fun K hK=>?_))
 refine sa ?_
 refine s1 (j8 (Pt.of (F:=iP C w i r) (bs:=[dI .i64 r.b]) (bp r.k (C i) w) [] (cf _ _ _) (by unfold iP;simp) (F':=fun ys=>bp r.k (C i) w++ys++[]) fun y=>rfl) aa (eT N) tbI) ?_
 refine s1 (j8 (Pt.of (F:=[dI .i64 v]) (bs:=[dI .i64 v]) [] [] rfl (by simp) (F':=id) fun y=>by simp) (ak (show kv≠N by omega) hv) (show kv<N+1 by omega) tbI) ?_
 iterate 2 refine sa ?_
 exact .nil (hK _ _ (AW.ret (Fs h0 hok (jt N) (fun j ds h=>ak (hok.ne h (aB N)) h) rfl rfl)))
theorem OC {l:List Row}(hm:l.length≤1000000)(hR:l≠[]→vs.lookup R=some (f4 C w 0 l))(hv:vs.lookup kv=some [dI .i64 v]):
  HC Tryz.prog 154 [fc R l,.fn 155 [kv]] ⟨vs,lv,N⟩ (dI .i64 (ew l v)) ⟨vs,lv,N⟩:=by
 refine HC.of (rs:=[.tmp 4]) tok Tryz.func154 rfl rfl (dq rfl) rfl (fun cx hx h0 hok=>?_)
 simp only[fL,Nat.reduceAdd,bJ]
 have hkv:=hok.lt hv
 have hRi:(fc R l).idsB N=true:=by
  cases hl:l with
  |nil=>rfl
  |cons r l'=>exact aF (hok.lt (hR (by rw[hl];simp)))
 refine rs hx fun K hK=>?_
 refine sa ?_
 refine .nil (hK _ _ (AW.seq (rs hx fun K hK=>?_)))
 refine sa ?_
 refine JM (R:=R) (l:=l) rfl ?_
 refine sa ?_
 refine .nil (hK _ _ (AW.block (AW.loopW (fun i:Nat=>[(0,fc R l),(1,.fn 155 [kv]),(7,dI .i64 l.length),(8,dI .i64 i)]) (fun _=>⟨vs,lv,N⟩) (fun i=>i≤l.length∧∀(j:Nat) (r':Row),j<i→l[j]? =some r'→r'.b≠v) (fun i=>l.length - i) 0 ?_ ⟨cQ _,fun j _ hj=>absurd hj (qP _)⟩ ?_)))
 ·exact wkS (by rw[h0];exact aB N) (aB _) hok (fun j ds h=>h) (bU.cons (t:=0) (d:=fc R l) (bU.cons (t:=1) (d:=.fn 155 [kv]) (bU.cons (t:=7) (d:=dI .i64 l.length) (bU.cons (t:=8) (d:=dI .i64 (0:Nat)) bU.nil rfl rfl) rfl rfl) rfl (cX.2 fun k hk=>aF (by rw[pI.1 hk];exact hkv))) rfl hRi)
 ·rintro i ⟨hi,nH⟩
  refine rs hx fun K hK=>?_
  refine sa ?_
  refine .nil (hK _ _ (AW.seq (AW.condS rfl (fun hb=>?_) (fun hb=>?_))))
  ·have xa:i<l.length:=by have:=cj hb;omega
   have ge:l≠[]:=fun e=>by rw[e] at xa;simp at xa
   have hr:l[i]? =some l[i]:=c0 xa
   obtain⟨A,B,hA,_,h3,_,_⟩:=mq C w l i hr
   have A8:=hok.lt (hR ge)
   refine AW.skip (AW.seq (AW.block (rs hx fun K hK=>?_)))
   iterate 2 refine sa ?_
   refine .nil (hK _ _ (rs hx fun K hK=>?_))
   iterate 3 refine sa ?_
   refine stG (d:=.pt R (i*38)) tok (iaR (i:=i) (n:=l.length) xa (by show (fc R l).toOw=_;rw[pb ge];rfl) rfl) ?_
   refine s1 (Aw (Pt.of A B hA h3 (F':=fun ys=>A++ys++B) fun y=>rfl) (hR ge) A8 sf (si _ _ _ _)) ?_
   refine q1 (sHF (h_findf l[i] hv) rfl) ?_
   refine .nil (hK _ _ (AW.condS rfl (fun hb=>?_) (fun hb=>?_)))
   ·have hbv:l[i].b=v:=cj hb
    refine rs hx fun K hK=>?_
    iterate 2 refine sa ?_
    refine .nil (hK _ _ (AW.ret ?_))
    rw[LL hr hbv nH]
    exact Fs h0 hok (aB N) (fun j ds h=>h) rfl rfl
   ·have hbv:¬l[i].b=v:=dV hb
    refine AW.skip (rq hx fun K hK=>?_)
    iterate 2 refine sa ?_
    refine .nil (hK _ _ ?_)
    rw[cg (by omega)]
    refine⟨i+1,wkS (by rw[h0];exact aB N) (aB _) hok (fun j ds h=>h) (bU.cons (t:=0) (d:=fc R l) (bU.cons (t:=1) (d:=.fn 155 [kv]) (bU.cons (t:=7) (d:=dI .i64 l.length) (bU.cons (t:=8) (d:=dI .i64 (i+1:Nat)) bU.nil rfl rfl) rfl rfl) rfl (cX.2 fun k hk=>aF (by rw[pI.1 hk];exact hkv))) rfl hRi),⟨xa,fun j r' hj o4=>?_⟩,by omega⟩
    rcases gW j i with h|h
    ·exact nH j r' h o4
    ·obtain rfl:j=i:=by omega
     rw[hr] at o4
     injection o4 with o4
     rw[←o4];exact hbv
  ·refine AW.exit ?_
   have xa:i=l.length:=by have:=dV hb;omega
   refine rs hx fun K hK=>?_
   refine sa ?_
   refine .nil (hK _ _ (AW.ret ?_))
   rw[Jj fun j r' o4=>nH j r' (by rw[xa];exact (fP.1 o4).1) o4]
   exact Fs h0 hok (aB N) (fun j ds h=>h) rfl rfl
theorem Jg {kd G:Nat}{d:Dic}(hD:DAt vs kd R G C w d)(hm:d.rows.length≤1000000):HC Tryz.prog 105 [.pt kd 0,dI .i64 v] ⟨vs,lv,N⟩ (dI .i64 (ew d.rows v)) ⟨vs,lv,N⟩:=by
 refine HC.of (rs:=[.tmp 4]) tok Tryz.func105 rfl rfl (dq rfl) rfl (fun cx hx h0 hok=>?_)
 simp only[fL,Nat.reduceAdd,bJ]
 have DM:=hok.lt hD.hd
 refine rs hx fun K hK=>?_
 refine s1 (gD (cs:=[dI .i64 v])) ?_
 refine sa ?_
 refine .nil (hK _ _ (rs hx fun K hK=>?_))
 iterate 3 refine sa ?_
 refine s1 (j8 gy (ak (show kd≠N by omega) hD.hd) (show kd<N+1 by omega) tbI) ?_
 refine s1 (CU (ks:=[N])) ?_
 refine q1 (sHC (OC (vs:=(N,[dI .i64 v])::vs) (lv:=lv) (N:=N+1) (C:=C) (w:=w) hm (fun ge=>ak (hok.ne (hD.hR ge) (aB N)) (hD.hR ge)) aa) rfl (.inl (by kernel_rfl))) ?_
 refine sa ?_
 exact .nil (hK _ _ (AW.ret (Fs h0 hok (jt N) (fun j ds h=>ak (hok.ne h (aB N)) h) rfl rfl)))
end
end
def qc(aY:Int)(jx:Int):Option (Int×Int):=bnd (some (u64.wrap ((Ha .u64 aY (4294967295:Int))*(Ha .u64 jx (4294967295:Int))))) fun x1=>bnd (some (u64.wrap ((u64.wrap ((lX .u64 aY (32:Int))*(Ha .u64 jx (4294967295:Int))))+(lX .u64 x1 (32:Int))))) fun x3=>bnd (some (u64.wrap ((Ha .u64 x3 (4294967295:Int))+(u64.wrap ((Ha .u64 aY (4294967295:Int))*(lX .u64 jx (32:Int))))))) fun x5=>bnd (some (u64.wrap ((u64.wrap ((u64.wrap ((lX .u64 aY (32:Int))*(lX .u64 jx (32:Int))))+(lX .u64 x3 (32:Int))))+(lX .u64 x5 (32:Int))))) fun x7=>some (x7,u64.wrap (aY*jx))
theorem E0 {aY:Int}{jx:Int}{r:Int×Int}(h:qc aY jx=some r):ax Tryz.prog 183 [dI .u64 aY,dI .u64 jx] (.tu [dI .u64 r.1,dI .u64 r.2]):=by
 refine bE (rs:=[.tmp 4,.tmp 5]) (fun cx hx h0=>?_) Tryz.func183
 unfold qc at h
 iterate 5 refine ra hx ?_
 refine rs hx fun K hK=>?_
 iterate 3 refine sa ?_
 obtain⟨x1,vu,h⟩:=ab h
 replace vu:=bQ vu
 refine s2 (d2:=dI .u64 x1) ly (gq (congrArg (dI .u64) vu)) ?_
 refine .nil (hK _ _ (rs hx fun K hK=>?_))
 iterate 6 refine sa ?_
 obtain⟨x3,hx4,h⟩:=ab h
 replace hx4:=bQ hx4
 refine s2 (d2:=dI .u64 x3) ly (gq (congrArg (dI .u64) hx4)) ?_
 refine .nil (hK _ _ ?_)
 iterate 2 refine ra hx ?_
 refine rs hx fun K hK=>?_
 iterate 5 refine sa ?_
 obtain⟨x5,AD,h⟩:=ab h
 replace AD:=bQ AD
 refine s2 (d2:=dI .u64 x5) ly (gq (congrArg (dI .u64) AD)) ?_
 refine .nil (hK _ _ (rs hx fun K hK=>?_))
 iterate 8 refine sa ?_
 obtain⟨x7,DI,h⟩:=ab h
 replace DI:=bQ DI
 refine s2 (d2:=dI .u64 x7) ly (gq (congrArg (dI .u64) DI)) ?_
 refine .nil (hK _ _ (ra hx ?_))
 refine AW.ret ?_
 cases h
 exact rv2
def tv(aY:Int)(jx:Int):Option (Int×Int):=bnd (qc aY jx) fun x1=>some (x1.1,x1.2)
theorem Ik {aY:Int}{jx:Int}{r:Int×Int}(h:tv aY jx=some r):ax Tryz.prog 151 [dI .u64 aY,dI .u64 jx] (.tu [dI .u64 r.1,dI .u64 r.2]):=by
 refine bE (rs:=[.tmp 4,.tmp 5]) (fun cx hx h0=>?_) Tryz.func151
 unfold tv at h
 refine ra hx ?_
 refine AW.seq (AW.condF rfl rfl (AW.skip (rs hx fun K hK=>?_)))
 iterate 2 refine sa ?_
 refine scb h E0 fun x1 h=>?_
 iterate 5 refine sa ?_
 refine .nil (hK _ _ (ra hx ?_))
 refine AW.ret ?_
 cases h
 exact rv2
theorem NC {m:Nat}(h:m<4294967296):Ha .u64 (m:Int) (4294967295:Int)=(m:Int):=by
 have h1:(BitVec.ofInt 64 (m:Int) &&&BitVec.ofInt 64 (4294967295:Int)).toNat=m:=by
  have a:(BitVec.ofInt 64 (m:Int)).toNat=m:=by
   rw[BitVec.ofInt_natCast,BitVec.toNat_ofNat];omega
  have b:(BitVec.ofInt 64 (4294967295:Int)).toNat=2 ^ 32 - 1:=by decide
  rw[BitVec.toNat_and,a,b,Nat.and_two_pow_sub_one_eq_mod];omega
 show u64.wrap (((BitVec.ofInt 64 (m:Int) &&&BitVec.ofInt 64 (4294967295:Int)).toNat:Nat):Int)=m
 rw[h1]
 exact iq (by omega)
theorem mul1 {n:Nat}(h:n≤1000000):tv (u64.wrap 1) (u64.wrap (n:Int))=some (0,(n:Int)):=by
 have e1:u64.wrap 1=((1:Nat):Int):=iq (n:=1) (by omega)
 have a1:=NC (m:=1) (by omega)
 have a2:=NC (m:=n) (by omega)
 have s1:=wj 1
 have s2:=wj n
 have m1:(1:Nat) / 4294967296=0:=rfl
 have m2:n / 4294967296=0:=eM (by omega)
 rw[m1] at s1
 rw[m2] at s2
 have z0:u64.wrap ((0:Nat):Int)=((0:Nat):Int):=iq (n:=0) (by omega)
 have zn:u64.wrap (n:Int)=(n:Int):=iq (by omega)
 have i0:Ha .u64 ((0:Nat):Int) (4294967295:Int)=((0:Nat):Int):=NC (m:=0) (by omega)
 have h0:lX .u64 ((0:Nat):Int) (32:Int)=((0:Nat):Int):=wj 0
 rw[e1,zn]
 unfold tv qc
 rw[a1,a2,s1,s2]
 simp only[bnd,Option.bind_some]
 have p1:((1:Nat):Int)*(n:Int)=(n:Int):=by omega
 have p2:((0:Nat):Int)*(n:Int)=((0:Nat):Int):=by omega
 have p3:((1:Nat):Int)*((0:Nat):Int)=((0:Nat):Int):=by omega
 have p4:((0:Nat):Int)*((0:Nat):Int)=((0:Nat):Int):=by omega
 have p5:((0:Nat):Int)+((0:Nat):Int)=((0:Nat):Int):=by omega
 rw[p1,p2,p3,p4,zn,z0,s2,p5,z0,i0,p5,z0,h0,p5,z0,p5,z0]
 rfl
section
def xf(a:Nu)(n s:Nat):List Nu:=List.replicate s a++List.replicate (n - s) default
theorem Co {a:Nu}{n s:Nat}(h:s≤n):(xf a n s).length=n:=by
 unfold xf;rw[cR,Ap,Ap];omega
theorem cont_cp {a:Nu}{n s:Nat}(h:s≤n):lCp (xf a n s) s (((((xf a n s).drop 0).take s)).take (n - s))=xf a n (s+min s (n - s)):=by
 have h1:((xf a n s).drop 0).take s=List.replicate s a:=by
  unfold xf
  rw[pR,yk (by simp),g6 (by simp)]
 rw[h1,List.take_replicate]
 unfold lCp
 rw[Ap]
 unfold xf
 rw[yk (by simp),g6 (by simp),List.drop_append,Ap,Ar (by simp),mU,List.drop_replicate]
 rw[List.replicate_append_replicate,Nat.min_comm,show n - s - (s+min s (n - s) - s)=n - (s+min s (n - s)) by omega]
theorem zNu:az.f (default:Nu)=zN:=rfl
theorem Dr {x:Cx}{tm tm':List (Nat×D)}{vs2 oG:List (Nat×List D)}{lv De:List (Nat×Nat×Nat×TypeId)}{n' n2:Nat}(h0:x.hp0.next≤n')(hn:n'≤n2)(hok:cE ⟨oG,lv,n'⟩)(hv:∀j ds,oG.lookup j=some ds→vs2.lookup j=some ds)(hl:∀j y,lv.lookup j=some y→De.lookup j=some y)(ht:bU n' tm tm'):Wk x tm ⟨vs2,De,n2⟩ tm' ⟨oG,lv,n'⟩:=
 Wk.look h0 hn ht (fun j ds h=>⟨(hok.var j ds h).1,ds,hv j ds h,qj _,(hok.var j ds h).2⟩) fun id y h=>⟨hok.tok id y h,hl id y h⟩
section
variable {md:Md} {dst:Option Tmp} {ty:TypeId} {pos:String} {af:Array Edge} {gd:Option (Nat×Bool)} {ev:Operand→D} {hp:Hp} {k s n:Nat} {x y:Operand}
theorem slT(h:s<n)(hx:ev x=.ow k 0 36 n:=by exact rfl)(hy:ev y=dI .i64 (s:Int):=by exact rfl):mB Tryz.prog tbl md ⟨dst,.slice 22 x (some y) none none,ty,pos,af,gd⟩ ev hp (.ow k (s*36) 36 (n - s)) hp:=by
 have:=slW (P:=Tryz.prog) (tb:=tbl) (md:=md) (dst:=dst) (ty2:=ty) (pos:=pos) (af:=af) (gd:=gd) (ev:=ev) (hp:=hp) (x:=x) (lo:=some y) (hi:=none) (l:=(s:Int)) (h:=(n:Int)) tok ⟨by omega,by omega,by omega,by omega⟩ aM ay ⟨.i64,hy⟩ rfl rfl hx rfl
 rw[show ((n:Int) - (s:Int)).toNat=n - s by omega,cl,bJ] at this
 exact this
theorem slHd(h:s≤n)(h0:0<n)(hx:ev x=.ow k 0 36 n:=by exact rfl)(hy:ev y=dI .i64 (s:Int):=by exact rfl):mB Tryz.prog tbl md ⟨dst,.slice 22 x none (some y) none,ty,pos,af,gd⟩ ev hp (.ow k (0*36) 36 s) hp:=by
 have:=slW (P:=Tryz.prog) (tb:=tbl) (md:=md) (dst:=dst) (ty2:=ty) (pos:=pos) (af:=af) (gd:=gd) (ev:=ev) (hp:=hp) (x:=x) (lo:=none) (hi:=some y) (l:=(0:Int)) (h:=(s:Int)) tok ⟨by omega,by omega,by omega,by omega⟩ aM ay rfl ⟨.i64,hy⟩ rfl hx rfl
 rw[show ((s:Int) - 0).toNat=s by omega,bJ] at this
 exact this
end
section
variable {vs:List (Nat×List D)} {lv:List (Nat×Nat×Nat×TypeId)} {N n:Nat} {a:Nu}
theorem Ho(hn:n≤1000000):HC Tryz.prog 103 [.e (slE az [a]),dI .i64 n] ⟨vs,lv,N⟩ (.ow (N+1) 0 36 n) ⟨(N+1,dC ((cW az).f (List.replicate n a)))::vs,lv,N+1+1⟩:=by
 refine HC.of (rs:=[.tmp 4]) tok Tryz.func103 rfl rfl (dq rfl) rfl (fun cx hx h0 hok=>?_)
 simp only[fL,Nat.reduceAdd,bJ]
 refine rs hx fun K hK=>?_
 refine s1 (d:=dO N az ([]:List Nu)) (gE aM ay) ?_
 refine .nil (hK _ _ (AW.seq (rs hx fun K hK=>?_)))
 iterate 2 refine sa ?_
 refine .nil (hK _ _ (AW.condF rfl (bH (by omega)) (AW.skip (rs hx fun K hK=>?_))))
 iterate 5 refine sa ?_
 refine cq (Ik (mul1 hn)) ?_
 iterate 5 refine sa ?_
 refine .nil (hK _ _ (AW.seq (rs hx fun K hK=>?_)))
 iterate 3 refine sa ?_
 iterate 2 refine ga (show decide ((0:Int)<0)=false by decide) ?_
 refine s1 (al (show decide ((0:Int)<0)=false by decide)) ?_
 refine .nil (hK _ _ (AW.condF rfl (bH (by omega)) (AW.skip (rs hx fun K hK=>?_))))
 iterate 2 refine sa ?_
 rw[fb (show -9223372036854775808≤(n:Int) by omega) (by omega)]
 refine q1 (sMk (c:=az) (z0:=default) (v:=(n:Int)) tok ⟨by omega,by omega⟩ aM ay rfl) ?_
 rw[cl]
 refine sa ?_
 refine .nil (hK _ _ ?_)
 have NM:vh ⟨(N+1,dC ((cW az).f (List.replicate n default)))::vs,(N,0,36,43)::lv,N+1+1⟩ (.e (slE az [a])) 36 1 ([a].flatMap az.f):=vh.dat rfl (by simp[az.h];rfl)
 refine rs hx fun K hK=>?_
 iterate 2 refine sa ?_
 refine q1 (sCpW (c:=az) (l:=List.replicate n default) (s:=[a]) (m:=1) (n:=n) tok aM ay NM rfl aa 0 (by simp) rfl) ?_
 refine sa ?_
 refine .nil (hK _ _ ?_)
 have hc0:lCp (List.replicate n (default:Nu)) 0 ([a].take n)=xf a n (min 1 n):=by
  cases n with
  |zero=>rfl
  |succ n=>
   unfold lCp xf
   rw[show min 1 (n+1)=1 by omega]
   simp[List.replicate_succ]
 rw[hc0]
 have DJ:∀l:List Nu,cE ⟨(N+1,dC ((cW az).f l))::vs,lv,N+1+1⟩:=fun l=>hok.cons (by omega) (eT _) (eJ _)
 have hNlv:∀j y,lv.lookup j=some y→((N,0,36,43)::lv).lookup j=some y:=fun j y h=>(ar (by have:=hok.tok j y h;have h2:j<N:=this;omega)).trans h
 refine AW.seq (AW.block (AW.loopW (fun s:Nat=>[(7,.ow (N+1) 0 36 n),(8,dI .i64 s)]) (fun s=>⟨(N+1,dC ((cW az).f (xf a n s)))::vs,lv,N+1+1⟩) (fun s=>s≤n∧(0<n→0<s)) (fun s=>n - s) (min 1 n) ?_ ⟨by omega,by omega⟩ ?_))
 ·exact Dr (by rw[h0];show N≤N+1+1;omega) (aB _) (DJ _) (fun j ds h=>by rw[uN];exact h) hNlv (bU.cons (t:=7) (d:=.ow (N+1) 0 36 n) (bU.cons (t:=8) (d:=dI .i64 (min 1 n:Nat)) bU.nil rfl rfl) rfl (aF (eT _)))
 ·rintro s ⟨hsn,hs0⟩
  refine AW.seq (rs hx fun K hK=>?_)
  iterate 4 refine sa ?_
  refine .nil (hK _ _ (AW.condS rfl (fun hb=>?_) (fun hb=>?_)))
  ·have bX:s<n:=by have:=cj hb;omega
   have hs1:0<s:=hs0 (by omega)
   refine AW.skip (AW.block (rqd [] hx fun K hK=>?_))
   iterate 3 refine sa ?_
   refine q1 (slT bX) ?_
   iterate 2 refine sa ?_
   refine q1 (slHd (by omega) (by omega)) ?_
   refine q1 (sCpW (c:=az) (l:=xf a n s) (s:=((xf a n s).drop 0).take s) (m:=s) (n:=n - s) tok aM ay (vh.lst aa 0 (by rw[Co hsn];omega)) (by rw[ey,pR,Co hsn];omega) aa s (by rw[Co hsn];omega) rfl) ?_
   rw[cont_cp hsn]
   iterate 2 refine sa ?_
   refine .nil (hK _ _ ?_)
   rw[show i64.wrap ((s:Int)+(min s (n - s):Nat))=((s+min s (n - s):Nat):Int) by rw[fb (by omega) (by omega)];omega]
   exact⟨s+min s (n - s),wkS (by rw[h0];show N≤N+1+1;omega) (aB _) (DJ _) (fun j ds h=>by rw[uN];exact h) (bU.cons (t:=7) (d:=.ow (N+1) 0 36 n) (bU.cons (t:=8) (d:=dI .i64 (s+min s (n - s):Nat)) bU.nil rfl rfl) rfl (aF (eT _))),⟨by omega,by omega⟩,by omega⟩
  ·refine AW.exit ?_
   have hsn2:s=n:=by have:=dV hb;omega
   subst hsn2
   have DQ:xf a s s=List.replicate s a:=by unfold xf;simp
   rw[DQ]
   refine rs hx fun K hK=>?_
   iterate 2 refine sa ?_
   exact .nil (hK _ _ (AW.ret (⟨[(4,.ow (N+1) 0 36 s)],wkS (by rw[h0];show N≤N+1+1;omega) (aB _) (DJ _) (fun j ds h=>h) (bU.cons (t:=4) (d:=.ow (N+1) 0 36 s) bU.nil rfl (aF (eT _))),⟨_,aa,rfl⟩⟩)))
end
end
theorem HC.args {P:Program}{f:FuncId}{ds ds':List D}{hp hp':Hp}{d:D}(hl:leL ds ds')(hc:HC P f ds' hp d hp'):HC P f ds hp d hp':=by
 obtain⟨h1,h2⟩:=A5 hl
 refine⟨hc.1,fun B g w vs hr hsz dc=>hc.2 B g w vs hr (by omega) fun j e u he hu=>?_⟩
 obtain⟨d0,h3,h4⟩:=h2 he
 exact (dc j d0 u h3 hu).le h4
theorem T_bldL {dr:Bool}{ty:TypeId}{ev:Operand→D}{hp:Hp}{x y:Operand}{a:Nu}{k n:Nat}(hx:ev x=dG az a:=by exact rfl)(hy:ev y=.ow k 0 36 n:=by exact rfl):AVC Tryz.prog tbl dr (.build 73 #[(0,x),(1,y)]) ty ev hp (Kq (.ag (bp a k n)) hp):=by
 have h0:([(0,x),(1,y)]:List (Nat×Operand)).map (fun p=>(p.1,ev p.2))=[(0,dG az a),(1,.ow k 0 36 n)]:=by simp only[dJ,eD,hx,hy]
 rw[show (#[(0,x),(1,y)]:Array (Nat×Operand))=([(0,x),(1,y)]:List (Nat×Operand)).toArray from rfl,u2,h0,sF,xL]
 have hp:lU [(0,dG az a),(1,.ow k 0 36 n)]=some [(0,dC (az.f a)),(1,[.ow k 0 36 n])]:=rfl
 rw[hp]
 dsimp only
 refine⟨by decide,?_⟩
 have hz:∀zs:List D,zs.length=37→f5 (nP tbl [(0,43),(36,22)]) zs [(0,dC (az.f a)),(1,[.ow k 0 36 n])]=some (bp a k n):=fun zs hzs=>by
  have p0:nP tbl [(0,43),(36,22)] 0=some (0,36):=rfl
  have p1:nP tbl [(0,43),(36,22)] 1=some (36,1):=rfl
  simp only[f5,p0,p1,iR]
  rw[if_neg (by simp[hzs])]
  rw[if_neg (by simp[iR,hzs])]
  unfold bp
  rw[CA,mU,bJ,yk (by rw[iR];exact aB _),g6 (by rw[iR];exact aB _),Ar (by simp[iR,hzs]),rM]
 rw[hz _ (by rfl)]
 exact Kq.here _ _
theorem vw {vs:List (Nat×List D)}{lv:List (Nat×Nat×Nat×TypeId)}{N n:Nat}(hn:n≤1000000):HC Tryz.prog 41 [dI .i64 n] ⟨vs,lv,N⟩ (.ag (bp (nOf 0) (N+3) n)) ⟨(N,bp (nOf 0) (N+3) n)::(N+3,dC ((cW az).f (List.replicate n (nOf 0))))::vs,lv,N+4⟩:=by
 refine HC.of (rs:=[.cell 2 73]) tok Tryz.func41 rfl rfl (dq rfl) rfl (fun cx hx h0 hok=>?_)
 simp only[fL,Nat.reduceAdd,bJ]
 refine rs hx fun K hK=>?_
 refine s1 (bm (F:=zN++[.lit (.slice none 0 0)]) xL) ?_
 refine .nil (hK _ _ (rs hx fun K hK=>?_))
 refine cq (Dy 0 (by omega)) ?_
 refine cq (Dy 0 (by omega)) ?_
 refine s1 (kP [nOf 0] az aM ay) ?_
 refine sa ?_
 refine q1 (sHC (HC.args (ds:=[dO (N+1) az [nOf 0],dI .i64 n]) (ds':=[.e (slE az [nOf 0]),dI .i64 n]) ⟨Nv _,ao _,trivial⟩ (Ho hn)) rfl (.inr ⟨by show N+1+1≤N+1+1+1+1;omega,fun j hj=>ar (by have:j<N+1+1:=hj;omega)⟩)) ?_
 refine s1 T_bldL ?_
 refine s0 (EN (ys:=bp (nOf 0) (N+3) n) (bs:=dC (zN++[.lit (.slice none 0 0)])) (Pt.of [] [] rfl (by simp) (F':=id) fun y=>by simp) (ak (show N≠N+1+1+1 by omega) aa) rfl xL rfl (cf _ _ _) rfl) ?_
 refine .nil (hK _ _ (AW.ret ?_))
 have hokF:cE ⟨(N,bp (nOf 0) (N+3) n)::(N+3,dC ((cW az).f (List.replicate n (nOf 0))))::vs,lv,N+4⟩:=(cE.cons (N:=N+4) (hok.cons (by omega) (show N+3<N+4 by omega) (eJ _)) (aB _) (show N<N+4 by omega) (iT (by omega)))
 refine⟨[(2,.pt N 0)],Dr (by rw[h0];show N≤N+4;omega) (aB _) hokF (fun j ds h=>?_) (fun j y h=>(ar (by have:=hok.tok j y h;have h2:j<N:=this;omega)).trans h) (bU.cons (t:=2) (d:=.pt N 0) bU.nil rfl (aF (show N<N+4 by omega))),?_⟩
 ·rcases cu h with⟨rfl,rfl⟩|⟨h1,h⟩
  ·exact aa
  rcases cu h with⟨rfl,rfl⟩|⟨h2,h⟩
  ·exact ak h1 aa
  ·exact ak h1 (ak h2 (ak h1 h))
 ·refine⟨.pt N 0,aa,⟨_,xL⟩,?_⟩
  rw[nR,xL]
  rw[show (⟨(N,bp (nOf 0) (N+3) n)::(N+3,dC ((cW az).f (List.replicate n (nOf 0))))::vs,lv,N+4⟩:Hp).vars.lookup N=some (bp (nOf 0) (N+3) n) from aa]
  dsimp only[Ty.agg]
  refine⟨show N<N+4 by omega,by rw[cf];exact aB _,?_⟩
  rw[pR,g6 (by rw[cf];exact aB _)]
section
section
variable {md:Md} {dst:Option Tmp} {ty:TypeId} {pos:String} {af:Array Edge} {gd:Option (Nat×Bool)} {ev:Operand→D} {hp:Hp} {k n:Nat} {x y:Operand}
theorem slZ(hx:ev x=.ow k 0 36 n:=by exact rfl)(hy:ev y=dI .i64 (n:Int):=by exact rfl):mB Tryz.prog tbl md ⟨dst,.slice 22 x (some y) none none,ty,pos,af,gd⟩ ev hp (.e (slE az [])) hp:=by
 refine (Snd.calm (dr:=md.dr) fun dA _=>.pure fun B g w a hr wn=>?_).q (by cases md <;> rfl)
 have h1:=wn x (by simp[Op.operands])
 have h2:=wn y (by simp[Op.operands])
 rw[hx] at h1
 rw[hy] at h2
 have h2:=h2.lit
 have hs:=tok.run_sizeOf ay w
 generalize hv:a.eval x=v at h1
 cases h1 with
 |ow _ _ _ _ c hk pz oo=>
  have hbd:=iu (P:=Tryz.prog) (w:=w) true n c (some (.int .i64 (n:Int))) none n n (.inr ⟨.i64,rfl⟩) (.inl ⟨rfl,rfl⟩) (aB _) pz
  have fin:∀A:Option Addr,aO dA g w (.e (slE az [])) (.slice A 0 (c - n)):=fun A=>.e _ _ (.sl 36 0 [] A (c - n) (fun _=>undef) rfl (by decide) (cQ _) (by omega) (fun h=>absurd h (by omega)) (fun _ _ _ _ h=>by simp at h) (fun _ _ h=>by simp at h))
  by_cases DQ:c=n
  ·subst DQ
   refine⟨.slice (some ⟨g.μ k,0,none⟩) 0 (c - c),?_,fin _⟩
   simp[execOp,Instr.sliceAt,Instr.slice,hv,h2,run_underlying (tok.slice aM rfl),hbd,hs]
  ·have ge:¬c=n:=DQ
   refine⟨.slice (some ((⟨g.μ k,0,none⟩:Addr).add (n*36))) 0 (c - n),?_,fin _⟩
   simp[execOp,Instr.sliceAt,Instr.slice,hv,h2,run_underlying (tok.slice aM rfl),hbd,hs,ge]
end
theorem iaO {dr:Bool}{ty:TypeId}{ev:Operand→D}{hp:Hp}{k o i n:Nat}{kn:IntKind}{x y:Operand}(h:i<n)(hx:ev x=.ow k (o*36) 36 n)(hy:ev y=dI kn (i:Int):=by exact rfl):AVC Tryz.prog tbl dr (.indexAddr 22 x y) ty ev hp (Kq (.pt k ((o+i)*36)) hp):=by
 have:=vf (P:=Tryz.prog) (tb:=tbl) (dr:=dr) (ty:=ty) (ev:=ev) (hp:=hp) (x:=x) (y:=y) (v:=(i:Int)) (n:=n) (kn:=kn) ⟨by omega,by omega⟩ aM ay rfl hx rfl hy
 rw[cl] at this
 rw[cp]
 exact this
theorem bU.consX {n t:Nat}{d:D}{tm tm':List (Nat×D)}(h2:bU n tm tm')(h:tm.lookup t=some d)(hi:d.ex.idsB n=true):bU n tm ((t,d.ex)::tm'):=fun p hp=>by
 rcases kj.1 hp with rfl|hp
 ·exact⟨⟨d,h,.inr rfl⟩,hi⟩
 ·exact h2 p hp
theorem OB {vs:List (Nat×List D)}{lv:List (Nat×Nat×Nat×TypeId)}{N kd R G w nn:Nat}{C:Nat→Nat}{d:Dic}(hD:DAt vs kd R G C w d)(hnn:d.n=(nn:Int))(hw:nn+1≤w)(hw2:w≤1000000):
  HC Tryz.prog 44 [.pt kd 0] ⟨vs,lv,N⟩ (.e (slE az (fj d nn))) ⟨vs,lv,N⟩:=by
 refine HC.of (rs:=[.tmp 2]) tok Tryz.func44 rfl rfl (dq rfl) rfl (fun cx hx h0 hok=>?_)
 simp only[fL,Nat.reduceAdd,bJ]
 have DM:=hok.lt hD.hd
 have OJ:=hok.lt hD.hG
 have Kf:=hD.lG
 refine rs hx fun K hK=>?_
 refine s1 (d:=dO N az ([]:List Nu)) (gE aM ay) ?_
 refine .nil (hK _ _ (rs hx fun K hK=>?_))
 refine s1 (d:=dO (N+1) az ([]:List Nu)) (gE aM ay) ?_
 refine .nil (hK _ _ ?_)
 obtain⟨L,hL⟩:∃L,L=w - (nn+1):=⟨_,rfl⟩
 obtain⟨sD,hs1,hs0⟩:∃sD:D,(nn+1<w→sD=.ow G ((nn+1)*36) 36 L)∧(nn+1=w→sD=.e (slE az [])):=by
  by_cases h:nn+1<w
  ·exact⟨_,fun _=>rfl,fun e=>by omega⟩
  ·exact⟨_,fun e=>absurd e h,fun _=>rfl⟩
 have hsi:sD.idsB (N+2)=true:=by
  by_cases h:nn+1<w
  ·rw[hs1 h];exact aF (show G<N+2 by omega)
  ·rw[hs0 (by omega)];rfl
 refine AW.seq (rsd [] hx fun K hK=>?_)
 iterate 4 refine sa ?_
 refine s1 (j8 me.pc hD.hd (show kd<N+1+1 by omega) tbI) ?_
 iterate 3 refine sa ?_
 refine s1 (j8 dic_n hD.hd (show kd<N+1+1 by omega) tbI) ?_
 rw[hnn]
 refine sa ?_
 rw[cg (by omega)]
 refine q1 (d:=sD) (by
  by_cases h:nn+1<w
  ·rw[hs1 h,hL];exact slT h
  ·have hw3:nn+1=w:=by omega
   rw[hs0 hw3]
   exact slZ rfl (by rw[←hw3];rfl)) ?_
 refine s1 (d:=dI .i64 L) (by
  by_cases h:nn+1<w
  ·exact zU aM ay rfl (hs1 h)
  ·have hL0:L=0:=by omega
   rw[hL0]
   exact PM aM ay rfl (by show D.asSl 36 sD=_;rw[hs0 (by omega)];rfl)) ?_
 refine sa ?_
 refine .nil (hK _ _ ?_)
 have N5:∀u:Nat,cE ⟨vs,(N+1,u,36,43)::lv,N+1+1⟩:=fun u=>by
  refine⟨fun j ds h=>?_,fun id e h=>?_⟩
  ·obtain⟨h1,h2⟩:=hok.var j ds h
   have h1:j<N:=h1
   exact⟨show j<N+1+1 by omega,cX.2 fun d hd=>D.idsC_le (show N≤N+1+1 by omega) (cX.1 h2 d hd)⟩
  ·by_cases hid:id=N+1
   ·show id<N+1+1;omega
   ·have:=hok.tok id e (by rw[←h];exact (ar hid).symm)
    have:id<N:=this
    show id<N+1+1;omega
 refine AW.block (AW.loopW (fun u:Nat=>[(3,dO (N+1) az (((d.gc.drop (nn+1)).take u).map gX)),(16,sD),(17,dI .i64 L),(18,dI .i64 u)]) (fun u=>⟨vs,(N+1,u,36,43)::lv,N+1+1⟩) (fun u=>u≤L) (fun u=>L - u) 0 ?_ (cQ _) ?_)
 ·refine Dr (by rw[h0];show N≤N+1+1;omega) (aB _) (N5 0) (fun j ds h=>h) (fun j y h=>?_) (bU.cons (t:=3) (d:=dO (N+1) az ([]:List Nu)) (bU.cons (t:=16) (d:=sD) (bU.cons (t:=17) (d:=dI .i64 L) (bU.cons (t:=18) (d:=dI .i64 (0:Nat)) bU.nil rfl rfl) rfl rfl) rfl hsi) rfl (aF (show N+1<N+1+1 by omega)))
  by_cases hj:j=N+1
  ·subst hj
   rw[←h]
   exact aa.trans aa.symm
  ·have h1:lv.lookup j=some y:=by rw[←h];exact (ar hj).symm
   have h2:j<N:=hok.tok j y h1
   exact (ar hj).trans ((ar (show j≠N by omega)).trans h1)
 ·intro u hu
  have Lu:(((d.gc.drop (nn+1)).take u).map gX).length=u:=by rw[bT,ey,fB];omega
  refine rs hx fun K hK=>?_
  refine sa ?_
  refine .nil (hK _ _ (AW.seq (AW.condS rfl (fun hb=>?_) (fun hb=>?_))))
  ·have IS:u<L:=by have:=cj hb;omega
   refine AW.skip (AW.seq (AW.block (rs hx fun K hK=>?_)))
   refine s1 (iaO (o:=nn+1) IS (hs1 (by omega))) ?_
   refine s1 (ldN (Pt.el d.gc (nn+1+u) (by omega)) hD.hG (show G<N+1+1 by omega)) ?_
   refine s1 H2 ?_
   refine s0 (stZ aa) ?_
   refine .nil (hK _ _ (rq hx fun K hK=>?_))
   refine sa ?_
   refine s1 (ldN (Pt.idN _) aa (eT _)) ?_
   refine cq (GI _) ?_
   refine s1 (kP [gX d.gc[nn+1+u]!] az aM ay) ?_
   have Af:((d.gc.drop (nn+1)).take u).map gX++[gX d.gc[nn+1+u]!]=((d.gc.drop (nn+1)).take (u+1)).map gX:=by
    rw[ym,jz,nA,cz d.gc (nn+1+u) (by omega),c0 (by omega)]
    rfl
   refine s1 (qZ (id:=N+1) (l:=((d.gc.drop (nn+1)).take u).map gX) (l':=[gX d.gc[nn+1+u]!]) aM ay (by rw[cR,Lu];show (u+1)*136≤140737488355328;omega) rfl rfl rfl rfl (by rw[Lu];exact (ar (show N+1≠N+1+1+1 by omega)).trans aa)) ?_
   rw[Af]
   refine sa ?_
   refine .nil (hK _ _ (rq hx fun K hK=>?_))
   iterate 2 refine sa ?_
   refine .nil (hK _ _ ?_)
   rw[cg (by omega)]
   have hlu1:(((d.gc.drop (nn+1)).take (u+1)).map gX).length=u+1:=by rw[←Af,cR,Lu];rfl
   refine⟨u+1,Dr (by rw[h0];show N≤N+1+1;omega) (show N+1+1≤N+1+1+1+1 by omega) (N5 (u+1)) (fun j ds h=>?_) (fun j y h=>?_) (bU.cons (t:=3) (d:=dO (N+1) az (((d.gc.drop (nn+1)).take (u+1)).map gX)) (bU.cons (t:=16) (d:=sD) (bU.cons (t:=17) (d:=dI .i64 L) (bU.cons (t:=18) (d:=dI .i64 (u+1:Nat)) bU.nil rfl rfl) rfl rfl) rfl hsi) rfl (aF (show N+1<N+1+1 by omega))),IS,by omega⟩
   ·have hj:j<N:=hok.lt h
    exact ak (show j≠N+1+1 by omega) (ak (show j≠N+1+1 by omega) h)
   ·by_cases hj:j=N+1
    ·subst hj
     have h1:some (u+1,36,43)=some y:=by rw[←h];exact aa.symm
     rw[←h1]
     exact aa.trans (by rw[hlu1])
    ·have h1:lv.lookup j=some y:=by rw[←h];exact (ar hj).symm
     have h2:j<N:=hok.tok j y h1
     exact (ar hj).trans ((ar (show j≠N+1+1+1 by omega)).trans ((ar hj).trans h1))
  ·refine AW.exit ?_
   have IS:u=L:=by have:=dV hb;omega
   refine rs hx fun K hK=>?_
   iterate 2 refine sa ?_
   refine .nil (hK _ _ (AW.ret ?_))
   have ui:((d.gc.drop (nn+1)).take u).map gX=fj d nn:=by
    unfold fj
    rw[g6 (by rw[fB];omega)]
   rw[ui]
   exact⟨[(2,D.ex (dO (N+1) az (fj d nn)))],Dr (by rw[h0];exact aB N) (show N≤N+1+1 by omega) hok (fun j ds h=>h) (fun j y h=>(ar (by have h2:j<N:=hok.tok j y h;omega)).trans h) (bU.consX bU.nil rfl rfl),⟨_,aa,rfl⟩⟩
end
section
section
variable {vs vs2 oG:List (Nat×List D)} {lv De:List (Nat×Nat×Nat×TypeId)} {N M n2 k:Nat}
theorem cE.up(hok:cE ⟨vs,lv,N⟩)(h:N≤M):cE ⟨vs,lv,M⟩:=
 ⟨fun j es hj=>by obtain⟨h1,h2⟩:=hok.var j es hj;exact⟨d8 h1 h,cX.2 fun d hd=>D.idsC_le h (cX.1 h2 d hd)⟩,fun id e hi=>d8 (hok.tok id e hi) h⟩
theorem cE.consM {ds:List D}(hok:cE ⟨vs,lv,M⟩)(hk:k<M)(hd:ds.all (D.idsC M)=true):cE ⟨(k,ds)::vs,lv,M⟩:=hok.cons (aB M) hk hd
theorem wk1 {x:Cx}{tm tm':List (Nat×D)}{vs0:List (Nat×List D)}{lv0:List (Nat×Nat×Nat×TypeId)}{N0 n':Nat}(h0:x.hp0=⟨vs0,lv0,N0⟩)(hN:N0≤n':=by omega)(hn:n'≤n2:=by omega)(hok:cE ⟨oG,lv,n'⟩:=by (repeat (first|assumption|refine cE.consM ?_ (by omega) (by (first|exact eJ _|exact iT (by omega)|exact qF (by omega) (by omega)|assumption|exact rfl|(simp only[cH,bP,bB];exact aF (by omega))))|exact cE.up (by assumption) (by omega))))
  (hv:∀j ds,oG.lookup j=some ds→vs2.lookup j=some ds:=by (intro j ds h;(repeat (rcases cu h with⟨rfl,rfl⟩|⟨hj,h⟩;·(repeat (first|exact aa|assumption|refine ak (by first|assumption|exact mg (by assumption)|omega) ?_))));have hjN:=cE.lt (by assumption) h;(repeat (first|exact aa|assumption|refine ak (by first|assumption|exact mg (by assumption)|omega) ?_)))) (ht:bU n' tm tm':=by (repeat (first|exact bU.nil|refine bU.cons ?_ (by exact rfl) (by (first|exact rfl|assumption|exact aF (by omega)|exact cX.2 (fun k hk=>aF (by simp only[kj,pJ,or_false] at hk;omega))))))):Wk x tm ⟨vs2,lv,n2⟩ tm' ⟨oG,lv,n'⟩:=wkS (by rw[h0];exact hN) hn hok hv ht
theorem rt1 {x:Cx}{tm:List (Nat×D)}{q:Nat}{d:D}(h0:x.hp0=⟨vs,lv,N⟩)(hok:cE ⟨oG,lv,N⟩:=by (repeat (first|assumption|refine cE.consM ?_ (by omega) (by (first|exact eJ _|exact iT (by omega)|exact qF (by omega) (by omega)|assumption|exact rfl|(simp only[cH,bP,bB];exact aF (by omega))))|exact cE.up (by assumption) (by omega))))(hN:N≤n2:=by omega)(hv:∀j ds,oG.lookup j=some ds→vs2.lookup j=some ds:=by (intro j ds h;(repeat (rcases cu h with⟨rfl,rfl⟩|⟨hj,h⟩;·(repeat (first|exact aa|assumption|refine ak (by first|assumption|exact mg (by assumption)|omega) ?_))));have hjN:=cE.lt (by assumption) h;(repeat (first|exact aa|assumption|refine ak (by first|assumption|exact mg (by assumption)|omega) ?_))))(hq:tm.lookup q=some d:=by exact rfl)(hd:d.idsB N=true:=by (first|exact rfl|assumption|exact aF (by omega)|exact cX.2 (fun k hk=>aF (by simp only[kj,pJ,or_false] at hk;omega)))):
  ∃tm',Wk x tm ⟨vs2,lv,n2⟩ tm' ⟨oG,lv,N⟩∧r9 tbl [.tmp q] tm' ⟨oG,lv,N⟩ d:=
 ⟨[(q,d)],wkS (by rw[h0];exact aB N) hN hok hv (bU.nil.cons hq hd),⟨d,aa,rfl⟩⟩
theorem rt2 {x:Cx}{tm:List (Nat×D)}{q p:Nat}{d e:D}(h0:x.hp0=⟨vs,lv,N⟩)(hok:cE ⟨oG,lv,N⟩:=by (repeat (first|assumption|refine cE.consM ?_ (by omega) (by (first|exact eJ _|exact iT (by omega)|exact qF (by omega) (by omega)|assumption|exact rfl|(simp only[cH,bP,bB];exact aF (by omega))))|exact cE.up (by assumption) (by omega))))(hN:N≤n2:=by omega)(hv:∀j ds,oG.lookup j=some ds→vs2.lookup j=some ds:=by (intro j ds h;(repeat (rcases cu h with⟨rfl,rfl⟩|⟨hj,h⟩;·(repeat (first|exact aa|assumption|refine ak (by first|assumption|exact mg (by assumption)|omega) ?_))));have hjN:=cE.lt (by assumption) h;(repeat (first|exact aa|assumption|refine ak (by first|assumption|exact mg (by assumption)|omega) ?_))))(hq:tm.lookup q=some d:=by exact rfl)(hp:tm.lookup p=some e:=by exact rfl)(hd:d.idsB N=true:=by (first|exact rfl|assumption|exact aF (by omega)|exact cX.2 (fun k hk=>aF (by simp only[kj,pJ,or_false] at hk;omega))))(he:e.idsB N=true:=by (first|exact rfl|assumption|exact aF (by omega)|exact cX.2 (fun k hk=>aF (by simp only[kj,pJ,or_false] at hk;omega))))(ge:p≠q:=by decide):
  ∃tm',Wk x tm ⟨vs2,lv,n2⟩ tm' ⟨oG,lv,N⟩∧r9 tbl [.tmp q,.tmp p] tm' ⟨oG,lv,N⟩ (.tu [d,e]):=
 ⟨[(q,d),(p,e)],wkS (by rw[h0];exact aB N) hN hok hv ((bU.nil.cons hp he).cons hq hd),⟨d,aa,⟨e,(ar ge).trans aa,rfl⟩⟩⟩
end
section
variable {md:Md} {ops:Array Oper} {K:List (Nat×D)→Hp→Prop} {os:List Oper} {tm:List (Nat×D)} {hp hp':Hp} {t s:Tmp} {op:Op} {ty:TypeId} {pos:String} {af:Array Edge} {d:D} {j k o n i:Nat} {want c:Bool} {F F2:List D} {F':List D→List D} {a b:Nu} {x y:Operand}
theorem gn(hw:c= !want)(h2:ce Tryz.prog tbl md ops K os ((t,.tu [])::tm) hp)(hj:(ops[j]?).bind (·.dst)=some s:=by exact rfl)(hc:tm.lookup s=some (.e (.lit (.bool c))):=by exact rfl):ce Tryz.prog tbl md ops K (⟨some t,op,ty,pos,af,some (j,want)⟩::os) tm hp:=aH hj hc hw h2
theorem gm(h2:ce Tryz.prog tbl md ops K os ((t,.tu [])::tm) hp)(hj:(ops[j]?).bind (·.dst)=some s:=by exact rfl)(hc:tm.lookup s=some (.tu []):=by exact rfl):ce Tryz.prog tbl md ops K (⟨some t,op,ty,pos,af,some (j,want)⟩::os) tm hp:=nn_t hj hc h2
theorem l1(L:Pt F o (dC (az.f a)) F')(h2:ce Tryz.prog tbl md ops K os ((t,dG az a)::tm) hp)(hx:evD tm x=.pt k o:=by exact rfl)(hv:hp.vars.lookup k=some F:=by (repeat (first|exact aa|assumption|refine ak (by first|assumption|exact mg (by assumption)|omega) ?_)))(hk:k<hp.next:=by (first|omega|(dsimp only;omega)))(hn:md.nc tbl (.load 43 x)=true:=by exact rfl):ce Tryz.prog tbl md ops K (⟨some t,.load 43 x,ty,pos,af,none⟩::os) tm hp:=s1 (ldN L hv hk hx) h2 hn
theorem t1 {vs:List (Nat×List D)}{lv:List (Nat×Nat×Nat×TypeId)}{N:Nat}(L:Pt F o (dC (az.f a)) F')(h3:F' (dC (az.f b))=F2)(h2:ce Tryz.prog tbl md ops K os tm ⟨(k,F2)::vs,lv,N⟩)(hx:evD tm x=.pt k o:=by exact rfl)(hv:vs.lookup k=some F:=by (repeat (first|exact aa|assumption|refine ak (by first|assumption|exact mg (by assumption)|omega) ?_)))(hy:evD tm y=dG az b:=by exact rfl)(hn:md.nc tbl (.store 43 x y)=true:=by exact rfl):ce Tryz.prog tbl md ops K (⟨none,.store 43 x y,ty,pos,af,none⟩::os) tm ⟨vs,lv,N⟩:=s0 (stN L hv h3 hx hy rfl) h2 hn
theorem l1g(L:Pt F o (dC (az.f a)) F')(hw:c=want)(h2:ce Tryz.prog tbl md ops K os ((t,dG az a)::tm) hp)(hx:evD tm x=.pt k o:=by exact rfl)(hv:hp.vars.lookup k=some F:=by (repeat (first|exact aa|assumption|refine ak (by first|assumption|exact mg (by assumption)|omega) ?_)))(hk:k<hp.next:=by (first|omega|(dsimp only;omega)))(hj:(ops[j]?).bind (·.dst)=some s:=by exact rfl)(hc:tm.lookup s=some (.e (.lit (.bool c))):=by exact rfl)(hn:md.nc tbl (.load 43 x)=true:=by exact rfl):ce Tryz.prog tbl md ops K (⟨some t,.load 43 x,ty,pos,af,some (j,want)⟩::os) tm hp:=g1 hw (ldN L hv hk hx) h2 hj hc hn
theorem cqg {f:FuncId}{la:List Operand}{ts:Array TypeId}{ds:List D}{r:D}(hc:ax Tryz.prog f ds r)(hw:c=want)(h2:ce Tryz.prog tbl md ops K os ((t,r)::tm) hp)(hj:(ops[j]?).bind (·.dst)=some s:=by exact rfl)(hg:tm.lookup s=some (.e (.lit (.bool c))):=by exact rfl)(ka:((la.map (evD tm)).map D.ex).all D.pure=true:=by repeat (first|exact pn|refine pA (aI _ _) ?_|refine pA rfl ?_))(hl:leL ((la.map (evD tm)).map D.ex) ds:=by repeat (first|exact lAn|refine lC (cD _ _) ?_|refine lC (ao _) ?_))(hr:r.pure=true∨∃ds,r=.tu ds:=by (first|exact .inl (g9 _ _)|exact .inl rfl|exact .inr ⟨_,rfl⟩)):
  ce Tryz.prog tbl md ops K (⟨some t,.call ⟨.value (.func f),la.toArray,ts⟩,ty,pos,af,some (j,want)⟩::os) tm hp:=sqg tok hj hg hw hc ka hl hr h2
theorem n1 {vs:List (Nat×List D)}{lv:List (Nat×Nat×Nat×TypeId)}{N:Nat}(h2:ce Tryz.prog tbl md ops K os ((t,.pt N 0)::tm) ⟨(N,dC zN)::vs,lv,N+1⟩)(hn:md.nc tbl (.alloc 43)=true:=by exact rfl):ce Tryz.prog tbl md ops K (⟨some t,.alloc 43,ty,pos,af,none⟩::os) tm ⟨vs,lv,N⟩:=s1 H2 h2 hn
theorem z1 {vs:List (Nat×List D)}{lv:List (Nat×Nat×Nat×TypeId)}{N:Nat}(h2:ce Tryz.prog tbl md ops K os tm ⟨(k,(dC (az.f b)))::vs,lv,N⟩)(hx:evD tm x=.pt k 0:=by exact rfl)(hv:vs.lookup k=some (dC zN):=by (repeat (first|exact aa|assumption|refine ak (by first|assumption|exact mg (by assumption)|omega) ?_)))(hy:evD tm y=dG az b:=by exact rfl)(hn:md.nc tbl (.store 43 x y)=true:=by exact rfl):ce Tryz.prog tbl md ops K (⟨none,.store 43 x y,ty,pos,af,none⟩::os) tm ⟨vs,lv,N⟩:=s0 (stZ hv hx hy rfl) h2 hn
theorem c1 {tt:TypeId}{ti:TyE}(L:Pt F o [d] F')(h2:ce Tryz.prog tbl md ops K os ((t,d)::tm) hp)(hx:evD tm x=.pt k o:=by exact rfl)(hv:hp.vars.lookup k=some F:=by (repeat (first|exact aa|assumption|refine ak (by first|assumption|exact mg (by assumption)|omega) ?_)))(hk:k<hp.next:=by (first|omega|(dsimp only;omega)))(ht:tbl tt=some ti:=by exact tbI)(hg:ti.ty.agg=false:=by exact rfl)(hn:md.nc tbl (.load tt x)=true:=by exact rfl):ce Tryz.prog tbl md ops K (⟨some t,.load tt x,ty,pos,af,none⟩::os) tm hp:=s1 (j8 L hv hk ht hg hx) h2 hn
theorem c1g {tt:TypeId}{ti:TyE}(L:Pt F o [d] F')(hw:c=want)(h2:ce Tryz.prog tbl md ops K os ((t,d)::tm) hp)(hx:evD tm x=.pt k o:=by exact rfl)(hv:hp.vars.lookup k=some F:=by (repeat (first|exact aa|assumption|refine ak (by first|assumption|exact mg (by assumption)|omega) ?_)))(hk:k<hp.next:=by (first|omega|(dsimp only;omega)))(ht:tbl tt=some ti:=by exact tbI)(hg:ti.ty.agg=false:=by exact rfl)(hj:(ops[j]?).bind (·.dst)=some s:=by exact rfl)(hc:tm.lookup s=some (.e (.lit (.bool c))):=by exact rfl)(hn:md.nc tbl (.load tt x)=true:=by exact rfl):ce Tryz.prog tbl md ops K (⟨some t,.load tt x,ty,pos,af,some (j,want)⟩::os) tm hp:=g1 hw (j8 L hv hk ht hg hx) h2 hj hc hn
theorem p1 {tt:TypeId}{ti:TyE}{bs:List D}(L:Pt F o bs F')(hz:bs.length=ti.size)(h2:ce Tryz.prog tbl md ops K os ((t,.ag bs)::tm) hp)(hx:evD tm x=.pt k o:=by exact rfl)(hv:hp.vars.lookup k=some F:=by (repeat (first|exact aa|assumption|refine ak (by first|assumption|exact mg (by assumption)|omega) ?_)))(hk:k<hp.next:=by (first|omega|(dsimp only;omega)))(ht:tbl tt=some ti:=by exact tbI)(hg:ti.ty.agg=true:=by exact rfl)(hn:md.nc tbl (.load tt x)=true:=by exact rfl):ce Tryz.prog tbl md ops K (⟨some t,.load tt x,ty,pos,af,none⟩::os) tm hp:=s1 (Aw L hv hk ht hz hg hx) h2 hn
theorem v1 {vs:List (Nat×List D)}{lv:List (Nat×Nat×Nat×TypeId)}{N:Nat}{tt:TypeId}{ti:TyE}{bs ys:List D}(L:Pt F o bs F')(hz:bs.length=ti.size)(hl:ys.length=bs.length)(h3:F' ys=F2)(h2:ce Tryz.prog tbl md ops K os tm ⟨(k,F2)::vs,lv,N⟩)(hx:evD tm x=.pt k o:=by exact rfl)(hv:vs.lookup k=some F:=by (repeat (first|exact aa|assumption|refine ak (by first|assumption|exact mg (by assumption)|omega) ?_)))(hyc:(evD tm y).cells=some ys:=by exact rfl)(ht:tbl tt=some ti:=by exact tbI)(hn:md.nc tbl (.store tt x y)=true:=by exact rfl):ce Tryz.prog tbl md ops K (⟨none,.store tt x y,ty,pos,af,none⟩::os) tm ⟨vs,lv,N⟩:=s0 (EN L hv hyc ht hz hl h3 hx rfl) h2 hn
theorem i1(h:i<n)(h2:ce Tryz.prog tbl md ops K os ((t,.pt k (i*36))::tm) hp)(hx:evD tm x=.ow k 0 36 n:=by exact rfl)(hy:evD tm y=dI .i64 (i:Int):=by exact rfl)(hn:md.nc tbl (.indexAddr 22 x y)=true:=by exact rfl):ce Tryz.prog tbl md ops K (⟨some t,.indexAddr 22 x y,ty,pos,af,none⟩::os) tm hp:=s1 (iaN h hx hy) h2 hn
theorem r1(h:i<n)(h2:ce Tryz.prog tbl md ops K os ((t,.pt k (i*38))::tm) hp)(hx:(evD tm x).toOw=.ow k 0 38 n:=by exact rfl)(hy:(evD tm y).toOw=dI .i64 (i:Int):=by exact rfl)(hn:md.nc tbl (.indexAddr 71 x y)=true:=by exact rfl):ce Tryz.prog tbl md ops K (⟨some t,.indexAddr 71 x y,ty,pos,af,none⟩::os) tm hp:=stG (d:=.pt k (i*38)) tok (iaR h hx hy) h2 hn
theorem r1g'(h:i<n)(hw:c=want)(h2:ce Tryz.prog tbl md ops K os ((t,.pt k (i*38))::tm) hp)(hx:evD tm x=.gw k 38 n:=by exact rfl)(hy:evD tm y=dI .i64 (i:Int):=by exact rfl)(hj:(ops[j]?).bind (·.dst)=some s:=by exact rfl)(hc:tm.lookup s=some (.e (.lit (.bool c))):=by exact rfl)(hn:md.nc tbl (.indexAddr 71 x y)=true:=by exact rfl):ce Tryz.prog tbl md ops K (⟨some t,.indexAddr 71 x y,ty,pos,af,some (j,want)⟩::os) tm hp:=
 JL hj hc (by subst hw;cases c <;> rfl) (mB.toOw ((AVC.snd (o:=⟨some t,.indexAddr 71 x y,ty,pos,af,some (j,want)⟩) tok (iaR h (by rw[hx];rfl) (by rw[hy];rfl))).q1 hn)) h2
theorem a1 {vs:List (Nat×List D)}{lv:List (Nat×Nat×Nat×TypeId)}{N:Nat}{tt:TypeId}{ti:TyE}{F:List E}(ht:tbl tt=some ti)(h2:ce Tryz.prog tbl md ops K os ((t,.pt N 0)::tm) ⟨(N,dC F)::vs,lv,N+1⟩)(hz:ti.zero.map E.lit=F:=by kernel_rfl)(hn:md.nc tbl (.alloc tt)=true:=by exact rfl):ce Tryz.prog tbl md ops K (⟨some t,.alloc tt,ty,pos,af,none⟩::os) tm ⟨vs,lv,N⟩:=s1 (bm ht hz) h2 hn
end
end
def rv(x:Nu):Rat:=(dT x.1).getD 0
theorem dm {x:Nu}:aK x=true↔dT x.1=some (rv x):=by
 rw[eO];unfold rv
 cases dT x.1 <;> simp
theorem OO {x:Nu}(h:aK x=true):nf (rv x):=(eG.1 (dm.1 h)).1
theorem FI {x:Nu}(h:aK x=true):x=nuR (some (rv x)):=Subtype.ext (OZ (dm.1 h))
theorem Cb {x y:Nu}(hx:aK x=true)(hy:aK y=true)(h:rv x=rv y):x=y:=by
 rw[FI hx,FI hy,h]
theorem pX {o:Option Rat}(h:zy o):dT (nuR o).1=o:=yJ h
theorem BH {q:Rat}(h:nf q):aK (nuR (some q))=true∧rv (nuR (some q))=q:=by
 have:dT (nuR (some q)).1=some q:=pX (o:=some q) fun p hp=>by injection hp with hp;rw[←hp];exact h
 rw[eO];unfold rv
 rw[this]
 exact⟨rfl,rfl⟩
theorem fit0:nf 0:=⟨by decide,by decide⟩
theorem fit1:nf 1:=⟨by decide,by decide⟩
theorem LIM_one:1<LIM:=by decide
theorem of0:aK (nOf 0)=true∧rv (nOf 0)=0:=BH (q:=((0:Int):Rat)) fit0
theorem of1:aK (nOf 1)=true∧rv (nOf 1)=1:=BH (q:=((1:Int):Rat)) fit1
theorem ofm1:aK (nOf (-1))=true∧rv (nOf (-1))=-1:=BH (q:=((-1:Int):Rat)) (Hw fit1)
theorem w6 {x:Nu}(h:aK x=true):dv x=(rv x).num.sign:=by rw[zc,dm.1 h];rfl
theorem MN {x:Nu}(h:aK x=true):dv x=0↔rv x=0:=by
 rw[w6 h,zM]
 exact Rat.num_eq_zero
theorem Ng {q:Rat}:0<q.num↔0<q:=by
 rw[Rat.lt_iff];simp
theorem Nh {q:Rat}:q.num<0↔q<0:=by
 rw[Rat.lt_iff];simp
theorem signp {x:Nu}(h:aK x=true):0<dv x↔0<rv x:=by
 rw[w6 h,Int.sign_pos_iff];exact Ng
theorem signn {x:Nu}(h:aK x=true):dv x<0↔rv x<0:=by
 rw[w6 h,Int.sign_neg_iff];exact Nh
theorem Fj {x y:Nu}(hx:aK x=true)(hy:aK y=true)(h:aK (od x y)=true):rv (od x y)=rv x+rv y:=by
 have h1:=dm.1 h
 rw[uK] at h1 ⊢
 rw[pX (GZ _ _),dm.1 hx,dm.1 hy] at h1
 have h2:DD (rv x) (rv y)=some (rv (nuR (IA (some (rv x)) (some (rv y))))):=h1
 rw[dm.1 hx,dm.1 hy]
 unfold DD at h2
 split at h2
 ·injection h2 with h2;exact h2.symm
 ·cases h2
theorem Fi {x y:Nu}(hx:aK x=true)(hy:aK y=true)(h:aK (pd x y)=true):rv (pd x y)=rv x*rv y:=by
 have h1:=dm.1 h
 rw[sk] at h1 ⊢
 rw[pX (BF _ _)] at h1
 rw[dm.1 hx,dm.1 hy] at h1 ⊢
 have h2:yX (rv x) (rv y)=some (rv (nuR (AC (some (rv x)) (some (rv y))))):=h1
 unfold yX at h2
 split at h2
 ·injection h2 with h2;exact h2.symm
 ·cases h2
theorem uU {x y:Nu}(h:aK (od x y)=true):aK x=true∧aK y=true:=by
 rw[eO,uK,pX (GZ _ _)] at h
 rw[eO,eO]
 cases h1:dT x.1 <;> cases h2:dT y.1 <;> simp_all [IA]
theorem OM {x y:Nu}(h:aK (pd x y)=true):aK x=true∧aK y=true:=by
 rw[eO,sk,pX (BF _ _)] at h
 rw[eO,eO]
 cases h1:dT x.1 <;> cases h2:dT y.1 <;> simp_all [AC]
theorem Ef {x:Nu}:aK (gX x)=aK x:=by
 rw[eO,eO,xU,pX (BE (Cf _))]
 cases dT x.1 <;> rfl
theorem Fh {x:Nu}:rv (gX x)=-rv x:=by
 unfold rv
 rw[xU,pX (BE (Cf _))]
 cases dT x.1
 ·simp[Ld]
 ·rfl
theorem yd {x y:Nu}(h:aK (ri x y)=true):aK x=true∧aK y=true∧rv y≠0∧rv (ri x y)=rv x / rv y:=by
 have h1:=dm.1 h
 rw[G1] at h1 ⊢
 rw[pX (Nf _ _)] at h1
 have hx:aK x=true:=by
  rw[eO]
  cases h2:dT x.1 with
  |some _=>rfl
  |none=>rw[h2] at h1;cases h1
 have hy:aK y=true:=by
  rw[eO]
  cases h2:dT y.1 with
  |some _=>rfl
  |none=>rw[h2] at h1;unfold GY AC Le at h1;cases h3:dT x.1 <;> simp[h3] at h1
 rw[dm.1 hx,dm.1 hy] at h1 ⊢
 by_cases h0:rv y=0
 ·unfold GY AC Le at h1
  simp[h0] at h1
 ·have h2:yX (rv x) (rv y)⁻¹=some (rv (nuR (GY (some (rv x)) (some (rv y))))):=by
   rw[←h1]
   unfold GY AC Le
   simp[h0]
  refine⟨hx,hy,h0,?_⟩
  unfold yX at h2
  split at h2
  ·injection h2 with h2;rw[←h2,Rat.div_def]
  ·cases h2
theorem Lh {q y:Nu}(hq:aK q=true)(h0:rv q=0)(hy:aK y=true):pd q y=nOf 0:=by
 unfold nOf
 rw[sk,dm.1 hq,dm.1 hy,h0]
 show nuR (yX 0 (rv y))=_
 unfold yX
 rw[Rat.zero_mul,if_pos fit0]
 rfl
theorem IC {q:Nu}(hq:aK q=true):pd q (nOf 0)=nOf 0:=by
 have h1:dT (nOf 0).1=some 0:=by have:=dm.1 of0.1;rw[of0.2] at this;exact this
 rw[sk,dm.1 hq,h1]
 show nuR (yX (rv q) 0)=_
 unfold yX
 rw[Rat.mul_zero,if_pos fit0]
 rfl
theorem K8 {x:Rat}(h:nf x):DD x 0=some x:=by
 unfold DD
 rw[if_pos,Rat.add_zero]
 have h1:Nat.gcd x.den (0:Rat).den=1:=Nat.gcd_one_right _
 rw[h1]
 have e1:(0:Rat).den=1:=rfl
 have e2:(0:Rat).num=0:=rfl
 have:=LIM_one
 rw[e1,e2]
 simp only[mN,Int.mul_one,Int.zero_mul,Int.add_zero,wD]
 exact⟨by simpa using h.1,by simp;omega,by simpa using h.1,h.2⟩
theorem Eg {x:Nu}(hx:aK x=true):od x (nOf 0)=x:=by
 have h1:=dm.1 hx
 rw[uK,h1,show dT (nOf 0).1=some 0 from by have:=dm.1 of0.1;rw[of0.2] at this;exact this]
 show nuR (DD (rv x) 0)=x
 rw[K8 (OO hx)]
 exact (FI hx).symm
theorem Eh {x q y:Nu}(hx:aK x=true)(hq:aK q=true)(hy:aK y=true)(h0:dv q=0):od x (pd q y)=x:=by
 rw[Lh hq ((MN hq).1 h0) hy,Eg hx]
theorem good0 {x:Nu}(h:aK x=true)(h0:dv x=0):x=nOf 0:=Cb h of0.1 (((MN h).1 h0).trans of0.2.symm)
structure Lin where
 k:Nu
 c:List Nu
def goodR(l:Lin):Bool:=iM l.k l.c
def yY(l row:Lin)(s:Nat):Lin:=⟨od l.k (pd l.c[s]! row.k),(List.range l.c.length).map fun t=>if t=s then nOf 0 else od l.c[t]! (pd l.c[s]! row.c[t]!)⟩
theorem GO(p:Nu)(l:List Nu):∀t,t≤l.length→rA p t l=(l.take t).map (fun x=>ri (gX x) p)++l.drop t
 |0,_=>by simp[rA]
 |t+1,h=>by
  have ih:=GO p l t (by omega)
  unfold rA
  have hl:((l.take t).map fun x=>ri (gX x) p).length=t:=by simp;omega
  have hg:(rA p t l)[t]! =l[t]:=by
   rw[ih,xj,pL (by omega),hl,Nat.sub_self,nA,mf,c0 (by omega)]
   rfl
  rw[hg,ih,List.set_append_right _ _ (by omega),hl,Nat.sub_self,HU (by omega),List.set_cons_zero,ym,c0 (by omega)]
  simp only[jz,dy,dJ,eD,List.cons_append,mU,Option.toList]
theorem KY(p:Nu)(l:List Nu):rA p l.length l=l.map fun x=>ri (gX x) p:=by
 rw[GO p l _ (aB _)];simp
theorem uV {α:Type}[Inhabited α]{l:List α}{i:Nat}(h:i<l.length):l[i]? =some l[i]! :=by rw[cz l i h];exact c0 h
theorem gf {α:Type}[Inhabited α]{l:List α}{i:Nat}{x:α}(h:l[i]? =some x):l[i]! =x:=by rw[xj,h];rfl
theorem K6 {n i:Nat}(h:i<n):(List.range n)[i]? =some i:=by rw[c0 (by simpa using h),List.getElem_range]
theorem dW {α:Type}{n i:Nat}(f:Nat→α)(h:i<n):((List.range n).map f)[i]? =some (f i):=by rw[ek,K6 h];rfl
theorem sv {α:Type}[Inhabited α]{l:List α}{n:Nat}{f:Nat→α}(hl:l.length=n)(h:∀i,i<n→l[i]! =f i):l=(List.range n).map f:=by
 apply List.ext_getElem?
 intro i
 by_cases hi:i<n
 ·rw[uV (by omega),dW f hi,h i hi]
 ·rw[qL (by omega),qL (by simp;omega)]
theorem m4 {α:Type}[Inhabited α]{l:List α}{i j:Nat}{x:α}(hj:j<l.length):(l.set i x)[j]! =if i=j then x else l[j]! :=by
 apply gf
 rw[List.getElem?_set]
 by_cases h:i=j
 ·subst h;simp[hj]
 ·rw[if_neg h,if_neg h,uV hj]
theorem KB(q:Nu)(xc:List Nu)(s:Nat)(l:List Nu):∀t i,i<l.length→(yp q xc s t l)[i]! =if i<t∧i≠s then od l[i]! (pd q xc[i]!) else l[i]!
 |0,i,_=>by rw[if_neg (by omega)];rfl
 |t+1,i,h=>by
  have ih:=KB q xc s l t
  unfold yp
  by_cases NL:(t:Int)=(s:Int)
  ·rw[if_pos NL,ih i h]
   by_cases hi:i<t∧i≠s
   ·rw[if_pos hi,if_pos (by omega)]
   ·rw[if_neg hi,if_neg (by omega)]
  ·rw[if_neg NL,m4 (by rw[sK];exact h)]
   by_cases xZ:t=i
   ·subst xZ
    rw[if_pos rfl,if_pos (by omega),ih t h,if_neg (by omega)]
   ·rw[if_neg xZ,ih i h]
    by_cases hi:i<t∧i≠s
    ·rw[if_pos hi,if_pos (by omega)]
    ·rw[if_neg hi,if_neg (by omega)]
theorem all_get {l:List Nu}(h:l.all aK=true){i:Nat}(hi:i<l.length):aK l[i]! =true:=by
 rw[cz l i hi];exact cX.1 h _ (pM hi)
theorem all_of {l:List Nu}(h:∀i,i<l.length→aK l[i]! =true):l.all aK=true:=by
 rw[cX]
 intro x hx
 obtain⟨i,hi,rfl⟩:=CE.1 hx
 have:=h i hi
 rwa[cz l i hi] at this
theorem gI {k:Nu}{c:List Nu}:iM k c=true↔aK k=true∧∀i,i<c.length→aK c[i]! =true:=by
 unfold iM
 rw[bq]
 exact⟨fun h=>⟨h.1,fun i hi=>all_get h.2 hi⟩,fun h=>⟨h.1,all_of h.2⟩⟩
def lO(k:Nu)(c:List Nu)(r1:Row)(s:Nat):Lin:=⟨CK c[s]! r1.k k,zT c[s]! r1.c s (c.set s (nOf 0))⟩
theorem xQ(k:Nu)(c:List Nu)(r1:Row)(s:Nat):(lO k c r1 s).c.length=c.length:=by unfold lO;rw[yq,eL]
theorem putP_eq {k:Nu}{c:List Nu}{r1:Row}{s:Nat}(hg:iM k c=true)(hr:iM r1.k r1.c=true)(hs:s<c.length)(hl:r1.c.length=c.length):lO k c r1 s=yY ⟨k,c⟩ ⟨r1.k,r1.c⟩ s:=by
 obtain⟨h1,h2⟩:=gI.1 hg
 obtain⟨h3,h4⟩:=gI.1 hr
 have hq:=h2 s hs
 unfold lO yY CK zT
 by_cases h0:dv c[s]! =0
 ·rw[if_pos h0,if_pos h0]
  congr 1
  ·exact (Eh h1 hq h3 h0).symm
  ·refine sv (by rw[eL]) fun i hi=>?_
   have hi:i<c.length:=hi
   rw[m4 hi]
   by_cases his:s=i
   ·rw[if_pos his,if_pos his.symm]
   ·rw[if_neg his,if_neg (fun e=>his e.symm)]
    exact (Eh (h2 i hi) hq (h4 i (by omega)) h0).symm
 ·rw[if_neg h0,if_neg h0]
  congr 1
  refine sv (by rw[sK,eL]) fun i hi=>?_
  have hi:i<c.length:=hi
  rw[KB _ _ _ _ _ i (by rw[eL];exact hi),eL,m4 hi]
  by_cases his:s=i
  ·subst his;simp
  ·rw[if_pos ⟨hi,fun e=>his e.symm⟩,if_neg his,if_neg (fun e=>his e.symm)]
theorem s8(r:Row)(s:Nat):(bZ r s).c.length=r.c.length:=by unfold bZ;simp[yO]
def oK(rows:List Row)(r1:Row)(s at' i:Nat):List Row:=(List.range rows.length).map fun j=>if j≠at'∧j<i then⟨(lO rows[j]!.k rows[j]!.c r1 s).k,(lO rows[j]!.k rows[j]!.c r1 s).c,rows[j]!.b⟩ else rows[j]!
theorem Lc(at' i:Nat):vZ at' (i+1)=if i=at' then vZ at' i else vZ at' i++[some i]:=by
 unfold vZ
 rw[u6,List.filter_append,jz]
 by_cases h:i=at'
 ·rw[if_pos h];simp[h]
 ·rw[if_neg h];simp[h]
theorem Kl(d:Dic)(r1:Row)(s at':Nat)(g:Bool):∀i,i≤d.rows.length→(vZ at' i).foldl (uF r1 s) (d,g)=
  (⟨oK d.rows r1 s at' i,(lO d.gk d.gc r1 s).k,(lO d.gk d.gc r1 s).c,d.n,d.piv,d.most⟩,g&&(iM (lO d.gk d.gc r1 s).k (lO d.gk d.gc r1 s).c&&(List.range i).all fun j=>decide (j=at')||iM (lO d.rows[j]!.k d.rows[j]!.c r1 s).k (lO d.rows[j]!.k d.rows[j]!.c r1 s).c))
 |0,_=>by
  have h0:oK d.rows r1 s at' 0=d.rows:=by
   unfold oK
   exact (sv rfl fun i hi=>by rw[if_neg (by omega)]).symm
  rw[h0]
  show uF r1 s (d,g) none=_
  simp[uF,MJ,Ir,lkO,lcO,lO]
 |i+1,h=>by
  have ih:=Kl d r1 s at' g i (by omega)
  rw[Lc]
  by_cases hi:i=at'
  ·rw[if_pos hi,ih]
   congr 1
   ·congr 1
    unfold oK
    refine rN fun j hj=>?_
    by_cases Dk:j≠at'∧j<i
    ·rw[if_pos Dk,if_pos (by omega)]
    ·rw[if_neg Dk,if_neg (by omega)]
   ·rw[u6,lN]
    simp[hi]
  ·rw[if_neg hi,List.foldl_append,ih]
   have jK:(oK d.rows r1 s at' i)[i]! =d.rows[i]! :=by
    apply gf
    unfold oK
    rw[dW _ (by omega),if_neg (by omega)]
   have AE:∀x:Row,(oK d.rows r1 s at' i).set i x=(List.range d.rows.length).map fun j=>if j=i then x else (oK d.rows r1 s at' i)[j]! :=fun x=>by
    refine sv (by simp[oK]) fun j hj=>?_
    rw[m4 (by simpa[oK] using hj)]
    by_cases Gq:i=j
    ·rw[if_pos Gq,if_pos Gq.symm]
    ·rw[if_neg Gq,if_neg (fun e=>Gq e.symm)]
   simp only[List.foldl_cons,List.foldl_nil,uF,MJ,Ir,lkO,lcO,jK]
   congr 1
   ·congr 1
    rw[AE]
    unfold oK
    refine rN fun j hj=>?_
    have hj:=pw.1 hj
    by_cases A6:j=i
    ·subst A6
     rw[if_pos rfl,if_pos ⟨hi,by omega⟩]
     rfl
    ·rw[if_neg A6]
     have:((List.range d.rows.length).map fun j=>if j≠at'∧j<i then (⟨(lO d.rows[j]!.k d.rows[j]!.c r1 s).k,(lO d.rows[j]!.k d.rows[j]!.c r1 s).c,d.rows[j]!.b⟩:Row) else d.rows[j]!)[j]! =_:=gf (dW _ hj)
     rw[this]
     by_cases Dk:j≠at'∧j<i
     ·rw[if_pos Dk,if_pos (by omega)]
     ·rw[if_neg Dk,if_neg (by omega)]
   ·rw[u6,lN]
    simp[hi,lO,Bool.and_assoc]
structure Fine(d:Dic)(w:Nat):Prop where
 lg:d.gc.length=w
 lr:∀i,i<d.rows.length→d.rows[i]!.c.length=w
 gg:iM d.gk d.gc=true
 gr:∀i,i<d.rows.length→iM d.rows[i]!.k d.rows[i]!.c=true
def m8(d:Dic)(at' s:Nat):Dic:=
 let r1:=bZ d.rows[at']! s
 ⟨(List.range d.rows.length).map fun j=>if j=at' then r1 else⟨(lO d.rows[j]!.k d.rows[j]!.c r1 s).k,(lO d.rows[j]!.k d.rows[j]!.c r1 s).c,d.rows[j]!.b⟩,(lO d.gk d.gc r1 s).k,(lO d.gk d.gc r1 s).c,d.n,d.piv+1,d.most⟩
theorem Ec(d:Dic)(at' s:Nat)(hat:at'<d.rows.length)(hp:¬d.most≤d.piv):(eg d at' s).2=m8 d at' s∧
  ((eg d at' s).1=0∨(eg d at' s).1=30)∧((eg d at' s).1=0↔iM (m8 d at' s).gk (m8 d at' s).gc=true∧∀i,i<d.rows.length→iM (m8 d at' s).rows[i]!.k (m8 d at' s).rows[i]!.c=true):=by
 have kR:∀(p:Dic×Bool) (r1:Row),pO r1 s at' d.rows.length p (vZ at' d.rows.length).length=(vZ at' d.rows.length).foldl (uF r1 s) p:=fun p r1=>by unfold pO;rw[List.take_length]
 unfold eg
 rw[if_neg hp]
 simp only[kR]
 obtain⟨r1,Gn⟩:∃r1,r1=bZ d.rows[at']! s:=⟨_,rfl⟩
 have hr1':=Gn
 rw[←Gn]
 obtain⟨d1,B5⟩:∃d1:Dic,d1=⟨d.rows.set at' r1,d.gk,d.gc,d.n,d.piv+1,d.most⟩:=⟨_,rfl⟩
 have hdl:d1.rows.length=d.rows.length:=by rw[B5];exact eL ..
 rw[←B5]
 have hf:=Kl d1 r1 s at' (iM r1.k r1.c) d.rows.length (by omega)
 rw[hf]
 have hrow:∀j,j<d.rows.length→d1.rows[j]! =if at'=j then r1 else d.rows[j]! :=fun j hj=>by rw[B5];exact m4 hj
 have hpD:m8 d at' s=⟨oK d1.rows r1 s at' d.rows.length,(lO d1.gk d1.gc r1 s).k,(lO d1.gk d1.gc r1 s).c,d1.n,d1.piv,d1.most⟩:=by
  unfold m8
  rw[←Gn,B5]
  dsimp only
  congr 1
  unfold oK
  rw[eL]
  refine rN fun j hj=>?_
  have hj:=pw.1 hj
  rw[m4 hj]
  by_cases A7:j=at'
  ·subst A7;simp
  ·rw[if_neg A7,if_pos ⟨A7,hj⟩,if_neg (fun e=>A7 e.symm)]
 refine⟨hpD.symm,?_,?_⟩
 ·dsimp only
  split <;> simp
 ·dsimp only
  have jK:∀i,i<d.rows.length→(m8 d at' s).rows[i]! =if i=at' then r1 else⟨(lO d.rows[i]!.k d.rows[i]!.c r1 s).k,(lO d.rows[i]!.k d.rows[i]!.c r1 s).c,d.rows[i]!.b⟩:=fun i hi=>by
   apply gf
   unfold m8
   rw[←Gn]
   exact dW _ hi
  constructor
  ·intro h
   split at h
   ·rename_i hb
    simp only[bq,cX] at hb
    obtain⟨h1,h2,h3⟩:=hb
    refine⟨by rw[hpD];exact h2,fun i hi=>?_⟩
    rw[jK i hi]
    by_cases rE:i=at'
    ·rw[if_pos rE];exact h1
    ·rw[if_neg rE]
     have:=h3 i (pw.2 hi)
     rw[hrow i hi,if_neg (fun e=>rE e.symm)] at this
     simpa[rE] using this
   ·cases h
  ·rintro⟨h1,h2⟩
   rw[if_pos]
   simp only[bq,cX]
   refine⟨?_,by rw[hpD] at h1;exact h1,fun i hi=>?_⟩
   ·have:=h2 at' hat
    rw[jK at' hat,if_pos rfl] at this
    exact this
   ·have hi:=pw.1 hi
    have:=h2 i hi
    rw[jK i hi] at this
    by_cases rE:i=at'
    ·simp[rE]
    ·rw[if_neg rE] at this
     rw[hrow i hi,if_neg (fun e=>rE e.symm)]
     simp only[Bool.or_eq_true]
     exact .inr this
end
end Go.Proofs.YtaedcknhkjpmlaaGreat
