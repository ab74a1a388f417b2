/-
  Lemmas, part 5. Conditions: none.
-/
import Derived.Test.YtgfcnncojhkcoaaGreatX4
set_option linter.all false
set_option maxRecDepth 100000
namespace Go.Proofs.YtgfcnncojhkcoaaGreat
open Go.RowKit Go.IntKind Tryz
noncomputable section
theorem dg_cons {R d i:Nat}(hd:d<65536):dg 65536 (R*65536+d) (i+1)=dg 65536 R i:=by
 have e:(R*65536+d) / 65536=R:=by omega
 unfold dg
 rw[fe,cY (65536 ^ i),←lN,e]
theorem G_at {n A k:Nat}(hA:A<65536 ^ n):iC (dk n A) (k:Int)=some ((dg 65536 A k:Nat):Int):=by
 unfold iC
 rw[bA _ _,uj hA,ab]
theorem QS {l:List Int}{k:Int}(h:k<0):iC l k=some 0:=by
 unfold iC
 rw[bF _ _ h]
def yu(A:Nat)(m:Nat):Nat:=if m<2 then 0 else dg 65536 A (m - 2)
theorem K8 {A m:Nat}:yu A m<65536:=by
 unfold yu;split
 ·omega
 ·exact lm
theorem G_at2 {n A m:Nat}(hA:A<65536 ^ n)(hm:0<m)(hm2:m<100000):iC (dk n A) (i64.wrap ((m:Int) - (2:Int)))=some ((yu A m:Nat):Int):=by
 unfold yu
 rw[cG]
 by_cases h:m<2
 ·rw[aQ h,QS (by omega)];rfl
 ·rw[aV h,show (m:Int) - 2=((m - 2:Nat):Int) from by omega,G_at hA]
def J1(x0 x1 x2:Nat):Nat:=x0*4294967296+x1*65536+x2
theorem MI {x0 x1 x2:Nat}(h0:x0<65536)(h1:x1<65536)(h2:x2<65536):i64.wrap ((i64.wrap ((i64.wrap ((x0:Int)*(4294967296:Int)))+(i64.wrap ((x1:Int)*(65536:Int)))))+(x2:Int))=((J1 x0 x1 x2:Nat):Int):=by
 unfold J1
 rw[cG (z:=(x0:Int)*(4294967296:Int)) (by omega),cG (z:=(x1:Int)*(65536:Int)) (by omega),cG (z:=(x0:Int)*4294967296+(x1:Int)*65536) (by omega),cG]
 omega
theorem est3_lt {x0 x1 x2:Nat}(h0:x0<65536)(h1:x1<65536)(h2:x2<65536):J1 x0 x1 x2<281474976710656:=by
 unfold J1;omega
theorem quo_w {S T:Nat}(h:S<281474976710656):i64.wrap (Int.tdiv (S:Int) (T:Int))=((S / T:Nat):Int):=by
 have:=pR S T
 rw[←sM]
 generalize S / T=q at this ⊢
 rw[cG]
theorem min_w {e:Nat}:min (65535:Int) (e:Int)=((min 65535 e:Nat):Int):=by omega
theorem est_ge {X B m:Nat}(hm:0<m)(hB:B<65536 ^ m)(hB1:65536 ^ (m - 1)≤B)(hX:X<B*65536):
  X / B≤J1 (dg 65536 X m) (dg 65536 X (m - 1)) (yu X m) / (dg 65536 B (m - 1)*65536+yu B m):=by
 unfold J1
 have Id:0<B:=cm (dP (by decide)) hB1
 have hXm:X<65536 ^ (m+1):=by
  rw[fe];exact cm hX (c6 _ (oW hB))
 by_cases h:m<2
 ·obtain rfl:m=1:=by omega
  have eX:X=dg 65536 X 1*65536+dg 65536 X 0:=by
   have:=c9 (b:=65536) (A:=X) (k:=0)
   rw[kz,rF] at this
   have e2:=c9 (b:=65536) (A:=X) (k:=1)
   rw[gD hXm,gb,dA] at e2
   rw[←e2];exact this
  have eB:B=dg 65536 B 0:=by
   have:=c9 (b:=65536) (A:=B) (k:=0)
   rw[kz,rF,gD hB,gb,dA] at this
   exact this
  unfold yu
  rw[ifp_,ifp_,mi,mi,show 1 - 1=0 from rfl,←eB]
  have:dg 65536 X 1*4294967296+dg 65536 X 0*65536=X*65536:=by omega
  rw[this,Nat.mul_div_mul_right _ _ (by decide)]
  exact bI _
 ·obtain⟨p,rfl⟩:∃p,m=p+2:=⟨m - 2,by omega⟩
  have hp:0<65536 ^ p:=dP (by decide)
  have eX:X / 65536 ^ p=dg 65536 X (p+2)*4294967296+dg 65536 X (p+1)*65536+dg 65536 X p:=by
   have e0:=c9 (b:=65536) (A:=X) (k:=p)
   have e1:=c9 (b:=65536) (A:=X) (k:=p+1)
   have e2:=c9 (b:=65536) (A:=X) (k:=p+2)
   rw[gD hXm,gb,dA] at e2
   rw[e0,e1,show p+1+1=p+2 from rfl,e2,cO,jx]
  have eB:B / 65536 ^ p=dg 65536 B (p+1)*65536+dg 65536 B p:=by
   have e0:=c9 (b:=65536) (A:=B) (k:=p)
   have e1:=c9 (b:=65536) (A:=B) (k:=p+1)
   rw[gD hB,gb,dA] at e1
   rw[e0,e1]
  unfold yu
  rw[aV h,aV h,show p+2 - 2=p from rfl,show p+2 - 1=p+1 from rfl,←eX,←eB]
  have hT:0<B / 65536 ^ p:=by
   refine C4 (da ?_ hB1) hp
   exact na (by decide) (by omega)
  rw[pT hT,pT hp,jx]
  refine da (ud _ (KE _ _)) ?_
  rw[cY]
  exact Nat.mul_div_le _ _
theorem HQ {X B d:Nat}(hB:0<B):X<B*d↔X / B<d:=by
 rw[pz hB,cY]
theorem PD {X B m:Nat}(hm:m<900)(hB:B<65536 ^ m)(Id:0<B)(hXs:sz6 X≤m+1)(d:Nat)(hd:X / B≤d)(H7:d≤65535):
  bf (iz (dk m B) (dl X)) ((d:Int),dl (B*d))=some (((X / B:Nat):Int),dl (B*(X / B))):=by
 obtain⟨x,hl,hx⟩:=wS (b:=iz (dk m B) (dl X)) (fun s=>∃d:Nat,s=((d:Int),dl (B*d))∧X / B≤d∧d≤65535) (fun s=>s.1.toNat) (fun x=>x=(((X / B:Nat):Int),dl (B*(X / B))))
  (by
   rintro s ⟨d,rfl,h1,h2⟩
   have hBd:B*d<65536 ^ (m+1):=by
    rw[fe];exact Nat.mul_lt_mul_of_lt_of_le hB (by omega) (by decide)
   have hsz:=qy hBd
   dsimp only[iz]
   rw[LQ (fG X) (fG (B*d)) (by omega) (by omega),ab]
   by_cases cg:X<B*d
   ·left
    have h3:=(HQ Id).1 cg
    have DC:0<d:=qza1 (fH _) h3
    have h4:B≤B*d:=Aj _ DC
    refine⟨_,by rw[bF _ _ cg,za (fG (B*d)) hB (by omega) h4,ab,cG],⟨d - 1,?_,by omega,by omega⟩,?_⟩
    ·rw[Nat.mul_sub,uc]
     congr 1
     omega
    ·show ((d:Int) - 1).toNat<((d:Nat):Int).toNat
     omega
   ·right
    have h3:=mt (HQ Id).2 cg
    obtain rfl:d=X / B:=by omega
    exact⟨_,by rw[bA _ _ cg],rfl⟩) ((d:Int),dl (B*d)) ⟨d,rfl,hd,H7⟩
 rw[hl,hx]
set_option maxRecDepth 10000 in
theorem IN {A B:Nat}(hA:sz6 A<800)(hBs:sz6 B<800)(Id:0<B):iB (dl A) (dl B)=some (dl (A / B),dl (A % B)):=by
 obtain⟨m,hm⟩:∃m,m=sz6 B:=⟨_,rfl⟩
 obtain⟨n,hn⟩:∃n,n=sz6 A:=⟨_,rfl⟩
 have hB:=fG B
 have hB1:=(yg B).2 (Bm Id)
 have OW:=Bm Id
 have hAn:=fG A
 show iB (dk (sz6 A) A) (dk (sz6 B) B)=_
 rw[←hm] at hB hB1 OW hBs ⊢
 rw[←hn] at hAn hA ⊢
 have cE:1≤dg 65536 B (m - 1):=by
  have:=c9 (b:=65536) (A:=B) (k:=m - 1)
  rw[show m - 1+1=m from by omega,gD hB,gb,dA] at this
  rw[←this]
  exact (pT (dP (by decide))).2 (by rw[fm];exact hB1)
 have hbl:=@lm B (m - 1)
 have hll:=@K8 B m
 have em1:i64.wrap ((m:Int) - (1:Int))=((m - 1:Nat):Int):=by rw[cG];omega
 have hm5:m<100000:=by omega
 have htop:((dg 65536 B (m - 1)*65536+yu B m:Nat):Int)≠0:=by omega
 have hl:=Ok (b:=iA (dk n A) (dk m B) ((dg 65536 B (m - 1)*65536+yu B m:Nat):Int)) (s0:=(([]:List Int),(n:Int) - 1,List.replicate n (0:Int))) (fun k=>(dl (A / 65536 ^ k % B),(k:Int) - 1,lF n (fun j=>if k≤j then dg 65536 (A / B) j else 0))) n (dl (A / 65536 ^ 0 % B),lF n (fun j=>if 0≤j then dg 65536 (A / B) j else 0))
  (by
   rw[gD hAn,Nat.zero_mod,dl_zero,Oo]
   congr 2
   exact tR fun j hj=>ifn_)
  (fun k hk=>by
   obtain⟨h1,h2⟩:=xi (b:=65536) (A:=A) (k:=k) (d:=B) (by decide) Id
   have hr:=ey (A / 65536 ^ (k+1)) Id
   have ha:=@lm A k
   generalize A / 65536 ^ (k+1) % B=R at h1 h2 hr ⊢
   generalize A / 65536 ^ k % B=R' at h2 ⊢
   have hX:R*65536+dg 65536 A k<B*65536:=by
    have:(R+1)*65536≤B*65536:=c6 _ hr
    omega
   have hRs:sz6 R≤m:=qy (by omega)
   have hXm:R*65536+dg 65536 A k<65536 ^ (m+1):=by
    rw[fe];exact cm hX (c6 _ (oW hB))
   have hXs:=qy hXm
   have hcons:[(dg 65536 A k:Int)]++dl R=dk (sz6 R+1) (R*65536+dg 65536 A k):=by
    unfold dl
    rw[lF_cons]
    exact tR fun j hj=>by
     by_cases hj0:j=0
     ·subst hj0
      rw[aQ rfl]
      unfold dg
      rw[kz,rF]
      have:=@lm A k
      unfold dg at this
      omega
     ·rw[aV hj0]
      obtain⟨i,rfl⟩:∃i,j=i+1:=⟨j - 1,by omega⟩
      exact (dg_cons ha).symm
   have hXlt:R*65536+dg 65536 A k<65536 ^ (sz6 R+1):=by
    have:=fG R
    rw[fe]
    have h3:(R+1)*65536≤65536 ^ sz6 R*65536:=c6 _ this
    rw[cO,fm] at h3
    exact cm (vw ha _) h3
   have hszR:sz6 R+1<1000:=by
    have:=qza1 hRs hBs
    exact cm (Nat.succ_lt_succ this) (by decide)
   have ei:((k+1:Nat):Int) - 1=(k:Int):=by omega
   have My:=est_ge OW hB hB1 hX
   have d1:=@lm (R*65536+dg 65536 A k) m
   have d2:=@lm (R*65536+dg 65536 A k) (m - 1)
   have d3:=@K8 (R*65536+dg 65536 A k) m
   have hqk:(R*65536+dg 65536 A k) / B<65536:=(pz Id).2 (by rw[cY 65536 B];exact hX)
   dsimp only[iA]
   rw[ei,bF _ _ (Gx k)]
   rw[de,de,de]
   rw[aI (show (0:Int)≤(k:Int)∧(k:Int)<(n:Int) from⟨Gx k,Int.ofNat_lt.2 hk⟩)]
   rw[bh,bh]
   rw[qD hk,hcons,de]
   rw[aI (show (sz6 R+1)*8≤140737488355328 from da (c6 _ (oW hszR)) (by decide))]
   rw[xM hXlt (Ak hszR (by decide)),ab,G_at (fG _),ab]
   rw[show i64.wrap ((m:Int) - (1:Int))=((m - 1:Nat):Int) from em1,G_at (fG _),ab,G_at2 (fG _) OW hm5,ab,aI htop]
   obtain⟨X,hX2⟩:∃X,X=R*65536+dg 65536 A k:=⟨_,rfl⟩
   rw[←hX2] at h1 h2 hX hXm hXs hXlt My d1 d2 d3 hqk ⊢
   generalize dg 65536 X m=x0 at My d1 ⊢
   generalize dg 65536 X (m - 1)=x1 at My d2 ⊢
   generalize yu X m=x2 at My d3 ⊢
   have hS:=est3_lt d1 d2 d3
   rw[MI d1 d2 d3,quo_w hS]
   generalize J1 x0 x1 x2 / (dg 65536 B (m - 1)*65536+yu B m)=e at My ⊢
   have M6:X / B≤min 65535 e:=Nat.le_min.2 ⟨Nat.le_of_lt_succ hqk,My⟩
   have H7:min 65535 e≤65535:=Nat.min_le_left ..
   rw[min_w,ab]
   generalize min 65535 e=d at M6 H7 ⊢
   have e1:[(d:Int)]=dk 1 d:=by
    show _=lF 1 _
    unfold lF dg
    simp only[List.range_one,bN,cl,kz,rF]
    rw[gL (by omega)]
   have hmul:B*(X / B)≤X:=Nat.mul_div_le _ _
   have hms:sz6 (B*(X / B))≤m+1:=qy (by omega)
   rw[e1,IM hB (by rw[vy];omega) (by omega) (by omega),ab,PD (by omega) hB Id hXs d M6 H7,ab]
   dsimp only
   rw[aI,za (fG X) (fG _) (by omega) hmul,ab,cG,Ju]
   have em:X - B*(X / B)=X % B:=by have:=oV X B;omega
   rw[em,h2,h1]
   have ef:lF n (fun j=>if j=k then dg 65536 (A / B) k else if k+1≤j then dg 65536 (A / B) j else 0)=lF n (fun j=>if k≤j then dg 65536 (A / B) j else 0):=tR fun j _=>by
    by_cases h:j=k
    ·rw[aQ h,ifp_,h]
    ·rw[aV h]
     by_cases h3:k+1≤j
     ·rw[aQ h3,ifp_]
     ·rw[aV h3,ifn_]
   rw[ef])
  (by
   dsimp only[iA]
   rw[bA _ _])
 have hq:A / B<65536 ^ n:=qza1 (pR _ _) hAn
 unfold iB
 rw[de,de,aI,show i64.wrap ((m:Int) - (1:Int))=((m - 1:Nat):Int) from by rw[cG];omega,aI,G_at2 hB OW (by omega),ab,bh,bh,qD (by omega),cG (z:=(dg 65536 B (m - 1):Int)*65536) (by omega),cG,ab,cG,ab,show (dg 65536 B (m - 1):Int)*65536+(yu B m:Int)=((dg 65536 B (m - 1)*65536+yu B m:Nat):Int) from by omega,hl,ab]
 dsimp only
 rw[de,aI rfl,tR (n:=n) (f:=fun j=>if 0≤j then dg 65536 (A / B) j else 0) (g:=dg 65536 (A / B)) fun j _=>aQ (fH _),xM hq (by omega),ab,kz,rF]
theorem QD:LIM=65536 ^ 32:=by decide +kernel
theorem Lu {A k:Nat}:dg 4294967296 A k=dg 65536 A (2*k+1)*65536+dg 65536 A (2*k):=by
 have e:(4294967296:Nat) ^ k=65536 ^ (2*k):=by rw[Am]
 unfold dg
 rw[e,fe,←lN]
 omega
theorem QQ {x:ay}{A:Nat}(hx:x.vW=W A)(hA:A<LIM):bS x=some (dl A):=by
 have hl:=rr (b:=jl x) (s0:=(([]:List Int),(0:Int))) (fun k=>(dk (2*k) A,(k:Int))) 16 (dk 32 A)
  (by rfl)
  (fun k hk=>by
   have hp:=Lu (A:=A) (k:=k)
   have h0:=@lm A (2*k)
   have h1:=@lm A (2*k+1)
   dsimp only[jl]
   rw[bF _ _,aI,aI,hx,bh,gN hk]
   have e1:i64.wrap (Int.tmod (dg 4294967296 A k:Int) (65536:Int))=(dg 65536 A (2*k):Int):=by
    rw[show (65536:Int)=((65536:Nat):Int) from rfl,←sL,cG];omega
   have e2:i64.wrap (u32.wrap (Int.tdiv (dg 4294967296 A k:Int) (65536:Int)))=(dg 65536 A (2*k+1):Int):=by
    rw[show (65536:Int)=((65536:Nat):Int) from rfl,←sM,zw,cG];omega
   rw[e1,e2,show dk (2*k) A++[(dg 65536 A (2*k):Int),(dg 65536 A (2*k+1):Int)]=(dk (2*k) A++[(dg 65536 A (2*k):Int)])++[(dg 65536 A (2*k+1):Int)] from by rw[gr];rfl,yv,yv,de,aI,cG]
   rfl)
  (by
   dsimp only[jl]
   rw[bA _ _])
 unfold bS
 rw[hl,ab,xM (by rw[←QD];exact hA) (by decide),ab]
theorem Dt:f7=some Eh:=by unfold f7;rw[r16];rfl
theorem N3 {n A:Nat}(hn:n≤32)(neg:Bool):
  bf (gk (dk n A)) ((0:Int),(⟨false,neg,W 0⟩:ay))=some (⟨false,neg,W (A % 65536 ^ n)⟩:ay):=by
 have hb:0<(4294967296:Nat):=by decide
 have hl:=rr (b:=gk (dk n A)) (s0:=((0:Int),(⟨false,neg,W 0⟩:ay))) (fun k=>((k:Int),(⟨false,neg,W (A % 65536 ^ k)⟩:ay))) n (⟨false,neg,W (A % 65536 ^ n)⟩:ay)
  (by rw[kz,qN];rfl)
  (fun k hk=>by
   have h0:=@lm A k
   have cg:A % 65536 ^ k<65536 ^ k:=ey _ (dP (by decide))
   have hdiv:i64.wrap (Int.tdiv (k:Int) (2:Int))=((k / 2:Nat):Int):=by
    rw[show (2:Int)=((2:Nat):Int) from rfl,←sM,cG]
   have e1:=Lu (A:=A % 65536 ^ k) (k:=k / 2)
   have hu:=fun x:Nat=>I7 (b:=4294967296) (A:=A % 65536 ^ k) (p:=k / 2) (x:=x)
   dsimp only[gk]
   rw[de,bF _ _,hdiv,aI,aI,aI,ab,aI,aI,aI,ab,bh,bh,gN (by omega),qD hk,show (2:Int)=((2:Nat):Int) from rfl,←sL,zw (n:=dg 65536 A k) (by omega),fU]
   have sR:A % 65536 ^ (k+1)=A % 65536 ^ k+65536 ^ k*dg 65536 A k:=gS
   have hpow:(4294967296:Nat) ^ (k / 2)=65536 ^ (2*(k / 2)):=by rw[Am]
   by_cases he:k % 2=0
   ·have D1:2*(k / 2)=k:=by omega
    have d0:dg 4294967296 (A % 65536 ^ k) (k / 2)=0:=by
     rw[e1,D1,mh cg,mh (cm cg (na (by decide) (by omega)))]
    rw[ifp_,ab,d0,←oc,zw,zt hb (by omega) (by omega),cG]
    have:=hu (0+dg 65536 A k)
    rw[d0,hpow,D1] at this
    rw[gb,mi,dA] at this
    rw[show up1 4294967296 (A % 65536 ^ k) (k / 2) (0+dg 65536 A k)=A % 65536 ^ (k+1) from by rw[sR,cY (65536 ^ k),dA];exact this]
    rfl
   ·have D1:2*(k / 2)+1=k:=by omega
    have d1:dg 4294967296 (A % 65536 ^ k) (k / 2)=dg 65536 A (2*(k / 2)):=by
     rw[e1,D1,mh cg,gb,dA,nV (by omega)]
    have h2:=@lm A (2*(k / 2))
    rw[ifn_,ab,d1,show ((dg 65536 A k:Nat):Int)*(65536:Int)=((dg 65536 A k*65536:Nat):Int) from by omega,zw (n:=dg 65536 A k*65536) (by omega),←oc,zw,zt hb (by omega) (by omega),cG]
    have:=hu (dg 65536 A (2*(k / 2))+dg 65536 A k*65536)
    rw[d1,hpow,cO] at this
    have cf:65536 ^ (2*(k / 2))*65536=(65536:Nat) ^ k:=by rw[←fe];exact congrArg _ D1
    have e3:dg 65536 A k*65536*65536 ^ (2*(k / 2))=65536 ^ k*dg 65536 A k:=by
     rw[jx,cY 65536,cf,cY]
    rw[e3,Nat.add_left_comm,qr] at this
    have hfin:=Nat.add_left_cancel this
    rw[show up1 4294967296 (A % 65536 ^ k) (k / 2) (dg 65536 A (2*(k / 2))+dg 65536 A k*65536)=A % 65536 ^ (k+1) from by rw[sR];exact hfin]
    rfl)
  (by
   dsimp only[gk]
   rw[de,bA _ _])
 exact hl
theorem Dx {n A:Nat}(hA:A<65536 ^ n)(hn:n<100000)(neg:Bool):cN neg (dk n A)=some (enc (bif neg then -(A:Int) else (A:Int))):=by
 have hiff:32<sz6 A↔¬A<LIM:=by
  rw[QD]
  constructor
  ·intro h h2
   have:=qy h2;omega
  ·intro h
   rcases cc 32 (sz6 A) with h1|h1
   ·exact h1
   ·exact absurd (cm (fG A) (na (by decide) h1)) h
 have M7:(bif neg then -(A:Int) else (A:Int)).natAbs=A:=by cases neg <;> simp
 unfold cN
 rw[xM hA (by omega),ab,J3,r16]
 by_cases h:32<sz6 A
 ·rw[bF _ _,Dt,ab,Cu (by rw[M7];exact hiff.1 h)]
 ·have hAL:A<LIM:=Decidable.byContradiction fun h2=>h (hiff.2 h2)
  have hneg:decide ((0:Int)<((sz6 A:Nat):Int))= !decide (A=0):=by
   rw[←CY]
   refine mJ.2 ?_
   constructor
   ·intro h3 h4;subst h4;rw[BN] at h3;omega
   ·intro h3;have:=Bm (yH h3);omega
  have OC:(cnd neg (bnd (some ((⟨false,decide ((0:Int)<((sz6 A:Nat):Int)),W 0⟩:ay))) fun x7=>some (x7)) (some ((⟨false,false,W 0⟩:ay))))=some (⟨false,neg&&!decide (A=0),W 0⟩:ay):=by
   rw[ab,hneg]
   cases neg <;> rfl
  rw[bA _ _,OC,ab,N3 (by omega),ab,gL (fG A),PA hAL]
theorem zeroW {v:Vector Int 16}:(∀j:Nat,j<16→v[j]! =0)↔v=W 0:=by
 constructor
 ·intro h
  apply oz
  intro j hj
  rw[h j hj,gN hj]
  unfold dg;simp
 ·rintro rfl j hj
  rw[gN hj]
  unfold dg;simp
theorem fC(x:ay):bK x=some (cV x):=by
 have hl:=rr (b:=j6 x) (s0:=(true,(0:Int))) (fun k=>(decide (∀j:Nat,j<k→x.vW[j]! =0),(k:Int))) 16 (decide (∀j:Nat,j<16→x.vW[j]! =0))
  (by
   rw[iP (p:=∀j:Nat,j<0→x.vW[j]! =0) (fun j hj=>by omega)]
   rfl)
  (fun k hk=>by
   dsimp only[j6]
   rw[bF _ _,aI,bh,By,ab,cG,←vu]
   have:((∀j:Nat,j<k→x.vW[j]! =0)∧x.vW[k]! =0)↔∀j:Nat,j<k+1→x.vW[j]! =0:=by
    constructor
    ·rintro⟨h1,h2⟩ j hj
     by_cases h:j=k
     ·rw[h];exact h2
     ·exact h1 j (by omega)
    ·intro h
     exact⟨fun j hj=>h j (by omega),h k (by omega)⟩
   rw[mJ.2 this]
   rfl)
  (by
   dsimp only[j6]
   rw[bA _ _])
 have hz:decide (∀j:Nat,j<16→x.vW[j]! =0)=decide (x.vW=W 0):=mJ.2 zeroW
 unfold bK qb cV
 rw[hl,ab,hz]
 cases x.vBad <;> cases decide (x.vW=W 0) <;> cases x.vNeg <;> rfl
theorem Lg {A:Nat}(hA:A<LIM)(h:∀j,2≤j→j<16→dg 4294967296 A j=0):A / 4294967296 ^ 2=0:=by
 have key:∀d,d≤14→A / 4294967296 ^ (16 - d)=0:=by
  intro d
  induction d with
  |zero=>intro _;exact gD hA
  |succ d ih=>
   intro hd
   have h1:=ih (by omega)
   have h2:=c9 (b:=4294967296) (A:=A) (k:=16 - (d+1))
   rw[show 16 - (d+1)+1=16 - d from by omega,h1,gb,dA,h _ (by omega) (by omega)] at h2
   exact h2
 exact key 14 (bI _)
structure g5(a:Int):Prop where
 h:a.natAbs<4611686018427387904
instance(a:Int):Decidable (g5 a):=decidable_of_iff (a.natAbs<4611686018427387904) ⟨fun h=>⟨h⟩,fun h=>h.h⟩
theorem Nh {A:Nat}(hA:A<LIM):A<4611686018427387904↔dg 4294967296 A 1<1073741824∧∀j,2≤j→j<16→dg 4294967296 A j=0:=by
 constructor
 ·intro h
  refine⟨?_,fun j h1 _=>mh (cm h ?_)⟩
  ·unfold dg;rw[vy];omega
  ·exact da (by decide:4611686018427387904≤4294967296 ^ 2) (na (by decide) h1)
 ·rintro⟨h1,h2⟩
  have h3:=Lg hA h2
  have h4:=c9 (b:=4294967296) (A:=A) (k:=1)
  rw[show 1+1=2 from rfl,h3,gb,dA,vy] at h4
  omega
theorem sN {a:Int}(ha:a.natAbs<LIM):dq (enc a)=some (if g5 a then (a,true) else (0,false)):=by
 have hwi:=Nh ha
 obtain⟨x,hl,hx⟩:=wS (b:=mV (enc a)) (fun s=>∃k:Nat,s=(k:Int)∧2≤k∧k≤16∧∀j,2≤j→j<k→dg 4294967296 a.natAbs j=0) (fun s=>16 - s.toNat) (fun x=>match x with| .inl r=>r=((0:Int),false)∧¬(∀j,2≤j→j<16→dg 4294967296 a.natAbs j=0)| .inr _=>∀j,2≤j→j<16→dg 4294967296 a.natAbs j=0)
  (by
   rintro s ⟨k,rfl,D1,hk,hz⟩
   dsimp only[mV]
   rw[m9 ha]
   by_cases h16:k<16
   ·rw[bF _ _,aI,bh,gN h16]
    by_cases hd:dg 4294967296 a.natAbs k=0
    ·left
     refine⟨((k+1:Nat):Int),by rw[bA _ _,cG];rfl,⟨k+1,rfl,by omega,by omega,fun j h1 h2=>?_⟩,by omega⟩
     by_cases h:j=k
     ·rw[h];exact hd
     ·exact hz j h1 (by omega)
    ·right
     refine⟨(Sum.inl ((0:Int),false):(Int×Bool)⊕Unit),by rw[bF _ _],rfl,fun h=>hd (h k D1 h16)⟩
   ·right
    refine⟨(Sum.inr ():(Int×Bool)⊕Unit),by rw[bA _ _],?_⟩
    obtain rfl:k=16:=by omega
    exact hz) (2:Int) ⟨2,rfl,by omega,by omega,fun j h1 h2=>by omega⟩
 have e1:(W a.natAbs)[((1:Int)).toNat]! =(dg 4294967296 a.natAbs 1:Int):=gN (by decide)
 have e0:(W a.natAbs)[((0:Int)).toNat]! =(dg 4294967296 a.natAbs 0:Int):=gN (by decide)
 have d0:=@dgl a.natAbs 0
 unfold dq
 rw[fC,bD ha,ab,fc,a9,ab,m9 ha,e1,e0,iL ha]
 by_cases h1:dg 4294967296 a.natAbs 1<1073741824
 ·rw[bA _ _,hl,ab]
  cases x with
  |inl r=>
   obtain⟨rfl,h2⟩:=hx
   have:¬g5 a:=fun h=>h2 (hwi.1 h.h).2
   rw[aV this]
  |inr u=>
   have h2:g5 a:=⟨hwi.2 ⟨h1,hx⟩⟩
   have h3:=Lg ha hx
   have h4:=c9 (b:=4294967296) (A:=a.natAbs) (k:=1)
   rw[show 1+1=2 from rfl,h3,gb,dA,vy] at h4
   have h5:dg 4294967296 a.natAbs 0=a.natAbs % 4294967296:=by unfold dg;rw[kz,rF]
   have h6:(dg 4294967296 a.natAbs 1:Int)*4294967296+(dg 4294967296 a.natAbs 0:Int)=(a.natAbs:Int):=by omega
   have h7:=h2.h
   dsimp only
   rw[cG (z:=(dg 4294967296 a.natAbs 1:Int)) (by omega),cG (z:=(dg 4294967296 a.natAbs 1:Int)*4294967296) (by omega),cG (z:=(dg 4294967296 a.natAbs 0:Int)) (by omega),h6,cG (z:=(a.natAbs:Int)) (by omega),ab,fU,aQ h2]
   by_cases hn:a<0
   ·rw[aQ hn,cG,show (0:Int) - (a.natAbs:Int)=a from by omega]
   ·rw[aV hn,show (a.natAbs:Int)=a from by omega]
 ·have:¬g5 a:=fun h=>h1 (hwi.1 h.h).1
  rw[bF _ _,aV this]
theorem uh {x:ay}(h:cV x=false):dq x=some (0,false):=by
 unfold dq
 rw[fC,h,ab,pU,ew,ab,ew]
theorem dk4 {N:Nat}:dk 4 N=[(dg 65536 N 0:Int),(dg 65536 N 1:Int),(dg 65536 N 2:Int),(dg 65536 N 3:Int)]:=rfl
theorem of4 {N:Nat}(hN:N<9223372036854775808):[Int.tmod (N:Int) (65536:Int),Int.tmod (i64.wrap (Int.tdiv (N:Int) (65536:Int))) (65536:Int),Int.tmod (i64.wrap (Int.tdiv (N:Int) (4294967296:Int))) (65536:Int),i64.wrap (Int.tdiv (N:Int) (281474976710656:Int))]=dk 4 N:=by
 have e1:i64.wrap (Int.tdiv (N:Int) (65536:Int))=((N / 65536:Nat):Int):=by
  rw[show (65536:Int)=((65536:Nat):Int) from rfl,←sM,cG]
 have e2:i64.wrap (Int.tdiv (N:Int) (4294967296:Int))=((N / 4294967296:Nat):Int):=by
  rw[show (4294967296:Int)=((4294967296:Nat):Int) from rfl,←sM,cG]
 have e3:i64.wrap (Int.tdiv (N:Int) (281474976710656:Int))=((N / 281474976710656:Nat):Int):=by
  rw[show (281474976710656:Int)=((281474976710656:Nat):Int) from rfl,←sM,cG]
 rw[e1,e2,e3,dk4,show (65536:Int)=((65536:Nat):Int) from rfl,←sL,←sL,←sL]
 have d0:dg 65536 N 0=N % 65536:=by unfold dg;rw[kz,rF]
 have d1:dg 65536 N 1=N / 65536 % 65536:=by unfold dg;rw[vy]
 have d2:dg 65536 N 2=N / 4294967296 % 65536:=rfl
 have d3:dg 65536 N 3=N / 281474976710656:=by
  have:dg 65536 N 3=N / 281474976710656 % 65536:=rfl
  rw[this];omega
 rw[d0,d1,d2,d3]
theorem NV:[(1:Int)]=dk 1 1:=rfl
theorem ws {n:Int}(h1:-9223372036854775808≤n)(h2:n≤9223372036854775807):jF n=some (enc n):=by
 unfold jF
 by_cases hn:0≤n
 ·obtain⟨N,rfl⟩:∃N:Nat,n=(N:Int):=⟨n.toNat,by omega⟩
  have hN4:N<65536 ^ 4:=cm (show N<9223372036854775808 by omega) (by decide)
  rw[bF _ _ hn,of4 (by omega),Dx hN4 (by decide),ab]
  rfl
 ·obtain⟨M,hM⟩:∃M:Nat,-(n+1)=(M:Int):=⟨(-(n+1)).toNat,by omega⟩
  have hM4:M<65536 ^ 4:=cm (show M<9223372036854775808 by omega) (by decide)
  have e:i64.wrap (0 - (i64.wrap (n+(1:Int))))=(M:Int):=by
   rw[cG (z:=n+1) (by omega),cG];omega
  rw[bA _ _ hn,e,ab,of4 (by omega),NV,GQ hM4 (by decide) (by decide) (by decide),ab,Dx (A:=M+1) (fG _) (qza1 (qy (A:=M+1) (n:=5) (qza1 (show M+1≤65536 ^ 4 from hM4) (by decide))) (by decide)),ab]
  congr 2
  simp only[ig]
  omega
theorem kV {A:Nat}(h:A<LIM):sz6 A≤32:=qy (by rw[←QD];exact h)
theorem sz_mul {A B:Nat}(hA:A<LIM)(hB:B<LIM):sz6 (A*B)≤64:=qy (by
 have:=CH hA hB
 rw[QD,←lO] at this
 exact this)
theorem Nx {A B:Nat}(hA:A<LIM)(hB:B<LIM):sz6 (A+B)≤33:=qy (by
 have h1:A+B<2*LIM:=by omega
 have h2:2*LIM≤65536 ^ 33:=by rw[QD,fe,cY];exact ud _ (by decide)
 exact cm h1 h2)
theorem w9 {A:Nat}(h:sz6 A≤1000)(neg:Bool):cN neg (dl A)=some (enc (bif neg then -(A:Int) else (A:Int))):=
 Dx (fG A) (qza1 h (by decide)) neg
theorem iw {a:Int}(ha:a.natAbs<LIM):bS (enc a)=some (dl a.natAbs):=QQ (m9 ha) ha
theorem QI {a:Int}(ha:a.natAbs<LIM):qn (enc a)=some (enc (a.natAbs:Int)):=by
 unfold qn
 rw[fC,bD ha,ab,fc,a9,iw ha,ab,w9 (da (kV ha) (by decide)),ab]
 rfl
theorem QG {a:Int}(ha:a.natAbs<LIM):qm (enc a)=some (enc (-a)):=by
 unfold qm
 rw[fC,bD ha,ab,fc,a9,iw ha,ab,iL ha,w9 (da (kV ha) (by decide)),ab]
 congr 2
 by_cases h:a<0
 ·simp only[h,o0,fc,cond_false];omega
 ·simp only[h,oZ,pU,ig];omega
theorem E7 {a:Int}(ha:a.natAbs<LIM):lh (enc a)=some a.sign:=by
 unfold lh
 rw[fC,bD ha,ab,fc,a9,iw ha,ab,ab,iL ha]
 have hz:((dl a.natAbs).length:Int)=0↔a=0:=by
  rw[show ((dl a.natAbs).length:Int)=0↔(dl a.natAbs).length=0 from by omega,J2];omega
 rcases Kx a 0 with h|h|h
 ·rw[bA _ _ (by rw[hz];omega),bF _ _ h,Kv h]
 ·subst h;rw[bF _ _ (hz.2 rfl)];rfl
 ·rw[bA _ _ (by rw[hz];omega),bA _ _,CX h]
theorem fast2(p q:Prop)[Decidable p][Decidable q](a c:Int):(cnd (if p then (a,true) else (0,false):Int×Bool).2 (some (if q then (c,true) else (0,false):Int×Bool).2) (some false))=some (decide (p∧q)):=by
 by_cases hp:p <;> by_cases hq:q <;> simp[hp,hq,cnd]
theorem FZ(x y:ay):(bnd (S:=Bool) (bnd (bK x) fun fb=>cnd (!fb) (some (true)) (bnd (bK y) fun lw=>some (!lw))) fun b=>some b)=some (!(cV x&&cV y)):=by
 rw[fC,fC,ab,ab]
 cases cV x <;> cases cV y <;> rfl
theorem QH {a c:Int}(ha:a.natAbs<LIM)(hc:c.natAbs<LIM):kK (enc a) (enc c)=some (enc (a+c)):=by
 unfold kK
 rw[sN ha,sN hc,ab,ab,fast2,ab,fU]
 by_cases hw:g5 a∧g5 c
 ·have h1:=hw.1.h
  have h2:=hw.2.h
  rw[aQ hw,aQ hw.1,aQ hw.2]
  dsimp only
  rw[cG,ws (by omega) (by omega),ab]
 ·have hg:=FZ (enc a) (enc c)
  rw[oT] at hg
  rw[aV hw,hg,bD ha,bD hc,ab,ck,fc,a9,iw ha,ab,iw hc,ab,iL ha,iL hc,GQ (fG _) (fG _) (qza1 (kV ha) (by decide)) (qza1 (kV hc) (by decide)),ab,LQ (fG _) (fG _) (qza1 (kV ha) (by decide)) (qza1 (kV hc) (by decide)),ab]
  by_cases hs:decide (a<0)=decide (c<0)
  ·have IX:=mJ.1 hs
   rw[hs,vA,ew,w9 (da (Nx ha hc) (by decide)),ab]
   congr 2
   by_cases h:c<0
   ·simp only[h,o0,ig];omega
   ·simp only[h,oZ,cond_false];omega
  ·have IX:¬((a<0)↔(c<0)):=fun h=>hs (mJ.2 h)
   have hb:(decide (a<0) == decide (c<0))=false:=Ai.2 hs
   rw[hb,a9]
   by_cases h1:a.natAbs<c.natAbs
   ·have hl:c.natAbs - a.natAbs<LIM:=qza1 (Nat.sub_le _ _) hc
    rw[bF _ _ h1,za (fG _) (fG _) (qza1 (kV hc) (by decide)) (oW h1),ab,w9 (da (kV hl) (by decide)),ab]
    congr 2
    by_cases h:c<0
    ·simp only[h,o0,ig];omega
    ·simp only[h,oZ,cond_false];omega
   ·have hl:a.natAbs - c.natAbs<LIM:=qza1 (Nat.sub_le _ _) ha
    rw[bA _ _ h1,za (fG _) (fG _) (qza1 (kV ha) (by decide)) (by omega),ab,w9 (da (kV hl) (by decide)),ab]
    congr 2
    by_cases h:a<0
    ·simp only[h,o0,ig];omega
    ·simp only[h,oZ,cond_false];omega
theorem Py {x y:ay}(hx:okI x)(hy:okI y)(h:(cV x&&cV y)=false):∃p q:Int×Bool,dq x=some p∧dq y=some q∧(p.2&&q.2)=false:=by
 cases h1:cV x with
 |false=>
  refine⟨(0,false),?_⟩
  cases h2:cV y with
  |false=>exact⟨(0,false),uh h1,uh h2,rfl⟩
  |true=>
   obtain⟨z,hz,rfl⟩:=rA hy h2
   exact⟨_,uh h1,sN hz,rfl⟩
 |true=>
  have h2:cV y=false:=by rw[h1] at h;exact h
  obtain⟨z,hz,rfl⟩:=rA hx h1
  exact⟨_,(0,false),sN hz,uh h2,Bool.and_false _⟩
theorem GO {x y:ay}(hx:okI x)(hy:okI y)(h:(cV x&&cV y)=false):kK x y=some Eh:=by
 obtain⟨p,q,h1,h2,h3⟩:=Py hx hy h
 have hg:=FZ x y
 rw[oT] at hg
 unfold kK
 rw[h1,h2,ab,ab,By,h3,ab,a9,hg,h,ab,pU,ew,Dt,ab]
theorem H9(n:Int):jj n=some (decide (-2147483648<n∧n<2147483648)):=by
 unfold jj
 rw[By,ab,←vu]
 congr 1
 exact mJ.2 And.comm
theorem Oa(a c:Int):(bif (!(decide (a<0) == decide (c<0))) then -((a.natAbs*c.natAbs:Nat):Int) else ((a.natAbs*c.natAbs:Nat):Int))=a*c:=by
 by_cases ha0:a<0 <;> by_cases hc0:c<0 <;> simp only[ha0,hc0,o0,oZ,vA,fc,pU,ig,cond_false,Bool.true_beq,Bool.false_beq,qq]
 ·have ea:(a.natAbs:Int)=-a:=by omega
  have ec:(c.natAbs:Int)=-c:=by omega
  rw[ea,ec,GC]
 ·have ea:(a.natAbs:Int)=-a:=by omega
  have ec:(c.natAbs:Int)=c:=by omega
  rw[ea,ec,C5,Int.neg_neg]
 ·have ea:(a.natAbs:Int)=a:=by omega
  have ec:(c.natAbs:Int)=-c:=by omega
  rw[ea,ec,An,Int.neg_neg]
 ·have ea:(a.natAbs:Int)=a:=by omega
  have ec:(c.natAbs:Int)=c:=by omega
  rw[ea,ec]
theorem Ob {n m:Int}(hn:-2147483648<n∧n<2147483648)(hm:-2147483648<m∧m<2147483648):-9223372036854775808≤n*m∧n*m≤9223372036854775807:=by
 have h1:n.natAbs*m.natAbs≤2147483647*2147483647:=iS (by omega) (by omega)
 have h2:(n*m).natAbs=n.natAbs*m.natAbs:=vz _ _
 omega
theorem vQ {a c:Int}(ha:a.natAbs<LIM)(hc:c.natAbs<LIM):jm (enc a) (enc c)=some (enc (a*c)):=by
 have hf:(cnd (if g5 a then (a,true) else (0,false):Int×Bool).2 (cnd (if g5 c then (c,true) else (0,false):Int×Bool).2 (bnd (jj (if g5 a then (a,true) else (0,false):Int×Bool).1) fun x7=>cnd x7 (bnd (jj (if g5 c then (c,true) else (0,false):Int×Bool).1) fun fb=>some (fb)) (some (false))) (some (false))) (some (false)))=some (decide ((-2147483648<a∧a<2147483648)∧(-2147483648<c∧c<2147483648))):=by
  by_cases hwa:g5 a
  ·by_cases hwc:g5 c
   ·rw[aQ hwa,aQ hwc,ew,ew,H9,H9,ab,ab,By,←vu]
   ·rw[aQ hwa,aV hwc,ew,a9]
    congr 1
    symm
    refine gX fun h=>hwc ?_
    constructor;omega
  ·rw[aV hwa,a9]
   congr 1
   symm
   refine gX fun h=>hwa ?_
   constructor;omega
 unfold jm
 rw[sN ha,sN hc,ab,ab,hf,ab,fU]
 by_cases hw:(-2147483648<a∧a<2147483648)∧(-2147483648<c∧c<2147483648)
 ·have hmh:=Ob hw.1 hw.2
  rw[aQ hw,aQ (by constructor;omega),aQ (by constructor;omega)]
  dsimp only
  rw[cG hmh,ws hmh.1 hmh.2,ab]
 ·have hg:=FZ (enc a) (enc c)
  rw[oT] at hg
  rw[aV hw,hg,bD ha,bD hc,ab,ck,fc,a9,iw ha,ab,iw hc,ab,iL ha,iL hc,IM (fG _) (fG _) (qza1 (kV ha) (by decide)) (qza1 (kV hc) (by decide)),ab,w9 (da (sz_mul ha hc) (by decide)),ab,Oa]
theorem G_floor {n m:Int}(OW:m≠0)(hn:n.natAbs<4611686018427387904):nB n m=some (n.fdiv m):=by
 obtain⟨h1,h2,h3⟩:=zy (x:=n) OW
 have hq:=Hr (x:=n) (y:=m) (by omega)
 have hnq:(n.tdiv m).natAbs≤n.natAbs:=by rw[Int.natAbs_tdiv];exact pR _ _
 have tC:(cnd (decide ((Int.tmod n m)≠(0:Int))) (some (!((decide (n<(0:Int))) == (decide (m<(0:Int)))))) (some (false)))=some (decide (n.fdiv m≠n.tdiv m)):=by
  rw[←h1,fU,fU]
  by_cases h:n.tmod m≠0
  ·rw[aQ h,aQ h]
   congr 3
   refine mJ.2 ?_
   constructor
   ·intro hneg
    have:=Int.tmod_nonneg m (show 0≤-n by omega)
    rw[Int.neg_tmod] at this
    omega
   ·intro hneg
    by_cases h4:n<0
    ·exact h4
    ·have:=Int.tmod_nonneg m (show 0≤n by omega)
     omega
  ·rw[aV h,aV h]
 unfold nB
 rw[aI OW,aI OW,tC,ab,fU]
 by_cases h:n.fdiv m=n.tdiv m
 ·rw[aV (fun hh=>hh h),ab,cG,h]
 ·rw[aQ h,cG (z:=n.tdiv m) (by omega),cG,ab,ab,(h2 h).1]
theorem NM {a c:Int}(h0:c≠0):(bif (!(decide (a<0) == decide (c<0))) then -((a.natAbs / c.natAbs+(if a.natAbs % c.natAbs=0 then 0 else 1):Nat):Int) else ((a.natAbs / c.natAbs:Nat):Int))=a.fdiv c:=by
 have hr:=ey a.natAbs (show 0<c.natAbs by omega)
 have hdm:=oV a.natAbs c.natAbs
 have JN:(c.natAbs:Int)*((a.natAbs / c.natAbs:Nat):Int)+((a.natAbs % c.natAbs:Nat):Int)=(a.natAbs:Int):=by rw[←qq,←oc,hdm]
 generalize a.natAbs / c.natAbs=Q at JN ⊢
 generalize a.natAbs % c.natAbs=R at JN hr ⊢
 have hmul:∀z:Int,z*c=(if c<0 then -1 else 1)*((c.natAbs:Int)*z):=by
  intro z
  split
  ·have e:c=-(c.natAbs:Int):=by omega
   conv=>lhs;rw[e]
   rw[An,C5,CZ,rJ]
  ·have e:c=(c.natAbs:Int):=by omega
   conv=>lhs;rw[e]
   rw[CZ,rJ]
 by_cases hs:decide (a<0)=decide (c<0)
 ·have IX:=mJ.1 hs
  rw[hs,vA,fc,cond_false]
  exact (m7 (x:=a) h0 (Q:Int) (if c<0 then -(R:Int) else (R:Int)) (by rw[hmul];split <;> omega) (by split <;> omega)).1
 ·have IX:¬((a<0)↔(c<0)):=fun h=>hs (mJ.2 h)
  have hb:(decide (a<0) == decide (c<0))=false:=Ai.2 hs
  rw[hb,pU,ig]
  by_cases hR:R=0
  ·rw[aQ hR]
   refine (m7 (x:=a) h0 _ 0 ?_ (by omega)).1
   rw[hmul,An,mi]
   split <;> omega
  ·rw[aV hR]
   refine (m7 (x:=a) h0 _ (if c<0 then -((c.natAbs:Int) - (R:Int)) else (c.natAbs:Int) - (R:Int)) ?_ (by split <;> omega)).1
   rw[hmul,An,oc,Int.mul_add]
   split <;> omega
theorem dig1(A:Nat):decide (((dl A).length:Int)=0)=decide (A=0):=by
 refine mJ.2 ?_
 rw[show ((dl A).length:Int)=0↔(dl A).length=0 from by omega,J2]
theorem dig2(A:Nat):decide ((0:Int)<((dl A).length:Int))=decide (A≠0):=by
 refine mJ.2 ?_
 have:=@J2 A
 omega
theorem good3r {x:ay}{c:Int}(_hx:okI x)(hc:c.natAbs<LIM):(bnd (S:=Bool) (bnd (bK x) fun lw=>cnd (!lw) (some (true)) (bnd (bK (enc c)) fun sy=>cnd (!sy) (some (true)) (bnd (bS (enc c)) fun sP=>some (decide (((sP).length:Int)=(0:Int)))))) fun b=>some b)=some (!(cV x&&decide (c≠0))):=by
 rw[fC,fC,iw hc,ab,ab,ab,bD hc,dig1,oT]
 have:decide (c≠0)= !decide (c.natAbs=0):=by
  rw[←CY];exact mJ.2 (by omega)
 rw[this]
 cases cV x <;> cases decide (c.natAbs=0) <;> rfl
theorem fastq(a c:Int):(cnd (if g5 a then (a,true) else (0,false):Int×Bool).2 (cnd (if g5 c then (c,true) else (0,false):Int×Bool).2 (some (decide ((if g5 c then (c,true) else (0,false):Int×Bool).1≠(0:Int)))) (some (false))) (some (false)))=some (decide (g5 a∧g5 c∧c≠0)):=by
 by_cases hp:g5 a <;> by_cases hq:g5 c <;> simp[hp,hq,cnd]
theorem yZ {a c:Int}(ha:a.natAbs<LIM)(hc:c.natAbs<LIM)(h0:c≠0):kJ (enc a) (enc c)=some (enc (a.fdiv c)):=by
 unfold kJ
 rw[sN ha,sN hc,ab,ab,fastq,ab,fU]
 by_cases hw:g5 a∧g5 c∧c≠0
 ·have hq:a.fdiv c=a.tdiv c∨a.fdiv c=a.tdiv c - 1:=by
   obtain⟨_,h2,_⟩:=zy (x:=a) h0
   by_cases h:a.fdiv c=a.tdiv c
   ·exact .inl h
   ·exact .inr (h2 h).1
  have h1:=hw.1.h
  have hnq:(a.tdiv c).natAbs≤a.natAbs:=by rw[Int.natAbs_tdiv];exact pR _ _
  rw[aQ hw,aQ hw.1,aQ hw.2.1]
  dsimp only
  rw[G_floor h0 hw.1.h,ab,ws (by omega) (by omega),ab]
 ·have hg:=good3r (vZ a) hc
  rw[oT] at hg
  have hq:a.natAbs / c.natAbs<LIM:=qza1 (pR _ _) ha
  have hdl:decide ((0:Int)<((dl (a.natAbs % c.natAbs)).length:Int))=decide (a.natAbs % c.natAbs≠0):=dig2 _
  rw[aV hw,hg,bD ha,iP h0,ab,ck,fc,a9,iw ha,ab,iw hc,ab,IN (qza1 (kV ha) (by decide)) (qza1 (kV hc) (by decide)) (by omega),ab,iL ha,iL hc]
  dsimp only
  rw[NV,GQ (fG _) (by decide) (qza1 (kV hq) (by decide)) (by decide),ab,hdl,←NM h0]
  have hs1:sz6 (a.natAbs / c.natAbs+1)≤1000:=da (Nx hq (by decide)) (by decide)
  have JC:sz6 (a.natAbs / c.natAbs)≤1000:=da (kV hq) (by decide)
  cases hsg:(!(decide (a<0) == decide (c<0))) with
  |false=>
   rw[a9,ab,a9,ab,w9 JC,ab]
   rfl
  |true=>
   rw[ew,ab,fU]
   by_cases hR:a.natAbs % c.natAbs=0
   ·rw[aV (fun h=>h hR),ab,w9 JC,ab,aQ hR,mi]
   ·rw[aQ hR,ab,w9 hs1,ab,aV hR]
    rfl
theorem Pm(n m:Int):∃r:Int,bf i1 (n,m)=some r∧r.natAbs=Nat.gcd n.natAbs m.natAbs:=by
 induction hk:m.natAbs using Nat.strongRecOn generalizing n m with
 |_ k ih=>
  subst hk
  by_cases hm:m=0
  ·subst hm
   refine⟨n,eF (by dsimp only[i1];rw[bA _ _ (fun h=>h rfl)]),?_⟩
   rw[Int.natAbs_zero,GA]
  ·have h1:i1 (n,m)=some (.inl (m,n.tmod m)):=by
    dsimp only[i1]
    rw[bF _ _ hm,aI hm]
   have e:=Int.natAbs_tmod n m
   obtain⟨r,h2,h3⟩:=ih (n.tmod m).natAbs (by rw[e];exact ey _ (by omega)) m (n.tmod m) rfl
   exact⟨r,(lS h1).trans h2,by rw[h3,e,←yy]⟩
theorem Pn(x y:Nat)(hx:sz6 x<800)(hy:sz6 y<800):bf iZ (dl x,dl y)=some (dl (Nat.gcd x y)):=by
 induction y using Nat.strongRecOn generalizing x with
 |_ y ih=>
  by_cases h0:y=0
  ·subst h0
   rw[GA]
   refine eF ?_
   dsimp only[iZ]
   rw[dig2,bA _ _ (fun h=>h rfl)]
  ·have h1:iZ (dl x,dl y)=some (.inl (dl y,dl (x % y))):=by
    dsimp only[iZ]
    rw[dig2,bF _ _ h0,IN hx hy (by omega),ab]
   have cg:=ey x (show 0<y by omega)
   have hs:sz6 (x % y)<800:=qza1 (qy (Ak cg (fG y))) hy
   rw[lS h1,ih (x % y) cg y hy hs,←yy]
theorem Ds {a c:Int}(ha:a.natAbs<LIM)(hc:c.natAbs<LIM):mD (enc a) (enc c)=some (enc (Nat.gcd a.natAbs c.natAbs:Nat)):=by
 have Mx:Nat.gcd a.natAbs c.natAbs<LIM:=by
  rcases kN a.natAbs with h|h
  ·rw[h,Ky];exact hc
  ·exact qza1 (xF _ h) ha
 unfold mD
 rw[sN ha,sN hc,ab,ab,fast2,ab,fU]
 by_cases hw:g5 a∧g5 c
 ·have h1:=hw.1.h
  have h2:=hw.2.h
  rw[aQ hw,aQ hw.1,aQ hw.2]
  dsimp only
  obtain⟨r,h3,h4⟩:=Pm a c
  have hr:r.natAbs<4611686018427387904:=by
   rw[h4]
   rcases kN a.natAbs with h|h
   ·rw[h,Ky];exact h2
   ·exact qza1 (xF _ h) h1
  rw[h3,ab,ws (by omega) (by omega),ab,QI (by rw[h4];exact Mx),ab,h4]
 ·have hg:=FZ (enc a) (enc c)
  rw[oT] at hg
  rw[aV hw,hg,bD ha,bD hc,ab,ck,fc,a9,iw ha,ab,iw hc,ab,Pn _ _ (qza1 (kV ha) (by decide)) (qza1 (kV hc) (by decide)),ab,w9 (da (kV Mx) (by decide)),ab]
  rfl
theorem Qr:mC=some (enc 1):=by
 unfold mC
 rw[ws (by decide) (by decide),ab]
theorem E6:jg=some Bg:=by
 unfold jg
 rw[Dt,Qr,ab,ab]
 rfl
theorem pY {x:aj}(hx:okR x):dp x=some (fh x).isSome:=by
 rw[←mj hx]
 obtain⟨n,d⟩:=x
 obtain⟨h1,h2⟩:=hx
 dsimp only at h1 h2
 unfold dp cu
 dsimp only
 rw[fC,fC,qe,qe,ab,ab,ab,ab]
 cases Ch:cV n with
 |false=>rfl
 |true=>
  cases Lh:cV d with
  |false=>rfl
  |true=>
   obtain⟨n,hn,rfl⟩:=rA h1 Ch
   obtain⟨d,hd,rfl⟩:=rA h2 Lh
   rw[E7 hd,Ar hd,Ds hn hd,LV hn hd,Qr,LP]
   rfl
theorem Di {n d:Int}(hn:n.natAbs<LIM)(hd:d.natAbs<LIM)(h0:d≠0):fP (enc n) (enc d)=some (kt (Rat.divInt n d)):=by
 obtain⟨Ch,Lh⟩:=F3 (n:=n) h0 hd
 obtain⟨e1,e2⟩:=HM (n:=n) h0
 have Mx:(((Nat.gcd n.natAbs d.natAbs:Nat):Int)).natAbs<LIM:=by simpa using Ch
 unfold fP
 rw[fC,fC,ab,ab,bD hn,bD hd,fc,a9,a9,E7 hd,ab,ab,bA _ _ (by rw[Kw];exact h0),Ds hn hd,ab,ab,QG Mx,ab]
 have OC:(cnd (decide (d.sign<(0:Int))) (some (enc (-((Nat.gcd n.natAbs d.natAbs:Nat):Int)))) (some (enc ((Nat.gcd n.natAbs d.natAbs:Nat):Int))))=some (enc (bif decide (d<0) then -((Nat.gcd n.natAbs d.natAbs:Nat):Int) else ((Nat.gcd n.natAbs d.natAbs:Nat):Int))):=by
  by_cases h:d<0
  ·rw[bF _ _ (by rw[Gw];exact h),iP h];rfl
  ·rw[bA _ _ (by rw[Gw];exact h),gX h];rfl
 have H0:((bif decide (d<0) then -((Nat.gcd n.natAbs d.natAbs:Nat):Int) else ((Nat.gcd n.natAbs d.natAbs:Nat):Int))).natAbs<LIM∧(bif decide (d<0) then -((Nat.gcd n.natAbs d.natAbs:Nat):Int) else ((Nat.gcd n.natAbs d.natAbs:Nat):Int))≠0:=by
  cases decide (d<0)
  ·simp only[cond_false];omega
  ·simp only[ig];omega
 rw[OC,ab,yZ hn H0.1 H0.2,ab,yZ hd H0.1 H0.2,ab,e1,e2]
 rfl
theorem R_Make_zero {x:ay}:fP x (enc 0)=some Bg:=by
 unfold fP
 rw[fC,fC,ab,ab,E7 (by decide),ab,bD (by decide),E6,ab]
 cases cV x <;> rfl
theorem xJ {x y:ay}(h:(cV x&&cV y)=false):fP x y=some Bg:=by
 unfold fP
 rw[fC,fC,ab,ab,E6,ab]
 cases h1:cV x with
 |false=>rfl
 |true=>
  cases h2:cV y with
  |false=>rfl
  |true=>rw[h1,h2] at h;cases h
theorem R_Mul {x y:Rat}(hx:m6 x)(hy:m6 y):fZ (kt x) (kt y)=some (vd (NO x y)):=by
 have hdx:=x.den_pos
 have hdy:=y.den_pos
 obtain⟨c1,c2⟩:=cross x y
 have f1:=t3 (n:=x.num) (d:=(y.den:Int)) (by omega) hx.1 (fa hy)
 have f2:=t3 (n:=y.num) (d:=(x.den:Int)) (by omega) hy.1 (fa hx)
 unfold fZ
 rw[show dp (kt x)=_ from pY (oC (some x)),show dp (kt y)=_ from pY (oC (some y)),oA hx,oA hy,ab,ab]
 simp only[xE,fc,a9,ab,tZ,ve]
 rw[Di hx.1 (fa hy) (by omega),ab,Di hy.1 (fa hx) (by omega),ab]
 simp only[tZ,ve]
 rw[vQ f1.1 f2.1,ab,vQ (fa f1) (fa f2),ab,←c1,←qq,←c2,oT]
 unfold NO
 by_cases h:m6 (x*y)
 ·rw[aQ h,Di h.1 (fa h) (by have:=(x*y).den_pos;omega),Ku]
  rfl
 ·rw[aV h,xJ]
  ·rfl
  ·rw[jC,jC,←vu,dY]
   exact gX h
theorem R_Add {x y:Rat}(hx:m6 x)(hy:m6 y):gy (kt x) (kt y)=some (vd (NP x y)):=by
 have hdx:=x.den_pos
 have hdy:=y.den_pos
 have hg:0<Nat.gcd x.den y.den:=Kt _ hdx
 have Mx:Nat.gcd x.den y.den<LIM:=qza1 (xF _ hdx) hx.2
 have O3:((Nat.gcd x.den y.den:Nat):Int).natAbs<LIM:=by simpa using Mx
 have hp:x.den / Nat.gcd x.den y.den<LIM:=qza1 (pR _ _) hx.2
 have hq:y.den / Nat.gcd x.den y.den<LIM:=qza1 (pR _ _) hy.2
 have hp0:0<x.den / Nat.gcd x.den y.den:=C4 (xF y.den hdx) hg
 have DC:0<x.den / Nat.gcd x.den y.den*y.den:=sr hp0 hdy
 have haf:=IC x y
 unfold gy
 rw[show dp (kt x)=_ from pY (oC (some x)),show dp (kt y)=_ from pY (oC (some y)),oA hx,oA hy,ab,ab]
 simp only[xE,fc,a9,ab,tZ,ve]
 rw[Ds (fa hx) (fa hy),ab,dY,dY,yZ (fa hx) O3 (by omega),ab,yZ (fa hy) O3 (by omega),ab,Bo,Bo,vQ hx.1 (by rw[dY];exact hq),ab,vQ hy.1 (by rw[dY];exact hp),ab,vQ (by rw[dY];exact hp) (fa hy),←qq]
 unfold NP
 revert haf
 generalize x.num*((y.den / Nat.gcd x.den y.den:Nat):Int)=z1
 generalize y.num*((x.den / Nat.gcd x.den y.den:Nat):Int)=z2
 revert DC
 generalize x.den / Nat.gcd x.den y.den*y.den=D
 intro DC haf
 have hsum:kK (enc z1) (enc z2)=some (if z1.natAbs<LIM∧z2.natAbs<LIM then enc (z1+z2) else Eh):=by
  by_cases h:z1.natAbs<LIM∧z2.natAbs<LIM
  ·rw[aQ h,QH h.1 h.2]
  ·rw[aV h,GO (vZ _) (vZ _) (by rw[jC,jC,←vu];exact gX h)]
 rw[hsum,ab,ab,oT]
 by_cases h:z1.natAbs<LIM∧z2.natAbs<LIM
 ·rw[aQ h]
  by_cases h2:(z1+z2).natAbs<LIM∧D<LIM
  ·rw[Di h2.1 (by rw[dY];exact h2.2) (by omega),haf,aQ ⟨h.1,h.2,h2⟩];rfl
  ·rw[xJ (by rw[jC,jC,←vu,dY];exact gX h2),aV fun hh=>h2 hh.2.2];rfl
 ·rw[aV h,xJ (by rw[z5,Bool.false_and]),aV fun hh=>h ⟨hh.1,hh.2.1⟩];rfl
theorem R_oadd {x y:aj}(hx:okR x)(hy:okR y):gy x y=some (vd (NZ (fh x) (fh y))):=by
 cases h1:fh x with
 |none=>
  unfold gy
  rw[pY hx,pY hy,h1,ab,ab,E6,ab];rfl
 |some p=>
  cases h2:fh y with
  |none=>
   unfold gy
   rw[pY hx,pY hy,h1,h2,ab,ab,E6,ab];rfl
  |some q=>
   obtain⟨hp,rfl⟩:=eT.1 h1
   obtain⟨hq,rfl⟩:=eT.1 h2
   exact R_Add hp hq
theorem R_omul {x y:aj}(hx:okR x)(hy:okR y):fZ x y=some (vd (Jl (fh x) (fh y))):=by
 cases h1:fh x with
 |none=>
  unfold fZ
  rw[pY hx,pY hy,h1,ab,ab,E6,ab];rfl
 |some p=>
  cases h2:fh y with
  |none=>
   unfold fZ
   rw[pY hx,pY hy,h1,h2,ab,ab,E6,ab];rfl
  |some q=>
   obtain⟨hp,rfl⟩:=eT.1 h1
   obtain⟨hq,rfl⟩:=eT.1 h2
   exact R_Mul hp hq
theorem R_oneg {x:aj}(hx:okR x):g_ref04_Neg x=some (vd (NU (fh x))):=by
 unfold g_ref04_Neg
 rw[pY hx,ab]
 cases h1:fh x with
 |none=>rw[E6,ab];rfl
 |some p=>
  obtain⟨hp,rfl⟩:=eT.1 h1
  simp only[xE,fc,a9,tZ,ve]
  rw[QG hp.1,ab]
  rfl
theorem R_osub {x y:aj}(hx:okR x)(hy:okR y):g_ref04_Sub x y=some (vd (osub (fh x) (fh y))):=by
 unfold g_ref04_Sub
 rw[R_oneg hy,ab,R_oadd hx (oC _),ab,zp (NT (Pu y))]
 rfl
theorem R_Make_inv {q:Rat}(hq:m6 q):fP (enc (q.den:Int)) (enc q.num)=some (vd (oinv (some q))):=by
 by_cases h:q=0
 ·subst h
  show fP _ (enc 0)=_
  rw[R_Make_zero];rfl
 ·have hn:q.num≠0:=fun h0=>h (Rat.num_eq_zero.1 h0)
  rw[Di (fa hq) hq.1 hn,←Rat.inv_def]
  show _=some (vd (if q=0 then none else some q⁻¹))
  rw[aV h];rfl
theorem R_odiv {x y:aj}(hx:okR x)(hy:okR y):g_ref04_Div x y=some (vd (odiv (fh x) (fh y))):=by
 unfold g_ref04_Div
 rw[pY hy,ab]
 cases h2:fh y with
 |none=>
  rw[E6,ab]
  show some Bg=some (vd (Jl (fh x) none))
  unfold Jl
  cases fh x <;> rfl
 |some q=>
  obtain⟨hq,rfl⟩:=eT.1 h2
  simp only[xE,fc,a9,tZ,ve]
  rw[R_Make_inv hq,ab,R_omul hx (oC _),ab,zp (NY fun r hr=>by injection hr with hr;subst hr;exact hq)]
  rfl
theorem R_osgn {x:aj}(hx:okR x):g_ref04_Sign x=some (osgn (fh x)):=by
 unfold g_ref04_Sign
 rw[pY hx,ab]
 cases h1:fh x with
 |none=>rfl
 |some p=>
  obtain⟨hp,rfl⟩:=eT.1 h1
  simp only[xE,fc,a9,tZ]
  rw[E7 hp.1,ab]
  rfl
theorem R_Of {n:Int}(h1:-9223372036854775808≤n)(h2:n≤9223372036854775807):jE n=some (kt (n:Rat)):=by
 have hL:n.natAbs<LIM:=cm (show n.natAbs<18446744073709551616 by omega) (by decide)
 unfold jE
 rw[ws h1 h2,ab,Qr,ab,Di hL (by decide) (by decide),ab,Cv]
theorem encR_val {x:aj}{q:Rat}(h:fh x=some q):x=kt q:=(eT.1 h).2
def Nu:={x:aj // okR x}
instance:DecidableEq Nu:=inferInstanceAs (DecidableEq {x:aj // okR x})
theorem okR0:okR (default:aj):=by
 have h:∀j:Nat,j<16→(default:ay).vW[j]! =0:=by
  intro j hj
  show (cw)[j]! =0
  rw[iR (cw) j hj,Vector.getElem_replicate]
 exact⟨fun j hj=>by show 0≤(default:ay).vW[j]!∧(default:ay).vW[j]! <4294967296;rw[h j hj];omega,fun j hj=>by show 0≤(default:ay).vW[j]!∧(default:ay).vW[j]! <4294967296;rw[h j hj];omega⟩
instance:Inhabited Nu:=⟨⟨default,okR0⟩⟩
def nuR(o:Option Rat):Nu:=⟨vd o,oC o⟩
def decW(v:Vector Int 16):Nat:=gG 4294967296 (fun j=>(v[j]!).toNat) 16
def Ee(x:ay):Int:=if x.vNeg then -(decW x.vW:Int) else decW x.vW
theorem decW_W {A:Nat}(h:A<LIM):decW (W A)=A:=by
 refine PH (b:=4294967296) (n:=16) ?_ h fun j hj=>?_
 ·exact Bk (by decide) _ fun j hj=>by
   rw[gN hj]
   have:=@dgl A j
   omega
 ·unfold decW
  rw[F6 (by decide) 16 (fun i hi=>by
   rw[gN hi]
   have:=@dgl A i
   omega) j hj,gN hj]
  omega
theorem Io {z:Int}(h:z.natAbs<LIM):Ee (enc z)=z:=by
 rw[rD h]
 unfold Ee
 dsimp only
 rw[decW_W h]
 by_cases hz:z<0
 ·rw[aQ (iP hz)];omega
 ·rw[aV (by simpa using hz)];omega
def zq(x:aj):Option Rat:=if m6 (Rat.divInt (Ee x.vN) (Ee x.vD))∧kt (Rat.divInt (Ee x.vN) (Ee x.vD))=x then some (Rat.divInt (Ee x.vN) (Ee x.vD)) else none
theorem tI:zq=fh:=by
 funext x
 unfold zq
 cases h:fh x with
 |none=>exact aV fun hh=>zo.1 h _ hh.1 hh.2.symm
 |some q=>
  obtain⟨h1,h2⟩:=eT.1 h
  have hn:Ee x.vN=q.num:=by rw[h2];exact Io h1.1
  have hd:Ee x.vD=(q.den:Int):=by rw[h2];exact Io (fa h1)
  rw[hn,hd,show Rat.divInt q.num q.den=q from by rw[Ks];exact Rat.mkRat_self q,aQ ⟨h1,h2.symm⟩]
def Jn(x y:Nu):Nu:=nuR (NZ (zq x.1) (zq y.1))
def uG(x y:Nu):Nu:=nuR (Jl (zq x.1) (zq y.1))
def HF(x y:Nu):Nu:=nuR (osub (zq x.1) (zq y.1))
def HG(x y:Nu):Nu:=nuR (odiv (zq x.1) (zq y.1))
def N8(x:Nu):Nu:=nuR (NU (zq x.1))
def nOf(n:Int):Nu:=nuR (some (n:Rat))
def va(x:Nu):Int:=osgn (zq x.1)
def cM(x:Nu):Bool:=(zq x.1).isSome
theorem HH(x y:Nu):Jn x y=nuR (NZ (fh x.1) (fh y.1)):=by unfold Jn;rw[tI]
theorem BW(x y:Nu):uG x y=nuR (Jl (fh x.1) (fh y.1)):=by unfold uG;rw[tI]
theorem N6(x y:Nu):HF x y=nuR (osub (fh x.1) (fh y.1)):=by unfold HF;rw[tI]
theorem N9(x y:Nu):HG x y=nuR (odiv (fh x.1) (fh y.1)):=by unfold HG;rw[tI]
theorem N7(x:Nu):N8 x=nuR (NU (fh x.1)):=by unfold N8;rw[tI]
theorem Ez(x:Nu):va x=osgn (fh x.1):=by unfold va;rw[tI]
theorem v6(x:Nu):cM x=(fh x.1).isSome:=by unfold cM;rw[tI]
def rv(x:Nu):Rat:=(fh x.1).getD 0
theorem nGood_iff {x:Nu}:cM x=true↔fh x.1=some (rv x):=by
 rw[v6];unfold rv
 cases fh x.1 <;> simp
theorem good_nu {x:Nu}(h:cM x=true):x=nuR (some (rv x)):=Subtype.ext (encR_val (nGood_iff.1 h))
theorem good_ext {x y:Nu}(hx:cM x=true)(hy:cM y=true)(h:rv x=rv y):x=y:=by
 rw[good_nu hx,good_nu hy,h]
theorem val_nuR {o:Option Rat}(h:Ii o):fh (nuR o).1=o:=zp h
theorem HD {q:Rat}(h:m6 q):cM (nuR (some q))=true∧rv (nuR (some q))=q:=by
 have:fh (nuR (some q)).1=some q:=val_nuR (o:=some q) fun p hp=>by injection hp with hp;rw[←hp];exact h
 rw[v6];unfold rv
 rw[this]
 exact⟨rfl,rfl⟩
theorem fit0:m6 0:=⟨by decide,by decide⟩
theorem fit1:m6 1:=⟨by decide,by decide⟩
theorem of0:cM (nOf 0)=true∧rv (nOf 0)=0:=HD (q:=((0:Int):Rat)) fit0
theorem of1:cM (nOf 1)=true∧rv (nOf 1)=1:=HD (q:=((1:Int):Rat)) fit1
theorem nSign_good {x:Nu}(h:cM x=true):va x=(rv x).num.sign:=by rw[Ez,nGood_iff.1 h];rfl
theorem sign0 {x:Nu}(h:cM x=true):va x=0↔rv x=0:=by
 rw[nSign_good h,Kw]
 exact Rat.num_eq_zero
theorem nAdd_rv {x y:Nu}(hx:cM x=true)(hy:cM y=true)(h:cM (Jn x y)=true):rv (Jn x y)=rv x+rv y:=by
 have h1:=nGood_iff.1 h
 rw[HH] at h1 ⊢
 rw[val_nuR (oadd_fit _ _),nGood_iff.1 hx,nGood_iff.1 hy] at h1
 have h2:NP (rv x) (rv y)=some (rv (nuR (NZ (some (rv x)) (some (rv y))))):=h1
 rw[nGood_iff.1 hx,nGood_iff.1 hy]
 unfold NP at h2
 split at h2
 ·injection h2 with h2;exact h2.symm
 ·cases h2
theorem nMul_rv {x y:Nu}(hx:cM x=true)(hy:cM y=true)(h:cM (uG x y)=true):rv (uG x y)=rv x*rv y:=by
 have h1:=nGood_iff.1 h
 rw[BW] at h1 ⊢
 rw[val_nuR (omul_fit _ _)] at h1
 rw[nGood_iff.1 hx,nGood_iff.1 hy] at h1 ⊢
 have h2:NO (rv x) (rv y)=some (rv (nuR (Jl (some (rv x)) (some (rv y))))):=h1
 unfold NO at h2
 split at h2
 ·injection h2 with h2;exact h2.symm
 ·cases h2
theorem good_add {x y:Nu}(h:cM (Jn x y)=true):cM x=true∧cM y=true:=by
 rw[v6,HH,val_nuR (oadd_fit _ _)] at h
 rw[v6,v6]
 cases h1:fh x.1 <;> cases h2:fh y.1 <;> simp_all [NZ]
theorem good_mul {x y:Nu}(h:cM (uG x y)=true):cM x=true∧cM y=true:=by
 rw[v6,BW,val_nuR (omul_fit _ _)] at h
 rw[v6,v6]
 cases h1:fh x.1 <;> cases h2:fh y.1 <;> simp_all [Jl]
theorem nNeg_good {x:Nu}:cM (N8 x)=cM x:=by
 rw[v6,v6,N7,val_nuR (NT (Pu _))]
 cases fh x.1 <;> rfl
theorem nNeg_rv {x:Nu}:rv (N8 x)=-rv x:=by
 unfold rv
 rw[N7,val_nuR (NT (Pu _))]
 cases fh x.1
 ·simp[NU]
 ·rfl
theorem good_div {x y:Nu}(h:cM (HG x y)=true):cM x=true∧cM y=true∧rv y≠0∧rv (HG x y)=rv x / rv y:=by
 have h1:=nGood_iff.1 h
 rw[N9] at h1 ⊢
 rw[val_nuR (odiv_fit _ _)] at h1
 have hx:cM x=true:=by
  rw[v6]
  cases h2:fh x.1 with
  |some _=>rfl
  |none=>rw[h2] at h1;cases h1
 have hy:cM y=true:=by
  rw[v6]
  cases h2:fh y.1 with
  |some _=>rfl
  |none=>rw[h2] at h1;unfold odiv Jl oinv at h1;cases h3:fh x.1 <;> simp[h3] at h1
 rw[nGood_iff.1 hx,nGood_iff.1 hy] at h1 ⊢
 by_cases h0:rv y=0
 ·unfold odiv Jl oinv at h1
  simp[h0] at h1
 ·have h2:NO (rv x) (rv y)⁻¹=some (rv (nuR (odiv (some (rv x)) (some (rv y))))):=by
   rw[←h1]
   unfold odiv Jl oinv
   simp[h0]
  refine⟨hx,hy,h0,?_⟩
  unfold NO at h2
  split at h2
  ·injection h2 with h2;rw[←h2,Rat.div_def]
  ·cases h2
def sumN:Nat→(Nat→Rat)→Rat
 |0,_=>0
 |n+1,f=>sumN n f+f n
theorem sumN_congr {f g:Nat→Rat}:∀{n:Nat},(∀t,t<n→f t=g t)→sumN n f=sumN n g
 |0,_=>rfl
 |n+1,h=>by unfold sumN;rw[sumN_congr fun t ht=>h t (by omega),h n (by omega)]
theorem sumN_add(f g:Nat→Rat):∀n,sumN n (fun t=>f t+g t)=sumN n f+sumN n g
 |0=>by show (0:Rat)=0+0;grind
 |n+1=>by unfold sumN;rw[sumN_add f g n];grind
theorem sumN_mul(a:Rat)(f:Nat→Rat):∀n,sumN n (fun t=>a*f t)=a*sumN n f
 |0=>by simp[sumN]
 |n+1=>by unfold sumN;rw[sumN_mul a f n];grind
theorem sumN_zero:∀n,sumN n (fun _=>0)=0
 |0=>rfl
 |n+1=>by unfold sumN;rw[sumN_zero n];show (0:Rat)+0=0;grind
theorem sumN_one(a:Nat)(x:Rat):∀n,a<n→sumN n (fun t=>if t=a then x else 0)=x
 |0,h=>by omega
 |n+1,h=>by
  show sumN n (fun t=>if t=a then x else 0)+(if n=a then x else 0)=x
  by_cases hn:n=a
  ·subst hn
   rw[aQ rfl,sumN_congr (g:=fun _=>0) fun t ht=>ifn_,sumN_zero]
   grind
  ·rw[aV hn,sumN_one a x n (by omega)];grind
theorem sumN_sub(f g:Nat→Rat)(n:Nat):sumN n (fun t=>f t - g t)=sumN n f - sumN n g:=by
 have:(fun t=>f t - g t)=fun t=>f t+(-1)*g t:=by funext t;grind
 rw[this,sumN_add f (fun t=>(-1)*g t),sumN_mul];grind
section
abbrev RM:=Nat→Nat→Rat
def SolM(f:RM)(R C:Nat)(x:Nat→Rat):Prop:=∀i,i<R→sumN C (fun k=>f i k*x k)=0
structure IsR(f:RM)(R kk:Nat)(ps:List Nat):Prop where
 lt:∀j,j<ps.length→ps[j]! <kk
 inc:∀i j,i<j→j<ps.length→ps[i]! <ps[j]!
 le:ps.length≤R
 piv:∀i j,i<R→j<ps.length→f i ps[j]! =if i=j then 1 else 0
 z1:∀i k,i<ps.length→k<ps[i]!→f i k=0
 z2:∀i k,ps.length≤i→i<R→k<kk→f i k=0
section
variable {f g:RM} {R C:Nat} {ps qs:List Nat}
theorem sum_delta {n:Nat}(a:Nat→Rat){i:Nat}(hi:i<n):sumN n (fun j=>(if i=j then 1 else 0)*a j)=a i:=by
 rw[sumN_congr (g:=fun j=>if j=i then a i else 0) fun j _=>by
  by_cases h:i=j
  ·subst h;simp
  ·simp[h,nY h],sumN_one i (a i) n hi]
theorem piv_last(h:IsR f R C ps){j:Nat}(hj:j<ps.length){x:Nat→Rat}(hx:SolM f R C x)(h0:∀t,ps[j]! <t→t<C→x t=0):x ps[j]! =0:=by
 have h1:=hx j (by have:=h.le;omega)
 rw[sumN_congr (g:=fun t=>if t=ps[j]! then x ps[j]! else 0) fun t ht=>by
  by_cases he:t=ps[j]!
  ·rw[aQ he,he,h.piv j j (by have:=h.le;omega) hj,aQ rfl];grind
  ·rw[aV he]
   rcases cc t ps[j]! with h2|h2
   ·rw[h.z1 j t hj h2];grind
   ·rw[h0 t (by omega) ht];grind,sumN_one _ _ C (h.lt j hj)] at h1
 exact h1
end
end
section
def swapR(f:RM)(a b:Nat):RM:=fun i k=>if i=a then f b k else if i=b then f a k else f i k
def elimR(f:RM)(r k:Nat):RM:=fun i j=>if i=r then f r j / f r k else f i j - f i k*(f r j / f r k)
section
variable {f g:RM} {R C kk r k a b:Nat} {ps qs:List Nat}
theorem SolM.congr {x:Nat→Rat}(h:∀i k,i<R→k<C→f i k=g i k)(hs:SolM f R C x):SolM g R C x:=fun i hi=>by
 rw[←hs i hi]
 exact sumN_congr fun t ht=>by rw[h i t hi ht]
theorem sol_swap {x:Nat→Rat}(ha:a<R)(hb:b<R):SolM (swapR f a b) R C x↔SolM f R C x:=by
 have key:∀{f:RM},SolM f R C x→SolM (swapR f a b) R C x:=fun {f} h i hi=>by
  unfold swapR
  by_cases h1:i=a
  ·simp only[h1,aO];exact h b hb
  ·by_cases h2:i=b
   ·simp only[h1,h2,aO,vj]
    by_cases h3:b=a
    ·simp only[h3,aO];rw[←h3];exact h b hb
    ·simp only[h3,vj];exact h a ha
   ·simp only[h1,h2,vj];exact h i hi
 refine⟨fun h=>?_,key⟩
 have h2:=key h
 refine h2.congr fun i t _ _=>?_
 unfold swapR
 by_cases h1:i=a
 ·subst h1
  by_cases h3:b=i <;> simp[h3]
 ·by_cases h2:i=b
  ·subst h2;simp[h1]
  ·simp[h1,h2]
theorem sol_elim {x:Nat→Rat}(hr:r<R)(hp:f r k≠0):SolM (elimR f r k) R C x↔SolM f R C x:=by
 have hrow:sumN C (fun t=>elimR f r k r t*x t)=sumN C (fun t=>f r t*x t) / f r k:=by
  rw[sumN_congr (g:=fun t=>(1 / f r k)*(f r t*x t)) fun t _=>by unfold elimR;rw[aQ rfl];grind,sumN_mul]
  grind
 have hoth:∀i,i≠r→sumN C (fun t=>elimR f r k i t*x t)=sumN C (fun t=>f i t*x t) - f i k*(sumN C (fun t=>f r t*x t) / f r k):=fun i hi=>by
  rw[sumN_congr (g:=fun t=>f i t*x t - (f i k / f r k)*(f r t*x t)) fun t _=>by unfold elimR;rw[aV hi];grind,sumN_sub,sumN_mul]
  grind
 constructor
 ·intro h i hi
  have h0:sumN C (fun t=>f r t*x t)=0:=by
   have:=h r hr
   rw[hrow] at this
   have h2:sumN C (fun t=>f r t*x t)=(sumN C (fun t=>f r t*x t) / f r k)*f r k:=by grind
   rw[h2,this];grind
  by_cases hir:i=r
  ·subst hir;exact h0
  ·have:=h i hi
   rw[hoth i hir,h0] at this
   grind
 ·intro h i hi
  by_cases hir:i=r
  ·subst hir;rw[hrow,h i hr];grind
  ·rw[hoth i hir,h i hi,h r hr];grind
theorem IsR.congr(h:IsR f R kk ps)(hk:kk≤C)(he:∀i k,i<R→k<C→f i k=g i k):IsR g R kk ps:=by
 refine⟨h.lt,h.inc,h.le,fun i j hi hj=>?_,fun i k hi D1=>?_,fun i k hi hi2 D1=>?_⟩
 ·rw[←he i _ hi (by have:=h.lt j hj;omega)];exact h.piv i j hi hj
 ·have:=h.lt i hi;have:=h.le;rw[←he i k (by omega) (by omega)];exact h.z1 i k hi D1
 ·rw[←he i k hi2 (by omega)];exact h.z2 i k hi hi2 D1
theorem isR_nil(f:RM)(R:Nat):IsR f R 0 []:=⟨fun j h=>absurd h (by simp),fun i j _ h=>absurd h (by simp),fH _,fun i j _ h=>absurd h (by simp),fun i k h=>absurd h (by simp),fun i k _ _ h=>absurd h (by omega)⟩
theorem IsR.none(h:IsR f R kk ps)(h0:∀i,ps.length≤i→i<R→f i kk=0):IsR f R (kk+1) ps:=
 ⟨fun j hj=>uB (h.lt j hj),h.inc,h.le,h.piv,h.z1,fun i k h1 h2 h3=>by
  rcases cc k kk with h4|h4
  ·exact h.z2 i k h1 h2 h4
  ·rw[show k=kk by omega];exact h0 i h1 h2⟩
theorem IsR.full(h:IsR f R kk ps)(h0:ps.length=R)(hk:kk≤C):IsR f R C ps:=
 ⟨fun j hj=>cm (h.lt j hj) hk,h.inc,h.le,h.piv,h.z1,fun i k h1 h2 _=>by omega⟩
theorem get_app {ps:List Nat}{q j:Nat}:(ps++[q])[j]! =if j<ps.length then ps[j]! else if j=ps.length then q else default:=by
 simp only[yG]
 by_cases h:j<ps.length
 ·rw[aQ h,vt h]
 ·rw[aV h,vq (by omega)]
  by_cases h2:j=ps.length
  ·rw[aQ h2,h2];simp
  ·rw[aV h2,fV (by simp;omega)];rfl
theorem IsR.step(h:IsR f R kk ps){i0:Nat}(hi:ps.length≤i0)(hi2:i0<R)(px:f i0 kk≠0):IsR (elimR (swapR f i0 ps.length) ps.length kk) R (kk+1) (ps++[kk]):=by
 have hr:ps.length<R:=by omega
 -- the row of the pivot is 0 ahead of it
 have hg:∀t,swapR f i0 ps.length ps.length t=f i0 t:=fun t=>by
  unfold swapR
  by_cases e:ps.length=i0
  ·rw[aQ e,←e]
  ·rw[aV e,aQ rfl]
 have hg0:∀t,t<kk→f i0 t=0:=fun t ht=>h.z2 i0 t hi hi2 ht
 have hup:∀i t,i<ps.length→swapR f i0 ps.length i t=f i t:=fun i t Mw=>by unfold swapR;rw[ifn_,ifn_]
 have hE:∀i t,i≠ps.length→t<kk→elimR (swapR f i0 ps.length) ps.length kk i t=swapR f i0 ps.length i t:=fun i t h1 h2=>by
  unfold elimR
  rw[aV h1,hg t,hg0 t h2];grind
 have hEr:∀t,t<kk→elimR (swapR f i0 ps.length) ps.length kk ps.length t=0:=fun t ht=>by
  unfold elimR
  rw[aQ rfl,hg t,hg0 t ht];grind
 have JI:∀i t,ps.length<i→i<R→t<kk→swapR f i0 ps.length i t=0:=fun i t h1 h2 h3=>by
  unfold swapR
  by_cases e:i=i0
  ·rw[aQ e];exact h.z2 _ t (bI _) hr h3
  ·rw[aV e,ifn_];exact h.z2 i t (by omega) h2 h3
 have hcol:∀i,elimR (swapR f i0 ps.length) ps.length kk i kk=if i=ps.length then 1 else 0:=fun i=>by
  unfold elimR
  by_cases e:i=ps.length
  ·rw[aQ e,aQ e,hg];grind
  ·rw[aV e,aV e,hg];grind
 have hlen:(ps++[kk]).length=ps.length+1:=by simp
 refine⟨fun j hj=>?_,fun i j hij hj=>?_,by omega,fun i j hi3 hj=>?_,fun i t hi3 ht=>?_,fun i t h1 h2 h3=>?_⟩
 ·rw[hlen] at hj
  rw[get_app]
  by_cases e:j<ps.length
  ·rw[aQ e];have:=h.lt j e;omega
  ·rw[aV e,ifp_];omega
 ·rw[hlen] at hj
  rw[get_app,get_app,aQ (show i<ps.length by omega)]
  by_cases e:j<ps.length
  ·rw[aQ e];exact h.inc i j hij e
  ·rw[aV e,ifp_];exact h.lt i (by omega)
 ·rw[hlen] at hj
  rw[get_app]
  by_cases e:j<ps.length
  ·rw[aQ e]
   have cg:=h.lt j e
   by_cases er:i=ps.length
   ·rw[er,hEr _ cg,ifn_]
   ·rw[hE i _ er cg]
    rcases cc i ps.length with h4|h4
    ·rw[hup i _ h4];exact h.piv i j hi3 e
    ·rw[JI i _ (by omega) hi3 cg,ifn_]
  ·rw[aV e,ifp_,hcol i]
   by_cases er:i=ps.length
   ·rw[aQ er,ifp_]
   ·rw[aV er,ifn_]
 ·rw[hlen] at hi3
  rw[get_app] at ht
  by_cases e:i<ps.length
  ·rw[aQ e] at ht
   have cg:=h.lt i e
   rw[hE i t (by omega) (by omega),hup i t e];exact h.z1 i t e ht
  ·rw[aV e,ifp_] at ht
   rw[show i=ps.length by omega];exact hEr t ht
 ·rw[hlen] at h1
  rcases cc t kk with h4|h4
  ·rw[hE i t (by omega) h4];exact JI i t (by omega) h2 h4
  ·rw[show t=kk by omega,hcol i,ifn_]
end
structure RowDet(n:Nat)(D:RM→Rat):Prop where
 congr:∀f g,(∀i k,i<n→k<n→f i k=g i k)→D f=D g
 swap:∀f a b,a<n→b<n→a≠b→D (swapR f a b)=-D f
 scale:∀f r c,r<n→D (fun i k=>if i=r then c*f r k else f i k)=c*D f
 add:∀f r i c,r<n→i<n→i≠r→D (fun j k=>if j=i then f i k+c*f r k else f j k)=D f
section
variable {n:Nat} {D:RM→Rat} {f:RM} {r k:Nat}
theorem RowDet.elim(h:RowDet n D)(hr:r<n)(hp:f r k≠0):D (elimR f r k)=D f / f r k:=by
 -- the rows ahead of m are done
 have key:∀m,m≤n→D (fun i j=>if i=r then f r j / f r k else if i<m then f i j - f i k*(f r j / f r k) else f i j)=D f / f r k:=by
  intro m
  induction m with
  |zero=>
   intro _
   have:=h.scale f r (1 / f r k) hr
   rw[h.congr _ (fun i j=>if i=r then 1 / f r k*f r j else f i j) fun i j _ _=>by
    by_cases e:i=r
    ·rw[aQ e,aQ e];grind
    ·rw[aV e,aV e,ifn_],this]
   grind
  |succ m ih=>
   intro hm
   rw[←ih (by omega)]
   by_cases e:m=r
   ·refine h.congr _ _ fun i j _ _=>?_
    by_cases e2:i=r
    ·rw[aQ e2,aQ e2]
    ·rw[aV e2,aV e2]
     by_cases e3:i<m
     ·rw[aQ e3,ifp_]
     ·rw[aV e3,ifn_]
   ·have:=h.add (fun i j=>if i=r then f r j / f r k else if i<m then f i j - f i k*(f r j / f r k) else f i j) r m (-f m k) hr (by omega) e
    rw[←this]
    refine h.congr _ _ fun i j _ _=>?_
    by_cases e2:i=m
    ·subst e2
     simp only[aO,aV e,Gr,vj,eR]
     grind
    ·rw[aV e2]
     by_cases e3:i=r
     ·rw[aQ e3,aQ e3]
     ·rw[aV e3,aV e3]
      by_cases e4:i<m
      ·rw[aQ e4,ifp_]
      ·rw[aV e4,ifn_]
 rw[←key n (bI n)]
 refine h.congr _ _ fun i j hi _=>?_
 unfold elimR
 by_cases e:i=r
 ·rw[aQ e,aQ e]
 ·rw[aV e,aV e,aQ hi]
end
end
section
def Ea(C k:Nat)(V:List Nu):Nat→Nat→Option Nat
 |0,_=>none
 |n+1,i=>if va V[i*C+k]!≠0 then some i else Ea C k V n (i+1)
def qh(C:Nat)(V:List Nu)(i r:Nat):Nat→List Nu
 |0=>V
 |j+1=>((qh C V i r j).set (i*C+j) (qh C V i r j)[r*C+j]!).set (r*C+j) (qh C V i r j)[i*C+j]!
def Bf(V:List Nu)(o:Nat)(h:List Nu→Nat→Nu):Nat→List Nu
 |0=>V
 |j+1=>(Bf V o h j).set (o+j) (h (Bf V o h j) j)
def mb(C k r:Nat)(V:List Nu):Nat→List Nu
 |0=>V
 |n+1=>if n≠r∧va (mb C k r V n)[n*C+k]!≠0 then Bf (mb C k r V n) (n*C) (fun U j=>HF U[n*C+j]! (uG (mb C k r V n)[n*C+k]! U[r*C+j]!)) C else mb C k r V n
structure Pv where
 col:Nat
 by':Nu
 mov:Bool
 deriving Inhabited
def byN(C k i r:Nat)(V:List Nu):Nu:=(qh C V i r C)[r*C+k]!
def yh(R C k i r:Nat)(V:List Nu):List Nu:=mb C k r (Bf (qh C V i r C) (r*C) (fun U j=>HG U[r*C+j]! (byN C k i r V)) C) R
def oB(R C:Nat):Nat→Nat→Nat→List Nu→List Pv→Option (List Nu×List Pv)
 |0,_,_,V,acc=>some (V,acc)
 |n+1,k,r,V,acc=>if r<R then
   match Ea C k V (R - r) r with
   |none=>oB R C n (k+1) r V acc
   |some i=>if (yh R C k i r V).all cM then oB R C n (k+1) (r+1) (yh R C k i r V) (acc++[⟨k,byN C k i r V,decide (i≠r)⟩]) else none
  else some (V,acc)
theorem get_set {V:List Nu}{i t:Nat}{x:Nu}(hi:i<V.length):(V.set i x)[t]! =if t=i then x else V[t]! :=by
 simp only[yG]
 by_cases h:t=i
 ·subst h;rw[aQ rfl,Kr hi];rfl
 ·rw[aV h,List.getElem?_set_ne (fun e=>h e.symm)]
theorem vU {C:Nat}{V:List Nu}{i r:Nat}:∀j,(qh C V i r j).length=V.length
 |0=>rfl
 |j+1=>by unfold qh;rw[CK,CK,vU j]
theorem vf {V:List Nu}{o:Nat}{h:List Nu→Nat→Nu}:∀j,(Bf V o h j).length=V.length
 |0=>rfl
 |j+1=>by unfold Bf;rw[CK,vf j]
theorem vX {C k r:Nat}{V:List Nu}:∀n,(mb C k r V n).length=V.length
 |0=>rfl
 |n+1=>by
  unfold mb
  split
  ·rw[vf,vX n]
  ·exact vX n
theorem Et {R C k i r:Nat}{V:List Nu}:(yh R C k i r V).length=V.length:=by unfold yh;rw[vX,vf,vU]
theorem cK {R C i j:Nat}(hi:i<R)(hj:j<C):i*C+j<R*C:=by
 have:(i+1)*C≤R*C:=c6 C hi
 rw[cO,fm] at this
 omega
theorem Ex {C i j i' j':Nat}(hj:j<C)(GX:j'<C)(h:i*C+j=i'*C+j'):i=i'∧j=j':=by
 have h1:(i*C+j) / C=i:=by rw[cY,CJ (by omega),gD hj];omega
 have h2:(i'*C+j') / C=i':=by rw[cY,CJ (by omega),gD GX];omega
 have:i=i':=by rw[←h1,←h2,h]
 subst this
 exact⟨rfl,by omega⟩
section
variable {R C:Nat} {V:List Nu}
theorem swapF_get(hV:V.length=R*C){i r:Nat}(hi:i<R)(hr:r<R):∀j,j≤C→∀a b,a<R→b<C→(qh C V i r j)[a*C+b]! =if b<j then (if a=i then V[r*C+b]! else if a=r then V[i*C+b]! else V[a*C+b]!) else V[a*C+b]!
 |0,_,a,b,_,_=>by rw[ifn_];rfl
 |j+1,hj,a,b,ha,hb=>by
  have ih:=swapF_get hV hi hr j (by omega)
  have EI:i*C+j<(qh C V i r j).length:=by rw[vU,hV];exact cK hi (by omega)
  have A7:r*C+j<(qh C V i r j).length:=by rw[vU,hV];exact cK hr (by omega)
  unfold qh
  rw[get_set (by rw[CK];exact A7),get_set EI]
  have e1:=ih r j hr (by omega)
  have e2:=ih i j hi (by omega)
  have e3:=ih a b ha hb
  have p1:(a*C+b=r*C+j)↔(a=r∧b=j):=⟨fun e=>Ex hb (by omega) e,by rintro⟨rfl,rfl⟩;rfl⟩
  have p2:(a*C+b=i*C+j)↔(a=i∧b=j):=⟨fun e=>Ex hb (by omega) e,by rintro⟨rfl,rfl⟩;rfl⟩
  rw[aV (Gr j)] at e1 e2
  simp only[p1,p2]
  by_cases hbj:b=j
  ·subst hbj
   rw[aV (Gr b)] at e3
   by_cases har:a=r
   ·subst har
    by_cases hai:a=i
    ·subst hai;simp[e2]
    ·simp[hai,e2]
   ·by_cases hai:a=i
    ·subst hai;simp[har,e1]
    ·simp[har,hai,e3]
  ·have h2:(b<j+1)↔(b<j):=by omega
   simp only[hbj,and_false,vj,h2]
   exact e3
theorem chgF_get {n o:Nat}{h:List Nu→Nat→Nu}(ho:o+n≤V.length)(hh:∀(U:List Nu) j,j<n→(∀t,t<o∨o+j≤t→U[t]! =V[t]!)→h U j=h V j):∀j,j≤n→∀t,(Bf V o h j)[t]! =if o≤t∧t<o+j then h V (t - o) else V[t]!
 |0,_,t=>by rw[ifn_];rfl
 |j+1,hj,t=>by
  have ih:=chgF_get ho hh j (by omega)
  unfold Bf
  rw[get_set (by rw[vf];omega)]
  by_cases e:t=o+j
  ·subst e
   rw[aQ rfl,ifp_,hh _ j (by omega) (fun t ht=>by rw[ih t,ifn_]),show o+j - o=j by omega]
  ·rw[aV e,ih t]
   by_cases h2:o≤t∧t<o+j
   ·rw[aQ h2,ifp_]
   ·rw[aV h2,ifn_]
theorem chgF_row(hV:V.length=R*C){i:Nat}(hi:i<R){h:List Nu→Nat→Nu}(hh:∀(U:List Nu) j,j<C→(∀a b,a<R→b<C→a≠i∨j≤b→U[a*C+b]! =V[a*C+b]!)→h U j=h V j){a b:Nat}(ha:a<R)(hb:b<C):
  (Bf V (i*C) h C)[a*C+b]! =if a=i then h V b else V[a*C+b]! :=by
 have hle:i*C+C≤V.length:=by
  rw[hV]
  have:(i+1)*C≤R*C:=c6 C hi
  rw[cO,fm] at this
  exact this
 rw[chgF_get hle (fun U j hj hU=>hh U j hj fun a b ha hb M7=>hU _ ?_) C (bI _)]
 ·by_cases e:a=i
  ·subst e
   rw[aQ ⟨by omega,by omega⟩,aQ rfl,show a*C+b - a*C=b by omega]
  ·rw[aV e,aV]
   intro⟨h1,h2⟩
   obtain⟨d,hd⟩:∃d,a*C+b=i*C+d:=⟨a*C+b - i*C,by omega⟩
   exact e (Ex hb (show d<C by omega) hd).1
 ·rcases M7 with h1|h1
  ·rcases cc a i with h2|h2
   ·left
    have:(a+1)*C≤i*C:=c6 C h2
    rw[cO,fm] at this
    omega
   ·right
    have:(i+1)*C≤a*C:=c6 C (by omega)
    rw[cO,fm] at this
    omega
  ·rcases CS a i with h2|h2|h2
   ·left
    have:(a+1)*C≤i*C:=c6 C h2
    rw[cO,fm] at this
    omega
   ·subst h2;right;omega
   ·right
    have:(i+1)*C≤a*C:=c6 C (by omega)
    rw[cO,fm] at this
    omega
theorem rowsF_get(hV:V.length=R*C){k r:Nat}(hk:k<C)(hr:r<R):∀n,n≤R→∀a b,a<R→b<C→(mb C k r V n)[a*C+b]! =if a<n∧a≠r∧va V[a*C+k]!≠0 then HF V[a*C+b]! (uG V[a*C+k]! V[r*C+b]!) else V[a*C+b]!
 |0,_,a,b,_,_=>by rw[ifn_];rfl
 |n+1,hn,a,b,ha,hb=>by
  have ih:=rowsF_get hV hk hr n (by omega)
  have hx:(mb C k r V n)[n*C+k]! =V[n*C+k]! :=by rw[ih n k (by omega) hk,ifn_]
  have hlen:(mb C k r V n).length=R*C:=by rw[vX,hV]
  unfold mb
  by_cases hc:n≠r∧va (mb C k r V n)[n*C+k]!≠0
  ·rw[aQ hc,chgF_row hlen (show n<R by omega) (fun U j hj hU=>by rw[hU n j (by omega) hj (.inr (bI _)),hU r j hr hj (.inl (nY hc.1))]) ha hb]
   rw[hx] at hc ⊢
   by_cases e:a=n
   ·subst e
    rw[aQ rfl,aQ ⟨by omega,hc⟩,ih a b ha hb,ifn_,ih r b hr hb,ifn_]
   ·rw[aV e,ih a b ha hb]
    by_cases h2:a<n∧a≠r∧va V[a*C+k]!≠0
    ·rw[aQ h2,aQ ⟨by omega,h2.2⟩]
    ·rw[aV h2,aV fun h3=>h2 ⟨by omega,h3.2⟩]
  ·rw[aV hc,ih a b ha hb]
   rw[hx] at hc
   by_cases h2:a<n∧a≠r∧va V[a*C+k]!≠0
   ·rw[aQ h2,aQ ⟨by omega,h2.2⟩]
   ·rw[aV h2,aV fun h3=>?_]
    by_cases e:a=n
    ·subst e;exact hc h3.2
    ·exact h2 ⟨by omega,h3.2⟩
def toR(C:Nat)(V:List Nu):RM:=fun i k=>rv V[i*C+k]!
theorem good_at(hg:V.all cM=true){t:Nat}(ht:t<V.length):cM V[t]! =true:=by
 rw[iR V t ht];exact eS.1 hg _ (EX ht)
theorem fstN_some {k:Nat}:∀{n i i0:Nat},Ea C k V n i=some i0→i≤i0∧i0<i+n∧va V[i0*C+k]!≠0
 |0,_,_,h=>by cases h
 |n+1,i,i0,h=>by
  unfold Ea at h
  split at h
  ·rename_i hs;cases h;exact⟨by omega,by omega,hs⟩
  ·obtain⟨h1,h2,h3⟩:=fstN_some h;exact⟨by omega,by omega,h3⟩
theorem fstN_none {k:Nat}:∀{n i:Nat},Ea C k V n i=none→∀j,i≤j→j<i+n→va V[j*C+k]! =0
 |0,i,_,j,h1,h2=>by omega
 |n+1,i,h,j,h1,h2=>by
  unfold Ea at h
  split at h
  ·cases h
  ·rename_i hs
   by_cases e:j=i
   ·subst e;exact Classical.not_not.1 hs
   ·exact fstN_none h j (by omega) (by omega)
theorem nSub_rv {x y:Nu}(h:cM (HF x y)=true):cM x=true∧cM y=true∧rv (HF x y)=rv x - rv y:=by
 have hs:HF x y=Jn x (N8 y):=by
  rw[N6,HH,N7]
  have hv:fh (nuR (NU (fh y.1))).1=NU (fh y.1):=by
   refine val_nuR ?_
   intro p hp
   cases hy:fh y.1 with
   |none=>rw[hy] at hp;cases hp
   |some q=>
    rw[hy] at hp
    have:-q=p:=by injection hp
    rw[←this];exact Pr (eT.1 hy).1
  exact congrArg nuR (show osub (fh x.1) (fh y.1)=NZ (fh x.1) (fh (nuR (NU (fh y.1))).1) by rw[hv];rfl)
 rw[hs] at h ⊢
 obtain⟨h1,h2⟩:=good_add h
 rw[nNeg_good] at h2
 rw[nAdd_rv h1 (by rw[nNeg_good];exact h2) h,nNeg_rv]
 exact⟨h1,h2,by grind⟩
theorem stepN_R(hV:V.length=R*C)(hg:V.all cM=true){k i r:Nat}(hk:k<C)(hi:i<R)(hr:r<R)(Lh:(yh R C k i r V).all cM=true):
  cM (byN C k i r V)=true∧rv (byN C k i r V)=swapR (toR C V) i r r k∧∀a b,a<R→b<C→toR C (yh R C k i r V) a b=elimR (swapR (toR C V) i r) r k a b:=by
 have hgo:∀a b,a<R→b<C→cM V[a*C+b]! =true:=fun a b ha hb=>good_at hg (by rw[hV];exact cK ha hb)
 have EI:(qh C V i r C).length=R*C:=by rw[vU,hV]
 have hs:∀a b,a<R→b<C→(qh C V i r C)[a*C+b]! =if a=i then V[r*C+b]! else if a=r then V[i*C+b]! else V[a*C+b]! :=fun a b ha hb=>by rw[swapF_get hV hi hr C (bI _) a b ha hb,aQ hb]
 have hsg:∀a b,a<R→b<C→cM (qh C V i r C)[a*C+b]! =true∧rv (qh C V i r C)[a*C+b]! =swapR (toR C V) i r a b:=fun a b ha hb=>by
  rw[hs a b ha hb]
  unfold swapR toR
  split
  ·exact⟨hgo r b hr hb,rfl⟩
  ·split
   ·exact⟨hgo i b hi hb,rfl⟩
   ·exact⟨hgo a b ha hb,rfl⟩
 have hby:=hsg r k hr hk
 have A7:(Bf (qh C V i r C) (r*C) (fun U j=>HG U[r*C+j]! (byN C k i r V)) C).length=R*C:=by rw[vf,EI]
 have hd:∀a b,a<R→b<C→(Bf (qh C V i r C) (r*C) (fun U j=>HG U[r*C+j]! (byN C k i r V)) C)[a*C+b]! =if a=r then HG (qh C V i r C)[r*C+b]! (byN C k i r V) else (qh C V i r C)[a*C+b]! :=fun a b ha hb=>
  chgF_row EI hr (fun U j hj hU=>by rw[hU r j hr hj (.inr (bI _))]) ha hb
 have D0:∀a b,a<R→b<C→cM (yh R C k i r V)[a*C+b]! =true:=fun a b ha hb=>good_at Lh (by rw[Et,hV];exact cK ha hb)
 have hrow:∀b,b<C→(yh R C k i r V)[r*C+b]! =HG (qh C V i r C)[r*C+b]! (byN C k i r V):=fun b hb=>by
  unfold yh
  rw[rowsF_get A7 hk hr R (bI _) r b hr hb,ifn_,hd r b hr hb,aQ rfl]
 have hrv:∀b,b<C→rv (HG (qh C V i r C)[r*C+b]! (byN C k i r V))=swapR (toR C V) i r r b / swapR (toR C V) i r r k:=fun b hb=>by
  have h1:=D0 r b hr hb
  rw[hrow b hb] at h1
  obtain⟨_,_,_,h2⟩:=good_div h1
  rw[h2,(hsg r b hr hb).2]
  unfold byN
  rw[hby.2]
 refine⟨hby.1,hby.2,fun a b ha hb=>?_⟩
 show rv (yh R C k i r V)[a*C+b]! =_
 unfold elimR
 by_cases e:a=r
 ·subst e
  rw[aQ rfl,hrow b hb,hrv b hb]
 ·rw[aV e]
  have h1:=D0 a b ha hb
  unfold yh at h1 ⊢
  rw[rowsF_get A7 hk hr R (bI _) a b ha hb,hd a k ha hk,hd a b ha hb,hd r b hr hb,aV e,aV e,aQ rfl] at h1 ⊢
  by_cases hc:a<R∧a≠r∧va (qh C V i r C)[a*C+k]!≠0
  ·rw[aQ hc] at h1 ⊢
   obtain⟨_,h3,h4⟩:=nSub_rv h1
   obtain⟨h5,h6⟩:=good_mul h3
   rw[h4,nMul_rv h5 h6 h3,(hsg a b ha hb).2,(hsg a k ha hk).2,hrv b hb]
  ·rw[aV hc]
   have h0:va (qh C V i r C)[a*C+k]! =0:=by
    apply Classical.byContradiction
    intro h;exact hc ⟨ha,e,h⟩
   have:=(sign0 (hsg a k ha hk).1).1 h0
   rw[(hsg a k ha hk).2] at this
   rw[(hsg a b ha hb).2,this];grind
structure RedOk(R C:Nat)(f:RM)(W:List Nu)(l:List Pv):Prop where
 len:W.length=R*C
 good:W.all cM=true
 red:IsR (toR C W) R C (l.map (·.col))
 sol:∀x,SolM (toR C W) R C x↔SolM f R C x
 byG:∀p∈l,cM p.by'=true∧rv p.by'≠0
 det:∀D,R=C→RowDet R D→D f=(l.foldl (fun c p=>c*(rv p.by'*if p.mov then -1 else 1)) 1)*D (toR C W)
theorem redP_ok {f:RM}:∀(n k r:Nat) (V:List Nu) (acc:List Pv) {W:List Nu} {l:List Pv},k+n=C→V.length=R*C→V.all cM=true→acc.length=r→IsR (toR C V) R k (acc.map (·.col))→(∀x,SolM (toR C V) R C x↔SolM f R C x)→(∀p∈acc,cM p.by'=true∧rv p.by'≠0)→
  (∀D,R=C→RowDet R D→D f=(acc.foldl (fun c p=>c*(rv p.by'*if p.mov then -1 else 1)) 1)*D (toR C V))→oB R C n k r V acc=some (W,l)→RedOk R C f W l
 |0,k,r,V,acc,W,l,hk,hV,hg,ha,hI,hs,hb,hd,h=>by
  unfold oB at h
  cases h
  exact⟨hV,hg,by rw[show C=k by omega];rw[show C=k by omega] at hI;exact hI,hs,hb,hd⟩
 |n+1,k,r,V,acc,W,l,hk,hV,hg,ha,hI,hs,hb,hd,h=>by
  unfold oB at h
  have hal:(acc.map (·.col)).length=r:=by rw[bH,ha]
  by_cases hr:r<R
  ·rw[aQ hr] at h
   have hgo:∀a,a<R→cM V[a*C+k]! =true:=fun a ha=>good_at hg (by rw[hV];exact cK ha (by omega))
   cases hf:Ea C k V (R - r) r with
   |none=>
    rw[hf] at h
    refine redP_ok n (k+1) r V acc (by omega) hV hg ha (hI.none fun i h1 h2=>?_) hs hb hd h
    rw[hal] at h1
    exact (sign0 (hgo i h2)).1 (fstN_none hf i h1 (by omega))
   |some i=>
    rw[hf] at h
    dsimp only at h
    obtain⟨h1,h2,h3⟩:=fstN_some hf
    by_cases ml:(yh R C k i r V).all cM=true
    ·rw[aQ ml] at h
     obtain⟨h4,h5,h6⟩:=stepN_R hV hg (show k<C by omega) (show i<R by omega) hr ml
     have px:toR C V i k≠0:=fun e=>h3 ((sign0 (hgo i (by omega))).2 e)
     have hsw:swapR (toR C V) i r r k=toR C V i k:=by
      unfold swapR
      by_cases e:r=i
      ·rw[aQ e,←e]
      ·rw[aV e,aQ rfl]
     have D0:=hI.step (i0:=i) (by rw[hal];exact h1) (by omega) px
     rw[hal] at D0
     refine redP_ok n (k+1) (r+1) _ _ (by omega) (by rw[Et,hV]) ml (by simp[ha]) ?_ (fun x=>?_) ?_ (fun D M8 hD=>?_) h
     ·rw[nd]
      exact D0.congr (by omega) fun a b ha hb=>(h6 a b ha hb).symm
     ·rw[←hs x,←sol_swap (f:=toR C V) (show i<R by omega) hr,←sol_elim (f:=swapR (toR C V) i r) hr (by rw[hsw];exact px)]
      exact⟨fun h=>h.congr h6,fun h=>h.congr fun a b ha hb=>(h6 a b ha hb).symm⟩
     ·intro p hp
      rcases sJ.1 hp with h7|h7
      ·exact hb p h7
      ·rw[List.mem_singleton.1 h7];exact⟨h4,by rw[h5,hsw];exact px⟩
     ·rw[hd D M8 hD,List.foldl_append,List.foldl_cons,List.foldl_nil,hD.congr _ _ (fun a b ha hb=>h6 a b ha (by omega)),hD.elim hr (by rw[hsw];exact px),h5,hsw]
      by_cases e:i=r
      ·rw[hD.congr (swapR (toR C V) i r) (toR C V) fun a b _ _=>by
        unfold swapR
        by_cases e3:a=i
        ·rw[aQ e3,e3,e]
        ·rw[aV e3,ifn_]]
       simp only[e,ne_eq,Ka,oZ,Bool.false_eq_true,vj]
       subst e
       grind
      ·rw[hD.swap _ i r (by omega) hr e]
       simp only[e,ne_eq,not_false_eq_true,o0,aO]
       grind
    ·rw[aV ml] at h;cases h
  ·rw[aV hr] at h
   cases h
   have hle:=hI.le
   rw[hal] at hle
   exact⟨hV,hg,hI.full (by rw[hal];omega) (by omega),hs,hb,hd⟩
theorem redP_start(hV:V.length=R*C)(hg:V.all cM=true){W:List Nu}{l:List Pv}(h:oB R C C 0 0 V []=some (W,l)):RedOk R C (toR C V) W l:=
 redP_ok C 0 0 V [] (by omega) hV hg rfl (isR_nil _ R) (fun _=>Iff.rfl) (by simp) (fun D _ _=>by simp only[List.foldl_nil];grind) h
end
end
section
def mkM {α:Type}(R C:Nat)(f:Nat→Nat→α):List α:=(List.range R).flatMap fun i=>(List.range C).map (f i)
section
variable {α β:Type} {R C:Nat} {f g:Nat→Nat→α}
theorem yp:mkM (R+1) C f=mkM R C f++(List.range C).map (f R):=by
 unfold mkM
 rw[w7,CW]
 simp
theorem br:(mkM R C f).length=R*C:=by
 induction R with
 |zero=>simp[mkM]
 |succ R ih=>rw[yp,fg,ih,bH,Gv,qu]
theorem rp {i k:Nat}(hi:i<R)(hk:k<C):(mkM R C f)[i*C+k]? =some (f i k):=by
 induction R with
 |zero=>omega
 |succ R ih=>
  rw[yp]
  rcases cc i R with h|h
  ·have:=cK h hk
   rw[vt (by rw[br];exact this)]
   exact ih h
  ·obtain rfl:i=R:=by omega
   rw[vq (by rw[br];omega),br,C2,dZ,Gu hk]
   rfl
theorem tO [Inhabited α]{i k:Nat}(hi:i<R)(hk:k<C):(mkM R C f)[i*C+k]! =f i k:=by
 rw[yG,rp hi hk];rfl
theorem sY {t:Nat}(h:t<R*C):∃i k,i<R∧k<C∧t=i*C+k:=by
 have hC:0<C:=by
  rcases kN C with h0|h0
  ·rw[h0,LI] at h;omega
  ·exact h0
 refine⟨t / C,t % C,?_,ey _ hC,?_⟩
 ·exact C6 (by rw[cY];exact h)
 ·rw[cY];exact (oV t C).symm
theorem Ft {l:List α}(hl:l.length=R*C)(h:∀i k,i<R→k<C→l[i*C+k]? =some (f i k)):l=mkM R C f:=by
 apply xD
 intro t
 rcases cc t (R*C) with ht|ht
 ·obtain⟨i,k,hi,hk,rfl⟩:=sY ht
  rw[h i k hi hk,rp hi hk]
 ·rw[fV (by omega),fV (by rw[br];exact ht)]
theorem n6(h:∀i k,i<R→k<C→f i k=g i k):mkM R C f=mkM R C g:=Ft br fun i k hi hk=>by rw[rp hi hk,h i k hi hk]
theorem mkM_of [Inhabited α]{l:List α}(hl:l.length=R*C):l=mkM R C fun i k=>l[i*C+k]! :=Ft hl fun i k hi hk=>by
 have:=cK hi hk
 rw[yG,fI (by omega)];rfl
theorem mkM_set {i k:Nat}(hi:i<R)(hk:k<C)(x:α):(mkM R C f).set (i*C+k) x=mkM R C fun a b=>if a=i∧b=k then x else f a b:=by
 refine Ft (by rw[CK,br]) fun a b ha hb=>?_
 by_cases h:a=i∧b=k
 ·obtain⟨rfl,rfl⟩:=h
  rw[aQ ⟨rfl,rfl⟩,Kr (by rw[br];exact cK hi hk)]
 ·rw[aV h,List.getElem?_set_ne (fun e=>h ?_),rp ha hb]
  obtain⟨h1,h2⟩:=Ex hk hb e
  exact⟨h1.symm,h2.symm⟩
theorem Fu {p:α→Bool}:(mkM R C f).all p=true↔∀i k,i<R→k<C→p (f i k)=true:=by
 rw[eS]
 constructor
 ·intro h i k hi hk
  exact h _ (cy (rp hi hk))
 ·intro h x hx
  obtain⟨t,ht⟩:=vp hx
  have cg:t<R*C:=by have:=(l8.1 ht).1;rwa[br] at this
  obtain⟨i,k,hi,hk,rfl⟩:=sY cg
  rw[rp hi hk] at ht
  injection ht with ht
  rw[←ht];exact h i k hi hk
theorem Od {x:α}:mkM R C (fun _ _=>x)=List.replicate (R*C) x:=by
 apply xD
 intro t
 rcases cc t (R*C) with ht|ht
 ·obtain⟨i,k,hi,hk,rfl⟩:=sY ht
  rw[rp hi hk,List.getElem?_replicate,aQ ht]
 ·rw[fV (by rw[br];exact ht),fV (by rw[vh];exact ht)]
theorem mkM_row {i:Nat}(hi:i<R):((mkM R C f).drop (i*C)).take C=(List.range C).map (f i):=by
 apply xD
 intro t
 rw[eY]
 split
 ·rename_i ht
  rw[mN,rp hi ht,dZ,Gu ht];rfl
 ·rename_i ht
  rw[fV (by rw[bH,Gv];omega)]
end
end
section
section
variable {B:Nat} {hp:Hp} {g:Gh} {w w':World}
def Hp.re(hp:Hp)(k:Nat)(ds:List D):Hp:=⟨(hp.next,ds)::hp.vars.filter fun p=>!([k]:List Nat).contains p.1,hp.live,hp.next+1⟩
theorem yk {k:Nat}{ds a:List D}{j:Nat}(h:(hp.re k ds).vars.lookup j=some a):(j=hp.next∧a=ds)∨(j≠hp.next∧j≠k∧hp.vars.lookup j=some a):=by
 by_cases hj:j=hp.next
 ·subst hj
  have:some ds=some a:=by rw[←h];exact ak.symm
  injection this with this
  exact .inl ⟨rfl,this.symm⟩
 ·have h1:(hp.vars.filter fun p=>!([k]:List Nat).contains p.1).lookup j=some a:=by rw[←h];exact (aC hj).symm
  obtain⟨h2,h3⟩:=kH h1
  exact .inr ⟨hj,by simpa using h2,h3⟩
theorem bX.re(hr:HR B hp g w){k b:Nat}{oi:List D}(hk:hp.vars.lookup k=some oi)(ds:List D)(hs:w.heap.size≤w'.heap.size)(ho:∀c,c<w.heap.size→c≠g.μ k→w'.heap[c]? =w.heap[c]?)(hz:SzB w w' (g.μ k))(hb:b=g.μ k∨w.heap.size≤b):
  bX hp g w (hp.re k ds) (g.var hp.next b) w':=by
 have cg:=hr.var_lt hk
 obtain⟨h1,h2,h3,_⟩:=hr.var k oi hk
 refine⟨hs,fun p hp1 hf=>World.cell?_of_block (ho _ hp1 fun e=>hf (h3 p e)),fun p hpb hf=>?_,gM _,fun j hj=>?_,fun _ _ m _ hm=>⟨m,hm,bI _,fun _=>rfl⟩,fun c hc hf=>⟨ho _ hc fun e=>hf.1 k oi hk e.symm,fun _ _ h=>.inl h,fun j a hj=>?_,hf.2⟩,fun c=>?_⟩
 ·rcases hf with hf|hf
  ·exact hf
  ·rcases hb with hb|hb
   ·exact h3 p (by rw[hf,hb])
   ·omega
 ·show (if j=hp.next then _ else _)=_
  rw[ifn_]
 ·rcases yk hj with⟨rfl,_⟩|⟨px,_,h⟩
  ·show (if _ then _ else _)≠_
   rw[aQ rfl]
   rcases hb with hb|hb
   ·rw[hb];exact hf.1 k oi hk
   ·omega
  ·show (if _ then _ else _)≠_
   rw[aV px]
   exact hf.1 j a h
 ·by_cases hc:c=g.μ k
  ·subst hc;exact hz
  ·exact .same fun h=>ho c h hc
theorem HR.re(hr:HR B hp g w){k b:Nat}{oi:List D}(hk:hp.vars.lookup k=some oi)(ds:List D)(hs:w.heap.size≤w'.heap.size)(ho:∀c,c<w.heap.size→c≠g.μ k→w'.heap[c]? =w.heap[c]?)(hz:SzB w w' (g.μ k))(hb:b=g.μ k∨w.heap.size≤b)
  (cs:Array Value) (ty:TypeId) (hn:w'.heap[b]? =some (.cells cs ty (0,0))) (hl:ds.length≤cs.size) (hc:∀(j:Nat) (u:Value),cs[j]? =some u→(j<ds.length→u.oneCell'=true)∧∀d,ds[j]? =some d→aR hp g w d u):HR B (hp.re k ds) (g.var hp.next b) w':=by
 have m:=bX.re hr hk ds hs ho hz hb
 have hkl:=hr.var_lt hk
 obtain⟨hk1,D1,hk3,_⟩:=hr.var k oi hk
 have hbl:b<w'.heap.size:=(eI.1 hn).1
 have xO:(g.var hp.next b).μ hp.next=b:=aQ rfl
 have hμ:∀j,j<hp.next→(g.var hp.next b).μ j=g.μ j:=m.μ
 have hdiff:∀{j:Nat} {a:List D},j≠k→hp.vars.lookup j=some a→g.μ j≠g.μ k:=fun hj h e=>hj (hr.inj _ _ _ _ h hk e)
 have Cc:∀{j:Nat} {a:List D},j≠k→hp.vars.lookup j=some a→g.μ j≠b:=fun hj h e=>by
  rcases hb with hb|hb
  ·exact hdiff hj h (by rw[e,hb])
  ·have:=hr.var_lt h;omega
 refine⟨fun j a hj=>?_,fun j j' a a' hj GX he=>?_,fun id n e hi=>?_,fun id zU t t' c hi AG he EK=>hr.tinj id zU t t' c hi AG he EK,da hr.base hs,fun p hf=>?_⟩
 ·rcases yk hj with⟨rfl,rfl⟩|⟨px,hjk,h0⟩
  ·rw[xO]
   refine⟨eR _,?_,fun p hp'=>.inr hp',cs,ty,hn,hl,fun i u hu=>⟨(hc i u hu).1,fun d hd=>((hc i u hu).2 d hd).mono m⟩⟩
   rcases hb with hb|hb
   ·rw[hb];exact D1
   ·exact da hr.base hb
  ·have cg:=hr.var_lt h0
   obtain⟨h1,h2,h3,t4,IV,h4,h5,h6⟩:=hr.var j a h0
   rw[hμ j h1]
   exact⟨uB h1,h2,fun p hp'=>.inl (h3 p hp'),t4,IV,(ho _ cg (hdiff hjk h0)).trans h4,h5,fun i u hu=>⟨(h6 i u hu).1,fun d hd=>((h6 i u hu).2 d hd).mono m⟩⟩
 ·rcases yk hj with⟨h1,_⟩|⟨h1,hjk,h0⟩ <;> rcases yk GX with⟨h2,_⟩|⟨h2,hjk',G2⟩
  ·omega
  ·rw[h1,xO,hμ j' (hr.var j' a' G2).1] at he
   exact absurd he.symm (Cc hjk' G2)
  ·rw[h2,xO,hμ j (hr.var j a h0).1] at he
   exact absurd he (Cc hjk h0)
  ·rw[hμ j (hr.var j a h0).1,hμ j' (hr.var j' a' G2).1] at he
   exact hr.inj j j' a a' h0 G2 he
 ·obtain⟨h1,us,hz',h2,h3⟩:=hr.tok id n e hi
  refine⟨uB h1,us,hz',⟨h2.1,?_⟩,fun c DE=>⟨fun p h4 h5=>.inl ((h3 c DE).1 p h4 h5),fun j a hj=>?_⟩⟩
  ·rcases h2.2 with h0|⟨c,cap,cur,hv,hB,hh,r⟩
   ·exact .inl h0
   ·exact .inr ⟨c,cap,cur,hv,hB,(ho c (eI.1 hh).1 fun e=>(h3 c (by rw[hv];rfl)).2 k oi hk e.symm).trans hh,r⟩
  ·rcases yk hj with⟨rfl,_⟩|⟨px,_,h0⟩
   ·rw[xO]
    rcases hb with hb|hb
    ·rw[hb];exact (h3 c DE).2 k oi hk
    ·have:=(h2.lt c DE).2;omega
   ·rw[hμ j (hr.var j a h0).1]
    exact (h3 c DE).2 j a h0
 ·rcases hf with hf|hf
  ·exact cm (hr.fits p hf) hs
  ·rw[hf];exact hbl
theorem bX.addVar(hp:Hp)(g:Gh)(ds:List D){b:Nat}(hs:w.heap.size≤w'.heap.size)(hb:∀c,c<w.heap.size→w'.heap[c]? =w.heap[c]?)(A8:w.heap.size≤b):bX hp g w (hp.var ds) (g.var hp.next b) w':=by
 refine⟨hs,fun p hp1 _=>World.cell?_of_block (hb _ hp1),fun p hpb hf=>?_,gM _,fun k hk=>?_,fun _ _ m _ hm=>⟨m,hm,bI _,fun _=>rfl⟩,fun c hc hf=>⟨hb _ hc,fun _ _ h=>.inl h,fun k ds' hk=>?_,hf.2⟩,fun c=>.same (hb c)⟩
 ·rcases hf with hf|hf
  ·exact hf
  ·omega
 ·show (if k=hp.next then _ else _)=_
  rw[ifn_]
 ·show (if k=hp.next then _ else _)≠_
  by_cases AF:k=hp.next
  ·rw[aQ AF];omega
  ·rw[aV AF]
   exact hf.1 k ds' (by rw[←hk];exact (aC AF).symm)
theorem HR.addVar(hr:HR B hp g w)(ds:List D){b:Nat}(hs:w.heap.size≤w'.heap.size)(hb:∀c,c<w.heap.size→w'.heap[c]? =w.heap[c]?)(A8:w.heap.size≤b)(cs:Array Value)(ty:TypeId)(hn:w'.heap[b]? =some (.cells cs ty (0,0)))(hl:ds.length≤cs.size)
  (hc:∀(j:Nat) (u:Value),cs[j]? =some u→(j<ds.length→u.oneCell'=true)∧∀d,ds[j]? =some d→aR (hp.var ds) (g.var hp.next b) w' d u):HR B (hp.var ds) (g.var hp.next b) w':=by
 have m:=bX.addVar hp g ds hs hb A8
 have hμ:∀k,k<hp.next→(g.var hp.next b).μ k=g.μ k:=m.μ
 have xO:(g.var hp.next b).μ hp.next=b:=aQ rfl
 have hbl:b<w'.heap.size:=(eI.1 hn).1
 have look:∀{j:Nat} {a:List D},(hp.var ds).vars.lookup j=some a→(j=hp.next∧a=ds)∨(j≠hp.next∧hp.vars.lookup j=some a):=by
  intro j a hj
  by_cases zZ:j=hp.next
  ·subst zZ
   have:some ds=some a:=by rw[←hj];exact ak.symm
   injection this with this
   exact .inl ⟨rfl,this.symm⟩
  ·exact .inr ⟨zZ,by rw[←hj];exact (aC zZ).symm⟩
 refine⟨fun j a hj=>?_,fun j j' a a' hj GX he=>?_,fun id n e hi=>?_,fun id zU t t' c hi AG he EK=>hr.tinj id zU t t' c hi AG he EK,da hr.base hs,fun p hf=>?_⟩
 ·rcases look hj with⟨rfl,rfl⟩|⟨px,h0⟩
  ·rw[xO]
   exact⟨eR _,da hr.base A8,fun p hp'=>.inr hp',cs,ty,hn,hl,hc⟩
  ·have cg:=hr.var_lt h0
   obtain⟨h1,h2,h3,t4,IV,h4,h5,h6⟩:=hr.var j a h0
   rw[hμ j h1]
   exact⟨uB h1,h2,fun p hp'=>.inl (h3 p hp'),t4,IV,(hb _ cg).trans h4,h5,fun i u hu=>⟨(h6 i u hu).1,fun d hd=>((h6 i u hu).2 d hd).mono m⟩⟩
 ·rcases look hj with⟨h1,_⟩|⟨h1,h0⟩ <;> rcases look GX with⟨h2,_⟩|⟨h2,G2⟩
  ·omega
  ·rw[h1,xO,hμ j' (hr.var j' a' G2).1] at he
   have:=hr.var_lt G2;omega
  ·rw[h2,xO,hμ j (hr.var j a h0).1] at he
   have:=hr.var_lt h0;omega
  ·rw[hμ j (hr.var j a h0).1,hμ j' (hr.var j' a' G2).1] at he
   exact hr.inj j j' a a' h0 G2 he
 ·obtain⟨h1,us,hz',h2,h3⟩:=hr.tok id n e hi
  refine⟨uB h1,us,hz',⟨h2.1,?_⟩,fun c DE=>⟨fun p h4 h5=>.inl ((h3 c DE).1 p h4 h5),fun j a hj=>?_⟩⟩
  ·rcases h2.2 with h0|⟨c,cap,cur,hv,hB,hh,r⟩
   ·exact .inl h0
   ·exact .inr ⟨c,cap,cur,hv,hB,(hb c (eI.1 hh).1).trans hh,r⟩
  ·rcases look hj with⟨rfl,_⟩|⟨px,h0⟩
   ·rw[xO]
    have:=(h2.lt c DE).2;omega
   ·rw[hμ j (hr.var j a h0).1]
    exact (h3 c DE).2 j a h0
 ·rcases hf with hf|hf
  ·exact cm (hr.fits p hf) hs
  ·rw[hf];exact hbl
end
end
section
def D.toOw:D→D
 | .gw k z n=>.ow k 0 z n
 |d=>d
section
variable {P:Program} {tb:TypeId→Option TyE} {md:Md} {B:Nat} {hp hp':Hp} {g:Gh} {w w':World} {d:D} {v:Value}
theorem aR.toOw(h:aR hp g w d v):aR hp g w d.toOw v:=by
 cases h with
 |gw k z n c hk h1 h2 hs=>exact .ow k 0 z n c hk h1 h2
 |e x v h=>exact .e x v h
 |own id z n xs v h hid ht=>exact .own id z n xs v h hid ht
 |fu z n xs A h=>exact .fu z n xs A h
 |ag ds cs hl h1 hr=>exact .ag ds cs hl h1 hr
 |tu ds cs hl hr=>exact .tu ds cs hl hr
 |fp xs off ad hb hc=>exact .fp xs off ad hb hc
 |pt k off hk=>exact .pt k off hk
 |ow k off z n c hk h1 h2=>exact .ow k off z n c hk h1 h2
 |fn f ks hk=>exact .fn f ks hk
 |opt b d v hi h=>exact .opt b d v hi h
 |top v=>exact .top v
theorem KW {k off:Nat}(d:D):d.toOw.un=.pt k off↔d.un=.pt k off:=by cases d <;> simp[D.toOw,D.un]
theorem po.toOw {o:Oper}{ev:Operand→D}(h:po P o (fun x=>(ev x).toOw) hp d hp'):po P o ev hp d hp':=
 fun B g w a Kn Q hr hx hk=>h B g w a Kn Q hr (fun x xP=>(hx x xP).toOw) hk
theorem n0.toOw {o:Oper}{ev:Operand→D}(h:n0 P tb md o (fun x=>(ev x).toOw) hp d hp'):n0 P tb md o ev hp d hp':=
 ⟨h.ok.toOw,fun h1=>⟨(h.quiet h1).1,fun cf h3=>((h.quiet h1).2 cf fun hl x hx j off e=>h3 hl x hx j off ((KW _).1 e)).toOw⟩,h.fr,fun hl x hx j off e=>h.lk hl x hx j off ((KW _).2 e)⟩
variable {ops:Array Oper} {K:List (Nat×D)→Hp→Prop} {os:List Oper} {tm:List (Nat×D)} {t:Tmp} {dst:Option Tmp} {op:Op} {ty:TypeId} {pos:String} {af:Array Edge} {gd:Option (Nat×Bool)}
theorem stG(tok:TOk P tb)(h:AVC P tb md.dr op ty (fun x=>(evD tm x).toOw) hp (Kq d hp'))(h2:bT P tb md ops K os (zG dst d tm) hp')(hn:md.nc tb op=true:=by exact rfl):bT P tb md ops K (⟨dst,op,ty,pos,af,none⟩::os) tm hp:=
 Hu rfl (((AVC.snd (o:=⟨dst,op,ty,pos,af,none⟩) tok h).q hn).toOw) h2
theorem K9(tok:TOk P tb){ev:Operand→D}{tt e:TypeId}{ti j:TyE}{x:Operand}{cs:List D}(ht:tb tt=some ti)(he:tb e=some j)(hx:(ev x).cells=some cs)(hl:cs.length=j.size)(AD:ti.ty=.slice e:=by exact rfl)(hz:Nat.ble 1 j.size=true:=by exact rfl)(hsm:Nat.ble j.size 16777216=true:=by exact rfl):
  po P ⟨dst,.buildSlice tt 1 #[(0,x)],ty,pos,af,gd⟩ ev hp (.gw hp.next j.size 1) (hp.var cs):=by
 have hz:=dM hz
 have hsm:=dM hsm
 have hu:=tok.slice ht AD
 refine .step fun B g w a hr xP=>?_
 have dK:=xP x (by simp[Op.operands])
 have qF:=dK.cells hx
 have Ci:(a.eval x).cells.size=j.size:=by rw[←eW,←qF.1.1,hl]
 obtain⟨zv,hzv,EH⟩:=tok.run_zero he w
 obtain⟨_,_,hzl,Jw⟩:=tok e j he
 have hs:=tok.run_sizeOf he w
 have AH:Instr.fill (fun i=>some (i*j.size,j.size)) ((Array.range (1*j.size)).map (zv.cells[·% zv.cells.size]!)) [(0,a.eval x)]=some (a.eval x).cells:=by
  have h0:gJ (fun i=>some (i*j.size,j.size)) ((Array.range (1*j.size)).map (zv.cells[·% zv.cells.size]!)).toList ([(0,a.eval x)].map fun p=>(p.1,p.2.cells.toList))=some (a.eval x).cells.toList:=by
   have JJ:((Array.range (1*j.size)).map (zv.cells[·% zv.cells.size]!)).toList.length=j.size:=by simp
   simp only[bN,cl,gJ,gb,dA,eW]
   rw[aV (by rw[Ci,Array.size_map,Array.size_range];omega)]
   rw[GB,pB,CV (by rw[JJ];omega),vo]
  have:=Bw h0
  simpa using this
 have cp:(Instr.buildSlice tt 1 #[(0,a.eval x)]).run P w=.ok (.slice (some ⟨w.heap.size,0,none⟩) 1 1) (w.alloc (.cells (a.eval x).cells e)):=by
  have hsm2:¬1*j.size > 2 ^ 24:=by omega
  have px:¬1*j.size=0:=by omega
  simp only[Instr.buildSlice,Sem.run_bind,run_underlying hu,Result.andThen_ok,hs,aV hsm2,aV px,hzv,Sem.run_pure]
  simp only[AH]
  rfl
 refine⟨.slice (some ⟨w.heap.size,0,none⟩) 1 1,g.var hp.next w.heap.size,w.alloc (.cells (a.eval x).cells e),?_,hr.newVar cs _ e (by rw[Ci,hl];exact bI _) (fun i u hu=>?_),bX.var hp g w cs _,?_,(Below.refl _ _).alloc hr.base _,fun p _ h=>.inl h⟩
 ·simp[execOp,cp]
 ·have uy:(a.eval x).cells.toList[i]? =some u:=by simpa using hu
  exact⟨fun _=>qF.2 u (cy uy),fun d hd=>qF.1.2 i d u hd uy⟩
 ·have:=aR.gw (hp:=hp.var cs) (g:=g.var hp.next w.heap.size) (w:=w.alloc (.cells (a.eval x).cells e)) hp.next j.size 1 1 (eR _) (bI _) (by decide) ⟨(a.eval x).cells,e,(0,0),by rw[show (g.var hp.next w.heap.size).μ hp.next=w.heap.size from aQ rfl];exact heap_alloc_new w _,by omega⟩
  rwa[show (g.var hp.next w.heap.size).μ hp.next=w.heap.size from aQ rfl] at this
theorem zE(w:World)(t ty e tt:TypeId)(i:TypeInfo)(ht:P.underlying t=some (.slice e))(hi:P.info? e=some i)
  (g Jd sCap:Nat) (cur:Array Value) (hg:w.heap[g]? =some (.cells cur tt (0,0)))
  (a:Addr) (m c:Nat) (news:List Value) (hl:news.length=m*i.size) (ry:∀j u,news[j]? =some u→w.cell? (a.add j)=some u) (h1:∀u∈news,u.oneCell'=true)
  (uz:Jd+m≤sCap) (D4:Jd*i.size+news.length≤cur.size):
  (Builtin.append_ #[t,t] ty #[.slice (some ⟨g,0,none⟩) Jd sCap,.slice (some a) m c]).run P w=
   .ok (.slice (some ⟨g,0,none⟩) (Jd+m) sCap) (w.setRow g (cur.toList.take (Jd*i.size)++news++cur.toList.drop (Jd*i.size+news.length)).toArray):=by
 have hf:=run_firstCells_some (P:=P) w i.size m a m c news hl ry
 have D0:=run_storeCells_at P g (Jd*i.size) tt news 0 cur w hg (by simpa using D4) h1
 simp only[mi] at D0
 simp[Builtin.append_,run_underlying ht,sizeOf,typeInfo,hi,Builtin.lenOf,uz,hf,Addr.add_lit,D0]
structure AppG(w:World)(g:Nat)(v':Value)(w':World)(b n z:Nat)(xs:List Value):Prop where
 size:w.heap.size≤w'.heap.size
 old:∀c,c<w.heap.size→c≠g→w'.heap[c]? =w.heap[c]?
 sz:SzB w w' g
 blk:b=g∨w.heap.size≤b
 rest:w'.os=w.os∧w'.tape=w.tape∧w'.output=w.output
 row:∃(cs:Array Value) (tt:TypeId) (cap:Nat),v'=.slice (some ⟨b,0,none⟩) n cap∧n≤cap∧cap≤maxLen∧w'.heap[b]? =some (.cells cs tt (0,0))∧cap*z≤cs.size∧cs.toList.take (n*z)=xs
theorem DT(tok:TOk P tb){t e:TypeId}{ti j:TyE}(ht:tb t=some ti)(AD:ti.ty=.slice e)(he:tb e=some j)(hz:0<j.size)(w:World)(ty tt:TypeId)(g n cap:Nat)(cur:Array Value)(hg:w.heap[g]? =some (.cells cur tt (0,0)))(pf:n≤cap)(oh:cap≤maxLen)(qF:cap*j.size≤cur.size)
  (a:Addr) (m c:Nat) (news:List Value) (hl:news.length=m*j.size) (ry:∀j u,news[j]? =some u→w.cell? (a.add j)=some u) (h1:∀u∈news,u.oneCell'=true) (hm:0<m) (hb:(n+m)*max 1 j.bytes≤140737488355328):
  ∃v' w' b,(Builtin.append_ #[t,t] ty #[.slice (some ⟨g,0,none⟩) n cap,.slice (some a) m c]).run P w=.ok v' w'∧AppG w g v' w' b (n+m) j.size (cur.toList.take (n*j.size)++news):=by
 obtain⟨f,zz,M5,Li,hf2,hf3,hf4,_⟩:=tok.inf he
 have hu:=tok.slice ht AD
 have Mx:g<w.heap.size:=(eI.1 hg).1
 have M4:n+m≤140737488355328:=da (Aj _ (by omega)) hb
 have Cc:(n+m)*f.bytes≤140737488355328:=da (ud _ (by rw[hf2];omega)) hb
 have hns:n*j.size≤cap*j.size:=c6 _ pf
 have zb:(cur.toList.take (n*j.size)).length=n*j.size:=by rw[ff,eW];omega
 by_cases uz:n+m≤cap
 ·have JF:(n+m)*j.size≤cap*j.size:=c6 _ uz
  rw[cO] at JF
  have hr:=zE (P:=P) w t ty e tt f hu M5 g n cap cur hg a m c news (by rw[Li];exact hl) ry h1 uz (by rw[Li,hl];omega)
  rw[Li] at hr
  have Cb:(cur.toList.take (n*j.size)++news++cur.toList.drop (n*j.size+news.length)).toArray.size=cur.size:=by
   simp only[np,fg,ff,gY,eW];omega
  refine⟨_,_,g,hr,by simp,fun c _ hc=>setRow_other w g c _ hc,SzB.row hg Cb,.inl rfl,⟨rfl,rfl,rfl⟩,_,tt,cap,rfl,uz,oh,setRow_heap w g cur _ tt (0,0) hg,by rw[Cb];exact qF,?_⟩
  have e1:(n+m)*j.size=(cur.toList.take (n*j.size)++news).length:=by rw[fg,zb,hl,cO]
  rw[e1]
  exact qH
 ·have holds:∀i u,(cur.toList.take (n*j.size))[i]? =some u→w.cell? ((⟨g,0,none⟩:Addr).add i)=some u:=fun i u hu=>by
   rw[eY] at hu
   split at hu
   ·rw[Addr.add_lit]
    simpa[World.cell?,hg] using hu
   ·cases hu
  have hr:=run_append_grow (P:=P) w t ty e f zz hu M5 hf3 ⟨g,0,none⟩ n cap (cur.toList.take (n*j.size)) (by rw[Li];exact zb) holds a m c news (by rw[Li];exact hl) ry (by omega) (by omega) (growslice_fits (by omega) Cc)
  have A8:=grownCap_ge w (n+m) cap e
  have hzs:zz.cells.size=j.size:=by
   have h4:=(tok e j he).2.2.1
   rw[←eW,hf4,h4]
  refine⟨_,_,w.heap.size,hr,by simp,fun c hc _=>heap_alloc_old w.drew _ hc,.same fun h=>heap_alloc_old w.drew _ h,.inr (bI _),⟨rfl,rfl,rfl⟩,_,e,_,rfl,A8,grownCap_le_maxLen w (n+m) cap e (by unfold maxLen;omega),heap_alloc_new w.drew _,?_,?_⟩
  ·simp only[CU,np,size_zeroCells,hzs,zb,hl,←cO]
   exact c6 _ (by omega)
  ·have e1:(n+m)*j.size=(cur.toList.take (n*j.size)++news).length:=by rw[fg,zb,hl,cO]
   simp only[Gt]
   rw[e1]
   exact qH
theorem appR_ok(tok:TOk P tb){ev:Operand→D}{t e:TypeId}{ti j:TyE}{x y:Operand}{k n ky:Nat}{ds news:List D}(ht:tb t=some ti)(he:tb e=some j)(hk:hp.vars.lookup k=some ds)(hy:hp.vars.lookup ky=some news)(hx:ev x=.gw k j.size n)(hyy:ev y=.gw ky j.size 1)(hl:ds.length=n*j.size)(JJ:news.length=j.size)(hb:(n+1)*max 1 j.bytes≤140737488355328)
  (AD:ti.ty=.slice e:=by exact rfl) (hz:Nat.ble 1 j.size=true:=by exact rfl):
  po P ⟨dst,.call ⟨.builtin .append,#[x,y],#[t,t]⟩,ty,pos,af,gd⟩ ev hp (.gw hp.next j.size (n+1)) (hp.re k (ds++news)):=by
 have hz:=dM hz
 refine .step fun B g w a hr xP=>?_
 ·have h1:=xP x (dm (by simp))
  have h2:=xP y (dm (by simp))
  rw[hx] at h1
  rw[hyy] at h2
  obtain⟨q1,q2,q3,cs,tt,q4,q5,q6⟩:=hr.var k ds hk
  obtain⟨y1,y2,y3,ys,yt,y4,y5,y6⟩:=hr.var ky news hy
  generalize hv1:a.eval x=v1 at h1
  generalize hv2:a.eval y=v2 at h2
  cases h1 with
  |gw _ _ _ cap AF pf oh hs=>
  cases h2 with
  |gw _ _ _ c hkn2 hnc2 hcm2 JC=>
  obtain⟨t4,tt',l',h3,h4⟩:=hs
  rw[q4] at h3
  injection h3 with h3
  injection h3 with h3 h5 h6
  subst h3;subst h5;subst h6
  have ry:∀i u,(ys.toList.take j.size)[i]? =some u→w.cell? ((⟨g.μ ky,0,none⟩:Addr).add i)=some u:=fun i u hu=>by
   rw[eY] at hu
   split at hu
   ·rw[Addr.add_lit]
    simpa[World.cell?,y4] using hu
   ·cases hu
  have hyone:∀u∈ys.toList.take j.size,u.oneCell'=true:=fun u hu=>by
   obtain⟨i,hi⟩:=vp hu
   rw[eY] at hi
   split at hi
   ·rename_i cg
    exact (y6 i u (by simpa using hi)).1 (by omega)
   ·cases hi
  obtain⟨v',w',b,cp,sI⟩:=DT tok ht AD he hz w ty tt (g.μ k) n cap cs q4 pf oh h4 ⟨g.μ ky,0,none⟩ 1 c (ys.toList.take j.size) (by rw[ff,eW];omega) ry hyone (by omega) hb
  obtain⟨cs2,tt2,cap2,v8,G0,pg,hh2,Pb,Bv⟩:=sI.row
  have hlen:(ds++news).length=(n+1)*j.size:=by rw[fg,hl,JJ,cO,fm]
  have GZ:(n+1)*j.size≤cap2*j.size:=c6 _ G0
  have hHR:HR B (hp.re k (ds++news)) (g.var hp.next b) w':=hr.re hk _ sI.size sI.old sI.sz sI.blk cs2 tt2 hh2 (by rw[hlen];omega) (fun i u hu=>by
   have hwin:i<(n+1)*j.size→(cs.toList.take (n*j.size)++ys.toList.take j.size)[i]? =some u:=fun hi=>by
    rw[←Bv,eY,aQ hi];simpa using hu
   have M3:(cs.toList.take (n*j.size)).length=n*j.size:=by rw[ff,eW];omega
   have look:∀hi:i<(n+1)*j.size,(i<n*j.size∧cs[i]? =some u)∨(n*j.size≤i∧i - n*j.size<j.size∧ys[i - n*j.size]? =some u):=fun hi=>by
    have h:=hwin hi
    rcases cc i (n*j.size) with cg|A8
    ·rw[vt (by omega),eY,aQ cg] at h
     exact .inl ⟨cg,by simpa using h⟩
    ·rw[vq (by omega),M3,eY] at h
     rw[cO,fm] at hi
     rw[ifp_] at h
     exact .inr ⟨A8,by omega,by simpa using h⟩
   refine⟨fun hi=>?_,fun d hd=>?_⟩
   ·rw[hlen] at hi
    rcases look hi with⟨h5,h6⟩|⟨h5,h6,h7⟩
    ·exact (q6 i u h6).1 (by omega)
    ·exact (y6 _ u h7).1 (by omega)
   ·have hi:i<(n+1)*j.size:=by rw[←hlen];exact (l8.1 hd).1
    rcases look hi with⟨h5,h6⟩|⟨h5,h6,h7⟩
    ·rw[vt (by omega)] at hd
     exact (q6 i u h6).2 d hd
    ·rw[vq (by omega),hl] at hd
     exact (y6 _ u h7).2 d hd)
  refine⟨v',g.var hp.next b,w',?_,hHR,bX.re hr hk _ sI.size sI.old sI.sz sI.blk,?_,⟨sI.rest.1,sI.rest.2.1,sI.rest.2.2,sI.size,fun c hc=>sI.old c (cm hc hr.base) (by omega)⟩,fun p h5 h6=>.inl h6⟩
  ·simp only[execOp,Array.map_map,Gs,bN,cl,resolve,invoke,builtin,hv1,hv2,Sem.run_bind]
   simp[resolve,invoke,builtin,hv1,hv2,cp]
  ·subst v8
   have xO:(g.var hp.next b).μ hp.next=b:=aQ rfl
   have:=aR.gw (hp:=hp.re k (ds++news)) (g:=g.var hp.next b) (w:=w') hp.next j.size (n+1) cap2 (eR _) G0 pg ⟨cs2,tt2,(0,0),by rw[xO];exact hh2,Pb⟩
   rwa[xO] at this
end
end
section
section
variable {P:Program} {tb:TypeId→Option TyE} {md:Md} {B:Nat} {hp hp':Hp} {g:Gh} {w w':World} {d:D} {v:Value}
theorem appN(tok:TOk P tb){ev:Operand→D}{dst:Option Tmp}{ty:TypeId}{pos:String}{af:Array Edge}{gd:Option (Nat×Bool)}{t e:TypeId}{ti j:TyE}{x y:Operand}{ky:Nat}{news:List D}(ht:tb t=some ti)(he:tb e=some j)(hy:hp.vars.lookup ky=some news)(hx:ev x=.e (.lit (.slice none 0 0)))(hyy:ev y=.gw ky j.size 1)(JJ:news.length=j.size)(hb:1*max 1 j.bytes≤140737488355328)
  (AD:ti.ty=.slice e:=by exact rfl) (hz:Nat.ble 1 j.size=true:=by exact rfl):
  n0 P tb md ⟨dst,.call ⟨.builtin .append,#[x,y],#[t,t]⟩,ty,pos,af,gd⟩ ev hp (.gw hp.next j.size 1) (hp.var news):=by
 have hz:=dM hz
 refine⟨.step fun B g w a hr xP=>?_,fun hq=>?_,fun _=>⟨gM _,fun j hj=>aC (by omega)⟩,fun h=>by cases h⟩
 ·have h1:=xP x (dm (by simp))
  have h2:=xP y (dm (by simp))
  rw[hx] at h1
  rw[hyy] at h2
  have h1:=h1.lit
  obtain⟨y1,y2,y3,ys,yt,y4,y5,y6⟩:=hr.var ky news hy
  generalize hv2:a.eval y=v2 at h2
  cases h2 with
  |gw _ _ _ c hkn2 hnc2 hcm2 JC=>
  obtain⟨f,zz,M5,Li,hf2,hf3,hf4,_⟩:=tok.inf he
  have hu:=tok.slice ht AD
  have hzs:zz.cells.size=j.size:=by
   have h4:=(tok e j he).2.2.1
   rw[←eW,hf4,h4]
  have Cc:f.bytes≤140737488355328:=by rw[hf2];omega
  have ry:∀i u,(ys.toList.take j.size)[i]? =some u→w.cell? ((⟨g.μ ky,0,none⟩:Addr).add i)=some u:=fun i u hu=>by
   rw[eY] at hu
   split at hu
   ·rw[Addr.add_lit]
    simpa[World.cell?,y4] using hu
   ·cases hu
  have Cb:(ys.toList.take j.size).length=j.size:=by rw[ff,eW];omega
  have cp:=run_append_nil (P:=P) w t ty e f zz hu M5 hf3 ⟨g.μ ky,0,none⟩ 1 c (ys.toList.take j.size) (by rw[Li,Cb];omega) ry (by omega) (by omega) (by omega)
  have A8:=grownCap_ge w 1 0 e
  have hold:∀c,c<w.heap.size→(w.drew.alloc (.cells ((ys.toList.take j.size).toArray++Builtin.zeroCells zz.cells (grownCap w 1 0 e - 1)) e)).heap[c]? =w.heap[c]? :=fun c hc=>heap_alloc_old w.drew _ hc
  have uI:=heap_alloc_new w.drew (.cells ((ys.toList.take j.size).toArray++Builtin.zeroCells zz.cells (grownCap w 1 0 e - 1)) e)
  have mo:=bX.addVar (w:=w) (w':=w.drew.alloc (.cells ((ys.toList.take j.size).toArray++Builtin.zeroCells zz.cells (grownCap w 1 0 e - 1)) e)) hp g news (b:=w.heap.size) (by simp) hold (bI _)
  have hsz:((ys.toList.take j.size).toArray++Builtin.zeroCells zz.cells (grownCap w 1 0 e - 1)).size=grownCap w 1 0 e*j.size:=by
   simp only[CU,np,size_zeroCells,hzs,Cb]
   have:grownCap w 1 0 e=1+(grownCap w 1 0 e - 1):=by omega
   rw[this,cO,fm]
   congr 2
   omega
  have h1z:1*j.size≤grownCap w 1 0 e*j.size:=c6 _ A8
  refine⟨.slice (some ⟨w.heap.size,0,none⟩) 1 (grownCap w 1 0 e),g.var hp.next w.heap.size,_,?_,hr.addVar news (w':=w.drew.alloc (.cells ((ys.toList.take j.size).toArray++Builtin.zeroCells zz.cells (grownCap w 1 0 e - 1)) e)) (by simp) hold (bI _) _ e uI (by rw[hsz,JJ];omega) (fun i u hu=>?_),mo,?_,⟨rfl,rfl,rfl,by simp,fun c hc=>hold c (cm hc hr.base)⟩,fun p h5 h6=>.inl h6⟩
  ·simp only[execOp,Array.map_map,Gs,bN,cl,resolve,invoke,builtin,h1,hv2,Sem.run_bind]
   simp[resolve,invoke,builtin,h1,hv2,cp]
  ·have JL:i<news.length→ys[i]? =some u:=fun hi=>by
    have AG:i<(ys.toList.take j.size).toArray.size:=by rw[np,Cb];omega
    rw[Ah AG,CT,eY,ifp_] at hu
    simpa using hu
   exact⟨fun hi=>(y6 i u (JL hi)).1 hi,fun d hd=>((y6 i u (JL (l8.1 hd).1)).2 d hd).mono mo⟩
  ·have xO:(g.var hp.next w.heap.size).μ hp.next=w.heap.size:=aQ rfl
   have:=aR.gw (hp:=hp.var news) (g:=g.var hp.next w.heap.size) (w:=w.drew.alloc (.cells ((ys.toList.take j.size).toArray++Builtin.zeroCells zz.cells (grownCap w 1 0 e - 1)) e)) hp.next j.size 1 (grownCap w 1 0 e) (eR _) A8 (grownCap_le_maxLen w 1 0 e (by decide)) ⟨_,e,(0,0),by rw[xO];exact uI,by rw[hsz];exact bI _⟩
   rwa[xO] at this
 ·exfalso
  cases md with
  |seq=>cases hq
  |any L=>
   have h1:((rk (.call ⟨.builtin .append,#[x,y],#[t,t]⟩)&&!Ol tb (.call ⟨.builtin .append,#[x,y],#[t,t]⟩))||xw tb L (.call ⟨.builtin .append,#[x,y],#[t,t]⟩))=true:=hq
   simp[rk,xw] at h1
def Fv(hp:Hp)(g:Gh):Addr→Prop:=fun p=>g.F p∧∀k ds,hp.vars.lookup k=some ds→g.μ k≠p.block
def AR(hp:Hp)(d d':D):Prop:=∀(B:Nat) (g:Gh) (w:World) (v:Value),HR B hp g w→aR hp g w d v→ma w (Fv hp g) d' v
theorem AR.data(h:d.ex.pure=true):AR hp d d.ex:=fun _ _ _ _ _ hd=>(hd.xport h).less fun _ hp=>hp.1
theorem AR.sl {k z n off:Nat}{F:List E}(hv:hp.vars.lookup k=some (dC F))(hz:0<z)(hl:off+n*z≤F.length):AR hp (.ow k off z n) (.e (.sl z n ((F.drop off).take (n*z)))):=by
 intro B g w v hr hd
 obtain⟨h1,h2,h3,cs,ty,h4,h5,h6⟩:=hr.var k _ hv
 rw[gC] at h5
 cases hd with
 |ow _ _ _ _ c hk pf oh=>
  refine .e _ _ (.sl z n _ (some ⟨g.μ k,off,none⟩) c (fun i=>cs.getD (off+i) undef) (by rw[ff,gY];omega) hz pf oh (fun _=>⟨_,rfl,(eI.1 h4).1⟩) (fun ad ha i e hi=>?_) (fun i e hi=>?_))
  ·injection ha with ha
   subst ha
   have AG:i<n*z:=by
    have:=(l8.1 hi).1
    rw[ff] at this;omega
   have MC:(⟨g.μ k,off,none⟩:Addr).add i=⟨g.μ k,off+i,none⟩:=by unfold Addr.add;split <;> simp_all
   refine⟨?_,fun hf=>hf.2 k _ hv (by rw[ie])⟩
   rw[MC]
   have cg:off+i<cs.size:=by omega
   simp[World.cell?,h4,dy,cg]
  ·have AG:i<n*z:=by
    have:=(l8.1 hi).1
    rw[ff] at this;omega
   have cg:off+i<cs.size:=by omega
   rw[eY,aQ AG,mN] at hi
   have hu:=h6 (off+i) (cs.getD (off+i) undef) (by simp[dy,cg])
   have:=hu.2 (.e e) (by unfold dC;rw[dZ,hi];rfl)
   cases this with
   |e _ _ h7=>exact h7.less fun p hp=>hp.1
def ARs(hp:Hp):List D→List D→Prop
 |[],[]=>True
 |d::ds,e::es=>AR hp d e∧ARs hp ds es
 |_,_=>False
theorem ARs.get:∀{ds es:List D},ARs hp ds es→ds.length=es.length∧∀(j:Nat) (e:D),es[j]? =some e→∃d,ds[j]? =some d∧AR hp d e
 |[],[],_=>⟨rfl,fun j e h=>by simp at h⟩
 |d::ds,e::es,⟨h1,h2⟩=>by
  obtain⟨h3,h4⟩:=ARs.get h2
  refine⟨by simp[h3],fun j x hx=>?_⟩
  cases j with
  |zero=>simp at hx;subst hx;exact⟨d,rfl,h1⟩
  |succ j=>exact h4 j x (by simpa using hx)
 |[],_::_,h=>h.elim
 |_::_,[],h=>h.elim
theorem AR.ag {ds es:List D}(h:ARs hp ds es):AR hp (.ag ds) (.ag es):=by
 intro B g w v hr hd
 obtain⟨h1,h2⟩:=h.get
 cases hd with
 |ag _ cs hl ho zd=>
  refine .ag es cs (by omega) ho fun j e u hj hu=>?_
  obtain⟨d,h3,h4⟩:=h2 j e hj
  exact h4 B g w u hr (zd j d u h3 hu)
def D.flatC:D→Bool
 | .e (.lit _)=>true
 |_=>false
def D.flat1:D→Bool
 | .ag ds=>ds.all D.flatC
 |d=>d.flatC
def D.flat:D→Bool
 | .tu ds=>ds.all D.flat1
 |d=>d.flat1
theorem Ie {F:Addr→Prop}(h:ma w F d v)(hf:d.flatC=true)(hp:Hp)(g:Gh)(w':World):aR hp g w' d v:=by
 cases h with
 |e x v h=>
  cases x with
  |lit u=>cases h with|lit _ ho=>exact .e _ _ (.lit _ ho)
  |_=>cases hf
 |_=>cases hf
theorem Ig {F:Addr→Prop}(h:ma w F d v)(hf:d.flat1=true)(hp:Hp)(g:Gh)(w':World):aR hp g w' d v:=by
 cases d with
 |ag ds=>
  cases h with
  |ag _ cs hl ho zd=>exact .ag ds cs hl ho fun j d u hj hu=>Ie (zd j d u hj hu) (eS.1 hf d (cy hj)) hp g w'
 |_=>exact Ie h hf hp g w'
theorem flat_to {F:Addr→Prop}(h:ma w F d v)(hf:d.flat=true)(hp:Hp)(g:Gh)(w':World):aR hp g w' d v:=by
 cases d with
 |tu ds=>
  cases h with
  |tu _ cs hl zd=>exact .tu ds cs hl fun j d u hj hu=>Ig (zd j d u hj hu) (eS.1 hf d (cy hj)) hp g w'
 |_=>exact Ig h hf hp g w'
theorem LX(hr:HR B hp g w):∀p:Addr,Fv hp g p→p.block<w.heap.size:=fun p h=>hr.fits p h.1
theorem Ac {f:FuncId}{ds ds':List D}{r:D}(hc:aB P f ds' r)(ha:ARs hp ds ds'){vs:Array Value}(hr:HR B hp g w)(hsz:vs.size=ds.length)(dK:∀(j:Nat) (d:D) (u:Value),ds[j]? =some d→vs[j]? =some u→aR hp g w d u):
  Calls P f vs w fun e w'=>∃v,e=.returned v∧uM w.heap.size (Fv hp g) w' r v∧Below w.heap.size w w':=by
 obtain⟨h1,h2⟩:=ha.get
 refine hc.2 w _ vs (LX hr) (by omega) fun j e u hj hu=>?_
 obtain⟨d,h3,h4⟩:=h2 j e hj
 exact h4 B g w u hr (dK j d u h3 hu)
theorem HC.frz {f:FuncId}{ds ds':List D}{r:D}(hc:aB P f ds' r)(ha:ARs hp ds ds')(hf:r.flat=true):HC P f ds hp r hp:=by
 refine⟨hc.1,fun B g w vs hr hsz dK=>(Ac hc ha hr hsz dK).mono ?_⟩
 rintro e w' ⟨v,rfl,mQ,hb⟩
 have OE:ma w' (Fv hp g) r v:=by
  unfold uM at mQ
  split at mQ
  ·cases hf
  ·exact mQ
 exact⟨v,g,rfl,hr.keep hb.size hb.block,bX.keep hp g hb.size hb.block,flat_to OE hf hp g w',hb.mono hr.base,fun _ _ h=>h⟩
def E.isLit:E→Bool
 | .lit _=>true
 |_=>false
theorem HC.adopt {f:FuncId}{ds ds':List D}{e z n:Nat}{xs:List E}(hc:aB P f ds' (.own e z n xs))(ha:ARs hp ds ds')(hn:0<n)(hx:xs.all E.isLit=true):HC P f ds hp (.gw hp.next z n) (hp.var (dC xs)):=by
 refine⟨hc.1,fun B g w vs hr hsz dK=>(Ac hc ha hr hsz dK).mono ?_⟩
 rintro en w' ⟨v,rfl,⟨hz,⟨us,ho⟩,mQ⟩,hb⟩
 rcases ho.2 with⟨rfl,rfl⟩|⟨b,cap,cur,rfl,hB,hh,pf,oh,qF,M3⟩
 ·omega
 have zb:xs.length=n*z:=by cases mQ with|sl _ _ _ _ _ _ hl=>exact hl
 have Ld:=ho.1
 have hns:n*z≤cap*z:=c6 _ pf
 have mo:=bX.addVar hp g (dC xs) hb.size hb.block hB
 have xO:(g.var hp.next b).μ hp.next=b:=aQ rfl
 have cells:∀(i:Nat) (u:Value),cur[i]? =some u→∀x,xs[i]? =some x→∃y,x=.lit y∧u=y∧y.oneCell'=true:=fun i u hu x hxi=>by
  have hlit:x.isLit=true:=eS.1 hx x (cy hxi)
  cases mQ with
  |sl _ _ _ _ _ us2 _ _ _ _ hA DE zd=>
   obtain⟨h5,_⟩:=DE _ rfl i x hxi
   have h6:w'.cell? ((⟨b,0,none⟩:Addr).add i)=cur[i]? :=by rw[Addr.add_lit];simp[World.cell?,hh]
   rw[h6,hu] at h5
   injection h5 with h5
   have h7:=zd i x hxi
   rw[←h5] at h7
   cases x with
   |lit y=>cases h7 with|lit _ ho=>exact⟨_,rfl,rfl,ho⟩
   |_=>cases hlit
 refine⟨_,g.var hp.next b,rfl,hr.addVar (dC xs) hb.size hb.block hB cur e hh (by rw[gC,zb,qF];exact hns) (fun i u hu=>⟨fun hi=>?_,fun d hd=>?_⟩),mo,?_,hb.mono hr.base,fun p _ h=>.inl h⟩
 ·rw[gC] at hi
  obtain⟨y,_,rfl,h⟩:=cells i u hu xs[i] (fI hi)
  exact h
 ·unfold dC at hd
  rw[dZ] at hd
  obtain⟨x,DZ,rfl⟩:=qG.1 hd
  obtain⟨y,rfl,rfl,h⟩:=cells i u hu x DZ
  exact .e _ _ (.lit _ h)
 ·have:=aR.gw (hp:=hp.var (dC xs)) (g:=g.var hp.next b) (w:=w') hp.next z n cap (eR _) pf oh ⟨cur,e,(0,0),by rw[xO];exact hh,by omega⟩
  rwa[xO] at this
end
end
section
section
variable {P:Program} {tb:TypeId→Option TyE} {md:Md} {hp hp':Hp} {d:D} {dst:Option Tmp} {ty:TypeId} {pos:String} {af:Array Edge} {gd:Option (Nat×Bool)} {ev:Operand→D}
theorem Mf {x:Operand}{f:FuncId}{aS:List Operand}{ts:Array TypeId}{ds:List D}(xr:ev x=.e (.lit (.func (.func f) #[] #[])))(hc:HC P f ds hp d hp')(hd:aS.map ev=ds):po P ⟨dst,.call ⟨.value x,aS.toArray,ts⟩,ty,pos,af,gd⟩ ev hp d hp':=by
 intro B g w a Kn Q hr hx AF
 subst hd
 obtain⟨⟨fn,hf,hn,AK⟩,yx⟩:=hc
 have hv:=hx x (by simp[Op.operands,Call.operands])
 rw[xr] at hv
 have hv:=hv.lit
 have Ci:=yx B g w (aS.map a.eval).toArray hr (by simp) (fun j d u hd hu=>by
  rw[dZ] at hd
  obtain⟨y,hy,rfl⟩:=qG.1 hd
  have uy:(aS.map a.eval)[j]? =some u:=by simpa using hu
  rw[dZ,hy] at uy
  injection uy with uy
  subst uy
  exact hx y (dm (by simpa using cy hy)))
 refine Ct (R:=fun v w'=>∃g',HR B hp' g' w'∧bX hp g w hp' g' w'∧aR hp' g' w' d v∧Below B w w'∧∀p:Addr,p.block<B→g.F p→g'.F p) ?_ (Ci.mono ?_) ?_
 ·have hn' : fn.name ≠ "runtime.NumGoroutine" := by simpa using hn
  have qS:¬fn.body=none:=fun e=>by rw[e] at AK;cases AK
  have hcf:(callFunc f (aS.map a.eval).toArray).run P w=.ok (.enter f (aS.map a.eval).toArray) w:=by
   simp[callFunc,hf,hn',qS]
  rw[←hcf]
  simp[execOp,resolve,invoke,Deferred.ofValue,hv]
 ·rintro e w' ⟨v,g',rfl,h1⟩
  exact⟨v,rfl,g',h1⟩
 ·rintro v w' ⟨g',h1,h2,h3,h4,h5⟩
  exact AF v g' w' h1 h2 h3 h4 h5
theorem opHF {x:Operand}{f:FuncId}{ks:List Nat}{aS:List Operand}{ts:Array TypeId}{ds:List D}(xr:ev x=.fn f ks)(hc:HC P f ds hp d hp')(hd:aS.map ev++ks.map (fun k=>D.pt k 0)=ds):po P ⟨dst,.call ⟨.value x,aS.toArray,ts⟩,ty,pos,af,gd⟩ ev hp d hp':=by
 intro B g w a Kn Q hr hx AF
 subst hd
 obtain⟨⟨fn,hf,hn,AK⟩,yx⟩:=hc
 have hv:=hx x (by simp[Op.operands,Call.operands])
 rw[xr] at hv
 generalize hu0:a.eval x=u0 at hv
 cases hv with
 |fn _ _ Mv=>
 have Ci:=yx B g w (aS.map a.eval++ks.map fun k=>Value.pointer (some ⟨g.μ k,0,none⟩)).toArray hr (by simp) (fun j d u hd hu=>by
  have uy:(aS.map a.eval++ks.map fun k=>Value.pointer (some ⟨g.μ k,0,none⟩))[j]? =some u:=by simpa using hu
  rcases cc j aS.length with hj|hj
  ·rw[vt (by simpa using hj),dZ] at hd uy
   obtain⟨y,hy,rfl⟩:=qG.1 hd
   rw[hy] at uy
   injection uy with uy
   subst uy
   exact hx y (dm (by simpa using cy hy))
  ·rw[vq (by simpa using hj),dZ] at hd uy
   obtain⟨k,hk,rfl⟩:=qG.1 hd
   simp only[bH] at hk uy
   rw[hk] at uy
   injection uy with uy
   subst uy
   exact .pt k 0 (Mv k (cy hk)))
 refine Ct (R:=fun v w'=>∃g',HR B hp' g' w'∧bX hp g w hp' g' w'∧aR hp' g' w' d v∧Below B w w'∧∀p:Addr,p.block<B→g.F p→g'.F p) ?_ (Ci.mono ?_) ?_
 ·have hn' : fn.name ≠ "runtime.NumGoroutine" := by simpa using hn
  have qS:¬fn.body=none:=fun e=>by rw[e] at AK;cases AK
  have hcf:(callFunc f (aS.map a.eval++ks.map fun k=>Value.pointer (some ⟨g.μ k,0,none⟩)).toArray).run P w=.ok (.enter f (aS.map a.eval++ks.map fun k=>Value.pointer (some ⟨g.μ k,0,none⟩)).toArray) w:=by
   simp[callFunc,hf,hn',qS]
  have se:(aS.map a.eval++ks.map fun k=>Value.pointer (some ⟨g.μ k,0,none⟩)).toArray=aS.toArray.map a.eval++(ks.map fun k=>Value.pointer (some ⟨g.μ k,0,none⟩)).toArray:=by apply lq.1;simp
  rw[←hcf,se]
  simp[execOp,resolve,invoke,Deferred.ofValue,hu0]
 ·rintro e w' ⟨v,g',rfl,h1⟩
  exact⟨v,rfl,g',h1⟩
 ·rintro v w' ⟨g',h1,h2,h3,h4,h5⟩
  exact AF v g' w' h1 h2 h3 h4 h5
theorem sndOf {c:Call}{x:Operand}(DE:c.callee=.value x)(h:po P ⟨dst,.call c,ty,pos,af,gd⟩ ev hp d hp')(O4:hvB tb c=true∨Fr hp hp')(hn:md.nc tb (.call c)=true):n0 P tb md ⟨dst,.call c,ty,pos,af,gd⟩ ev hp d hp':=by
 refine⟨h,fun hq=>?_,fun hv=>?_,fun h=>by cases h⟩
 ·exfalso
  cases md with
  |seq=>cases hq
  |any L=>
   have h1:((rk (.call c)&&!Ol tb (.call c))||xw tb L (.call c))=true:=hq
   have h2:(!inL L (.call c))=true:=hn
   rw[xC] at h2
   have h2:=B5 (tb:=tb) h2
   rw[h2,Bool.or_false] at h1
   simp[rk,DE] at h1
 ·rcases O4 with h1|h1
  ·have h2:(hvB tb c||cpB tb c)=false:=Md.vr_C hn hv
   rw[h1] at h2;cases h2
  ·exact h1
theorem sndF {c:Call}{x:Operand}(DE:c.callee=.value x)(h:po P ⟨dst,.call c,ty,pos,af,gd⟩ ev hp d hp')(hv:hvB tb c=true)(O4:Fr hp hp'):n0 P tb md ⟨dst,.call c,ty,pos,af,gd⟩ ev hp d hp':=by
 refine⟨h,fun hq=>?_,fun _=>O4,fun h=>by cases h⟩
 exfalso
 cases md with
 |seq=>cases hq
 |any L=>
  have h1:((rk (.call c)&&!Ol tb (.call c))||((match c.callee with| .value (.func f)=>L.elem f|_=>false)&&!hvB tb c))=true:=hq
  rw[hv] at h1
  simp[rk,DE] at h1
theorem sHCf {x:Operand}{f:FuncId}{aS:List Operand}{ts:Array TypeId}{ds:List D}(hc:HC P f ds hp d hp')(hd:aS.map ev=ds)(O4:Fr hp hp')(xr:ev x=.e (.lit (.func (.func f) #[] #[])):=by exact rfl)(hv:hvB tb ⟨.value x,aS.toArray,ts⟩=true:=by exact rfl):
  n0 P tb md ⟨dst,.call ⟨.value x,aS.toArray,ts⟩,ty,pos,af,gd⟩ ev hp d hp':=sndF rfl (Mf xr hc hd) hv O4
theorem sHC {x:Operand}{f:FuncId}{aS:List Operand}{ts:Array TypeId}{ds:List D}(hc:HC P f ds hp d hp')(hd:aS.map ev=ds)(O4:hvB tb ⟨.value x,aS.toArray,ts⟩=true∨Fr hp hp')(xr:ev x=.e (.lit (.func (.func f) #[] #[])):=by exact rfl)(hn:md.nc tb (.call ⟨.value x,aS.toArray,ts⟩)=true:=by exact rfl):
  n0 P tb md ⟨dst,.call ⟨.value x,aS.toArray,ts⟩,ty,pos,af,gd⟩ ev hp d hp':=sndOf rfl (Mf xr hc hd) O4 hn
theorem sHF {x:Operand}{f:FuncId}{ks:List Nat}{aS:List Operand}{ts:Array TypeId}{ds:List D}(hc:HC P f ds hp d hp')(hd:aS.map ev++ks.map (fun k=>D.pt k 0)=ds)(xr:ev x=.fn f ks:=by exact rfl)(O4:hvB tb ⟨.value x,aS.toArray,ts⟩=true:=by exact rfl)(hn:md.nc tb (.call ⟨.value x,aS.toArray,ts⟩)=true:=by exact rfl):
  n0 P tb md ⟨dst,.call ⟨.value x,aS.toArray,ts⟩,ty,pos,af,gd⟩ ev hp d hp':=sndOf rfl (opHF xr hc hd) (.inl O4) hn
end
structure Pt(F:List D)(o:Nat)(bs:List D)(F':List D→List D):Prop where
 le:o+bs.length≤F.length
 g:(F.drop o).take bs.length=bs
 p:∀ys:List D,ys.length=bs.length→F.take o++ys++F.drop (o+bs.length)=F' ys
theorem Pt.of {F bs:List D}{o:Nat}{F':List D→List D}(A C:List D)(hA:A.length=o)(hF:F=A++bs++C)(hp:∀y,F' y=A++y++C):Pt F o bs F':=by
 subst hA hF
 refine⟨by simp only[fg];omega,?_,fun y hy=>?_⟩
 ·rw[gr,sK,qH]
 ·rw[hp,gr A bs C,qH,←mM,sK,sK]
section
variable {P:Program} {tb:TypeId→Option TyE} {dr:Bool} {ty:TypeId} {ev:Operand→D} {hp:Hp} {k o:Nat} {F bs:List D} {F':List D→List D} {t:TypeId} {i:TyE} {x y:Operand} {d:D}
theorem T_ldP(L:Pt F o bs F')(hv:hp.vars.lookup k=some F)(hk:k<hp.next)(ht:tb t=some i)(hz:bs.length=i.size)(hg:i.ty.agg=true:=by exact rfl)(hx:ev x=.pt k o:=by exact rfl):AVC P tb dr (.load t x) ty ev hp (Kq (.ag bs) hp):=by
 rw[sk,hx,oE,ht,hv]
 simp only[hg]
 refine⟨hk,by rw[←hz];exact L.le,?_⟩
 rw[←hz,L.g]
 exact Kq.here _ _
theorem T_ld1(L:Pt F o [d] F')(hv:hp.vars.lookup k=some F)(hk:k<hp.next)(ht:tb t=some i)(hg:i.ty.agg=false:=by exact rfl)(hx:ev x=.pt k o:=by exact rfl):AVC P tb dr (.load t x) ty ev hp (Kq d hp):=by
 rw[sk,hx,oE,ht,hv]
 simp only[hg]
 refine⟨hk,d,?_,Kq.here _ _⟩
 have h:=L.g
 have hle:=L.le
 have:((F.drop o).take 1)[0]? =some d:=by rw[show (1:Nat)=[d].length from rfl,h];rfl
 rw[eY,ifp_,mN,mi] at this
 exact this
theorem Qk {ys F2:List D}{hp':Hp}(L:Pt F o bs F')(hv:hp.vars.lookup k=some F)(hyc:(ev y).cells=some ys)(ht:tb t=some i)(hz:bs.length=i.size)(hl:ys.length=bs.length)(h2:F' ys=F2)(hx:ev x=.pt k o:=by exact rfl)(he:hp.set k F2=hp':=by exact rfl):AVC P tb dr (.store t x y) ty ev hp (Kq .top hp'):=by
 subst he h2
 rw[CF,hx,zB,ht,hv,hyc]
 simp only
 refine⟨by omega,by rw[←hz];exact L.le,?_⟩
 rw[hl,L.p ys hl]
 exact Kq.here _ _
end
end
def D.ren2(ρ:Nat→Nat):D→D
 | .tu ds=>.tu (ds.map (D.ren ρ))
 |d=>d.ren ρ
section
inductive FzC (k z n n2:Nat) (F:List E):D→D→Prop
 |hit:FzC k z n n2 F (.ow k 0 z n) (.e (.sl z n2 F))
 |hitG:FzC k z n n2 F (.gw k z n) (.e (.sl z n2 F))
 |keep (d:D):FzC k z n n2 F d d
 |drop (d:D):FzC k z n n2 F d .top
inductive FzL (k z n n2:Nat) (F:List E):List D→List D→Prop
 |nil:FzL k z n n2 F [] []
 |cons {a b:D} {l m:List D} (h:FzC k z n n2 F a b) (hl:FzL k z n n2 F l m):FzL k z n n2 F (a::l) (b::m)
inductive FzD (k z n n2:Nat) (F:List E):D→D→Prop
 |c {a b:D} (h:FzC k z n n2 F a b):FzD k z n n2 F a b
 |ag {l m:List D} (h:FzL k z n n2 F l m):FzD k z n n2 F (.ag l) (.ag m)
theorem FzL.get {k z n n2:Nat}{F:List E}{l m:List D}(h:FzL k z n n2 F l m):l.length=m.length∧∀(i:Nat) (b:D),m[i]? =some b→∃a,l[i]? =some a∧FzC k z n n2 F a b:=by
 induction h with
 |nil=>exact⟨rfl,fun i b h=>by simp at h⟩
 |cons h hl ih=>
  refine⟨by simp[ih.1],fun i b hb=>?_⟩
  cases i with
  |zero=>simp at hb;subst hb;exact⟨_,rfl,h⟩
  |succ i=>exact ih.2 i b (by simpa using hb)
theorem FzL.same {k z n n2:Nat}{F:List E}:∀l:List D,FzL k z n n2 F l l
 |[]=>.nil
 |a::l=>.cons (.keep a) (FzL.same l)
section
variable {B k z n N:Nat} {F:List E} {vs oy:List (Nat×List D)} {lv:List (Nat×Nat×Nat×TypeId)} {g:Gh} {w:World} {d d':D} {v:Value}
def Gh.less(g:Gh)(k:Nat):Gh:=⟨g.μ,g.τ,fun p=>g.F p∧p.block≠g.μ k⟩
theorem FzC.rep(hr:HR B ⟨vs,lv,N⟩ g w)(hv:vs.lookup k=some (dC F))(hF:F.length=n*z)(hz:0<z)(mo:bX ⟨vs,lv,N⟩ g w ⟨oy,lv,N⟩ (g.less k) w)(h:FzC k z n n F d d')(hd:aR ⟨vs,lv,N⟩ g w d v):aR ⟨oy,lv,N⟩ (g.less k) w d' v:=by
 have key:∀v,aR ⟨vs,lv,N⟩ g w (.ow k 0 z n) v→aR ⟨oy,lv,N⟩ (g.less k) w (.e (.sl z n F)) v:=by
  intro u dK
  obtain⟨h1,h2,h3,cs,ty,h4,h5,h6⟩:=hr.var k _ hv
  cases dK with
  |ow _ _ _ _ c hk pf oh=>
   have qF:F.length≤cs.size:=by rw[gC] at h5;exact h5
   refine .e _ _ (.sl z n F (some ⟨g.μ k,0,none⟩) c (fun i=>cs.getD i undef) hF hz pf oh (fun _=>⟨_,rfl,(eI.1 h4).1⟩) (fun ad ha i e hi=>?_) (fun i e hi=>?_))
   ·injection ha with ha
    subst ha
    have cg:i<cs.size:=cm (l8.1 hi).1 qF
    refine⟨?_,fun hf=>hf.2 (by rw[ie])⟩
    rw[Addr.add_lit]
    simp[World.cell?,h4,dy,cg]
   ·have cg:i<cs.size:=cm (l8.1 hi).1 qF
    have hu:=h6 i (cs.getD i undef) (by simp[dy,cg])
    have:=hu.2 (.e e) (by unfold dC;rw[dZ,hi];rfl)
    cases this with
    |e _ _ h7=>exact dE.less h7 fun p hp=>hp.1
 cases h with
 |hit=>exact key v hd
 |hitG=>exact key v hd.toOw
 |keep=>exact hd.mono mo
 |drop=>exact .top v
theorem FzD.rep(hr:HR B ⟨vs,lv,N⟩ g w)(hv:vs.lookup k=some (dC F))(hF:F.length=n*z)(hz:0<z)(mo:bX ⟨vs,lv,N⟩ g w ⟨oy,lv,N⟩ (g.less k) w)(h:FzD k z n n F d d')(hd:aR ⟨vs,lv,N⟩ g w d v):aR ⟨oy,lv,N⟩ (g.less k) w d' v:=by
 cases h with
 |c h=>exact h.rep hr hv hF hz mo hd
 |ag h=>
  obtain⟨h1,h2⟩:=h.get
  cases hd with
  |ag _ cs hl ho zd=>
   refine .ag _ cs (by omega) ho fun j b u hj hu=>?_
   obtain⟨a,h3,h4⟩:=h2 j b hj
   exact h4.rep hr hv hF hz mo (zd j a u h3 hu)
theorem xl {α:Type}{l:List (Nat×α)}{k:Nat}{y:α}(h:l.lookup k=some y):(k,y)∈l:=by
 induction l with
 |nil=>simp at h
 |cons p l ih=>
  obtain⟨a,b⟩:=p
  by_cases hk:k=a
  ·subst hk
   rw[ak] at h
   injection h with h
   subst h
   exact mL ..
  ·rw[aC hk] at h
   exact ln _ (ih h)
theorem WkS.frzD {tm ts:List (Nat×D)}{us:List (Nat×List D)}(hF:F.length=n*z)(hz:0<z)(hv:vs.lookup k=some (dC F))(Le:∀p∈ts,∃d0,tm.lookup p.1=some d0∧FzD k z n n F d0 p.2)(Mo:∀p∈us,p.1≠k∧∃oi,vs.lookup p.1=some oi∧FzL k z n n F oi p.2):
  WkS tm ⟨vs,lv,N⟩ (ts++tm) ⟨us++vs.filter fun p=>!([k]:List Nat).contains p.1,lv,N⟩:=by
 intro B g w ρ hr iK
 obtain⟨h1,h2,h3,cs,ty,h4,h5,h6⟩:=hr.var k _ hv
 have look:∀{j:Nat} {ds:List D},(us++vs.filter fun p=>!([k]:List Nat).contains p.1).lookup j=some ds→j≠k∧∃oi,vs.lookup j=some oi∧FzL k z n n F oi ds:=by
  intro j ds h
  rcases pK h with h|h
  ·exact Mo _ (xl h)
  ·obtain⟨a,b⟩:=kH h
   exact⟨by simpa using a,ds,b,FzL.same ds⟩
 have px:∀{j:Nat} {ds:List D},j≠k→vs.lookup j=some ds→g.μ j≠g.μ k:=fun hj hl e=>hj (hr.inj _ _ _ _ hl hv e)
 have mo:bX ⟨vs,lv,N⟩ g w ⟨us++vs.filter fun p=>!([k]:List Nat).contains p.1,lv,N⟩ (g.less k) w:=by
  refine⟨bI _,fun _ _ _=>rfl,fun _ _ h=>h.1,bI _,fun _ _=>rfl,fun _ _ m _ h=>⟨m,h,bI _,fun _=>rfl⟩,fun b hb hf=>⟨rfl,fun p hp hq=>⟨hq,?_⟩,fun j ds hj=>?_,hf.2⟩,fun _=>.same fun _=>rfl⟩
  ·rw[hp];exact fun e=>hf.1 k _ hv e.symm
  ·obtain⟨_,oi,h,_⟩:=look hj
   exact hf.1 j oi h
 refine⟨g.less k,⟨fun j ds hj=>?_,fun j j' ds ds' hj GX he=>?_,fun id m e hi=>?_,hr.tinj,hr.base,fun p hp=>hr.fits p hp.1⟩,mo,fun t' d hd=>?_,fun p hp hq=>⟨hq,?_⟩⟩
 ·obtain⟨a1,oi,a2,a3⟩:=look hj
  obtain⟨a4,a5⟩:=a3.get
  obtain⟨b1,b2,b3,t4,IV,b4,b5,b6⟩:=hr.var j oi a2
  refine⟨b1,b2,fun p hp=>⟨b3 p hp,by rw[hp];exact px a1 a2⟩,t4,IV,b4,by omega,fun i u hu=>⟨fun hi=>(b6 i u hu).1 (by omega),fun d hd=>?_⟩⟩
  obtain⟨d0,c1,c2⟩:=a5 i d hd
  exact c2.rep hr hv hF hz mo ((b6 i u hu).2 d0 c1)
 ·obtain⟨_,_,a2,_⟩:=look hj
  obtain⟨_,_,a2',_⟩:=look GX
  exact hr.inj j j' _ _ a2 a2' he
 ·obtain⟨b1,uO,b2,b3,b4⟩:=hr.tok id m e hi
  refine⟨b1,uO,b2,b3,fun b hb=>⟨fun p hp hq=>⟨(b4 b hb).1 p hp hq,by rw[hp];exact fun e=>(b4 b hb).2 k _ hv e.symm⟩,fun j ds hj=>?_⟩⟩
  obtain⟨_,_,a2,_⟩:=look hj
  exact (b4 b hb).2 j _ a2
 ·rcases pK hd with h|h
  ·obtain⟨d0,c1,c2⟩:=Le _ (xl h)
   exact c2.rep hr hv hF hz mo (iK _ _ c1)
  ·exact (iK t' d h).mono mo
 ·intro e
  omega
end
theorem AR.slW {hp:Hp}{k n:Nat}{α:Type}{c:Cd α}{l:List α}(hv:hp.vars.lookup k=some (dC ((cW c).f l)):=by exact rfl)(hn:n=l.length:=by exact rfl)(hz:Nat.ble 1 c.sz=true:=by exact rfl):AR hp (.ow k 0 c.sz n) (dL c l):=by
 subst hn
 have h:AR hp (.ow k 0 c.sz l.length) (.e (.sl c.sz l.length (List.take (l.length*c.sz) (List.drop 0 (l.flatMap c.f))))):=AR.sl (off:=0) (n:=l.length) hv (dM hz) (by rw[dA];exact Nat.le_of_eq (io c.f c.h l).symm)
 rwa[nZ,kO (Nat.le_of_eq (io c.f c.h l))] at h
theorem AR.gwW {hp:Hp}{k n:Nat}{α:Type}{c:Cd α}{l:List α}(hv:hp.vars.lookup k=some (dC ((cW c).f l)):=by exact rfl)(hn:n=l.length:=by exact rfl)(hz:Nat.ble 1 c.sz=true:=by exact rfl):AR hp (.gw k c.sz n) (dL c l):=fun B g w v hr hd=>AR.slW hv hn hz B g w v hr hd.toOw
theorem AR.le {hp:Hp}{d d2:D}(h:d.ex.le d2)(hp1:d.ex.pure=true):AR hp d d2:=fun B g w v hr hd=>(AR.data hp1 B g w v hr hd).le h
def D.refC:D→Bool
 | .e (.lit _)=>true
 | .pt _ _=>true
 | .ow _ _ _ _=>true
 | .gw _ _ _=>true
 |_=>false
def D.ref1:D→Bool
 | .ag ds=>ds.all D.refC
 |d=>d.refC
def D.ref2:D→Bool
 | .tu ds=>ds.all D.ref1
 |d=>d.ref1
section
variable {P:Program} {hp cf:Hp} {g g2:Gh} {w:World} {ρ:Nat→Nat} {d:D} {v:Value}
theorem s4(h:aR hp g w d v)(hn:d.refC=true)(sR:∀i,i<hp.next→ρ i<cf.next)(hμ:∀i,i<hp.next→g2.μ (ρ i)=g.μ i):aR cf g2 w (d.renC ρ) v:=by
 cases h with
 |e x v h=>
  cases x with
  |lit u=>cases h with|lit _ ho=>exact .e _ _ (.lit _ ho)
  |_=>cases hn
 |pt k off hk=>rw[←hμ k hk];exact .pt _ off (sR k hk)
 |ow k off z n c hk h1 h2=>rw[←hμ k hk];exact .ow _ off z n c (sR k hk) h1 h2
 |gw k z n c hk h1 h2 hs=>rw[←hμ k hk];exact .gw _ z n c (sR k hk) h1 h2 (by rw[hμ k hk];exact hs)
 |_=>cases hn
theorem s5(h:aR hp g w d v)(hn:d.ref1=true)(sR:∀i,i<hp.next→ρ i<cf.next)(hμ:∀i,i<hp.next→g2.μ (ρ i)=g.μ i):aR cf g2 w (d.ren ρ) v:=by
 cases d with
 |ag ds=>
  cases h with
  |ag _ cs hl ho zd=>
   refine .ag _ cs (by simpa using hl) ho fun j d u hj hu=>?_
   rw[dZ] at hj
   obtain⟨d0,h4,rfl⟩:=qG.1 hj
   exact s4 (zd j d0 u h4 hu) (eS.1 hn d0 (cy h4)) sR hμ
 |e x=>exact s4 h hn sR hμ
 |pt k o=>exact s4 h hn sR hμ
 |ow k o z n=>exact s4 h hn sR hμ
 |gw k z n=>exact s4 h hn sR hμ
 |_=>cases hn
theorem NH(h:aR hp g w d v)(hn:d.ref2=true)(sR:∀i,i<hp.next→ρ i<cf.next)(hμ:∀i,i<hp.next→g2.μ (ρ i)=g.μ i):aR cf g2 w (d.ren2 ρ) v:=by
 cases d with
 |tu ds=>
  cases h with
  |tu _ cs hl zd=>
   refine .tu _ cs (by simpa using hl) fun j d u hj hu=>?_
   rw[dZ] at hj
   obtain⟨d0,h4,rfl⟩:=qG.1 hj
   exact s5 (zd j d0 u h4 hu) (eS.1 hn d0 (cy h4)) sR hμ
 |ag ds=>exact s5 h hn sR hμ
 |e x=>exact s5 h hn sR hμ
 |pt k o=>exact s5 h hn sR hμ
 |ow k o z n=>exact s5 h hn sR hμ
 |gw k z n=>exact s5 h hn sR hμ
 |_=>cases hn
end
theorem HC.frame0R {P:Program}{f:FuncId}{ds dsE:List D}{r:D}{pj vs:List (Nat×List D)}{lv:List (Nat×Nat×Nat×TypeId)}{n' N:Nat}(h:HC P f dsE ⟨[],[],0⟩ r ⟨pj,[],n'⟩)
  (ha:ARs ⟨vs,lv,N⟩ ds dsE) (hr:r.ref2=true) (hvo:∀k cs,pj.lookup k=some cs→cs.all D.refC=true):
  HC P f ds ⟨vs,lv,N⟩ (r.ren2 (fun i=>N+i)) ⟨pj.map (fun p=>(N+p.1,p.2.map (D.renC fun i=>N+i)))++vs,lv,N+n'⟩:=by
 refine⟨h.1,fun B g w us hR hsz dK=>?_⟩
 obtain⟨EI,A7⟩:=ha.get
 have hS0:HR w.heap.size ⟨[],[],0⟩ ⟨fun _=>0,fun _=>default,Fv ⟨vs,lv,N⟩ g⟩ w:=
  ⟨fun k ds h=>by simp at h,fun k k' a b h=>by simp at h,fun id n e h=>by simp at h,fun id zU a b c h=>by simp at h,bI _,LX hR⟩
 refine (h.2 w.heap.size _ w us hS0 (by omega) (fun j e u he hu=>?_)).mono ?_
 ·obtain⟨d,h3,h4⟩:=A7 j e he
  exact h4 B g w u hR (dK j d u h3 hu)
 rintro en w' ⟨v,g',rfl,Ic,hM,mQ,hB,hF⟩
 let g2:Gh:=⟨fun i=>if i<N then g.μ i else g'.μ (i - N),g.τ,fun p=>g.F p∨∃k cs,pj.lookup k=some cs∧p.block=g'.μ k⟩
 have hμo:∀i,i<N→g2.μ i=g.μ i:=fun i hi=>aQ hi
 have xO:∀i,g2.μ (N+i)=g'.μ i:=fun i=>by
  show (if N+i<N then _ else g'.μ (N+i - N))=_
  rw[ifn_,C2]
 have look:∀{j:Nat} {cs:List D},(pj.map (fun p=>(N+p.1,p.2.map (D.renC fun i=>N+i)))++vs).lookup j=some cs→
   (∃i a,N+i=j∧pj.lookup i=some a∧a.map (D.renC fun i=>N+i)=cs)∨(j<N∧vs.lookup j=some cs):=fun {j cs} h=>by
  rcases pK h with h|h
  ·exact .inl (oD (fun i=>N+i) (fun l:List D=>l.map (D.renC fun i=>N+i)) h)
  ·exact .inr ⟨(hR.var j cs h).1,h⟩
 have hold:∀b,b<w.heap.size→w'.heap[b]? =w.heap[b]? :=hB.block
 have mo:bX ⟨vs,lv,N⟩ g w ⟨pj.map (fun p=>(N+p.1,p.2.map (D.renC fun i=>N+i)))++vs,lv,N+n'⟩ g2 w':=by
  refine⟨hB.size,fun p hp _=>World.cell?_of_block (hold _ hp),fun p hp hf=>?_,pS _ _,fun k hk=>hμo k hk,fun id _ m e hm=>⟨m,hm,bI _,fun _=>rfl⟩,fun b hb hf=>⟨hold b hb,fun p _ hq=>.inl hq,fun k ds hk=>?_,hf.2⟩,fun b=>.same (hold b)⟩
  ·rcases hf with hf|⟨k,cs,hk,he⟩
   ·exact hf
   ·have:=(Ic.var k cs hk).2.1
    omega
  ·rcases look hk with⟨i,a,rfl,h1,_⟩|⟨h1,h2⟩
   ·rw[xO]
    have:=(Ic.var i a h1).2.1
    omega
   ·rw[hμo k h1];exact hf.1 k ds h2
 refine⟨v,g2,rfl,⟨fun k cs hk=>?_,fun k k' a b hk uJ he=>?_,fun id m e hi=>?_,fun id zU t t' b h1 h2 h3 h4=>hR.tinj id zU t t' b h1 h2 h3 h4,da hR.base hB.size,fun p hf=>?_⟩,mo,NH mQ hr (fun i hi=>vw hi N) (fun i _=>xO i),hB.mono hR.base,fun p _ hp=>.inl hp⟩
 ·rcases look hk with⟨i,a,rfl,h1,h2⟩|⟨h1,h2⟩
  ·obtain⟨b1,b2,b3,ys,ty,b4,b5,b6⟩:=Ic.var i a h1
   refine⟨vw b1 N,by rw[xO];exact da hR.base b2,fun p hp=>.inr ⟨i,a,h1,by rw[hp,xO]⟩,ys,ty,by rw[xO];exact b4,by rw[←h2,bH];exact b5,fun j u hu=>⟨fun hj=>(b6 j u hu).1 (by rw[←h2,bH] at hj;exact hj),fun d hd=>?_⟩⟩
   rw[←h2,dZ] at hd
   obtain⟨d0,h4,rfl⟩:=qG.1 hd
   exact s4 ((b6 j u hu).2 d0 h4) (eS.1 (hvo i a h1) d0 (cy h4)) (fun i hi=>vw hi N) (fun i _=>xO i)
  ·have cg:=hR.var_lt h2
   obtain⟨b1,b2,b3,ys,ty,b4,b5,b6⟩:=hR.var k cs h2
   exact⟨cm b1 (pS _ _),by rw[hμo k h1];exact b2,fun p hp=>.inl (b3 p (by rw[hp,hμo k h1])),ys,ty,by rw[hμo k h1,hold _ cg];exact b4,b5,fun j u hu=>⟨(b6 j u hu).1,fun d hd=>((b6 j u hu).2 d hd).mono mo⟩⟩
 ·rcases look hk with⟨i,x,rfl,h1,_⟩|⟨h1,h2⟩ <;> rcases look uJ with⟨i',x',rfl,tC,_⟩|⟨tC,tX⟩
  ·rw[xO,xO] at he
   rw[Ic.inj i i' x x' h1 tC he]
  ·rw[xO,hμo _ tC] at he
   have h3:=(Ic.var i x h1).2.1
   have h4:=hR.var_lt tX
   omega
  ·rw[xO,hμo _ h1] at he
   have h3:=(Ic.var i' x' tC).2.1
   have h4:=hR.var_lt h2
   omega
  ·rw[hμo _ h1,hμo _ tC] at he
   exact hR.inj k k' a b h2 tX he
 ·obtain⟨b1,ys,b2,b3,b4⟩:=hR.tok id m e hi
  refine⟨cm b1 (pS _ _),ys,b2,⟨b3.1,?_⟩,fun b hb=>⟨fun p hp hq=>.inl ((b4 b hb).1 p hp hq),fun k cs hk=>?_⟩⟩
  ·rcases b3.2 with h0|⟨b,cap,cur,hv,Ph,hh,r⟩
   ·exact .inl h0
   ·exact .inr ⟨b,cap,cur,hv,Ph,(hold b (eI.1 hh).1).trans hh,r⟩
  ·have hblt:b<w.heap.size:=by
    rcases b3.2 with⟨h0,_⟩|⟨b',cap,cur,hv,Ph,hh,r⟩
    ·rw[show g2.τ id=g.τ id from rfl,h0] at hb;simp[Value.ownBlock] at hb
    ·rw[show g2.τ id=g.τ id from rfl,hv] at hb
     simp[Value.ownBlock] at hb
     subst hb
     exact (eI.1 hh).1
   rcases look hk with⟨i,x,rfl,h1,_⟩|⟨h1,h2⟩
   ·rw[xO]
    have:=(Ic.var i x h1).2.1
    omega
   ·rw[hμo _ h1];exact (b4 b hb).2 k cs h2
 ·rcases hf with hf|⟨k,cs,hk,he⟩
  ·exact cm (hR.fits p hf) hB.size
  ·obtain⟨_,_,_,ys,ty,b4,_⟩:=Ic.var k cs hk
   rw[he];exact (eI.1 b4).1
def nr(x:Cx)(d:D)(hp:Hp)(d':D)(hp':Hp):Prop:=∀(g:Gh) (w:World) (v:Value),HR x.B hp g w→aR hp g w d v→bX x.hp0 x.g0 x.w0 hp g w→Below x.B x.w0 w→(∀p:Addr,p.block<x.B→x.F0 p→g.F p)→∃g',HR x.B hp' g' w∧aR hp' g' w d' v∧bX x.hp0 x.g0 x.w0 hp' g' w∧∀p:Addr,p.block<x.B→x.F0 p→g'.F p
section
variable {x:Cx} {hp cf:Hp} {g g2:Gh} {w:World} {v:Value}
theorem If {d:D}(hf:d.flatC=true)(h:aR hp g w d v):aR cf g2 w d v:=by
 cases h with
 |e y v h=>
  cases y with
  |lit u=>cases h with|lit _ ho=>exact .e _ _ (.lit _ ho)
  |_=>cases hf
 |_=>cases hf
theorem agHole {A C:List D}{y y':D}(hA:A.all D.flatC=true)(hC:C.all D.flatC=true)(hd:aR hp g w (.ag (A++[y]++C)) v)(one:∀u,aR hp g w y u→aR cf g2 w y' u):aR cf g2 w (.ag (A++[y']++C)) v:=by
 cases hd with
 |ag _ cs hl ho zd=>
  refine .ag _ cs (by rw[hl];simp) ho fun j d3 u hj hu=>?_
  rcases CS j A.length with h|h|h
  ·rw[gr,vt h] at hj
   exact If (eS.1 hA d3 (cy hj)) (zd j d3 u (by rw[gr,vt h];exact hj) hu)
  ·subst h
   have e1:(A++[y']++C)[A.length]? =some y':=by simp
   rw[e1] at hj
   injection hj with hj
   subst hj
   exact one u (zd A.length _ u (by simp) hu)
  ·have e1:∀y:D,(A++[y]++C)[j]? =C[j - (A.length+1)]? :=fun y=>by
    rw[vq (by simp;omega)]
    simp
   rw[e1] at hj
   exact If (eS.1 hC d3 (cy hj)) (zd j d3 u (by rw[e1];exact hj) hu)
def Gh.one(g:Gh)(b:Nat):Gh:=⟨fun _=>b,fun _=>default,fun p=>g.F p∨p.block=b⟩
theorem nr.core(h0:x.hp0=⟨[],[],0⟩){b:Nat}{xs:List E}{cur:Array Value}{ty:TypeId}(hr:HR x.B hp g w)(hM:bX x.hp0 x.g0 x.w0 hp g w)(A8:x.w0.heap.size≤b)(Ph:x.B≤b)(hh:w.heap[b]? =some (.cells cur ty (0,0)))(hl:xs.length≤cur.size)(cells:∀(i:Nat) (u:Value),cur[i]? =some u→∀y,xs[i]? =some y→∃q,y=.lit q∧u=q∧q.oneCell'=true):
  HR x.B ⟨[(0,dC xs)],[],1⟩ (g.one b) w∧bX x.hp0 x.g0 x.w0 ⟨[(0,dC xs)],[],1⟩ (g.one b) w:=by
 have one:∀{j:Nat} {ds:List D},([(0,dC xs)]:List (Nat×List D)).lookup j=some ds→j=0∧ds=dC xs:=fun {j ds} h=>by
  by_cases hj:j=0
  ·subst hj
   have:some (dC xs)=some ds:=by rw[←h];exact ak.symm
   injection this with this
   exact⟨rfl,this.symm⟩
  ·rw[aC hj] at h;cases h
 refine⟨⟨fun k ds hk=>?_,fun k k' a b hk uJ _=>by rw[(one hk).1,(one uJ).1],fun id m e h=>by simp at h,fun id zU t t' b h=>by simp at h,hr.base,fun p hf=>?_⟩,?_⟩
 ·obtain⟨rfl,rfl⟩:=one hk
  refine⟨eR 0,Ph,fun p hp=>.inr hp,cur,ty,hh,by rw[gC];exact hl,fun i u hu=>⟨fun hi=>?_,fun d hd=>?_⟩⟩
  ·rw[gC] at hi
   obtain⟨q,_,rfl,h⟩:=cells i u hu xs[i] (fI hi)
   exact h
  ·unfold dC at hd
   rw[dZ] at hd
   obtain⟨y,Lb,rfl⟩:=qG.1 hd
   obtain⟨q,rfl,rfl,h⟩:=cells i u hu y Lb
   exact .e _ _ (.lit _ h)
 ·rcases hf with hf|hf
  ·exact hr.fits p hf
  ·rw[hf];exact (eI.1 hh).1
 ·have hn0:x.hp0.next=0:=by rw[h0]
  refine⟨hM.size,hM.cell,fun p hp hf=>?_,by rw[hn0];exact fH _,fun k hk=>by omega,fun id hi=>by omega,fun b' qS hf=>?_,hM.szs⟩
  ·rcases hf with hf|hf
   ·exact hM.forb p hp hf
   ·omega
  ·obtain⟨h1,h2,_⟩:=hM.fr b' qS hf
   exact⟨h1,fun p hp hq=>.inl (h2 p hp hq),fun k ds _=>(show b≠b' by omega),fun id t h=>by simp at h⟩
theorem nr.var0(h0:x.hp0=⟨[],[],0⟩){k z n:Nat}{xs:List E}(hv:hp.vars.lookup k=some (dC xs))(hx:xs.all E.isLit=true)(hr:HR x.B hp g w)(hM:bX x.hp0 x.g0 x.w0 hp g w):
  ∃g',HR x.B ⟨[(0,dC xs)],[],1⟩ g' w∧bX x.hp0 x.g0 x.w0 ⟨[(0,dC xs)],[],1⟩ g' w∧(∀u,aR hp g w (.gw k z n) u→aR ⟨[(0,dC xs)],[],1⟩ g' w (.gw 0 z n) u)∧∀p:Addr,g.F p→g'.F p:=by
 obtain⟨q1,q2,q3,cs,ty,q4,q5,q6⟩:=hr.var k _ hv
 have A8:x.w0.heap.size≤g.μ k:=by
  rcases cc (g.μ k) x.w0.heap.size with h|h
  ·exfalso
   have hfree:IR x.hp0 x.g0 (g.μ k):=by rw[h0];exact⟨fun k ds h=>by simp at h,fun id t h=>by simp at h⟩
   exact (hM.fr _ h hfree).2.2.1 k _ hv rfl
  ·exact h
 rw[gC] at q5
 obtain⟨h1,h2⟩:=nr.core h0 hr hM A8 q2 q4 q5 (fun i u hu y hy=>by
  have hlit:y.isLit=true:=eS.1 hx y (cy hy)
  have h7:=(q6 i u hu).2 (.e y) (by unfold dC;rw[dZ,hy];rfl)
  cases y with
  |lit q=>cases h7 with|e _ _ h8=>cases h8 with|lit _ ho=>exact⟨_,rfl,rfl,ho⟩
  |_=>cases hlit)
 refine⟨_,h1,h2,fun v h=>?_,fun p h=>.inl h⟩
 cases h with
 |gw _ _ _ c hk pf oh hs=>exact .gw (hp:=⟨[(0,dC xs)],[],1⟩) (g:=g.one (g.μ k)) 0 z n c (eR 0) pf oh hs
theorem nr.varA(A C:List D)(h0:x.hp0=⟨[],[],0⟩){k z n n2:Nat}(xs:List E)(hv:hp.vars.lookup k=some (dC xs))(hn:n=n2)(hx:xs.all E.isLit=true)(hA:A.all D.flatC=true)(hC:C.all D.flatC=true):nr x (.ag (A++[.gw k z n]++C)) hp (.ag (A++[.gw 0 z n2]++C)) ⟨[(0,dC xs)],[],1⟩:=by
 subst hn
 intro g w v hr hd hM _ J0
 obtain⟨g',h1,h2,h3,h4⟩:=nr.var0 (z:=z) (n:=n) h0 hv hx hr hM
 exact⟨g',h1,agHole hA hC hd h3,h2,fun p hp h=>h4 p (J0 p hp h)⟩
end
theorem nr.of_wk {x:Cx}{d d':D}{hp hp':Hp}(hN:0<x.N)(hw:Wk x [(0,d)] hp [(0,d')] hp'):nr x d hp d' hp':=by
 intro g w v hr hd hM hB hF
 have hrs:RS x [(0,d)] hp {tmps:=(Array.replicate x.N undef).setIfInBounds 0 v,defers:=x.df} w:=by
  refine⟨g,hr,fun t d2 ht=>?_,by simp,rfl,hB,hF,hM⟩
  by_cases h0:t=0
  ·subst h0
   have:some d=some d2:=by rw[←ht];exact ak.symm
   injection this with this
   subst this
   have:((Array.replicate x.N undef).setIfInBounds 0 v).getD 0 undef=v:=by simp[dy,hN]
   dsimp only
   rw[this];exact hd
  ·rw[aC h0] at ht;cases ht
 obtain⟨g',h1,h2,_,_,_,h3,h4⟩:=hw _ _ hrs
 refine⟨g',h1,?_,h4,h3⟩
 have:=h2 0 d' ak
 have e:((Array.replicate x.N undef).setIfInBounds 0 v).getD 0 undef=v:=by simp[dy,hN]
 dsimp only at this
 rwa[e] at this
theorem nr.of_wk2 {x:Cx}{d d' e e':D}{hp hp':Hp}(hN:1<x.N)(hw:Wk x [(0,d),(1,e)] hp [(0,d'),(1,e')] hp'):nr x (.tu [d,e]) hp (.tu [d',e']) hp':=by
 intro g w v hr hd hM hB hF
 cases hd with
 |tu _ cs hl zd=>
  have A7:cs.size=2:=hl
  have c0:cs[0]? =some cs[0]:=mK (by omega)
  have c1:cs[1]? =some cs[1]:=mK (by omega)
  have t0:((((Array.replicate x.N undef).setIfInBounds 0 cs[0]).setIfInBounds 1 cs[1]).getD 0 undef)=cs[0]:=by
   have:0<x.N:=by omega
   rw[dy,CR (by decide)]
   simp[this]
  have t1:((((Array.replicate x.N undef).setIfInBounds 0 cs[0]).setIfInBounds 1 cs[1]).getD 1 undef)=cs[1]:=by
   simp[dy,hN]
  have hrs:RS x [(0,d),(1,e)] hp {tmps:=((Array.replicate x.N undef).setIfInBounds 0 cs[0]).setIfInBounds 1 cs[1],defers:=x.df} w:=by
   refine⟨g,hr,fun t d2 ht=>?_,by simp,rfl,hB,hF,hM⟩
   by_cases h0:t=0
   ·subst h0
    have:some d=some d2:=by rw[←ht];exact ak.symm
    injection this with this
    subst this
    dsimp only
    rw[t0]
    exact zd 0 d _ rfl c0
   ·rw[aC h0] at ht
    by_cases h1:t=1
    ·subst h1
     have:some e=some d2:=by rw[←ht];exact ak.symm
     injection this with this
     subst this
     dsimp only
     rw[t1]
     exact zd 1 e _ rfl c1
    ·rw[aC h1] at ht;cases ht
  obtain⟨g',h1,h2,_,_,_,h3,h4⟩:=hw _ _ hrs
  have k0:=h2 0 d' ak
  have k1:=h2 1 e' ((aC (by decide)).trans ak)
  dsimp only at k0 k1
  rw[t0] at k0
  rw[t1] at k1
  refine⟨g',h1,.tu _ cs hl fun j dj u hj hu=>?_,h4,h3⟩
  match j,hj,hu with
  |0,hj,hu=>
   have e1:some d'=some dj:=hj
   injection e1 with e1
   rw[c0] at hu
   injection hu with hu
   rw[←e1,←hu];exact k0
  |1,hj,hu=>
   have e1:some e'=some dj:=hj
   injection e1 with e1
   rw[c1] at hu
   injection hu with hu
   rw[←e1,←hu];exact k1
  |n+2,hj,hu=>cases hj
theorem HC.ofX {P : Program} {tb : TypeId → Option TyE} (tok : TOk P tb) {f : FuncId} {fn : Func} {c : Code} {ds : List D} {hp hp' : Hp} {r : D} {rs : List ResultVar} (hf : P.funcs[f]? = some fn) (hb : fn.body = some c) (te : (fn.name == "runtime.NumGoroutine") = false) (hN : ds.length ≤ fn.ntmps) (hrs : fn.results.toList = rs)
  (h:∀x:Cx,x.N=fn.ntmps→x.hp0=hp→AW P x c (eC 0 ds) hp fun ex tm cf=>match ex with| .normal| .ret=>∃d,xI tb rs tm cf d∧nr x d cf r hp'|_=>False):HC P f ds hp r hp':=by
 subst hrs
 refine⟨⟨fn,hf,te,by rw[hb];rfl⟩,fun B g w vs hr hsz v7=>?_⟩
 refine calls_of_wp hf hb ?_
 have B9:RS ⟨B,w,g.F,fn.ntmps,hp,g,[]⟩ (eC 0 ds) hp {tmps:=vs++Array.replicate (fn.ntmps - vs.size) undef,defers:=[]} w:=by
  refine⟨g,hr,fun t d ht=>?_,by simp;omega,rfl,Below.refl _ _,fun _ _ h=>h,bX.refl _ _ _⟩
  obtain⟨_,h2⟩:=oU ht
  have cg:t<ds.length:=by
   rw[CQ] at h2
   rcases cc t ds.length with hh|hh
   ·exact hh
   ·rw[fV hh] at h2;cases h2
  have hv:vs[t]? =some vs[t]:=mK (by omega)
  have:=v7 t d vs[t] (by simpa using h2) hv
  have he:(vs++Array.replicate (fn.ntmps - vs.size) undef).getD t undef=vs[t]:=by
   rw[dy,Ah (by omega),hv];rfl
  rw[he]
  exact this
 refine wp_mono (h ⟨B,w,g.F,fn.ntmps,hp,g,[]⟩ rfl rfl _ _ B9) ?_
 rintro ex a' w' ⟨tm',cf,h1,h2⟩
 have fin:(∃d,xI tb fn.results.toList tm' cf d∧nr ⟨B,w,g.F,fn.ntmps,hp,g,[]⟩ d cf r hp')→a'.defers=[]∧∃v,(results fn a'.tmps).run P w'=.ok v w'∧∃v' g',Ending.returned v=.returned v'∧HR B hp' g' w'∧bX hp g w hp' g' w'∧aR hp' g' w' r v'∧Below B w w'∧∀p:Addr,p.block<B→g.F p→g'.F p:=by
  rintro⟨d,JE,hend⟩
  obtain⟨g1,qw,iK,_,sS,hB,hF,hM⟩:=h1
  obtain⟨v,cp,mQ⟩:=ug (x:=⟨B,w,g.F,fn.ntmps,hp,g,[]⟩) tok rfl JE qw iK
  obtain⟨g',h3,h4,h5,h6⟩:=hend g1 w' v qw mQ hM hB hF
  exact⟨sS,v,cp,v,g',rfl,h3,h5,h4,hB,h6⟩
 cases ex with
 |normal=>exact fin h2
 |ret=>exact fin h2
 |_=>cases h2
section
variable {P:Program} {tb:TypeId→Option TyE} {md:Md} {hp:Hp}
theorem litF0(tok:TOk P tb){ev:Operand→D}{dst:Option Tmp}{ty:TypeId}{pos:String}{af:Array Edge}{gd:Option (Nat×Bool)}{tt e:TypeId}{ti j:TyE}(ht:tb tt=some ti)(he:tb e=some j)(AD:ti.ty=.slice e:=by exact rfl)(hz:Nat.ble 1 j.size=true:=by exact rfl):
  n0 P tb md ⟨dst,.buildSlice tt 0 #[],ty,pos,af,gd⟩ ev hp (.fu j.size 0 []) hp:=by
 have hu:=tok.slice ht AD
 have hz:=dM hz
 refine⟨.step fun B g w a hr xP=>?_,fun hq=>?_,fun _=>⟨bI _,fun j hj=>rfl⟩,fun h=>by cases h⟩
 ·have hs:=tok.run_sizeOf he w
  have h00:∀f:Nat→Value,Array.map f (Array.range 0)=#[]:=fun f=>Gb (by simp)
  have cp:(Instr.buildSlice tt 0 #[]).run P w=.ok (.slice (some ⟨w.heap.size,0,none⟩) 0 0) (w.alloc (.cells #[] e)):=by
   simp only[Instr.buildSlice,Sem.run_bind,run_underlying hu,Result.andThen_ok,hs,gb,Instr.fill,h00]
   rfl
  have hsz:w.heap.size≤(w.alloc (.cells #[] e)).heap.size:=by simp
  have hbl:∀b,b<w.heap.size→(w.alloc (.cells #[] e)).heap[b]? =w.heap[b]? :=fun b hb=>heap_alloc_old w _ hb
  refine⟨.slice (some ⟨w.heap.size,0,none⟩) 0 0,g,w.alloc (.cells #[] e),?_,hr.keep hsz hbl,bX.keep _ g hsz hbl,?_,(Below.refl _ _).alloc hr.base _,fun p _ h=>h⟩
  ·simp[execOp,cp]
  ·exact .fu _ 0 [] _ (.sl _ 0 [] _ 0 (fun _=>undef) (by simp) hz (bI _) (by decide) (fun h=>absurd h (by omega)) (fun _ _ _ _ h=>by simp at h) (fun _ _ h=>by simp at h))
 ·exfalso
  cases md with
  |seq=>cases hq
  |any L=>
   have h1:((rk (.buildSlice tt 0 #[])&&!Ol tb (.buildSlice tt 0 #[]))||xw tb L (.buildSlice tt 0 #[]))=true:=hq
   simp[rk,xw] at h1
theorem news_of {z m:Nat}{ys:List E}{A2:Option Addr}{c2:Nat}{g:Gh}{w:World}(hrep2:dE w g.F (.sl z m ys) (.slice A2 m c2))(hlit:ys.all E.isLit=true):
  ys.length=m*z∧∃news:List Value,news.length=m*z∧(0<m→∃ad:Addr,A2=some ad∧∀(i:Nat) (u:Value),news[i]? =some u→w.cell? (ad.add i)=some u)∧(∀u∈news,u.oneCell'=true)∧∀(i:Nat) (x:E),ys[i]? =some x→∃u,x=.lit u∧news[i]? =some u:=by
 cases hrep2 with
 |sl _ _ _ _ _ us hyl hz2 hnc2 hcm2 hA DE zd=>
  have cg:∀i (x:E),ys[i]? =some x→∃u,x=.lit u∧us i=u∧u.oneCell'=true:=fun i x hi=>by
   have h8:=zd i x hi
   have h9:x.isLit=true:=eS.1 hlit x (cy hi)
   generalize us i=q at h8
   cases x with
   |lit u=>cases h8 with|lit _ ho=>exact⟨_,rfl,rfl,ho⟩
   |_=>cases h9
  refine⟨hyl,(List.range (m*z)).map us,by simp,fun hm=>?_,fun u hu=>?_,fun i x hi=>?_⟩
  ·obtain⟨ad,e1,_⟩:=hA hm
   refine⟨ad,e1,fun i u hu=>?_⟩
   rw[dZ] at hu
   obtain⟨i',h8,rfl⟩:=qG.1 hu
   have Mw:i<m*z:=by have:=(l8.1 h8).1;simpa using this
   obtain rfl:i=i':=by
    rw[Gu Mw] at h8
    injection h8
   exact (DE ad e1 i ys[i] (fI (by omega))).1
  ·obtain⟨i,hi,rfl⟩:=sn.1 hu
   have Mw:i<m*z:=by simpa using hi
   obtain⟨u,_,h9,FX⟩:=cg i ys[i] (fI (by omega))
   rw[h9];exact FX
  ·obtain⟨u,h8,h9,_⟩:=cg i x hi
   have Mw:i<m*z:=by have:=(l8.1 hi).1;omega
   exact⟨u,h8,by rw[dZ,Gu Mw,←h9];rfl⟩
theorem appNW(tok:TOk P tb){ev:Operand→D}{dst:Option Tmp}{ty:TypeId}{pos:String}{af:Array Edge}{gd:Option (Nat×Bool)}{t e:TypeId}{ti j:TyE}{x y:Operand}{m:Nat}{ys:List E}(ht:tb t=some ti)(he:tb e=some j)(hx:ev x=.e (.lit (.slice none 0 0))∨ev x=.fu j.size 0 [])(hyy:(ev y).asSl j.size=some (m,ys))(hb:m*max 1 j.bytes≤140737488355328)(hm:0<m)(hlit:ys.all E.isLit=true)
  (AD:ti.ty=.slice e:=by exact rfl) (hz:Nat.ble 1 j.size=true:=by exact rfl):
  n0 P tb md ⟨dst,.call ⟨.builtin .append,#[x,y],#[t,t]⟩,ty,pos,af,gd⟩ ev hp (.gw hp.next j.size m) (hp.var (dC ys)):=by
 have hz:=dM hz
 refine⟨.step fun B g w a hr xP=>?_,fun hq=>?_,fun _=>⟨gM _,fun j hj=>aC (by omega)⟩,fun h=>by cases h⟩
 ·have h1:=xP x (dm (by simp))
  have h2:=xP y (dm (by simp))
  have hv1:∃A,a.eval x=.slice A 0 0:=by
   rcases hx with hx|hx
   ·rw[hx] at h1;exact⟨none,h1.lit⟩
   ·rw[hx] at h1
    generalize a.eval x=v1 at h1
    cases h1 with
    |fu _ _ _ A h=>exact⟨A,rfl⟩
  obtain⟨A1,hv1⟩:=hv1
  generalize hv2:a.eval y=v2 at h2
  obtain⟨A2,c2,rfl,hrep2⟩:=rE h2 hyy
  obtain⟨hyl,news,Cb,hnad,hn1,hnlit⟩:=news_of hrep2 hlit
  obtain⟨ad,rfl,AJ⟩:=hnad hm
  obtain⟨f,zz,M5,Li,hf2,hf3,hf4,_⟩:=tok.inf he
  have hu:=tok.slice ht AD
  have hzs:zz.cells.size=j.size:=by
   have h4:=(tok e j he).2.2.1
   rw[←eW,hf4,h4]
  have M4:m≤140737488355328:=da (Aj _ (by omega)) hb
  have Cc:m*f.bytes≤140737488355328:=da (ud _ (by rw[hf2];omega)) hb
  have cp:(Builtin.append_ #[t,t] ty #[.slice A1 0 0,.slice (some ad) m c2]).run P w=.ok (.slice (some ⟨w.heap.size,0,none⟩) m (grownCap w m 0 e)) (w.drew.alloc (.cells (news.toArray++Builtin.zeroCells zz.cells (grownCap w m 0 e - m)) e)):=by
   cases A1 with
   |none=>exact run_append_nil (P:=P) w t ty e f zz hu M5 hf3 ad m c2 news (by rw[Li];exact Cb) AJ (by omega) (by omega) (by omega)
   |some a1=>
    have:=run_append_grow (P:=P) w t ty e f zz hu M5 hf3 a1 0 0 [] (by simp) (fun i u h=>by simp at h) ad m c2 news (by rw[Li];exact Cb) AJ (by omega) (by omega) (growslice_fits (by omega) (by rw[dA];exact Cc))
    simpa using this
  have A8:=grownCap_ge w m 0 e
  have hold:∀c,c<w.heap.size→(w.drew.alloc (.cells (news.toArray++Builtin.zeroCells zz.cells (grownCap w m 0 e - m)) e)).heap[c]? =w.heap[c]? :=fun c hc=>heap_alloc_old w.drew _ hc
  have uI:=heap_alloc_new w.drew (.cells (news.toArray++Builtin.zeroCells zz.cells (grownCap w m 0 e - m)) e)
  have mo:=bX.addVar (w:=w) (w':=w.drew.alloc (.cells (news.toArray++Builtin.zeroCells zz.cells (grownCap w m 0 e - m)) e)) hp g (dC ys) (b:=w.heap.size) (by simp) hold (bI _)
  have hsz:(news.toArray++Builtin.zeroCells zz.cells (grownCap w m 0 e - m)).size=grownCap w m 0 e*j.size:=by
   simp only[CU,np,size_zeroCells,hzs,Cb]
   have:grownCap w m 0 e=m+(grownCap w m 0 e - m):=by omega
   rw[this,cO]
   congr 2
   omega
  have hmz:m*j.size≤grownCap w m 0 e*j.size:=c6 _ A8
  refine⟨.slice (some ⟨w.heap.size,0,none⟩) m (grownCap w m 0 e),g.var hp.next w.heap.size,w.drew.alloc (.cells (news.toArray++Builtin.zeroCells zz.cells (grownCap w m 0 e - m)) e),?_,hr.addVar (dC ys) (w':=w.drew.alloc (.cells (news.toArray++Builtin.zeroCells zz.cells (grownCap w m 0 e - m)) e)) (by simp) hold (bI _) _ e uI (by rw[hsz,gC,hyl];omega) (fun i u hu=>?_),mo,?_,⟨rfl,rfl,rfl,by simp,fun c hc=>hold c (cm hc hr.base)⟩,fun p h5 h6=>.inl h6⟩
  rotate_left
  ·have JL:i<m*j.size→news[i]? =some u:=fun hi=>by
    have AG:i<news.toArray.size:=by rw[np,Cb];omega
    rw[Ah AG,CT] at hu
    exact hu
   refine⟨fun hi=>?_,fun d hd=>?_⟩
   ·rw[gC,hyl] at hi
    exact hn1 u (cy (JL hi))
   ·unfold dC at hd
    rw[dZ] at hd
    obtain⟨y0,Lb,rfl⟩:=qG.1 hd
    obtain⟨q,rfl,hq⟩:=hnlit _ y0 Lb
    have hi:i<m*j.size:=by have:=(l8.1 Lb).1;omega
    rw[JL hi] at hq
    injection hq with hq
    subst hq
    exact .e _ _ (.lit _ (hn1 u (cy (JL hi))))
  ·have xO:(g.var hp.next w.heap.size).μ hp.next=w.heap.size:=aQ rfl
   have:=aR.gw (hp:=hp.var (dC ys)) (g:=g.var hp.next w.heap.size) (w:=w.drew.alloc (.cells (news.toArray++Builtin.zeroCells zz.cells (grownCap w m 0 e - m)) e)) hp.next j.size m (grownCap w m 0 e) (eR _) A8 (grownCap_le_maxLen w m 0 e (by unfold maxLen;omega)) ⟨_,e,(0,0),by rw[xO];exact uI,by rw[hsz];exact bI _⟩
   rwa[xO] at this
  ·simp only[execOp,Array.map_map,Gs,bN,cl,resolve,invoke,builtin,hv1,hv2,Sem.run_bind]
   simp[resolve,invoke,builtin,hv1,hv2,cp]
 ·exfalso
  cases md with
  |seq=>cases hq
  |any L=>
   have h1:((rk (.call ⟨.builtin .append,#[x,y],#[t,t]⟩)&&!Ol tb (.call ⟨.builtin .append,#[x,y],#[t,t]⟩))||xw tb L (.call ⟨.builtin .append,#[x,y],#[t,t]⟩))=true:=hq
   simp[rk,xw] at h1
end
end
section
theorem ARs.nil {hp:Hp}:ARs hp [] []:=trivial
theorem ARs.cons {hp:Hp}{d e:D}{ds es:List D}(h:AR hp d e)(hl:ARs hp ds es):ARs hp (d::ds) (e::es):=⟨h,hl⟩
class tA {α:Type} (c:Cd α):Prop where
 h:∀x,(c.f x).all E.isLit=true
theorem tA.l {α:Type}(c:Cd α)(l:List α)[tA c]:(l.flatMap c.f).all E.isLit=true:=by
 rw[List.all_flatMap,eS]
 exact fun x _=>tA.h x
instance(k:IntKind):tA (cI k):=⟨fun _=>rfl⟩
instance:tA cS:=⟨fun _=>rfl⟩
instance:tA cB:=⟨fun _=>rfl⟩
instance {α:Type}(n:Nat)(c:Cd α)[tA c]:tA (cA n c):=⟨fun x=>tA.l c x.toList⟩
theorem NF {xs:List E}(ρ:Nat→Nat):(dC xs).map (D.renC ρ)=dC xs:=by
 unfold dC
 rw[qza3]
 exact oY fun x _=>rfl
theorem NG {xs:List E}(h:xs.all E.isLit=true):(dC xs).all D.refC=true:=by
 unfold dC
 rw[CP,eS]
 intro y hy
 have:=eS.1 h y hy
 cases y with
 |lit u=>rfl
 |_=>cases this
def orO {α:Type}(a b:Option α):Option α:=match a with
 |some x=>some x
 |none=>b
theorem u9 {α:Type}{a b:Option α}{r:α}(h:orO a b=some r):a=some r∨b=some r:=by
 cases a with
 |none=>exact .inr h
 |some x=>exact .inl h
section
variable {md:Md} {ops:Array Oper} {K:List (Nat×D)→Hp→Prop} {os:List Oper} {tm:List (Nat×D)} {hp hp':Hp} {t s:Tmp} {op:Op} {ty:TypeId} {pos:String} {af:Array Edge} {d d2:D} {j:Nat} {want c:Bool}
theorem sG(h:AVC prog tbl md.dr op ty (fun x=>(evD tm x).toOw) hp (Kq d hp'))(h2:bT prog tbl md ops K os ((t,d)::tm) hp')(hn:md.nc tbl op=true:=by exact rfl):bT prog tbl md ops K (⟨some t,op,ty,pos,af,none⟩::os) tm hp:=stG tok h h2 hn
theorem sF {x:Operand}{f:FuncId}{la:List Operand}{ts:Array TypeId}{ds':List D}{r:D}(hc:aB prog f ds' r)(ha:ARs hp (la.map (evD tm)) ds')(hf:r.flat=true)(h2:bT prog tbl md ops K os ((t,r)::tm) hp)(xr:evD tm x=.e (.lit (.func (.func f) #[] #[])):=by exact rfl)(hn:md.nc tbl (.call ⟨.value x,la.toArray,ts⟩)=true:=by exact rfl):
  bT prog tbl md ops K (⟨some t,.call ⟨.value x,la.toArray,ts⟩,ty,pos,af,none⟩::os) tm hp:=Hu rfl (sHC (HC.frz hc ha hf) rfl (.inr (Fr.refl _)) xr hn) h2
theorem sC0 {x:Operand}{f:FuncId}{la:List Operand}{ts:Array TypeId}{dsE:List D}{r:D}{xs:List E}{vs:List (Nat×List D)}{lv:List (Nat×Nat×Nat×TypeId)}{N q:Nat}(hc:HC prog f dsE ⟨[],[],0⟩ r ⟨[(q,dC xs)],[],q+1⟩)(ha:ARs ⟨vs,lv,N⟩ (la.map (evD tm)) dsE)(hx:xs.all E.isLit=true)(h2:bT prog tbl md ops K os ((t,d)::tm) hp')(hr:r.ref2=true:=by exact rfl)(hd:r.ren2 (fun i=>N+i)=d:=by exact rfl)(hh:(⟨(N+q,dC xs)::vs,lv,N+(q+1)⟩:Hp)=hp':=by exact rfl)(xr:evD tm x=.e (.lit (.func (.func f) #[] #[])):=by exact rfl)(hn:md.nc tbl (.call ⟨.value x,la.toArray,ts⟩)=true:=by exact rfl):
  bT prog tbl md ops K (⟨some t,.call ⟨.value x,la.toArray,ts⟩,ty,pos,af,none⟩::os) tm ⟨vs,lv,N⟩:=by
 subst hd hh
 have h:=HC.frame0R (vs:=vs) (lv:=lv) (N:=N) hc ha hr (fun k cs hk=>by
  by_cases h0:k=q
  ·subst h0
   rw[ak] at hk
   injection hk with hk
   subst hk
   exact NG hx
  ·rw[aC h0] at hk;cases hk)
 rw[bN,cl,NF] at h
 exact Hu rfl (sHC h rfl (.inr ⟨pS _ _,fun j hj=>aC (Nat.ne_of_lt (cm hj (pS _ _)))⟩) xr hn) h2
theorem sApN {ev:Operand→D}{dst:Option Tmp}{gd:Option (Nat×Bool)}{α:Type}{c:Cd α}{m:List α}{tt e:TypeId}{ti j:TyE}{x y:Operand}(tok:TOk prog tbl)(ht:tbl tt=some ti)(he:tbl e=some j)(hf:m.length*max 1 j.bytes≤140737488355328)(hn:0<m.length)(hlit:(m.flatMap c.f).all E.isLit=true)(hx:ev x=.e (.lit (.slice none 0 0))∨ev x=.fu j.size 0 [])(hy:(ev y).asSl j.size=some (m.length,m.flatMap c.f):=by exact rfl)(AD:ti.ty=.slice e:=by exact rfl)(hz:Nat.ble 1 j.size=true:=by exact rfl):
  n0 prog tbl md ⟨dst,.call ⟨.builtin .append,#[x,y],#[tt,tt]⟩,ty,pos,af,gd⟩ ev hp (.gw hp.next j.size m.length) (hp.var (dC ((cW c).f m))):=appNW tok ht he hx hy hf hn hlit AD hz
theorem ftn {k z n n2:Nat}{F:List E}:∀p∈([]:List (Nat×D)),∃d0,tm.lookup p.1=some d0∧FzD k z n n2 F d0 p.2:=fun p h=>by cases h
theorem ftc {k z n n2:Nat}{F:List E}{t:Nat}{d d0:D}{l:List (Nat×D)}(h:tm.lookup t=some d0)(hf:FzD k z n n2 F d0 d)(hl:∀p∈l,∃d0,tm.lookup p.1=some d0∧FzD k z n n2 F d0 p.2):∀p∈(t,d)::l,∃d0,tm.lookup p.1=some d0∧FzD k z n n2 F d0 p.2:=fun p hp=>by
 rcases nb.1 hp with rfl|hp
 ·exact⟨d0,h,hf⟩
 ·exact hl p hp
theorem fvn {k z n n2:Nat}{F:List E}{vs:List (Nat×List D)}:∀p∈([]:List (Nat×List D)),p.1≠k∧∃oi,vs.lookup p.1=some oi∧FzL k z n n2 F oi p.2:=fun p h=>by cases h
theorem fvc {k z n n2:Nat}{F:List E}{vs:List (Nat×List D)}{t:Nat}{d d0:List D}{l:List (Nat×List D)}(hk:t≠k)(h:vs.lookup t=some d0)(hf:FzL k z n n2 F d0 d)(hl:∀p∈l,p.1≠k∧∃oi,vs.lookup p.1=some oi∧FzL k z n n2 F oi p.2):∀p∈(t,d)::l,p.1≠k∧∃oi,vs.lookup p.1=some oi∧FzL k z n n2 F oi p.2:=fun p hp=>by
 rcases nb.1 hp with rfl|hp
 ·exact⟨hk,d0,h,hf⟩
 ·exact hl p hp
variable {x:Cx} {Q:Exit→List (Nat×D)→Hp→Prop}
theorem fzAD {cd:Code}{α:Type}(c:Cd α){l:List α}{vs:List (Nat×List D)}{lv:List (Nat×Nat×Nat×TypeId)}{N n:Nat}(k:Nat)(ts:List (Nat×D))(us:List (Nat×List D))(hn:n=l.length)(h2:AW prog x cd (ts++tm) ⟨us++vs.filter fun p=>!([k]:List Nat).contains p.1,lv,N⟩ Q)(Le:∀p∈ts,∃d0,tm.lookup p.1=some d0∧FzD k c.sz n l.length ((cW c).f l) d0 p.2)(Mo:∀p∈us,p.1≠k∧∃oi,vs.lookup p.1=some oi∧FzL k c.sz n l.length ((cW c).f l) oi p.2)(hv:vs.lookup k=some (dC ((cW c).f l)):=by exact rfl)(hz:Nat.ble 1 c.sz=true:=by exact rfl):AW prog x cd tm ⟨vs,lv,N⟩ Q:=by
 subst hn
 exact AW.weak (fun _ _ hr=>(WkS.frzD (io c.f c.h l) (dM hz) hv Le Mo).rs hr) h2
end
end
instance:tA an:=⟨fun x=>by unfold an;simp only[yI,cF,cZ,E.isLit,tA.h,ck,CO]⟩
instance:tA ae:=⟨fun x=>by unfold ae;simp only[yI,cF,cZ,E.isLit,tA.h,ck,CO]⟩
theorem pG0 {α:Type}(c:Cd α)(a:α)(l:List E){z:Nat}(h:c.sz=z):((c.f a++l).drop 0).take z=c.f a:=by
 have hl:(c.f a).length=z:=(c.h a).trans h
 rw[nZ,AP (by omega),kO (by omega)]
theorem pG1 {α β:Type}(c:Cd α)(a:α)(k:Cd β)(b:β){o z:Nat}(h:c.sz=o)(h2:k.sz=z):((c.f a++k.f b).drop o).take z=k.f b:=by
 have hl:(c.f a).length=o:=(c.h a).trans h
 have hk:(k.f b).length=z:=(k.h b).trans h2
 rw[←hl,sK,kO (by omega)]
def bo:Cd Nu:=⟨36,fun x=>ae.f x.1,fun x=>ae.h x.1⟩
theorem w_Mul(x y:Nu):aB prog 40 [dG bo x,dG bo y] (dG bo (uG x y)):=by rw[BW];exact n4 (KM x.2 y.2)
theorem w_Sub(x y:Nu):aB prog 146 [dG bo x,dG bo y] (dG bo (HF x y)):=by rw[N6];exact Hf (G_osub x.2 y.2)
theorem w_Div(x y:Nu):aB prog 144 [dG bo x,dG bo y] (dG bo (HG x y)):=by rw[N9];exact Hg (G_odiv x.2 y.2)
theorem Nm(x:Nu):aB prog 42 [dG bo x] (dI .i64 (va x)):=by rw[Ez];exact yb (QK x.2)
theorem w_Good(x:Nu):aB prog 41 [dG bo x] (dB (cM x)):=by rw[v6];exact fL (mj x.2)
def nv(x:Nu):aj:=x.1
section
theorem rt(a:Nu):(dC (bo.f a)).length=36:=by rw[gC,bo.h];rfl
section
variable {dr:Bool} {ty:TypeId} {ev:Operand→D} {hp hp':Hp} {k o:Nat} {F F2:List D} {F':List D→List D} {x y:Operand} {a b:Nu}
theorem ldN(L:Pt F o (dC (bo.f a)) F')(hv:hp.vars.lookup k=some F)(hk:k<hp.next)(hx:ev x=.pt k o:=by exact rfl):AVC prog tbl dr (.load 34 x) ty ev hp (Kq (dG bo a) hp):=T_ldP L hv hk ax (rt a) rfl hx
theorem stN(L:Pt F o (dC (bo.f a)) F')(hv:hp.vars.lookup k=some F)(h2:F' (dC (bo.f b))=F2)(hx:ev x=.pt k o:=by exact rfl)(hy:ev y=dG bo b:=by exact rfl)(he:hp.set k F2=hp':=by exact rfl):AVC prog tbl dr (.store 34 x y) ty ev hp (Kq .top hp'):=
 Qk (ys:=dC (bo.f b)) L hv (by rw[hy];rfl) ax (rt a) (by rw[rt,rt]) h2 hx he
theorem Pt.idN(a:Nu):Pt (dC (bo.f a)) 0 (dC (bo.f a)) id:=Pt.of [] [] rfl (by simp) (fun y=>by simp)
end
section
variable {vs uE oy:List (Nat×List D)} {lv:List (Nat×Nat×Nat×TypeId)} {N n2 k:Nat}
theorem fW.lt(hok:fW ⟨vs,lv,N⟩){ds:List D}(h:vs.lookup k=some ds):k<N:=(hok.var k ds h).1
theorem fW.ne(hok:fW ⟨vs,lv,N⟩){ds:List D}(h:vs.lookup k=some ds){m:Nat}(hm:N≤m):k≠m:=by have:=hok.lt h;omega
theorem ar {j m:Nat}{b:List D}{l:List (Nat×List D)}{r:Option (List D)}(hj:j≠m)(h:l.lookup j=r):((m,b)::l).lookup j=r:=(aC hj).trans h
theorem pM(l:List E):(dC l).all (D.idsC N)=true:=Cw (fun _=>rfl) l
theorem fW.cons {M:Nat}{ds:List D}(hok:fW ⟨vs,lv,N⟩)(hN:N≤M)(hk:k<M)(hd:ds.all (D.idsC M)=true):fW ⟨(k,ds)::vs,lv,M⟩:=by
 refine⟨fun j es h=>?_,fun id e h=>cm (hok.tok id e h) hN⟩
 by_cases hj:j=k
 ·subst hj
  have:some ds=some es:=by rw[←h];exact ak.symm
  injection this with this
  subst this
  exact⟨hk,hd⟩
 ·obtain⟨h1,h2⟩:=hok.var j es (by rw[←h];exact (aC hj).symm)
  exact⟨cm h1 hN,eS.2 fun d hd=>D.idsC_le hN (eS.1 h2 d hd)⟩
def pX(n:Nat)(tm tm':List (Nat×D)):Prop:=∀p∈tm',(∃d,tm.lookup p.1=some d∧(p.2=d∨p.2=d.ex))∧p.2.idsB n=true
theorem pX.nil {n:Nat}{tm:List (Nat×D)}:pX n tm []:=fun p hp=>absurd hp (EW)
theorem pX.cons {n t:Nat}{d:D}{tm tm':List (Nat×D)}(h2:pX n tm tm')(h:tm.lookup t=some d:=by exact rfl)(hi:d.idsB n=true:=by exact rfl):pX n tm ((t,d)::tm'):=fun p hp=>by
 rcases nb.1 hp with rfl|hp
 ·exact⟨⟨d,h,.inl rfl⟩,hi⟩
 ·exact h2 p hp
theorem wkS {x:Cx}{tm tm':List (Nat×D)}{n':Nat}(h0:x.hp0.next≤n')(hn:n'≤n2)(hok:fW ⟨oy,lv,n'⟩)(hv:∀j ds,oy.lookup j=some ds→uE.lookup j=some ds)(ht:pX n' tm tm'):Wk x tm ⟨uE,lv,n2⟩ tm' ⟨oy,lv,n'⟩:=
 Wk.look h0 hn ht (fun j ds h=>⟨(hok.var j ds h).1,ds,hv j ds h,sT _,(hok.var j ds h).2⟩) fun id y h=>⟨hok.tok id y h,h⟩
theorem HO {j:Nat}{a b:List D}{l:List (Nat×List D)}:((k,b)::(k,a)::l).lookup j=((k,b)::l).lookup j:=by
 by_cases hj:j=k
 ·subst hj;rw[ak,ak]
 ·rw[aC hj,aC hj,aC hj]
theorem eG {j a:Nat}{x ds:List D}{l:List (Nat×List D)}(h:((a,x)::l).lookup j=some ds):(j=a∧ds=x)∨(j≠a∧l.lookup j=some ds):=by
 by_cases hj:j=a
 ·subst hj
  have:some x=some ds:=by rw[←h];exact ak.symm
  injection this with this
  exact .inl ⟨rfl,this.symm⟩
 ·exact .inr ⟨hj,by rw[←h];exact (aC hj).symm⟩
theorem Pt.elN(l:List Nu)(i:Nat)(h:i<l.length):Pt (dC ((cW bo).f l)) (0+i*36) (dC (bo.f l[i]!)) (fun ys=>(dC ((cW bo).f l)).take (0+i*36)++ys++(dC ((cW bo).f l)).drop (0+i*36+36)):=by
 have L:=ao.seqW bo l i h
 have e:bo.sz=36:=rfl
 rw[e] at L
 refine⟨?_,?_,fun ys hy=>by rw[rt]⟩
 ·have:=L.le
  rw[rt,gC];exact this
 ·have:=L.g
  rw[rt]
  unfold dC
  rw[←vn,←ub]
  exact congrArg _ this
theorem Pt.elN_set(l:List Nu)(i:Nat)(h:i<l.length)(b:Nu):(dC ((cW bo).f l)).take (0+i*36)++dC (bo.f b)++(dC ((cW bo).f l)).drop (0+i*36+36)=dC ((cW bo).f (l.set i b)):=by
 have L:=ao.seqW bo l i h
 have e:bo.sz=36:=rfl
 rw[e] at L
 have:=L.p b
 rw[e] at this
 unfold dC
 rw[←ub,←vn,←nd,←nd]
 exact congrArg _ this
end
end
theorem oF {t:Nat}(h:t<9223372036854775807:=by omega):i64.wrap ((t:Int)+1)=((t+1:Nat):Int):=by
 rw[rS (by omega) (by omega)];omega
def zN:List E:=(List.replicate 2 (E.lit (.bool false))++List.replicate 16 (E.lit (.int .u32 0)))++(List.replicate 2 (E.lit (.bool false))++List.replicate 16 (E.lit (.int .u32 0)))
theorem T_alN {dr:Bool}{ty:TypeId}{ev:Operand→D}{vs:List (Nat×List D)}{lv:List (Nat×Nat×Nat×TypeId)}{N:Nat}:AVC prog tbl dr (.alloc 34) ty ev ⟨vs,lv,N⟩ (Kq (.pt N 0) ⟨(N,dC zN)::vs,lv,N+1⟩):=bq ax
theorem Pt.zN:Pt (dC zN) 0 (dC zN) id:=Pt.of [] [] rfl (by simp) (fun y=>by simp)
theorem stZ {dr:Bool}{ty:TypeId}{ev:Operand→D}{hp hp':Hp}{k:Nat}{x y:Operand}{b:Nu}(hv:hp.vars.lookup k=some (dC zN))(hx:ev x=.pt k 0:=by exact rfl)(hy:ev y=dG bo b:=by exact rfl)(he:hp.set k (dC (bo.f b))=hp':=by exact rfl):AVC prog tbl dr (.store 34 x y) ty ev hp (Kq .top hp'):=
 Qk (ys:=dC (bo.f b)) Pt.zN hv (by rw[hy];rfl) ax rfl (by rw[rt];rfl) rfl hx he
theorem Pt.el(l:List Nu)(i:Nat)(h:i<l.length):Pt (dC ((cW bo).f l)) (i*36) (dC (bo.f l[i]!)) (fun ys=>(dC ((cW bo).f l)).take (i*36)++ys++(dC ((cW bo).f l)).drop (i*36+36)):=by
 have:=Pt.elN l i h
 rwa[dA] at this
theorem Pt.el_set(l:List Nu)(i:Nat)(h:i<l.length)(b:Nu):(dC ((cW bo).f l)).take (i*36)++dC (bo.f b)++(dC ((cW bo).f l)).drop (i*36+36)=dC ((cW bo).f (l.set i b)):=by
 have:=Pt.elN_set l i h b
 rwa[dA] at this
section
section
variable {hp:Hp}
theorem AR.list {k n:Nat}{l:List Nu}(hv:hp.vars.lookup k=some (dC ((cW bo).f l)))(hl:l.length=n):AR hp (.ow k 0 36 n) (.e (slE bo l)):=by
 subst hl
 have hlen:((cW bo).f l).length=l.length*36:=io bo.f bo.h l
 have:=AR.sl (off:=0) hv (n:=l.length) (z:=36) (by omega) (by omega)
 rw[nZ,kO (by omega)] at this
 exact this
end
end
def qT(bm:Int)(lx:Int):Option (Int×Int):=bnd (some (u64.wrap ((HX .u64 bm (4294967295:Int))*(HX .u64 lx (4294967295:Int))))) fun x1=>bnd (some (u64.wrap ((u64.wrap ((mv .u64 bm (32:Int))*(HX .u64 lx (4294967295:Int))))+(mv .u64 x1 (32:Int))))) fun x3=>bnd (some (u64.wrap ((HX .u64 x3 (4294967295:Int))+(u64.wrap ((HX .u64 bm (4294967295:Int))*(mv .u64 lx (32:Int))))))) fun x5=>bnd (some (u64.wrap ((u64.wrap ((u64.wrap ((mv .u64 bm (32:Int))*(mv .u64 lx (32:Int))))+(mv .u64 x3 (32:Int))))+(mv .u64 x5 (32:Int))))) fun x7=>some (x7,u64.wrap (bm*lx))
theorem Fe {bm:Int}{lx:Int}{r:Int×Int}(h:qT bm lx=some r):aB prog 156 [dI .u64 bm,dI .u64 lx] (.tu [dI .u64 r.1,dI .u64 r.2]):=by
 refine bC (rs:=[.tmp 4,.tmp 5]) (fun cx hx h0=>?_) func156
 unfold qT at h
 iterate 5 refine ra hx ?_
 refine rs hx fun K hK=>?_
 iterate 3 refine sa ?_
 obtain⟨x1,zV,h⟩:=ah h
 replace zV:=cP zV
 refine s2 (d2:=dI .u64 x1) l9 (gv (congrArg (dI .u64) zV)) ?_
 refine .nil (hK _ _ (rs hx fun K hK=>?_))
 iterate 6 refine sa ?_
 obtain⟨x3,xQ,h⟩:=ah h
 replace xQ:=cP xQ
 refine s2 (d2:=dI .u64 x3) l9 (gv (congrArg (dI .u64) xQ)) ?_
 refine .nil (hK _ _ ?_)
 iterate 2 refine ra hx ?_
 refine rs hx fun K hK=>?_
 iterate 5 refine sa ?_
 obtain⟨x5,FB,h⟩:=ah h
 replace FB:=cP FB
 refine s2 (d2:=dI .u64 x5) l9 (gv (congrArg (dI .u64) FB)) ?_
 refine .nil (hK _ _ (rs hx fun K hK=>?_))
 iterate 8 refine sa ?_
 obtain⟨x7,xn,h⟩:=ah h
 replace xn:=cP xn
 refine s2 (d2:=dI .u64 x7) l9 (gv (congrArg (dI .u64) xn)) ?_
 refine .nil (hK _ _ (ra hx ?_))
 refine AW.ret ?_
 cases h
 exact rv2
def tY(bm:Int)(lx:Int):Option (Int×Int):=bnd (qT bm lx) fun x1=>some (x1.1,x1.2)
theorem I4 {bm:Int}{lx:Int}{r:Int×Int}(h:tY bm lx=some r):aB prog 122 [dI .u64 bm,dI .u64 lx] (.tu [dI .u64 r.1,dI .u64 r.2]):=by
 refine bC (rs:=[.tmp 4,.tmp 5]) (fun cx hx h0=>?_) func122
 unfold tY at h
 refine ra hx ?_
 refine AW.seq (AW.condF rfl rfl (AW.skip (rs hx fun K hK=>?_)))
 iterate 2 refine sa ?_
 refine scb h Fe fun x1 h=>?_
 iterate 5 refine sa ?_
 refine .nil (hK _ _ (ra hx ?_))
 refine AW.ret ?_
 cases h
 exact rv2
theorem Ox {m:Nat}(h:m<4294967296):HX .u64 (m:Int) (4294967295:Int)=(m:Int):=by
 have h1:(BitVec.ofInt 64 (m:Int) &&&BitVec.ofInt 64 (4294967295:Int)).toNat=m:=by
  have a:(BitVec.ofInt 64 (m:Int)).toNat=m:=by
   rw[BitVec.ofInt_natCast,BitVec.toNat_ofNat];omega
  have b:(BitVec.ofInt 64 (4294967295:Int)).toNat=2 ^ 32 - 1:=by decide
  rw[BitVec.toNat_and,a,b,Nat.and_two_pow_sub_one_eq_mod];omega
 show u64.wrap (((BitVec.ofInt 64 (m:Int) &&&BitVec.ofInt 64 (4294967295:Int)).toNat:Nat):Int)=m
 rw[h1]
 exact iu
theorem mul1 {n:Nat}(h:n≤1000000):tY (u64.wrap 1) (u64.wrap (n:Int))=some (0,(n:Int)):=by
 have e1:u64.wrap 1=((1:Nat):Int):=iu (n:=1) (by omega)
 have a1:=Ox (m:=1) (by omega)
 have a2:=Ox (m:=n) (by omega)
 have s1:=wM 1
 have s2:=wM n
 have m1:(1:Nat) / 4294967296=0:=rfl
 have m2:n / 4294967296=0:=gD (by omega)
 rw[m1] at s1
 rw[m2] at s2
 have z0:u64.wrap ((0:Nat):Int)=((0:Nat):Int):=iu (n:=0) (by omega)
 have zn:u64.wrap (n:Int)=(n:Int):=iu
 have i0:HX .u64 ((0:Nat):Int) (4294967295:Int)=((0:Nat):Int):=Ox (m:=0) (by omega)
 have h0:mv .u64 ((0:Nat):Int) (32:Int)=((0:Nat):Int):=wM 0
 rw[e1,zn]
 unfold tY qT
 rw[a1,a2,s1,s2]
 simp only[bnd,CN]
 have p1:((1:Nat):Int)*(n:Int)=(n:Int):=by omega
 have p2:((0:Nat):Int)*(n:Int)=((0:Nat):Int):=by omega
 have p3:((1:Nat):Int)*((0:Nat):Int)=((0:Nat):Int):=by omega
 have p4:((0:Nat):Int)*((0:Nat):Int)=((0:Nat):Int):=by omega
 have p5:((0:Nat):Int)+((0:Nat):Int)=((0:Nat):Int):=by omega
 rw[p1,p2,p3,p4,zn,z0,s2,p5,z0,i0,p5,z0,h0,p5,z0,p5,z0]
 rfl
section
def xv(a:Nu)(n s:Nat):List Nu:=List.replicate s a++List.replicate (n - s) default
theorem Cy {a:Nu}{n s:Nat}(h:s≤n):(xv a n s).length=n:=by
 unfold xv;rw[fg,vh,vh];omega
theorem cont_cp {a:Nu}{n s:Nat}(h:s≤n):lCp (xv a n s) s (((((xv a n s).drop 0).take s)).take (n - s))=xv a n (s+min s (n - s)):=by
 have h1:((xv a n s).drop 0).take s=List.replicate s a:=by
  unfold xv
  rw[nZ,AP (by simp),kO (by simp)]
 rw[h1,List.take_replicate]
 unfold lCp
 rw[vh]
 unfold xv
 rw[AP (by simp),kO (by simp),Kp,vh,CV (by simp),pB,List.drop_replicate]
 rw[List.replicate_append_replicate,Nat.min_comm,show n - s - (s+min s (n - s) - s)=n - (s+min s (n - s)) by omega]
theorem wkS2 {x:Cx}{tm tm':List (Nat×D)}{uE oy:List (Nat×List D)}{lv DA:List (Nat×Nat×Nat×TypeId)}{n' n2:Nat}(h0:x.hp0.next≤n')(hn:n'≤n2)(hok:fW ⟨oy,lv,n'⟩)(hv:∀j ds,oy.lookup j=some ds→uE.lookup j=some ds)(hl:∀j y,lv.lookup j=some y→DA.lookup j=some y)(ht:pX n' tm tm'):Wk x tm ⟨uE,DA,n2⟩ tm' ⟨oy,lv,n'⟩:=
 Wk.look h0 hn ht (fun j ds h=>⟨(hok.var j ds h).1,ds,hv j ds h,sT _,(hok.var j ds h).2⟩) fun id y h=>⟨hok.tok id y h,hl id y h⟩
section
variable {md:Md} {dst:Option Tmp} {ty:TypeId} {pos:String} {af:Array Edge} {gd:Option (Nat×Bool)} {ev:Operand→D} {hp:Hp} {k s n:Nat} {x y:Operand}
theorem slT(h:s<n)(hx:ev x=.ow k 0 36 n:=by exact rfl)(hy:ev y=dI .i64 (s:Int):=by exact rfl):n0 prog tbl md ⟨dst,.slice 22 x (some y) none none,ty,pos,af,gd⟩ ev hp (.ow k (s*36) 36 (n - s)) hp:=by
 have:=slW (P:=prog) (tb:=tbl) (md:=md) (dst:=dst) (ty2:=ty) (pos:=pos) (af:=af) (gd:=gd) (ev:=ev) (hp:=hp) (x:=x) (lo:=some y) (hi:=none) (l:=(s:Int)) (h:=(n:Int)) tok ⟨by omega,by omega,by omega,by omega⟩ aF ax ⟨.i64,hy⟩ rfl rfl hx rfl
 rw[show ((n:Int) - (s:Int)).toNat=n - s by omega,bh,dA] at this
 exact this
theorem slHd(h:s≤n)(h0:0<n)(hx:ev x=.ow k 0 36 n:=by exact rfl)(hy:ev y=dI .i64 (s:Int):=by exact rfl):n0 prog tbl md ⟨dst,.slice 22 x none (some y) none,ty,pos,af,gd⟩ ev hp (.ow k (0*36) 36 s) hp:=by
 have:=slW (P:=prog) (tb:=tbl) (md:=md) (dst:=dst) (ty2:=ty) (pos:=pos) (af:=af) (gd:=gd) (ev:=ev) (hp:=hp) (x:=x) (lo:=none) (hi:=some y) (l:=(0:Int)) (h:=(s:Int)) tok ⟨by omega,by omega,by omega,by omega⟩ aF ax rfl ⟨.i64,hy⟩ rfl hx rfl
 rw[show ((s:Int) - 0).toNat=s by omega,dA] at this
 exact this
end
section
variable {vs:List (Nat×List D)} {lv:List (Nat×Nat×Nat×TypeId)} {N n:Nat} {a:Nu}
theorem Pg(hn:n≤1000000):HC prog 77 [.e (slE bo [a]),dI .i64 n] ⟨vs,lv,N⟩ (.ow (N+1) 0 36 n) ⟨(N+1,dC ((cW bo).f (List.replicate n a)))::vs,lv,N+1+1⟩:=by
 refine HC.of (rs:=[.tmp 4]) tok func77 rfl rfl (dM rfl) rfl (fun cx hx h0 hok=>?_)
 simp only[eC,Nat.reduceAdd,dA]
 refine rs hx fun K hK=>?_
 refine s1 (d:=dO N bo ([]:List Nu)) (eZ aF ax) ?_
 refine .nil (hK _ _ (AW.seq (rs hx fun K hK=>?_)))
 iterate 2 refine sa ?_
 refine .nil (hK _ _ (AW.condF rfl (def_) (AW.skip (rs hx fun K hK=>?_))))
 iterate 5 refine sa ?_
 refine cq (I4 (mul1 hn)) ?_
 iterate 5 refine sa ?_
 refine .nil (hK _ _ (AW.seq (rs hx fun K hK=>?_)))
 iterate 3 refine sa ?_
 iterate 2 refine ga (show decide ((0:Int)<0)=false by decide) ?_
 refine s1 (au (show decide ((0:Int)<0)=false by decide)) ?_
 refine .nil (hK _ _ (AW.condF rfl (def_) (AW.skip (rs hx fun K hK=>?_))))
 iterate 2 refine sa ?_
 rw[rS (show -9223372036854775808≤(n:Int) by omega) (by omega)]
 refine q1 (sMk (c:=bo) (z0:=default) (v:=(n:Int)) tok ⟨by omega,by omega⟩ aF ax rfl) ?_
 rw[bh]
 refine sa ?_
 refine .nil (hK _ _ ?_)
 have OB:vJ ⟨(N+1,dC ((cW bo).f (List.replicate n default)))::vs,(N,0,36,34)::lv,N+1+1⟩ (.e (slE bo [a])) 36 1 ([a].flatMap bo.f):=vJ.dat rfl (by simp[bo.h];rfl)
 refine rs hx fun K hK=>?_
 iterate 2 refine sa ?_
 refine q1 (sCpW (c:=bo) (l:=List.replicate n default) (s:=[a]) (m:=1) (n:=n) tok aF ax OB rfl ak 0 (by simp) rfl) ?_
 refine sa ?_
 refine .nil (hK _ _ ?_)
 have hc0:lCp (List.replicate n (default:Nu)) 0 ([a].take n)=xv a n (min 1 n):=by
  cases n with
  |zero=>rfl
  |succ n=>
   unfold lCp xv
   rw[show min 1 (n+1)=1 by omega]
   simp[List.replicate_succ]
 rw[hc0]
 have hokA:∀l:List Nu,fW ⟨(N+1,dC ((cW bo).f l))::vs,lv,N+1+1⟩:=fun l=>hok.cons (by omega) (eR _) (pM _)
 have hNlv:∀j y,lv.lookup j=some y→((N,0,36,34)::lv).lookup j=some y:=fun j y h=>(aC (by have:=hok.tok j y h;have h2:j<N:=this;omega)).trans h
 refine AW.seq (AW.block (AW.loopW (fun s:Nat=>[(7,.ow (N+1) 0 36 n),(8,dI .i64 s)]) (fun s=>⟨(N+1,dC ((cW bo).f (xv a n s)))::vs,lv,N+1+1⟩) (fun s=>s≤n∧(0<n→0<s)) (fun s=>n - s) (min 1 n) ?_ ⟨by omega,by omega⟩ ?_))
 ·exact wkS2 (by rw[h0];show N≤N+1+1;omega) (bI _) (hokA _) (fun j ds h=>by rw[HO];exact h) hNlv (pX.cons (t:=7) (d:=.ow (N+1) 0 36 n) (pX.cons (t:=8) (d:=dI .i64 (min 1 n:Nat)) pX.nil rfl rfl) rfl (iP (eR _)))
 ·rintro s ⟨hsn,hs0⟩
  refine AW.seq (rs hx fun K hK=>?_)
  iterate 4 refine sa ?_
  refine .nil (hK _ _ (AW.condS rfl (fun hb=>?_) (fun hb=>?_)))
  ·have cg:s<n:=by have:=xz hb;omega
   have hs1:0<s:=hs0 (by omega)
   refine AW.skip (AW.block (rqd [] hx fun K hK=>?_))
   iterate 3 refine sa ?_
   refine q1 (slT cg) ?_
   iterate 2 refine sa ?_
   refine q1 (slHd (by omega) (by omega)) ?_
   refine q1 (sCpW (c:=bo) (l:=xv a n s) (s:=((xv a n s).drop 0).take s) (m:=s) (n:=n - s) tok aF ax (vJ.lst ak 0 (by rw[Cy hsn];omega)) (by rw[ff,nZ,Cy hsn];omega) ak s (by rw[Cy hsn];omega) rfl) ?_
   rw[cont_cp hsn]
   iterate 2 refine sa ?_
   refine .nil (hK _ _ ?_)
   rw[show i64.wrap ((s:Int)+(min s (n - s):Nat))=((s+min s (n - s):Nat):Int) by rw[rS (by omega) (by omega)];omega]
   exact⟨s+min s (n - s),wkS (by rw[h0];show N≤N+1+1;omega) (bI _) (hokA _) (fun j ds h=>by rw[HO];exact h) (pX.cons (t:=7) (d:=.ow (N+1) 0 36 n) (pX.cons (t:=8) (d:=dI .i64 (s+min s (n - s):Nat)) pX.nil rfl rfl) rfl (iP (eR _))),⟨by omega,by omega⟩,by omega⟩
  ·refine AW.exit ?_
   have hsn2:s=n:=by have:=Bh hb;omega
   subst hsn2
   have GZ:xv a s s=List.replicate s a:=by unfold xv;simp
   rw[GZ]
   refine rs hx fun K hK=>?_
   iterate 2 refine sa ?_
   exact .nil (hK _ _ (AW.ret (⟨[(4,.ow (N+1) 0 36 s)],wkS (by rw[h0];show N≤N+1+1;omega) (bI _) (hokA _) (fun j ds h=>h) (pX.cons (t:=4) (d:=.ow (N+1) 0 36 s) pX.nil rfl (iP (eR _))),⟨_,ak,rfl⟩⟩)))
end
end
theorem PU(l:List Nu):(cW bo).f l=(cW ae).f (l.map nv):=by
 show l.flatMap bo.f=(l.map nv).flatMap ae.f
 rw[Qc]
 rfl
theorem Jb(l:List Nu):slE bo l=slE ae (l.map nv):=by
 unfold slE
 have:=PU l
 rw[bH]
 show E.sl 36 l.length ((cW bo).f l)=E.sl 36 l.length ((cW ae).f (l.map nv))
 rw[this]
structure ap where
 vR:Int
 vC:Int
 vV:List aj
 deriving Inhabited,DecidableEq
def aE:Cd ap:=⟨3,fun x=>[.lit (.int .i64 x.vR),.lit (.int .i64 x.vC),slE ae x.vV],fun _=>rfl⟩
end
end Go.Proofs.YtgfcnncojhkcoaaGreat
