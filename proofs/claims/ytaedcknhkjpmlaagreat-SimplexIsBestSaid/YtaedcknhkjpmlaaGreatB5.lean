/-
  Lemmas, part 5. Conditions: none.
-/
import Derived.Test.YtaedcknhkjpmlaaGreatB4
set_option linter.all false
set_option maxRecDepth 100000
namespace Go.Proofs.YtaedcknhkjpmlaaGreat
open Go.RowKit Go.IntKind Tryz
noncomputable section
theorem dg_cons {R d i:Nat}(hd:d<65536):dg 65536 (R*65536+d) (i+1)=dg 65536 R i:=by
 have e:(R*65536+d) / 65536=R:=by omega
 unfold dg
 rw[cz,bx (65536 ^ i),←gY,e]
theorem G_at {n A k:Nat}(hA:A<65536 ^ n):iJ (dk n A) (k:Int)=some ((dg 65536 A k:Nat):Int):=by
 unfold iJ
 rw[ci _ _,vo hA,ab]
theorem VG {l:List Int}{k:Int}(h:k<0):iJ l k=some 0:=by
 unfold iJ
 rw[cy _ _ h]
def Aj(A:Nat)(m:Nat):Nat:=if m<2 then 0 else dg 65536 A (m - 2)
theorem OA {A m:Nat}:Aj A m<65536:=by
 unfold Aj;split
 ·omega
 ·exact lf
theorem G_at2 {n A m:Nat}(hA:A<65536 ^ n)(hm:0<m)(Tg:m<100000):iJ (dk n A) (i64.wrap ((m:Int) - (2:Int)))=some ((Aj A m:Nat):Int):=by
 unfold Aj
 rw[bY]
 by_cases h:m<2
 ·rw[ai h,VG (by omega)];rfl
 ·rw[ah h,show (m:Int) - 2=((m - 2:Nat):Int) from by omega,G_at hA]
def M7(x0 x1 x2:Nat):Nat:=x0*4294967296+x1*65536+x2
theorem QI {x0 x1 x2:Nat}(h0:x0<65536)(h1:x1<65536)(h2:x2<65536):i64.wrap ((i64.wrap ((i64.wrap ((x0:Int)*(4294967296:Int)))+(i64.wrap ((x1:Int)*(65536:Int)))))+(x2:Int))=((M7 x0 x1 x2:Nat):Int):=by
 unfold M7
 rw[bY (z:=(x0:Int)*(4294967296:Int)) (by omega),bY (z:=(x1:Int)*(65536:Int)) (by omega),bY (z:=(x0:Int)*4294967296+(x1:Int)*65536) (by omega),bY]
 omega
theorem est3_lt {x0 x1 x2:Nat}(h0:x0<65536)(h1:x1<65536)(h2:x2<65536):M7 x0 x1 x2<281474976710656:=by
 unfold M7;omega
theorem quo_w {S T:Nat}(h:S<281474976710656):i64.wrap (Int.tdiv (S:Int) (T:Int))=((S / T:Nat):Int):=by
 have:=oQ S T
 rw[←tI]
 generalize S / T=q at this ⊢
 rw[bY]
theorem min_w {e:Nat}:min (65535:Int) (e:Int)=((min 65535 e:Nat):Int):=by omega
theorem est_ge {X B m:Nat}(hm:0<m)(hB:B<65536 ^ m)(TN:65536 ^ (m - 1)≤B)(hX:X<B*65536):
  X / B≤M7 (dg 65536 X m) (dg 65536 X (m - 1)) (Aj X m) / (dg 65536 B (m - 1)*65536+Aj B m):=by
 unfold M7
 have IH:0<B:=bH (bO (by decide)) TN
 have hXm:X<65536 ^ (m+1):=by
  rw[cz];exact bH hX (cK _ (mw hB))
 by_cases h:m<2
 ·obtain rfl:m=1:=by omega
  have eX:X=dg 65536 X 1*65536+dg 65536 X 0:=by
   have:=cw (b:=65536) (A:=X) (k:=0)
   rw[f4,m8] at this
   have e2:=cw (b:=65536) (A:=X) (k:=1)
   rw[eC hXm,gL,br] at e2
   rw[←e2];exact this
  have eB:B=dg 65536 B 0:=by
   have:=cw (b:=65536) (A:=B) (k:=0)
   rw[f4,m8,eC hB,gL,br] at this
   exact this
  unfold Aj
  rw[ai (by omega),ai (by omega),iM,iM,show 1 - 1=0 from rfl,←eB]
  have:dg 65536 X 1*4294967296+dg 65536 X 0*65536=X*65536:=by omega
  rw[this,Nat.mul_div_mul_right _ _ (by decide)]
  exact ax _
 ·obtain⟨p,rfl⟩:∃p,m=p+2:=⟨m - 2,by omega⟩
  have hp:0<65536 ^ p:=bO (by decide)
  have eX:X / 65536 ^ p=dg 65536 X (p+2)*4294967296+dg 65536 X (p+1)*65536+dg 65536 X p:=by
   have e0:=cw (b:=65536) (A:=X) (k:=p)
   have e1:=cw (b:=65536) (A:=X) (k:=p+1)
   have e2:=cw (b:=65536) (A:=X) (k:=p+2)
   rw[eC hXm,gL,br] at e2
   rw[e0,e1,show p+1+1=p+2 from rfl,e2,bX,e7]
  have eB:B / 65536 ^ p=dg 65536 B (p+1)*65536+dg 65536 B p:=by
   have e0:=cw (b:=65536) (A:=B) (k:=p)
   have e1:=cw (b:=65536) (A:=B) (k:=p+1)
   rw[eC hB,gL,br] at e1
   rw[e0,e1]
  unfold Aj
  rw[ah h,ah h,show p+2 - 2=p from rfl,show p+2 - 1=p+1 from rfl,←eX,←eB]
  have hT:0<B / 65536 ^ p:=by
   refine E3 (dv ?_ TN) hp
   exact gX (by decide) (by omega)
  rw[pN hT,pN hp,e7]
  refine dv (AD _ (NF _ _)) ?_
  rw[bx]
  exact Nat.mul_div_le _ _
theorem Kx {X B d:Nat}(hB:0<B):X<B*d↔X / B<d:=by
 rw[lR hB,bx]
theorem T8 {X B m:Nat}(hm:m<900)(hB:B<65536 ^ m)(IH:0<B)(hXs:sz6 X≤m+1)(d:Nat)(hd:X / B≤d)(yo:d≤65535):
  bq (iG (dk m B) (dl X)) ((d:Int),dl (B*d))=some (((X / B:Nat):Int),dl (B*(X / B))):=by
 obtain⟨x,hl,hx⟩:=vE (b:=iG (dk m B) (dl X)) (fun s=>∃d:Nat,s=((d:Int),dl (B*d))∧X / B≤d∧d≤65535) (fun s=>s.1.toNat) (fun x=>x=(((X / B:Nat):Int),dl (B*(X / B))))
  (by
   rintro s ⟨d,rfl,h1,h2⟩
   have hBd:B*d<65536 ^ (m+1):=by
    rw[cz];exact Nat.mul_lt_mul_of_lt_of_le hB (by omega) (by decide)
   have hsz:=rK hBd
   dsimp only[iG]
   rw[G_dless (jU X) (jU (B*d)) (by omega) (by omega),ab]
   by_cases bI:X<B*d
   ·left
    have h3:=(Kx IH).1 bI
    have wn:0<d:=dq (cr _) h3
    have h4:B≤B*d:=Ht _ wn
    refine⟨_,by rw[cy _ _ bI,LL (jU (B*d)) hB (by omega) h4,ab,bY],⟨d - 1,?_,by omega,by omega⟩,?_⟩
    ·rw[Nat.mul_sub,yz]
     congr 1
     omega
    ·show ((d:Int) - 1).toNat<((d:Nat):Int).toNat
     omega
   ·right
    have h3:=mt (Kx IH).2 bI
    obtain rfl:d=X / B:=by omega
    exact⟨_,by rw[ci _ _ bI],rfl⟩) ((d:Int),dl (B*d)) ⟨d,rfl,hd,yo⟩
 rw[hl,hx]
set_option maxRecDepth 10000 in
theorem LM {A B:Nat}(hA:sz6 A<800)(hBs:sz6 B<800)(IH:0<B):iI (dl A) (dl B)=some (dl (A / B),dl (A % B)):=by
 obtain⟨m,hm⟩:∃m,m=sz6 B:=⟨_,rfl⟩
 obtain⟨n,hn⟩:∃n,n=sz6 A:=⟨_,rfl⟩
 have hB:=jU B
 have TN:=(zX B).2 (Da IH)
 have FQ:=Da IH
 have hAn:=jU A
 show iI (dk (sz6 A) A) (dk (sz6 B) B)=_
 rw[←hm] at hB TN FQ hBs ⊢
 rw[←hn] at hAn hA ⊢
 have fJ:1≤dg 65536 B (m - 1):=by
  have:=cw (b:=65536) (A:=B) (k:=m - 1)
  rw[show m - 1+1=m from by omega,eC hB,gL,br] at this
  rw[←this]
  exact (pN (bO (by decide))).2 (by rw[e8];exact TN)
 have hbl:=@lf B (m - 1)
 have MQ:=@OA B m
 have em1:i64.wrap ((m:Int) - (1:Int))=((m - 1:Nat):Int):=by rw[bY];omega
 have hm5:m<100000:=by omega
 have htop:((dg 65536 B (m - 1)*65536+Aj B m:Nat):Int)≠0:=by omega
 have hl:=Ss (b:=iH (dk n A) (dk m B) ((dg 65536 B (m - 1)*65536+Aj B m:Nat):Int)) (s0:=(([]:List Int),(n:Int) - 1,List.replicate n (0:Int))) (fun k=>(dl (A / 65536 ^ k % B),(k:Int) - 1,lF n (fun j=>if k≤j then dg 65536 (A / B) j else 0))) n (dl (A / 65536 ^ 0 % B),lF n (fun j=>if 0≤j then dg 65536 (A / B) j else 0))
  (by
   rw[eC hAn,Nat.zero_mod,dl_zero,SB]
   congr 2
   exact uL fun j hj=>ah (by omega))
  (fun k hk=>by
   obtain⟨h1,h2⟩:=yT (b:=65536) (A:=A) (k:=k) (d:=B) (by decide) IH
   have hr:=ej (A / 65536 ^ (k+1)) IH
   have ha:=@lf A k
   generalize A / 65536 ^ (k+1) % B=R at h1 h2 hr ⊢
   generalize A / 65536 ^ k % B=R' at h2 ⊢
   have hX:R*65536+dg 65536 A k<B*65536:=by
    have:(R+1)*65536≤B*65536:=cK _ hr
    omega
   have hRs:sz6 R≤m:=rK (by omega)
   have hXm:R*65536+dg 65536 A k<65536 ^ (m+1):=by
    rw[cz];exact bH hX (cK _ (mw hB))
   have hXs:=rK hXm
   have hcons:[(dg 65536 A k:Int)]++dl R=dk (sz6 R+1) (R*65536+dg 65536 A k):=by
    unfold dl
    rw[lF_cons]
    exact uL fun j hj=>by
     by_cases hj0:j=0
     ·subst hj0
      rw[ai rfl]
      unfold dg
      rw[f4,m8]
      have:=@lf A k
      unfold dg at this
      omega
     ·rw[ah hj0]
      obtain⟨i,rfl⟩:∃i,j=i+1:=⟨j - 1,by omega⟩
      exact (dg_cons ha).symm
   have hXlt:R*65536+dg 65536 A k<65536 ^ (sz6 R+1):=by
    have:=jU R
    rw[cz]
    have h3:(R+1)*65536≤65536 ^ sz6 R*65536:=cK _ this
    rw[bX,e8] at h3
    exact bH (E8 ha _) h3
   have hszR:sz6 R+1<1000:=by
    have:=dq hRs hBs
    exact bH (Nat.succ_lt_succ this) (by decide)
   have ei:((k+1:Nat):Int) - 1=(k:Int):=by omega
   have Qp:=est_ge FQ hB TN hX
   have d1:=@lf (R*65536+dg 65536 A k) m
   have d2:=@lf (R*65536+dg 65536 A k) (m - 1)
   have d3:=@OA (R*65536+dg 65536 A k) m
   have hqk:(R*65536+dg 65536 A k) / B<65536:=(lR IH).2 (by rw[bx 65536 B];exact hX)
   dsimp only[iH]
   rw[ei,cy _ _ (Jb k)]
   rw[cJ,cJ,cJ]
   rw[aB (show (0:Int)≤(k:Int)∧(k:Int)<(n:Int) from⟨Jb k,Int.ofNat_lt.2 hk⟩)]
   rw[bW,bW]
   rw[qF hk,hcons,cJ]
   rw[aB (show (sz6 R+1)*8≤140737488355328 from dv (cK _ (mw hszR)) (by decide))]
   rw[zE hXlt (B1 hszR (by decide)),ab,G_at (jU _),ab]
   rw[show i64.wrap ((m:Int) - (1:Int))=((m - 1:Nat):Int) from em1,G_at (jU _),ab,G_at2 (jU _) FQ hm5,ab,aB htop]
   obtain⟨X,hX2⟩:∃X,X=R*65536+dg 65536 A k:=⟨_,rfl⟩
   rw[←hX2] at h1 h2 hX hXm hXs hXlt Qp d1 d2 d3 hqk ⊢
   generalize dg 65536 X m=x0 at Qp d1 ⊢
   generalize dg 65536 X (m - 1)=x1 at Qp d2 ⊢
   generalize Aj X m=x2 at Qp d3 ⊢
   have hS:=est3_lt d1 d2 d3
   rw[QI d1 d2 d3,quo_w hS]
   generalize M7 x0 x1 x2 / (dg 65536 B (m - 1)*65536+Aj B m)=e at Qp ⊢
   have Di:X / B≤min 65535 e:=Nat.le_min.2 ⟨Nat.le_of_lt_succ hqk,Qp⟩
   have yo:min 65535 e≤65535:=Nat.min_le_left ..
   rw[min_w,ab]
   generalize min 65535 e=d at Di yo ⊢
   have e1:[(d:Int)]=dk 1 d:=by
    show _=lF 1 _
    unfold lF dg
    simp only[List.range_one,iW,l8,f4,m8]
    rw[ep (by omega)]
   have hmul:B*(X / B)≤X:=Nat.mul_div_le _ _
   have hms:sz6 (B*(X / B))≤m+1:=rK (by omega)
   rw[e1,VE hB (by rw[w7];omega) (by omega) (by omega),ab,T8 (by omega) hB IH hXs d Di yo,ab]
   dsimp only
   rw[aB,LL (jU X) (jU _) (by omega) hmul,ab,bY,MC]
   have em:X - B*(X / B)=X % B:=by have:=lS X B;omega
   rw[em,h2,h1]
   have ef:lF n (fun j=>if j=k then dg 65536 (A / B) k else if k+1≤j then dg 65536 (A / B) j else 0)=lF n (fun j=>if k≤j then dg 65536 (A / B) j else 0):=uL fun j _=>by
    by_cases h:j=k
    ·rw[ai h,ai (by omega),h]
    ·rw[ah h]
     by_cases h3:k+1≤j
     ·rw[ai h3,ai (by omega)]
     ·rw[ah h3,ah (by omega)]
   rw[ef])
  (by
   dsimp only[iH]
   rw[ci _ _])
 have hq:A / B<65536 ^ n:=dq (oQ _ _) hAn
 unfold iI
 rw[cJ,cJ,aB,show i64.wrap ((m:Int) - (1:Int))=((m - 1:Nat):Int) from by rw[bY];omega,aB,G_at2 hB FQ (by omega),ab,bW,bW,qF (by omega),bY (z:=(dg 65536 B (m - 1):Int)*65536) (by omega),bY,ab,bY,ab,show (dg 65536 B (m - 1):Int)*65536+(Aj B m:Int)=((dg 65536 B (m - 1)*65536+Aj B m:Nat):Int) from by omega,hl,ab]
 dsimp only
 rw[cJ,aB rfl,uL (n:=n) (f:=fun j=>if 0≤j then dg 65536 (A / B) j else 0) (g:=dg 65536 (A / B)) fun j _=>ai (cr _),zE hq (by omega),ab,f4,m8]
theorem LIM6:LIM=65536 ^ 32:=by decide +kernel
theorem O6 {A k:Nat}:dg 4294967296 A k=dg 65536 A (2*k+1)*65536+dg 65536 A (2*k):=by
 have e:(4294967296:Nat) ^ k=65536 ^ (2*k):=by rw[B5]
 unfold dg
 rw[e,cz,←gY]
 omega
theorem VF {x:ao}{A:Nat}(hx:x.vW=W A)(hA:A<LIM):bA x=some (dl A):=by
 have hl:=rR (b:=jw x) (s0:=(([]:List Int),(0:Int))) (fun k=>(dk (2*k) A,(k:Int))) 16 (dk 32 A)
  (by rfl)
  (fun k hk=>by
   have hp:=O6 (A:=A) (k:=k)
   have h0:=@lf A (2*k)
   have h1:=@lf A (2*k+1)
   dsimp only[jw]
   rw[cy _ _,aB,aB,hx,bW,gN hk]
   have e1:i64.wrap (Int.tmod (dg 4294967296 A k:Int) (65536:Int))=(dg 65536 A (2*k):Int):=by
    rw[show (65536:Int)=((65536:Nat):Int) from rfl,←tH,bY];omega
   have e2:i64.wrap (u32.wrap (Int.tdiv (dg 4294967296 A k:Int) (65536:Int)))=(dg 65536 A (2*k+1):Int):=by
    rw[show (65536:Int)=((65536:Nat):Int) from rfl,←tI,A9,bY];omega
   rw[e1,e2,show dk (2*k) A++[(dg 65536 A (2*k):Int),(dg 65536 A (2*k+1):Int)]=(dk (2*k) A++[(dg 65536 A (2*k):Int)])++[(dg 65536 A (2*k+1):Int)] from by rw[c5];rfl,Al,Al,cJ,aB,bY]
   rfl)
  (by
   dsimp only[jw]
   rw[ci _ _])
 unfold bA
 rw[hl,ab,zE (by rw[←LIM6];exact hA) (by decide),ab]
theorem Vx:fq=some BU:=by unfold fq;rw[r16];rfl
theorem Sk {n A:Nat}(hn:n≤32)(neg:Bool):
  bq (fY (dk n A)) ((0:Int),(⟨false,neg,W 0⟩:ao))=some (⟨false,neg,W (A % 65536 ^ n)⟩:ao):=by
 have hb:0<(4294967296:Nat):=by decide
 have hl:=rR (b:=fY (dk n A)) (s0:=((0:Int),(⟨false,neg,W 0⟩:ao))) (fun k=>((k:Int),(⟨false,neg,W (A % 65536 ^ k)⟩:ao))) n (⟨false,neg,W (A % 65536 ^ n)⟩:ao)
  (by rw[f4,m9];rfl)
  (fun k hk=>by
   have h0:=@lf A k
   have bI:A % 65536 ^ k<65536 ^ k:=ej _ (bO (by decide))
   have hdiv:i64.wrap (Int.tdiv (k:Int) (2:Int))=((k / 2:Nat):Int):=by
    rw[show (2:Int)=((2:Nat):Int) from rfl,←tI,bY]
   have e1:=O6 (A:=A % 65536 ^ k) (k:=k / 2)
   have hu:=fun x:Nat=>L9 (b:=4294967296) (A:=A % 65536 ^ k) (p:=k / 2) (x:=x)
   dsimp only[fY]
   rw[cJ,cy _ _,hdiv,aB,aB,aB,ab,aB,aB,aB,ab,bW,bW,gN (by omega),qF hk,show (2:Int)=((2:Nat):Int) from rfl,←tH,A9 (n:=dg 65536 A k) (by omega),fH]
   have ru:A % 65536 ^ (k+1)=A % 65536 ^ k+65536 ^ k*dg 65536 A k:=g6
   have hpow:(4294967296:Nat) ^ (k / 2)=65536 ^ (2*(k / 2)):=by rw[B5]
   by_cases he:k % 2=0
   ·have zc:2*(k / 2)=k:=by omega
    have d0:dg 4294967296 (A % 65536 ^ k) (k / 2)=0:=by
     rw[e1,zc,l5 bI,l5 (bH bI (gX (by decide) (by omega)))]
    rw[ai (by omega),ab,d0,←kB,A9,A5 hb (by omega) (by omega),bY]
    have:=hu (0+dg 65536 A k)
    rw[d0,hpow,zc] at this
    rw[gL,iM,br] at this
    rw[show up1 4294967296 (A % 65536 ^ k) (k / 2) (0+dg 65536 A k)=A % 65536 ^ (k+1) from by rw[ru,bx (65536 ^ k),br];exact this]
    rfl
   ·have zc:2*(k / 2)+1=k:=by omega
    have d1:dg 4294967296 (A % 65536 ^ k) (k / 2)=dg 65536 A (2*(k / 2)):=by
     rw[e1,zc,l5 bI,gL,br,nM (by omega)]
    have h2:=@lf A (2*(k / 2))
    rw[ah (by omega),ab,d1,show ((dg 65536 A k:Nat):Int)*(65536:Int)=((dg 65536 A k*65536:Nat):Int) from by omega,A9 (n:=dg 65536 A k*65536) (by omega),←kB,A9,A5 hb (by omega) (by omega),bY]
    have:=hu (dg 65536 A (2*(k / 2))+dg 65536 A k*65536)
    rw[d1,hpow,bX] at this
    have c7:65536 ^ (2*(k / 2))*65536=(65536:Nat) ^ k:=by rw[←cz];exact congrArg _ zc
    have e3:dg 65536 A k*65536*65536 ^ (2*(k / 2))=65536 ^ k*dg 65536 A k:=by
     rw[e7,bx 65536,c7,bx]
    rw[e3,Nat.add_left_comm,qw] at this
    have wg:=Nat.add_left_cancel this
    rw[show up1 4294967296 (A % 65536 ^ k) (k / 2) (dg 65536 A (2*(k / 2))+dg 65536 A k*65536)=A % 65536 ^ (k+1) from by rw[ru];exact wg]
    rfl)
  (by
   dsimp only[fY]
   rw[cJ,ci _ _])
 exact hl
theorem FB {n A:Nat}(hA:A<65536 ^ n)(hn:n<100000)(neg:Bool):cg neg (dk n A)=some (enc (bif neg then -(A:Int) else (A:Int))):=by
 have hiff:32<sz6 A↔¬A<LIM:=by
  rw[LIM6]
  constructor
  ·intro h h2
   have:=rK h2;omega
  ·intro h
   rcases dX 32 (sz6 A) with h1|h1
   ·exact h1
   ·exact absurd (bH (jU A) (gX (by decide) h1)) h
 have FX:(bif neg then -(A:Int) else (A:Int)).natAbs=A:=by cases neg <;> simp
 unfold cg
 rw[zE hA (by omega),ab,Nb,r16]
 by_cases h:32<sz6 A
 ·rw[cy _ _,Vx,ab,Ey (by rw[FX];exact hiff.1 h)]
 ·have hAL:A<LIM:=Decidable.byContradiction fun h2=>h (hiff.2 h2)
  have oc:decide ((0:Int)<((sz6 A:Nat):Int))= !decide (A=0):=by
   rw[←Lp]
   refine li.2 ?_
   constructor
   ·intro h3 h4;subst h4;rw[DH] at h3;omega
   ·intro h3;have:=Da (zx h3);omega
  have SS:(cnd neg (bnd (some ((⟨false,decide ((0:Int)<((sz6 A:Nat):Int)),W 0⟩:ao))) fun x7=>some (x7)) (some ((⟨false,false,W 0⟩:ao))))=some (⟨false,neg&&!decide (A=0),W 0⟩:ao):=by
   rw[ab,oc]
   cases neg <;> rfl
  rw[ci _ _,SS,ab,Sk (by omega),ab,ep (jU A),T4 hAL]
theorem zeroW {v:Vector Int 16}:(∀j:Nat,j<16→v[j]! =0)↔v=W 0:=by
 constructor
 ·intro h
  apply oi
  intro j hj
  rw[h j hj,gN hj]
  unfold dg;simp
 ·rintro rfl j hj
  rw[gN hj]
  unfold dg;simp
theorem iw(x:ao):bk x=some (dU x):=by
 have hl:=rR (b:=ke x) (s0:=(true,(0:Int))) (fun k=>(decide (∀j:Nat,j<k→x.vW[j]! =0),(k:Int))) 16 (decide (∀j:Nat,j<16→x.vW[j]! =0))
  (by
   rw[aA (p:=∀j:Nat,j<0→x.vW[j]! =0) (fun j hj=>by omega)]
   rfl)
  (fun k hk=>by
   dsimp only[ke]
   rw[cy _ _,aB,bW,cnd_and,ab,bY,←Bool.decide_and]
   have:((∀j:Nat,j<k→x.vW[j]! =0)∧x.vW[k]! =0)↔∀j:Nat,j<k+1→x.vW[j]! =0:=by
    constructor
    ·rintro⟨h1,h2⟩ j hj
     by_cases h:j=k
     ·rw[h];exact h2
     ·exact h1 j (by omega)
    ·intro h
     exact⟨fun j hj=>h j (by omega),h k (by omega)⟩
   rw[li.2 this]
   rfl)
  (by
   dsimp only[ke]
   rw[ci _ _])
 have hz:decide (∀j:Nat,j<16→x.vW[j]! =0)=decide (x.vW=W 0):=li.2 zeroW
 unfold bk pY dU
 rw[hl,ab,hz]
 cases x.vBad <;> cases decide (x.vW=W 0) <;> cases x.vNeg <;> rfl
theorem OM {A:Nat}(hA:A<LIM)(h:∀j,2≤j→j<16→dg 4294967296 A j=0):A / 4294967296 ^ 2=0:=by
 have key:∀d,d≤14→A / 4294967296 ^ (16 - d)=0:=by
  intro d
  induction d with
  |zero=>intro _;exact eC hA
  |succ d ih=>
   intro hd
   have h1:=ih (by omega)
   have h2:=cw (b:=4294967296) (A:=A) (k:=16 - (d+1))
   rw[show 16 - (d+1)+1=16 - d from by omega,h1,gL,br,h _ (by omega) (by omega)] at h2
   exact h2
 exact key 14 (ax _)
structure mV(a:Int):Prop where
 h:a.natAbs<4611686018427387904
instance(a:Int):Decidable (mV a):=decidable_of_iff (a.natAbs<4611686018427387904) ⟨fun h=>⟨h⟩,fun h=>h.h⟩
theorem Rq {A:Nat}(hA:A<LIM):A<4611686018427387904↔dg 4294967296 A 1<1073741824∧∀j,2≤j→j<16→dg 4294967296 A j=0:=by
 constructor
 ·intro h
  refine⟨?_,fun j h1 _=>l5 (bH h ?_)⟩
  ·unfold dg;rw[w7];omega
  ·exact dv (by decide:4611686018427387904≤4294967296 ^ 2) (gX (by decide) h1)
 ·rintro⟨h1,h2⟩
  have h3:=OM hA h2
  have h4:=cw (b:=4294967296) (A:=A) (k:=1)
  rw[show 1+1=2 from rfl,h3,gL,br,w7] at h4
  omega
theorem JA {a:Int}(ha:a.natAbs<LIM):eL (enc a)=some (if mV a then (a,true) else (0,false)):=by
 have hwi:=Rq ha
 obtain⟨x,hl,hx⟩:=vE (b:=mH (enc a)) (fun s=>∃k:Nat,s=(k:Int)∧2≤k∧k≤16∧∀j,2≤j→j<k→dg 4294967296 a.natAbs j=0) (fun s=>16 - s.toNat) (fun x=>match x with| .inl r=>r=((0:Int),false)∧¬(∀j,2≤j→j<16→dg 4294967296 a.natAbs j=0)| .inr _=>∀j,2≤j→j<16→dg 4294967296 a.natAbs j=0)
  (by
   rintro s ⟨k,rfl,zc,hk,hz⟩
   dsimp only[mH]
   rw[lZ ha]
   by_cases h16:k<16
   ·rw[cy _ _,aB,bW,gN h16]
    by_cases hd:dg 4294967296 a.natAbs k=0
    ·left
     refine⟨((k+1:Nat):Int),by rw[ci _ _,bY];rfl,⟨k+1,rfl,by omega,by omega,fun j h1 h2=>?_⟩,by omega⟩
     by_cases h:j=k
     ·rw[h];exact hd
     ·exact hz j h1 (by omega)
    ·right
     refine⟨(Sum.inl ((0:Int),false):(Int×Bool)⊕Unit),by rw[cy _ _],rfl,fun h=>hd (h k zc h16)⟩
   ·right
    refine⟨(Sum.inr ():(Int×Bool)⊕Unit),by rw[ci _ _],?_⟩
    obtain rfl:k=16:=by omega
    exact hz) (2:Int) ⟨2,rfl,by omega,by omega,fun j h1 h2=>by omega⟩
 have e1:(W a.natAbs)[((1:Int)).toNat]! =(dg 4294967296 a.natAbs 1:Int):=gN (by decide)
 have e0:(W a.natAbs)[((0:Int)).toNat]! =(dg 4294967296 a.natAbs 0:Int):=gN (by decide)
 have d0:=@dgl a.natAbs 0
 unfold eL
 rw[iw,bf ha,ab,cG,aF,ab,lZ ha,e1,e0,jT ha]
 by_cases h1:dg 4294967296 a.natAbs 1<1073741824
 ·rw[ci _ _,hl,ab]
  cases x with
  |inl r=>
   obtain⟨rfl,h2⟩:=hx
   have:¬mV a:=fun h=>h2 (hwi.1 h.h).2
   rw[ah this]
  |inr u=>
   have h2:mV a:=⟨hwi.2 ⟨h1,hx⟩⟩
   have h3:=OM ha hx
   have h4:=cw (b:=4294967296) (A:=a.natAbs) (k:=1)
   rw[show 1+1=2 from rfl,h3,gL,br,w7] at h4
   have h5:dg 4294967296 a.natAbs 0=a.natAbs % 4294967296:=by unfold dg;rw[f4,m8]
   have h6:(dg 4294967296 a.natAbs 1:Int)*4294967296+(dg 4294967296 a.natAbs 0:Int)=(a.natAbs:Int):=by omega
   have h7:=h2.h
   dsimp only
   rw[bY (z:=(dg 4294967296 a.natAbs 1:Int)) (by omega),bY (z:=(dg 4294967296 a.natAbs 1:Int)*4294967296) (by omega),bY (z:=(dg 4294967296 a.natAbs 0:Int)) (by omega),h6,bY (z:=(a.natAbs:Int)) (by omega),ab,fH,ai h2]
   by_cases hn:a<0
   ·rw[ai hn,bY,show (0:Int) - (a.natAbs:Int)=a from by omega]
   ·rw[ah hn,show (a.natAbs:Int)=a from by omega]
 ·have:¬mV a:=fun h=>h1 (hwi.1 h.h).1
  rw[cy _ _,ah this]
theorem dk4 {N:Nat}:dk 4 N=[(dg 65536 N 0:Int),(dg 65536 N 1:Int),(dg 65536 N 2:Int),(dg 65536 N 3:Int)]:=rfl
theorem of4 {N:Nat}(hN:N<9223372036854775808):[Int.tmod (N:Int) (65536:Int),Int.tmod (i64.wrap (Int.tdiv (N:Int) (65536:Int))) (65536:Int),Int.tmod (i64.wrap (Int.tdiv (N:Int) (4294967296:Int))) (65536:Int),i64.wrap (Int.tdiv (N:Int) (281474976710656:Int))]=dk 4 N:=by
 have e1:i64.wrap (Int.tdiv (N:Int) (65536:Int))=((N / 65536:Nat):Int):=by
  rw[show (65536:Int)=((65536:Nat):Int) from rfl,←tI,bY]
 have e2:i64.wrap (Int.tdiv (N:Int) (4294967296:Int))=((N / 4294967296:Nat):Int):=by
  rw[show (4294967296:Int)=((4294967296:Nat):Int) from rfl,←tI,bY]
 have e3:i64.wrap (Int.tdiv (N:Int) (281474976710656:Int))=((N / 281474976710656:Nat):Int):=by
  rw[show (281474976710656:Int)=((281474976710656:Nat):Int) from rfl,←tI,bY]
 rw[e1,e2,e3,dk4,show (65536:Int)=((65536:Nat):Int) from rfl,←tH,←tH,←tH]
 have d0:dg 65536 N 0=N % 65536:=by unfold dg;rw[f4,m8]
 have d1:dg 65536 N 1=N / 65536 % 65536:=by unfold dg;rw[w7]
 have d2:dg 65536 N 2=N / 4294967296 % 65536:=rfl
 have d3:dg 65536 N 3=N / 281474976710656:=by
  have:dg 65536 N 3=N / 281474976710656 % 65536:=rfl
  rw[this];omega
 rw[d0,d1,d2,d3]
theorem Sg:[(1:Int)]=dk 1 1:=rfl
theorem rm {n:Int}(h1:-9223372036854775808≤n)(h2:n≤9223372036854775807):eN n=some (enc n):=by
 unfold eN
 by_cases hn:0≤n
 ·obtain⟨N,rfl⟩:∃N:Nat,n=(N:Int):=⟨n.toNat,by omega⟩
  have hN4:N<65536 ^ 4:=bH (show N<9223372036854775808 by omega) (by decide)
  rw[cy _ _ hn,of4 (by omega),FB hN4 (by decide),ab]
  rfl
 ·obtain⟨M,hM⟩:∃M:Nat,-(n+1)=(M:Int):=⟨(-(n+1)).toNat,by omega⟩
  have hM4:M<65536 ^ 4:=bH (show M<9223372036854775808 by omega) (by decide)
  have e:i64.wrap (0 - (i64.wrap (n+(1:Int))))=(M:Int):=by
   rw[bY (z:=n+1) (by omega),bY];omega
  rw[ci _ _ hn,e,ab,of4 (by omega),Sg,Pz hM4 (by decide) (by decide) (by decide),ab,FB (A:=M+1) (jU _) (dq (rK (A:=M+1) (n:=5) (dq (show M+1≤65536 ^ 4 from hM4) (by decide))) (by decide)),ab]
  congr 2
  simp only[kA]
  omega
theorem uG {A:Nat}(h:A<LIM):sz6 A≤32:=rK (by rw[←LIM6];exact h)
theorem sz_add {A B:Nat}(hA:A<LIM)(hB:B<LIM):sz6 (A+B)≤33:=rK (by
 have h1:A+B<2*LIM:=by omega
 have h2:2*LIM≤65536 ^ 33:=by rw[LIM6,cz,bx];exact AD _ (by decide)
 exact bH h1 h2)
theorem HM {A:Nat}(h:sz6 A≤1000)(neg:Bool):cg neg (dl A)=some (enc (bif neg then -(A:Int) else (A:Int))):=
 FB (jU A) (dq h (by decide)) neg
theorem mS {a:Int}(ha:a.natAbs<LIM):bA (enc a)=some (dl a.natAbs):=VF (lZ ha) ha
theorem Vy {a:Int}(ha:a.natAbs<LIM):qq (enc a)=some (enc (a.natAbs:Int)):=by
 unfold qq
 rw[iw,bf ha,ab,cG,aF,mS ha,ab,HM (dv (uG ha) (by decide)),ab]
 rfl
theorem Vw {a:Int}(ha:a.natAbs<LIM):qp (enc a)=some (enc (-a)):=by
 unfold qp
 rw[iw,bf ha,ab,cG,aF,mS ha,ab,jT ha,HM (dv (uG ha) (by decide)),ab]
 congr 2
 by_cases h:a<0
 ·simp only[h,sn,cG,cond_false];omega
 ·simp only[h,si,qM,kA];omega
theorem HK {a:Int}(ha:a.natAbs<LIM):kZ (enc a)=some a.sign:=by
 unfold kZ
 rw[iw,bf ha,ab,cG,aF,mS ha,ab,ab,jT ha]
 have hz:((dl a.natAbs).length:Int)=0↔a=0:=by
  rw[show ((dl a.natAbs).length:Int)=0↔(dl a.natAbs).length=0 from by omega,Na];omega
 rcases w9 a 0 with h|h|h
 ·rw[ci _ _ (by rw[hz];omega),cy _ _ h,w8 h]
 ·subst h;rw[cy _ _ (hz.2 rfl)];rfl
 ·rw[ci _ _ (by rw[hz];omega),ci _ _,sh h]
theorem fast2(p q:Prop)[Decidable p][Decidable q](a c:Int):(cnd (if p then (a,true) else (0,false):Int×Bool).2 (some (if q then (c,true) else (0,false):Int×Bool).2) (some false))=some (decide (p∧q)):=by
 by_cases hp:p <;> by_cases hq:q <;> simp[hp,hq,cnd]
theorem good2r(x y:ao):(bnd (S:=Bool) (bnd (bk x) fun n7=>cnd (!n7) (some (true)) (bnd (bk y) fun qA=>some (!qA))) fun b=>some b)=some (!(dU x&&dU y)):=by
 rw[iw,iw,ab,ab]
 cases dU x <;> cases dU y <;> rfl
theorem G_floor {n m:Int}(FQ:m≠0)(hn:n.natAbs<4611686018427387904):np n m=some (n.fdiv m):=by
 obtain⟨h1,h2,h3⟩:=Bc (x:=n) FQ
 have hq:=Kd (x:=n) (y:=m) (by omega)
 have hnq:(n.tdiv m).natAbs≤n.natAbs:=by rw[Int.natAbs_tdiv];exact oQ _ _
 have q9:(cnd (decide ((Int.tmod n m)≠(0:Int))) (some (!((decide (n<(0:Int))) == (decide (m<(0:Int)))))) (some (false)))=some (decide (n.fdiv m≠n.tdiv m)):=by
  rw[←h1,fH,fH]
  by_cases h:n.tmod m≠0
  ·rw[ai h,ai h]
   congr 3
   refine li.2 ?_
   constructor
   ·intro oc
    have:=Int.tmod_nonneg m (show 0≤-n by omega)
    rw[Int.neg_tmod] at this
    omega
   ·intro oc
    by_cases h4:n<0
    ·exact h4
    ·have:=Int.tmod_nonneg m (show 0≤n by omega)
     omega
  ·rw[ah h,ah h]
 unfold np
 rw[aB FQ,aB FQ,q9,ab,fH]
 by_cases h:n.fdiv m=n.tdiv m
 ·rw[ah (fun hh=>hh h),ab,bY,h]
 ·rw[ai h,bY (z:=n.tdiv m) (by omega),bY,ab,ab,(h2 h).1]
theorem R3 {a c:Int}(h0:c≠0):(bif (!(decide (a<0) == decide (c<0))) then -((a.natAbs / c.natAbs+(if a.natAbs % c.natAbs=0 then 0 else 1):Nat):Int) else ((a.natAbs / c.natAbs:Nat):Int))=a.fdiv c:=by
 have hr:=ej a.natAbs (show 0<c.natAbs by omega)
 have hdm:=lS a.natAbs c.natAbs
 have MS:(c.natAbs:Int)*((a.natAbs / c.natAbs:Nat):Int)+((a.natAbs % c.natAbs:Nat):Int)=(a.natAbs:Int):=by rw[←ig,←kB,hdm]
 generalize a.natAbs / c.natAbs=Q at MS ⊢
 generalize a.natAbs % c.natAbs=R at MS hr ⊢
 have hmul:∀z:Int,z*c=(if c<0 then -1 else 1)*((c.natAbs:Int)*z):=by
  intro z
  split
  ·have e:c=-(c.natAbs:Int):=by omega
   conv=>lhs;rw[e]
   rw[B6,E4,zu,lh]
  ·have e:c=(c.natAbs:Int):=by omega
   conv=>lhs;rw[e]
   rw[zu,lh]
 by_cases hs:decide (a<0)=decide (c<0)
 ·have KF:=li.1 hs
  rw[hs,E7,cG,cond_false]
  exact (mL (x:=a) h0 (Q:Int) (if c<0 then -(R:Int) else (R:Int)) (by rw[hmul];split <;> omega) (by split <;> omega)).1
 ·have KF:¬((a<0)↔(c<0)):=fun h=>hs (li.2 h)
  have hb:(decide (a<0) == decide (c<0))=false:=Lt.2 hs
  rw[hb,qM,kA]
  by_cases hR:R=0
  ·rw[ai hR]
   refine (mL (x:=a) h0 _ 0 ?_ (by omega)).1
   rw[hmul,B6,iM]
   split <;> omega
  ·rw[ah hR]
   refine (mL (x:=a) h0 _ (if c<0 then -((c.natAbs:Int) - (R:Int)) else (c.natAbs:Int) - (R:Int)) ?_ (by split <;> omega)).1
   rw[hmul,B6,kB,Int.mul_add]
   split <;> omega
theorem dig1(A:Nat):decide (((dl A).length:Int)=0)=decide (A=0):=by
 refine li.2 ?_
 rw[show ((dl A).length:Int)=0↔(dl A).length=0 from by omega,Na]
theorem dig2(A:Nat):decide ((0:Int)<((dl A).length:Int))=decide (A≠0):=by
 refine li.2 ?_
 have:=@Na A
 omega
theorem good3r {x:ao}{c:Int}(_hx:okI x)(hc:c.natAbs<LIM):(bnd (S:=Bool) (bnd (bk x) fun qA=>cnd (!qA) (some (true)) (bnd (bk (enc c)) fun AY=>cnd (!AY) (some (true)) (bnd (bA (enc c)) fun vU=>some (decide (((vU).length:Int)=(0:Int)))))) fun b=>some b)=some (!(dU x&&decide (c≠0))):=by
 rw[iw,iw,mS hc,ab,ab,ab,bf hc,dig1,uX]
 have:decide (c≠0)= !decide (c.natAbs=0):=by
  rw[←Lp];exact li.2 (by omega)
 rw[this]
 cases dU x <;> cases decide (c.natAbs=0) <;> rfl
theorem fastq(a c:Int):(cnd (if mV a then (a,true) else (0,false):Int×Bool).2 (cnd (if mV c then (c,true) else (0,false):Int×Bool).2 (some (decide ((if mV c then (c,true) else (0,false):Int×Bool).1≠(0:Int)))) (some (false))) (some (false)))=some (decide (mV a∧mV c∧c≠0)):=by
 by_cases hp:mV a <;> by_cases hq:mV c <;> simp[hp,hq,cnd]
theorem LI {a c:Int}(ha:a.natAbs<LIM)(hc:c.natAbs<LIM)(h0:c≠0):kM (enc a) (enc c)=some (enc (a.fdiv c)):=by
 unfold kM
 rw[JA ha,JA hc,ab,ab,fastq,ab,fH]
 by_cases hw:mV a∧mV c∧c≠0
 ·have hq:a.fdiv c=a.tdiv c∨a.fdiv c=a.tdiv c - 1:=by
   obtain⟨_,h2,_⟩:=Bc (x:=a) h0
   by_cases h:a.fdiv c=a.tdiv c
   ·exact .inl h
   ·exact .inr (h2 h).1
  have h1:=hw.1.h
  have hnq:(a.tdiv c).natAbs≤a.natAbs:=by rw[Int.natAbs_tdiv];exact oQ _ _
  rw[ai hw,ai hw.1,ai hw.2.1]
  dsimp only
  rw[G_floor h0 hw.1.h,ab,rm (by omega) (by omega),ab]
 ·have hg:=good3r (De a) hc
  rw[uX] at hg
  have hq:a.natAbs / c.natAbs<LIM:=dq (oQ _ _) ha
  have hdl:decide ((0:Int)<((dl (a.natAbs % c.natAbs)).length:Int))=decide (a.natAbs % c.natAbs≠0):=dig2 _
  rw[ah hw,hg,bf ha,aA h0,ab,eI,cG,aF,mS ha,ab,mS hc,ab,LM (dq (uG ha) (by decide)) (dq (uG hc) (by decide)) (by omega),ab,jT ha,jT hc]
  dsimp only
  rw[Sg,Pz (jU _) (by decide) (dq (uG hq) (by decide)) (by decide),ab,hdl,←R3 h0]
  have hs1:sz6 (a.natAbs / c.natAbs+1)≤1000:=dv (sz_add hq (by decide)) (by decide)
  have LT:sz6 (a.natAbs / c.natAbs)≤1000:=dv (uG hq) (by decide)
  cases hsg:(!(decide (a<0) == decide (c<0))) with
  |false=>
   rw[aF,ab,aF,ab,HM LT,ab]
   rfl
  |true=>
   rw[fO,ab,fH]
   by_cases hR:a.natAbs % c.natAbs=0
   ·rw[ah (fun h=>h hR),ab,HM LT,ab,ai hR,iM]
   ·rw[ai hR,ab,HM hs1,ab,ah hR]
    rfl
theorem TS(n m:Int):∃r:Int,bq jd (n,m)=some r∧r.natAbs=Nat.gcd n.natAbs m.natAbs:=by
 induction hk:m.natAbs using Nat.strongRecOn generalizing n m with
 |_ k ih=>
  subst hk
  by_cases hm:m=0
  ·subst hm
   refine⟨n,nS (by dsimp only[jd];rw[ci _ _ (fun h=>h rfl)]),?_⟩
   rw[Int.natAbs_zero,Jg]
  ·have h1:jd (n,m)=some (.inl (m,n.tmod m)):=by
    dsimp only[jd]
    rw[cy _ _ hm,aB hm]
   have e:=Int.natAbs_tmod n m
   obtain⟨r,h2,h3⟩:=ih (n.tmod m).natAbs (by rw[e];exact ej _ (by omega)) m (n.tmod m) rfl
   exact⟨r,(pw h1).trans h2,by rw[h3,e,←At]⟩
theorem TT(x y:Nat)(hx:sz6 x<800)(hy:sz6 y<800):bq jc (dl x,dl y)=some (dl (Nat.gcd x y)):=by
 induction y using Nat.strongRecOn generalizing x with
 |_ y ih=>
  by_cases h0:y=0
  ·subst h0
   rw[Jg]
   refine nS ?_
   dsimp only[jc]
   rw[dig2,ci _ _ (fun h=>h rfl)]
  ·have h1:jc (dl x,dl y)=some (.inl (dl y,dl (x % y))):=by
    dsimp only[jc]
    rw[dig2,cy _ _ h0,LM hx hy (by omega),ab]
   have bI:=ej x (show 0<y by omega)
   have hs:sz6 (x % y)<800:=dq (rK (B1 bI (jU y))) hy
   rw[pw h1,ih (x % y) bI y hy hs,←At]
theorem LJ {a c:Int}(ha:a.natAbs<LIM)(hc:c.natAbs<LIM):mp (enc a) (enc c)=some (enc (Nat.gcd a.natAbs c.natAbs:Nat)):=by
 have OP:Nat.gcd a.natAbs c.natAbs<LIM:=by
  rcases sd a.natAbs with h|h
  ·rw[h,NA];exact hc
  ·exact dq (B0 _ h) ha
 unfold mp
 rw[JA ha,JA hc,ab,ab,fast2,ab,fH]
 by_cases hw:mV a∧mV c
 ·have h1:=hw.1.h
  have h2:=hw.2.h
  rw[ai hw,ai hw.1,ai hw.2]
  dsimp only
  obtain⟨r,h3,h4⟩:=TS a c
  have hr:r.natAbs<4611686018427387904:=by
   rw[h4]
   rcases sd a.natAbs with h|h
   ·rw[h,NA];exact h2
   ·exact dq (B0 _ h) h1
  rw[h3,ab,rm (by omega) (by omega),ab,Vy (by rw[h4];exact OP),ab,h4]
 ·have hg:=good2r (enc a) (enc c)
  rw[uX] at hg
  rw[ah hw,hg,bf ha,bf hc,ab,eI,cG,aF,mS ha,ab,mS hc,ab,TT _ _ (dq (uG ha) (by decide)) (dq (uG hc) (by decide)),ab,HM (dv (uG OP) (by decide)),ab]
  rfl
theorem R_one:mm=some (enc 1):=by
 unfold mm
 rw[rm (by decide) (by decide),ab]
theorem R_Good {x:am}(hx:okR x):fg x=some (b7 x).isSome:=by
 rw[←gj hx]
 obtain⟨n,d⟩:=x
 obtain⟨h1,h2⟩:=hx
 dsimp only at h1 h2
 unfold fg aO
 dsimp only
 rw[iw,iw,qa,qa,ab,ab,ab,ab]
 cases Cz:dU n with
 |false=>rfl
 |true=>
  cases En:dU d with
  |false=>rfl
  |true=>
   obtain⟨n,hn,rfl⟩:=As h1 Cz
   obtain⟨d,hd,rfl⟩:=As h2 En
   rw[HK hd,xo hd,LJ hn hd,PF hn hd,R_one,Py]
   rfl
theorem Vj {n d:Int}(hn:n.natAbs<LIM)(hd:d.natAbs<LIM)(h0:d≠0):ge (enc n) (enc d)=some (kI (Rat.divInt n d)):=by
 obtain⟨Cz,En⟩:=IJ (n:=n) h0 hd
 obtain⟨e1,e2⟩:=Kv (n:=n) h0
 have OP:(((Nat.gcd n.natAbs d.natAbs:Nat):Int)).natAbs<LIM:=by simpa using Cz
 unfold ge
 rw[iw,iw,ab,ab,bf hn,bf hd,cG,aF,aF,HK hd,ab,ab,ci _ _ (by rw[BZ];exact h0),LJ hn hd,ab,ab,Vw OP,ab]
 have SS:(cnd (decide (d.sign<(0:Int))) (some (enc (-((Nat.gcd n.natAbs d.natAbs:Nat):Int)))) (some (enc ((Nat.gcd n.natAbs d.natAbs:Nat):Int))))=some (enc (bif decide (d<0) then -((Nat.gcd n.natAbs d.natAbs:Nat):Int) else ((Nat.gcd n.natAbs d.natAbs:Nat):Int))):=by
  by_cases h:d<0
  ·rw[cy _ _ (by rw[EY];exact h),aA h];rfl
  ·rw[ci _ _ (by rw[EY];exact h),a8 h];rfl
 have FK:((bif decide (d<0) then -((Nat.gcd n.natAbs d.natAbs:Nat):Int) else ((Nat.gcd n.natAbs d.natAbs:Nat):Int))).natAbs<LIM∧(bif decide (d<0) then -((Nat.gcd n.natAbs d.natAbs:Nat):Int) else ((Nat.gcd n.natAbs d.natAbs:Nat):Int))≠0:=by
  cases decide (d<0)
  ·simp only[cond_false];omega
  ·simp only[kA];omega
 rw[SS,ab,LI hn FK.1 FK.2,ab,LI hd FK.1 FK.2,ab,e1,e2]
 rfl
theorem R_Of {n:Int}(h1:-9223372036854775808≤n)(h2:n≤9223372036854775807):pF n=some (kI (n:Rat)):=by
 have hL:n.natAbs<LIM:=bH (show n.natAbs<18446744073709551616 by omega) (by decide)
 unfold pF
 rw[rm h1 h2,ab,R_one,ab,Vj hL (by decide) (by decide),ab,EA]
def tF(a c:Int):Int:=if a<c then -1 else if c<a then 1 else 0
theorem G_Rem {a c:Int}(ha:a.natAbs<LIM)(hc:c.natAbs<LIM)(h0:c≠0):nW (enc a) (enc c)=some (enc (a.fmod c)):=by
 unfold nW
 rw[HN ha hc h0,ab]
theorem G_Cmp {a c:Int}(ha:a.natAbs<LIM)(hc:c.natAbs<LIM):qm (enc a) (enc c)=some (tF a c):=by
 unfold qm
 rw[tq,tq,ab,ab,bf ha,bf hc]
 simp only[cG,aF,ab,jT ha,jT hc,lZ ha,lZ hc]
 rw[Dv ha hc,Dv hc ha,ab,ab]
 unfold tF Ii
 by_cases h1:a<0 <;> by_cases h2:c<0 <;> simp only[h1,h2,sn,si,E7,cG,Bool.true_beq,Bool.false_beq,qM,fO,aF]
 ·by_cases h3:a<c
  ·rw[ai h3,ai (by omega)]
  ·rw[ah h3,ah (by omega)]
   by_cases h4:c<a
   ·rw[ai h4,ai (by omega)]
   ·rw[ah h4,ah (by omega)]
 ·rw[ai (by omega)]
 ·rw[ah (by omega),ai (by omega)]
 ·by_cases h3:a<c
  ·rw[ai h3,ai (by omega)]
  ·rw[ah h3,ah (by omega)]
   by_cases h4:c<a
   ·rw[ai h4,ai (by omega)]
   ·rw[ah h4,ah (by omega)]
def C5(n1 d1 n2 d2:Int):Int:=tF (n1*d2) (n2*d1)
theorem EH {n1 d1 n2 d2:Int}(h1:0<d1)(h2:0<d2)(h:n1.fdiv d1<n2.fdiv d2):n1*d2<n2*d1:=by
 have e1:d1*n1.fdiv d1+n1.fmod d1=n1:=EX n1 d1
 have e2:d2*n2.fdiv d2+n2.fmod d2=n2:=EX n2 d2
 have r1:=zw n1 h1
 have r2:=w6 n2 h2
 generalize n1.fdiv d1=f1 at*
 generalize n2.fdiv d2=f2 at*
 generalize n1.fmod d1=m1 at*
 generalize n2.fmod d2=m2 at*
 have h3:d1*(f1+1)≤d1*f2:=Nv (by omega) (by omega)
 rw[Int.mul_add,Int.mul_one] at h3
 have h4:n1+1≤d1*f2:=by omega
 have h5:(n1+1)*d2≤d1*f2*d2:=Jf h4 (by omega)
 have h6:d2*f2*d1≤n2*d1:=Jf (by omega) (by omega)
 have h7:d1*f2*d2=d2*f2*d1:=by rw[lh d1,lh d2,EW,EW,lh d1]
 rw[Int.add_mul,zu] at h5
 omega
theorem Ho {a c:Int}:tF a c=(a - c).sign:=by
 unfold tF
 rcases w9 a c with h|h|h
 ·rw[ai h,w8 (by omega)]
 ·subst h;rw[ah (by omega),ah (by omega),Int.sub_self];rfl
 ·rw[ah (by omega),ai h,sh (by omega)]
theorem Up {n1 d1 n2 d2:Int}(h1:0<d1)(h2:0<d2):(tF (n1.fdiv d1) (n2.fdiv d2)≠0→C5 n1 d1 n2 d2=tF (n1.fdiv d1) (n2.fdiv d2))∧
  (tF (n1.fdiv d1) (n2.fdiv d2)=0→((n1.fmod d1).sign=0∨(n2.fmod d2).sign=0→C5 n1 d1 n2 d2=(n1.fmod d1).sign - (n2.fmod d2).sign)∧(¬((n1.fmod d1).sign=0∨(n2.fmod d2).sign=0)→0<n1.fmod d1∧n1.fmod d1<d1∧0<n2.fmod d2∧C5 n1 d1 n2 d2=- C5 d1 (n1.fmod d1) d2 (n2.fmod d2))):=by
 have r1:=w6 n1 h1
 have r2:=w6 n2 h2
 have e1:d1*n1.fdiv d1+n1.fmod d1=n1:=EX n1 d1
 have e2:d2*n2.fdiv d2+n2.fmod d2=n2:=EX n2 d2
 constructor
 ·intro h
  rcases w9 (n1.fdiv d1) (n2.fdiv d2) with h3|h3|h3
  ·have:=EH h1 h2 h3
   unfold C5 tF
   rw[ai this,ai h3]
  ·exfalso;apply h;unfold tF;rw[ah (by omega),ah (by omega)]
  ·have:=EH h2 h1 h3
   unfold C5 tF
   rw[ah (by omega),ai this,ah (by omega),ai h3]
 ·intro h
  have h3:n1.fdiv d1=n2.fdiv d2:=by
   unfold tF at h
   split at h
   ·cases h
   ·split at h
    ·cases h
    ·omega
  rw[h3] at e1
  have key:n1*d2 - n2*d1=n1.fmod d1*d2 - n2.fmod d2*d1:=by
   have a1:n1*d2=d1*n2.fdiv d2*d2+n1.fmod d1*d2:=by rw[←Int.add_mul,e1]
   have a2:n2*d1=d2*n2.fdiv d2*d1+n2.fmod d2*d1:=by rw[←Int.add_mul,e2]
   have:d1*n2.fdiv d2*d2=d2*n2.fdiv d2*d1:=by rw[lh d1,lh d2,EW,EW,lh d1]
   rw[a1,a2,this]
   omega
  have hs:C5 n1 d1 n2 d2=(n1.fmod d1*d2 - n2.fmod d2*d1).sign:=by unfold C5;rw[Ho,key]
  have p1:=zw n1 h1
  generalize n1.fmod d1=m1 at*
  generalize n2.fmod d2=m2 at*
  constructor
  ·intro h4
   rw[hs]
   have Kt:∀{x y:Int},0<y→(x*y).sign=x.sign:=fun {x y} hy=>by rw[Int.sign_mul,sh hy,Int.mul_one]
   rcases h4 with h4|h4
   ·have:m1=0:=BZ.1 h4
    subst this
    rw[h4,Ja,Int.zero_sub,Int.zero_sub,Int.sign_neg,Kt h1]
   ·have:m2=0:=BZ.1 h4
    subst this
    rw[h4,Ja,Int.sub_zero,Int.sub_zero,Kt h2]
  ·intro h4
   have h5:m1≠0:=fun h=>h4 (.inl (by rw[h];rfl))
   have h6:m2≠0:=fun h=>h4 (.inr (by rw[h];rfl))
   refine⟨by omega,by omega,by omega,?_⟩
   rw[hs]
   unfold C5
   rw[Ho,←Int.sign_neg]
   congr 1
   rw[Int.neg_sub,lh d2,lh d1]
theorem Uq(a c:Int):tF a c=-1∨tF a c=0∨tF a c=1:=by
 unfold tF
 split
 ·exact .inl rfl
 ·split
  ·exact .inr (.inr rfl)
  ·exact .inr (.inl rfl)
theorem Oj(a:Int):a.sign=-1∨a.sign=0∨a.sign=1:=by
 rcases w9 a 0 with h|h|h
 ·exact .inl (w8 h)
 ·subst h;exact .inr (.inl rfl)
 ·exact .inr (.inr (sh h))
theorem R5 {n1 d1:Int}(h1:0<d1)(l1:n1.natAbs<LIM)(l2:d1.natAbs<LIM):(n1.fdiv d1).natAbs<LIM∧(n1.fmod d1).natAbs<LIM:=by
  have e:=EX n1 d1
  have r1:=w6 n1 h1
  have r2:=zw n1 h1
  have hq:-(n1.natAbs:Int)≤n1.fdiv d1∧n1.fdiv d1≤n1.natAbs:=by
   rw[I9 _ (Int.le_of_lt h1)]
   constructor
   ·exact (Int.le_ediv_iff_mul_le h1).2 (by have:-(n1.natAbs:Int)*d1≤-(n1.natAbs:Int)*1:=Int.mul_le_mul_of_nonpos_left (by omega) (by omega);omega)
   ·have:n1 / d1<n1.natAbs+1:=Int.ediv_lt_of_lt_mul h1 (by have:((n1.natAbs:Int)+1)*1≤((n1.natAbs:Int)+1)*d1:=Nv (by omega) (by omega);omega)
    omega
  omega
theorem VH(k:Nat):∀{n1 d1 n2 d2 out:Int},d1.natAbs≤k→0<d1→0<d2→n1.natAbs<LIM→d1.natAbs<LIM→n2.natAbs<LIM→d2.natAbs<LIM→(out=1∨out=-1)→
  bq je (out,(⟨enc n1,enc d1⟩:am),(⟨enc n2,enc d2⟩:am))=some (out*C5 n1 d1 n2 d2):=by
 induction k with
 |zero=>intro n1 d1 n2 d2 out h h1;omega
 |succ k ih=>
  intro n1 d1 n2 d2 out hk h1 h2 l1 l2 l3 l4 ho
  obtain⟨ca,cb⟩:=Up (n1:=n1) (n2:=n2) h1 h2
  have q1:=R5 h1 l1 l2
  have q2:=R5 h2 l3 l4
  have iO:∀r,je (out,(⟨enc n1,enc d1⟩:am),(⟨enc n2,enc d2⟩:am))=r↔(cnd (decide (tF (n1.fdiv d1) (n2.fdiv d2)≠(0:Int))) (some (.inr (i64.wrap (out*tF (n1.fdiv d1) (n2.fdiv d2))))) (cnd (decide ((n1.fmod d1).sign=0∨(n2.fmod d2).sign=0)) (some (.inr (i64.wrap (out*(i64.wrap ((n1.fmod d1).sign - (n2.fmod d2).sign)))))) (some (.inl (i64.wrap (0 - out),(⟨enc d1,enc (n1.fmod d1)⟩:am),(⟨enc d2,enc (n2.fmod d2)⟩:am))))))=r:=by
   intro r
   dsimp only[je]
   rw[FC l1 l2 (by omega),ab,FC l3 l4 (by omega),ab,G_Cmp q1.1 q2.1,ab,G_Rem l1 l2 (by omega),ab,G_Rem l3 l4 (by omega),ab,xo q1.2,ab,xo q2.2,ab,Uo,ab,ab,←Bool.decide_or]
  have rc:=Uq (n1.fdiv d1) (n2.fdiv d2)
  have rs1:=Oj (n1.fmod d1)
  have rs2:=Oj (n2.fmod d2)
  by_cases hc:tF (n1.fdiv d1) (n2.fdiv d2)≠0
  ·refine nS ((iO _).2 ?_)
   rw[cy _ _ hc,ca hc,bY (by rcases ho with rfl|rfl <;> omega)]
  ·have hc0:tF (n1.fdiv d1) (n2.fdiv d2)=0:=Decidable.byContradiction hc
   obtain⟨cc,cd⟩:=cb hc0
   by_cases hz:(n1.fmod d1).sign=0∨(n2.fmod d2).sign=0
   ·refine nS ((iO _).2 ?_)
    rw[ci _ _ hc,cy _ _ hz,cc hz,bY (z:=(n1.fmod d1).sign - (n2.fmod d2).sign) (by omega),bY (by rcases ho with rfl|rfl <;> omega)]
   ·obtain⟨g1,g2,g3,g4⟩:=cd hz
    refine (pw ((iO _).2 ?_)).trans ((ih (n1:=d1) (d1:=n1.fmod d1) (n2:=d2) (d2:=n2.fmod d2) (out:=0 - out) (by omega) g1 g3 l2 q1.2 l4 q2.2 (by omega)).trans ?_)
    ·rw[ci _ _ hc,ci _ _ hz,bY]
    ·rw[g4,Int.zero_sub,E4,B6]
def ocmp(a b:Option Rat):Int:=match a,b with
 |none,none=>0
 |none,some _=>-1
 |some _,none=>1
 |some p,some q=>if p<q then -1 else if q<p then 1 else 0
theorem Ur(p q:Rat):C5 p.num p.den q.num q.den=if p<q then -1 else if q<p then 1 else 0:=by
 unfold C5 tF
 simp only[Rat.lt_iff]
theorem NY {x y:am}(hx:okR x)(hy:okR y):fx x y=some (ocmp (b7 x) (b7 y)):=by
 unfold fx
 rw[gj hx,gj hy,ab,ab]
 cases h1:b7 x with
 |none=>
  cases h2:b7 y with
  |none=>rfl
  |some q=>rfl
 |some p=>
  cases h2:b7 y with
  |none=>rfl
  |some q=>
   obtain⟨hp,rfl⟩:=c6.1 h1
   obtain⟨hq,rfl⟩:=c6.1 h2
   have e:=VH p.den (n1:=p.num) (d1:=(p.den:Int)) (n2:=q.num) (d2:=(q.den:Int)) (out:=1) (by omega) (by have:=p.den_pos;omega) (by have:=q.den_pos;omega) hp.1 (jB hp) hq.1 (jB hq) (.inl rfl)
   simp only[wZ,cG,aF,ab]
   show (bnd (bq je ((1:Int),kI p,kI q)) fun vj=>some vj)=_
   unfold kI
   rw[e,ab,zu,Ur]
   rfl
def ofloor(a:Option Rat):ao:=match a with|some q=>enc q.floor|none=>BU
def oceil(a:Option Rat):ao:=match a with|some q=>enc q.ceil|none=>BU
def omax(a b:Option Rat):Option Rat:=a.bind fun p=>b.bind fun q=>some (if p<q then q else p)
theorem QE {q:Rat}(h:lP q):q.floor.natAbs<LIM:=by
 have hd:=q.den_pos
 have h1:(0:Int)<(q.den:Int):=by omega
 have hq:-(q.num.natAbs:Int)≤q.num / (q.den:Int)∧q.num / (q.den:Int)≤q.num.natAbs:=by
  constructor
  ·exact (Int.le_ediv_iff_mul_le h1).2 (by have:-(q.num.natAbs:Int)*(q.den:Int)≤-(q.num.natAbs:Int)*1:=Int.mul_le_mul_of_nonpos_left (by omega) (by omega);omega)
  ·have:q.num / (q.den:Int)<q.num.natAbs+1:=Int.ediv_lt_of_lt_mul h1 (by have:((q.num.natAbs:Int)+1)*1≤((q.num.natAbs:Int)+1)*(q.den:Int):=Nv (by omega) (by omega);omega)
   omega
 have:=h.1
 rw[Rat.floor_def]
 omega
theorem VC {x:am}(hx:okR x):nq x=some (ofloor (b7 x)):=by
 unfold nq
 rw[gj hx,ab]
 cases h1:b7 x with
 |none=>rw[HO];rfl
 |some p=>
  obtain⟨hp,rfl⟩:=c6.1 h1
  have hd:=p.den_pos
  simp only[wZ,cG,aF,zh,BQ]
  rw[FC hp.1 (jB hp) (by omega),ab,I9 _ (by omega),←Rat.floor_def]
  rfl
theorem G_oceil {x:am}(hx:okR x):ib x=some (oceil (b7 x)):=by
 unfold ib
 rw[JB hx,ab,VC (sV _),ab,xr (Ac (wO x))]
 cases h1:b7 x with
 |none=>
  show (bnd (fk BU) fun x5=>some x5)=some BU
  rw[Q3 BL,ab]
 |some p=>
  have hp:=wO x p h1
  show (bnd (fk (enc (-p).floor)) fun x5=>some x5)=some (enc p.ceil)
  rw[PC (QE (Ev hp)),ab,Rat.ceil_eq_neg_floor_neg]
theorem Ez {x:am}{q:Rat}(h:b7 x=some q):x=kI q:=(c6.1 h).2
theorem G_omax {x y:am}(hx:okR x)(hy:okR y):kO x y=some (zf (omax (b7 x) (b7 y))):=by
 unfold kO
 rw[gj hx,gj hy,ab,ab,NY hx hy,ab]
 cases h1:b7 x with
 |none=>rw[tO];rfl
 |some p=>
  cases h2:b7 y with
  |none=>rw[tO];rfl
  |some q=>
   simp only[wZ,cG,aF,ab]
   rw[fH]
   show (if (if p<q then (-1:Int) else if q<p then 1 else 0)<0 then some y else some x)=some (kI (if p<q then q else p))
   by_cases h:p<q
   ·rw[ai h,ai (by decide),ai h,Ez h2]
   ·rw[ah h,ah (by split <;> decide),ah h,Ez h1]
def Nu:={x:am // okR x}
instance:DecidableEq Nu:=inferInstanceAs (DecidableEq {x:am // okR x})
theorem okR0:okR (default:am):=by
 have h:∀j:Nat,j<16→(default:ao).vW[j]! =0:=by
  intro j hj
  show (ee)[j]! =0
  rw[bL (ee) j hj,Vector.getElem_replicate]
 exact⟨fun j hj=>by show 0≤(default:ao).vW[j]!∧(default:ao).vW[j]! <4294967296;rw[h j hj];omega,fun j hj=>by show 0≤(default:ao).vW[j]!∧(default:ao).vW[j]! <4294967296;rw[h j hj];omega⟩
instance:Inhabited Nu:=⟨⟨default,okR0⟩⟩
def nuR(o:Option Rat):Nu:=⟨zf o,sV o⟩
def decW(v:Vector Int 16):Nat:=gH 4294967296 (fun j=>(v[j]!).toNat) 16
def GH(x:ao):Int:=if x.vNeg then -(decW x.vW:Int) else decW x.vW
theorem decW_W {A:Nat}(h:A<LIM):decW (W A)=A:=by
 refine Ub (b:=4294967296) (n:=16) ?_ h fun j hj=>?_
 ·exact C8 (by decide) _ fun j hj=>by
   rw[gN hj]
   have:=@dgl A j
   omega
 ·unfold decW
  rw[IS (by decide) 16 (fun i hi=>by
   rw[gN hi]
   have:=@dgl A i
   omega) j hj,gN hj]
  omega
theorem Az {z:Int}(h:z.natAbs<LIM):GH (enc z)=z:=by
 rw[r4 h]
 unfold GH
 dsimp only
 rw[decW_W h]
 by_cases hz:z<0
 ·rw[ai (aA hz)];omega
 ·rw[ah (by simpa using hz)];omega
def yM(x:am):Option Rat:=if lP (Rat.divInt (GH x.vN) (GH x.vD))∧kI (Rat.divInt (GH x.vN) (GH x.vD))=x then some (Rat.divInt (GH x.vN) (GH x.vD)) else none
theorem sQ:yM=b7:=by
 funext x
 unfold yM
 cases h:b7 x with
 |none=>exact ah fun hh=>A1.1 h _ hh.1 hh.2.symm
 |some q=>
  obtain⟨h1,h2⟩:=c6.1 h
  have hn:GH x.vN=q.num:=by rw[h2];exact Az h1.1
  have hd:GH x.vD=(q.den:Int):=by rw[h2];exact Az (jB h1)
  rw[hn,hd,show Rat.divInt q.num q.den=q from by rw[Nt];exact Rat.mkRat_self q,ai ⟨h1,h2.symm⟩]
def jK(x y:Nu):Nu:=nuR (Ik (yM x.1) (yM y.1))
def lM(x y:Nu):Nu:=nuR (Bq (yM x.1) (yM y.1))
def Il(x y:Nu):Nu:=nuR (osub (yM x.1) (yM y.1))
def oa(x y:Nu):Nu:=nuR (Gq (yM x.1) (yM y.1))
def eZ(x:Nu):Nu:=nuR (P5 (yM x.1))
def nOf(n:Int):Nu:=nuR (some (n:Rat))
def bD(x:Nu):Int:=osgn (yM x.1)
def ar(x:Nu):Bool:=(yM x.1).isSome
def nh(x y:Nu):Int:=ocmp (yM x.1) (yM y.1)
theorem qi(x y:Nu):jK x y=nuR (Ik (b7 x.1) (b7 y.1)):=by unfold jK;rw[sQ]
theorem rO(x y:Nu):lM x y=nuR (Bq (b7 x.1) (b7 y.1)):=by unfold lM;rw[sQ]
theorem Sq(x y:Nu):Il x y=nuR (osub (b7 x.1) (b7 y.1)):=by unfold Il;rw[sQ]
theorem D1(x y:Nu):oa x y=nuR (Gq (b7 x.1) (b7 y.1)):=by unfold oa;rw[sQ]
theorem Af(x:Nu):eZ x=nuR (P5 (b7 x.1)):=by unfold eZ;rw[sQ]
theorem Bt(x:Nu):bD x=osgn (b7 x.1):=by unfold bD;rw[sQ]
theorem eE(x:Nu):ar x=(b7 x.1).isSome:=by unfold ar;rw[sQ]
theorem D2(x y:Nu):nh x y=ocmp (b7 x.1) (b7 y.1):=by unfold nh;rw[sQ]
section
section
variable {B:Nat} {hp:Hp} {g:Gh} {w w':World}
def Hp.re(hp:Hp)(k:Nat)(ds:List D):Hp:=⟨(hp.next,ds)::hp.vars.filter fun p=>!([k]:List Nat).contains p.1,hp.live,hp.next+1⟩
theorem z7 {k:Nat}{ds a:List D}{j:Nat}(h:(hp.re k ds).vars.lookup j=some a):(j=hp.next∧a=ds)∨(j≠hp.next∧j≠k∧hp.vars.lookup j=some a):=by
 by_cases hj:j=hp.next
 ·subst hj
  have:some ds=some a:=by rw[←h];exact aa.symm
  injection this with this
  exact .inl ⟨rfl,this.symm⟩
 ·have h1:(hp.vars.filter fun p=>!([k]:List Nat).contains p.1).lookup j=some a:=by rw[←h];exact (an hj).symm
  obtain⟨h2,h3⟩:=jl h1
  exact .inr ⟨hj,by simpa using h2,h3⟩
theorem cC.re(hr:HR B hp g w){k b:Nat}{ta:List D}(hk:hp.vars.lookup k=some ta)(ds:List D)(hs:w.heap.size≤w'.heap.size)(ho:∀c,c<w.heap.size→c≠g.μ k→w'.heap[c]? =w.heap[c]?)(hz:SzB w w' (g.μ k))(hb:b=g.μ k∨w.heap.size≤b):
  cC hp g w (hp.re k ds) (g.var hp.next b) w':=by
 have bI:=hr.var_lt hk
 obtain⟨h1,h2,h3,_⟩:=hr.var k ta hk
 refine⟨hs,fun p jH hf=>World.cell?_of_block (ho _ jH fun e=>hf (h3 p e)),fun p hpb hf=>?_,jD _,fun j hj=>?_,fun _ _ m _ hm=>⟨m,hm,ax _,fun _=>rfl⟩,fun c hc hf=>⟨ho _ hc fun e=>hf.1 k ta hk e.symm,fun _ _ h=>.inl h,fun j a hj=>?_,hf.2⟩,fun c=>?_⟩
 ·rcases hf with hf|hf
  ·exact hf
  ·rcases hb with hb|hb
   ·exact h3 p (by rw[hf,hb])
   ·omega
 ·show (if j=hp.next then _ else _)=_
  rw[ah (by omega)]
 ·rcases z7 hj with⟨rfl,_⟩|⟨fI,_,h⟩
  ·show (if _ then _ else _)≠_
   rw[ai rfl]
   rcases hb with hb|hb
   ·rw[hb];exact hf.1 k ta hk
   ·omega
  ·show (if _ then _ else _)≠_
   rw[ah fI]
   exact hf.1 j a h
 ·by_cases hc:c=g.μ k
  ·subst hc;exact hz
  ·exact .same fun h=>ho c h hc
theorem HR.re(hr:HR B hp g w){k b:Nat}{ta:List D}(hk:hp.vars.lookup k=some ta)(ds:List D)(hs:w.heap.size≤w'.heap.size)(ho:∀c,c<w.heap.size→c≠g.μ k→w'.heap[c]? =w.heap[c]?)(hz:SzB w w' (g.μ k))(hb:b=g.μ k∨w.heap.size≤b)
  (cs:Array Value) (ty:TypeId) (hn:w'.heap[b]? =some (.cells cs ty (0,0))) (hl:ds.length≤cs.size) (hc:∀(j:Nat) (u:Value),cs[j]? =some u→(j<ds.length→u.oneCell'=true)∧∀d,ds[j]? =some d→aD hp g w d u):HR B (hp.re k ds) (g.var hp.next b) w':=by
 have m:=cC.re hr hk ds hs ho hz hb
 have hkl:=hr.var_lt hk
 obtain⟨Ti,zc,hk3,_⟩:=hr.var k ta hk
 have hbl:b<w'.heap.size:=(oR.1 hn).1
 have JF:(g.var hp.next b).μ hp.next=b:=ai rfl
 have hμ:∀j,j<hp.next→(g.var hp.next b).μ j=g.μ j:=m.μ
 have OT:∀{j:Nat} {a:List D},j≠k→hp.vars.lookup j=some a→g.μ j≠g.μ k:=fun hj h e=>hj (hr.inj _ _ _ _ h hk e)
 have tP:∀{j:Nat} {a:List D},j≠k→hp.vars.lookup j=some a→g.μ j≠b:=fun hj h e=>by
  rcases hb with hb|hb
  ·exact OT hj h (by rw[e,hb])
  ·have:=hr.var_lt h;omega
 refine⟨fun j a hj=>?_,fun j j' a a' hj Cw he=>?_,fun id n e hi=>?_,fun id BH t t' c hi we he Hf=>hr.tinj id BH t t' c hi we he Hf,dv hr.base hs,fun p hf=>?_⟩
 ·rcases z7 hj with⟨rfl,rfl⟩|⟨fI,hjk,h0⟩
  ·rw[JF]
   refine⟨ek _,?_,fun p hp'=>.inr hp',cs,ty,hn,hl,fun i u hu=>⟨(hc i u hu).1,fun d hd=>((hc i u hu).2 d hd).mono m⟩⟩
   rcases hb with hb|hb
   ·rw[hb];exact zc
   ·exact dv hr.base hb
  ·have bI:=hr.var_lt h0
   obtain⟨h1,h2,h3,wP,LR,h4,h5,h6⟩:=hr.var j a h0
   rw[hμ j h1]
   exact⟨yA h1,h2,fun p hp'=>.inl (h3 p hp'),wP,LR,(ho _ bI (OT hjk h0)).trans h4,h5,fun i u hu=>⟨(h6 i u hu).1,fun d hd=>((h6 i u hu).2 d hd).mono m⟩⟩
 ·rcases z7 hj with⟨h1,_⟩|⟨h1,hjk,h0⟩ <;> rcases z7 Cw with⟨h2,_⟩|⟨h2,hjk',JL⟩
  ·omega
  ·rw[h1,JF,hμ j' (hr.var j' a' JL).1] at he
   exact absurd he.symm (tP hjk' JL)
  ·rw[h2,JF,hμ j (hr.var j a h0).1] at he
   exact absurd he (tP hjk h0)
  ·rw[hμ j (hr.var j a h0).1,hμ j' (hr.var j' a' JL).1] at he
   exact hr.inj j j' a a' h0 JL he
 ·obtain⟨h1,us,hz',h2,h3⟩:=hr.tok id n e hi
  refine⟨yA h1,us,hz',⟨h2.1,?_⟩,fun c Ep=>⟨fun p h4 h5=>.inl ((h3 c Ep).1 p h4 h5),fun j a hj=>?_⟩⟩
  ·rcases h2.2 with h0|⟨c,cap,cur,hv,hB,hh,r⟩
   ·exact .inl h0
   ·exact .inr ⟨c,cap,cur,hv,hB,(ho c (oR.1 hh).1 fun e=>(h3 c (by rw[hv];rfl)).2 k ta hk e.symm).trans hh,r⟩
  ·rcases z7 hj with⟨rfl,_⟩|⟨fI,_,h0⟩
   ·rw[JF]
    rcases hb with hb|hb
    ·rw[hb];exact (h3 c Ep).2 k ta hk
    ·have:=(h2.lt c Ep).2;omega
   ·rw[hμ j (hr.var j a h0).1]
    exact (h3 c Ep).2 j a h0
 ·rcases hf with hf|hf
  ·exact bH (hr.fits p hf) hs
  ·rw[hf];exact hbl
theorem cC.addVar(hp:Hp)(g:Gh)(ds:List D){b:Nat}(hs:w.heap.size≤w'.heap.size)(hb:∀c,c<w.heap.size→w'.heap[c]? =w.heap[c]?)(vI:w.heap.size≤b):cC hp g w (hp.var ds) (g.var hp.next b) w':=by
 refine⟨hs,fun p jH _=>World.cell?_of_block (hb _ jH),fun p hpb hf=>?_,jD _,fun k hk=>?_,fun _ _ m _ hm=>⟨m,hm,ax _,fun _=>rfl⟩,fun c hc hf=>⟨hb _ hc,fun _ _ h=>.inl h,fun k ds' hk=>?_,hf.2⟩,fun c=>.same (hb c)⟩
 ·rcases hf with hf|hf
  ·exact hf
  ·omega
 ·show (if k=hp.next then _ else _)=_
  rw[ah (by omega)]
 ·show (if k=hp.next then _ else _)≠_
  by_cases xz:k=hp.next
  ·rw[ai xz];omega
  ·rw[ah xz]
   exact hf.1 k ds' (by rw[←hk];exact (an xz).symm)
theorem HR.addVar(hr:HR B hp g w)(ds:List D){b:Nat}(hs:w.heap.size≤w'.heap.size)(hb:∀c,c<w.heap.size→w'.heap[c]? =w.heap[c]?)(vI:w.heap.size≤b)(cs:Array Value)(ty:TypeId)(hn:w'.heap[b]? =some (.cells cs ty (0,0)))(hl:ds.length≤cs.size)
  (hc:∀(j:Nat) (u:Value),cs[j]? =some u→(j<ds.length→u.oneCell'=true)∧∀d,ds[j]? =some d→aD (hp.var ds) (g.var hp.next b) w' d u):HR B (hp.var ds) (g.var hp.next b) w':=by
 have m:=cC.addVar hp g ds hs hb vI
 have hμ:∀k,k<hp.next→(g.var hp.next b).μ k=g.μ k:=m.μ
 have JF:(g.var hp.next b).μ hp.next=b:=ai rfl
 have hbl:b<w'.heap.size:=(oR.1 hn).1
 have look:∀{j:Nat} {a:List D},(hp.var ds).vars.lookup j=some a→(j=hp.next∧a=ds)∨(j≠hp.next∧hp.vars.lookup j=some a):=by
  intro j a hj
  by_cases tQ:j=hp.next
  ·subst tQ
   have:some ds=some a:=by rw[←hj];exact aa.symm
   injection this with this
   exact .inl ⟨rfl,this.symm⟩
  ·exact .inr ⟨tQ,by rw[←hj];exact (an tQ).symm⟩
 refine⟨fun j a hj=>?_,fun j j' a a' hj Cw he=>?_,fun id n e hi=>?_,fun id BH t t' c hi we he Hf=>hr.tinj id BH t t' c hi we he Hf,dv hr.base hs,fun p hf=>?_⟩
 ·rcases look hj with⟨rfl,rfl⟩|⟨fI,h0⟩
  ·rw[JF]
   exact⟨ek _,dv hr.base vI,fun p hp'=>.inr hp',cs,ty,hn,hl,hc⟩
  ·have bI:=hr.var_lt h0
   obtain⟨h1,h2,h3,wP,LR,h4,h5,h6⟩:=hr.var j a h0
   rw[hμ j h1]
   exact⟨yA h1,h2,fun p hp'=>.inl (h3 p hp'),wP,LR,(hb _ bI).trans h4,h5,fun i u hu=>⟨(h6 i u hu).1,fun d hd=>((h6 i u hu).2 d hd).mono m⟩⟩
 ·rcases look hj with⟨h1,_⟩|⟨h1,h0⟩ <;> rcases look Cw with⟨h2,_⟩|⟨h2,JL⟩
  ·omega
  ·rw[h1,JF,hμ j' (hr.var j' a' JL).1] at he
   have:=hr.var_lt JL;omega
  ·rw[h2,JF,hμ j (hr.var j a h0).1] at he
   have:=hr.var_lt h0;omega
  ·rw[hμ j (hr.var j a h0).1,hμ j' (hr.var j' a' JL).1] at he
   exact hr.inj j j' a a' h0 JL he
 ·obtain⟨h1,us,hz',h2,h3⟩:=hr.tok id n e hi
  refine⟨yA h1,us,hz',⟨h2.1,?_⟩,fun c Ep=>⟨fun p h4 h5=>.inl ((h3 c Ep).1 p h4 h5),fun j a hj=>?_⟩⟩
  ·rcases h2.2 with h0|⟨c,cap,cur,hv,hB,hh,r⟩
   ·exact .inl h0
   ·exact .inr ⟨c,cap,cur,hv,hB,(hb c (oR.1 hh).1).trans hh,r⟩
  ·rcases look hj with⟨rfl,_⟩|⟨fI,h0⟩
   ·rw[JF]
    have:=(h2.lt c Ep).2;omega
   ·rw[hμ j (hr.var j a h0).1]
    exact (h3 c Ep).2 j a h0
 ·rcases hf with hf|hf
  ·exact bH (hr.fits p hf) hs
  ·rw[hf];exact hbl
end
end
section
def D.toOw:D→D
 | .gw k z n=>.ow k 0 z n
 |d=>d
section
variable {P:Program} {tb:TypeId→Option TyE} {md:Md} {B:Nat} {hp hp':Hp} {g:Gh} {w w':World} {d:D} {v:Value}
theorem aD.toOw(h:aD hp g w d v):aD hp g w d.toOw v:=by
 cases h with
 |gw k z n c hk h1 h2 hs=>exact .ow k 0 z n c hk h1 h2
 |e x v h=>exact .e x v h
 |own id z n xs v h hid ht=>exact .own id z n xs v h hid ht
 |fu z n xs A h=>exact .fu z n xs A h
 |ag ds cs hl h1 hr=>exact .ag ds cs hl h1 hr
 |tu ds cs hl hr=>exact .tu ds cs hl hr
 |fp xs off ad hb hc=>exact .fp xs off ad hb hc
 |pt k off hk=>exact .pt k off hk
 |ow k off z n c hk h1 h2=>exact .ow k off z n c hk h1 h2
 |fn f ks hk=>exact .fn f ks hk
 |opt b d v hi h=>exact .opt b d v hi h
 |top v=>exact .top v
theorem Od {k off:Nat}(d:D):d.toOw.un=.pt k off↔d.un=.pt k off:=by cases d <;> simp[D.toOw,D.un]
theorem rl.toOw {o:Oper}{ev:Operand→D}(h:rl P o (fun x=>(ev x).toOw) hp d hp'):rl P o ev hp d hp':=
 fun B g w a Kn Q hr hx hk=>h B g w a Kn Q hr (fun x yj=>(hx x yj).toOw) hk
theorem mR.toOw {o:Oper}{ev:Operand→D}(h:mR P tb md o (fun x=>(ev x).toOw) hp d hp'):mR P tb md o ev hp d hp':=
 ⟨h.ok.toOw,fun h1=>⟨(h.quiet h1).1,fun c7 h3=>((h.quiet h1).2 c7 fun hl x hx j off e=>h3 hl x hx j off ((Od _).1 e)).toOw⟩,h.fr,fun hl x hx j off e=>h.lk hl x hx j off ((Od _).2 e)⟩
variable {ops:Array Oper} {K:List (Nat×D)→Hp→Prop} {os:List Oper} {tm:List (Nat×D)} {t:Tmp} {dst:Option Tmp} {op:Op} {ty:TypeId} {pos:String} {af:Array Edge} {gd:Option (Nat×Bool)}
theorem stG(tok:TOk P tb)(h:AVC P tb md.dr op ty (fun x=>(evD tm x).toOw) hp (Kq d hp'))(h2:aX P tb md ops K os (Bo dst d tm) hp')(hn:md.nc tb op=true:=by exact rfl):aX P tb md ops K (⟨dst,op,ty,pos,af,none⟩::os) tm hp:=
 PU rfl (((AVC.snd (o:=⟨dst,op,ty,pos,af,none⟩) tok h).q hn).toOw) h2
theorem litR(tok:TOk P tb){ev:Operand→D}{tt e:TypeId}{ti j:TyE}{x:Operand}{cs:List D}(ht:tb tt=some ti)(he:tb e=some j)(hx:(ev x).cells=some cs)(hl:cs.length=j.size)(yl:ti.ty=.slice e:=by exact rfl)(hz:Nat.ble 1 j.size=true:=by exact rfl)(hsm:Nat.ble j.size 16777216=true:=by exact rfl)(href:Mx tb (.buildSlice tt 1 #[(0,x)])=true:=by exact rfl)(qz:md.nc tb (.buildSlice tt 1 #[(0,x)])=true:=by exact rfl):
  mR P tb md ⟨dst,.buildSlice tt 1 #[(0,x)],ty,pos,af,gd⟩ ev hp (.gw hp.next j.size 1) (hp.var cs):=by
 have hz:=a9 hz
 have hsm:=a9 hsm
 have hu:=tok.slice ht yl
 refine⟨.step fun B g w a hr yj=>?_,fun hq=>?_,fun _=>⟨jD _,fun j hj=>an (by omega)⟩,fun h=>by cases h⟩
 rotate_left
 ·exfalso
  cases md with
  |seq=>cases hq
  |any L=>
   have h1:((po (.buildSlice tt 1 #[(0,x)])&&!Mx tb (.buildSlice tt 1 #[(0,x)]))||oK tb L (.buildSlice tt 1 #[(0,x)]))=true:=hq
   rw[href] at h1
   simp[po,oK] at h1
 have cQ:=yj x (by simp[Op.operands])
 have oV:=cQ.cells hx
 have ux:(a.eval x).cells.size=j.size:=by rw[←iQ,←oV.1.1,hl]
 obtain⟨zv,hzv,Ha⟩:=tok.run_zero he w
 obtain⟨_,_,hzl,ME⟩:=tok e j he
 have hs:=tok.run_sizeOf he w
 have CA:Instr.fill (fun i=>some (i*j.size,j.size)) ((Array.range (1*j.size)).map (zv.cells[·% zv.cells.size]!)) [(0,a.eval x)]=some (a.eval x).cells:=by
  have h0:f8 (fun i=>some (i*j.size,j.size)) ((Array.range (1*j.size)).map (zv.cells[·% zv.cells.size]!)).toList ([(0,a.eval x)].map fun p=>(p.1,p.2.cells.toList))=some (a.eval x).cells.toList:=by
   have LU:((Array.range (1*j.size)).map (zv.cells[·% zv.cells.size]!)).toList.length=j.size:=by simp
   simp only[iW,l8,f8,gL,br,iQ]
   rw[ah (by rw[ux,Array.size_map,Array.size_range];omega)]
   rw[EP,nB,CK (by rw[LU];omega),th]
  have:=Dp h0
  simpa using this
 have bZ:(Instr.buildSlice tt 1 #[(0,a.eval x)]).run P w=.ok (.slice (some ⟨w.heap.size,0,none⟩) 1 1) (w.alloc (.cells (a.eval x).cells e)):=by
  have hsm2:¬1*j.size > 2 ^ 24:=by omega
  have fI:¬1*j.size=0:=by omega
  simp only[Instr.buildSlice,Sem.run_bind,run_underlying hu,Result.andThen_ok,hs,ah hsm2,ah fI,hzv,Sem.run_pure]
  simp only[CA]
  rfl
 refine⟨.slice (some ⟨w.heap.size,0,none⟩) 1 1,g.var hp.next w.heap.size,w.alloc (.cells (a.eval x).cells e),?_,hr.newVar cs _ e (by rw[ux,hl];exact ax _) (fun i u hu=>?_),cC.var hp g w cs _,?_,(Below.refl _ _).alloc hr.base _,fun p _ h=>.inl h⟩
 ·simp[execOp,bZ]
 ·have vG:(a.eval x).cells.toList[i]? =some u:=by simpa using hu
  exact⟨fun _=>oV.2 u (dZ vG),fun d hd=>oV.1.2 i d u hd vG⟩
 ·have:=aD.gw (hp:=hp.var cs) (g:=g.var hp.next w.heap.size) (w:=w.alloc (.cells (a.eval x).cells e)) hp.next j.size 1 1 (ek _) (ax _) (by decide) ⟨(a.eval x).cells,e,(0,0),by rw[show (g.var hp.next w.heap.size).μ hp.next=w.heap.size from ai rfl];exact heap_alloc_new w _,by omega⟩
  rwa[show (g.var hp.next w.heap.size).μ hp.next=w.heap.size from ai rfl] at this
theorem Bi(w:World)(t ty e tt:TypeId)(i:TypeInfo)(ht:P.underlying t=some (.slice e))(hi:P.info? e=some i)
  (g Mi sCap:Nat) (cur:Array Value) (hg:w.heap[g]? =some (.cells cur tt (0,0)))
  (a:Addr) (m c:Nat) (news:List Value) (hl:news.length=m*i.size) (sX:∀j u,news[j]? =some u→w.cell? (a.add j)=some u) (h1:∀u∈news,u.oneCell'=true)
  (vH:Mi+m≤sCap) (GA:Mi*i.size+news.length≤cur.size):
  (Builtin.append_ #[t,t] ty #[.slice (some ⟨g,0,none⟩) Mi sCap,.slice (some a) m c]).run P w=
   .ok (.slice (some ⟨g,0,none⟩) (Mi+m) sCap) (w.setRow g (cur.toList.take (Mi*i.size)++news++cur.toList.drop (Mi*i.size+news.length)).toArray):=by
 have hf:=run_firstCells_some (P:=P) w i.size m a m c news hl sX
 have Hc:=run_storeCells_at P g (Mi*i.size) tt news 0 cur w hg (by simpa using GA) h1
 simp only[iM] at Hc
 simp[Builtin.append_,run_underlying ht,sizeOf,typeInfo,hi,Builtin.lenOf,vH,hf,Addr.add_lit,Hc]
structure AppG(w:World)(g:Nat)(v':Value)(w':World)(b n z:Nat)(xs:List Value):Prop where
 size:w.heap.size≤w'.heap.size
 old:∀c,c<w.heap.size→c≠g→w'.heap[c]? =w.heap[c]?
 sz:SzB w w' g
 blk:b=g∨w.heap.size≤b
 rest:w'.os=w.os∧w'.tape=w.tape∧w'.output=w.output
 row:∃(cs:Array Value) (tt:TypeId) (cap:Nat),v'=.slice (some ⟨b,0,none⟩) n cap∧n≤cap∧cap≤maxLen∧w'.heap[b]? =some (.cells cs tt (0,0))∧cap*z≤cs.size∧cs.toList.take (n*z)=xs
theorem Gm(tok:TOk P tb){t e:TypeId}{ti j:TyE}(ht:tb t=some ti)(yl:ti.ty=.slice e)(he:tb e=some j)(hz:0<j.size)(w:World)(ty tt:TypeId)(g n cap:Nat)(cur:Array Value)(hg:w.heap[g]? =some (.cells cur tt (0,0)))(qz:n≤cap)(o9:cap≤maxLen)(oV:cap*j.size≤cur.size)
  (a:Addr) (m c:Nat) (news:List Value) (hl:news.length=m*j.size) (sX:∀j u,news[j]? =some u→w.cell? (a.add j)=some u) (h1:∀u∈news,u.oneCell'=true) (hm:0<m) (hb:(n+m)*max 1 j.bytes≤140737488355328):
  ∃v' w' b,(Builtin.append_ #[t,t] ty #[.slice (some ⟨g,0,none⟩) n cap,.slice (some a) m c]).run P w=.ok v' w'∧AppG w g v' w' b (n+m) j.size (cur.toList.take (n*j.size)++news):=by
 obtain⟨f,zz,Re,OS,CY,OR,hf4,_⟩:=tok.inf he
 have hu:=tok.slice ht yl
 have OP:g<w.heap.size:=(oR.1 hg).1
 have Ra:n+m≤140737488355328:=dv (Ht _ (by omega)) hb
 have tP:(n+m)*f.bytes≤140737488355328:=dv (AD _ (by rw[CY];omega)) hb
 have Ta:n*j.size≤cap*j.size:=cK _ qz
 have BI:(cur.toList.take (n*j.size)).length=n*j.size:=by rw[eg,iQ];omega
 by_cases vH:n+m≤cap
 ·have OI:(n+m)*j.size≤cap*j.size:=cK _ vH
  rw[bX] at OI
  have hr:=Bi (P:=P) w t ty e tt f hu Re g n cap cur hg a m c news (by rw[OS];exact hl) sX h1 vH (by rw[OS,hl];omega)
  rw[OS] at hr
  have AU:(cur.toList.take (n*j.size)++news++cur.toList.drop (n*j.size+news.length)).toArray.size=cur.size:=by
   simp only[se,cD,eg,fa,iQ];omega
  refine⟨_,_,g,hr,by simp,fun c _ hc=>setRow_other w g c _ hc,SzB.row hg AU,.inl rfl,⟨rfl,rfl,rfl⟩,_,tt,cap,rfl,vH,o9,setRow_heap w g cur _ tt (0,0) hg,by rw[AU];exact oV,?_⟩
  have e1:(n+m)*j.size=(cur.toList.take (n*j.size)++news).length:=by rw[cD,BI,hl,bX]
  rw[e1]
  exact vO
 ·have holds:∀i u,(cur.toList.take (n*j.size))[i]? =some u→w.cell? ((⟨g,0,none⟩:Addr).add i)=some u:=fun i u hu=>by
   rw[gM] at hu
   split at hu
   ·rw[Addr.add_lit]
    simpa[World.cell?,hg] using hu
   ·cases hu
  have hr:=run_append_grow (P:=P) w t ty e f zz hu Re OR ⟨g,0,none⟩ n cap (cur.toList.take (n*j.size)) (by rw[OS];exact BI) holds a m c news (by rw[OS];exact hl) sX (by omega) (by omega) (growslice_fits (by omega) tP)
  have vI:=grownCap_ge w (n+m) cap e
  have hzs:zz.cells.size=j.size:=by
   have h4:=(tok e j he).2.2.1
   rw[←iQ,hf4,h4]
  refine⟨_,_,w.heap.size,hr,by simp,fun c hc _=>heap_alloc_old w.drew _ hc,.same fun h=>heap_alloc_old w.drew _ h,.inr (ax _),⟨rfl,rfl,rfl⟩,_,e,_,rfl,vI,grownCap_le_maxLen w (n+m) cap e (by unfold maxLen;omega),heap_alloc_new w.drew _,?_,?_⟩
  ·simp only[Ls,se,size_zeroCells,hzs,BI,hl,←bX]
   exact cK _ (by omega)
  ·have e1:(n+m)*j.size=(cur.toList.take (n*j.size)++news).length:=by rw[cD,BI,hl,bX]
   simp only[Pk]
   rw[e1]
   exact vO
theorem appR(tok:TOk P tb){ev:Operand→D}{t e:TypeId}{ti j:TyE}{x y:Operand}{k n ky:Nat}{ds news:List D}(ht:tb t=some ti)(he:tb e=some j)(hk:hp.vars.lookup k=some ds)(hy:hp.vars.lookup ky=some news)(hx:ev x=.gw k j.size n)(SI:ev y=.gw ky j.size 1)(hl:ds.length=n*j.size)(LU:news.length=j.size)(hb:(n+1)*max 1 j.bytes≤140737488355328)
  (yl:ti.ty=.slice e:=by exact rfl) (hz:Nat.ble 1 j.size=true:=by exact rfl) (href:cpB tb ⟨.builtin .append,#[x,y],#[t,t]⟩=true:=by exact rfl):
  mR P tb md ⟨dst,.call ⟨.builtin .append,#[x,y],#[t,t]⟩,ty,pos,af,gd⟩ ev hp (.gw hp.next j.size (n+1)) (hp.re k (ds++news)):=by
 have hz:=a9 hz
 refine⟨.step fun B g w a hr yj=>?_,fun hq=>?_,fun h=>?_,fun h=>by cases h⟩
 ·have h1:=yj x (cP (by simp))
  have h2:=yj y (cP (by simp))
  rw[hx] at h1
  rw[SI] at h2
  obtain⟨q1,q2,q3,cs,tt,q4,q5,q6⟩:=hr.var k ds hk
  obtain⟨y1,y2,y3,ys,yt,y4,y5,y6⟩:=hr.var ky news hy
  generalize hv1:a.eval x=v1 at h1
  generalize SP:a.eval y=v2 at h2
  cases h1 with
  |gw _ _ _ cap xz qz o9 hs=>
  cases h2 with
  |gw _ _ _ c hkn2 hnc2 hcm2 LT=>
  obtain⟨wP,tt',l',h3,h4⟩:=hs
  rw[q4] at h3
  injection h3 with h3
  injection h3 with h3 h5 h6
  subst h3;subst h5;subst h6
  have sX:∀i u,(ys.toList.take j.size)[i]? =some u→w.cell? ((⟨g.μ ky,0,none⟩:Addr).add i)=some u:=fun i u hu=>by
   rw[gM] at hu
   split at hu
   ·rw[Addr.add_lit]
    simpa[World.cell?,y4] using hu
   ·cases hu
  have hyone:∀u∈ys.toList.take j.size,u.oneCell'=true:=fun u hu=>by
   obtain⟨i,hi⟩:=AF hu
   rw[gM] at hi
   split at hi
   ·rename_i bI
    exact (y6 i u (by simpa using hi)).1 (by omega)
   ·cases hi
  obtain⟨v',w',b,bZ,tE⟩:=Gm tok ht yl he hz w ty tt (g.μ k) n cap cs q4 qz o9 h4 ⟨g.μ ky,0,none⟩ 1 c (ys.toList.take j.size) (by rw[eg,iQ];omega) sX hyone (by omega) hb
  obtain⟨cs2,tt2,cap2,wb,LW,q8,hh2,hc3,OU⟩:=tE.row
  have hlen:(ds++news).length=(n+1)*j.size:=by rw[cD,hl,LU,bX,e8]
  have Dj:(n+1)*j.size≤cap2*j.size:=cK _ LW
  have hHR:HR B (hp.re k (ds++news)) (g.var hp.next b) w':=hr.re hk _ tE.size tE.old tE.sz tE.blk cs2 tt2 hh2 (by rw[hlen];omega) (fun i u hu=>by
   have hwin:i<(n+1)*j.size→(cs.toList.take (n*j.size)++ys.toList.take j.size)[i]? =some u:=fun hi=>by
    rw[←OU,gM,ai hi];simpa using hu
   have htk:(cs.toList.take (n*j.size)).length=n*j.size:=by rw[eg,iQ];omega
   have look:∀hi:i<(n+1)*j.size,(i<n*j.size∧cs[i]? =some u)∨(n*j.size≤i∧i - n*j.size<j.size∧ys[i - n*j.size]? =some u):=fun hi=>by
    have h:=hwin hi
    rcases dX i (n*j.size) with bI|vI
    ·rw[AG (by omega),gM,ai bI] at h
     exact .inl ⟨bI,by simpa using h⟩
    ·rw[qJ (by omega),htk,gM] at h
     rw[bX,e8] at hi
     rw[ai (by omega)] at h
     exact .inr ⟨vI,by omega,by simpa using h⟩
   refine⟨fun hi=>?_,fun d hd=>?_⟩
   ·rw[hlen] at hi
    rcases look hi with⟨h5,h6⟩|⟨h5,h6,h7⟩
    ·exact (q6 i u h6).1 (by omega)
    ·exact (y6 _ u h7).1 (by omega)
   ·have hi:i<(n+1)*j.size:=by rw[←hlen];exact (fP.1 hd).1
    rcases look hi with⟨h5,h6⟩|⟨h5,h6,h7⟩
    ·rw[AG (by omega)] at hd
     exact (q6 i u h6).2 d hd
    ·rw[qJ (by omega),hl] at hd
     exact (y6 _ u h7).2 d hd)
  refine⟨v',g.var hp.next b,w',?_,hHR,cC.re hr hk _ tE.size tE.old tE.sz tE.blk,?_,⟨tE.rest.1,tE.rest.2.1,tE.rest.2.2,tE.size,fun c hc=>tE.old c (bH hc hr.base) (by omega)⟩,fun p h5 h6=>.inl h6⟩
  ·simp only[execOp,Array.map_map,al_5,iW,l8,resolve,invoke,builtin,hv1,SP,Sem.run_bind]
   simp[resolve,invoke,builtin,hv1,SP,bZ]
  ·subst wb
   have JF:(g.var hp.next b).μ hp.next=b:=ai rfl
   have:=aD.gw (hp:=hp.re k (ds++news)) (g:=g.var hp.next b) (w:=w') hp.next j.size (n+1) cap2 (ek _) LW q8 ⟨cs2,tt2,(0,0),by rw[JF];exact hh2,hc3⟩
   rwa[JF] at this
 ·exfalso
  cases md with
  |seq=>cases hq
  |any L=>
   have h1:((po (.call ⟨.builtin .append,#[x,y],#[t,t]⟩)&&!Mx tb (.call ⟨.builtin .append,#[x,y],#[t,t]⟩))||oK tb L (.call ⟨.builtin .append,#[x,y],#[t,t]⟩))=true:=hq
   simp[po,oK] at h1
 ·have h2:(hvB tb ⟨.builtin .append,#[x,y],#[t,t]⟩||cpB tb ⟨.builtin .append,#[x,y],#[t,t]⟩)=false:=h
  rw[href,Bool.or_true] at h2
  cases h2
end
end
section
section
variable {P:Program} {tb:TypeId→Option TyE} {md:Md} {B:Nat} {hp hp':Hp} {g:Gh} {w w':World} {d:D} {v:Value}
theorem appN(tok:TOk P tb){ev:Operand→D}{dst:Option Tmp}{ty:TypeId}{pos:String}{af:Array Edge}{gd:Option (Nat×Bool)}{t e:TypeId}{ti j:TyE}{x y:Operand}{ky:Nat}{news:List D}(ht:tb t=some ti)(he:tb e=some j)(hy:hp.vars.lookup ky=some news)(hx:ev x=.e (.lit (.slice none 0 0)))(SI:ev y=.gw ky j.size 1)(LU:news.length=j.size)(hb:1*max 1 j.bytes≤140737488355328)
  (yl:ti.ty=.slice e:=by exact rfl) (hz:Nat.ble 1 j.size=true:=by exact rfl):
  mR P tb md ⟨dst,.call ⟨.builtin .append,#[x,y],#[t,t]⟩,ty,pos,af,gd⟩ ev hp (.gw hp.next j.size 1) (hp.var news):=by
 have hz:=a9 hz
 refine⟨.step fun B g w a hr yj=>?_,fun hq=>?_,fun _=>⟨jD _,fun j hj=>an (by omega)⟩,fun h=>by cases h⟩
 ·have h1:=yj x (cP (by simp))
  have h2:=yj y (cP (by simp))
  rw[hx] at h1
  rw[SI] at h2
  have h1:=h1.lit
  obtain⟨y1,y2,y3,ys,yt,y4,y5,y6⟩:=hr.var ky news hy
  generalize SP:a.eval y=v2 at h2
  cases h2 with
  |gw _ _ _ c hkn2 hnc2 hcm2 LT=>
  obtain⟨f,zz,Re,OS,CY,OR,hf4,_⟩:=tok.inf he
  have hu:=tok.slice ht yl
  have hzs:zz.cells.size=j.size:=by
   have h4:=(tok e j he).2.2.1
   rw[←iQ,hf4,h4]
  have tP:f.bytes≤140737488355328:=by rw[CY];omega
  have sX:∀i u,(ys.toList.take j.size)[i]? =some u→w.cell? ((⟨g.μ ky,0,none⟩:Addr).add i)=some u:=fun i u hu=>by
   rw[gM] at hu
   split at hu
   ·rw[Addr.add_lit]
    simpa[World.cell?,y4] using hu
   ·cases hu
  have AU:(ys.toList.take j.size).length=j.size:=by rw[eg,iQ];omega
  have bZ:=run_append_nil (P:=P) w t ty e f zz hu Re OR ⟨g.μ ky,0,none⟩ 1 c (ys.toList.take j.size) (by rw[OS,AU];omega) sX (by omega) (by omega) (by omega)
  have vI:=grownCap_ge w 1 0 e
  have hold:∀c,c<w.heap.size→(w.drew.alloc (.cells ((ys.toList.take j.size).toArray++Builtin.zeroCells zz.cells (grownCap w 1 0 e - 1)) e)).heap[c]? =w.heap[c]? :=fun c hc=>heap_alloc_old w.drew _ hc
  have CX:=heap_alloc_new w.drew (.cells ((ys.toList.take j.size).toArray++Builtin.zeroCells zz.cells (grownCap w 1 0 e - 1)) e)
  have mo:=cC.addVar (w:=w) (w':=w.drew.alloc (.cells ((ys.toList.take j.size).toArray++Builtin.zeroCells zz.cells (grownCap w 1 0 e - 1)) e)) hp g news (b:=w.heap.size) (by simp) hold (ax _)
  have hsz:((ys.toList.take j.size).toArray++Builtin.zeroCells zz.cells (grownCap w 1 0 e - 1)).size=grownCap w 1 0 e*j.size:=by
   simp only[Ls,se,size_zeroCells,hzs,AU]
   have:grownCap w 1 0 e=1+(grownCap w 1 0 e - 1):=by omega
   rw[this,bX,e8]
   congr 2
   omega
  have h1z:1*j.size≤grownCap w 1 0 e*j.size:=cK _ vI
  refine⟨.slice (some ⟨w.heap.size,0,none⟩) 1 (grownCap w 1 0 e),g.var hp.next w.heap.size,_,?_,hr.addVar news (w':=w.drew.alloc (.cells ((ys.toList.take j.size).toArray++Builtin.zeroCells zz.cells (grownCap w 1 0 e - 1)) e)) (by simp) hold (ax _) _ e CX (by rw[hsz,LU];omega) (fun i u hu=>?_),mo,?_,⟨rfl,rfl,rfl,by simp,fun c hc=>hold c (bH hc hr.base)⟩,fun p h5 h6=>.inl h6⟩
  ·simp only[execOp,Array.map_map,al_5,iW,l8,resolve,invoke,builtin,h1,SP,Sem.run_bind]
   simp[resolve,invoke,builtin,h1,SP,bZ]
  ·have Gz:i<news.length→ys[i]? =some u:=fun hi=>by
    have we:i<(ys.toList.take j.size).toArray.size:=by rw[se,AU];omega
    rw[Ns we,E9,gM,ai (by omega)] at hu
    simpa using hu
   exact⟨fun hi=>(y6 i u (Gz hi)).1 hi,fun d hd=>((y6 i u (Gz (fP.1 hd).1)).2 d hd).mono mo⟩
  ·have JF:(g.var hp.next w.heap.size).μ hp.next=w.heap.size:=ai rfl
   have:=aD.gw (hp:=hp.var news) (g:=g.var hp.next w.heap.size) (w:=w.drew.alloc (.cells ((ys.toList.take j.size).toArray++Builtin.zeroCells zz.cells (grownCap w 1 0 e - 1)) e)) hp.next j.size 1 (grownCap w 1 0 e) (ek _) vI (grownCap_le_maxLen w 1 0 e (by decide)) ⟨_,e,(0,0),by rw[JF];exact CX,by rw[hsz];exact ax _⟩
   rwa[JF] at this
 ·exfalso
  cases md with
  |seq=>cases hq
  |any L=>
   have h1:((po (.call ⟨.builtin .append,#[x,y],#[t,t]⟩)&&!Mx tb (.call ⟨.builtin .append,#[x,y],#[t,t]⟩))||oK tb L (.call ⟨.builtin .append,#[x,y],#[t,t]⟩))=true:=hq
   simp[po,oK] at h1
def Fv(hp:Hp)(g:Gh):Addr→Prop:=fun p=>g.F p∧∀k ds,hp.vars.lookup k=some ds→g.μ k≠p.block
def AR(hp:Hp)(d d':D):Prop:=∀(B:Nat) (g:Gh) (w:World) (v:Value),HR B hp g w→aD hp g w d v→lT w (Fv hp g) d' v
theorem AR.data(h:d.ex.pure=true):AR hp d d.ex:=fun _ _ _ _ _ hd=>(hd.xport h).less fun _ hp=>hp.1
theorem AR.sl {k z n off:Nat}{F:List E}(hv:hp.vars.lookup k=some (dC F))(hz:0<z)(hl:off+n*z≤F.length):AR hp (.ow k off z n) (.e (.sl z n ((F.drop off).take (n*z)))):=by
 intro B g w v hr hd
 obtain⟨h1,h2,h3,cs,ty,h4,h5,h6⟩:=hr.var k _ hv
 rw[eA] at h5
 cases hd with
 |ow _ _ _ _ c hk qz o9=>
  refine .e _ _ (.sl z n _ (some ⟨g.μ k,off,none⟩) c (fun i=>cs.getD (off+i) undef) (by rw[eg,fa];omega) hz qz o9 (fun _=>⟨_,rfl,(oR.1 h4).1⟩) (fun ad ha i e hi=>?_) (fun i e hi=>?_))
  ·injection ha with ha
   subst ha
   have we:i<n*z:=by
    have:=(fP.1 hi).1
    rw[eg] at this;omega
   have Rf:(⟨g.μ k,off,none⟩:Addr).add i=⟨g.μ k,off+i,none⟩:=by unfold Addr.add;split <;> simp_all
   refine⟨?_,fun hf=>hf.2 k _ hv (by rw[gi])⟩
   rw[Rf]
   have bI:off+i<cs.size:=by omega
   simp[World.cell?,h4,eQ,bI]
  ·have we:i<n*z:=by
    have:=(fP.1 hi).1
    rw[eg] at this;omega
   have bI:off+i<cs.size:=by omega
   rw[gM,ai we,nA] at hi
   have hu:=h6 (off+i) (cs.getD (off+i) undef) (by simp[eQ,bI])
   have:=hu.2 (.e e) (by unfold dC;rw[dV,hi];rfl)
   cases this with
   |e _ _ h7=>exact h7.less fun p hp=>hp.1
theorem AR.gw {k z n:Nat}{F:List E}(hv:hp.vars.lookup k=some (dC F))(hz:0<z)(hl:F.length=n*z):AR hp (.gw k z n) (.e (.sl z n F)):=by
 intro B g w v hr hd
 have:=AR.sl (off:=0) hv hz (n:=n) (by omega) B g w v hr hd.toOw
 rwa[qS,g9 (by omega)] at this
def ARs(hp:Hp):List D→List D→Prop
 |[],[]=>True
 |d::ds,e::es=>AR hp d e∧ARs hp ds es
 |_,_=>False
theorem ARs.get:∀{ds es:List D},ARs hp ds es→ds.length=es.length∧∀(j:Nat) (e:D),es[j]? =some e→∃d,ds[j]? =some d∧AR hp d e
 |[],[],_=>⟨rfl,fun j e h=>by simp at h⟩
 |d::ds,e::es,⟨h1,h2⟩=>by
  obtain⟨h3,h4⟩:=ARs.get h2
  refine⟨by simp[h3],fun j x hx=>?_⟩
  cases j with
  |zero=>simp at hx;subst hx;exact⟨d,rfl,h1⟩
  |succ j=>exact h4 j x (by simpa using hx)
 |[],_::_,h=>h.elim
 |_::_,[],h=>h.elim
theorem AR.ag {ds es:List D}(h:ARs hp ds es):AR hp (.ag ds) (.ag es):=by
 intro B g w v hr hd
 obtain⟨h1,h2⟩:=h.get
 cases hd with
 |ag _ cs hl ho ML=>
  refine .ag es cs (by omega) ho fun j e u hj hu=>?_
  obtain⟨d,h3,h4⟩:=h2 j e hj
  exact h4 B g w u hr (ML j d u h3 hu)
def D.flatC:D→Bool
 | .e (.lit _)=>true
 |_=>false
def D.flat1:D→Bool
 | .ag ds=>ds.all D.flatC
 |d=>d.flatC
def D.flat:D→Bool
 | .tu ds=>ds.all D.flat1
 |d=>d.flat1
theorem KX {F:Addr→Prop}(h:lT w F d v)(hf:d.flatC=true)(hp:Hp)(g:Gh)(w':World):aD hp g w' d v:=by
 cases h with
 |e x v h=>
  cases x with
  |lit u=>cases h with|lit _ ho=>exact .e _ _ (.lit _ ho)
  |_=>cases hf
 |_=>cases hf
theorem KY {F:Addr→Prop}(h:lT w F d v)(hf:d.flat1=true)(hp:Hp)(g:Gh)(w':World):aD hp g w' d v:=by
 cases d with
 |ag ds=>
  cases h with
  |ag _ cs hl ho ML=>exact .ag ds cs hl ho fun j d u hj hu=>KX (ML j d u hj hu) (ba.1 hf d (dZ hj)) hp g w'
 |_=>exact KX h hf hp g w'
theorem flat_to {F:Addr→Prop}(h:lT w F d v)(hf:d.flat=true)(hp:Hp)(g:Gh)(w':World):aD hp g w' d v:=by
 cases d with
 |tu ds=>
  cases h with
  |tu _ cs hl ML=>exact .tu ds cs hl fun j d u hj hu=>KY (ML j d u hj hu) (ba.1 hf d (dZ hj)) hp g w'
 |_=>exact KY h hf hp g w'
theorem Fv_fits(hr:HR B hp g w):∀p:Addr,Fv hp g p→p.block<w.heap.size:=fun p h=>hr.fits p h.1
theorem Hr {f:FuncId}{ds ds':List D}{r:D}(hc:aq P f ds' r)(ha:ARs hp ds ds'){vs:Array Value}(hr:HR B hp g w)(hsz:vs.size=ds.length)(cQ:∀(j:Nat) (d:D) (u:Value),ds[j]? =some d→vs[j]? =some u→aD hp g w d u):
  Calls P f vs w fun e w'=>∃v,e=.returned v∧wl w.heap.size (Fv hp g) w' r v∧Below w.heap.size w w':=by
 obtain⟨h1,h2⟩:=ha.get
 refine hc.2 w _ vs (Fv_fits hr) (by omega) fun j e u hj hu=>?_
 obtain⟨d,h3,h4⟩:=h2 j e hj
 exact h4 B g w u hr (cQ j d u h3 hu)
theorem HC.frz {f:FuncId}{ds ds':List D}{r:D}(hc:aq P f ds' r)(ha:ARs hp ds ds')(hf:r.flat=true):HC P f ds hp r hp:=by
 refine⟨hc.1,fun B g w vs hr hsz cQ=>(Hr hc ha hr hsz cQ).mono ?_⟩
 rintro e w' ⟨v,rfl,ql,hb⟩
 have SX:lT w' (Fv hp g) r v:=by
  unfold wl at ql
  split at ql
  ·cases hf
  ·exact ql
 exact⟨v,g,rfl,hr.keep hb.size hb.block,cC.keep hp g hb.size hb.block,flat_to SX hf hp g w',hb.mono hr.base,fun _ _ h=>h⟩
def E.isLit:E→Bool
 | .lit _=>true
 |_=>false
theorem HC.adopt {f:FuncId}{ds ds':List D}{e z n:Nat}{xs:List E}(hc:aq P f ds' (.own e z n xs))(ha:ARs hp ds ds')(hn:0<n)(hx:xs.all E.isLit=true):HC P f ds hp (.gw hp.next z n) (hp.var (dC xs)):=by
 refine⟨hc.1,fun B g w vs hr hsz cQ=>(Hr hc ha hr hsz cQ).mono ?_⟩
 rintro en w' ⟨v,rfl,⟨hz,⟨us,ho⟩,ql⟩,hb⟩
 rcases ho.2 with⟨rfl,rfl⟩|⟨b,cap,cur,rfl,hB,hh,qz,o9,oV,htk⟩
 ·omega
 have BI:xs.length=n*z:=by cases ql with|sl _ _ _ _ _ _ hl=>exact hl
 have OH:=ho.1
 have Ta:n*z≤cap*z:=cK _ qz
 have mo:=cC.addVar hp g (dC xs) hb.size hb.block hB
 have JF:(g.var hp.next b).μ hp.next=b:=ai rfl
 have cells:∀(i:Nat) (u:Value),cur[i]? =some u→∀x,xs[i]? =some x→∃y,x=.lit y∧u=y∧y.oneCell'=true:=fun i u hu x hxi=>by
  have hlit:x.isLit=true:=ba.1 hx x (dZ hxi)
  cases ql with
  |sl _ _ _ _ _ us2 _ _ _ _ hA Ep ML=>
   obtain⟨h5,_⟩:=Ep _ rfl i x hxi
   have h6:w'.cell? ((⟨b,0,none⟩:Addr).add i)=cur[i]? :=by rw[Addr.add_lit];simp[World.cell?,hh]
   rw[h6,hu] at h5
   injection h5 with h5
   have h7:=ML i x hxi
   rw[←h5] at h7
   cases x with
   |lit y=>cases h7 with|lit _ ho=>exact⟨_,rfl,rfl,ho⟩
   |_=>cases hlit
 refine⟨_,g.var hp.next b,rfl,hr.addVar (dC xs) hb.size hb.block hB cur e hh (by rw[eA,BI,oV];exact Ta) (fun i u hu=>⟨fun hi=>?_,fun d hd=>?_⟩),mo,?_,hb.mono hr.base,fun p _ h=>.inl h⟩
 ·rw[eA] at hi
  obtain⟨y,_,rfl,h⟩:=cells i u hu xs[i] (cH hi)
  exact h
 ·unfold dC at hd
  rw[dV] at hd
  obtain⟨x,Hb,rfl⟩:=yx.1 hd
  obtain⟨y,rfl,rfl,h⟩:=cells i u hu x Hb
  exact .e _ _ (.lit _ h)
 ·have:=aD.gw (hp:=hp.var (dC xs)) (g:=g.var hp.next b) (w:=w') hp.next z n cap (ek _) qz o9 ⟨cur,e,(0,0),by rw[JF];exact hh,by omega⟩
  rwa[JF] at this
end
end
section
section
variable {P:Program} {tb:TypeId→Option TyE} {md:Md} {hp hp':Hp} {d:D} {dst:Option Tmp} {ty:TypeId} {pos:String} {af:Array Edge} {gd:Option (Nat×Bool)} {ev:Operand→D}
theorem opHC {x:Operand}{f:FuncId}{aS:List Operand}{ts:Array TypeId}{ds:List D}(Aq:ev x=.e (.lit (.func (.func f) #[] #[])))(hc:HC P f ds hp d hp')(hd:aS.map ev=ds):rl P ⟨dst,.call ⟨.value x,aS.toArray,ts⟩,ty,pos,af,gd⟩ ev hp d hp':=by
 intro B g w a Kn Q hr hx xz
 subst hd
 obtain⟨⟨fn,hf,hn,CC⟩,Ar⟩:=hc
 have hv:=hx x (by simp[Op.operands,Call.operands])
 rw[Aq] at hv
 have hv:=hv.lit
 have ux:=Ar B g w (aS.map a.eval).toArray hr (by simp) (fun j d u hd hu=>by
  rw[dV] at hd
  obtain⟨y,hy,rfl⟩:=yx.1 hd
  have vG:(aS.map a.eval)[j]? =some u:=by simpa using hu
  rw[dV,hy] at vG
  injection vG with vG
  subst vG
  exact hx y (cP (by simpa using dZ hy)))
 refine Ex (R:=fun v w'=>∃g',HR B hp' g' w'∧cC hp g w hp' g' w'∧aD hp' g' w' d v∧Below B w w'∧∀p:Addr,p.block<B→g.F p→g'.F p) ?_ (ux.mono ?_) ?_
 ·have hn' : fn.name ≠ "runtime.NumGoroutine" := by simpa using hn
  have oZ:¬fn.body=none:=fun e=>by rw[e] at CC;cases CC
  have hcf:(callFunc f (aS.map a.eval).toArray).run P w=.ok (.enter f (aS.map a.eval).toArray) w:=by
   simp[callFunc,hf,hn',oZ]
  rw[←hcf]
  simp[execOp,resolve,invoke,Deferred.ofValue,hv]
 ·rintro e w' ⟨v,g',rfl,h1⟩
  exact⟨v,rfl,g',h1⟩
 ·rintro v w' ⟨g',h1,h2,h3,h4,h5⟩
  exact xz v g' w' h1 h2 h3 h4 h5
theorem opHF {x:Operand}{f:FuncId}{ks:List Nat}{aS:List Operand}{ts:Array TypeId}{ds:List D}(Aq:ev x=.fn f ks)(hc:HC P f ds hp d hp')(hd:aS.map ev++ks.map (fun k=>D.pt k 0)=ds):rl P ⟨dst,.call ⟨.value x,aS.toArray,ts⟩,ty,pos,af,gd⟩ ev hp d hp':=by
 intro B g w a Kn Q hr hx xz
 subst hd
 obtain⟨⟨fn,hf,hn,CC⟩,Ar⟩:=hc
 have hv:=hx x (by simp[Op.operands,Call.operands])
 rw[Aq] at hv
 generalize hu0:a.eval x=u0 at hv
 cases hv with
 |fn _ _ hks=>
 have ux:=Ar B g w (aS.map a.eval++ks.map fun k=>Value.pointer (some ⟨g.μ k,0,none⟩)).toArray hr (by simp) (fun j d u hd hu=>by
  have vG:(aS.map a.eval++ks.map fun k=>Value.pointer (some ⟨g.μ k,0,none⟩))[j]? =some u:=by simpa using hu
  rcases dX j aS.length with hj|hj
  ·rw[AG (by simpa using hj),dV] at hd vG
   obtain⟨y,hy,rfl⟩:=yx.1 hd
   rw[hy] at vG
   injection vG with vG
   subst vG
   exact hx y (cP (by simpa using dZ hy))
  ·rw[qJ (by simpa using hj),dV] at hd vG
   obtain⟨k,hk,rfl⟩:=yx.1 hd
   simp only[bb] at hk vG
   rw[hk] at vG
   injection vG with vG
   subst vG
   exact .pt k 0 (hks k (dZ hk)))
 refine Ex (R:=fun v w'=>∃g',HR B hp' g' w'∧cC hp g w hp' g' w'∧aD hp' g' w' d v∧Below B w w'∧∀p:Addr,p.block<B→g.F p→g'.F p) ?_ (ux.mono ?_) ?_
 ·have hn' : fn.name ≠ "runtime.NumGoroutine" := by simpa using hn
  have oZ:¬fn.body=none:=fun e=>by rw[e] at CC;cases CC
  have hcf:(callFunc f (aS.map a.eval++ks.map fun k=>Value.pointer (some ⟨g.μ k,0,none⟩)).toArray).run P w=.ok (.enter f (aS.map a.eval++ks.map fun k=>Value.pointer (some ⟨g.μ k,0,none⟩)).toArray) w:=by
   simp[callFunc,hf,hn',oZ]
  have vJ:(aS.map a.eval++ks.map fun k=>Value.pointer (some ⟨g.μ k,0,none⟩)).toArray=aS.toArray.map a.eval++(ks.map fun k=>Value.pointer (some ⟨g.μ k,0,none⟩)).toArray:=by apply oN.1;simp
  rw[←hcf,vJ]
  simp[execOp,resolve,invoke,Deferred.ofValue,hu0]
 ·rintro e w' ⟨v,g',rfl,h1⟩
  exact⟨v,rfl,g',h1⟩
 ·rintro v w' ⟨g',h1,h2,h3,h4,h5⟩
  exact xz v g' w' h1 h2 h3 h4 h5
theorem sndOf {c:Call}{x:Operand}(Ep:c.callee=.value x)(h:rl P ⟨dst,.call c,ty,pos,af,gd⟩ ev hp d hp')(hfr:hvB tb c=true∨Fr hp hp')(hn:md.nc tb (.call c)=true):mR P tb md ⟨dst,.call c,ty,pos,af,gd⟩ ev hp d hp':=by
 refine⟨h,fun hq=>?_,fun hv=>?_,fun h=>by cases h⟩
 ·exfalso
  cases md with
  |seq=>cases hq
  |any L=>
   have h1:((po (.call c)&&!Mx tb (.call c))||oK tb L (.call c))=true:=hq
   have h2:(!oK tb L (.call c))=true:=hn
   rw[Cb] at h2
   rw[h2,Bool.or_false] at h1
   simp[po,Ep] at h1
 ·rcases hfr with h1|h1
  ·have h2:(hvB tb c||cpB tb c)=false:=hv
   rw[h1] at h2;cases h2
  ·exact h1
theorem sHC {x:Operand}{f:FuncId}{aS:List Operand}{ts:Array TypeId}{ds:List D}(hc:HC P f ds hp d hp')(hd:aS.map ev=ds)(hfr:hvB tb ⟨.value x,aS.toArray,ts⟩=true∨Fr hp hp')(Aq:ev x=.e (.lit (.func (.func f) #[] #[])):=by exact rfl)(hn:md.nc tb (.call ⟨.value x,aS.toArray,ts⟩)=true:=by exact rfl):
  mR P tb md ⟨dst,.call ⟨.value x,aS.toArray,ts⟩,ty,pos,af,gd⟩ ev hp d hp':=sndOf rfl (opHC Aq hc hd) hfr hn
theorem sHF {x:Operand}{f:FuncId}{ks:List Nat}{aS:List Operand}{ts:Array TypeId}{ds:List D}(hc:HC P f ds hp d hp')(hd:aS.map ev++ks.map (fun k=>D.pt k 0)=ds)(Aq:ev x=.fn f ks:=by exact rfl)(hfr:hvB tb ⟨.value x,aS.toArray,ts⟩=true:=by exact rfl)(hn:md.nc tb (.call ⟨.value x,aS.toArray,ts⟩)=true:=by exact rfl):
  mR P tb md ⟨dst,.call ⟨.value x,aS.toArray,ts⟩,ty,pos,af,gd⟩ ev hp d hp':=sndOf rfl (opHF Aq hc hd) (.inl hfr) hn
end
structure Pt(F:List D)(o:Nat)(bs:List D)(F':List D→List D):Prop where
 le:o+bs.length≤F.length
 g:(F.drop o).take bs.length=bs
 p:∀ys:List D,ys.length=bs.length→F.take o++ys++F.drop (o+bs.length)=F' ys
theorem Pt.of {F bs:List D}{o:Nat}{F':List D→List D}(A C:List D)(hA:A.length=o)(hF:F=A++bs++C)(hp:∀y,F' y=A++y++C):Pt F o bs F':=by
 subst hA hF
 refine⟨by simp only[cD];omega,?_,fun y hy=>?_⟩
 ·rw[c5,tK,vO]
 ·rw[hp,c5 A bs C,vO,←qR,tK,tK]
section
variable {P:Program} {tb:TypeId→Option TyE} {dr:Bool} {ty:TypeId} {ev:Operand→D} {hp:Hp} {k o:Nat} {F bs:List D} {F':List D→List D} {t:TypeId} {i:TyE} {x y:Operand} {d:D}
theorem CP(L:Pt F o bs F')(hv:hp.vars.lookup k=some F)(hk:k<hp.next)(ht:tb t=some i)(hz:bs.length=i.size)(hg:i.ty.agg=true:=by exact rfl)(hx:ev x=.pt k o:=by exact rfl):AVC P tb dr (.load t x) ty ev hp (Kq (.ag bs) hp):=by
 rw[ri,hx,oq,ht,hv]
 simp only[hg]
 refine⟨hk,by rw[←hz];exact L.le,?_⟩
 rw[←hz,L.g]
 exact Kq.here _ _
theorem kG(L:Pt F o [d] F')(hv:hp.vars.lookup k=some F)(hk:k<hp.next)(ht:tb t=some i)(hg:i.ty.agg=false:=by exact rfl)(hx:ev x=.pt k o:=by exact rfl):AVC P tb dr (.load t x) ty ev hp (Kq d hp):=by
 rw[ri,hx,oq,ht,hv]
 simp only[hg]
 refine⟨hk,d,?_,Kq.here _ _⟩
 have h:=L.g
 have hle:=L.le
 have:((F.drop o).take 1)[0]? =some d:=by rw[show (1:Nat)=[d].length from rfl,h];rfl
 rw[gM,ai (by omega),nA,iM] at this
 exact this
theorem HF {ys F2:List D}{hp':Hp}(L:Pt F o bs F')(hv:hp.vars.lookup k=some F)(hyc:(ev y).cells=some ys)(ht:tb t=some i)(hz:bs.length=i.size)(hl:ys.length=bs.length)(h2:F' ys=F2)(hx:ev x=.pt k o:=by exact rfl)(he:hp.set k F2=hp':=by exact rfl):AVC P tb dr (.store t x y) ty ev hp (Kq .top hp'):=by
 subst he h2
 rw[EN,hx,Bg,ht,hv,hyc]
 simp only
 refine⟨by omega,by rw[←hz];exact L.le,?_⟩
 rw[hl,L.p ys hl]
 exact Kq.here _ _
end
end
def aw:Cd Nu:=⟨36,fun x=>ak.f x.1,fun x=>ak.h x.1⟩
theorem w_Add(x y:Nu):aq prog 66 [dG aw x,dG aw y] (dG aw (jK x y)):=by rw[qi];exact wy (NZ x.2 y.2)
theorem w_Mul(x y:Nu):aq prog 29 [dG aw x,dG aw y] (dG aw (lM x y)):=by rw[rO];exact wx (NX x.2 y.2)
theorem w_Sub(x y:Nu):aq prog 76 [dG aw x,dG aw y] (dG aw (Il x y)):=by rw[Sq];exact J0 (G_osub x.2 y.2)
theorem Rw(x y:Nu):aq prog 153 [dG aw x,dG aw y] (dG aw (oa x y)):=by rw[D1];exact J2 (G_odiv x.2 y.2)
theorem J4(x:Nu):aq prog 42 [dG aw x] (dG aw (eZ x)):=by rw[Af];exact sP (JB x.2)
theorem Gi(n:Int)(h:-2≤n∧n≤2):aq prog 28 [dI .i64 n] (dG aw (nOf n)):=DC (G_rOf (by omega) (by omega))
theorem yJ(x:Nu):aq prog 30 [dG aw x] (dI .i64 (bD x)):=by rw[Bt];exact qW (Vz x.2)
theorem w_Good(x:Nu):aq prog 92 [dG aw x] (dB (ar x)):=by rw[eE];exact bJ (gj x.2)
theorem w_Cmp(x y:Nu):aq prog 32 [dG aw x,dG aw y] (dI .i64 (nh x y)):=by rw[D2];exact mb (NY x.2 y.2)
structure zC where
 vk:am
 vc:List am
 deriving Inhabited,DecidableEq
def tG:Cd zC:=⟨37,fun x=>ak.f x.vk++[slE ak x.vc],fun x=>by simp[ak.h,show ak.sz=36 from rfl]⟩
theorem Mv(x:zC):bV (tG.f x) ak 0 x.vk (fun y=>tG.f (⟨y,x.vc⟩:zC)):=
 bV.of ([]) (((cL ak)).f x.vc) (by first|rfl|(simp[(cL ak).h,ak.h];first|rfl|done)) (by first|rfl|simp[tG,cI,cB,cS,cL,c5]) (fun y=>by first|rfl|simp[tG,cI,cB,cS,cL,c5])
theorem Mw(x:zC):bV (tG.f x) (cL ak) 36 x.vc (fun y=>tG.f (⟨x.vk,y⟩:zC)):=
 bV.of ((ak).f x.vk) ([]) (by first|rfl|(simp[(cL ak).h,ak.h];first|rfl|done)) (by first|rfl|simp[tG,cI,cB,cS,cL,c5]) (fun y=>by first|rfl|simp[tG,cI,cB,cS,cL,c5])
def iD(aM:am):Option Bool:=bnd (aO aM) fun x1=>some (!x1)
theorem yG {aM:am}{r:Bool}(h:iD aM=some r):aq prog 120 [dG ak aM] (dB r):=by
 refine bh (rs:=[.tmp 2]) (fun cx hx h0=>?_) func120
 unfold iD at h
 refine ra hx ?_
 refine rs hx fun K hK=>?_
 refine mbr ?_
 refine scb h bJ fun x1 h=>?_
 refine nbr hK ?_
 exact AW.ret (rtv h)
def aH(v7:List am):Int→Option (Int⊕(Int⊕Unit)):=fun aC=>cnd (decide (aC<((v7).length:Int))) (gd (0≤aC∧aC<((v7).length:Int)) (bnd (iD ((v7)[(aC).toNat]!)) fun x4=>cnd x4 (some (.inr (.inl aC))) (some (.inl (i64.wrap (aC+(1:Int))))))) (some (.inr (.inr ())))
def aW(v7:List am):Option Int:=bnd (bq (aH v7) (0:Int)) fun y7=>match y7 with| .inl r=>some r| .inr ()=>some (-1:Int)
theorem ir {v7:List am}{r:Int}(h:aW v7=some r):aq prog 106 [dL ak v7,.e (.lit (.func (.func 120) #[] #[]))] (dI .i64 r):=by
 refine bh (rs:=[.tmp 4]) (fun cx hx h0=>?_) func106
 unfold aW at h
 refine ra hx ?_
 refine AW.seq (ra hx ?_)
 refine AW.block ?_
 obtain⟨y,hy,h⟩:=ae h
 refine lp (S:=Int) (X:=Int⊕Unit) (fun aC=>[(0,dL ak v7),(1,.e (.lit (.func (.func 120) #[] #[]))),(7,dI .i64 ((v7).length:Int)),(8,dI .i64 aC)]) (fun aC=>⟨[],[],0⟩) (PS (PR [.tmp 4] fun r=>dI .i64 r) (PE cx (.exit 0) (fun ()=>[]) fun ()=>⟨[],[],0⟩)) hy ?_ ?_ ?_
 exact wk0 h0 []
 clear hy h
 rintro aC y h
 dsimp only[aH] at h
 refine ra hx ?_
 refine AW.seq (cdh h rfl (fun fJ h=>?_) (fun fJ h=>?_))
 refine AW.skip (AW.seq (AW.block (ra hx ?_)))
 refine rs hx fun K hK=>?_
 iterate 3 refine sa ?_
 obtain⟨q8,h⟩:=ay h
 have xT:(aC).toNat<(v7).length:=by omega
 refine sbr ?_
 refine s1 (d:=dG ak ((v7)[(aC).toNat]!)) (jF (c:=ak) (l:=v7) (n:=(aC).toNat) (o:=0) aR xT (eY _ _ rfl)) ?_
 refine scb h yG fun x4 h=>?_
 refine nl hK ?_
 refine cdh h rfl (fun qP h=>?_) (fun qP h=>?_)
 refine ra hx ?_
 refine AW.ret ?_
 cases h
 refine PS.r ⟨by nofun,PS.l (PR.i ?_)⟩
 exact rv1
 refine AW.skip (rb hx ?_)
 exact pel h h0 []
 exact AW.exit (peq h h0 [])
 rcases y with r|⟨⟩
 rintro ex tm' hp' ⟨rfl,hw⟩
 cases h
 exact hw
 refine lwr ?_
 refine ra hx ?_
 exact AW.ret (rtv h)
def aT(v7:List am):Option Bool:=bnd (aW v7) fun x1=>some (decide ((0:Int)≤x1))
theorem gP {v7:List am}{r:Bool}(h:aT v7=some r):aq prog 119 [dL ak v7,.e (.lit (.func (.func 120) #[] #[]))] (dB r):=by
 refine bh (rs:=[.tmp 4]) (fun cx hx h0=>?_) func119
 unfold aT at h
 refine ra hx ?_
 refine rs hx fun K hK=>?_
 refine mbr ?_
 refine scb h ir fun x1 h=>?_
 refine nbr hK ?_
 exact AW.ret (rtv h)
def cX(er:List am):Option Bool:=bnd (aT er) fun x1=>some (!x1)
theorem fS {er:List am}{r:Bool}(h:cX er=some r):aq prog 62 [dL ak er] (dB r):=by
 refine bh (rs:=[.tmp 2]) (fun cx hx h0=>?_) func62
 unfold cX at h
 refine ra hx ?_
 refine rs hx fun K hK=>?_
 refine sa ?_
 refine scb h gP fun x1 h=>?_
 refine nbr hK ?_
 exact AW.ret (rtv h)
def jS(er:zC):Option Bool:=bnd (S:=Bool) (bnd (aO er.vk) fun x1=>cnd x1 (bnd (cX er.vc) fun x4=>some (x4)) (some (false))) fun bi=>some bi
theorem xP {er:zC}{r:Bool}(h:jS er=some r):aq prog 109 [dG tG er] (dB r):=by
 refine bh (rs:=[.tmp 2]) (fun cx hx h0=>?_) func109
 unfold jS at h
 refine ra hx ?_
 refine AW.seq ?_
 obtain⟨bi,hy,h⟩:=ae h
 refine jn ((PE cx .normal (fun bi=>[(2,dB bi)]) fun bi=>⟨[],[],0⟩) bi) ?_ ?_
 replace h:=hy
 refine rq hx fun K hK=>?_
 refine sa ?_
 refine s1 (AQ (Mv er) aR) ?_
 refine scb h bJ fun x1 h=>?_
 refine sa ?_
 rcases aE h with⟨fG,h⟩|⟨fG,h⟩
 refine ga fG ?_
 refine g1 fG (xh (Mw er) b9) ?_
 refine gcb h fS fun x4 h=>?_
 refine nbr hK ?_
 exact pe1 h h0 []
 refine nbr hK ?_
 exact pe1 h h0 []
 refine lw0 ?_
 exact AW.ret (rtv h)
def nv(x:Nu):am:=x.1
theorem Q2(x:Nu):iD (nv x)=some (!ar x):=by
 unfold iD nv
 rw[gj x.2,eE]
 rfl
theorem G_idx {c:List Nu}(h:c.length≤1000000):∃y,aW (c.map nv)=some y∧(0≤y↔c.all ar=false):=by
 have key:=vE (b:=aH (c.map nv)) (fun i:Int=>0≤i∧i≤c.length∧∀j:Nat,j<i.toNat→∀x,c[j]? =some x→ar x=true) (fun i=>(c.length - i).toNat)
  (fun y=>match y with| .inl r=>0≤r∧c.all ar=false| .inr _=>c.all ar=true) (fun i ⟨h1,h2,h3⟩=>?_) 0 ⟨by omega,by omega,fun j hj=>absurd hj (by simp)⟩
 ·obtain⟨y,hy,hp⟩:=key
  unfold aW
  rw[hy]
  cases y with
  |inl r=>exact⟨r,rfl,fun _=>hp.2,fun _=>hp.1⟩
  |inr u=>exact⟨-1,rfl,fun h=>absurd h (by omega),fun h=>by rw[hp] at h;cases h⟩
 ·have hlen:((c.map nv).length:Int)=c.length:=by rw[bb]
  by_cases hi:i<c.length
  ·have Gz:i.toNat<c.length:=by omega
   have fF:(c.map nv)[i.toNat]! =nv c[i.toNat]:=by rw[bL _ _ (by rw[bb];exact Gz),Fb]
   have hb:aH (c.map nv) i=cnd (!ar c[i.toNat]) (some (.inr (.inl i))) (some (.inl (i64.wrap (i+(1:Int))))):=by
    unfold aH
    rw[hlen,cy _ _ hi,aB,fF,Q2]
    rfl
   cases hg:ar c[i.toNat] with
   |false=>
    refine .inr ⟨.inl i,by rw[hb,hg];rfl,h1,?_⟩
    rw[Nz]
    exact⟨c[i.toNat],nO _,by rw[hg];simp⟩
   |true=>
    refine .inl ⟨i+1,by rw[hb,hg,d6 (by omega) (by omega)];rfl,⟨by omega,by omega,fun j hj x hx=>?_⟩,by omega⟩
    rcases dX j i.toNat with h4|h4
    ·exact h3 j h4 x hx
    ·obtain rfl:j=i.toNat:=by omega
     rw[cH Gz] at hx
     injection hx with hx
     rw[←hx];exact hg
  ·refine .inr ⟨.inr (),?_,ba.2 fun x hx=>?_⟩
   ·unfold aH
    rw[hlen,ci _ _ hi]
   ·obtain⟨j,hj⟩:=AF hx
    exact h3 j (by have:=(fP.1 hj).1;omega) x hj
theorem w_good(k:Nu)(c:List Nu)(h:c.length≤1000000):aq prog 109 [.ag (dC (aw.f k)++[.e (slE aw c)])] (dB (ar k&&c.all ar)):=by
 obtain⟨y,hy,Eb⟩:=G_idx h
 have OO:jS ⟨k.1,c.map nv⟩=some (ar k&&c.all ar):=by
  unfold jS cX aT
  dsimp only
  rw[gj k.2,hy]
  show _=some (ar k&&c.all ar)
  have e:(b7 k.1).isSome=ar k:=(eE k).symm
  rw[e]
  cases hk:ar k with
  |false=>rfl
  |true=>
   by_cases h0:0≤y
   ·have:=Eb.1 h0
    rw[this]
    simp[bnd,cnd,h0]
   ·have:c.all ar=true:=by
     cases hc:c.all ar with
     |true=>rfl
     |false=>exact absurd (Eb.2 hc) h0
    rw[this]
    simp[bnd,cnd,h0]
 have hw:=xP OO
 have hd:dG tG ⟨k.1,c.map nv⟩=.ag (dC (aw.f k)++[.e (slE aw c)]):=by
  show D.ag ((ak.f k.1++[slE ak (c.map nv)]).map D.e)=_
  have:slE ak (c.map nv)=slE aw c:=by
   unfold slE
   rw[bb,List.flatMap_map]
   rfl
  rw[this,iP]
  rfl
 rw[hd] at hw
 exact hw
def xX(q:Nu)(xc:List Nu)(but:Int):Nat→List Nu→List Nu
 |0,l=>l
 |t+1,l=>if (t:Int)=but then xX q xc but t l else (xX q xc but t l).set t (jK (xX q xc but t l)[t]! (lM q xc[t]!))
theorem qx(q:Nu)(xc:List Nu)(but:Int):∀(t:Nat) (l:List Nu),(xX q xc but t l).length=l.length
 |0,l=>rfl
 |t+1,l=>by
  unfold xX
  split
  ·exact qx q xc but t l
  ·rw[cY];exact qx q xc but t l
def xf(q xk lk:Nu):Nu:=if bD q=0 then lk else jK lk (lM q xk)
def uk(q:Nu)(xc:List Nu)(but:Int)(lc:List Nu):List Nu:=if bD q=0 then lc else xX q xc but lc.length lc
structure Row where
 k:Nu
 c:List Nu
 b:Int
instance:Inhabited Row:=⟨⟨default,[],0⟩⟩
structure Dic where
 rows:List Row
 gk:Nu
 gc:List Nu
 n:Int
 piv:Int
 most:Int
def f7(k:Nu)(c:List Nu):Bool:=ar k&&c.all ar
def lkO(d:Dic):Option Nat→Nu|none=>d.gk|some j=>d.rows[j]!.k
def lcO(d:Dic):Option Nat→List Nu|none=>d.gc|some j=>d.rows[j]!.c
def Mh(d:Dic)(o:Option Nat)(k:Nu)(c:List Nu):Dic:=match o with
 |none=>⟨d.rows,k,c,d.n,d.piv,d.most⟩
 |some j=>⟨d.rows.set j ⟨k,c,d.rows[j]!.b⟩,d.gk,d.gc,d.n,d.piv,d.most⟩
def RI(r1:Row)(s:Nat)(d:Dic)(o:Option Nat):Dic:=Mh d o (xf (lcO d o)[s]! r1.k (lkO d o)) (uk (lcO d o)[s]! r1.c s ((lcO d o).set s (nOf 0)))
def wD(r1:Row)(s:Nat)(p:Dic×Bool)(o:Option Nat):Dic×Bool:=(RI r1 s p.1 o,p.2&&f7 (xf (lcO p.1 o)[s]! r1.k (lkO p.1 o)) (uk (lcO p.1 o)[s]! r1.c s ((lcO p.1 o).set s (nOf 0))))
theorem uj(q:Nu)(xc:List Nu)(but:Int)(lc:List Nu):(uk q xc but lc).length=lc.length:=by
 unfold uk
 split
 ·rfl
 ·exact qx _ _ _ _ _
def xR(at' i:Nat):List (Option Nat):=none::((List.range i).filter fun j=>decide (j≠at')).map some
theorem Sf {at' i:Nat}{o:Option Nat}(h:o∈xR at' i):o≠some at'∧∀j,o=some j→j<i:=by
 rcases kP.1 h with rfl|h
 ·exact⟨fun e=>(by cases e),fun j e=>(by cases e)⟩
 ·obtain⟨j,hj,rfl⟩:=uh.1 h
  obtain⟨h1,h2⟩:=List.mem_filter.1 hj
  exact⟨fun e=>by injection e with e;simp[e] at h2,fun j' e=>by injection e with e;rw[←e];exact kC.1 h1⟩
def pO(r1:Row)(s at' i:Nat)(p:Dic×Bool)(u:Nat):Dic×Bool:=((xR at' i).take u).foldl (wD r1 s) p
def sS(p:Nu):Nat→List Nu→List Nu
 |0,l=>l
 |t+1,l=>(sS p t l).set t (oa (eZ (sS p t l)[t]!) p)
theorem Bb(p:Nu):∀(t:Nat) (l:List Nu),(sS p t l).length=l.length
 |0,_=>rfl
 |t+1,l=>by unfold sS;rw[cY];exact Bb p t l
def aZ(r:Row)(s:Nat):Row:=⟨oa (eZ r.k) r.c[s]!,((sS r.c[s]! r.c.length r.c).set s (nOf 0)).set r.b.toNat (oa (nOf 1) r.c[s]!),s⟩
def dP(d:Dic)(at' s:Nat):Int×Dic:=
 if d.most≤d.piv then (220,d) else
 let r1:=aZ d.rows[at']! s
 let p:=pO r1 s at' d.rows.length (⟨d.rows.set at' r1,d.gk,d.gc,d.n,d.piv+1,d.most⟩,f7 r1.k r1.c) (xR at' d.rows.length).length
 (if p.2 then 0 else 30,p.1)
def dm(l:List Row)(v:Int):Int:=match l.findIdx? fun r=>decide (r.b=v) with
 |some i=>i
 |none=>-1
theorem QH {l:List Row}{v:Int}{i:Nat}{r:Row}(hr:l[i]? =some r)(h:r.b=v)(mF:∀(j:Nat) (r':Row),j<i→l[j]? =some r'→r'.b≠v):dm l v=i:=by
 obtain⟨h1,h2⟩:=fP.1 hr
 have:l.findIdx? (fun r=>decide (r.b=v))=some i:=by
  rw[oO]
  exact⟨h1,by rw[h2];exact aA h,fun j hj=>by have:=mF j l[j] hj (cH (by omega));simpa using this⟩
 unfold dm;rw[this]
theorem M5 {l:List Row}{v:Int}(mF:∀(j:Nat) (r':Row),l[j]? =some r'→r'.b≠v):dm l v=-1:=by
 have:l.findIdx? (fun r=>decide (r.b=v))=none:=by
  rw[u7]
  intro r hr
  obtain⟨j,hj⟩:=AF hr
  exact a8 (mF j r hj)
 unfold dm;rw[this]
def bR(d:Dic)(nn:Nat):List Nu:=(d.gc.drop (nn+1)).map eZ
def rT(l:List Row)(s:Nat)(p:Int×Nu)(i:Nat):Option (Int×Nu):=
 let r:=l[i]!
 if 0≤bD r.c[s]! then some p else
 let q:=oa r.k (eZ r.c[s]!)
 if ar q=false then none else
 if p.1<0∨nh q p.2<0∨(nh q p.2=0∧r.b<l[p.1.toNat]!.b) then some ((i:Int),q) else some p
def jm(l:List Row)(s:Nat)(z:Nu):Nat→Option (Int×Nu)
 |0=>some (-1,z)
 |i+1=>match jm l s z i with
  |none=>none
  |some p=>rT l s p i
section
theorem iU(a:Nu):(dC (aw.f a)).length=36:=by rw[eA,aw.h];rfl
section
variable {dr:Bool} {ty:TypeId} {ev:Operand→D} {hp hp':Hp} {k o:Nat} {F F2:List D} {F':List D→List D} {x y:Operand} {a b:Nu}
theorem ldN(L:Pt F o (dC (aw.f a)) F')(hv:hp.vars.lookup k=some F)(hk:k<hp.next)(hx:ev x=.pt k o:=by exact rfl):AVC prog tbl dr (.load 43 x) ty ev hp (Kq (dG aw a) hp):=CP L hv hk aR (iU a) rfl hx
theorem stN(L:Pt F o (dC (aw.f a)) F')(hv:hp.vars.lookup k=some F)(h2:F' (dC (aw.f b))=F2)(hx:ev x=.pt k o:=by exact rfl)(hy:ev y=dG aw b:=by exact rfl)(he:hp.set k F2=hp':=by exact rfl):AVC prog tbl dr (.store 43 x y) ty ev hp (Kq .top hp'):=
 HF (ys:=dC (aw.f b)) L hv (by rw[hy];rfl) aR (iU a) (by rw[iU,iU]) h2 hx he
theorem Pt.idN(a:Nu):Pt (dC (aw.f a)) 0 (dC (aw.f a)) id:=Pt.of [] [] rfl (by simp) (fun y=>by simp)
end
section
variable {vs vs2 pi:List (Nat×List D)} {lv:List (Nat×Nat×Nat×TypeId)} {N n2 k:Nat}
theorem cp.lt(hok:cp ⟨vs,lv,N⟩){ds:List D}(h:vs.lookup k=some ds):k<N:=(hok.var k ds h).1
theorem cp.ne(hok:cp ⟨vs,lv,N⟩){ds:List D}(h:vs.lookup k=some ds){m:Nat}(hm:N≤m):k≠m:=by have:=hok.lt h;omega
theorem al {j m:Nat}{b:List D}{l:List (Nat×List D)}{r:Option (List D)}(hj:j≠m)(h:l.lookup j=r):((m,b)::l).lookup j=r:=(an hj).trans h
theorem Pt.ids {F bs:List D}{o:Nat}{F':List D→List D}(L:Pt F o bs F'){ys:List D}(hl:ys.length=bs.length)(hF:F.all (D.idsC N)=true)(hy:ys.all (D.idsC N)=true):(F' ys).all (D.idsC N)=true:=by
 rw[←L.p ys hl,lE,lE,b8,b8]
 have hF':=ba.1 hF
 exact⟨⟨ba.2 fun d hd=>hF' d (Pj hd),hy⟩,ba.2 fun d hd=>hF' d (UP hd)⟩
theorem ez(l:List E):(dC l).all (D.idsC N)=true:=IW (fun _=>rfl) l
theorem leave {x:Cx}{tm tm':List (Nat×D)}{rs:List ResultVar}{r:D}(h0:x.hp0=⟨vs,lv,N⟩)(hok:cp ⟨vs,lv,N⟩)(hN:N≤n2)(ht:∀p∈tm',(∃d,tm.lookup p.1=some d∧(p.2=d∨p.2=d.ex))∧p.2.idsB N=true)
  (hv:∀j ds,pi.lookup j=some ds→(vs2.lookup j=some ds∧j<N∧ds.all (D.idsC N)=true)) (hr:tN tbl rs tm' ⟨pi,lv,N⟩ r):∃tm',Wk x tm ⟨vs2,lv,n2⟩ tm' ⟨pi,lv,N⟩∧tN tbl rs tm' ⟨pi,lv,N⟩ r:=by
 refine⟨tm',Wk.look (by rw[h0];exact ax _) hN ht (fun j ds h=>?_) (fun id y h=>⟨hok.tok id y h,h⟩),hr⟩
 obtain⟨h1,h2,h3⟩:=hv j ds h
 exact⟨h2,ds,h1,ro _,h3⟩
theorem Sx {x:Cx}{tm:List (Nat×D)}{F F2:List D}(h0:x.hp0=⟨vs,lv,N⟩)(hok:cp ⟨vs,lv,N⟩)(hN:N≤n2)(hk:vs.lookup k=some F)(hF:F2.all (D.idsC N)=true)(SP:vs2.lookup k=some F2)(hv:∀j ds,j≠k→vs.lookup j=some ds→vs2.lookup j=some ds):
  ∃tm',Wk x tm ⟨vs2,lv,n2⟩ tm' ⟨(k,F2)::vs,lv,N⟩∧tN tbl [] tm' ⟨(k,F2)::vs,lv,N⟩ (.tu []):=by
 refine leave (tm':=[]) h0 hok hN (fun p hp=>absurd hp (qI)) (fun j ds h=>?_) rfl
 by_cases hj:j=k
 ·subst hj
  have:some F2=some ds:=by rw[←h];exact aa.symm
  injection this with this
  subst this
  exact⟨SP,hok.lt hk,hF⟩
 ·have h1:vs.lookup j=some ds:=by rw[←h];exact (an hj).symm
  exact⟨hv j ds hj h1,hok.lt h1,(hok.var j ds h1).2⟩
theorem h_sum {o kq:Nat}{F:List D}{F':List D→List D}{q a y:Nu}(hk:vs.lookup k=some F)(hN:k<N)(L:Pt F o (dC (aw.f a)) F')(hq:vs.lookup kq=some (dC (aw.f q)))(hqN:kq<N):
  HC prog 156 [.pt k o,dG aw y,.pt kq 0] ⟨vs,lv,N⟩ (.tu []) ⟨(k,F' (dC (aw.f (jK a (lM q y)))))::vs,lv,N⟩:=by
 refine HC.of (rs:=[]) tok func156 rfl rfl (a9 rfl) rfl (fun cx hx h0 hok=>?_)
 simp only[fC,Nat.reduceAdd,br]
 refine rs hx fun K hK=>?_
 refine sa ?_
 refine nl hK ?_
 have xz:=hok.ne hk (ax N)
 have hqn:=hok.ne hq (ax N)
 refine rqd [29,66] hx fun K hK=>?_
 iterate 3 refine sa ?_
 refine s1 (ldN L (al xz hk) (yA hN)) ?_
 refine s1 (ldN (Pt.idN q) (al hqn hq) (yA hqN)) ?_
 refine s1 (ldN (Pt.idN y) aa (ek _)) ?_
 refine cq (w_Mul q y) ?_
 refine cq (w_Add a _) ?_
 refine sa ?_
 refine s0 (stN L (al xz hk) rfl) ?_
 refine nl hK ?_
 exact Sx h0 hok (jD _) hk (L.ids (by rw[iU,iU]) (hok.var k F hk).2 (ez _)) aa fun j ds hj h=>al hj (al (hok.ne h (ax N)) h)
theorem TC {o kp:Nat}{F:List D}{F':List D→List D}{p a:Nu}(hk:vs.lookup k=some F)(hN:k<N)(L:Pt F o (dC (aw.f a)) F')(hq:vs.lookup kp=some (dC (aw.f p)))(hqN:kp<N):
  HC prog 152 [.pt k o,.pt kp 0] ⟨vs,lv,N⟩ (.tu []) ⟨(k,F' (dC (aw.f (oa (eZ a) p))))::vs,lv,N⟩:=by
 refine HC.of (rs:=[]) tok func152 rfl rfl (a9 rfl) rfl (fun cx hx h0 hok=>?_)
 simp only[fC,Nat.reduceAdd,br]
 refine rqd [42,153] hx fun K hK=>?_
 iterate 3 refine sa ?_
 refine s1 (ldN L hk hN) ?_
 refine cq (J4 a) ?_
 refine s1 (ldN (Pt.idN p) hq hqN) ?_
 refine cq (Rw _ p) ?_
 refine sa ?_
 refine s0 (stN L hk rfl) ?_
 refine nl hK ?_
 exact Sx h0 hok (ax _) hk (L.ids (by rw[iU,iU]) (hok.var k F hk).2 (ez _)) aa fun j ds hj h=>al hj h
theorem cp.cons {M:Nat}{ds:List D}(hok:cp ⟨vs,lv,N⟩)(hN:N≤M)(hk:k<M)(hd:ds.all (D.idsC M)=true):cp ⟨(k,ds)::vs,lv,M⟩:=by
 refine⟨fun j es h=>?_,fun id e h=>bH (hok.tok id e h) hN⟩
 by_cases hj:j=k
 ·subst hj
  have:some ds=some es:=by rw[←h];exact aa.symm
  injection this with this
  subst this
  exact⟨hk,hd⟩
 ·obtain⟨h1,h2⟩:=hok.var j es (by rw[←h];exact (an hj).symm)
  exact⟨bH h1 hN,ba.2 fun d hd=>D.idsC_le hN (ba.1 h2 d hd)⟩
def bF(n:Nat)(tm tm':List (Nat×D)):Prop:=∀p∈tm',(∃d,tm.lookup p.1=some d∧(p.2=d∨p.2=d.ex))∧p.2.idsB n=true
theorem bF.nil {n:Nat}{tm:List (Nat×D)}:bF n tm []:=fun p hp=>absurd hp (qI)
theorem bF.cons {n t:Nat}{d:D}{tm tm':List (Nat×D)}(h2:bF n tm tm')(h:tm.lookup t=some d:=by exact rfl)(hi:d.idsB n=true:=by exact rfl):bF n tm ((t,d)::tm'):=fun p hp=>by
 rcases kP.1 hp with rfl|hp
 ·exact⟨⟨d,h,.inl rfl⟩,hi⟩
 ·exact h2 p hp
theorem wkS {x:Cx}{tm tm':List (Nat×D)}{n':Nat}(h0:x.hp0.next≤n')(hn:n'≤n2)(hok:cp ⟨pi,lv,n'⟩)(hv:∀j ds,pi.lookup j=some ds→vs2.lookup j=some ds)(ht:bF n' tm tm'):Wk x tm ⟨vs2,lv,n2⟩ tm' ⟨pi,lv,n'⟩:=
 Wk.look h0 hn ht (fun j ds h=>⟨(hok.var j ds h).1,ds,hv j ds h,ro _,(hok.var j ds h).2⟩) fun id y h=>⟨hok.tok id y h,h⟩
theorem wH {j:Nat}{a b:List D}{l:List (Nat×List D)}:((k,b)::(k,a)::l).lookup j=((k,b)::l).lookup j:=by
 by_cases hj:j=k
 ·subst hj;rw[aa,aa]
 ·rw[an hj,an hj,an hj]
theorem ce {j a:Nat}{x ds:List D}{l:List (Nat×List D)}(h:((a,x)::l).lookup j=some ds):(j=a∧ds=x)∨(j≠a∧l.lookup j=some ds):=by
 by_cases hj:j=a
 ·subst hj
  have:some x=some ds:=by rw[←h];exact aa.symm
  injection this with this
  exact .inl ⟨rfl,this.symm⟩
 ·exact .inr ⟨hj,by rw[←h];exact (an hj).symm⟩
theorem Sv {x:Cx}{tm:List (Nat×D)}(h0:x.hp0=⟨vs,lv,N⟩)(hN:N≤n2)(hok:cp ⟨pi,lv,N⟩)(hv:∀j ds,pi.lookup j=some ds→vs2.lookup j=some ds):∃tm',Wk x tm ⟨vs2,lv,n2⟩ tm' ⟨pi,lv,N⟩∧tN tbl [] tm' ⟨pi,lv,N⟩ (.tu []):=
 ⟨[],wkS (by rw[h0];exact ax _) hN hok hv bF.nil,rfl⟩
def aY(a:Nu)(kc n:Nat):List D:=dC (aw.f a)++[.ow kc 0 36 n]
theorem bS(a:Nu)(kc n:Nat):(aY a kc n).length=37:=by unfold aY;rw[cD,iU];rfl
theorem iX {M:Nat}{a:Nu}{kc n:Nat}(h:kc<M):(aY a kc n).all (D.idsC M)=true:=by
 unfold aY;rw[lE,ez];simp[D.idsC,h]
structure pf(F:List D)(o:Nat)(a:Nu)(kc n:Nat)(A C:List D):Prop where
 len:A.length=o
 eq:F=A++aY a kc n++C
section
variable {F A C:List D} {o kc n:Nat} {a:Nu}
theorem pf.pk(h:pf F o a kc n A C):Pt F o (dC (aw.f a)) (fun ys=>A++(ys++[.ow kc 0 36 n])++C):=
 Pt.of A ([.ow kc 0 36 n]++C) h.len (by rw[h.eq];unfold aY;simp only[c5]) fun y=>by simp only[c5]
theorem pf.pc(h:pf F o a kc n A C):Pt F (o+36) [.ow kc 0 36 n] (fun ys=>A++(dC (aw.f a)++ys)++C):=
 Pt.of (A++dC (aw.f a)) C (by rw[cD,h.len,iU]) (by rw[h.eq];unfold aY;simp only[c5]) fun y=>by simp only[c5]
theorem pf.pa(h:pf F o a kc n A C):Pt F o (aY a kc n) (fun ys=>A++ys++C):=Pt.of A C h.len h.eq fun y=>rfl
theorem pf.self(a:Nu)(kc n:Nat):pf (aY a kc n) 0 a kc n [] []:=⟨rfl,by simp⟩
theorem pf.new(h:pf F o a kc n A C)(b:Nu):pf (A++aY b kc n++C) o b kc n A C:=⟨h.len,rfl⟩
end
theorem Pt.elN(l:List Nu)(i:Nat)(h:i<l.length):Pt (dC ((cW aw).f l)) (0+i*36) (dC (aw.f l[i]!)) (fun ys=>(dC ((cW aw).f l)).take (0+i*36)++ys++(dC ((cW aw).f l)).drop (0+i*36+36)):=by
 have L:=bV.seqW aw l i h
 have e:aw.sz=36:=rfl
 rw[e] at L
 refine⟨?_,?_,fun ys hy=>by rw[iU]⟩
 ·have:=L.le
  rw[iU,eA];exact this
 ·have:=L.g
  rw[iU]
  unfold dC
  rw[←xb,←vf]
  exact congrArg _ this
theorem Pt.elN_set(l:List Nu)(i:Nat)(h:i<l.length)(b:Nu):(dC ((cW aw).f l)).take (0+i*36)++dC (aw.f b)++(dC ((cW aw).f l)).drop (0+i*36+36)=dC ((cW aw).f (l.set i b)):=by
 have L:=bV.seqW aw l i h
 have e:aw.sz=36:=rfl
 rw[e] at L
 have:=L.p b
 rw[e] at this
 unfold dC
 rw[←vf,←xb,←iP,←iP]
 exact congrArg _ this
end
end
section
theorem bT {t:Nat}(h:t<9223372036854775807:=by omega):i64.wrap ((t:Int)+1)=((t+1:Nat):Int):=by
 rw[d6 (by omega) (by omega)];omega
section
variable {vs:List (Nat×List D)} {lv:List (Nat×Nat×Nat×TypeId)} {N kl ol kc kx n:Nat} {F A C:List D} {lk xk q:Nu} {lc xc:List Nu} {but:Int}
theorem h_add(hl:vs.lookup kl=some F)(L:pf F ol lk kc n A C)(hc:vs.lookup kc=some (dC ((cW aw).f lc)))(hlc:lc.length=n)(xy:vs.lookup kx=some (dC ((cW aw).f xc)))(hxc:xc.length=n)(h1:kl≠kc)(h2:kx≠kc)(h3:kx≠kl)(hn:n≤1000000):
  HC prog 108 [.pt kl ol,dG aw q,.ag (aY xk kx n),dI .i64 but] ⟨vs,lv,N⟩ (.tu []) ⟨(kc,dC ((cW aw).f (uk q xc but lc)))::(kl,A++aY (xf q xk lk) kc n++C)::vs,lv,N⟩:=by
 refine HC.of (rs:=[]) tok func108 rfl rfl (a9 rfl) rfl (fun cx hx h0 hok=>?_)
 simp only[fC,Nat.reduceAdd,br]
 refine rs hx fun K hK=>?_
 refine sa ?_
 refine s1 (fQ (cs:=aY xk kx n)) ?_
 refine nl hK ?_
 have hlN:=hok.lt hl
 have hcN:=hok.lt hc
 have hxN:=hok.lt xy
 have hFi:(A++aY lk kc n++C).all (D.idsC N)=true:=by rw[←L.eq];exact (hok.var kl F hl).2
 have CW:∀(lk':Nu) (lc':List Nu) (M:Nat),N≤M→cp ⟨(kc,dC ((cW aw).f lc'))::(kl,A++aY lk' kc n++C)::vs,lv,M⟩:=fun lk' lc' M hM=>by
  refine (cp.cons (N:=M) (hok.cons hM (bH hlN hM) ?_) (ax _) (bH hcN hM) (ez _))
  rw[lE,lE,b8,b8] at hFi ⊢
  exact⟨⟨ba.2 fun d hd=>D.idsC_le hM (ba.1 hFi.1.1 d hd),iX (bH hcN hM)⟩,ba.2 fun d hd=>D.idsC_le hM (ba.1 hFi.2 d hd)⟩
 have hFi2:=CW
 have ux:kc≠kl:=fun e=>h1 e.symm
 refine AW.seq (rs hx fun K hK=>?_)
 refine s1 (ldN (Pt.idN q) (al (by omega) aa) (show N<N+1+1 by omega)) ?_
 refine cq (yJ q) ?_
 refine sa ?_
 refine nl hK ?_
 refine AW.condS rfl (fun hb=>?_) (fun hb=>?_)
 ·have hq:bD q=0:=bw hb
  refine AW.ret (Sv h0 (by omega) (CW _ _ N (ax _)) fun j ds h=>?_)
  unfold uk xf at h
  rw[ai hq,ai hq] at h
  have hj:=(CW lk lc N (ax _)).lt h
  refine al (show j≠N+1 by omega) (al (show j≠N by omega) ?_)
  rcases ce h with⟨rfl,rfl⟩|⟨_,h⟩
  ·exact hc
  rcases ce h with⟨rfl,rfl⟩|⟨_,h⟩
  ·rw[←L.eq];exact hl
  ·exact h
 have hq:¬bD q=0:=dp hb
 refine AW.skip (rs hx fun K hK=>?_)
 refine s1 (Fm (ks:=[N])) ?_
 refine sa ?_
 refine nl hK ?_
 refine rsd [] hx fun K hK=>?_
 iterate 5 refine sa ?_
 refine s1 (ldN (pf.self xk kx n).pk aa (show N+1<N+1+1 by omega)) ?_
 refine q1 (sHF (h_sum (vs:=(N+1,aY xk kx n)::(N,dC (aw.f q))::vs) (N:=N+1+1) (al (show kl≠N+1 by omega) (al (show kl≠N by omega) hl)) (show kl<N+1+1 by omega) L.pk (al (show N≠N+1 by omega) aa) (show N<N+1+1 by omega)) rfl) ?_
 refine nl hK ?_
 refine rs hx fun K hK=>?_
 iterate 3 refine sa ?_
 refine s1 (kG (L.new (jK lk (lM q xk))).pc aa (show kl<N+1+1 by omega) tbI) ?_
 iterate 2 refine sa ?_
 refine nl hK ?_
 have IB:∀t,cp ⟨(kc,dC ((cW aw).f (xX q xc but t lc)))::(kl,A++aY (jK lk (lM q xk)) kc n++C)::(N+1,aY xk kx n)::(N,dC (aw.f q))::vs,lv,N+1+1⟩:=fun t=>by
  have MN:cp ⟨(N+1,aY xk kx n)::(N,dC (aw.f q))::vs,lv,N+1+1⟩:=(cp.cons (N:=N+1) (hok.cons (jD N) (ek N) (ez _)) (jD _) (ek _) (iX (by omega)))
  refine cp.cons (N:=N+1+1) (MN.cons (ax _) (show kl<N+1+1 by omega) ?_) (ax _) (show kc<N+1+1 by omega) (ez _)
  exact ((CW (jK lk (lM q xk)) lc (N+1+1) (by omega)).var kl _ (al h1 aa)).2
 have hTm:∀(t:Nat) (tm:List (Nat×D)),tm.lookup 0=some (.pt kl ol)→tm.lookup 3=some (dI .i64 but)→tm.lookup 6=some (.pt (N+1) 0)→tm.lookup 8=some (.fn 156 [N])→tm.lookup 25=some (dI .i64 n)→tm.lookup 26=some (dI .i64 t)→bF (N+1+1) tm [(0,.pt kl ol),(3,dI .i64 but),(6,.pt (N+1) 0),(8,.fn 156 [N]),(25,dI .i64 n),(26,dI .i64 t)]:=fun t tm a b c d e f=>
  ((((((bF.nil.cons f).cons e).cons d (ba.2 fun k hk=>aA (by rw[qH.1 hk];omega))).cons c (aA (show N+1<N+1+1 by omega))).cons b).cons a (aA (show kl<N+1+1 by omega)))
 refine AW.block ?_
 refine AW.loopW (fun t:Nat=>[(0,.pt kl ol),(3,dI .i64 but),(6,.pt (N+1) 0),(8,.fn 156 [N]),(25,dI .i64 n),(26,dI .i64 t)])
  (fun t=>⟨(kc,dC ((cW aw).f (xX q xc but t lc)))::(kl,A++aY (jK lk (lM q xk)) kc n++C)::(N+1,aY xk kx n)::(N,dC (aw.f q))::vs,lv,N+1+1⟩) (fun t=>t≤n) (fun t=>n - t) 0 ?_ (cr _) ?_
 ·refine wkS (by rw[h0];show N≤N+1+1;omega) (ax _) (IB 0) (fun j ds h=>?_) (hTm 0 _ rfl rfl rfl rfl rfl rfl)
  rcases ce h with⟨rfl,rfl⟩|⟨_,h⟩
  ·exact al ux (al (show j≠N+1 by omega) (al (show j≠N by omega) hc))
  ·exact h
 ·intro t ht
  have MQ:(xX q xc but t lc).length=n:=by rw[qx,hlc]
  refine rs hx fun K hK=>?_
  refine sa ?_
  refine nl hK ?_
  refine AW.seq (AW.condS rfl (fun hb=>?_) (fun hb=>?_))
  rotate_left
  ·refine AW.exit ?_
   have htn:t=n:=by have:=dp hb;omega
   refine Sv h0 (by omega) (CW _ _ N (ax _)) fun j ds h=>?_
   have hj:=(CW _ _ N (ax _)).lt h
   unfold uk xf at h
   rw[ah hq,ah hq,hlc] at h
   rw[htn]
   rcases ce h with⟨rfl,rfl⟩|⟨OL,h⟩
   ·exact aa
   rcases ce h with⟨rfl,rfl⟩|⟨Cv,h⟩
   ·exact al h1 aa
   ·exact al OL (al Cv (al (show j≠N+1 by omega) (al (show j≠N by omega) h)))
  have htn:t<n:=by have:=bw hb;omega
  refine AW.skip (AW.seq (AW.block (rs hx fun K hK=>?_)))
  iterate 2 refine sa ?_
  refine nl hK ?_
  refine rs hx fun K hK=>?_
  iterate 3 refine sa ?_
  refine nl hK ?_
  refine AW.condS rfl (fun hb=>?_) (fun hb=>?_)
  ·have hbt:¬(t:Int)=but:=bw hb
   refine rqd [] hx fun K hK=>?_
   iterate 4 refine sa ?_
   refine s1 (kG (L.new (jK lk (lM q xk))).pc (al h1 aa) (show kl<N+1+1 by omega) tbI) ?_
   refine sa ?_
   refine s1 (xi (v:=(t:Int)) (n:=n) ⟨by omega,by omega⟩ tbI aR) ?_
   refine sa ?_
   refine s1 (kG (pf.self xk kx n).pc (al (show N+1≠kc by omega) (al (show N+1≠kl by omega) aa)) (show N+1<N+1+1 by omega) tbI) ?_
   refine sa ?_
   refine s1 (xi (v:=(t:Int)) (n:=n) ⟨by omega,by omega⟩ tbI aR) ?_
   refine s1 (ldN (Pt.elN xc t (by omega)) (al h2 (al h3 (al (show kx≠N+1 by omega) (al (show kx≠N by omega) xy)))) (show kx<N+1+1 by omega)) ?_
   refine q1 (sHF (h_sum aa (show kc<N+1+1 by omega) (Pt.elN (xX q xc but t lc) t (by omega)) (al (show N≠kc by omega) (al (show N≠kl by omega) (al (show N≠N+1 by omega) aa))) (show N<N+1+1 by omega)) rfl) ?_
   refine nl hK ?_
   refine rq hx fun K hK=>?_
   iterate 2 refine sa ?_
   refine nl hK ?_
   rw[bT]
   refine⟨t+1,wkS (by rw[h0];show N≤N+1+1;omega) (ax _) (IB (t+1)) (fun j ds h=>?_) (hTm (t+1) _ rfl rfl rfl rfl rfl rfl),htn,by omega⟩
   rw[Pt.elN_set _ _ (by omega),wH]
   unfold xX at h
   rw[ah hbt] at h
   exact h
  ·have hbt:(t:Int)=but:=by have:=dp hb;simpa using this
   refine AW.skip (rq hx fun K hK=>?_)
   iterate 2 refine sa ?_
   refine nl hK ?_
   rw[bT]
   refine⟨t+1,wkS (by rw[h0];show N≤N+1+1;omega) (ax _) (IB (t+1)) (fun j ds h=>?_) (hTm (t+1) _ rfl rfl rfl rfl rfl rfl),htn,by omega⟩
   unfold xX at h
   rw[ai hbt] at h
   exact h
end
end
section
def zN:List E:=(List.replicate 2 (E.lit (.bool false))++List.replicate 16 (E.lit (.int .u32 0)))++(List.replicate 2 (E.lit (.bool false))++List.replicate 16 (E.lit (.int .u32 0)))
theorem LB {dr:Bool}{ty:TypeId}{ev:Operand→D}{vs:List (Nat×List D)}{lv:List (Nat×Nat×Nat×TypeId)}{N:Nat}:AVC prog tbl dr (.alloc 43) ty ev ⟨vs,lv,N⟩ (Kq (.pt N 0) ⟨(N,dC zN)::vs,lv,N+1⟩):=yD aR
theorem Pt.zN:Pt (dC zN) 0 (dC zN) id:=Pt.of [] [] rfl (by simp) (fun y=>by simp)
theorem stZ {dr:Bool}{ty:TypeId}{ev:Operand→D}{hp hp':Hp}{k:Nat}{x y:Operand}{b:Nu}(hv:hp.vars.lookup k=some (dC zN))(hx:ev x=.pt k 0:=by exact rfl)(hy:ev y=dG aw b:=by exact rfl)(he:hp.set k (dC (aw.f b))=hp':=by exact rfl):AVC prog tbl dr (.store 43 x y) ty ev hp (Kq .top hp'):=
 HF (ys:=dC (aw.f b)) Pt.zN hv (by rw[hy];rfl) aR rfl (by rw[iU];rfl) rfl hx he
theorem iaN {dr:Bool}{ty:TypeId}{ev:Operand→D}{hp:Hp}{k i n:Nat}{kn:IntKind}{x y:Operand}(h:i<n)(hx:ev x=.ow k 0 36 n:=by exact rfl)(hy:ev y=dI kn (i:Int):=by exact rfl):AVC prog tbl dr (.indexAddr 22 x y) ty ev hp (Kq (.pt k (i*36)) hp):=by
 have:=xi (P:=prog) (tb:=tbl) (dr:=dr) (ty:=ty) (ev:=ev) (hp:=hp) (x:=x) (y:=y) (v:=(i:Int)) (n:=n) (kn:=kn) ⟨by omega,by omega⟩ b9 aR rfl hx rfl hy
 rwa[bW,br] at this
theorem iaR {dr:Bool}{ty:TypeId}{ev:Operand→D}{hp:Hp}{k i n:Nat}{kn:IntKind}{x y:Operand}(h:i<n)(hx:ev x=.ow k 0 38 n:=by exact rfl)(hy:ev y=dI kn (i:Int):=by exact rfl):AVC prog tbl dr (.indexAddr 71 x y) ty ev hp (Kq (.pt k (i*38)) hp):=by
 have:=xi (P:=prog) (tb:=tbl) (dr:=dr) (ty:=ty) (ev:=ev) (hp:=hp) (x:=x) (y:=y) (v:=(i:Int)) (n:=n) (kn:=kn) ⟨by omega,by omega⟩ Ck tV rfl hx rfl hy
 rwa[bW,br] at this
theorem Pt.el(l:List Nu)(i:Nat)(h:i<l.length):Pt (dC ((cW aw).f l)) (i*36) (dC (aw.f l[i]!)) (fun ys=>(dC ((cW aw).f l)).take (i*36)++ys++(dC ((cW aw).f l)).drop (i*36+36)):=by
 have:=Pt.elN l i h
 rwa[br] at this
theorem Pt.el_set(l:List Nu)(i:Nat)(h:i<l.length)(b:Nu):(dC ((cW aw).f l)).take (i*36)++dC (aw.f b)++(dC ((cW aw).f l)).drop (i*36+36)=dC ((cW aw).f (l.set i b)):=by
 have:=Pt.elN_set l i h b
 rwa[br] at this
theorem sj {x:Cx}{c1 c2:Code}{tm:List (Nat×D)}{hp:Hp}{Q:Exit→List (Nat×D)→Hp→Prop}(T:List (Nat×D))(H:Hp)(h1:AW prog x c1 tm hp fun ex tm' hp'=>ex=.normal∧Wk x tm' hp' T H)(h2:AW prog x c2 T H Q):AW prog x (.seq c1 c2) tm hp Q:=by
 refine AW.seq (AW.mono h1 ?_)
 rintro ex tm' hp' ⟨rfl,hw⟩
 exact AW.weak hw h2
def iS(C:Nat→Nat)(w i:Nat)(r:Row):List D:=aY r.k (C i) w++[dI .i64 r.b]
theorem tY(C:Nat→Nat)(w i:Nat)(r:Row):(iS C w i r).length=38:=by unfold iS;rw[cD,bS];rfl
def f6(C:Nat→Nat)(w:Nat):Nat→List Row→List D
 |_,[]=>[]
 |i,r::l=>iS C w i r++f6 C w (i+1) l
theorem Bj(C:Nat→Nat)(w:Nat):∀(i:Nat) (l:List Row),(f6 C w i l).length=l.length*38
 |_,[]=>rfl
 |i,r::l=>by
  unfold f6
  rw[cD,tY,Bj C w (i+1) l,sb,bX]
  omega
theorem Bk(C:Nat→Nat)(w:Nat):∀(i:Nat) (l l2:List Row),f6 C w i (l++l2)=f6 C w i l++f6 C w (i+l.length) l2
 |i,[],l2=>by simp[f6]
 |i,r::l,l2=>by
  show iS C w i r++f6 C w (i+1) (l++l2)=(iS C w i r++f6 C w (i+1) l)++f6 C w (i+(l.length+1)) l2
  rw[Bk C w (i+1) l l2,c5,show i+1+l.length=i+(l.length+1) by omega]
theorem RW(C:Nat→Nat)(w:Nat)(l:List Row)(j:Nat)(h:j<l.length):∃A B:List D,A.length=j*38∧∀r:Row,f6 C w 0 (l.set j r)=A++iS C w j r++B:=by
 refine⟨f6 C w 0 (l.take j),f6 C w (j+1) (l.drop (j+1)),?_,fun r=>?_⟩
 ·rw[Bj,eg,tf (by omega)]
 ·rw[UT,ai h,Bk,eg,tf (by omega),br]
  show _++(iS C w j r++_)=_
  rw[c5]
theorem RT {l:List Row}{j:Nat}{r:Row}(h:l[j]? =some r):l.set j r=l:=by
 obtain⟨h1,h2⟩:=fP.1 h
 rw[←h2,List.set_getElem_self]
theorem mD(C:Nat→Nat)(w:Nat)(l:List Row)(j:Nat){r:Row}(h:l[j]? =some r):∃A B:List D,A.length=j*38∧(∀r:Row,f6 C w 0 (l.set j r)=A++iS C w j r++B)∧f6 C w 0 l=A++iS C w j r++B∧pf (f6 C w 0 l) (j*38) r.k (C j) w A ([dI .i64 r.b]++B)∧Pt (f6 C w 0 l) (j*38+37) [dI .i64 r.b] (fun ys=>A++(aY r.k (C j) w++ys)++B):=by
 obtain⟨A,B,h1,h2⟩:=RW C w l j (fP.1 h).1
 have h3:=h2 r
 rw[RT h] at h3
 refine⟨A,B,h1,h2,h3,⟨h1,?_⟩,Pt.of (A++aY r.k (C j) w) B (by rw[cD,h1,bS]) ?_ fun y=>by simp only[c5]⟩
 ·rw[h3];unfold iS;simp only[c5]
 ·rw[h3];unfold iS;simp only[c5]
theorem xt {C:Nat→Nat}{w M:Nat}:∀(i:Nat) (l:List Row),(∀j,j<l.length→C (i+j)<M)→(f6 C w i l).all (D.idsC M)=true
 |_,[],_=>rfl
 |i,r::l,h=>by
  unfold f6 iS
  rw[lE,lE,iX (by have:=h 0 (by simp);simpa using this),xt (i+1) l (fun j hj=>by have:=h (j+1) (by simpa using hj);rwa[show i+(j+1)=i+1+j by omega] at this)]
  rfl
def e9(R:Nat)(l:List Row):D:=match l with
 |[]=>.e (.lit (.slice none 0 0))
 |_=>.gw R 38 l.length
theorem qg {R:Nat}{l:List Row}(h:l≠[]):e9 R l=.gw R 38 l.length:=by cases l with|nil=>exact absurd rfl h|cons r l=>rfl
def m4(R G w:Nat)(d:Dic):List D:=[e9 R d.rows]++aY d.gk G w++[dI .i64 d.n,dI .i64 d.piv,dI .i64 d.most]
structure DAt(vs:List (Nat×List D))(kd R G:Nat)(C:Nat→Nat)(w:Nat)(d:Dic):Prop where
 hd:vs.lookup kd=some (m4 R G w d)
 hR:d.rows≠[]→vs.lookup R=some (f6 C w 0 d.rows)
 hG:vs.lookup G=some (dC ((cW aw).f d.gc))
 hC:∀(i:Nat) (r:Row),d.rows[i]? =some r→vs.lookup (C i)=some (dC ((cW aw).f r.c))
 lG:d.gc.length=w
 lC:∀(i:Nat) (r:Row),d.rows[i]? =some r→r.c.length=w
structure Dif(m kd R G:Nat)(C:Nat→Nat):Prop where
 dR:kd≠R
 dG:kd≠G
 RG:R≠G
 C1:∀i,i<m→C i≠kd∧C i≠R∧C i≠G
 C2:∀i j,i<m→j<m→C i=C j→i=j
def cOv(C:Nat→Nat):Nat→List Row→List (Nat×List D)
 |_,[]=>[]
 |i,r::l=>(C i,dC ((cW aw).f r.c))::cOv C (i+1) l
def rOv(R:Nat)(C:Nat→Nat)(w:Nat)(l:List Row):List (Nat×List D):=match l with
 |[]=>[]
 |_=>[(R,f6 C w 0 l)]
def ov(kd R G:Nat)(C:Nat→Nat)(w:Nat)(d:Dic)(vs:List (Nat×List D)):List (Nat×List D):=(kd,m4 R G w d)::(G,dC ((cW aw).f d.gc))::(rOv R C w d.rows++(cOv C 0 d.rows++vs))
theorem Uu {C:Nat→Nat}{j:Nat}{r:Row}{vs:List (Nat×List D)}{m:Nat}(hC:∀i j,i<m→j<m→C i=C j→i=j):∀(i:Nat) (l:List Row),i+l.length≤m→l[j]? =some r→(cOv C i l++vs).lookup (C (i+j))=some (dC ((cW aw).f r.c))
 |_,[],_,h=>by simp at h
 |i,s::l,hm,h=>by
  unfold cOv
  rw[EV]
  cases j with
  |zero=>
   simp at h
   subst h
   exact aa
  |succ j=>
   have bI:=(fP.1 h).1
   simp only[sb] at hm bI
   refine al (fun e=>?_) ?_
   ·have:=hC _ _ (by omega) (by omega) e;omega
   ·rw[show i+(j+1)=i+1+j by omega]
    exact Uu hC (i+1) l (by omega) (by simpa using h)
theorem Pa {C:Nat→Nat}{k:Nat}{vs:List (Nat×List D)}:∀(i:Nat) (l:List Row),(∀j,j<l.length→k≠C (i+j))→(cOv C i l++vs).lookup k=vs.lookup k
 |_,[],_=>rfl
 |i,s::l,h=>by
  unfold cOv
  rw[EV]
  exact al (h 0 (by simp)) (Pa (i+1) l fun j hj=>by have:=h (j+1) (by simpa using hj);rwa[show i+(j+1)=i+1+j by omega] at this)
theorem R2 {R:Nat}{C:Nat→Nat}{w:Nat}{l:List Row}{k:Nat}{vs:List (Nat×List D)}(h:k≠R):(rOv R C w l++vs).lookup k=vs.lookup k:=by
 cases l with
 |nil=>rfl
 |cons r l=>exact an h
section
variable {kd R G w:Nat} {C:Nat→Nat} {d d':Dic} {vs vs2:List (Nat×List D)}
theorem DAt.ov(hf:Dif d.rows.length kd R G C)(lG:d.gc.length=w)(lC:∀(i:Nat) (r:Row),d.rows[i]? =some r→r.c.length=w):DAt (ov kd R G C w d vs) kd R G C w d:=by
 refine⟨aa,fun fI=>?_,al hf.dG.symm aa,fun i r h=>?_,lG,lC⟩
 ·refine al hf.dR.symm (al hf.RG ?_)
  cases hl:d.rows with
  |nil=>exact absurd hl fI
  |cons r l=>exact aa
 ·have hi:=(fP.1 h).1
  obtain⟨h1,h2,h3⟩:=hf.C1 i hi
  refine al h1 (al h3 ?_)
  rw[R2 h2]
  have:=Uu (vs:=vs) hf.C2 0 d.rows (by omega) h
  rwa[br] at this
theorem Ih {k:Nat}(h1:k≠kd)(h2:k≠R)(h3:k≠G)(h4:∀j,j<d.rows.length→k≠C j):(ov kd R G C w d vs).lookup k=vs.lookup k:=by
 refine al h1 (al h3 ?_)
 rw[R2 h2]
 exact Pa 0 _ fun j hj=>by rw[br];exact h4 j hj
theorem DT(hf:Dif d.rows.length kd R G C)(h:DAt vs2 kd R G C w d)(hr:∀k ds,k≠kd→k≠R→k≠G→(∀j,j<d.rows.length→k≠C j)→vs.lookup k=some ds→vs2.lookup k=some ds)(hnil:d.rows=[]→∀ds,vs.lookup R=some ds→vs2.lookup R=some ds):
  ∀k ds,(ov kd R G C w d vs).lookup k=some ds→vs2.lookup k=some ds:=by
 intro k ds hk
 have h0:=DAt.ov (vs:=vs) hf h.lG h.lC
 by_cases h1:k=kd
 ·subst h1;rw[h0.hd] at hk;rw[h.hd];exact hk
 by_cases h2:k=R
 ·subst h2
  by_cases fI:d.rows=[]
  ·refine hnil fI ds ?_
   rw[←hk]
   refine Eq.symm (al h1 (al hf.RG ?_))
   rw[fI];rfl
  ·rw[h0.hR fI] at hk;rw[h.hR fI];exact hk
 by_cases h3:k=G
 ·subst h3;rw[h0.hG] at hk;rw[h.hG];exact hk
 by_cases h4:∀j,j<d.rows.length→k≠C j
 ·rw[Ih h1 h2 h3 h4] at hk
  exact hr k ds h1 h2 h3 h4 hk
 ·obtain⟨j,hj⟩:=Ny.1 h4
  obtain⟨OL,Cv⟩:=Nx.1 hj
  have Cv:=BX.1 Cv
  subst Cv
  have hr:=cH OL
  rw[h0.hC j _ hr] at hk;rw[h.hC j _ hr];exact hk
theorem r5 {M:Nat}(hR:R<M)(hG:G<M):(m4 R G w d).all (D.idsC M)=true:=by
 unfold m4
 rw[lE,lE,iX hG]
 cases d.rows <;> simp[e9,D.idsC,hR]
theorem Cq {lv:List (Nat×Nat×Nat×TypeId)}{N:Nat}(hok:cp ⟨vs,lv,N⟩)(hd:kd<N)(hR:R<N)(hG:G<N)(hC:∀j,j<d.rows.length→C j<N):cp ⟨ov kd R G C w d vs,lv,N⟩:=by
 have h1:∀(i:Nat) (l:List Row),(∀j,j<l.length→C (i+j)<N)→cp ⟨cOv C i l++vs,lv,N⟩:=by
  intro i l
  induction l generalizing i with
  |nil=>intro _;exact hok
  |cons r l ih=>
   intro h
   exact (ih (i+1) fun j hj=>by have:=h (j+1) (by simpa using hj);rwa[show i+(j+1)=i+1+j by omega] at this).cons (ax _) (h 0 (by simp)) (ez _)
 have h2:cp ⟨rOv R C w d.rows++(cOv C 0 d.rows++vs),lv,N⟩:=by
  have h3:=h1 0 d.rows fun j hj=>by rw[br];exact hC j hj
  cases hl:d.rows with
  |nil=>rw[hl] at h3;exact h3
  |cons r l=>
   rw[hl] at h3
   refine h3.cons (ax _) hR (xt 0 _ fun j hj=>?_)
   rw[br];exact hC j (by rw[hl];exact hj)
 exact (h2.cons (ax _) hG (ez _)).cons (ax _) hd (r5 hR hG)
end
end
section
section
variable {kd R G w:Nat} {C:Nat→Nat} {d:Dic} {vs vs2:List (Nat×List D)}
theorem PW {R:Nat}{l l2:List Row}(h:l.length=l2.length):e9 R l=e9 R l2:=by
 cases l with
 |nil=>cases l2 with
  |nil=>rfl
  |cons _ _=>simp at h
 |cons _ _=>cases l2 with
  |nil=>simp at h
  |cons _ _=>show D.gw R 38 _=D.gw R 38 _;rw[h]
theorem DAt.look(h:DAt vs kd R G C w d)(h2:∀k ds,(k=kd∨k=R∨k=G∨∃i,i<d.rows.length∧k=C i)→vs.lookup k=some ds→vs2.lookup k=some ds):DAt vs2 kd R G C w d:=
 ⟨h2 _ _ (.inl rfl) h.hd,fun fI=>h2 _ _ (.inr (.inl rfl)) (h.hR fI),h2 _ _ (.inr (.inr (.inl rfl))) h.hG,fun i r hr=>h2 _ _ (.inr (.inr (.inr ⟨i,(fP.1 hr).1,rfl⟩))) (h.hC i r hr),h.lG,h.lC⟩
theorem DAt.setRow(h:DAt vs kd R G C w d)(hf:Dif d.rows.length kd R G C){j:Nat}(hj:j<d.rows.length)(r:Row)(hl:r.c.length=w)(hR:vs2.lookup R=some (f6 C w 0 (d.rows.set j r)))(hC:vs2.lookup (C j)=some (dC ((cW aw).f r.c)))
  (h2:∀k ds,k≠R→k≠C j→vs.lookup k=some ds→vs2.lookup k=some ds):DAt vs2 kd R G C w ⟨d.rows.set j r,d.gk,d.gc,d.n,d.piv,d.most⟩:=by
 obtain⟨h3,h4,h5⟩:=hf.C1 j hj
 refine⟨?_,fun _=>hR,h2 _ _ hf.RG.symm h5.symm h.hG,fun i r' hr=>?_,h.lG,fun i r' hr=>?_⟩
 ·have:m4 R G w ⟨d.rows.set j r,d.gk,d.gc,d.n,d.piv,d.most⟩=m4 R G w d:=by
   unfold m4
   rw[show e9 R (d.rows.set j r)=e9 R d.rows from PW (cY ..)]
  rw[this]
  exact h2 _ _ hf.dR h3.symm h.hd
 ·by_cases Cy:i=j
  ·subst Cy
   rw[Hv hj] at hr
   injection hr with hr
   subst hr
   exact hC
  ·rw[BW (fun e=>Cy e.symm)] at hr
   have hi:=(fP.1 hr).1
   exact h2 _ _ (hf.C1 i hi).2.1 (fun e=>Cy (hf.C2 i j hi hj e)) (h.hC i r' hr)
 ·by_cases Cy:i=j
  ·subst Cy
   rw[Hv hj] at hr
   injection hr with hr
   subst hr
   exact hl
  ·rw[BW (fun e=>Cy e.symm)] at hr
   exact h.lC i r' hr
theorem DAt.setDic(h:DAt vs kd R G C w d)(hf:Dif d.rows.length kd R G C)(d':Dic)(hr:d'.rows=d.rows)(hl:d'.gc.length=w)(hd:vs2.lookup kd=some (m4 R G w d'))(hG:vs2.lookup G=some (dC ((cW aw).f d'.gc)))
  (h2:∀k ds,k≠kd→k≠G→vs.lookup k=some ds→vs2.lookup k=some ds):DAt vs2 kd R G C w d':=by
 refine⟨hd,fun fI=>?_,hG,fun i r hi=>?_,hl,fun i r hi=>?_⟩
 ·rw[hr] at fI ⊢
  exact h2 _ _ hf.dR.symm hf.RG (h.hR fI)
 ·rw[hr] at hi
  obtain⟨h3,h4,h5⟩:=hf.C1 i (fP.1 hi).1
  exact h2 _ _ h3 h5 (h.hC i r hi)
 ·rw[hr] at hi
  exact h.lC i r hi
end
theorem xx {k:Nat}{os:List Nat}(h:k∉os):∀{l:List (Nat×List D)} {ds:List D},l.lookup k=some ds→(l.filter fun p=>!os.contains p.1).lookup k=some ds
 |[],_,h'=>by simp at h'
 |(j,a)::l,ds,h'=>by
  by_cases hj:k=j
  ·subst hj
   rw[I8 (by simpa using h)]
   rw[aa] at h' ⊢
   exact h'
  ·have h1:l.lookup k=some ds:=by rw[←h'];exact (an hj).symm
   by_cases hm:j∈os
   ·rw[Nr (by simpa using hm)]
    exact xx h h1
   ·rw[I8 (by simpa using hm)]
    exact al hj (xx h h1)
section
variable {hp:Hp}
theorem VK:∀(l:List E),ARs hp (dC l) (dC l)
 |[]=>trivial
 |e::l=>⟨AR.data (d:=.e e) rfl,VK l⟩
theorem ARs.append:∀{ds es ds2 es2:List D},ARs hp ds es→ARs hp ds2 es2→ARs hp (ds++ds2) (es++es2)
 |[],[],_,_,_,h=>h
 |_::_,_::_,_,_,⟨h1,h2⟩,h=>⟨h1,ARs.append h2 h⟩
 |[],_::_,_,_,h,_=>h.elim
 |_::_,[],_,_,h,_=>h.elim
theorem AR.list {k n:Nat}{l:List Nu}(hv:hp.vars.lookup k=some (dC ((cW aw).f l)))(hl:l.length=n):AR hp (.ow k 0 36 n) (.e (slE aw l)):=by
 subst hl
 have hlen:((cW aw).f l).length=l.length*36:=ip aw.f aw.h l
 have:=AR.sl (off:=0) hv (n:=l.length) (z:=36) (by omega) (by omega)
 rw[qS,g9 (by omega)] at this
 exact this
theorem AR.line {kc n:Nat}{k:Nu}{l:List Nu}(hv:hp.vars.lookup kc=some (dC ((cW aw).f l)))(hl:l.length=n):AR hp (.ag (aY k kc n)) (.ag (dC (aw.f k)++[.e (slE aw l)])):=
 AR.ag (ARs.append (VK _) ⟨AR.list hv hl,trivial⟩)
end
theorem MY {vs:List (Nat×List D)}{lv:List (Nat×Nat×Nat×TypeId)}{N kc n:Nat}{k:Nu}{l:List Nu}(hv:vs.lookup kc=some (dC ((cW aw).f l)))(hl:l.length=n)(hn:n≤1000000):HC prog 109 [.ag (aY k kc n)] ⟨vs,lv,N⟩ (dB (f7 k l)) ⟨vs,lv,N⟩:=
 HC.frz (w_good k l (by omega)) ⟨AR.line hv hl,trivial⟩ rfl
end
section
def klO(kd R:Nat):Option Nat→Nat|none=>kd|some _=>R
def olO:Option Nat→Nat|none=>1|some j=>j*38
def kcO(G:Nat)(C:Nat→Nat):Option Nat→Nat|none=>G|some j=>C j
section
variable {kd R G w:Nat} {C:Nat→Nat} {d:Dic} {vs:List (Nat×List D)}
theorem lineO(h:DAt vs kd R G C w d)(hf:Dif d.rows.length kd R G C)(o:Option Nat)(ho:∀j,o=some j→j<d.rows.length):
  ∃F A B:List D,vs.lookup (klO kd R o)=some F∧pf F (olO o) (lkO d o) (kcO G C o) w A B∧vs.lookup (kcO G C o)=some (dC ((cW aw).f (lcO d o)))∧(lcO d o).length=w∧klO kd R o≠kcO G C o∧
   ∀(v2:List (Nat×List D)) (lk:Nu) (lc:List Nu),lc.length=w→v2.lookup (klO kd R o)=some (A++aY lk (kcO G C o) w++B)→v2.lookup (kcO G C o)=some (dC ((cW aw).f lc))→
    (∀k ds,k≠klO kd R o→k≠kcO G C o→vs.lookup k=some ds→v2.lookup k=some ds)→DAt v2 kd R G C w (Mh d o lk lc):=by
 cases o with
 |none=>
  refine⟨m4 R G w d,[e9 R d.rows],[dI .i64 d.n,dI .i64 d.piv,dI .i64 d.most],h.hd,⟨rfl,rfl⟩,h.hG,h.lG,hf.dG,fun v2 lk lc hl h1 h2 h3=>?_⟩
  exact h.setDic hf ⟨d.rows,lk,lc,d.n,d.piv,d.most⟩ rfl hl h1 h2 h3
 |some j=>
  have hj:=ho j rfl
  have hr:d.rows[j]? =some d.rows[j]! :=by rw[bL d.rows j hj];exact cH hj
  obtain⟨A,B,h1,h2,h3,h4,_⟩:=mD C w d.rows j hr
  have fI:d.rows≠[]:=fun e=>by rw[e] at hj;simp at hj
  refine⟨f6 C w 0 d.rows,A,[dI .i64 d.rows[j]!.b]++B,h.hR fI,h4,h.hC j _ hr,h.lC j _ hr,(hf.C1 j hj).2.1.symm,fun v2 lk lc hl h5 h6 h7=>?_⟩
  refine h.setRow hf hj ⟨lk,lc,d.rows[j]!.b⟩ hl ?_ h6 h7
  rw[h2]
  have h5':v2.lookup R=some (A++aY lk (C j) w++([dI .i64 d.rows[j]!.b]++B)):=h5
  rw[h5']
  unfold iS
  simp only[c5]
theorem RU(d:Dic)(o:Option Nat)(k:Nu)(c:List Nu):(Mh d o k c).rows.length=d.rows.length:=by
 cases o with
 |none=>rfl
 |some j=>exact cY ..
theorem setO_ne {o:Option Nat}{i:Nat}(h:o≠some i)(k:Nu)(c:List Nu):(Mh d o k c).rows[i]? =d.rows[i]? :=by
 cases o with
 |none=>rfl
 |some j=>
  have:j≠i:=fun e=>h (by rw[e])
  exact BW this
end
theorem pO_succ {r1:Row}{s at' i u:Nat}{p:Dic×Bool}{o:Option Nat}(h:(xR at' i)[u]? =some o):pO r1 s at' i p (u+1)=wD r1 s (pO r1 s at' i p u) o:=by
 unfold pO
 rw[AE,h,List.foldl_append]
 rfl
theorem Pt.cell {F:List D}{t:Nat}{x:D}(h:F[t]? =some x):Pt F t [x] (fun ys=>F.take t++ys++F.drop (t+1)):=by
 obtain⟨h1,h2⟩:=fP.1 h
 refine⟨by simp;omega,?_,fun ys _=>rfl⟩
 show (F.drop t).take 1=[x]
 rw[Fd h1,NM,EP,h2]
theorem iaP {dr:Bool}{ty:TypeId}{ev:Operand→D}{hp:Hp}{k i n:Nat}{kn:IntKind}{x y:Operand}(h:i<n)(hx:ev x=.ow k 0 1 n:=by exact rfl)(hy:ev y=dI kn (i:Int):=by exact rfl):AVC prog tbl dr (.indexAddr 161 x y) ty ev hp (Kq (.pt k i) hp):=by
 have:=xi (P:=prog) (tb:=tbl) (dr:=dr) (ty:=ty) (ev:=ev) (hp:=hp) (x:=x) (y:=y) (v:=(i:Int)) (n:=n) (kn:=kn) ⟨by omega,by omega⟩ Be yO rfl hx rfl hy
 rwa[bW,br,show i*1=i from yz i] at this
theorem Sw {x:Cx}{kd R G w N n2 q:Nat}{C:Nat→Nat}{d':Dic}{vs v:List (Nat×List D)}{lv:List (Nat×Nat×Nat×TypeId)}{tm:List (Nat×D)}{e:Int}(h0:x.hp0=⟨vs,lv,N⟩)(hok:cp ⟨vs,lv,N⟩)(hN:N≤n2)(hD:DAt v kd R G C w d')(hf:Dif d'.rows.length kd R G C)
  (Gy:kd<N) (hR:R<N) (hG:G<N) (hC:∀j,j<d'.rows.length→C j<N) (hr:∀k ds,k≠kd→k≠R→k≠G→(∀j,j<d'.rows.length→k≠C j)→vs.lookup k=some ds→v.lookup k=some ds) (hnil:d'.rows=[]→∀ds,vs.lookup R=some ds→v.lookup R=some ds) (hq:tm.lookup q=some (dI .i64 e)):
  ∃tm',Wk x tm ⟨v,lv,n2⟩ tm' ⟨ov kd R G C w d' vs,lv,N⟩∧tN tbl [.tmp q] tm' ⟨ov kd R G C w d' vs,lv,N⟩ (dI .i64 e):=by
 have hok':=Cq (d:=d') (w:=w) hok Gy hR hG hC
 refine⟨[(q,dI .i64 e)],wkS (by rw[h0];exact ax N) hN hok' (DT hf hD hr hnil) (bF.nil.cons hq),?_⟩
 exact⟨dI .i64 e,aa,rfl⟩
section
variable {R G w:Nat} {d:Dic}
theorem gE:Pt (m4 R G w d) 0 [e9 R d.rows] (fun ys=>ys++(aY d.gk G w++[dI .i64 d.n,dI .i64 d.piv,dI .i64 d.most])):=Pt.of [] (aY d.gk G w++[dI .i64 d.n,dI .i64 d.piv,dI .i64 d.most]) rfl (by unfold m4;simp) fun y=>by simp
theorem ms:pf (m4 R G w d) 1 d.gk G w [e9 R d.rows] [dI .i64 d.n,dI .i64 d.piv,dI .i64 d.most]:=⟨rfl,rfl⟩
theorem dic_n:Pt (m4 R G w d) 38 [dI .i64 d.n] (fun ys=>[e9 R d.rows]++aY d.gk G w++(ys++[dI .i64 d.piv,dI .i64 d.most])):=Pt.of ([e9 R d.rows]++aY d.gk G w) [dI .i64 d.piv,dI .i64 d.most] (by rw[cD,bS];rfl) (by unfold m4;simp) fun y=>by simp
theorem oH:Pt (m4 R G w d) 39 [dI .i64 d.piv] (fun ys=>[e9 R d.rows]++aY d.gk G w++([dI .i64 d.n]++ys++[dI .i64 d.most])):=Pt.of ([e9 R d.rows]++aY d.gk G w++[dI .i64 d.n]) [dI .i64 d.most] (by rw[cD,cD,bS];rfl) (by unfold m4;simp) fun y=>by simp
theorem T9:Pt (m4 R G w d) 40 [dI .i64 d.most] (fun ys=>[e9 R d.rows]++aY d.gk G w++([dI .i64 d.n,dI .i64 d.piv]++ys)):=Pt.of ([e9 R d.rows]++aY d.gk G w++[dI .i64 d.n,dI .i64 d.piv]) [] (by rw[cD,cD,bS];rfl) (by unfold m4;simp) fun y=>by simp
end
end
section
theorem Is {x:Cx}{tm:List (Nat×D)}{vs vs2:List (Nat×List D)}{lv:List (Nat×Nat×Nat×TypeId)}{N n2 q:Nat}{d:D}(h0:x.hp0=⟨vs,lv,N⟩)(hok:cp ⟨vs,lv,N⟩)(hN:N≤n2)(hv:∀j ds,vs.lookup j=some ds→vs2.lookup j=some ds)(hq:tm.lookup q=some d)(hd:d.idsB N=true):
  ∃tm',Wk x tm ⟨vs2,lv,n2⟩ tm' ⟨vs,lv,N⟩∧tN tbl [.tmp q] tm' ⟨vs,lv,N⟩ d:=
 ⟨[(q,d)],wkS (by rw[h0];exact ax N) hN hok hv (bF.nil.cons hq hd),⟨d,aa,rfl⟩⟩
section
variable {ops:Array Oper} {K:List (Nat×D)→Hp→Prop} {os:List Oper} {tm:List (Nat×D)} {hp:Hp} {t:Tmp} {ty:TypeId} {pos:String} {af:Array Edge} {md:Md}
theorem Og {R:Nat}{l:List Row}{x:Operand}(hx:evD tm x=e9 R l)(h2:aX prog tbl md ops K os ((t,dI .i64 l.length)::tm) hp)(hn:md.nc tbl (.call ⟨.builtin .len,#[x],#[71]⟩)=true:=by exact rfl):aX prog tbl md ops K (⟨some t,.call ⟨.builtin .len,#[x],#[71]⟩,ty,pos,af,none⟩::os) tm hp:=by
 cases l with
 |nil=>exact s1 (U7 Ck tV rfl (by rw[hx];rfl)) h2 hn
 |cons r l=>exact stG (d:=dI .i64 (r::l).length) tok (Cf (k:=R) (off:=0) (z:=38) Ck tV rfl (by rw[hx];rfl)) h2 hn
end
section
variable {vs:List (Nat×List D)} {lv:List (Nat×Nat×Nat×TypeId)} {N kv R w:Nat} {C:Nat→Nat} {v:Int}
theorem h_findf {i:Nat}(r:Row)(hv:vs.lookup kv=some [dI .i64 v]):HC prog 155 [.ag (iS C w i r),.pt kv 0] ⟨vs,lv,N⟩ (dB (decide (r.b=v))) ⟨vs,lv,N⟩:=by
 refine HC.of (rs:=[.tmp 3]) tok func155 rfl rfl (a9 rfl) rfl (fun cx hx h0 hok=>?_)
 simp only[fC,Nat.reduceAdd,br]
 have hkv:=hok.lt hv
 refine rs hx fun K hK=>?_
 refine s1 (fQ (cs:=iS C w i r)) ?_
 refine sa ?_
 refine nl hK ?_
 refine rs hx fun K hK=>?_
 refine sa ?_
 refine s1 (kG (Pt.of (F:=iS C w i r) (bs:=[dI .i64 r.b]) (aY r.k (C i) w) [] (bS _ _ _) (by unfold iS;simp) (F':=fun ys=>aY r.k (C i) w++ys++[]) fun y=>rfl) aa (ek N) tbI) ?_
 refine s1 (kG (Pt.of (F:=[dI .i64 v]) (bs:=[dI .i64 v]) [] [] rfl (by simp) (F':=id) fun y=>by simp) (al (show kv≠N by omega) hv) (show kv<N+1 by omega) tbI) ?_
 iterate 2 refine sa ?_
 refine nl hK ?_
 exact AW.ret (Is h0 hok (jD N) (fun j ds h=>al (hok.ne h (ax N)) h) rfl rfl)
theorem TE {l:List Row}(hm:l.length≤1000000)(hR:l≠[]→vs.lookup R=some (f6 C w 0 l))(hv:vs.lookup kv=some [dI .i64 v]):
  HC prog 154 [e9 R l,.fn 155 [kv]] ⟨vs,lv,N⟩ (dI .i64 (dm l v)) ⟨vs,lv,N⟩:=by
 refine HC.of (rs:=[.tmp 4]) tok func154 rfl rfl (a9 rfl) rfl (fun cx hx h0 hok=>?_)
 simp only[fC,Nat.reduceAdd,br]
 have hkv:=hok.lt hv
 have hRi:(e9 R l).idsB N=true:=by
  cases hl:l with
  |nil=>rfl
  |cons r l'=>exact aA (hok.lt (hR (by rw[hl];simp)))
 refine rs hx fun K hK=>?_
 refine sa ?_
 refine nl hK ?_
 refine AW.seq (rs hx fun K hK=>?_)
 refine sa ?_
 refine Og (R:=R) (l:=l) rfl ?_
 refine sa ?_
 refine nl hK ?_
 refine AW.block (AW.loopW (fun i:Nat=>[(0,e9 R l),(1,.fn 155 [kv]),(7,dI .i64 l.length),(8,dI .i64 i)]) (fun _=>⟨vs,lv,N⟩) (fun i=>i≤l.length∧∀(j:Nat) (r':Row),j<i→l[j]? =some r'→r'.b≠v) (fun i=>l.length - i) 0 ?_ ⟨cr _,fun j _ hj=>absurd hj (qK _)⟩ ?_)
 ·exact wkS (by rw[h0];exact ax N) (ax _) hok (fun j ds h=>h) (bF.cons (t:=0) (d:=e9 R l) (bF.cons (t:=1) (d:=.fn 155 [kv]) (bF.cons (t:=7) (d:=dI .i64 l.length) (bF.cons (t:=8) (d:=dI .i64 (0:Nat)) bF.nil rfl rfl) rfl rfl) rfl (ba.2 fun k hk=>aA (by rw[qH.1 hk];exact hkv))) rfl hRi)
 ·rintro i ⟨hi,mF⟩
  refine rs hx fun K hK=>?_
  refine sa ?_
  refine nl hK ?_
  refine AW.seq (AW.condS rfl (fun hb=>?_) (fun hb=>?_))
  ·have zd:i<l.length:=by have:=bw hb;omega
   have fI:l≠[]:=fun e=>by rw[e] at zd;simp at zd
   have hr:l[i]? =some l[i]:=cH zd
   obtain⟨A,B,hA,_,h3,_,_⟩:=mD C w l i hr
   have Dk:=hok.lt (hR fI)
   refine AW.skip (AW.seq (AW.block (rs hx fun K hK=>?_)))
   iterate 2 refine sa ?_
   refine nl hK ?_
   refine rs hx fun K hK=>?_
   iterate 3 refine sa ?_
   refine stG (d:=.pt R (i*38)) tok (iaR (i:=i) (n:=l.length) zd (by show (e9 R l).toOw=_;rw[qg fI];rfl) rfl) ?_
   refine s1 (CP (Pt.of A B hA h3 (F':=fun ys=>A++ys++B) fun y=>rfl) (hR fI) Dk tV (tY _ _ _ _)) ?_
   refine q1 (sHF (h_findf l[i] hv) rfl) ?_
   refine nl hK ?_
   refine AW.condS rfl (fun hb=>?_) (fun hb=>?_)
   ·have hbv:l[i].b=v:=bw hb
    refine rs hx fun K hK=>?_
    iterate 2 refine sa ?_
    refine nl hK ?_
    refine AW.ret ?_
    rw[QH hr hbv mF]
    exact Is h0 hok (ax N) (fun j ds h=>h) rfl rfl
   ·have hbv:¬l[i].b=v:=dp hb
    refine AW.skip (rq hx fun K hK=>?_)
    iterate 2 refine sa ?_
    refine nl hK ?_
    rw[bT]
    refine⟨i+1,wkS (by rw[h0];exact ax N) (ax _) hok (fun j ds h=>h) (bF.cons (t:=0) (d:=e9 R l) (bF.cons (t:=1) (d:=.fn 155 [kv]) (bF.cons (t:=7) (d:=dI .i64 l.length) (bF.cons (t:=8) (d:=dI .i64 (i+1:Nat)) bF.nil rfl rfl) rfl rfl) rfl (ba.2 fun k hk=>aA (by rw[qH.1 hk];exact hkv))) rfl hRi),⟨zd,fun j r' hj pW=>?_⟩,by omega⟩
    rcases dX j i with h|h
    ·exact mF j r' h pW
    ·obtain rfl:j=i:=by omega
     rw[hr] at pW
     injection pW with pW
     rw[←pW];exact hbv
  ·refine AW.exit ?_
   have zd:i=l.length:=by have:=dp hb;omega
   refine rs hx fun K hK=>?_
   refine sa ?_
   refine nl hK ?_
   refine AW.ret ?_
   rw[M5 fun j r' pW=>mF j r' (by rw[zd];exact (fP.1 pW).1) pW]
   exact Is h0 hok (ax N) (fun j ds h=>h) rfl rfl
theorem MZ {kd G:Nat}{d:Dic}(hD:DAt vs kd R G C w d)(hm:d.rows.length≤1000000):HC prog 105 [.pt kd 0,dI .i64 v] ⟨vs,lv,N⟩ (dI .i64 (dm d.rows v)) ⟨vs,lv,N⟩:=by
 refine HC.of (rs:=[.tmp 4]) tok func105 rfl rfl (a9 rfl) rfl (fun cx hx h0 hok=>?_)
 simp only[fC,Nat.reduceAdd,br]
 have Gy:=hok.lt hD.hd
 refine rs hx fun K hK=>?_
 refine s1 (fQ (cs:=[dI .i64 v])) ?_
 refine sa ?_
 refine nl hK ?_
 refine rs hx fun K hK=>?_
 iterate 3 refine sa ?_
 refine s1 (kG gE (al (show kd≠N by omega) hD.hd) (show kd<N+1 by omega) tbI) ?_
 refine s1 (Fm (ks:=[N])) ?_
 refine q1 (sHC (TE (vs:=(N,[dI .i64 v])::vs) (lv:=lv) (N:=N+1) (C:=C) (w:=w) hm (fun fI=>al (hok.ne (hD.hR fI) (ax N)) (hD.hR fI)) aa) rfl (.inl (by kernel_rfl))) ?_
 refine sa ?_
 refine nl hK ?_
 exact AW.ret (Is h0 hok (jD N) (fun j ds h=>al (hok.ne h (ax N)) h) rfl rfl)
end
end
def rh(aM:Int)(mA:Int):Option (Int×Int):=bnd (some (u64.wrap ((KB .u64 aM (4294967295:Int))*(KB .u64 mA (4294967295:Int))))) fun x1=>bnd (some (u64.wrap ((u64.wrap ((mh .u64 aM (32:Int))*(KB .u64 mA (4294967295:Int))))+(mh .u64 x1 (32:Int))))) fun x3=>bnd (some (u64.wrap ((KB .u64 x3 (4294967295:Int))+(u64.wrap ((KB .u64 aM (4294967295:Int))*(mh .u64 mA (32:Int))))))) fun x5=>bnd (some (u64.wrap ((u64.wrap ((u64.wrap ((mh .u64 aM (32:Int))*(mh .u64 mA (32:Int))))+(mh .u64 x3 (32:Int))))+(mh .u64 x5 (32:Int))))) fun x7=>some (x7,u64.wrap (aM*mA))
theorem HW {aM:Int}{mA:Int}{r:Int×Int}(h:rh aM mA=some r):aq prog 183 [dI .u64 aM,dI .u64 mA] (.tu [dI .u64 r.1,dI .u64 r.2]):=by
 refine bh (rs:=[.tmp 4,.tmp 5]) (fun cx hx h0=>?_) func183
 unfold rh at h
 iterate 5 refine ra hx ?_
 refine rs hx fun K hK=>?_
 iterate 3 refine sa ?_
 obtain⟨x1,xy,h⟩:=ae h
 replace xy:=bC xy
 refine s2 (d2:=dI .u64 x1) lH (gq (congrArg (dI .u64) xy)) ?_
 refine nl hK ?_
 refine rs hx fun K hK=>?_
 iterate 6 refine sa ?_
 obtain⟨x3,SK,h⟩:=ae h
 replace SK:=bC SK
 refine s2 (d2:=dI .u64 x3) lH (gq (congrArg (dI .u64) SK)) ?_
 refine nl hK ?_
 iterate 2 refine ra hx ?_
 refine rs hx fun K hK=>?_
 iterate 5 refine sa ?_
 obtain⟨x5,Gu,h⟩:=ae h
 replace Gu:=bC Gu
 refine s2 (d2:=dI .u64 x5) lH (gq (congrArg (dI .u64) Gu)) ?_
 refine nl hK ?_
 refine rs hx fun K hK=>?_
 iterate 8 refine sa ?_
 obtain⟨x7,SJ,h⟩:=ae h
 replace SJ:=bC SJ
 refine s2 (d2:=dI .u64 x7) lH (gq (congrArg (dI .u64) SJ)) ?_
 refine nl hK ?_
 refine ra hx ?_
 refine AW.ret ?_
 cases h
 exact rv2
def uQ(aM:Int)(mA:Int):Option (Int×Int):=bnd (rh aM mA) fun x1=>some (x1.1,x1.2)
theorem L7 {aM:Int}{mA:Int}{r:Int×Int}(h:uQ aM mA=some r):aq prog 151 [dI .u64 aM,dI .u64 mA] (.tu [dI .u64 r.1,dI .u64 r.2]):=by
 refine bh (rs:=[.tmp 4,.tmp 5]) (fun cx hx h0=>?_) func151
 unfold uQ at h
 refine ra hx ?_
 refine AW.seq (AW.condF rfl rfl (AW.skip (rs hx fun K hK=>?_)))
 refine mbr ?_
 refine scb h HW fun x1 h=>?_
 refine nbr hK ?_
 refine ra hx ?_
 refine AW.ret ?_
 cases h
 exact rv2
theorem SG {m:Nat}(h:m<4294967296):KB .u64 (m:Int) (4294967295:Int)=(m:Int):=by
 have h1:(BitVec.ofInt 64 (m:Int) &&&BitVec.ofInt 64 (4294967295:Int)).toNat=m:=by
  have a:(BitVec.ofInt 64 (m:Int)).toNat=m:=by
   rw[BitVec.ofInt_natCast,BitVec.toNat_ofNat];omega
  have b:(BitVec.ofInt 64 (4294967295:Int)).toNat=2 ^ 32 - 1:=by decide
  rw[BitVec.toNat_and,a,b,Nat.and_two_pow_sub_one_eq_mod];omega
 show u64.wrap (((BitVec.ofInt 64 (m:Int) &&&BitVec.ofInt 64 (4294967295:Int)).toNat:Nat):Int)=m
 rw[h1]
 exact iu
theorem mul1 {n:Nat}(h:n≤1000000):uQ (u64.wrap 1) (u64.wrap (n:Int))=some (0,(n:Int)):=by
 have e1:u64.wrap 1=((1:Nat):Int):=iu (n:=1) (by omega)
 have a1:=SG (m:=1) (by omega)
 have a2:=SG (m:=n) (by omega)
 have s1:=yf 1
 have s2:=yf n
 have m1:(1:Nat) / 4294967296=0:=rfl
 have m2:n / 4294967296=0:=eC (by omega)
 rw[m1] at s1
 rw[m2] at s2
 have z0:u64.wrap ((0:Nat):Int)=((0:Nat):Int):=iu (n:=0) (by omega)
 have zn:u64.wrap (n:Int)=(n:Int):=iu
 have i0:KB .u64 ((0:Nat):Int) (4294967295:Int)=((0:Nat):Int):=SG (m:=0) (by omega)
 have h0:mh .u64 ((0:Nat):Int) (32:Int)=((0:Nat):Int):=yf 0
 rw[e1,zn]
 unfold uQ rh
 rw[a1,a2,s1,s2]
 simp only[bnd,EU]
 have p1:((1:Nat):Int)*(n:Int)=(n:Int):=by omega
 have p2:((0:Nat):Int)*(n:Int)=((0:Nat):Int):=by omega
 have p3:((1:Nat):Int)*((0:Nat):Int)=((0:Nat):Int):=by omega
 have p4:((0:Nat):Int)*((0:Nat):Int)=((0:Nat):Int):=by omega
 have p5:((0:Nat):Int)+((0:Nat):Int)=((0:Nat):Int):=by omega
 rw[p1,p2,p3,p4,zn,z0,s2,p5,z0,i0,p5,z0,h0,p5,z0,p5,z0]
 rfl
section
def zj(a:Nu)(n s:Nat):List Nu:=List.replicate s a++List.replicate (n - s) default
theorem ED {a:Nu}{n s:Nat}(h:s≤n):(zj a n s).length=n:=by
 unfold zj;rw[cD,tJ,tJ];omega
theorem cont_cp {a:Nu}{n s:Nat}(h:s≤n):lCp (zj a n s) s (((((zj a n s).drop 0).take s)).take (n - s))=zj a n (s+min s (n - s)):=by
 have h1:((zj a n s).drop 0).take s=List.replicate s a:=by
  unfold zj
  rw[qS,vg (by simp),g9 (by simp)]
 rw[h1,List.take_replicate]
 unfold lCp
 rw[tJ]
 unfold zj
 rw[vg (by simp),g9 (by simp),Nq,tJ,CK (by simp),nB,List.drop_replicate]
 rw[List.replicate_append_replicate,Nat.min_comm,show n - s - (s+min s (n - s) - s)=n - (s+min s (n - s)) by omega]
theorem zNu:aw.f (default:Nu)=zN:=rfl
theorem F7 {x:Cx}{tm tm':List (Nat×D)}{vs2 pi:List (Nat×List D)}{lv FI:List (Nat×Nat×Nat×TypeId)}{n' n2:Nat}(h0:x.hp0.next≤n')(hn:n'≤n2)(hok:cp ⟨pi,lv,n'⟩)(hv:∀j ds,pi.lookup j=some ds→vs2.lookup j=some ds)(hl:∀j y,lv.lookup j=some y→FI.lookup j=some y)(ht:bF n' tm tm'):Wk x tm ⟨vs2,FI,n2⟩ tm' ⟨pi,lv,n'⟩:=
 Wk.look h0 hn ht (fun j ds h=>⟨(hok.var j ds h).1,ds,hv j ds h,ro _,(hok.var j ds h).2⟩) fun id y h=>⟨hok.tok id y h,hl id y h⟩
section
variable {md:Md} {dst:Option Tmp} {ty:TypeId} {pos:String} {af:Array Edge} {gd:Option (Nat×Bool)} {ev:Operand→D} {hp:Hp} {k s n:Nat} {x y:Operand}
theorem slT(h:s<n)(hx:ev x=.ow k 0 36 n:=by exact rfl)(hy:ev y=dI .i64 (s:Int):=by exact rfl):mR prog tbl md ⟨dst,.slice 22 x (some y) none none,ty,pos,af,gd⟩ ev hp (.ow k (s*36) 36 (n - s)) hp:=by
 have:=slW (P:=prog) (tb:=tbl) (md:=md) (dst:=dst) (ty2:=ty) (pos:=pos) (af:=af) (gd:=gd) (ev:=ev) (hp:=hp) (x:=x) (lo:=some y) (hi:=none) (l:=(s:Int)) (h:=(n:Int)) tok ⟨by omega,by omega,by omega,by omega⟩ b9 aR ⟨.i64,hy⟩ rfl rfl hx rfl
 rw[show ((n:Int) - (s:Int)).toNat=n - s by omega,bW,br] at this
 exact this
theorem slHd(h:s≤n)(h0:0<n)(hx:ev x=.ow k 0 36 n:=by exact rfl)(hy:ev y=dI .i64 (s:Int):=by exact rfl):mR prog tbl md ⟨dst,.slice 22 x none (some y) none,ty,pos,af,gd⟩ ev hp (.ow k (0*36) 36 s) hp:=by
 have:=slW (P:=prog) (tb:=tbl) (md:=md) (dst:=dst) (ty2:=ty) (pos:=pos) (af:=af) (gd:=gd) (ev:=ev) (hp:=hp) (x:=x) (lo:=none) (hi:=some y) (l:=(0:Int)) (h:=(s:Int)) tok ⟨by omega,by omega,by omega,by omega⟩ b9 aR rfl ⟨.i64,hy⟩ rfl hx rfl
 rw[show ((s:Int) - 0).toNat=s by omega,br] at this
 exact this
end
section
variable {vs:List (Nat×List D)} {lv:List (Nat×Nat×Nat×TypeId)} {N n:Nat} {a:Nu}
theorem KR(hn:n≤1000000):HC prog 103 [.e (slE aw [a]),dI .i64 n] ⟨vs,lv,N⟩ (.ow (N+1) 0 36 n) ⟨(N+1,dC ((cW aw).f (List.replicate n a)))::vs,lv,N+1+1⟩:=by
 refine HC.of (rs:=[.tmp 4]) tok func103 rfl rfl (a9 rfl) rfl (fun cx hx h0 hok=>?_)
 simp only[fC,Nat.reduceAdd,br]
 refine rs hx fun K hK=>?_
 refine s1 (d:=dO N aw ([]:List Nu)) (gF b9 aR) ?_
 refine nl hK ?_
 refine AW.seq (rs hx fun K hK=>?_)
 iterate 2 refine sa ?_
 refine nl hK ?_
 refine AW.condF rfl (a8 (by omega)) (AW.skip (rs hx fun K hK=>?_))
 iterate 5 refine sa ?_
 refine cq (L7 (mul1 hn)) ?_
 iterate 5 refine sa ?_
 refine nl hK ?_
 refine AW.seq (rs hx fun K hK=>?_)
 iterate 3 refine sa ?_
 iterate 2 refine ga (show decide ((0:Int)<0)=false by decide) ?_
 refine s1 (l6 (show decide ((0:Int)<0)=false by decide)) ?_
 refine nl hK ?_
 refine AW.condF rfl (a8 (by omega)) (AW.skip (rs hx fun K hK=>?_))
 iterate 2 refine sa ?_
 rw[d6 (show -9223372036854775808≤(n:Int) by omega) (by omega)]
 refine q1 (sMk (c:=aw) (z0:=default) (v:=(n:Int)) tok ⟨by omega,by omega⟩ b9 aR rfl) ?_
 rw[bW]
 refine sa ?_
 refine nl hK ?_
 have SQ:xm ⟨(N+1,dC ((cW aw).f (List.replicate n default)))::vs,(N,0,36,43)::lv,N+1+1⟩ (.e (slE aw [a])) 36 1 ([a].flatMap aw.f):=xm.dat rfl (by simp[aw.h];rfl)
 refine rs hx fun K hK=>?_
 iterate 2 refine sa ?_
 refine q1 (sCpW (c:=aw) (l:=List.replicate n default) (s:=[a]) (m:=1) (n:=n) tok b9 aR SQ rfl aa 0 (by simp) rfl) ?_
 refine sa ?_
 refine nl hK ?_
 have hc0:lCp (List.replicate n (default:Nu)) 0 ([a].take n)=zj a n (min 1 n):=by
  cases n with
  |zero=>rfl
  |succ n=>
   unfold lCp zj
   rw[show min 1 (n+1)=1 by omega]
   simp[List.replicate_succ]
 rw[hc0]
 have Gx:∀l:List Nu,cp ⟨(N+1,dC ((cW aw).f l))::vs,lv,N+1+1⟩:=fun l=>hok.cons (by omega) (ek _) (ez _)
 have hNlv:∀j y,lv.lookup j=some y→((N,0,36,43)::lv).lookup j=some y:=fun j y h=>(an (by have:=hok.tok j y h;have h2:j<N:=this;omega)).trans h
 refine AW.seq (AW.block (AW.loopW (fun s:Nat=>[(7,.ow (N+1) 0 36 n),(8,dI .i64 s)]) (fun s=>⟨(N+1,dC ((cW aw).f (zj a n s)))::vs,lv,N+1+1⟩) (fun s=>s≤n∧(0<n→0<s)) (fun s=>n - s) (min 1 n) ?_ ⟨by omega,by omega⟩ ?_))
 ·exact F7 (by rw[h0];show N≤N+1+1;omega) (ax _) (Gx _) (fun j ds h=>by rw[wH];exact h) hNlv (bF.cons (t:=7) (d:=.ow (N+1) 0 36 n) (bF.cons (t:=8) (d:=dI .i64 (min 1 n:Nat)) bF.nil rfl rfl) rfl (aA (ek _)))
 ·rintro s ⟨hsn,hs0⟩
  refine AW.seq (rs hx fun K hK=>?_)
  iterate 4 refine sa ?_
  refine nl hK ?_
  refine AW.condS rfl (fun hb=>?_) (fun hb=>?_)
  ·have bI:s<n:=by have:=bw hb;omega
   have hs1:0<s:=hs0 (by omega)
   refine AW.skip (AW.block (rqd [] hx fun K hK=>?_))
   iterate 3 refine sa ?_
   refine q1 (slT bI) ?_
   iterate 2 refine sa ?_
   refine q1 (slHd (by omega) (by omega)) ?_
   refine q1 (sCpW (c:=aw) (l:=zj a n s) (s:=((zj a n s).drop 0).take s) (m:=s) (n:=n - s) tok b9 aR (xm.lst aa 0 (by rw[ED hsn];omega)) (by rw[eg,qS,ED hsn];omega) aa s (by rw[ED hsn];omega) rfl) ?_
   rw[cont_cp hsn]
   iterate 2 refine sa ?_
   refine nl hK ?_
   rw[show i64.wrap ((s:Int)+(min s (n - s):Nat))=((s+min s (n - s):Nat):Int) by rw[d6 (by omega) (by omega)];omega]
   exact⟨s+min s (n - s),wkS (by rw[h0];show N≤N+1+1;omega) (ax _) (Gx _) (fun j ds h=>by rw[wH];exact h) (bF.cons (t:=7) (d:=.ow (N+1) 0 36 n) (bF.cons (t:=8) (d:=dI .i64 (s+min s (n - s):Nat)) bF.nil rfl rfl) rfl (aA (ek _))),⟨by omega,by omega⟩,by omega⟩
  ·refine AW.exit ?_
   have hsn2:s=n:=by have:=dp hb;omega
   subst hsn2
   have Dj:zj a s s=List.replicate s a:=by unfold zj;simp
   rw[Dj]
   refine rs hx fun K hK=>?_
   iterate 2 refine sa ?_
   refine nl hK ?_
   exact AW.ret (⟨[(4,.ow (N+1) 0 36 s)],wkS (by rw[h0];show N≤N+1+1;omega) (ax _) (Gx _) (fun j ds h=>h) (bF.cons (t:=4) (d:=.ow (N+1) 0 36 s) bF.nil rfl (aA (ek _))),⟨_,aa,rfl⟩⟩)
end
end
theorem HC.args {P:Program}{f:FuncId}{ds ds':List D}{hp hp':Hp}{d:D}(hl:leL ds ds')(hc:HC P f ds' hp d hp'):HC P f ds hp d hp':=by
 obtain⟨h1,h2⟩:=Dg hl
 refine⟨hc.1,fun B g w vs hr hsz cQ=>hc.2 B g w vs hr (by omega) fun j e u he hu=>?_⟩
 obtain⟨d0,h3,h4⟩:=h2 he
 exact (cQ j d0 u h3 hu).le h4
theorem T_bldL {dr:Bool}{ty:TypeId}{ev:Operand→D}{hp:Hp}{x y:Operand}{a:Nu}{k n:Nat}(hx:ev x=dG aw a:=by exact rfl)(hy:ev y=.ow k 0 36 n:=by exact rfl):AVC prog tbl dr (.build 73 #[(0,x),(1,y)]) ty ev hp (Kq (.ag (aY a k n)) hp):=by
 have h0:([(0,x),(1,y)]:List (Nat×Operand)).map (fun p=>(p.1,ev p.2))=[(0,dG aw a),(1,.ow k 0 36 n)]:=by simp only[iW,l8,hx,hy]
 rw[show (#[(0,x),(1,y)]:Array (Nat×Operand))=([(0,x),(1,y)]:List (Nat×Operand)).toArray from rfl,wV,h0,uf,zW]
 have hp:mf [(0,dG aw a),(1,.ow k 0 36 n)]=some [(0,dC (aw.f a)),(1,[.ow k 0 36 n])]:=rfl
 rw[hp]
 dsimp only
 refine⟨by decide,?_⟩
 have hz:∀zs:List D,zs.length=37→f8 (oo tbl [(0,43),(36,22)]) zs [(0,dC (aw.f a)),(1,[.ow k 0 36 n])]=some (aY a k n):=fun zs hzs=>by
  have p0:oo tbl [(0,43),(36,22)] 0=some (0,36):=rfl
  have p1:oo tbl [(0,43),(36,22)] 1=some (36,1):=rfl
  simp only[f8,p0,p1,iU]
  rw[ah (by simp[hzs])]
  rw[ah (by simp[iU,hzs])]
  unfold aY
  rw[EP,nB,br,vg (by rw[iU];exact ax _),g9 (by rw[iU];exact ax _),CK (by simp[iU,hzs]),th]
 rw[hz _ (by rfl)]
 exact Kq.here _ _
theorem xA {vs:List (Nat×List D)}{lv:List (Nat×Nat×Nat×TypeId)}{N n:Nat}(hn:n≤1000000):HC prog 41 [dI .i64 n] ⟨vs,lv,N⟩ (.ag (aY (nOf 0) (N+3) n)) ⟨(N,aY (nOf 0) (N+3) n)::(N+3,dC ((cW aw).f (List.replicate n (nOf 0))))::vs,lv,N+4⟩:=by
 refine HC.of (rs:=[.cell 2 73]) tok func41 rfl rfl (a9 rfl) rfl (fun cx hx h0 hok=>?_)
 simp only[fC,Nat.reduceAdd,br]
 refine rs hx fun K hK=>?_
 refine s1 (yD (F:=zN++[.lit (.slice none 0 0)]) zW) ?_
 refine nl hK ?_
 refine rs hx fun K hK=>?_
 refine cq (Gi 0 (by omega)) ?_
 refine cq (Gi 0 (by omega)) ?_
 refine s1 (lj [nOf 0] aw b9 aR) ?_
 refine sa ?_
 refine q1 (sHC (HC.args (ds:=[dO (N+1) aw [nOf 0],dI .i64 n]) (ds':=[.e (slE aw [nOf 0]),dI .i64 n]) ⟨Sy _,au _,trivial⟩ (KR hn)) rfl (.inr ⟨by show N+1+1≤N+1+1+1+1;omega,fun j hj=>an (by have:j<N+1+1:=hj;omega)⟩)) ?_
 refine s1 T_bldL ?_
 refine s0 (HF (ys:=aY (nOf 0) (N+3) n) (bs:=dC (zN++[.lit (.slice none 0 0)])) (Pt.of [] [] rfl (by simp) (F':=id) fun y=>by simp) (al (show N≠N+1+1+1 by omega) aa) rfl zW rfl (bS _ _ _) rfl) ?_
 refine nl hK ?_
 refine AW.ret ?_
 have hokF:cp ⟨(N,aY (nOf 0) (N+3) n)::(N+3,dC ((cW aw).f (List.replicate n (nOf 0))))::vs,lv,N+4⟩:=(cp.cons (N:=N+4) (hok.cons (by omega) (show N+3<N+4 by omega) (ez _)) (ax _) (show N<N+4 by omega) (iX (by omega)))
 refine⟨[(2,.pt N 0)],F7 (by rw[h0];show N≤N+4;omega) (ax _) hokF (fun j ds h=>?_) (fun j y h=>(an (by have:=hok.tok j y h;have h2:j<N:=this;omega)).trans h) (bF.cons (t:=2) (d:=.pt N 0) bF.nil rfl (aA (show N<N+4 by omega))),?_⟩
 ·rcases ce h with⟨rfl,rfl⟩|⟨h1,h⟩
  ·exact aa
  rcases ce h with⟨rfl,rfl⟩|⟨h2,h⟩
  ·exact al h1 aa
  ·exact al h1 (al h2 (al h1 h))
 ·refine⟨.pt N 0,aa,⟨_,zW⟩,?_⟩
  rw[oq,zW]
  rw[show (⟨(N,aY (nOf 0) (N+3) n)::(N+3,dC ((cW aw).f (List.replicate n (nOf 0))))::vs,lv,N+4⟩:Hp).vars.lookup N=some (aY (nOf 0) (N+3) n) from aa]
  dsimp only[Ty.agg]
  refine⟨show N<N+4 by omega,by rw[bS];exact ax _,?_⟩
  rw[qS,g9 (by rw[bS];exact ax _)]
section
section
variable {md:Md} {dst:Option Tmp} {ty:TypeId} {pos:String} {af:Array Edge} {gd:Option (Nat×Bool)} {ev:Operand→D} {hp:Hp} {k n:Nat} {x y:Operand}
theorem slZ(hx:ev x=.ow k 0 36 n:=by exact rfl)(hy:ev y=dI .i64 (n:Int):=by exact rfl):mR prog tbl md ⟨dst,.slice 22 x (some y) none none,ty,pos,af,gd⟩ ev hp (.e (slE aw [])) hp:=by
 refine (Snd.calm (dr:=md.dr) fun c7 _=>.pure fun B g w a hr yj=>?_).q (by cases md <;> rfl)
 have h1:=yj x (by simp[Op.operands])
 have h2:=yj y (by simp[Op.operands])
 rw[hx] at h1
 rw[hy] at h2
 have h2:=h2.lit
 have hs:=tok.run_sizeOf aR w
 generalize hv:a.eval x=v at h1
 cases h1 with
 |ow _ _ _ _ c hk qz o9=>
  have hbd:=iA (P:=prog) (w:=w) true n c (some (.int .i64 (n:Int))) none n n (.inr ⟨.i64,rfl⟩) (.inl ⟨rfl,rfl⟩) (ax _) qz
  have fin:∀A:Option Addr,aD c7 g w (.e (slE aw [])) (.slice A 0 (c - n)):=fun A=>.e _ _ (.sl 36 0 [] A (c - n) (fun _=>undef) rfl (by decide) (cr _) (by omega) (fun h=>absurd h (by omega)) (fun _ _ _ _ h=>by simp at h) (fun _ _ h=>by simp at h))
  by_cases Dj:c=n
  ·subst Dj
   refine⟨.slice (some ⟨g.μ k,0,none⟩) 0 (c - c),?_,fin _⟩
   simp[execOp,Instr.sliceAt,Instr.slice,hv,h2,run_underlying (tok.slice b9 rfl),hbd,hs]
  ·have fI:¬c=n:=Dj
   refine⟨.slice (some ((⟨g.μ k,0,none⟩:Addr).add (n*36))) 0 (c - n),?_,fin _⟩
   simp[execOp,Instr.sliceAt,Instr.slice,hv,h2,run_underlying (tok.slice b9 rfl),hbd,hs,fI]
end
theorem iaO {dr:Bool}{ty:TypeId}{ev:Operand→D}{hp:Hp}{k o i n:Nat}{kn:IntKind}{x y:Operand}(h:i<n)(hx:ev x=.ow k (o*36) 36 n)(hy:ev y=dI kn (i:Int):=by exact rfl):AVC prog tbl dr (.indexAddr 22 x y) ty ev hp (Kq (.pt k ((o+i)*36)) hp):=by
 have:=xi (P:=prog) (tb:=tbl) (dr:=dr) (ty:=ty) (ev:=ev) (hp:=hp) (x:=x) (y:=y) (v:=(i:Int)) (n:=n) (kn:=kn) ⟨by omega,by omega⟩ b9 aR rfl hx rfl hy
 rw[bW] at this
 rw[bX]
 exact this
theorem bF.consX {n t:Nat}{d:D}{tm tm':List (Nat×D)}(h2:bF n tm tm')(h:tm.lookup t=some d)(hi:d.ex.idsB n=true):bF n tm ((t,d.ex)::tm'):=fun p hp=>by
 rcases kP.1 hp with rfl|hp
 ·exact⟨⟨d,h,.inr rfl⟩,hi⟩
 ·exact h2 p hp
theorem TD {vs:List (Nat×List D)}{lv:List (Nat×Nat×Nat×TypeId)}{N kd R G w nn:Nat}{C:Nat→Nat}{d:Dic}(hD:DAt vs kd R G C w d)(Qj:d.n=(nn:Int))(hw:nn+1≤w)(hw2:w≤1000000):
  HC prog 44 [.pt kd 0] ⟨vs,lv,N⟩ (.e (slE aw (bR d nn))) ⟨vs,lv,N⟩:=by
 refine HC.of (rs:=[.tmp 2]) tok func44 rfl rfl (a9 rfl) rfl (fun cx hx h0 hok=>?_)
 simp only[fC,Nat.reduceAdd,br]
 have Gy:=hok.lt hD.hd
 have TL:=hok.lt hD.hG
 have OP:=hD.lG
 refine rs hx fun K hK=>?_
 refine s1 (d:=dO N aw ([]:List Nu)) (gF b9 aR) ?_
 refine nl hK ?_
 refine rs hx fun K hK=>?_
 refine s1 (d:=dO (N+1) aw ([]:List Nu)) (gF b9 aR) ?_
 refine nl hK ?_
 obtain⟨L,hL⟩:∃L,L=w - (nn+1):=⟨_,rfl⟩
 obtain⟨sD,hs1,hs0⟩:∃sD:D,(nn+1<w→sD=.ow G ((nn+1)*36) 36 L)∧(nn+1=w→sD=.e (slE aw [])):=by
  by_cases h:nn+1<w
  ·exact⟨_,fun _=>rfl,fun e=>by omega⟩
  ·exact⟨_,fun e=>absurd e h,fun _=>rfl⟩
 have hsi:sD.idsB (N+2)=true:=by
  by_cases h:nn+1<w
  ·rw[hs1 h];exact aA (show G<N+2 by omega)
  ·rw[hs0 (by omega)];rfl
 refine AW.seq (rsd [] hx fun K hK=>?_)
 iterate 4 refine sa ?_
 refine s1 (kG ms.pc hD.hd (show kd<N+1+1 by omega) tbI) ?_
 iterate 3 refine sa ?_
 refine s1 (kG dic_n hD.hd (show kd<N+1+1 by omega) tbI) ?_
 rw[Qj]
 refine sa ?_
 rw[bT]
 refine q1 (d:=sD) (by
  by_cases h:nn+1<w
  ·rw[hs1 h,hL];exact slT h
  ·have hw3:nn+1=w:=by omega
   rw[hs0 hw3]
   exact slZ rfl (by rw[←hw3];rfl)) ?_
 refine s1 (d:=dI .i64 L) (by
  by_cases h:nn+1<w
  ·exact Cf b9 aR rfl (hs1 h)
  ·have hL0:L=0:=by omega
   rw[hL0]
   exact U7 b9 aR rfl (by show D.asSl 36 sD=_;rw[hs0 (by omega)];rfl)) ?_
 refine sa ?_
 refine nl hK ?_
 have S7:∀u:Nat,cp ⟨vs,(N+1,u,36,43)::lv,N+1+1⟩:=fun u=>by
  refine⟨fun j ds h=>?_,fun id e h=>?_⟩
  ·obtain⟨h1,h2⟩:=hok.var j ds h
   have h1:j<N:=h1
   exact⟨show j<N+1+1 by omega,ba.2 fun d hd=>D.idsC_le (show N≤N+1+1 by omega) (ba.1 h2 d hd)⟩
  ·by_cases hid:id=N+1
   ·show id<N+1+1;omega
   ·have:=hok.tok id e (by rw[←h];exact (an hid).symm)
    have:id<N:=this
    show id<N+1+1;omega
 refine AW.block (AW.loopW (fun u:Nat=>[(3,dO (N+1) aw (((d.gc.drop (nn+1)).take u).map eZ)),(16,sD),(17,dI .i64 L),(18,dI .i64 u)]) (fun u=>⟨vs,(N+1,u,36,43)::lv,N+1+1⟩) (fun u=>u≤L) (fun u=>L - u) 0 ?_ (cr _) ?_)
 ·refine F7 (by rw[h0];show N≤N+1+1;omega) (ax _) (S7 0) (fun j ds h=>h) (fun j y h=>?_) (bF.cons (t:=3) (d:=dO (N+1) aw ([]:List Nu)) (bF.cons (t:=16) (d:=sD) (bF.cons (t:=17) (d:=dI .i64 L) (bF.cons (t:=18) (d:=dI .i64 (0:Nat)) bF.nil rfl rfl) rfl rfl) rfl hsi) rfl (aA (show N+1<N+1+1 by omega)))
  by_cases hj:j=N+1
  ·subst hj
   rw[←h]
   exact aa.trans aa.symm
  ·have h1:lv.lookup j=some y:=by rw[←h];exact (an hj).symm
   have h2:j<N:=hok.tok j y h1
   exact (an hj).trans ((an (show j≠N by omega)).trans h1)
 ·intro u hu
  have Qm:(((d.gc.drop (nn+1)).take u).map eZ).length=u:=by rw[bb,eg,fa];omega
  refine rs hx fun K hK=>?_
  refine sa ?_
  refine nl hK ?_
  refine AW.seq (AW.condS rfl (fun hb=>?_) (fun hb=>?_))
  ·have MI:u<L:=by have:=bw hb;omega
   refine AW.skip (AW.seq (AW.block (rs hx fun K hK=>?_)))
   refine s1 (iaO (o:=nn+1) MI (hs1 (by omega))) ?_
   refine s1 (ldN (Pt.el d.gc (nn+1+u) (by omega)) hD.hG (show G<N+1+1 by omega)) ?_
   refine s1 LB ?_
   refine s0 (stZ aa) ?_
   refine nl hK ?_
   refine rq hx fun K hK=>?_
   refine sa ?_
   refine s1 (ldN (Pt.idN _) aa (ek _)) ?_
   refine cq (J4 _) ?_
   refine s1 (lj [eZ d.gc[nn+1+u]!] aw b9 aR) ?_
   have Cu:((d.gc.drop (nn+1)).take u).map eZ++[eZ d.gc[nn+1+u]!]=((d.gc.drop (nn+1)).take (u+1)).map eZ:=by
    rw[AE,iP,nA,bL d.gc (nn+1+u) (by omega),cH (by omega)]
    rfl
   refine s1 (qN (id:=N+1) (l:=((d.gc.drop (nn+1)).take u).map eZ) (l':=[eZ d.gc[nn+1+u]!]) b9 aR (by rw[cD,Qm];show (u+1)*136≤140737488355328;omega) rfl rfl rfl rfl (by rw[Qm];exact (an (show N+1≠N+1+1+1 by omega)).trans aa)) ?_
   rw[Cu]
   refine sa ?_
   refine nl hK ?_
   refine rq hx fun K hK=>?_
   iterate 2 refine sa ?_
   refine nl hK ?_
   rw[bT]
   have hlu1:(((d.gc.drop (nn+1)).take (u+1)).map eZ).length=u+1:=by rw[←Cu,cD,Qm];rfl
   refine⟨u+1,F7 (by rw[h0];show N≤N+1+1;omega) (show N+1+1≤N+1+1+1+1 by omega) (S7 (u+1)) (fun j ds h=>?_) (fun j y h=>?_) (bF.cons (t:=3) (d:=dO (N+1) aw (((d.gc.drop (nn+1)).take (u+1)).map eZ)) (bF.cons (t:=16) (d:=sD) (bF.cons (t:=17) (d:=dI .i64 L) (bF.cons (t:=18) (d:=dI .i64 (u+1:Nat)) bF.nil rfl rfl) rfl rfl) rfl hsi) rfl (aA (show N+1<N+1+1 by omega))),MI,by omega⟩
   ·have hj:j<N:=hok.lt h
    exact al (show j≠N+1+1 by omega) (al (show j≠N+1+1 by omega) h)
   ·by_cases hj:j=N+1
    ·subst hj
     have h1:some (u+1,36,43)=some y:=by rw[←h];exact aa.symm
     rw[←h1]
     exact aa.trans (by rw[hlu1])
    ·have h1:lv.lookup j=some y:=by rw[←h];exact (an hj).symm
     have h2:j<N:=hok.tok j y h1
     exact (an hj).trans ((an (show j≠N+1+1+1 by omega)).trans ((an hj).trans h1))
  ·refine AW.exit ?_
   have MI:u=L:=by have:=dp hb;omega
   refine rs hx fun K hK=>?_
   iterate 2 refine sa ?_
   refine nl hK ?_
   refine AW.ret ?_
   have wg:((d.gc.drop (nn+1)).take u).map eZ=bR d nn:=by
    unfold bR
    rw[g9 (by rw[fa];omega)]
   rw[wg]
   exact⟨[(2,D.ex (dO (N+1) aw (bR d nn)))],F7 (by rw[h0];exact ax N) (show N≤N+1+1 by omega) hok (fun j ds h=>h) (fun j y h=>(an (by have h2:j<N:=hok.tok j y h;omega)).trans h) (bF.consX bF.nil rfl rfl),⟨_,aa,rfl⟩⟩
end
section
section
variable {vs vs2 pi:List (Nat×List D)} {lv FI:List (Nat×Nat×Nat×TypeId)} {N M n2 k:Nat}
theorem cp.up(hok:cp ⟨vs,lv,N⟩)(h:N≤M):cp ⟨vs,lv,M⟩:=
 ⟨fun j es hj=>by obtain⟨h1,h2⟩:=hok.var j es hj;exact⟨bH h1 h,ba.2 fun d hd=>D.idsC_le h (ba.1 h2 d hd)⟩,fun id e hi=>bH (hok.tok id e hi) h⟩
theorem cp.consM {ds:List D}(hok:cp ⟨vs,lv,M⟩)(hk:k<M)(hd:ds.all (D.idsC M)=true):cp ⟨(k,ds)::vs,lv,M⟩:=hok.cons (ax M) hk hd
theorem wk1 {x:Cx}{tm tm':List (Nat×D)}{vs0:List (Nat×List D)}{lv0:List (Nat×Nat×Nat×TypeId)}{N0 n':Nat}(h0:x.hp0=⟨vs0,lv0,N0⟩)(hN:N0≤n':=by omega)(hn:n'≤n2:=by omega)(hok:cp ⟨pi,lv,n'⟩:=by (repeat (first|assumption|refine cp.consM ?_ (by omega) (by (first|exact ez _|exact iX (by omega)|exact r5 (by omega) (by omega)|assumption|exact rfl|(simp only[f5,ic,eI];exact aA (by omega))))|exact cp.up (by assumption) (by omega))))
  (hv:∀j ds,pi.lookup j=some ds→vs2.lookup j=some ds:=by (intro j ds h;(repeat (rcases ce h with⟨rfl,rfl⟩|⟨hj,h⟩;·(repeat (first|exact aa|assumption|refine al (by first|assumption|exact mv (by assumption)|omega) ?_))));have hjN:=cp.lt (by assumption) h;(repeat (first|exact aa|assumption|refine al (by first|assumption|exact mv (by assumption)|omega) ?_)))) (ht:bF n' tm tm':=by (repeat (first|exact bF.nil|refine bF.cons ?_ (by exact rfl) (by (first|exact rfl|assumption|exact aA (by omega)|exact ba.2 (fun k hk=>aA (by simp only[kP,qI,or_false] at hk;omega))))))):Wk x tm ⟨vs2,lv,n2⟩ tm' ⟨pi,lv,n'⟩:=wkS (by rw[h0];exact hN) hn hok hv ht
theorem rt1 {x:Cx}{tm:List (Nat×D)}{q:Nat}{d:D}(h0:x.hp0=⟨vs,lv,N⟩)(hok:cp ⟨pi,lv,N⟩:=by (repeat (first|assumption|refine cp.consM ?_ (by omega) (by (first|exact ez _|exact iX (by omega)|exact r5 (by omega) (by omega)|assumption|exact rfl|(simp only[f5,ic,eI];exact aA (by omega))))|exact cp.up (by assumption) (by omega))))(hN:N≤n2:=by omega)(hv:∀j ds,pi.lookup j=some ds→vs2.lookup j=some ds:=by (intro j ds h;(repeat (rcases ce h with⟨rfl,rfl⟩|⟨hj,h⟩;·(repeat (first|exact aa|assumption|refine al (by first|assumption|exact mv (by assumption)|omega) ?_))));have hjN:=cp.lt (by assumption) h;(repeat (first|exact aa|assumption|refine al (by first|assumption|exact mv (by assumption)|omega) ?_))))(hq:tm.lookup q=some d:=by exact rfl)(hd:d.idsB N=true:=by (first|exact rfl|assumption|exact aA (by omega)|exact ba.2 (fun k hk=>aA (by simp only[kP,qI,or_false] at hk;omega)))):
  ∃tm',Wk x tm ⟨vs2,lv,n2⟩ tm' ⟨pi,lv,N⟩∧tN tbl [.tmp q] tm' ⟨pi,lv,N⟩ d:=
 ⟨[(q,d)],wkS (by rw[h0];exact ax N) hN hok hv (bF.nil.cons hq hd),⟨d,aa,rfl⟩⟩
theorem rt2 {x:Cx}{tm:List (Nat×D)}{q p:Nat}{d e:D}(h0:x.hp0=⟨vs,lv,N⟩)(hok:cp ⟨pi,lv,N⟩:=by (repeat (first|assumption|refine cp.consM ?_ (by omega) (by (first|exact ez _|exact iX (by omega)|exact r5 (by omega) (by omega)|assumption|exact rfl|(simp only[f5,ic,eI];exact aA (by omega))))|exact cp.up (by assumption) (by omega))))(hN:N≤n2:=by omega)(hv:∀j ds,pi.lookup j=some ds→vs2.lookup j=some ds:=by (intro j ds h;(repeat (rcases ce h with⟨rfl,rfl⟩|⟨hj,h⟩;·(repeat (first|exact aa|assumption|refine al (by first|assumption|exact mv (by assumption)|omega) ?_))));have hjN:=cp.lt (by assumption) h;(repeat (first|exact aa|assumption|refine al (by first|assumption|exact mv (by assumption)|omega) ?_))))(hq:tm.lookup q=some d:=by exact rfl)(hp:tm.lookup p=some e:=by exact rfl)(hd:d.idsB N=true:=by (first|exact rfl|assumption|exact aA (by omega)|exact ba.2 (fun k hk=>aA (by simp only[kP,qI,or_false] at hk;omega))))(he:e.idsB N=true:=by (first|exact rfl|assumption|exact aA (by omega)|exact ba.2 (fun k hk=>aA (by simp only[kP,qI,or_false] at hk;omega))))(fI:p≠q:=by decide):
  ∃tm',Wk x tm ⟨vs2,lv,n2⟩ tm' ⟨pi,lv,N⟩∧tN tbl [.tmp q,.tmp p] tm' ⟨pi,lv,N⟩ (.tu [d,e]):=
 ⟨[(q,d),(p,e)],wkS (by rw[h0];exact ax N) hN hok hv ((bF.nil.cons hp he).cons hq hd),⟨d,aa,⟨e,(an fI).trans aa,rfl⟩⟩⟩
end
section
variable {md:Md} {ops:Array Oper} {K:List (Nat×D)→Hp→Prop} {os:List Oper} {tm:List (Nat×D)} {hp hp':Hp} {t s:Tmp} {op:Op} {ty:TypeId} {pos:String} {af:Array Edge} {d:D} {j k o n i:Nat} {want c:Bool} {F F2:List D} {F':List D→List D} {a b:Nu} {x y:Operand}
theorem gn(hw:c= !want)(h2:aX prog tbl md ops K os ((t,.tu [])::tm) hp)(hj:(ops[j]?).bind (·.dst)=some s:=by exact rfl)(hc:tm.lookup s=some (.e (.lit (.bool c))):=by exact rfl):aX prog tbl md ops K (⟨some t,op,ty,pos,af,some (j,want)⟩::os) tm hp:=D0 hj hc hw h2
theorem gm(h2:aX prog tbl md ops K os ((t,.tu [])::tm) hp)(hj:(ops[j]?).bind (·.dst)=some s:=by exact rfl)(hc:tm.lookup s=some (.tu []):=by exact rfl):aX prog tbl md ops K (⟨some t,op,ty,pos,af,some (j,want)⟩::os) tm hp:=Sn hj hc h2
theorem l1(L:Pt F o (dC (aw.f a)) F')(h2:aX prog tbl md ops K os ((t,dG aw a)::tm) hp)(hx:evD tm x=.pt k o:=by exact rfl)(hv:hp.vars.lookup k=some F:=by (repeat (first|exact aa|assumption|refine al (by first|assumption|exact mv (by assumption)|omega) ?_)))(hk:k<hp.next:=by (first|omega|(dsimp only;omega)))(hn:md.nc tbl (.load 43 x)=true:=by exact rfl):aX prog tbl md ops K (⟨some t,.load 43 x,ty,pos,af,none⟩::os) tm hp:=s1 (ldN L hv hk hx) h2 hn
theorem t1 {vs:List (Nat×List D)}{lv:List (Nat×Nat×Nat×TypeId)}{N:Nat}(L:Pt F o (dC (aw.f a)) F')(h3:F' (dC (aw.f b))=F2)(h2:aX prog tbl md ops K os tm ⟨(k,F2)::vs,lv,N⟩)(hx:evD tm x=.pt k o:=by exact rfl)(hv:vs.lookup k=some F:=by (repeat (first|exact aa|assumption|refine al (by first|assumption|exact mv (by assumption)|omega) ?_)))(hy:evD tm y=dG aw b:=by exact rfl)(hn:md.nc tbl (.store 43 x y)=true:=by exact rfl):aX prog tbl md ops K (⟨none,.store 43 x y,ty,pos,af,none⟩::os) tm ⟨vs,lv,N⟩:=s0 (stN L hv h3 hx hy rfl) h2 hn
theorem l1g(L:Pt F o (dC (aw.f a)) F')(hw:c=want)(h2:aX prog tbl md ops K os ((t,dG aw a)::tm) hp)(hx:evD tm x=.pt k o:=by exact rfl)(hv:hp.vars.lookup k=some F:=by (repeat (first|exact aa|assumption|refine al (by first|assumption|exact mv (by assumption)|omega) ?_)))(hk:k<hp.next:=by (first|omega|(dsimp only;omega)))(hj:(ops[j]?).bind (·.dst)=some s:=by exact rfl)(hc:tm.lookup s=some (.e (.lit (.bool c))):=by exact rfl)(hn:md.nc tbl (.load 43 x)=true:=by exact rfl):aX prog tbl md ops K (⟨some t,.load 43 x,ty,pos,af,some (j,want)⟩::os) tm hp:=g1 hw (ldN L hv hk hx) h2 hj hc hn
theorem cqg {f:FuncId}{la:List Operand}{ts:Array TypeId}{ds:List D}{r:D}(hc:aq prog f ds r)(hw:c=want)(h2:aX prog tbl md ops K os ((t,r)::tm) hp)(hj:(ops[j]?).bind (·.dst)=some s:=by exact rfl)(hg:tm.lookup s=some (.e (.lit (.bool c))):=by exact rfl)(jH:((la.map (evD tm)).map D.ex).all D.pure=true:=by repeat (first|exact pn|refine pA (cm _ _) ?_|refine pA rfl ?_))(hl:leL ((la.map (evD tm)).map D.ex) ds:=by repeat (first|exact lAn|refine lC (nJ _ _) ?_|refine lC (au _) ?_))(hr:r.pure=true∨∃ds,r=.tu ds:=by (first|exact .inl (jJ _ _)|exact .inl rfl|exact .inr ⟨_,rfl⟩)):
  aX prog tbl md ops K (⟨some t,.call ⟨.value (.func f),la.toArray,ts⟩,ty,pos,af,some (j,want)⟩::os) tm hp:=sqg tok hj hg hw hc jH hl hr h2
theorem n1 {vs:List (Nat×List D)}{lv:List (Nat×Nat×Nat×TypeId)}{N:Nat}(h2:aX prog tbl md ops K os ((t,.pt N 0)::tm) ⟨(N,dC zN)::vs,lv,N+1⟩)(hn:md.nc tbl (.alloc 43)=true:=by exact rfl):aX prog tbl md ops K (⟨some t,.alloc 43,ty,pos,af,none⟩::os) tm ⟨vs,lv,N⟩:=s1 LB h2 hn
theorem z1 {vs:List (Nat×List D)}{lv:List (Nat×Nat×Nat×TypeId)}{N:Nat}(h2:aX prog tbl md ops K os tm ⟨(k,(dC (aw.f b)))::vs,lv,N⟩)(hx:evD tm x=.pt k 0:=by exact rfl)(hv:vs.lookup k=some (dC zN):=by (repeat (first|exact aa|assumption|refine al (by first|assumption|exact mv (by assumption)|omega) ?_)))(hy:evD tm y=dG aw b:=by exact rfl)(hn:md.nc tbl (.store 43 x y)=true:=by exact rfl):aX prog tbl md ops K (⟨none,.store 43 x y,ty,pos,af,none⟩::os) tm ⟨vs,lv,N⟩:=s0 (stZ hv hx hy rfl) h2 hn
theorem c1 {tt:TypeId}{ti:TyE}(L:Pt F o [d] F')(h2:aX prog tbl md ops K os ((t,d)::tm) hp)(hx:evD tm x=.pt k o:=by exact rfl)(hv:hp.vars.lookup k=some F:=by (repeat (first|exact aa|assumption|refine al (by first|assumption|exact mv (by assumption)|omega) ?_)))(hk:k<hp.next:=by (first|omega|(dsimp only;omega)))(ht:tbl tt=some ti:=by exact tbI)(hg:ti.ty.agg=false:=by exact rfl)(hn:md.nc tbl (.load tt x)=true:=by exact rfl):aX prog tbl md ops K (⟨some t,.load tt x,ty,pos,af,none⟩::os) tm hp:=s1 (kG L hv hk ht hg hx) h2 hn
theorem c1g {tt:TypeId}{ti:TyE}(L:Pt F o [d] F')(hw:c=want)(h2:aX prog tbl md ops K os ((t,d)::tm) hp)(hx:evD tm x=.pt k o:=by exact rfl)(hv:hp.vars.lookup k=some F:=by (repeat (first|exact aa|assumption|refine al (by first|assumption|exact mv (by assumption)|omega) ?_)))(hk:k<hp.next:=by (first|omega|(dsimp only;omega)))(ht:tbl tt=some ti:=by exact tbI)(hg:ti.ty.agg=false:=by exact rfl)(hj:(ops[j]?).bind (·.dst)=some s:=by exact rfl)(hc:tm.lookup s=some (.e (.lit (.bool c))):=by exact rfl)(hn:md.nc tbl (.load tt x)=true:=by exact rfl):aX prog tbl md ops K (⟨some t,.load tt x,ty,pos,af,some (j,want)⟩::os) tm hp:=g1 hw (kG L hv hk ht hg hx) h2 hj hc hn
theorem p1 {tt:TypeId}{ti:TyE}{bs:List D}(L:Pt F o bs F')(hz:bs.length=ti.size)(h2:aX prog tbl md ops K os ((t,.ag bs)::tm) hp)(hx:evD tm x=.pt k o:=by exact rfl)(hv:hp.vars.lookup k=some F:=by (repeat (first|exact aa|assumption|refine al (by first|assumption|exact mv (by assumption)|omega) ?_)))(hk:k<hp.next:=by (first|omega|(dsimp only;omega)))(ht:tbl tt=some ti:=by exact tbI)(hg:ti.ty.agg=true:=by exact rfl)(hn:md.nc tbl (.load tt x)=true:=by exact rfl):aX prog tbl md ops K (⟨some t,.load tt x,ty,pos,af,none⟩::os) tm hp:=s1 (CP L hv hk ht hz hg hx) h2 hn
theorem v1 {vs:List (Nat×List D)}{lv:List (Nat×Nat×Nat×TypeId)}{N:Nat}{tt:TypeId}{ti:TyE}{bs ys:List D}(L:Pt F o bs F')(hz:bs.length=ti.size)(hl:ys.length=bs.length)(h3:F' ys=F2)(h2:aX prog tbl md ops K os tm ⟨(k,F2)::vs,lv,N⟩)(hx:evD tm x=.pt k o:=by exact rfl)(hv:vs.lookup k=some F:=by (repeat (first|exact aa|assumption|refine al (by first|assumption|exact mv (by assumption)|omega) ?_)))(hyc:(evD tm y).cells=some ys:=by exact rfl)(ht:tbl tt=some ti:=by exact tbI)(hn:md.nc tbl (.store tt x y)=true:=by exact rfl):aX prog tbl md ops K (⟨none,.store tt x y,ty,pos,af,none⟩::os) tm ⟨vs,lv,N⟩:=s0 (HF L hv hyc ht hz hl h3 hx rfl) h2 hn
theorem i1(h:i<n)(h2:aX prog tbl md ops K os ((t,.pt k (i*36))::tm) hp)(hx:evD tm x=.ow k 0 36 n:=by exact rfl)(hy:evD tm y=dI .i64 (i:Int):=by exact rfl)(hn:md.nc tbl (.indexAddr 22 x y)=true:=by exact rfl):aX prog tbl md ops K (⟨some t,.indexAddr 22 x y,ty,pos,af,none⟩::os) tm hp:=s1 (iaN h hx hy) h2 hn
theorem r1(h:i<n)(h2:aX prog tbl md ops K os ((t,.pt k (i*38))::tm) hp)(hx:(evD tm x).toOw=.ow k 0 38 n:=by exact rfl)(hy:(evD tm y).toOw=dI .i64 (i:Int):=by exact rfl)(hn:md.nc tbl (.indexAddr 71 x y)=true:=by exact rfl):aX prog tbl md ops K (⟨some t,.indexAddr 71 x y,ty,pos,af,none⟩::os) tm hp:=stG (d:=.pt k (i*38)) tok (iaR h hx hy) h2 hn
theorem r1g'(h:i<n)(hw:c=want)(h2:aX prog tbl md ops K os ((t,.pt k (i*38))::tm) hp)(hx:evD tm x=.gw k 38 n:=by exact rfl)(hy:evD tm y=dI .i64 (i:Int):=by exact rfl)(hj:(ops[j]?).bind (·.dst)=some s:=by exact rfl)(hc:tm.lookup s=some (.e (.lit (.bool c))):=by exact rfl)(hn:md.nc tbl (.indexAddr 71 x y)=true:=by exact rfl):aX prog tbl md ops K (⟨some t,.indexAddr 71 x y,ty,pos,af,some (j,want)⟩::os) tm hp:=
 Of hj hc (by subst hw;cases c <;> rfl) (mR.toOw ((AVC.snd (o:=⟨some t,.indexAddr 71 x y,ty,pos,af,some (j,want)⟩) tok (iaR h (by rw[hx];rfl) (by rw[hy];rfl))).q1 hn)) h2
theorem a1 {vs:List (Nat×List D)}{lv:List (Nat×Nat×Nat×TypeId)}{N:Nat}{tt:TypeId}{ti:TyE}{F:List E}(ht:tbl tt=some ti)(h2:aX prog tbl md ops K os ((t,.pt N 0)::tm) ⟨(N,dC F)::vs,lv,N+1⟩)(hz:ti.zero.map E.lit=F:=by kernel_rfl)(hn:md.nc tbl (.alloc tt)=true:=by exact rfl):aX prog tbl md ops K (⟨some t,.alloc tt,ty,pos,af,none⟩::os) tm ⟨vs,lv,N⟩:=s1 (yD ht hz) h2 hn
end
end
def rv(x:Nu):Rat:=(b7 x.1).getD 0
theorem bo {x:Nu}:ar x=true↔b7 x.1=some (rv x):=by
 rw[eE];unfold rv
 cases b7 x.1 <;> simp
theorem KV {x:Nu}(h:ar x=true):lP (rv x):=(c6.1 (bo.1 h)).1
theorem Dm {x:Nu}(h:ar x=true):x=nuR (some (rv x)):=Subtype.ext (Ez (bo.1 h))
theorem Et {x y:Nu}(hx:ar x=true)(hy:ar y=true)(h:rv x=rv y):x=y:=by
 rw[Dm hx,Dm hy,h]
theorem pU {o:Option Rat}(h:BM o):b7 (nuR o).1=o:=xr h
theorem qh {q:Rat}(h:lP q):ar (nuR (some q))=true∧rv (nuR (some q))=q:=by
 have:b7 (nuR (some q)).1=some q:=pU (o:=some q) fun p hp=>by injection hp with hp;rw[←hp];exact h
 rw[eE];unfold rv
 rw[this]
 exact⟨rfl,rfl⟩
theorem fit0:lP 0:=⟨by decide,by decide⟩
theorem fit1:lP 1:=⟨by decide,by decide⟩
theorem LIM_one:1<LIM:=by decide
theorem of0:ar (nOf 0)=true∧rv (nOf 0)=0:=qh (q:=((0:Int):Rat)) fit0
theorem of1:ar (nOf 1)=true∧rv (nOf 1)=1:=qh (q:=((1:Int):Rat)) fit1
theorem ofm1:ar (nOf (-1))=true∧rv (nOf (-1))=-1:=qh (q:=((-1:Int):Rat)) (Ev fit1)
theorem rN {x:Nu}(h:ar x=true):bD x=(rv x).num.sign:=by rw[Bt,bo.1 h];rfl
theorem zZ {x:Nu}(h:ar x=true):bD x=0↔rv x=0:=by
 rw[rN h,BZ]
 exact Rat.num_eq_zero
theorem Ko {q:Rat}:0<q.num↔0<q:=by
 rw[Rat.lt_iff];simp
theorem Kp {q:Rat}:q.num<0↔q<0:=by
 rw[Rat.lt_iff];simp
theorem Kh {x:Nu}(h:ar x=true):0<bD x↔0<rv x:=by
 rw[rN h,Int.sign_pos_iff];exact Ko
theorem sU {x:Nu}(h:ar x=true):bD x<0↔rv x<0:=by
 rw[rN h,EY];exact Kp
theorem In {x y:Nu}(hx:ar x=true)(hy:ar y=true)(h:ar (jK x y)=true):rv (jK x y)=rv x+rv y:=by
 have h1:=bo.1 h
 rw[qi] at h1 ⊢
 rw[pU (Ad _ _),bo.1 hx,bo.1 hy] at h1
 have h2:CT (rv x) (rv y)=some (rv (nuR (Ik (some (rv x)) (some (rv y))))):=h1
 rw[bo.1 hx,bo.1 hy]
 unfold CT at h2
 split at h2
 ·injection h2 with h2;exact h2.symm
 ·cases h2
theorem Im {x y:Nu}(hx:ar x=true)(hy:ar y=true)(h:ar (lM x y)=true):rv (lM x y)=rv x*rv y:=by
 have h1:=bo.1 h
 rw[rO] at h1 ⊢
 rw[pU (DX _ _)] at h1
 rw[bo.1 hx,bo.1 hy] at h1 ⊢
 have h2:Bl (rv x) (rv y)=some (rv (nuR (Bq (some (rv x)) (some (rv y))))):=h1
 unfold Bl at h2
 split at h2
 ·injection h2 with h2;exact h2.symm
 ·cases h2
theorem wJ {x y:Nu}(h:ar (jK x y)=true):ar x=true∧ar y=true:=by
 rw[eE,qi,pU (Ad _ _)] at h
 rw[eE,eE]
 cases h1:b7 x.1 <;> cases h2:b7 y.1 <;> simp_all [Ik]
theorem TP {x y:Nu}(h:ar (lM x y)=true):ar x=true∧ar y=true:=by
 rw[eE,rO,pU (DX _ _)] at h
 rw[eE,eE]
 cases h1:b7 x.1 <;> cases h2:b7 y.1 <;> simp_all [Bq]
theorem rp {x:Nu}:ar (eZ x)=ar x:=by
 rw[eE,eE,Af,pU (Ac (wO _))]
 cases b7 x.1 <;> rfl
theorem lW {x:Nu}:rv (eZ x)=-rv x:=by
 unfold rv
 rw[Af,pU (Ac (wO _))]
 cases b7 x.1
 ·simp[P5]
 ·rfl
theorem ub {x y:Nu}(h:ar (oa x y)=true):ar x=true∧ar y=true∧rv y≠0∧rv (oa x y)=rv x / rv y:=by
 have h1:=bo.1 h
 rw[D1] at h1 ⊢
 rw[pU (Sj _ _)] at h1
 have hx:ar x=true:=by
  rw[eE]
  cases h2:b7 x.1 with
  |some _=>rfl
  |none=>rw[h2] at h1;cases h1
 have hy:ar y=true:=by
  rw[eE]
  cases h2:b7 y.1 with
  |some _=>rfl
  |none=>rw[h2] at h1;unfold Gq Bq Mr at h1;cases h3:b7 x.1 <;> simp[h3] at h1
 rw[bo.1 hx,bo.1 hy] at h1 ⊢
 by_cases h0:rv y=0
 ·unfold Gq Bq Mr at h1
  simp[h0] at h1
 ·have h2:Bl (rv x) (rv y)⁻¹=some (rv (nuR (Gq (some (rv x)) (some (rv y))))):=by
   rw[←h1]
   unfold Gq Bq Mr
   simp[h0]
  refine⟨hx,hy,h0,?_⟩
  unfold Bl at h2
  split at h2
  ·injection h2 with h2;rw[←h2,iL]
  ·cases h2
theorem G4 {q y:Nu}(hq:ar q=true)(h0:rv q=0)(hy:ar y=true):lM q y=nOf 0:=by
 unfold nOf
 rw[rO,bo.1 hq,bo.1 hy,h0]
 show nuR (Bl 0 (rv y))=_
 unfold Bl
 rw[Jc,ai fit0]
 rfl
theorem yY {q:Nu}(hq:ar q=true):lM q (nOf 0)=nOf 0:=by
 have h1:b7 (nOf 0).1=some 0:=by have:=bo.1 of0.1;rw[of0.2] at this;exact this
 rw[rO,bo.1 hq,h1]
 show nuR (Bl (rv q) 0)=_
 unfold Bl
 rw[sf,ai fit0]
 rfl
theorem GY {x:Rat}(h:lP x):CT x 0=some x:=by
 unfold CT
 rw[ai,Rat.add_zero]
 have h1:Nat.gcd x.den (0:Rat).den=1:=Nat.gcd_one_right _
 rw[h1]
 have e1:(0:Rat).den=1:=rfl
 have e2:(0:Rat).num=0:=rfl
 have:=LIM_one
 rw[e1,e2]
 simp only[m8,Int.mul_one,Ja,Int.add_zero,yz]
 exact⟨by simpa using h.1,by simp;omega,by simpa using h.1,h.2⟩
theorem xw {x:Nu}(hx:ar x=true):jK x (nOf 0)=x:=by
 have h1:=bo.1 hx
 rw[qi,h1,show b7 (nOf 0).1=some 0 from by have:=bo.1 of0.1;rw[of0.2] at this;exact this]
 show nuR (CT (rv x) 0)=x
 rw[GY (KV hx)]
 exact (Dm hx).symm
theorem G5 {x q y:Nu}(hx:ar x=true)(hq:ar q=true)(hy:ar y=true)(h0:bD q=0):jK x (lM q y)=x:=by
 rw[G4 hq ((zZ hq).1 h0) hy,xw hx]
theorem good0 {x:Nu}(h:ar x=true)(h0:bD x=0):x=nOf 0:=Et h of0.1 (((zZ h).1 h0).trans of0.2.symm)
end
end Go.Proofs.YtaedcknhkjpmlaaGreat
