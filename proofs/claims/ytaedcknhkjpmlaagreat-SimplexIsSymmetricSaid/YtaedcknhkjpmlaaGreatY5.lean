/-
  Lemmas, part 5. Conditions: none.
-/
import Derived.Test.YtaedcknhkjpmlaaGreatY4
set_option linter.all false
set_option maxRecDepth 100000
namespace Go.Proofs.YtaedcknhkjpmlaaGreat
open Go.RowKit Go.IntKind Tryz
noncomputable section
theorem dg_cons {R d i:Nat}(hd:d<65536):dg 65536 (R*65536+d) (i+1)=dg 65536 R i:=by
 have e:(R*65536+d) / 65536=R:=by omega
 unfold dg
 rw[cG,bA (65536 ^ i),←gZ,e]
theorem G_at {n A k:Nat}(hA:A<65536 ^ n):iH (dk n A) (k:Int)=some ((dg 65536 A k:Nat):Int):=by
 unfold iH
 rw[ce _ _,vq hA,ab]
theorem Vv {l:List Int}{k:Int}(h:k<0):iH l k=some 0:=by
 unfold iH
 rw[cu _ _ h]
def Ai(A:Nat)(m:Nat):Nat:=if m<2 then 0 else dg 65536 A (m - 2)
theorem Ov {A m:Nat}:Ai A m<65536:=by
 unfold Ai;split
 ·omega
 ·exact kX
theorem G_at2 {n A m:Nat}(hA:A<65536 ^ n)(hm:0<m)(S4:m<100000):iH (dk n A) (i64.wrap ((m:Int) - (2:Int)))=some ((Ai A m:Nat):Int):=by
 unfold Ai
 rw[bX]
 by_cases h:m<2
 ·rw[ai h,Vv (by omega)];rfl
 ·rw[ah h,show (m:Int) - 2=((m - 2:Nat):Int) from by omega,G_at hA]
def MZ(x0 x1 x2:Nat):Nat:=x0*4294967296+x1*65536+x2
theorem Qy {x0 x1 x2:Nat}(h0:x0<65536)(h1:x1<65536)(h2:x2<65536):i64.wrap ((i64.wrap ((i64.wrap ((x0:Int)*(4294967296:Int)))+(i64.wrap ((x1:Int)*(65536:Int)))))+(x2:Int))=((MZ x0 x1 x2:Nat):Int):=by
 unfold MZ
 rw[bX (z:=(x0:Int)*(4294967296:Int)) (by omega),bX (z:=(x1:Int)*(65536:Int)) (by omega),bX (z:=(x0:Int)*4294967296+(x1:Int)*65536) (by omega),bX]
 omega
theorem est3_lt {x0 x1 x2:Nat}(h0:x0<65536)(h1:x1<65536)(h2:x2<65536):MZ x0 x1 x2<281474976710656:=by
 unfold MZ;omega
theorem quo_w {S T:Nat}(h:S<281474976710656):i64.wrap (Int.tdiv (S:Int) (T:Int))=((S / T:Nat):Int):=by
 have:=oK S T
 rw[←tE]
 generalize S / T=q at this ⊢
 rw[bX]
theorem min_w {e:Nat}:min (65535:Int) (e:Int)=((min 65535 e:Nat):Int):=by omega
theorem est_ge {X B m:Nat}(hm:0<m)(hB:B<65536 ^ m)(TA:65536 ^ (m - 1)≤B)(hX:X<B*65536):
  X / B≤MZ (dg 65536 X m) (dg 65536 X (m - 1)) (Ai X m) / (dg 65536 B (m - 1)*65536+Ai B m):=by
 unfold MZ
 have Iz:0<B:=bJ (bO (by decide)) TA
 have hXm:X<65536 ^ (m+1):=by
  rw[cG];exact bJ hX (cM _ (mv hB))
 by_cases h:m<2
 ·obtain rfl:m=1:=by omega
  have eX:X=dg 65536 X 1*65536+dg 65536 X 0:=by
   have:=cy (b:=65536) (A:=X) (k:=0)
   rw[fX,m4] at this
   have e2:=cy (b:=65536) (A:=X) (k:=1)
   rw[eF hXm,gH,bt] at e2
   rw[←e2];exact this
  have eB:B=dg 65536 B 0:=by
   have:=cy (b:=65536) (A:=B) (k:=0)
   rw[fX,m4,eF hB,gH,bt] at this
   exact this
  unfold Ai
  rw[ai (by omega),ai (by omega),iK,iK,show 1 - 1=0 from rfl,←eB]
  have:dg 65536 X 1*4294967296+dg 65536 X 0*65536=X*65536:=by omega
  rw[this,Nat.mul_div_mul_right _ _ (by decide)]
  exact az _
 ·obtain⟨p,rfl⟩:∃p,m=p+2:=⟨m - 2,by omega⟩
  have hp:0<65536 ^ p:=bO (by decide)
  have eX:X / 65536 ^ p=dg 65536 X (p+2)*4294967296+dg 65536 X (p+1)*65536+dg 65536 X p:=by
   have e0:=cy (b:=65536) (A:=X) (k:=p)
   have e1:=cy (b:=65536) (A:=X) (k:=p+1)
   have e2:=cy (b:=65536) (A:=X) (k:=p+2)
   rw[eF hXm,gH,bt] at e2
   rw[e0,e1,show p+1+1=p+2 from rfl,e2,bR,fa]
  have eB:B / 65536 ^ p=dg 65536 B (p+1)*65536+dg 65536 B p:=by
   have e0:=cy (b:=65536) (A:=B) (k:=p)
   have e1:=cy (b:=65536) (A:=B) (k:=p+1)
   rw[eF hB,gH,bt] at e1
   rw[e0,e1]
  unfold Ai
  rw[ah h,ah h,show p+2 - 2=p from rfl,show p+2 - 1=p+1 from rfl,←eX,←eB]
  have hT:0<B / 65536 ^ p:=by
   refine E4 (dU ?_ TA) hp
   exact ia (by decide) (by omega)
  rw[pG hT,pG hp,fa]
  refine dU (AE _ (Nz _ _)) ?_
  rw[bA]
  exact Nat.mul_div_le _ _
theorem Kl {X B d:Nat}(hB:0<B):X<B*d↔X / B<d:=by
 rw[lM hB,bA]
theorem TX {X B m:Nat}(hm:m<900)(hB:B<65536 ^ m)(Iz:0<B)(hXs:sz6 X≤m+1)(d:Nat)(hd:X / B≤d)(ym:d≤65535):
  bo (iE (dk m B) (dl X)) ((d:Int),dl (B*d))=some (((X / B:Nat):Int),dl (B*(X / B))):=by
 obtain⟨x,hl,hx⟩:=vI (b:=iE (dk m B) (dl X)) (fun s=>∃d:Nat,s=((d:Int),dl (B*d))∧X / B≤d∧d≤65535) (fun s=>s.1.toNat) (fun x=>x=(((X / B:Nat):Int),dl (B*(X / B))))
  (by
   rintro s ⟨d,rfl,h1,h2⟩
   have hBd:B*d<65536 ^ (m+1):=by
    rw[cG];exact Nat.mul_lt_mul_of_lt_of_le hB (by omega) (by decide)
   have hsz:=rF hBd
   dsimp only[iE]
   rw[G_dless (jP X) (jP (B*d)) (by omega) (by omega),ab]
   by_cases bK:X<B*d
   ·left
    have h3:=(Kl Iz).1 bK
    have wi:0<d:=dY (cr _) h3
    have h4:B≤B*d:=Hn _ wi
    refine⟨_,by rw[cu _ _ bK,LE (jP (B*d)) hB (by omega) h4,ab,bX],⟨d - 1,?_,by omega,by omega⟩,?_⟩
    ·rw[Nat.mul_sub,yy]
     congr 1
     omega
    ·show ((d:Int) - 1).toNat<((d:Nat):Int).toNat
     omega
   ·right
    have h3:=mt (Kl Iz).2 bK
    obtain rfl:d=X / B:=by omega
    exact⟨_,by rw[ce _ _ bK],rfl⟩) ((d:Int),dl (B*d)) ⟨d,rfl,hd,ym⟩
 rw[hl,hx]
set_option maxRecDepth 10000 in
theorem LF {A B:Nat}(hA:sz6 A<800)(hBs:sz6 B<800)(Iz:0<B):iG (dl A) (dl B)=some (dl (A / B),dl (A % B)):=by
 obtain⟨m,hm⟩:∃m,m=sz6 B:=⟨_,rfl⟩
 obtain⟨n,hn⟩:∃n,n=sz6 A:=⟨_,rfl⟩
 have hB:=jP B
 have TA:=(zV B).2 (Dd Iz)
 have FP:=Dd Iz
 have hAn:=jP A
 show iG (dk (sz6 A) A) (dk (sz6 B) B)=_
 rw[←hm] at hB TA FP hBs ⊢
 rw[←hn] at hAn hA ⊢
 have f4:1≤dg 65536 B (m - 1):=by
  have:=cy (b:=65536) (A:=B) (k:=m - 1)
  rw[show m - 1+1=m from by omega,eF hB,gH,bt] at this
  rw[←this]
  exact (pG (bO (by decide))).2 (by rw[eU];exact TA)
 have hbl:=@kX B (m - 1)
 have MH:=@Ov B m
 have em1:i64.wrap ((m:Int) - (1:Int))=((m - 1:Nat):Int):=by rw[bX];omega
 have hm5:m<100000:=by omega
 have htop:((dg 65536 B (m - 1)*65536+Ai B m:Nat):Int)≠0:=by omega
 have hl:=Si (b:=iF (dk n A) (dk m B) ((dg 65536 B (m - 1)*65536+Ai B m:Nat):Int)) (s0:=(([]:List Int),(n:Int) - 1,List.replicate n (0:Int))) (fun k=>(dl (A / 65536 ^ k % B),(k:Int) - 1,lF n (fun j=>if k≤j then dg 65536 (A / B) j else 0))) n (dl (A / 65536 ^ 0 % B),lF n (fun j=>if 0≤j then dg 65536 (A / B) j else 0))
  (by
   rw[eF hAn,Nat.zero_mod,dl_zero,Sr]
   congr 2
   exact uM fun j hj=>ah (by omega))
  (fun k hk=>by
   obtain⟨h1,h2⟩:=yS (b:=65536) (A:=A) (k:=k) (d:=B) (by decide) Iz
   have hr:=eu (A / 65536 ^ (k+1)) Iz
   have ha:=@kX A k
   generalize A / 65536 ^ (k+1) % B=R at h1 h2 hr ⊢
   generalize A / 65536 ^ k % B=R' at h2 ⊢
   have hX:R*65536+dg 65536 A k<B*65536:=by
    have:(R+1)*65536≤B*65536:=cM _ hr
    omega
   have hRs:sz6 R≤m:=rF (by omega)
   have hXm:R*65536+dg 65536 A k<65536 ^ (m+1):=by
    rw[cG];exact bJ hX (cM _ (mv hB))
   have hXs:=rF hXm
   have hcons:[(dg 65536 A k:Int)]++dl R=dk (sz6 R+1) (R*65536+dg 65536 A k):=by
    unfold dl
    rw[lF_cons]
    exact uM fun j hj=>by
     by_cases hj0:j=0
     ·subst hj0
      rw[ai rfl]
      unfold dg
      rw[fX,m4]
      have:=@kX A k
      unfold dg at this
      omega
     ·rw[ah hj0]
      obtain⟨i,rfl⟩:∃i,j=i+1:=⟨j - 1,by omega⟩
      exact (dg_cons ha).symm
   have hXlt:R*65536+dg 65536 A k<65536 ^ (sz6 R+1):=by
    have:=jP R
    rw[cG]
    have h3:(R+1)*65536≤65536 ^ sz6 R*65536:=cM _ this
    rw[bR,eU] at h3
    exact bJ (E9 ha _) h3
   have hszR:sz6 R+1<1000:=by
    have:=dY hRs hBs
    exact bJ (Nat.succ_lt_succ this) (by decide)
   have ei:((k+1:Nat):Int) - 1=(k:Int):=by omega
   have Qi:=est_ge FP hB TA hX
   have d1:=@kX (R*65536+dg 65536 A k) m
   have d2:=@kX (R*65536+dg 65536 A k) (m - 1)
   have d3:=@Ov (R*65536+dg 65536 A k) m
   have hqk:(R*65536+dg 65536 A k) / B<65536:=(lM Iz).2 (by rw[bA 65536 B];exact hX)
   dsimp only[iF]
   rw[ei,cu _ _ (I4 k)]
   rw[cK,cK,cK]
   rw[aC (show (0:Int)≤(k:Int)∧(k:Int)<(n:Int) from⟨I4 k,Int.ofNat_lt.2 hk⟩)]
   rw[bW,bW]
   rw[qB hk,hcons,cK]
   rw[aC (show (sz6 R+1)*8≤140737488355328 from dU (cM _ (mv hszR)) (by decide))]
   rw[zC hXlt (B1 hszR (by decide)),ab,G_at (jP _),ab]
   rw[show i64.wrap ((m:Int) - (1:Int))=((m - 1:Nat):Int) from em1,G_at (jP _),ab,G_at2 (jP _) FP hm5,ab,aC htop]
   obtain⟨X,hX2⟩:∃X,X=R*65536+dg 65536 A k:=⟨_,rfl⟩
   rw[←hX2] at h1 h2 hX hXm hXs hXlt Qi d1 d2 d3 hqk ⊢
   generalize dg 65536 X m=x0 at Qi d1 ⊢
   generalize dg 65536 X (m - 1)=x1 at Qi d2 ⊢
   generalize Ai X m=x2 at Qi d3 ⊢
   have hS:=est3_lt d1 d2 d3
   rw[Qy d1 d2 d3,quo_w hS]
   generalize MZ x0 x1 x2 / (dg 65536 B (m - 1)*65536+Ai B m)=e at Qi ⊢
   have Dm:X / B≤min 65535 e:=Nat.le_min.2 ⟨Nat.le_of_lt_succ hqk,Qi⟩
   have ym:min 65535 e≤65535:=Nat.min_le_left ..
   rw[min_w,ab]
   generalize min 65535 e=d at Dm ym ⊢
   have e1:[(d:Int)]=dk 1 d:=by
    show _=lF 1 _
    unfold lF dg
    simp only[List.range_one,jK,mZ,fX,m4]
    rw[ez (by omega)]
   have hmul:B*(X / B)≤X:=Nat.mul_div_le _ _
   have hms:sz6 (B*(X / B))≤m+1:=rF (by omega)
   rw[e1,Vt hB (by rw[w6];omega) (by omega) (by omega),ab,TX (by omega) hB Iz hXs d Dm ym,ab]
   dsimp only
   rw[aC,LE (jP X) (jP _) (by omega) hmul,ab,bX,Mu]
   have em:X - B*(X / B)=X % B:=by have:=lN X B;omega
   rw[em,h2,h1]
   have ef:lF n (fun j=>if j=k then dg 65536 (A / B) k else if k+1≤j then dg 65536 (A / B) j else 0)=lF n (fun j=>if k≤j then dg 65536 (A / B) j else 0):=uM fun j _=>by
    by_cases h:j=k
    ·rw[ai h,ai (by omega),h]
    ·rw[ah h]
     by_cases h3:k+1≤j
     ·rw[ai h3,ai (by omega)]
     ·rw[ah h3,ah (by omega)]
   rw[ef])
  (by
   dsimp only[iF]
   rw[ce _ _])
 have hq:A / B<65536 ^ n:=dY (oK _ _) hAn
 unfold iG
 rw[cK,cK,aC,show i64.wrap ((m:Int) - (1:Int))=((m - 1:Nat):Int) from by rw[bX];omega,aC,G_at2 hB FP (by omega),ab,bW,bW,qB (by omega),bX (z:=(dg 65536 B (m - 1):Int)*65536) (by omega),bX,ab,bX,ab,show (dg 65536 B (m - 1):Int)*65536+(Ai B m:Int)=((dg 65536 B (m - 1)*65536+Ai B m:Nat):Int) from by omega,hl,ab]
 dsimp only
 rw[cK,aC rfl,uM (n:=n) (f:=fun j=>if 0≤j then dg 65536 (A / B) j else 0) (g:=dg 65536 (A / B)) fun j _=>ai (cr _),zC hq (by omega),ab,fX,m4]
theorem LIM6:LIM=65536 ^ 32:=by decide +kernel
theorem O3 {A k:Nat}:dg 4294967296 A k=dg 65536 A (2*k+1)*65536+dg 65536 A (2*k):=by
 have e:(4294967296:Nat) ^ k=65536 ^ (2*k):=by rw[B5]
 unfold dg
 rw[e,cG,←gZ]
 omega
theorem Vu {x:ap}{A:Nat}(hx:x.vW=W A)(hA:A<LIM):bz x=some (dl A):=by
 have hl:=rP (b:=jr x) (s0:=(([]:List Int),(0:Int))) (fun k=>(dk (2*k) A,(k:Int))) 16 (dk 32 A)
  (by rfl)
  (fun k hk=>by
   have hp:=O3 (A:=A) (k:=k)
   have h0:=@kX A (2*k)
   have h1:=@kX A (2*k+1)
   dsimp only[jr]
   rw[cu _ _,aC,aC,hx,bW,gO hk]
   have e1:i64.wrap (Int.tmod (dg 4294967296 A k:Int) (65536:Int))=(dg 65536 A (2*k):Int):=by
    rw[show (65536:Int)=((65536:Nat):Int) from rfl,←tD,bX];omega
   have e2:i64.wrap (u32.wrap (Int.tdiv (dg 4294967296 A k:Int) (65536:Int)))=(dg 65536 A (2*k+1):Int):=by
    rw[show (65536:Int)=((65536:Nat):Int) from rfl,←tE,A7,bX];omega
   rw[e1,e2,show dk (2*k) A++[(dg 65536 A (2*k):Int),(dg 65536 A (2*k+1):Int)]=(dk (2*k) A++[(dg 65536 A (2*k):Int)])++[(dg 65536 A (2*k+1):Int)] from by rw[da];rfl,Ak,Ak,cK,aC,bX]
   rfl)
  (by
   dsimp only[jr]
   rw[ce _ _])
 unfold bz
 rw[hl,ab,zC (by rw[←LIM6];exact hA) (by decide),ab]
theorem Vm:fy=some La:=by unfold fy;rw[r16];rfl
theorem Sb {n A:Nat}(hn:n≤32)(neg:Bool):
  bo (fV (dk n A)) ((0:Int),(⟨false,neg,W 0⟩:ap))=some (⟨false,neg,W (A % 65536 ^ n)⟩:ap):=by
 have hb:0<(4294967296:Nat):=by decide
 have hl:=rP (b:=fV (dk n A)) (s0:=((0:Int),(⟨false,neg,W 0⟩:ap))) (fun k=>((k:Int),(⟨false,neg,W (A % 65536 ^ k)⟩:ap))) n (⟨false,neg,W (A % 65536 ^ n)⟩:ap)
  (by rw[fX,m7];rfl)
  (fun k hk=>by
   have h0:=@kX A k
   have bK:A % 65536 ^ k<65536 ^ k:=eu _ (bO (by decide))
   have hdiv:i64.wrap (Int.tdiv (k:Int) (2:Int))=((k / 2:Nat):Int):=by
    rw[show (2:Int)=((2:Nat):Int) from rfl,←tE,bX]
   have e1:=O3 (A:=A % 65536 ^ k) (k:=k / 2)
   have hu:=fun x:Nat=>LT (b:=4294967296) (A:=A % 65536 ^ k) (p:=k / 2) (x:=x)
   dsimp only[fV]
   rw[cK,cu _ _,hdiv,aC,aC,aC,ab,aC,aC,aC,ab,bW,bW,gO (by omega),qB hk,show (2:Int)=((2:Nat):Int) from rfl,←tD,A7 (n:=dg 65536 A k) (by omega),gf]
   have rm:A % 65536 ^ (k+1)=A % 65536 ^ k+65536 ^ k*dg 65536 A k:=g5
   have hpow:(4294967296:Nat) ^ (k / 2)=65536 ^ (2*(k / 2)):=by rw[B5]
   by_cases he:k % 2=0
   ·have za:2*(k / 2)=k:=by omega
    have d0:dg 4294967296 (A % 65536 ^ k) (k / 2)=0:=by
     rw[e1,za,lV bK,lV (bJ bK (ia (by decide) (by omega)))]
    rw[ai (by omega),ab,d0,←kw,A7,A0 hb (by omega) (by omega),bX]
    have:=hu (0+dg 65536 A k)
    rw[d0,hpow,za] at this
    rw[gH,iK,bt] at this
    rw[show up1 4294967296 (A % 65536 ^ k) (k / 2) (0+dg 65536 A k)=A % 65536 ^ (k+1) from by rw[rm,bA (65536 ^ k),bt];exact this]
    rfl
   ·have za:2*(k / 2)+1=k:=by omega
    have d1:dg 4294967296 (A % 65536 ^ k) (k / 2)=dg 65536 A (2*(k / 2)):=by
     rw[e1,za,lV bK,gH,bt,nI (by omega)]
    have h2:=@kX A (2*(k / 2))
    rw[ah (by omega),ab,d1,show ((dg 65536 A k:Nat):Int)*(65536:Int)=((dg 65536 A k*65536:Nat):Int) from by omega,A7 (n:=dg 65536 A k*65536) (by omega),←kw,A7,A0 hb (by omega) (by omega),bX]
    have:=hu (dg 65536 A (2*(k / 2))+dg 65536 A k*65536)
    rw[d1,hpow,bR] at this
    have de:65536 ^ (2*(k / 2))*65536=(65536:Nat) ^ k:=by rw[←cG];exact congrArg _ za
    have e3:dg 65536 A k*65536*65536 ^ (2*(k / 2))=65536 ^ k*dg 65536 A k:=by
     rw[fa,bA 65536,de,bA]
    rw[e3,Nat.add_left_comm,o4] at this
    have wd:=Nat.add_left_cancel this
    rw[show up1 4294967296 (A % 65536 ^ k) (k / 2) (dg 65536 A (2*(k / 2))+dg 65536 A k*65536)=A % 65536 ^ (k+1) from by rw[rm];exact wd]
    rfl)
  (by
   dsimp only[fV]
   rw[cK,ce _ _])
 exact hl
theorem FD {n A:Nat}(hA:A<65536 ^ n)(hn:n<100000)(neg:Bool):cg neg (dk n A)=some (enc (bif neg then -(A:Int) else (A:Int))):=by
 have hiff:32<sz6 A↔¬A<LIM:=by
  rw[LIM6]
  constructor
  ·intro h h2
   have:=rF h2;omega
  ·intro h
   rcases d6 32 (sz6 A) with h1|h1
   ·exact h1
   ·exact absurd (bJ (jP A) (ia (by decide) h1)) h
 have FV:(bif neg then -(A:Int) else (A:Int)).natAbs=A:=by cases neg <;> simp
 unfold cg
 rw[zC hA (by omega),ab,M4,r16]
 by_cases h:32<sz6 A
 ·rw[cu _ _,Vm,ab,EB (by rw[FV];exact hiff.1 h)]
 ·have hAL:A<LIM:=Decidable.byContradiction fun h2=>h (hiff.2 h2)
  have n8:decide ((0:Int)<((sz6 A:Nat):Int))= !decide (A=0):=by
   rw[←Lh]
   refine kZ.2 ?_
   constructor
   ·intro h3 h4;subst h4;rw[DJ] at h3;omega
   ·intro h3;have:=Dd (zq h3);omega
  have SH:(cnd neg (bnd (some ((⟨false,decide ((0:Int)<((sz6 A:Nat):Int)),W 0⟩:ap))) fun x7=>some (x7)) (some ((⟨false,false,W 0⟩:ap))))=some (⟨false,neg&&!decide (A=0),W 0⟩:ap):=by
   rw[ab,n8]
   cases neg <;> rfl
  rw[ce _ _,SH,ab,Sb (by omega),ab,ez (jP A),TS hAL]
theorem zeroW {v:Vector Int 16}:(∀j:Nat,j<16→v[j]! =0)↔v=W 0:=by
 constructor
 ·intro h
  apply od
  intro j hj
  rw[h j hj,gO hj]
  unfold dg;simp
 ·rintro rfl j hj
  rw[gO hj]
  unfold dg;simp
theorem ir(x:ap):bk x=some (d8 x):=by
 have hl:=rP (b:=j6 x) (s0:=(true,(0:Int))) (fun k=>(decide (∀j:Nat,j<k→x.vW[j]! =0),(k:Int))) 16 (decide (∀j:Nat,j<16→x.vW[j]! =0))
  (by
   rw[aB (p:=∀j:Nat,j<0→x.vW[j]! =0) (fun j hj=>by omega)]
   rfl)
  (fun k hk=>by
   dsimp only[j6]
   rw[cu _ _,aC,bW,cnd_and,ab,bX,←Bool.decide_and]
   have:((∀j:Nat,j<k→x.vW[j]! =0)∧x.vW[k]! =0)↔∀j:Nat,j<k+1→x.vW[j]! =0:=by
    constructor
    ·rintro⟨h1,h2⟩ j hj
     by_cases h:j=k
     ·rw[h];exact h2
     ·exact h1 j (by omega)
    ·intro h
     exact⟨fun j hj=>h j (by omega),h k (by omega)⟩
   rw[kZ.2 this]
   rfl)
  (by
   dsimp only[j6]
   rw[ce _ _])
 have hz:decide (∀j:Nat,j<16→x.vW[j]! =0)=decide (x.vW=W 0):=kZ.2 zeroW
 unfold bk pQ d8
 rw[hl,ab,hz]
 cases x.vBad <;> cases decide (x.vW=W 0) <;> cases x.vNeg <;> rfl
theorem OI {A:Nat}(hA:A<LIM)(h:∀j,2≤j→j<16→dg 4294967296 A j=0):A / 4294967296 ^ 2=0:=by
 have key:∀d,d≤14→A / 4294967296 ^ (16 - d)=0:=by
  intro d
  induction d with
  |zero=>intro _;exact eF hA
  |succ d ih=>
   intro hd
   have h1:=ih (by omega)
   have h2:=cy (b:=4294967296) (A:=A) (k:=16 - (d+1))
   rw[show 16 - (d+1)+1=16 - d from by omega,h1,gH,bt,h _ (by omega) (by omega)] at h2
   exact h2
 exact key 14 (az _)
structure mT(a:Int):Prop where
 h:a.natAbs<4611686018427387904
instance(a:Int):Decidable (mT a):=decidable_of_iff (a.natAbs<4611686018427387904) ⟨fun h=>⟨h⟩,fun h=>h.h⟩
theorem Rh {A:Nat}(hA:A<LIM):A<4611686018427387904↔dg 4294967296 A 1<1073741824∧∀j,2≤j→j<16→dg 4294967296 A j=0:=by
 constructor
 ·intro h
  refine⟨?_,fun j h1 _=>lV (bJ h ?_)⟩
  ·unfold dg;rw[w6];omega
  ·exact dU (by decide:4611686018427387904≤4294967296 ^ 2) (ia (by decide) h1)
 ·rintro⟨h1,h2⟩
  have h3:=OI hA h2
  have h4:=cy (b:=4294967296) (A:=A) (k:=1)
  rw[show 1+1=2 from rfl,h3,gH,bt,w6] at h4
  omega
theorem Js {a:Int}(ha:a.natAbs<LIM):eQ (enc a)=some (if mT a then (a,true) else (0,false)):=by
 have hwi:=Rh ha
 obtain⟨x,hl,hx⟩:=vI (b:=mE (enc a)) (fun s=>∃k:Nat,s=(k:Int)∧2≤k∧k≤16∧∀j,2≤j→j<k→dg 4294967296 a.natAbs j=0) (fun s=>16 - s.toNat) (fun x=>match x with| .inl r=>r=((0:Int),false)∧¬(∀j,2≤j→j<16→dg 4294967296 a.natAbs j=0)| .inr _=>∀j,2≤j→j<16→dg 4294967296 a.natAbs j=0)
  (by
   rintro s ⟨k,rfl,za,hk,hz⟩
   dsimp only[mE]
   rw[lU ha]
   by_cases h16:k<16
   ·rw[cu _ _,aC,bW,gO h16]
    by_cases hd:dg 4294967296 a.natAbs k=0
    ·left
     refine⟨((k+1:Nat):Int),by rw[ce _ _,bX];rfl,⟨k+1,rfl,by omega,by omega,fun j h1 h2=>?_⟩,by omega⟩
     by_cases h:j=k
     ·rw[h];exact hd
     ·exact hz j h1 (by omega)
    ·right
     refine⟨(Sum.inl ((0:Int),false):(Int×Bool)⊕Unit),by rw[cu _ _],rfl,fun h=>hd (h k za h16)⟩
   ·right
    refine⟨(Sum.inr ():(Int×Bool)⊕Unit),by rw[ce _ _],?_⟩
    obtain rfl:k=16:=by omega
    exact hz) (2:Int) ⟨2,rfl,by omega,by omega,fun j h1 h2=>by omega⟩
 have e1:(W a.natAbs)[((1:Int)).toNat]! =(dg 4294967296 a.natAbs 1:Int):=gO (by decide)
 have e0:(W a.natAbs)[((0:Int)).toNat]! =(dg 4294967296 a.natAbs 0:Int):=gO (by decide)
 have d0:=@dgl a.natAbs 0
 unfold eQ
 rw[ir,bg ha,ab,c9,aI,ab,lU ha,e1,e0,jN ha]
 by_cases h1:dg 4294967296 a.natAbs 1<1073741824
 ·rw[ce _ _,hl,ab]
  cases x with
  |inl r=>
   obtain⟨rfl,h2⟩:=hx
   have:¬mT a:=fun h=>h2 (hwi.1 h.h).2
   rw[ah this]
  |inr u=>
   have h2:mT a:=⟨hwi.2 ⟨h1,hx⟩⟩
   have h3:=OI ha hx
   have h4:=cy (b:=4294967296) (A:=a.natAbs) (k:=1)
   rw[show 1+1=2 from rfl,h3,gH,bt,w6] at h4
   have h5:dg 4294967296 a.natAbs 0=a.natAbs % 4294967296:=by unfold dg;rw[fX,m4]
   have h6:(dg 4294967296 a.natAbs 1:Int)*4294967296+(dg 4294967296 a.natAbs 0:Int)=(a.natAbs:Int):=by omega
   have h7:=h2.h
   dsimp only
   rw[bX (z:=(dg 4294967296 a.natAbs 1:Int)) (by omega),bX (z:=(dg 4294967296 a.natAbs 1:Int)*4294967296) (by omega),bX (z:=(dg 4294967296 a.natAbs 0:Int)) (by omega),h6,bX (z:=(a.natAbs:Int)) (by omega),ab,gf,ai h2]
   by_cases hn:a<0
   ·rw[ai hn,bX,show (0:Int) - (a.natAbs:Int)=a from by omega]
   ·rw[ah hn,show (a.natAbs:Int)=a from by omega]
 ·have:¬mT a:=fun h=>h1 (hwi.1 h.h).1
  rw[cu _ _,ah this]
theorem dk4 {N:Nat}:dk 4 N=[(dg 65536 N 0:Int),(dg 65536 N 1:Int),(dg 65536 N 2:Int),(dg 65536 N 3:Int)]:=rfl
theorem of4 {N:Nat}(hN:N<9223372036854775808):[Int.tmod (N:Int) (65536:Int),Int.tmod (i64.wrap (Int.tdiv (N:Int) (65536:Int))) (65536:Int),Int.tmod (i64.wrap (Int.tdiv (N:Int) (4294967296:Int))) (65536:Int),i64.wrap (Int.tdiv (N:Int) (281474976710656:Int))]=dk 4 N:=by
 have e1:i64.wrap (Int.tdiv (N:Int) (65536:Int))=((N / 65536:Nat):Int):=by
  rw[show (65536:Int)=((65536:Nat):Int) from rfl,←tE,bX]
 have e2:i64.wrap (Int.tdiv (N:Int) (4294967296:Int))=((N / 4294967296:Nat):Int):=by
  rw[show (4294967296:Int)=((4294967296:Nat):Int) from rfl,←tE,bX]
 have e3:i64.wrap (Int.tdiv (N:Int) (281474976710656:Int))=((N / 281474976710656:Nat):Int):=by
  rw[show (281474976710656:Int)=((281474976710656:Nat):Int) from rfl,←tE,bX]
 rw[e1,e2,e3,dk4,show (65536:Int)=((65536:Nat):Int) from rfl,←tD,←tD,←tD]
 have d0:dg 65536 N 0=N % 65536:=by unfold dg;rw[fX,m4]
 have d1:dg 65536 N 1=N / 65536 % 65536:=by unfold dg;rw[w6]
 have d2:dg 65536 N 2=N / 4294967296 % 65536:=rfl
 have d3:dg 65536 N 3=N / 281474976710656:=by
  have:dg 65536 N 3=N / 281474976710656 % 65536:=rfl
  rw[this];omega
 rw[d0,d1,d2,d3]
theorem R7:[(1:Int)]=dk 1 1:=rfl
theorem ri {n:Int}(h1:-9223372036854775808≤n)(h2:n≤9223372036854775807):eR n=some (enc n):=by
 unfold eR
 by_cases hn:0≤n
 ·obtain⟨N,rfl⟩:∃N:Nat,n=(N:Int):=⟨n.toNat,by omega⟩
  have hN4:N<65536 ^ 4:=bJ (show N<9223372036854775808 by omega) (by decide)
  rw[cu _ _ hn,of4 (by omega),FD hN4 (by decide),ab]
  rfl
 ·obtain⟨M,hM⟩:∃M:Nat,-(n+1)=(M:Int):=⟨(-(n+1)).toNat,by omega⟩
  have hM4:M<65536 ^ 4:=bJ (show M<9223372036854775808 by omega) (by decide)
  have e:i64.wrap (0 - (i64.wrap (n+(1:Int))))=(M:Int):=by
   rw[bX (z:=n+1) (by omega),bX];omega
  rw[ce _ _ hn,e,ab,of4 (by omega),R7,Pu hM4 (by decide) (by decide) (by decide),ab,FD (A:=M+1) (jP _) (dY (rF (A:=M+1) (n:=5) (dY (show M+1≤65536 ^ 4 from hM4) (by decide))) (by decide)),ab]
  congr 2
  simp only[ku]
  omega
theorem uF {A:Nat}(h:A<LIM):sz6 A≤32:=rF (by rw[←LIM6];exact h)
theorem sz_add {A B:Nat}(hA:A<LIM)(hB:B<LIM):sz6 (A+B)≤33:=rF (by
 have h1:A+B<2*LIM:=by omega
 have h2:2*LIM≤65536 ^ 33:=by rw[LIM6,cG,bA];exact AE _ (by decide)
 exact bJ h1 h2)
theorem HF {A:Nat}(h:sz6 A≤1000)(neg:Bool):cg neg (dl A)=some (enc (bif neg then -(A:Int) else (A:Int))):=
 FD (jP A) (dY h (by decide)) neg
theorem mP {a:Int}(ha:a.natAbs<LIM):bz (enc a)=some (dl a.natAbs):=Vu (lU ha) ha
theorem Vn {a:Int}(ha:a.natAbs<LIM):qm (enc a)=some (enc (a.natAbs:Int)):=by
 unfold qm
 rw[ir,bg ha,ab,c9,aI,mP ha,ab,HF (dU (uF ha) (by decide)),ab]
 rfl
theorem Vl {a:Int}(ha:a.natAbs<LIM):ql (enc a)=some (enc (-a)):=by
 unfold ql
 rw[ir,bg ha,ab,c9,aI,mP ha,ab,jN ha,HF (dU (uF ha) (by decide)),ab]
 congr 2
 by_cases h:a<0
 ·simp only[h,sn,c9,cond_false];omega
 ·simp only[h,si,sh,ku];omega
theorem HE {a:Int}(ha:a.natAbs<LIM):kU (enc a)=some a.sign:=by
 unfold kU
 rw[ir,bg ha,ab,c9,aI,mP ha,ab,ab,jN ha]
 have hz:((dl a.natAbs).length:Int)=0↔a=0:=by
  rw[show ((dl a.natAbs).length:Int)=0↔(dl a.natAbs).length=0 from by omega,M3];omega
 rcases w8 a 0 with h|h|h
 ·rw[ce _ _ (by rw[hz];omega),cu _ _ h,w7 h]
 ·subst h;rw[cu _ _ (hz.2 rfl)];rfl
 ·rw[ce _ _ (by rw[hz];omega),ce _ _,sf h]
theorem fast2(p q:Prop)[Decidable p][Decidable q](a c:Int):(cnd (if p then (a,true) else (0,false):Int×Bool).2 (some (if q then (c,true) else (0,false):Int×Bool).2) (some false))=some (decide (p∧q)):=by
 by_cases hp:p <;> by_cases hq:q <;> simp[hp,hq,cnd]
theorem good2r(x y:ap):(bnd (S:=Bool) (bnd (bk x) fun l5=>cnd (!l5) (some (true)) (bnd (bk y) fun qw=>some (!qw))) fun b=>some b)=some (!(d8 x&&d8 y)):=by
 rw[ir,ir,ab,ab]
 cases d8 x <;> cases d8 y <;> rfl
theorem G_floor {n m:Int}(FP:m≠0)(hn:n.natAbs<4611686018427387904):nk n m=some (n.fdiv m):=by
 obtain⟨h1,h2,h3⟩:=Ba (x:=n) FP
 have hq:=J3 (x:=n) (y:=m) (by omega)
 have hnq:(n.tdiv m).natAbs≤n.natAbs:=by rw[Int.natAbs_tdiv];exact oK _ _
 have qV:(cnd (decide ((Int.tmod n m)≠(0:Int))) (some (!((decide (n<(0:Int))) == (decide (m<(0:Int)))))) (some (false)))=some (decide (n.fdiv m≠n.tdiv m)):=by
  rw[←h1,gf,gf]
  by_cases h:n.tmod m≠0
  ·rw[ai h,ai h]
   congr 3
   refine kZ.2 ?_
   constructor
   ·intro n8
    have:=Int.tmod_nonneg m (show 0≤-n by omega)
    rw[Int.neg_tmod] at this
    omega
   ·intro n8
    by_cases h4:n<0
    ·exact h4
    ·have:=Int.tmod_nonneg m (show 0≤n by omega)
     omega
  ·rw[ah h,ah h]
 unfold nk
 rw[aC FP,aC FP,qV,ab,gf]
 by_cases h:n.fdiv m=n.tdiv m
 ·rw[ah (fun hh=>hh h),ab,bX,h]
 ·rw[ai h,bX (z:=n.tdiv m) (by omega),bX,ab,ab,(h2 h).1]
theorem RU {a c:Int}(h0:c≠0):(bif (!(decide (a<0) == decide (c<0))) then -((a.natAbs / c.natAbs+(if a.natAbs % c.natAbs=0 then 0 else 1):Nat):Int) else ((a.natAbs / c.natAbs:Nat):Int))=a.fdiv c:=by
 have hr:=eu a.natAbs (show 0<c.natAbs by omega)
 have hdm:=lN a.natAbs c.natAbs
 have MJ:(c.natAbs:Int)*((a.natAbs / c.natAbs:Nat):Int)+((a.natAbs % c.natAbs:Nat):Int)=(a.natAbs:Int):=by rw[←iT,←kw,hdm]
 generalize a.natAbs / c.natAbs=Q at MJ ⊢
 generalize a.natAbs % c.natAbs=R at MJ hr ⊢
 have hmul:∀z:Int,z*c=(if c<0 then -1 else 1)*((c.natAbs:Int)*z):=by
  intro z
  split
  ·have e:c=-(c.natAbs:Int):=by omega
   conv=>lhs;rw[e]
   rw[B6,E5,zo,kY]
  ·have e:c=(c.natAbs:Int):=by omega
   conv=>lhs;rw[e]
   rw[zo,kY]
 by_cases hs:decide (a<0)=decide (c<0)
 ·have Ku:=kZ.1 hs
  rw[hs,E7,c9,cond_false]
  exact (mI (x:=a) h0 (Q:Int) (if c<0 then -(R:Int) else (R:Int)) (by rw[hmul];split <;> omega) (by split <;> omega)).1
 ·have Ku:¬((a<0)↔(c<0)):=fun h=>hs (kZ.2 h)
  have hb:(decide (a<0) == decide (c<0))=false:=Ll.2 hs
  rw[hb,sh,ku]
  by_cases hR:R=0
  ·rw[ai hR]
   refine (mI (x:=a) h0 _ 0 ?_ (by omega)).1
   rw[hmul,B6,iK]
   split <;> omega
  ·rw[ah hR]
   refine (mI (x:=a) h0 _ (if c<0 then -((c.natAbs:Int) - (R:Int)) else (c.natAbs:Int) - (R:Int)) ?_ (by split <;> omega)).1
   rw[hmul,B6,kw,Int.mul_add]
   split <;> omega
theorem dig1(A:Nat):decide (((dl A).length:Int)=0)=decide (A=0):=by
 refine kZ.2 ?_
 rw[show ((dl A).length:Int)=0↔(dl A).length=0 from by omega,M3]
theorem dig2(A:Nat):decide ((0:Int)<((dl A).length:Int))=decide (A≠0):=by
 refine kZ.2 ?_
 have:=@M3 A
 omega
theorem good3r {x:ap}{c:Int}(_hx:okI x)(hc:c.natAbs<LIM):(bnd (S:=Bool) (bnd (bk x) fun qw=>cnd (!qw) (some (true)) (bnd (bk (enc c)) fun AV=>cnd (!AV) (some (true)) (bnd (bz (enc c)) fun tL=>some (decide (((tL).length:Int)=(0:Int)))))) fun b=>some b)=some (!(d8 x&&decide (c≠0))):=by
 rw[ir,ir,mP hc,ab,ab,ab,bg hc,dig1,uY]
 have:decide (c≠0)= !decide (c.natAbs=0):=by
  rw[←Lh];exact kZ.2 (by omega)
 rw[this]
 cases d8 x <;> cases decide (c.natAbs=0) <;> rfl
theorem fastq(a c:Int):(cnd (if mT a then (a,true) else (0,false):Int×Bool).2 (cnd (if mT c then (c,true) else (0,false):Int×Bool).2 (some (decide ((if mT c then (c,true) else (0,false):Int×Bool).1≠(0:Int)))) (some (false))) (some (false)))=some (decide (mT a∧mT c∧c≠0)):=by
 by_cases hp:mT a <;> by_cases hq:mT c <;> simp[hp,hq,cnd]
theorem LC {a c:Int}(ha:a.natAbs<LIM)(hc:c.natAbs<LIM)(h0:c≠0):kI (enc a) (enc c)=some (enc (a.fdiv c)):=by
 unfold kI
 rw[Js ha,Js hc,ab,ab,fastq,ab,gf]
 by_cases hw:mT a∧mT c∧c≠0
 ·have hq:a.fdiv c=a.tdiv c∨a.fdiv c=a.tdiv c - 1:=by
   obtain⟨_,h2,_⟩:=Ba (x:=a) h0
   by_cases h:a.fdiv c=a.tdiv c
   ·exact .inl h
   ·exact .inr (h2 h).1
  have h1:=hw.1.h
  have hnq:(a.tdiv c).natAbs≤a.natAbs:=by rw[Int.natAbs_tdiv];exact oK _ _
  rw[ai hw,ai hw.1,ai hw.2.1]
  dsimp only
  rw[G_floor h0 hw.1.h,ab,ri (by omega) (by omega),ab]
 ·have hg:=good3r (Dh a) hc
  rw[uY] at hg
  have hq:a.natAbs / c.natAbs<LIM:=dY (oK _ _) ha
  have hdl:decide ((0:Int)<((dl (a.natAbs % c.natAbs)).length:Int))=decide (a.natAbs % c.natAbs≠0):=dig2 _
  rw[ah hw,hg,bg ha,aB h0,ab,fH,c9,aI,mP ha,ab,mP hc,ab,LF (dY (uF ha) (by decide)) (dY (uF hc) (by decide)) (by omega),ab,jN ha,jN hc]
  dsimp only
  rw[R7,Pu (jP _) (by decide) (dY (uF hq) (by decide)) (by decide),ab,hdl,←RU h0]
  have hs1:sz6 (a.natAbs / c.natAbs+1)≤1000:=dU (sz_add hq (by decide)) (by decide)
  have LL:sz6 (a.natAbs / c.natAbs)≤1000:=dU (uF hq) (by decide)
  cases hsg:(!(decide (a<0) == decide (c<0))) with
  |false=>
   rw[aI,ab,aI,ab,HF LL,ab]
   rfl
  |true=>
   rw[gv,ab,gf]
   by_cases hR:a.natAbs % c.natAbs=0
   ·rw[ah (fun h=>h hR),ab,HF LL,ab,ai hR,iK]
   ·rw[ai hR,ab,HF hs1,ab,ah hR]
    rfl
theorem TG(n m:Int):∃r:Int,bo ja (n,m)=some r∧r.natAbs=Nat.gcd n.natAbs m.natAbs:=by
 induction hk:m.natAbs using Nat.strongRecOn generalizing n m with
 |_ k ih=>
  subst hk
  by_cases hm:m=0
  ·subst hm
   refine⟨n,nP (by dsimp only[ja];rw[ce _ _ (fun h=>h rfl)]),?_⟩
   rw[Int.natAbs_zero,I8]
  ·have h1:ja (n,m)=some (.inl (m,n.tmod m)):=by
    dsimp only[ja]
    rw[cu _ _ hm,aC hm]
   have e:=Int.natAbs_tmod n m
   obtain⟨r,h2,h3⟩:=ih (n.tmod m).natAbs (by rw[e];exact eu _ (by omega)) m (n.tmod m) rfl
   exact⟨r,(pj h1).trans h2,by rw[h3,e,←Au]⟩
theorem TH(x y:Nat)(hx:sz6 x<800)(hy:sz6 y<800):bo i9 (dl x,dl y)=some (dl (Nat.gcd x y)):=by
 induction y using Nat.strongRecOn generalizing x with
 |_ y ih=>
  by_cases h0:y=0
  ·subst h0
   rw[I8]
   refine nP ?_
   dsimp only[i9]
   rw[dig2,ce _ _ (fun h=>h rfl)]
  ·have h1:i9 (dl x,dl y)=some (.inl (dl y,dl (x % y))):=by
    dsimp only[i9]
    rw[dig2,cu _ _ h0,LF hx hy (by omega),ab]
   have bK:=eu x (show 0<y by omega)
   have hs:sz6 (x % y)<800:=dY (rF (B1 bK (jP y))) hy
   rw[pj h1,ih (x % y) bK y hy hs,←Au]
theorem LD {a c:Int}(ha:a.natAbs<LIM)(hc:c.natAbs<LIM):mm (enc a) (enc c)=some (enc (Nat.gcd a.natAbs c.natAbs:Nat)):=by
 have OL:Nat.gcd a.natAbs c.natAbs<LIM:=by
  rcases sd a.natAbs with h|h
  ·rw[h,Nt];exact hc
  ·exact dY (B0 _ h) ha
 unfold mm
 rw[Js ha,Js hc,ab,ab,fast2,ab,gf]
 by_cases hw:mT a∧mT c
 ·have h1:=hw.1.h
  have h2:=hw.2.h
  rw[ai hw,ai hw.1,ai hw.2]
  dsimp only
  obtain⟨r,h3,h4⟩:=TG a c
  have hr:r.natAbs<4611686018427387904:=by
   rw[h4]
   rcases sd a.natAbs with h|h
   ·rw[h,Nt];exact h2
   ·exact dY (B0 _ h) h1
  rw[h3,ab,ri (by omega) (by omega),ab,Vn (by rw[h4];exact OL),ab,h4]
 ·have hg:=good2r (enc a) (enc c)
  rw[uY] at hg
  rw[ah hw,hg,bg ha,bg hc,ab,fH,c9,aI,mP ha,ab,mP hc,ab,TH _ _ (dY (uF ha) (by decide)) (dY (uF hc) (by decide)),ab,HF (dU (uF OL) (by decide)),ab]
  rfl
theorem R_one:mj=some (enc 1):=by
 unfold mj
 rw[ri (by decide) (by decide),ab]
theorem R_Good {x:am}(hx:okR x):fj x=some (ct x).isSome:=by
 rw[←iM hx]
 obtain⟨n,d⟩:=x
 obtain⟨h1,h2⟩:=hx
 dsimp only at h1 h2
 unfold fj aW
 dsimp only
 rw[ir,ir,pV,pV,ab,ab,ab,ab]
 cases Cy:d8 n with
 |false=>rfl
 |true=>
  cases Ep:d8 d with
  |false=>rfl
  |true=>
   obtain⟨n,hn,rfl⟩:=At h1 Cy
   obtain⟨d,hd,rfl⟩:=At h2 Ep
   rw[HE hd,xo hd,LD hn hd,Pz hn hd,R_one,Ps]
   rfl
theorem U8 {n d:Int}(hn:n.natAbs<LIM)(hd:d.natAbs<LIM)(h0:d≠0):f9 (enc n) (enc d)=some (kW (Rat.divInt n d)):=by
 obtain⟨Cy,Ep⟩:=IB (n:=n) h0 hd
 obtain⟨e1,e2⟩:=Kj (n:=n) h0
 have OL:(((Nat.gcd n.natAbs d.natAbs:Nat):Int)).natAbs<LIM:=by simpa using Cy
 unfold f9
 rw[ir,ir,ab,ab,bg hn,bg hd,c9,aI,aI,HE hd,ab,ab,ce _ _ (by rw[BZ];exact h0),LD hn hd,ab,ab,Vl OL,ab]
 have SH:(cnd (decide (d.sign<(0:Int))) (some (enc (-((Nat.gcd n.natAbs d.natAbs:Nat):Int)))) (some (enc ((Nat.gcd n.natAbs d.natAbs:Nat):Int))))=some (enc (bif decide (d<0) then -((Nat.gcd n.natAbs d.natAbs:Nat):Int) else ((Nat.gcd n.natAbs d.natAbs:Nat):Int))):=by
  by_cases h:d<0
  ·rw[cu _ _ (by rw[E1];exact h),aB h];rfl
  ·rw[ce _ _ (by rw[E1];exact h),bp h];rfl
 have FK:((bif decide (d<0) then -((Nat.gcd n.natAbs d.natAbs:Nat):Int) else ((Nat.gcd n.natAbs d.natAbs:Nat):Int))).natAbs<LIM∧(bif decide (d<0) then -((Nat.gcd n.natAbs d.natAbs:Nat):Int) else ((Nat.gcd n.natAbs d.natAbs:Nat):Int))≠0:=by
  cases decide (d<0)
  ·simp only[cond_false];omega
  ·simp only[ku];omega
 rw[SH,ab,LC hn FK.1 FK.2,ab,LC hd FK.1 FK.2,ab,e1,e2]
 rfl
theorem R_Of {n:Int}(h1:-9223372036854775808≤n)(h2:n≤9223372036854775807):pz n=some (kW (n:Rat)):=by
 have hL:n.natAbs<LIM:=bJ (show n.natAbs<18446744073709551616 by omega) (by decide)
 unfold pz
 rw[ri h1 h2,ab,R_one,ab,U8 hL (by decide) (by decide),ab,ED]
def tB(a c:Int):Int:=if a<c then -1 else if c<a then 1 else 0
theorem G_Rem {a c:Int}(ha:a.natAbs<LIM)(hc:c.natAbs<LIM)(h0:c≠0):nT (enc a) (enc c)=some (enc (a.fmod c)):=by
 unfold nT
 rw[HG ha hc h0,ab]
theorem G_Cmp {a c:Int}(ha:a.natAbs<LIM)(hc:c.natAbs<LIM):qi (enc a) (enc c)=some (tB a c):=by
 unfold qi
 rw[vp,vp,ab,ab,bg ha,bg hc]
 simp only[c9,aI,ab,jN ha,jN hc,lU ha,lU hc]
 rw[Dy ha hc,Dy hc ha,ab,ab]
 unfold tB Ia
 by_cases h1:a<0 <;> by_cases h2:c<0 <;> simp only[h1,h2,sn,si,E7,c9,Bool.true_beq,Bool.false_beq,sh,gv,aI]
 ·by_cases h3:a<c
  ·rw[ai h3,ai (by omega)]
  ·rw[ah h3,ah (by omega)]
   by_cases h4:c<a
   ·rw[ai h4,ai (by omega)]
   ·rw[ah h4,ah (by omega)]
 ·rw[ai (by omega)]
 ·rw[ah (by omega),ai (by omega)]
 ·by_cases h3:a<c
  ·rw[ai h3,ai (by omega)]
  ·rw[ah h3,ah (by omega)]
   by_cases h4:c<a
   ·rw[ai h4,ai (by omega)]
   ·rw[ah h4,ah (by omega)]
def C7(n1 d1 n2 d2:Int):Int:=tB (n1*d2) (n2*d1)
theorem EK {n1 d1 n2 d2:Int}(h1:0<d1)(h2:0<d2)(h:n1.fdiv d1<n2.fdiv d2):n1*d2<n2*d1:=by
 have e1:d1*n1.fdiv d1+n1.fmod d1=n1:=E0 n1 d1
 have e2:d2*n2.fdiv d2+n2.fmod d2=n2:=E0 n2 d2
 have r1:=zp n1 h1
 have r2:=w5 n2 h2
 generalize n1.fdiv d1=f1 at*
 generalize n2.fdiv d2=f2 at*
 generalize n1.fmod d1=m1 at*
 generalize n2.fmod d2=m2 at*
 have h3:d1*(f1+1)≤d1*f2:=Int.mul_le_mul_of_nonneg_left (by omega) (by omega)
 rw[Int.mul_add,Int.mul_one] at h3
 have h4:n1+1≤d1*f2:=by omega
 have h5:(n1+1)*d2≤d1*f2*d2:=I7 h4 (by omega)
 have h6:d2*f2*d1≤n2*d1:=I7 (by omega) (by omega)
 have h7:d1*f2*d2=d2*f2*d1:=by rw[kY d1,kY d2,EZ,EZ,kY d1]
 rw[Int.add_mul,zo] at h5
 omega
theorem Hj {a c:Int}:tB a c=(a - c).sign:=by
 unfold tB
 rcases w8 a c with h|h|h
 ·rw[ai h,w7 (by omega)]
 ·subst h;rw[ah (by omega),ah (by omega),Int.sub_self];rfl
 ·rw[ah (by omega),ai h,sf (by omega)]
theorem Ue {n1 d1 n2 d2:Int}(h1:0<d1)(h2:0<d2):(tB (n1.fdiv d1) (n2.fdiv d2)≠0→C7 n1 d1 n2 d2=tB (n1.fdiv d1) (n2.fdiv d2))∧
  (tB (n1.fdiv d1) (n2.fdiv d2)=0→((n1.fmod d1).sign=0∨(n2.fmod d2).sign=0→C7 n1 d1 n2 d2=(n1.fmod d1).sign - (n2.fmod d2).sign)∧(¬((n1.fmod d1).sign=0∨(n2.fmod d2).sign=0)→0<n1.fmod d1∧n1.fmod d1<d1∧0<n2.fmod d2∧C7 n1 d1 n2 d2=- C7 d1 (n1.fmod d1) d2 (n2.fmod d2))):=by
 have r1:=w5 n1 h1
 have r2:=w5 n2 h2
 have e1:d1*n1.fdiv d1+n1.fmod d1=n1:=E0 n1 d1
 have e2:d2*n2.fdiv d2+n2.fmod d2=n2:=E0 n2 d2
 constructor
 ·intro h
  rcases w8 (n1.fdiv d1) (n2.fdiv d2) with h3|h3|h3
  ·have:=EK h1 h2 h3
   unfold C7 tB
   rw[ai this,ai h3]
  ·exfalso;apply h;unfold tB;rw[ah (by omega),ah (by omega)]
  ·have:=EK h2 h1 h3
   unfold C7 tB
   rw[ah (by omega),ai this,ah (by omega),ai h3]
 ·intro h
  have h3:n1.fdiv d1=n2.fdiv d2:=by
   unfold tB at h
   split at h
   ·cases h
   ·split at h
    ·cases h
    ·omega
  rw[h3] at e1
  have key:n1*d2 - n2*d1=n1.fmod d1*d2 - n2.fmod d2*d1:=by
   have a1:n1*d2=d1*n2.fdiv d2*d2+n1.fmod d1*d2:=by rw[←Int.add_mul,e1]
   have a2:n2*d1=d2*n2.fdiv d2*d1+n2.fmod d2*d1:=by rw[←Int.add_mul,e2]
   have:d1*n2.fdiv d2*d2=d2*n2.fdiv d2*d1:=by rw[kY d1,kY d2,EZ,EZ,kY d1]
   rw[a1,a2,this]
   omega
  have hs:C7 n1 d1 n2 d2=(n1.fmod d1*d2 - n2.fmod d2*d1).sign:=by unfold C7;rw[Hj,key]
  have p1:=zp n1 h1
  generalize n1.fmod d1=m1 at*
  generalize n2.fmod d2=m2 at*
  constructor
  ·intro h4
   rw[hs]
   have Kh:∀{x y:Int},0<y→(x*y).sign=x.sign:=fun {x y} hy=>by rw[Int.sign_mul,sf hy,Int.mul_one]
   rcases h4 with h4|h4
   ·have:m1=0:=BZ.1 h4
    subst this
    rw[h4,I3,Int.zero_sub,Int.zero_sub,Int.sign_neg,Kh h1]
   ·have:m2=0:=BZ.1 h4
    subst this
    rw[h4,I3,Int.sub_zero,Int.sub_zero,Kh h2]
  ·intro h4
   have h5:m1≠0:=fun h=>h4 (.inl (by rw[h];rfl))
   have h6:m2≠0:=fun h=>h4 (.inr (by rw[h];rfl))
   refine⟨by omega,by omega,by omega,?_⟩
   rw[hs]
   unfold C7
   rw[Hj,←Int.sign_neg]
   congr 1
   rw[Int.neg_sub,kY d2,kY d1]
theorem Uf(a c:Int):tB a c=-1∨tB a c=0∨tB a c=1:=by
 unfold tB
 split
 ·exact .inl rfl
 ·split
  ·exact .inr (.inr rfl)
  ·exact .inr (.inl rfl)
theorem Od(a:Int):a.sign=-1∨a.sign=0∨a.sign=1:=by
 rcases w8 a 0 with h|h|h
 ·exact .inl (w7 h)
 ·subst h;exact .inr (.inl rfl)
 ·exact .inr (.inr (sf h))
theorem RW {n1 d1:Int}(h1:0<d1)(l1:n1.natAbs<LIM)(l2:d1.natAbs<LIM):(n1.fdiv d1).natAbs<LIM∧(n1.fmod d1).natAbs<LIM:=by
  have e:=E0 n1 d1
  have r1:=w5 n1 h1
  have r2:=zp n1 h1
  have hq:-(n1.natAbs:Int)≤n1.fdiv d1∧n1.fdiv d1≤n1.natAbs:=by
   rw[Nm _ (Int.le_of_lt h1)]
   constructor
   ·exact (Int.le_ediv_iff_mul_le h1).2 (by have:-(n1.natAbs:Int)*d1≤-(n1.natAbs:Int)*1:=Int.mul_le_mul_of_nonpos_left (by omega) (by omega);omega)
   ·have:n1 / d1<n1.natAbs+1:=Int.ediv_lt_of_lt_mul h1 (by have:((n1.natAbs:Int)+1)*1≤((n1.natAbs:Int)+1)*d1:=Int.mul_le_mul_of_nonneg_left (by omega) (by omega);omega)
    omega
  omega
theorem Vx(k:Nat):∀{n1 d1 n2 d2 out:Int},d1.natAbs≤k→0<d1→0<d2→n1.natAbs<LIM→d1.natAbs<LIM→n2.natAbs<LIM→d2.natAbs<LIM→(out=1∨out=-1)→
  bo jb (out,(⟨enc n1,enc d1⟩:am),(⟨enc n2,enc d2⟩:am))=some (out*C7 n1 d1 n2 d2):=by
 induction k with
 |zero=>intro n1 d1 n2 d2 out h h1;omega
 |succ k ih=>
  intro n1 d1 n2 d2 out hk h1 h2 l1 l2 l3 l4 ho
  obtain⟨ca,cb⟩:=Ue (n1:=n1) (n2:=n2) h1 h2
  have q1:=RW h1 l1 l2
  have q2:=RW h2 l3 l4
  have iN:∀r,jb (out,(⟨enc n1,enc d1⟩:am),(⟨enc n2,enc d2⟩:am))=r↔(cnd (decide (tB (n1.fdiv d1) (n2.fdiv d2)≠(0:Int))) (some (.inr (i64.wrap (out*tB (n1.fdiv d1) (n2.fdiv d2))))) (cnd (decide ((n1.fmod d1).sign=0∨(n2.fmod d2).sign=0)) (some (.inr (i64.wrap (out*(i64.wrap ((n1.fmod d1).sign - (n2.fmod d2).sign)))))) (some (.inl (i64.wrap (0 - out),(⟨enc d1,enc (n1.fmod d1)⟩:am),(⟨enc d2,enc (n2.fmod d2)⟩:am))))))=r:=by
   intro r
   dsimp only[jb]
   rw[HH l1 l2 (by omega),ab,HH l3 l4 (by omega),ab,G_Cmp q1.1 q2.1,ab,G_Rem l1 l2 (by omega),ab,G_Rem l3 l4 (by omega),ab,xo q1.2,ab,xo q2.2,ab,Ud,ab,ab,←Bool.decide_or]
  have rc:=Uf (n1.fdiv d1) (n2.fdiv d2)
  have rs1:=Od (n1.fmod d1)
  have rs2:=Od (n2.fmod d2)
  by_cases hc:tB (n1.fdiv d1) (n2.fdiv d2)≠0
  ·refine nP ((iN _).2 ?_)
   rw[cu _ _ hc,ca hc,bX (by rcases ho with rfl|rfl <;> omega)]
  ·have hc0:tB (n1.fdiv d1) (n2.fdiv d2)=0:=Decidable.byContradiction hc
   obtain⟨cc,cd⟩:=cb hc0
   by_cases hz:(n1.fmod d1).sign=0∨(n2.fmod d2).sign=0
   ·refine nP ((iN _).2 ?_)
    rw[ce _ _ hc,cu _ _ hz,cc hz,bX (z:=(n1.fmod d1).sign - (n2.fmod d2).sign) (by omega),bX (by rcases ho with rfl|rfl <;> omega)]
   ·obtain⟨g1,g2,g3,g4⟩:=cd hz
    refine (pj ((iN _).2 ?_)).trans ((ih (n1:=d1) (d1:=n1.fmod d1) (n2:=d2) (d2:=n2.fmod d2) (out:=0 - out) (by omega) g1 g3 l2 q1.2 l4 q2.2 (by omega)).trans ?_)
    ·rw[ce _ _ hc,ce _ _ hz,bX]
    ·rw[g4,Int.zero_sub,E5,B6]
def ocmp(a b:Option Rat):Int:=match a,b with
 |none,none=>0
 |none,some _=>-1
 |some _,none=>1
 |some p,some q=>if p<q then -1 else if q<p then 1 else 0
theorem Ug(p q:Rat):C7 p.num p.den q.num q.den=if p<q then -1 else if q<p then 1 else 0:=by
 unfold C7 tB
 simp only[Rat.lt_iff]
theorem Vr {x y:am}(hx:okR x)(hy:okR y):jt x y=some (ocmp (ct x) (ct y)):=by
 unfold jt
 rw[iM hx,iM hy,ab,ab]
 cases h1:ct x with
 |none=>
  cases h2:ct y with
  |none=>rfl
  |some q=>rfl
 |some p=>
  cases h2:ct y with
  |none=>rfl
  |some q=>
   obtain⟨hp,rfl⟩:=dK.1 h1
   obtain⟨hq,rfl⟩:=dK.1 h2
   have e:=Vx p.den (n1:=p.num) (d1:=(p.den:Int)) (n2:=q.num) (d2:=(q.den:Int)) (out:=1) (by omega) (by have:=p.den_pos;omega) (by have:=q.den_pos;omega) hp.1 (jO hp) hq.1 (jO hq) (.inl rfl)
   simp only[BV,c9,aI,ab]
   show (bnd (bo jb ((1:Int),kW p,kW q)) fun vl=>some vl)=_
   unfold kW
   rw[e,ab,zo,Ug]
   rfl
theorem TT {x:am}{q:Rat}(h:ct x=some q):x=kW q:=(dK.1 h).2
def Nu:={x:am // okR x}
instance:DecidableEq Nu:=inferInstanceAs (DecidableEq {x:am // okR x})
theorem okR0:okR (default:am):=by
 have h:∀j:Nat,j<16→(default:ap).vW[j]! =0:=by
  intro j hj
  show (eo)[j]! =0
  rw[bI (eo) j hj,Vector.getElem_replicate]
 exact⟨fun j hj=>by show 0≤(default:ap).vW[j]!∧(default:ap).vW[j]! <4294967296;rw[h j hj];omega,fun j hj=>by show 0≤(default:ap).vW[j]!∧(default:ap).vW[j]! <4294967296;rw[h j hj];omega⟩
instance:Inhabited Nu:=⟨⟨default,okR0⟩⟩
def nuR(o:Option Rat):Nu:=⟨BN o,uK o⟩
def decW(v:Vector Int 16):Nat:=gE 4294967296 (fun j=>(v[j]!).toNat) 16
def GF(x:ap):Int:=if x.vNeg then -(decW x.vW:Int) else decW x.vW
theorem decW_W {A:Nat}(h:A<LIM):decW (W A)=A:=by
 refine T0 (b:=4294967296) (n:=16) ?_ h fun j hj=>?_
 ·exact Db (by decide) _ fun j hj=>by
   rw[gO hj]
   have:=@dgl A j
   omega
 ·unfold decW
  rw[IJ (by decide) 16 (fun i hi=>by
   rw[gO hi]
   have:=@dgl A i
   omega) j hj,gO hj]
  omega
theorem AA {z:Int}(h:z.natAbs<LIM):GF (enc z)=z:=by
 rw[rZ h]
 unfold GF
 dsimp only
 rw[decW_W h]
 by_cases hz:z<0
 ·rw[ai (aB hz)];omega
 ·rw[ah (by simpa using hz)];omega
def yN(x:am):Option Rat:=if lZ (Rat.divInt (GF x.vN) (GF x.vD))∧kW (Rat.divInt (GF x.vN) (GF x.vD))=x then some (Rat.divInt (GF x.vN) (GF x.vD)) else none
theorem sR:yN=ct:=by
 funext x
 unfold yN
 cases h:ct x with
 |none=>exact ah fun hh=>AY.1 h _ hh.1 hh.2.symm
 |some q=>
  obtain⟨h1,h2⟩:=dK.1 h
  have hn:GF x.vN=q.num:=by rw[h2];exact AA h1.1
  have hd:GF x.vD=(q.den:Int):=by rw[h2];exact AA (jO h1)
  rw[hn,hd,show Rat.divInt q.num q.den=q from by rw[Nl];exact Rat.mkRat_self q,ai ⟨h1,h2.symm⟩]
def jJ(x y:Nu):Nu:=nuR (Ic (yN x.1) (yN y.1))
def iy(x y:Nu):Nu:=nuR (Bo (yN x.1) (yN y.1))
def Ie(x y:Nu):Nu:=nuR (osub (yN x.1) (yN y.1))
def n6(x y:Nu):Nu:=nuR (Gp (yN x.1) (yN y.1))
def e9(x:Nu):Nu:=nuR (PZ (yN x.1))
def nOf(n:Int):Nu:=nuR (some (n:Rat))
def bL(x:Nu):Int:=osgn (yN x.1)
def aw(x:Nu):Bool:=(yN x.1).isSome
def p8(x y:Nu):Int:=ocmp (yN x.1) (yN y.1)
theorem p9(x y:Nu):jJ x y=nuR (Ic (ct x.1) (ct y.1)):=by unfold jJ;rw[sR]
theorem rM(x y:Nu):iy x y=nuR (Bo (ct x.1) (ct y.1)):=by unfold iy;rw[sR]
theorem Sg(x y:Nu):Ie x y=nuR (osub (ct x.1) (ct y.1)):=by unfold Ie;rw[sR]
theorem D2(x y:Nu):n6 x y=nuR (Gp (ct x.1) (ct y.1)):=by unfold n6;rw[sR]
theorem Ae(x:Nu):e9 x=nuR (PZ (ct x.1)):=by unfold e9;rw[sR]
theorem Br(x:Nu):bL x=osgn (ct x.1):=by unfold bL;rw[sR]
theorem eJ(x:Nu):aw x=(ct x.1).isSome:=by unfold aw;rw[sR]
theorem D3(x y:Nu):p8 x y=ocmp (ct x.1) (ct y.1):=by unfold p8;rw[sR]
section
section
variable {B:Nat} {hp:Hp} {g:Gh} {w w':World}
def Hp.re(hp:Hp)(k:Nat)(ds:List D):Hp:=⟨(hp.next,ds)::hp.vars.filter fun p=>!([k]:List Nat).contains p.1,hp.live,hp.next+1⟩
theorem z7 {k:Nat}{ds a:List D}{j:Nat}(h:(hp.re k ds).vars.lookup j=some a):(j=hp.next∧a=ds)∨(j≠hp.next∧j≠k∧hp.vars.lookup j=some a):=by
 by_cases hj:j=hp.next
 ·subst hj
  have:some ds=some a:=by rw[←h];exact aa.symm
  injection this with this
  exact .inl ⟨rfl,this.symm⟩
 ·have h1:(hp.vars.filter fun p=>!([k]:List Nat).contains p.1).lookup j=some a:=by rw[←h];exact (ao hj).symm
  obtain⟨h2,h3⟩:=jf h1
  exact .inr ⟨hj,by simpa using h2,h3⟩
theorem cz.re(hr:HR B hp g w){k b:Nat}{s8:List D}(hk:hp.vars.lookup k=some s8)(ds:List D)(hs:w.heap.size≤w'.heap.size)(ho:∀c,c<w.heap.size→c≠g.μ k→w'.heap[c]? =w.heap[c]?)(hz:SzB w w' (g.μ k))(hb:b=g.μ k∨w.heap.size≤b):
  cz hp g w (hp.re k ds) (g.var hp.next b) w':=by
 have bK:=hr.var_lt hk
 obtain⟨h1,h2,h3,_⟩:=hr.var k s8 hk
 refine⟨hs,fun p jC hf=>World.cell?_of_block (ho _ jC fun e=>hf (h3 p e)),fun p hpb hf=>?_,jw _,fun j hj=>?_,fun _ _ m _ hm=>⟨m,hm,az _,fun _=>rfl⟩,fun c hc hf=>⟨ho _ hc fun e=>hf.1 k s8 hk e.symm,fun _ _ h=>.inl h,fun j a hj=>?_,hf.2⟩,fun c=>?_⟩
 ·rcases hf with hf|hf
  ·exact hf
  ·rcases hb with hb|hb
   ·exact h3 p (by rw[hf,hb])
   ·omega
 ·show (if j=hp.next then _ else _)=_
  rw[ah (by omega)]
 ·rcases z7 hj with⟨rfl,_⟩|⟨fI,_,h⟩
  ·show (if _ then _ else _)≠_
   rw[ai rfl]
   rcases hb with hb|hb
   ·rw[hb];exact hf.1 k s8 hk
   ·omega
  ·show (if _ then _ else _)≠_
   rw[ah fI]
   exact hf.1 j a h
 ·by_cases hc:c=g.μ k
  ·subst hc;exact hz
  ·exact .same fun h=>ho c h hc
theorem HR.re(hr:HR B hp g w){k b:Nat}{s8:List D}(hk:hp.vars.lookup k=some s8)(ds:List D)(hs:w.heap.size≤w'.heap.size)(ho:∀c,c<w.heap.size→c≠g.μ k→w'.heap[c]? =w.heap[c]?)(hz:SzB w w' (g.μ k))(hb:b=g.μ k∨w.heap.size≤b)
  (cs:Array Value) (ty:TypeId) (hn:w'.heap[b]? =some (.cells cs ty (0,0))) (hl:ds.length≤cs.size) (hc:∀(j:Nat) (u:Value),cs[j]? =some u→(j<ds.length→u.oneCell'=true)∧∀d,ds[j]? =some d→aE hp g w d u):HR B (hp.re k ds) (g.var hp.next b) w':=by
 have m:=cz.re hr hk ds hs ho hz hb
 have hkl:=hr.var_lt hk
 obtain⟨S6,za,hk3,_⟩:=hr.var k s8 hk
 have hbl:b<w'.heap.size:=(oL.1 hn).1
 have Jx:(g.var hp.next b).μ hp.next=b:=ai rfl
 have hμ:∀j,j<hp.next→(g.var hp.next b).μ j=g.μ j:=m.μ
 have OP:∀{j:Nat} {a:List D},j≠k→hp.vars.lookup j=some a→g.μ j≠g.μ k:=fun hj h e=>hj (hr.inj _ _ _ _ h hk e)
 have tJ:∀{j:Nat} {a:List D},j≠k→hp.vars.lookup j=some a→g.μ j≠b:=fun hj h e=>by
  rcases hb with hb|hb
  ·exact OP hj h (by rw[e,hb])
  ·have:=hr.var_lt h;omega
 refine⟨fun j a hj=>?_,fun j j' a a' hj Cv he=>?_,fun id n e hi=>?_,fun id BF t t' c hi wb he Ha=>hr.tinj id BF t t' c hi wb he Ha,dU hr.base hs,fun p hf=>?_⟩
 ·rcases z7 hj with⟨rfl,rfl⟩|⟨fI,hjk,h0⟩
  ·rw[Jx]
   refine⟨ew _,?_,fun p hp'=>.inr hp',cs,ty,hn,hl,fun i u hu=>⟨(hc i u hu).1,fun d hd=>((hc i u hu).2 d hd).mono m⟩⟩
   rcases hb with hb|hb
   ·rw[hb];exact za
   ·exact dU hr.base hb
  ·have bK:=hr.var_lt h0
   obtain⟨h1,h2,h3,wO,LK,h4,h5,h6⟩:=hr.var j a h0
   rw[hμ j h1]
   exact⟨yz h1,h2,fun p hp'=>.inl (h3 p hp'),wO,LK,(ho _ bK (OP hjk h0)).trans h4,h5,fun i u hu=>⟨(h6 i u hu).1,fun d hd=>((h6 i u hu).2 d hd).mono m⟩⟩
 ·rcases z7 hj with⟨h1,_⟩|⟨h1,hjk,h0⟩ <;> rcases z7 Cv with⟨h2,_⟩|⟨h2,hjk',JC⟩
  ·omega
  ·rw[h1,Jx,hμ j' (hr.var j' a' JC).1] at he
   exact absurd he.symm (tJ hjk' JC)
  ·rw[h2,Jx,hμ j (hr.var j a h0).1] at he
   exact absurd he (tJ hjk h0)
  ·rw[hμ j (hr.var j a h0).1,hμ j' (hr.var j' a' JC).1] at he
   exact hr.inj j j' a a' h0 JC he
 ·obtain⟨h1,us,hz',h2,h3⟩:=hr.tok id n e hi
  refine⟨yz h1,us,hz',⟨h2.1,?_⟩,fun c Es=>⟨fun p h4 h5=>.inl ((h3 c Es).1 p h4 h5),fun j a hj=>?_⟩⟩
  ·rcases h2.2 with h0|⟨c,cap,cur,hv,hB,hh,r⟩
   ·exact .inl h0
   ·exact .inr ⟨c,cap,cur,hv,hB,(ho c (oL.1 hh).1 fun e=>(h3 c (by rw[hv];rfl)).2 k s8 hk e.symm).trans hh,r⟩
  ·rcases z7 hj with⟨rfl,_⟩|⟨fI,_,h0⟩
   ·rw[Jx]
    rcases hb with hb|hb
    ·rw[hb];exact (h3 c Es).2 k s8 hk
    ·have:=(h2.lt c Es).2;omega
   ·rw[hμ j (hr.var j a h0).1]
    exact (h3 c Es).2 j a h0
 ·rcases hf with hf|hf
  ·exact bJ (hr.fits p hf) hs
  ·rw[hf];exact hbl
theorem cz.addVar(hp:Hp)(g:Gh)(ds:List D){b:Nat}(hs:w.heap.size≤w'.heap.size)(hb:∀c,c<w.heap.size→w'.heap[c]? =w.heap[c]?)(vL:w.heap.size≤b):cz hp g w (hp.var ds) (g.var hp.next b) w':=by
 refine⟨hs,fun p jC _=>World.cell?_of_block (hb _ jC),fun p hpb hf=>?_,jw _,fun k hk=>?_,fun _ _ m _ hm=>⟨m,hm,az _,fun _=>rfl⟩,fun c hc hf=>⟨hb _ hc,fun _ _ h=>.inl h,fun k ds' hk=>?_,hf.2⟩,fun c=>.same (hb c)⟩
 ·rcases hf with hf|hf
  ·exact hf
  ·omega
 ·show (if k=hp.next then _ else _)=_
  rw[ah (by omega)]
 ·show (if k=hp.next then _ else _)≠_
  by_cases xy:k=hp.next
  ·rw[ai xy];omega
  ·rw[ah xy]
   exact hf.1 k ds' (by rw[←hk];exact (ao xy).symm)
theorem HR.addVar(hr:HR B hp g w)(ds:List D){b:Nat}(hs:w.heap.size≤w'.heap.size)(hb:∀c,c<w.heap.size→w'.heap[c]? =w.heap[c]?)(vL:w.heap.size≤b)(cs:Array Value)(ty:TypeId)(hn:w'.heap[b]? =some (.cells cs ty (0,0)))(hl:ds.length≤cs.size)
  (hc:∀(j:Nat) (u:Value),cs[j]? =some u→(j<ds.length→u.oneCell'=true)∧∀d,ds[j]? =some d→aE (hp.var ds) (g.var hp.next b) w' d u):HR B (hp.var ds) (g.var hp.next b) w':=by
 have m:=cz.addVar hp g ds hs hb vL
 have hμ:∀k,k<hp.next→(g.var hp.next b).μ k=g.μ k:=m.μ
 have Jx:(g.var hp.next b).μ hp.next=b:=ai rfl
 have hbl:b<w'.heap.size:=(oL.1 hn).1
 have look:∀{j:Nat} {a:List D},(hp.var ds).vars.lookup j=some a→(j=hp.next∧a=ds)∨(j≠hp.next∧hp.vars.lookup j=some a):=by
  intro j a hj
  by_cases tK:j=hp.next
  ·subst tK
   have:some ds=some a:=by rw[←hj];exact aa.symm
   injection this with this
   exact .inl ⟨rfl,this.symm⟩
  ·exact .inr ⟨tK,by rw[←hj];exact (ao tK).symm⟩
 refine⟨fun j a hj=>?_,fun j j' a a' hj Cv he=>?_,fun id n e hi=>?_,fun id BF t t' c hi wb he Ha=>hr.tinj id BF t t' c hi wb he Ha,dU hr.base hs,fun p hf=>?_⟩
 ·rcases look hj with⟨rfl,rfl⟩|⟨fI,h0⟩
  ·rw[Jx]
   exact⟨ew _,dU hr.base vL,fun p hp'=>.inr hp',cs,ty,hn,hl,hc⟩
  ·have bK:=hr.var_lt h0
   obtain⟨h1,h2,h3,wO,LK,h4,h5,h6⟩:=hr.var j a h0
   rw[hμ j h1]
   exact⟨yz h1,h2,fun p hp'=>.inl (h3 p hp'),wO,LK,(hb _ bK).trans h4,h5,fun i u hu=>⟨(h6 i u hu).1,fun d hd=>((h6 i u hu).2 d hd).mono m⟩⟩
 ·rcases look hj with⟨h1,_⟩|⟨h1,h0⟩ <;> rcases look Cv with⟨h2,_⟩|⟨h2,JC⟩
  ·omega
  ·rw[h1,Jx,hμ j' (hr.var j' a' JC).1] at he
   have:=hr.var_lt JC;omega
  ·rw[h2,Jx,hμ j (hr.var j a h0).1] at he
   have:=hr.var_lt h0;omega
  ·rw[hμ j (hr.var j a h0).1,hμ j' (hr.var j' a' JC).1] at he
   exact hr.inj j j' a a' h0 JC he
 ·obtain⟨h1,us,hz',h2,h3⟩:=hr.tok id n e hi
  refine⟨yz h1,us,hz',⟨h2.1,?_⟩,fun c Es=>⟨fun p h4 h5=>.inl ((h3 c Es).1 p h4 h5),fun j a hj=>?_⟩⟩
  ·rcases h2.2 with h0|⟨c,cap,cur,hv,hB,hh,r⟩
   ·exact .inl h0
   ·exact .inr ⟨c,cap,cur,hv,hB,(hb c (oL.1 hh).1).trans hh,r⟩
  ·rcases look hj with⟨rfl,_⟩|⟨fI,h0⟩
   ·rw[Jx]
    have:=(h2.lt c Es).2;omega
   ·rw[hμ j (hr.var j a h0).1]
    exact (h3 c Es).2 j a h0
 ·rcases hf with hf|hf
  ·exact bJ (hr.fits p hf) hs
  ·rw[hf];exact hbl
end
end
section
def D.toOw:D→D
 | .gw k z n=>.ow k 0 z n
 |d=>d
section
variable {P:Program} {tb:TypeId→Option TyE} {md:Md} {B:Nat} {hp hp':Hp} {g:Gh} {w w':World} {d:D} {v:Value}
theorem aE.toOw(h:aE hp g w d v):aE hp g w d.toOw v:=by
 cases h with
 |gw k z n c hk h1 h2 hs=>exact .ow k 0 z n c hk h1 h2
 |e x v h=>exact .e x v h
 |own id z n xs v h hid ht=>exact .own id z n xs v h hid ht
 |fu z n xs A h=>exact .fu z n xs A h
 |ag ds cs hl h1 hr=>exact .ag ds cs hl h1 hr
 |tu ds cs hl hr=>exact .tu ds cs hl hr
 |fp xs off ad hb hc=>exact .fp xs off ad hb hc
 |pt k off hk=>exact .pt k off hk
 |ow k off z n c hk h1 h2=>exact .ow k off z n c hk h1 h2
 |fn f ks hk=>exact .fn f ks hk
 |opt b d v hi h=>exact .opt b d v hi h
 |top v=>exact .top v
theorem N7 {k off:Nat}(d:D):d.toOw.un=.pt k off↔d.un=.pt k off:=by cases d <;> simp[D.toOw,D.un]
theorem rh.toOw {o:Oper}{ev:Operand→D}(h:rh P o (fun x=>(ev x).toOw) hp d hp'):rh P o ev hp d hp':=
 fun B g w a Kn Q hr hx hk=>h B g w a Kn Q hr (fun x yh=>(hx x yh).toOw) hk
theorem mO.toOw {o:Oper}{ev:Operand→D}(h:mO P tb md o (fun x=>(ev x).toOw) hp d hp'):mO P tb md o ev hp d hp':=
 ⟨h.ok.toOw,fun h1=>⟨(h.quiet h1).1,fun de h3=>((h.quiet h1).2 de fun hl x hx j off e=>h3 hl x hx j off ((N7 _).1 e)).toOw⟩,h.fr,fun hl x hx j off e=>h.lk hl x hx j off ((N7 _).2 e)⟩
variable {ops:Array Oper} {K:List (Nat×D)→Hp→Prop} {os:List Oper} {tm:List (Nat×D)} {t:Tmp} {dst:Option Tmp} {op:Op} {ty:TypeId} {pos:String} {af:Array Edge} {gd:Option (Nat×Bool)}
theorem stG(tok:TOk P tb)(h:AVC P tb md.dr op ty (fun x=>(evD tm x).toOw) hp (Kq d hp'))(h2:aX P tb md ops K os (Bm dst d tm) hp')(hn:md.nc tb op=true:=by exact rfl):aX P tb md ops K (⟨dst,op,ty,pos,af,none⟩::os) tm hp:=
 PN rfl (((AVC.snd (o:=⟨dst,op,ty,pos,af,none⟩) tok h).q hn).toOw) h2
theorem litR(tok:TOk P tb){ev:Operand→D}{tt e:TypeId}{ti j:TyE}{x:Operand}{cs:List D}(ht:tb tt=some ti)(he:tb e=some j)(hx:(ev x).cells=some cs)(hl:cs.length=j.size)(yj:ti.ty=.slice e:=by exact rfl)(hz:Nat.ble 1 j.size=true:=by exact rfl)(hsm:Nat.ble j.size 16777216=true:=by exact rfl)(href:Mo tb (.buildSlice tt 1 #[(0,x)])=true:=by exact rfl)(qv:md.nc tb (.buildSlice tt 1 #[(0,x)])=true:=by exact rfl):
  mO P tb md ⟨dst,.buildSlice tt 1 #[(0,x)],ty,pos,af,gd⟩ ev hp (.gw hp.next j.size 1) (hp.var cs):=by
 have hz:=bi hz
 have hsm:=bi hsm
 have hu:=tok.slice ht yj
 refine⟨.step fun B g w a hr yh=>?_,fun hq=>?_,fun _=>⟨jw _,fun j hj=>ao (by omega)⟩,fun h=>by cases h⟩
 rotate_left
 ·exfalso
  cases md with
  |seq=>cases hq
  |any L=>
   have h1:((ph (.buildSlice tt 1 #[(0,x)])&&!Mo tb (.buildSlice tt 1 #[(0,x)]))||oE tb L (.buildSlice tt 1 #[(0,x)]))=true:=hq
   rw[href] at h1
   simp[ph,oE] at h1
 have cR:=yh x (by simp[Op.operands])
 have oQ:=cR.cells hx
 have uu:(a.eval x).cells.size=j.size:=by rw[←iO,←oQ.1.1,hl]
 obtain⟨zv,hzv,G4⟩:=tok.run_zero he w
 obtain⟨_,_,hzl,Mw⟩:=tok e j he
 have hs:=tok.run_sizeOf he w
 have Cz:Instr.fill (fun i=>some (i*j.size,j.size)) ((Array.range (1*j.size)).map (zv.cells[·% zv.cells.size]!)) [(0,a.eval x)]=some (a.eval x).cells:=by
  have h0:f6 (fun i=>some (i*j.size,j.size)) ((Array.range (1*j.size)).map (zv.cells[·% zv.cells.size]!)).toList ([(0,a.eval x)].map fun p=>(p.1,p.2.cells.toList))=some (a.eval x).cells.toList:=by
   have LM:((Array.range (1*j.size)).map (zv.cells[·% zv.cells.size]!)).toList.length=j.size:=by simp
   simp only[jK,mZ,f6,gH,bt,iO]
   rw[ah (by rw[uu,Array.size_map,Array.size_range];omega)]
   rw[ES,ny,CK (by rw[LM];omega),tf]
  have:=Dt h0
  simpa using this
 have bY:(Instr.buildSlice tt 1 #[(0,a.eval x)]).run P w=.ok (.slice (some ⟨w.heap.size,0,none⟩) 1 1) (w.alloc (.cells (a.eval x).cells e)):=by
  have hsm2:¬1*j.size > 2 ^ 24:=by omega
  have fI:¬1*j.size=0:=by omega
  simp only[Instr.buildSlice,Sem.run_bind,run_underlying hu,Result.andThen_ok,hs,ah hsm2,ah fI,hzv,Sem.run_pure]
  simp only[Cz]
  rfl
 refine⟨.slice (some ⟨w.heap.size,0,none⟩) 1 1,g.var hp.next w.heap.size,w.alloc (.cells (a.eval x).cells e),?_,hr.newVar cs _ e (by rw[uu,hl];exact az _) (fun i u hu=>?_),cz.var hp g w cs _,?_,(Below.refl _ _).alloc hr.base _,fun p _ h=>.inl h⟩
 ·simp[execOp,bY]
 ·have vJ:(a.eval x).cells.toList[i]? =some u:=by simpa using hu
  exact⟨fun _=>oQ.2 u (eb vJ),fun d hd=>oQ.1.2 i d u hd vJ⟩
 ·have:=aE.gw (hp:=hp.var cs) (g:=g.var hp.next w.heap.size) (w:=w.alloc (.cells (a.eval x).cells e)) hp.next j.size 1 1 (ew _) (az _) (by decide) ⟨(a.eval x).cells,e,(0,0),by rw[show (g.var hp.next w.heap.size).μ hp.next=w.heap.size from ai rfl];exact heap_alloc_new w _,by omega⟩
  rwa[show (g.var hp.next w.heap.size).μ hp.next=w.heap.size from ai rfl] at this
theorem Bg(w:World)(t ty e tt:TypeId)(i:TypeInfo)(ht:P.underlying t=some (.slice e))(hi:P.info? e=some i)
  (g L7 sCap:Nat) (cur:Array Value) (hg:w.heap[g]? =some (.cells cur tt (0,0)))
  (a:Addr) (m c:Nat) (news:List Value) (hl:news.length=m*i.size) (sW:∀j u,news[j]? =some u→w.cell? (a.add j)=some u) (h1:∀u∈news,u.oneCell'=true)
  (vK:L7+m≤sCap) (Gy:L7*i.size+news.length≤cur.size):
  (Builtin.append_ #[t,t] ty #[.slice (some ⟨g,0,none⟩) L7 sCap,.slice (some a) m c]).run P w=
   .ok (.slice (some ⟨g,0,none⟩) (L7+m) sCap) (w.setRow g (cur.toList.take (L7*i.size)++news++cur.toList.drop (L7*i.size+news.length)).toArray):=by
 have hf:=run_firstCells_some (P:=P) w i.size m a m c news hl sW
 have G7:=run_storeCells_at P g (L7*i.size) tt news 0 cur w hg (by simpa using Gy) h1
 simp only[iK] at G7
 simp[Builtin.append_,run_underlying ht,sizeOf,typeInfo,hi,Builtin.lenOf,vK,hf,Addr.add_lit,G7]
structure AppG(w:World)(g:Nat)(v':Value)(w':World)(b n z:Nat)(xs:List Value):Prop where
 size:w.heap.size≤w'.heap.size
 old:∀c,c<w.heap.size→c≠g→w'.heap[c]? =w.heap[c]?
 sz:SzB w w' g
 blk:b=g∨w.heap.size≤b
 rest:w'.os=w.os∧w'.tape=w.tape∧w'.output=w.output
 row:∃(cs:Array Value) (tt:TypeId) (cap:Nat),v'=.slice (some ⟨b,0,none⟩) n cap∧n≤cap∧cap≤maxLen∧w'.heap[b]? =some (.cells cs tt (0,0))∧cap*z≤cs.size∧cs.toList.take (n*z)=xs
theorem Gl(tok:TOk P tb){t e:TypeId}{ti j:TyE}(ht:tb t=some ti)(yj:ti.ty=.slice e)(he:tb e=some j)(hz:0<j.size)(w:World)(ty tt:TypeId)(g n cap:Nat)(cur:Array Value)(hg:w.heap[g]? =some (.cells cur tt (0,0)))(qv:n≤cap)(o3:cap≤maxLen)(oQ:cap*j.size≤cur.size)
  (a:Addr) (m c:Nat) (news:List Value) (hl:news.length=m*j.size) (sW:∀j u,news[j]? =some u→w.cell? (a.add j)=some u) (h1:∀u∈news,u.oneCell'=true) (hm:0<m) (hb:(n+m)*max 1 j.bytes≤140737488355328):
  ∃v' w' b,(Builtin.append_ #[t,t] ty #[.slice (some ⟨g,0,none⟩) n cap,.slice (some a) m c]).run P w=.ok v' w'∧AppG w g v' w' b (n+m) j.size (cur.toList.take (n*j.size)++news):=by
 obtain⟨f,zz,Q3,OO,C0,ON,hf4,_⟩:=tok.inf he
 have hu:=tok.slice ht yj
 have OL:g<w.heap.size:=(oL.1 hg).1
 have QZ:n+m≤140737488355328:=dU (Hn _ (by omega)) hb
 have tJ:(n+m)*f.bytes≤140737488355328:=dU (AE _ (by rw[C0];omega)) hb
 have SZ:n*j.size≤cap*j.size:=cM _ qv
 have BG:(cur.toList.take (n*j.size)).length=n*j.size:=by rw[ep,iO];omega
 by_cases vK:n+m≤cap
 ·have OE:(n+m)*j.size≤cap*j.size:=cM _ vK
  rw[bR] at OE
  have hr:=Bg (P:=P) w t ty e tt f hu Q3 g n cap cur hg a m c news (by rw[OO];exact hl) sW h1 vK (by rw[OO,hl];omega)
  rw[OO] at hr
  have AT:(cur.toList.take (n*j.size)++news++cur.toList.drop (n*j.size+news.length)).toArray.size=cur.size:=by
   simp only[se,cD,ep,fc,iO];omega
  refine⟨_,_,g,hr,by simp,fun c _ hc=>setRow_other w g c _ hc,SzB.row hg AT,.inl rfl,⟨rfl,rfl,rfl⟩,_,tt,cap,rfl,vK,o3,setRow_heap w g cur _ tt (0,0) hg,by rw[AT];exact oQ,?_⟩
  have e1:(n+m)*j.size=(cur.toList.take (n*j.size)++news).length:=by rw[cD,BG,hl,bR]
  rw[e1]
  exact vQ
 ·have holds:∀i u,(cur.toList.take (n*j.size))[i]? =some u→w.cell? ((⟨g,0,none⟩:Addr).add i)=some u:=fun i u hu=>by
   rw[gL] at hu
   split at hu
   ·rw[Addr.add_lit]
    simpa[World.cell?,hg] using hu
   ·cases hu
  have hr:=run_append_grow (P:=P) w t ty e f zz hu Q3 ON ⟨g,0,none⟩ n cap (cur.toList.take (n*j.size)) (by rw[OO];exact BG) holds a m c news (by rw[OO];exact hl) sW (by omega) (by omega) (growslice_fits (by omega) tJ)
  have vL:=grownCap_ge w (n+m) cap e
  have hzs:zz.cells.size=j.size:=by
   have h4:=(tok e j he).2.2.1
   rw[←iO,hf4,h4]
  refine⟨_,_,w.heap.size,hr,by simp,fun c hc _=>heap_alloc_old w.drew _ hc,.same fun h=>heap_alloc_old w.drew _ h,.inr (az _),⟨rfl,rfl,rfl⟩,_,e,_,rfl,vL,grownCap_le_maxLen w (n+m) cap e (by unfold maxLen;omega),heap_alloc_new w.drew _,?_,?_⟩
  ·simp only[Lk,se,size_zeroCells,hzs,BG,hl,←bR]
   exact cM _ (by omega)
  ·have e1:(n+m)*j.size=(cur.toList.take (n*j.size)++news).length:=by rw[cD,BG,hl,bR]
   simp only[Ph]
   rw[e1]
   exact vQ
theorem appR(tok:TOk P tb){ev:Operand→D}{t e:TypeId}{ti j:TyE}{x y:Operand}{k n ky:Nat}{ds news:List D}(ht:tb t=some ti)(he:tb e=some j)(hk:hp.vars.lookup k=some ds)(hy:hp.vars.lookup ky=some news)(hx:ev x=.gw k j.size n)(Sy:ev y=.gw ky j.size 1)(hl:ds.length=n*j.size)(LM:news.length=j.size)(hb:(n+1)*max 1 j.bytes≤140737488355328)
  (yj:ti.ty=.slice e:=by exact rfl) (hz:Nat.ble 1 j.size=true:=by exact rfl) (href:cpB tb ⟨.builtin .append,#[x,y],#[t,t]⟩=true:=by exact rfl):
  mO P tb md ⟨dst,.call ⟨.builtin .append,#[x,y],#[t,t]⟩,ty,pos,af,gd⟩ ev hp (.gw hp.next j.size (n+1)) (hp.re k (ds++news)):=by
 have hz:=bi hz
 refine⟨.step fun B g w a hr yh=>?_,fun hq=>?_,fun h=>?_,fun h=>by cases h⟩
 ·have h1:=yh x (cQ (by simp))
  have h2:=yh y (cQ (by simp))
  rw[hx] at h1
  rw[Sy] at h2
  obtain⟨q1,q2,q3,cs,tt,q4,q5,q6⟩:=hr.var k ds hk
  obtain⟨y1,y2,y3,ys,yt,y4,y5,y6⟩:=hr.var ky news hy
  generalize hv1:a.eval x=v1 at h1
  generalize SE:a.eval y=v2 at h2
  cases h1 with
  |gw _ _ _ cap xy qv o3 hs=>
  cases h2 with
  |gw _ _ _ c hkn2 hnc2 hcm2 LL=>
  obtain⟨wO,tt',l',h3,h4⟩:=hs
  rw[q4] at h3
  injection h3 with h3
  injection h3 with h3 h5 h6
  subst h3;subst h5;subst h6
  have sW:∀i u,(ys.toList.take j.size)[i]? =some u→w.cell? ((⟨g.μ ky,0,none⟩:Addr).add i)=some u:=fun i u hu=>by
   rw[gL] at hu
   split at hu
   ·rw[Addr.add_lit]
    simpa[World.cell?,y4] using hu
   ·cases hu
  have hyone:∀u∈ys.toList.take j.size,u.oneCell'=true:=fun u hu=>by
   obtain⟨i,hi⟩:=AF hu
   rw[gL] at hi
   split at hi
   ·rename_i bK
    exact (y6 i u (by simpa using hi)).1 (by omega)
   ·cases hi
  obtain⟨v',w',b,bY,tA⟩:=Gl tok ht yj he hz w ty tt (g.μ k) n cap cs q4 qv o3 h4 ⟨g.μ ky,0,none⟩ 1 c (ys.toList.take j.size) (by rw[ep,iO];omega) sW hyone (by omega) hb
  obtain⟨cs2,tt2,cap2,v9,OR,qU,hh2,hc3,OQ⟩:=tA.row
  have hlen:(ds++news).length=(n+1)*j.size:=by rw[cD,hl,LM,bR,eU]
  have Do:(n+1)*j.size≤cap2*j.size:=cM _ OR
  have hHR:HR B (hp.re k (ds++news)) (g.var hp.next b) w':=hr.re hk _ tA.size tA.old tA.sz tA.blk cs2 tt2 hh2 (by rw[hlen];omega) (fun i u hu=>by
   have hwin:i<(n+1)*j.size→(cs.toList.take (n*j.size)++ys.toList.take j.size)[i]? =some u:=fun hi=>by
    rw[←OQ,gL,ai hi];simpa using hu
   have htk:(cs.toList.take (n*j.size)).length=n*j.size:=by rw[ep,iO];omega
   have look:∀hi:i<(n+1)*j.size,(i<n*j.size∧cs[i]? =some u)∨(n*j.size≤i∧i - n*j.size<j.size∧ys[i - n*j.size]? =some u):=fun hi=>by
    have h:=hwin hi
    rcases d6 i (n*j.size) with bK|vL
    ·rw[AG (by omega),gL,ai bK] at h
     exact .inl ⟨bK,by simpa using h⟩
    ·rw[qH (by omega),htk,gL] at h
     rw[bR,eU] at hi
     rw[ai (by omega)] at h
     exact .inr ⟨vL,by omega,by simpa using h⟩
   refine⟨fun hi=>?_,fun d hd=>?_⟩
   ·rw[hlen] at hi
    rcases look hi with⟨h5,h6⟩|⟨h5,h6,h7⟩
    ·exact (q6 i u h6).1 (by omega)
    ·exact (y6 _ u h7).1 (by omega)
   ·have hi:i<(n+1)*j.size:=by rw[←hlen];exact (fL.1 hd).1
    rcases look hi with⟨h5,h6⟩|⟨h5,h6,h7⟩
    ·rw[AG (by omega)] at hd
     exact (q6 i u h6).2 d hd
    ·rw[qH (by omega),hl] at hd
     exact (y6 _ u h7).2 d hd)
  refine⟨v',g.var hp.next b,w',?_,hHR,cz.re hr hk _ tA.size tA.old tA.sz tA.blk,?_,⟨tA.rest.1,tA.rest.2.1,tA.rest.2.2,tA.size,fun c hc=>tA.old c (bJ hc hr.base) (by omega)⟩,fun p h5 h6=>.inl h6⟩
  ·simp only[execOp,Array.map_map,al_5,jK,mZ,resolve,invoke,builtin,hv1,SE,Sem.run_bind]
   simp[resolve,invoke,builtin,hv1,SE,bY]
  ·subst v9
   have Jx:(g.var hp.next b).μ hp.next=b:=ai rfl
   have:=aE.gw (hp:=hp.re k (ds++news)) (g:=g.var hp.next b) (w:=w') hp.next j.size (n+1) cap2 (ew _) OR qU ⟨cs2,tt2,(0,0),by rw[Jx];exact hh2,hc3⟩
   rwa[Jx] at this
 ·exfalso
  cases md with
  |seq=>cases hq
  |any L=>
   have h1:((ph (.call ⟨.builtin .append,#[x,y],#[t,t]⟩)&&!Mo tb (.call ⟨.builtin .append,#[x,y],#[t,t]⟩))||oE tb L (.call ⟨.builtin .append,#[x,y],#[t,t]⟩))=true:=hq
   simp[ph,oE] at h1
 ·have h2:(hvB tb ⟨.builtin .append,#[x,y],#[t,t]⟩||cpB tb ⟨.builtin .append,#[x,y],#[t,t]⟩)=false:=h
  rw[href,Bool.or_true] at h2
  cases h2
end
end
section
section
variable {P:Program} {tb:TypeId→Option TyE} {md:Md} {B:Nat} {hp hp':Hp} {g:Gh} {w w':World} {d:D} {v:Value}
theorem appN(tok:TOk P tb){ev:Operand→D}{dst:Option Tmp}{ty:TypeId}{pos:String}{af:Array Edge}{gd:Option (Nat×Bool)}{t e:TypeId}{ti j:TyE}{x y:Operand}{ky:Nat}{news:List D}(ht:tb t=some ti)(he:tb e=some j)(hy:hp.vars.lookup ky=some news)(hx:ev x=.e (.lit (.slice none 0 0)))(Sy:ev y=.gw ky j.size 1)(LM:news.length=j.size)(hb:1*max 1 j.bytes≤140737488355328)
  (yj:ti.ty=.slice e:=by exact rfl) (hz:Nat.ble 1 j.size=true:=by exact rfl):
  mO P tb md ⟨dst,.call ⟨.builtin .append,#[x,y],#[t,t]⟩,ty,pos,af,gd⟩ ev hp (.gw hp.next j.size 1) (hp.var news):=by
 have hz:=bi hz
 refine⟨.step fun B g w a hr yh=>?_,fun hq=>?_,fun _=>⟨jw _,fun j hj=>ao (by omega)⟩,fun h=>by cases h⟩
 ·have h1:=yh x (cQ (by simp))
  have h2:=yh y (cQ (by simp))
  rw[hx] at h1
  rw[Sy] at h2
  have h1:=h1.lit
  obtain⟨y1,y2,y3,ys,yt,y4,y5,y6⟩:=hr.var ky news hy
  generalize SE:a.eval y=v2 at h2
  cases h2 with
  |gw _ _ _ c hkn2 hnc2 hcm2 LL=>
  obtain⟨f,zz,Q3,OO,C0,ON,hf4,_⟩:=tok.inf he
  have hu:=tok.slice ht yj
  have hzs:zz.cells.size=j.size:=by
   have h4:=(tok e j he).2.2.1
   rw[←iO,hf4,h4]
  have tJ:f.bytes≤140737488355328:=by rw[C0];omega
  have sW:∀i u,(ys.toList.take j.size)[i]? =some u→w.cell? ((⟨g.μ ky,0,none⟩:Addr).add i)=some u:=fun i u hu=>by
   rw[gL] at hu
   split at hu
   ·rw[Addr.add_lit]
    simpa[World.cell?,y4] using hu
   ·cases hu
  have AT:(ys.toList.take j.size).length=j.size:=by rw[ep,iO];omega
  have bY:=run_append_nil (P:=P) w t ty e f zz hu Q3 ON ⟨g.μ ky,0,none⟩ 1 c (ys.toList.take j.size) (by rw[OO,AT];omega) sW (by omega) (by omega) (by omega)
  have vL:=grownCap_ge w 1 0 e
  have hold:∀c,c<w.heap.size→(w.drew.alloc (.cells ((ys.toList.take j.size).toArray++Builtin.zeroCells zz.cells (grownCap w 1 0 e - 1)) e)).heap[c]? =w.heap[c]? :=fun c hc=>heap_alloc_old w.drew _ hc
  have CZ:=heap_alloc_new w.drew (.cells ((ys.toList.take j.size).toArray++Builtin.zeroCells zz.cells (grownCap w 1 0 e - 1)) e)
  have mo:=cz.addVar (w:=w) (w':=w.drew.alloc (.cells ((ys.toList.take j.size).toArray++Builtin.zeroCells zz.cells (grownCap w 1 0 e - 1)) e)) hp g news (b:=w.heap.size) (by simp) hold (az _)
  have hsz:((ys.toList.take j.size).toArray++Builtin.zeroCells zz.cells (grownCap w 1 0 e - 1)).size=grownCap w 1 0 e*j.size:=by
   simp only[Lk,se,size_zeroCells,hzs,AT]
   have:grownCap w 1 0 e=1+(grownCap w 1 0 e - 1):=by omega
   rw[this,bR,eU]
   congr 2
   omega
  have h1z:1*j.size≤grownCap w 1 0 e*j.size:=cM _ vL
  refine⟨.slice (some ⟨w.heap.size,0,none⟩) 1 (grownCap w 1 0 e),g.var hp.next w.heap.size,_,?_,hr.addVar news (w':=w.drew.alloc (.cells ((ys.toList.take j.size).toArray++Builtin.zeroCells zz.cells (grownCap w 1 0 e - 1)) e)) (by simp) hold (az _) _ e CZ (by rw[hsz,LM];omega) (fun i u hu=>?_),mo,?_,⟨rfl,rfl,rfl,by simp,fun c hc=>hold c (bJ hc hr.base)⟩,fun p h5 h6=>.inl h6⟩
  ·simp only[execOp,Array.map_map,al_5,jK,mZ,resolve,invoke,builtin,h1,SE,Sem.run_bind]
   simp[resolve,invoke,builtin,h1,SE,bY]
  ·have Gx:i<news.length→ys[i]? =some u:=fun hi=>by
    have wb:i<(ys.toList.take j.size).toArray.size:=by rw[se,AT];omega
    rw[Nk wb,Fa,gL,ai (by omega)] at hu
    simpa using hu
   exact⟨fun hi=>(y6 i u (Gx hi)).1 hi,fun d hd=>((y6 i u (Gx (fL.1 hd).1)).2 d hd).mono mo⟩
  ·have Jx:(g.var hp.next w.heap.size).μ hp.next=w.heap.size:=ai rfl
   have:=aE.gw (hp:=hp.var news) (g:=g.var hp.next w.heap.size) (w:=w.drew.alloc (.cells ((ys.toList.take j.size).toArray++Builtin.zeroCells zz.cells (grownCap w 1 0 e - 1)) e)) hp.next j.size 1 (grownCap w 1 0 e) (ew _) vL (grownCap_le_maxLen w 1 0 e (by decide)) ⟨_,e,(0,0),by rw[Jx];exact CZ,by rw[hsz];exact az _⟩
   rwa[Jx] at this
 ·exfalso
  cases md with
  |seq=>cases hq
  |any L=>
   have h1:((ph (.call ⟨.builtin .append,#[x,y],#[t,t]⟩)&&!Mo tb (.call ⟨.builtin .append,#[x,y],#[t,t]⟩))||oE tb L (.call ⟨.builtin .append,#[x,y],#[t,t]⟩))=true:=hq
   simp[ph,oE] at h1
def Fv(hp:Hp)(g:Gh):Addr→Prop:=fun p=>g.F p∧∀k ds,hp.vars.lookup k=some ds→g.μ k≠p.block
def AR(hp:Hp)(d d':D):Prop:=∀(B:Nat) (g:Gh) (w:World) (v:Value),HR B hp g w→aE hp g w d v→lO w (Fv hp g) d' v
theorem AR.data(h:d.ex.pure=true):AR hp d d.ex:=fun _ _ _ _ _ hd=>(hd.xport h).less fun _ hp=>hp.1
theorem AR.sl {k z n off:Nat}{F:List E}(hv:hp.vars.lookup k=some (dC F))(hz:0<z)(hl:off+n*z≤F.length):AR hp (.ow k off z n) (.e (.sl z n ((F.drop off).take (n*z)))):=by
 intro B g w v hr hd
 obtain⟨h1,h2,h3,cs,ty,h4,h5,h6⟩:=hr.var k _ hv
 rw[eE] at h5
 cases hd with
 |ow _ _ _ _ c hk qv o3=>
  refine .e _ _ (.sl z n _ (some ⟨g.μ k,off,none⟩) c (fun i=>cs.getD (off+i) undef) (by rw[ep,fc];omega) hz qv o3 (fun _=>⟨_,rfl,(oL.1 h4).1⟩) (fun ad ha i e hi=>?_) (fun i e hi=>?_))
  ·injection ha with ha
   subst ha
   have wb:i<n*z:=by
    have:=(fL.1 hi).1
    rw[ep] at this;omega
   have Q4:(⟨g.μ k,off,none⟩:Addr).add i=⟨g.μ k,off+i,none⟩:=by unfold Addr.add;split <;> simp_all
   refine⟨?_,fun hf=>hf.2 k _ hv (by rw[gh])⟩
   rw[Q4]
   have bK:off+i<cs.size:=by omega
   simp[World.cell?,h4,eT,bK]
  ·have wb:i<n*z:=by
    have:=(fL.1 hi).1
    rw[ep] at this;omega
   have bK:off+i<cs.size:=by omega
   rw[gL,ai wb,nt] at hi
   have hu:=h6 (off+i) (cs.getD (off+i) undef) (by simp[eT,bK])
   have:=hu.2 (.e e) (by unfold dC;rw[dT,hi];rfl)
   cases this with
   |e _ _ h7=>exact h7.less fun p hp=>hp.1
theorem AR.gw {k z n:Nat}{F:List E}(hv:hp.vars.lookup k=some (dC F))(hz:0<z)(hl:F.length=n*z):AR hp (.gw k z n) (.e (.sl z n F)):=by
 intro B g w v hr hd
 have:=AR.sl (off:=0) hv hz (n:=n) (by omega) B g w v hr hd.toOw
 rwa[qN,gJ (by omega)] at this
def ARs(hp:Hp):List D→List D→Prop
 |[],[]=>True
 |d::ds,e::es=>AR hp d e∧ARs hp ds es
 |_,_=>False
theorem ARs.get:∀{ds es:List D},ARs hp ds es→ds.length=es.length∧∀(j:Nat) (e:D),es[j]? =some e→∃d,ds[j]? =some d∧AR hp d e
 |[],[],_=>⟨rfl,fun j e h=>by simp at h⟩
 |d::ds,e::es,⟨h1,h2⟩=>by
  obtain⟨h3,h4⟩:=ARs.get h2
  refine⟨by simp[h3],fun j x hx=>?_⟩
  cases j with
  |zero=>simp at hx;subst hx;exact⟨d,rfl,h1⟩
  |succ j=>exact h4 j x (by simpa using hx)
 |[],_::_,h=>h.elim
 |_::_,[],h=>h.elim
theorem AR.ag {ds es:List D}(h:ARs hp ds es):AR hp (.ag ds) (.ag es):=by
 intro B g w v hr hd
 obtain⟨h1,h2⟩:=h.get
 cases hd with
 |ag _ cs hl ho MC=>
  refine .ag es cs (by omega) ho fun j e u hj hu=>?_
  obtain⟨d,h3,h4⟩:=h2 j e hj
  exact h4 B g w u hr (MC j d u h3 hu)
def D.flatC:D→Bool
 | .e (.lit _)=>true
 |_=>false
def D.flat1:D→Bool
 | .ag ds=>ds.all D.flatC
 |d=>d.flatC
def D.flat:D→Bool
 | .tu ds=>ds.all D.flat1
 |d=>d.flat1
theorem KM {F:Addr→Prop}(h:lO w F d v)(hf:d.flatC=true)(hp:Hp)(g:Gh)(w':World):aE hp g w' d v:=by
 cases h with
 |e x v h=>
  cases x with
  |lit u=>cases h with|lit _ ho=>exact .e _ _ (.lit _ ho)
  |_=>cases hf
 |_=>cases hf
theorem KN {F:Addr→Prop}(h:lO w F d v)(hf:d.flat1=true)(hp:Hp)(g:Gh)(w':World):aE hp g w' d v:=by
 cases d with
 |ag ds=>
  cases h with
  |ag _ cs hl ho MC=>exact .ag ds cs hl ho fun j d u hj hu=>KM (MC j d u hj hu) (bc.1 hf d (eb hj)) hp g w'
 |_=>exact KM h hf hp g w'
theorem flat_to {F:Addr→Prop}(h:lO w F d v)(hf:d.flat=true)(hp:Hp)(g:Gh)(w':World):aE hp g w' d v:=by
 cases d with
 |tu ds=>
  cases h with
  |tu _ cs hl MC=>exact .tu ds cs hl fun j d u hj hu=>KN (MC j d u hj hu) (bc.1 hf d (eb hj)) hp g w'
 |_=>exact KN h hf hp g w'
theorem Fv_fits(hr:HR B hp g w):∀p:Addr,Fv hp g p→p.block<w.heap.size:=fun p h=>hr.fits p h.1
theorem Hl {f:FuncId}{ds ds':List D}{r:D}(hc:ar P f ds' r)(ha:ARs hp ds ds'){vs:Array Value}(hr:HR B hp g w)(hsz:vs.size=ds.length)(cR:∀(j:Nat) (d:D) (u:Value),ds[j]? =some d→vs[j]? =some u→aE hp g w d u):
  Calls P f vs w fun e w'=>∃v,e=.returned v∧wg w.heap.size (Fv hp g) w' r v∧Below w.heap.size w w':=by
 obtain⟨h1,h2⟩:=ha.get
 refine hc.2 w _ vs (Fv_fits hr) (by omega) fun j e u hj hu=>?_
 obtain⟨d,h3,h4⟩:=h2 j e hj
 exact h4 B g w u hr (cR j d u h3 hu)
theorem HC.frz {f:FuncId}{ds ds':List D}{r:D}(hc:ar P f ds' r)(ha:ARs hp ds ds')(hf:r.flat=true):HC P f ds hp r hp:=by
 refine⟨hc.1,fun B g w vs hr hsz cR=>(Hl hc ha hr hsz cR).mono ?_⟩
 rintro e w' ⟨v,rfl,qh,hb⟩
 have SM:lO w' (Fv hp g) r v:=by
  unfold wg at qh
  split at qh
  ·cases hf
  ·exact qh
 exact⟨v,g,rfl,hr.keep hb.size hb.block,cz.keep hp g hb.size hb.block,flat_to SM hf hp g w',hb.mono hr.base,fun _ _ h=>h⟩
def E.isLit:E→Bool
 | .lit _=>true
 |_=>false
theorem HC.adopt {f:FuncId}{ds ds':List D}{e z n:Nat}{xs:List E}(hc:ar P f ds' (.own e z n xs))(ha:ARs hp ds ds')(hn:0<n)(hx:xs.all E.isLit=true):HC P f ds hp (.gw hp.next z n) (hp.var (dC xs)):=by
 refine⟨hc.1,fun B g w vs hr hsz cR=>(Hl hc ha hr hsz cR).mono ?_⟩
 rintro en w' ⟨v,rfl,⟨hz,⟨us,ho⟩,qh⟩,hb⟩
 rcases ho.2 with⟨rfl,rfl⟩|⟨b,cap,cur,rfl,hB,hh,qv,o3,oQ,htk⟩
 ·omega
 have BG:xs.length=n*z:=by cases qh with|sl _ _ _ _ _ _ hl=>exact hl
 have OD:=ho.1
 have SZ:n*z≤cap*z:=cM _ qv
 have mo:=cz.addVar hp g (dC xs) hb.size hb.block hB
 have Jx:(g.var hp.next b).μ hp.next=b:=ai rfl
 have cells:∀(i:Nat) (u:Value),cur[i]? =some u→∀x,xs[i]? =some x→∃y,x=.lit y∧u=y∧y.oneCell'=true:=fun i u hu x hxi=>by
  have hlit:x.isLit=true:=bc.1 hx x (eb hxi)
  cases qh with
  |sl _ _ _ _ _ us2 _ _ _ _ hA Es MC=>
   obtain⟨h5,_⟩:=Es _ rfl i x hxi
   have h6:w'.cell? ((⟨b,0,none⟩:Addr).add i)=cur[i]? :=by rw[Addr.add_lit];simp[World.cell?,hh]
   rw[h6,hu] at h5
   injection h5 with h5
   have h7:=MC i x hxi
   rw[←h5] at h7
   cases x with
   |lit y=>cases h7 with|lit _ ho=>exact⟨_,rfl,rfl,ho⟩
   |_=>cases hlit
 refine⟨_,g.var hp.next b,rfl,hr.addVar (dC xs) hb.size hb.block hB cur e hh (by rw[eE,BG,oQ];exact SZ) (fun i u hu=>⟨fun hi=>?_,fun d hd=>?_⟩),mo,?_,hb.mono hr.base,fun p _ h=>.inl h⟩
 ·rw[eE] at hi
  obtain⟨y,_,rfl,h⟩:=cells i u hu xs[i] (cC hi)
  exact h
 ·unfold dC at hd
  rw[dT] at hd
  obtain⟨x,G5,rfl⟩:=yv.1 hd
  obtain⟨y,rfl,rfl,h⟩:=cells i u hu x G5
  exact .e _ _ (.lit _ h)
 ·have:=aE.gw (hp:=hp.var (dC xs)) (g:=g.var hp.next b) (w:=w') hp.next z n cap (ew _) qv o3 ⟨cur,e,(0,0),by rw[Jx];exact hh,by omega⟩
  rwa[Jx] at this
end
end
section
section
variable {P:Program} {tb:TypeId→Option TyE} {md:Md} {hp hp':Hp} {d:D} {dst:Option Tmp} {ty:TypeId} {pos:String} {af:Array Edge} {gd:Option (Nat×Bool)} {ev:Operand→D}
theorem opHC {x:Operand}{f:FuncId}{aS:List Operand}{ts:Array TypeId}{ds:List D}(Aq:ev x=.e (.lit (.func (.func f) #[] #[])))(hc:HC P f ds hp d hp')(hd:aS.map ev=ds):rh P ⟨dst,.call ⟨.value x,aS.toArray,ts⟩,ty,pos,af,gd⟩ ev hp d hp':=by
 intro B g w a Kn Q hr hx xy
 subst hd
 obtain⟨⟨fn,hf,hn,CB⟩,Ar⟩:=hc
 have hv:=hx x (by simp[Op.operands,Call.operands])
 rw[Aq] at hv
 have hv:=hv.lit
 have uu:=Ar B g w (aS.map a.eval).toArray hr (by simp) (fun j d u hd hu=>by
  rw[dT] at hd
  obtain⟨y,hy,rfl⟩:=yv.1 hd
  have vJ:(aS.map a.eval)[j]? =some u:=by simpa using hu
  rw[dT,hy] at vJ
  injection vJ with vJ
  subst vJ
  exact hx y (cQ (by simpa using eb hy)))
 refine EA (R:=fun v w'=>∃g',HR B hp' g' w'∧cz hp g w hp' g' w'∧aE hp' g' w' d v∧Below B w w'∧∀p:Addr,p.block<B→g.F p→g'.F p) ?_ (uu.mono ?_) ?_
 ·have hn' : fn.name ≠ "runtime.NumGoroutine" := by simpa using hn
  have oU:¬fn.body=none:=fun e=>by rw[e] at CB;cases CB
  have hcf:(callFunc f (aS.map a.eval).toArray).run P w=.ok (.enter f (aS.map a.eval).toArray) w:=by
   simp[callFunc,hf,hn',oU]
  rw[←hcf]
  simp[execOp,resolve,invoke,Deferred.ofValue,hv]
 ·rintro e w' ⟨v,g',rfl,h1⟩
  exact⟨v,rfl,g',h1⟩
 ·rintro v w' ⟨g',h1,h2,h3,h4,h5⟩
  exact xy v g' w' h1 h2 h3 h4 h5
theorem opHF {x:Operand}{f:FuncId}{ks:List Nat}{aS:List Operand}{ts:Array TypeId}{ds:List D}(Aq:ev x=.fn f ks)(hc:HC P f ds hp d hp')(hd:aS.map ev++ks.map (fun k=>D.pt k 0)=ds):rh P ⟨dst,.call ⟨.value x,aS.toArray,ts⟩,ty,pos,af,gd⟩ ev hp d hp':=by
 intro B g w a Kn Q hr hx xy
 subst hd
 obtain⟨⟨fn,hf,hn,CB⟩,Ar⟩:=hc
 have hv:=hx x (by simp[Op.operands,Call.operands])
 rw[Aq] at hv
 generalize hu0:a.eval x=u0 at hv
 cases hv with
 |fn _ _ hks=>
 have uu:=Ar B g w (aS.map a.eval++ks.map fun k=>Value.pointer (some ⟨g.μ k,0,none⟩)).toArray hr (by simp) (fun j d u hd hu=>by
  have vJ:(aS.map a.eval++ks.map fun k=>Value.pointer (some ⟨g.μ k,0,none⟩))[j]? =some u:=by simpa using hu
  rcases d6 j aS.length with hj|hj
  ·rw[AG (by simpa using hj),dT] at hd vJ
   obtain⟨y,hy,rfl⟩:=yv.1 hd
   rw[hy] at vJ
   injection vJ with vJ
   subst vJ
   exact hx y (cQ (by simpa using eb hy))
  ·rw[qH (by simpa using hj),dT] at hd vJ
   obtain⟨k,hk,rfl⟩:=yv.1 hd
   simp only[a8] at hk vJ
   rw[hk] at vJ
   injection vJ with vJ
   subst vJ
   exact .pt k 0 (hks k (eb hk)))
 refine EA (R:=fun v w'=>∃g',HR B hp' g' w'∧cz hp g w hp' g' w'∧aE hp' g' w' d v∧Below B w w'∧∀p:Addr,p.block<B→g.F p→g'.F p) ?_ (uu.mono ?_) ?_
 ·have hn' : fn.name ≠ "runtime.NumGoroutine" := by simpa using hn
  have oU:¬fn.body=none:=fun e=>by rw[e] at CB;cases CB
  have hcf:(callFunc f (aS.map a.eval++ks.map fun k=>Value.pointer (some ⟨g.μ k,0,none⟩)).toArray).run P w=.ok (.enter f (aS.map a.eval++ks.map fun k=>Value.pointer (some ⟨g.μ k,0,none⟩)).toArray) w:=by
   simp[callFunc,hf,hn',oU]
  have vM:(aS.map a.eval++ks.map fun k=>Value.pointer (some ⟨g.μ k,0,none⟩)).toArray=aS.toArray.map a.eval++(ks.map fun k=>Value.pointer (some ⟨g.μ k,0,none⟩)).toArray:=by apply oH.1;simp
  rw[←hcf,vM]
  simp[execOp,resolve,invoke,Deferred.ofValue,hu0]
 ·rintro e w' ⟨v,g',rfl,h1⟩
  exact⟨v,rfl,g',h1⟩
 ·rintro v w' ⟨g',h1,h2,h3,h4,h5⟩
  exact xy v g' w' h1 h2 h3 h4 h5
theorem sndOf {c:Call}{x:Operand}(Es:c.callee=.value x)(h:rh P ⟨dst,.call c,ty,pos,af,gd⟩ ev hp d hp')(hfr:hvB tb c=true∨Fr hp hp')(hn:md.nc tb (.call c)=true):mO P tb md ⟨dst,.call c,ty,pos,af,gd⟩ ev hp d hp':=by
 refine⟨h,fun hq=>?_,fun hv=>?_,fun h=>by cases h⟩
 ·exfalso
  cases md with
  |seq=>cases hq
  |any L=>
   have h1:((ph (.call c)&&!Mo tb (.call c))||oE tb L (.call c))=true:=hq
   have h2:(!oE tb L (.call c))=true:=hn
   rw[Ca] at h2
   rw[h2,Bool.or_false] at h1
   simp[ph,Es] at h1
 ·rcases hfr with h1|h1
  ·have h2:(hvB tb c||cpB tb c)=false:=hv
   rw[h1] at h2;cases h2
  ·exact h1
theorem sHC {x:Operand}{f:FuncId}{aS:List Operand}{ts:Array TypeId}{ds:List D}(hc:HC P f ds hp d hp')(hd:aS.map ev=ds)(hfr:hvB tb ⟨.value x,aS.toArray,ts⟩=true∨Fr hp hp')(Aq:ev x=.e (.lit (.func (.func f) #[] #[])):=by exact rfl)(hn:md.nc tb (.call ⟨.value x,aS.toArray,ts⟩)=true:=by exact rfl):
  mO P tb md ⟨dst,.call ⟨.value x,aS.toArray,ts⟩,ty,pos,af,gd⟩ ev hp d hp':=sndOf rfl (opHC Aq hc hd) hfr hn
theorem sHF {x:Operand}{f:FuncId}{ks:List Nat}{aS:List Operand}{ts:Array TypeId}{ds:List D}(hc:HC P f ds hp d hp')(hd:aS.map ev++ks.map (fun k=>D.pt k 0)=ds)(Aq:ev x=.fn f ks:=by exact rfl)(hfr:hvB tb ⟨.value x,aS.toArray,ts⟩=true:=by exact rfl)(hn:md.nc tb (.call ⟨.value x,aS.toArray,ts⟩)=true:=by exact rfl):
  mO P tb md ⟨dst,.call ⟨.value x,aS.toArray,ts⟩,ty,pos,af,gd⟩ ev hp d hp':=sndOf rfl (opHF Aq hc hd) (.inl hfr) hn
end
structure Pt(F:List D)(o:Nat)(bs:List D)(F':List D→List D):Prop where
 le:o+bs.length≤F.length
 g:(F.drop o).take bs.length=bs
 p:∀ys:List D,ys.length=bs.length→F.take o++ys++F.drop (o+bs.length)=F' ys
theorem Pt.of {F bs:List D}{o:Nat}{F':List D→List D}(A C:List D)(hA:A.length=o)(hF:F=A++bs++C)(hp:∀y,F' y=A++y++C):Pt F o bs F':=by
 subst hA hF
 refine⟨by simp only[cD];omega,?_,fun y hy=>?_⟩
 ·rw[da,tG,vQ]
 ·rw[hp,da A bs C,vQ,←qM,tG,tG]
section
variable {P:Program} {tb:TypeId→Option TyE} {dr:Bool} {ty:TypeId} {ev:Operand→D} {hp:Hp} {k o:Nat} {F bs:List D} {F':List D→List D} {t:TypeId} {i:TyE} {x y:Operand} {d:D}
theorem CP(L:Pt F o bs F')(hv:hp.vars.lookup k=some F)(hk:k<hp.next)(ht:tb t=some i)(hz:bs.length=i.size)(hg:i.ty.agg=true:=by exact rfl)(hx:ev x=.pt k o:=by exact rfl):AVC P tb dr (.load t x) ty ev hp (Kq (.ag bs) hp):=by
 rw[qY,hx,og,ht,hv]
 simp only[hg]
 refine⟨hk,by rw[←hz];exact L.le,?_⟩
 rw[←hz,L.g]
 exact Kq.here _ _
theorem kC(L:Pt F o [d] F')(hv:hp.vars.lookup k=some F)(hk:k<hp.next)(ht:tb t=some i)(hg:i.ty.agg=false:=by exact rfl)(hx:ev x=.pt k o:=by exact rfl):AVC P tb dr (.load t x) ty ev hp (Kq d hp):=by
 rw[qY,hx,og,ht,hv]
 simp only[hg]
 refine⟨hk,d,?_,Kq.here _ _⟩
 have h:=L.g
 have hle:=L.le
 have:((F.drop o).take 1)[0]? =some d:=by rw[show (1:Nat)=[d].length from rfl,h];rfl
 rw[gL,ai (by omega),nt,iK] at this
 exact this
theorem Hz {ys F2:List D}{hp':Hp}(L:Pt F o bs F')(hv:hp.vars.lookup k=some F)(hyc:(ev y).cells=some ys)(ht:tb t=some i)(hz:bs.length=i.size)(hl:ys.length=bs.length)(h2:F' ys=F2)(hx:ev x=.pt k o:=by exact rfl)(he:hp.set k F2=hp':=by exact rfl):AVC P tb dr (.store t x y) ty ev hp (Kq .top hp'):=by
 subst he h2
 rw[EQ,hx,Be,ht,hv,hyc]
 simp only
 refine⟨by omega,by rw[←hz];exact L.le,?_⟩
 rw[hl,L.p ys hl]
 exact Kq.here _ _
end
end
def au:Cd Nu:=⟨36,fun x=>ak.f x.1,fun x=>ak.h x.1⟩
theorem w_Add(x y:Nu):ar prog 66 [dG au x,dG au y] (dG au (jJ x y)):=by rw[p9];exact ww (NT x.2 y.2)
theorem w_Mul(x y:Nu):ar prog 29 [dG au x,dG au y] (dG au (iy x y)):=by rw[rM];exact pZ (NS x.2 y.2)
theorem w_Sub(x y:Nu):ar prog 76 [dG au x,dG au y] (dG au (Ie x y)):=by rw[Sg];exact JR (G_osub x.2 y.2)
theorem Rn(x y:Nu):ar prog 153 [dG au x,dG au y] (dG au (n6 x y)):=by rw[D2];exact JS (G_odiv x.2 y.2)
theorem JU(x:Nu):ar prog 42 [dG au x] (dG au (e9 x)):=by rw[Ae];exact wv (NR x.2)
theorem Gg(n:Int)(h:-2≤n∧n≤2):ar prog 28 [dI .i64 n] (dG au (nOf n)):=yK (Vp (by omega) (by omega))
theorem yL(x:Nu):ar prog 30 [dG au x] (dI .i64 (bL x)):=by rw[Br];exact uC (Vq x.2)
theorem w_Good(x:Nu):ar prog 92 [dG au x] (dB (aw x)):=by rw[eJ];exact cj (iM x.2)
theorem w_Cmp(x y:Nu):ar prog 32 [dG au x,dG au y] (dI .i64 (p8 x y)):=by rw[D3];exact sQ (Vr x.2 y.2)
structure zA where
 vk:am
 vc:List am
 deriving Inhabited,DecidableEq
def tC:Cd zA:=⟨37,fun x=>ak.f x.vk++[slE ak x.vc],fun x=>by simp[ak.h,show ak.sz=36 from rfl]⟩
theorem Mm(x:zA):bV (tC.f x) ak 0 x.vk (fun y=>tC.f (⟨y,x.vc⟩:zA)):=
 bV.of ([]) (((cL ak)).f x.vc) (by first|rfl|(simp[(cL ak).h,ak.h];first|rfl|done)) (by first|rfl|simp[tC,cI,cB,cS,cL,da]) (fun y=>by first|rfl|simp[tC,cI,cB,cS,cL,da])
theorem Mn(x:zA):bV (tC.f x) (cL ak) 36 x.vc (fun y=>tC.f (⟨x.vk,y⟩:zA)):=
 bV.of ((ak).f x.vk) ([]) (by first|rfl|(simp[(cL ak).h,ak.h];first|rfl|done)) (by first|rfl|simp[tC,cI,cB,cS,cL,da]) (fun y=>by first|rfl|simp[tC,cI,cB,cS,cL,da])
def iB(aZ:am):Option Bool:=bnd (aW aZ) fun x1=>some (!x1)
theorem yH {aZ:am}{r:Bool}(h:iB aZ=some r):ar prog 120 [dG ak aZ] (dB r):=by
 refine bn (rs:=[.tmp 2]) (fun cx hx h0=>?_) func120
 unfold iB at h
 refine ra hx ?_
 refine rs hx fun K hK=>?_
 refine mbr ?_
 refine scb h cj fun x1 h=>?_
 refine nbr hK ?_
 exact AW.ret (rtv h)
def aJ(v6:List am):Int→Option (Int⊕(Int⊕Unit)):=fun aD=>cnd (decide (aD<((v6).length:Int))) (gd (0≤aD∧aD<((v6).length:Int)) (bnd (iB ((v6)[(aD).toNat]!)) fun x4=>cnd x4 (some (.inr (.inl aD))) (some (.inl (i64.wrap (aD+(1:Int))))))) (some (.inr (.inr ())))
def aV(v6:List am):Option Int:=bnd (bo (aJ v6) (0:Int)) fun y7=>match y7 with| .inl r=>some r| .inr ()=>some (-1:Int)
theorem io {v6:List am}{r:Int}(h:aV v6=some r):ar prog 106 [dL ak v6,.e (.lit (.func (.func 120) #[] #[]))] (dI .i64 r):=by
 refine bn (rs:=[.tmp 4]) (fun cx hx h0=>?_) func106
 unfold aV at h
 refine ra hx ?_
 refine AW.seq (ra hx ?_)
 refine AW.block ?_
 obtain⟨y,hy,h⟩:=ae h
 refine lp (S:=Int) (X:=Int⊕Unit) (fun aD=>[(0,dL ak v6),(1,.e (.lit (.func (.func 120) #[] #[]))),(7,dI .i64 ((v6).length:Int)),(8,dI .i64 aD)]) (fun aD=>⟨[],[],0⟩) (PS (PR [.tmp 4] fun r=>dI .i64 r) (PE cx (.exit 0) (fun ()=>[]) fun ()=>⟨[],[],0⟩)) hy ?_ ?_ ?_
 exact wk0 h0 []
 clear hy h
 rintro aD y h
 dsimp only[aJ] at h
 refine ra hx ?_
 refine AW.seq (cdh h rfl (fun f4 h=>?_) (fun f4 h=>?_))
 refine AW.skip (AW.seq (AW.block (ra hx ?_)))
 refine rs hx fun K hK=>?_
 iterate 3 refine sa ?_
 obtain⟨qU,h⟩:=aA h
 have xT:(aD).toNat<(v6).length:=by omega
 refine sbr ?_
 refine s1 (d:=dG ak ((v6)[(aD).toNat]!)) (jA (c:=ak) (l:=v6) (n:=(aD).toNat) (o:=0) aO xT (e8 _ _ rfl)) ?_
 refine scb h yH fun x4 h=>?_
 refine nl hK ?_
 refine cdh h rfl (fun rp h=>?_) (fun rp h=>?_)
 refine ra hx ?_
 refine AW.ret ?_
 cases h
 refine PS.r ⟨by nofun,PS.l (PR.i ?_)⟩
 exact rv1
 refine AW.skip (rb hx ?_)
 exact pel h h0 []
 exact AW.exit (peq h h0 [])
 rcases y with r|⟨⟩
 rintro ex tm' hp' ⟨rfl,hw⟩
 cases h
 exact hw
 refine lwr ?_
 refine ra hx ?_
 exact AW.ret (rtv h)
def aS(v6:List am):Option Bool:=bnd (aV v6) fun x1=>some (decide ((0:Int)≤x1))
theorem gR {v6:List am}{r:Bool}(h:aS v6=some r):ar prog 119 [dL ak v6,.e (.lit (.func (.func 120) #[] #[]))] (dB r):=by
 refine bn (rs:=[.tmp 4]) (fun cx hx h0=>?_) func119
 unfold aS at h
 refine ra hx ?_
 refine rs hx fun K hK=>?_
 refine mbr ?_
 refine scb h io fun x1 h=>?_
 refine nbr hK ?_
 exact AW.ret (rtv h)
def cZ(eA:List am):Option Bool:=bnd (aS eA) fun x1=>some (!x1)
theorem fP {eA:List am}{r:Bool}(h:cZ eA=some r):ar prog 62 [dL ak eA] (dB r):=by
 refine bn (rs:=[.tmp 2]) (fun cx hx h0=>?_) func62
 unfold cZ at h
 refine ra hx ?_
 refine rs hx fun K hK=>?_
 refine sa ?_
 refine scb h gR fun x1 h=>?_
 refine nbr hK ?_
 exact AW.ret (rtv h)
def jM(eA:zA):Option Bool:=bnd (S:=Bool) (bnd (aW eA.vk) fun x1=>cnd x1 (bnd (cZ eA.vc) fun x4=>some (x4)) (some (false))) fun br=>some br
theorem xP {eA:zA}{r:Bool}(h:jM eA=some r):ar prog 109 [dG tC eA] (dB r):=by
 refine bn (rs:=[.tmp 2]) (fun cx hx h0=>?_) func109
 unfold jM at h
 refine ra hx ?_
 refine AW.seq ?_
 obtain⟨br,hy,h⟩:=ae h
 refine jn ((PE cx .normal (fun br=>[(2,dB br)]) fun br=>⟨[],[],0⟩) br) ?_ ?_
 replace h:=hy
 refine rq hx fun K hK=>?_
 refine sa ?_
 refine s1 (AP (Mm eA) aO) ?_
 refine scb h cj fun x1 h=>?_
 refine sa ?_
 rcases aF h with⟨fZ,h⟩|⟨fZ,h⟩
 refine ga fZ ?_
 refine g1 fZ (xf (Mn eA) bZ) ?_
 refine gcb h fP fun x4 h=>?_
 refine nbr hK ?_
 exact pe1 h h0 []
 refine nbr hK ?_
 exact pe1 h h0 []
 refine lw0 ?_
 exact AW.ret (rtv h)
def nv(x:Nu):am:=x.1
theorem QQ(x:Nu):iB (nv x)=some (!aw x):=by
 unfold iB nv
 rw[iM x.2,eJ]
 rfl
theorem G_idx {c:List Nu}(h:c.length≤1000000):∃y,aV (c.map nv)=some y∧(0≤y↔c.all aw=false):=by
 have key:=vI (b:=aJ (c.map nv)) (fun i:Int=>0≤i∧i≤c.length∧∀j:Nat,j<i.toNat→∀x,c[j]? =some x→aw x=true) (fun i=>(c.length - i).toNat)
  (fun y=>match y with| .inl r=>0≤r∧c.all aw=false| .inr _=>c.all aw=true) (fun i ⟨h1,h2,h3⟩=>?_) 0 ⟨by omega,by omega,fun j hj=>absurd hj (by simp)⟩
 ·obtain⟨y,hy,hp⟩:=key
  unfold aV
  rw[hy]
  cases y with
  |inl r=>exact⟨r,rfl,fun _=>hp.2,fun _=>hp.1⟩
  |inr u=>exact⟨-1,rfl,fun h=>absurd h (by omega),fun h=>by rw[hp] at h;cases h⟩
 ·have hlen:((c.map nv).length:Int)=c.length:=by rw[a8]
  by_cases hi:i<c.length
  ·have Gx:i.toNat<c.length:=by omega
   have gj:(c.map nv)[i.toNat]! =nv c[i.toNat]:=by rw[bI _ _ (by rw[a8];exact Gx),Fc]
   have hb:aJ (c.map nv) i=cnd (!aw c[i.toNat]) (some (.inr (.inl i))) (some (.inl (i64.wrap (i+(1:Int))))):=by
    unfold aJ
    rw[hlen,cu _ _ hi,aC,gj,QQ]
    rfl
   cases hg:aw c[i.toNat] with
   |false=>
    refine .inr ⟨.inl i,by rw[hb,hg];rfl,h1,?_⟩
    rw[Nr]
    exact⟨c[i.toNat],nK _,by rw[hg];simp⟩
   |true=>
    refine .inl ⟨i+1,by rw[hb,hg,ee (by omega) (by omega)];rfl,⟨by omega,by omega,fun j hj x hx=>?_⟩,by omega⟩
    rcases d6 j i.toNat with h4|h4
    ·exact h3 j h4 x hx
    ·obtain rfl:j=i.toNat:=by omega
     rw[cC Gx] at hx
     injection hx with hx
     rw[←hx];exact hg
  ·refine .inr ⟨.inr (),?_,bc.2 fun x hx=>?_⟩
   ·unfold aJ
    rw[hlen,ce _ _ hi]
   ·obtain⟨j,hj⟩:=AF hx
    exact h3 j (by have:=(fL.1 hj).1;omega) x hj
theorem w_good(k:Nu)(c:List Nu)(h:c.length≤1000000):ar prog 109 [.ag (dC (au.f k)++[.e (slE au c)])] (dB (aw k&&c.all aw)):=by
 obtain⟨y,hy,Ed⟩:=G_idx h
 have OK:jM ⟨k.1,c.map nv⟩=some (aw k&&c.all aw):=by
  unfold jM cZ aS
  dsimp only
  rw[iM k.2,hy]
  show _=some (aw k&&c.all aw)
  have e:(ct k.1).isSome=aw k:=(eJ k).symm
  rw[e]
  cases hk:aw k with
  |false=>rfl
  |true=>
   by_cases h0:0≤y
   ·have:=Ed.1 h0
    rw[this]
    simp[bnd,cnd,h0]
   ·have:c.all aw=true:=by
     cases hc:c.all aw with
     |true=>rfl
     |false=>exact absurd (Ed.2 hc) h0
    rw[this]
    simp[bnd,cnd,h0]
 have hw:=xP OK
 have hd:dG tC ⟨k.1,c.map nv⟩=.ag (dC (au.f k)++[.e (slE au c)]):=by
  show D.ag ((ak.f k.1++[slE ak (c.map nv)]).map D.e)=_
  have:slE ak (c.map nv)=slE au c:=by
   unfold slE
   rw[a8,List.flatMap_map]
   rfl
  rw[this,gK]
  rfl
 rw[hd] at hw
 exact hw
def xX(q:Nu)(xc:List Nu)(but:Int):Nat→List Nu→List Nu
 |0,l=>l
 |t+1,l=>if (t:Int)=but then xX q xc but t l else (xX q xc but t l).set t (jJ (xX q xc but t l)[t]! (iy q xc[t]!))
theorem qq(q:Nu)(xc:List Nu)(but:Int):∀(t:Nat) (l:List Nu),(xX q xc but t l).length=l.length
 |0,l=>rfl
 |t+1,l=>by
  unfold xX
  split
  ·exact qq q xc but t l
  ·rw[c7];exact qq q xc but t l
def xb(q xk lk:Nu):Nu:=if bL q=0 then lk else jJ lk (iy q xk)
def ui(q:Nu)(xc:List Nu)(but:Int)(lc:List Nu):List Nu:=if bL q=0 then lc else xX q xc but lc.length lc
structure Row where
 k:Nu
 c:List Nu
 b:Int
instance:Inhabited Row:=⟨⟨default,[],0⟩⟩
structure Dic where
 rows:List Row
 gk:Nu
 gc:List Nu
 n:Int
 piv:Int
 most:Int
def f5(k:Nu)(c:List Nu):Bool:=aw k&&c.all aw
def lkO(d:Dic):Option Nat→Nu|none=>d.gk|some j=>d.rows[j]!.k
def lcO(d:Dic):Option Nat→List Nu|none=>d.gc|some j=>d.rows[j]!.c
def L6(d:Dic)(o:Option Nat)(k:Nu)(c:List Nu):Dic:=match o with
 |none=>⟨d.rows,k,c,d.n,d.piv,d.most⟩
 |some j=>⟨d.rows.set j ⟨k,c,d.rows[j]!.b⟩,d.gk,d.gc,d.n,d.piv,d.most⟩
def Ry(r1:Row)(s:Nat)(d:Dic)(o:Option Nat):Dic:=L6 d o (xb (lcO d o)[s]! r1.k (lkO d o)) (ui (lcO d o)[s]! r1.c s ((lcO d o).set s (nOf 0)))
def wD(r1:Row)(s:Nat)(p:Dic×Bool)(o:Option Nat):Dic×Bool:=(Ry r1 s p.1 o,p.2&&f5 (xb (lcO p.1 o)[s]! r1.k (lkO p.1 o)) (ui (lcO p.1 o)[s]! r1.c s ((lcO p.1 o).set s (nOf 0))))
theorem uh(q:Nu)(xc:List Nu)(but:Int)(lc:List Nu):(ui q xc but lc).length=lc.length:=by
 unfold ui
 split
 ·rfl
 ·exact qq _ _ _ _ _
def xR(at' i:Nat):List (Option Nat):=none::((List.range i).filter fun j=>decide (j≠at')).map some
theorem R6 {at' i:Nat}{o:Option Nat}(h:o∈xR at' i):o≠some at'∧∀j,o=some j→j<i:=by
 rcases kK.1 h with rfl|h
 ·exact⟨fun e=>(by cases e),fun j e=>(by cases e)⟩
 ·obtain⟨j,hj,rfl⟩:=uf.1 h
  obtain⟨h1,h2⟩:=List.mem_filter.1 hj
  exact⟨fun e=>by injection e with e;simp[e] at h2,fun j' e=>by injection e with e;rw[←e];exact kz.1 h1⟩
def pO(r1:Row)(s at' i:Nat)(p:Dic×Bool)(u:Nat):Dic×Bool:=((xR at' i).take u).foldl (wD r1 s) p
def sT(p:Nu):Nat→List Nu→List Nu
 |0,l=>l
 |t+1,l=>(sT p t l).set t (n6 (e9 (sT p t l)[t]!) p)
theorem A9(p:Nu):∀(t:Nat) (l:List Nu),(sT p t l).length=l.length
 |0,_=>rfl
 |t+1,l=>by unfold sT;rw[c7];exact A9 p t l
def a9(r:Row)(s:Nat):Row:=⟨n6 (e9 r.k) r.c[s]!,((sT r.c[s]! r.c.length r.c).set s (nOf 0)).set r.b.toNat (n6 (nOf 1) r.c[s]!),s⟩
def dV(d:Dic)(at' s:Nat):Int×Dic:=
 if d.most≤d.piv then (220,d) else
 let r1:=a9 d.rows[at']! s
 let p:=pO r1 s at' d.rows.length (⟨d.rows.set at' r1,d.gk,d.gc,d.n,d.piv+1,d.most⟩,f5 r1.k r1.c) (xR at' d.rows.length).length
 (if p.2 then 0 else 30,p.1)
def dA(l:List Row)(v:Int):Int:=match l.findIdx? fun r=>decide (r.b=v) with
 |some i=>i
 |none=>-1
theorem Qx {l:List Row}{v:Int}{i:Nat}{r:Row}(hr:l[i]? =some r)(h:r.b=v)(mC:∀(j:Nat) (r':Row),j<i→l[j]? =some r'→r'.b≠v):dA l v=i:=by
 obtain⟨h1,h2⟩:=fL.1 hr
 have:l.findIdx? (fun r=>decide (r.b=v))=some i:=by
  rw[oI]
  exact⟨h1,by rw[h2];exact aB h,fun j hj=>by have:=mC j l[j] hj (cC (by omega));simpa using this⟩
 unfold dA;rw[this]
theorem MX {l:List Row}{v:Int}(mC:∀(j:Nat) (r':Row),l[j]? =some r'→r'.b≠v):dA l v=-1:=by
 have:l.findIdx? (fun r=>decide (r.b=v))=none:=by
  rw[u9]
  intro r hr
  obtain⟨j,hj⟩:=AF hr
  exact bp (mC j r hj)
 unfold dA;rw[this]
def bS(d:Dic)(nn:Nat):List Nu:=(d.gc.drop (nn+1)).map e9
def rR(l:List Row)(s:Nat)(p:Int×Nu)(i:Nat):Option (Int×Nu):=
 let r:=l[i]!
 if 0≤bL r.c[s]! then some p else
 let q:=n6 r.k (e9 r.c[s]!)
 if aw q=false then none else
 if p.1<0∨p8 q p.2<0∨(p8 q p.2=0∧r.b<l[p.1.toNat]!.b) then some ((i:Int),q) else some p
def jg(l:List Row)(s:Nat)(z:Nu):Nat→Option (Int×Nu)
 |0=>some (-1,z)
 |i+1=>match jg l s z i with
  |none=>none
  |some p=>rR l s p i
section
theorem iS(a:Nu):(dC (au.f a)).length=36:=by rw[eE,au.h];rfl
section
variable {dr:Bool} {ty:TypeId} {ev:Operand→D} {hp hp':Hp} {k o:Nat} {F F2:List D} {F':List D→List D} {x y:Operand} {a b:Nu}
theorem ldN(L:Pt F o (dC (au.f a)) F')(hv:hp.vars.lookup k=some F)(hk:k<hp.next)(hx:ev x=.pt k o:=by exact rfl):AVC prog tbl dr (.load 43 x) ty ev hp (Kq (dG au a) hp):=CP L hv hk aO (iS a) rfl hx
theorem stN(L:Pt F o (dC (au.f a)) F')(hv:hp.vars.lookup k=some F)(h2:F' (dC (au.f b))=F2)(hx:ev x=.pt k o:=by exact rfl)(hy:ev y=dG au b:=by exact rfl)(he:hp.set k F2=hp':=by exact rfl):AVC prog tbl dr (.store 43 x y) ty ev hp (Kq .top hp'):=
 Hz (ys:=dC (au.f b)) L hv (by rw[hy];rfl) aO (iS a) (by rw[iS,iS]) h2 hx he
theorem Pt.idN(a:Nu):Pt (dC (au.f a)) 0 (dC (au.f a)) id:=Pt.of [] [] rfl (by simp) (fun y=>by simp)
end
section
variable {vs vs2 pd:List (Nat×List D)} {lv:List (Nat×Nat×Nat×TypeId)} {N n2 k:Nat}
theorem cp.lt(hok:cp ⟨vs,lv,N⟩){ds:List D}(h:vs.lookup k=some ds):k<N:=(hok.var k ds h).1
theorem cp.ne(hok:cp ⟨vs,lv,N⟩){ds:List D}(h:vs.lookup k=some ds){m:Nat}(hm:N≤m):k≠m:=by have:=hok.lt h;omega
theorem al {j m:Nat}{b:List D}{l:List (Nat×List D)}{r:Option (List D)}(hj:j≠m)(h:l.lookup j=r):((m,b)::l).lookup j=r:=(ao hj).trans h
theorem Pt.ids {F bs:List D}{o:Nat}{F':List D→List D}(L:Pt F o bs F'){ys:List D}(hl:ys.length=bs.length)(hF:F.all (D.idsC N)=true)(hy:ys.all (D.idsC N)=true):(F' ys).all (D.idsC N)=true:=by
 rw[←L.p ys hl,lW,lW,cm,cm]
 have hF':=bc.1 hF
 exact⟨⟨bc.2 fun d hd=>hF' d (Pg hd),hy⟩,bc.2 fun d hd=>hF' d (UE hd)⟩
theorem eD(l:List E):(dC l).all (D.idsC N)=true:=IN (fun _=>rfl) l
theorem leave {x:Cx}{tm tm':List (Nat×D)}{rs:List ResultVar}{r:D}(h0:x.hp0=⟨vs,lv,N⟩)(hok:cp ⟨vs,lv,N⟩)(hN:N≤n2)(ht:∀p∈tm',(∃d,tm.lookup p.1=some d∧(p.2=d∨p.2=d.ex))∧p.2.idsB N=true)
  (hv:∀j ds,pd.lookup j=some ds→(vs2.lookup j=some ds∧j<N∧ds.all (D.idsC N)=true)) (hr:tI tbl rs tm' ⟨pd,lv,N⟩ r):∃tm',Wk x tm ⟨vs2,lv,n2⟩ tm' ⟨pd,lv,N⟩∧tI tbl rs tm' ⟨pd,lv,N⟩ r:=by
 refine⟨tm',Wk.look (by rw[h0];exact az _) hN ht (fun j ds h=>?_) (fun id y h=>⟨hok.tok id y h,h⟩),hr⟩
 obtain⟨h1,h2,h3⟩:=hv j ds h
 exact⟨h2,ds,h1,rj _,h3⟩
theorem So {x:Cx}{tm:List (Nat×D)}{F F2:List D}(h0:x.hp0=⟨vs,lv,N⟩)(hok:cp ⟨vs,lv,N⟩)(hN:N≤n2)(hk:vs.lookup k=some F)(hF:F2.all (D.idsC N)=true)(SE:vs2.lookup k=some F2)(hv:∀j ds,j≠k→vs.lookup j=some ds→vs2.lookup j=some ds):
  ∃tm',Wk x tm ⟨vs2,lv,n2⟩ tm' ⟨(k,F2)::vs,lv,N⟩∧tI tbl [] tm' ⟨(k,F2)::vs,lv,N⟩ (.tu []):=by
 refine leave (tm':=[]) h0 hok hN (fun p hp=>absurd hp (qG)) (fun j ds h=>?_) rfl
 by_cases hj:j=k
 ·subst hj
  have:some F2=some ds:=by rw[←h];exact aa.symm
  injection this with this
  subst this
  exact⟨SE,hok.lt hk,hF⟩
 ·have h1:vs.lookup j=some ds:=by rw[←h];exact (ao hj).symm
  exact⟨hv j ds hj h1,hok.lt h1,(hok.var j ds h1).2⟩
theorem h_sum {o kq:Nat}{F:List D}{F':List D→List D}{q a y:Nu}(hk:vs.lookup k=some F)(hN:k<N)(L:Pt F o (dC (au.f a)) F')(hq:vs.lookup kq=some (dC (au.f q)))(hqN:kq<N):
  HC prog 156 [.pt k o,dG au y,.pt kq 0] ⟨vs,lv,N⟩ (.tu []) ⟨(k,F' (dC (au.f (jJ a (iy q y)))))::vs,lv,N⟩:=by
 refine HC.of (rs:=[]) tok func156 rfl rfl (bi rfl) rfl (fun cx hx h0 hok=>?_)
 simp only[fG,Nat.reduceAdd,bt]
 refine rs hx fun K hK=>?_
 refine sa ?_
 refine nl hK ?_
 have xy:=hok.ne hk (az N)
 have hqn:=hok.ne hq (az N)
 refine rqd [29,66] hx fun K hK=>?_
 iterate 3 refine sa ?_
 refine s1 (ldN L (al xy hk) (yz hN)) ?_
 refine s1 (ldN (Pt.idN q) (al hqn hq) (yz hqN)) ?_
 refine s1 (ldN (Pt.idN y) aa (ew _)) ?_
 refine cq (w_Mul q y) ?_
 refine cq (w_Add a _) ?_
 refine sa ?_
 refine s0 (stN L (al xy hk) rfl) ?_
 refine nl hK ?_
 exact So h0 hok (jw _) hk (L.ids (by rw[iS,iS]) (hok.var k F hk).2 (eD _)) aa fun j ds hj h=>al hj (al (hok.ne h (az N)) h)
theorem To {o kp:Nat}{F:List D}{F':List D→List D}{p a:Nu}(hk:vs.lookup k=some F)(hN:k<N)(L:Pt F o (dC (au.f a)) F')(hq:vs.lookup kp=some (dC (au.f p)))(hqN:kp<N):
  HC prog 152 [.pt k o,.pt kp 0] ⟨vs,lv,N⟩ (.tu []) ⟨(k,F' (dC (au.f (n6 (e9 a) p))))::vs,lv,N⟩:=by
 refine HC.of (rs:=[]) tok func152 rfl rfl (bi rfl) rfl (fun cx hx h0 hok=>?_)
 simp only[fG,Nat.reduceAdd,bt]
 refine rqd [42,153] hx fun K hK=>?_
 iterate 3 refine sa ?_
 refine s1 (ldN L hk hN) ?_
 refine cq (JU a) ?_
 refine s1 (ldN (Pt.idN p) hq hqN) ?_
 refine cq (Rn _ p) ?_
 refine sa ?_
 refine s0 (stN L hk rfl) ?_
 refine nl hK ?_
 exact So h0 hok (az _) hk (L.ids (by rw[iS,iS]) (hok.var k F hk).2 (eD _)) aa fun j ds hj h=>al hj h
theorem cp.cons {M:Nat}{ds:List D}(hok:cp ⟨vs,lv,N⟩)(hN:N≤M)(hk:k<M)(hd:ds.all (D.idsC M)=true):cp ⟨(k,ds)::vs,lv,M⟩:=by
 refine⟨fun j es h=>?_,fun id e h=>bJ (hok.tok id e h) hN⟩
 by_cases hj:j=k
 ·subst hj
  have:some ds=some es:=by rw[←h];exact aa.symm
  injection this with this
  subst this
  exact⟨hk,hd⟩
 ·obtain⟨h1,h2⟩:=hok.var j es (by rw[←h];exact (ao hj).symm)
  exact⟨bJ h1 hN,bc.2 fun d hd=>D.idsC_le hN (bc.1 h2 d hd)⟩
def bG(n:Nat)(tm tm':List (Nat×D)):Prop:=∀p∈tm',(∃d,tm.lookup p.1=some d∧(p.2=d∨p.2=d.ex))∧p.2.idsB n=true
theorem bG.nil {n:Nat}{tm:List (Nat×D)}:bG n tm []:=fun p hp=>absurd hp (qG)
theorem bG.cons {n t:Nat}{d:D}{tm tm':List (Nat×D)}(h2:bG n tm tm')(h:tm.lookup t=some d:=by exact rfl)(hi:d.idsB n=true:=by exact rfl):bG n tm ((t,d)::tm'):=fun p hp=>by
 rcases kK.1 hp with rfl|hp
 ·exact⟨⟨d,h,.inl rfl⟩,hi⟩
 ·exact h2 p hp
theorem wkS {x:Cx}{tm tm':List (Nat×D)}{n':Nat}(h0:x.hp0.next≤n')(hn:n'≤n2)(hok:cp ⟨pd,lv,n'⟩)(hv:∀j ds,pd.lookup j=some ds→vs2.lookup j=some ds)(ht:bG n' tm tm'):Wk x tm ⟨vs2,lv,n2⟩ tm' ⟨pd,lv,n'⟩:=
 Wk.look h0 hn ht (fun j ds h=>⟨(hok.var j ds h).1,ds,hv j ds h,rj _,(hok.var j ds h).2⟩) fun id y h=>⟨hok.tok id y h,h⟩
theorem wH {j:Nat}{a b:List D}{l:List (Nat×List D)}:((k,b)::(k,a)::l).lookup j=((k,b)::l).lookup j:=by
 by_cases hj:j=k
 ·subst hj;rw[aa,aa]
 ·rw[ao hj,ao hj,ao hj]
theorem b8 {j a:Nat}{x ds:List D}{l:List (Nat×List D)}(h:((a,x)::l).lookup j=some ds):(j=a∧ds=x)∨(j≠a∧l.lookup j=some ds):=by
 by_cases hj:j=a
 ·subst hj
  have:some x=some ds:=by rw[←h];exact aa.symm
  injection this with this
  exact .inl ⟨rfl,this.symm⟩
 ·exact .inr ⟨hj,by rw[←h];exact (ao hj).symm⟩
theorem Sm {x:Cx}{tm:List (Nat×D)}(h0:x.hp0=⟨vs,lv,N⟩)(hN:N≤n2)(hok:cp ⟨pd,lv,N⟩)(hv:∀j ds,pd.lookup j=some ds→vs2.lookup j=some ds):∃tm',Wk x tm ⟨vs2,lv,n2⟩ tm' ⟨pd,lv,N⟩∧tI tbl [] tm' ⟨pd,lv,N⟩ (.tu []):=
 ⟨[],wkS (by rw[h0];exact az _) hN hok hv bG.nil,rfl⟩
def aY(a:Nu)(kc n:Nat):List D:=dC (au.f a)++[.ow kc 0 36 n]
theorem bT(a:Nu)(kc n:Nat):(aY a kc n).length=37:=by unfold aY;rw[cD,iS];rfl
theorem iU {M:Nat}{a:Nu}{kc n:Nat}(h:kc<M):(aY a kc n).all (D.idsC M)=true:=by
 unfold aY;rw[lW,eD];simp[D.idsC,h]
structure o8(F:List D)(o:Nat)(a:Nu)(kc n:Nat)(A C:List D):Prop where
 len:A.length=o
 eq:F=A++aY a kc n++C
section
variable {F A C:List D} {o kc n:Nat} {a:Nu}
theorem o8.pk(h:o8 F o a kc n A C):Pt F o (dC (au.f a)) (fun ys=>A++(ys++[.ow kc 0 36 n])++C):=
 Pt.of A ([.ow kc 0 36 n]++C) h.len (by rw[h.eq];unfold aY;simp only[da]) fun y=>by simp only[da]
theorem o8.pc(h:o8 F o a kc n A C):Pt F (o+36) [.ow kc 0 36 n] (fun ys=>A++(dC (au.f a)++ys)++C):=
 Pt.of (A++dC (au.f a)) C (by rw[cD,h.len,iS]) (by rw[h.eq];unfold aY;simp only[da]) fun y=>by simp only[da]
theorem o8.pa(h:o8 F o a kc n A C):Pt F o (aY a kc n) (fun ys=>A++ys++C):=Pt.of A C h.len h.eq fun y=>rfl
theorem o8.self(a:Nu)(kc n:Nat):o8 (aY a kc n) 0 a kc n [] []:=⟨rfl,by simp⟩
theorem o8.new(h:o8 F o a kc n A C)(b:Nu):o8 (A++aY b kc n++C) o b kc n A C:=⟨h.len,rfl⟩
end
theorem Pt.elN(l:List Nu)(i:Nat)(h:i<l.length):Pt (dC ((cW au).f l)) (0+i*36) (dC (au.f l[i]!)) (fun ys=>(dC ((cW au).f l)).take (0+i*36)++ys++(dC ((cW au).f l)).drop (0+i*36+36)):=by
 have L:=bV.seqW au l i h
 have e:au.sz=36:=rfl
 rw[e] at L
 refine⟨?_,?_,fun ys hy=>by rw[iS]⟩
 ·have:=L.le
  rw[iS,eE];exact this
 ·have:=L.g
  rw[iS]
  unfold dC
  rw[←zx,←w9]
  exact congrArg _ this
theorem Pt.elN_set(l:List Nu)(i:Nat)(h:i<l.length)(b:Nu):(dC ((cW au).f l)).take (0+i*36)++dC (au.f b)++(dC ((cW au).f l)).drop (0+i*36+36)=dC ((cW au).f (l.set i b)):=by
 have L:=bV.seqW au l i h
 have e:au.sz=36:=rfl
 rw[e] at L
 have:=L.p b
 rw[e] at this
 unfold dC
 rw[←w9,←zx,←gK,←gK]
 exact congrArg _ this
end
end
section
theorem bU {t:Nat}(h:t<9223372036854775807:=by omega):i64.wrap ((t:Int)+1)=((t+1:Nat):Int):=by
 rw[ee (by omega) (by omega)];omega
section
variable {vs:List (Nat×List D)} {lv:List (Nat×Nat×Nat×TypeId)} {N kl ol kc kx n:Nat} {F A C:List D} {lk xk q:Nu} {lc xc:List Nu} {but:Int}
theorem h_add(hl:vs.lookup kl=some F)(L:o8 F ol lk kc n A C)(hc:vs.lookup kc=some (dC ((cW au).f lc)))(hlc:lc.length=n)(xx:vs.lookup kx=some (dC ((cW au).f xc)))(hxc:xc.length=n)(h1:kl≠kc)(h2:kx≠kc)(h3:kx≠kl)(hn:n≤1000000):
  HC prog 108 [.pt kl ol,dG au q,.ag (aY xk kx n),dI .i64 but] ⟨vs,lv,N⟩ (.tu []) ⟨(kc,dC ((cW au).f (ui q xc but lc)))::(kl,A++aY (xb q xk lk) kc n++C)::vs,lv,N⟩:=by
 refine HC.of (rs:=[]) tok func108 rfl rfl (bi rfl) rfl (fun cx hx h0 hok=>?_)
 simp only[fG,Nat.reduceAdd,bt]
 refine rs hx fun K hK=>?_
 refine sa ?_
 refine s1 (gP (cs:=aY xk kx n)) ?_
 refine nl hK ?_
 have hlN:=hok.lt hl
 have hcN:=hok.lt hc
 have hxN:=hok.lt xx
 have hFi:(A++aY lk kc n++C).all (D.idsC N)=true:=by rw[←L.eq];exact (hok.var kl F hl).2
 have CY:∀(lk':Nu) (lc':List Nu) (M:Nat),N≤M→cp ⟨(kc,dC ((cW au).f lc'))::(kl,A++aY lk' kc n++C)::vs,lv,M⟩:=fun lk' lc' M hM=>by
  refine (cp.cons (N:=M) (hok.cons hM (bJ hlN hM) ?_) (az _) (bJ hcN hM) (eD _))
  rw[lW,lW,cm,cm] at hFi ⊢
  exact⟨⟨bc.2 fun d hd=>D.idsC_le hM (bc.1 hFi.1.1 d hd),iU (bJ hcN hM)⟩,bc.2 fun d hd=>D.idsC_le hM (bc.1 hFi.2 d hd)⟩
 have hFi2:=CY
 have uu:kc≠kl:=fun e=>h1 e.symm
 refine AW.seq (rs hx fun K hK=>?_)
 refine s1 (ldN (Pt.idN q) (al (by omega) aa) (show N<N+1+1 by omega)) ?_
 refine cq (yL q) ?_
 refine sa ?_
 refine nl hK ?_
 refine AW.condS rfl (fun hb=>?_) (fun hb=>?_)
 ·have hq:bL q=0:=bC hb
  refine AW.ret (Sm h0 (by omega) (CY _ _ N (az _)) fun j ds h=>?_)
  unfold ui xb at h
  rw[ai hq,ai hq] at h
  have hj:=(CY lk lc N (az _)).lt h
  refine al (show j≠N+1 by omega) (al (show j≠N by omega) ?_)
  rcases b8 h with⟨rfl,rfl⟩|⟨_,h⟩
  ·exact hc
  rcases b8 h with⟨rfl,rfl⟩|⟨_,h⟩
  ·rw[←L.eq];exact hl
  ·exact h
 have hq:¬bL q=0:=dE hb
 refine AW.skip (rs hx fun K hK=>?_)
 refine s1 (Fq (ks:=[N])) ?_
 refine sa ?_
 refine nl hK ?_
 refine rsd [] hx fun K hK=>?_
 iterate 5 refine sa ?_
 refine s1 (ldN (o8.self xk kx n).pk aa (show N+1<N+1+1 by omega)) ?_
 refine q1 (sHF (h_sum (vs:=(N+1,aY xk kx n)::(N,dC (au.f q))::vs) (N:=N+1+1) (al (show kl≠N+1 by omega) (al (show kl≠N by omega) hl)) (show kl<N+1+1 by omega) L.pk (al (show N≠N+1 by omega) aa) (show N<N+1+1 by omega)) rfl) ?_
 refine nl hK ?_
 refine rs hx fun K hK=>?_
 iterate 3 refine sa ?_
 refine s1 (kC (L.new (jJ lk (iy q xk))).pc aa (show kl<N+1+1 by omega) tbI) ?_
 iterate 2 refine sa ?_
 refine nl hK ?_
 have Iv:∀t,cp ⟨(kc,dC ((cW au).f (xX q xc but t lc)))::(kl,A++aY (jJ lk (iy q xk)) kc n++C)::(N+1,aY xk kx n)::(N,dC (au.f q))::vs,lv,N+1+1⟩:=fun t=>by
  have ME:cp ⟨(N+1,aY xk kx n)::(N,dC (au.f q))::vs,lv,N+1+1⟩:=(cp.cons (N:=N+1) (hok.cons (jw N) (ew N) (eD _)) (jw _) (ew _) (iU (by omega)))
  refine cp.cons (N:=N+1+1) (ME.cons (az _) (show kl<N+1+1 by omega) ?_) (az _) (show kc<N+1+1 by omega) (eD _)
  exact ((CY (jJ lk (iy q xk)) lc (N+1+1) (by omega)).var kl _ (al h1 aa)).2
 have hTm:∀(t:Nat) (tm:List (Nat×D)),tm.lookup 0=some (.pt kl ol)→tm.lookup 3=some (dI .i64 but)→tm.lookup 6=some (.pt (N+1) 0)→tm.lookup 8=some (.fn 156 [N])→tm.lookup 25=some (dI .i64 n)→tm.lookup 26=some (dI .i64 t)→bG (N+1+1) tm [(0,.pt kl ol),(3,dI .i64 but),(6,.pt (N+1) 0),(8,.fn 156 [N]),(25,dI .i64 n),(26,dI .i64 t)]:=fun t tm a b c d e f=>
  ((((((bG.nil.cons f).cons e).cons d (bc.2 fun k hk=>aB (by rw[qF.1 hk];omega))).cons c (aB (show N+1<N+1+1 by omega))).cons b).cons a (aB (show kl<N+1+1 by omega)))
 refine AW.block ?_
 refine AW.loopW (fun t:Nat=>[(0,.pt kl ol),(3,dI .i64 but),(6,.pt (N+1) 0),(8,.fn 156 [N]),(25,dI .i64 n),(26,dI .i64 t)])
  (fun t=>⟨(kc,dC ((cW au).f (xX q xc but t lc)))::(kl,A++aY (jJ lk (iy q xk)) kc n++C)::(N+1,aY xk kx n)::(N,dC (au.f q))::vs,lv,N+1+1⟩) (fun t=>t≤n) (fun t=>n - t) 0 ?_ (cr _) ?_
 ·refine wkS (by rw[h0];show N≤N+1+1;omega) (az _) (Iv 0) (fun j ds h=>?_) (hTm 0 _ rfl rfl rfl rfl rfl rfl)
  rcases b8 h with⟨rfl,rfl⟩|⟨_,h⟩
  ·exact al uu (al (show j≠N+1 by omega) (al (show j≠N by omega) hc))
  ·exact h
 ·intro t ht
  have MH:(xX q xc but t lc).length=n:=by rw[qq,hlc]
  refine rs hx fun K hK=>?_
  refine sa ?_
  refine nl hK ?_
  refine AW.seq (AW.condS rfl (fun hb=>?_) (fun hb=>?_))
  rotate_left
  ·refine AW.exit ?_
   have htn:t=n:=by have:=dE hb;omega
   refine Sm h0 (by omega) (CY _ _ N (az _)) fun j ds h=>?_
   have hj:=(CY _ _ N (az _)).lt h
   unfold ui xb at h
   rw[ah hq,ah hq,hlc] at h
   rw[htn]
   rcases b8 h with⟨rfl,rfl⟩|⟨OH,h⟩
   ·exact aa
   rcases b8 h with⟨rfl,rfl⟩|⟨Cu,h⟩
   ·exact al h1 aa
   ·exact al OH (al Cu (al (show j≠N+1 by omega) (al (show j≠N by omega) h)))
  have htn:t<n:=by have:=bC hb;omega
  refine AW.skip (AW.seq (AW.block (rs hx fun K hK=>?_)))
  iterate 2 refine sa ?_
  refine nl hK ?_
  refine rs hx fun K hK=>?_
  iterate 3 refine sa ?_
  refine nl hK ?_
  refine AW.condS rfl (fun hb=>?_) (fun hb=>?_)
  ·have hbt:¬(t:Int)=but:=bC hb
   refine rqd [] hx fun K hK=>?_
   iterate 4 refine sa ?_
   refine s1 (kC (L.new (jJ lk (iy q xk))).pc (al h1 aa) (show kl<N+1+1 by omega) tbI) ?_
   refine sa ?_
   refine s1 (xg (v:=(t:Int)) (n:=n) ⟨by omega,by omega⟩ tbI aO) ?_
   refine sa ?_
   refine s1 (kC (o8.self xk kx n).pc (al (show N+1≠kc by omega) (al (show N+1≠kl by omega) aa)) (show N+1<N+1+1 by omega) tbI) ?_
   refine sa ?_
   refine s1 (xg (v:=(t:Int)) (n:=n) ⟨by omega,by omega⟩ tbI aO) ?_
   refine s1 (ldN (Pt.elN xc t (by omega)) (al h2 (al h3 (al (show kx≠N+1 by omega) (al (show kx≠N by omega) xx)))) (show kx<N+1+1 by omega)) ?_
   refine q1 (sHF (h_sum aa (show kc<N+1+1 by omega) (Pt.elN (xX q xc but t lc) t (by omega)) (al (show N≠kc by omega) (al (show N≠kl by omega) (al (show N≠N+1 by omega) aa))) (show N<N+1+1 by omega)) rfl) ?_
   refine nl hK ?_
   refine rq hx fun K hK=>?_
   iterate 2 refine sa ?_
   refine nl hK ?_
   rw[bU]
   refine⟨t+1,wkS (by rw[h0];show N≤N+1+1;omega) (az _) (Iv (t+1)) (fun j ds h=>?_) (hTm (t+1) _ rfl rfl rfl rfl rfl rfl),htn,by omega⟩
   rw[Pt.elN_set _ _ (by omega),wH]
   unfold xX at h
   rw[ah hbt] at h
   exact h
  ·have hbt:(t:Int)=but:=by have:=dE hb;simpa using this
   refine AW.skip (rq hx fun K hK=>?_)
   iterate 2 refine sa ?_
   refine nl hK ?_
   rw[bU]
   refine⟨t+1,wkS (by rw[h0];show N≤N+1+1;omega) (az _) (Iv (t+1)) (fun j ds h=>?_) (hTm (t+1) _ rfl rfl rfl rfl rfl rfl),htn,by omega⟩
   unfold xX at h
   rw[ai hbt] at h
   exact h
end
end
section
def zN:List E:=(List.replicate 2 (E.lit (.bool false))++List.replicate 16 (E.lit (.int .u32 0)))++(List.replicate 2 (E.lit (.bool false))++List.replicate 16 (E.lit (.int .u32 0)))
theorem Lt {dr:Bool}{ty:TypeId}{ev:Operand→D}{vs:List (Nat×List D)}{lv:List (Nat×Nat×Nat×TypeId)}{N:Nat}:AVC prog tbl dr (.alloc 43) ty ev ⟨vs,lv,N⟩ (Kq (.pt N 0) ⟨(N,dC zN)::vs,lv,N+1⟩):=yE aO
theorem Pt.zN:Pt (dC zN) 0 (dC zN) id:=Pt.of [] [] rfl (by simp) (fun y=>by simp)
theorem stZ {dr:Bool}{ty:TypeId}{ev:Operand→D}{hp hp':Hp}{k:Nat}{x y:Operand}{b:Nu}(hv:hp.vars.lookup k=some (dC zN))(hx:ev x=.pt k 0:=by exact rfl)(hy:ev y=dG au b:=by exact rfl)(he:hp.set k (dC (au.f b))=hp':=by exact rfl):AVC prog tbl dr (.store 43 x y) ty ev hp (Kq .top hp'):=
 Hz (ys:=dC (au.f b)) Pt.zN hv (by rw[hy];rfl) aO rfl (by rw[iS];rfl) rfl hx he
theorem iaN {dr:Bool}{ty:TypeId}{ev:Operand→D}{hp:Hp}{k i n:Nat}{kn:IntKind}{x y:Operand}(h:i<n)(hx:ev x=.ow k 0 36 n:=by exact rfl)(hy:ev y=dI kn (i:Int):=by exact rfl):AVC prog tbl dr (.indexAddr 22 x y) ty ev hp (Kq (.pt k (i*36)) hp):=by
 have:=xg (P:=prog) (tb:=tbl) (dr:=dr) (ty:=ty) (ev:=ev) (hp:=hp) (x:=x) (y:=y) (v:=(i:Int)) (n:=n) (kn:=kn) ⟨by omega,by omega⟩ bZ aO rfl hx rfl hy
 rwa[bW,bt] at this
theorem iaR {dr:Bool}{ty:TypeId}{ev:Operand→D}{hp:Hp}{k i n:Nat}{kn:IntKind}{x y:Operand}(h:i<n)(hx:ev x=.ow k 0 38 n:=by exact rfl)(hy:ev y=dI kn (i:Int):=by exact rfl):AVC prog tbl dr (.indexAddr 71 x y) ty ev hp (Kq (.pt k (i*38)) hp):=by
 have:=xg (P:=prog) (tb:=tbl) (dr:=dr) (ty:=ty) (ev:=ev) (hp:=hp) (x:=x) (y:=y) (v:=(i:Int)) (n:=n) (kn:=kn) ⟨by omega,by omega⟩ Cj tQ rfl hx rfl hy
 rwa[bW,bt] at this
theorem Pt.el(l:List Nu)(i:Nat)(h:i<l.length):Pt (dC ((cW au).f l)) (i*36) (dC (au.f l[i]!)) (fun ys=>(dC ((cW au).f l)).take (i*36)++ys++(dC ((cW au).f l)).drop (i*36+36)):=by
 have:=Pt.elN l i h
 rwa[bt] at this
theorem Pt.el_set(l:List Nu)(i:Nat)(h:i<l.length)(b:Nu):(dC ((cW au).f l)).take (i*36)++dC (au.f b)++(dC ((cW au).f l)).drop (i*36+36)=dC ((cW au).f (l.set i b)):=by
 have:=Pt.elN_set l i h b
 rwa[bt] at this
theorem sj {x:Cx}{c1 c2:Code}{tm:List (Nat×D)}{hp:Hp}{Q:Exit→List (Nat×D)→Hp→Prop}(T:List (Nat×D))(H:Hp)(h1:AW prog x c1 tm hp fun ex tm' hp'=>ex=.normal∧Wk x tm' hp' T H)(h2:AW prog x c2 T H Q):AW prog x (.seq c1 c2) tm hp Q:=by
 refine AW.seq (AW.mono h1 ?_)
 rintro ex tm' hp' ⟨rfl,hw⟩
 exact AW.weak hw h2
def iQ(C:Nat→Nat)(w i:Nat)(r:Row):List D:=aY r.k (C i) w++[dI .i64 r.b]
theorem tT(C:Nat→Nat)(w i:Nat)(r:Row):(iQ C w i r).length=38:=by unfold iQ;rw[cD,bT];rfl
def fY(C:Nat→Nat)(w:Nat):Nat→List Row→List D
 |_,[]=>[]
 |i,r::l=>iQ C w i r++fY C w (i+1) l
theorem Bh(C:Nat→Nat)(w:Nat):∀(i:Nat) (l:List Row),(fY C w i l).length=l.length*38
 |_,[]=>rfl
 |i,r::l=>by
  unfold fY
  rw[cD,tT,Bh C w (i+1) l,r9,bR]
  omega
theorem Bi(C:Nat→Nat)(w:Nat):∀(i:Nat) (l l2:List Row),fY C w i (l++l2)=fY C w i l++fY C w (i+l.length) l2
 |i,[],l2=>by simp[fY]
 |i,r::l,l2=>by
  show iQ C w i r++fY C w (i+1) (l++l2)=(iQ C w i r++fY C w (i+1) l)++fY C w (i+(l.length+1)) l2
  rw[Bi C w (i+1) l l2,da,show i+1+l.length=i+(l.length+1) by omega]
theorem RK(C:Nat→Nat)(w:Nat)(l:List Row)(j:Nat)(h:j<l.length):∃A B:List D,A.length=j*38∧∀r:Row,fY C w 0 (l.set j r)=A++iQ C w j r++B:=by
 refine⟨fY C w 0 (l.take j),fY C w (j+1) (l.drop (j+1)),?_,fun r=>?_⟩
 ·rw[Bh,ep,td (by omega)]
 ·rw[UI,ai h,Bi,ep,td (by omega),bt]
  show _++(iQ C w j r++_)=_
  rw[da]
theorem RH {l:List Row}{j:Nat}{r:Row}(h:l[j]? =some r):l.set j r=l:=by
 obtain⟨h1,h2⟩:=fL.1 h
 rw[←h2,List.set_getElem_self]
theorem mA(C:Nat→Nat)(w:Nat)(l:List Row)(j:Nat){r:Row}(h:l[j]? =some r):∃A B:List D,A.length=j*38∧(∀r:Row,fY C w 0 (l.set j r)=A++iQ C w j r++B)∧fY C w 0 l=A++iQ C w j r++B∧o8 (fY C w 0 l) (j*38) r.k (C j) w A ([dI .i64 r.b]++B)∧Pt (fY C w 0 l) (j*38+37) [dI .i64 r.b] (fun ys=>A++(aY r.k (C j) w++ys)++B):=by
 obtain⟨A,B,h1,h2⟩:=RK C w l j (fL.1 h).1
 have h3:=h2 r
 rw[RH h] at h3
 refine⟨A,B,h1,h2,h3,⟨h1,?_⟩,Pt.of (A++aY r.k (C j) w) B (by rw[cD,h1,bT]) ?_ fun y=>by simp only[da]⟩
 ·rw[h3];unfold iQ;simp only[da]
 ·rw[h3];unfold iQ;simp only[da]
theorem xr {C:Nat→Nat}{w M:Nat}:∀(i:Nat) (l:List Row),(∀j,j<l.length→C (i+j)<M)→(fY C w i l).all (D.idsC M)=true
 |_,[],_=>rfl
 |i,r::l,h=>by
  unfold fY iQ
  rw[lW,lW,iU (by have:=h 0 (by simp);simpa using this),xr (i+1) l (fun j hj=>by have:=h (j+1) (by simpa using hj);rwa[show i+(j+1)=i+1+j by omega] at this)]
  rfl
def fb(R:Nat)(l:List Row):D:=match l with
 |[]=>.e (.lit (.slice none 0 0))
 |_=>.gw R 38 l.length
theorem p7 {R:Nat}{l:List Row}(h:l≠[]):fb R l=.gw R 38 l.length:=by cases l with|nil=>exact absurd rfl h|cons r l=>rfl
def mX(R G w:Nat)(d:Dic):List D:=[fb R d.rows]++aY d.gk G w++[dI .i64 d.n,dI .i64 d.piv,dI .i64 d.most]
structure DAt(vs:List (Nat×List D))(kd R G:Nat)(C:Nat→Nat)(w:Nat)(d:Dic):Prop where
 hd:vs.lookup kd=some (mX R G w d)
 hR:d.rows≠[]→vs.lookup R=some (fY C w 0 d.rows)
 hG:vs.lookup G=some (dC ((cW au).f d.gc))
 hC:∀(i:Nat) (r:Row),d.rows[i]? =some r→vs.lookup (C i)=some (dC ((cW au).f r.c))
 lG:d.gc.length=w
 lC:∀(i:Nat) (r:Row),d.rows[i]? =some r→r.c.length=w
structure Dif(m kd R G:Nat)(C:Nat→Nat):Prop where
 dR:kd≠R
 dG:kd≠G
 RG:R≠G
 C1:∀i,i<m→C i≠kd∧C i≠R∧C i≠G
 C2:∀i j,i<m→j<m→C i=C j→i=j
def cOv(C:Nat→Nat):Nat→List Row→List (Nat×List D)
 |_,[]=>[]
 |i,r::l=>(C i,dC ((cW au).f r.c))::cOv C (i+1) l
def rOv(R:Nat)(C:Nat→Nat)(w:Nat)(l:List Row):List (Nat×List D):=match l with
 |[]=>[]
 |_=>[(R,fY C w 0 l)]
def ov(kd R G:Nat)(C:Nat→Nat)(w:Nat)(d:Dic)(vs:List (Nat×List D)):List (Nat×List D):=(kd,mX R G w d)::(G,dC ((cW au).f d.gc))::(rOv R C w d.rows++(cOv C 0 d.rows++vs))
theorem Uj {C:Nat→Nat}{j:Nat}{r:Row}{vs:List (Nat×List D)}{m:Nat}(hC:∀i j,i<m→j<m→C i=C j→i=j):∀(i:Nat) (l:List Row),i+l.length≤m→l[j]? =some r→(cOv C i l++vs).lookup (C (i+j))=some (dC ((cW au).f r.c))
 |_,[],_,h=>by simp at h
 |i,s::l,hm,h=>by
  unfold cOv
  rw[EY]
  cases j with
  |zero=>
   simp at h
   subst h
   exact aa
  |succ j=>
   have bK:=(fL.1 h).1
   simp only[r9] at hm bK
   refine al (fun e=>?_) ?_
   ·have:=hC _ _ (by omega) (by omega) e;omega
   ·rw[show i+(j+1)=i+1+j by omega]
    exact Uj hC (i+1) l (by omega) (by simpa using h)
theorem O7 {C:Nat→Nat}{k:Nat}{vs:List (Nat×List D)}:∀(i:Nat) (l:List Row),(∀j,j<l.length→k≠C (i+j))→(cOv C i l++vs).lookup k=vs.lookup k
 |_,[],_=>rfl
 |i,s::l,h=>by
  unfold cOv
  rw[EY]
  exact al (h 0 (by simp)) (O7 (i+1) l fun j hj=>by have:=h (j+1) (by simpa using hj);rwa[show i+(j+1)=i+1+j by omega] at this)
theorem RT {R:Nat}{C:Nat→Nat}{w:Nat}{l:List Row}{k:Nat}{vs:List (Nat×List D)}(h:k≠R):(rOv R C w l++vs).lookup k=vs.lookup k:=by
 cases l with
 |nil=>rfl
 |cons r l=>exact ao h
section
variable {kd R G w:Nat} {C:Nat→Nat} {d d':Dic} {vs vs2:List (Nat×List D)}
theorem DAt.ov(hf:Dif d.rows.length kd R G C)(lG:d.gc.length=w)(lC:∀(i:Nat) (r:Row),d.rows[i]? =some r→r.c.length=w):DAt (ov kd R G C w d vs) kd R G C w d:=by
 refine⟨aa,fun fI=>?_,al hf.dG.symm aa,fun i r h=>?_,lG,lC⟩
 ·refine al hf.dR.symm (al hf.RG ?_)
  cases hl:d.rows with
  |nil=>exact absurd hl fI
  |cons r l=>exact aa
 ·have hi:=(fL.1 h).1
  obtain⟨h1,h2,h3⟩:=hf.C1 i hi
  refine al h1 (al h3 ?_)
  rw[RT h2]
  have:=Uj (vs:=vs) hf.C2 0 d.rows (by omega) h
  rwa[bt] at this
theorem H9 {k:Nat}(h1:k≠kd)(h2:k≠R)(h3:k≠G)(h4:∀j,j<d.rows.length→k≠C j):(ov kd R G C w d vs).lookup k=vs.lookup k:=by
 refine al h1 (al h3 ?_)
 rw[RT h2]
 exact O7 0 _ fun j hj=>by rw[bt];exact h4 j hj
theorem DV(hf:Dif d.rows.length kd R G C)(h:DAt vs2 kd R G C w d)(hr:∀k ds,k≠kd→k≠R→k≠G→(∀j,j<d.rows.length→k≠C j)→vs.lookup k=some ds→vs2.lookup k=some ds)(hnil:d.rows=[]→∀ds,vs.lookup R=some ds→vs2.lookup R=some ds):
  ∀k ds,(ov kd R G C w d vs).lookup k=some ds→vs2.lookup k=some ds:=by
 intro k ds hk
 have h0:=DAt.ov (vs:=vs) hf h.lG h.lC
 by_cases h1:k=kd
 ·subst h1;rw[h0.hd] at hk;rw[h.hd];exact hk
 by_cases h2:k=R
 ·subst h2
  by_cases fI:d.rows=[]
  ·refine hnil fI ds ?_
   rw[←hk]
   refine Eq.symm (al h1 (al hf.RG ?_))
   rw[fI];rfl
  ·rw[h0.hR fI] at hk;rw[h.hR fI];exact hk
 by_cases h3:k=G
 ·subst h3;rw[h0.hG] at hk;rw[h.hG];exact hk
 by_cases h4:∀j,j<d.rows.length→k≠C j
 ·rw[H9 h1 h2 h3 h4] at hk
  exact hr k ds h1 h2 h3 h4 hk
 ·obtain⟨j,hj⟩:=Np.1 h4
  obtain⟨OH,Cu⟩:=No.1 hj
  have Cu:=BW.1 Cu
  subst Cu
  have hr:=cC OH
  rw[h0.hC j _ hr] at hk;rw[h.hC j _ hr];exact hk
theorem r4 {M:Nat}(hR:R<M)(hG:G<M):(mX R G w d).all (D.idsC M)=true:=by
 unfold mX
 rw[lW,lW,iU hG]
 cases d.rows <;> simp[fb,D.idsC,hR]
theorem Cp {lv:List (Nat×Nat×Nat×TypeId)}{N:Nat}(hok:cp ⟨vs,lv,N⟩)(hd:kd<N)(hR:R<N)(hG:G<N)(hC:∀j,j<d.rows.length→C j<N):cp ⟨ov kd R G C w d vs,lv,N⟩:=by
 have h1:∀(i:Nat) (l:List Row),(∀j,j<l.length→C (i+j)<N)→cp ⟨cOv C i l++vs,lv,N⟩:=by
  intro i l
  induction l generalizing i with
  |nil=>intro _;exact hok
  |cons r l ih=>
   intro h
   exact (ih (i+1) fun j hj=>by have:=h (j+1) (by simpa using hj);rwa[show i+(j+1)=i+1+j by omega] at this).cons (az _) (h 0 (by simp)) (eD _)
 have h2:cp ⟨rOv R C w d.rows++(cOv C 0 d.rows++vs),lv,N⟩:=by
  have h3:=h1 0 d.rows fun j hj=>by rw[bt];exact hC j hj
  cases hl:d.rows with
  |nil=>rw[hl] at h3;exact h3
  |cons r l=>
   rw[hl] at h3
   refine h3.cons (az _) hR (xr 0 _ fun j hj=>?_)
   rw[bt];exact hC j (by rw[hl];exact hj)
 exact (h2.cons (az _) hG (eD _)).cons (az _) hd (r4 hR hG)
end
end
section
section
variable {kd R G w:Nat} {C:Nat→Nat} {d:Dic} {vs vs2:List (Nat×List D)}
theorem PP {R:Nat}{l l2:List Row}(h:l.length=l2.length):fb R l=fb R l2:=by
 cases l with
 |nil=>cases l2 with
  |nil=>rfl
  |cons _ _=>simp at h
 |cons _ _=>cases l2 with
  |nil=>simp at h
  |cons _ _=>show D.gw R 38 _=D.gw R 38 _;rw[h]
theorem DAt.look(h:DAt vs kd R G C w d)(h2:∀k ds,(k=kd∨k=R∨k=G∨∃i,i<d.rows.length∧k=C i)→vs.lookup k=some ds→vs2.lookup k=some ds):DAt vs2 kd R G C w d:=
 ⟨h2 _ _ (.inl rfl) h.hd,fun fI=>h2 _ _ (.inr (.inl rfl)) (h.hR fI),h2 _ _ (.inr (.inr (.inl rfl))) h.hG,fun i r hr=>h2 _ _ (.inr (.inr (.inr ⟨i,(fL.1 hr).1,rfl⟩))) (h.hC i r hr),h.lG,h.lC⟩
theorem DAt.setRow(h:DAt vs kd R G C w d)(hf:Dif d.rows.length kd R G C){j:Nat}(hj:j<d.rows.length)(r:Row)(hl:r.c.length=w)(hR:vs2.lookup R=some (fY C w 0 (d.rows.set j r)))(hC:vs2.lookup (C j)=some (dC ((cW au).f r.c)))
  (h2:∀k ds,k≠R→k≠C j→vs.lookup k=some ds→vs2.lookup k=some ds):DAt vs2 kd R G C w ⟨d.rows.set j r,d.gk,d.gc,d.n,d.piv,d.most⟩:=by
 obtain⟨h3,h4,h5⟩:=hf.C1 j hj
 refine⟨?_,fun _=>hR,h2 _ _ hf.RG.symm h5.symm h.hG,fun i r' hr=>?_,h.lG,fun i r' hr=>?_⟩
 ·have:mX R G w ⟨d.rows.set j r,d.gk,d.gc,d.n,d.piv,d.most⟩=mX R G w d:=by
   unfold mX
   rw[show fb R (d.rows.set j r)=fb R d.rows from PP (c7 ..)]
  rw[this]
  exact h2 _ _ hf.dR h3.symm h.hd
 ·by_cases Cw:i=j
  ·subst Cw
   rw[Hq hj] at hr
   injection hr with hr
   subst hr
   exact hC
  ·rw[BU (fun e=>Cw e.symm)] at hr
   have hi:=(fL.1 hr).1
   exact h2 _ _ (hf.C1 i hi).2.1 (fun e=>Cw (hf.C2 i j hi hj e)) (h.hC i r' hr)
 ·by_cases Cw:i=j
  ·subst Cw
   rw[Hq hj] at hr
   injection hr with hr
   subst hr
   exact hl
  ·rw[BU (fun e=>Cw e.symm)] at hr
   exact h.lC i r' hr
theorem DAt.setDic(h:DAt vs kd R G C w d)(hf:Dif d.rows.length kd R G C)(d':Dic)(hr:d'.rows=d.rows)(hl:d'.gc.length=w)(hd:vs2.lookup kd=some (mX R G w d'))(hG:vs2.lookup G=some (dC ((cW au).f d'.gc)))
  (h2:∀k ds,k≠kd→k≠G→vs.lookup k=some ds→vs2.lookup k=some ds):DAt vs2 kd R G C w d':=by
 refine⟨hd,fun fI=>?_,hG,fun i r hi=>?_,hl,fun i r hi=>?_⟩
 ·rw[hr] at fI ⊢
  exact h2 _ _ hf.dR.symm hf.RG (h.hR fI)
 ·rw[hr] at hi
  obtain⟨h3,h4,h5⟩:=hf.C1 i (fL.1 hi).1
  exact h2 _ _ h3 h5 (h.hC i r hi)
 ·rw[hr] at hi
  exact h.lC i r hi
end
theorem xw {k:Nat}{os:List Nat}(h:k∉os):∀{l:List (Nat×List D)} {ds:List D},l.lookup k=some ds→(l.filter fun p=>!os.contains p.1).lookup k=some ds
 |[],_,h'=>by simp at h'
 |(j,a)::l,ds,h'=>by
  by_cases hj:k=j
  ·subst hj
   rw[I2 (by simpa using h)]
   rw[aa] at h' ⊢
   exact h'
  ·have h1:l.lookup k=some ds:=by rw[←h'];exact (ao hj).symm
   by_cases hm:j∈os
   ·rw[Nj (by simpa using hm)]
    exact xw h h1
   ·rw[I2 (by simpa using hm)]
    exact al hj (xw h h1)
section
variable {hp:Hp}
theorem Vz:∀(l:List E),ARs hp (dC l) (dC l)
 |[]=>trivial
 |e::l=>⟨AR.data (d:=.e e) rfl,Vz l⟩
theorem ARs.append:∀{ds es ds2 es2:List D},ARs hp ds es→ARs hp ds2 es2→ARs hp (ds++ds2) (es++es2)
 |[],[],_,_,_,h=>h
 |_::_,_::_,_,_,⟨h1,h2⟩,h=>⟨h1,ARs.append h2 h⟩
 |[],_::_,_,_,h,_=>h.elim
 |_::_,[],_,_,h,_=>h.elim
theorem AR.list {k n:Nat}{l:List Nu}(hv:hp.vars.lookup k=some (dC ((cW au).f l)))(hl:l.length=n):AR hp (.ow k 0 36 n) (.e (slE au l)):=by
 subst hl
 have hlen:((cW au).f l).length=l.length*36:=il au.f au.h l
 have:=AR.sl (off:=0) hv (n:=l.length) (z:=36) (by omega) (by omega)
 rw[qN,gJ (by omega)] at this
 exact this
theorem AR.line {kc n:Nat}{k:Nu}{l:List Nu}(hv:hp.vars.lookup kc=some (dC ((cW au).f l)))(hl:l.length=n):AR hp (.ag (aY k kc n)) (.ag (dC (au.f k)++[.e (slE au l)])):=
 AR.ag (ARs.append (Vz _) ⟨AR.list hv hl,trivial⟩)
end
theorem MR {vs:List (Nat×List D)}{lv:List (Nat×Nat×Nat×TypeId)}{N kc n:Nat}{k:Nu}{l:List Nu}(hv:vs.lookup kc=some (dC ((cW au).f l)))(hl:l.length=n)(hn:n≤1000000):HC prog 109 [.ag (aY k kc n)] ⟨vs,lv,N⟩ (dB (f5 k l)) ⟨vs,lv,N⟩:=
 HC.frz (w_good k l (by omega)) ⟨AR.line hv hl,trivial⟩ rfl
end
section
def klO(kd R:Nat):Option Nat→Nat|none=>kd|some _=>R
def olO:Option Nat→Nat|none=>1|some j=>j*38
def kcO(G:Nat)(C:Nat→Nat):Option Nat→Nat|none=>G|some j=>C j
section
variable {kd R G w:Nat} {C:Nat→Nat} {d:Dic} {vs:List (Nat×List D)}
theorem lineO(h:DAt vs kd R G C w d)(hf:Dif d.rows.length kd R G C)(o:Option Nat)(ho:∀j,o=some j→j<d.rows.length):
  ∃F A B:List D,vs.lookup (klO kd R o)=some F∧o8 F (olO o) (lkO d o) (kcO G C o) w A B∧vs.lookup (kcO G C o)=some (dC ((cW au).f (lcO d o)))∧(lcO d o).length=w∧klO kd R o≠kcO G C o∧
   ∀(v2:List (Nat×List D)) (lk:Nu) (lc:List Nu),lc.length=w→v2.lookup (klO kd R o)=some (A++aY lk (kcO G C o) w++B)→v2.lookup (kcO G C o)=some (dC ((cW au).f lc))→
    (∀k ds,k≠klO kd R o→k≠kcO G C o→vs.lookup k=some ds→v2.lookup k=some ds)→DAt v2 kd R G C w (L6 d o lk lc):=by
 cases o with
 |none=>
  refine⟨mX R G w d,[fb R d.rows],[dI .i64 d.n,dI .i64 d.piv,dI .i64 d.most],h.hd,⟨rfl,rfl⟩,h.hG,h.lG,hf.dG,fun v2 lk lc hl h1 h2 h3=>?_⟩
  exact h.setDic hf ⟨d.rows,lk,lc,d.n,d.piv,d.most⟩ rfl hl h1 h2 h3
 |some j=>
  have hj:=ho j rfl
  have hr:d.rows[j]? =some d.rows[j]! :=by rw[bI d.rows j hj];exact cC hj
  obtain⟨A,B,h1,h2,h3,h4,_⟩:=mA C w d.rows j hr
  have fI:d.rows≠[]:=fun e=>by rw[e] at hj;simp at hj
  refine⟨fY C w 0 d.rows,A,[dI .i64 d.rows[j]!.b]++B,h.hR fI,h4,h.hC j _ hr,h.lC j _ hr,(hf.C1 j hj).2.1.symm,fun v2 lk lc hl h5 h6 h7=>?_⟩
  refine h.setRow hf hj ⟨lk,lc,d.rows[j]!.b⟩ hl ?_ h6 h7
  rw[h2]
  have h5':v2.lookup R=some (A++aY lk (C j) w++([dI .i64 d.rows[j]!.b]++B)):=h5
  rw[h5']
  unfold iQ
  simp only[da]
theorem RI(d:Dic)(o:Option Nat)(k:Nu)(c:List Nu):(L6 d o k c).rows.length=d.rows.length:=by
 cases o with
 |none=>rfl
 |some j=>exact c7 ..
theorem setO_ne {o:Option Nat}{i:Nat}(h:o≠some i)(k:Nu)(c:List Nu):(L6 d o k c).rows[i]? =d.rows[i]? :=by
 cases o with
 |none=>rfl
 |some j=>
  have:j≠i:=fun e=>h (by rw[e])
  exact BU this
end
theorem pO_succ {r1:Row}{s at' i u:Nat}{p:Dic×Bool}{o:Option Nat}(h:(xR at' i)[u]? =some o):pO r1 s at' i p (u+1)=wD r1 s (pO r1 s at' i p u) o:=by
 unfold pO
 rw[yx,h,List.foldl_append]
 rfl
theorem Pt.cell {F:List D}{t:Nat}{x:D}(h:F[t]? =some x):Pt F t [x] (fun ys=>F.take t++ys++F.drop (t+1)):=by
 obtain⟨h1,h2⟩:=fL.1 h
 refine⟨by simp;omega,?_,fun ys _=>rfl⟩
 show (F.drop t).take 1=[x]
 rw[Fe h1,NG,ES,h2]
theorem iaP {dr:Bool}{ty:TypeId}{ev:Operand→D}{hp:Hp}{k i n:Nat}{kn:IntKind}{x y:Operand}(h:i<n)(hx:ev x=.ow k 0 1 n:=by exact rfl)(hy:ev y=dI kn (i:Int):=by exact rfl):AVC prog tbl dr (.indexAddr 161 x y) ty ev hp (Kq (.pt k i) hp):=by
 have:=xg (P:=prog) (tb:=tbl) (dr:=dr) (ty:=ty) (ev:=ev) (hp:=hp) (x:=x) (y:=y) (v:=(i:Int)) (n:=n) (kn:=kn) ⟨by omega,by omega⟩ Bb yP rfl hx rfl hy
 rwa[bW,bt,show i*1=i from yy i] at this
theorem Sn {x:Cx}{kd R G w N n2 q:Nat}{C:Nat→Nat}{d':Dic}{vs v:List (Nat×List D)}{lv:List (Nat×Nat×Nat×TypeId)}{tm:List (Nat×D)}{e:Int}(h0:x.hp0=⟨vs,lv,N⟩)(hok:cp ⟨vs,lv,N⟩)(hN:N≤n2)(hD:DAt v kd R G C w d')(hf:Dif d'.rows.length kd R G C)
  (Gw:kd<N) (hR:R<N) (hG:G<N) (hC:∀j,j<d'.rows.length→C j<N) (hr:∀k ds,k≠kd→k≠R→k≠G→(∀j,j<d'.rows.length→k≠C j)→vs.lookup k=some ds→v.lookup k=some ds) (hnil:d'.rows=[]→∀ds,vs.lookup R=some ds→v.lookup R=some ds) (hq:tm.lookup q=some (dI .i64 e)):
  ∃tm',Wk x tm ⟨v,lv,n2⟩ tm' ⟨ov kd R G C w d' vs,lv,N⟩∧tI tbl [.tmp q] tm' ⟨ov kd R G C w d' vs,lv,N⟩ (dI .i64 e):=by
 have hok':=Cp (d:=d') (w:=w) hok Gw hR hG hC
 refine⟨[(q,dI .i64 e)],wkS (by rw[h0];exact az N) hN hok' (DV hf hD hr hnil) (bG.nil.cons hq),?_⟩
 exact⟨dI .i64 e,aa,rfl⟩
section
variable {R G w:Nat} {d:Dic}
theorem gu:Pt (mX R G w d) 0 [fb R d.rows] (fun ys=>ys++(aY d.gk G w++[dI .i64 d.n,dI .i64 d.piv,dI .i64 d.most])):=Pt.of [] (aY d.gk G w++[dI .i64 d.n,dI .i64 d.piv,dI .i64 d.most]) rfl (by unfold mX;simp) fun y=>by simp
theorem ms:o8 (mX R G w d) 1 d.gk G w [fb R d.rows] [dI .i64 d.n,dI .i64 d.piv,dI .i64 d.most]:=⟨rfl,rfl⟩
theorem dic_n:Pt (mX R G w d) 38 [dI .i64 d.n] (fun ys=>[fb R d.rows]++aY d.gk G w++(ys++[dI .i64 d.piv,dI .i64 d.most])):=Pt.of ([fb R d.rows]++aY d.gk G w) [dI .i64 d.piv,dI .i64 d.most] (by rw[cD,bT];rfl) (by unfold mX;simp) fun y=>by simp
theorem oz:Pt (mX R G w d) 39 [dI .i64 d.piv] (fun ys=>[fb R d.rows]++aY d.gk G w++([dI .i64 d.n]++ys++[dI .i64 d.most])):=Pt.of ([fb R d.rows]++aY d.gk G w++[dI .i64 d.n]) [dI .i64 d.most] (by rw[cD,cD,bT];rfl) (by unfold mX;simp) fun y=>by simp
theorem TY:Pt (mX R G w d) 40 [dI .i64 d.most] (fun ys=>[fb R d.rows]++aY d.gk G w++([dI .i64 d.n,dI .i64 d.piv]++ys)):=Pt.of ([fb R d.rows]++aY d.gk G w++[dI .i64 d.n,dI .i64 d.piv]) [] (by rw[cD,cD,bT];rfl) (by unfold mX;simp) fun y=>by simp
end
end
section
theorem Il {x:Cx}{tm:List (Nat×D)}{vs vs2:List (Nat×List D)}{lv:List (Nat×Nat×Nat×TypeId)}{N n2 q:Nat}{d:D}(h0:x.hp0=⟨vs,lv,N⟩)(hok:cp ⟨vs,lv,N⟩)(hN:N≤n2)(hv:∀j ds,vs.lookup j=some ds→vs2.lookup j=some ds)(hq:tm.lookup q=some d)(hd:d.idsB N=true):
  ∃tm',Wk x tm ⟨vs2,lv,n2⟩ tm' ⟨vs,lv,N⟩∧tI tbl [.tmp q] tm' ⟨vs,lv,N⟩ d:=
 ⟨[(q,d)],wkS (by rw[h0];exact az N) hN hok hv (bG.nil.cons hq hd),⟨d,aa,rfl⟩⟩
section
variable {ops:Array Oper} {K:List (Nat×D)→Hp→Prop} {os:List Oper} {tm:List (Nat×D)} {hp:Hp} {t:Tmp} {ty:TypeId} {pos:String} {af:Array Edge} {md:Md}
theorem Oa {R:Nat}{l:List Row}{x:Operand}(hx:evD tm x=fb R l)(h2:aX prog tbl md ops K os ((t,dI .i64 l.length)::tm) hp)(hn:md.nc tbl (.call ⟨.builtin .len,#[x],#[71]⟩)=true:=by exact rfl):aX prog tbl md ops K (⟨some t,.call ⟨.builtin .len,#[x],#[71]⟩,ty,pos,af,none⟩::os) tm hp:=by
 cases l with
 |nil=>exact s1 (UW Cj tQ rfl (by rw[hx];rfl)) h2 hn
 |cons r l=>exact stG (d:=dI .i64 (r::l).length) tok (Ce (k:=R) (off:=0) (z:=38) Cj tQ rfl (by rw[hx];rfl)) h2 hn
end
section
variable {vs:List (Nat×List D)} {lv:List (Nat×Nat×Nat×TypeId)} {N kv R w:Nat} {C:Nat→Nat} {v:Int}
theorem h_findf {i:Nat}(r:Row)(hv:vs.lookup kv=some [dI .i64 v]):HC prog 155 [.ag (iQ C w i r),.pt kv 0] ⟨vs,lv,N⟩ (dB (decide (r.b=v))) ⟨vs,lv,N⟩:=by
 refine HC.of (rs:=[.tmp 3]) tok func155 rfl rfl (bi rfl) rfl (fun cx hx h0 hok=>?_)
 simp only[fG,Nat.reduceAdd,bt]
 have hkv:=hok.lt hv
 refine rs hx fun K hK=>?_
 refine s1 (gP (cs:=iQ C w i r)) ?_
 refine sa ?_
 refine nl hK ?_
 refine rs hx fun K hK=>?_
 refine sa ?_
 refine s1 (kC (Pt.of (F:=iQ C w i r) (bs:=[dI .i64 r.b]) (aY r.k (C i) w) [] (bT _ _ _) (by unfold iQ;simp) (F':=fun ys=>aY r.k (C i) w++ys++[]) fun y=>rfl) aa (ew N) tbI) ?_
 refine s1 (kC (Pt.of (F:=[dI .i64 v]) (bs:=[dI .i64 v]) [] [] rfl (by simp) (F':=id) fun y=>by simp) (al (show kv≠N by omega) hv) (show kv<N+1 by omega) tbI) ?_
 iterate 2 refine sa ?_
 refine nl hK ?_
 exact AW.ret (Il h0 hok (jw N) (fun j ds h=>al (hok.ne h (az N)) h) rfl rfl)
theorem Tq {l:List Row}(hm:l.length≤1000000)(hR:l≠[]→vs.lookup R=some (fY C w 0 l))(hv:vs.lookup kv=some [dI .i64 v]):
  HC prog 154 [fb R l,.fn 155 [kv]] ⟨vs,lv,N⟩ (dI .i64 (dA l v)) ⟨vs,lv,N⟩:=by
 refine HC.of (rs:=[.tmp 4]) tok func154 rfl rfl (bi rfl) rfl (fun cx hx h0 hok=>?_)
 simp only[fG,Nat.reduceAdd,bt]
 have hkv:=hok.lt hv
 have hRi:(fb R l).idsB N=true:=by
  cases hl:l with
  |nil=>rfl
  |cons r l'=>exact aB (hok.lt (hR (by rw[hl];simp)))
 refine rs hx fun K hK=>?_
 refine sa ?_
 refine nl hK ?_
 refine AW.seq (rs hx fun K hK=>?_)
 refine sa ?_
 refine Oa (R:=R) (l:=l) rfl ?_
 refine sa ?_
 refine nl hK ?_
 refine AW.block (AW.loopW (fun i:Nat=>[(0,fb R l),(1,.fn 155 [kv]),(7,dI .i64 l.length),(8,dI .i64 i)]) (fun _=>⟨vs,lv,N⟩) (fun i=>i≤l.length∧∀(j:Nat) (r':Row),j<i→l[j]? =some r'→r'.b≠v) (fun i=>l.length - i) 0 ?_ ⟨cr _,fun j _ hj=>absurd hj (qJ _)⟩ ?_)
 ·exact wkS (by rw[h0];exact az N) (az _) hok (fun j ds h=>h) (bG.cons (t:=0) (d:=fb R l) (bG.cons (t:=1) (d:=.fn 155 [kv]) (bG.cons (t:=7) (d:=dI .i64 l.length) (bG.cons (t:=8) (d:=dI .i64 (0:Nat)) bG.nil rfl rfl) rfl rfl) rfl (bc.2 fun k hk=>aB (by rw[qF.1 hk];exact hkv))) rfl hRi)
 ·rintro i ⟨hi,mC⟩
  refine rs hx fun K hK=>?_
  refine sa ?_
  refine nl hK ?_
  refine AW.seq (AW.condS rfl (fun hb=>?_) (fun hb=>?_))
  ·have zb:i<l.length:=by have:=bC hb;omega
   have fI:l≠[]:=fun e=>by rw[e] at zb;simp at zb
   have hr:l[i]? =some l[i]:=cC zb
   obtain⟨A,B,hA,_,h3,_,_⟩:=mA C w l i hr
   have Dp:=hok.lt (hR fI)
   refine AW.skip (AW.seq (AW.block (rs hx fun K hK=>?_)))
   iterate 2 refine sa ?_
   refine nl hK ?_
   refine rs hx fun K hK=>?_
   iterate 3 refine sa ?_
   refine stG (d:=.pt R (i*38)) tok (iaR (i:=i) (n:=l.length) zb (by show (fb R l).toOw=_;rw[p7 fI];rfl) rfl) ?_
   refine s1 (CP (Pt.of A B hA h3 (F':=fun ys=>A++ys++B) fun y=>rfl) (hR fI) Dp tQ (tT _ _ _ _)) ?_
   refine q1 (sHF (h_findf l[i] hv) rfl) ?_
   refine nl hK ?_
   refine AW.condS rfl (fun hb=>?_) (fun hb=>?_)
   ·have hbv:l[i].b=v:=bC hb
    refine rs hx fun K hK=>?_
    iterate 2 refine sa ?_
    refine nl hK ?_
    refine AW.ret ?_
    rw[Qx hr hbv mC]
    exact Il h0 hok (az N) (fun j ds h=>h) rfl rfl
   ·have hbv:¬l[i].b=v:=dE hb
    refine AW.skip (rq hx fun K hK=>?_)
    iterate 2 refine sa ?_
    refine nl hK ?_
    rw[bU]
    refine⟨i+1,wkS (by rw[h0];exact az N) (az _) hok (fun j ds h=>h) (bG.cons (t:=0) (d:=fb R l) (bG.cons (t:=1) (d:=.fn 155 [kv]) (bG.cons (t:=7) (d:=dI .i64 l.length) (bG.cons (t:=8) (d:=dI .i64 (i+1:Nat)) bG.nil rfl rfl) rfl rfl) rfl (bc.2 fun k hk=>aB (by rw[qF.1 hk];exact hkv))) rfl hRi),⟨zb,fun j r' hj pN=>?_⟩,by omega⟩
    rcases d6 j i with h|h
    ·exact mC j r' h pN
    ·obtain rfl:j=i:=by omega
     rw[hr] at pN
     injection pN with pN
     rw[←pN];exact hbv
  ·refine AW.exit ?_
   have zb:i=l.length:=by have:=dE hb;omega
   refine rs hx fun K hK=>?_
   refine sa ?_
   refine nl hK ?_
   refine AW.ret ?_
   rw[MX fun j r' pN=>mC j r' (by rw[zb];exact (fL.1 pN).1) pN]
   exact Il h0 hok (az N) (fun j ds h=>h) rfl rfl
theorem MS {kd G:Nat}{d:Dic}(hD:DAt vs kd R G C w d)(hm:d.rows.length≤1000000):HC prog 105 [.pt kd 0,dI .i64 v] ⟨vs,lv,N⟩ (dI .i64 (dA d.rows v)) ⟨vs,lv,N⟩:=by
 refine HC.of (rs:=[.tmp 4]) tok func105 rfl rfl (bi rfl) rfl (fun cx hx h0 hok=>?_)
 simp only[fG,Nat.reduceAdd,bt]
 have Gw:=hok.lt hD.hd
 refine rs hx fun K hK=>?_
 refine s1 (gP (cs:=[dI .i64 v])) ?_
 refine sa ?_
 refine nl hK ?_
 refine rs hx fun K hK=>?_
 iterate 3 refine sa ?_
 refine s1 (kC gu (al (show kd≠N by omega) hD.hd) (show kd<N+1 by omega) tbI) ?_
 refine s1 (Fq (ks:=[N])) ?_
 refine q1 (sHC (Tq (vs:=(N,[dI .i64 v])::vs) (lv:=lv) (N:=N+1) (C:=C) (w:=w) hm (fun fI=>al (hok.ne (hD.hR fI) (az N)) (hD.hR fI)) aa) rfl (.inl (by kernel_rfl))) ?_
 refine sa ?_
 refine nl hK ?_
 exact AW.ret (Il h0 hok (jw N) (fun j ds h=>al (hok.ne h (az N)) h) rfl rfl)
end
end
def qX(aZ:Int)(nO:Int):Option (Int×Int):=bnd (some (u64.wrap ((Kr .u64 aZ (4294967295:Int))*(Kr .u64 nO (4294967295:Int))))) fun x1=>bnd (some (u64.wrap ((u64.wrap ((me .u64 aZ (32:Int))*(Kr .u64 nO (4294967295:Int))))+(me .u64 x1 (32:Int))))) fun x3=>bnd (some (u64.wrap ((Kr .u64 x3 (4294967295:Int))+(u64.wrap ((Kr .u64 aZ (4294967295:Int))*(me .u64 nO (32:Int))))))) fun x5=>bnd (some (u64.wrap ((u64.wrap ((u64.wrap ((me .u64 aZ (32:Int))*(me .u64 nO (32:Int))))+(me .u64 x3 (32:Int))))+(me .u64 x5 (32:Int))))) fun x7=>some (x7,u64.wrap (aZ*nO))
theorem HP {aZ:Int}{nO:Int}{r:Int×Int}(h:qX aZ nO=some r):ar prog 183 [dI .u64 aZ,dI .u64 nO] (.tu [dI .u64 r.1,dI .u64 r.2]):=by
 refine bn (rs:=[.tmp 4,.tmp 5]) (fun cx hx h0=>?_) func183
 unfold qX at h
 iterate 5 refine ra hx ?_
 refine rs hx fun K hK=>?_
 iterate 3 refine sa ?_
 obtain⟨x1,xx,h⟩:=ae h
 replace xx:=bw xx
 refine s2 (d2:=dI .u64 x1) kE (fq (congrArg (dI .u64) xx)) ?_
 refine nl hK ?_
 refine rs hx fun K hK=>?_
 iterate 6 refine sa ?_
 obtain⟨x3,hx4,h⟩:=ae h
 replace hx4:=bw hx4
 refine s2 (d2:=dI .u64 x3) kE (fq (congrArg (dI .u64) hx4)) ?_
 refine nl hK ?_
 iterate 2 refine ra hx ?_
 refine rs hx fun K hK=>?_
 iterate 5 refine sa ?_
 obtain⟨x5,Ip,h⟩:=ae h
 replace Ip:=bw Ip
 refine s2 (d2:=dI .u64 x5) kE (fq (congrArg (dI .u64) Ip)) ?_
 refine nl hK ?_
 refine rs hx fun K hK=>?_
 iterate 8 refine sa ?_
 obtain⟨x7,hx8,h⟩:=ae h
 replace hx8:=bw hx8
 refine s2 (d2:=dI .u64 x7) kE (fq (congrArg (dI .u64) hx8)) ?_
 refine nl hK ?_
 refine ra hx ?_
 refine AW.ret ?_
 cases h
 exact rv2
def uS(aZ:Int)(nO:Int):Option (Int×Int):=bnd (qX aZ nO) fun x1=>some (x1.1,x1.2)
theorem LR {aZ:Int}{nO:Int}{r:Int×Int}(h:uS aZ nO=some r):ar prog 151 [dI .u64 aZ,dI .u64 nO] (.tu [dI .u64 r.1,dI .u64 r.2]):=by
 refine bn (rs:=[.tmp 4,.tmp 5]) (fun cx hx h0=>?_) func151
 unfold uS at h
 refine ra hx ?_
 refine AW.seq (AW.condF rfl rfl (AW.skip (rs hx fun K hK=>?_)))
 refine mbr ?_
 refine scb h HP fun x1 h=>?_
 refine nbr hK ?_
 refine ra hx ?_
 refine AW.ret ?_
 cases h
 exact rv2
theorem Sw {m:Nat}(h:m<4294967296):Kr .u64 (m:Int) (4294967295:Int)=(m:Int):=by
 have h1:(BitVec.ofInt 64 (m:Int) &&&BitVec.ofInt 64 (4294967295:Int)).toNat=m:=by
  have a:(BitVec.ofInt 64 (m:Int)).toNat=m:=by
   rw[BitVec.ofInt_natCast,BitVec.toNat_ofNat];omega
  have b:(BitVec.ofInt 64 (4294967295:Int)).toNat=2 ^ 32 - 1:=by decide
  rw[BitVec.toNat_and,a,b,Nat.and_two_pow_sub_one_eq_mod];omega
 show u64.wrap (((BitVec.ofInt 64 (m:Int) &&&BitVec.ofInt 64 (4294967295:Int)).toNat:Nat):Int)=m
 rw[h1]
 exact ip
theorem mul1 {n:Nat}(h:n≤1000000):uS (u64.wrap 1) (u64.wrap (n:Int))=some (0,(n:Int)):=by
 have e1:u64.wrap 1=((1:Nat):Int):=ip (n:=1) (by omega)
 have a1:=Sw (m:=1) (by omega)
 have a2:=Sw (m:=n) (by omega)
 have s1:=yd 1
 have s2:=yd n
 have m1:(1:Nat) / 4294967296=0:=rfl
 have m2:n / 4294967296=0:=eF (by omega)
 rw[m1] at s1
 rw[m2] at s2
 have z0:u64.wrap ((0:Nat):Int)=((0:Nat):Int):=ip (n:=0) (by omega)
 have zn:u64.wrap (n:Int)=(n:Int):=ip
 have i0:Kr .u64 ((0:Nat):Int) (4294967295:Int)=((0:Nat):Int):=Sw (m:=0) (by omega)
 have h0:me .u64 ((0:Nat):Int) (32:Int)=((0:Nat):Int):=yd 0
 rw[e1,zn]
 unfold uS qX
 rw[a1,a2,s1,s2]
 simp only[bnd,EX]
 have p1:((1:Nat):Int)*(n:Int)=(n:Int):=by omega
 have p2:((0:Nat):Int)*(n:Int)=((0:Nat):Int):=by omega
 have p3:((1:Nat):Int)*((0:Nat):Int)=((0:Nat):Int):=by omega
 have p4:((0:Nat):Int)*((0:Nat):Int)=((0:Nat):Int):=by omega
 have p5:((0:Nat):Int)+((0:Nat):Int)=((0:Nat):Int):=by omega
 rw[p1,p2,p3,p4,zn,z0,s2,p5,z0,i0,p5,z0,h0,p5,z0,p5,z0]
 rfl
section
def ze(a:Nu)(n s:Nat):List Nu:=List.replicate s a++List.replicate (n - s) default
theorem EG {a:Nu}{n s:Nat}(h:s≤n):(ze a n s).length=n:=by
 unfold ze;rw[cD,tF,tF];omega
theorem cont_cp {a:Nu}{n s:Nat}(h:s≤n):lCp (ze a n s) s (((((ze a n s).drop 0).take s)).take (n - s))=ze a n (s+min s (n - s)):=by
 have h1:((ze a n s).drop 0).take s=List.replicate s a:=by
  unfold ze
  rw[qN,vh (by simp),gJ (by simp)]
 rw[h1,List.take_replicate]
 unfold lCp
 rw[tF]
 unfold ze
 rw[vh (by simp),gJ (by simp),Nq,tF,CK (by simp),ny,List.drop_replicate]
 rw[List.replicate_append_replicate,Nat.min_comm,show n - s - (s+min s (n - s) - s)=n - (s+min s (n - s)) by omega]
theorem zNu:au.f (default:Nu)=zN:=rfl
theorem F7 {x:Cx}{tm tm':List (Nat×D)}{vs2 pd:List (Nat×List D)}{lv FI:List (Nat×Nat×Nat×TypeId)}{n' n2:Nat}(h0:x.hp0.next≤n')(hn:n'≤n2)(hok:cp ⟨pd,lv,n'⟩)(hv:∀j ds,pd.lookup j=some ds→vs2.lookup j=some ds)(hl:∀j y,lv.lookup j=some y→FI.lookup j=some y)(ht:bG n' tm tm'):Wk x tm ⟨vs2,FI,n2⟩ tm' ⟨pd,lv,n'⟩:=
 Wk.look h0 hn ht (fun j ds h=>⟨(hok.var j ds h).1,ds,hv j ds h,rj _,(hok.var j ds h).2⟩) fun id y h=>⟨hok.tok id y h,hl id y h⟩
section
variable {md:Md} {dst:Option Tmp} {ty:TypeId} {pos:String} {af:Array Edge} {gd:Option (Nat×Bool)} {ev:Operand→D} {hp:Hp} {k s n:Nat} {x y:Operand}
theorem slT(h:s<n)(hx:ev x=.ow k 0 36 n:=by exact rfl)(hy:ev y=dI .i64 (s:Int):=by exact rfl):mO prog tbl md ⟨dst,.slice 22 x (some y) none none,ty,pos,af,gd⟩ ev hp (.ow k (s*36) 36 (n - s)) hp:=by
 have:=slW (P:=prog) (tb:=tbl) (md:=md) (dst:=dst) (ty2:=ty) (pos:=pos) (af:=af) (gd:=gd) (ev:=ev) (hp:=hp) (x:=x) (lo:=some y) (hi:=none) (l:=(s:Int)) (h:=(n:Int)) tok ⟨by omega,by omega,by omega,by omega⟩ bZ aO ⟨.i64,hy⟩ rfl rfl hx rfl
 rw[show ((n:Int) - (s:Int)).toNat=n - s by omega,bW,bt] at this
 exact this
theorem slHd(h:s≤n)(h0:0<n)(hx:ev x=.ow k 0 36 n:=by exact rfl)(hy:ev y=dI .i64 (s:Int):=by exact rfl):mO prog tbl md ⟨dst,.slice 22 x none (some y) none,ty,pos,af,gd⟩ ev hp (.ow k (0*36) 36 s) hp:=by
 have:=slW (P:=prog) (tb:=tbl) (md:=md) (dst:=dst) (ty2:=ty) (pos:=pos) (af:=af) (gd:=gd) (ev:=ev) (hp:=hp) (x:=x) (lo:=none) (hi:=some y) (l:=(0:Int)) (h:=(s:Int)) tok ⟨by omega,by omega,by omega,by omega⟩ bZ aO rfl ⟨.i64,hy⟩ rfl hx rfl
 rw[show ((s:Int) - 0).toNat=s by omega,bt] at this
 exact this
end
section
variable {vs:List (Nat×List D)} {lv:List (Nat×Nat×Nat×TypeId)} {N n:Nat} {a:Nu}
theorem KH(hn:n≤1000000):HC prog 103 [.e (slE au [a]),dI .i64 n] ⟨vs,lv,N⟩ (.ow (N+1) 0 36 n) ⟨(N+1,dC ((cW au).f (List.replicate n a)))::vs,lv,N+1+1⟩:=by
 refine HC.of (rs:=[.tmp 4]) tok func103 rfl rfl (bi rfl) rfl (fun cx hx h0 hok=>?_)
 simp only[fG,Nat.reduceAdd,bt]
 refine rs hx fun K hK=>?_
 refine s1 (d:=dO N au ([]:List Nu)) (gz bZ aO) ?_
 refine nl hK ?_
 refine AW.seq (rs hx fun K hK=>?_)
 iterate 2 refine sa ?_
 refine nl hK ?_
 refine AW.condF rfl (bp (by omega)) (AW.skip (rs hx fun K hK=>?_))
 iterate 5 refine sa ?_
 refine cq (LR (mul1 hn)) ?_
 iterate 5 refine sa ?_
 refine nl hK ?_
 refine AW.seq (rs hx fun K hK=>?_)
 iterate 3 refine sa ?_
 iterate 2 refine ga (show decide ((0:Int)<0)=false by decide) ?_
 refine s1 (lY (show decide ((0:Int)<0)=false by decide)) ?_
 refine nl hK ?_
 refine AW.condF rfl (bp (by omega)) (AW.skip (rs hx fun K hK=>?_))
 iterate 2 refine sa ?_
 rw[ee (show -9223372036854775808≤(n:Int) by omega) (by omega)]
 refine q1 (sMk (c:=au) (z0:=default) (v:=(n:Int)) tok ⟨by omega,by omega⟩ bZ aO rfl) ?_
 rw[bW]
 refine sa ?_
 refine nl hK ?_
 have SF:xl ⟨(N+1,dC ((cW au).f (List.replicate n default)))::vs,(N,0,36,43)::lv,N+1+1⟩ (.e (slE au [a])) 36 1 ([a].flatMap au.f):=xl.dat rfl (by simp[au.h];rfl)
 refine rs hx fun K hK=>?_
 iterate 2 refine sa ?_
 refine q1 (sCpW (c:=au) (l:=List.replicate n default) (s:=[a]) (m:=1) (n:=n) tok bZ aO SF rfl aa 0 (by simp) rfl) ?_
 refine sa ?_
 refine nl hK ?_
 have hc0:lCp (List.replicate n (default:Nu)) 0 ([a].take n)=ze a n (min 1 n):=by
  cases n with
  |zero=>rfl
  |succ n=>
   unfold lCp ze
   rw[show min 1 (n+1)=1 by omega]
   simp[List.replicate_succ]
 rw[hc0]
 have Gu:∀l:List Nu,cp ⟨(N+1,dC ((cW au).f l))::vs,lv,N+1+1⟩:=fun l=>hok.cons (by omega) (ew _) (eD _)
 have hNlv:∀j y,lv.lookup j=some y→((N,0,36,43)::lv).lookup j=some y:=fun j y h=>(ao (by have:=hok.tok j y h;have h2:j<N:=this;omega)).trans h
 refine AW.seq (AW.block (AW.loopW (fun s:Nat=>[(7,.ow (N+1) 0 36 n),(8,dI .i64 s)]) (fun s=>⟨(N+1,dC ((cW au).f (ze a n s)))::vs,lv,N+1+1⟩) (fun s=>s≤n∧(0<n→0<s)) (fun s=>n - s) (min 1 n) ?_ ⟨by omega,by omega⟩ ?_))
 ·exact F7 (by rw[h0];show N≤N+1+1;omega) (az _) (Gu _) (fun j ds h=>by rw[wH];exact h) hNlv (bG.cons (t:=7) (d:=.ow (N+1) 0 36 n) (bG.cons (t:=8) (d:=dI .i64 (min 1 n:Nat)) bG.nil rfl rfl) rfl (aB (ew _)))
 ·rintro s ⟨hsn,hs0⟩
  refine AW.seq (rs hx fun K hK=>?_)
  iterate 4 refine sa ?_
  refine nl hK ?_
  refine AW.condS rfl (fun hb=>?_) (fun hb=>?_)
  ·have bK:s<n:=by have:=bC hb;omega
   have hs1:0<s:=hs0 (by omega)
   refine AW.skip (AW.block (rqd [] hx fun K hK=>?_))
   iterate 3 refine sa ?_
   refine q1 (slT bK) ?_
   iterate 2 refine sa ?_
   refine q1 (slHd (by omega) (by omega)) ?_
   refine q1 (sCpW (c:=au) (l:=ze a n s) (s:=((ze a n s).drop 0).take s) (m:=s) (n:=n - s) tok bZ aO (xl.lst aa 0 (by rw[EG hsn];omega)) (by rw[ep,qN,EG hsn];omega) aa s (by rw[EG hsn];omega) rfl) ?_
   rw[cont_cp hsn]
   iterate 2 refine sa ?_
   refine nl hK ?_
   rw[show i64.wrap ((s:Int)+(min s (n - s):Nat))=((s+min s (n - s):Nat):Int) by rw[ee (by omega) (by omega)];omega]
   exact⟨s+min s (n - s),wkS (by rw[h0];show N≤N+1+1;omega) (az _) (Gu _) (fun j ds h=>by rw[wH];exact h) (bG.cons (t:=7) (d:=.ow (N+1) 0 36 n) (bG.cons (t:=8) (d:=dI .i64 (s+min s (n - s):Nat)) bG.nil rfl rfl) rfl (aB (ew _))),⟨by omega,by omega⟩,by omega⟩
  ·refine AW.exit ?_
   have hsn2:s=n:=by have:=dE hb;omega
   subst hsn2
   have Do:ze a s s=List.replicate s a:=by unfold ze;simp
   rw[Do]
   refine rs hx fun K hK=>?_
   iterate 2 refine sa ?_
   refine nl hK ?_
   exact AW.ret (⟨[(4,.ow (N+1) 0 36 s)],wkS (by rw[h0];show N≤N+1+1;omega) (az _) (Gu _) (fun j ds h=>h) (bG.cons (t:=4) (d:=.ow (N+1) 0 36 s) bG.nil rfl (aB (ew _))),⟨_,aa,rfl⟩⟩)
end
end
theorem HC.args {P:Program}{f:FuncId}{ds ds':List D}{hp hp':Hp}{d:D}(hl:leL ds ds')(hc:HC P f ds' hp d hp'):HC P f ds hp d hp':=by
 obtain⟨h1,h2⟩:=Dk hl
 refine⟨hc.1,fun B g w vs hr hsz cR=>hc.2 B g w vs hr (by omega) fun j e u he hu=>?_⟩
 obtain⟨d0,h3,h4⟩:=h2 he
 exact (cR j d0 u h3 hu).le h4
theorem T_bldL {dr:Bool}{ty:TypeId}{ev:Operand→D}{hp:Hp}{x y:Operand}{a:Nu}{k n:Nat}(hx:ev x=dG au a:=by exact rfl)(hy:ev y=.ow k 0 36 n:=by exact rfl):AVC prog tbl dr (.build 73 #[(0,x),(1,y)]) ty ev hp (Kq (.ag (aY a k n)) hp):=by
 have h0:([(0,x),(1,y)]:List (Nat×Operand)).map (fun p=>(p.1,ev p.2))=[(0,dG au a),(1,.ow k 0 36 n)]:=by simp only[jK,mZ,hx,hy]
 rw[show (#[(0,x),(1,y)]:Array (Nat×Operand))=([(0,x),(1,y)]:List (Nat×Operand)).toArray from rfl,wU,h0,ud,zU]
 have hp:mb [(0,dG au a),(1,.ow k 0 36 n)]=some [(0,dC (au.f a)),(1,[.ow k 0 36 n])]:=rfl
 rw[hp]
 dsimp only
 refine⟨by decide,?_⟩
 have hz:∀zs:List D,zs.length=37→f6 (oe tbl [(0,43),(36,22)]) zs [(0,dC (au.f a)),(1,[.ow k 0 36 n])]=some (aY a k n):=fun zs hzs=>by
  have p0:oe tbl [(0,43),(36,22)] 0=some (0,36):=rfl
  have p1:oe tbl [(0,43),(36,22)] 1=some (36,1):=rfl
  simp only[f6,p0,p1,iS]
  rw[ah (by simp[hzs])]
  rw[ah (by simp[iS,hzs])]
  unfold aY
  rw[ES,ny,bt,vh (by rw[iS];exact az _),gJ (by rw[iS];exact az _),CK (by simp[iS,hzs]),tf]
 rw[hz _ (by rfl)]
 exact Kq.here _ _
theorem xz {vs:List (Nat×List D)}{lv:List (Nat×Nat×Nat×TypeId)}{N n:Nat}(hn:n≤1000000):HC prog 41 [dI .i64 n] ⟨vs,lv,N⟩ (.ag (aY (nOf 0) (N+3) n)) ⟨(N,aY (nOf 0) (N+3) n)::(N+3,dC ((cW au).f (List.replicate n (nOf 0))))::vs,lv,N+4⟩:=by
 refine HC.of (rs:=[.cell 2 73]) tok func41 rfl rfl (bi rfl) rfl (fun cx hx h0 hok=>?_)
 simp only[fG,Nat.reduceAdd,bt]
 refine rs hx fun K hK=>?_
 refine s1 (yE (F:=zN++[.lit (.slice none 0 0)]) zU) ?_
 refine nl hK ?_
 refine rs hx fun K hK=>?_
 refine cq (Gg 0 (by omega)) ?_
 refine cq (Gg 0 (by omega)) ?_
 refine s1 (lh [nOf 0] au bZ aO) ?_
 refine sa ?_
 refine q1 (sHC (HC.args (ds:=[dO (N+1) au [nOf 0],dI .i64 n]) (ds':=[.e (slE au [nOf 0]),dI .i64 n]) ⟨Sp _,ax _,trivial⟩ (KH hn)) rfl (.inr ⟨by show N+1+1≤N+1+1+1+1;omega,fun j hj=>ao (by have:j<N+1+1:=hj;omega)⟩)) ?_
 refine s1 T_bldL ?_
 refine s0 (Hz (ys:=aY (nOf 0) (N+3) n) (bs:=dC (zN++[.lit (.slice none 0 0)])) (Pt.of [] [] rfl (by simp) (F':=id) fun y=>by simp) (al (show N≠N+1+1+1 by omega) aa) rfl zU rfl (bT _ _ _) rfl) ?_
 refine nl hK ?_
 refine AW.ret ?_
 have hokF:cp ⟨(N,aY (nOf 0) (N+3) n)::(N+3,dC ((cW au).f (List.replicate n (nOf 0))))::vs,lv,N+4⟩:=(cp.cons (N:=N+4) (hok.cons (by omega) (show N+3<N+4 by omega) (eD _)) (az _) (show N<N+4 by omega) (iU (by omega)))
 refine⟨[(2,.pt N 0)],F7 (by rw[h0];show N≤N+4;omega) (az _) hokF (fun j ds h=>?_) (fun j y h=>(ao (by have:=hok.tok j y h;have h2:j<N:=this;omega)).trans h) (bG.cons (t:=2) (d:=.pt N 0) bG.nil rfl (aB (show N<N+4 by omega))),?_⟩
 ·rcases b8 h with⟨rfl,rfl⟩|⟨h1,h⟩
  ·exact aa
  rcases b8 h with⟨rfl,rfl⟩|⟨h2,h⟩
  ·exact al h1 aa
  ·exact al h1 (al h2 (al h1 h))
 ·refine⟨.pt N 0,aa,⟨_,zU⟩,?_⟩
  rw[og,zU]
  rw[show (⟨(N,aY (nOf 0) (N+3) n)::(N+3,dC ((cW au).f (List.replicate n (nOf 0))))::vs,lv,N+4⟩:Hp).vars.lookup N=some (aY (nOf 0) (N+3) n) from aa]
  dsimp only[Ty.agg]
  refine⟨show N<N+4 by omega,by rw[bT];exact az _,?_⟩
  rw[qN,gJ (by rw[bT];exact az _)]
section
section
variable {md:Md} {dst:Option Tmp} {ty:TypeId} {pos:String} {af:Array Edge} {gd:Option (Nat×Bool)} {ev:Operand→D} {hp:Hp} {k n:Nat} {x y:Operand}
theorem slZ(hx:ev x=.ow k 0 36 n:=by exact rfl)(hy:ev y=dI .i64 (n:Int):=by exact rfl):mO prog tbl md ⟨dst,.slice 22 x (some y) none none,ty,pos,af,gd⟩ ev hp (.e (slE au [])) hp:=by
 refine (Snd.calm (dr:=md.dr) fun de _=>.pure fun B g w a hr yh=>?_).q (by cases md <;> rfl)
 have h1:=yh x (by simp[Op.operands])
 have h2:=yh y (by simp[Op.operands])
 rw[hx] at h1
 rw[hy] at h2
 have h2:=h2.lit
 have hs:=tok.run_sizeOf aO w
 generalize hv:a.eval x=v at h1
 cases h1 with
 |ow _ _ _ _ c hk qv o3=>
  have hbd:=ix (P:=prog) (w:=w) true n c (some (.int .i64 (n:Int))) none n n (.inr ⟨.i64,rfl⟩) (.inl ⟨rfl,rfl⟩) (az _) qv
  have fin:∀A:Option Addr,aE de g w (.e (slE au [])) (.slice A 0 (c - n)):=fun A=>.e _ _ (.sl 36 0 [] A (c - n) (fun _=>undef) rfl (by decide) (cr _) (by omega) (fun h=>absurd h (by omega)) (fun _ _ _ _ h=>by simp at h) (fun _ _ h=>by simp at h))
  by_cases Do:c=n
  ·subst Do
   refine⟨.slice (some ⟨g.μ k,0,none⟩) 0 (c - c),?_,fin _⟩
   simp[execOp,Instr.sliceAt,Instr.slice,hv,h2,run_underlying (tok.slice bZ rfl),hbd,hs]
  ·have fI:¬c=n:=Do
   refine⟨.slice (some ((⟨g.μ k,0,none⟩:Addr).add (n*36))) 0 (c - n),?_,fin _⟩
   simp[execOp,Instr.sliceAt,Instr.slice,hv,h2,run_underlying (tok.slice bZ rfl),hbd,hs,fI]
end
theorem iaO {dr:Bool}{ty:TypeId}{ev:Operand→D}{hp:Hp}{k o i n:Nat}{kn:IntKind}{x y:Operand}(h:i<n)(hx:ev x=.ow k (o*36) 36 n)(hy:ev y=dI kn (i:Int):=by exact rfl):AVC prog tbl dr (.indexAddr 22 x y) ty ev hp (Kq (.pt k ((o+i)*36)) hp):=by
 have:=xg (P:=prog) (tb:=tbl) (dr:=dr) (ty:=ty) (ev:=ev) (hp:=hp) (x:=x) (y:=y) (v:=(i:Int)) (n:=n) (kn:=kn) ⟨by omega,by omega⟩ bZ aO rfl hx rfl hy
 rw[bW] at this
 rw[bR]
 exact this
theorem bG.consX {n t:Nat}{d:D}{tm tm':List (Nat×D)}(h2:bG n tm tm')(h:tm.lookup t=some d)(hi:d.ex.idsB n=true):bG n tm ((t,d.ex)::tm'):=fun p hp=>by
 rcases kK.1 hp with rfl|hp
 ·exact⟨⟨d,h,.inr rfl⟩,hi⟩
 ·exact h2 p hp
theorem Tp {vs:List (Nat×List D)}{lv:List (Nat×Nat×Nat×TypeId)}{N kd R G w nn:Nat}{C:Nat→Nat}{d:Dic}(hD:DAt vs kd R G C w d)(Qd:d.n=(nn:Int))(hw:nn+1≤w)(hw2:w≤1000000):
  HC prog 44 [.pt kd 0] ⟨vs,lv,N⟩ (.e (slE au (bS d nn))) ⟨vs,lv,N⟩:=by
 refine HC.of (rs:=[.tmp 2]) tok func44 rfl rfl (bi rfl) rfl (fun cx hx h0 hok=>?_)
 simp only[fG,Nat.reduceAdd,bt]
 have Gw:=hok.lt hD.hd
 have Tx:=hok.lt hD.hG
 have OL:=hD.lG
 refine rs hx fun K hK=>?_
 refine s1 (d:=dO N au ([]:List Nu)) (gz bZ aO) ?_
 refine nl hK ?_
 refine rs hx fun K hK=>?_
 refine s1 (d:=dO (N+1) au ([]:List Nu)) (gz bZ aO) ?_
 refine nl hK ?_
 obtain⟨L,hL⟩:∃L,L=w - (nn+1):=⟨_,rfl⟩
 obtain⟨sD,hs1,hs0⟩:∃sD:D,(nn+1<w→sD=.ow G ((nn+1)*36) 36 L)∧(nn+1=w→sD=.e (slE au [])):=by
  by_cases h:nn+1<w
  ·exact⟨_,fun _=>rfl,fun e=>by omega⟩
  ·exact⟨_,fun e=>absurd e h,fun _=>rfl⟩
 have hsi:sD.idsB (N+2)=true:=by
  by_cases h:nn+1<w
  ·rw[hs1 h];exact aB (show G<N+2 by omega)
  ·rw[hs0 (by omega)];rfl
 refine AW.seq (rsd [] hx fun K hK=>?_)
 iterate 4 refine sa ?_
 refine s1 (kC ms.pc hD.hd (show kd<N+1+1 by omega) tbI) ?_
 iterate 3 refine sa ?_
 refine s1 (kC dic_n hD.hd (show kd<N+1+1 by omega) tbI) ?_
 rw[Qd]
 refine sa ?_
 rw[bU]
 refine q1 (d:=sD) (by
  by_cases h:nn+1<w
  ·rw[hs1 h,hL];exact slT h
  ·have hw3:nn+1=w:=by omega
   rw[hs0 hw3]
   exact slZ rfl (by rw[←hw3];rfl)) ?_
 refine s1 (d:=dI .i64 L) (by
  by_cases h:nn+1<w
  ·exact Ce bZ aO rfl (hs1 h)
  ·have hL0:L=0:=by omega
   rw[hL0]
   exact UW bZ aO rfl (by show D.asSl 36 sD=_;rw[hs0 (by omega)];rfl)) ?_
 refine sa ?_
 refine nl hK ?_
 have SW:∀u:Nat,cp ⟨vs,(N+1,u,36,43)::lv,N+1+1⟩:=fun u=>by
  refine⟨fun j ds h=>?_,fun id e h=>?_⟩
  ·obtain⟨h1,h2⟩:=hok.var j ds h
   have h1:j<N:=h1
   exact⟨show j<N+1+1 by omega,bc.2 fun d hd=>D.idsC_le (show N≤N+1+1 by omega) (bc.1 h2 d hd)⟩
  ·by_cases hid:id=N+1
   ·show id<N+1+1;omega
   ·have:=hok.tok id e (by rw[←h];exact (ao hid).symm)
    have:id<N:=this
    show id<N+1+1;omega
 refine AW.block (AW.loopW (fun u:Nat=>[(3,dO (N+1) au (((d.gc.drop (nn+1)).take u).map e9)),(16,sD),(17,dI .i64 L),(18,dI .i64 u)]) (fun u=>⟨vs,(N+1,u,36,43)::lv,N+1+1⟩) (fun u=>u≤L) (fun u=>L - u) 0 ?_ (cr _) ?_)
 ·refine F7 (by rw[h0];show N≤N+1+1;omega) (az _) (SW 0) (fun j ds h=>h) (fun j y h=>?_) (bG.cons (t:=3) (d:=dO (N+1) au ([]:List Nu)) (bG.cons (t:=16) (d:=sD) (bG.cons (t:=17) (d:=dI .i64 L) (bG.cons (t:=18) (d:=dI .i64 (0:Nat)) bG.nil rfl rfl) rfl rfl) rfl hsi) rfl (aB (show N+1<N+1+1 by omega)))
  by_cases hj:j=N+1
  ·subst hj
   rw[←h]
   exact aa.trans aa.symm
  ·have h1:lv.lookup j=some y:=by rw[←h];exact (ao hj).symm
   have h2:j<N:=hok.tok j y h1
   exact (ao hj).trans ((ao (show j≠N by omega)).trans h1)
 ·intro u hu
  have Qg:(((d.gc.drop (nn+1)).take u).map e9).length=u:=by rw[a8,ep,fc];omega
  refine rs hx fun K hK=>?_
  refine sa ?_
  refine nl hK ?_
  refine AW.seq (AW.condS rfl (fun hb=>?_) (fun hb=>?_))
  ·have Mz:u<L:=by have:=bC hb;omega
   refine AW.skip (AW.seq (AW.block (rs hx fun K hK=>?_)))
   refine s1 (iaO (o:=nn+1) Mz (hs1 (by omega))) ?_
   refine s1 (ldN (Pt.el d.gc (nn+1+u) (by omega)) hD.hG (show G<N+1+1 by omega)) ?_
   refine s1 Lt ?_
   refine s0 (stZ aa) ?_
   refine nl hK ?_
   refine rq hx fun K hK=>?_
   refine sa ?_
   refine s1 (ldN (Pt.idN _) aa (ew _)) ?_
   refine cq (JU _) ?_
   refine s1 (lh [e9 d.gc[nn+1+u]!] au bZ aO) ?_
   have Ct:((d.gc.drop (nn+1)).take u).map e9++[e9 d.gc[nn+1+u]!]=((d.gc.drop (nn+1)).take (u+1)).map e9:=by
    rw[yx,gK,nt,bI d.gc (nn+1+u) (by omega),cC (by omega)]
    rfl
   refine s1 (oP (id:=N+1) (l:=((d.gc.drop (nn+1)).take u).map e9) (l':=[e9 d.gc[nn+1+u]!]) bZ aO (by rw[cD,Qg];show (u+1)*136≤140737488355328;omega) rfl rfl rfl rfl (by rw[Qg];exact (ao (show N+1≠N+1+1+1 by omega)).trans aa)) ?_
   rw[Ct]
   refine sa ?_
   refine nl hK ?_
   refine rq hx fun K hK=>?_
   iterate 2 refine sa ?_
   refine nl hK ?_
   rw[bU]
   have hlu1:(((d.gc.drop (nn+1)).take (u+1)).map e9).length=u+1:=by rw[←Ct,cD,Qg];rfl
   refine⟨u+1,F7 (by rw[h0];show N≤N+1+1;omega) (show N+1+1≤N+1+1+1+1 by omega) (SW (u+1)) (fun j ds h=>?_) (fun j y h=>?_) (bG.cons (t:=3) (d:=dO (N+1) au (((d.gc.drop (nn+1)).take (u+1)).map e9)) (bG.cons (t:=16) (d:=sD) (bG.cons (t:=17) (d:=dI .i64 L) (bG.cons (t:=18) (d:=dI .i64 (u+1:Nat)) bG.nil rfl rfl) rfl rfl) rfl hsi) rfl (aB (show N+1<N+1+1 by omega))),Mz,by omega⟩
   ·have hj:j<N:=hok.lt h
    exact al (show j≠N+1+1 by omega) (al (show j≠N+1+1 by omega) h)
   ·by_cases hj:j=N+1
    ·subst hj
     have h1:some (u+1,36,43)=some y:=by rw[←h];exact aa.symm
     rw[←h1]
     exact aa.trans (by rw[hlu1])
    ·have h1:lv.lookup j=some y:=by rw[←h];exact (ao hj).symm
     have h2:j<N:=hok.tok j y h1
     exact (ao hj).trans ((ao (show j≠N+1+1+1 by omega)).trans ((ao hj).trans h1))
  ·refine AW.exit ?_
   have Mz:u=L:=by have:=dE hb;omega
   refine rs hx fun K hK=>?_
   iterate 2 refine sa ?_
   refine nl hK ?_
   refine AW.ret ?_
   have wd:((d.gc.drop (nn+1)).take u).map e9=bS d nn:=by
    unfold bS
    rw[gJ (by rw[fc];omega)]
   rw[wd]
   exact⟨[(2,D.ex (dO (N+1) au (bS d nn)))],F7 (by rw[h0];exact az N) (show N≤N+1+1 by omega) hok (fun j ds h=>h) (fun j y h=>(ao (by have h2:j<N:=hok.tok j y h;omega)).trans h) (bG.consX bG.nil rfl rfl),⟨_,aa,rfl⟩⟩
end
section
section
variable {vs vs2 pd:List (Nat×List D)} {lv FI:List (Nat×Nat×Nat×TypeId)} {N M n2 k:Nat}
theorem cp.up(hok:cp ⟨vs,lv,N⟩)(h:N≤M):cp ⟨vs,lv,M⟩:=
 ⟨fun j es hj=>by obtain⟨h1,h2⟩:=hok.var j es hj;exact⟨bJ h1 h,bc.2 fun d hd=>D.idsC_le h (bc.1 h2 d hd)⟩,fun id e hi=>bJ (hok.tok id e hi) h⟩
theorem cp.consM {ds:List D}(hok:cp ⟨vs,lv,M⟩)(hk:k<M)(hd:ds.all (D.idsC M)=true):cp ⟨(k,ds)::vs,lv,M⟩:=hok.cons (az M) hk hd
theorem wk1 {x:Cx}{tm tm':List (Nat×D)}{vs0:List (Nat×List D)}{lv0:List (Nat×Nat×Nat×TypeId)}{N0 n':Nat}(h0:x.hp0=⟨vs0,lv0,N0⟩)(hN:N0≤n':=by omega)(hn:n'≤n2:=by omega)(hok:cp ⟨pd,lv,n'⟩:=by (repeat (first|assumption|refine cp.consM ?_ (by omega) (by (first|exact eD _|exact iU (by omega)|exact r4 (by omega) (by omega)|assumption|exact rfl|(simp only[iJ,kr,fH];exact aB (by omega))))|exact cp.up (by assumption) (by omega))))
  (hv:∀j ds,pd.lookup j=some ds→vs2.lookup j=some ds:=by (intro j ds h;(repeat (rcases b8 h with⟨rfl,rfl⟩|⟨hj,h⟩;·(repeat (first|exact aa|assumption|refine al (by first|assumption|exact mu (by assumption)|omega) ?_))));have hjN:=cp.lt (by assumption) h;(repeat (first|exact aa|assumption|refine al (by first|assumption|exact mu (by assumption)|omega) ?_)))) (ht:bG n' tm tm':=by (repeat (first|exact bG.nil|refine bG.cons ?_ (by exact rfl) (by (first|exact rfl|assumption|exact aB (by omega)|exact bc.2 (fun k hk=>aB (by simp only[kK,qG,or_false] at hk;omega))))))):Wk x tm ⟨vs2,lv,n2⟩ tm' ⟨pd,lv,n'⟩:=wkS (by rw[h0];exact hN) hn hok hv ht
theorem rt1 {x:Cx}{tm:List (Nat×D)}{q:Nat}{d:D}(h0:x.hp0=⟨vs,lv,N⟩)(hok:cp ⟨pd,lv,N⟩:=by (repeat (first|assumption|refine cp.consM ?_ (by omega) (by (first|exact eD _|exact iU (by omega)|exact r4 (by omega) (by omega)|assumption|exact rfl|(simp only[iJ,kr,fH];exact aB (by omega))))|exact cp.up (by assumption) (by omega))))(hN:N≤n2:=by omega)(hv:∀j ds,pd.lookup j=some ds→vs2.lookup j=some ds:=by (intro j ds h;(repeat (rcases b8 h with⟨rfl,rfl⟩|⟨hj,h⟩;·(repeat (first|exact aa|assumption|refine al (by first|assumption|exact mu (by assumption)|omega) ?_))));have hjN:=cp.lt (by assumption) h;(repeat (first|exact aa|assumption|refine al (by first|assumption|exact mu (by assumption)|omega) ?_))))(hq:tm.lookup q=some d:=by exact rfl)(hd:d.idsB N=true:=by (first|exact rfl|assumption|exact aB (by omega)|exact bc.2 (fun k hk=>aB (by simp only[kK,qG,or_false] at hk;omega)))):
  ∃tm',Wk x tm ⟨vs2,lv,n2⟩ tm' ⟨pd,lv,N⟩∧tI tbl [.tmp q] tm' ⟨pd,lv,N⟩ d:=
 ⟨[(q,d)],wkS (by rw[h0];exact az N) hN hok hv (bG.nil.cons hq hd),⟨d,aa,rfl⟩⟩
theorem rt2 {x:Cx}{tm:List (Nat×D)}{q p:Nat}{d e:D}(h0:x.hp0=⟨vs,lv,N⟩)(hok:cp ⟨pd,lv,N⟩:=by (repeat (first|assumption|refine cp.consM ?_ (by omega) (by (first|exact eD _|exact iU (by omega)|exact r4 (by omega) (by omega)|assumption|exact rfl|(simp only[iJ,kr,fH];exact aB (by omega))))|exact cp.up (by assumption) (by omega))))(hN:N≤n2:=by omega)(hv:∀j ds,pd.lookup j=some ds→vs2.lookup j=some ds:=by (intro j ds h;(repeat (rcases b8 h with⟨rfl,rfl⟩|⟨hj,h⟩;·(repeat (first|exact aa|assumption|refine al (by first|assumption|exact mu (by assumption)|omega) ?_))));have hjN:=cp.lt (by assumption) h;(repeat (first|exact aa|assumption|refine al (by first|assumption|exact mu (by assumption)|omega) ?_))))(hq:tm.lookup q=some d:=by exact rfl)(hp:tm.lookup p=some e:=by exact rfl)(hd:d.idsB N=true:=by (first|exact rfl|assumption|exact aB (by omega)|exact bc.2 (fun k hk=>aB (by simp only[kK,qG,or_false] at hk;omega))))(he:e.idsB N=true:=by (first|exact rfl|assumption|exact aB (by omega)|exact bc.2 (fun k hk=>aB (by simp only[kK,qG,or_false] at hk;omega))))(fI:p≠q:=by decide):
  ∃tm',Wk x tm ⟨vs2,lv,n2⟩ tm' ⟨pd,lv,N⟩∧tI tbl [.tmp q,.tmp p] tm' ⟨pd,lv,N⟩ (.tu [d,e]):=
 ⟨[(q,d),(p,e)],wkS (by rw[h0];exact az N) hN hok hv ((bG.nil.cons hp he).cons hq hd),⟨d,aa,⟨e,(ao fI).trans aa,rfl⟩⟩⟩
end
section
variable {md:Md} {ops:Array Oper} {K:List (Nat×D)→Hp→Prop} {os:List Oper} {tm:List (Nat×D)} {hp hp':Hp} {t s:Tmp} {op:Op} {ty:TypeId} {pos:String} {af:Array Edge} {d:D} {j k o n i:Nat} {want c:Bool} {F F2:List D} {F':List D→List D} {a b:Nu} {x y:Operand}
theorem gn(hw:c= !want)(h2:aX prog tbl md ops K os ((t,.tu [])::tm) hp)(hj:(ops[j]?).bind (·.dst)=some s:=by exact rfl)(hc:tm.lookup s=some (.e (.lit (.bool c))):=by exact rfl):aX prog tbl md ops K (⟨some t,op,ty,pos,af,some (j,want)⟩::os) tm hp:=Mj hj hc hw h2
theorem gm(h2:aX prog tbl md ops K os ((t,.tu [])::tm) hp)(hj:(ops[j]?).bind (·.dst)=some s:=by exact rfl)(hc:tm.lookup s=some (.tu []):=by exact rfl):aX prog tbl md ops K (⟨some t,op,ty,pos,af,some (j,want)⟩::os) tm hp:=nn_t hj hc h2
theorem l1(L:Pt F o (dC (au.f a)) F')(h2:aX prog tbl md ops K os ((t,dG au a)::tm) hp)(hx:evD tm x=.pt k o:=by exact rfl)(hv:hp.vars.lookup k=some F:=by (repeat (first|exact aa|assumption|refine al (by first|assumption|exact mu (by assumption)|omega) ?_)))(hk:k<hp.next:=by (first|omega|(dsimp only;omega)))(hn:md.nc tbl (.load 43 x)=true:=by exact rfl):aX prog tbl md ops K (⟨some t,.load 43 x,ty,pos,af,none⟩::os) tm hp:=s1 (ldN L hv hk hx) h2 hn
theorem t1 {vs:List (Nat×List D)}{lv:List (Nat×Nat×Nat×TypeId)}{N:Nat}(L:Pt F o (dC (au.f a)) F')(h3:F' (dC (au.f b))=F2)(h2:aX prog tbl md ops K os tm ⟨(k,F2)::vs,lv,N⟩)(hx:evD tm x=.pt k o:=by exact rfl)(hv:vs.lookup k=some F:=by (repeat (first|exact aa|assumption|refine al (by first|assumption|exact mu (by assumption)|omega) ?_)))(hy:evD tm y=dG au b:=by exact rfl)(hn:md.nc tbl (.store 43 x y)=true:=by exact rfl):aX prog tbl md ops K (⟨none,.store 43 x y,ty,pos,af,none⟩::os) tm ⟨vs,lv,N⟩:=s0 (stN L hv h3 hx hy rfl) h2 hn
theorem l1g(L:Pt F o (dC (au.f a)) F')(hw:c=want)(h2:aX prog tbl md ops K os ((t,dG au a)::tm) hp)(hx:evD tm x=.pt k o:=by exact rfl)(hv:hp.vars.lookup k=some F:=by (repeat (first|exact aa|assumption|refine al (by first|assumption|exact mu (by assumption)|omega) ?_)))(hk:k<hp.next:=by (first|omega|(dsimp only;omega)))(hj:(ops[j]?).bind (·.dst)=some s:=by exact rfl)(hc:tm.lookup s=some (.e (.lit (.bool c))):=by exact rfl)(hn:md.nc tbl (.load 43 x)=true:=by exact rfl):aX prog tbl md ops K (⟨some t,.load 43 x,ty,pos,af,some (j,want)⟩::os) tm hp:=g1 hw (ldN L hv hk hx) h2 hj hc hn
theorem cqg {f:FuncId}{la:List Operand}{ts:Array TypeId}{ds:List D}{r:D}(hc:ar prog f ds r)(hw:c=want)(h2:aX prog tbl md ops K os ((t,r)::tm) hp)(hj:(ops[j]?).bind (·.dst)=some s:=by exact rfl)(hg:tm.lookup s=some (.e (.lit (.bool c))):=by exact rfl)(jC:((la.map (evD tm)).map D.ex).all D.pure=true:=by repeat (first|exact pn|refine pA (db _ _) ?_|refine pA rfl ?_))(hl:leL ((la.map (evD tm)).map D.ex) ds:=by repeat (first|exact lAn|refine lC (pm _ _) ?_|refine lC (ax _) ?_))(hr:r.pure=true∨∃ds,r=.tu ds:=by (first|exact .inl (iR _ _)|exact .inl rfl|exact .inr ⟨_,rfl⟩)):
  aX prog tbl md ops K (⟨some t,.call ⟨.value (.func f),la.toArray,ts⟩,ty,pos,af,some (j,want)⟩::os) tm hp:=sqg tok hj hg hw hc jC hl hr h2
theorem n1 {vs:List (Nat×List D)}{lv:List (Nat×Nat×Nat×TypeId)}{N:Nat}(h2:aX prog tbl md ops K os ((t,.pt N 0)::tm) ⟨(N,dC zN)::vs,lv,N+1⟩)(hn:md.nc tbl (.alloc 43)=true:=by exact rfl):aX prog tbl md ops K (⟨some t,.alloc 43,ty,pos,af,none⟩::os) tm ⟨vs,lv,N⟩:=s1 Lt h2 hn
theorem z1 {vs:List (Nat×List D)}{lv:List (Nat×Nat×Nat×TypeId)}{N:Nat}(h2:aX prog tbl md ops K os tm ⟨(k,(dC (au.f b)))::vs,lv,N⟩)(hx:evD tm x=.pt k 0:=by exact rfl)(hv:vs.lookup k=some (dC zN):=by (repeat (first|exact aa|assumption|refine al (by first|assumption|exact mu (by assumption)|omega) ?_)))(hy:evD tm y=dG au b:=by exact rfl)(hn:md.nc tbl (.store 43 x y)=true:=by exact rfl):aX prog tbl md ops K (⟨none,.store 43 x y,ty,pos,af,none⟩::os) tm ⟨vs,lv,N⟩:=s0 (stZ hv hx hy rfl) h2 hn
theorem c1 {tt:TypeId}{ti:TyE}(L:Pt F o [d] F')(h2:aX prog tbl md ops K os ((t,d)::tm) hp)(hx:evD tm x=.pt k o:=by exact rfl)(hv:hp.vars.lookup k=some F:=by (repeat (first|exact aa|assumption|refine al (by first|assumption|exact mu (by assumption)|omega) ?_)))(hk:k<hp.next:=by (first|omega|(dsimp only;omega)))(ht:tbl tt=some ti:=by exact tbI)(hg:ti.ty.agg=false:=by exact rfl)(hn:md.nc tbl (.load tt x)=true:=by exact rfl):aX prog tbl md ops K (⟨some t,.load tt x,ty,pos,af,none⟩::os) tm hp:=s1 (kC L hv hk ht hg hx) h2 hn
theorem c1g {tt:TypeId}{ti:TyE}(L:Pt F o [d] F')(hw:c=want)(h2:aX prog tbl md ops K os ((t,d)::tm) hp)(hx:evD tm x=.pt k o:=by exact rfl)(hv:hp.vars.lookup k=some F:=by (repeat (first|exact aa|assumption|refine al (by first|assumption|exact mu (by assumption)|omega) ?_)))(hk:k<hp.next:=by (first|omega|(dsimp only;omega)))(ht:tbl tt=some ti:=by exact tbI)(hg:ti.ty.agg=false:=by exact rfl)(hj:(ops[j]?).bind (·.dst)=some s:=by exact rfl)(hc:tm.lookup s=some (.e (.lit (.bool c))):=by exact rfl)(hn:md.nc tbl (.load tt x)=true:=by exact rfl):aX prog tbl md ops K (⟨some t,.load tt x,ty,pos,af,some (j,want)⟩::os) tm hp:=g1 hw (kC L hv hk ht hg hx) h2 hj hc hn
theorem p1 {tt:TypeId}{ti:TyE}{bs:List D}(L:Pt F o bs F')(hz:bs.length=ti.size)(h2:aX prog tbl md ops K os ((t,.ag bs)::tm) hp)(hx:evD tm x=.pt k o:=by exact rfl)(hv:hp.vars.lookup k=some F:=by (repeat (first|exact aa|assumption|refine al (by first|assumption|exact mu (by assumption)|omega) ?_)))(hk:k<hp.next:=by (first|omega|(dsimp only;omega)))(ht:tbl tt=some ti:=by exact tbI)(hg:ti.ty.agg=true:=by exact rfl)(hn:md.nc tbl (.load tt x)=true:=by exact rfl):aX prog tbl md ops K (⟨some t,.load tt x,ty,pos,af,none⟩::os) tm hp:=s1 (CP L hv hk ht hz hg hx) h2 hn
theorem v1 {vs:List (Nat×List D)}{lv:List (Nat×Nat×Nat×TypeId)}{N:Nat}{tt:TypeId}{ti:TyE}{bs ys:List D}(L:Pt F o bs F')(hz:bs.length=ti.size)(hl:ys.length=bs.length)(h3:F' ys=F2)(h2:aX prog tbl md ops K os tm ⟨(k,F2)::vs,lv,N⟩)(hx:evD tm x=.pt k o:=by exact rfl)(hv:vs.lookup k=some F:=by (repeat (first|exact aa|assumption|refine al (by first|assumption|exact mu (by assumption)|omega) ?_)))(hyc:(evD tm y).cells=some ys:=by exact rfl)(ht:tbl tt=some ti:=by exact tbI)(hn:md.nc tbl (.store tt x y)=true:=by exact rfl):aX prog tbl md ops K (⟨none,.store tt x y,ty,pos,af,none⟩::os) tm ⟨vs,lv,N⟩:=s0 (Hz L hv hyc ht hz hl h3 hx rfl) h2 hn
theorem i1(h:i<n)(h2:aX prog tbl md ops K os ((t,.pt k (i*36))::tm) hp)(hx:evD tm x=.ow k 0 36 n:=by exact rfl)(hy:evD tm y=dI .i64 (i:Int):=by exact rfl)(hn:md.nc tbl (.indexAddr 22 x y)=true:=by exact rfl):aX prog tbl md ops K (⟨some t,.indexAddr 22 x y,ty,pos,af,none⟩::os) tm hp:=s1 (iaN h hx hy) h2 hn
theorem r1(h:i<n)(h2:aX prog tbl md ops K os ((t,.pt k (i*38))::tm) hp)(hx:(evD tm x).toOw=.ow k 0 38 n:=by exact rfl)(hy:(evD tm y).toOw=dI .i64 (i:Int):=by exact rfl)(hn:md.nc tbl (.indexAddr 71 x y)=true:=by exact rfl):aX prog tbl md ops K (⟨some t,.indexAddr 71 x y,ty,pos,af,none⟩::os) tm hp:=stG (d:=.pt k (i*38)) tok (iaR h hx hy) h2 hn
theorem r1g'(h:i<n)(hw:c=want)(h2:aX prog tbl md ops K os ((t,.pt k (i*38))::tm) hp)(hx:evD tm x=.gw k 38 n:=by exact rfl)(hy:evD tm y=dI .i64 (i:Int):=by exact rfl)(hj:(ops[j]?).bind (·.dst)=some s:=by exact rfl)(hc:tm.lookup s=some (.e (.lit (.bool c))):=by exact rfl)(hn:md.nc tbl (.indexAddr 71 x y)=true:=by exact rfl):aX prog tbl md ops K (⟨some t,.indexAddr 71 x y,ty,pos,af,some (j,want)⟩::os) tm hp:=
 N9 hj hc (by subst hw;cases c <;> rfl) (mO.toOw ((AVC.snd (o:=⟨some t,.indexAddr 71 x y,ty,pos,af,some (j,want)⟩) tok (iaR h (by rw[hx];rfl) (by rw[hy];rfl))).q1 hn)) h2
theorem a1 {vs:List (Nat×List D)}{lv:List (Nat×Nat×Nat×TypeId)}{N:Nat}{tt:TypeId}{ti:TyE}{F:List E}(ht:tbl tt=some ti)(h2:aX prog tbl md ops K os ((t,.pt N 0)::tm) ⟨(N,dC F)::vs,lv,N+1⟩)(hz:ti.zero.map E.lit=F:=by kernel_rfl)(hn:md.nc tbl (.alloc tt)=true:=by exact rfl):aX prog tbl md ops K (⟨some t,.alloc tt,ty,pos,af,none⟩::os) tm ⟨vs,lv,N⟩:=s1 (yE ht hz) h2 hn
end
end
def rv(x:Nu):Rat:=(ct x.1).getD 0
theorem bE {x:Nu}:aw x=true↔ct x.1=some (rv x):=by
 rw[eJ];unfold rv
 cases ct x.1 <;> simp
theorem Ew {x:Nu}(h:aw x=true):lZ (rv x):=(dK.1 (bE.1 h)).1
theorem Dr {x:Nu}(h:aw x=true):x=nuR (some (rv x)):=Subtype.ext (TT (bE.1 h))
theorem As {x y:Nu}(hx:aw x=true)(hy:aw y=true)(h:rv x=rv y):x=y:=by
 rw[Dr hx,Dr hy,h]
theorem pL {o:Option Rat}(h:BI o):ct (nuR o).1=o:=AZ h
theorem rK {q:Rat}(h:lZ q):aw (nuR (some q))=true∧rv (nuR (some q))=q:=by
 have:ct (nuR (some q)).1=some q:=pL (o:=some q) fun p hp=>by injection hp with hp;rw[←hp];exact h
 rw[eJ];unfold rv
 rw[this]
 exact⟨rfl,rfl⟩
theorem fit0:lZ 0:=⟨by decide,by decide⟩
theorem fit1:lZ 1:=⟨by decide,by decide⟩
theorem LIM_one:1<LIM:=by decide
theorem of0:aw (nOf 0)=true∧rv (nOf 0)=0:=rK (q:=((0:Int):Rat)) fit0
theorem of1:aw (nOf 1)=true∧rv (nOf 1)=1:=rK (q:=((1:Int):Rat)) fit1
theorem ofm1:aw (nOf (-1))=true∧rv (nOf (-1))=-1:=rK (q:=((-1:Int):Rat)) (KP fit1)
theorem rL {x:Nu}(h:aw x=true):bL x=(rv x).num.sign:=by rw[Br,bE.1 h];rfl
theorem zX {x:Nu}(h:aw x=true):bL x=0↔rv x=0:=by
 rw[rL h,BZ]
 exact Rat.num_eq_zero
theorem Kc {q:Rat}:0<q.num↔0<q:=by
 rw[Rat.lt_iff];simp
theorem Kd {q:Rat}:q.num<0↔q<0:=by
 rw[Rat.lt_iff];simp
theorem J6 {x:Nu}(h:aw x=true):0<bL x↔0<rv x:=by
 rw[rL h,Int.sign_pos_iff];exact Kc
theorem tS {x:Nu}(h:aw x=true):bL x<0↔rv x<0:=by
 rw[rL h,E1];exact Kd
theorem Ig {x y:Nu}(hx:aw x=true)(hy:aw y=true)(h:aw (jJ x y)=true):rv (jJ x y)=rv x+rv y:=by
 have h1:=bE.1 h
 rw[p9] at h1 ⊢
 rw[pL (Ac _ _),bE.1 hx,bE.1 hy] at h1
 have h2:CV (rv x) (rv y)=some (rv (nuR (Ic (some (rv x)) (some (rv y))))):=h1
 rw[bE.1 hx,bE.1 hy]
 unfold CV at h2
 split at h2
 ·injection h2 with h2;exact h2.symm
 ·cases h2
theorem If {x y:Nu}(hx:aw x=true)(hy:aw y=true)(h:aw (iy x y)=true):rv (iy x y)=rv x*rv y:=by
 have h1:=bE.1 h
 rw[rM] at h1 ⊢
 rw[pL (D0 _ _)] at h1
 rw[bE.1 hx,bE.1 hy] at h1 ⊢
 have h2:Bj (rv x) (rv y)=some (rv (nuR (Bo (some (rv x)) (some (rv y))))):=h1
 unfold Bj at h2
 split at h2
 ·injection h2 with h2;exact h2.symm
 ·cases h2
theorem wJ {x y:Nu}(h:aw (jJ x y)=true):aw x=true∧aw y=true:=by
 rw[eJ,p9,pL (Ac _ _)] at h
 rw[eJ,eJ]
 cases h1:ct x.1 <;> cases h2:ct y.1 <;> simp_all [Ic]
theorem TD {x y:Nu}(h:aw (iy x y)=true):aw x=true∧aw y=true:=by
 rw[eJ,rM,pL (D0 _ _)] at h
 rw[eJ,eJ]
 cases h1:ct x.1 <;> cases h2:ct y.1 <;> simp_all [Bo]
theorem rk {x:Nu}:aw (e9 x)=aw x:=by
 rw[eJ,eJ,Ae,pL (DZ (Ey _))]
 cases ct x.1 <;> rfl
theorem lR {x:Nu}:rv (e9 x)=-rv x:=by
 unfold rv
 rw[Ae,pL (DZ (Ey _))]
 cases ct x.1
 ·simp[PZ]
 ·rfl
theorem t9 {x y:Nu}(h:aw (n6 x y)=true):aw x=true∧aw y=true∧rv y≠0∧rv (n6 x y)=rv x / rv y:=by
 have h1:=bE.1 h
 rw[D2] at h1 ⊢
 rw[pL (Sa _ _)] at h1
 have hx:aw x=true:=by
  rw[eJ]
  cases h2:ct x.1 with
  |some _=>rfl
  |none=>rw[h2] at h1;cases h1
 have hy:aw y=true:=by
  rw[eJ]
  cases h2:ct y.1 with
  |some _=>rfl
  |none=>rw[h2] at h1;unfold Gp Bo Mh at h1;cases h3:ct x.1 <;> simp[h3] at h1
 rw[bE.1 hx,bE.1 hy] at h1 ⊢
 by_cases h0:rv y=0
 ·unfold Gp Bo Mh at h1
  simp[h0] at h1
 ·have h2:Bj (rv x) (rv y)⁻¹=some (rv (nuR (Gp (some (rv x)) (some (rv y))))):=by
   rw[←h1]
   unfold Gp Bo Mh
   simp[h0]
  refine⟨hx,hy,h0,?_⟩
  unfold Bj at h2
  split at h2
  ·injection h2 with h2;rw[←h2,iI]
  ·cases h2
theorem GY {q y:Nu}(hq:aw q=true)(h0:rv q=0)(hy:aw y=true):iy q y=nOf 0:=by
 unfold nOf
 rw[rM,bE.1 hq,bE.1 hy,h0]
 show nuR (Bj 0 (rv y))=_
 unfold Bj
 rw[I1,ai fit0]
 rfl
theorem yX {q:Nu}(hq:aw q=true):iy q (nOf 0)=nOf 0:=by
 have h1:ct (nOf 0).1=some 0:=by have:=bE.1 of0.1;rw[of0.2] at this;exact this
 rw[rM,bE.1 hq,h1]
 show nuR (Bj (rv q) 0)=_
 unfold Bj
 rw[qI,ai fit0]
 rfl
theorem GT {x:Rat}(h:lZ x):CV x 0=some x:=by
 unfold CV
 rw[ai,Rat.add_zero]
 have h1:Nat.gcd x.den (0:Rat).den=1:=Nat.gcd_one_right _
 rw[h1]
 have e1:(0:Rat).den=1:=rfl
 have e2:(0:Rat).num=0:=rfl
 have:=LIM_one
 rw[e1,e2]
 simp only[m4,Int.mul_one,I3,Int.add_zero,yy]
 exact⟨by simpa using h.1,by simp;omega,by simpa using h.1,h.2⟩
theorem xv {x:Nu}(hx:aw x=true):jJ x (nOf 0)=x:=by
 have h1:=bE.1 hx
 rw[p9,h1,show ct (nOf 0).1=some 0 from by have:=bE.1 of0.1;rw[of0.2] at this;exact this]
 show nuR (CV (rv x) 0)=x
 rw[GT (Ew hx)]
 exact (Dr hx).symm
theorem GZ {x q y:Nu}(hx:aw x=true)(hq:aw q=true)(hy:aw y=true)(h0:bL q=0):jJ x (iy q y)=x:=by
 rw[GY hq ((zX hq).1 h0) hy,xv hx]
theorem good0 {x:Nu}(h:aw x=true)(h0:bL x=0):x=nOf 0:=As h of0.1 (((zX h).1 h0).trans of0.2.symm)
structure Lin where
 k:Nu
 c:List Nu
instance:Inhabited Lin:=⟨⟨default,[]⟩⟩
def goodR(l:Lin):Bool:=f5 l.k l.c
def Bl(l row:Lin)(s:Nat):Lin:=⟨jJ l.k (iy l.c[s]! row.k),(List.range l.c.length).map fun t=>if t=s then nOf 0 else jJ l.c[t]! (iy l.c[s]! row.c[t]!)⟩
theorem J1(p:Nu)(l:List Nu):∀t,t≤l.length→sT p t l=(l.take t).map (fun x=>n6 (e9 x) p)++l.drop t
 |0,_=>by simp[sT]
 |t+1,h=>by
  have ih:=J1 p l t (by omega)
  unfold sT
  have hl:((l.take t).map fun x=>n6 (e9 x) p).length=t:=by simp;omega
  have hg:(sT p t l)[t]! =l[t]:=by
   rw[ih,zj,qH (by omega),hl,zm,nt,iK,cC (by omega)]
   rfl
  rw[hg,ih,List.set_append_right _ _ (by omega),hl,zm,Fe (by omega),List.set_cons_zero,yx,cC (by omega)]
  simp only[gK,da,jK,mZ,EY,ny,Option.toList]
theorem PK(p:Nu)(l:List Nu):sT p l.length l=l.map fun x=>n6 (e9 x) p:=by
 rw[J1 p l _ (az _)];simp
theorem uR {α:Type}[Inhabited α]{l:List α}{i:Nat}(h:i<l.length):l[i]? =some l[i]! :=by rw[bI l i h];exact cC h
theorem dJ {α:Type}[Inhabited α]{l:List α}{i:Nat}{x:α}(h:l[i]? =some x):l[i]! =x:=by rw[zj,h];rfl
theorem PT {n i:Nat}(h:i<n):(List.range n)[i]? =some i:=by rw[cC (by simpa using h),NE]
theorem b7 {α:Type}{n i:Nat}(f:Nat→α)(h:i<n):((List.range n).map f)[i]? =some (f i):=by rw[dT,PT h];rfl
theorem nh {α:Type}[Inhabited α]{l:List α}{n:Nat}{f:Nat→α}(hl:l.length=n)(h:∀i,i<n→l[i]! =f i):l=(List.range n).map f:=by
 apply Lg
 intro i
 by_cases hi:i<n
 ·rw[uR (by omega),b7 f hi,h i hi]
 ·rw[qZ (by omega),qZ (by simp;omega)]
theorem eG {α:Type}[Inhabited α]{l:List α}{i j:Nat}{x:α}(hj:j<l.length):(l.set i x)[j]! =if i=j then x else l[j]! :=by
 apply dJ
 rw[List.getElem?_set]
 by_cases h:i=j
 ·subst h;simp[hj]
 ·rw[ah h,ah h,uR hj]
theorem Jh(q:Nu)(xc:List Nu)(s:Nat)(l:List Nu):∀t i,i<l.length→(xX q xc s t l)[i]! =if i<t∧i≠s then jJ l[i]! (iy q xc[i]!) else l[i]!
 |0,i,_=>by rw[ah (by omega)];rfl
 |t+1,i,h=>by
  have ih:=Jh q xc s l t
  unfold xX
  by_cases rl:(t:Int)=(s:Int)
  ·rw[ai rl,ih i h]
   by_cases hi:i<t∧i≠s
   ·rw[ai hi,ai (by omega)]
   ·rw[ah hi,ah (by omega)]
  ·rw[ah rl,eG (by rw[qq];exact h)]
   by_cases yj:t=i
   ·subst yj
    rw[ai rfl,ai (by omega),ih t h,ah (by omega)]
   ·rw[ah yj,ih i h]
    by_cases hi:i<t∧i≠s
    ·rw[ai hi,ai (by omega)]
    ·rw[ah hi,ah (by omega)]
theorem Dx(q:Nu)(xc:List Nu)(l:List Nu):∀t i,i<l.length→(xX q xc (-1) t l)[i]! =if i<t then jJ l[i]! (iy q xc[i]!) else l[i]!
 |0,i,_=>by rw[ah (by omega)];rfl
 |t+1,i,h=>by
  have ih:=Dx q xc l t
  unfold xX
  rw[ah (by omega),eG (by rw[qq];exact h)]
  by_cases yj:t=i
  ·subst yj
   rw[ai rfl,ai (by omega),ih t h,ah (by omega)]
  ·rw[ah yj,ih i h]
   by_cases hi:i<t
   ·rw[ai hi,ai (by omega)]
   ·rw[ah hi,ah (by omega)]
theorem all_get {l:List Nu}(h:l.all aw=true){i:Nat}(hi:i<l.length):aw l[i]! =true:=by
 rw[bI l i hi];exact bc.1 h _ (nK hi)
theorem IU {l:List Nu}(h:∀i,i<l.length→aw l[i]! =true):l.all aw=true:=by
 rw[bc]
 intro x hx
 obtain⟨i,hi,rfl⟩:=w4.1 hx
 have:=h i hi
 rwa[bI l i hi] at this
theorem bm {k:Nu}{c:List Nu}:f5 k c=true↔aw k=true∧∀i,i<c.length→aw c[i]! =true:=by
 unfold f5
 rw[cm]
 exact⟨fun h=>⟨h.1,fun i hi=>all_get h.2 hi⟩,fun h=>⟨h.1,IU h.2⟩⟩
def gV(k:Nu)(c:List Nu)(r1:Row)(s:Nat):Lin:=⟨xb c[s]! r1.k k,ui c[s]! r1.c s (c.set s (nOf 0))⟩
theorem rJ(k:Nu)(c:List Nu)(r1:Row)(s:Nat):(gV k c r1 s).c.length=c.length:=by unfold gV;rw[uh,c7]
theorem putP_eq {k:Nu}{c:List Nu}{r1:Row}{s:Nat}(hg:f5 k c=true)(hr:f5 r1.k r1.c=true)(hs:s<c.length)(hl:r1.c.length=c.length):gV k c r1 s=Bl ⟨k,c⟩ ⟨r1.k,r1.c⟩ s:=by
 obtain⟨h1,h2⟩:=bm.1 hg
 obtain⟨h3,h4⟩:=bm.1 hr
 have hq:=h2 s hs
 unfold gV Bl xb ui
 by_cases h0:bL c[s]! =0
 ·rw[ai h0,ai h0]
  congr 1
  ·exact (GZ h1 hq h3 h0).symm
  ·refine nh (by rw[c7]) fun i hi=>?_
   have hi:i<c.length:=hi
   rw[eG hi]
   by_cases his:s=i
   ·rw[ai his,ai his.symm]
   ·rw[ah his,ah (fun e=>his e.symm)]
    exact (GZ (h2 i hi) hq (h4 i (by omega)) h0).symm
 ·rw[ah h0,ah h0]
  congr 1
  refine nh (by rw[qq,c7]) fun i hi=>?_
  have hi:i<c.length:=hi
  rw[Jh _ _ _ _ _ i (by rw[c7];exact hi),c7,eG hi]
  by_cases his:s=i
  ·subst his;simp
  ·rw[ai ⟨hi,fun e=>his e.symm⟩,ah his,ah (fun e=>his e.symm)]
theorem rD(r:Row)(s:Nat):(a9 r s).c.length=r.c.length:=by unfold a9;simp[A9]
def pf(rows:List Row)(r1:Row)(s at' i:Nat):List Row:=(List.range rows.length).map fun j=>if j≠at'∧j<i then⟨(gV rows[j]!.k rows[j]!.c r1 s).k,(gV rows[j]!.k rows[j]!.c r1 s).c,rows[j]!.b⟩ else rows[j]!
theorem PY(at' i:Nat):xR at' (i+1)=if i=at' then xR at' i else xR at' i++[some i]:=by
 unfold xR
 rw[wY,Ni,gK]
 by_cases h:i=at'
 ·rw[ai h];simp[h]
 ·rw[ah h];simp[h]
theorem OZ(d:Dic)(r1:Row)(s at':Nat)(g:Bool):∀i,i≤d.rows.length→(xR at' i).foldl (wD r1 s) (d,g)=
  (⟨pf d.rows r1 s at' i,(gV d.gk d.gc r1 s).k,(gV d.gk d.gc r1 s).c,d.n,d.piv,d.most⟩,g&&(f5 (gV d.gk d.gc r1 s).k (gV d.gk d.gc r1 s).c&&(List.range i).all fun j=>decide (j=at')||f5 (gV d.rows[j]!.k d.rows[j]!.c r1 s).k (gV d.rows[j]!.k d.rows[j]!.c r1 s).c))
 |0,_=>by
  have h0:pf d.rows r1 s at' 0=d.rows:=by
   unfold pf
   exact (nh rfl fun i hi=>by rw[ah (by omega)]).symm
  rw[h0]
  show wD r1 s (d,g) none=_
  simp[wD,Ry,L6,lkO,lcO,gV]
 |i+1,h=>by
  have ih:=OZ d r1 s at' g i (by omega)
  rw[PY]
  by_cases hi:i=at'
  ·rw[ai hi,ih]
   congr 1
   ·congr 1
    unfold pf
    refine ss fun j hj=>?_
    by_cases Cu:j≠at'∧j<i
    ·rw[ai Cu,ai (by omega)]
    ·rw[ah Cu,ah (by omega)]
   ·rw[wY,lW]
    simp[hi]
  ·rw[ah hi,List.foldl_append,ih]
   have gj:(pf d.rows r1 s at' i)[i]! =d.rows[i]! :=by
    apply dJ
    unfold pf
    rw[b7 _ (by omega),ah (by omega)]
   have CX:∀x:Row,(pf d.rows r1 s at' i).set i x=(List.range d.rows.length).map fun j=>if j=i then x else (pf d.rows r1 s at' i)[j]! :=fun x=>by
    refine nh (by simp[pf]) fun j hj=>?_
    rw[eG (by simpa[pf] using hj)]
    by_cases Cw:i=j
    ·rw[ai Cw,ai Cw.symm]
    ·rw[ah Cw,ah (fun e=>Cw e.symm)]
   simp only[List.foldl_cons,List.foldl_nil,wD,Ry,L6,lkO,lcO,gj]
   congr 1
   ·congr 1
    rw[CX]
    unfold pf
    refine ss fun j hj=>?_
    have hj:=kz.1 hj
    by_cases zD:j=i
    ·subst zD
     rw[ai rfl,ai ⟨hi,by omega⟩]
     rfl
    ·rw[ah zD]
     have:((List.range d.rows.length).map fun j=>if j≠at'∧j<i then (⟨(gV d.rows[j]!.k d.rows[j]!.c r1 s).k,(gV d.rows[j]!.k d.rows[j]!.c r1 s).c,d.rows[j]!.b⟩:Row) else d.rows[j]!)[j]! =_:=dJ (b7 _ hj)
     rw[this]
     by_cases Cu:j≠at'∧j<i
     ·rw[ai Cu,ai (by omega)]
     ·rw[ah Cu,ah (by omega)]
   ·rw[wY,lW]
    simp[hi,gV,I6]
structure Fine(d:Dic)(w:Nat):Prop where
 lg:d.gc.length=w
 lr:∀i,i<d.rows.length→d.rows[i]!.c.length=w
 gg:f5 d.gk d.gc=true
 gr:∀i,i<d.rows.length→f5 d.rows[i]!.k d.rows[i]!.c=true
def gi(d:Dic)(at' s:Nat):Dic:=
 let r1:=a9 d.rows[at']! s
 ⟨(List.range d.rows.length).map fun j=>if j=at' then r1 else⟨(gV d.rows[j]!.k d.rows[j]!.c r1 s).k,(gV d.rows[j]!.k d.rows[j]!.c r1 s).c,d.rows[j]!.b⟩,(gV d.gk d.gc r1 s).k,(gV d.gk d.gc r1 s).c,d.n,d.piv+1,d.most⟩
theorem Bn(d:Dic)(at' s:Nat)(hat:at'<d.rows.length)(hp:¬d.most≤d.piv):(dV d at' s).2=gi d at' s∧
  ((dV d at' s).1=0∨(dV d at' s).1=30)∧((dV d at' s).1=0↔f5 (gi d at' s).gk (gi d at' s).gc=true∧∀i,i<d.rows.length→f5 (gi d at' s).rows[i]!.k (gi d at' s).rows[i]!.c=true):=by
 have jF:∀(p:Dic×Bool) (r1:Row),pO r1 s at' d.rows.length p (xR at' d.rows.length).length=(xR at' d.rows.length).foldl (wD r1 s) p:=fun p r1=>by unfold pO;rw[List.take_length]
 unfold dV
 rw[ah hp]
 simp only[jF]
 obtain⟨r1,FN⟩:∃r1,r1=a9 d.rows[at']! s:=⟨_,rfl⟩
 have hr1':=FN
 rw[←FN]
 obtain⟨d1,Dm⟩:∃d1:Dic,d1=⟨d.rows.set at' r1,d.gk,d.gc,d.n,d.piv+1,d.most⟩:=⟨_,rfl⟩
 have hdl:d1.rows.length=d.rows.length:=by rw[Dm];exact c7 ..
 rw[←Dm]
 have hf:=OZ d1 r1 s at' (f5 r1.k r1.c) d.rows.length (by omega)
 rw[hf]
 have It:∀j,j<d.rows.length→d1.rows[j]! =if at'=j then r1 else d.rows[j]! :=fun j hj=>by rw[Dm];exact eG hj
 have hpD:gi d at' s=⟨pf d1.rows r1 s at' d.rows.length,(gV d1.gk d1.gc r1 s).k,(gV d1.gk d1.gc r1 s).c,d1.n,d1.piv,d1.most⟩:=by
  unfold gi
  rw[←FN,Dm]
  dsimp only
  congr 1
  unfold pf
  rw[c7]
  refine ss fun j hj=>?_
  have hj:=kz.1 hj
  rw[eG hj]
  by_cases sH:j=at'
  ·subst sH;simp
  ·rw[ah sH,ai ⟨sH,hj⟩,ah (fun e=>sH e.symm)]
 refine⟨hpD.symm,?_,?_⟩
 ·dsimp only
  split <;> simp
 ·dsimp only
  have gj:∀i,i<d.rows.length→(gi d at' s).rows[i]! =if i=at' then r1 else⟨(gV d.rows[i]!.k d.rows[i]!.c r1 s).k,(gV d.rows[i]!.k d.rows[i]!.c r1 s).c,d.rows[i]!.b⟩:=fun i hi=>by
   apply dJ
   unfold gi
   rw[←FN]
   exact b7 _ hi
  constructor
  ·intro h
   split at h
   ·rename_i hb
    simp only[cm,bc] at hb
    obtain⟨h1,h2,h3⟩:=hb
    refine⟨by rw[hpD];exact h2,fun i hi=>?_⟩
    rw[gj i hi]
    by_cases ro:i=at'
    ·rw[ai ro];exact h1
    ·rw[ah ro]
     have:=h3 i (kz.2 hi)
     rw[It i hi,ah (fun e=>ro e.symm)] at this
     simpa[ro] using this
   ·cases h
  ·rintro⟨h1,h2⟩
   rw[ai]
   simp only[cm,bc]
   refine⟨?_,by rw[hpD] at h1;exact h1,fun i hi=>?_⟩
   ·have:=h2 at' hat
    rw[gj at' hat,ai rfl] at this
    exact this
   ·have hi:=kz.1 hi
    have:=h2 i hi
    rw[gj i hi] at this
    by_cases ro:i=at'
    ·simp[ro]
    ·rw[ah ro] at this
     rw[It i hi,ah (fun e=>ro e.symm)]
     simp only[Je]
     exact .inr this
end
end Go.Proofs.YtaedcknhkjpmlaaGreat
