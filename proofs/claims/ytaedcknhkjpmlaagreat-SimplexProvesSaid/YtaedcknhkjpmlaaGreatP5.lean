/-
  Lemmas, part 5. Conditions: none.
-/
import Derived.Test.YtaedcknhkjpmlaaGreatP4
set_option linter.all false
set_option maxRecDepth 100000
namespace Go.Proofs.YtaedcknhkjpmlaaGreat
open Go.RowKit Go.IntKind Tryz
noncomputable section
theorem dg_cons {R d i:Nat}(hd:d<65536):dg 65536 (R*65536+d) (i+1)=dg 65536 R i:=by
 have e:(R*65536+d) / 65536=R:=by omega
 unfold dg
 rw[cy,bx (65536 ^ i),←gP,e]
theorem G_at {n A k:Nat}(hA:A<65536 ^ n):iz (dk n A) (k:Int)=some ((dg 65536 A k:Nat):Int):=by
 unfold iz
 rw[cg _ _,uS hA,ab]
theorem UT {l:List Int}{k:Int}(h:k<0):iz l k=some 0:=by
 unfold iz
 rw[cw _ _ h]
def zP(A:Nat)(m:Nat):Nat:=if m<2 then 0 else dg 65536 A (m - 2)
theorem NJ {A m:Nat}:zP A m<65536:=by
 unfold zP;split
 ·omega
 ·exact kO
theorem G_at2 {n A m:Nat}(hA:A<65536 ^ n)(hm:0<m)(Sq:m<100000):iz (dk n A) (i64.wrap ((m:Int) - (2:Int)))=some ((zP A m:Nat):Int):=by
 unfold zP
 rw[bV]
 by_cases h:m<2
 ·rw[ai h,UT (by omega)];rfl
 ·rw[ah h,show (m:Int) - 2=((m - 2:Nat):Int) from by omega,G_at hA]
def Mj(x0 x1 x2:Nat):Nat:=x0*4294967296+x1*65536+x2
theorem PU {x0 x1 x2:Nat}(h0:x0<65536)(h1:x1<65536)(h2:x2<65536):i64.wrap ((i64.wrap ((i64.wrap ((x0:Int)*(4294967296:Int)))+(i64.wrap ((x1:Int)*(65536:Int)))))+(x2:Int))=((Mj x0 x1 x2:Nat):Int):=by
 unfold Mj
 rw[bV (z:=(x0:Int)*(4294967296:Int)) (by omega),bV (z:=(x1:Int)*(65536:Int)) (by omega),bV (z:=(x0:Int)*4294967296+(x1:Int)*65536) (by omega),bV]
 omega
theorem est3_lt {x0 x1 x2:Nat}(h0:x0<65536)(h1:x1<65536)(h2:x2<65536):Mj x0 x1 x2<281474976710656:=by
 unfold Mj;omega
theorem quo_w {S T:Nat}(h:S<281474976710656):i64.wrap (Int.tdiv (S:Int) (T:Int))=((S / T:Nat):Int):=by
 have:=oz S T
 rw[←s8]
 generalize S / T=q at this ⊢
 rw[bV]
theorem min_w {e:Nat}:min (65535:Int) (e:Int)=((min 65535 e:Nat):Int):=by omega
theorem est_ge {X B m:Nat}(hm:0<m)(hB:B<65536 ^ m)(SX:65536 ^ (m - 1)≤B)(hX:X<B*65536):
  X / B≤Mj (dg 65536 X m) (dg 65536 X (m - 1)) (zP X m) / (dg 65536 B (m - 1)*65536+zP B m):=by
 unfold Mj
 have HX:0<B:=bG (bL (by decide)) SX
 have hXm:X<65536 ^ (m+1):=by
  rw[cy];exact bG hX (cG _ (mj hB))
 by_cases h:m<2
 ·obtain rfl:m=1:=by omega
  have eX:X=dg 65536 X 1*65536+dg 65536 X 0:=by
   have:=cr (b:=65536) (A:=X) (k:=0)
   rw[fO,mS] at this
   have e2:=cr (b:=65536) (A:=X) (k:=1)
   rw[eu hXm,gv,bp] at e2
   rw[←e2];exact this
  have eB:B=dg 65536 B 0:=by
   have:=cr (b:=65536) (A:=B) (k:=0)
   rw[fO,mS,eu hB,gv,bp] at this
   exact this
  unfold zP
  rw[ai (by omega),ai (by omega),iB,iB,show 1 - 1=0 from rfl,←eB]
  have:dg 65536 X 1*4294967296+dg 65536 X 0*65536=X*65536:=by omega
  rw[this,Nat.mul_div_mul_right _ _ (by decide)]
  exact ay _
 ·obtain⟨p,rfl⟩:∃p,m=p+2:=⟨m - 2,by omega⟩
  have hp:0<65536 ^ p:=bL (by decide)
  have eX:X / 65536 ^ p=dg 65536 X (p+2)*4294967296+dg 65536 X (p+1)*65536+dg 65536 X p:=by
   have e0:=cr (b:=65536) (A:=X) (k:=p)
   have e1:=cr (b:=65536) (A:=X) (k:=p+1)
   have e2:=cr (b:=65536) (A:=X) (k:=p+2)
   rw[eu hXm,gv,bp] at e2
   rw[e0,e1,show p+1+1=p+2 from rfl,e2,bU,eS]
  have eB:B / 65536 ^ p=dg 65536 B (p+1)*65536+dg 65536 B p:=by
   have e0:=cr (b:=65536) (A:=B) (k:=p)
   have e1:=cr (b:=65536) (A:=B) (k:=p+1)
   rw[eu hB,gv,bp] at e1
   rw[e0,e1]
  unfold zP
  rw[ah h,ah h,show p+2 - 2=p from rfl,show p+2 - 1=p+1 from rfl,←eX,←eB]
  have hT:0<B / 65536 ^ p:=by
   refine Ex (dA ?_ SX) hp
   exact gY (by decide) (by omega)
  rw[pm hT,pm hp,eS]
  refine dA (Ad _ (MQ _ _)) ?_
  rw[bx]
  exact Nat.mul_div_le _ _
theorem JJ {X B d:Nat}(hB:0<B):X<B*d↔X / B<d:=by
 rw[lz hB,bx]
theorem Tj {X B m:Nat}(hm:m<900)(hB:B<65536 ^ m)(HX:0<B)(hXs:sz6 X≤m+1)(d:Nat)(hd:X / B≤d)(xQ:d≤65535):
  bt (iw (dk m B) (dl X)) ((d:Int),dl (B*d))=some (((X / B:Nat):Int),dl (B*(X / B))):=by
 obtain⟨x,hl,hx⟩:=u9 (b:=iw (dk m B) (dl X)) (fun s=>∃d:Nat,s=((d:Int),dl (B*d))∧X / B≤d∧d≤65535) (fun s=>s.1.toNat) (fun x=>x=(((X / B:Nat):Int),dl (B*(X / B))))
  (by
   rintro s ⟨d,rfl,h1,h2⟩
   have hBd:B*d<65536 ^ (m+1):=by
    rw[cy];exact Nat.mul_lt_mul_of_lt_of_le hB (by omega) (by decide)
   have hsz:=qY hBd
   dsimp only[iw]
   rw[G_dless (jF X) (jF (B*d)) (by omega) (by omega),ab]
   by_cases bH:X<B*d
   ·left
    have h3:=(JJ HX).1 bH
    have vK:0<d:=dM (cl _) h3
    have h4:B≤B*d:=GT _ vK
    refine⟨_,by rw[cw _ _ bH,K2 (jF (B*d)) hB (by omega) h4,ab,bV],⟨d - 1,?_,by omega,by omega⟩,?_⟩
    ·rw[Nat.mul_sub,xZ]
     congr 1
     omega
    ·show ((d:Int) - 1).toNat<((d:Nat):Int).toNat
     omega
   ·right
    have h3:=mt (JJ HX).2 bH
    obtain rfl:d=X / B:=by omega
    exact⟨_,by rw[cg _ _ bH],rfl⟩) ((d:Int),dl (B*d)) ⟨d,rfl,hd,xQ⟩
 rw[hl,hx]
set_option maxRecDepth 10000 in
theorem K3 {A B:Nat}(hA:sz6 A<800)(hBs:sz6 B<800)(HX:0<B):iy (dl A) (dl B)=some (dl (A / B),dl (A % B)):=by
 obtain⟨m,hm⟩:∃m,m=sz6 B:=⟨_,rfl⟩
 obtain⟨n,hn⟩:∃n,n=sz6 A:=⟨_,rfl⟩
 have hB:=jF B
 have SX:=(zu B).2 (CC HX)
 have Ff:=CC HX
 have hAn:=jF A
 show iy (dk (sz6 A) A) (dk (sz6 B) B)=_
 rw[←hm] at hB SX Ff hBs ⊢
 rw[←hn] at hAn hA ⊢
 have fR:1≤dg 65536 B (m - 1):=by
  have:=cr (b:=65536) (A:=B) (k:=m - 1)
  rw[show m - 1+1=m from by omega,eu hB,gv,bp] at this
  rw[←this]
  exact (pm (bL (by decide))).2 (by rw[eT];exact SX)
 have hbl:=@kO B (m - 1)
 have LY:=@NJ B m
 have em1:i64.wrap ((m:Int) - (1:Int))=((m - 1:Nat):Int):=by rw[bV];omega
 have hm5:m<100000:=by omega
 have htop:((dg 65536 B (m - 1)*65536+zP B m:Nat):Int)≠0:=by omega
 have hl:=RC (b:=ix (dk n A) (dk m B) ((dg 65536 B (m - 1)*65536+zP B m:Nat):Int)) (s0:=(([]:List Int),(n:Int) - 1,List.replicate n (0:Int))) (fun k=>(dl (A / 65536 ^ k % B),(k:Int) - 1,lF n (fun j=>if k≤j then dg 65536 (A / B) j else 0))) n (dl (A / 65536 ^ 0 % B),lF n (fun j=>if 0≤j then dg 65536 (A / B) j else 0))
  (by
   rw[eu hAn,Nat.zero_mod,dl_zero,RL]
   congr 2
   exact uk fun j hj=>ah (by omega))
  (fun k hk=>by
   obtain⟨h1,h2⟩:=yr (b:=65536) (A:=A) (k:=k) (d:=B) (by decide) HX
   have hr:=eg (A / 65536 ^ (k+1)) HX
   have ha:=@kO A k
   generalize A / 65536 ^ (k+1) % B=R at h1 h2 hr ⊢
   generalize A / 65536 ^ k % B=R' at h2 ⊢
   have hX:R*65536+dg 65536 A k<B*65536:=by
    have:(R+1)*65536≤B*65536:=cG _ hr
    omega
   have hRs:sz6 R≤m:=qY (by omega)
   have hXm:R*65536+dg 65536 A k<65536 ^ (m+1):=by
    rw[cy];exact bG hX (cG _ (mj hB))
   have hXs:=qY hXm
   have hcons:[(dg 65536 A k:Int)]++dl R=dk (sz6 R+1) (R*65536+dg 65536 A k):=by
    unfold dl
    rw[lF_cons]
    exact uk fun j hj=>by
     by_cases hj0:j=0
     ·subst hj0
      rw[ai rfl]
      unfold dg
      rw[fO,mS]
      have:=@kO A k
      unfold dg at this
      omega
     ·rw[ah hj0]
      obtain⟨i,rfl⟩:∃i,j=i+1:=⟨j - 1,by omega⟩
      exact (dg_cons ha).symm
   have hXlt:R*65536+dg 65536 A k<65536 ^ (sz6 R+1):=by
    have:=jF R
    rw[cy]
    have h3:(R+1)*65536≤65536 ^ sz6 R*65536:=cG _ this
    rw[bU,eT] at h3
    exact bG (EC ha _) h3
   have hszR:sz6 R+1<1000:=by
    have:=dM hRs hBs
    exact bG (Nat.succ_lt_succ this) (by decide)
   have ei:((k+1:Nat):Int) - 1=(k:Int):=by omega
   have PA:=est_ge Ff hB SX hX
   have d1:=@kO (R*65536+dg 65536 A k) m
   have d2:=@kO (R*65536+dg 65536 A k) (m - 1)
   have d3:=@NJ (R*65536+dg 65536 A k) m
   have hqk:(R*65536+dg 65536 A k) / B<65536:=(lz HX).2 (by rw[bx 65536 B];exact hX)
   dsimp only[ix]
   rw[ei,cw _ _ (Ir k)]
   rw[cD,cD,cD]
   rw[aC (show (0:Int)≤(k:Int)∧(k:Int)<(n:Int) from⟨Ir k,Int.ofNat_lt.2 hk⟩)]
   rw[bP,bP]
   rw[qh hk,hcons,cD]
   rw[aC (show (sz6 R+1)*8≤140737488355328 from dA (cG _ (mj hszR)) (by decide))]
   rw[yX hXlt (Bv hszR (by decide)),ab,G_at (jF _),ab]
   rw[show i64.wrap ((m:Int) - (1:Int))=((m - 1:Nat):Int) from em1,G_at (jF _),ab,G_at2 (jF _) Ff hm5,ab,aC htop]
   obtain⟨X,hX2⟩:∃X,X=R*65536+dg 65536 A k:=⟨_,rfl⟩
   rw[←hX2] at h1 h2 hX hXm hXs hXlt PA d1 d2 d3 hqk ⊢
   generalize dg 65536 X m=x0 at PA d1 ⊢
   generalize dg 65536 X (m - 1)=x1 at PA d2 ⊢
   generalize zP X m=x2 at PA d3 ⊢
   have hS:=est3_lt d1 d2 d3
   rw[PU d1 d2 d3,quo_w hS]
   generalize Mj x0 x1 x2 / (dg 65536 B (m - 1)*65536+zP B m)=e at PA ⊢
   have CJ:X / B≤min 65535 e:=Nat.le_min.2 ⟨Nat.le_of_lt_succ hqk,PA⟩
   have xQ:min 65535 e≤65535:=Nat.min_le_left ..
   rw[min_w,ab]
   generalize min 65535 e=d at CJ xQ ⊢
   have e1:[(d:Int)]=dk 1 d:=by
    show _=lF 1 _
    unfold lF dg
    simp only[List.range_one,j4,m9,fO,mS]
    rw[ej (by omega)]
   have hmul:B*(X / B)≤X:=Nat.mul_div_le _ _
   have hms:sz6 (B*(X / B))≤m+1:=qY (by omega)
   rw[e1,UR hB (by rw[wE];omega) (by omega) (by omega),ab,Tj (by omega) hB HX hXs d CJ xQ,ab]
   dsimp only
   rw[aC,K2 (jF X) (jF _) (by omega) hmul,ab,bV,LL]
   have em:X - B*(X / B)=X % B:=by have:=lD X B;omega
   rw[em,h2,h1]
   have ef:lF n (fun j=>if j=k then dg 65536 (A / B) k else if k+1≤j then dg 65536 (A / B) j else 0)=lF n (fun j=>if k≤j then dg 65536 (A / B) j else 0):=uk fun j _=>by
    by_cases h:j=k
    ·rw[ai h,ai (by omega),h]
    ·rw[ah h]
     by_cases h3:k+1≤j
     ·rw[ai h3,ai (by omega)]
     ·rw[ah h3,ah (by omega)]
   rw[ef])
  (by
   dsimp only[ix]
   rw[cg _ _])
 have hq:A / B<65536 ^ n:=dM (oz _ _) hAn
 unfold iy
 rw[cD,cD,aC,show i64.wrap ((m:Int) - (1:Int))=((m - 1:Nat):Int) from by rw[bV];omega,aC,G_at2 hB Ff (by omega),ab,bP,bP,qh (by omega),bV (z:=(dg 65536 B (m - 1):Int)*65536) (by omega),bV,ab,bV,ab,show (dg 65536 B (m - 1):Int)*65536+(zP B m:Int)=((dg 65536 B (m - 1)*65536+zP B m:Nat):Int) from by omega,hl,ab]
 dsimp only
 rw[cD,aC rfl,uk (n:=n) (f:=fun j=>if 0≤j then dg 65536 (A / B) j else 0) (g:=dg 65536 (A / B)) fun j _=>ai (cl _),yX hq (by omega),ab,fO,mS]
theorem LIM6:LIM=65536 ^ 32:=by decide +kernel
theorem Oj {A k:Nat}:dg 4294967296 A k=dg 65536 A (2*k+1)*65536+dg 65536 A (2*k):=by
 have e:(4294967296:Nat) ^ k=65536 ^ (2*k):=by rw[Bw]
 unfold dg
 rw[e,cy,←gP]
 omega
theorem US {x:ap}{A:Nat}(hx:x.vW=W A)(hA:A<LIM):bw x=some (dl A):=by
 have hl:=rk (b:=jh x) (s0:=(([]:List Int),(0:Int))) (fun k=>(dk (2*k) A,(k:Int))) 16 (dk 32 A)
  (by rfl)
  (fun k hk=>by
   have hp:=Oj (A:=A) (k:=k)
   have h0:=@kO A (2*k)
   have h1:=@kO A (2*k+1)
   dsimp only[jh]
   rw[cw _ _,aC,aC,hx,bP,gE hk]
   have e1:i64.wrap (Int.tmod (dg 4294967296 A k:Int) (65536:Int))=(dg 65536 A (2*k):Int):=by
    rw[show (65536:Int)=((65536:Nat):Int) from rfl,←s7,bV];omega
   have e2:i64.wrap (u32.wrap (Int.tdiv (dg 4294967296 A k:Int) (65536:Int)))=(dg 65536 A (2*k+1):Int):=by
    rw[show (65536:Int)=((65536:Nat):Int) from rfl,←s8,AB,bV];omega
   rw[e1,e2,show dk (2*k) A++[(dg 65536 A (2*k):Int),(dg 65536 A (2*k+1):Int)]=(dk (2*k) A++[(dg 65536 A (2*k):Int)])++[(dg 65536 A (2*k+1):Int)] from by rw[c0];rfl,zR,zR,cD,aC,bV]
   rfl)
  (by
   dsimp only[jh]
   rw[cg _ _])
 unfold bw
 rw[hl,ab,yX (by rw[←LIM6];exact hA) (by decide),ab]
theorem UK:fe=some Kv:=by unfold fe;rw[r16];rfl
theorem Rw {n A:Nat}(hn:n≤32)(neg:Bool):
  bt (fK (dk n A)) ((0:Int),(⟨false,neg,W 0⟩:ap))=some (⟨false,neg,W (A % 65536 ^ n)⟩:ap):=by
 have hb:0<(4294967296:Nat):=by decide
 have hl:=rk (b:=fK (dk n A)) (s0:=((0:Int),(⟨false,neg,W 0⟩:ap))) (fun k=>((k:Int),(⟨false,neg,W (A % 65536 ^ k)⟩:ap))) n (⟨false,neg,W (A % 65536 ^ n)⟩:ap)
  (by rw[fO,mT];rfl)
  (fun k hk=>by
   have h0:=@kO A k
   have bH:A % 65536 ^ k<65536 ^ k:=eg _ (bL (by decide))
   have hdiv:i64.wrap (Int.tdiv (k:Int) (2:Int))=((k / 2:Nat):Int):=by
    rw[show (2:Int)=((2:Nat):Int) from rfl,←s8,bV]
   have e1:=Oj (A:=A % 65536 ^ k) (k:=k / 2)
   have hu:=fun x:Nat=>Li (b:=4294967296) (A:=A % 65536 ^ k) (p:=k / 2) (x:=x)
   dsimp only[fK]
   rw[cD,cw _ _,hdiv,aC,aC,aC,ab,aC,aC,aC,ab,bP,bP,gE (by omega),qh hk,show (2:Int)=((2:Nat):Int) from rfl,←s7,AB (n:=dg 65536 A k) (by omega),fZ]
   have qN:A % 65536 ^ (k+1)=A % 65536 ^ k+65536 ^ k*dg 65536 A k:=gQ
   have hpow:(4294967296:Nat) ^ (k / 2)=65536 ^ (2*(k / 2)):=by rw[Bw]
   by_cases he:k % 2=0
   ·have yB:2*(k / 2)=k:=by omega
    have d0:dg 4294967296 (A % 65536 ^ k) (k / 2)=0:=by
     rw[e1,yB,lN bH,lN (bG bH (gY (by decide) (by omega)))]
    rw[ai (by omega),ab,d0,←j6,AB,Ax hb (by omega) (by omega),bV]
    have:=hu (0+dg 65536 A k)
    rw[d0,hpow,yB] at this
    rw[gv,iB,bp] at this
    rw[show up1 4294967296 (A % 65536 ^ k) (k / 2) (0+dg 65536 A k)=A % 65536 ^ (k+1) from by rw[qN,bx (65536 ^ k),bp];exact this]
    rfl
   ·have yB:2*(k / 2)+1=k:=by omega
    have d1:dg 4294967296 (A % 65536 ^ k) (k / 2)=dg 65536 A (2*(k / 2)):=by
     rw[e1,yB,lN bH,gv,bp,nt (by omega)]
    have h2:=@kO A (2*(k / 2))
    rw[ah (by omega),ab,d1,show ((dg 65536 A k:Nat):Int)*(65536:Int)=((dg 65536 A k*65536:Nat):Int) from by omega,AB (n:=dg 65536 A k*65536) (by omega),←j6,AB,Ax hb (by omega) (by omega),bV]
    have:=hu (dg 65536 A (2*(k / 2))+dg 65536 A k*65536)
    rw[d1,hpow,bU] at this
    have c5:65536 ^ (2*(k / 2))*65536=(65536:Nat) ^ k:=by rw[←cy];exact congrArg _ yB
    have e3:dg 65536 A k*65536*65536 ^ (2*(k / 2))=65536 ^ k*dg 65536 A k:=by
     rw[eS,bx 65536,c5,bx]
    rw[e3,Nat.add_left_comm,p6] at this
    have vE:=Nat.add_left_cancel this
    rw[show up1 4294967296 (A % 65536 ^ k) (k / 2) (dg 65536 A (2*(k / 2))+dg 65536 A k*65536)=A % 65536 ^ (k+1) from by rw[qN];exact vE]
    rfl)
  (by
   dsimp only[fK]
   rw[cD,cg _ _])
 exact hl
theorem E4 {n A:Nat}(hA:A<65536 ^ n)(hn:n<100000)(neg:Bool):b7 neg (dk n A)=some (enc (bif neg then -(A:Int) else (A:Int))):=by
 have hiff:32<sz6 A↔¬A<LIM:=by
  rw[LIM6]
  constructor
  ·intro h h2
   have:=qY h2;omega
  ·intro h
   rcases d6 32 (sz6 A) with h1|h1
   ·exact h1
   ·exact absurd (bG (jF A) (gY (by decide) h1)) h
 have Fl:(bif neg then -(A:Int) else (A:Int)).natAbs=A:=by cases neg <;> simp
 unfold b7
 rw[yX hA (by omega),ab,Mn,r16]
 by_cases h:32<sz6 A
 ·rw[cw _ _,UK,ab,D0 (by rw[Fl];exact hiff.1 h)]
 ·have hAL:A<LIM:=Decidable.byContradiction fun h2=>h (hiff.2 h2)
  have nX:decide ((0:Int)<((sz6 A:Nat):Int))= !decide (A=0):=by
   rw[←KD]
   refine kR.2 ?_
   constructor
   ·intro h3 h4;subst h4;rw[C8] at h3;omega
   ·intro h3;have:=CC (yO h3);omega
  have R3:(cnd neg (bnd (some ((⟨false,decide ((0:Int)<((sz6 A:Nat):Int)),W 0⟩:ap))) fun x7=>some (x7)) (some ((⟨false,false,W 0⟩:ap))))=some (⟨false,neg&&!decide (A=0),W 0⟩:ap):=by
   rw[ab,nX]
   cases neg <;> rfl
  rw[cg _ _,R3,ab,Rw (by omega),ab,ej (jF A),Te hAL]
theorem zeroW {v:Vector Int 16}:(∀j:Nat,j<16→v[j]! =0)↔v=W 0:=by
 constructor
 ·intro h
  apply n4
  intro j hj
  rw[h j hj,gE hj]
  unfold dg;simp
 ·rintro rfl j hj
  rw[gE hj]
  unfold dg;simp
theorem ij(x:ap):bf x=some (dX x):=by
 have hl:=rk (b:=jT x) (s0:=(true,(0:Int))) (fun k=>(decide (∀j:Nat,j<k→x.vW[j]! =0),(k:Int))) 16 (decide (∀j:Nat,j<16→x.vW[j]! =0))
  (by
   rw[aA (p:=∀j:Nat,j<0→x.vW[j]! =0) (fun j hj=>by omega)]
   rfl)
  (fun k hk=>by
   dsimp only[jT]
   rw[cw _ _,aC,bP,cnd_and,ab,bV,←Bool.decide_and]
   have:((∀j:Nat,j<k→x.vW[j]! =0)∧x.vW[k]! =0)↔∀j:Nat,j<k+1→x.vW[j]! =0:=by
    constructor
    ·rintro⟨h1,h2⟩ j hj
     by_cases h:j=k
     ·rw[h];exact h2
     ·exact h1 j (by omega)
    ·intro h
     exact⟨fun j hj=>h j (by omega),h k (by omega)⟩
   rw[kR.2 this]
   rfl)
  (by
   dsimp only[jT]
   rw[cg _ _])
 have hz:decide (∀j:Nat,j<16→x.vW[j]! =0)=decide (x.vW=W 0):=kR.2 zeroW
 unfold bf pD dX
 rw[hl,ab,hz]
 cases x.vBad <;> cases decide (x.vW=W 0) <;> cases x.vNeg <;> rfl
theorem NW {A:Nat}(hA:A<LIM)(h:∀j,2≤j→j<16→dg 4294967296 A j=0):A / 4294967296 ^ 2=0:=by
 have key:∀d,d≤14→A / 4294967296 ^ (16 - d)=0:=by
  intro d
  induction d with
  |zero=>intro _;exact eu hA
  |succ d ih=>
   intro hd
   have h1:=ih (by omega)
   have h2:=cr (b:=4294967296) (A:=A) (k:=16 - (d+1))
   rw[show 16 - (d+1)+1=16 - d from by omega,h1,gv,bp,h _ (by omega) (by omega)] at h2
   exact h2
 exact key 14 (ay _)
structure mM(a:Int):Prop where
 h:a.natAbs<4611686018427387904
instance(a:Int):Decidable (mM a):=decidable_of_iff (a.natAbs<4611686018427387904) ⟨fun h=>⟨h⟩,fun h=>h.h⟩
theorem QA {A:Nat}(hA:A<LIM):A<4611686018427387904↔dg 4294967296 A 1<1073741824∧∀j,2≤j→j<16→dg 4294967296 A j=0:=by
 constructor
 ·intro h
  refine⟨?_,fun j h1 _=>lN (bG h ?_)⟩
  ·unfold dg;rw[wE];omega
  ·exact dA (by decide:4611686018427387904≤4294967296 ^ 2) (gY (by decide) h1)
 ·rintro⟨h1,h2⟩
  have h3:=NW hA h2
  have h4:=cr (b:=4294967296) (A:=A) (k:=1)
  rw[show 1+1=2 from rfl,h3,gv,bp,wE] at h4
  omega
theorem IQ {a:Int}(ha:a.natAbs<LIM):eG (enc a)=some (if mM a then (a,true) else (0,false)):=by
 have hwi:=QA ha
 obtain⟨x,hl,hx⟩:=u9 (b:=mv (enc a)) (fun s=>∃k:Nat,s=(k:Int)∧2≤k∧k≤16∧∀j,2≤j→j<k→dg 4294967296 a.natAbs j=0) (fun s=>16 - s.toNat) (fun x=>match x with| .inl r=>r=((0:Int),false)∧¬(∀j,2≤j→j<16→dg 4294967296 a.natAbs j=0)| .inr _=>∀j,2≤j→j<16→dg 4294967296 a.natAbs j=0)
  (by
   rintro s ⟨k,rfl,yB,hk,hz⟩
   dsimp only[mv]
   rw[lM ha]
   by_cases h16:k<16
   ·rw[cw _ _,aC,bP,gE h16]
    by_cases hd:dg 4294967296 a.natAbs k=0
    ·left
     refine⟨((k+1:Nat):Int),by rw[cg _ _,bV];rfl,⟨k+1,rfl,by omega,by omega,fun j h1 h2=>?_⟩,by omega⟩
     by_cases h:j=k
     ·rw[h];exact hd
     ·exact hz j h1 (by omega)
    ·right
     refine⟨(Sum.inl ((0:Int),false):(Int×Bool)⊕Unit),by rw[cw _ _],rfl,fun h=>hd (h k yB h16)⟩
   ·right
    refine⟨(Sum.inr ():(Int×Bool)⊕Unit),by rw[cg _ _],?_⟩
    obtain rfl:k=16:=by omega
    exact hz) (2:Int) ⟨2,rfl,by omega,by omega,fun j h1 h2=>by omega⟩
 have e1:(W a.natAbs)[((1:Int)).toNat]! =(dg 4294967296 a.natAbs 1:Int):=gE (by decide)
 have e0:(W a.natAbs)[((0:Int)).toNat]! =(dg 4294967296 a.natAbs 0:Int):=gE (by decide)
 have d0:=@dgl a.natAbs 0
 unfold eG
 rw[ij,ba ha,ab,cY,aH,ab,lM ha,e1,e0,jD ha]
 by_cases h1:dg 4294967296 a.natAbs 1<1073741824
 ·rw[cg _ _,hl,ab]
  cases x with
  |inl r=>
   obtain⟨rfl,h2⟩:=hx
   have:¬mM a:=fun h=>h2 (hwi.1 h.h).2
   rw[ah this]
  |inr u=>
   have h2:mM a:=⟨hwi.2 ⟨h1,hx⟩⟩
   have h3:=NW ha hx
   have h4:=cr (b:=4294967296) (A:=a.natAbs) (k:=1)
   rw[show 1+1=2 from rfl,h3,gv,bp,wE] at h4
   have h5:dg 4294967296 a.natAbs 0=a.natAbs % 4294967296:=by unfold dg;rw[fO,mS]
   have h6:(dg 4294967296 a.natAbs 1:Int)*4294967296+(dg 4294967296 a.natAbs 0:Int)=(a.natAbs:Int):=by omega
   have h7:=h2.h
   dsimp only
   rw[bV (z:=(dg 4294967296 a.natAbs 1:Int)) (by omega),bV (z:=(dg 4294967296 a.natAbs 1:Int)*4294967296) (by omega),bV (z:=(dg 4294967296 a.natAbs 0:Int)) (by omega),h6,bV (z:=(a.natAbs:Int)) (by omega),ab,fZ,ai h2]
   by_cases hn:a<0
   ·rw[ai hn,bV,show (0:Int) - (a.natAbs:Int)=a from by omega]
   ·rw[ah hn,show (a.natAbs:Int)=a from by omega]
 ·have:¬mM a:=fun h=>h1 (hwi.1 h.h).1
  rw[cw _ _,ah this]
theorem dk4 {N:Nat}:dk 4 N=[(dg 65536 N 0:Int),(dg 65536 N 1:Int),(dg 65536 N 2:Int),(dg 65536 N 3:Int)]:=rfl
theorem of4 {N:Nat}(hN:N<9223372036854775808):[Int.tmod (N:Int) (65536:Int),Int.tmod (i64.wrap (Int.tdiv (N:Int) (65536:Int))) (65536:Int),Int.tmod (i64.wrap (Int.tdiv (N:Int) (4294967296:Int))) (65536:Int),i64.wrap (Int.tdiv (N:Int) (281474976710656:Int))]=dk 4 N:=by
 have e1:i64.wrap (Int.tdiv (N:Int) (65536:Int))=((N / 65536:Nat):Int):=by
  rw[show (65536:Int)=((65536:Nat):Int) from rfl,←s8,bV]
 have e2:i64.wrap (Int.tdiv (N:Int) (4294967296:Int))=((N / 4294967296:Nat):Int):=by
  rw[show (4294967296:Int)=((4294967296:Nat):Int) from rfl,←s8,bV]
 have e3:i64.wrap (Int.tdiv (N:Int) (281474976710656:Int))=((N / 281474976710656:Nat):Int):=by
  rw[show (281474976710656:Int)=((281474976710656:Nat):Int) from rfl,←s8,bV]
 rw[e1,e2,e3,dk4,show (65536:Int)=((65536:Nat):Int) from rfl,←s7,←s7,←s7]
 have d0:dg 65536 N 0=N % 65536:=by unfold dg;rw[fO,mS]
 have d1:dg 65536 N 1=N / 65536 % 65536:=by unfold dg;rw[wE]
 have d2:dg 65536 N 2=N / 4294967296 % 65536:=rfl
 have d3:dg 65536 N 3=N / 281474976710656:=by
  have:dg 65536 N 3=N / 281474976710656 % 65536:=rfl
  rw[this];omega
 rw[d0,d1,d2,d3]
theorem Rs:[(1:Int)]=dk 1 1:=rfl
theorem qJ {n:Int}(h1:-9223372036854775808≤n)(h2:n≤9223372036854775807):eI n=some (enc n):=by
 unfold eI
 by_cases hn:0≤n
 ·obtain⟨N,rfl⟩:∃N:Nat,n=(N:Int):=⟨n.toNat,by omega⟩
  have hN4:N<65536 ^ 4:=bG (show N<9223372036854775808 by omega) (by decide)
  rw[cw _ _ hn,of4 (by omega),E4 hN4 (by decide),ab]
  rfl
 ·obtain⟨M,hM⟩:∃M:Nat,-(n+1)=(M:Int):=⟨(-(n+1)).toNat,by omega⟩
  have hM4:M<65536 ^ 4:=bG (show M<9223372036854775808 by omega) (by decide)
  have e:i64.wrap (0 - (i64.wrap (n+(1:Int))))=(M:Int):=by
   rw[bV (z:=n+1) (by omega),bV];omega
  rw[cg _ _ hn,e,ab,of4 (by omega),Rs,OM hM4 (by decide) (by decide) (by decide),ab,E4 (A:=M+1) (jF _) (dM (qY (A:=M+1) (n:=5) (dM (show M+1≤65536 ^ 4 from hM4) (by decide))) (by decide)),ab]
  congr 2
  simp only[j5]
  omega
theorem ue {A:Nat}(h:A<LIM):sz6 A≤32:=qY (by rw[←LIM6];exact h)
theorem sz_add {A B:Nat}(hA:A<LIM)(hB:B<LIM):sz6 (A+B)≤33:=qY (by
 have h1:A+B<2*LIM:=by omega
 have h2:2*LIM≤65536 ^ 33:=by rw[LIM6,cy,bx];exact Ad _ (by decide)
 exact bG h1 h2)
theorem G6 {A:Nat}(h:sz6 A≤1000)(neg:Bool):b7 neg (dl A)=some (enc (bif neg then -(A:Int) else (A:Int))):=
 E4 (jF A) (dM h (by decide)) neg
theorem mH {a:Int}(ha:a.natAbs<LIM):bw (enc a)=some (dl a.natAbs):=US (lM ha) ha
theorem UL {a:Int}(ha:a.natAbs<LIM):pW (enc a)=some (enc (a.natAbs:Int)):=by
 unfold pW
 rw[ij,ba ha,ab,cY,aH,mH ha,ab,G6 (dA (ue ha) (by decide)),ab]
 rfl
theorem UJ {a:Int}(ha:a.natAbs<LIM):pV (enc a)=some (enc (-a)):=by
 unfold pV
 rw[ij,ba ha,ab,cY,aH,mH ha,ab,jD ha,G6 (dA (ue ha) (by decide)),ab]
 congr 2
 by_cases h:a<0
 ·simp only[h,rP,cY,cond_false];omega
 ·simp only[h,rO,rN,j5];omega
theorem G5 {a:Int}(ha:a.natAbs<LIM):kL (enc a)=some a.sign:=by
 unfold kL
 rw[ij,ba ha,ab,cY,aH,mH ha,ab,ab,jD ha]
 have hz:((dl a.natAbs).length:Int)=0↔a=0:=by
  rw[show ((dl a.natAbs).length:Int)=0↔(dl a.natAbs).length=0 from by omega,Mm];omega
 rcases wH a 0 with h|h|h
 ·rw[cg _ _ (by rw[hz];omega),cw _ _ h,wF h]
 ·subst h;rw[cw _ _ (hz.2 rfl)];rfl
 ·rw[cg _ _ (by rw[hz];omega),cg _ _,rM h]
theorem fast2(p q:Prop)[Decidable p][Decidable q](a c:Int):(cnd (if p then (a,true) else (0,false):Int×Bool).2 (some (if q then (c,true) else (0,false):Int×Bool).2) (some false))=some (decide (p∧q)):=by
 by_cases hp:p <;> by_cases hq:q <;> simp[hp,hq,cnd]
theorem good2r(x y:ap):(bnd (S:=Bool) (bnd (bf x) fun mI=>cnd (!mI) (some (true)) (bnd (bf y) fun qa=>some (!qa))) fun b=>some b)=some (!(dX x&&dX y)):=by
 rw[ij,ij,ab,ab]
 cases dX x <;> cases dX y <;> rfl
theorem G_floor {n m:Int}(Ff:m≠0)(hn:n.natAbs<4611686018427387904):mZ n m=some (n.fdiv m):=by
 obtain⟨h1,h2,h3⟩:=AE (x:=n) Ff
 have hq:=Js (x:=n) (y:=m) (by omega)
 have hnq:(n.tdiv m).natAbs≤n.natAbs:=by rw[Int.natAbs_tdiv];exact oz _ _
 have qD:(cnd (decide ((Int.tmod n m)≠(0:Int))) (some (!((decide (n<(0:Int))) == (decide (m<(0:Int)))))) (some (false)))=some (decide (n.fdiv m≠n.tdiv m)):=by
  rw[←h1,fZ,fZ]
  by_cases h:n.tmod m≠0
  ·rw[ai h,ai h]
   congr 3
   refine kR.2 ?_
   constructor
   ·intro nX
    have:=Int.tmod_nonneg m (show 0≤-n by omega)
    rw[Int.neg_tmod] at this
    omega
   ·intro nX
    by_cases h4:n<0
    ·exact h4
    ·have:=Int.tmod_nonneg m (show 0≤n by omega)
     omega
  ·rw[ah h,ah h]
 unfold mZ
 rw[aC Ff,aC Ff,qD,ab,fZ]
 by_cases h:n.fdiv m=n.tdiv m
 ·rw[ah (fun hh=>hh h),ab,bV,h]
 ·rw[ai h,bV (z:=n.tdiv m) (by omega),bV,ab,ab,(h2 h).1]
theorem Rf {a c:Int}(h0:c≠0):(bif (!(decide (a<0) == decide (c<0))) then -((a.natAbs / c.natAbs+(if a.natAbs % c.natAbs=0 then 0 else 1):Nat):Int) else ((a.natAbs / c.natAbs:Nat):Int))=a.fdiv c:=by
 have hr:=eg a.natAbs (show 0<c.natAbs by omega)
 have hdm:=lD a.natAbs c.natAbs
 have L6:(c.natAbs:Int)*((a.natAbs / c.natAbs:Nat):Int)+((a.natAbs % c.natAbs:Nat):Int)=(a.natAbs:Int):=by rw[←iJ,←j6,hdm]
 generalize a.natAbs / c.natAbs=Q at L6 ⊢
 generalize a.natAbs % c.natAbs=R at L6 hr ⊢
 have hmul:∀z:Int,z*c=(if c<0 then -1 else 1)*((c.natAbs:Int)*z):=by
  intro z
  split
  ·have e:c=-(c.natAbs:Int):=by omega
   conv=>lhs;rw[e]
   rw[Bx,Ey,yM,kP]
  ·have e:c=(c.natAbs:Int):=by omega
   conv=>lhs;rw[e]
   rw[yM,kP]
 by_cases hs:decide (a<0)=decide (c<0)
 ·have Pr:=kR.1 hs
  rw[hs,EA,cY,cond_false]
  exact (mA (x:=a) h0 (Q:Int) (if c<0 then -(R:Int) else (R:Int)) (by rw[hmul];split <;> omega) (by split <;> omega)).1
 ·have Pr:¬((a<0)↔(c<0)):=fun h=>hs (kR.2 h)
  have hb:(decide (a<0) == decide (c<0))=false:=KI.2 hs
  rw[hb,rN,j5]
  by_cases hR:R=0
  ·rw[ai hR]
   refine (mA (x:=a) h0 _ 0 ?_ (by omega)).1
   rw[hmul,Bx,iB]
   split <;> omega
  ·rw[ah hR]
   refine (mA (x:=a) h0 _ (if c<0 then -((c.natAbs:Int) - (R:Int)) else (c.natAbs:Int) - (R:Int)) ?_ (by split <;> omega)).1
   rw[hmul,Bx,j6,Int.mul_add]
   split <;> omega
theorem dig1(A:Nat):decide (((dl A).length:Int)=0)=decide (A=0):=by
 refine kR.2 ?_
 rw[show ((dl A).length:Int)=0↔(dl A).length=0 from by omega,Mm]
theorem dig2(A:Nat):decide ((0:Int)<((dl A).length:Int))=decide (A≠0):=by
 refine kR.2 ?_
 have:=@Mm A
 omega
theorem good3r {x:ap}{c:Int}(_hx:okI x)(hc:c.natAbs<LIM):(bnd (S:=Bool) (bnd (bf x) fun qa=>cnd (!qa) (some (true)) (bnd (bf (enc c)) fun At=>cnd (!At) (some (true)) (bnd (bw (enc c)) fun vn=>some (decide (((vn).length:Int)=(0:Int)))))) fun b=>some b)=some (!(dX x&&decide (c≠0))):=by
 rw[ij,ij,mH hc,ab,ab,ab,ba hc,dig1,uz]
 have:decide (c≠0)= !decide (c.natAbs=0):=by
  rw[←KD];exact kR.2 (by omega)
 rw[this]
 cases dX x <;> cases decide (c.natAbs=0) <;> rfl
theorem fastq(a c:Int):(cnd (if mM a then (a,true) else (0,false):Int×Bool).2 (cnd (if mM c then (c,true) else (0,false):Int×Bool).2 (some (decide ((if mM c then (c,true) else (0,false):Int×Bool).1≠(0:Int)))) (some (false))) (some (false)))=some (decide (mM a∧mM c∧c≠0)):=by
 by_cases hp:mM a <;> by_cases hq:mM c <;> simp[hp,hq,cnd]
theorem K0 {a c:Int}(ha:a.natAbs<LIM)(hc:c.natAbs<LIM)(h0:c≠0):ku (enc a) (enc c)=some (enc (a.fdiv c)):=by
 unfold ku
 rw[IQ ha,IQ hc,ab,ab,fastq,ab,fZ]
 by_cases hw:mM a∧mM c∧c≠0
 ·have hq:a.fdiv c=a.tdiv c∨a.fdiv c=a.tdiv c - 1:=by
   obtain⟨_,h2,_⟩:=AE (x:=a) h0
   by_cases h:a.fdiv c=a.tdiv c
   ·exact .inl h
   ·exact .inr (h2 h).1
  have h1:=hw.1.h
  have hnq:(a.tdiv c).natAbs≤a.natAbs:=by rw[Int.natAbs_tdiv];exact oz _ _
  rw[ai hw,ai hw.1,ai hw.2.1]
  dsimp only
  rw[G_floor h0 hw.1.h,ab,qJ (by omega) (by omega),ab]
 ·have hg:=good3r (CG a) hc
  rw[uz] at hg
  have hq:a.natAbs / c.natAbs<LIM:=dM (oz _ _) ha
  have hdl:decide ((0:Int)<((dl (a.natAbs % c.natAbs)).length:Int))=decide (a.natAbs % c.natAbs≠0):=dig2 _
  rw[ah hw,hg,ba ha,aA h0,ab,fM,cY,aH,mH ha,ab,mH hc,ab,K3 (dM (ue ha) (by decide)) (dM (ue hc) (by decide)) (by omega),ab,jD ha,jD hc]
  dsimp only
  rw[Rs,OM (jF _) (by decide) (dM (ue hq) (by decide)) (by decide),ab,hdl,←Rf h0]
  have hs1:sz6 (a.natAbs / c.natAbs+1)≤1000:=dA (sz_add hq (by decide)) (by decide)
  have K9:sz6 (a.natAbs / c.natAbs)≤1000:=dA (ue hq) (by decide)
  cases hsg:(!(decide (a<0) == decide (c<0))) with
  |false=>
   rw[aH,ab,aH,ab,G6 K9,ab]
   rfl
  |true=>
   rw[gj,ab,fZ]
   by_cases hR:a.natAbs % c.natAbs=0
   ·rw[ah (fun h=>h hR),ab,G6 K9,ab,ai hR,iB]
   ·rw[ai hR,ab,G6 hs1,ab,ah hR]
    rfl
theorem S2(n m:Int):∃r:Int,bt iU (n,m)=some r∧r.natAbs=Nat.gcd n.natAbs m.natAbs:=by
 induction hk:m.natAbs using Nat.strongRecOn generalizing n m with
 |_ k ih=>
  subst hk
  by_cases hm:m=0
  ·subst hm
   refine⟨n,nF (by dsimp only[iU];rw[cg _ _ (fun h=>h rfl)]),?_⟩
   rw[Int.natAbs_zero,Iv]
  ·have h1:iU (n,m)=some (.inl (m,n.tmod m)):=by
    dsimp only[iU]
    rw[cw _ _ hm,aC hm]
   have e:=Int.natAbs_tmod n m
   obtain⟨r,h2,h3⟩:=ih (n.tmod m).natAbs (by rw[e];exact eg _ (by omega)) m (n.tmod m) rfl
   exact⟨r,(o6 h1).trans h2,by rw[h3,e,←zZ]⟩
theorem S3(x y:Nat)(hx:sz6 x<800)(hy:sz6 y<800):bt iT (dl x,dl y)=some (dl (Nat.gcd x y)):=by
 induction y using Nat.strongRecOn generalizing x with
 |_ y ih=>
  by_cases h0:y=0
  ·subst h0
   rw[Iv]
   refine nF ?_
   dsimp only[iT]
   rw[dig2,cg _ _ (fun h=>h rfl)]
  ·have h1:iT (dl x,dl y)=some (.inl (dl y,dl (x % y))):=by
    dsimp only[iT]
    rw[dig2,cw _ _ h0,K3 hx hy (by omega),ab]
   have bH:=eg x (show 0<y by omega)
   have hs:sz6 (x % y)<800:=dM (qY (Bv bH (jF y))) hy
   rw[o6 h1,ih (x % y) bH y hy hs,←zZ]
theorem K1 {a c:Int}(ha:a.natAbs<LIM)(hc:c.natAbs<LIM):mc (enc a) (enc c)=some (enc (Nat.gcd a.natAbs c.natAbs:Nat)):=by
 have NZ:Nat.gcd a.natAbs c.natAbs<LIM:=by
  rcases rJ a.natAbs with h|h
  ·rw[h,ML];exact hc
  ·exact dM (Bu _ h) ha
 unfold mc
 rw[IQ ha,IQ hc,ab,ab,fast2,ab,fZ]
 by_cases hw:mM a∧mM c
 ·have h1:=hw.1.h
  have h2:=hw.2.h
  rw[ai hw,ai hw.1,ai hw.2]
  dsimp only
  obtain⟨r,h3,h4⟩:=S2 a c
  have hr:r.natAbs<4611686018427387904:=by
   rw[h4]
   rcases rJ a.natAbs with h|h
   ·rw[h,ML];exact h2
   ·exact dM (Bu _ h) h1
  rw[h3,ab,qJ (by omega) (by omega),ab,UL (by rw[h4];exact NZ),ab,h4]
 ·have hg:=good2r (enc a) (enc c)
  rw[uz] at hg
  rw[ah hw,hg,ba ha,ba hc,ab,fM,cY,aH,mH ha,ab,mH hc,ab,S3 _ _ (dM (ue ha) (by decide)) (dM (ue hc) (by decide)),ab,G6 (dA (ue NZ) (by decide)),ab]
  rfl
theorem R_one:ma=some (enc 1):=by
 unfold ma
 rw[qJ (by decide) (by decide),ab]
theorem R_Good {x:ao}(hx:okR x):e8 x=some (cm x).isSome:=by
 rw[←iD hx]
 obtain⟨n,d⟩:=x
 obtain⟨h1,h2⟩:=hx
 dsimp only at h1 h2
 unfold e8 aU
 dsimp only
 rw[ij,ij,pH,pH,ab,ab,ab,ab]
 cases BV:dX n with
 |false=>rfl
 |true=>
  cases DN:dX d with
  |false=>rfl
  |true=>
   obtain⟨n,hn,rfl⟩:=zY h1 BV
   obtain⟨d,hd,rfl⟩:=zY h2 DN
   rw[G5 hd,wW hd,K1 hn hd,OQ hn hd,R_one,OL]
   rfl
theorem Uw {n d:Int}(hn:n.natAbs<LIM)(hd:d.natAbs<LIM)(h0:d≠0):fX (enc n) (enc d)=some (kN (Rat.divInt n d)):=by
 obtain⟨BV,DN⟩:=HZ (n:=n) h0 hd
 obtain⟨e1,e2⟩:=JH (n:=n) h0
 have NZ:(((Nat.gcd n.natAbs d.natAbs:Nat):Int)).natAbs<LIM:=by simpa using BV
 unfold fX
 rw[ij,ij,ab,ab,ba hn,ba hd,cY,aH,aH,G5 hd,ab,ab,cg _ _ (by rw[Bt];exact h0),K1 hn hd,ab,ab,UJ NZ,ab]
 have R3:(cnd (decide (d.sign<(0:Int))) (some (enc (-((Nat.gcd n.natAbs d.natAbs:Nat):Int)))) (some (enc ((Nat.gcd n.natAbs d.natAbs:Nat):Int))))=some (enc (bif decide (d<0) then -((Nat.gcd n.natAbs d.natAbs:Nat):Int) else ((Nat.gcd n.natAbs d.natAbs:Nat):Int))):=by
  by_cases h:d<0
  ·rw[cw _ _ (by rw[Et];exact h),aA h];rfl
  ·rw[cg _ _ (by rw[Et];exact h),bk h];rfl
 have Fc:((bif decide (d<0) then -((Nat.gcd n.natAbs d.natAbs:Nat):Int) else ((Nat.gcd n.natAbs d.natAbs:Nat):Int))).natAbs<LIM∧(bif decide (d<0) then -((Nat.gcd n.natAbs d.natAbs:Nat):Int) else ((Nat.gcd n.natAbs d.natAbs:Nat):Int))≠0:=by
  cases decide (d<0)
  ·simp only[cond_false];omega
  ·simp only[j5];omega
 rw[R3,ab,K0 hn Fc.1 Fc.2,ab,K0 hd Fc.1 Fc.2,ab,e1,e2]
 rfl
theorem R_Of {n:Int}(h1:-9223372036854775808≤n)(h2:n≤9223372036854775807):pe n=some (kN (n:Rat)):=by
 have hL:n.natAbs<LIM:=bG (show n.natAbs<18446744073709551616 by omega) (by decide)
 unfold pe
 rw[qJ h1 h2,ab,R_one,ab,Uw hL (by decide) (by decide),ab,D2]
def sZ(a c:Int):Int:=if a<c then -1 else if c<a then 1 else 0
theorem G_Rem {a c:Int}(ha:a.natAbs<LIM)(hc:c.natAbs<LIM)(h0:c≠0):nK (enc a) (enc c)=some (enc (a.fmod c)):=by
 unfold nK
 rw[G7 ha hc h0,ab]
theorem G_Cmp {a c:Int}(ha:a.natAbs<LIM)(hc:c.natAbs<LIM):pS (enc a) (enc c)=some (sZ a c):=by
 unfold pS
 rw[uR,uR,ab,ab,ba ha,ba hc]
 simp only[cY,aH,ab,jD ha,jD hc,lM ha,lM hc]
 rw[CU ha hc,CU hc ha,ab,ab]
 unfold sZ Hx
 by_cases h1:a<0 <;> by_cases h2:c<0 <;> simp only[h1,h2,rP,rO,EA,cY,Bool.true_beq,Bool.false_beq,rN,gj,aH]
 ·by_cases h3:a<c
  ·rw[ai h3,ai (by omega)]
  ·rw[ah h3,ah (by omega)]
   by_cases h4:c<a
   ·rw[ai h4,ai (by omega)]
   ·rw[ah h4,ah (by omega)]
 ·rw[ai (by omega)]
 ·rw[ah (by omega),ai (by omega)]
 ·by_cases h3:a<c
  ·rw[ai h3,ai (by omega)]
  ·rw[ah h3,ah (by omega)]
   by_cases h4:c<a
   ·rw[ai h4,ai (by omega)]
   ·rw[ah h4,ah (by omega)]
def Cy(n1 d1 n2 d2:Int):Int:=sZ (n1*d2) (n2*d1)
theorem D9 {n1 d1 n2 d2:Int}(h1:0<d1)(h2:0<d2)(h:n1.fdiv d1<n2.fdiv d2):n1*d2<n2*d1:=by
 have e1:d1*n1.fdiv d1+n1.fmod d1=n1:=Es n1 d1
 have e2:d2*n2.fdiv d2+n2.fmod d2=n2:=Es n2 d2
 have r1:=yN n1 h1
 have r2:=wD n2 h2
 generalize n1.fdiv d1=f1 at*
 generalize n2.fdiv d2=f2 at*
 generalize n1.fmod d1=m1 at*
 generalize n2.fmod d2=m2 at*
 have h3:d1*(f1+1)≤d1*f2:=Int.mul_le_mul_of_nonneg_left (by omega) (by omega)
 rw[Int.mul_add,Int.mul_one] at h3
 have h4:n1+1≤d1*f2:=by omega
 have h5:(n1+1)*d2≤d1*f2*d2:=Iu h4 (by omega)
 have h6:d2*f2*d1≤n2*d1:=Iu (by omega) (by omega)
 have h7:d1*f2*d2=d2*f2*d1:=by rw[kP d1,kP d2,Er,Er,kP d1]
 rw[Int.add_mul,yM] at h5
 omega
theorem GP {a c:Int}:sZ a c=(a - c).sign:=by
 unfold sZ
 rcases wH a c with h|h|h
 ·rw[ai h,wF (by omega)]
 ·subst h;rw[ah (by omega),ah (by omega),Int.sub_self];rfl
 ·rw[ah (by omega),ai h,rM (by omega)]
theorem TD {n1 d1 n2 d2:Int}(h1:0<d1)(h2:0<d2):(sZ (n1.fdiv d1) (n2.fdiv d2)≠0→Cy n1 d1 n2 d2=sZ (n1.fdiv d1) (n2.fdiv d2))∧
  (sZ (n1.fdiv d1) (n2.fdiv d2)=0→((n1.fmod d1).sign=0∨(n2.fmod d2).sign=0→Cy n1 d1 n2 d2=(n1.fmod d1).sign - (n2.fmod d2).sign)∧(¬((n1.fmod d1).sign=0∨(n2.fmod d2).sign=0)→0<n1.fmod d1∧n1.fmod d1<d1∧0<n2.fmod d2∧Cy n1 d1 n2 d2=- Cy d1 (n1.fmod d1) d2 (n2.fmod d2))):=by
 have r1:=wD n1 h1
 have r2:=wD n2 h2
 have e1:d1*n1.fdiv d1+n1.fmod d1=n1:=Es n1 d1
 have e2:d2*n2.fdiv d2+n2.fmod d2=n2:=Es n2 d2
 constructor
 ·intro h
  rcases wH (n1.fdiv d1) (n2.fdiv d2) with h3|h3|h3
  ·have:=D9 h1 h2 h3
   unfold Cy sZ
   rw[ai this,ai h3]
  ·exfalso;apply h;unfold sZ;rw[ah (by omega),ah (by omega)]
  ·have:=D9 h2 h1 h3
   unfold Cy sZ
   rw[ah (by omega),ai this,ah (by omega),ai h3]
 ·intro h
  have h3:n1.fdiv d1=n2.fdiv d2:=by
   unfold sZ at h
   split at h
   ·cases h
   ·split at h
    ·cases h
    ·omega
  rw[h3] at e1
  have key:n1*d2 - n2*d1=n1.fmod d1*d2 - n2.fmod d2*d1:=by
   have a1:n1*d2=d1*n2.fdiv d2*d2+n1.fmod d1*d2:=by rw[←Int.add_mul,e1]
   have a2:n2*d1=d2*n2.fdiv d2*d1+n2.fmod d2*d1:=by rw[←Int.add_mul,e2]
   have:d1*n2.fdiv d2*d2=d2*n2.fdiv d2*d1:=by rw[kP d1,kP d2,Er,Er,kP d1]
   rw[a1,a2,this]
   omega
  have hs:Cy n1 d1 n2 d2=(n1.fmod d1*d2 - n2.fmod d2*d1).sign:=by unfold Cy;rw[GP,key]
  have p1:=yN n1 h1
  generalize n1.fmod d1=m1 at*
  generalize n2.fmod d2=m2 at*
  constructor
  ·intro h4
   rw[hs]
   have JF:∀{x y:Int},0<y→(x*y).sign=x.sign:=fun {x y} hy=>by rw[Int.sign_mul,rM hy,Int.mul_one]
   rcases h4 with h4|h4
   ·have:m1=0:=Bt.1 h4
    subst this
    rw[h4,Iq,Int.zero_sub,Int.zero_sub,Int.sign_neg,JF h1]
   ·have:m2=0:=Bt.1 h4
    subst this
    rw[h4,Iq,Int.sub_zero,Int.sub_zero,JF h2]
  ·intro h4
   have h5:m1≠0:=fun h=>h4 (.inl (by rw[h];rfl))
   have h6:m2≠0:=fun h=>h4 (.inr (by rw[h];rfl))
   refine⟨by omega,by omega,by omega,?_⟩
   rw[hs]
   unfold Cy
   rw[GP,←Int.sign_neg]
   congr 1
   rw[Int.neg_sub,kP d2,kP d1]
theorem TE(a c:Int):sZ a c=-1∨sZ a c=0∨sZ a c=1:=by
 unfold sZ
 split
 ·exact .inl rfl
 ·split
  ·exact .inr (.inr rfl)
  ·exact .inr (.inl rfl)
theorem Nv(a:Int):a.sign=-1∨a.sign=0∨a.sign=1:=by
 rcases wH a 0 with h|h|h
 ·exact .inl (wF h)
 ·subst h;exact .inr (.inl rfl)
 ·exact .inr (.inr (rM h))
theorem Rh {n1 d1:Int}(h1:0<d1)(l1:n1.natAbs<LIM)(l2:d1.natAbs<LIM):(n1.fdiv d1).natAbs<LIM∧(n1.fmod d1).natAbs<LIM:=by
  have e:=Es n1 d1
  have r1:=wD n1 h1
  have r2:=yN n1 h1
  have hq:-(n1.natAbs:Int)≤n1.fdiv d1∧n1.fdiv d1≤n1.natAbs:=by
   rw[MF _ (Int.le_of_lt h1)]
   constructor
   ·exact (Int.le_ediv_iff_mul_le h1).2 (by have:-(n1.natAbs:Int)*d1≤-(n1.natAbs:Int)*1:=Int.mul_le_mul_of_nonpos_left (by omega) (by omega);omega)
   ·have:n1 / d1<n1.natAbs+1:=Int.ediv_lt_of_lt_mul h1 (by have:((n1.natAbs:Int)+1)*1≤((n1.natAbs:Int)+1)*d1:=Int.mul_le_mul_of_nonneg_left (by omega) (by omega);omega)
    omega
  omega
theorem UV(k:Nat):∀{n1 d1 n2 d2 out:Int},d1.natAbs≤k→0<d1→0<d2→n1.natAbs<LIM→d1.natAbs<LIM→n2.natAbs<LIM→d2.natAbs<LIM→(out=1∨out=-1)→
  bt iV (out,(⟨enc n1,enc d1⟩:ao),(⟨enc n2,enc d2⟩:ao))=some (out*Cy n1 d1 n2 d2):=by
 induction k with
 |zero=>intro n1 d1 n2 d2 out h h1;omega
 |succ k ih=>
  intro n1 d1 n2 d2 out hk h1 h2 l1 l2 l3 l4 ho
  obtain⟨ca,cb⟩:=TD (n1:=n1) (n2:=n2) h1 h2
  have q1:=Rh h1 l1 l2
  have q2:=Rh h2 l3 l4
  have iE:∀r,iV (out,(⟨enc n1,enc d1⟩:ao),(⟨enc n2,enc d2⟩:ao))=r↔(cnd (decide (sZ (n1.fdiv d1) (n2.fdiv d2)≠(0:Int))) (some (.inr (i64.wrap (out*sZ (n1.fdiv d1) (n2.fdiv d2))))) (cnd (decide ((n1.fmod d1).sign=0∨(n2.fmod d2).sign=0)) (some (.inr (i64.wrap (out*(i64.wrap ((n1.fmod d1).sign - (n2.fmod d2).sign)))))) (some (.inl (i64.wrap (0 - out),(⟨enc d1,enc (n1.fmod d1)⟩:ao),(⟨enc d2,enc (n2.fmod d2)⟩:ao))))))=r:=by
   intro r
   dsimp only[iV]
   rw[G8 l1 l2 (by omega),ab,G8 l3 l4 (by omega),ab,G_Cmp q1.1 q2.1,ab,G_Rem l1 l2 (by omega),ab,G_Rem l3 l4 (by omega),ab,wW q1.2,ab,wW q2.2,ab,TC,ab,ab,←Bool.decide_or]
  have rc:=TE (n1.fdiv d1) (n2.fdiv d2)
  have rs1:=Nv (n1.fmod d1)
  have rs2:=Nv (n2.fmod d2)
  by_cases hc:sZ (n1.fdiv d1) (n2.fdiv d2)≠0
  ·refine nF ((iE _).2 ?_)
   rw[cw _ _ hc,ca hc,bV (by rcases ho with rfl|rfl <;> omega)]
  ·have hc0:sZ (n1.fdiv d1) (n2.fdiv d2)=0:=Decidable.byContradiction hc
   obtain⟨cc,cd⟩:=cb hc0
   by_cases hz:(n1.fmod d1).sign=0∨(n2.fmod d2).sign=0
   ·refine nF ((iE _).2 ?_)
    rw[cg _ _ hc,cw _ _ hz,cc hz,bV (z:=(n1.fmod d1).sign - (n2.fmod d2).sign) (by omega),bV (by rcases ho with rfl|rfl <;> omega)]
   ·obtain⟨g1,g2,g3,g4⟩:=cd hz
    refine (o6 ((iE _).2 ?_)).trans ((ih (n1:=d1) (d1:=n1.fmod d1) (n2:=d2) (d2:=n2.fmod d2) (out:=0 - out) (by omega) g1 g3 l2 q1.2 l4 q2.2 (by omega)).trans ?_)
    ·rw[cg _ _ hc,cg _ _ hz,bV]
    ·rw[g4,Int.zero_sub,Ey,Bx]
def ocmp(a b:Option Rat):Int:=match a,b with
 |none,none=>0
 |none,some _=>-1
 |some _,none=>1
 |some p,some q=>if p<q then -1 else if q<p then 1 else 0
theorem TF(p q:Rat):Cy p.num p.den q.num q.den=if p<q then -1 else if q<p then 1 else 0:=by
 unfold Cy sZ
 simp only[Rat.lt_iff]
theorem UP {x y:ao}(hx:okR x)(hy:okR y):jj x y=some (ocmp (cm x) (cm y)):=by
 unfold jj
 rw[iD hx,iD hy,ab,ab]
 cases h1:cm x with
 |none=>
  cases h2:cm y with
  |none=>rfl
  |some q=>rfl
 |some p=>
  cases h2:cm y with
  |none=>rfl
  |some q=>
   obtain⟨hp,rfl⟩:=dm.1 h1
   obtain⟨hq,rfl⟩:=dm.1 h2
   have e:=UV p.den (n1:=p.num) (d1:=(p.den:Int)) (n2:=q.num) (d2:=(q.den:Int)) (out:=1) (by omega) (by have:=p.den_pos;omega) (by have:=q.den_pos;omega) hp.1 (jE hp) hq.1 (jE hq) (.inl rfl)
   simp only[Br,cY,aH,ab]
   show (bnd (bt iV ((1:Int),kN p,kN q)) fun uM=>some uM)=_
   unfold kN
   rw[e,ab,yM,TF]
   rfl
theorem Tf {x:ao}{q:Rat}(h:cm x=some q):x=kN q:=(dm.1 h).2
def Nu:={x:ao // okR x}
instance:DecidableEq Nu:=inferInstanceAs (DecidableEq {x:ao // okR x})
theorem okR0:okR (default:ao):=by
 have h:∀j:Nat,j<16→(default:ap).vW[j]! =0:=by
  intro j hj
  show (eb)[j]! =0
  rw[bJ (eb) j hj,Vector.getElem_replicate]
 exact⟨fun j hj=>by show 0≤(default:ap).vW[j]!∧(default:ap).vW[j]! <4294967296;rw[h j hj];omega,fun j hj=>by show 0≤(default:ap).vW[j]!∧(default:ap).vW[j]! <4294967296;rw[h j hj];omega⟩
instance:Inhabited Nu:=⟨⟨default,okR0⟩⟩
def nuR(o:Option Rat):Nu:=⟨Bl o,ui o⟩
def decW(v:Vector Int 16):Nat:=gq 4294967296 (fun j=>(v[j]!).toNat) 16
def F8(x:ap):Int:=if x.vNeg then -(decW x.vW:Int) else decW x.vW
theorem decW_W {A:Nat}(h:A<LIM):decW (W A)=A:=by
 refine Tn (b:=4294967296) (n:=16) ?_ h fun j hj=>?_
 ·exact CA (by decide) _ fun j hj=>by
   rw[gE hj]
   have:=@dgl A j
   omega
 ·unfold decW
  rw[H8 (by decide) 16 (fun i hi=>by
   rw[gE hi]
   have:=@dgl A i
   omega) j hj,gE hj]
  omega
theorem z9 {z:Int}(h:z.natAbs<LIM):F8 (enc z)=z:=by
 rw[rA h]
 unfold F8
 dsimp only
 rw[decW_W h]
 by_cases hz:z<0
 ·rw[ai (aA hz)];omega
 ·rw[ah (by simpa using hz)];omega
def yl(x:ao):Option Rat:=if lR (Rat.divInt (F8 x.vN) (F8 x.vD))∧kN (Rat.divInt (F8 x.vN) (F8 x.vD))=x then some (Rat.divInt (F8 x.vN) (F8 x.vD)) else none
theorem sf:yl=cm:=by
 funext x
 unfold yl
 cases h:cm x with
 |none=>exact ah fun hh=>Av.1 h _ hh.1 hh.2.symm
 |some q=>
  obtain⟨h1,h2⟩:=dm.1 h
  have hn:F8 x.vN=q.num:=by rw[h2];exact z9 h1.1
  have hd:F8 x.vD=(q.den:Int):=by rw[h2];exact z9 (jE h1)
  rw[hn,hd,show Rat.divInt q.num q.den=q from by rw[ME];exact Rat.mkRat_self q,ai ⟨h1,h2.symm⟩]
def jA(x y:Nu):Nu:=nuR (Hz (yl x.1) (yl y.1))
def lQ(x y:Nu):Nu:=nuR (AS (yl x.1) (yl y.1))
def HA(x y:Nu):Nu:=nuR (osub (yl x.1) (yl y.1))
def nV(x y:Nu):Nu:=nuR (FI (yl x.1) (yl y.1))
def eR(x:Nu):Nu:=nuR (Pc (yl x.1))
def nOf(n:Int):Nu:=nuR (some (n:Rat))
def bI(x:Nu):Int:=osgn (yl x.1)
def aw(x:Nu):Bool:=(yl x.1).isSome
def pN(x y:Nu):Int:=ocmp (yl x.1) (yl y.1)
theorem pP(x y:Nu):jA x y=nuR (Hz (cm x.1) (cm y.1)):=by unfold jA;rw[sf]
theorem rh(x y:Nu):lQ x y=nuR (AS (cm x.1) (cm y.1)):=by unfold lQ;rw[sf]
theorem RA(x y:Nu):HA x y=nuR (osub (cm x.1) (cm y.1)):=by unfold HA;rw[sf]
theorem Dq(x y:Nu):nV x y=nuR (FI (cm x.1) (cm y.1)):=by unfold nV;rw[sf]
theorem zK(x:Nu):eR x=nuR (Pc (cm x.1)):=by unfold eR;rw[sf]
theorem AV(x:Nu):bI x=osgn (cm x.1):=by unfold bI;rw[sf]
theorem ez(x:Nu):aw x=(cm x.1).isSome:=by unfold aw;rw[sf]
theorem Dr(x y:Nu):pN x y=ocmp (cm x.1) (cm y.1):=by unfold pN;rw[sf]
section
section
variable {B:Nat} {hp:Hp} {g:Gh} {w w':World}
def Hp.re(hp:Hp)(k:Nat)(ds:List D):Hp:=⟨(hp.next,ds)::hp.vars.filter fun p=>!([k]:List Nat).contains p.1,hp.live,hp.next+1⟩
theorem zD {k:Nat}{ds a:List D}{j:Nat}(h:(hp.re k ds).vars.lookup j=some a):(j=hp.next∧a=ds)∨(j≠hp.next∧j≠k∧hp.vars.lookup j=some a):=by
 by_cases hj:j=hp.next
 ·subst hj
  have:some ds=some a:=by rw[←h];exact aa.symm
  injection this with this
  exact .inl ⟨rfl,this.symm⟩
 ·have h1:(hp.vars.filter fun p=>!([k]:List Nat).contains p.1).lookup j=some a:=by rw[←h];exact (am hj).symm
  obtain⟨h2,h3⟩:=i7 h1
  exact .inr ⟨hj,by simpa using h2,h3⟩
theorem cE.re(hr:HR B hp g w){k b:Nat}{sG:List D}(hk:hp.vars.lookup k=some sG)(ds:List D)(hs:w.heap.size≤w'.heap.size)(ho:∀c,c<w.heap.size→c≠g.μ k→w'.heap[c]? =w.heap[c]?)(hz:SzB w w' (g.μ k))(hb:b=g.μ k∨w.heap.size≤b):
  cE hp g w (hp.re k ds) (g.var hp.next b) w':=by
 have bH:=hr.var_lt hk
 obtain⟨h1,h2,h3,_⟩:=hr.var k sG hk
 refine⟨hs,fun p js hf=>World.cell?_of_block (ho _ js fun e=>hf (h3 p e)),fun p hpb hf=>?_,jo _,fun j hj=>?_,fun _ _ m _ hm=>⟨m,hm,ay _,fun _=>rfl⟩,fun c hc hf=>⟨ho _ hc fun e=>hf.1 k sG hk e.symm,fun _ _ h=>.inl h,fun j a hj=>?_,hf.2⟩,fun c=>?_⟩
 ·rcases hf with hf|hf
  ·exact hf
  ·rcases hb with hb|hb
   ·exact h3 p (by rw[hf,hb])
   ·omega
 ·show (if j=hp.next then _ else _)=_
  rw[ah (by omega)]
 ·rcases zD hj with⟨rfl,_⟩|⟨fk,_,h⟩
  ·show (if _ then _ else _)≠_
   rw[ai rfl]
   rcases hb with hb|hb
   ·rw[hb];exact hf.1 k sG hk
   ·omega
  ·show (if _ then _ else _)≠_
   rw[ah fk]
   exact hf.1 j a h
 ·by_cases hc:c=g.μ k
  ·subst hc;exact hz
  ·exact .same fun h=>ho c h hc
theorem HR.re(hr:HR B hp g w){k b:Nat}{sG:List D}(hk:hp.vars.lookup k=some sG)(ds:List D)(hs:w.heap.size≤w'.heap.size)(ho:∀c,c<w.heap.size→c≠g.μ k→w'.heap[c]? =w.heap[c]?)(hz:SzB w w' (g.μ k))(hb:b=g.μ k∨w.heap.size≤b)
  (cs:Array Value) (ty:TypeId) (hn:w'.heap[b]? =some (.cells cs ty (0,0))) (hl:ds.length≤cs.size) (hc:∀(j:Nat) (u:Value),cs[j]? =some u→(j<ds.length→u.oneCell'=true)∧∀d,ds[j]? =some d→aE hp g w d u):HR B (hp.re k ds) (g.var hp.next b) w':=by
 have m:=cE.re hr hk ds hs ho hz hb
 have hkl:=hr.var_lt hk
 obtain⟨Ss,yB,hk3,_⟩:=hr.var k sG hk
 have hbl:b<w'.heap.size:=(oD.1 hn).1
 have IU:(g.var hp.next b).μ hp.next=b:=ai rfl
 have hμ:∀j,j<hp.next→(g.var hp.next b).μ j=g.μ j:=m.μ
 have N5:∀{j:Nat} {a:List D},j≠k→hp.vars.lookup j=some a→g.μ j≠g.μ k:=fun hj h e=>hj (hr.inj _ _ _ _ h hk e)
 have um:∀{j:Nat} {a:List D},j≠k→hp.vars.lookup j=some a→g.μ j≠b:=fun hj h e=>by
  rcases hb with hb|hb
  ·exact N5 hj h (by rw[e,hb])
  ·have:=hr.var_lt h;omega
 refine⟨fun j a hj=>?_,fun j j' a a' hj BU he=>?_,fun id n e hi=>?_,fun id Be t t' c hi vz he GF=>hr.tinj id Be t t' c hi vz he GF,dA hr.base hs,fun p hf=>?_⟩
 ·rcases zD hj with⟨rfl,rfl⟩|⟨fk,hjk,h0⟩
  ·rw[IU]
   refine⟨eo _,?_,fun p hp'=>.inr hp',cs,ty,hn,hl,fun i u hu=>⟨(hc i u hu).1,fun d hd=>((hc i u hu).2 d hd).mono m⟩⟩
   rcases hb with hb|hb
   ·rw[hb];exact yB
   ·exact dA hr.base hb
  ·have bH:=hr.var_lt h0
   obtain⟨h1,h2,h3,wr,K8,h4,h5,h6⟩:=hr.var j a h0
   rw[hμ j h1]
   exact⟨ya h1,h2,fun p hp'=>.inl (h3 p hp'),wr,K8,(ho _ bH (N5 hjk h0)).trans h4,h5,fun i u hu=>⟨(h6 i u hu).1,fun d hd=>((h6 i u hu).2 d hd).mono m⟩⟩
 ·rcases zD hj with⟨h1,_⟩|⟨h1,hjk,h0⟩ <;> rcases zD BU with⟨h2,_⟩|⟨h2,hjk',I1⟩
  ·omega
  ·rw[h1,IU,hμ j' (hr.var j' a' I1).1] at he
   exact absurd he.symm (um hjk' I1)
  ·rw[h2,IU,hμ j (hr.var j a h0).1] at he
   exact absurd he (um hjk h0)
  ·rw[hμ j (hr.var j a h0).1,hμ j' (hr.var j' a' I1).1] at he
   exact hr.inj j j' a a' h0 I1 he
 ·obtain⟨h1,us,hz',h2,h3⟩:=hr.tok id n e hi
  refine⟨ya h1,us,hz',⟨h2.1,?_⟩,fun c DP=>⟨fun p h4 h5=>.inl ((h3 c DP).1 p h4 h5),fun j a hj=>?_⟩⟩
  ·rcases h2.2 with h0|⟨c,cap,cur,hv,hB,hh,r⟩
   ·exact .inl h0
   ·exact .inr ⟨c,cap,cur,hv,hB,(ho c (oD.1 hh).1 fun e=>(h3 c (by rw[hv];rfl)).2 k sG hk e.symm).trans hh,r⟩
  ·rcases zD hj with⟨rfl,_⟩|⟨fk,_,h0⟩
   ·rw[IU]
    rcases hb with hb|hb
    ·rw[hb];exact (h3 c DP).2 k sG hk
    ·have:=(h2.lt c DP).2;omega
   ·rw[hμ j (hr.var j a h0).1]
    exact (h3 c DP).2 j a h0
 ·rcases hf with hf|hf
  ·exact bG (hr.fits p hf) hs
  ·rw[hf];exact hbl
theorem cE.addVar(hp:Hp)(g:Gh)(ds:List D){b:Nat}(hs:w.heap.size≤w'.heap.size)(hb:∀c,c<w.heap.size→w'.heap[c]? =w.heap[c]?)(vd:w.heap.size≤b):cE hp g w (hp.var ds) (g.var hp.next b) w':=by
 refine⟨hs,fun p js _=>World.cell?_of_block (hb _ js),fun p hpb hf=>?_,jo _,fun k hk=>?_,fun _ _ m _ hm=>⟨m,hm,ay _,fun _=>rfl⟩,fun c hc hf=>⟨hb _ hc,fun _ _ h=>.inl h,fun k ds' hk=>?_,hf.2⟩,fun c=>.same (hb c)⟩
 ·rcases hf with hf|hf
  ·exact hf
  ·omega
 ·show (if k=hp.next then _ else _)=_
  rw[ah (by omega)]
 ·show (if k=hp.next then _ else _)≠_
  by_cases w8:k=hp.next
  ·rw[ai w8];omega
  ·rw[ah w8]
   exact hf.1 k ds' (by rw[←hk];exact (am w8).symm)
theorem HR.addVar(hr:HR B hp g w)(ds:List D){b:Nat}(hs:w.heap.size≤w'.heap.size)(hb:∀c,c<w.heap.size→w'.heap[c]? =w.heap[c]?)(vd:w.heap.size≤b)(cs:Array Value)(ty:TypeId)(hn:w'.heap[b]? =some (.cells cs ty (0,0)))(hl:ds.length≤cs.size)
  (hc:∀(j:Nat) (u:Value),cs[j]? =some u→(j<ds.length→u.oneCell'=true)∧∀d,ds[j]? =some d→aE (hp.var ds) (g.var hp.next b) w' d u):HR B (hp.var ds) (g.var hp.next b) w':=by
 have m:=cE.addVar hp g ds hs hb vd
 have hμ:∀k,k<hp.next→(g.var hp.next b).μ k=g.μ k:=m.μ
 have IU:(g.var hp.next b).μ hp.next=b:=ai rfl
 have hbl:b<w'.heap.size:=(oD.1 hn).1
 have look:∀{j:Nat} {a:List D},(hp.var ds).vars.lookup j=some a→(j=hp.next∧a=ds)∨(j≠hp.next∧hp.vars.lookup j=some a):=by
  intro j a hj
  by_cases tf:j=hp.next
  ·subst tf
   have:some ds=some a:=by rw[←hj];exact aa.symm
   injection this with this
   exact .inl ⟨rfl,this.symm⟩
  ·exact .inr ⟨tf,by rw[←hj];exact (am tf).symm⟩
 refine⟨fun j a hj=>?_,fun j j' a a' hj BU he=>?_,fun id n e hi=>?_,fun id Be t t' c hi vz he GF=>hr.tinj id Be t t' c hi vz he GF,dA hr.base hs,fun p hf=>?_⟩
 ·rcases look hj with⟨rfl,rfl⟩|⟨fk,h0⟩
  ·rw[IU]
   exact⟨eo _,dA hr.base vd,fun p hp'=>.inr hp',cs,ty,hn,hl,hc⟩
  ·have bH:=hr.var_lt h0
   obtain⟨h1,h2,h3,wr,K8,h4,h5,h6⟩:=hr.var j a h0
   rw[hμ j h1]
   exact⟨ya h1,h2,fun p hp'=>.inl (h3 p hp'),wr,K8,(hb _ bH).trans h4,h5,fun i u hu=>⟨(h6 i u hu).1,fun d hd=>((h6 i u hu).2 d hd).mono m⟩⟩
 ·rcases look hj with⟨h1,_⟩|⟨h1,h0⟩ <;> rcases look BU with⟨h2,_⟩|⟨h2,I1⟩
  ·omega
  ·rw[h1,IU,hμ j' (hr.var j' a' I1).1] at he
   have:=hr.var_lt I1;omega
  ·rw[h2,IU,hμ j (hr.var j a h0).1] at he
   have:=hr.var_lt h0;omega
  ·rw[hμ j (hr.var j a h0).1,hμ j' (hr.var j' a' I1).1] at he
   exact hr.inj j j' a a' h0 I1 he
 ·obtain⟨h1,us,hz',h2,h3⟩:=hr.tok id n e hi
  refine⟨ya h1,us,hz',⟨h2.1,?_⟩,fun c DP=>⟨fun p h4 h5=>.inl ((h3 c DP).1 p h4 h5),fun j a hj=>?_⟩⟩
  ·rcases h2.2 with h0|⟨c,cap,cur,hv,hB,hh,r⟩
   ·exact .inl h0
   ·exact .inr ⟨c,cap,cur,hv,hB,(hb c (oD.1 hh).1).trans hh,r⟩
  ·rcases look hj with⟨rfl,_⟩|⟨fk,h0⟩
   ·rw[IU]
    have:=(h2.lt c DP).2;omega
   ·rw[hμ j (hr.var j a h0).1]
    exact (h3 c DP).2 j a h0
 ·rcases hf with hf|hf
  ·exact bG (hr.fits p hf) hs
  ·rw[hf];exact hbl
end
end
section
def D.toOw:D→D
 | .gw k z n=>.ow k 0 z n
 |d=>d
section
variable {P:Program} {tb:TypeId→Option TyE} {md:Md} {B:Nat} {hp hp':Hp} {g:Gh} {w w':World} {d:D} {v:Value}
theorem aE.toOw(h:aE hp g w d v):aE hp g w d.toOw v:=by
 cases h with
 |gw k z n c hk h1 h2 hs=>exact .ow k 0 z n c hk h1 h2
 |e x v h=>exact .e x v h
 |own id z n xs v h hid ht=>exact .own id z n xs v h hid ht
 |fu z n xs A h=>exact .fu z n xs A h
 |ag ds cs hl h1 hr=>exact .ag ds cs hl h1 hr
 |tu ds cs hl hr=>exact .tu ds cs hl hr
 |fp xs off ad hb hc=>exact .fp xs off ad hb hc
 |pt k off hk=>exact .pt k off hk
 |ow k off z n c hk h1 h2=>exact .ow k off z n c hk h1 h2
 |fn f ks hk=>exact .fn f ks hk
 |opt b d v hi h=>exact .opt b d v hi h
 |top v=>exact .top v
theorem No {k off:Nat}(d:D):d.toOw.un=.pt k off↔d.un=.pt k off:=by cases d <;> simp[D.toOw,D.un]
theorem qI.toOw {o:Oper}{ev:Operand→D}(h:qI P o (fun x=>(ev x).toOw) hp d hp'):qI P o ev hp d hp':=
 fun B g w a Kn Q hr hx hk=>h B g w a Kn Q hr (fun x xL=>(hx x xL).toOw) hk
theorem mG.toOw {o:Oper}{ev:Operand→D}(h:mG P tb md o (fun x=>(ev x).toOw) hp d hp'):mG P tb md o ev hp d hp':=
 ⟨h.ok.toOw,fun h1=>⟨(h.quiet h1).1,fun c5 h3=>((h.quiet h1).2 c5 fun hl x hx j off e=>h3 hl x hx j off ((No _).1 e)).toOw⟩,h.fr,fun hl x hx j off e=>h.lk hl x hx j off ((No _).2 e)⟩
variable {ops:Array Oper} {K:List (Nat×D)→Hp→Prop} {os:List Oper} {tm:List (Nat×D)} {t:Tmp} {dst:Option Tmp} {op:Op} {ty:TypeId} {pos:String} {af:Array Edge} {gd:Option (Nat×Bool)}
theorem stG(tok:TOk P tb)(h:AVC P tb md.dr op ty (fun x=>(evD tm x).toOw) hp (Kq d hp'))(h2:aV P tb md ops K os (AP dst d tm) hp')(hn:md.nc tb op=true:=by exact rfl):aV P tb md ops K (⟨dst,op,ty,pos,af,none⟩::os) tm hp:=
 O2 rfl (((AVC.snd (o:=⟨dst,op,ty,pos,af,none⟩) tok h).q hn).toOw) h2
theorem litR(tok:TOk P tb){ev:Operand→D}{tt e:TypeId}{ti j:TyE}{x:Operand}{cs:List D}(ht:tb tt=some ti)(he:tb e=some j)(hx:(ev x).cells=some cs)(hl:cs.length=j.size)(xN:ti.ty=.slice e:=by exact rfl)(hz:Nat.ble 1 j.size=true:=by exact rfl)(hsm:Nat.ble j.size 16777216=true:=by exact rfl)(href:LG tb (.buildSlice tt 1 #[(0,x)])=true:=by exact rfl)(p9:md.nc tb (.buildSlice tt 1 #[(0,x)])=true:=by exact rfl):
  mG P tb md ⟨dst,.buildSlice tt 1 #[(0,x)],ty,pos,af,gd⟩ ev hp (.gw hp.next j.size 1) (hp.var cs):=by
 have hz:=bc hz
 have hsm:=bc hsm
 have hu:=tok.slice ht xN
 refine⟨.step fun B g w a hr xL=>?_,fun hq=>?_,fun _=>⟨jo _,fun j hj=>am (by omega)⟩,fun h=>by cases h⟩
 rotate_left
 ·exfalso
  cases md with
  |seq=>cases hq
  |any L=>
   have h1:((o4 (.buildSlice tt 1 #[(0,x)])&&!LG tb (.buildSlice tt 1 #[(0,x)]))||oi tb L (.buildSlice tt 1 #[(0,x)]))=true:=hq
   rw[href] at h1
   simp[o4,oi] at h1
 have cM:=xL x (by simp[Op.operands])
 have oH:=cM.cells hx
 have t4:(a.eval x).cells.size=j.size:=by rw[←iF,←oH.1.1,hl]
 obtain⟨zv,hzv,GA⟩:=tok.run_zero he w
 obtain⟨_,_,hzl,LN⟩:=tok e j he
 have hs:=tok.run_sizeOf he w
 have BW:Instr.fill (fun i=>some (i*j.size,j.size)) ((Array.range (1*j.size)).map (zv.cells[·% zv.cells.size]!)) [(0,a.eval x)]=some (a.eval x).cells:=by
  have h0:fT (fun i=>some (i*j.size,j.size)) ((Array.range (1*j.size)).map (zv.cells[·% zv.cells.size]!)).toList ([(0,a.eval x)].map fun p=>(p.1,p.2.cells.toList))=some (a.eval x).cells.toList:=by
   have La:((Array.range (1*j.size)).map (zv.cells[·% zv.cells.size]!)).toList.length=j.size:=by simp
   simp only[j4,m9,fT,gv,bp,iF]
   rw[ah (by rw[t4,Array.size_map,Array.size_range];omega)]
   rw[Eh,nd,Ca (by rw[La];omega),sL]
  have:=CP h0
  simpa using this
 have bW:(Instr.buildSlice tt 1 #[(0,a.eval x)]).run P w=.ok (.slice (some ⟨w.heap.size,0,none⟩) 1 1) (w.alloc (.cells (a.eval x).cells e)):=by
  have hsm2:¬1*j.size > 2 ^ 24:=by omega
  have fk:¬1*j.size=0:=by omega
  simp only[Instr.buildSlice,Sem.run_bind,run_underlying hu,Result.andThen_ok,hs,ah hsm2,ah fk,hzv,Sem.run_pure]
  simp only[BW]
  rfl
 refine⟨.slice (some ⟨w.heap.size,0,none⟩) 1 1,g.var hp.next w.heap.size,w.alloc (.cells (a.eval x).cells e),?_,hr.newVar cs _ e (by rw[t4,hl];exact ay _) (fun i u hu=>?_),cE.var hp g w cs _,?_,(Below.refl _ _).alloc hr.base _,fun p _ h=>.inl h⟩
 ·simp[execOp,bW]
 ·have va:(a.eval x).cells.toList[i]? =some u:=by simpa using hu
  exact⟨fun _=>oH.2 u (dZ va),fun d hd=>oH.1.2 i d u hd va⟩
 ·have:=aE.gw (hp:=hp.var cs) (g:=g.var hp.next w.heap.size) (w:=w.alloc (.cells (a.eval x).cells e)) hp.next j.size 1 1 (eo _) (ay _) (by decide) ⟨(a.eval x).cells,e,(0,0),by rw[show (g.var hp.next w.heap.size).μ hp.next=w.heap.size from ai rfl];exact heap_alloc_new w _,by omega⟩
  rwa[show (g.var hp.next w.heap.size).μ hp.next=w.heap.size from ai rfl] at this
theorem AJ(w:World)(t ty e tt:TypeId)(i:TypeInfo)(ht:P.underlying t=some (.slice e))(hi:P.info? e=some i)
  (g Lq sCap:Nat) (cur:Array Value) (hg:w.heap[g]? =some (.cells cur tt (0,0)))
  (a:Addr) (m c:Nat) (news:List Value) (hl:news.length=m*i.size) (sv:∀j u,news[j]? =some u→w.cell? (a.add j)=some u) (h1:∀u∈news,u.oneCell'=true)
  (vb:Lq+m≤sCap) (FU:Lq*i.size+news.length≤cur.size):
  (Builtin.append_ #[t,t] ty #[.slice (some ⟨g,0,none⟩) Lq sCap,.slice (some a) m c]).run P w=
   .ok (.slice (some ⟨g,0,none⟩) (Lq+m) sCap) (w.setRow g (cur.toList.take (Lq*i.size)++news++cur.toList.drop (Lq*i.size+news.length)).toArray):=by
 have hf:=run_firstCells_some (P:=P) w i.size m a m c news hl sv
 have GC:=run_storeCells_at P g (Lq*i.size) tt news 0 cur w hg (by simpa using FU) h1
 simp only[iB] at GC
 simp[Builtin.append_,run_underlying ht,sizeOf,typeInfo,hi,Builtin.lenOf,vb,hf,Addr.add_lit,GC]
structure AppG(w:World)(g:Nat)(v':Value)(w':World)(b n z:Nat)(xs:List Value):Prop where
 size:w.heap.size≤w'.heap.size
 old:∀c,c<w.heap.size→c≠g→w'.heap[c]? =w.heap[c]?
 sz:SzB w w' g
 blk:b=g∨w.heap.size≤b
 rest:w'.os=w.os∧w'.tape=w.tape∧w'.output=w.output
 row:∃(cs:Array Value) (tt:TypeId) (cap:Nat),v'=.slice (some ⟨b,0,none⟩) n cap∧n≤cap∧cap≤maxLen∧w'.heap[b]? =some (.cells cs tt (0,0))∧cap*z≤cs.size∧cs.toList.take (n*z)=xs
theorem FF(tok:TOk P tb){t e:TypeId}{ti j:TyE}(ht:tb t=some ti)(xN:ti.ty=.slice e)(he:tb e=some j)(hz:0<j.size)(w:World)(ty tt:TypeId)(g n cap:Nat)(cur:Array Value)(hg:w.heap[g]? =some (.cells cur tt (0,0)))(p9:n≤cap)(oR:cap≤maxLen)(oH:cap*j.size≤cur.size)
  (a:Addr) (m c:Nat) (news:List Value) (hl:news.length=m*j.size) (sv:∀j u,news[j]? =some u→w.cell? (a.add j)=some u) (h1:∀u∈news,u.oneCell'=true) (hm:0<m) (hb:(n+m)*max 1 j.bytes≤140737488355328):
  ∃v' w' b,(Builtin.append_ #[t,t] ty #[.slice (some ⟨g,0,none⟩) n cap,.slice (some a) m c]).run P w=.ok v' w'∧AppG w g v' w' b (n+m) j.size (cur.toList.take (n*j.size)++news):=by
 obtain⟨f,zz,Qo,N4,Cs,N3,hf4,_⟩:=tok.inf he
 have hu:=tok.slice ht xN
 have NZ:g<w.heap.size:=(oD.1 hg).1
 have Ql:n+m≤140737488355328:=dA (GT _ (by omega)) hb
 have um:(n+m)*f.bytes≤140737488355328:=dA (Ad _ (by rw[Cs];omega)) hb
 have Sk:n*j.size≤cap*j.size:=cG _ p9
 have Bf:(cur.toList.take (n*j.size)).length=n*j.size:=by rw[ee,iF];omega
 by_cases vb:n+m≤cap
 ·have Qj:(n+m)*j.size≤cap*j.size:=cG _ vb
  rw[bU] at Qj
  have hr:=AJ (P:=P) w t ty e tt f hu Qo g n cap cur hg a m c news (by rw[N4];exact hl) sv h1 vb (by rw[N4,hl];omega)
  rw[N4] at hr
  have Ar:(cur.toList.take (n*j.size)++news++cur.toList.drop (n*j.size+news.length)).toArray.size=cur.size:=by
   simp only[rK,cu,ee,eV,iF];omega
  refine⟨_,_,g,hr,by simp,fun c _ hc=>setRow_other w g c _ hc,SzB.row hg Ar,.inl rfl,⟨rfl,rfl,rfl⟩,_,tt,cap,rfl,vb,oR,setRow_heap w g cur _ tt (0,0) hg,by rw[Ar];exact oH,?_⟩
  have e1:(n+m)*j.size=(cur.toList.take (n*j.size)++news).length:=by rw[cu,Bf,hl,bU]
  rw[e1]
  exact vh
 ·have holds:∀i u,(cur.toList.take (n*j.size))[i]? =some u→w.cell? ((⟨g,0,none⟩:Addr).add i)=some u:=fun i u hu=>by
   rw[gz] at hu
   split at hu
   ·rw[Addr.add_lit]
    simpa[World.cell?,hg] using hu
   ·cases hu
  have hr:=run_append_grow (P:=P) w t ty e f zz hu Qo N3 ⟨g,0,none⟩ n cap (cur.toList.take (n*j.size)) (by rw[N4];exact Bf) holds a m c news (by rw[N4];exact hl) sv (by omega) (by omega) (growslice_fits (by omega) um)
  have vd:=grownCap_ge w (n+m) cap e
  have hzs:zz.cells.size=j.size:=by
   have h4:=(tok e j he).2.2.1
   rw[←iF,hf4,h4]
  refine⟨_,_,w.heap.size,hr,by simp,fun c hc _=>heap_alloc_old w.drew _ hc,.same fun h=>heap_alloc_old w.drew _ h,.inr (ay _),⟨rfl,rfl,rfl⟩,_,e,_,rfl,vd,grownCap_le_maxLen w (n+m) cap e (by unfold maxLen;omega),heap_alloc_new w.drew _,?_,?_⟩
  ·simp only[KH,rK,size_zeroCells,hzs,Bf,hl,←bU]
   exact cG _ (by omega)
  ·have e1:(n+m)*j.size=(cur.toList.take (n*j.size)++news).length:=by rw[cu,Bf,hl,bU]
   simp only[OB]
   rw[e1]
   exact vh
theorem appR(tok:TOk P tb){ev:Operand→D}{t e:TypeId}{ti j:TyE}{x y:Operand}{k n ky:Nat}{ds news:List D}(ht:tb t=some ti)(he:tb e=some j)(hk:hp.vars.lookup k=some ds)(hy:hp.vars.lookup ky=some news)(hx:ev x=.gw k j.size n)(RU:ev y=.gw ky j.size 1)(hl:ds.length=n*j.size)(La:news.length=j.size)(hb:(n+1)*max 1 j.bytes≤140737488355328)
  (xN:ti.ty=.slice e:=by exact rfl) (hz:Nat.ble 1 j.size=true:=by exact rfl) (href:cpB tb ⟨.builtin .append,#[x,y],#[t,t]⟩=true:=by exact rfl):
  mG P tb md ⟨dst,.call ⟨.builtin .append,#[x,y],#[t,t]⟩,ty,pos,af,gd⟩ ev hp (.gw hp.next j.size (n+1)) (hp.re k (ds++news)):=by
 have hz:=bc hz
 refine⟨.step fun B g w a hr xL=>?_,fun hq=>?_,fun h=>?_,fun h=>by cases h⟩
 ·have h1:=xL x (cK (by simp))
  have h2:=xL y (cK (by simp))
  rw[hx] at h1
  rw[RU] at h2
  obtain⟨q1,q2,q3,cs,tt,q4,q5,q6⟩:=hr.var k ds hk
  obtain⟨y1,y2,y3,ys,yt,y4,y5,y6⟩:=hr.var ky news hy
  generalize hv1:a.eval x=v1 at h1
  generalize R0:a.eval y=v2 at h2
  cases h1 with
  |gw _ _ _ cap w8 p9 oR hs=>
  cases h2 with
  |gw _ _ _ c hkn2 hnc2 hcm2 K9=>
  obtain⟨wr,tt',l',h3,h4⟩:=hs
  rw[q4] at h3
  injection h3 with h3
  injection h3 with h3 h5 h6
  subst h3;subst h5;subst h6
  have sv:∀i u,(ys.toList.take j.size)[i]? =some u→w.cell? ((⟨g.μ ky,0,none⟩:Addr).add i)=some u:=fun i u hu=>by
   rw[gz] at hu
   split at hu
   ·rw[Addr.add_lit]
    simpa[World.cell?,y4] using hu
   ·cases hu
  have hyone:∀u∈ys.toList.take j.size,u.oneCell'=true:=fun u hu=>by
   obtain⟨i,hi⟩:=Af hu
   rw[gz] at hi
   split at hi
   ·rename_i bH
    exact (y6 i u (by simpa using hi)).1 (by omega)
   ·cases hi
  obtain⟨v',w',b,bW,sY⟩:=FF tok ht xN he hz w ty tt (g.μ k) n cap cs q4 p9 oR h4 ⟨g.μ ky,0,none⟩ 1 c (ys.toList.take j.size) (by rw[ee,iF];omega) sv hyone (by omega) hb
  obtain⟨cs2,tt2,cap2,vw,N7,qC,hh2,hc3,N6⟩:=sY.row
  have hlen:(ds++news).length=(n+1)*j.size:=by rw[cu,hl,La,bU,eT]
  have CK:(n+1)*j.size≤cap2*j.size:=cG _ N7
  have hHR:HR B (hp.re k (ds++news)) (g.var hp.next b) w':=hr.re hk _ sY.size sY.old sY.sz sY.blk cs2 tt2 hh2 (by rw[hlen];omega) (fun i u hu=>by
   have hwin:i<(n+1)*j.size→(cs.toList.take (n*j.size)++ys.toList.take j.size)[i]? =some u:=fun hi=>by
    rw[←N6,gz,ai hi];simpa using hu
   have htk:(cs.toList.take (n*j.size)).length=n*j.size:=by rw[ee,iF];omega
   have look:∀hi:i<(n+1)*j.size,(i<n*j.size∧cs[i]? =some u)∨(n*j.size≤i∧i - n*j.size<j.size∧ys[i - n*j.size]? =some u):=fun hi=>by
    have h:=hwin hi
    rcases d6 i (n*j.size) with bH|vd
    ·rw[Ag (by omega),gz,ai bH] at h
     exact .inl ⟨bH,by simpa using h⟩
    ·rw[qm (by omega),htk,gz] at h
     rw[bU,eT] at hi
     rw[ai (by omega)] at h
     exact .inr ⟨vd,by omega,by simpa using h⟩
   refine⟨fun hi=>?_,fun d hd=>?_⟩
   ·rw[hlen] at hi
    rcases look hi with⟨h5,h6⟩|⟨h5,h6,h7⟩
    ·exact (q6 i u h6).1 (by omega)
    ·exact (y6 _ u h7).1 (by omega)
   ·have hi:i<(n+1)*j.size:=by rw[←hlen];exact (fy.1 hd).1
    rcases look hi with⟨h5,h6⟩|⟨h5,h6,h7⟩
    ·rw[Ag (by omega)] at hd
     exact (q6 i u h6).2 d hd
    ·rw[qm (by omega),hl] at hd
     exact (y6 _ u h7).2 d hd)
  refine⟨v',g.var hp.next b,w',?_,hHR,cE.re hr hk _ sY.size sY.old sY.sz sY.blk,?_,⟨sY.rest.1,sY.rest.2.1,sY.rest.2.2,sY.size,fun c hc=>sY.old c (bG hc hr.base) (by omega)⟩,fun p h5 h6=>.inl h6⟩
  ·simp only[execOp,Array.map_map,al_5,j4,m9,resolve,invoke,builtin,hv1,R0,Sem.run_bind]
   simp[resolve,invoke,builtin,hv1,R0,bW]
  ·subst vw
   have IU:(g.var hp.next b).μ hp.next=b:=ai rfl
   have:=aE.gw (hp:=hp.re k (ds++news)) (g:=g.var hp.next b) (w:=w') hp.next j.size (n+1) cap2 (eo _) N7 qC ⟨cs2,tt2,(0,0),by rw[IU];exact hh2,hc3⟩
   rwa[IU] at this
 ·exfalso
  cases md with
  |seq=>cases hq
  |any L=>
   have h1:((o4 (.call ⟨.builtin .append,#[x,y],#[t,t]⟩)&&!LG tb (.call ⟨.builtin .append,#[x,y],#[t,t]⟩))||oi tb L (.call ⟨.builtin .append,#[x,y],#[t,t]⟩))=true:=hq
   simp[o4,oi] at h1
 ·have h2:(hvB tb ⟨.builtin .append,#[x,y],#[t,t]⟩||cpB tb ⟨.builtin .append,#[x,y],#[t,t]⟩)=false:=h
  rw[href,Bool.or_true] at h2
  cases h2
end
end
section
section
variable {P:Program} {tb:TypeId→Option TyE} {md:Md} {B:Nat} {hp hp':Hp} {g:Gh} {w w':World} {d:D} {v:Value}
theorem appN(tok:TOk P tb){ev:Operand→D}{dst:Option Tmp}{ty:TypeId}{pos:String}{af:Array Edge}{gd:Option (Nat×Bool)}{t e:TypeId}{ti j:TyE}{x y:Operand}{ky:Nat}{news:List D}(ht:tb t=some ti)(he:tb e=some j)(hy:hp.vars.lookup ky=some news)(hx:ev x=.e (.lit (.slice none 0 0)))(RU:ev y=.gw ky j.size 1)(La:news.length=j.size)(hb:1*max 1 j.bytes≤140737488355328)
  (xN:ti.ty=.slice e:=by exact rfl) (hz:Nat.ble 1 j.size=true:=by exact rfl):
  mG P tb md ⟨dst,.call ⟨.builtin .append,#[x,y],#[t,t]⟩,ty,pos,af,gd⟩ ev hp (.gw hp.next j.size 1) (hp.var news):=by
 have hz:=bc hz
 refine⟨.step fun B g w a hr xL=>?_,fun hq=>?_,fun _=>⟨jo _,fun j hj=>am (by omega)⟩,fun h=>by cases h⟩
 ·have h1:=xL x (cK (by simp))
  have h2:=xL y (cK (by simp))
  rw[hx] at h1
  rw[RU] at h2
  have h1:=h1.lit
  obtain⟨y1,y2,y3,ys,yt,y4,y5,y6⟩:=hr.var ky news hy
  generalize R0:a.eval y=v2 at h2
  cases h2 with
  |gw _ _ _ c hkn2 hnc2 hcm2 K9=>
  obtain⟨f,zz,Qo,N4,Cs,N3,hf4,_⟩:=tok.inf he
  have hu:=tok.slice ht xN
  have hzs:zz.cells.size=j.size:=by
   have h4:=(tok e j he).2.2.1
   rw[←iF,hf4,h4]
  have um:f.bytes≤140737488355328:=by rw[Cs];omega
  have sv:∀i u,(ys.toList.take j.size)[i]? =some u→w.cell? ((⟨g.μ ky,0,none⟩:Addr).add i)=some u:=fun i u hu=>by
   rw[gz] at hu
   split at hu
   ·rw[Addr.add_lit]
    simpa[World.cell?,y4] using hu
   ·cases hu
  have Ar:(ys.toList.take j.size).length=j.size:=by rw[ee,iF];omega
  have bW:=run_append_nil (P:=P) w t ty e f zz hu Qo N3 ⟨g.μ ky,0,none⟩ 1 c (ys.toList.take j.size) (by rw[N4,Ar];omega) sv (by omega) (by omega) (by omega)
  have vd:=grownCap_ge w 1 0 e
  have hold:∀c,c<w.heap.size→(w.drew.alloc (.cells ((ys.toList.take j.size).toArray++Builtin.zeroCells zz.cells (grownCap w 1 0 e - 1)) e)).heap[c]? =w.heap[c]? :=fun c hc=>heap_alloc_old w.drew _ hc
  have Cr:=heap_alloc_new w.drew (.cells ((ys.toList.take j.size).toArray++Builtin.zeroCells zz.cells (grownCap w 1 0 e - 1)) e)
  have mo:=cE.addVar (w:=w) (w':=w.drew.alloc (.cells ((ys.toList.take j.size).toArray++Builtin.zeroCells zz.cells (grownCap w 1 0 e - 1)) e)) hp g news (b:=w.heap.size) (by simp) hold (ay _)
  have hsz:((ys.toList.take j.size).toArray++Builtin.zeroCells zz.cells (grownCap w 1 0 e - 1)).size=grownCap w 1 0 e*j.size:=by
   simp only[KH,rK,size_zeroCells,hzs,Ar]
   have:grownCap w 1 0 e=1+(grownCap w 1 0 e - 1):=by omega
   rw[this,bU,eT]
   congr 2
   omega
  have h1z:1*j.size≤grownCap w 1 0 e*j.size:=cG _ vd
  refine⟨.slice (some ⟨w.heap.size,0,none⟩) 1 (grownCap w 1 0 e),g.var hp.next w.heap.size,_,?_,hr.addVar news (w':=w.drew.alloc (.cells ((ys.toList.take j.size).toArray++Builtin.zeroCells zz.cells (grownCap w 1 0 e - 1)) e)) (by simp) hold (ay _) _ e Cr (by rw[hsz,La];omega) (fun i u hu=>?_),mo,?_,⟨rfl,rfl,rfl,by simp,fun c hc=>hold c (bG hc hr.base)⟩,fun p h5 h6=>.inl h6⟩
  ·simp only[execOp,Array.map_map,al_5,j4,m9,resolve,invoke,builtin,h1,R0,Sem.run_bind]
   simp[resolve,invoke,builtin,h1,R0,bW]
  ·have FT:i<news.length→ys[i]? =some u:=fun hi=>by
    have vz:i<(ys.toList.take j.size).toArray.size:=by rw[rK,Ar];omega
    rw[MD vz,ED,gz,ai (by omega)] at hu
    simpa using hu
   exact⟨fun hi=>(y6 i u (FT hi)).1 hi,fun d hd=>((y6 i u (FT (fy.1 hd).1)).2 d hd).mono mo⟩
  ·have IU:(g.var hp.next w.heap.size).μ hp.next=w.heap.size:=ai rfl
   have:=aE.gw (hp:=hp.var news) (g:=g.var hp.next w.heap.size) (w:=w.drew.alloc (.cells ((ys.toList.take j.size).toArray++Builtin.zeroCells zz.cells (grownCap w 1 0 e - 1)) e)) hp.next j.size 1 (grownCap w 1 0 e) (eo _) vd (grownCap_le_maxLen w 1 0 e (by decide)) ⟨_,e,(0,0),by rw[IU];exact Cr,by rw[hsz];exact ay _⟩
   rwa[IU] at this
 ·exfalso
  cases md with
  |seq=>cases hq
  |any L=>
   have h1:((o4 (.call ⟨.builtin .append,#[x,y],#[t,t]⟩)&&!LG tb (.call ⟨.builtin .append,#[x,y],#[t,t]⟩))||oi tb L (.call ⟨.builtin .append,#[x,y],#[t,t]⟩))=true:=hq
   simp[o4,oi] at h1
def Fv(hp:Hp)(g:Gh):Addr→Prop:=fun p=>g.F p∧∀k ds,hp.vars.lookup k=some ds→g.μ k≠p.block
def AR(hp:Hp)(d d':D):Prop:=∀(B:Nat) (g:Gh) (w:World) (v:Value),HR B hp g w→aE hp g w d v→lE w (Fv hp g) d' v
theorem AR.data(h:d.ex.pure=true):AR hp d d.ex:=fun _ _ _ _ _ hd=>(hd.xport h).less fun _ hp=>hp.1
theorem AR.sl {k z n off:Nat}{F:List E}(hv:hp.vars.lookup k=some (dC F))(hz:0<z)(hl:off+n*z≤F.length):AR hp (.ow k off z n) (.e (.sl z n ((F.drop off).take (n*z)))):=by
 intro B g w v hr hd
 obtain⟨h1,h2,h3,cs,ty,h4,h5,h6⟩:=hr.var k _ hv
 rw[er] at h5
 cases hd with
 |ow _ _ _ _ c hk p9 oR=>
  refine .e _ _ (.sl z n _ (some ⟨g.μ k,off,none⟩) c (fun i=>cs.getD (off+i) undef) (by rw[ee,eV];omega) hz p9 oR (fun _=>⟨_,rfl,(oD.1 h4).1⟩) (fun ad ha i e hi=>?_) (fun i e hi=>?_))
  ·injection ha with ha
   subst ha
   have vz:i<n*z:=by
    have:=(fy.1 hi).1
    rw[ee] at this;omega
   have Qp:(⟨g.μ k,off,none⟩:Addr).add i=⟨g.μ k,off+i,none⟩:=by unfold Addr.add;split <;> simp_all
   refine⟨?_,fun hf=>hf.2 k _ hv (by rw[f4])⟩
   rw[Qp]
   have bH:off+i<cs.size:=by omega
   simp[World.cell?,h4,eK,bH]
  ·have vz:i<n*z:=by
    have:=(fy.1 hi).1
    rw[ee] at this;omega
   have bH:off+i<cs.size:=by omega
   rw[gz,ai vz,na] at hi
   have hu:=h6 (off+i) (cs.getD (off+i) undef) (by simp[eK,bH])
   have:=hu.2 (.e e) (by unfold dC;rw[dQ,hi];rfl)
   cases this with
   |e _ _ h7=>exact h7.less fun p hp=>hp.1
theorem AR.gw {k z n:Nat}{F:List E}(hv:hp.vars.lookup k=some (dC F))(hz:0<z)(hl:F.length=n*z):AR hp (.gw k z n) (.e (.sl z n F)):=by
 intro B g w v hr hd
 have:=AR.sl (off:=0) hv hz (n:=n) (by omega) B g w v hr hd.toOw
 rwa[qu,gU (by omega)] at this
def ARs(hp:Hp):List D→List D→Prop
 |[],[]=>True
 |d::ds,e::es=>AR hp d e∧ARs hp ds es
 |_,_=>False
theorem ARs.get:∀{ds es:List D},ARs hp ds es→ds.length=es.length∧∀(j:Nat) (e:D),es[j]? =some e→∃d,ds[j]? =some d∧AR hp d e
 |[],[],_=>⟨rfl,fun j e h=>by simp at h⟩
 |d::ds,e::es,⟨h1,h2⟩=>by
  obtain⟨h3,h4⟩:=ARs.get h2
  refine⟨by simp[h3],fun j x hx=>?_⟩
  cases j with
  |zero=>simp at hx;subst hx;exact⟨d,rfl,h1⟩
  |succ j=>exact h4 j x (by simpa using hx)
 |[],_::_,h=>h.elim
 |_::_,[],h=>h.elim
theorem AR.ag {ds es:List D}(h:ARs hp ds es):AR hp (.ag ds) (.ag es):=by
 intro B g w v hr hd
 obtain⟨h1,h2⟩:=h.get
 cases hd with
 |ag _ cs hl ho LT=>
  refine .ag es cs (by omega) ho fun j e u hj hu=>?_
  obtain⟨d,h3,h4⟩:=h2 j e hj
  exact h4 B g w u hr (LT j d u h3 hu)
def D.flatC:D→Bool
 | .e (.lit _)=>true
 |_=>false
def D.flat1:D→Bool
 | .ag ds=>ds.all D.flatC
 |d=>d.flatC
def D.flat:D→Bool
 | .tu ds=>ds.all D.flat1
 |d=>d.flat1
theorem J5 {F:Addr→Prop}(h:lE w F d v)(hf:d.flatC=true)(hp:Hp)(g:Gh)(w':World):aE hp g w' d v:=by
 cases h with
 |e x v h=>
  cases x with
  |lit u=>cases h with|lit _ ho=>exact .e _ _ (.lit _ ho)
  |_=>cases hf
 |_=>cases hf
theorem J6 {F:Addr→Prop}(h:lE w F d v)(hf:d.flat1=true)(hp:Hp)(g:Gh)(w':World):aE hp g w' d v:=by
 cases d with
 |ag ds=>
  cases h with
  |ag _ cs hl ho LT=>exact .ag ds cs hl ho fun j d u hj hu=>J5 (LT j d u hj hu) (a7.1 hf d (dZ hj)) hp g w'
 |_=>exact J5 h hf hp g w'
theorem flat_to {F:Addr→Prop}(h:lE w F d v)(hf:d.flat=true)(hp:Hp)(g:Gh)(w':World):aE hp g w' d v:=by
 cases d with
 |tu ds=>
  cases h with
  |tu _ cs hl LT=>exact .tu ds cs hl fun j d u hj hu=>J6 (LT j d u hj hu) (a7.1 hf d (dZ hj)) hp g w'
 |_=>exact J6 h hf hp g w'
theorem Fv_fits(hr:HR B hp g w):∀p:Addr,Fv hp g p→p.block<w.heap.size:=fun p h=>hr.fits p h.1
theorem GR {f:FuncId}{ds ds':List D}{r:D}(hc:ar P f ds' r)(ha:ARs hp ds ds'){vs:Array Value}(hr:HR B hp g w)(hsz:vs.size=ds.length)(cM:∀(j:Nat) (d:D) (u:Value),ds[j]? =some d→vs[j]? =some u→aE hp g w d u):
  Calls P f vs w fun e w'=>∃v,e=.returned v∧vI w.heap.size (Fv hp g) w' r v∧Below w.heap.size w w':=by
 obtain⟨h1,h2⟩:=ha.get
 refine hc.2 w _ vs (Fv_fits hr) (by omega) fun j e u hj hu=>?_
 obtain⟨d,h3,h4⟩:=h2 j e hj
 exact h4 B g w u hr (cM j d u h3 hu)
theorem HC.frz {f:FuncId}{ds ds':List D}{r:D}(hc:ar P f ds' r)(ha:ARs hp ds ds')(hf:r.flat=true):HC P f ds hp r hp:=by
 refine⟨hc.1,fun B g w vs hr hsz cM=>(GR hc ha hr hsz cM).mono ?_⟩
 rintro e w' ⟨v,rfl,pR,hb⟩
 have R8:lE w' (Fv hp g) r v:=by
  unfold vI at pR
  split at pR
  ·cases hf
  ·exact pR
 exact⟨v,g,rfl,hr.keep hb.size hb.block,cE.keep hp g hb.size hb.block,flat_to R8 hf hp g w',hb.mono hr.base,fun _ _ h=>h⟩
def E.isLit:E→Bool
 | .lit _=>true
 |_=>false
theorem HC.adopt {f:FuncId}{ds ds':List D}{e z n:Nat}{xs:List E}(hc:ar P f ds' (.own e z n xs))(ha:ARs hp ds ds')(hn:0<n)(hx:xs.all E.isLit=true):HC P f ds hp (.gw hp.next z n) (hp.var (dC xs)):=by
 refine⟨hc.1,fun B g w vs hr hsz cM=>(GR hc ha hr hsz cM).mono ?_⟩
 rintro en w' ⟨v,rfl,⟨hz,⟨us,ho⟩,pR⟩,hb⟩
 rcases ho.2 with⟨rfl,rfl⟩|⟨b,cap,cur,rfl,hB,hh,p9,oR,oH,htk⟩
 ·omega
 have Bf:xs.length=n*z:=by cases pR with|sl _ _ _ _ _ _ hl=>exact hl
 have NS:=ho.1
 have Sk:n*z≤cap*z:=cG _ p9
 have mo:=cE.addVar hp g (dC xs) hb.size hb.block hB
 have IU:(g.var hp.next b).μ hp.next=b:=ai rfl
 have cells:∀(i:Nat) (u:Value),cur[i]? =some u→∀x,xs[i]? =some x→∃y,x=.lit y∧u=y∧y.oneCell'=true:=fun i u hu x hxi=>by
  have hlit:x.isLit=true:=a7.1 hx x (dZ hxi)
  cases pR with
  |sl _ _ _ _ _ us2 _ _ _ _ hA DP LT=>
   obtain⟨h5,_⟩:=DP _ rfl i x hxi
   have h6:w'.cell? ((⟨b,0,none⟩:Addr).add i)=cur[i]? :=by rw[Addr.add_lit];simp[World.cell?,hh]
   rw[h6,hu] at h5
   injection h5 with h5
   have h7:=LT i x hxi
   rw[←h5] at h7
   cases x with
   |lit y=>cases h7 with|lit _ ho=>exact⟨_,rfl,rfl,ho⟩
   |_=>cases hlit
 refine⟨_,g.var hp.next b,rfl,hr.addVar (dC xs) hb.size hb.block hB cur e hh (by rw[er,Bf,oH];exact Sk) (fun i u hu=>⟨fun hi=>?_,fun d hd=>?_⟩),mo,?_,hb.mono hr.base,fun p _ h=>.inl h⟩
 ·rw[er] at hi
  obtain⟨y,_,rfl,h⟩:=cells i u hu xs[i] (cz hi)
  exact h
 ·unfold dC at hd
  rw[dQ] at hd
  obtain⟨x,GB,rfl⟩:=xX.1 hd
  obtain⟨y,rfl,rfl,h⟩:=cells i u hu x GB
  exact .e _ _ (.lit _ h)
 ·have:=aE.gw (hp:=hp.var (dC xs)) (g:=g.var hp.next b) (w:=w') hp.next z n cap (eo _) p9 oR ⟨cur,e,(0,0),by rw[IU];exact hh,by omega⟩
  rwa[IU] at this
end
end
section
section
variable {P:Program} {tb:TypeId→Option TyE} {md:Md} {hp hp':Hp} {d:D} {dst:Option Tmp} {ty:TypeId} {pos:String} {af:Array Edge} {gd:Option (Nat×Bool)} {ev:Operand→D}
theorem opHC {x:Operand}{f:FuncId}{aS:List Operand}{ts:Array TypeId}{ds:List D}(zW:ev x=.e (.lit (.func (.func f) #[] #[])))(hc:HC P f ds hp d hp')(hd:aS.map ev=ds):qI P ⟨dst,.call ⟨.value x,aS.toArray,ts⟩,ty,pos,af,gd⟩ ev hp d hp':=by
 intro B g w a Kn Q hr hx w8
 subst hd
 obtain⟨⟨fn,hf,hn,BY⟩,zX⟩:=hc
 have hv:=hx x (by simp[Op.operands,Call.operands])
 rw[zW] at hv
 have hv:=hv.lit
 have t4:=zX B g w (aS.map a.eval).toArray hr (by simp) (fun j d u hd hu=>by
  rw[dQ] at hd
  obtain⟨y,hy,rfl⟩:=xX.1 hd
  have va:(aS.map a.eval)[j]? =some u:=by simpa using hu
  rw[dQ,hy] at va
  injection va with va
  subst va
  exact hx y (cK (by simpa using dZ hy)))
 refine DZ (R:=fun v w'=>∃g',HR B hp' g' w'∧cE hp g w hp' g' w'∧aE hp' g' w' d v∧Below B w w'∧∀p:Addr,p.block<B→g.F p→g'.F p) ?_ (t4.mono ?_) ?_
 ·have hn' : fn.name ≠ "runtime.NumGoroutine" := by simpa using hn
  have oL:¬fn.body=none:=fun e=>by rw[e] at BY;cases BY
  have hcf:(callFunc f (aS.map a.eval).toArray).run P w=.ok (.enter f (aS.map a.eval).toArray) w:=by
   simp[callFunc,hf,hn',oL]
  rw[←hcf]
  simp[execOp,resolve,invoke,Deferred.ofValue,hv]
 ·rintro e w' ⟨v,g',rfl,h1⟩
  exact⟨v,rfl,g',h1⟩
 ·rintro v w' ⟨g',h1,h2,h3,h4,h5⟩
  exact w8 v g' w' h1 h2 h3 h4 h5
theorem opHF {x:Operand}{f:FuncId}{ks:List Nat}{aS:List Operand}{ts:Array TypeId}{ds:List D}(zW:ev x=.fn f ks)(hc:HC P f ds hp d hp')(hd:aS.map ev++ks.map (fun k=>D.pt k 0)=ds):qI P ⟨dst,.call ⟨.value x,aS.toArray,ts⟩,ty,pos,af,gd⟩ ev hp d hp':=by
 intro B g w a Kn Q hr hx w8
 subst hd
 obtain⟨⟨fn,hf,hn,BY⟩,zX⟩:=hc
 have hv:=hx x (by simp[Op.operands,Call.operands])
 rw[zW] at hv
 generalize hu0:a.eval x=u0 at hv
 cases hv with
 |fn _ _ hks=>
 have t4:=zX B g w (aS.map a.eval++ks.map fun k=>Value.pointer (some ⟨g.μ k,0,none⟩)).toArray hr (by simp) (fun j d u hd hu=>by
  have va:(aS.map a.eval++ks.map fun k=>Value.pointer (some ⟨g.μ k,0,none⟩))[j]? =some u:=by simpa using hu
  rcases d6 j aS.length with hj|hj
  ·rw[Ag (by simpa using hj),dQ] at hd va
   obtain⟨y,hy,rfl⟩:=xX.1 hd
   rw[hy] at va
   injection va with va
   subst va
   exact hx y (cK (by simpa using dZ hy))
  ·rw[qm (by simpa using hj),dQ] at hd va
   obtain⟨k,hk,rfl⟩:=xX.1 hd
   simp only[bh] at hk va
   rw[hk] at va
   injection va with va
   subst va
   exact .pt k 0 (hks k (dZ hk)))
 refine DZ (R:=fun v w'=>∃g',HR B hp' g' w'∧cE hp g w hp' g' w'∧aE hp' g' w' d v∧Below B w w'∧∀p:Addr,p.block<B→g.F p→g'.F p) ?_ (t4.mono ?_) ?_
 ·have hn' : fn.name ≠ "runtime.NumGoroutine" := by simpa using hn
  have oL:¬fn.body=none:=fun e=>by rw[e] at BY;cases BY
  have hcf:(callFunc f (aS.map a.eval++ks.map fun k=>Value.pointer (some ⟨g.μ k,0,none⟩)).toArray).run P w=.ok (.enter f (aS.map a.eval++ks.map fun k=>Value.pointer (some ⟨g.μ k,0,none⟩)).toArray) w:=by
   simp[callFunc,hf,hn',oL]
  have ve:(aS.map a.eval++ks.map fun k=>Value.pointer (some ⟨g.μ k,0,none⟩)).toArray=aS.toArray.map a.eval++(ks.map fun k=>Value.pointer (some ⟨g.μ k,0,none⟩)).toArray:=by apply oq.1;simp
  rw[←hcf,ve]
  simp[execOp,resolve,invoke,Deferred.ofValue,hu0]
 ·rintro e w' ⟨v,g',rfl,h1⟩
  exact⟨v,rfl,g',h1⟩
 ·rintro v w' ⟨g',h1,h2,h3,h4,h5⟩
  exact w8 v g' w' h1 h2 h3 h4 h5
theorem sndOf {c:Call}{x:Operand}(DP:c.callee=.value x)(h:qI P ⟨dst,.call c,ty,pos,af,gd⟩ ev hp d hp')(hfr:hvB tb c=true∨Fr hp hp')(hn:md.nc tb (.call c)=true):mG P tb md ⟨dst,.call c,ty,pos,af,gd⟩ ev hp d hp':=by
 refine⟨h,fun hq=>?_,fun hv=>?_,fun h=>by cases h⟩
 ·exfalso
  cases md with
  |seq=>cases hq
  |any L=>
   have h1:((o4 (.call c)&&!LG tb (.call c))||oi tb L (.call c))=true:=hq
   have h2:(!oi tb L (.call c))=true:=hn
   rw[BB] at h2
   rw[h2,Bool.or_false] at h1
   simp[o4,DP] at h1
 ·rcases hfr with h1|h1
  ·have h2:(hvB tb c||cpB tb c)=false:=hv
   rw[h1] at h2;cases h2
  ·exact h1
theorem sHC {x:Operand}{f:FuncId}{aS:List Operand}{ts:Array TypeId}{ds:List D}(hc:HC P f ds hp d hp')(hd:aS.map ev=ds)(hfr:hvB tb ⟨.value x,aS.toArray,ts⟩=true∨Fr hp hp')(zW:ev x=.e (.lit (.func (.func f) #[] #[])):=by exact rfl)(hn:md.nc tb (.call ⟨.value x,aS.toArray,ts⟩)=true:=by exact rfl):
  mG P tb md ⟨dst,.call ⟨.value x,aS.toArray,ts⟩,ty,pos,af,gd⟩ ev hp d hp':=sndOf rfl (opHC zW hc hd) hfr hn
theorem sHF {x:Operand}{f:FuncId}{ks:List Nat}{aS:List Operand}{ts:Array TypeId}{ds:List D}(hc:HC P f ds hp d hp')(hd:aS.map ev++ks.map (fun k=>D.pt k 0)=ds)(zW:ev x=.fn f ks:=by exact rfl)(hfr:hvB tb ⟨.value x,aS.toArray,ts⟩=true:=by exact rfl)(hn:md.nc tb (.call ⟨.value x,aS.toArray,ts⟩)=true:=by exact rfl):
  mG P tb md ⟨dst,.call ⟨.value x,aS.toArray,ts⟩,ty,pos,af,gd⟩ ev hp d hp':=sndOf rfl (opHF zW hc hd) (.inl hfr) hn
end
structure Pt(F:List D)(o:Nat)(bs:List D)(F':List D→List D):Prop where
 le:o+bs.length≤F.length
 g:(F.drop o).take bs.length=bs
 p:∀ys:List D,ys.length=bs.length→F.take o++ys++F.drop (o+bs.length)=F' ys
theorem Pt.of {F bs:List D}{o:Nat}{F':List D→List D}(A C:List D)(hA:A.length=o)(hF:F=A++bs++C)(hp:∀y,F' y=A++y++C):Pt F o bs F':=by
 subst hA hF
 refine⟨by simp only[cu];omega,?_,fun y hy=>?_⟩
 ·rw[c0,ta,vh]
 ·rw[hp,c0 A bs C,vh,←qr,ta,ta]
section
variable {P:Program} {tb:TypeId→Option TyE} {dr:Bool} {ty:TypeId} {ev:Operand→D} {hp:Hp} {k o:Nat} {F bs:List D} {F':List D→List D} {t:TypeId} {i:TyE} {x y:Operand} {d:D}
theorem Ch(L:Pt F o bs F')(hv:hp.vars.lookup k=some F)(hk:k<hp.next)(ht:tb t=some i)(hz:bs.length=i.size)(hg:i.ty.agg=true:=by exact rfl)(hx:ev x=.pt k o:=by exact rfl):AVC P tb dr (.load t x) ty ev hp (Kq (.ag bs) hp):=by
 rw[qG,hx,n7,ht,hv]
 simp only[hg]
 refine⟨hk,by rw[←hz];exact L.le,?_⟩
 rw[←hz,L.g]
 exact Kq.here _ _
theorem ka(L:Pt F o [d] F')(hv:hp.vars.lookup k=some F)(hk:k<hp.next)(ht:tb t=some i)(hg:i.ty.agg=false:=by exact rfl)(hx:ev x=.pt k o:=by exact rfl):AVC P tb dr (.load t x) ty ev hp (Kq d hp):=by
 rw[qG,hx,n7,ht,hv]
 simp only[hg]
 refine⟨hk,d,?_,Kq.here _ _⟩
 have h:=L.g
 have hle:=L.le
 have:((F.drop o).take 1)[0]? =some d:=by rw[show (1:Nat)=[d].length from rfl,h];rfl
 rw[gz,ai (by omega),na,iB] at this
 exact this
theorem G1 {ys F2:List D}{hp':Hp}(L:Pt F o bs F')(hv:hp.vars.lookup k=some F)(hyc:(ev y).cells=some ys)(ht:tb t=some i)(hz:bs.length=i.size)(hl:ys.length=bs.length)(h2:F' ys=F2)(hx:ev x=.pt k o:=by exact rfl)(he:hp.set k F2=hp':=by exact rfl):AVC P tb dr (.store t x y) ty ev hp (Kq .top hp'):=by
 subst he h2
 rw[Ef,hx,AH,ht,hv,hyc]
 simp only
 refine⟨by omega,by rw[←hz];exact L.le,?_⟩
 rw[hl,L.p ys hl]
 exact Kq.here _ _
end
end
def au:Cd Nu:=⟨36,fun x=>al.f x.1,fun x=>al.h x.1⟩
theorem w_Add(x y:Nu):ar prog 66 [dG au x,dG au y] (dG au (jA x y)):=by rw[pP];exact v7 (Nb x.2 y.2)
theorem w_Mul(x y:Nu):ar prog 29 [dG au x,dG au y] (dG au (lQ x y)):=by rw[rh];exact v6 (Na x.2 y.2)
theorem w_Sub(x y:Nu):ar prog 76 [dG au x,dG au y] (dG au (HA x y)):=by rw[RA];exact Jg (G_osub x.2 y.2)
theorem QH(x y:Nu):ar prog 153 [dG au x,dG au y] (dG au (nV x y)):=by rw[Dq];exact Jh (G_odiv x.2 y.2)
theorem Jj(x:Nu):ar prog 42 [dG au x] (dG au (eR x)):=by rw[zK];exact v5 (M9 x.2)
theorem FB(n:Int)(h:-2≤n∧n≤2):ar prog 28 [dI .i64 n] (dG au (nOf n)):=C3 (G_rOf (by omega) (by omega))
theorem yj(x:Nu):ar prog 30 [dG au x] (dI .i64 (bI x)):=by rw[AV];exact ub (UO x.2)
theorem w_Good(x:Nu):ar prog 92 [dG au x] (dB (aw x)):=by rw[ez];exact b9 (iD x.2)
theorem w_Cmp(x y:Nu):ar prog 32 [dG au x,dG au y] (dI .i64 (pN x y)):=by rw[Dr];exact se (UP x.2 y.2)
structure yV where
 vk:ao
 vc:List ao
 deriving Inhabited,DecidableEq
def s6:Cd yV:=⟨37,fun x=>al.f x.vk++[slE al x.vc],fun x=>by simp[al.h,show al.sz=36 from rfl]⟩
theorem LE(x:yV):bT (s6.f x) al 0 x.vk (fun y=>s6.f (⟨y,x.vc⟩:yV)):=
 bT.of ([]) (((cL al)).f x.vc) (by first|rfl|(simp[(cL al).h,al.h];first|rfl|done)) (by first|rfl|simp[s6,cI,cB,cS,cL,c0]) (fun y=>by first|rfl|simp[s6,cI,cB,cS,cL,c0])
theorem LF(x:yV):bT (s6.f x) (cL al) 36 x.vc (fun y=>s6.f (⟨x.vk,y⟩:yV)):=
 bT.of ((al).f x.vk) ([]) (by first|rfl|(simp[(cL al).h,al.h];first|rfl|done)) (by first|rfl|simp[s6,cI,cB,cS,cL,c0]) (fun y=>by first|rfl|simp[s6,cI,cB,cS,cL,c0])
def ir(aX:ao):Option Bool:=bnd (aU aX) fun x1=>some (!x1)
theorem yg {aX:ao}{r:Bool}(h:ir aX=some r):ar prog 120 [dG al aX] (dB r):=by
 refine bj (rs:=[.tmp 2]) (fun cx hx h0=>?_) func120
 unfold ir at h
 refine ra hx ?_
 refine rs hx fun K hK=>?_
 refine mbr ?_
 refine scb h b9 fun x1 h=>?_
 refine nbr hK ?_
 exact AW.ret (rtv h)
def aI(vr:List ao):Int→Option (Int⊕(Int⊕Unit)):=fun aD=>cnd (decide (aD<((vr).length:Int))) (gd (0≤aD∧aD<((vr).length:Int)) (bnd (ir ((vr)[(aD).toNat]!)) fun x4=>cnd x4 (some (.inr (.inl aD))) (some (.inl (i64.wrap (aD+(1:Int))))))) (some (.inr (.inr ())))
def aS(vr:List ao):Option Int:=bnd (bt (aI vr) (0:Int)) fun y7=>match y7 with| .inl r=>some r| .inr ()=>some (-1:Int)
theorem ie {vr:List ao}{r:Int}(h:aS vr=some r):ar prog 106 [dL al vr,.e (.lit (.func (.func 120) #[] #[]))] (dI .i64 r):=by
 refine bj (rs:=[.tmp 4]) (fun cx hx h0=>?_) func106
 unfold aS at h
 refine ra hx ?_
 refine AW.seq (ra hx ?_)
 refine AW.block ?_
 obtain⟨y,hy,h⟩:=ae h
 refine lp (S:=Int) (X:=Int⊕Unit) (fun aD=>[(0,dL al vr),(1,.e (.lit (.func (.func 120) #[] #[]))),(7,dI .i64 ((vr).length:Int)),(8,dI .i64 aD)]) (fun aD=>⟨[],[],0⟩) (PS (PR [.tmp 4] fun r=>dI .i64 r) (PE cx (.exit 0) (fun ()=>[]) fun ()=>⟨[],[],0⟩)) hy ?_ ?_ ?_
 exact wk0 h0 []
 clear hy h
 rintro aD y h
 dsimp only[aI] at h
 refine ra hx ?_
 refine AW.seq (cdh h rfl (fun fR h=>?_) (fun fR h=>?_))
 refine AW.skip (AW.seq (AW.block (ra hx ?_)))
 refine rs hx fun K hK=>?_
 iterate 3 refine sa ?_
 obtain⟨qC,h⟩:=az h
 have xw:(aD).toNat<(vr).length:=by omega
 refine sbr ?_
 refine s1 (d:=dG al ((vr)[(aD).toNat]!)) (kA (c:=al) (l:=vr) (n:=(aD).toNat) (o:=0) aT xw (fV _ _ rfl)) ?_
 refine scb h yg fun x4 h=>?_
 refine nl hK ?_
 refine cdh h rfl (fun qP h=>?_) (fun qP h=>?_)
 refine ra hx ?_
 refine AW.ret ?_
 cases h
 refine PS.r ⟨by nofun,PS.l (PR.i ?_)⟩
 exact rv1
 refine AW.skip (rb hx ?_)
 exact pel h h0 []
 exact AW.exit (peq h h0 [])
 rcases y with r|⟨⟩
 rintro ex tm' hp' ⟨rfl,hw⟩
 cases h
 exact hw
 refine lwr ?_
 refine ra hx ?_
 exact AW.ret (rtv h)
def aQ(vr:List ao):Option Bool:=bnd (aS vr) fun x1=>some (decide ((0:Int)≤x1))
theorem gH {vr:List ao}{r:Bool}(h:aQ vr=some r):ar prog 119 [dL al vr,.e (.lit (.func (.func 120) #[] #[]))] (dB r):=by
 refine bj (rs:=[.tmp 4]) (fun cx hx h0=>?_) func119
 unfold aQ at h
 refine ra hx ?_
 refine rs hx fun K hK=>?_
 refine mbr ?_
 refine scb h ie fun x1 h=>?_
 refine nbr hK ?_
 exact AW.ret (rtv h)
def cR(ek:List ao):Option Bool:=bnd (aQ ek) fun x1=>some (!x1)
theorem fC {ek:List ao}{r:Bool}(h:cR ek=some r):ar prog 62 [dL al ek] (dB r):=by
 refine bj (rs:=[.tmp 2]) (fun cx hx h0=>?_) func62
 unfold cR at h
 refine ra hx ?_
 refine rs hx fun K hK=>?_
 refine sa ?_
 refine scb h gH fun x1 h=>?_
 refine nbr hK ?_
 exact AW.ret (rtv h)
def jC(ek:yV):Option Bool:=bnd (S:=Bool) (bnd (aU ek.vk) fun x1=>cnd x1 (bnd (cR ek.vc) fun x4=>some (x4)) (some (false))) fun bo=>some bo
theorem xr {ek:yV}{r:Bool}(h:jC ek=some r):ar prog 109 [dG s6 ek] (dB r):=by
 refine bj (rs:=[.tmp 2]) (fun cx hx h0=>?_) func109
 unfold jC at h
 refine ra hx ?_
 refine AW.seq ?_
 obtain⟨bo,hy,h⟩:=ae h
 refine jn ((PE cx .normal (fun bo=>[(2,dB bo)]) fun bo=>⟨[],[],0⟩) bo) ?_ ?_
 replace h:=hy
 refine rq hx fun K hK=>?_
 refine sa ?_
 refine s1 (Ap (LE ek) aT) ?_
 refine scb h b9 fun x1 h=>?_
 refine sa ?_
 rcases aF h with⟨fQ,h⟩|⟨fQ,h⟩
 refine ga fQ ?_
 refine g1 fQ (wN (LF ek) ct) ?_
 refine gcb h fC fun x4 h=>?_
 refine nbr hK ?_
 exact pe1 h h0 []
 refine nbr hK ?_
 exact pe1 h h0 []
 refine lw0 ?_
 exact AW.ret (rtv h)
def nv(x:Nu):ao:=x.1
theorem Qc(x:Nu):ir (nv x)=some (!aw x):=by
 unfold ir nv
 rw[iD x.2,ez]
 rfl
theorem G_idx {c:List Nu}(h:c.length≤1000000):∃y,aS (c.map nv)=some y∧(0≤y↔c.all aw=false):=by
 have key:=u9 (b:=aI (c.map nv)) (fun i:Int=>0≤i∧i≤c.length∧∀j:Nat,j<i.toNat→∀x,c[j]? =some x→aw x=true) (fun i=>(c.length - i).toNat)
  (fun y=>match y with| .inl r=>0≤r∧c.all aw=false| .inr _=>c.all aw=true) (fun i ⟨h1,h2,h3⟩=>?_) 0 ⟨by omega,by omega,fun j hj=>absurd hj (by simp)⟩
 ·obtain⟨y,hy,hp⟩:=key
  unfold aS
  rw[hy]
  cases y with
  |inl r=>exact⟨r,rfl,fun _=>hp.2,fun _=>hp.1⟩
  |inr u=>exact⟨-1,rfl,fun h=>absurd h (by omega),fun h=>by rw[hp] at h;cases h⟩
 ·have hlen:((c.map nv).length:Int)=c.length:=by rw[bh]
  by_cases hi:i<c.length
  ·have FT:i.toNat<c.length:=by omega
   have f8:(c.map nv)[i.toNat]! =nv c[i.toNat]:=by rw[bJ _ _ (by rw[bh];exact FT),EF]
   have hb:aI (c.map nv) i=cnd (!aw c[i.toNat]) (some (.inr (.inl i))) (some (.inl (i64.wrap (i+(1:Int))))):=by
    unfold aI
    rw[hlen,cw _ _ hi,aC,f8,Qc]
    rfl
   cases hg:aw c[i.toNat] with
   |false=>
    refine .inr ⟨.inl i,by rw[hb,hg];rfl,h1,?_⟩
    rw[MK]
    exact⟨c[i.toNat],nA _,by rw[hg];simp⟩
   |true=>
    refine .inl ⟨i+1,by rw[hb,hg,eQ (by omega) (by omega)];rfl,⟨by omega,by omega,fun j hj x hx=>?_⟩,by omega⟩
    rcases d6 j i.toNat with h4|h4
    ·exact h3 j h4 x hx
    ·obtain rfl:j=i.toNat:=by omega
     rw[cz FT] at hx
     injection hx with hx
     rw[←hx];exact hg
  ·refine .inr ⟨.inr (),?_,a7.2 fun x hx=>?_⟩
   ·unfold aI
    rw[hlen,cg _ _ hi]
   ·obtain⟨j,hj⟩:=Af hx
    exact h3 j (by have:=(fy.1 hj).1;omega) x hj
theorem w_good(k:Nu)(c:List Nu)(h:c.length≤1000000):ar prog 109 [.ag (dC (au.f k)++[.e (slE au c)])] (dB (aw k&&c.all aw)):=by
 obtain⟨y,hy,DB⟩:=G_idx h
 have NY:jC ⟨k.1,c.map nv⟩=some (aw k&&c.all aw):=by
  unfold jC cR aQ
  dsimp only
  rw[iD k.2,hy]
  show _=some (aw k&&c.all aw)
  have e:(cm k.1).isSome=aw k:=(ez k).symm
  rw[e]
  cases hk:aw k with
  |false=>rfl
  |true=>
   by_cases h0:0≤y
   ·have:=DB.1 h0
    rw[this]
    simp[bnd,cnd,h0]
   ·have:c.all aw=true:=by
     cases hc:c.all aw with
     |true=>rfl
     |false=>exact absurd (DB.2 hc) h0
    rw[this]
    simp[bnd,cnd,h0]
 have hw:=xr NY
 have hd:dG s6 ⟨k.1,c.map nv⟩=.ag (dC (au.f k)++[.e (slE au c)]):=by
  show D.ag ((al.f k.1++[slE al (c.map nv)]).map D.e)=_
  have:slE al (c.map nv)=slE au c:=by
   unfold slE
   rw[bh,List.flatMap_map]
   rfl
  rw[this,jz]
  rfl
 rw[hd] at hw
 exact hw
def xA(q:Nu)(xc:List Nu)(but:Int):Nat→List Nu→List Nu
 |0,l=>l
 |t+1,l=>if (t:Int)=but then xA q xc but t l else (xA q xc but t l).set t (jA (xA q xc but t l)[t]! (lQ q xc[t]!))
theorem p7(q:Nu)(xc:List Nu)(but:Int):∀(t:Nat) (l:List Nu),(xA q xc but t l).length=l.length
 |0,l=>rfl
 |t+1,l=>by
  unfold xA
  split
  ·exact p7 q xc but t l
  ·rw[cU];exact p7 q xc but t l
def wK(q xk lk:Nu):Nu:=if bI q=0 then lk else jA lk (lQ q xk)
def tT(q:Nu)(xc:List Nu)(but:Int)(lc:List Nu):List Nu:=if bI q=0 then lc else xA q xc but lc.length lc
structure Row where
 k:Nu
 c:List Nu
 b:Int
instance:Inhabited Row:=⟨⟨default,[],0⟩⟩
structure Dic where
 rows:List Row
 gk:Nu
 gc:List Nu
 n:Int
 piv:Int
 most:Int
def fS(k:Nu)(c:List Nu):Bool:=aw k&&c.all aw
def lkO(d:Dic):Option Nat→Nu|none=>d.gk|some j=>d.rows[j]!.k
def lcO(d:Dic):Option Nat→List Nu|none=>d.gc|some j=>d.rows[j]!.c
def Lp(d:Dic)(o:Option Nat)(k:Nu)(c:List Nu):Dic:=match o with
 |none=>⟨d.rows,k,c,d.n,d.piv,d.most⟩
 |some j=>⟨d.rows.set j ⟨k,c,d.rows[j]!.b⟩,d.gk,d.gc,d.n,d.piv,d.most⟩
def QU(r1:Row)(s:Nat)(d:Dic)(o:Option Nat):Dic:=Lp d o (wK (lcO d o)[s]! r1.k (lkO d o)) (tT (lcO d o)[s]! r1.c s ((lcO d o).set s (nOf 0)))
def we(r1:Row)(s:Nat)(p:Dic×Bool)(o:Option Nat):Dic×Bool:=(QU r1 s p.1 o,p.2&&fS (wK (lcO p.1 o)[s]! r1.k (lkO p.1 o)) (tT (lcO p.1 o)[s]! r1.c s ((lcO p.1 o).set s (nOf 0))))
theorem tS(q:Nu)(xc:List Nu)(but:Int)(lc:List Nu):(tT q xc but lc).length=lc.length:=by
 unfold tT
 split
 ·rfl
 ·exact p7 _ _ _ _ _
def xu(at' i:Nat):List (Option Nat):=none::((List.range i).filter fun j=>decide (j≠at')).map some
theorem Rr {at' i:Nat}{o:Option Nat}(h:o∈xu at' i):o≠some at'∧∀j,o=some j→j<i:=by
 rcases kz.1 h with rfl|h
 ·exact⟨fun e=>(by cases e),fun j e=>(by cases e)⟩
 ·obtain⟨j,hj,rfl⟩:=tQ.1 h
  obtain⟨h1,h2⟩:=List.mem_filter.1 hj
  exact⟨fun e=>by injection e with e;simp[e] at h2,fun j' e=>by injection e with e;rw[←e];exact j7.1 h1⟩
def pO(r1:Row)(s at' i:Nat)(p:Dic×Bool)(u:Nat):Dic×Bool:=((xu at' i).take u).foldl (we r1 s) p
def si(p:Nu):Nat→List Nu→List Nu
 |0,l=>l
 |t+1,l=>(si p t l).set t (nV (eR (si p t l)[t]!) p)
theorem AD(p:Nu):∀(t:Nat) (l:List Nu),(si p t l).length=l.length
 |0,_=>rfl
 |t+1,l=>by unfold si;rw[cU];exact AD p t l
def aY(r:Row)(s:Nat):Row:=⟨nV (eR r.k) r.c[s]!,((si r.c[s]! r.c.length r.c).set s (nOf 0)).set r.b.toNat (nV (nOf 1) r.c[s]!),s⟩
def dH(d:Dic)(at' s:Nat):Int×Dic:=
 if d.most≤d.piv then (220,d) else
 let r1:=aY d.rows[at']! s
 let p:=pO r1 s at' d.rows.length (⟨d.rows.set at' r1,d.gk,d.gc,d.n,d.piv+1,d.most⟩,fS r1.k r1.c) (xu at' d.rows.length).length
 (if p.2 then 0 else 30,p.1)
def db(l:List Row)(v:Int):Int:=match l.findIdx? fun r=>decide (r.b=v) with
 |some i=>i
 |none=>-1
theorem PT {l:List Row}{v:Int}{i:Nat}{r:Row}(hr:l[i]? =some r)(h:r.b=v)(ms:∀(j:Nat) (r':Row),j<i→l[j]? =some r'→r'.b≠v):db l v=i:=by
 obtain⟨h1,h2⟩:=fy.1 hr
 have:l.findIdx? (fun r=>decide (r.b=v))=some i:=by
  rw[ox]
  exact⟨h1,by rw[h2];exact aA h,fun j hj=>by have:=ms j l[j] hj (cz (by omega));simpa using this⟩
 unfold db;rw[this]
theorem Mh {l:List Row}{v:Int}(ms:∀(j:Nat) (r':Row),l[j]? =some r'→r'.b≠v):db l v=-1:=by
 have:l.findIdx? (fun r=>decide (r.b=v))=none:=by
  rw[uE]
  intro r hr
  obtain⟨j,hj⟩:=Af hr
  exact bk (ms j r hj)
 unfold db;rw[this]
def bQ(d:Dic)(nn:Nat):List Nu:=(d.gc.drop (nn+1)).map eR
def rm(l:List Row)(s:Nat)(p:Int×Nu)(i:Nat):Option (Int×Nu):=
 let r:=l[i]!
 if 0≤bI r.c[s]! then some p else
 let q:=nV r.k (eR r.c[s]!)
 if aw q=false then none else
 if p.1<0∨pN q p.2<0∨(pN q p.2=0∧r.b<l[p.1.toNat]!.b) then some ((i:Int),q) else some p
def i8(l:List Row)(s:Nat)(z:Nu):Nat→Option (Int×Nu)
 |0=>some (-1,z)
 |i+1=>match i8 l s z i with
  |none=>none
  |some p=>rm l s p i
section
theorem iI(a:Nu):(dC (au.f a)).length=36:=by rw[er,au.h];rfl
section
variable {dr:Bool} {ty:TypeId} {ev:Operand→D} {hp hp':Hp} {k o:Nat} {F F2:List D} {F':List D→List D} {x y:Operand} {a b:Nu}
theorem ldN(L:Pt F o (dC (au.f a)) F')(hv:hp.vars.lookup k=some F)(hk:k<hp.next)(hx:ev x=.pt k o:=by exact rfl):AVC prog tbl dr (.load 43 x) ty ev hp (Kq (dG au a) hp):=Ch L hv hk aT (iI a) rfl hx
theorem stN(L:Pt F o (dC (au.f a)) F')(hv:hp.vars.lookup k=some F)(h2:F' (dC (au.f b))=F2)(hx:ev x=.pt k o:=by exact rfl)(hy:ev y=dG au b:=by exact rfl)(he:hp.set k F2=hp':=by exact rfl):AVC prog tbl dr (.store 43 x y) ty ev hp (Kq .top hp'):=
 G1 (ys:=dC (au.f b)) L hv (by rw[hy];rfl) aT (iI a) (by rw[iI,iI]) h2 hx he
theorem Pt.idN(a:Nu):Pt (dC (au.f a)) 0 (dC (au.f a)) id:=Pt.of [] [] rfl (by simp) (fun y=>by simp)
end
section
variable {vs vs2 oY:List (Nat×List D)} {lv:List (Nat×Nat×Nat×TypeId)} {N n2 k:Nat}
theorem ci.lt(hok:ci ⟨vs,lv,N⟩){ds:List D}(h:vs.lookup k=some ds):k<N:=(hok.var k ds h).1
theorem ci.ne(hok:ci ⟨vs,lv,N⟩){ds:List D}(h:vs.lookup k=some ds){m:Nat}(hm:N≤m):k≠m:=by have:=hok.lt h;omega
theorem ak {j m:Nat}{b:List D}{l:List (Nat×List D)}{r:Option (List D)}(hj:j≠m)(h:l.lookup j=r):((m,b)::l).lookup j=r:=(am hj).trans h
theorem Pt.ids {F bs:List D}{o:Nat}{F':List D→List D}(L:Pt F o bs F'){ys:List D}(hl:ys.length=bs.length)(hF:F.all (D.idsC N)=true)(hy:ys.all (D.idsC N)=true):(F' ys).all (D.idsC N)=true:=by
 rw[←L.p ys hl,lO,lO,cj,cj]
 have hF':=a7.1 hF
 exact⟨⟨a7.2 fun d hd=>hF' d (OA hd),hy⟩,a7.2 fun d hd=>hF' d (T2 hd)⟩
theorem ep(l:List E):(dC l).all (D.idsC N)=true:=Ic (fun _=>rfl) l
theorem leave {x:Cx}{tm tm':List (Nat×D)}{rs:List ResultVar}{r:D}(h0:x.hp0=⟨vs,lv,N⟩)(hok:ci ⟨vs,lv,N⟩)(hN:N≤n2)(ht:∀p∈tm',(∃d,tm.lookup p.1=some d∧(p.2=d∨p.2=d.ex))∧p.2.idsB N=true)
  (hv:∀j ds,oY.lookup j=some ds→(vs2.lookup j=some ds∧j<N∧ds.all (D.idsC N)=true)) (hr:te tbl rs tm' ⟨oY,lv,N⟩ r):∃tm',Wk x tm ⟨vs2,lv,n2⟩ tm' ⟨oY,lv,N⟩∧te tbl rs tm' ⟨oY,lv,N⟩ r:=by
 refine⟨tm',Wk.look (by rw[h0];exact ay _) hN ht (fun j ds h=>?_) (fun id y h=>⟨hok.tok id y h,h⟩),hr⟩
 obtain⟨h1,h2,h3⟩:=hv j ds h
 exact⟨h2,ds,h1,qK _,h3⟩
theorem RI {x:Cx}{tm:List (Nat×D)}{F F2:List D}(h0:x.hp0=⟨vs,lv,N⟩)(hok:ci ⟨vs,lv,N⟩)(hN:N≤n2)(hk:vs.lookup k=some F)(hF:F2.all (D.idsC N)=true)(R0:vs2.lookup k=some F2)(hv:∀j ds,j≠k→vs.lookup j=some ds→vs2.lookup j=some ds):
  ∃tm',Wk x tm ⟨vs2,lv,n2⟩ tm' ⟨(k,F2)::vs,lv,N⟩∧te tbl [] tm' ⟨(k,F2)::vs,lv,N⟩ (.tu []):=by
 refine leave (tm':=[]) h0 hok hN (fun p hp=>absurd hp (ql)) (fun j ds h=>?_) rfl
 by_cases hj:j=k
 ·subst hj
  have:some F2=some ds:=by rw[←h];exact aa.symm
  injection this with this
  subst this
  exact⟨R0,hok.lt hk,hF⟩
 ·have h1:vs.lookup j=some ds:=by rw[←h];exact (am hj).symm
  exact⟨hv j ds hj h1,hok.lt h1,(hok.var j ds h1).2⟩
theorem h_sum {o kq:Nat}{F:List D}{F':List D→List D}{q a y:Nu}(hk:vs.lookup k=some F)(hN:k<N)(L:Pt F o (dC (au.f a)) F')(hq:vs.lookup kq=some (dC (au.f q)))(hqN:kq<N):
  HC prog 156 [.pt k o,dG au y,.pt kq 0] ⟨vs,lv,N⟩ (.tu []) ⟨(k,F' (dC (au.f (jA a (lQ q y)))))::vs,lv,N⟩:=by
 refine HC.of (rs:=[]) tok func156 rfl rfl (bc rfl) rfl (fun cx hx h0 hok=>?_)
 simp only[fj,Nat.reduceAdd,bp]
 refine rs hx fun K hK=>?_
 refine sa ?_
 refine nl hK ?_
 have w8:=hok.ne hk (ay N)
 have hqn:=hok.ne hq (ay N)
 refine rqd [29,66] hx fun K hK=>?_
 iterate 3 refine sa ?_
 refine s1 (ldN L (ak w8 hk) (ya hN)) ?_
 refine s1 (ldN (Pt.idN q) (ak hqn hq) (ya hqN)) ?_
 refine s1 (ldN (Pt.idN y) aa (eo _)) ?_
 refine cq (w_Mul q y) ?_
 refine cq (w_Add a _) ?_
 refine sa ?_
 refine s0 (stN L (ak w8 hk) rfl) ?_
 refine nl hK ?_
 exact RI h0 hok (jo _) hk (L.ids (by rw[iI,iI]) (hok.var k F hk).2 (ep _)) aa fun j ds hj h=>ak hj (ak (hok.ne h (ay N)) h)
theorem SM {o kp:Nat}{F:List D}{F':List D→List D}{p a:Nu}(hk:vs.lookup k=some F)(hN:k<N)(L:Pt F o (dC (au.f a)) F')(hq:vs.lookup kp=some (dC (au.f p)))(hqN:kp<N):
  HC prog 152 [.pt k o,.pt kp 0] ⟨vs,lv,N⟩ (.tu []) ⟨(k,F' (dC (au.f (nV (eR a) p))))::vs,lv,N⟩:=by
 refine HC.of (rs:=[]) tok func152 rfl rfl (bc rfl) rfl (fun cx hx h0 hok=>?_)
 simp only[fj,Nat.reduceAdd,bp]
 refine rqd [42,153] hx fun K hK=>?_
 iterate 3 refine sa ?_
 refine s1 (ldN L hk hN) ?_
 refine cq (Jj a) ?_
 refine s1 (ldN (Pt.idN p) hq hqN) ?_
 refine cq (QH _ p) ?_
 refine sa ?_
 refine s0 (stN L hk rfl) ?_
 refine nl hK ?_
 exact RI h0 hok (ay _) hk (L.ids (by rw[iI,iI]) (hok.var k F hk).2 (ep _)) aa fun j ds hj h=>ak hj h
theorem ci.cons {M:Nat}{ds:List D}(hok:ci ⟨vs,lv,N⟩)(hN:N≤M)(hk:k<M)(hd:ds.all (D.idsC M)=true):ci ⟨(k,ds)::vs,lv,M⟩:=by
 refine⟨fun j es h=>?_,fun id e h=>bG (hok.tok id e h) hN⟩
 by_cases hj:j=k
 ·subst hj
  have:some ds=some es:=by rw[←h];exact aa.symm
  injection this with this
  subst this
  exact⟨hk,hd⟩
 ·obtain⟨h1,h2⟩:=hok.var j es (by rw[←h];exact (am hj).symm)
  exact⟨bG h1 hN,a7.2 fun d hd=>D.idsC_le hN (a7.1 h2 d hd)⟩
def bE(n:Nat)(tm tm':List (Nat×D)):Prop:=∀p∈tm',(∃d,tm.lookup p.1=some d∧(p.2=d∨p.2=d.ex))∧p.2.idsB n=true
theorem bE.nil {n:Nat}{tm:List (Nat×D)}:bE n tm []:=fun p hp=>absurd hp (ql)
theorem bE.cons {n t:Nat}{d:D}{tm tm':List (Nat×D)}(h2:bE n tm tm')(h:tm.lookup t=some d:=by exact rfl)(hi:d.idsB n=true:=by exact rfl):bE n tm ((t,d)::tm'):=fun p hp=>by
 rcases kz.1 hp with rfl|hp
 ·exact⟨⟨d,h,.inl rfl⟩,hi⟩
 ·exact h2 p hp
theorem wkS {x:Cx}{tm tm':List (Nat×D)}{n':Nat}(h0:x.hp0.next≤n')(hn:n'≤n2)(hok:ci ⟨oY,lv,n'⟩)(hv:∀j ds,oY.lookup j=some ds→vs2.lookup j=some ds)(ht:bE n' tm tm'):Wk x tm ⟨vs2,lv,n2⟩ tm' ⟨oY,lv,n'⟩:=
 Wk.look h0 hn ht (fun j ds h=>⟨(hok.var j ds h).1,ds,hv j ds h,qK _,(hok.var j ds h).2⟩) fun id y h=>⟨hok.tok id y h,h⟩
theorem wj {j:Nat}{a b:List D}{l:List (Nat×List D)}:((k,b)::(k,a)::l).lookup j=((k,b)::l).lookup j:=by
 by_cases hj:j=k
 ·subst hj;rw[aa,aa]
 ·rw[am hj,am hj,am hj]
theorem bY {j a:Nat}{x ds:List D}{l:List (Nat×List D)}(h:((a,x)::l).lookup j=some ds):(j=a∧ds=x)∨(j≠a∧l.lookup j=some ds):=by
 by_cases hj:j=a
 ·subst hj
  have:some x=some ds:=by rw[←h];exact aa.symm
  injection this with this
  exact .inl ⟨rfl,this.symm⟩
 ·exact .inr ⟨hj,by rw[←h];exact (am hj).symm⟩
theorem RF {x:Cx}{tm:List (Nat×D)}(h0:x.hp0=⟨vs,lv,N⟩)(hN:N≤n2)(hok:ci ⟨oY,lv,N⟩)(hv:∀j ds,oY.lookup j=some ds→vs2.lookup j=some ds):∃tm',Wk x tm ⟨vs2,lv,n2⟩ tm' ⟨oY,lv,N⟩∧te tbl [] tm' ⟨oY,lv,N⟩ (.tu []):=
 ⟨[],wkS (by rw[h0];exact ay _) hN hok hv bE.nil,rfl⟩
def aW(a:Nu)(kc n:Nat):List D:=dC (au.f a)++[.ow kc 0 36 n]
theorem bR(a:Nu)(kc n:Nat):(aW a kc n).length=37:=by unfold aW;rw[cu,iI];rfl
theorem iL {M:Nat}{a:Nu}{kc n:Nat}(h:kc<M):(aW a kc n).all (D.idsC M)=true:=by
 unfold aW;rw[lO,ep];simp[D.idsC,h]
structure oV(F:List D)(o:Nat)(a:Nu)(kc n:Nat)(A C:List D):Prop where
 len:A.length=o
 eq:F=A++aW a kc n++C
section
variable {F A C:List D} {o kc n:Nat} {a:Nu}
theorem oV.pk(h:oV F o a kc n A C):Pt F o (dC (au.f a)) (fun ys=>A++(ys++[.ow kc 0 36 n])++C):=
 Pt.of A ([.ow kc 0 36 n]++C) h.len (by rw[h.eq];unfold aW;simp only[c0]) fun y=>by simp only[c0]
theorem oV.pc(h:oV F o a kc n A C):Pt F (o+36) [.ow kc 0 36 n] (fun ys=>A++(dC (au.f a)++ys)++C):=
 Pt.of (A++dC (au.f a)) C (by rw[cu,h.len,iI]) (by rw[h.eq];unfold aW;simp only[c0]) fun y=>by simp only[c0]
theorem oV.pa(h:oV F o a kc n A C):Pt F o (aW a kc n) (fun ys=>A++ys++C):=Pt.of A C h.len h.eq fun y=>rfl
theorem oV.self(a:Nu)(kc n:Nat):oV (aW a kc n) 0 a kc n [] []:=⟨rfl,by simp⟩
theorem oV.new(h:oV F o a kc n A C)(b:Nu):oV (A++aW b kc n++C) o b kc n A C:=⟨h.len,rfl⟩
end
theorem Pt.elN(l:List Nu)(i:Nat)(h:i<l.length):Pt (dC ((cW au).f l)) (0+i*36) (dC (au.f l[i]!)) (fun ys=>(dC ((cW au).f l)).take (0+i*36)++ys++(dC ((cW au).f l)).drop (0+i*36+36)):=by
 have L:=bT.seqW au l i h
 have e:au.sz=36:=rfl
 rw[e] at L
 refine⟨?_,?_,fun ys hy=>by rw[iI]⟩
 ·have:=L.le
  rw[iI,er];exact this
 ·have:=L.g
  rw[iI]
  unfold dC
  rw[←yS,←wI]
  exact congrArg _ this
theorem Pt.elN_set(l:List Nu)(i:Nat)(h:i<l.length)(b:Nu):(dC ((cW au).f l)).take (0+i*36)++dC (au.f b)++(dC ((cW au).f l)).drop (0+i*36+36)=dC ((cW au).f (l.set i b)):=by
 have L:=bT.seqW au l i h
 have e:au.sz=36:=rfl
 rw[e] at L
 have:=L.p b
 rw[e] at this
 unfold dC
 rw[←wI,←yS,←jz,←jz]
 exact congrArg _ this
end
end
section
theorem bS {t:Nat}(h:t<9223372036854775807:=by omega):i64.wrap ((t:Int)+1)=((t+1:Nat):Int):=by
 rw[eQ (by omega) (by omega)];omega
section
variable {vs:List (Nat×List D)} {lv:List (Nat×Nat×Nat×TypeId)} {N kl ol kc kx n:Nat} {F A C:List D} {lk xk q:Nu} {lc xc:List Nu} {but:Int}
theorem h_add(hl:vs.lookup kl=some F)(L:oV F ol lk kc n A C)(hc:vs.lookup kc=some (dC ((cW au).f lc)))(hlc:lc.length=n)(w7:vs.lookup kx=some (dC ((cW au).f xc)))(hxc:xc.length=n)(h1:kl≠kc)(h2:kx≠kc)(h3:kx≠kl)(hn:n≤1000000):
  HC prog 108 [.pt kl ol,dG au q,.ag (aW xk kx n),dI .i64 but] ⟨vs,lv,N⟩ (.tu []) ⟨(kc,dC ((cW au).f (tT q xc but lc)))::(kl,A++aW (wK q xk lk) kc n++C)::vs,lv,N⟩:=by
 refine HC.of (rs:=[]) tok func108 rfl rfl (bc rfl) rfl (fun cx hx h0 hok=>?_)
 simp only[fj,Nat.reduceAdd,bp]
 refine rs hx fun K hK=>?_
 refine sa ?_
 refine s1 (gF (cs:=aW xk kx n)) ?_
 refine nl hK ?_
 have hlN:=hok.lt hl
 have hcN:=hok.lt hc
 have hxN:=hok.lt w7
 have hFi:(A++aW lk kc n++C).all (D.idsC N)=true:=by rw[←L.eq];exact (hok.var kl F hl).2
 have Cq:∀(lk':Nu) (lc':List Nu) (M:Nat),N≤M→ci ⟨(kc,dC ((cW au).f lc'))::(kl,A++aW lk' kc n++C)::vs,lv,M⟩:=fun lk' lc' M hM=>by
  refine (ci.cons (N:=M) (hok.cons hM (bG hlN hM) ?_) (ay _) (bG hcN hM) (ep _))
  rw[lO,lO,cj,cj] at hFi ⊢
  exact⟨⟨a7.2 fun d hd=>D.idsC_le hM (a7.1 hFi.1.1 d hd),iL (bG hcN hM)⟩,a7.2 fun d hd=>D.idsC_le hM (a7.1 hFi.2 d hd)⟩
 have hFi2:=Cq
 have t4:kc≠kl:=fun e=>h1 e.symm
 refine AW.seq (rs hx fun K hK=>?_)
 refine s1 (ldN (Pt.idN q) (ak (by omega) aa) (show N<N+1+1 by omega)) ?_
 refine cq (yj q) ?_
 refine sa ?_
 refine nl hK ?_
 refine AW.condS rfl (fun hb=>?_) (fun hb=>?_)
 ·have hq:bI q=0:=bA hb
  refine AW.ret (RF h0 (by omega) (Cq _ _ N (ay _)) fun j ds h=>?_)
  unfold tT wK at h
  rw[ai hq,ai hq] at h
  have hj:=(Cq lk lc N (ay _)).lt h
  refine ak (show j≠N+1 by omega) (ak (show j≠N by omega) ?_)
  rcases bY h with⟨rfl,rfl⟩|⟨_,h⟩
  ·exact hc
  rcases bY h with⟨rfl,rfl⟩|⟨_,h⟩
  ·rw[←L.eq];exact hl
  ·exact h
 have hq:¬bI q=0:=de hb
 refine AW.skip (rs hx fun K hK=>?_)
 refine s1 (ES (ks:=[N])) ?_
 refine sa ?_
 refine nl hK ?_
 refine rsd [] hx fun K hK=>?_
 iterate 5 refine sa ?_
 refine s1 (ldN (oV.self xk kx n).pk aa (show N+1<N+1+1 by omega)) ?_
 refine q1 (sHF (h_sum (vs:=(N+1,aW xk kx n)::(N,dC (au.f q))::vs) (N:=N+1+1) (ak (show kl≠N+1 by omega) (ak (show kl≠N by omega) hl)) (show kl<N+1+1 by omega) L.pk (ak (show N≠N+1 by omega) aa) (show N<N+1+1 by omega)) rfl) ?_
 refine nl hK ?_
 refine rs hx fun K hK=>?_
 iterate 3 refine sa ?_
 refine s1 (ka (L.new (jA lk (lQ q xk))).pc aa (show kl<N+1+1 by omega) tbI) ?_
 iterate 2 refine sa ?_
 refine nl hK ?_
 have HT:∀t,ci ⟨(kc,dC ((cW au).f (xA q xc but t lc)))::(kl,A++aW (jA lk (lQ q xk)) kc n++C)::(N+1,aW xk kx n)::(N,dC (au.f q))::vs,lv,N+1+1⟩:=fun t=>by
  have LV:ci ⟨(N+1,aW xk kx n)::(N,dC (au.f q))::vs,lv,N+1+1⟩:=(ci.cons (N:=N+1) (hok.cons (jo N) (eo N) (ep _)) (jo _) (eo _) (iL (by omega)))
  refine ci.cons (N:=N+1+1) (LV.cons (ay _) (show kl<N+1+1 by omega) ?_) (ay _) (show kc<N+1+1 by omega) (ep _)
  exact ((Cq (jA lk (lQ q xk)) lc (N+1+1) (by omega)).var kl _ (ak h1 aa)).2
 have hTm:∀(t:Nat) (tm:List (Nat×D)),tm.lookup 0=some (.pt kl ol)→tm.lookup 3=some (dI .i64 but)→tm.lookup 6=some (.pt (N+1) 0)→tm.lookup 8=some (.fn 156 [N])→tm.lookup 25=some (dI .i64 n)→tm.lookup 26=some (dI .i64 t)→bE (N+1+1) tm [(0,.pt kl ol),(3,dI .i64 but),(6,.pt (N+1) 0),(8,.fn 156 [N]),(25,dI .i64 n),(26,dI .i64 t)]:=fun t tm a b c d e f=>
  ((((((bE.nil.cons f).cons e).cons d (a7.2 fun k hk=>aA (by rw[qk.1 hk];omega))).cons c (aA (show N+1<N+1+1 by omega))).cons b).cons a (aA (show kl<N+1+1 by omega)))
 refine AW.block ?_
 refine AW.loopW (fun t:Nat=>[(0,.pt kl ol),(3,dI .i64 but),(6,.pt (N+1) 0),(8,.fn 156 [N]),(25,dI .i64 n),(26,dI .i64 t)])
  (fun t=>⟨(kc,dC ((cW au).f (xA q xc but t lc)))::(kl,A++aW (jA lk (lQ q xk)) kc n++C)::(N+1,aW xk kx n)::(N,dC (au.f q))::vs,lv,N+1+1⟩) (fun t=>t≤n) (fun t=>n - t) 0 ?_ (cl _) ?_
 ·refine wkS (by rw[h0];show N≤N+1+1;omega) (ay _) (HT 0) (fun j ds h=>?_) (hTm 0 _ rfl rfl rfl rfl rfl rfl)
  rcases bY h with⟨rfl,rfl⟩|⟨_,h⟩
  ·exact ak t4 (ak (show j≠N+1 by omega) (ak (show j≠N by omega) hc))
  ·exact h
 ·intro t ht
  have LY:(xA q xc but t lc).length=n:=by rw[p7,hlc]
  refine rs hx fun K hK=>?_
  refine sa ?_
  refine nl hK ?_
  refine AW.seq (AW.condS rfl (fun hb=>?_) (fun hb=>?_))
  rotate_left
  ·refine AW.exit ?_
   have htn:t=n:=by have:=de hb;omega
   refine RF h0 (by omega) (Cq _ _ N (ay _)) fun j ds h=>?_
   have hj:=(Cq _ _ N (ay _)).lt h
   unfold tT wK at h
   rw[ah hq,ah hq,hlc] at h
   rw[htn]
   rcases bY h with⟨rfl,rfl⟩|⟨NV,h⟩
   ·exact aa
   rcases bY h with⟨rfl,rfl⟩|⟨BS,h⟩
   ·exact ak h1 aa
   ·exact ak NV (ak BS (ak (show j≠N+1 by omega) (ak (show j≠N by omega) h)))
  have htn:t<n:=by have:=bA hb;omega
  refine AW.skip (AW.seq (AW.block (rs hx fun K hK=>?_)))
  iterate 2 refine sa ?_
  refine nl hK ?_
  refine rs hx fun K hK=>?_
  iterate 3 refine sa ?_
  refine nl hK ?_
  refine AW.condS rfl (fun hb=>?_) (fun hb=>?_)
  ·have hbt:¬(t:Int)=but:=bA hb
   refine rqd [] hx fun K hK=>?_
   iterate 4 refine sa ?_
   refine s1 (ka (L.new (jA lk (lQ q xk))).pc (ak h1 aa) (show kl<N+1+1 by omega) tbI) ?_
   refine sa ?_
   refine s1 (wO (v:=(t:Int)) (n:=n) ⟨by omega,by omega⟩ tbI aT) ?_
   refine sa ?_
   refine s1 (ka (oV.self xk kx n).pc (ak (show N+1≠kc by omega) (ak (show N+1≠kl by omega) aa)) (show N+1<N+1+1 by omega) tbI) ?_
   refine sa ?_
   refine s1 (wO (v:=(t:Int)) (n:=n) ⟨by omega,by omega⟩ tbI aT) ?_
   refine s1 (ldN (Pt.elN xc t (by omega)) (ak h2 (ak h3 (ak (show kx≠N+1 by omega) (ak (show kx≠N by omega) w7)))) (show kx<N+1+1 by omega)) ?_
   refine q1 (sHF (h_sum aa (show kc<N+1+1 by omega) (Pt.elN (xA q xc but t lc) t (by omega)) (ak (show N≠kc by omega) (ak (show N≠kl by omega) (ak (show N≠N+1 by omega) aa))) (show N<N+1+1 by omega)) rfl) ?_
   refine nl hK ?_
   refine rq hx fun K hK=>?_
   iterate 2 refine sa ?_
   refine nl hK ?_
   rw[bS]
   refine⟨t+1,wkS (by rw[h0];show N≤N+1+1;omega) (ay _) (HT (t+1)) (fun j ds h=>?_) (hTm (t+1) _ rfl rfl rfl rfl rfl rfl),htn,by omega⟩
   rw[Pt.elN_set _ _ (by omega),wj]
   unfold xA at h
   rw[ah hbt] at h
   exact h
  ·have hbt:(t:Int)=but:=by have:=de hb;simpa using this
   refine AW.skip (rq hx fun K hK=>?_)
   iterate 2 refine sa ?_
   refine nl hK ?_
   rw[bS]
   refine⟨t+1,wkS (by rw[h0];show N≤N+1+1;omega) (ay _) (HT (t+1)) (fun j ds h=>?_) (hTm (t+1) _ rfl rfl rfl rfl rfl rfl),htn,by omega⟩
   unfold xA at h
   rw[ai hbt] at h
   exact h
end
end
section
def zN:List E:=(List.replicate 2 (E.lit (.bool false))++List.replicate 16 (E.lit (.int .u32 0)))++(List.replicate 2 (E.lit (.bool false))++List.replicate 16 (E.lit (.int .u32 0)))
theorem KR {dr:Bool}{ty:TypeId}{ev:Operand→D}{vs:List (Nat×List D)}{lv:List (Nat×Nat×Nat×TypeId)}{N:Nat}:AVC prog tbl dr (.alloc 43) ty ev ⟨vs,lv,N⟩ (Kq (.pt N 0) ⟨(N,dC zN)::vs,lv,N+1⟩):=yd aT
theorem Pt.zN:Pt (dC zN) 0 (dC zN) id:=Pt.of [] [] rfl (by simp) (fun y=>by simp)
theorem stZ {dr:Bool}{ty:TypeId}{ev:Operand→D}{hp hp':Hp}{k:Nat}{x y:Operand}{b:Nu}(hv:hp.vars.lookup k=some (dC zN))(hx:ev x=.pt k 0:=by exact rfl)(hy:ev y=dG au b:=by exact rfl)(he:hp.set k (dC (au.f b))=hp':=by exact rfl):AVC prog tbl dr (.store 43 x y) ty ev hp (Kq .top hp'):=
 G1 (ys:=dC (au.f b)) Pt.zN hv (by rw[hy];rfl) aT rfl (by rw[iI];rfl) rfl hx he
theorem iaN {dr:Bool}{ty:TypeId}{ev:Operand→D}{hp:Hp}{k i n:Nat}{kn:IntKind}{x y:Operand}(h:i<n)(hx:ev x=.ow k 0 36 n:=by exact rfl)(hy:ev y=dI kn (i:Int):=by exact rfl):AVC prog tbl dr (.indexAddr 22 x y) ty ev hp (Kq (.pt k (i*36)) hp):=by
 have:=wO (P:=prog) (tb:=tbl) (dr:=dr) (ty:=ty) (ev:=ev) (hp:=hp) (x:=x) (y:=y) (v:=(i:Int)) (n:=n) (kn:=kn) ⟨by omega,by omega⟩ ct aT rfl hx rfl hy
 rwa[bP,bp] at this
theorem iaR {dr:Bool}{ty:TypeId}{ev:Operand→D}{hp:Hp}{k i n:Nat}{kn:IntKind}{x y:Operand}(h:i<n)(hx:ev x=.ow k 0 38 n:=by exact rfl)(hy:ev y=dI kn (i:Int):=by exact rfl):AVC prog tbl dr (.indexAddr 71 x y) ty ev hp (Kq (.pt k (i*38)) hp):=by
 have:=wO (P:=prog) (tb:=tbl) (dr:=dr) (ty:=ty) (ev:=ev) (hp:=hp) (x:=x) (y:=y) (v:=(i:Int)) (n:=n) (kn:=kn) ⟨by omega,by omega⟩ BH tp rfl hx rfl hy
 rwa[bP,bp] at this
theorem Pt.el(l:List Nu)(i:Nat)(h:i<l.length):Pt (dC ((cW au).f l)) (i*36) (dC (au.f l[i]!)) (fun ys=>(dC ((cW au).f l)).take (i*36)++ys++(dC ((cW au).f l)).drop (i*36+36)):=by
 have:=Pt.elN l i h
 rwa[bp] at this
theorem Pt.el_set(l:List Nu)(i:Nat)(h:i<l.length)(b:Nu):(dC ((cW au).f l)).take (i*36)++dC (au.f b)++(dC ((cW au).f l)).drop (i*36+36)=dC ((cW au).f (l.set i b)):=by
 have:=Pt.elN_set l i h b
 rwa[bp] at this
theorem sj {x:Cx}{c1 c2:Code}{tm:List (Nat×D)}{hp:Hp}{Q:Exit→List (Nat×D)→Hp→Prop}(T:List (Nat×D))(H:Hp)(h1:AW prog x c1 tm hp fun ex tm' hp'=>ex=.normal∧Wk x tm' hp' T H)(h2:AW prog x c2 T H Q):AW prog x (.seq c1 c2) tm hp Q:=by
 refine AW.seq (AW.mono h1 ?_)
 rintro ex tm' hp' ⟨rfl,hw⟩
 exact AW.weak hw h2
def iH(C:Nat→Nat)(w i:Nat)(r:Row):List D:=aW r.k (C i) w++[dI .i64 r.b]
theorem tv(C:Nat→Nat)(w i:Nat)(r:Row):(iH C w i r).length=38:=by unfold iH;rw[cu,bR];rfl
def fP(C:Nat→Nat)(w:Nat):Nat→List Row→List D
 |_,[]=>[]
 |i,r::l=>iH C w i r++fP C w (i+1) l
theorem AK(C:Nat→Nat)(w:Nat):∀(i:Nat) (l:List Row),(fP C w i l).length=l.length*38
 |_,[]=>rfl
 |i,r::l=>by
  unfold fP
  rw[cu,tv,AK C w (i+1) l,rI,bU]
  omega
theorem AL(C:Nat→Nat)(w:Nat):∀(i:Nat) (l l2:List Row),fP C w i (l++l2)=fP C w i l++fP C w (i+l.length) l2
 |i,[],l2=>by simp[fP]
 |i,r::l,l2=>by
  show iH C w i r++fP C w (i+1) (l++l2)=(iH C w i r++fP C w (i+1) l)++fP C w (i+(l.length+1)) l2
  rw[AL C w (i+1) l l2,c0,show i+1+l.length=i+(l.length+1) by omega]
theorem Q7(C:Nat→Nat)(w:Nat)(l:List Row)(j:Nat)(h:j<l.length):∃A B:List D,A.length=j*38∧∀r:Row,fP C w 0 (l.set j r)=A++iH C w j r++B:=by
 refine⟨fP C w 0 (l.take j),fP C w (j+1) (l.drop (j+1)),?_,fun r=>?_⟩
 ·rw[AK,ee,sJ (by omega)]
 ·rw[T6,ai h,AL,ee,sJ (by omega),bp]
  show _++(iH C w j r++_)=_
  rw[c0]
theorem Q4 {l:List Row}{j:Nat}{r:Row}(h:l[j]? =some r):l.set j r=l:=by
 obtain⟨h1,h2⟩:=fy.1 h
 rw[←h2,List.set_getElem_self]
theorem mq(C:Nat→Nat)(w:Nat)(l:List Row)(j:Nat){r:Row}(h:l[j]? =some r):∃A B:List D,A.length=j*38∧(∀r:Row,fP C w 0 (l.set j r)=A++iH C w j r++B)∧fP C w 0 l=A++iH C w j r++B∧oV (fP C w 0 l) (j*38) r.k (C j) w A ([dI .i64 r.b]++B)∧Pt (fP C w 0 l) (j*38+37) [dI .i64 r.b] (fun ys=>A++(aW r.k (C j) w++ys)++B):=by
 obtain⟨A,B,h1,h2⟩:=Q7 C w l j (fy.1 h).1
 have h3:=h2 r
 rw[Q4 h] at h3
 refine⟨A,B,h1,h2,h3,⟨h1,?_⟩,Pt.of (A++aW r.k (C j) w) B (by rw[cu,h1,bR]) ?_ fun y=>by simp only[c0]⟩
 ·rw[h3];unfold iH;simp only[c0]
 ·rw[h3];unfold iH;simp only[c0]
theorem wZ {C:Nat→Nat}{w M:Nat}:∀(i:Nat) (l:List Row),(∀j,j<l.length→C (i+j)<M)→(fP C w i l).all (D.idsC M)=true
 |_,[],_=>rfl
 |i,r::l,h=>by
  unfold fP iH
  rw[lO,lO,iL (by have:=h 0 (by simp);simpa using this),wZ (i+1) l (fun j hj=>by have:=h (j+1) (by simpa using hj);rwa[show i+(j+1)=i+1+j by omega] at this)]
  rfl
def eU(R:Nat)(l:List Row):D:=match l with
 |[]=>.e (.lit (.slice none 0 0))
 |_=>.gw R 38 l.length
theorem pM {R:Nat}{l:List Row}(h:l≠[]):eU R l=.gw R 38 l.length:=by cases l with|nil=>exact absurd rfl h|cons r l=>rfl
def mQ(R G w:Nat)(d:Dic):List D:=[eU R d.rows]++aW d.gk G w++[dI .i64 d.n,dI .i64 d.piv,dI .i64 d.most]
structure DAt(vs:List (Nat×List D))(kd R G:Nat)(C:Nat→Nat)(w:Nat)(d:Dic):Prop where
 hd:vs.lookup kd=some (mQ R G w d)
 hR:d.rows≠[]→vs.lookup R=some (fP C w 0 d.rows)
 hG:vs.lookup G=some (dC ((cW au).f d.gc))
 hC:∀(i:Nat) (r:Row),d.rows[i]? =some r→vs.lookup (C i)=some (dC ((cW au).f r.c))
 lG:d.gc.length=w
 lC:∀(i:Nat) (r:Row),d.rows[i]? =some r→r.c.length=w
structure Dif(m kd R G:Nat)(C:Nat→Nat):Prop where
 dR:kd≠R
 dG:kd≠G
 RG:R≠G
 C1:∀i,i<m→C i≠kd∧C i≠R∧C i≠G
 C2:∀i j,i<m→j<m→C i=C j→i=j
def cOv(C:Nat→Nat):Nat→List Row→List (Nat×List D)
 |_,[]=>[]
 |i,r::l=>(C i,dC ((cW au).f r.c))::cOv C (i+1) l
def rOv(R:Nat)(C:Nat→Nat)(w:Nat)(l:List Row):List (Nat×List D):=match l with
 |[]=>[]
 |_=>[(R,fP C w 0 l)]
def ov(kd R G:Nat)(C:Nat→Nat)(w:Nat)(d:Dic)(vs:List (Nat×List D)):List (Nat×List D):=(kd,mQ R G w d)::(G,dC ((cW au).f d.gc))::(rOv R C w d.rows++(cOv C 0 d.rows++vs))
theorem TI {C:Nat→Nat}{j:Nat}{r:Row}{vs:List (Nat×List D)}{m:Nat}(hC:∀i j,i<m→j<m→C i=C j→i=j):∀(i:Nat) (l:List Row),i+l.length≤m→l[j]? =some r→(cOv C i l++vs).lookup (C (i+j))=some (dC ((cW au).f r.c))
 |_,[],_,h=>by simp at h
 |i,s::l,hm,h=>by
  unfold cOv
  rw[Ep]
  cases j with
  |zero=>
   simp at h
   subst h
   exact aa
  |succ j=>
   have bH:=(fy.1 h).1
   simp only[rI] at hm bH
   refine ak (fun e=>?_) ?_
   ·have:=hC _ _ (by omega) (by omega) e;omega
   ·rw[show i+(j+1)=i+1+j by omega]
    exact TI hC (i+1) l (by omega) (by simpa using h)
theorem Oo {C:Nat→Nat}{k:Nat}{vs:List (Nat×List D)}:∀(i:Nat) (l:List Row),(∀j,j<l.length→k≠C (i+j))→(cOv C i l++vs).lookup k=vs.lookup k
 |_,[],_=>rfl
 |i,s::l,h=>by
  unfold cOv
  rw[Ep]
  exact ak (h 0 (by simp)) (Oo (i+1) l fun j hj=>by have:=h (j+1) (by simpa using hj);rwa[show i+(j+1)=i+1+j by omega] at this)
theorem Re {R:Nat}{C:Nat→Nat}{w:Nat}{l:List Row}{k:Nat}{vs:List (Nat×List D)}(h:k≠R):(rOv R C w l++vs).lookup k=vs.lookup k:=by
 cases l with
 |nil=>rfl
 |cons r l=>exact am h
section
variable {kd R G w:Nat} {C:Nat→Nat} {d d':Dic} {vs vs2:List (Nat×List D)}
theorem DAt.ov(hf:Dif d.rows.length kd R G C)(lG:d.gc.length=w)(lC:∀(i:Nat) (r:Row),d.rows[i]? =some r→r.c.length=w):DAt (ov kd R G C w d vs) kd R G C w d:=by
 refine⟨aa,fun fk=>?_,ak hf.dG.symm aa,fun i r h=>?_,lG,lC⟩
 ·refine ak hf.dR.symm (ak hf.RG ?_)
  cases hl:d.rows with
  |nil=>exact absurd hl fk
  |cons r l=>exact aa
 ·have hi:=(fy.1 h).1
  obtain⟨h1,h2,h3⟩:=hf.C1 i hi
  refine ak h1 (ak h3 ?_)
  rw[Re h2]
  have:=TI (vs:=vs) hf.C2 0 d.rows (by omega) h
  rwa[bp] at this
theorem Hw {k:Nat}(h1:k≠kd)(h2:k≠R)(h3:k≠G)(h4:∀j,j<d.rows.length→k≠C j):(ov kd R G C w d vs).lookup k=vs.lookup k:=by
 refine ak h1 (ak h3 ?_)
 rw[Re h2]
 exact Oo 0 _ fun j hj=>by rw[bp];exact h4 j hj
theorem Dj(hf:Dif d.rows.length kd R G C)(h:DAt vs2 kd R G C w d)(hr:∀k ds,k≠kd→k≠R→k≠G→(∀j,j<d.rows.length→k≠C j)→vs.lookup k=some ds→vs2.lookup k=some ds)(hnil:d.rows=[]→∀ds,vs.lookup R=some ds→vs2.lookup R=some ds):
  ∀k ds,(ov kd R G C w d vs).lookup k=some ds→vs2.lookup k=some ds:=by
 intro k ds hk
 have h0:=DAt.ov (vs:=vs) hf h.lG h.lC
 by_cases h1:k=kd
 ·subst h1;rw[h0.hd] at hk;rw[h.hd];exact hk
 by_cases h2:k=R
 ·subst h2
  by_cases fk:d.rows=[]
  ·refine hnil fk ds ?_
   rw[←hk]
   refine Eq.symm (ak h1 (ak hf.RG ?_))
   rw[fk];rfl
  ·rw[h0.hR fk] at hk;rw[h.hR fk];exact hk
 by_cases h3:k=G
 ·subst h3;rw[h0.hG] at hk;rw[h.hG];exact hk
 by_cases h4:∀j,j<d.rows.length→k≠C j
 ·rw[Hw h1 h2 h3 h4] at hk
  exact hr k ds h1 h2 h3 h4 hk
 ·obtain⟨j,hj⟩:=MI.1 h4
  obtain⟨NV,BS⟩:=MH.1 hj
  have BS:=Bs.1 BS
  subst BS
  have hr:=cz NV
  rw[h0.hC j _ hr] at hk;rw[h.hC j _ hr];exact hk
theorem rB {M:Nat}(hR:R<M)(hG:G<M):(mQ R G w d).all (D.idsC M)=true:=by
 unfold mQ
 rw[lO,lO,iL hG]
 cases d.rows <;> simp[eU,D.idsC,hR]
theorem BN {lv:List (Nat×Nat×Nat×TypeId)}{N:Nat}(hok:ci ⟨vs,lv,N⟩)(hd:kd<N)(hR:R<N)(hG:G<N)(hC:∀j,j<d.rows.length→C j<N):ci ⟨ov kd R G C w d vs,lv,N⟩:=by
 have h1:∀(i:Nat) (l:List Row),(∀j,j<l.length→C (i+j)<N)→ci ⟨cOv C i l++vs,lv,N⟩:=by
  intro i l
  induction l generalizing i with
  |nil=>intro _;exact hok
  |cons r l ih=>
   intro h
   exact (ih (i+1) fun j hj=>by have:=h (j+1) (by simpa using hj);rwa[show i+(j+1)=i+1+j by omega] at this).cons (ay _) (h 0 (by simp)) (ep _)
 have h2:ci ⟨rOv R C w d.rows++(cOv C 0 d.rows++vs),lv,N⟩:=by
  have h3:=h1 0 d.rows fun j hj=>by rw[bp];exact hC j hj
  cases hl:d.rows with
  |nil=>rw[hl] at h3;exact h3
  |cons r l=>
   rw[hl] at h3
   refine h3.cons (ay _) hR (wZ 0 _ fun j hj=>?_)
   rw[bp];exact hC j (by rw[hl];exact hj)
 exact (h2.cons (ay _) hG (ep _)).cons (ay _) hd (rB hR hG)
end
end
section
section
variable {kd R G w:Nat} {C:Nat→Nat} {d:Dic} {vs vs2:List (Nat×List D)}
theorem O4 {R:Nat}{l l2:List Row}(h:l.length=l2.length):eU R l=eU R l2:=by
 cases l with
 |nil=>cases l2 with
  |nil=>rfl
  |cons _ _=>simp at h
 |cons _ _=>cases l2 with
  |nil=>simp at h
  |cons _ _=>show D.gw R 38 _=D.gw R 38 _;rw[h]
theorem DAt.look(h:DAt vs kd R G C w d)(h2:∀k ds,(k=kd∨k=R∨k=G∨∃i,i<d.rows.length∧k=C i)→vs.lookup k=some ds→vs2.lookup k=some ds):DAt vs2 kd R G C w d:=
 ⟨h2 _ _ (.inl rfl) h.hd,fun fk=>h2 _ _ (.inr (.inl rfl)) (h.hR fk),h2 _ _ (.inr (.inr (.inl rfl))) h.hG,fun i r hr=>h2 _ _ (.inr (.inr (.inr ⟨i,(fy.1 hr).1,rfl⟩))) (h.hC i r hr),h.lG,h.lC⟩
theorem DAt.setRow(h:DAt vs kd R G C w d)(hf:Dif d.rows.length kd R G C){j:Nat}(hj:j<d.rows.length)(r:Row)(hl:r.c.length=w)(hR:vs2.lookup R=some (fP C w 0 (d.rows.set j r)))(hC:vs2.lookup (C j)=some (dC ((cW au).f r.c)))
  (h2:∀k ds,k≠R→k≠C j→vs.lookup k=some ds→vs2.lookup k=some ds):DAt vs2 kd R G C w ⟨d.rows.set j r,d.gk,d.gc,d.n,d.piv,d.most⟩:=by
 obtain⟨h3,h4,h5⟩:=hf.C1 j hj
 refine⟨?_,fun _=>hR,h2 _ _ hf.RG.symm h5.symm h.hG,fun i r' hr=>?_,h.lG,fun i r' hr=>?_⟩
 ·have:mQ R G w ⟨d.rows.set j r,d.gk,d.gc,d.n,d.piv,d.most⟩=mQ R G w d:=by
   unfold mQ
   rw[show eU R (d.rows.set j r)=eU R d.rows from O4 (cU ..)]
  rw[this]
  exact h2 _ _ hf.dR h3.symm h.hd
 ·by_cases DM:i=j
  ·subst DM
   rw[KF hj] at hr
   injection hr with hr
   subst hr
   exact hC
  ·rw[Eo (fun e=>DM e.symm)] at hr
   have hi:=(fy.1 hr).1
   exact h2 _ _ (hf.C1 i hi).2.1 (fun e=>DM (hf.C2 i j hi hj e)) (h.hC i r' hr)
 ·by_cases DM:i=j
  ·subst DM
   rw[KF hj] at hr
   injection hr with hr
   subst hr
   exact hl
  ·rw[Eo (fun e=>DM e.symm)] at hr
   exact h.lC i r' hr
theorem DAt.setDic(h:DAt vs kd R G C w d)(hf:Dif d.rows.length kd R G C)(d':Dic)(hr:d'.rows=d.rows)(hl:d'.gc.length=w)(hd:vs2.lookup kd=some (mQ R G w d'))(hG:vs2.lookup G=some (dC ((cW au).f d'.gc)))
  (h2:∀k ds,k≠kd→k≠G→vs.lookup k=some ds→vs2.lookup k=some ds):DAt vs2 kd R G C w d':=by
 refine⟨hd,fun fk=>?_,hG,fun i r hi=>?_,hl,fun i r hi=>?_⟩
 ·rw[hr] at fk ⊢
  exact h2 _ _ hf.dR.symm hf.RG (h.hR fk)
 ·rw[hr] at hi
  obtain⟨h3,h4,h5⟩:=hf.C1 i (fy.1 hi).1
  exact h2 _ _ h3 h5 (h.hC i r hi)
 ·rw[hr] at hi
  exact h.lC i r hi
end
theorem w6 {k:Nat}{os:List Nat}(h:k∉os):∀{l:List (Nat×List D)} {ds:List D},l.lookup k=some ds→(l.filter fun p=>!os.contains p.1).lookup k=some ds
 |[],_,h'=>by simp at h'
 |(j,a)::l,ds,h'=>by
  by_cases hj:k=j
  ·subst hj
   rw[Ip (by simpa using h)]
   rw[aa] at h' ⊢
   exact h'
  ·have h1:l.lookup k=some ds:=by rw[←h'];exact (am hj).symm
   by_cases hm:j∈os
   ·rw[MC (by simpa using hm)]
    exact w6 h h1
   ·rw[Ip (by simpa using hm)]
    exact ak hj (w6 h h1)
section
variable {hp:Hp}
theorem UX:∀(l:List E),ARs hp (dC l) (dC l)
 |[]=>trivial
 |e::l=>⟨AR.data (d:=.e e) rfl,UX l⟩
theorem ARs.append:∀{ds es ds2 es2:List D},ARs hp ds es→ARs hp ds2 es2→ARs hp (ds++ds2) (es++es2)
 |[],[],_,_,_,h=>h
 |_::_,_::_,_,_,⟨h1,h2⟩,h=>⟨h1,ARs.append h2 h⟩
 |[],_::_,_,_,h,_=>h.elim
 |_::_,[],_,_,h,_=>h.elim
theorem AR.list {k n:Nat}{l:List Nu}(hv:hp.vars.lookup k=some (dC ((cW au).f l)))(hl:l.length=n):AR hp (.ow k 0 36 n) (.e (slE au l)):=by
 subst hl
 have hlen:((cW au).f l).length=l.length*36:=ib au.f au.h l
 have:=AR.sl (off:=0) hv (n:=l.length) (z:=36) (by omega) (by omega)
 rw[qu,gU (by omega)] at this
 exact this
theorem AR.line {kc n:Nat}{k:Nu}{l:List Nu}(hv:hp.vars.lookup kc=some (dC ((cW au).f l)))(hl:l.length=n):AR hp (.ag (aW k kc n)) (.ag (dC (au.f k)++[.e (slE au l)])):=
 AR.ag (ARs.append (UX _) ⟨AR.list hv hl,trivial⟩)
end
theorem Ma {vs:List (Nat×List D)}{lv:List (Nat×Nat×Nat×TypeId)}{N kc n:Nat}{k:Nu}{l:List Nu}(hv:vs.lookup kc=some (dC ((cW au).f l)))(hl:l.length=n)(hn:n≤1000000):HC prog 109 [.ag (aW k kc n)] ⟨vs,lv,N⟩ (dB (fS k l)) ⟨vs,lv,N⟩:=
 HC.frz (w_good k l (by omega)) ⟨AR.line hv hl,trivial⟩ rfl
end
section
def klO(kd R:Nat):Option Nat→Nat|none=>kd|some _=>R
def olO:Option Nat→Nat|none=>1|some j=>j*38
def kcO(G:Nat)(C:Nat→Nat):Option Nat→Nat|none=>G|some j=>C j
section
variable {kd R G w:Nat} {C:Nat→Nat} {d:Dic} {vs:List (Nat×List D)}
theorem lineO(h:DAt vs kd R G C w d)(hf:Dif d.rows.length kd R G C)(o:Option Nat)(ho:∀j,o=some j→j<d.rows.length):
  ∃F A B:List D,vs.lookup (klO kd R o)=some F∧oV F (olO o) (lkO d o) (kcO G C o) w A B∧vs.lookup (kcO G C o)=some (dC ((cW au).f (lcO d o)))∧(lcO d o).length=w∧klO kd R o≠kcO G C o∧
   ∀(v2:List (Nat×List D)) (lk:Nu) (lc:List Nu),lc.length=w→v2.lookup (klO kd R o)=some (A++aW lk (kcO G C o) w++B)→v2.lookup (kcO G C o)=some (dC ((cW au).f lc))→
    (∀k ds,k≠klO kd R o→k≠kcO G C o→vs.lookup k=some ds→v2.lookup k=some ds)→DAt v2 kd R G C w (Lp d o lk lc):=by
 cases o with
 |none=>
  refine⟨mQ R G w d,[eU R d.rows],[dI .i64 d.n,dI .i64 d.piv,dI .i64 d.most],h.hd,⟨rfl,rfl⟩,h.hG,h.lG,hf.dG,fun v2 lk lc hl h1 h2 h3=>?_⟩
  exact h.setDic hf ⟨d.rows,lk,lc,d.n,d.piv,d.most⟩ rfl hl h1 h2 h3
 |some j=>
  have hj:=ho j rfl
  have hr:d.rows[j]? =some d.rows[j]! :=by rw[bJ d.rows j hj];exact cz hj
  obtain⟨A,B,h1,h2,h3,h4,_⟩:=mq C w d.rows j hr
  have fk:d.rows≠[]:=fun e=>by rw[e] at hj;simp at hj
  refine⟨fP C w 0 d.rows,A,[dI .i64 d.rows[j]!.b]++B,h.hR fk,h4,h.hC j _ hr,h.lC j _ hr,(hf.C1 j hj).2.1.symm,fun v2 lk lc hl h5 h6 h7=>?_⟩
  refine h.setRow hf hj ⟨lk,lc,d.rows[j]!.b⟩ hl ?_ h6 h7
  rw[h2]
  have h5':v2.lookup R=some (A++aW lk (C j) w++([dI .i64 d.rows[j]!.b]++B)):=h5
  rw[h5']
  unfold iH
  simp only[c0]
theorem Q5(d:Dic)(o:Option Nat)(k:Nu)(c:List Nu):(Lp d o k c).rows.length=d.rows.length:=by
 cases o with
 |none=>rfl
 |some j=>exact cU ..
theorem setO_ne {o:Option Nat}{i:Nat}(h:o≠some i)(k:Nu)(c:List Nu):(Lp d o k c).rows[i]? =d.rows[i]? :=by
 cases o with
 |none=>rfl
 |some j=>
  have:j≠i:=fun e=>h (by rw[e])
  exact Eo this
end
theorem pO_succ {r1:Row}{s at' i u:Nat}{p:Dic×Bool}{o:Option Nat}(h:(xu at' i)[u]? =some o):pO r1 s at' i p (u+1)=we r1 s (pO r1 s at' i p u) o:=by
 unfold pO
 rw[Ae,h,List.foldl_append]
 rfl
theorem Pt.cell {F:List D}{t:Nat}{x:D}(h:F[t]? =some x):Pt F t [x] (fun ys=>F.take t++ys++F.drop (t+1)):=by
 obtain⟨h1,h2⟩:=fy.1 h
 refine⟨by simp;omega,?_,fun ys _=>rfl⟩
 show (F.drop t).take 1=[x]
 rw[EH h1,MX,Eh,h2]
theorem iaP {dr:Bool}{ty:TypeId}{ev:Operand→D}{hp:Hp}{k i n:Nat}{kn:IntKind}{x y:Operand}(h:i<n)(hx:ev x=.ow k 0 1 n:=by exact rfl)(hy:ev y=dI kn (i:Int):=by exact rfl):AVC prog tbl dr (.indexAddr 161 x y) ty ev hp (Kq (.pt k i) hp):=by
 have:=wO (P:=prog) (tb:=tbl) (dr:=dr) (ty:=ty) (ev:=ev) (hp:=hp) (x:=x) (y:=y) (v:=(i:Int)) (n:=n) (kn:=kn) ⟨by omega,by omega⟩ AF yn rfl hx rfl hy
 rwa[bP,bp,show i*1=i from xZ i] at this
theorem RH {x:Cx}{kd R G w N n2 q:Nat}{C:Nat→Nat}{d':Dic}{vs v:List (Nat×List D)}{lv:List (Nat×Nat×Nat×TypeId)}{tm:List (Nat×D)}{e:Int}(h0:x.hp0=⟨vs,lv,N⟩)(hok:ci ⟨vs,lv,N⟩)(hN:N≤n2)(hD:DAt v kd R G C w d')(hf:Dif d'.rows.length kd R G C)
  (FR:kd<N) (hR:R<N) (hG:G<N) (hC:∀j,j<d'.rows.length→C j<N) (hr:∀k ds,k≠kd→k≠R→k≠G→(∀j,j<d'.rows.length→k≠C j)→vs.lookup k=some ds→v.lookup k=some ds) (hnil:d'.rows=[]→∀ds,vs.lookup R=some ds→v.lookup R=some ds) (hq:tm.lookup q=some (dI .i64 e)):
  ∃tm',Wk x tm ⟨v,lv,n2⟩ tm' ⟨ov kd R G C w d' vs,lv,N⟩∧te tbl [.tmp q] tm' ⟨ov kd R G C w d' vs,lv,N⟩ (dI .i64 e):=by
 have hok':=BN (d:=d') (w:=w) hok FR hR hG hC
 refine⟨[(q,dI .i64 e)],wkS (by rw[h0];exact ay N) hN hok' (Dj hf hD hr hnil) (bE.nil.cons hq),?_⟩
 exact⟨dI .i64 e,aa,rfl⟩
section
variable {R G w:Nat} {d:Dic}
theorem gi:Pt (mQ R G w d) 0 [eU R d.rows] (fun ys=>ys++(aW d.gk G w++[dI .i64 d.n,dI .i64 d.piv,dI .i64 d.most])):=Pt.of [] (aW d.gk G w++[dI .i64 d.n,dI .i64 d.piv,dI .i64 d.most]) rfl (by unfold mQ;simp) fun y=>by simp
theorem mh:oV (mQ R G w d) 1 d.gk G w [eU R d.rows] [dI .i64 d.n,dI .i64 d.piv,dI .i64 d.most]:=⟨rfl,rfl⟩
theorem dic_n:Pt (mQ R G w d) 38 [dI .i64 d.n] (fun ys=>[eU R d.rows]++aW d.gk G w++(ys++[dI .i64 d.piv,dI .i64 d.most])):=Pt.of ([eU R d.rows]++aW d.gk G w) [dI .i64 d.piv,dI .i64 d.most] (by rw[cu,bR];rfl) (by unfold mQ;simp) fun y=>by simp
theorem og:Pt (mQ R G w d) 39 [dI .i64 d.piv] (fun ys=>[eU R d.rows]++aW d.gk G w++([dI .i64 d.n]++ys++[dI .i64 d.most])):=Pt.of ([eU R d.rows]++aW d.gk G w++[dI .i64 d.n]) [dI .i64 d.most] (by rw[cu,cu,bR];rfl) (by unfold mQ;simp) fun y=>by simp
theorem Tk:Pt (mQ R G w d) 40 [dI .i64 d.most] (fun ys=>[eU R d.rows]++aW d.gk G w++([dI .i64 d.n,dI .i64 d.piv]++ys)):=Pt.of ([eU R d.rows]++aW d.gk G w++[dI .i64 d.n,dI .i64 d.piv]) [] (by rw[cu,cu,bR];rfl) (by unfold mQ;simp) fun y=>by simp
end
end
section
theorem HI {x:Cx}{tm:List (Nat×D)}{vs vs2:List (Nat×List D)}{lv:List (Nat×Nat×Nat×TypeId)}{N n2 q:Nat}{d:D}(h0:x.hp0=⟨vs,lv,N⟩)(hok:ci ⟨vs,lv,N⟩)(hN:N≤n2)(hv:∀j ds,vs.lookup j=some ds→vs2.lookup j=some ds)(hq:tm.lookup q=some d)(hd:d.idsB N=true):
  ∃tm',Wk x tm ⟨vs2,lv,n2⟩ tm' ⟨vs,lv,N⟩∧te tbl [.tmp q] tm' ⟨vs,lv,N⟩ d:=
 ⟨[(q,d)],wkS (by rw[h0];exact ay N) hN hok hv (bE.nil.cons hq hd),⟨d,aa,rfl⟩⟩
section
variable {ops:Array Oper} {K:List (Nat×D)→Hp→Prop} {os:List Oper} {tm:List (Nat×D)} {hp:Hp} {t:Tmp} {ty:TypeId} {pos:String} {af:Array Edge} {md:Md}
theorem Nr {R:Nat}{l:List Row}{x:Operand}(hx:evD tm x=eU R l)(h2:aV prog tbl md ops K os ((t,dI .i64 l.length)::tm) hp)(hn:md.nc tbl (.call ⟨.builtin .len,#[x],#[71]⟩)=true:=by exact rfl):aV prog tbl md ops K (⟨some t,.call ⟨.builtin .len,#[x],#[71]⟩,ty,pos,af,none⟩::os) tm hp:=by
 cases l with
 |nil=>exact s1 (Uk BH tp rfl (by rw[hx];rfl)) h2 hn
 |cons r l=>exact stG (d:=dI .i64 (r::l).length) tok (BD (k:=R) (off:=0) (z:=38) BH tp rfl (by rw[hx];rfl)) h2 hn
end
section
variable {vs:List (Nat×List D)} {lv:List (Nat×Nat×Nat×TypeId)} {N kv R w:Nat} {C:Nat→Nat} {v:Int}
theorem h_findf {i:Nat}(r:Row)(hv:vs.lookup kv=some [dI .i64 v]):HC prog 155 [.ag (iH C w i r),.pt kv 0] ⟨vs,lv,N⟩ (dB (decide (r.b=v))) ⟨vs,lv,N⟩:=by
 refine HC.of (rs:=[.tmp 3]) tok func155 rfl rfl (bc rfl) rfl (fun cx hx h0 hok=>?_)
 simp only[fj,Nat.reduceAdd,bp]
 have hkv:=hok.lt hv
 refine rs hx fun K hK=>?_
 refine s1 (gF (cs:=iH C w i r)) ?_
 refine sa ?_
 refine nl hK ?_
 refine rs hx fun K hK=>?_
 refine sa ?_
 refine s1 (ka (Pt.of (F:=iH C w i r) (bs:=[dI .i64 r.b]) (aW r.k (C i) w) [] (bR _ _ _) (by unfold iH;simp) (F':=fun ys=>aW r.k (C i) w++ys++[]) fun y=>rfl) aa (eo N) tbI) ?_
 refine s1 (ka (Pt.of (F:=[dI .i64 v]) (bs:=[dI .i64 v]) [] [] rfl (by simp) (F':=id) fun y=>by simp) (ak (show kv≠N by omega) hv) (show kv<N+1 by omega) tbI) ?_
 iterate 2 refine sa ?_
 refine nl hK ?_
 exact AW.ret (HI h0 hok (jo N) (fun j ds h=>ak (hok.ne h (ay N)) h) rfl rfl)
theorem SO {l:List Row}(hm:l.length≤1000000)(hR:l≠[]→vs.lookup R=some (fP C w 0 l))(hv:vs.lookup kv=some [dI .i64 v]):
  HC prog 154 [eU R l,.fn 155 [kv]] ⟨vs,lv,N⟩ (dI .i64 (db l v)) ⟨vs,lv,N⟩:=by
 refine HC.of (rs:=[.tmp 4]) tok func154 rfl rfl (bc rfl) rfl (fun cx hx h0 hok=>?_)
 simp only[fj,Nat.reduceAdd,bp]
 have hkv:=hok.lt hv
 have hRi:(eU R l).idsB N=true:=by
  cases hl:l with
  |nil=>rfl
  |cons r l'=>exact aA (hok.lt (hR (by rw[hl];simp)))
 refine rs hx fun K hK=>?_
 refine sa ?_
 refine nl hK ?_
 refine AW.seq (rs hx fun K hK=>?_)
 refine sa ?_
 refine Nr (R:=R) (l:=l) rfl ?_
 refine sa ?_
 refine nl hK ?_
 refine AW.block (AW.loopW (fun i:Nat=>[(0,eU R l),(1,.fn 155 [kv]),(7,dI .i64 l.length),(8,dI .i64 i)]) (fun _=>⟨vs,lv,N⟩) (fun i=>i≤l.length∧∀(j:Nat) (r':Row),j<i→l[j]? =some r'→r'.b≠v) (fun i=>l.length - i) 0 ?_ ⟨cl _,fun j _ hj=>absurd hj (qn _)⟩ ?_)
 ·exact wkS (by rw[h0];exact ay N) (ay _) hok (fun j ds h=>h) (bE.cons (t:=0) (d:=eU R l) (bE.cons (t:=1) (d:=.fn 155 [kv]) (bE.cons (t:=7) (d:=dI .i64 l.length) (bE.cons (t:=8) (d:=dI .i64 (0:Nat)) bE.nil rfl rfl) rfl rfl) rfl (a7.2 fun k hk=>aA (by rw[qk.1 hk];exact hkv))) rfl hRi)
 ·rintro i ⟨hi,ms⟩
  refine rs hx fun K hK=>?_
  refine sa ?_
  refine nl hK ?_
  refine AW.seq (AW.condS rfl (fun hb=>?_) (fun hb=>?_))
  ·have yC:i<l.length:=by have:=bA hb;omega
   have fk:l≠[]:=fun e=>by rw[e] at yC;simp at yC
   have hr:l[i]? =some l[i]:=cz yC
   obtain⟨A,B,hA,_,h3,_,_⟩:=mq C w l i hr
   have CL:=hok.lt (hR fk)
   refine AW.skip (AW.seq (AW.block (rs hx fun K hK=>?_)))
   iterate 2 refine sa ?_
   refine nl hK ?_
   refine rs hx fun K hK=>?_
   iterate 3 refine sa ?_
   refine stG (d:=.pt R (i*38)) tok (iaR (i:=i) (n:=l.length) yC (by show (eU R l).toOw=_;rw[pM fk];rfl) rfl) ?_
   refine s1 (Ch (Pt.of A B hA h3 (F':=fun ys=>A++ys++B) fun y=>rfl) (hR fk) CL tp (tv _ _ _ _)) ?_
   refine q1 (sHF (h_findf l[i] hv) rfl) ?_
   refine nl hK ?_
   refine AW.condS rfl (fun hb=>?_) (fun hb=>?_)
   ·have hbv:l[i].b=v:=bA hb
    refine rs hx fun K hK=>?_
    iterate 2 refine sa ?_
    refine nl hK ?_
    refine AW.ret ?_
    rw[PT hr hbv ms]
    exact HI h0 hok (ay N) (fun j ds h=>h) rfl rfl
   ·have hbv:¬l[i].b=v:=de hb
    refine AW.skip (rq hx fun K hK=>?_)
    iterate 2 refine sa ?_
    refine nl hK ?_
    rw[bS]
    refine⟨i+1,wkS (by rw[h0];exact ay N) (ay _) hok (fun j ds h=>h) (bE.cons (t:=0) (d:=eU R l) (bE.cons (t:=1) (d:=.fn 155 [kv]) (bE.cons (t:=7) (d:=dI .i64 l.length) (bE.cons (t:=8) (d:=dI .i64 (i+1:Nat)) bE.nil rfl rfl) rfl rfl) rfl (a7.2 fun k hk=>aA (by rw[qk.1 hk];exact hkv))) rfl hRi),⟨yC,fun j r' hj pB=>?_⟩,by omega⟩
    rcases d6 j i with h|h
    ·exact ms j r' h pB
    ·obtain rfl:j=i:=by omega
     rw[hr] at pB
     injection pB with pB
     rw[←pB];exact hbv
  ·refine AW.exit ?_
   have yC:i=l.length:=by have:=de hb;omega
   refine rs hx fun K hK=>?_
   refine sa ?_
   refine nl hK ?_
   refine AW.ret ?_
   rw[Mh fun j r' pB=>ms j r' (by rw[yC];exact (fy.1 pB).1) pB]
   exact HI h0 hok (ay N) (fun j ds h=>h) rfl rfl
theorem Mb {kd G:Nat}{d:Dic}(hD:DAt vs kd R G C w d)(hm:d.rows.length≤1000000):HC prog 105 [.pt kd 0,dI .i64 v] ⟨vs,lv,N⟩ (dI .i64 (db d.rows v)) ⟨vs,lv,N⟩:=by
 refine HC.of (rs:=[.tmp 4]) tok func105 rfl rfl (bc rfl) rfl (fun cx hx h0 hok=>?_)
 simp only[fj,Nat.reduceAdd,bp]
 have FR:=hok.lt hD.hd
 refine rs hx fun K hK=>?_
 refine s1 (gF (cs:=[dI .i64 v])) ?_
 refine sa ?_
 refine nl hK ?_
 refine rs hx fun K hK=>?_
 iterate 3 refine sa ?_
 refine s1 (ka gi (ak (show kd≠N by omega) hD.hd) (show kd<N+1 by omega) tbI) ?_
 refine s1 (ES (ks:=[N])) ?_
 refine q1 (sHC (SO (vs:=(N,[dI .i64 v])::vs) (lv:=lv) (N:=N+1) (C:=C) (w:=w) hm (fun fk=>ak (hok.ne (hD.hR fk) (ay N)) (hD.hR fk)) aa) rfl (.inl (by kernel_rfl))) ?_
 refine sa ?_
 refine nl hK ?_
 exact AW.ret (HI h0 hok (jo N) (fun j ds h=>ak (hok.ne h (ay N)) h) rfl rfl)
end
end
def qF(aX:Int)(nE:Int):Option (Int×Int):=bnd (some (u64.wrap ((JN .u64 aX (4294967295:Int))*(JN .u64 nE (4294967295:Int))))) fun x1=>bnd (some (u64.wrap ((u64.wrap ((l5 .u64 aX (32:Int))*(JN .u64 nE (4294967295:Int))))+(l5 .u64 x1 (32:Int))))) fun x3=>bnd (some (u64.wrap ((JN .u64 x3 (4294967295:Int))+(u64.wrap ((JN .u64 aX (4294967295:Int))*(l5 .u64 nE (32:Int))))))) fun x5=>bnd (some (u64.wrap ((u64.wrap ((u64.wrap ((l5 .u64 aX (32:Int))*(l5 .u64 nE (32:Int))))+(l5 .u64 x3 (32:Int))))+(l5 .u64 x5 (32:Int))))) fun x7=>some (x7,u64.wrap (aX*nE))
theorem He {aX:Int}{nE:Int}{r:Int×Int}(h:qF aX nE=some r):ar prog 183 [dI .u64 aX,dI .u64 nE] (.tu [dI .u64 r.1,dI .u64 r.2]):=by
 refine bj (rs:=[.tmp 4,.tmp 5]) (fun cx hx h0=>?_) func183
 unfold qF at h
 iterate 5 refine ra hx ?_
 refine rs hx fun K hK=>?_
 iterate 3 refine sa ?_
 obtain⟨x1,w7,h⟩:=ae h
 replace w7:=bB w7
 refine s2 (d2:=dI .u64 x1) li (f7 (congrArg (dI .u64) w7)) ?_
 refine nl hK ?_
 refine rs hx fun K hK=>?_
 iterate 6 refine sa ?_
 obtain⟨x3,hx4,h⟩:=ae h
 replace hx4:=bB hx4
 refine s2 (d2:=dI .u64 x3) li (f7 (congrArg (dI .u64) hx4)) ?_
 refine nl hK ?_
 iterate 2 refine ra hx ?_
 refine rs hx fun K hK=>?_
 iterate 5 refine sa ?_
 obtain⟨x5,HN,h⟩:=ae h
 replace HN:=bB HN
 refine s2 (d2:=dI .u64 x5) li (f7 (congrArg (dI .u64) HN)) ?_
 refine nl hK ?_
 refine rs hx fun K hK=>?_
 iterate 8 refine sa ?_
 obtain⟨x7,hx8,h⟩:=ae h
 replace hx8:=bB hx8
 refine s2 (d2:=dI .u64 x7) li (f7 (congrArg (dI .u64) hx8)) ?_
 refine nl hK ?_
 refine ra hx ?_
 refine AW.ret ?_
 cases h
 exact rv2
def ut(aX:Int)(nE:Int):Option (Int×Int):=bnd (qF aX nE) fun x1=>some (x1.1,x1.2)
theorem Lg {aX:Int}{nE:Int}{r:Int×Int}(h:ut aX nE=some r):ar prog 151 [dI .u64 aX,dI .u64 nE] (.tu [dI .u64 r.1,dI .u64 r.2]):=by
 refine bj (rs:=[.tmp 4,.tmp 5]) (fun cx hx h0=>?_) func151
 unfold ut at h
 refine ra hx ?_
 refine AW.seq (AW.condF rfl rfl (AW.skip (rs hx fun K hK=>?_)))
 refine mbr ?_
 refine scb h He fun x1 h=>?_
 refine nbr hK ?_
 refine ra hx ?_
 refine AW.ret ?_
 cases h
 exact rv2
theorem RR {m:Nat}(h:m<4294967296):JN .u64 (m:Int) (4294967295:Int)=(m:Int):=by
 have h1:(BitVec.ofInt 64 (m:Int) &&&BitVec.ofInt 64 (4294967295:Int)).toNat=m:=by
  have a:(BitVec.ofInt 64 (m:Int)).toNat=m:=by
   rw[BitVec.ofInt_natCast,BitVec.toNat_ofNat];omega
  have b:(BitVec.ofInt 64 (4294967295:Int)).toNat=2 ^ 32 - 1:=by decide
  rw[BitVec.toNat_and,a,b,Nat.and_two_pow_sub_one_eq_mod];omega
 show u64.wrap (((BitVec.ofInt 64 (m:Int) &&&BitVec.ofInt 64 (4294967295:Int)).toNat:Nat):Int)=m
 rw[h1]
 exact ig
theorem mul1 {n:Nat}(h:n≤1000000):ut (u64.wrap 1) (u64.wrap (n:Int))=some (0,(n:Int)):=by
 have e1:u64.wrap 1=((1:Nat):Int):=ig (n:=1) (by omega)
 have a1:=RR (m:=1) (by omega)
 have a2:=RR (m:=n) (by omega)
 have s1:=xH 1
 have s2:=xH n
 have m1:(1:Nat) / 4294967296=0:=rfl
 have m2:n / 4294967296=0:=eu (by omega)
 rw[m1] at s1
 rw[m2] at s2
 have z0:u64.wrap ((0:Nat):Int)=((0:Nat):Int):=ig (n:=0) (by omega)
 have zn:u64.wrap (n:Int)=(n:Int):=ig
 have i0:JN .u64 ((0:Nat):Int) (4294967295:Int)=((0:Nat):Int):=RR (m:=0) (by omega)
 have h0:l5 .u64 ((0:Nat):Int) (32:Int)=((0:Nat):Int):=xH 0
 rw[e1,zn]
 unfold ut qF
 rw[a1,a2,s1,s2]
 simp only[bnd,En]
 have p1:((1:Nat):Int)*(n:Int)=(n:Int):=by omega
 have p2:((0:Nat):Int)*(n:Int)=((0:Nat):Int):=by omega
 have p3:((1:Nat):Int)*((0:Nat):Int)=((0:Nat):Int):=by omega
 have p4:((0:Nat):Int)*((0:Nat):Int)=((0:Nat):Int):=by omega
 have p5:((0:Nat):Int)+((0:Nat):Int)=((0:Nat):Int):=by omega
 rw[p1,p2,p3,p4,zn,z0,s2,p5,z0,i0,p5,z0,h0,p5,z0,p5,z0]
 rfl
section
def yF(a:Nu)(n s:Nat):List Nu:=List.replicate s a++List.replicate (n - s) default
theorem D5 {a:Nu}{n s:Nat}(h:s≤n):(yF a n s).length=n:=by
 unfold yF;rw[cu,s9,s9];omega
theorem cont_cp {a:Nu}{n s:Nat}(h:s≤n):lCp (yF a n s) s (((((yF a n s).drop 0).take s)).take (n - s))=yF a n (s+min s (n - s)):=by
 have h1:((yF a n s).drop 0).take s=List.replicate s a:=by
  unfold yF
  rw[qu,uK (by simp),gU (by simp)]
 rw[h1,List.take_replicate]
 unfold lCp
 rw[s9]
 unfold yF
 rw[uK (by simp),gU (by simp),MJ,s9,Ca (by simp),nd,List.drop_replicate]
 rw[List.replicate_append_replicate,Nat.min_comm,show n - s - (s+min s (n - s) - s)=n - (s+min s (n - s)) by omega]
theorem zNu:au.f (default:Nu)=zN:=rfl
theorem Fs {x:Cx}{tm tm':List (Nat×D)}{vs2 oY:List (Nat×List D)}{lv Fa:List (Nat×Nat×Nat×TypeId)}{n' n2:Nat}(h0:x.hp0.next≤n')(hn:n'≤n2)(hok:ci ⟨oY,lv,n'⟩)(hv:∀j ds,oY.lookup j=some ds→vs2.lookup j=some ds)(hl:∀j y,lv.lookup j=some y→Fa.lookup j=some y)(ht:bE n' tm tm'):Wk x tm ⟨vs2,Fa,n2⟩ tm' ⟨oY,lv,n'⟩:=
 Wk.look h0 hn ht (fun j ds h=>⟨(hok.var j ds h).1,ds,hv j ds h,qK _,(hok.var j ds h).2⟩) fun id y h=>⟨hok.tok id y h,hl id y h⟩
section
variable {md:Md} {dst:Option Tmp} {ty:TypeId} {pos:String} {af:Array Edge} {gd:Option (Nat×Bool)} {ev:Operand→D} {hp:Hp} {k s n:Nat} {x y:Operand}
theorem slT(h:s<n)(hx:ev x=.ow k 0 36 n:=by exact rfl)(hy:ev y=dI .i64 (s:Int):=by exact rfl):mG prog tbl md ⟨dst,.slice 22 x (some y) none none,ty,pos,af,gd⟩ ev hp (.ow k (s*36) 36 (n - s)) hp:=by
 have:=slW (P:=prog) (tb:=tbl) (md:=md) (dst:=dst) (ty2:=ty) (pos:=pos) (af:=af) (gd:=gd) (ev:=ev) (hp:=hp) (x:=x) (lo:=some y) (hi:=none) (l:=(s:Int)) (h:=(n:Int)) tok ⟨by omega,by omega,by omega,by omega⟩ ct aT ⟨.i64,hy⟩ rfl rfl hx rfl
 rw[show ((n:Int) - (s:Int)).toNat=n - s by omega,bP,bp] at this
 exact this
theorem slHd(h:s≤n)(h0:0<n)(hx:ev x=.ow k 0 36 n:=by exact rfl)(hy:ev y=dI .i64 (s:Int):=by exact rfl):mG prog tbl md ⟨dst,.slice 22 x none (some y) none,ty,pos,af,gd⟩ ev hp (.ow k (0*36) 36 s) hp:=by
 have:=slW (P:=prog) (tb:=tbl) (md:=md) (dst:=dst) (ty2:=ty) (pos:=pos) (af:=af) (gd:=gd) (ev:=ev) (hp:=hp) (x:=x) (lo:=none) (hi:=some y) (l:=(0:Int)) (h:=(s:Int)) tok ⟨by omega,by omega,by omega,by omega⟩ ct aT rfl ⟨.i64,hy⟩ rfl hx rfl
 rw[show ((s:Int) - 0).toNat=s by omega,bp] at this
 exact this
end
section
variable {vs:List (Nat×List D)} {lv:List (Nat×Nat×Nat×TypeId)} {N n:Nat} {a:Nu}
theorem J0(hn:n≤1000000):HC prog 103 [.e (slE au [a]),dI .i64 n] ⟨vs,lv,N⟩ (.ow (N+1) 0 36 n) ⟨(N+1,dC ((cW au).f (List.replicate n a)))::vs,lv,N+1+1⟩:=by
 refine HC.of (rs:=[.tmp 4]) tok func103 rfl rfl (bc rfl) rfl (fun cx hx h0 hok=>?_)
 simp only[fj,Nat.reduceAdd,bp]
 refine rs hx fun K hK=>?_
 refine s1 (d:=dO N au ([]:List Nu)) (gl ct aT) ?_
 refine nl hK ?_
 refine AW.seq (rs hx fun K hK=>?_)
 iterate 2 refine sa ?_
 refine nl hK ?_
 refine AW.condF rfl (bk (by omega)) (AW.skip (rs hx fun K hK=>?_))
 iterate 5 refine sa ?_
 refine cq (Lg (mul1 hn)) ?_
 iterate 5 refine sa ?_
 refine nl hK ?_
 refine AW.seq (rs hx fun K hK=>?_)
 iterate 3 refine sa ?_
 iterate 2 refine ga (show decide ((0:Int)<0)=false by decide) ?_
 refine s1 (lP (show decide ((0:Int)<0)=false by decide)) ?_
 refine nl hK ?_
 refine AW.condF rfl (bk (by omega)) (AW.skip (rs hx fun K hK=>?_))
 iterate 2 refine sa ?_
 rw[eQ (show -9223372036854775808≤(n:Int) by omega) (by omega)]
 refine q1 (sMk (c:=au) (z0:=default) (v:=(n:Int)) tok ⟨by omega,by omega⟩ ct aT rfl) ?_
 rw[bP]
 refine sa ?_
 refine nl hK ?_
 have R1:wS ⟨(N+1,dC ((cW au).f (List.replicate n default)))::vs,(N,0,36,43)::lv,N+1+1⟩ (.e (slE au [a])) 36 1 ([a].flatMap au.f):=wS.dat rfl (by simp[au.h];rfl)
 refine rs hx fun K hK=>?_
 iterate 2 refine sa ?_
 refine q1 (sCpW (c:=au) (l:=List.replicate n default) (s:=[a]) (m:=1) (n:=n) tok ct aT R1 rfl aa 0 (by simp) rfl) ?_
 refine sa ?_
 refine nl hK ?_
 have hc0:lCp (List.replicate n (default:Nu)) 0 ([a].take n)=yF a n (min 1 n):=by
  cases n with
  |zero=>rfl
  |succ n=>
   unfold lCp yF
   rw[show min 1 (n+1)=1 by omega]
   simp[List.replicate_succ]
 rw[hc0]
 have FP:∀l:List Nu,ci ⟨(N+1,dC ((cW au).f l))::vs,lv,N+1+1⟩:=fun l=>hok.cons (by omega) (eo _) (ep _)
 have hNlv:∀j y,lv.lookup j=some y→((N,0,36,43)::lv).lookup j=some y:=fun j y h=>(am (by have:=hok.tok j y h;have h2:j<N:=this;omega)).trans h
 refine AW.seq (AW.block (AW.loopW (fun s:Nat=>[(7,.ow (N+1) 0 36 n),(8,dI .i64 s)]) (fun s=>⟨(N+1,dC ((cW au).f (yF a n s)))::vs,lv,N+1+1⟩) (fun s=>s≤n∧(0<n→0<s)) (fun s=>n - s) (min 1 n) ?_ ⟨by omega,by omega⟩ ?_))
 ·exact Fs (by rw[h0];show N≤N+1+1;omega) (ay _) (FP _) (fun j ds h=>by rw[wj];exact h) hNlv (bE.cons (t:=7) (d:=.ow (N+1) 0 36 n) (bE.cons (t:=8) (d:=dI .i64 (min 1 n:Nat)) bE.nil rfl rfl) rfl (aA (eo _)))
 ·rintro s ⟨hsn,hs0⟩
  refine AW.seq (rs hx fun K hK=>?_)
  iterate 4 refine sa ?_
  refine nl hK ?_
  refine AW.condS rfl (fun hb=>?_) (fun hb=>?_)
  ·have bH:s<n:=by have:=bA hb;omega
   have hs1:0<s:=hs0 (by omega)
   refine AW.skip (AW.block (rqd [] hx fun K hK=>?_))
   iterate 3 refine sa ?_
   refine q1 (slT bH) ?_
   iterate 2 refine sa ?_
   refine q1 (slHd (by omega) (by omega)) ?_
   refine q1 (sCpW (c:=au) (l:=yF a n s) (s:=((yF a n s).drop 0).take s) (m:=s) (n:=n - s) tok ct aT (wS.lst aa 0 (by rw[D5 hsn];omega)) (by rw[ee,qu,D5 hsn];omega) aa s (by rw[D5 hsn];omega) rfl) ?_
   rw[cont_cp hsn]
   iterate 2 refine sa ?_
   refine nl hK ?_
   rw[show i64.wrap ((s:Int)+(min s (n - s):Nat))=((s+min s (n - s):Nat):Int) by rw[eQ (by omega) (by omega)];omega]
   exact⟨s+min s (n - s),wkS (by rw[h0];show N≤N+1+1;omega) (ay _) (FP _) (fun j ds h=>by rw[wj];exact h) (bE.cons (t:=7) (d:=.ow (N+1) 0 36 n) (bE.cons (t:=8) (d:=dI .i64 (s+min s (n - s):Nat)) bE.nil rfl rfl) rfl (aA (eo _))),⟨by omega,by omega⟩,by omega⟩
  ·refine AW.exit ?_
   have hsn2:s=n:=by have:=de hb;omega
   subst hsn2
   have CK:yF a s s=List.replicate s a:=by unfold yF;simp
   rw[CK]
   refine rs hx fun K hK=>?_
   iterate 2 refine sa ?_
   refine nl hK ?_
   exact AW.ret (⟨[(4,.ow (N+1) 0 36 s)],wkS (by rw[h0];show N≤N+1+1;omega) (ay _) (FP _) (fun j ds h=>h) (bE.cons (t:=4) (d:=.ow (N+1) 0 36 s) bE.nil rfl (aA (eo _))),⟨_,aa,rfl⟩⟩)
end
end
theorem HC.args {P:Program}{f:FuncId}{ds ds':List D}{hp hp':Hp}{d:D}(hl:leL ds ds')(hc:HC P f ds' hp d hp'):HC P f ds hp d hp':=by
 obtain⟨h1,h2⟩:=CI hl
 refine⟨hc.1,fun B g w vs hr hsz cM=>hc.2 B g w vs hr (by omega) fun j e u he hu=>?_⟩
 obtain⟨d0,h3,h4⟩:=h2 he
 exact (cM j d0 u h3 hu).le h4
theorem T_bldL {dr:Bool}{ty:TypeId}{ev:Operand→D}{hp:Hp}{x y:Operand}{a:Nu}{k n:Nat}(hx:ev x=dG au a:=by exact rfl)(hy:ev y=.ow k 0 36 n:=by exact rfl):AVC prog tbl dr (.build 73 #[(0,x),(1,y)]) ty ev hp (Kq (.ag (aW a k n)) hp):=by
 have h0:([(0,x),(1,y)]:List (Nat×Operand)).map (fun p=>(p.1,ev p.2))=[(0,dG au a),(1,.ow k 0 36 n)]:=by simp only[j4,m9,hx,hy]
 rw[show (#[(0,x),(1,y)]:Array (Nat×Operand))=([(0,x),(1,y)]:List (Nat×Operand)).toArray from rfl,wv,h0,tO,zt]
 have hp:lY [(0,dG au a),(1,.ow k 0 36 n)]=some [(0,dC (au.f a)),(1,[.ow k 0 36 n])]:=rfl
 rw[hp]
 dsimp only
 refine⟨by decide,?_⟩
 have hz:∀zs:List D,zs.length=37→fT (n6 tbl [(0,43),(36,22)]) zs [(0,dC (au.f a)),(1,[.ow k 0 36 n])]=some (aW a k n):=fun zs hzs=>by
  have p0:n6 tbl [(0,43),(36,22)] 0=some (0,36):=rfl
  have p1:n6 tbl [(0,43),(36,22)] 1=some (36,1):=rfl
  simp only[fT,p0,p1,iI]
  rw[ah (by simp[hzs])]
  rw[ah (by simp[iI,hzs])]
  unfold aW
  rw[Eh,nd,bp,uK (by rw[iI];exact ay _),gU (by rw[iI];exact ay _),Ca (by simp[iI,hzs]),sL]
 rw[hz _ (by rfl)]
 exact Kq.here _ _
theorem w9 {vs:List (Nat×List D)}{lv:List (Nat×Nat×Nat×TypeId)}{N n:Nat}(hn:n≤1000000):HC prog 41 [dI .i64 n] ⟨vs,lv,N⟩ (.ag (aW (nOf 0) (N+3) n)) ⟨(N,aW (nOf 0) (N+3) n)::(N+3,dC ((cW au).f (List.replicate n (nOf 0))))::vs,lv,N+4⟩:=by
 refine HC.of (rs:=[.cell 2 73]) tok func41 rfl rfl (bc rfl) rfl (fun cx hx h0 hok=>?_)
 simp only[fj,Nat.reduceAdd,bp]
 refine rs hx fun K hK=>?_
 refine s1 (yd (F:=zN++[.lit (.slice none 0 0)]) zt) ?_
 refine nl hK ?_
 refine rs hx fun K hK=>?_
 refine cq (FB 0 (by omega)) ?_
 refine cq (FB 0 (by omega)) ?_
 refine s1 (kT [nOf 0] au ct aT) ?_
 refine sa ?_
 refine q1 (sHC (HC.args (ds:=[dO (N+1) au [nOf 0],dI .i64 n]) (ds':=[.e (slE au [nOf 0]),dI .i64 n]) ⟨RJ _,ax _,trivial⟩ (J0 hn)) rfl (.inr ⟨by show N+1+1≤N+1+1+1+1;omega,fun j hj=>am (by have:j<N+1+1:=hj;omega)⟩)) ?_
 refine s1 T_bldL ?_
 refine s0 (G1 (ys:=aW (nOf 0) (N+3) n) (bs:=dC (zN++[.lit (.slice none 0 0)])) (Pt.of [] [] rfl (by simp) (F':=id) fun y=>by simp) (ak (show N≠N+1+1+1 by omega) aa) rfl zt rfl (bR _ _ _) rfl) ?_
 refine nl hK ?_
 refine AW.ret ?_
 have hokF:ci ⟨(N,aW (nOf 0) (N+3) n)::(N+3,dC ((cW au).f (List.replicate n (nOf 0))))::vs,lv,N+4⟩:=(ci.cons (N:=N+4) (hok.cons (by omega) (show N+3<N+4 by omega) (ep _)) (ay _) (show N<N+4 by omega) (iL (by omega)))
 refine⟨[(2,.pt N 0)],Fs (by rw[h0];show N≤N+4;omega) (ay _) hokF (fun j ds h=>?_) (fun j y h=>(am (by have:=hok.tok j y h;have h2:j<N:=this;omega)).trans h) (bE.cons (t:=2) (d:=.pt N 0) bE.nil rfl (aA (show N<N+4 by omega))),?_⟩
 ·rcases bY h with⟨rfl,rfl⟩|⟨h1,h⟩
  ·exact aa
  rcases bY h with⟨rfl,rfl⟩|⟨h2,h⟩
  ·exact ak h1 aa
  ·exact ak h1 (ak h2 (ak h1 h))
 ·refine⟨.pt N 0,aa,⟨_,zt⟩,?_⟩
  rw[n7,zt]
  rw[show (⟨(N,aW (nOf 0) (N+3) n)::(N+3,dC ((cW au).f (List.replicate n (nOf 0))))::vs,lv,N+4⟩:Hp).vars.lookup N=some (aW (nOf 0) (N+3) n) from aa]
  dsimp only[Ty.agg]
  refine⟨show N<N+4 by omega,by rw[bR];exact ay _,?_⟩
  rw[qu,gU (by rw[bR];exact ay _)]
section
section
variable {md:Md} {dst:Option Tmp} {ty:TypeId} {pos:String} {af:Array Edge} {gd:Option (Nat×Bool)} {ev:Operand→D} {hp:Hp} {k n:Nat} {x y:Operand}
theorem slZ(hx:ev x=.ow k 0 36 n:=by exact rfl)(hy:ev y=dI .i64 (n:Int):=by exact rfl):mG prog tbl md ⟨dst,.slice 22 x (some y) none none,ty,pos,af,gd⟩ ev hp (.e (slE au [])) hp:=by
 refine (Snd.calm (dr:=md.dr) fun c5 _=>.pure fun B g w a hr xL=>?_).q (by cases md <;> rfl)
 have h1:=xL x (by simp[Op.operands])
 have h2:=xL y (by simp[Op.operands])
 rw[hx] at h1
 rw[hy] at h2
 have h2:=h2.lit
 have hs:=tok.run_sizeOf aT w
 generalize hv:a.eval x=v at h1
 cases h1 with
 |ow _ _ _ _ c hk p9 oR=>
  have hbd:=io (P:=prog) (w:=w) true n c (some (.int .i64 (n:Int))) none n n (.inr ⟨.i64,rfl⟩) (.inl ⟨rfl,rfl⟩) (ay _) p9
  have fin:∀A:Option Addr,aE c5 g w (.e (slE au [])) (.slice A 0 (c - n)):=fun A=>.e _ _ (.sl 36 0 [] A (c - n) (fun _=>undef) rfl (by decide) (cl _) (by omega) (fun h=>absurd h (by omega)) (fun _ _ _ _ h=>by simp at h) (fun _ _ h=>by simp at h))
  by_cases CK:c=n
  ·subst CK
   refine⟨.slice (some ⟨g.μ k,0,none⟩) 0 (c - c),?_,fin _⟩
   simp[execOp,Instr.sliceAt,Instr.slice,hv,h2,run_underlying (tok.slice ct rfl),hbd,hs]
  ·have fk:¬c=n:=CK
   refine⟨.slice (some ((⟨g.μ k,0,none⟩:Addr).add (n*36))) 0 (c - n),?_,fin _⟩
   simp[execOp,Instr.sliceAt,Instr.slice,hv,h2,run_underlying (tok.slice ct rfl),hbd,hs,fk]
end
theorem iaO {dr:Bool}{ty:TypeId}{ev:Operand→D}{hp:Hp}{k o i n:Nat}{kn:IntKind}{x y:Operand}(h:i<n)(hx:ev x=.ow k (o*36) 36 n)(hy:ev y=dI kn (i:Int):=by exact rfl):AVC prog tbl dr (.indexAddr 22 x y) ty ev hp (Kq (.pt k ((o+i)*36)) hp):=by
 have:=wO (P:=prog) (tb:=tbl) (dr:=dr) (ty:=ty) (ev:=ev) (hp:=hp) (x:=x) (y:=y) (v:=(i:Int)) (n:=n) (kn:=kn) ⟨by omega,by omega⟩ ct aT rfl hx rfl hy
 rw[bP] at this
 rw[bU]
 exact this
theorem bE.consX {n t:Nat}{d:D}{tm tm':List (Nat×D)}(h2:bE n tm tm')(h:tm.lookup t=some d)(hi:d.ex.idsB n=true):bE n tm ((t,d.ex)::tm'):=fun p hp=>by
 rcases kz.1 hp with rfl|hp
 ·exact⟨⟨d,h,.inr rfl⟩,hi⟩
 ·exact h2 p hp
theorem SN {vs:List (Nat×List D)}{lv:List (Nat×Nat×Nat×TypeId)}{N kd R G w nn:Nat}{C:Nat→Nat}{d:Dic}(hD:DAt vs kd R G C w d)(Pu:d.n=(nn:Int))(hw:nn+1≤w)(hw2:w≤1000000):
  HC prog 44 [.pt kd 0] ⟨vs,lv,N⟩ (.e (slE au (bQ d nn))) ⟨vs,lv,N⟩:=by
 refine HC.of (rs:=[.tmp 2]) tok func44 rfl rfl (bc rfl) rfl (fun cx hx h0 hok=>?_)
 simp only[fj,Nat.reduceAdd,bp]
 have FR:=hok.lt hD.hd
 have SV:=hok.lt hD.hG
 have NZ:=hD.lG
 refine rs hx fun K hK=>?_
 refine s1 (d:=dO N au ([]:List Nu)) (gl ct aT) ?_
 refine nl hK ?_
 refine rs hx fun K hK=>?_
 refine s1 (d:=dO (N+1) au ([]:List Nu)) (gl ct aT) ?_
 refine nl hK ?_
 obtain⟨L,hL⟩:∃L,L=w - (nn+1):=⟨_,rfl⟩
 obtain⟨sD,hs1,hs0⟩:∃sD:D,(nn+1<w→sD=.ow G ((nn+1)*36) 36 L)∧(nn+1=w→sD=.e (slE au [])):=by
  by_cases h:nn+1<w
  ·exact⟨_,fun _=>rfl,fun e=>by omega⟩
  ·exact⟨_,fun e=>absurd e h,fun _=>rfl⟩
 have hsi:sD.idsB (N+2)=true:=by
  by_cases h:nn+1<w
  ·rw[hs1 h];exact aA (show G<N+2 by omega)
  ·rw[hs0 (by omega)];rfl
 refine AW.seq (rsd [] hx fun K hK=>?_)
 iterate 4 refine sa ?_
 refine s1 (ka mh.pc hD.hd (show kd<N+1+1 by omega) tbI) ?_
 iterate 3 refine sa ?_
 refine s1 (ka dic_n hD.hd (show kd<N+1+1 by omega) tbI) ?_
 rw[Pu]
 refine sa ?_
 rw[bS]
 refine q1 (d:=sD) (by
  by_cases h:nn+1<w
  ·rw[hs1 h,hL];exact slT h
  ·have hw3:nn+1=w:=by omega
   rw[hs0 hw3]
   exact slZ rfl (by rw[←hw3];rfl)) ?_
 refine s1 (d:=dI .i64 L) (by
  by_cases h:nn+1<w
  ·exact BD ct aT rfl (hs1 h)
  ·have hL0:L=0:=by omega
   rw[hL0]
   exact Uk ct aT rfl (by show D.asSl 36 sD=_;rw[hs0 (by omega)];rfl)) ?_
 refine sa ?_
 refine nl hK ?_
 have Sh:∀u:Nat,ci ⟨vs,(N+1,u,36,43)::lv,N+1+1⟩:=fun u=>by
  refine⟨fun j ds h=>?_,fun id e h=>?_⟩
  ·obtain⟨h1,h2⟩:=hok.var j ds h
   have h1:j<N:=h1
   exact⟨show j<N+1+1 by omega,a7.2 fun d hd=>D.idsC_le (show N≤N+1+1 by omega) (a7.1 h2 d hd)⟩
  ·by_cases hid:id=N+1
   ·show id<N+1+1;omega
   ·have:=hok.tok id e (by rw[←h];exact (am hid).symm)
    have:id<N:=this
    show id<N+1+1;omega
 refine AW.block (AW.loopW (fun u:Nat=>[(3,dO (N+1) au (((d.gc.drop (nn+1)).take u).map eR)),(16,sD),(17,dI .i64 L),(18,dI .i64 u)]) (fun u=>⟨vs,(N+1,u,36,43)::lv,N+1+1⟩) (fun u=>u≤L) (fun u=>L - u) 0 ?_ (cl _) ?_)
 ·refine Fs (by rw[h0];show N≤N+1+1;omega) (ay _) (Sh 0) (fun j ds h=>h) (fun j y h=>?_) (bE.cons (t:=3) (d:=dO (N+1) au ([]:List Nu)) (bE.cons (t:=16) (d:=sD) (bE.cons (t:=17) (d:=dI .i64 L) (bE.cons (t:=18) (d:=dI .i64 (0:Nat)) bE.nil rfl rfl) rfl rfl) rfl hsi) rfl (aA (show N+1<N+1+1 by omega)))
  by_cases hj:j=N+1
  ·subst hj
   rw[←h]
   exact aa.trans aa.symm
  ·have h1:lv.lookup j=some y:=by rw[←h];exact (am hj).symm
   have h2:j<N:=hok.tok j y h1
   exact (am hj).trans ((am (show j≠N by omega)).trans h1)
 ·intro u hu
  have Px:(((d.gc.drop (nn+1)).take u).map eR).length=u:=by rw[bh,ee,eV];omega
  refine rs hx fun K hK=>?_
  refine sa ?_
  refine nl hK ?_
  refine AW.seq (AW.condS rfl (fun hb=>?_) (fun hb=>?_))
  ·have LQ:u<L:=by have:=bA hb;omega
   refine AW.skip (AW.seq (AW.block (rs hx fun K hK=>?_)))
   refine s1 (iaO (o:=nn+1) LQ (hs1 (by omega))) ?_
   refine s1 (ldN (Pt.el d.gc (nn+1+u) (by omega)) hD.hG (show G<N+1+1 by omega)) ?_
   refine s1 KR ?_
   refine s0 (stZ aa) ?_
   refine nl hK ?_
   refine rq hx fun K hK=>?_
   refine sa ?_
   refine s1 (ldN (Pt.idN _) aa (eo _)) ?_
   refine cq (Jj _) ?_
   refine s1 (kT [eR d.gc[nn+1+u]!] au ct aT) ?_
   have BR:((d.gc.drop (nn+1)).take u).map eR++[eR d.gc[nn+1+u]!]=((d.gc.drop (nn+1)).take (u+1)).map eR:=by
    rw[Ae,jz,na,bJ d.gc (nn+1+u) (by omega),cz (by omega)]
    rfl
   refine s1 (rU (id:=N+1) (l:=((d.gc.drop (nn+1)).take u).map eR) (l':=[eR d.gc[nn+1+u]!]) ct aT (by rw[cu,Px];show (u+1)*136≤140737488355328;omega) rfl rfl rfl rfl (by rw[Px];exact (am (show N+1≠N+1+1+1 by omega)).trans aa)) ?_
   rw[BR]
   refine sa ?_
   refine nl hK ?_
   refine rq hx fun K hK=>?_
   iterate 2 refine sa ?_
   refine nl hK ?_
   rw[bS]
   have hlu1:(((d.gc.drop (nn+1)).take (u+1)).map eR).length=u+1:=by rw[←BR,cu,Px];rfl
   refine⟨u+1,Fs (by rw[h0];show N≤N+1+1;omega) (show N+1+1≤N+1+1+1+1 by omega) (Sh (u+1)) (fun j ds h=>?_) (fun j y h=>?_) (bE.cons (t:=3) (d:=dO (N+1) au (((d.gc.drop (nn+1)).take (u+1)).map eR)) (bE.cons (t:=16) (d:=sD) (bE.cons (t:=17) (d:=dI .i64 L) (bE.cons (t:=18) (d:=dI .i64 (u+1:Nat)) bE.nil rfl rfl) rfl rfl) rfl hsi) rfl (aA (show N+1<N+1+1 by omega))),LQ,by omega⟩
   ·have hj:j<N:=hok.lt h
    exact ak (show j≠N+1+1 by omega) (ak (show j≠N+1+1 by omega) h)
   ·by_cases hj:j=N+1
    ·subst hj
     have h1:some (u+1,36,43)=some y:=by rw[←h];exact aa.symm
     rw[←h1]
     exact aa.trans (by rw[hlu1])
    ·have h1:lv.lookup j=some y:=by rw[←h];exact (am hj).symm
     have h2:j<N:=hok.tok j y h1
     exact (am hj).trans ((am (show j≠N+1+1+1 by omega)).trans ((am hj).trans h1))
  ·refine AW.exit ?_
   have LQ:u=L:=by have:=de hb;omega
   refine rs hx fun K hK=>?_
   iterate 2 refine sa ?_
   refine nl hK ?_
   refine AW.ret ?_
   have vE:((d.gc.drop (nn+1)).take u).map eR=bQ d nn:=by
    unfold bQ
    rw[gU (by rw[eV];omega)]
   rw[vE]
   exact⟨[(2,D.ex (dO (N+1) au (bQ d nn)))],Fs (by rw[h0];exact ay N) (show N≤N+1+1 by omega) hok (fun j ds h=>h) (fun j y h=>(am (by have h2:j<N:=hok.tok j y h;omega)).trans h) (bE.consX bE.nil rfl rfl),⟨_,aa,rfl⟩⟩
end
section
section
variable {vs vs2 oY:List (Nat×List D)} {lv Fa:List (Nat×Nat×Nat×TypeId)} {N M n2 k:Nat}
theorem ci.up(hok:ci ⟨vs,lv,N⟩)(h:N≤M):ci ⟨vs,lv,M⟩:=
 ⟨fun j es hj=>by obtain⟨h1,h2⟩:=hok.var j es hj;exact⟨bG h1 h,a7.2 fun d hd=>D.idsC_le h (a7.1 h2 d hd)⟩,fun id e hi=>bG (hok.tok id e hi) h⟩
theorem ci.consM {ds:List D}(hok:ci ⟨vs,lv,M⟩)(hk:k<M)(hd:ds.all (D.idsC M)=true):ci ⟨(k,ds)::vs,lv,M⟩:=hok.cons (ay M) hk hd
theorem wk1 {x:Cx}{tm tm':List (Nat×D)}{vs0:List (Nat×List D)}{lv0:List (Nat×Nat×Nat×TypeId)}{N0 n':Nat}(h0:x.hp0=⟨vs0,lv0,N0⟩)(hN:N0≤n':=by omega)(hn:n'≤n2:=by omega)(hok:ci ⟨oY,lv,n'⟩:=by (repeat (first|assumption|refine ci.consM ?_ (by omega) (by (first|exact ep _|exact iL (by omega)|exact rB (by omega) (by omega)|assumption|exact rfl|(simp only[iK,kQ,fM];exact aA (by omega))))|exact ci.up (by assumption) (by omega))))
  (hv:∀j ds,oY.lookup j=some ds→vs2.lookup j=some ds:=by (intro j ds h;(repeat (rcases bY h with⟨rfl,rfl⟩|⟨hj,h⟩;·(repeat (first|exact aa|assumption|refine ak (by first|assumption|exact mi (by assumption)|omega) ?_))));have hjN:=ci.lt (by assumption) h;(repeat (first|exact aa|assumption|refine ak (by first|assumption|exact mi (by assumption)|omega) ?_)))) (ht:bE n' tm tm':=by (repeat (first|exact bE.nil|refine bE.cons ?_ (by exact rfl) (by (first|exact rfl|assumption|exact aA (by omega)|exact a7.2 (fun k hk=>aA (by simp only[kz,ql,or_false] at hk;omega))))))):Wk x tm ⟨vs2,lv,n2⟩ tm' ⟨oY,lv,n'⟩:=wkS (by rw[h0];exact hN) hn hok hv ht
theorem rt1 {x:Cx}{tm:List (Nat×D)}{q:Nat}{d:D}(h0:x.hp0=⟨vs,lv,N⟩)(hok:ci ⟨oY,lv,N⟩:=by (repeat (first|assumption|refine ci.consM ?_ (by omega) (by (first|exact ep _|exact iL (by omega)|exact rB (by omega) (by omega)|assumption|exact rfl|(simp only[iK,kQ,fM];exact aA (by omega))))|exact ci.up (by assumption) (by omega))))(hN:N≤n2:=by omega)(hv:∀j ds,oY.lookup j=some ds→vs2.lookup j=some ds:=by (intro j ds h;(repeat (rcases bY h with⟨rfl,rfl⟩|⟨hj,h⟩;·(repeat (first|exact aa|assumption|refine ak (by first|assumption|exact mi (by assumption)|omega) ?_))));have hjN:=ci.lt (by assumption) h;(repeat (first|exact aa|assumption|refine ak (by first|assumption|exact mi (by assumption)|omega) ?_))))(hq:tm.lookup q=some d:=by exact rfl)(hd:d.idsB N=true:=by (first|exact rfl|assumption|exact aA (by omega)|exact a7.2 (fun k hk=>aA (by simp only[kz,ql,or_false] at hk;omega)))):
  ∃tm',Wk x tm ⟨vs2,lv,n2⟩ tm' ⟨oY,lv,N⟩∧te tbl [.tmp q] tm' ⟨oY,lv,N⟩ d:=
 ⟨[(q,d)],wkS (by rw[h0];exact ay N) hN hok hv (bE.nil.cons hq hd),⟨d,aa,rfl⟩⟩
theorem rt2 {x:Cx}{tm:List (Nat×D)}{q p:Nat}{d e:D}(h0:x.hp0=⟨vs,lv,N⟩)(hok:ci ⟨oY,lv,N⟩:=by (repeat (first|assumption|refine ci.consM ?_ (by omega) (by (first|exact ep _|exact iL (by omega)|exact rB (by omega) (by omega)|assumption|exact rfl|(simp only[iK,kQ,fM];exact aA (by omega))))|exact ci.up (by assumption) (by omega))))(hN:N≤n2:=by omega)(hv:∀j ds,oY.lookup j=some ds→vs2.lookup j=some ds:=by (intro j ds h;(repeat (rcases bY h with⟨rfl,rfl⟩|⟨hj,h⟩;·(repeat (first|exact aa|assumption|refine ak (by first|assumption|exact mi (by assumption)|omega) ?_))));have hjN:=ci.lt (by assumption) h;(repeat (first|exact aa|assumption|refine ak (by first|assumption|exact mi (by assumption)|omega) ?_))))(hq:tm.lookup q=some d:=by exact rfl)(hp:tm.lookup p=some e:=by exact rfl)(hd:d.idsB N=true:=by (first|exact rfl|assumption|exact aA (by omega)|exact a7.2 (fun k hk=>aA (by simp only[kz,ql,or_false] at hk;omega))))(he:e.idsB N=true:=by (first|exact rfl|assumption|exact aA (by omega)|exact a7.2 (fun k hk=>aA (by simp only[kz,ql,or_false] at hk;omega))))(fk:p≠q:=by decide):
  ∃tm',Wk x tm ⟨vs2,lv,n2⟩ tm' ⟨oY,lv,N⟩∧te tbl [.tmp q,.tmp p] tm' ⟨oY,lv,N⟩ (.tu [d,e]):=
 ⟨[(q,d),(p,e)],wkS (by rw[h0];exact ay N) hN hok hv ((bE.nil.cons hp he).cons hq hd),⟨d,aa,⟨e,(am fk).trans aa,rfl⟩⟩⟩
end
section
variable {md:Md} {ops:Array Oper} {K:List (Nat×D)→Hp→Prop} {os:List Oper} {tm:List (Nat×D)} {hp hp':Hp} {t s:Tmp} {op:Op} {ty:TypeId} {pos:String} {af:Array Edge} {d:D} {j k o n i:Nat} {want c:Bool} {F F2:List D} {F':List D→List D} {a b:Nu} {x y:Operand}
theorem gn(hw:c= !want)(h2:aV prog tbl md ops K os ((t,.tu [])::tm) hp)(hj:(ops[j]?).bind (·.dst)=some s:=by exact rfl)(hc:tm.lookup s=some (.e (.lit (.bool c))):=by exact rfl):aV prog tbl md ops K (⟨some t,op,ty,pos,af,some (j,want)⟩::os) tm hp:=Pe hj hc hw h2
theorem gm(h2:aV prog tbl md ops K os ((t,.tu [])::tm) hp)(hj:(ops[j]?).bind (·.dst)=some s:=by exact rfl)(hc:tm.lookup s=some (.tu []):=by exact rfl):aV prog tbl md ops K (⟨some t,op,ty,pos,af,some (j,want)⟩::os) tm hp:=nn_t hj hc h2
theorem l1(L:Pt F o (dC (au.f a)) F')(h2:aV prog tbl md ops K os ((t,dG au a)::tm) hp)(hx:evD tm x=.pt k o:=by exact rfl)(hv:hp.vars.lookup k=some F:=by (repeat (first|exact aa|assumption|refine ak (by first|assumption|exact mi (by assumption)|omega) ?_)))(hk:k<hp.next:=by (first|omega|(dsimp only;omega)))(hn:md.nc tbl (.load 43 x)=true:=by exact rfl):aV prog tbl md ops K (⟨some t,.load 43 x,ty,pos,af,none⟩::os) tm hp:=s1 (ldN L hv hk hx) h2 hn
theorem t1 {vs:List (Nat×List D)}{lv:List (Nat×Nat×Nat×TypeId)}{N:Nat}(L:Pt F o (dC (au.f a)) F')(h3:F' (dC (au.f b))=F2)(h2:aV prog tbl md ops K os tm ⟨(k,F2)::vs,lv,N⟩)(hx:evD tm x=.pt k o:=by exact rfl)(hv:vs.lookup k=some F:=by (repeat (first|exact aa|assumption|refine ak (by first|assumption|exact mi (by assumption)|omega) ?_)))(hy:evD tm y=dG au b:=by exact rfl)(hn:md.nc tbl (.store 43 x y)=true:=by exact rfl):aV prog tbl md ops K (⟨none,.store 43 x y,ty,pos,af,none⟩::os) tm ⟨vs,lv,N⟩:=s0 (stN L hv h3 hx hy rfl) h2 hn
theorem l1g(L:Pt F o (dC (au.f a)) F')(hw:c=want)(h2:aV prog tbl md ops K os ((t,dG au a)::tm) hp)(hx:evD tm x=.pt k o:=by exact rfl)(hv:hp.vars.lookup k=some F:=by (repeat (first|exact aa|assumption|refine ak (by first|assumption|exact mi (by assumption)|omega) ?_)))(hk:k<hp.next:=by (first|omega|(dsimp only;omega)))(hj:(ops[j]?).bind (·.dst)=some s:=by exact rfl)(hc:tm.lookup s=some (.e (.lit (.bool c))):=by exact rfl)(hn:md.nc tbl (.load 43 x)=true:=by exact rfl):aV prog tbl md ops K (⟨some t,.load 43 x,ty,pos,af,some (j,want)⟩::os) tm hp:=g1 hw (ldN L hv hk hx) h2 hj hc hn
theorem cqg {f:FuncId}{la:List Operand}{ts:Array TypeId}{ds:List D}{r:D}(hc:ar prog f ds r)(hw:c=want)(h2:aV prog tbl md ops K os ((t,r)::tm) hp)(hj:(ops[j]?).bind (·.dst)=some s:=by exact rfl)(hg:tm.lookup s=some (.e (.lit (.bool c))):=by exact rfl)(js:((la.map (evD tm)).map D.ex).all D.pure=true:=by repeat (first|exact pn|refine pA (dW _ _) ?_|refine pA rfl ?_))(hl:leL ((la.map (evD tm)).map D.ex) ds:=by repeat (first|exact lAn|refine lC (ro _ _) ?_|refine lC (ax _) ?_))(hr:r.pure=true∨∃ds,r=.tu ds:=by (first|exact .inl (kG _ _)|exact .inl rfl|exact .inr ⟨_,rfl⟩)):
  aV prog tbl md ops K (⟨some t,.call ⟨.value (.func f),la.toArray,ts⟩,ty,pos,af,some (j,want)⟩::os) tm hp:=sqg tok hj hg hw hc js hl hr h2
theorem n1 {vs:List (Nat×List D)}{lv:List (Nat×Nat×Nat×TypeId)}{N:Nat}(h2:aV prog tbl md ops K os ((t,.pt N 0)::tm) ⟨(N,dC zN)::vs,lv,N+1⟩)(hn:md.nc tbl (.alloc 43)=true:=by exact rfl):aV prog tbl md ops K (⟨some t,.alloc 43,ty,pos,af,none⟩::os) tm ⟨vs,lv,N⟩:=s1 KR h2 hn
theorem z1 {vs:List (Nat×List D)}{lv:List (Nat×Nat×Nat×TypeId)}{N:Nat}(h2:aV prog tbl md ops K os tm ⟨(k,(dC (au.f b)))::vs,lv,N⟩)(hx:evD tm x=.pt k 0:=by exact rfl)(hv:vs.lookup k=some (dC zN):=by (repeat (first|exact aa|assumption|refine ak (by first|assumption|exact mi (by assumption)|omega) ?_)))(hy:evD tm y=dG au b:=by exact rfl)(hn:md.nc tbl (.store 43 x y)=true:=by exact rfl):aV prog tbl md ops K (⟨none,.store 43 x y,ty,pos,af,none⟩::os) tm ⟨vs,lv,N⟩:=s0 (stZ hv hx hy rfl) h2 hn
theorem c1 {tt:TypeId}{ti:TyE}(L:Pt F o [d] F')(h2:aV prog tbl md ops K os ((t,d)::tm) hp)(hx:evD tm x=.pt k o:=by exact rfl)(hv:hp.vars.lookup k=some F:=by (repeat (first|exact aa|assumption|refine ak (by first|assumption|exact mi (by assumption)|omega) ?_)))(hk:k<hp.next:=by (first|omega|(dsimp only;omega)))(ht:tbl tt=some ti:=by exact tbI)(hg:ti.ty.agg=false:=by exact rfl)(hn:md.nc tbl (.load tt x)=true:=by exact rfl):aV prog tbl md ops K (⟨some t,.load tt x,ty,pos,af,none⟩::os) tm hp:=s1 (ka L hv hk ht hg hx) h2 hn
theorem c1g {tt:TypeId}{ti:TyE}(L:Pt F o [d] F')(hw:c=want)(h2:aV prog tbl md ops K os ((t,d)::tm) hp)(hx:evD tm x=.pt k o:=by exact rfl)(hv:hp.vars.lookup k=some F:=by (repeat (first|exact aa|assumption|refine ak (by first|assumption|exact mi (by assumption)|omega) ?_)))(hk:k<hp.next:=by (first|omega|(dsimp only;omega)))(ht:tbl tt=some ti:=by exact tbI)(hg:ti.ty.agg=false:=by exact rfl)(hj:(ops[j]?).bind (·.dst)=some s:=by exact rfl)(hc:tm.lookup s=some (.e (.lit (.bool c))):=by exact rfl)(hn:md.nc tbl (.load tt x)=true:=by exact rfl):aV prog tbl md ops K (⟨some t,.load tt x,ty,pos,af,some (j,want)⟩::os) tm hp:=g1 hw (ka L hv hk ht hg hx) h2 hj hc hn
theorem p1 {tt:TypeId}{ti:TyE}{bs:List D}(L:Pt F o bs F')(hz:bs.length=ti.size)(h2:aV prog tbl md ops K os ((t,.ag bs)::tm) hp)(hx:evD tm x=.pt k o:=by exact rfl)(hv:hp.vars.lookup k=some F:=by (repeat (first|exact aa|assumption|refine ak (by first|assumption|exact mi (by assumption)|omega) ?_)))(hk:k<hp.next:=by (first|omega|(dsimp only;omega)))(ht:tbl tt=some ti:=by exact tbI)(hg:ti.ty.agg=true:=by exact rfl)(hn:md.nc tbl (.load tt x)=true:=by exact rfl):aV prog tbl md ops K (⟨some t,.load tt x,ty,pos,af,none⟩::os) tm hp:=s1 (Ch L hv hk ht hz hg hx) h2 hn
theorem v1 {vs:List (Nat×List D)}{lv:List (Nat×Nat×Nat×TypeId)}{N:Nat}{tt:TypeId}{ti:TyE}{bs ys:List D}(L:Pt F o bs F')(hz:bs.length=ti.size)(hl:ys.length=bs.length)(h3:F' ys=F2)(h2:aV prog tbl md ops K os tm ⟨(k,F2)::vs,lv,N⟩)(hx:evD tm x=.pt k o:=by exact rfl)(hv:vs.lookup k=some F:=by (repeat (first|exact aa|assumption|refine ak (by first|assumption|exact mi (by assumption)|omega) ?_)))(hyc:(evD tm y).cells=some ys:=by exact rfl)(ht:tbl tt=some ti:=by exact tbI)(hn:md.nc tbl (.store tt x y)=true:=by exact rfl):aV prog tbl md ops K (⟨none,.store tt x y,ty,pos,af,none⟩::os) tm ⟨vs,lv,N⟩:=s0 (G1 L hv hyc ht hz hl h3 hx rfl) h2 hn
theorem i1(h:i<n)(h2:aV prog tbl md ops K os ((t,.pt k (i*36))::tm) hp)(hx:evD tm x=.ow k 0 36 n:=by exact rfl)(hy:evD tm y=dI .i64 (i:Int):=by exact rfl)(hn:md.nc tbl (.indexAddr 22 x y)=true:=by exact rfl):aV prog tbl md ops K (⟨some t,.indexAddr 22 x y,ty,pos,af,none⟩::os) tm hp:=s1 (iaN h hx hy) h2 hn
theorem r1(h:i<n)(h2:aV prog tbl md ops K os ((t,.pt k (i*38))::tm) hp)(hx:(evD tm x).toOw=.ow k 0 38 n:=by exact rfl)(hy:(evD tm y).toOw=dI .i64 (i:Int):=by exact rfl)(hn:md.nc tbl (.indexAddr 71 x y)=true:=by exact rfl):aV prog tbl md ops K (⟨some t,.indexAddr 71 x y,ty,pos,af,none⟩::os) tm hp:=stG (d:=.pt k (i*38)) tok (iaR h hx hy) h2 hn
theorem r1g'(h:i<n)(hw:c=want)(h2:aV prog tbl md ops K os ((t,.pt k (i*38))::tm) hp)(hx:evD tm x=.gw k 38 n:=by exact rfl)(hy:evD tm y=dI .i64 (i:Int):=by exact rfl)(hj:(ops[j]?).bind (·.dst)=some s:=by exact rfl)(hc:tm.lookup s=some (.e (.lit (.bool c))):=by exact rfl)(hn:md.nc tbl (.indexAddr 71 x y)=true:=by exact rfl):aV prog tbl md ops K (⟨some t,.indexAddr 71 x y,ty,pos,af,some (j,want)⟩::os) tm hp:=
 Nq hj hc (by subst hw;cases c <;> rfl) (mG.toOw ((AVC.snd (o:=⟨some t,.indexAddr 71 x y,ty,pos,af,some (j,want)⟩) tok (iaR h (by rw[hx];rfl) (by rw[hy];rfl))).q1 hn)) h2
theorem a1 {vs:List (Nat×List D)}{lv:List (Nat×Nat×Nat×TypeId)}{N:Nat}{tt:TypeId}{ti:TyE}{F:List E}(ht:tbl tt=some ti)(h2:aV prog tbl md ops K os ((t,.pt N 0)::tm) ⟨(N,dC F)::vs,lv,N+1⟩)(hz:ti.zero.map E.lit=F:=by kernel_rfl)(hn:md.nc tbl (.alloc tt)=true:=by exact rfl):aV prog tbl md ops K (⟨some t,.alloc tt,ty,pos,af,none⟩::os) tm ⟨vs,lv,N⟩:=s1 (yd ht hz) h2 hn
end
end
def rv(x:Nu):Rat:=(cm x.1).getD 0
theorem bC {x:Nu}:aw x=true↔cm x.1=some (rv x):=by
 rw[ez];unfold rv
 cases cm x.1 <;> simp
theorem J3 {x:Nu}(h:aw x=true):lR (rv x):=(dm.1 (bC.1 h)).1
theorem CN {x:Nu}(h:aw x=true):x=nuR (some (rv x)):=Subtype.ext (Tf (bC.1 h))
theorem DU {x y:Nu}(hx:aw x=true)(hy:aw y=true)(h:rv x=rv y):x=y:=by
 rw[CN hx,CN hy,h]
theorem py {o:Option Rat}(h:Bh o):cm (nuR o).1=o:=Aw h
theorem tw {q:Rat}(h:lR q):aw (nuR (some q))=true∧rv (nuR (some q))=q:=by
 have:cm (nuR (some q)).1=some q:=py (o:=some q) fun p hp=>by injection hp with hp;rw[←hp];exact h
 rw[ez];unfold rv
 rw[this]
 exact⟨rfl,rfl⟩
theorem fit0:lR 0:=⟨by decide,by decide⟩
theorem fit1:lR 1:=⟨by decide,by decide⟩
theorem LIM_one:1<LIM:=by decide
theorem of0:aw (nOf 0)=true∧rv (nOf 0)=0:=tw (q:=((0:Int):Rat)) fit0
theorem of1:aw (nOf 1)=true∧rv (nOf 1)=1:=tw (q:=((1:Int):Rat)) fit1
theorem ofm1:aw (nOf (-1))=true∧rv (nOf (-1))=-1:=tw (q:=((-1:Int):Rat)) (J8 fit1)
theorem rf {x:Nu}(h:aw x=true):bI x=(rv x).num.sign:=by rw[AV,bC.1 h];rfl
theorem zx {x:Nu}(h:aw x=true):bI x=0↔rv x=0:=by
 rw[rf h,Bt]
 exact Rat.num_eq_zero
theorem JB {q:Rat}:0<q.num↔0<q:=by
 rw[Rat.lt_iff];simp
theorem JC {q:Rat}:q.num<0↔q<0:=by
 rw[Rat.lt_iff];simp
theorem Jv {x:Nu}(h:aw x=true):0<bI x↔0<rv x:=by
 rw[rf h,Int.sign_pos_iff];exact JB
theorem tr {x:Nu}(h:aw x=true):bI x<0↔rv x<0:=by
 rw[rf h,Et];exact JC
theorem HD {x y:Nu}(hx:aw x=true)(hy:aw y=true)(h:aw (jA x y)=true):rv (jA x y)=rv x+rv y:=by
 have h1:=bC.1 h
 rw[pP] at h1 ⊢
 rw[py (zI _ _),bC.1 hx,bC.1 hy] at h1
 have h2:Cn (rv x) (rv y)=some (rv (nuR (Hz (some (rv x)) (some (rv y))))):=h1
 rw[bC.1 hx,bC.1 hy]
 unfold Cn at h2
 split at h2
 ·injection h2 with h2;exact h2.symm
 ·cases h2
theorem HB {x y:Nu}(hx:aw x=true)(hy:aw y=true)(h:aw (lQ x y)=true):rv (lQ x y)=rv x*rv y:=by
 have h1:=bC.1 h
 rw[rh] at h1 ⊢
 rw[py (Do _ _)] at h1
 rw[bC.1 hx,bC.1 hy] at h1 ⊢
 have h2:AM (rv x) (rv y)=some (rv (nuR (AS (some (rv x)) (some (rv y))))):=h1
 unfold AM at h2
 split at h2
 ·injection h2 with h2;exact h2.symm
 ·cases h2
theorem wm {x y:Nu}(h:aw (jA x y)=true):aw x=true∧aw y=true:=by
 rw[ez,pP,py (zI _ _)] at h
 rw[ez,ez]
 cases h1:cm x.1 <;> cases h2:cm y.1 <;> simp_all [Hz]
theorem SZ {x y:Nu}(h:aw (lQ x y)=true):aw x=true∧aw y=true:=by
 rw[ez,rh,py (Do _ _)] at h
 rw[ez,ez]
 cases h1:cm x.1 <;> cases h2:cm y.1 <;> simp_all [AS]
theorem qL {x:Nu}:aw (eR x)=aw x:=by
 rw[ez,ez,zK,py (Dm (DX _))]
 cases cm x.1 <;> rfl
theorem lJ {x:Nu}:rv (eR x)=-rv x:=by
 unfold rv
 rw[zK,py (Dm (DX _))]
 cases cm x.1
 ·simp[Pc]
 ·rfl
theorem tK {x y:Nu}(h:aw (nV x y)=true):aw x=true∧aw y=true∧rv y≠0∧rv (nV x y)=rv x / rv y:=by
 have h1:=bC.1 h
 rw[Dq] at h1 ⊢
 rw[py (Rv _ _)] at h1
 have hx:aw x=true:=by
  rw[ez]
  cases h2:cm x.1 with
  |some _=>rfl
  |none=>rw[h2] at h1;cases h1
 have hy:aw y=true:=by
  rw[ez]
  cases h2:cm y.1 with
  |some _=>rfl
  |none=>rw[h2] at h1;unfold FI AS Lz at h1;cases h3:cm x.1 <;> simp[h3] at h1
 rw[bC.1 hx,bC.1 hy] at h1 ⊢
 by_cases h0:rv y=0
 ·unfold FI AS Lz at h1
  simp[h0] at h1
 ·have h2:AM (rv x) (rv y)⁻¹=some (rv (nuR (FI (some (rv x)) (some (rv y))))):=by
   rw[←h1]
   unfold FI AS Lz
   simp[h0]
  refine⟨hx,hy,h0,?_⟩
  unfold AM at h2
  split at h2
  ·injection h2 with h2;rw[←h2,iA]
  ·cases h2
theorem Gu {q y:Nu}(hq:aw q=true)(h0:rv q=0)(hy:aw y=true):lQ q y=nOf 0:=by
 unfold nOf
 rw[rh,bC.1 hq,bC.1 hy,h0]
 show nuR (AM 0 (rv y))=_
 unfold AM
 rw[Rat.zero_mul,ai fit0]
 rfl
theorem yy {q:Nu}(hq:aw q=true):lQ q (nOf 0)=nOf 0:=by
 have h1:cm (nOf 0).1=some 0:=by have:=bC.1 of0.1;rw[of0.2] at this;exact this
 rw[rh,bC.1 hq,h1]
 show nuR (AM (rv q) 0)=_
 unfold AM
 rw[rL,ai fit0]
 rfl
theorem Gp {x:Rat}(h:lR x):Cn x 0=some x:=by
 unfold Cn
 rw[ai,Rat.add_zero]
 have h1:Nat.gcd x.den (0:Rat).den=1:=Nat.gcd_one_right _
 rw[h1]
 have e1:(0:Rat).den=1:=rfl
 have e2:(0:Rat).num=0:=rfl
 have:=LIM_one
 rw[e1,e2]
 simp only[mS,Int.mul_one,Iq,Int.add_zero,xZ]
 exact⟨by simpa using h.1,by simp;omega,by simpa using h.1,h.2⟩
theorem w5 {x:Nu}(hx:aw x=true):jA x (nOf 0)=x:=by
 have h1:=bC.1 hx
 rw[pP,h1,show cm (nOf 0).1=some 0 from by have:=bC.1 of0.1;rw[of0.2] at this;exact this]
 show nuR (Cn (rv x) 0)=x
 rw[Gp (J3 hx)]
 exact (CN hx).symm
theorem Gv {x q y:Nu}(hx:aw x=true)(hq:aw q=true)(hy:aw y=true)(h0:bI q=0):jA x (lQ q y)=x:=by
 rw[Gu hq ((zx hq).1 h0) hy,w5 hx]
theorem good0 {x:Nu}(h:aw x=true)(h0:bI x=0):x=nOf 0:=DU h of0.1 (((zx h).1 h0).trans of0.2.symm)
structure Lin where
 k:Nu
 c:List Nu
instance:Inhabited Lin:=⟨⟨default,[]⟩⟩
def goodR(l:Lin):Bool:=fS l.k l.c
def AO(l row:Lin)(s:Nat):Lin:=⟨jA l.k (lQ l.c[s]! row.k),(List.range l.c.length).map fun t=>if t=s then nOf 0 else jA l.c[t]! (lQ l.c[s]! row.c[t]!)⟩
theorem Jq(p:Nu)(l:List Nu):∀t,t≤l.length→si p t l=(l.take t).map (fun x=>nV (eR x) p)++l.drop t
 |0,_=>by simp[si]
 |t+1,h=>by
  have ih:=Jq p l t (by omega)
  unfold si
  have hl:((l.take t).map fun x=>nV (eR x) p).length=t:=by simp;omega
  have hg:(si p t l)[t]! =l[t]:=by
   rw[ih,yJ,qm (by omega),hl,yL,na,iB,cz (by omega)]
   rfl
  rw[hg,ih,List.set_append_right _ _ (by omega),hl,yL,EH (by omega),List.set_cons_zero,Ae,cz (by omega)]
  simp only[jz,c0,j4,m9,Ep,nd,Option.toList]
theorem OZ(p:Nu)(l:List Nu):si p l.length l=l.map fun x=>nV (eR x) p:=by
 rw[Jq p l _ (ay _)];simp
theorem vG {α:Type}[Inhabited α]{l:List α}{i:Nat}(h:i<l.length):l[i]? =some l[i]! :=by rw[bJ l i h];exact cz h
theorem dP {α:Type}[Inhabited α]{l:List α}{i:Nat}{x:α}(h:l[i]? =some x):l[i]! =x:=by rw[yJ,h];rfl
theorem O6 {n i:Nat}(h:i<n):(List.range n)[i]? =some i:=by rw[cz (by simpa using h),MV]
theorem bX {α:Type}{n i:Nat}(f:Nat→α)(h:i<n):((List.range n).map f)[i]? =some (f i):=by rw[dQ,O6 h];rfl
theorem mW {α:Type}[Inhabited α]{l:List α}{n:Nat}{f:Nat→α}(hl:l.length=n)(h:∀i,i<n→l[i]! =f i):l=(List.range n).map f:=by
 apply KB
 intro i
 by_cases hi:i<n
 ·rw[vG (by omega),bX f hi,h i hi]
 ·rw[rH (by omega),rH (by simp;omega)]
theorem ew {α:Type}[Inhabited α]{l:List α}{i j:Nat}{x:α}(hj:j<l.length):(l.set i x)[j]! =if i=j then x else l[j]! :=by
 apply dP
 rw[List.getElem?_set]
 by_cases h:i=j
 ·subst h;simp[hj]
 ·rw[ah h,ah h,vG hj]
theorem IE(q:Nu)(xc:List Nu)(s:Nat)(l:List Nu):∀t i,i<l.length→(xA q xc s t l)[i]! =if i<t∧i≠s then jA l[i]! (lQ q xc[i]!) else l[i]!
 |0,i,_=>by rw[ah (by omega)];rfl
 |t+1,i,h=>by
  have ih:=IE q xc s l t
  unfold xA
  by_cases qM:(t:Int)=(s:Int)
  ·rw[ai qM,ih i h]
   by_cases hi:i<t∧i≠s
   ·rw[ai hi,ai (by omega)]
   ·rw[ah hi,ah (by omega)]
  ·rw[ah qM,ew (by rw[p7];exact h)]
   by_cases xN:t=i
   ·subst xN
    rw[ai rfl,ai (by omega),ih t h,ah (by omega)]
   ·rw[ah xN,ih i h]
    by_cases hi:i<t∧i≠s
    ·rw[ai hi,ai (by omega)]
    ·rw[ah hi,ah (by omega)]
theorem CT(q:Nu)(xc:List Nu)(l:List Nu):∀t i,i<l.length→(xA q xc (-1) t l)[i]! =if i<t then jA l[i]! (lQ q xc[i]!) else l[i]!
 |0,i,_=>by rw[ah (by omega)];rfl
 |t+1,i,h=>by
  have ih:=CT q xc l t
  unfold xA
  rw[ah (by omega),ew (by rw[p7];exact h)]
  by_cases xN:t=i
  ·subst xN
   rw[ai rfl,ai (by omega),ih t h,ah (by omega)]
  ·rw[ah xN,ih i h]
   by_cases hi:i<t
   ·rw[ai hi,ai (by omega)]
   ·rw[ah hi,ah (by omega)]
theorem all_get {l:List Nu}(h:l.all aw=true){i:Nat}(hi:i<l.length):aw l[i]! =true:=by
 rw[bJ l i hi];exact a7.1 h _ (nA hi)
theorem Ii {l:List Nu}(h:∀i,i<l.length→aw l[i]! =true):l.all aw=true:=by
 rw[a7]
 intro x hx
 obtain⟨i,hi,rfl⟩:=wC.1 hx
 have:=h i hi
 rwa[bJ l i hi] at this
theorem bg {k:Nu}{c:List Nu}:fS k c=true↔aw k=true∧∀i,i<c.length→aw c[i]! =true:=by
 unfold fS
 rw[cj]
 exact⟨fun h=>⟨h.1,fun i hi=>all_get h.2 hi⟩,fun h=>⟨h.1,Ii h.2⟩⟩
def gL(k:Nu)(c:List Nu)(r1:Row)(s:Nat):Lin:=⟨wK c[s]! r1.k k,tT c[s]! r1.c s (c.set s (nOf 0))⟩
theorem q9(k:Nu)(c:List Nu)(r1:Row)(s:Nat):(gL k c r1 s).c.length=c.length:=by unfold gL;rw[tS,cU]
theorem putP_eq {k:Nu}{c:List Nu}{r1:Row}{s:Nat}(hg:fS k c=true)(hr:fS r1.k r1.c=true)(hs:s<c.length)(hl:r1.c.length=c.length):gL k c r1 s=AO ⟨k,c⟩ ⟨r1.k,r1.c⟩ s:=by
 obtain⟨h1,h2⟩:=bg.1 hg
 obtain⟨h3,h4⟩:=bg.1 hr
 have hq:=h2 s hs
 unfold gL AO wK tT
 by_cases h0:bI c[s]! =0
 ·rw[ai h0,ai h0]
  congr 1
  ·exact (Gv h1 hq h3 h0).symm
  ·refine mW (by rw[cU]) fun i hi=>?_
   have hi:i<c.length:=hi
   rw[ew hi]
   by_cases his:s=i
   ·rw[ai his,ai his.symm]
   ·rw[ah his,ah (fun e=>his e.symm)]
    exact (Gv (h2 i hi) hq (h4 i (by omega)) h0).symm
 ·rw[ah h0,ah h0]
  congr 1
  refine mW (by rw[p7,cU]) fun i hi=>?_
  have hi:i<c.length:=hi
  rw[IE _ _ _ _ _ i (by rw[cU];exact hi),cU,ew hi]
  by_cases his:s=i
  ·subst his;simp
  ·rw[ai ⟨hi,fun e=>his e.symm⟩,ah his,ah (fun e=>his e.symm)]
theorem qX(r:Row)(s:Nat):(aY r s).c.length=r.c.length:=by unfold aY;simp[AD]
def o0(rows:List Row)(r1:Row)(s at' i:Nat):List Row:=(List.range rows.length).map fun j=>if j≠at'∧j<i then⟨(gL rows[j]!.k rows[j]!.c r1 s).k,(gL rows[j]!.k rows[j]!.c r1 s).c,rows[j]!.b⟩ else rows[j]!
theorem Pb(at' i:Nat):xu at' (i+1)=if i=at' then xu at' i else xu at' i++[some i]:=by
 unfold xu
 rw[wz,MB,jz]
 by_cases h:i=at'
 ·rw[ai h];simp[h]
 ·rw[ah h];simp[h]
theorem Of(d:Dic)(r1:Row)(s at':Nat)(g:Bool):∀i,i≤d.rows.length→(xu at' i).foldl (we r1 s) (d,g)=
  (⟨o0 d.rows r1 s at' i,(gL d.gk d.gc r1 s).k,(gL d.gk d.gc r1 s).c,d.n,d.piv,d.most⟩,g&&(fS (gL d.gk d.gc r1 s).k (gL d.gk d.gc r1 s).c&&(List.range i).all fun j=>decide (j=at')||fS (gL d.rows[j]!.k d.rows[j]!.c r1 s).k (gL d.rows[j]!.k d.rows[j]!.c r1 s).c))
 |0,_=>by
  have h0:o0 d.rows r1 s at' 0=d.rows:=by
   unfold o0
   exact (mW rfl fun i hi=>by rw[ah (by omega)]).symm
  rw[h0]
  show we r1 s (d,g) none=_
  simp[we,QU,Lp,lkO,lcO,gL]
 |i+1,h=>by
  have ih:=Of d r1 s at' g i (by omega)
  rw[Pb]
  by_cases hi:i=at'
  ·rw[ai hi,ih]
   congr 1
   ·congr 1
    unfold o0
    refine rQ fun j hj=>?_
    by_cases BS:j≠at'∧j<i
    ·rw[ai BS,ai (by omega)]
    ·rw[ah BS,ah (by omega)]
   ·rw[wz,lO]
    simp[hi]
  ·rw[ah hi,List.foldl_append,ih]
   have f8:(o0 d.rows r1 s at' i)[i]! =d.rows[i]! :=by
    apply dP
    unfold o0
    rw[bX _ (by omega),ah (by omega)]
   have Cp:∀x:Row,(o0 d.rows r1 s at' i).set i x=(List.range d.rows.length).map fun j=>if j=i then x else (o0 d.rows r1 s at' i)[j]! :=fun x=>by
    refine mW (by simp[o0]) fun j hj=>?_
    rw[ew (by simpa[o0] using hj)]
    by_cases DM:i=j
    ·rw[ai DM,ai DM.symm]
    ·rw[ah DM,ah (fun e=>DM e.symm)]
   simp only[List.foldl_cons,List.foldl_nil,we,QU,Lp,lkO,lcO,f8]
   congr 1
   ·congr 1
    rw[Cp]
    unfold o0
    refine rQ fun j hj=>?_
    have hj:=j7.1 hj
    by_cases yY:j=i
    ·subst yY
     rw[ai rfl,ai ⟨hi,by omega⟩]
     rfl
    ·rw[ah yY]
     have:((List.range d.rows.length).map fun j=>if j≠at'∧j<i then (⟨(gL d.rows[j]!.k d.rows[j]!.c r1 s).k,(gL d.rows[j]!.k d.rows[j]!.c r1 s).c,d.rows[j]!.b⟩:Row) else d.rows[j]!)[j]! =_:=dP (bX _ hj)
     rw[this]
     by_cases BS:j≠at'∧j<i
     ·rw[ai BS,ai (by omega)]
     ·rw[ah BS,ah (by omega)]
   ·rw[wz,lO]
    simp[hi,gL,It]
structure Fine(d:Dic)(w:Nat):Prop where
 lg:d.gc.length=w
 lr:∀i,i<d.rows.length→d.rows[i]!.c.length=w
 gg:fS d.gk d.gc=true
 gr:∀i,i<d.rows.length→fS d.rows[i]!.k d.rows[i]!.c=true
def f5(d:Dic)(at' s:Nat):Dic:=
 let r1:=aY d.rows[at']! s
 ⟨(List.range d.rows.length).map fun j=>if j=at' then r1 else⟨(gL d.rows[j]!.k d.rows[j]!.c r1 s).k,(gL d.rows[j]!.k d.rows[j]!.c r1 s).c,d.rows[j]!.b⟩,(gL d.gk d.gc r1 s).k,(gL d.gk d.gc r1 s).c,d.n,d.piv+1,d.most⟩
theorem AQ(d:Dic)(at' s:Nat)(hat:at'<d.rows.length)(hp:¬d.most≤d.piv):(dH d at' s).2=f5 d at' s∧
  ((dH d at' s).1=0∨(dH d at' s).1=30)∧((dH d at' s).1=0↔fS (f5 d at' s).gk (f5 d at' s).gc=true∧∀i,i<d.rows.length→fS (f5 d at' s).rows[i]!.k (f5 d at' s).rows[i]!.c=true):=by
 have jv:∀(p:Dic×Bool) (r1:Row),pO r1 s at' d.rows.length p (xu at' d.rows.length).length=(xu at' d.rows.length).foldl (we r1 s) p:=fun p r1=>by unfold pO;rw[List.take_length]
 unfold dH
 rw[ah hp]
 simp only[jv]
 obtain⟨r1,IW⟩:∃r1,r1=aY d.rows[at']! s:=⟨_,rfl⟩
 have hr1':=IW
 rw[←IW]
 obtain⟨d1,CJ⟩:∃d1:Dic,d1=⟨d.rows.set at' r1,d.gk,d.gc,d.n,d.piv+1,d.most⟩:=⟨_,rfl⟩
 have hdl:d1.rows.length=d.rows.length:=by rw[CJ];exact cU ..
 rw[←CJ]
 have hf:=Of d1 r1 s at' (fS r1.k r1.c) d.rows.length (by omega)
 rw[hf]
 have HQ:∀j,j<d.rows.length→d1.rows[j]! =if at'=j then r1 else d.rows[j]! :=fun j hj=>by rw[CJ];exact ew hj
 have hpD:f5 d at' s=⟨o0 d1.rows r1 s at' d.rows.length,(gL d1.gk d1.gc r1 s).k,(gL d1.gk d1.gc r1 s).c,d1.n,d1.piv,d1.most⟩:=by
  unfold f5
  rw[←IW,CJ]
  dsimp only
  congr 1
  unfold o0
  rw[cU]
  refine rQ fun j hj=>?_
  have hj:=j7.1 hj
  rw[ew hj]
  by_cases rZ:j=at'
  ·subst rZ;simp
  ·rw[ah rZ,ai ⟨rZ,hj⟩,ah (fun e=>rZ e.symm)]
 refine⟨hpD.symm,?_,?_⟩
 ·dsimp only
  split <;> simp
 ·dsimp only
  have f8:∀i,i<d.rows.length→(f5 d at' s).rows[i]! =if i=at' then r1 else⟨(gL d.rows[i]!.k d.rows[i]!.c r1 s).k,(gL d.rows[i]!.k d.rows[i]!.c r1 s).c,d.rows[i]!.b⟩:=fun i hi=>by
   apply dP
   unfold f5
   rw[←IW]
   exact bX _ hi
  constructor
  ·intro h
   split at h
   ·rename_i hb
    simp only[cj,a7] at hb
    obtain⟨h1,h2,h3⟩:=hb
    refine⟨by rw[hpD];exact h2,fun i hi=>?_⟩
    rw[f8 i hi]
    by_cases qO:i=at'
    ·rw[ai qO];exact h1
    ·rw[ah qO]
     have:=h3 i (j7.2 hi)
     rw[HQ i hi,ah (fun e=>qO e.symm)] at this
     simpa[qO] using this
   ·cases h
  ·rintro⟨h1,h2⟩
   rw[ai]
   simp only[cj,a7]
   refine⟨?_,by rw[hpD] at h1;exact h1,fun i hi=>?_⟩
   ·have:=h2 at' hat
    rw[f8 at' hat,ai rfl] at this
    exact this
   ·have hi:=j7.1 hi
    have:=h2 i hi
    rw[f8 i hi] at this
    by_cases qO:i=at'
    ·simp[qO]
    ·rw[ah qO] at this
     rw[HQ i hi,ah (fun e=>qO e.symm)]
     simp only[IB]
     exact .inr this
end
end Go.Proofs.YtaedcknhkjpmlaaGreat
