/-
  Lemmas, part 5. Conditions: none.
-/
import Derived.Test.YtgfcnncojhkcoaaGreatT4
set_option linter.all false
set_option maxRecDepth 100000
set_option maxHeartbeats 4000000
namespace Go.Proofs.YtgfcnncojhkcoaaGreat
open Go.RowKit Go.IntKind Tryz
noncomputable section
theorem yw(x y:Nat):Nat.gcd x y=Nat.gcd y (x % y):=by
 rw[Nat.gcd_comm x y,Nat.gcd_rec,Nat.gcd_comm]
theorem U5(x y:Nat):aL ix ((x:Int),(y:Int))=some ((Nat.gcd x y:Nat):Int):=by
 induction y using Nat.strongRecOn generalizing x with
 |_ y ih=>
  by_cases hy:y=0
  ·subst hy
   rw[Iu]
   exact eI (by dsimp only[ix];rw[a9 _ _ (by simp)])
  ·have h1:ix ((x:Int),(y:Int))=some (.inl ((y:Int),((x % y:Nat):Int))):=by
    dsimp only[ix]
    rw[ba _ _,aB,←sm]
   rw[iq h1,ih (x % y) (dM _ (by omega)) y,←yw]
theorem uC {A:Nat}(hA:A<LIM):∃n:Nat,eA (W A)=some (n:Int)∧(n≤2↔A<18446744073709551616):=by
 obtain⟨n,hn,h1,h2⟩:=AB hA
 have e:(4294967296:Nat) ^ 2=18446744073709551616:=by decide
 refine⟨n,h1,fun h=>?_,fun h=>Lu (by decide) h2 (by rw[e];exact h)⟩
 have h3:4294967296 ^ n≤4294967296 ^ 2:=im (by decide) h
 rw[e] at h3
 exact bC h2.1 h3
theorem G_Abs {a:Int}(ha:a.natAbs<LIM):pz (enc a)=some (enc (a.natAbs:Int)):=by
 unfold pz
 rw[yX,bA ha,ab,ep,aP,ml ha,iZ ha,ab]
 rfl
theorem vP {a c:Int}(ha:a.natAbs<LIM)(hc:c.natAbs<LIM)(h1:a.natAbs<18446744073709551616)(h2:c.natAbs<18446744073709551616)(p:ap→ap→Option ap):
  ce p (enc a) (enc c)=some (enc (Nat.gcd a.natAbs c.natAbs:Nat)):=by
 obtain⟨n,hn1,Mf⟩:=uC ha
 obtain⟨m,Qh,hm2⟩:=uC hc
 have hg:Nat.gcd a.natAbs c.natAbs<18446744073709551616:=by
  rcases rY a.natAbs with h|h
  ·rw[h,Nb];exact h2
  ·exact fg (Av _ h) h1
 have hgL:Nat.gcd a.natAbs c.natAbs<LIM:=bC hg (by decide)
 unfold ce
 rw[tX,bA ha,bA hc,ab]
 simp only[iY,ep,aP,ml ha,ml hc]
 rw[hn1,ab,ba _ _ (by have:=Mf.2 h1;omega),Qh,ab,ab,ba _ _ (by have:=hm2.2 h2;omega),Sn h1,Sn h2,ab,ab,U5,ab,zm,wd,zk,UA hg,iZ hgL,ab]
 rfl
theorem K7 {a:Int}(ha:a.natAbs<LIM)(p:ap→ap→Option ap):ce p (enc a) (enc 0)=some (enc (Nat.gcd a.natAbs 0:Nat)):=by
 by_cases h1:a.natAbs<18446744073709551616
 ·exact vP ha (by decide) h1 (by decide) p
 ·obtain⟨n,hn1,Mf⟩:=uC ha
  have hc:(0:Int).natAbs<LIM:=by decide
  unfold ce
  rw[tX,bA ha,bA hc,ab]
  simp only[iY,ep,aP,ml ha,ml hc]
  rw[hn1,ab,a9 _ _ (by have:=mt Mf.1 h1;omega),ab,aP,a9 _ _ (by rw[z16];exact fun h=>h rfl),G_Abs ha,ab,Iu]
theorem K8 {a c:Int}(ha:a.natAbs<LIM)(hc:c.natAbs<LIM)(h0:c.natAbs≠0)(h1:¬(a.natAbs<18446744073709551616∧c.natAbs<18446744073709551616))(p:ap→ap→Option ap):
  ce p (enc a) (enc c)=p (enc (c.natAbs:Int)) (enc ((a.natAbs % c.natAbs:Nat):Int)):=by
 obtain⟨n,hn1,Mf⟩:=uC ha
 obtain⟨m,Qh,hm2⟩:=uC hc
 have hr:a.natAbs % c.natAbs<LIM:=fg (Nat.mod_le _ _) ha
 unfold ce
 rw[tX,bA ha,bA hc,ab]
 simp only[iY,ep,aP,ml ha,ml hc]
 rw[hn1,ab,Qh,ab]
 have AZ:(cnd (decide ((n:Int)≤(2:Int))) (some (decide ((m:Int)≤(2:Int)))) (some (false)))=some false:=by
  rw[jj]
  split
  ·rename_i h
   congr 1
   have h2:=Mf.1 (by omega)
   exact gQ fun h3=>h1 ⟨h2,hm2.1 (by omega)⟩
  ·rfl
 rw[AZ,ab,aP,z16,ba _ _ (by rw[Eb hc vO];exact h0),Eu ha hc (by omega),ab,iZ hc,ab]
 dsimp only
 rw[iZ hr,ab,xe]
 rfl
theorem Qo {x y:Nat}(hy:0<y)(hxy:y≤x):2*(y*(x % y))<x*y:=by
 have h1:=kV x y
 have h2:=dM x hy
 have h3:0<x / y:=D0 hxy hy
 have h4:y≤y*(x / y):=Au _ h3
 have h5:2*(x % y)<x:=by omega
 have h6:2*(x % y)*y<x*y:=Na h5 hy
 calc 2*(y*(x % y))=2*(x % y)*y:=by rw[bj y,fa]
  _<x*y:=h6
theorem Pn(n:Nat):∀{a c:Int},a.natAbs<LIM→c.natAbs<LIM→c.natAbs≤a.natAbs→a.natAbs*c.natAbs<18446744073709551616*2 ^ n→gL (n+2) (enc a) (enc c)=some (enc (Nat.gcd a.natAbs c.natAbs:Nat)):=by
 induction n with
 |zero=>
  intro a c ha hc hle hp
  show ce _ _ _=_
  by_cases h0:c.natAbs=0
  ·obtain rfl:c=0:=by omega
   exact K7 ha _
  ·have h1:a.natAbs≤a.natAbs*c.natAbs:=Au _ (by omega)
   exact vP ha hc (by omega) (by omega) _
 |succ n ih=>
  intro a c ha hc hle hp
  show ce (gL (n+2)) _ _=_
  by_cases h0:c.natAbs=0
  ·obtain rfl:c=0:=by omega
   exact K7 ha _
  ·by_cases h1:a.natAbs<18446744073709551616∧c.natAbs<18446744073709551616
   ·exact vP ha hc h1.1 h1.2 _
   ·have h2:=Qo (yJ h0) hle
    have h3:=dM a.natAbs (yJ h0)
    rw[K8 ha hc h0 h1,ih (by rw[ek];exact hc) (by rw[ek];omega) (by rw[ek,ek];omega) (by rw[ek,ek];rw[cC] at hp;omega),ek,ek,←yw]
theorem Py {a c:Int}(ha:a.natAbs<LIM)(hc:c.natAbs<LIM):nk (enc a) (enc c)=some (enc (Nat.gcd a.natAbs c.natAbs:Nat)):=by
 have e:LIM*LIM≤18446744073709551616*2 ^ 960:=by decide +kernel
 have mono:∀(n:Nat) {x y r:ap},gL n x y=some r→∀m,n≤m→gL m x y=some r:=by
  have step:∀{p q:ap→ap→Option ap},(∀{x y r},p x y=some r→q x y=some r)→∀{x y r},ce p x y=some r→ce q x y=some r:=by
   intro p q hpq x y r h
   unfold ce at h ⊢
   obtain⟨b,h1,h⟩:=ai h
   rw[h1,ab]
   cases b with
   |false=>exact h
   |true=>
    rw[ep,aP] at h ⊢
    obtain⟨b2,h2,h⟩:=ai h
    rw[h2,ab]
    cases b2 with
    |true=>exact h
    |false=>
     rw[aP] at h ⊢
     cases hd:decide (¬(y.vW=#v[(0:Int),0,0,0,0,0,0,0,0,0,0,0,0,0,0,0])) with
     |false=>rw[hd] at h;exact h
     |true=>
      rw[hd,ie] at h
      rw[ie]
      obtain⟨q1,h3,h⟩:=ai h
      rw[h3,ab]
      obtain⟨q2,h4,h⟩:=ai h
      rw[h4,ab]
      obtain⟨q3,h5,h⟩:=ai h
      rw[h5,ab]
      obtain⟨q4,h6,h⟩:=ai h
      rw[hpq h6,ab]
      exact h
  intro n
  induction n with
  |zero=>intro x y r h;cases h
  |succ n ih=>
   intro x y r h m hm
   obtain⟨m,rfl⟩:∃k,m=k+1:=⟨m - 1,by omega⟩
   exact step (fun h=>ih h m (by omega)) h
 unfold nk
 by_cases hle:c.natAbs≤a.natAbs
 ·refine mono 962 (Pn 960 ha hc hle ?_) 1000 (by decide)
  exact bC (At ha hc) e
 ·by_cases h1:a.natAbs<18446744073709551616∧c.natAbs<18446744073709551616
  ·exact vP ha hc h1.1 h1.2 _
  ·refine mono 963 ?_ 1000 (by decide)
   show ce (gL 962) _ _=_
   rw[K8 ha hc (by omega) h1,dX (by omega),Pn 960 (by rw[ek];exact hc) (by rw[ek];exact ha) (by rw[ek,ek];omega) (by rw[ek,ek];exact bC (At hc ha) e),ek,ek,Nat.gcd_comm]
theorem qm {x y:Int}(hy:y≠0)(q r:Int)(h:q*y+r=x)(hr:0≤r∧r<y∨y<r∧r≤0):q=x.fdiv y∧r=x.fmod y:=by
 have h2:x.fdiv y*y+x.fmod y=x:=Int.fdiv_mul_add_fmod x y
 have hf:0≤x.fmod y∧x.fmod y<y∨y<x.fmod y∧x.fmod y≤0:=by
  rcases Int.lt_or_gt_of_ne hy with h|h
  ·right
   have h3:=Int.neg_fmod_neg x y
   have h4:=It (-x) (b:=-y) (by omega)
   have h5:=Is (-x) (b:=-y) (by omega)
   omega
  ·left;exact⟨It _ h,Is _ h⟩
 have hq:q=x.fdiv y:=by
  have h3:(q - x.fdiv y)*y=x.fmod y - r:=by rw[Int.sub_mul];omega
  rcases M9 (q - x.fdiv y) 0 with h4|h4|h4
  ·exfalso
   rcases hr with hr|hr <;> rcases hf with hf|hf
   ·have:(q - x.fdiv y)*y≤(-1)*y:=Uw (by omega) (by omega)
    omega
   ·omega
   ·omega
   ·have:(-1)*y≤(q - x.fdiv y)*y:=Uv (by omega) (by omega)
    omega
  ·omega
  ·exfalso
   rcases hr with hr|hr <;> rcases hf with hf|hf
   ·have:1*y≤(q - x.fdiv y)*y:=Uw (by omega) (by omega)
    omega
   ·omega
   ·omega
   ·have:(q - x.fdiv y)*y≤1*y:=Uv (by omega) (by omega)
    omega
 subst hq
 exact⟨rfl,by omega⟩
theorem Jl {x y:Int}(hy:y≠0):x.tmod y<y.natAbs∧-(y.natAbs:Int)<x.tmod y:=by
 have h1:=Int.natAbs_tmod x y
 have h2:=dM x.natAbs (show 0<y.natAbs by omega)
 rw[←h1] at h2
 omega
theorem PK {x y:Int}(hy:y≠0):(cnd (decide (x.tmod y≠0)) (some (!((decide (x.tmod y<0)) == (decide (y<0))))) (some false))=some (decide (x.fdiv y≠x.tdiv y))∧(x.fdiv y≠x.tdiv y→x.fdiv y=x.tdiv y - 1∧x.fmod y=x.tmod y+y)∧(x.fdiv y=x.tdiv y→x.fmod y=x.tmod y):=by
 have e1:x.tdiv y*y+x.tmod y=x:=Int.tdiv_mul_add_tmod x y
 have e2:x.fdiv y*y+x.fmod y=x:=Int.fdiv_mul_add_fmod x y
 have hm:=Jl (x:=x) hy
 rw[jj]
 by_cases h1:x.tmod y=0
 ·obtain⟨h2,h3⟩:=qm (x:=x) hy (x.tdiv y) (x.tmod y) e1 (by omega)
  rw[az (by simp[h1])]
  exact⟨by simp[h2],fun h=>absurd h2.symm h,fun _=>h3.symm⟩
 ·rw[an h1]
  by_cases h2:(x.tmod y<0)↔(y<0)
  ·obtain⟨h3,h4⟩:=qm (x:=x) hy (x.tdiv y) (x.tmod y) e1 (by omega)
   refine⟨?_,fun h=>absurd h3.symm h,fun _=>h4.symm⟩
   rw[p6.2 h2,DZ]
   simp[h3]
  ·obtain⟨h3,h4⟩:=qm (x:=x) hy (x.tdiv y - 1) (x.tmod y+y) (by rw[Int.sub_mul];omega) (by omega)
   have h5:(decide (x.tmod y<0) == decide (y<0))=false:=A7.2 fun h=>h2 (p6.1 h)
   have h6:x.fdiv y≠x.tdiv y:=by omega
   refine⟨?_,fun _=>⟨h3.symm,h4.symm⟩,fun h=>absurd h h6⟩
   rw[h5]
   simp[h6]
theorem Rp {x y:Int}(hx:-9223372036854775807≤x∧x≤9223372036854775807):-9223372036854775807≤x.tdiv y∧x.tdiv y≤9223372036854775807:=by
 have h1:(x.tdiv y).natAbs=x.natAbs / y.natAbs:=Int.natAbs_tdiv ..
 have h2:x.natAbs / y.natAbs≤x.natAbs:=uZ _ _
 omega
theorem TK {x y:Int}(hx:-9223372036854775807≤x∧x≤9223372036854775807)(QV:-9223372036854775807≤y∧y≤9223372036854775807)(hy:y≠0):
  (bnd (S:=Int×Int) (bnd (S:=Bool) (cnd (decide ((Int.tmod x y)≠(0:Int))) (some (!((decide ((Int.tmod x y)<(0:Int))) == (decide (y<(0:Int)))))) (some (false))) fun Bd=>cnd Bd (bnd (some (i64.wrap ((i64.wrap (Int.tdiv x y)) - (1:Int)))) fun B0=>bnd (some (i64.wrap ((Int.tmod x y)+y))) fun IQ=>some ((B0,IQ))) (some ((i64.wrap (Int.tdiv x y),Int.tmod x y)))) fun (mn,p7)=>bnd (eS mn) fun x32=>bnd (eS p7) fun x34=>some ((.inr (x32,x34)):Unit⊕(ap×ap)))=some (.inr (enc (x.fdiv y),enc (x.fmod y))):=by
 obtain⟨h1,h2,h3⟩:=PK (x:=x) hy
 have hq:=Rp (y:=y) hx
 have hm:=Jl (x:=x) hy
 rw[h1,ab]
 by_cases h:x.fdiv y=x.tdiv y
 ·have hf:=h3 h
  rw[a9 _ _ (fun hh=>hh h),ab,Lo]
  dsimp only
  rw[IM (by omega) (by omega),ab,IM (by omega) (by omega),ab,h,hf]
 ·obtain⟨h4,h5⟩:=h2 h
  have hf:x.fmod y≤9223372036854775807∧-9223372036854775807≤x.fmod y:=by
   have:-(y.natAbs:Int)≤x.fmod y∧x.fmod y≤y.natAbs:=by
    rcases Int.lt_or_gt_of_ne hy with hl|hl
    ·have h7:=It (-x) (b:=-y) (by omega)
     have h8:=Is (-x) (b:=-y) (by omega)
     have h9:=Int.neg_fmod_neg x y
     omega
    ·have h7:=It x (b:=y) (by omega)
     have h8:=Is x (b:=y) (by omega)
     omega
   omega
  rw[ba _ _ h,Lo (z:=Int.tdiv x y) (by omega),ab,ab,Lo,Lo,←h4,←h5]
  dsimp only
  rw[ab]
  dsimp only
  rw[IM (by omega) (by omega),ab,IM (by omega) (by omega),ab]
theorem QP {a c:Int}(ha:a.natAbs<LIM)(hc:c.natAbs<LIM)(h0:c≠0):ko (enc a) (enc c)=some (enc (a.fdiv c),enc (a.fmod c)):=by
 have slow:∀r:Unit⊕(ap×ap),r=.inl ()→(match r with| .inl ()=>bnd (fB (enc a).vW (enc c).vW) fun Ny=>bnd (br (!((enc a).vNeg == (enc c).vNeg)) Ny.1) fun PB=>bnd (S:=(Vector Int 16)×ap) (bnd (S:=Bool) (cnd (decide (¬(Ny.2=#v[(0:Int),0,0,0,0,0,0,0,0,0,0,0,0,0,0,0]))) (some (!((enc a).vNeg == (enc c).vNeg))) (some (false))) fun Ba=>cnd Ba (bnd (eS (1:Int)) fun x44=>bnd (nj PB x44) fun x46=>bnd (gK (enc c).vW Ny.2) fun x48=>some ((x48,x46))) (some ((Ny.2,PB)))) fun (D6,D5)=>bnd (br (enc c).vNeg D6) fun x51=>some (D5,x51)| .inr r=>some r)=some (enc (a.fdiv c),enc (a.fmod c)):=by
  rintro r rfl
  dsimp only
  have hr:=dM a.natAbs (show 0<c.natAbs by omega)
  have hq:a.natAbs / c.natAbs≤a.natAbs:=uZ _ _
  have hdm:=kV a.natAbs c.natAbs
  rw[ml ha,ml hc,n3 ha,n3 hc,Eu ha hc (by omega),ab]
  dsimp only
  rw[iZ (fg hq ha),ab,z16]
  simp only[Eb (As hr hc) vO]
  have hdm2:(c.natAbs:Int)*((a.natAbs / c.natAbs:Nat):Int)+((a.natAbs % c.natAbs:Nat):Int)=(a.natAbs:Int):=by rw[←ob,←kS,hdm]
  generalize hQ:a.natAbs / c.natAbs=Q at hdm2 hq ⊢
  generalize hR:a.natAbs % c.natAbs=R at hdm2 hr ⊢
  by_cases hs:decide (a<0)=decide (c<0)
  ·have Ma:=p6.1 hs
   rw[hs,DZ,ep]
   rw[show (cnd (decide (¬(R=0))) (some false) (some false))=some false from by rw[TZ],ab,aP,ab]
   dsimp only[cond_false]
   rw[iZ (As hr hc),ab]
   obtain⟨h1,h2⟩:=qm (x:=a) h0 (Q:Int) (bif decide (c<0) then -(R:Int) else (R:Int)) (by
    by_cases IW:c<0
    ·rw[ck IW,lT]
     have e:c=-(c.natAbs:Int):=by omega
     have e2:a=-(a.natAbs:Int):=by omega
     rw[e2,←hdm2]
     conv=>lhs;rw[e]
     rw[Int.mul_neg,tR];omega
    ·rw[gQ IW,cond_false]
     have e:c=(c.natAbs:Int):=by omega
     have e2:a=(a.natAbs:Int):=by omega
     rw[e2,←hdm2]
     conv=>lhs;rw[e]
     rw[tR]) (by
    by_cases IW:c<0
    ·rw[ck IW,lT];omega
    ·rw[gQ IW,cond_false];omega)
   rw[←h1,←h2]
  ·have Ma:¬((a<0)↔(c<0)):=fun h=>hs (p6.2 h)
   have hb:(decide (a<0) == decide (c<0))=false:=A7.2 hs
   rw[hb,uY,lT]
   have hmul:-(Q:Int)*c=(if c<0 then 1 else -1)*((c.natAbs:Int)*(Q:Int)):=by
    split
    ·have e:c=-(c.natAbs:Int):=by omega
     conv=>lhs;rw[e]
     rw[Int.neg_mul_neg,Int.one_mul,tR]
    ·have e:c=(c.natAbs:Int):=by omega
     conv=>lhs;rw[e]
     rw[Int.neg_mul,Int.neg_mul,Int.one_mul,tR]
   by_cases Lj:R=0
   ·rw[a9 _ _ (by simpa using Lj),ab,aP,ab]
    dsimp only
    rw[iZ (As hr hc),ab]
    obtain⟨h1,h2⟩:=qm (x:=a) h0 (-(Q:Int)) 0 (by rw[hmul];subst Lj;split <;> omega) (by omega)
    rw[←h1,←h2]
    subst Lj
    cases decide (c<0) <;> rfl
   ·have hQ1:((-(Q:Int)).natAbs)<LIM:=by rw[Int.natAbs_neg,ek];exact fg hq ha
    rw[ba _ _ Lj,ab,ie,IM (by decide) (by decide),ab,G_Sub hQ1 (by decide),ab,IL (kQ hr),ab,ab]
    dsimp only
    rw[iZ (fg (Nat.sub_le _ _) hc),ab]
    obtain⟨h1,h2⟩:=qm (x:=a) h0 (-(Q:Int) - 1) (bif decide (c<0) then -((c.natAbs - R:Nat):Int) else ((c.natAbs - R:Nat):Int)) (by
     rw[Int.sub_mul,hmul]
     by_cases IW:c<0
     ·rw[ck IW,lT,an IW];omega
     ·rw[gQ IW,cond_false,az IW];omega) (by
     by_cases IW:c<0
     ·rw[ck IW,lT];omega
     ·rw[gQ IW,cond_false];omega)
    rw[←h1,←h2]
 unfold ko
 rw[tX,bA ha,bA hc,ab,iY,ep,aP,AC hc,ab,ab,a9 _ _ (by rw[M8];exact h0),Ps ha,ab]
 have SZ:∀z:Int,(bnd (S:=Bool) (cnd (if -9223372036854775808≤z∧z<9223372036854775808 then (z,true) else (0,false):Int×Bool).2 (some (decide ((if -9223372036854775808≤z∧z<9223372036854775808 then (z,true) else (0,false):Int×Bool).1≠(-9223372036854775808:Int)))) (some (false))) fun a=>some a)=some (decide (-9223372036854775807≤z∧z≤9223372036854775807)):=by
  intro z
  rw[xe]
  split
  ·rw[ie];congr 1;exact p6.2 (by omega)
  ·rw[aP];congr 1;exact (def_).symm
 have e1:=SZ a
 have e2:=SZ c
 rw[xe] at e1 e2
 rw[e1,ab,jj]
 split
 ·rename_i h1
  rw[Ps hc,ab,e2,ab,jj]
  split
  ·rename_i h2
   rw[ifp_,ifp_,aB h0,aB h0,TK h1 h2 h0,ab]
  ·rw[ab];exact slow _ rfl
 ·rw[ab];exact slow _ rfl
theorem Pu {a c:Int}(ha:a.natAbs<LIM)(hc:c.natAbs<LIM)(h0:c≠0):jP (enc a) (enc c)=some (enc (a.fdiv c)):=by
 unfold jP
 rw[QP ha hc h0,ab]
def jz(bg:ap):Bool×Int→Option ((Bool×Int)⊕Bool):=fun (aE,aM)=>cnd (decide (aM<(16:Int))) (bnd (S:=Bool) (cnd aE (gd (0≤aM∧aM<16) (some (decide (((bg.vW)[(aM).toNat]!)=(0:Int))))) (some (false))) fun dm=>some (.inl (dm,i64.wrap (aM+(1:Int))))) (some (.inr aE))
def ph(bg:ap):Option Bool:=bnd (aL (jz bg) (true,(0:Int))) fun aA=>cnd bg.vBad (bnd (S:=Bool) (cnd aA (some (!bg.vNeg)) (some (false))) fun mn=>some mn) (bnd (S:=Bool) (cnd (!aA) (some (true)) (some (!bg.vNeg))) fun gu=>some gu)
theorem EH {bg:ap}{r:Bool}(h:ph bg=some r):ar prog 152 [dG au bg] (dB r):=by
 refine bB (rs:=[.tmp 2]) (fun cx hx h0=>?_) func152
 unfold ph at h
 iterate 2 refine ra hx ?_
 refine AW.seq (ra hx ?_)
 refine AW.block ?_
 obtain⟨aA,hy,h⟩:=ai h
 refine lp (S:=Bool×Int) (X:=Bool) (fun (aE,aM)=>[(1,.pt 0 0),(3,dB aE),(4,dI .i64 aM)]) (fun (aE,aM)=>⟨[(0,dC (au.f bg))],[],1⟩) (PE cx (.exit 0) (fun aA=>[(1,.pt 0 0),(3,dB aA)]) fun aA=>⟨[(0,dC (au.f bg))],[],1⟩) hy ?_ ?_ ?_
 exact wk0 h0 [0]
 clear hy h
 rintro⟨aE,aM⟩ y h
 dsimp only[jz] at h
 refine AW.seq (ra hx ?_)
 refine cdh h rfl (fun fy h=>?_) (fun fy h=>?_)
 refine AW.skip (AW.seq ?_)
 obtain⟨dm,hy,h⟩:=ai h
 refine jn ((PE cx .normal (fun dm=>[(1,.pt 0 0),(3,dB dm),(4,dI .i64 aM)]) fun dm=>⟨[(0,dC (au.f bg))],[],1⟩) dm) ?_ ?_
 replace h:=hy
 refine AW.block (rq hx fun K hK=>?_)
 refine mbi ?_
 rcases bX h with⟨rf,h⟩|⟨rf,h⟩
 iterate 2 refine ga rf ?_
 obtain⟨hc3,h⟩:=ax h
 refine nbi hK ?_
 exact pe1 h h0 [0]
 refine nbi hK ?_
 exact pe1 h h0 [0]
 refine lw0 ?_
 refine rb hx ?_
 exact pel h h0 [0]
 exact AW.exit (per h h0 [0])
 refine lw0 ?_
 refine AW.seq (rai hx ?_)
 refine cdh h rfl (fun wW h=>?_) (fun wW h=>?_)
 refine AW.seq ?_
 obtain⟨mn,hy,h⟩:=ai h
 refine jn ((PE cx .normal (fun mn=>[(2,dB mn)]) fun mn=>⟨[],[],0⟩) mn) ?_ ?_
 replace h:=hy
 refine rq hx fun K hK=>?_
 refine mbi ?_
 rcases bX h with⟨E8,h⟩|⟨E8,h⟩
 refine nbi hK ?_
 exact pe1 h h0 []
 refine nbi hK ?_
 exact pe1 h h0 []
 refine lw0 ?_
 exact AW.ret (rtv h)
 refine AW.skip (AW.seq ?_)
 obtain⟨gu,hy,h⟩:=ai h
 refine jn ((PE cx .normal (fun gu=>[(2,dB gu)]) fun gu=>⟨[],[],0⟩) gu) ?_ ?_
 replace h:=hy
 refine rq hx fun K hK=>?_
 refine mbi ?_
 rcases bX h with⟨ke,h⟩|⟨ke,h⟩
 refine nbi hK ?_
 exact pe1 h h0 []
 refine nbi hK ?_
 exact pe1 h h0 []
 refine lw0 ?_
 exact AW.ret (rtv h)
def dc(bg:ap):Option Bool:=bnd (ph bg) fun x1=>bnd (S:=Bool) (cnd x1 (some (!bg.vBad)) (some (false))) fun i4=>some i4
theorem iB {bg:ap}{r:Bool}(h:dc bg=some r):ar prog 118 [dG au bg] (dB r):=by
 refine bB (rs:=[.tmp 2]) (fun cx hx h0=>?_) func118
 unfold dc at h
 refine ra hx ?_
 refine rs hx fun K hK=>?_
 refine mbi ?_
 refine scb h EH fun x1 h=>?_
 refine nbi hK ?_
 refine AW.seq ?_
 obtain⟨i4,hy,h⟩:=ai h
 refine jn ((PE cx .normal (fun i4=>[(2,dB i4)]) fun i4=>⟨[],[],0⟩) i4) ?_ ?_
 replace h:=hy
 refine rq hx fun K hK=>?_
 refine mbi ?_
 rcases bX h with⟨fT,h⟩|⟨fT,h⟩
 refine nbi hK ?_
 exact pe1 h h0 []
 refine nbi hK ?_
 exact pe1 h h0 []
 refine lw0 ?_
 exact AW.ret (rtv h)
def l6(bg:ap):Int→Option (Int⊕((Int×Bool)⊕Unit)):=fun dm=>cnd (decide (dm<(16:Int))) (gd (0≤dm∧dm<16) (cnd (decide (((bg.vW)[(dm).toNat]!)≠(0:Int))) (some (.inr (.inl ((0:Int),false)))) (some (.inl (i64.wrap (dm+(1:Int))))))) (some (.inr (.inr ())))
def l7(bg:ap):Option (Int×Bool):=bnd (dc bg) fun x1=>bnd (S:=Bool) (cnd (!x1) (some (true)) (some (decide ((1073741824:Int)≤((bg.vW)[((1:Int)).toNat]!))))) fun aJ=>cnd aJ (some ((0:Int),false)) (bnd (aL (l6 bg) (2:Int)) fun y11=>match y11 with| .inl r=>some r| .inr ()=>bnd (some (i64.wrap ((i64.wrap ((i64.wrap ((bg.vW)[((1:Int)).toNat]!))*(4294967296:Int)))+(i64.wrap ((bg.vW)[((0:Int)).toNat]!))))) fun ud=>cnd bg.vNeg (some (i64.wrap (0 - ud),true)) (some (ud,true)))
theorem xC {bg:ap}{r:Int×Bool}(h:l7 bg=some r):ar prog 149 [dG au bg] (.tu [dI .i64 r.1,dB r.2]):=by
 refine bB (rs:=[.tmp 2,.tmp 3]) (fun cx hx h0=>?_) func149
 unfold l7 at h
 refine ra hx ?_
 refine rs hx fun K hK=>?_
 refine mbi ?_
 refine scb h iB fun x1 h=>?_
 refine nbi hK ?_
 iterate 2 refine AW.seq ?_
 obtain⟨aJ,hy,h⟩:=ai h
 refine jn ((PE cx .normal (fun aJ=>[(1,.pt 0 0),(16,dB aJ)]) fun aJ=>⟨[(0,dC (au.f bg))],[],1⟩) aJ) ?_ ?_
 replace h:=hy
 refine rq hx fun K hK=>?_
 refine mbi ?_
 rcases bX h with⟨fT,h⟩|⟨fT,h⟩
 refine nbi hK ?_
 exact pe1 h h0 [0]
 refine ga fT ?_
 refine g1 fT (s8 (by decide:0≤(1:Int)∧(1:Int)<((16:Nat):Int)) cr bH) ?_
 refine nbi hK ?_
 exact pe1 h h0 [0]
 refine lw0 ?_
 refine cdh h rfl (fun pJ h=>?_) (fun pJ h=>?_)
 refine ra hx ?_
 refine AW.ret ?_
 cases h
 exact rv2
 refine AW.skip (AW.seq (ra hx ?_))
 refine AW.block ?_
 obtain⟨y,hy,h⟩:=ai h
 refine lp (S:=Int) (X:=(Int×Bool)⊕Unit) (fun dm=>[(1,.pt 0 0),(5,dI .i64 dm)]) (fun dm=>⟨[(0,dC (au.f bg))],[],1⟩) (PS (PR [.tmp 2,.tmp 3] fun r=>.tu [dI .i64 r.1,dB r.2]) (PE cx (.exit 0) (fun ()=>[(1,.pt 0 0)]) fun ()=>⟨[(0,dC (au.f bg))],[],1⟩)) hy ?_ ?_ ?_
 exact wk0 h0 [0]
 clear hy h
 rintro dm y h
 dsimp only[l6] at h
 refine AW.seq (ra hx ?_)
 refine cdh h rfl (fun wW h=>?_) (fun wW h=>?_)
 refine AW.skip (AW.seq (AW.block (rs hx fun K hK=>?_)))
 iterate 2 refine sa ?_
 obtain⟨hc8,h⟩:=ax h
 refine nbi hK ?_
 refine cdh h rfl (fun ke h=>?_) (fun ke h=>?_)
 refine ra hx ?_
 refine AW.ret ?_
 cases h
 refine PS.r ⟨by nofun,PS.l (PR.i ?_)⟩
 exact rv2
 refine AW.skip (rb hx ?_)
 exact pel h h0 [0]
 exact AW.exit (peq h h0 [0])
 rcases y with r|⟨⟩
 rintro ex tm' hp' ⟨rfl,hw⟩
 cases h
 exact hw
 refine lwr ?_
 refine rs hx fun K hK=>?_
 refine sa ?_
 refine s1 (s8 (by decide:0≤(1:Int)∧(1:Int)<((16:Nat):Int)) cr bH) ?_
 iterate 4 refine sbi ?_
 refine s1 (s8 (by decide:0≤(0:Int)∧(0:Int)<((16:Nat):Int)) cr bH) ?_
 iterate 3 refine sbi ?_
 obtain⟨ud,zW,h⟩:=ai h
 replace zW:=bZ zW
 refine s2 (d2:=dI .i64 ud) lq (gj (congrArg (dI .i64) zW)) ?_
 refine nl hK ?_
 refine AW.seq (rai hx ?_)
 refine cdh h rfl (fun Mq h=>?_) (fun Mq h=>?_)
 refine ra hx ?_
 refine AW.ret ?_
 cases h
 exact rv2
 refine AW.skip (ra hx ?_)
 refine AW.ret ?_
 cases h
 exact rv2
def ku(dt:List Int):Int→Option (Int⊕Int):=fun aJ=>bnd (S:=Bool) (cnd (decide ((0:Int)<aJ)) (gd (0≤i64.wrap (aJ - (1:Int))∧i64.wrap (aJ - (1:Int))<((dt).length:Int)) (some (decide (((dt)[(i64.wrap (aJ - (1:Int))).toNat]!)=(0:Int))))) (some (false))) fun nC=>cnd nC (some (.inl (i64.wrap (aJ - (1:Int))))) (some (.inr aJ))
def eT(dt:List Int):Option (List Int):=bnd (aL (ku dt) ((dt).length:Int)) fun od=>gd (0≤(0:Int)∧(0:Int)≤od∧od≤((dt).length:Int)) (some (Lx dt (0:Int) od))
theorem jT {dt:List Int}{r:List Int}(h:eT dt=some r):ar prog 157 [dL (cI .i64) dt] (dL (cI .i64) r):=by
 refine bB (rs:=[.tmp 2]) (fun cx hx h0=>?_) func157
 unfold eT at h
 refine rs hx fun K hK=>?_
 refine s1 (d:=dO 0 (cI .i64) ([]:List Int)) (d8 eO dJ) ?_
 refine nl hK ?_
 refine ra hx ?_
 refine AW.seq (AW.block ?_)
 obtain⟨od,hy,h⟩:=ai h
 refine lp (S:=Int) (X:=Int) (fun aJ=>[(0,dL (cI .i64) dt),(3,dI .i64 aJ)]) (fun aJ=>⟨[],[],0⟩) (PE cx (.exit 0) (fun od=>[(0,dL (cI .i64) dt),(3,dI .i64 od)]) fun od=>⟨[],[],0⟩) hy ?_ ?_ ?_
 exact wk0 h0 []
 clear hy h
 rintro aJ y h
 dsimp only[ku] at h
 iterate 2 refine AW.seq ?_
 obtain⟨nC,hy,h⟩:=ai h
 refine jn ((PE cx .normal (fun nC=>[(0,dL (cI .i64) dt),(3,dI .i64 aJ),(15,dB nC)]) fun nC=>⟨[],[],0⟩) nC) ?_ ?_
 replace h:=hy
 refine rq hx fun K hK=>?_
 refine mbi ?_
 rcases bX h with⟨fy,h⟩|⟨fy,h⟩
 iterate 3 refine ga fy ?_
 obtain⟨ui,h⟩:=ax h
 have yq:(i64.wrap (aJ - (1:Int))).toNat<(dt).length:=by omega
 refine gbi ?_
 refine g1 fy (s7 (c:=(cI .i64)) (l:=dt) (n:=(i64.wrap (aJ - (1:Int))).toNat) (o:=0) dJ yq) ?_
 refine nbi hK ?_
 exact pe1 h h0 []
 refine nbi hK ?_
 exact pe1 h h0 []
 refine lw0 ?_
 refine cdh h rfl (fun v4 h=>?_) (fun v4 h=>?_)
 refine AW.skip (AW.block (rb hx ?_))
 exact pel h h0 []
 exact AW.exit (per h h0 [])
 refine lw0 ?_
 refine rs hx fun K hK=>?_
 iterate 2 refine sa ?_
 obtain⟨hc7,h⟩:=ax h
 refine s1 (T_sl (c:=(cI .i64)) (l:=dt) (a:=(0:Int)) (b:=od) hc7 eO dJ) ?_
 refine nbi hK ?_
 exact AW.ret (rtv h)
def lL :Option ap:=some (⟨true,false,(cy)⟩:ap)
theorem ur  {r:ap}(h:lL=some r):ar prog 132 [] (dG au r):=by
 refine bB (rs:=[.cell 0 32]) (fun cx hx h0=>?_) func132
 unfold lL at h
 refine rai hx ?_
 refine rs hx fun K hK=>?_
 refine s1 (d:=dG au (⟨true,false,(cy)⟩:ap)) (jO (FL.cons (y:=true) (pw dh) rfl rfl (FL.nil _)) g5) ?_
 refine nbi hK ?_
 exact AW.ret (rtv h)
def fE(x1:List Int):Int×ap→Option ((Int×ap)⊕ap):=fun (bb,lX)=>cnd (decide (bb<((x1).length:Int))) (bnd (S:=ap) (cnd (decide ((Int.tmod bb (2:Int))=(0:Int))) (gd (0≤i64.wrap (Int.tdiv bb (2:Int))∧i64.wrap (Int.tdiv bb (2:Int))<16) (gd (0≤bb∧bb<((x1).length:Int)) (gd (0≤i64.wrap (Int.tdiv bb (2:Int))∧i64.wrap (Int.tdiv bb (2:Int))<16) (bnd (some ((⟨lX.vBad,lX.vNeg,(lX.vW).set! (i64.wrap (Int.tdiv bb (2:Int))).toNat (u32.wrap (((lX.vW)[(i64.wrap (Int.tdiv bb (2:Int))).toNat]!)+(u32.wrap ((x1)[(bb).toNat]!))))⟩:ap))) fun rL=>some (rL))))) (gd (0≤i64.wrap (Int.tdiv bb (2:Int))∧i64.wrap (Int.tdiv bb (2:Int))<16) (gd (0≤bb∧bb<((x1).length:Int)) (gd (0≤i64.wrap (Int.tdiv bb (2:Int))∧i64.wrap (Int.tdiv bb (2:Int))<16) (bnd (some ((⟨lX.vBad,lX.vNeg,(lX.vW).set! (i64.wrap (Int.tdiv bb (2:Int))).toNat (u32.wrap (((lX.vW)[(i64.wrap (Int.tdiv bb (2:Int))).toNat]!)+(u32.wrap ((u32.wrap ((x1)[(bb).toNat]!))*(65536:Int)))))⟩:ap))) fun x26=>some (x26)))))) fun Gq=>some (.inl (i64.wrap (bb+(1:Int)),Gq))) (some (.inr lX))
def eU(xS:Bool)(dt:List Int):Option ap:=bnd (eT dt) fun x1=>cnd (decide ((32:Int)<((x1).length:Int))) (bnd (lL) fun x4=>some x4) (bnd (S:=ap) (cnd xS (bnd (some ((⟨false,decide ((0:Int)<((x1).length:Int)),(cy)⟩:ap))) fun x7=>some (x7)) (some ((⟨false,false,(cy)⟩:ap)))) fun ja=>bnd (aL (fE x1) ((0:Int),ja)) fun eF=>some eF)
theorem nJ {xS:Bool}{dt:List Int}{r:ap}(h:eU xS dt=some r):ar prog 147 [dB xS,dL (cI .i64) dt] (dG au r):=by
 refine bB (rs:=[.cell 4 32]) (fun cx hx h0=>?_) func147
 unfold eU at h
 refine rai hx ?_
 refine rs hx fun K hK=>?_
 refine sa ?_
 refine scb h jT fun x1 h=>?_
 refine nbi hK ?_
 refine AW.seq (ra hx ?_)
 refine cdh h rfl (fun fT h=>?_) (fun fT h=>?_)
 refine rs hx fun K hK=>?_
 refine scb h ur fun x4 h=>?_
 refine nbi hK ?_
 exact AW.ret (rtv h)
 refine AW.skip (AW.seq ?_)
 obtain⟨ja,hy,h⟩:=ai h
 refine jn ((PE cx .normal (fun ja=>[(4,.pt 0 0),(5,dL (cI .i64) x1),(6,.pt 1 0)]) fun ja=>⟨[(0,dC (au.f dh)),(1,dC (au.f ja))],[],2⟩) ja) ?_ ?_
 replace h:=hy
 refine rq hx fun K hK=>?_
 refine mbi ?_
 rcases bX h with⟨pJ,h⟩|⟨pJ,h⟩
 iterate 3 refine ga pJ ?_
 refine sbi ?_
 refine s1 (d:=dG au (⟨false,decide ((0:Int)<((x1).length:Int)),(cy)⟩:ap)) (jO (FL.cons (y:=decide ((0:Int)<((x1).length:Int))) (lI dh) rfl rfl (FL.nil _)) g5) ?_
 refine sbi ?_
 obtain⟨x7,L2,h⟩:=ai h
 replace L2:=bZ L2
 refine s0 (j9 (b':=(⟨false,decide ((0:Int)<((x1).length:Int)),(cy)⟩:ap)) (a8.id _ _) g5 L2) ?_
 refine nl hK ?_
 exact pe1 h h0 [0,1]
 iterate 3 refine LL rfl rfl pJ ?_
 refine sbi ?_
 refine s1 (d:=dG au dh) (jO (FL.cons (y:=false) (lI dh) rfl rfl (FL.nil _)) g5) ?_
 refine nbi hK ?_
 exact pe1 h h0 [0,1]
 refine lw0 ?_
 refine AW.seq (ra hx ?_)
 refine AW.block ?_
 obtain⟨eF,hy,h⟩:=ai h
 refine lp (S:=Int×ap) (X:=ap) (fun (bb,lX)=>[(4,.pt 0 0),(5,dL (cI .i64) x1),(6,.pt 1 0),(7,dI .i64 bb)]) (fun (bb,lX)=>⟨[(0,dC (au.f dh)),(1,dC (au.f lX))],[],2⟩) (PE cx (.exit 0) (fun eF=>[(4,.pt 0 0),(6,.pt 1 0)]) fun eF=>⟨[(0,dC (au.f dh)),(1,dC (au.f eF))],[],2⟩) hy ?_ ?_ ?_
 exact wk0 h0 [0,1]
 clear hy h
 rintro⟨bb,lX⟩ y h
 dsimp only[fE] at h
 refine AW.seq (ra hx ?_)
 refine cdh h rfl (fun ke h=>?_) (fun ke h=>?_)
 refine AW.skip (AW.seq ?_)
 obtain⟨Gq,hy,h⟩:=ai h
 refine jn ((PE cx .normal (fun Gq=>[(4,.pt 0 0),(5,dL (cI .i64) x1),(6,.pt 1 0),(7,dI .i64 bb)]) fun Gq=>⟨[(0,dC (au.f dh)),(1,dC (au.f Gq))],[],2⟩) Gq) ?_ ?_
 replace h:=hy
 refine AW.block (ra hx ?_)
 refine cdh h rfl (fun Tk h=>?_) (fun Tk h=>?_)
 refine rqd [] hx fun K hK=>?_
 iterate 5 refine sa ?_
 obtain⟨hc12,h⟩:=ax h
 iterate 4 refine sbi ?_
 obtain⟨hc14,h⟩:=ax h
 have hn15:(bb).toNat<(x1).length:=by omega
 refine sbi ?_
 refine s1 (s7 (c:=(cI .i64)) (l:=x1) (n:=(bb).toNat) (o:=0) dJ hn15) ?_
 iterate 3 refine sa ?_
 obtain⟨Te,h⟩:=ax h
 have hn17:(i64.wrap (Int.tdiv bb (2:Int))).toNat<16:=by omega
 refine sbi ?_
 obtain⟨rL,CX,h⟩:=ai h
 replace CX:=bZ CX
 refine s0 (j9 (b':=u32.wrap (((lX.vW)[(i64.wrap (Int.tdiv bb (2:Int))).toNat]!)+(u32.wrap ((x1)[(bb).toNat]!)))) (a8.comp (lZ lX) (a8.vec (cI .u32) lX.vW (i64.wrap (Int.tdiv bb (2:Int))).toNat hn17) (fun _=>rfl)) bH CX) ?_
 refine nl hK ?_
 exact pe1 h h0 [0,1]
 refine rqd [] hx fun K hK=>?_
 iterate 5 refine sa ?_
 obtain⟨hc20,h⟩:=ax h
 iterate 4 refine sbi ?_
 obtain⟨Mn,h⟩:=ax h
 have hn23:(bb).toNat<(x1).length:=by omega
 refine sbi ?_
 refine s1 (s7 (c:=(cI .i64)) (l:=x1) (n:=(bb).toNat) (o:=0) dJ hn23) ?_
 iterate 4 refine sa ?_
 obtain⟨hc24,h⟩:=ax h
 have hn25:(i64.wrap (Int.tdiv bb (2:Int))).toNat<16:=by omega
 refine sbi ?_
 obtain⟨x26,hx27,h⟩:=ai h
 replace hx27:=bZ hx27
 refine s0 (j9 (b':=u32.wrap (((lX.vW)[(i64.wrap (Int.tdiv bb (2:Int))).toNat]!)+(u32.wrap ((u32.wrap ((x1)[(bb).toNat]!))*(65536:Int))))) (a8.comp (lZ lX) (a8.vec (cI .u32) lX.vW (i64.wrap (Int.tdiv bb (2:Int))).toNat hn25) (fun _=>rfl)) bH hx27) ?_
 refine nl hK ?_
 exact pe1 h h0 [0,1]
 refine lw0 ?_
 refine rb hx ?_
 exact pel h h0 [0,1]
 exact AW.exit (per h h0 [0,1])
 refine lw0 ?_
 refine rai hx ?_
 exact AW.ret (rtv h)
def cV(dt:List Int)(jX:Int):Option Int:=cnd (decide (jX<((dt).length:Int))) (gd (0≤jX∧jX<((dt).length:Int)) (some ((dt)[(jX).toNat]!))) (some (0:Int))
theorem fK {dt:List Int}{jX:Int}{r:Int}(h:cV dt jX=some r):ar prog 158 [dL (cI .i64) dt,dI .i64 jX] (dI .i64 r):=by
 refine bB (rs:=[.tmp 4]) (fun cx hx h0=>?_) func158
 unfold cV at h
 refine ra hx ?_
 refine AW.seq (ra hx ?_)
 refine cdh h rfl (fun fy h=>?_) (fun fy h=>?_)
 refine rs hx fun K hK=>?_
 iterate 2 refine sa ?_
 obtain⟨ui,h⟩:=ax h
 have yq:(jX).toNat<(dt).length:=by omega
 refine sbi ?_
 refine s1 (s7 (c:=(cI .i64)) (l:=dt) (n:=(jX).toNat) (o:=0) dJ yq) ?_
 refine nbi hK ?_
 exact AW.ret (rtv h)
 refine AW.skip (ra hx ?_)
 exact AW.ret (rtv h)
def jx(aZ:List Int)(aY:List Int):(List Int)×Int×Int→Option (((List Int)×Int×Int)⊕((List Int))):=fun (cQ,bF,dP)=>cnd (decide (dP<(i64.wrap ((max ((aZ).length:Int) ((aY).length:Int))+(1:Int))))) (bnd (cV aZ dP) fun x2=>bnd (cV aY dP) fun x4=>bnd (some (i64.wrap ((i64.wrap (x2+x4))+bF))) fun x6=>gd ((cQ++[Int.tmod x6 (65536:Int)]).length*8≤140737488355328) (some (.inl (cQ++[Int.tmod x6 (65536:Int)],i64.wrap (Int.tdiv x6 (65536:Int)),i64.wrap (dP+(1:Int)))))) (some (.inr cQ))
def nX(aZ:List Int)(aY:List Int):Option (List Int):=bnd (aL (jx aZ aY) (([]:List Int),(0:Int),(0:Int))) fun bW=>bnd (eT bW) fun qp=>some qp
theorem GD {aZ:List Int}{aY:List Int}{r:List Int}(h:nX aZ aY=some r):ar prog 148 [dL (cI .i64) aZ,dL (cI .i64) aY] (dL (cI .i64) r):=by
 refine bB (rs:=[.tmp 4]) (fun cx hx h0=>?_) func148
 unfold nX at h
 refine rs hx fun K hK=>?_
 refine s1 (d:=dO 0 (cI .i64) ([]:List Int)) (d8 eO dJ) ?_
 refine nl hK ?_
 refine rs hx fun K hK=>?_
 refine s1 (d:=dO 1 (cI .i64) ([]:List Int)) (d8 eO dJ) ?_
 refine nl hK ?_
 refine ra hx ?_
 refine AW.seq (ra hx ?_)
 refine AW.block ?_
 obtain⟨bW,hy,h⟩:=ai h
 refine lp (S:=(List Int)×Int×Int) (X:=(List Int)) (fun (cQ,bF,dP)=>[(0,dL (cI .i64) aZ),(1,dL (cI .i64) aY),(5,dO 0 (cI .i64) cQ),(6,dI .i64 bF),(7,dI .i64 dP)]) (fun (cQ,bF,dP)=>⟨[],[(0,(cQ).length,1,3)],1⟩) (PE cx (.exit 0) (fun bW=>[(5,dO 0 (cI .i64) bW)]) fun bW=>⟨[],[(0,(bW).length,1,3)],1⟩) hy ?_ ?_ ?_
 exact wk0 h0 [1]
 clear hy h
 rintro⟨cQ,bF,dP⟩ y h
 dsimp only[jx] at h
 refine AW.seq (ra hx ?_)
 refine cdh h rfl (fun fy h=>?_) (fun fy h=>?_)
 refine AW.skip (AW.seq (AW.block (rs hx fun K hK=>?_)))
 refine mbi ?_
 refine scb h fK fun x2 h=>?_
 refine mbi ?_
 refine scb h fK fun x4 h=>?_
 iterate 3 refine sa ?_
 obtain⟨x6,ug,h⟩:=ai h
 replace ug:=bZ ug
 refine s2 (d2:=dI .i64 x6) lq (gj (congrArg (dI .i64) ug)) ?_
 refine nl hK ?_
 refine rs hx fun K hK=>?_
 iterate 3 refine sa ?_
 refine s1 (d:=dO 1 (cI .i64) [Int.tmod x6 (65536:Int)]) (oi eO dJ) ?_
 obtain⟨hc8,h⟩:=ax h
 refine s1 (d:=dO 0 (cI .i64) (cQ++[Int.tmod x6 (65536:Int)])) (ip eO dJ hc8) ?_
 refine nbi hK ?_
 iterate 2 refine rb hx ?_
 exact pel h h0 [0]
 exact AW.exit (per h h0 [0])
 refine lw0 ?_
 refine rs hx fun K hK=>?_
 refine sa ?_
 refine scb h jT fun qp h=>?_
 refine nbi hK ?_
 exact AW.ret (rtv h)
def oS(ew:Int):Option ap:=cnd (decide ((0:Int)≤ew)) (bnd (eU false [Int.tmod ew (65536:Int),Int.tmod (i64.wrap (Int.tdiv ew (65536:Int))) (65536:Int),Int.tmod (i64.wrap (Int.tdiv ew (4294967296:Int))) (65536:Int),i64.wrap (Int.tdiv ew (281474976710656:Int))]) fun x2=>some x2) (bnd (some (i64.wrap (0 - (i64.wrap (ew+(1:Int)))))) fun x4=>bnd (nX [Int.tmod x4 (65536:Int),Int.tmod (i64.wrap (Int.tdiv x4 (65536:Int))) (65536:Int),Int.tmod (i64.wrap (Int.tdiv x4 (4294967296:Int))) (65536:Int),i64.wrap (Int.tdiv x4 (281474976710656:Int))] [(1:Int)]) fun x6=>bnd (eU true x6) fun x8=>some x8)
theorem B9 {ew:Int}{r:ap}(h:oS ew=some r):ar prog 115 [dI .i64 ew] (dG au r):=by
 refine bB (rs:=[.cell 2 32]) (fun cx hx h0=>?_) func115
 unfold oS at h
 refine rai hx ?_
 refine AW.seq (ra hx ?_)
 refine cdh h rfl (fun fy h=>?_) (fun fy h=>?_)
 refine rs hx fun K hK=>?_
 iterate 10 refine sa ?_
 refine s1 (d:=dO 1 (cI .i64) [Int.tmod ew (65536:Int),Int.tmod (i64.wrap (Int.tdiv ew (65536:Int))) (65536:Int),Int.tmod (i64.wrap (Int.tdiv ew (4294967296:Int))) (65536:Int),i64.wrap (Int.tdiv ew (281474976710656:Int))]) (oi eO dJ) ?_
 refine scb h nJ fun x2 h=>?_
 refine nbi hK ?_
 exact AW.ret (rtv h)
 refine AW.skip (rs hx fun K hK=>?_)
 iterate 3 refine sa ?_
 obtain⟨x4,SE,h⟩:=ai h
 replace SE:=bZ SE
 refine s2 (d2:=dI .i64 x4) lq (gj (congrArg (dI .i64) SE)) ?_
 refine nl hK ?_
 refine rs hx fun K hK=>?_
 iterate 10 refine sa ?_
 refine s1 (d:=dO 1 (cI .i64) [Int.tmod x4 (65536:Int),Int.tmod (i64.wrap (Int.tdiv x4 (65536:Int))) (65536:Int),Int.tmod (i64.wrap (Int.tdiv x4 (4294967296:Int))) (65536:Int),i64.wrap (Int.tdiv x4 (281474976710656:Int))]) (oi eO dJ) ?_
 refine s1 (d:=dO 2 (cI .i64) [(1:Int)]) (oi eO dJ) ?_
 refine scb h GD fun x6 h=>?_
 refine scb h nJ fun x8 h=>?_
 refine nbi hK ?_
 exact AW.ret (rtv h)
def iM(bg:ap):(List Int)×Int→Option (((List Int)×Int)⊕((List Int))):=fun (aE,aM)=>cnd (decide (aM<(16:Int))) (gd (0≤aM∧aM<16) (gd (0≤aM∧aM<16) (gd ((aE++[i64.wrap (Int.tmod ((bg.vW)[(aM).toNat]!) (65536:Int)),i64.wrap (u32.wrap (Int.tdiv ((bg.vW)[(aM).toNat]!) (65536:Int)))]).length*8≤140737488355328) (some (.inl (aE++[i64.wrap (Int.tmod ((bg.vW)[(aM).toNat]!) (65536:Int)),i64.wrap (u32.wrap (Int.tdiv ((bg.vW)[(aM).toNat]!) (65536:Int)))],i64.wrap (aM+(1:Int)))))))) (some (.inr aE))
def eh(bg:ap):Option (List Int):=bnd (aL (iM bg) (([]:List Int),(0:Int))) fun aA=>bnd (eT aA) fun x8=>some x8
theorem lx {bg:ap}{r:List Int}(h:eh bg=some r):ar prog 124 [dG au bg] (dL (cI .i64) r):=by
 refine bB (rs:=[.tmp 2]) (fun cx hx h0=>?_) func124
 unfold eh at h
 refine rs hx fun K hK=>?_
 refine sa ?_
 refine s1 (d:=dO 1 (cI .i64) ([]:List Int)) (d8 eO dJ) ?_
 refine nl hK ?_
 refine rs hx fun K hK=>?_
 refine s1 (d:=dO 2 (cI .i64) ([]:List Int)) (d8 eO dJ) ?_
 refine nl hK ?_
 refine AW.seq (ra hx ?_)
 refine AW.block ?_
 obtain⟨aA,hy,h⟩:=ai h
 refine lp (S:=(List Int)×Int) (X:=(List Int)) (fun (aE,aM)=>[(1,.pt 0 0),(3,dO 1 (cI .i64) aE),(4,dI .i64 aM)]) (fun (aE,aM)=>⟨[(0,dC (au.f bg))],[(1,(aE).length,1,3)],2⟩) (PE cx (.exit 0) (fun aA=>[(3,dO 0 (cI .i64) aA)]) fun aA=>⟨[],[(0,(aA).length,1,3)],1⟩) hy ?_ ?_ ?_
 exact wk0 h0 [0,2]
 clear hy h
 rintro⟨aE,aM⟩ y h
 dsimp only[iM] at h
 refine AW.seq (ra hx ?_)
 refine cdh h rfl (fun fy h=>?_) (fun fy h=>?_)
 refine AW.skip (AW.seq (AW.block (rqd [] hx fun K hK=>?_)))
 iterate 3 refine sa ?_
 obtain⟨ui,h⟩:=ax h
 iterate 6 refine sbi ?_
 obtain⟨Qn,h⟩:=ax h
 iterate 4 refine sbi ?_
 refine s1 (UK eO dJ) ?_
 obtain⟨hc6,h⟩:=ax h
 refine s1 (d:=dO 1 (cI .i64) (aE++[i64.wrap (Int.tmod ((bg.vW)[(aM).toNat]!) (65536:Int)),i64.wrap (u32.wrap (Int.tdiv ((bg.vW)[(aM).toNat]!) (65536:Int)))])) (ip eO dJ hc6) ?_
 refine nbi hK ?_
 refine rb hx ?_
 exact pel h h0 [0,1]
 exact AW.exit (per h h0 [1])
 refine lw0 ?_
 refine rs hx fun K hK=>?_
 refine sa ?_
 refine scb h jT fun x8 h=>?_
 refine nbi hK ?_
 exact AW.ret (rtv h)
def pE(bg:ap):Option ap:=bnd (dc bg) fun x1=>cnd (!x1) (bnd (lL) fun x4=>some x4) (bnd (eh bg) fun x6=>bnd (eU false x6) fun x8=>some x8)
theorem I8 {bg:ap}{r:ap}(h:pE bg=some r):ar prog 153 [dG au bg] (dG au r):=by
 refine bB (rs:=[.cell 2 32]) (fun cx hx h0=>?_) func153
 unfold pE at h
 refine rai hx ?_
 refine AW.seq (rs hx fun K hK=>?_)
 refine mbi ?_
 refine scb h iB fun x1 h=>?_
 refine nbi hK ?_
 refine cdh h rfl (fun fT h=>?_) (fun fT h=>?_)
 refine rs hx fun K hK=>?_
 refine scb h ur fun x4 h=>?_
 refine nbi hK ?_
 exact AW.ret (rtv h)
 refine AW.skip (rs hx fun K hK=>?_)
 refine mbi ?_
 refine scb h lx fun x6 h=>?_
 refine scb h nJ fun x8 h=>?_
 refine nbi hK ?_
 exact AW.ret (rtv h)
def ib(dt:List Int)(jX:Int):Option Int:=cnd (decide (jX<(0:Int))) (some (0:Int)) (bnd (cV dt jX) fun x2=>some x2)
theorem tj {dt:List Int}{jX:Int}{r:Int}(h:ib dt jX=some r):ar prog 175 [dL (cI .i64) dt,dI .i64 jX] (dI .i64 r):=by
 refine bB (rs:=[.tmp 4]) (fun cx hx h0=>?_) func175
 unfold ib at h
 refine ra hx ?_
 refine AW.seq (ra hx ?_)
 refine cdh h rfl (fun fy h=>?_) (fun fy h=>?_)
 refine ra hx ?_
 exact AW.ret (rtv h)
 refine AW.skip (rs hx fun K hK=>?_)
 refine mbi ?_
 refine scb h fK fun x2 h=>?_
 refine nbi hK ?_
 exact AW.ret (rtv h)
def iK(aZ:List Int)(aY:List Int)(aE:Int):Int×(List Int)→Option ((Int×(List Int))⊕((List Int))):=fun (gR,rJ)=>cnd (decide (gR<((aY).length:Int))) (gd (0≤i64.wrap (aE+gR)∧i64.wrap (aE+gR)<(((i64.wrap ((i64.wrap (((aZ).length:Int)+((aY).length:Int)))+(1:Int))).toNat:Nat):Int)∧i64.wrap (aE+gR)<((rJ).length:Int)) (gd (0≤aE∧aE<((aZ).length:Int)) (gd (0≤gR∧gR<((aY).length:Int)) (gd (0≤i64.wrap (aE+gR)∧i64.wrap (aE+gR)<(((i64.wrap ((i64.wrap (((aZ).length:Int)+((aY).length:Int)))+(1:Int))).toNat:Nat):Int)∧i64.wrap (aE+gR)<((rJ).length:Int)) (bnd (some ((rJ).set ((i64.wrap (aE+gR)).toNat) (i64.wrap (((rJ)[(i64.wrap (aE+gR)).toNat]!)+(i64.wrap (((aZ)[(aE).toNat]!)*((aY)[(gR).toNat]!))))))) fun mA=>some (.inl (i64.wrap (gR+(1:Int)),mA))))))) (some (.inr rJ))
def fW(aZ:List Int)(aY:List Int):Int×Int×(List Int)→Option ((Int×Int×(List Int))⊕((List Int))):=fun (K3,oG,s5)=>cnd (decide (oG<(((i64.wrap ((i64.wrap (((aZ).length:Int)+((aY).length:Int)))+(1:Int))).toNat:Nat):Int))) (gd (0≤oG∧oG<(((i64.wrap ((i64.wrap (((aZ).length:Int)+((aY).length:Int)))+(1:Int))).toNat:Nat):Int)∧oG<((s5).length:Int)) (bnd (some (i64.wrap (((s5)[(oG).toNat]!)+K3))) fun rL=>gd (0≤oG∧oG<(((i64.wrap ((i64.wrap (((aZ).length:Int)+((aY).length:Int)))+(1:Int))).toNat:Nat):Int)∧oG<((s5).length:Int)) (some (.inl (i64.wrap (Int.tdiv rL (65536:Int)),i64.wrap (oG+(1:Int)),(s5).set ((oG).toNat) (Int.tmod rL (65536:Int))))))) (some (.inr s5))
def jw(aZ:List Int)(aY:List Int):Int×(List Int)→Option ((Int×(List Int))⊕((List Int))):=fun (aE,aM)=>cnd (decide (aE<((aZ).length:Int))) (bnd (aL (iK aZ aY aE) ((0:Int),aM)) fun yR=>bnd (aL (fW aZ aY) ((0:Int),(0:Int),yR)) fun yO=>some (.inl (i64.wrap (aE+(1:Int)),yO))) (some (.inr aM))
def mF(aZ:List Int)(aY:List Int):Option (List Int):=gd (0≤i64.wrap ((i64.wrap (((aZ).length:Int)+((aY).length:Int)))+(1:Int))∧i64.wrap ((i64.wrap (((aZ).length:Int)+((aY).length:Int)))+(1:Int))≤1000000) (bnd (aL (jw aZ aY) ((0:Int),List.replicate (i64.wrap ((i64.wrap (((aZ).length:Int)+((aY).length:Int)))+(1:Int))).toNat (0:Int))) fun aA=>gd ((i64.wrap ((i64.wrap (((aZ).length:Int)+((aY).length:Int)))+(1:Int))).toNat=(aA).length) (bnd (eT aA) fun x25=>some x25))
theorem EG {aZ:List Int}{aY:List Int}{r:List Int}(h:mF aZ aY=some r):ar prog 151 [dL (cI .i64) aZ,dL (cI .i64) aY] (dL (cI .i64) r):=by
 refine bB (rs:=[.tmp 4]) (fun cx hx h0=>?_) func151
 unfold mF at h
 refine rs hx fun K hK=>?_
 refine s1 (d:=dO 0 (cI .i64) ([]:List Int)) (d8 eO dJ) ?_
 refine nl hK ?_
 refine rs hx fun K hK=>?_
 iterate 6 refine sa ?_
 obtain⟨HK,h⟩:=ax h
 refine q1 (sMk (c:=(cI .i64)) (z0:=(0:Int)) tok HK eO dJ (by first|rfl|kernel_rfl)) ?_
 refine nbi hK ?_
 refine AW.seq (ra hx ?_)
 refine AW.block ?_
 obtain⟨aA,hy,h⟩:=ai h
 refine lp (S:=Int×(List Int)) (X:=(List Int)) (fun (aE,aM)=>[(0,dL (cI .i64) aZ),(1,dL (cI .i64) aY),(5,.ow 0 0 1 ((i64.wrap ((i64.wrap (((aZ).length:Int)+((aY).length:Int)))+(1:Int))).toNat)),(6,dI .i64 aE)]) (fun (aE,aM)=>⟨[(0,dC ((cW (cI .i64)).f aM))],[],1⟩) (PE cx (.exit 0) (fun aA=>[(5,.ow 0 0 1 ((i64.wrap ((i64.wrap (((aZ).length:Int)+((aY).length:Int)))+(1:Int))).toNat))]) fun aA=>⟨[(0,dC ((cW (cI .i64)).f aA))],[],1⟩) hy ?_ ?_ ?_
 exact wk0 h0 [1]
 clear hy h
 rintro⟨aE,aM⟩ y h
 dsimp only[jw] at h
 refine AW.seq (ra hx ?_)
 refine cdh h rfl (fun rf h=>?_) (fun rf h=>?_)
 refine AW.skip (AW.seq (AW.block (AW.seq (ra hx ?_))))
 refine AW.block ?_
 obtain⟨yR,hy,h⟩:=ai h
 refine lp (S:=Int×(List Int)) (X:=(List Int)) (fun (gR,rJ)=>[(0,dL (cI .i64) aZ),(1,dL (cI .i64) aY),(5,.ow 0 0 1 ((i64.wrap ((i64.wrap (((aZ).length:Int)+((aY).length:Int)))+(1:Int))).toNat)),(6,dI .i64 aE),(7,dI .i64 gR)]) (fun (gR,rJ)=>⟨[(0,dC ((cW (cI .i64)).f rJ))],[],1⟩) (PE cx (.exit 2) (fun yR=>[(0,dL (cI .i64) aZ),(1,dL (cI .i64) aY),(5,.ow 0 0 1 ((i64.wrap ((i64.wrap (((aZ).length:Int)+((aY).length:Int)))+(1:Int))).toNat)),(6,dI .i64 aE)]) fun yR=>⟨[(0,dC ((cW (cI .i64)).f yR))],[],1⟩) hy ?_ ?_ ?_
 exact wk0 h0 [0]
 clear hy h
 rintro⟨gR,rJ⟩ y h
 dsimp only[iK] at h
 refine AW.seq (ra hx ?_)
 refine cdh h rfl (fun fT h=>?_) (fun fT h=>?_)
 refine AW.skip (AW.seq (AW.block (rqd [] hx fun K hK=>?_)))
 iterate 8 refine sa ?_
 obtain⟨Qn,h⟩:=ax h
 have hn5:(i64.wrap (aE+gR)).toNat<(rJ).length:=by omega
 refine s1 (yU ⟨Qn.1,Qn.2.1⟩ eO dJ) ?_
 refine s1 (tU (a8.seqW (cI .i64) rJ ((i64.wrap (aE+gR)).toNat) hn5) dJ) ?_
 iterate 2 refine sa ?_
 obtain⟨hc6,h⟩:=ax h
 have hn7:(aE).toNat<(aZ).length:=by omega
 refine sbi ?_
 refine s1 (s7 (c:=(cI .i64)) (l:=aZ) (n:=(aE).toNat) (o:=0) dJ hn7) ?_
 iterate 2 refine sa ?_
 obtain⟨hc8,h⟩:=ax h
 have hn9:(gR).toNat<(aY).length:=by omega
 refine sbi ?_
 refine s1 (s7 (c:=(cI .i64)) (l:=aY) (n:=(gR).toNat) (o:=0) dJ hn9) ?_
 iterate 2 refine sa ?_
 obtain⟨Mo,h⟩:=ax h
 have hn11:(i64.wrap (aE+gR)).toNat<(rJ).length:=by omega
 refine s1 (yU ⟨Mo.1,Mo.2.1⟩ eO dJ) ?_
 obtain⟨mA,zX,h⟩:=ai h
 replace zX:=bZ zX
 refine s0 (T_stVw (b':=i64.wrap (((rJ)[(i64.wrap (aE+gR)).toNat]!)+(i64.wrap (((aZ)[(aE).toNat]!)*((aY)[(gR).toNat]!))))) (a8.seqW (cI .i64) rJ ((i64.wrap (aE+gR)).toNat) hn11) dJ zX) ?_
 refine nl hK ?_
 refine rb hx ?_
 exact pel h h0 [0]
 exact AW.exit (per h h0 [0])
 refine lw0 ?_
 iterate 2 refine ra hx ?_
 refine AW.block ?_
 obtain⟨yO,hy,h⟩:=ai h
 refine lp (S:=Int×Int×(List Int)) (X:=(List Int)) (fun (K3,oG,s5)=>[(0,dL (cI .i64) aZ),(1,dL (cI .i64) aY),(5,.ow 0 0 1 ((i64.wrap ((i64.wrap (((aZ).length:Int)+((aY).length:Int)))+(1:Int))).toNat)),(6,dI .i64 aE),(8,dI .i64 K3),(9,dI .i64 oG)]) (fun (K3,oG,s5)=>⟨[(0,dC ((cW (cI .i64)).f s5))],[],1⟩) (PE cx (.exit 4) (fun yO=>[(0,dL (cI .i64) aZ),(1,dL (cI .i64) aY),(5,.ow 0 0 1 ((i64.wrap ((i64.wrap (((aZ).length:Int)+((aY).length:Int)))+(1:Int))).toNat)),(6,dI .i64 aE)]) fun yO=>⟨[(0,dC ((cW (cI .i64)).f yO))],[],1⟩) hy ?_ ?_ ?_
 exact wk0 h0 [0]
 clear hy h
 rintro⟨K3,oG,s5⟩ y h
 dsimp only[fW] at h
 refine AW.seq (ra hx ?_)
 refine cdh h rfl (fun Tj h=>?_) (fun Tj h=>?_)
 refine AW.skip (AW.seq (AW.block (rs hx fun K hK=>?_)))
 iterate 2 refine sa ?_
 obtain⟨Te,h⟩:=ax h
 have hn17:(oG).toNat<(s5).length:=by omega
 refine s1 (yU ⟨Te.1,Te.2.1⟩ eO dJ) ?_
 refine s1 (tU (a8.seqW (cI .i64) s5 ((oG).toNat) hn17) dJ) ?_
 iterate 2 refine sa ?_
 obtain⟨rL,CX,h⟩:=ai h
 replace CX:=bZ CX
 refine s2 (d2:=dI .i64 rL) lq (gj (congrArg (dI .i64) CX)) ?_
 refine nl hK ?_
 refine rs hx fun K hK=>?_
 iterate 4 refine sa ?_
 obtain⟨hc20,h⟩:=ax h
 have hn21:(oG).toNat<(s5).length:=by omega
 refine s1 (yU ⟨hc20.1,hc20.2.1⟩ eO dJ) ?_
 refine s0 (s6 (b':=Int.tmod rL (65536:Int)) (a8.seqW (cI .i64) s5 ((oG).toNat) hn21) dJ) ?_
 refine nl hK ?_
 iterate 2 refine rb hx ?_
 exact pel h h0 [0]
 exact AW.exit (per h h0 [0])
 refine lw0 ?_
 refine rb hx ?_
 exact pel h h0 [0]
 exact AW.exit (per h h0 [0])
 refine lw0 ?_
 refine rs hx fun K hK=>?_
 refine sa ?_
 obtain⟨hc24,h⟩:=ax h
 refine fzO (cI .i64) (n:=(i64.wrap ((i64.wrap (((aZ).length:Int)+((aY).length:Int)))+(1:Int))).toNat) 0 [5,70] hc24 ?_ (all2 rfl (all1 rfl))
 refine scb h jT fun x25 h=>?_
 refine nbi hK ?_
 exact AW.ret (rtv h)
def kw(aZ:List Int)(aY:List Int):Int→Option (Int⊕(Bool⊕Unit)):=fun aJ=>cnd (decide ((0:Int)≤aJ)) (bnd (cV aZ aJ) fun x4=>bnd (cV aY aJ) fun x6=>cnd (decide (x4≠x6)) (bnd (cV aZ aJ) fun x9=>bnd (cV aY aJ) fun vQ=>some (.inr (.inl (decide (x9<vQ))))) (some (.inl (i64.wrap (aJ - (1:Int)))))) (some (.inr (.inr ())))
def nY(aZ:List Int)(aY:List Int):Option Bool:=bnd (some (i64.wrap ((max ((aZ).length:Int) ((aY).length:Int)) - (1:Int)))) fun x1=>bnd (aL (kw aZ aY) x1) fun y13=>match y13 with| .inl r=>some r| .inr ()=>some false
theorem GE {aZ:List Int}{aY:List Int}{r:Bool}(h:nY aZ aY=some r):ar prog 171 [dL (cI .i64) aZ,dL (cI .i64) aY] (dB r):=by
 refine bB (rs:=[.tmp 4]) (fun cx hx h0=>?_) func171
 unfold nY at h
 refine ra hx ?_
 refine AW.seq (rs hx fun K hK=>?_)
 iterate 6 refine sa ?_
 obtain⟨x1,vY,h⟩:=ai h
 replace vY:=bZ vY
 refine s2 (d2:=dI .i64 x1) lq (gj (congrArg (dI .i64) vY)) ?_
 refine nl hK ?_
 refine AW.block ?_
 obtain⟨y,hy,h⟩:=ai h
 refine lp (S:=Int) (X:=Bool⊕Unit) (fun aJ=>[(0,dL (cI .i64) aZ),(1,dL (cI .i64) aY),(5,dI .i64 aJ)]) (fun aJ=>⟨[],[],0⟩) (PS (PR [.tmp 4] fun r=>dB r) (PE cx (.exit 0) (fun ()=>[]) fun ()=>⟨[],[],0⟩)) hy ?_ ?_ ?_
 exact wk0 h0 []
 clear hy h
 rintro aJ y h
 dsimp only[kw] at h
 refine AW.seq (ra hx ?_)
 refine cdh h rfl (fun fT h=>?_) (fun fT h=>?_)
 refine AW.skip (AW.seq (AW.block (rs hx fun K hK=>?_)))
 refine mbi ?_
 refine scb h fK fun x4 h=>?_
 refine mbi ?_
 refine scb h fK fun x6 h=>?_
 refine nbi hK ?_
 refine cdh h rfl (fun E8 h=>?_) (fun E8 h=>?_)
 refine rs hx fun K hK=>?_
 refine mbi ?_
 refine scb h fK fun x9 h=>?_
 refine mbi ?_
 refine scb h fK fun vQ h=>?_
 refine nbi hK ?_
 refine AW.ret ?_
 cases h
 refine PS.r ⟨by nofun,PS.l (PR.i ?_)⟩
 exact rv1
 refine AW.skip (rb hx ?_)
 exact pel h h0 []
 exact AW.exit (peq h h0 [])
 rcases y with r|⟨⟩
 rintro ex tm' hp' ⟨rfl,hw⟩
 cases h
 exact hw
 refine lwr ?_
 refine ra hx ?_
 exact AW.ret (rtv h)
def iL(aZ:List Int)(aY:List Int):(List Int)×Int×Int→Option (((List Int)×Int×Int)⊕((List Int))):=fun (cQ,bF,dP)=>cnd (decide (dP<((aZ).length:Int))) (gd (0≤dP∧dP<((aZ).length:Int)) (bnd (cV aY dP) fun x4=>bnd (some (i64.wrap ((i64.wrap (((aZ)[(dP).toNat]!) - x4)) - bF))) fun x6=>bnd (S:=Int×Int) (cnd (decide (x6<(0:Int))) (some (((1:Int),i64.wrap (x6+(65536:Int))))) (some (((0:Int),x6)))) fun (mn,p7)=>gd ((cQ++[p7]).length*8≤140737488355328) (some (.inl (cQ++[p7],mn,i64.wrap (dP+(1:Int))))))) (some (.inr cQ))
def kI(aZ:List Int)(aY:List Int):Option (List Int):=bnd (aL (iL aZ aY) (([]:List Int),(0:Int),(0:Int))) fun bW=>bnd (eT bW) fun mA=>some mA
theorem wb {aZ:List Int}{aY:List Int}{r:List Int}(h:kI aZ aY=some r):ar prog 172 [dL (cI .i64) aZ,dL (cI .i64) aY] (dL (cI .i64) r):=by
 refine bB (rs:=[.tmp 4]) (fun cx hx h0=>?_) func172
 unfold kI at h
 refine rs hx fun K hK=>?_
 refine s1 (d:=dO 0 (cI .i64) ([]:List Int)) (d8 eO dJ) ?_
 refine nl hK ?_
 refine rs hx fun K hK=>?_
 refine s1 (d:=dO 1 (cI .i64) ([]:List Int)) (d8 eO dJ) ?_
 refine nl hK ?_
 refine ra hx ?_
 refine AW.seq (ra hx ?_)
 refine AW.block ?_
 obtain⟨bW,hy,h⟩:=ai h
 refine lp (S:=(List Int)×Int×Int) (X:=(List Int)) (fun (cQ,bF,dP)=>[(0,dL (cI .i64) aZ),(1,dL (cI .i64) aY),(5,dO 0 (cI .i64) cQ),(6,dI .i64 bF),(7,dI .i64 dP)]) (fun (cQ,bF,dP)=>⟨[],[(0,(cQ).length,1,3)],1⟩) (PE cx (.exit 0) (fun bW=>[(5,dO 0 (cI .i64) bW)]) fun bW=>⟨[],[(0,(bW).length,1,3)],1⟩) hy ?_ ?_ ?_
 exact wk0 h0 [1]
 clear hy h
 rintro⟨cQ,bF,dP⟩ y h
 dsimp only[iL] at h
 refine AW.seq (ra hx ?_)
 refine cdh h rfl (fun fy h=>?_) (fun fy h=>?_)
 refine AW.skip (AW.seq (AW.block (rsd [158] hx fun K hK=>?_)))
 iterate 2 refine sa ?_
 obtain⟨ui,h⟩:=ax h
 have yq:(dP).toNat<(aZ).length:=by omega
 refine sbi ?_
 refine s1 (s7 (c:=(cI .i64)) (l:=aZ) (n:=(dP).toNat) (o:=0) dJ yq) ?_
 refine mbi ?_
 refine cqb h fK fun x4 h=>?_
 iterate 3 refine sa ?_
 obtain⟨x6,ug,h⟩:=ai h
 replace ug:=bZ ug
 refine s2 (d2:=dI .i64 x6) lq (gj (congrArg (dI .i64) ug)) ?_
 refine nl hK ?_
 refine ra hx ?_
 refine AW.seq ?_
 obtain⟨y,hy,h⟩:=ai h
 refine jn ((PE cx .normal (fun (mn,p7)=>[(0,dL (cI .i64) aZ),(1,dL (cI .i64) aY),(5,dO 0 (cI .i64) cQ),(6,dI .i64 mn),(7,dI .i64 dP),(8,dI .i64 p7)]) fun (mn,p7)=>⟨[],[(0,(cQ).length,1,3)],1⟩) y) ?_ ?_
 replace h:=hy
 refine ra hx ?_
 refine cdh h rfl (fun E8 h=>?_) (fun E8 h=>?_)
 refine ra hx ?_
 refine rb hx ?_
 exact pe1 h h0 [0]
 exact AW.skip (pe1 h h0 [0])
 obtain⟨mn,p7⟩:=y
 refine lw0 ?_
 refine rq hx fun K hK=>?_
 iterate 2 refine sa ?_
 refine s1 (d:=dO 1 (cI .i64) [p7]) (oi eO dJ) ?_
 obtain⟨Mo,h⟩:=ax h
 refine s1 (d:=dO 0 (cI .i64) (cQ++[p7])) (ip eO dJ Mo) ?_
 refine nbi hK ?_
 refine rb hx ?_
 exact pel h h0 [0]
 exact AW.exit (per h h0 [0])
 refine lw0 ?_
 refine rs hx fun K hK=>?_
 refine sa ?_
 refine scb h jT fun mA h=>?_
 refine nbi hK ?_
 exact AW.ret (rtv h)
def g9(aY:List Int)(ud:List Int):Int×(List Int)→Option ((Int×(List Int))⊕(Int×(List Int))):=fun (qY,D9)=>bnd (nY ud D9) fun B0=>cnd B0 (bnd (kI D9 aY) fun Nz=>some (.inl (i64.wrap (qY - (1:Int)),Nz))) (some (.inr (qY,D9)))
def ia(aZ:List Int)(aY:List Int)(x6:Int):(List Int)×Int×(List Int)→Option (((List Int)×Int×(List Int))⊕((List Int)×(List Int))):=fun (c9,mq,u4)=>cnd (decide ((0:Int)≤mq)) (gd (0≤mq∧mq<((aZ).length:Int)) (gd (([(aZ)[(mq).toNat]!]++c9).length*8≤140737488355328) (bnd (eT ([(aZ)[(mq).toNat]!]++c9)) fun ud=>bnd (ib ud ((aY).length:Int)) fun Fi=>bnd (ib ud (i64.wrap (((aY).length:Int) - (1:Int)))) fun rL=>bnd (ib ud (i64.wrap (((aY).length:Int) - (2:Int)))) fun Ll=>gd (x6≠0) (bnd (some (min (65535:Int) (i64.wrap (Int.tdiv (i64.wrap ((i64.wrap ((i64.wrap (Fi*(4294967296:Int)))+(i64.wrap (rL*(65536:Int)))))+Ll)) x6)))) fun Lk=>bnd (mF aY [Lk]) fun x25=>bnd (aL (g9 aY ud) (Lk,x25)) fun (vG,yQ)=>gd (0≤mq∧mq<(((((aZ).length:Int)).toNat:Nat):Int)∧mq<((u4).length:Int)) (bnd (kI ud yQ) fun x35=>some (.inl (x35,i64.wrap (mq - (1:Int)),(u4).set ((mq).toNat) vG))))))) (some (.inr (c9,u4)))
def jy(aZ:List Int)(aY:List Int):Option ((List Int)×(List Int)):=gd (0≤((aZ).length:Int)∧((aZ).length:Int)≤1000000) (gd (0≤i64.wrap (((aY).length:Int) - (1:Int))∧i64.wrap (((aY).length:Int) - (1:Int))<((aY).length:Int)) (bnd (ib aY (i64.wrap (((aY).length:Int) - (2:Int)))) fun x4=>bnd (some (i64.wrap ((i64.wrap (((aY)[(i64.wrap (((aY).length:Int) - (1:Int))).toNat]!)*(65536:Int)))+x4))) fun x6=>bnd (some (i64.wrap (((aZ).length:Int) - (1:Int)))) fun x8=>bnd (aL (ia aZ aY x6) (([]:List Int),x8,List.replicate (((aZ).length:Int)).toNat (0:Int))) fun (yS,vI)=>gd ((((aZ).length:Int)).toNat=(vI).length) (bnd (eT vI) fun PB=>some (PB,yS))))
theorem B8 {aZ:List Int}{aY:List Int}{r:(List Int)×(List Int)}(h:jy aZ aY=some r):ar prog 154 [dL (cI .i64) aZ,dL (cI .i64) aY] (.tu [dL (cI .i64) r.1,dL (cI .i64) r.2]):=by
 refine bB (rs:=[.tmp 4,.tmp 5]) (fun cx hx h0=>?_) func154
 unfold jy at h
 refine rs hx fun K hK=>?_
 refine s1 (d:=dO 0 (cI .i64) ([]:List Int)) (d8 eO dJ) ?_
 refine s1 (d:=dO 1 (cI .i64) ([]:List Int)) (d8 eO dJ) ?_
 refine nl hK ?_
 refine rs hx fun K hK=>?_
 iterate 2 refine sa ?_
 obtain⟨HK,h⟩:=ax h
 refine q1 (sMk (c:=(cI .i64)) (z0:=(0:Int)) tok HK eO dJ (by first|rfl|kernel_rfl)) ?_
 refine nbi hK ?_
 refine ra hx ?_
 refine rsd [175] hx fun K hK=>?_
 iterate 3 refine sa ?_
 obtain⟨ui,h⟩:=ax h
 have yq:(i64.wrap (((aY).length:Int) - (1:Int))).toNat<(aY).length:=by omega
 refine sbi ?_
 refine s1 (s7 (c:=(cI .i64)) (l:=aY) (n:=(i64.wrap (((aY).length:Int) - (1:Int))).toNat) (o:=0) dJ yq) ?_
 refine mbi ?_
 refine cqb h tj fun x4 h=>?_
 refine sa ?_
 obtain⟨x6,ug,h⟩:=ai h
 replace ug:=bZ ug
 refine s2 (d2:=dI .i64 x6) lq (gj (congrArg (dI .i64) ug)) ?_
 refine nl hK ?_
 refine rs hx fun K hK=>?_
 refine s1 (d:=dO 3 (cI .i64) ([]:List Int)) (d8 eO dJ) ?_
 refine nl hK ?_
 refine AW.seq (rs hx fun K hK=>?_)
 iterate 3 refine sa ?_
 obtain⟨x8,Of,h⟩:=ai h
 replace Of:=bZ Of
 refine s2 (d2:=dI .i64 x8) lq (gj (congrArg (dI .i64) Of)) ?_
 refine nl hK ?_
 refine AW.block ?_
 obtain⟨y,hy,h⟩:=ai h
 refine lp (S:=(List Int)×Int×(List Int)) (X:=(List Int)×(List Int)) (fun (c9,mq,u4)=>[(0,dL (cI .i64) aZ),(1,dL (cI .i64) aY),(6,.ow 0 0 1 ((((aZ).length:Int)).toNat)),(7,dI .i64 ((aY).length:Int)),(8,dI .i64 x6),(9,dL (cI .i64) c9),(10,dI .i64 mq)]) (fun (c9,mq,u4)=>⟨[(0,dC ((cW (cI .i64)).f u4))],[],1⟩) (PE cx (.exit 0) (fun (yS,vI)=>[(6,.ow 0 0 1 ((((aZ).length:Int)).toNat)),(9,dL (cI .i64) yS)]) fun (yS,vI)=>⟨[(0,dC ((cW (cI .i64)).f vI))],[],1⟩) hy ?_ ?_ ?_
 exact wk h0 [2] (wR rfl (wR rfl (wR rfl (wR rfl (wR rfl (wT rfl (pV _) rfl rfl (wR rfl wTn))))))) (vC rfl wVn) wLn
 clear hy h
 rintro⟨c9,mq,u4⟩ y h
 dsimp only[ia] at h
 refine AW.seq (ra hx ?_)
 refine cdh h rfl (fun ke h=>?_) (fun ke h=>?_)
 refine AW.skip (AW.seq (AW.block (rs hx fun K hK=>?_)))
 iterate 2 refine sa ?_
 obtain⟨Tf,h⟩:=ax h
 have hn12:(mq).toNat<(aZ).length:=by omega
 refine sbi ?_
 refine s1 (s7 (c:=(cI .i64)) (l:=aZ) (n:=(mq).toNat) (o:=0) dJ hn12) ?_
 refine s1 (d:=dO 1 (cI .i64) [(aZ)[(mq).toNat]!]) (oi eO dJ) ?_
 refine sa ?_
 obtain⟨hc13,h⟩:=ax h
 refine s1 (d:=dO 1 (cI .i64) ([(aZ)[(mq).toNat]!]++c9)) (ip eO dJ hc13) ?_
 refine scb h jT fun ud h=>?_
 refine nbi hK ?_
 refine rs hx fun K hK=>?_
 refine mbi ?_
 refine scb h tj fun Fi h=>?_
 refine mbi ?_
 refine scb h tj fun rL h=>?_
 refine mbi ?_
 refine scb h tj fun Ll h=>?_
 iterate 2 refine sa ?_
 obtain⟨Mn,h⟩:=ax h
 refine s1 (Gs Mn) ?_
 refine sa ?_
 obtain⟨Lk,hx24,h⟩:=ai h
 replace hx24:=bZ hx24
 refine s2 (d2:=dI .i64 Lk) lq (gj (congrArg (dI .i64) hx24)) ?_
 refine nl hK ?_
 refine rs hx fun K hK=>?_
 iterate 2 refine sa ?_
 refine s1 (d:=dO 2 (cI .i64) [Lk]) (oi eO dJ) ?_
 refine scb h EG fun x25 h=>?_
 refine nbi hK ?_
 refine AW.seq (AW.block ?_)
 obtain⟨y,hy,h⟩:=ai h
 refine lp (S:=Int×(List Int)) (X:=Int×(List Int)) (fun (qY,D9)=>[(0,dL (cI .i64) aZ),(1,dL (cI .i64) aY),(6,.ow 0 0 1 ((((aZ).length:Int)).toNat)),(7,dI .i64 ((aY).length:Int)),(8,dI .i64 x6),(9,dL (cI .i64) ud),(10,dI .i64 mq),(11,dI .i64 qY),(12,dL (cI .i64) D9)]) (fun (qY,D9)=>⟨[(0,dC ((cW (cI .i64)).f u4))],[],1⟩) (PE cx (.exit 2) (fun (vG,yQ)=>[(0,dL (cI .i64) aZ),(1,dL (cI .i64) aY),(6,.ow 0 0 1 ((((aZ).length:Int)).toNat)),(7,dI .i64 ((aY).length:Int)),(8,dI .i64 x6),(9,dL (cI .i64) ud),(10,dI .i64 mq),(11,dI .i64 vG),(12,dL (cI .i64) yQ)]) fun (vG,yQ)=>⟨[(0,dC ((cW (cI .i64)).f u4))],[],1⟩) hy ?_ ?_ ?_
 exact wk0 h0 [0]
 clear hy h
 rintro⟨qY,D9⟩ y h
 dsimp only[g9] at h
 refine AW.seq (rs hx fun K hK=>?_)
 refine mbi ?_
 refine scb h GE fun B0 h=>?_
 refine nl hK ?_
 refine cdh h rfl (fun hb29 h=>?_) (fun hb29 h=>?_)
 refine AW.skip (AW.block (ra hx ?_))
 refine rq hx fun K hK=>?_
 refine mbi ?_
 refine scb h wb fun Nz h=>?_
 refine nbi hK ?_
 exact pel h h0 [0]
 exact AW.exit (per h h0 [0])
 obtain⟨vG,yQ⟩:=y
 refine lw0 ?_
 refine rs hx fun K hK=>?_
 iterate 3 refine sa ?_
 obtain⟨hc33,h⟩:=ax h
 have hn34:(mq).toNat<(u4).length:=by omega
 refine s1 (yU ⟨hc33.1,hc33.2.1⟩ eO dJ) ?_
 refine s0 (s6 (b':=vG) (a8.seqW (cI .i64) u4 ((mq).toNat) hn34) dJ) ?_
 refine nl hK ?_
 refine rq hx fun K hK=>?_
 refine mbi ?_
 refine scb h wb fun x35 h=>?_
 refine nbi hK ?_
 refine rb hx ?_
 exact pel h h0 [0]
 exact AW.exit (per h h0 [0])
 obtain⟨yS,vI⟩:=y
 refine lw0 ?_
 refine rs hx fun K hK=>?_
 refine sa ?_
 obtain⟨hc38,h⟩:=ax h
 refine fzO (cI .i64) (n:=(((aZ).length:Int)).toNat) 0 [6,81] hc38 ?_ (all2 rfl (all1 rfl))
 refine scb h jT fun PB h=>?_
 refine nbi hK ?_
 refine AW.ret ?_
 cases h
 exact rv2
def iz :Int×Int→Option ((Int×Int)⊕Int):=fun (nB,Bf)=>cnd (decide (Bf≠(0:Int))) (gd (Bf≠0) (some (.inl (Bf,Int.tmod nB Bf)))) (some (.inr nB))
def iy :(List Int)×(List Int)→Option (((List Int)×(List Int))⊕((List Int))):=fun (Gl,D4)=>cnd (decide ((0:Int)<((D4).length:Int))) (bnd (jy Gl D4) fun IQ=>some (.inl (D4,IQ.2))) (some (.inr Gl))
def pD(aZ:ap)(aY:ap):Option ap:=bnd (l7 aZ) fun x1=>bnd (l7 aY) fun x3=>bnd (S:=Bool) (cnd x1.2 (some (x3.2)) (some (false))) fun aE=>cnd aE (bnd (aL (iz) (x1.1,x3.1)) fun yT=>bnd (oS yT) fun vQ=>bnd (pE vQ) fun yY=>some yY) (bnd (S:=Bool) (bnd (dc aZ) fun xw=>cnd (!xw) (some (true)) (bnd (dc aY) fun rL=>some (!rL))) fun qY=>cnd qY (bnd (lL) fun Bg=>some Bg) (bnd (eh aZ) fun PC=>bnd (eh aY) fun x26=>bnd (aL (iy) (PC,x26)) fun yM=>bnd (eU false yM) fun x32=>some x32))
theorem I7 {aZ:ap}{aY:ap}{r:ap}(h:pD aZ aY=some r):ar prog 120 [dG au aZ,dG au aY] (dG au r):=by
 refine bB (rs:=[.cell 4 32]) (fun cx hx h0=>?_) func120
 unfold pD at h
 refine rai hx ?_
 refine rs hx fun K hK=>?_
 refine mbi ?_
 refine scb h xC fun x1 h=>?_
 refine nbi hK ?_
 refine rs hx fun K hK=>?_
 refine mbi ?_
 refine scb h xC fun x3 h=>?_
 refine nbi hK ?_
 iterate 2 refine AW.seq ?_
 obtain⟨aE,hy,h⟩:=ai h
 refine jn ((PE cx .normal (fun aE=>[(2,.pt 0 0),(3,.pt 1 0),(4,.pt 2 0),(5,dI .i64 x1.1),(7,dI .i64 x3.1),(27,dB aE)]) fun aE=>⟨[(0,dC (au.f aZ)),(1,dC (au.f aY)),(2,dC (au.f dh))],[],3⟩) aE) ?_ ?_
 replace h:=hy
 refine rq hx fun K hK=>?_
 refine mbi ?_
 rcases bX h with⟨v4,h⟩|⟨v4,h⟩
 refine nbi hK ?_
 exact pe1 h h0 [0,1,2]
 refine nbi hK ?_
 exact pe1 h h0 [0,1,2]
 refine lw0 ?_
 refine cdh h rfl (fun wW h=>?_) (fun wW h=>?_)
 refine AW.seq (AW.block ?_)
 obtain⟨yT,hy,h⟩:=ai h
 refine lp (S:=Int×Int) (X:=Int) (fun (nB,Bf)=>[(4,.pt 0 0),(5,dI .i64 nB),(7,dI .i64 Bf)]) (fun (nB,Bf)=>⟨[(0,dC (au.f dh))],[],1⟩) (PE cx (.exit 0) (fun yT=>[(4,.pt 0 0),(5,dI .i64 yT)]) fun yT=>⟨[(0,dC (au.f dh))],[],1⟩) hy ?_ ?_ ?_
 exact wk0 h0 [2]
 clear hy h
 rintro⟨nB,Bf⟩ y h
 dsimp only[iz] at h
 refine AW.seq (ra hx ?_)
 refine cdh h rfl (fun E8 h=>?_) (fun E8 h=>?_)
 refine AW.skip (AW.block (rs hx fun K hK=>?_))
 iterate 2 refine sa ?_
 obtain⟨hc9,h⟩:=ax h
 refine s1 (Ec hc9) ?_
 refine nbi hK ?_
 refine ra hx ?_
 refine rb hx ?_
 exact pel h h0 [0]
 exact AW.exit (per h h0 [0])
 refine lw0 ?_
 refine rs hx fun K hK=>?_
 refine sa ?_
 refine scb h B9 fun vQ h=>?_
 refine scb h I8 fun yY h=>?_
 refine nbi hK ?_
 exact AW.ret (rtv h)
 refine AW.skip ?_
 iterate 2 refine AW.seq ?_
 obtain⟨qY,hy,h⟩:=ai h
 refine jn ((PE cx .normal (fun qY=>[(2,.pt 0 0),(3,.pt 1 0),(4,.pt 2 0),(45,dB qY)]) fun qY=>⟨[(0,dC (au.f aZ)),(1,dC (au.f aY)),(2,dC (au.f dh))],[],3⟩) qY) ?_ ?_
 replace h:=hy
 refine rq hx fun K hK=>?_
 refine mbi ?_
 refine scb h iB fun xw h=>?_
 refine mbi ?_
 rcases bX h with⟨Ti,h⟩|⟨Ti,h⟩
 refine nbi hK ?_
 exact pe1 h h0 [0,1,2]
 refine gbi ?_
 refine gcb h iB fun rL h=>?_
 refine nbi hK ?_
 exact pe1 h h0 [0,1,2]
 refine lw0 ?_
 refine cdh h rfl (fun HM h=>?_) (fun HM h=>?_)
 refine rs hx fun K hK=>?_
 refine scb h ur fun Bg h=>?_
 refine nbi hK ?_
 exact AW.ret (rtv h)
 refine AW.skip (rs hx fun K hK=>?_)
 refine mbi ?_
 refine scb h lx fun PC h=>?_
 refine nbi hK ?_
 refine rs hx fun K hK=>?_
 refine mbi ?_
 refine scb h lx fun x26 h=>?_
 refine nbi hK ?_
 refine AW.seq (AW.block ?_)
 obtain⟨yM,hy,h⟩:=ai h
 refine lp (S:=(List Int)×(List Int)) (X:=(List Int)) (fun (Gl,D4)=>[(4,.pt 0 0),(10,dL (cI .i64) Gl),(11,dL (cI .i64) D4)]) (fun (Gl,D4)=>⟨[(0,dC (au.f dh))],[],1⟩) (PE cx (.exit 2) (fun yM=>[(4,.pt 0 0),(10,dL (cI .i64) yM)]) fun yM=>⟨[(0,dC (au.f dh))],[],1⟩) hy ?_ ?_ ?_
 exact wk0 h0 [2]
 clear hy h
 rintro⟨Gl,D4⟩ y h
 dsimp only[iy] at h
 refine AW.seq (ra hx ?_)
 refine cdh h rfl (fun hb28 h=>?_) (fun hb28 h=>?_)
 refine AW.skip (AW.block (rs hx fun K hK=>?_))
 refine mbi ?_
 refine scb h B8 fun IQ h=>?_
 refine nbi hK ?_
 refine ra hx ?_
 refine rb hx ?_
 exact pel h h0 [0]
 exact AW.exit (per h h0 [0])
 refine lw0 ?_
 refine rs hx fun K hK=>?_
 refine sa ?_
 refine scb h nJ fun x32 h=>?_
 refine nbi hK ?_
 exact AW.ret (rtv h)
def nZ(bg:ap):Option Int:=bnd (S:=Bool) (bnd (dc bg) fun x1=>cnd (!x1) (some (true)) (bnd (eh bg) fun x4=>some (decide (((x4).length:Int)=(0:Int))))) fun bG=>cnd bG (some (0:Int)) (cnd bg.vNeg (some (-1:Int)) (some (1:Int)))
theorem GF {bg:ap}{r:Int}(h:nZ bg=some r):ar prog 119 [dG au bg] (dI .i64 r):=by
 refine bB (rs:=[.tmp 2]) (fun cx hx h0=>?_) func119
 unfold nZ at h
 refine ra hx ?_
 iterate 2 refine AW.seq ?_
 obtain⟨bG,hy,h⟩:=ai h
 refine jn ((PE cx .normal (fun bG=>[(1,.pt 0 0),(11,dB bG)]) fun bG=>⟨[(0,dC (au.f bg))],[],1⟩) bG) ?_ ?_
 replace h:=hy
 refine rq hx fun K hK=>?_
 refine mbi ?_
 refine scb h iB fun x1 h=>?_
 refine mbi ?_
 rcases bX h with⟨fT,h⟩|⟨fT,h⟩
 refine nbi hK ?_
 exact pe1 h h0 [0]
 refine gbi ?_
 refine gcb h lx fun x4 h=>?_
 refine nbi hK ?_
 exact pe1 h h0 [0]
 refine lw0 ?_
 refine cdh h rfl (fun wW h=>?_) (fun wW h=>?_)
 refine ra hx ?_
 exact AW.ret (rtv h)
 refine AW.skip (AW.seq (rai hx ?_))
 refine cdh h rfl (fun E8 h=>?_) (fun E8 h=>?_)
 refine ra hx ?_
 exact AW.ret (rtv h)
 refine AW.skip (ra hx ?_)
 exact AW.ret (rtv h)
def pC(dt:List Int)(jX:Int):Option Int:=bnd (cV dt (i64.wrap (Int.tdiv jX (16:Int)))) fun x1=>gd (0≤Int.tmod jX (16:Int)) (some (Int.tmod (li .i64 x1 (Int.tmod jX (16:Int))) (2:Int)))
theorem I6 {dt:List Int}{jX:Int}{r:Int}(h:pC dt jX=some r):ar prog 125 [dL (cI .i64) dt,dI .i64 jX] (dI .i64 r):=by
 refine bB (rs:=[.tmp 4]) (fun cx hx h0=>?_) func125
 unfold pC at h
 refine ra hx ?_
 refine rs hx fun K hK=>?_
 refine mbi ?_
 refine scb h fK fun x1 h=>?_
 iterate 2 refine sa ?_
 obtain⟨hc3,h⟩:=ax h
 refine s1 (O4 hc3) ?_
 refine nbi hK ?_
 exact AW.ret (rtv h)
def l8(x4:List Int):Int→Option (Int⊕Int):=fun dm=>bnd (S:=Bool) (cnd (decide ((0:Int)<dm)) (bnd (pC x4 (i64.wrap (dm - (1:Int)))) fun x9=>some (decide (x9=(0:Int)))) (some (false))) fun nA=>cnd nA (some (.inl (i64.wrap (dm - (1:Int))))) (some (.inr dm))
def eC(bg:ap):Option Int:=bnd (dc bg) fun x1=>cnd (!x1) (some (0:Int)) (bnd (eh bg) fun x4=>bnd (some (i64.wrap ((16:Int)*((x4).length:Int)))) fun x6=>bnd (aL (l8 x4) x6) fun og=>some og)
theorem xD {bg:ap}{r:Int}(h:eC bg=some r):ar prog 83 [dG au bg] (dI .i64 r):=by
 refine bB (rs:=[.tmp 2]) (fun cx hx h0=>?_) func83
 unfold eC at h
 refine ra hx ?_
 refine AW.seq (rs hx fun K hK=>?_)
 refine mbi ?_
 refine scb h iB fun x1 h=>?_
 refine nbi hK ?_
 refine cdh h rfl (fun fT h=>?_) (fun fT h=>?_)
 refine ra hx ?_
 exact AW.ret (rtv h)
 refine AW.skip (rs hx fun K hK=>?_)
 refine mbi ?_
 refine scb h lx fun x4 h=>?_
 refine nbi hK ?_
 refine rs hx fun K hK=>?_
 iterate 3 refine sa ?_
 obtain⟨x6,ug,h⟩:=ai h
 replace ug:=bZ ug
 refine s2 (d2:=dI .i64 x6) lq (gj (congrArg (dI .i64) ug)) ?_
 refine nl hK ?_
 refine AW.seq (AW.block ?_)
 obtain⟨og,hy,h⟩:=ai h
 refine lp (S:=Int) (X:=Int) (fun dm=>[(3,dL (cI .i64) x4),(4,dI .i64 dm)]) (fun dm=>⟨[],[],0⟩) (PE cx (.exit 0) (fun og=>[(4,dI .i64 og)]) fun og=>⟨[],[],0⟩) hy ?_ ?_ ?_
 exact wk0 h0 []
 clear hy h
 rintro dm y h
 dsimp only[l8] at h
 iterate 2 refine AW.seq ?_
 obtain⟨nA,hy,h⟩:=ai h
 refine jn ((PE cx .normal (fun nA=>[(3,dL (cI .i64) x4),(4,dI .i64 dm),(21,dB nA)]) fun nA=>⟨[],[],0⟩) nA) ?_ ?_
 replace h:=hy
 refine rq hx fun K hK=>?_
 refine mbi ?_
 rcases bX h with⟨E8,h⟩|⟨E8,h⟩
 iterate 3 refine ga E8 ?_
 refine gcb h I6 fun x9 h=>?_
 refine nbi hK ?_
 exact pe1 h h0 []
 refine nbi hK ?_
 exact pe1 h h0 []
 refine lw0 ?_
 refine cdh h rfl (fun Da h=>?_) (fun Da h=>?_)
 refine AW.skip (AW.block (rb hx ?_))
 exact pel h h0 []
 exact AW.exit (per h h0 [])
 refine lw0 ?_
 refine ra hx ?_
 exact AW.ret (rtv h)
structure ak where
 vN:ap
 vD:ap
 deriving Inhabited,DecidableEq
abbrev ij:ak:=⟨dh,dh⟩
def aj:Cd ak:=⟨36,fun x=>au.f x.vN++au.f x.vD,fun x=>by simp[au.h,show au.sz=18 from rfl]⟩
theorem qj(x:ak):a8 (aj.f x) au 0 x.vN (fun y=>aj.f (⟨y,x.vD⟩:ak)):=
 a8.of ([]) ((au).f x.vD) (by first|rfl|(simp[au.h];first|rfl|done)) (by first|rfl|simp[aj,cI,cB,cS,cL,bP]) (fun y=>by first|rfl|simp[aj,cI,cB,cS,cL,bP])
theorem qk(x:ak):a8 (aj.f x) au 18 x.vD (fun y=>aj.f (⟨x.vN,y⟩:ak)):=
 a8.of ((au).f x.vN) ([]) (by first|rfl|(simp[au.h];first|rfl|done)) (by first|rfl|simp[aj,cI,cB,cS,cL,bP]) (fun y=>by first|rfl|simp[aj,cI,cB,cS,cL,bP])
section
variable {md:Md} {ops:Array Oper} {K:List (Nat×D)→Hp→Prop} {os:List Oper} {tm:List (Nat×D)} {hp hp':Hp} {t s:Tmp} {op:Op} {ty:TypeId} {pos:String} {af:Array Edge} {d d2:D} {j:Nat} {want c:Bool}
variable {dr:Bool} {ev:Operand→D}
theorem avr(h:AVC prog tbl dr op ty ev hp (Kq d hp'):=by (first|exact av|exact KV_l (a8.id _ _)|exact s9 (F:=al_cV.f (cy)) cr|exact tU (lI _) tbI|exact tU (pw _) tbI|exact wz (lZ _) tbI|exact KV_l (lZ _)|exact s9 (F:=au.f (⟨false,false,(cy)⟩:ap)) g5|exact wz (qk _) tbI|exact wz (qj _) tbI|exact s9 (F:=aj.f (⟨(⟨false,false,(cy)⟩:ap),(⟨false,false,(cy)⟩:ap)⟩:ak)) aR|exact Ed tbI|exact cF tbI)):AVC prog tbl dr op ty ev hp (Kq d hp'):=h
theorem sbr(h2:aQ prog tbl md ops K os ((t,d)::tm) hp')(h:AVC prog tbl md.dr op ty (evD tm) hp (Kq d hp'):=by exact avr)(hn:md.nc tbl op=true:=by exact rfl):aQ prog tbl md ops K (⟨some t,op,ty,pos,af,none⟩::os) tm hp:=st tok hn h h2
theorem tzr(h2:aQ prog tbl md ops K os tm hp')(h:AVC prog tbl md.dr op ty (evD tm) hp (Kq .top hp'):=by (first|exact KV_s))(hn:md.nc tbl op=true:=by exact rfl):aQ prog tbl md ops K (⟨none,op,ty,pos,af,none⟩::os) tm hp:=st_n tok hn h h2
theorem gbr(h2:aQ prog tbl md ops K os ((t,d)::tm) hp')(hj:(ops[j]?).bind (·.dst)=some s:=by exact rfl)(hc:tm.lookup s=some (.e (.lit (.bool c))):=by exact rfl)(hw:c=want:=by (with_reducible first|rfl|assumption))(h:AVC prog tbl md.dr op ty (evD tm) hp (Kq d hp'):=by exact avr)(hn:md.nc tbl op=true:=by exact rfl):aQ prog tbl md ops K (⟨some t,op,ty,pos,af,some (j,want)⟩::os) tm hp:=Qu tok hn hj hc hw h h2
theorem mbr {os':List Oper}{tm':List (Nat×D)}(h2:aQ prog tbl md ops K os' tm' hp')(h:aQ prog tbl md ops K os' tm' hp'→aQ prog tbl md ops K os tm hp:=by (intro h;(repeat (first|refine sbr ?_|refine tzr ?_|refine gbr ?_|refine JM ?_));exact h)):aQ prog tbl md ops K os tm hp:=h h2
theorem nbr {R:List (Nat×D)→Hp→Prop}{tm':List (Nat×D)}(hK:∀tm hp,R tm hp→K tm hp)(h2:R tm' hp')(h:K tm' hp'→aQ prog tbl md ops K os tm hp:=by (intro h;(repeat (first|refine sbr ?_|refine tzr ?_|refine gbr ?_|refine JM ?_));exact .nil h)):aQ prog tbl md ops K os tm hp:=h (hK _ _ h2)
end
section
variable {x:Cx} {tm:List (Nat×D)} {hp hp':Hp} {Q:Exit→List (Nat×D)→Hp→Prop}
theorem rar {n id:Nat}{l:List Oper}{b:Code}{tm':List (Nat×D)}(hx:x.N=n)(h2:AW prog x b tm' hp' Q)(h:∀K:List (Nat×D)→Hp→Prop,K tm' hp'→aQ prog tbl .seq l.toArray K l tm hp:=by (intro K h;(repeat (first|refine sbr ?_|refine tzr ?_|refine gbr ?_|refine JM ?_));exact .nil h))(hN:gr n l.toArray=true:=by kernel_rfl):AW prog x (.seq (.region id l.toArray false) b) tm hp Q:=rs hx (fun K hK=>h K (hK _ _ h2)) hN
theorem rbr {n id:Nat}{l:List Oper}{tm':List (Nat×D)}(hx:x.N=n)(h2:Q .normal tm' hp')(h:∀K:List (Nat×D)→Hp→Prop,K tm' hp'→aQ prog tbl .seq l.toArray K l tm hp:=by (intro K h;(repeat (first|refine sbr ?_|refine tzr ?_|refine gbr ?_|refine JM ?_));exact .nil h))(hN:gr n l.toArray=true:=by kernel_rfl):AW prog x (.region id l.toArray false) tm hp Q:=rq hx (fun K hK=>h K (hK _ _ h2)) hN
end
def Ce(x:ap):List Value:=[Value.bool x.vBad]++([Value.bool x.vNeg]++((x.vW).toList.flatMap (fun x=>[Value.int .u32 x])++([])))
theorem fX:EqC tbl 3 32 au Ce:=by
 refine EqC.struct (fs:=[(0,4),(1,4),(2,30)]) g5 (fun x=>?_) (fun x=>by
  have q3:sP tbl (mW tbl 2) [] 18 []:=by unfold sP;rfl
  have q2:=qJ (off:=2) (x:=x.vW) (EqC.arr (EqC.int (d:=0) bH) cr bH) cr rfl q3
  have q1:=qJ (off:=1) (x:=x.vNeg) (EqC.bool (d:=1) sC) sC rfl q2
  have q0:=qJ (off:=0) (x:=x.vBad) (EqC.bool (d:=1) sC) sC rfl q1
  exact q0) ?_
 ·have:=And.intro (And.intro ((EqC.bool (d:=1) sC).hf x.vBad) (And.intro ((EqC.bool (d:=1) sC).hf x.vNeg) (And.intro ((EqC.arr (EqC.int (d:=0) bH) cr bH).hf x.vW) (True.intro)))) True.intro
  simp only[Ce,au,lf,pN,pY,bP]
  all_goals (first|rfl|(simp only[←(EqC.bool (d:=1) sC).hf,←(EqC.bool (d:=1) sC).hf,←(EqC.arr (EqC.int (d:=0) bH) cr bH).hf];try (first|rfl|simp[cI,cB])))
 ·skip
  intro x y h
  unfold Ce at h
  obtain⟨e0,h⟩:=xl h (by rw[(EqC.bool (d:=1) sC).len,(EqC.bool (d:=1) sC).len])
  obtain⟨e1,h⟩:=xl h (by rw[(EqC.bool (d:=1) sC).len,(EqC.bool (d:=1) sC).len])
  obtain⟨e2,h⟩:=xl h (by rw[(EqC.arr (EqC.int (d:=0) bH) cr bH).len,(EqC.arr (EqC.int (d:=0) bH) cr bH).len])
  cases x;cases y
  simp only[ap.mk.injEq]
  exact⟨((EqC.bool (d:=1) sC).inj _ _).1 e0,((EqC.bool (d:=1) sC).inj _ _).1 e1,((EqC.arr (EqC.int (d:=0) bH) cr bH).inj _ _).1 e2⟩
def Lr(x:ak):List Value:=Ce x.vN++(Ce x.vD++([]))
theorem vp:EqC tbl 4 34 aj Lr:=by
 refine EqC.struct (fs:=[(0,32),(18,32)]) aR (fun x=>?_) (fun x=>by
  have q2:sP tbl (mW tbl 3) [] 36 []:=by unfold sP;rfl
  have q1:=qJ (off:=18) (x:=x.vD) fX g5 rfl q2
  have q0:=qJ (off:=0) (x:=x.vN) fX g5 rfl q1
  exact q0) ?_
 ·have:=And.intro (And.intro (fX.hf x.vN) (And.intro (fX.hf x.vD) (True.intro))) True.intro
  simp only[Lr,aj,lf,pN,pY,bP]
  all_goals (first|rfl|(simp only[←fX.hf,←fX.hf];try (first|rfl|simp[cI,cB])))
 ·skip
  intro x y h
  unfold Lr at h
  obtain⟨e0,h⟩:=xl h (by rw[fX.len,fX.len])
  obtain⟨e1,h⟩:=xl h (by rw[fX.len,fX.len])
  cases x;cases y
  simp only[ak.mk.injEq]
  exact⟨(fX.inj _ _).1 e0,(fX.inj _ _).1 e1⟩
def iN(bg:ap):Option Bool:=bnd (S:=Bool) (cnd (!bg.vBad) (bnd (kD bg) fun x2=>some (x2)) (some (false))) fun jN=>some jN
theorem p9 {bg:ap}{r:Bool}(h:iN bg=some r):ar prog 91 [dG au bg] (dB r):=by
 refine bB (rs:=[.tmp 2]) (fun cx hx h0=>?_) func91
 unfold iN at h
 refine ra hx ?_
 refine AW.seq ?_
 obtain⟨jN,hy,h⟩:=ai h
 refine jn ((PE cx .normal (fun jN=>[(2,dB jN)]) fun jN=>⟨[],[],0⟩) jN) ?_ ?_
 replace h:=hy
 refine rq hx fun K hK=>?_
 refine mbr ?_
 rcases bX h with⟨fy,h⟩|⟨fy,h⟩
 refine gbr ?_
 refine gcb h v6 fun x2 h=>?_
 refine nbr hK ?_
 exact pe1 h h0 []
 refine nbr hK ?_
 exact pe1 h h0 []
 refine lw0 ?_
 exact AW.ret (rtv h)
def lM :Option ap:=bnd (eS (1:Int)) fun x1=>some x1
theorem ut  {r:ap}(h:lM=some r):ar prog 94 [] (dG au r):=by
 refine bB (rs:=[.cell 0 32]) (fun cx hx h0=>?_) func94
 unfold lM at h
 refine rar hx ?_
 refine rs hx fun K hK=>?_
 refine scb h mR fun x1 h=>?_
 refine nbr hK ?_
 exact AW.ret (rtv h)
def bq(bg:ak):Option Bool:=bnd (S:=Bool) (bnd (iN bg.vN) fun x1=>cnd x1 (bnd (iN bg.vD) fun x4=>cnd x4 (bnd (gD bg.vD) fun x7=>cnd (decide ((0:Int)<x7)) (bnd (nk bg.vN bg.vD) fun qp=>bnd (lM) fun mA=>some (decide (qp=mA))) (some (false))) (some (false))) (some (false))) fun jN=>some jN
theorem ez {bg:ak}{r:Bool}(h:bq bg=some r):ar prog 41 [dG aj bg] (dB r):=by
 refine bB (rs:=[.tmp 2]) (fun cx hx h0=>?_) func41
 unfold bq at h
 refine ra hx ?_
 refine AW.seq ?_
 obtain⟨jN,hy,h⟩:=ai h
 refine jn ((PE cx .normal (fun jN=>[(2,dB jN)]) fun jN=>⟨[],[],0⟩) jN) ?_ ?_
 replace h:=hy
 refine rq hx fun K hK=>?_
 refine mbr ?_
 refine scb h p9 fun x1 h=>?_
 refine sa ?_
 rcases bX h with⟨fT,h⟩|⟨fT,h⟩
 refine ga fT ?_
 refine gbr ?_
 refine gcb h p9 fun x4 h=>?_
 refine mbr ?_
 rcases bX h with⟨pJ,h⟩|⟨pJ,h⟩
 refine ga pJ ?_
 refine gbr ?_
 refine gcb h nI fun x7 h=>?_
 refine mbr ?_
 rcases bX h with⟨hb9,h⟩|⟨hb9,h⟩
 refine ga hb9 ?_
 refine gbr ?_
 refine ga hb9 ?_
 refine gbr ?_
 refine gcb h uq fun qp h=>?_
 refine gcb h ut fun mA h=>?_
 refine g1 hb9 (Ee tok 3 (by decide) fX g5) ?_
 refine nbr hK ?_
 exact pe1 h h0 []
 refine nbr hK ?_
 exact pe1 h h0 []
 refine nbr hK ?_
 exact pe1 h h0 []
 refine nbr hK ?_
 exact pe1 h h0 []
 refine lw0 ?_
 exact AW.ret (rtv h)
def gM :Option ak:=bnd (eb) fun x1=>bnd (lM) fun x3=>some (⟨x1,x3⟩:ak)
theorem nf  {r:ak}(h:gM=some r):ar prog 65 [] (dG aj r):=by
 refine bB (rs:=[.cell 0 34]) (fun cx hx h0=>?_) func65
 unfold gM at h
 refine rar hx ?_
 refine rs hx fun K hK=>?_
 refine scb h gI fun x1 h=>?_
 refine scb h ut fun x3 h=>?_
 refine s1 (d:=dG aj (⟨x1,x3⟩:ak)) (jO (FL.cons (y:=x1) (qj ij) rfl rfl (FL.cons (y:=x3) (qk (⟨x1,dh⟩:ak)) rfl rfl (FL.nil _))) aR) ?_
 refine nbr hK ?_
 exact AW.ret (rtv h)
def co(ew:ap)(IS:ap):Option ak:=bnd (S:=Bool) (bnd (iN ew) fun x1=>cnd (!x1) (some (true)) (bnd (iN IS) fun x4=>cnd (!x4) (some (true)) (bnd (gD IS) fun x7=>some (decide (x7=(0:Int)))))) fun bG=>cnd bG (bnd (gM) fun vQ=>some vQ) (bnd (nk ew IS) fun yY=>bnd (S:=ap) (bnd (gD IS) fun xw=>cnd (decide (xw<(0:Int))) (bnd (lK yY) fun rL=>some (rL)) (some (yY))) fun ja=>bnd (jP ew ja) fun Gv=>bnd (jP IS ja) fun Lk=>some (⟨Gv,Lk⟩:ak))
theorem iC {ew:ap}{IS:ap}{r:ak}(h:co ew IS=some r):ar prog 89 [dG au ew,dG au IS] (dG aj r):=by
 refine bB (rs:=[.cell 4 34]) (fun cx hx h0=>?_) func89
 unfold co at h
 refine rar hx ?_
 iterate 2 refine AW.seq ?_
 obtain⟨bG,hy,h⟩:=ai h
 refine jn ((PE cx .normal (fun bG=>[(2,.pt 0 0),(3,.pt 1 0),(4,.pt 2 0),(18,dB bG)]) fun bG=>⟨[(0,dC (au.f ew)),(1,dC (au.f IS)),(2,dC (aj.f ij))],[],3⟩) bG) ?_ ?_
 replace h:=hy
 refine rq hx fun K hK=>?_
 refine mbr ?_
 refine scb h p9 fun x1 h=>?_
 refine mbr ?_
 rcases bX h with⟨fT,h⟩|⟨fT,h⟩
 refine nbr hK ?_
 exact pe1 h h0 [0,1,2]
 refine gbr ?_
 refine gcb h p9 fun x4 h=>?_
 refine mbr ?_
 rcases bX h with⟨pJ,h⟩|⟨pJ,h⟩
 refine nbr hK ?_
 exact pe1 h h0 [0,1,2]
 refine gbr ?_
 refine gcb h nI fun x7 h=>?_
 refine nbr hK ?_
 exact pe1 h h0 [0,1,2]
 refine lw0 ?_
 refine cdh h rfl (fun ke h=>?_) (fun ke h=>?_)
 refine rs hx fun K hK=>?_
 refine scb h nf fun vQ h=>?_
 refine nbr hK ?_
 exact AW.ret (rtv h)
 refine AW.skip (rs hx fun K hK=>?_)
 refine mbr ?_
 refine scb h uq fun yY h=>?_
 refine nbr hK ?_
 refine AW.seq ?_
 obtain⟨ja,hy,h⟩:=ai h
 refine jn ((PE cx .normal (fun ja=>[(2,.pt 0 0),(3,.pt 1 0),(4,.pt 2 0),(5,.pt 3 0)]) fun ja=>⟨[(0,dC (au.f ew)),(1,dC (au.f IS)),(2,dC (aj.f ij)),(3,dC (au.f ja))],[],4⟩) ja) ?_ ?_
 replace h:=hy
 refine rs hx fun K hK=>?_
 refine mbr ?_
 refine scb h nI fun xw h=>?_
 refine nbr hK ?_
 refine cdh h rfl (fun Ti h=>?_) (fun Ti h=>?_)
 refine rq hx fun K hK=>?_
 refine mbr ?_
 refine scb h uo fun rL h=>?_
 refine nbr hK ?_
 exact pe1 h h0 [0,1,2,3]
 exact AW.skip (pe1 h h0 [0,1,2,3])
 refine lw0 ?_
 refine rsd [126] hx fun K hK=>?_
 refine mbr ?_
 refine cqb h na fun Gv h=>?_
 refine mbr ?_
 refine cqb h na fun Lk h=>?_
 refine s1 (d:=dG aj (⟨Gv,Lk⟩:ak)) (jO (FL.cons (y:=Gv) (qj ij) rfl rfl (FL.cons (y:=Lk) (qk (⟨Gv,dh⟩:ak)) rfl rfl (FL.nil _))) aR) ?_
 refine nbr hK ?_
 exact AW.ret (rtv h)
def fO(bg:ak)(rR:ak):Option ak:=bnd (S:=Bool) (bnd (bq bg) fun x1=>cnd (!x1) (some (true)) (bnd (bq rR) fun x4=>some (!x4))) fun bG=>cnd bG (bnd (gM) fun x8=>some x8) (bnd (nk bg.vD rR.vD) fun qp=>bnd (jP bg.vD qp) fun mA=>bnd (jP rR.vD qp) fun ud=>bnd (iI bg.vN ud) fun Fi=>bnd (iI rR.vN mA) fun rL=>bnd (iJ Fi rL) fun Ll=>bnd (iI mA rR.vD) fun Bg=>bnd (co Ll Bg) fun PC=>some PC)
theorem uu {bg:ak}{rR:ak}{r:ak}(h:fO bg rR=some r):ar prog 85 [dG aj bg,dG aj rR] (dG aj r):=by
 refine bB (rs:=[.cell 4 34]) (fun cx hx h0=>?_) func85
 unfold fO at h
 refine rar hx ?_
 iterate 2 refine AW.seq ?_
 obtain⟨bG,hy,h⟩:=ai h
 refine jn ((PE cx .normal (fun bG=>[(2,.pt 0 0),(3,.pt 1 0),(4,.pt 2 0),(15,dB bG)]) fun bG=>⟨[(0,dC (aj.f bg)),(1,dC (aj.f rR)),(2,dC (aj.f ij))],[],3⟩) bG) ?_ ?_
 replace h:=hy
 refine rq hx fun K hK=>?_
 refine mbr ?_
 refine scb h ez fun x1 h=>?_
 refine mbr ?_
 rcases bX h with⟨fT,h⟩|⟨fT,h⟩
 refine nbr hK ?_
 exact pe1 h h0 [0,1,2]
 refine gbr ?_
 refine gcb h ez fun x4 h=>?_
 refine nbr hK ?_
 exact pe1 h h0 [0,1,2]
 refine lw0 ?_
 refine cdh h rfl (fun wW h=>?_) (fun wW h=>?_)
 refine rs hx fun K hK=>?_
 refine scb h nf fun x8 h=>?_
 refine nbr hK ?_
 exact AW.ret (rtv h)
 refine AW.skip (rs hx fun K hK=>?_)
 refine mbr ?_
 refine scb h uq fun qp h=>?_
 refine nbr hK ?_
 refine AW.seq ?_
 obtain⟨mA,zX,h⟩:=ai h
 obtain⟨ud,zW,h⟩:=ai h
 refine jn (PE cx .normal (fun (_:Unit)=>[(2,.pt 0 0),(3,.pt 1 0),(4,.pt 2 0),(6,.pt 3 0),(7,.pt 4 0)]) (fun (_:Unit)=>⟨[(0,dC (aj.f bg)),(1,dC (aj.f rR)),(2,dC (aj.f ij)),(3,dC (au.f mA)),(4,dC (au.f ud))],[],5⟩) ()) ?_ ?_
 refine dw (DW.split 8 9 (by decide) ?_ ?_)
 refine dwg [126] [0,1,2,3,4,5,6,7,8,9,10,11] hx (by kernel_rfl) (by kernel_rfl) (by kernel_rfl) fun K hK=>?_
 dsimp only[db,nG,nD,List.map]
 refine mbr ?_
 refine cq (na zX) ?_
 refine mbr ?_
 refine cq (na zW) ?_
 iterate 2 refine sbr ?_
 iterate 2 refine tzr ?_
 exact .nil (hK _ _ (pe0 h0 [0,1,2,4,5]))
 refine dwg [126] [0,1,2,3,4,5,6,7,9,8,10,11] hx (by kernel_rfl) (by kernel_rfl) (by kernel_rfl) fun K hK=>?_
 dsimp only[db,nG,nD,List.map]
 refine mbr ?_
 refine cq (na zX) ?_
 refine mbr ?_
 refine cq (na zW) ?_
 iterate 2 refine sbr ?_
 iterate 2 refine tzr ?_
 exact .nil (hK _ _ (pe0 h0 [0,1,2,5,4]))
 refine lw0 ?_
 refine rsd [90,127,89] hx fun K hK=>?_
 refine mbr ?_
 refine cqb h lw fun Fi h=>?_
 refine mbr ?_
 refine cqb h lw fun rL h=>?_
 refine cqb h AF fun Ll h=>?_
 refine mbr ?_
 refine cqb h lw fun Bg h=>?_
 refine cqb h iC fun PC h=>?_
 refine nbr hK ?_
 exact AW.ret (rtv h)
def ee(bg:ak)(rR:ak):Option ak:=bnd (S:=Bool) (bnd (bq bg) fun x1=>cnd (!x1) (some (true)) (bnd (bq rR) fun x4=>some (!x4))) fun bG=>cnd bG (bnd (gM) fun x8=>some x8) (bnd (co bg.vN rR.vD) fun qp=>bnd (co rR.vN bg.vD) fun mA=>bnd (iI qp.vN mA.vN) fun ud=>bnd (iI qp.vD mA.vD) fun Fi=>bnd (S:=Bool) (cnd ud.vBad (some (true)) (some (Fi.vBad))) fun dm=>cnd dm (bnd (gM) fun Gv=>some Gv) (some (⟨ud,Fi⟩:ak)))
theorem nb {bg:ak}{rR:ak}{r:ak}(h:ee bg rR=some r):ar prog 40 [dG aj bg,dG aj rR] (dG aj r):=by
 refine bB (rs:=[.cell 4 34]) (fun cx hx h0=>?_) func40
 unfold ee at h
 refine rar hx ?_
 iterate 2 refine AW.seq ?_
 obtain⟨bG,hy,h⟩:=ai h
 refine jn ((PE cx .normal (fun bG=>[(2,.pt 0 0),(3,.pt 1 0),(4,.pt 2 0),(16,dB bG)]) fun bG=>⟨[(0,dC (aj.f bg)),(1,dC (aj.f rR)),(2,dC (aj.f ij))],[],3⟩) bG) ?_ ?_
 replace h:=hy
 refine rq hx fun K hK=>?_
 refine mbr ?_
 refine scb h ez fun x1 h=>?_
 refine mbr ?_
 rcases bX h with⟨fT,h⟩|⟨fT,h⟩
 refine nbr hK ?_
 exact pe1 h h0 [0,1,2]
 refine gbr ?_
 refine gcb h ez fun x4 h=>?_
 refine nbr hK ?_
 exact pe1 h h0 [0,1,2]
 refine lw0 ?_
 refine cdh h rfl (fun wW h=>?_) (fun wW h=>?_)
 refine rs hx fun K hK=>?_
 refine scb h nf fun x8 h=>?_
 refine nbr hK ?_
 exact AW.ret (rtv h)
 refine AW.skip (AW.seq ?_)
 obtain⟨qp,EX,h⟩:=ai h
 obtain⟨mA,zX,h⟩:=ai h
 refine jn (PE cx .normal (fun (_:Unit)=>[(4,.pt 0 0),(5,.pt 1 0),(6,.pt 2 0)]) (fun (_:Unit)=>⟨[(0,dC (aj.f ij)),(1,dC (aj.f qp)),(2,dC (aj.f mA))],[],3⟩) ()) ?_ ?_
 refine dw (DW.split 10 11 (by decide) ?_ ?_)
 refine dwg [89] [0,1,2,3,4,5,6,7,8,9,10,11,12,13] hx (by kernel_rfl) (by kernel_rfl) (by kernel_rfl) fun K hK=>?_
 dsimp only[db,nG,nD,List.map]
 refine mbr ?_
 refine cq (iC EX) ?_
 refine mbr ?_
 refine cq (iC zX) ?_
 iterate 2 refine sbr ?_
 iterate 2 refine tzr ?_
 exact .nil (hK _ _ (pe0 h0 [2,3,4]))
 refine dwg [89] [0,1,2,3,4,5,6,7,8,9,11,10,12,13] hx (by kernel_rfl) (by kernel_rfl) (by kernel_rfl) fun K hK=>?_
 dsimp only[db,nG,nD,List.map]
 refine mbr ?_
 refine cq (iC EX) ?_
 refine mbr ?_
 refine cq (iC zX) ?_
 iterate 2 refine sbr ?_
 iterate 2 refine tzr ?_
 exact .nil (hK _ _ (pe0 h0 [2,4,3]))
 refine lw0 ?_
 refine AW.seq ?_
 obtain⟨ud,zW,h⟩:=ai h
 obtain⟨Fi,hx17,h⟩:=ai h
 refine jn (PE cx .normal (fun (_:Unit)=>[(4,.pt 0 0),(7,.pt 1 0),(8,.pt 2 0)]) (fun (_:Unit)=>⟨[(0,dC (aj.f ij)),(1,dC (au.f ud)),(2,dC (au.f Fi))],[],3⟩) ()) ?_ ?_
 refine dw (DW.split 10 11 (by decide) ?_ ?_)
 refine dwg [90] [0,1,2,3,4,5,6,7,8,9,10,11,12,13] hx (by kernel_rfl) (by kernel_rfl) (by kernel_rfl) fun K hK=>?_
 dsimp only[db,nG,nD,List.map]
 refine mbr ?_
 refine cq (lw zW) ?_
 refine mbr ?_
 refine cq (lw hx17) ?_
 iterate 2 refine sbr ?_
 iterate 2 refine tzr ?_
 exact .nil (hK _ _ (pe0 h0 [0,3,4]))
 refine dwg [90] [0,1,2,3,4,5,6,7,8,9,11,10,12,13] hx (by kernel_rfl) (by kernel_rfl) (by kernel_rfl) fun K hK=>?_
 dsimp only[db,nG,nD,List.map]
 refine mbr ?_
 refine cq (lw zW) ?_
 refine mbr ?_
 refine cq (lw hx17) ?_
 iterate 2 refine sbr ?_
 iterate 2 refine tzr ?_
 exact .nil (hK _ _ (pe0 h0 [0,4,3]))
 refine lw0 ?_
 iterate 2 refine AW.seq ?_
 obtain⟨dm,hy,h⟩:=ai h
 refine jn ((PE cx .normal (fun dm=>[(4,.pt 0 0),(7,.pt 1 0),(8,.pt 2 0),(43,dB dm)]) fun dm=>⟨[(0,dC (aj.f ij)),(1,dC (au.f ud)),(2,dC (au.f Fi))],[],3⟩) dm) ?_ ?_
 replace h:=hy
 refine rq hx fun K hK=>?_
 refine mbr ?_
 rcases bX h with⟨hb18,h⟩|⟨hb18,h⟩
 refine nbr hK ?_
 exact pe1 h h0 [0,1,2]
 refine nbr hK ?_
 exact pe1 h h0 [0,1,2]
 refine lw0 ?_
 refine cdh h rfl (fun wX h=>?_) (fun wX h=>?_)
 refine rs hx fun K hK=>?_
 refine scb h nf fun Gv h=>?_
 refine nbr hK ?_
 exact AW.ret (rtv h)
 refine AW.skip (rs hx fun K hK=>?_)
 iterate 2 refine sbr ?_
 refine s1 (d:=dG aj (⟨ud,Fi⟩:ak)) (jO (FL.cons (y:=ud) (qj ij) rfl rfl (FL.cons (y:=Fi) (qk (⟨ud,dh⟩:ak)) rfl rfl (FL.nil _))) aR) ?_
 refine nbr hK ?_
 exact AW.ret (rtv h)
def rA(bg:ak)(rR:ak):Option ak:=bnd (bq rR) fun x1=>cnd (!x1) (bnd (gM) fun x4=>some x4) (bnd (co rR.vD rR.vN) fun x6=>bnd (ee bg x6) fun x8=>some x8)
theorem Ja {bg:ak}{rR:ak}{r:ak}(h:rA bg rR=some r):ar prog 144 [dG aj bg,dG aj rR] (dG aj r):=by
 refine bB (rs:=[.cell 4 34]) (fun cx hx h0=>?_) func144
 unfold rA at h
 refine rar hx ?_
 refine AW.seq (rs hx fun K hK=>?_)
 refine mbr ?_
 refine scb h ez fun x1 h=>?_
 refine nbr hK ?_
 refine cdh h rfl (fun fT h=>?_) (fun fT h=>?_)
 refine rs hx fun K hK=>?_
 refine scb h nf fun x4 h=>?_
 refine nbr hK ?_
 exact AW.ret (rtv h)
 refine AW.skip (rsd [89,40] hx fun K hK=>?_)
 refine mbr ?_
 refine cqb h iC fun x6 h=>?_
 refine cqb h nb fun x8 h=>?_
 refine nbr hK ?_
 exact AW.ret (rtv h)
def l9(aZ:Int)(aY:Int):Option ak:=bnd (eS aZ) fun x1=>bnd (eS aY) fun x3=>bnd (co x1 x3) fun x5=>some x5
theorem GG {aZ:Int}{aY:Int}{r:ak}(h:l9 aZ aY=some r):ar prog 61 [dI .i64 aZ,dI .i64 aY] (dG aj r):=by
 refine bB (rs:=[.cell 4 34]) (fun cx hx h0=>?_) func61
 unfold l9 at h
 refine rar hx ?_
 refine rs hx fun K hK=>?_
 refine sa ?_
 refine scb h mR fun x1 h=>?_
 refine sa ?_
 refine scb h mR fun x3 h=>?_
 refine scb h iC fun x5 h=>?_
 refine nbr hK ?_
 exact AW.ret (rtv h)
def lN(bg:ak):Option ak:=bnd (bq bg) fun x1=>cnd (!x1) (bnd (gM) fun x4=>some x4) (bnd (lK bg.vN) fun x6=>some (⟨x6,bg.vD⟩:ak))
theorem AG {bg:ak}{r:ak}(h:lN bg=some r):ar prog 17 [dG aj bg] (dG aj r):=by
 refine bB (rs:=[.cell 2 34]) (fun cx hx h0=>?_) func17
 unfold lN at h
 refine rar hx ?_
 refine AW.seq (rs hx fun K hK=>?_)
 refine mbr ?_
 refine scb h ez fun x1 h=>?_
 refine nbr hK ?_
 refine cdh h rfl (fun fT h=>?_) (fun fT h=>?_)
 refine rs hx fun K hK=>?_
 refine scb h nf fun x4 h=>?_
 refine nbr hK ?_
 exact AW.ret (rtv h)
 refine AW.skip (rsd [66] hx fun K hK=>?_)
 refine mbr ?_
 refine cqb h uo fun x6 h=>?_
 iterate 2 refine sbr ?_
 refine s1 (d:=dG aj (⟨x6,bg.vD⟩:ak)) (jO (FL.cons (y:=x6) (qj ij) rfl rfl (FL.cons (y:=bg.vD) (qk (⟨x6,dh⟩:ak)) rfl rfl (FL.nil _))) aR) ?_
 refine nbr hK ?_
 exact AW.ret (rtv h)
def mG(ew:ap):Option ak:=bnd (lM) fun x1=>bnd (co ew x1) fun x3=>some x3
theorem EI {ew:ap}{r:ak}(h:mG ew=some r):ar prog 104 [dG au ew] (dG aj r):=by
 refine bB (rs:=[.cell 2 34]) (fun cx hx h0=>?_) func104
 unfold mG at h
 refine rar hx ?_
 refine rsd [94,89] hx fun K hK=>?_
 refine mbr ?_
 refine cqb h ut fun x1 h=>?_
 refine cqb h iC fun x3 h=>?_
 refine nbr hK ?_
 exact AW.ret (rtv h)
def d7(ew:Int):Option ak:=bnd (eS ew) fun x1=>bnd (mG x1) fun x3=>some x3
theorem jU {ew:Int}{r:ak}(h:d7 ew=some r):ar prog 60 [dI .i64 ew] (dG aj r):=by
 refine bB (rs:=[.cell 2 34]) (fun cx hx h0=>?_) func60
 unfold d7 at h
 refine rar hx ?_
 refine rs hx fun K hK=>?_
 refine sa ?_
 refine scb h mR fun x1 h=>?_
 refine scb h EI fun x3 h=>?_
 refine nbr hK ?_
 exact AW.ret (rtv h)
def iO(bg:ak):Option Int:=bnd (bq bg) fun x1=>cnd (!x1) (some (0:Int)) (bnd (gD bg.vN) fun x4=>some x4)
theorem tp {bg:ak}{r:Int}(h:iO bg=some r):ar prog 42 [dG aj bg] (dI .i64 r):=by
 refine bB (rs:=[.tmp 2]) (fun cx hx h0=>?_) func42
 unfold iO at h
 refine ra hx ?_
 refine AW.seq (rs hx fun K hK=>?_)
 refine mbr ?_
 refine scb h ez fun x1 h=>?_
 refine nbr hK ?_
 refine cdh h rfl (fun fT h=>?_) (fun fT h=>?_)
 refine ra hx ?_
 exact AW.ret (rtv h)
 refine AW.skip (rs hx fun K hK=>?_)
 refine mbr ?_
 refine scb h nI fun x4 h=>?_
 refine nbr hK ?_
 exact AW.ret (rtv h)
def rz(bg:ak)(rR:ak):Option ak:=bnd (lN rR) fun x1=>bnd (fO bg x1) fun x3=>some x3
theorem I9 {bg:ak}{rR:ak}{r:ak}(h:rz bg rR=some r):ar prog 146 [dG aj bg,dG aj rR] (dG aj r):=by
 refine bB (rs:=[.cell 4 34]) (fun cx hx h0=>?_) func146
 unfold rz at h
 refine rar hx ?_
 refine rsd [17,85] hx fun K hK=>?_
 refine mbr ?_
 refine cqb h AG fun x1 h=>?_
 refine cqb h uu fun x3 h=>?_
 refine nbr hK ?_
 exact AW.ret (rtv h)
def pB :Option ap:=bnd (oS (1:Int)) fun x1=>some x1
theorem I5  {r:ap}(h:pB=some r):ar prog 116 [] (dG au r):=by
 refine bB (rs:=[.cell 0 32]) (fun cx hx h0=>?_) func116
 unfold pB at h
 refine rar hx ?_
 refine rs hx fun K hK=>?_
 refine scb h B9 fun x1 h=>?_
 refine nbr hK ?_
 exact AW.ret (rtv h)
def l5(bg:ak):Option Bool:=bnd (S:=Bool) (bnd (dc bg.vN) fun x1=>cnd (!x1) (some (true)) (bnd (dc bg.vD) fun x4=>some (!x4))) fun bG=>cnd bG (some false) (bnd (S:=Bool) (bnd (nZ bg.vD) fun x8=>cnd (decide ((0:Int)<x8)) (bnd (pD bg.vN bg.vD) fun vQ=>bnd (pB) fun yY=>some (decide (vQ=yY))) (some (false))) fun kA=>some kA)
theorem GC {bg:ak}{r:Bool}(h:l5 bg=some r):ar prog 72 [dG aj bg] (dB r):=by
 refine bB (rs:=[.tmp 2]) (fun cx hx h0=>?_) func72
 unfold l5 at h
 refine ra hx ?_
 iterate 2 refine AW.seq ?_
 obtain⟨bG,hy,h⟩:=ai h
 refine jn ((PE cx .normal (fun bG=>[(1,.pt 0 0),(12,dB bG)]) fun bG=>⟨[(0,dC (aj.f bg))],[],1⟩) bG) ?_ ?_
 replace h:=hy
 refine rq hx fun K hK=>?_
 refine mbr ?_
 refine scb h iB fun x1 h=>?_
 refine mbr ?_
 rcases bX h with⟨fT,h⟩|⟨fT,h⟩
 refine nbr hK ?_
 exact pe1 h h0 [0]
 refine ga fT ?_
 refine gbr ?_
 refine gcb h iB fun x4 h=>?_
 refine nbr hK ?_
 exact pe1 h h0 [0]
 refine lw0 ?_
 refine cdh h rfl (fun wW h=>?_) (fun wW h=>?_)
 refine ra hx ?_
 exact AW.ret (rtv h)
 refine AW.skip (AW.seq ?_)
 obtain⟨kA,hy,h⟩:=ai h
 refine jn ((PE cx .normal (fun kA=>[(2,dB kA)]) fun kA=>⟨[],[],0⟩) kA) ?_ ?_
 replace h:=hy
 refine rq hx fun K hK=>?_
 refine mbr ?_
 refine scb h GF fun x8 h=>?_
 refine mbr ?_
 rcases bX h with⟨ke,h⟩|⟨ke,h⟩
 refine ga ke ?_
 refine gbr ?_
 refine ga ke ?_
 refine gbr ?_
 refine gcb h I7 fun vQ h=>?_
 refine gcb h I5 fun yY h=>?_
 refine g1 ke (Ee tok 3 (by decide) fX g5) ?_
 refine nbr hK ?_
 exact pe1 h h0 []
 refine nbr hK ?_
 exact pe1 h h0 []
 refine lw0 ?_
 exact AW.ret (rtv h)
def fM(aZ:List ak)(aY:List ak):Int→Option (Int⊕(Bool⊕Unit)):=fun c9=>cnd (decide (c9<((aZ).length:Int))) (gd (0≤c9∧c9<((aZ).length:Int)) (gd (0≤c9∧c9<((aY).length:Int)) (cnd (decide (¬((aZ)[(c9).toNat]! =(aY)[(c9).toNat]!))) (some (.inr (.inl false))) (some (.inl (i64.wrap (c9+(1:Int)))))))) (some (.inr (.inr ())))
def b7(aZ:List ak)(aY:List ak):Option Bool:=cnd (decide (((aZ).length:Int)≠((aY).length:Int))) (some false) (bnd (aL (fM aZ aY) (0:Int)) fun y8=>match y8 with| .inl r=>some r| .inr ()=>some true)
theorem sx {aZ:List ak}{aY:List ak}{r:Bool}(h:b7 aZ aY=some r):ar prog 27 [dL aj aZ,dL aj aY] (dB r):=by
 refine bB (rs:=[.tmp 4]) (fun cx hx h0=>?_) func27
 unfold b7 at h
 refine ra hx ?_
 refine AW.seq (ra hx ?_)
 refine cdh h rfl (fun fy h=>?_) (fun fy h=>?_)
 refine ra hx ?_
 exact AW.ret (rtv h)
 refine AW.skip (AW.seq (ra hx ?_))
 refine AW.block ?_
 obtain⟨y,hy,h⟩:=ai h
 refine lp (S:=Int) (X:=Bool⊕Unit) (fun c9=>[(0,dL aj aZ),(1,dL aj aY),(5,dI .i64 c9)]) (fun c9=>⟨[],[],0⟩) (PS (PR [.tmp 4] fun r=>dB r) (PE cx (.exit 0) (fun ()=>[]) fun ()=>⟨[],[],0⟩)) hy ?_ ?_ ?_
 exact wk0 h0 []
 clear hy h
 rintro c9 y h
 dsimp only[fM] at h
 refine AW.seq (ra hx ?_)
 refine cdh h rfl (fun rf h=>?_) (fun rf h=>?_)
 refine AW.skip (AW.seq (AW.block (rsd [] hx fun K hK=>?_)))
 iterate 2 refine sa ?_
 obtain⟨hc3,h⟩:=ax h
 have hn4:(c9).toNat<(aZ).length:=by omega
 refine sbr ?_
 refine s1 (d:=dG aj ((aZ)[(c9).toNat]!)) (rK (c:=aj) (l:=aZ) (n:=(c9).toNat) (o:=0) aR hn4 (nH _ _ rfl)) ?_
 iterate 2 refine sa ?_
 obtain⟨FQ,h⟩:=ax h
 have hn6:(c9).toNat<(aY).length:=by omega
 refine sbr ?_
 refine s1 (d:=dG aj ((aY)[(c9).toNat]!)) (rK (c:=aj) (l:=aY) (n:=(c9).toNat) (o:=0) aR hn6 (nH _ _ rfl)) ?_
 refine s1 (xo tok 4 (by decide) vp aR) ?_
 refine nl hK ?_
 refine cdh h rfl (fun wW h=>?_) (fun wW h=>?_)
 refine ra hx ?_
 refine AW.ret ?_
 cases h
 refine PS.r ⟨by nofun,PS.l (PR.i ?_)⟩
 exact rv1
 refine AW.skip (rb hx ?_)
 exact pel h h0 []
 exact AW.exit (peq h h0 [])
 rcases y with r|⟨⟩
 rintro ex tm' hp' ⟨rfl,hw⟩
 cases h
 exact hw
 refine lwr ?_
 refine ra hx ?_
 exact AW.ret (rtv h)
def n0(q:Rat):Prop:=q.num.natAbs<LIM∧q.den<LIM
instance(q:Rat):Decidable (n0 q):=by unfold n0;exact inferInstance
def mJ(q:Rat):ak:=⟨enc q.num,enc (q.den:Int)⟩
def Ff:ak:=⟨KJ,enc 1⟩
def Ab:Option Rat→ak
 |some q=>mJ q
 |none=>Ff
def okR(x:ak):Prop:=okI x.vN∧okI x.vD
theorem tA(o:Option Rat):okR (Ab o):=by
 cases o with
 |some q=>exact⟨G9 _,G9 _⟩
 |none=>
  refine⟨fun j hj=>?_,G9 _⟩
  show 0≤(W 0)[j]!∧(W 0)[j]! <4294967296
  rw[f8 hj];have:=@dgl 0 j;omega
theorem TG {p q:Rat}(hp:n0 p)(hq:n0 q)(h:mJ p=mJ q):p=q:=by
 unfold mJ at h
 simp only[ak.mk.injEq] at h
 have h1:=yx hp.1 hq.1 h.1
 have h2:=yx (by simpa using hp.2) (by simpa using hq.2) h.2
 exact Rat.ext h1 (by omega)
theorem tI {z:Int}:dA (enc z)=decide (z.natAbs<LIM):=by
 by_cases h:z.natAbs<LIM
 ·rw[bA h,ck h]
 ·rw[Dj h,FR,gQ h]
theorem Ku {q:Rat}(h:n0 q):mJ q≠Ff:=by
 intro e
 have:dA (mJ q).vN=dA Ff.vN:=by rw[e]
 rw[show (mJ q).vN=enc q.num from rfl,bA h.1] at this
 cases this
def cR(x:ak):Option Rat:=open Classical in if h:∃q,n0 q∧x=mJ q then some (Classical.choose h) else none
theorem fb {x:ak}{q:Rat}:cR x=some q↔n0 q∧x=mJ q:=by
 unfold cR
 split
 ·rename_i h
  obtain⟨h1,h2⟩:=DY h
  constructor
  ·intro e
   injection e with e
   rw[←e];exact⟨h1,h2⟩
  ·rintro⟨h3,h4⟩
   congr 1
   exact TG h1 h3 (h2.symm.trans h4)
 ·rename_i h
  constructor
  ·intro e;cases e
  ·rintro h3;exact absurd ⟨q,h3⟩ h
theorem zf {x:ak}:cR x=none↔∀q,n0 q→x≠mJ q:=by
 constructor
 ·intro h q hq e
  rw[fb.2 ⟨hq,e⟩] at h;cases h
 ·intro h
  cases hx:cR x with
  |none=>rfl
  |some q=>exact absurd (fb.1 hx).2 (h q (fb.1 hx).1)
theorem ux {q:Rat}(h:n0 q):cR (mJ q)=some q:=fb.2 ⟨h,rfl⟩
theorem Rj:cR Ff=none:=zf.2 fun _ hq e=>Ku hq e.symm
def z8(o:Option Rat):Prop:=∀q,o=some q→n0 q
theorem zg {o:Option Rat}(h:z8 o):cR (Ab o)=o:=by
 cases o with
 |none=>exact Rj
 |some q=>exact ux (h q rfl)
theorem Dg(x:ak):z8 (cR x):=fun _ h=>(fb.1 h).1
theorem ql:z8 none:=fun _ h=>by cases h
theorem TA {g k:Int}(h:g≠0):(g*k).fdiv g=k:=Int.mul_fdiv_cancel_left _ h
theorem OE {g k:Int}(h:g≠0):(g*k).fdiv (-g)=-k:=by
 rw[show g*k=-g*-k from (Int.neg_mul_neg g k).symm]
 exact Int.mul_fdiv_cancel_left _ (by omega)
theorem qf {n d:Int}(hd:d≠0):∃k m:Int,n=(Nat.gcd n.natAbs d.natAbs:Nat)*k∧d=(Nat.gcd n.natAbs d.natAbs:Nat)*m∧m≠0∧(Rat.divInt n d).num=d.sign*k∧((Rat.divInt n d).den:Int)=d.sign*m:=by
 have hg0:Nat.gcd n.natAbs d.natAbs≠0:=by
  intro h
  have:=(M7.1 h).2
  omega
 have E5:((Nat.gcd n.natAbs d.natAbs:Nat):Int)≠0:=by omega
 obtain⟨k,hk⟩:((Nat.gcd n.natAbs d.natAbs:Nat):Int) ∣ n:=Int.ofNat_dvd_left.2 (Nat.gcd_dvd_left _ _)
 obtain⟨m,hm⟩:((Nat.gcd n.natAbs d.natAbs:Nat):Int) ∣ d:=Int.ofNat_dvd_left.2 (Nat.gcd_dvd_right _ _)
 have hgg:((Int.gcd d n:Nat):Int)=((Nat.gcd n.natAbs d.natAbs:Nat):Int):=by
  rw[Int.gcd_comm];rfl
 have hmm:m≠0:=by
  intro h
  rw[h,Int.mul_zero] at hm
  exact hd hm
 refine⟨k,m,hk,hm,hmm,?_,?_⟩
 ·rw[Rat.num_divInt,hgg]
  generalize ((Nat.gcd n.natAbs d.natAbs:Nat):Int)=g at hk E5 ⊢
  rw[hk,Ir,Int.mul_ediv_cancel_left _ E5]
 ·rw[Rat.den_divInt,az hd]
  have e:((d.natAbs / Int.gcd d n:Nat):Int)=(d.natAbs:Int) / ((Int.gcd d n:Nat):Int):=Nc ..
  rw[e,hgg]
  have e2:(d.natAbs:Int)=d.sign*d:=by rw[Int.sign_mul_self]
  rw[e2]
  generalize ((Nat.gcd n.natAbs d.natAbs:Nat):Int)=g at hm E5 ⊢
  have e3:d.sign*d=g*(d.sign*m):=by
   conv=>lhs;rhs;rw[hm]
   rw[Ir]
  rw[e3,Int.mul_ediv_cancel_left _ E5]
theorem w8 {n d:Int}(hd:d≠0)(h1:n.natAbs<LIM)(h2:d.natAbs<LIM):n0 (Rat.divInt n d):=by
 obtain⟨k,m,hk,hm,hm0,e1,e2⟩:=qf (n:=n) hd
 have hg0:Nat.gcd n.natAbs d.natAbs≠0:=by
  intro h
  have:=(M7.1 h).2
  omega
 have hs:d.sign.natAbs=1:=by rw[Int.natAbs_sign,az hd]
 refine⟨?_,?_⟩
 ·rw[e1,xk,hs,dq]
  refine fg ?_ h1
  conv=>rhs;rw[hk]
  rw[xk,ek]
  exact DX _ (yJ hg0)
 ·have:(Rat.divInt n d).den=(d.sign*m).natAbs:=by omega
  rw[this,xk,hs,dq]
  refine fg ?_ h2
  conv=>rhs;rw[hm]
  rw[xk,ek]
  exact DX _ (yJ hg0)
theorem Se {n d:Int}(hd:d≠0):n.fdiv (bif decide (d<0) then -((Nat.gcd n.natAbs d.natAbs:Nat):Int) else ((Nat.gcd n.natAbs d.natAbs:Nat):Int))=(Rat.divInt n d).num∧d.fdiv (bif decide (d<0) then -((Nat.gcd n.natAbs d.natAbs:Nat):Int) else ((Nat.gcd n.natAbs d.natAbs:Nat):Int))=((Rat.divInt n d).den:Int):=by
 obtain⟨k,m,hk,hm,hm0,e1,e2⟩:=qf (n:=n) hd
 have E5:((Nat.gcd n.natAbs d.natAbs:Nat):Int)≠0:=by
  intro h
  rw[h,Int.zero_mul] at hm
  exact hd hm
 rw[e1,e2]
 generalize ((Nat.gcd n.natAbs d.natAbs:Nat):Int)=g at hk hm E5 ⊢
 by_cases h:d<0
 ·rw[ck h,lT,M6 h]
  constructor
  ·rw[hk,OE E5];omega
  ·rw[hm,OE E5];omega
 ·rw[gQ h,cond_false,DV (by omega)]
  constructor
  ·rw[hk,TA E5];omega
  ·rw[hm,TA E5];omega
theorem Ox {n d:Int}(hd:d≠0)(h2:d.natAbs<LIM):Nat.gcd n.natAbs d.natAbs<LIM∧Nat.gcd n.natAbs d.natAbs≠0:=
 ⟨fg (Nat.gcd_le_right _ (by omega)) h2,fun h=>by have:=(M7.1 h).2;omega⟩
theorem Pq:lM=some (enc 1):=by
 unfold lM
 rw[IM (by decide) (by decide),ab]
theorem pj(x:ap):iN x=some (dA x):=by
 unfold iN
 rw[Pr,ab,TY,ab]
 congr 1
 unfold dA
 cases x.vBad <;> rfl
theorem xu:gM=some Ff:=by
 unfold gM
 rw[Pz,Pq,ab,ab]
 rfl
theorem Tn {n d:Int}(hn:n.natAbs<LIM)(hd:d.natAbs<LIM):(∃q,n0 q∧(⟨enc n,enc d⟩:ak)=mJ q)↔0<d∧Nat.gcd n.natAbs d.natAbs=1:=by
 constructor
 ·rintro⟨q,hq,e⟩
  unfold mJ at e
  simp only[ak.mk.injEq] at e
  have e1:=yx hn hq.1 e.1
  have e2:=yx hd (by simpa using hq.2) e.2
  subst e1;subst e2
  exact⟨by have:=q.den_pos;omega,by rw[ek];exact q.reduced⟩
 ·rintro⟨h1,h2⟩
  refine⟨⟨n,d.natAbs,by omega,h2⟩,⟨hn,hd⟩,?_⟩
  unfold mJ
  simp only[ak.mk.injEq,true_and]
  congr 1
  omega
theorem lg {x:ak}(hx:okR x):bq x=some (cR x).isSome:=by
 obtain⟨n,d⟩:=x
 obtain⟨h1,h2⟩:=hx
 dsimp only at h1 h2
 have hb:∀b:Bool,(b=true↔∃q,n0 q∧(⟨n,d⟩:ak)=mJ q)→(cR ⟨n,d⟩).isSome=b:=by
  intro b hb
  cases hv:cR ⟨n,d⟩ with
  |none=>
   cases b with
   |false=>rfl
   |true=>
    obtain⟨q,h3,h4⟩:=hb.1 rfl
    exact absurd h4 (zf.1 hv q h3)
  |some q=>exact ((hb.2 ⟨q,fb.1 hv⟩).symm)
 unfold bq
 dsimp only
 rw[pj,pj,ab,ab]
 cases E5:dA n with
 |false=>
  rw[aP,ab,hb false]
  constructor
  ·intro h;cases h
  ·rintro⟨q,hq,e⟩
   unfold mJ at e
   simp only[ak.mk.injEq] at e
   rw[e.1,bA hq.1] at E5;cases E5
 |true=>
  cases Ml:dA d with
  |false=>
   rw[ie,aP,ab,hb false]
   constructor
   ·intro h;cases h
   ·rintro⟨q,hq,e⟩
    unfold mJ at e
    simp only[ak.mk.injEq] at e
    rw[e.2,bA (by simpa using hq.2)] at Ml;cases Ml
  |true=>
   obtain⟨n,hn,rfl⟩:=uM h1 E5
   obtain⟨d,hd,rfl⟩:=uM h2 Ml
   have hgi:=Tn hn hd
   rw[ie,ie,AC hd,ab,Py hn hd,ab,Pq,ab,jj]
   by_cases h0:0<d
   ·rw[an (by rw[DV h0];decide),ab]
    congr 1
    symm
    refine hb _ ?_
    rw[hgi,decide_eq_true_iff]
    have hgl:=(Ox (n:=n) (show d≠0 by omega) hd).1
    constructor
    ·intro h
     have:=yx (by simpa using hgl) (by decide) h
     exact⟨h0,by omega⟩
    ·rintro⟨_,h⟩
     rw[h];rfl
   ·rw[az (by rw[Int.sign_pos_iff];exact h0),ab]
    congr 1
    symm
    refine hb _ ?_
    rw[hgi]
    constructor
    ·intro h;cases h
    ·rintro⟨h,_⟩;exact absurd h h0
theorem AD {n d:Int}(hn:n.natAbs<LIM)(hd:d.natAbs<LIM)(h0:d≠0):co (enc n) (enc d)=some (mJ (Rat.divInt n d)):=by
 obtain⟨E5,Ml⟩:=Ox (n:=n) h0 hd
 obtain⟨e1,e2⟩:=Se (n:=n) h0
 have hgl:(((Nat.gcd n.natAbs d.natAbs:Nat):Int)).natAbs<LIM:=by simpa using E5
 unfold co
 rw[pj,pj,ab,ab,bA hn,bA hd,ep,aP,aP,AC hd,ab,ab,a9 _ _ (by rw[M8];exact h0),Py hn hd,ab,ab,Vk hgl,ab]
 have hsel:(cnd (decide (d.sign<(0:Int))) (some (enc (-((Nat.gcd n.natAbs d.natAbs:Nat):Int)))) (some (enc ((Nat.gcd n.natAbs d.natAbs:Nat):Int))))=some (enc (bif decide (d<0) then -((Nat.gcd n.natAbs d.natAbs:Nat):Int) else ((Nat.gcd n.natAbs d.natAbs:Nat):Int))):=by
  by_cases h:d<0
  ·rw[ba _ _ (by rw[Int.sign_neg_iff];exact h),ck h];rfl
  ·rw[a9 _ _ (by rw[Int.sign_neg_iff];exact h),gQ h];rfl
 have QY:((bif decide (d<0) then -((Nat.gcd n.natAbs d.natAbs:Nat):Int) else ((Nat.gcd n.natAbs d.natAbs:Nat):Int))).natAbs<LIM∧(bif decide (d<0) then -((Nat.gcd n.natAbs d.natAbs:Nat):Int) else ((Nat.gcd n.natAbs d.natAbs:Nat):Int))≠0:=by
  cases decide (d<0)
  ·simp only[cond_false];omega
  ·simp only[lT];omega
 rw[hsel,ab,Pu hn QY.1 QY.2,ab,Pu hd QY.1 QY.2,ab,e1,e2]
 rfl
theorem Lb {x:ap}:co x (enc 0)=some Ff:=by
 unfold co
 rw[pj,pj,ab,ab,AC (by decide),ab,bA (by decide),xu,ab]
 cases dA x <;> rfl
theorem Ew {x y:ap}(h:(dA x&&dA y)=false):co x y=some Ff:=by
 unfold co
 rw[pj,pj,ab,ab,xu,ab]
 cases h1:dA x with
 |false=>rfl
 |true=>
  cases h2:dA y with
  |false=>rfl
  |true=>rw[h1,h2] at h;cases h
def LI(x y:Rat):Option Rat:=
 if (x.num*((y.den / Nat.gcd x.den y.den:Nat):Int)).natAbs<LIM∧(y.num*((x.den / Nat.gcd x.den y.den:Nat):Int)).natAbs<LIM∧(x.num*((y.den / Nat.gcd x.den y.den:Nat):Int)+y.num*((x.den / Nat.gcd x.den y.den:Nat):Int)).natAbs<LIM∧x.den / Nat.gcd x.den y.den*y.den<LIM then some (x+y) else none
def G1(x y:Rat):Option Rat:=if n0 (x*y) then some (x*y) else none
theorem KY(x y:Rat):Rat.divInt (x.num*((y.den / Nat.gcd x.den y.den:Nat):Int)+y.num*((x.den / Nat.gcd x.den y.den:Nat):Int)) ((x.den / Nat.gcd x.den y.den*y.den:Nat):Int)=x+y:=by
 have hx:=x.den_pos
 have hy:=y.den_pos
 have hg:0<Nat.gcd x.den y.den:=M5 _ hx
 obtain⟨p,hp⟩:=Nat.gcd_dvd_left x.den y.den
 obtain⟨q,hq⟩:=Nat.gcd_dvd_right x.den y.den
 have e1:x.den / Nat.gcd x.den y.den=p:=by
                         conv=>lhs;lhs;rw[hp]
                         exact M4 _ hg
 have e2:y.den / Nat.gcd x.den y.den=q:=by
                         conv=>lhs;lhs;rw[hq]
                         exact M4 _ hg
 rw[e1,e2,Rat.add_def']
 generalize Nat.gcd x.den y.den=g at hg hp hq
 rw[←M3,←Rat.divInt_mul_left (a:=(g:Int)) (by omega)]
 congr 1
 ·rw[Int.mul_add,hp,hq,ob,ob,Ir,Ir (y.num)]
 ·rw[hp]
  simp only[ob,Int.mul_assoc]
theorem RP(x y:Rat):z8 (LI x y):=by
 intro q h
 unfold LI at h
 split at h
 ·rename_i hc
  obtain⟨_,_,h3,h4⟩:=hc
  injection h with h
  subst h
  rw[←KY]
  refine w8 ?_ h3 (by rw[ek];exact h4)
  have hg:0<Nat.gcd x.den y.den:=M5 _ x.den_pos
  have:=D0 (Av y.den x.den_pos) hg
  have:=sW this y.den_pos
  omega
 ·cases h
theorem RO(x y:Rat):z8 (G1 x y):=by
 intro q h
 unfold G1 at h
 split at h
 ·rename_i hc
  injection h with h
  rw[←h];exact hc
 ·cases h
theorem cross(x y:Rat):(x*y).num=(Rat.divInt x.num y.den).num*(Rat.divInt y.num x.den).num∧(x*y).den=(Rat.divInt x.num y.den).den*(Rat.divInt y.num x.den).den:=by
 have hx:=x.den_pos
 have hy:=y.den_pos
 obtain⟨k,m,hk,hm,hm0,e1,e2⟩:=qf (n:=x.num) (d:=(y.den:Int)) (by omega)
 obtain⟨k',m',pf,xz,hm0',e1',e2'⟩:=qf (n:=y.num) (d:=(x.den:Int)) (by omega)
 rw[DV (by omega),Int.one_mul] at e1 e2 e1' e2'
 have hxy:x*y=Rat.divInt x.num y.den*Rat.divInt y.num x.den:=by
  rw[Rat.divInt_mul_divInt]
  conv=>lhs;rw[←Rat.num_divInt_den x,←Rat.num_divInt_den y,Rat.divInt_mul_divInt]
  rw[tR (y.den:Int)]
 have hc:Nat.gcd ((Rat.divInt x.num y.den).num*(Rat.divInt y.num x.den).num).natAbs ((Rat.divInt x.num y.den).den*(Rat.divInt y.num x.den).den)=1:=by
  rw[xk]
  have c1:=(Rat.divInt x.num y.den).reduced
  have c2:=(Rat.divInt y.num x.den).reduced
  have d1:(Rat.divInt x.num y.den).num.natAbs ∣ x.num.natAbs:=by
   rw[e1];exact Int.natAbs_dvd_natAbs.2 ⟨_,by rw[tR];exact hk⟩
  have d2:(Rat.divInt y.num x.den).den ∣ x.den:=Int.natCast_dvd_natCast.1 (by rw[e2'];exact⟨_,by rw[tR];exact xz⟩)
  have d3:(Rat.divInt y.num x.den).num.natAbs ∣ y.num.natAbs:=by
   rw[e1'];exact Int.natAbs_dvd_natAbs.2 ⟨_,by rw[tR];exact pf⟩
  have d4:(Rat.divInt x.num y.den).den ∣ y.den:=Int.natCast_dvd_natCast.1 (by rw[e2];exact⟨_,by rw[tR];exact hm⟩)
  have c3:Nat.Coprime (Rat.divInt x.num y.den).num.natAbs (Rat.divInt y.num x.den).den:=Nat.Coprime.coprime_dvd_left d1 (Nat.Coprime.coprime_dvd_right d2 x.reduced)
  have c4:Nat.Coprime (Rat.divInt y.num x.den).num.natAbs (Rat.divInt x.num y.den).den:=Nat.Coprime.coprime_dvd_left d3 (Nat.Coprime.coprime_dvd_right d4 y.reduced)
  exact Nat.Coprime.mul_left (Nat.Coprime.mul_right c1 c3) (Nat.Coprime.mul_right c4 c2)
 rw[hxy,Rat.num_mul,Rat.den_mul,hc]
 exact⟨by simp,by simp⟩
theorem Ac(q:Rat):(mJ q).vN=enc q.num:=rfl
theorem Dk(q:Rat):(mJ q).vD=enc (q.den:Int):=rfl
theorem OF(z:Int):(enc z).vBad=decide (¬z.natAbs<LIM):=by
 by_cases h:z.natAbs<LIM
 ·rw[qK h];simp[h]
 ·rw[Dj h];simp[h];rfl
theorem mg {q:Rat}(h:n0 q):((q.den:Nat):Int).natAbs<LIM:=by simpa using h.2
theorem G_rMul {x y:Rat}(hx:n0 x)(hy:n0 y):ee (mJ x) (mJ y)=some (Ab (G1 x y)):=by
 have hdx:=x.den_pos
 have hdy:=y.den_pos
 obtain⟨c1,c2⟩:=cross x y
 have f1:=w8 (n:=x.num) (d:=(y.den:Int)) (by omega) hx.1 (mg hy)
 have f2:=w8 (n:=y.num) (d:=(x.den:Int)) (by omega) hy.1 (mg hx)
 unfold ee
 rw[show bq (mJ x)=_ from lg (tA (some x)),show bq (mJ y)=_ from lg (tA (some y)),ux hx,ux hy,ab,ab]
 simp only[DU,ep,aP,ab,Ac,Dk]
 rw[AD hx.1 (mg hy) (by omega),ab,AD hy.1 (mg hx) (by omega),ab]
 simp only[Ac,Dk]
 rw[La f1.1 f2.1,ab,La (mg f1) (mg f2),ab,←c1,←ob,←c2,OF,OF,cnd_or,ab,xu,ab,←Bool.decide_or,jj]
 unfold G1
 by_cases h:n0 (x*y)
 ·obtain⟨h1,h2⟩:=id h
  rw[az (by rw[ek];omega),an h];rfl
 ·have h1:¬((x*y).num.natAbs<LIM∧(x*y).den<LIM):=h
  rw[an (by rw[ek];omega),az h];rfl
theorem Es {x y:ak}(hx:okR x)(hy:okR y)(h:((cR x).isSome&&(cR y).isSome)=false):ee x y=some Ff:=by
 unfold ee
 rw[lg hx,lg hy,ab,ab,xu,ab]
 cases h1:(cR x).isSome with
 |false=>rfl
 |true=>
  cases h2:(cR y).isSome with
  |false=>rfl
  |true=>rw[h1,h2] at h;cases h
theorem NT {n g:Nat}:((n:Int)).fdiv (g:Int)=((n / g:Nat):Int):=by
 rw[Int.fdiv_eq_ediv_of_nonneg _ (Iv _)]
 exact (Nc ..).symm
theorem G_rAdd {x y:Rat}(hx:n0 x)(hy:n0 y):fO (mJ x) (mJ y)=some (Ab (LI x y)):=by
 have hdx:=x.den_pos
 have hdy:=y.den_pos
 have hg:0<Nat.gcd x.den y.den:=M5 _ hdx
 have hgl:Nat.gcd x.den y.den<LIM:=fg (Av _ hdx) hx.2
 have hgl':((Nat.gcd x.den y.den:Nat):Int).natAbs<LIM:=by simpa using hgl
 have hp:x.den / Nat.gcd x.den y.den<LIM:=fg (uZ _ _) hx.2
 have hq:y.den / Nat.gcd x.den y.den<LIM:=fg (uZ _ _) hy.2
 have hp0:0<x.den / Nat.gcd x.den y.den:=D0 (Av y.den hdx) hg
 have E7:0<x.den / Nat.gcd x.den y.den*y.den:=sW hp0 hdy
 have haf:=KY x y
 unfold fO
 rw[show bq (mJ x)=_ from lg (tA (some x)),show bq (mJ y)=_ from lg (tA (some y)),ux hx,ux hy,ab,ab]
 simp only[DU,ep,aP,ab,Ac,Dk]
 rw[Py (mg hx) (mg hy),ab,ek,ek,Pu (mg hx) hgl' (by omega),ab,Pu (mg hy) hgl' (by omega),ab,NT,NT,La hx.1 (by rw[ek];exact hq),ab,La hy.1 (by rw[ek];exact hp),ab,La (by rw[ek];exact hp) (mg hy),←ob]
 unfold LI
 revert haf
 generalize x.num*((y.den / Nat.gcd x.den y.den:Nat):Int)=z1
 generalize y.num*((x.den / Nat.gcd x.den y.den:Nat):Int)=z2
 revert E7
 generalize x.den / Nat.gcd x.den y.den*y.den=D
 intro E7 haf
 have hsum:iJ (enc z1) (enc z2)=some (if z1.natAbs<LIM∧z2.natAbs<LIM then enc (z1+z2) else KJ):=by
  by_cases h:z1.natAbs<LIM∧z2.natAbs<LIM
  ·rw[an h,G_Add h.1 h.2]
  ·rw[az h,QQ (by rw[tI,tI,←Bool.decide_and];exact gQ h)]
 rw[hsum,ab,ab,xe]
 by_cases h:z1.natAbs<LIM∧z2.natAbs<LIM
 ·rw[an h]
  by_cases h2:(z1+z2).natAbs<LIM∧D<LIM
  ·rw[AD h2.1 (by rw[ek];exact h2.2) (by omega),haf,an ⟨h.1,h.2,h2⟩];rfl
  ·rw[Ew (by rw[tI,tI,←Bool.decide_and,ek];exact gQ h2),az fun hh=>h2 hh.2.2];rfl
 ·rw[az h,Ew (by rw[FR,Bool.false_and]),az fun hh=>h ⟨hh.1,hh.2.1⟩];rfl
theorem Et {x y:ak}(hx:okR x)(hy:okR y)(h:((cR x).isSome&&(cR y).isSome)=false):fO x y=some Ff:=by
 unfold fO
 rw[lg hx,lg hy,ab,ab,xu,ab]
 cases h1:(cR x).isSome with
 |false=>rfl
 |true=>
  cases h2:(cR y).isSome with
  |false=>rfl
  |true=>rw[h1,h2] at h;cases h
def JH(a b:Option Rat):Option Rat:=a.bind fun x=>b.bind fun y=>LI x y
def Bo(a b:Option Rat):Option Rat:=a.bind fun x=>b.bind fun y=>G1 x y
def G7(a:Option Rat):Option Rat:=a.map fun x=>-x
def PZ(a:Option Rat):Option Rat:=a.bind fun x=>if x=0 then none else some x⁻¹
def osub(a b:Option Rat):Option Rat:=JH a (G7 b)
def JF(a b:Option Rat):Option Rat:=Bo a (PZ b)
def osgn(a:Option Rat):Int:=match a with|some x=>x.num.sign|none=>0
theorem JG(a b:Option Rat):z8 (JH a b):=by
 cases a with
 |none=>exact ql
 |some x=>
  cases b with
  |none=>exact ql
  |some y=>exact RP x y
theorem CA(a b:Option Rat):z8 (Bo a b):=by
 cases a with
 |none=>exact ql
 |some x=>
  cases b with
  |none=>exact ql
  |some y=>exact RO x y
theorem Ko {x:Rat}(h:n0 x):n0 (-x):=⟨by rw[Rat.neg_num,Int.natAbs_neg];exact h.1,h.2⟩
theorem Cz {a:Option Rat}(h:z8 a):z8 (G7 a):=by
 cases a with
 |none=>exact ql
 |some x=>
  intro q hq
  injection hq with hq
  subst hq
  exact Ko (h x rfl)
theorem Tz {x:Rat}(h:n0 x)(h0:x≠0):n0 x⁻¹:=by
 have hn:x.num≠0:=fun h=>h0 (Rat.num_eq_zero.1 h)
 refine⟨?_,?_⟩
 ·rw[Rat.num_inv,xk,Int.natAbs_sign,az hn,dq,ek];exact h.2
 ·rw[Rat.den_inv,az hn];exact h.1
theorem RX {a:Option Rat}(h:z8 a):z8 (PZ a):=by
 cases a with
 |none=>exact ql
 |some x=>
  intro q hq
  have hq:(if x=0 then none else some x⁻¹)=some q:=hq
  split at hq
  ·cases hq
  ·rename_i h0
   injection hq with hq
   subst hq
   exact Tz (h x rfl) h0
theorem RY(a b:Option Rat):z8 (JF a b):=CA _ _
theorem Ve {x y:ak}(hx:okR x)(hy:okR y):fO x y=some (Ab (JH (cR x) (cR y))):=by
 cases h1:cR x with
 |none=>exact Et hx hy (by rw[h1];rfl)
 |some p=>
  cases h2:cR y with
  |none=>exact Et hx hy (by rw[h1,h2];rfl)
  |some q=>
   obtain⟨hp,rfl⟩:=fb.1 h1
   obtain⟨hq,rfl⟩:=fb.1 h2
   exact G_rAdd hp hq
theorem Nq {x y:ak}(hx:okR x)(hy:okR y):ee x y=some (Ab (Bo (cR x) (cR y))):=by
 cases h1:cR x with
 |none=>exact Es hx hy (by rw[h1];rfl)
 |some p=>
  cases h2:cR y with
  |none=>exact Es hx hy (by rw[h1,h2];rfl)
  |some q=>
   obtain⟨hp,rfl⟩:=fb.1 h1
   obtain⟨hq,rfl⟩:=fb.1 h2
   exact G_rMul hp hq
theorem Vd {x:ak}(hx:okR x):lN x=some (Ab (G7 (cR x))):=by
 unfold lN
 rw[lg hx,ab]
 cases h1:cR x with
 |none=>rw[xu,ab];rfl
 |some p=>
  obtain⟨hp,rfl⟩:=fb.1 h1
  simp only[DU,ep,aP,Ac,Dk]
  rw[Vk hp.1,ab]
  rfl
theorem G_osub {x y:ak}(hx:okR x)(hy:okR y):rz x y=some (Ab (osub (cR x) (cR y))):=by
 unfold rz
 rw[Vd hy,ab,Ve hx (tA _),ab,zg (Cz (Dg y))]
 rfl
theorem Nr {q:Rat}(hq:n0 q):co (enc (q.den:Int)) (enc q.num)=some (Ab (PZ (some q))):=by
 by_cases h:q=0
 ·subst h
  show co _ (enc 0)=_
  rw[Lb];rfl
 ·have hn:q.num≠0:=fun h0=>h (Rat.num_eq_zero.1 h0)
  rw[AD (mg hq) hq.1 hn,←Rat.inv_def]
  show _=some (Ab (if q=0 then none else some q⁻¹))
  rw[az h];rfl
theorem G_odiv {x y:ak}(hx:okR x)(hy:okR y):rA x y=some (Ab (JF (cR x) (cR y))):=by
 unfold rA
 rw[lg hy,ab]
 cases h2:cR y with
 |none=>
  rw[xu,ab]
  show some Ff=some (Ab (Bo (cR x) none))
  unfold Bo
  cases cR x <;> rfl
 |some q=>
  obtain⟨hq,rfl⟩:=fb.1 h2
  simp only[DU,ep,aP,Ac,Dk]
  rw[Nr hq,ab,Nq hx (tA _),ab,zg (RX fun r hr=>by injection hr with hr;subst hr;exact hq)]
  rfl
theorem Vc {x:ak}(hx:okR x):iO x=some (osgn (cR x)):=by
 unfold iO
 rw[lg hx,ab]
 cases h1:cR x with
 |none=>rfl
 |some p=>
  obtain⟨hp,rfl⟩:=fb.1 h1
  simp only[DU,ep,aP,Ac]
  rw[AC hp.1,ab]
  rfl
theorem My(n:Int):Rat.divInt n 1=(n:Rat):=by
 show Rat.divInt n ((1:Nat):Int)=_
 rw[M3]
 exact Rat.mkRat_self (n:Rat)
theorem Vb {n:Int}(h:n.natAbs<LIM):mG (enc n)=some (mJ (n:Rat)):=by
 unfold mG
 rw[Pq,ab,AD h (by decide) (by decide),ab,My]
theorem G_rOf {n:Int}(h1:-9223372036854775808≤n)(h2:n≤9223372036854775807):d7 n=some (mJ (n:Rat)):=by
 have hL:n.natAbs<LIM:=bC (show n.natAbs<18446744073709551616 by omega) (by decide)
 unfold d7
 rw[IM h1 h2,ab,Vb hL,ab]
section
def lF(n:Nat)(f:Nat→Nat):List Int:=(List.range n).map fun j=>(f j:Int)
section
variable {n m p x k j:Nat} {f g:Nat→Nat}
theorem ci:(lF n f).length=n:=by unfold lF;simp
theorem pL(h:j<n):(lF n f)[j]! =(f j:Int):=by
 unfold lF
 rw[bK _ j (by simpa using h)]
 simp
theorem tH(h:∀j,j<n→f j=g j):lF n f=lF n g:=by
 unfold lF
 apply sV
 intro j hj
 rw[h j (by simpa using hj)]
theorem yh:lF n f++[(f n:Int)]=lF (n+1) f:=by
 unfold lF
 rw[sk,lf];rfl
theorem LX:(lF n f).set p (x:Int)=lF n (fun j=>if j=p then x else f j):=by
 apply Iq
 ·rw[A9,ci,ci]
 ·intro i h1 h2
  rw[List.getElem_set]
  have h3:i<n:=by rw[ci] at h2;exact h2
  have e1:=pL (f:=fun j=>if j=p then x else f j) h3
  rw[bK _ i h2] at e1
  rw[e1]
  split
  ·rename_i h;rw[an h.symm]
  ·rename_i h
   rw[az (fun e=>h e.symm)]
   have e2:=pL (f:=f) h3
   rw[bK _ i (by rw[ci];exact h3)] at e2
   exact e2
theorem lF_take(h:m≤n):(lF n f).take m=lF m f:=by
 unfold lF
 rw[←xj,List.take_range,qV h]
theorem lF_cons:[(x:Int)]++lF n f=lF (n+1) (fun j=>if j=0 then x else f (j - 1)):=by
 unfold lF
 rw[List.range_succ_eq_map,gZ,kP]
 rfl
theorem Su:List.replicate n (0:Int)=lF n (fun _=>0):=by
 unfold lF
 induction n with
 |zero=>rfl
 |succ n ih=>rw[List.replicate_succ',ih,sk,lf];rfl
end
abbrev dk(n A:Nat):List Int:=lF n (dg 65536 A)
theorem j5 {A j:Nat}:dg 65536 A j<65536:=TN (by decide)
theorem Rt(A:Nat):∃n,szp 65536 A n:=by
 induction A using Nat.strongRecOn with
 |_ A ih=>
  by_cases h:A=0
  ·subst h;exact⟨0,by decide,fun h=>by omega⟩
  ·obtain⟨n,h1,h2⟩:=ih (A / 65536) (by omega)
   refine⟨n+1,?_,fun _=>?_⟩
   ·rw[cC];exact (kO (by decide)).1 h1
   ·rw[DF]
    cases n with
    |zero=>rw[fI];omega
    |succ n=>
     have:=h2 (by omega)
     rw[DF] at this
     rw[cC]
     exact (oZ (by decide)).1 this
def sz6(A:Nat):Nat:=Classical.choose (Rt A)
theorem xJ(A:Nat):szp 65536 A (sz6 A):=DY (Rt A)
theorem jV(A:Nat):A<65536 ^ sz6 A:=(xJ A).1
theorem rQ {A n:Nat}(h:A<65536 ^ n):sz6 A≤n:=Lu (by decide) (xJ A) h
theorem Lw {A n:Nat}(h:szp 65536 A n):n=sz6 A:=Rs (by decide) h (xJ A)
theorem Cj:sz6 0=0:=(Lw ⟨by decide,fun h=>by omega⟩).symm
theorem BH {A:Nat}(h:0<A):0<sz6 A:=by
 rcases rY (sz6 A) with h1|h1
 ·have:=jV A
  rw[h1,fI] at this;omega
 ·exact h1
noncomputable abbrev dl(A:Nat):List Int:=dk (sz6 A) A
theorem Mx(A:Nat):(dl A).length=sz6 A:=ci
theorem dl_zero:dl 0=[]:=by unfold dl;rw[Cj];rfl
theorem TJ {A:Nat}:(dl A).length=0↔A=0:=by
 rw[Mx]
 constructor
 ·intro h
  rcases rY A with h1|h1
  ·exact h1
  ·have:=BH h1;omega
 ·rintro rfl;exact Cj
theorem tY {n A k:Nat}(hA:A<65536 ^ n):cV (dk n A) (k:Int)=some ((dg 65536 A k:Nat):Int):=by
 unfold cV
 rw[ci]
 by_cases h:k<n
 ·rw[ba _ _,aB,aD,pL h]
 ·rw[a9 _ _,kZ (bC hA (im (by decide) (by omega)))];rfl
theorem xt {n A:Nat}(hA:A<65536 ^ n)(hn:n<1000000):eT (dk n A)=some (dl A):=by
 obtain⟨x,hl,hx⟩:=wi (b:=ku (dk n A)) (fun s=>∃k:Nat,s=(k:Int)∧k≤n∧A<65536 ^ k) (fun s=>s.toNat) (fun x=>x=((sz6 A:Nat):Int))
  (by
   rintro s ⟨k,rfl,hk,bh⟩
   cases k with
   |zero=>
    right
    refine⟨((0:Nat):Int),?_,?_⟩
    ·dsimp only[ku]
     rw[a9 _ _,ab,aP]
    ·show ((0:Nat):Int)=_
     rw[←Lw ⟨bh,fun h=>by omega⟩]
   |succ k=>
    have e:i64.wrap (((k+1:Nat):Int) - 1)=(k:Int):=by rw[bU];omega
    dsimp only[ku]
    rw[ba _ _,e,ci,aB,ab,aD,pL (by omega),jj]
    by_cases hd:dg 65536 A k=0
    ·left
     refine⟨(k:Int),by rw[ifp_],⟨k,rfl,by omega,?_⟩,by omega⟩
     unfold dg at hd
     have h1:A / 65536 ^ k<65536:=by
      rw[kO (bD (by decide)),bj,←cC];exact bh
     rw[dX h1] at hd
     exact (Ip (bD (by decide))).1 hd
    ·right
     refine⟨((k+1:Nat):Int),by rw[ifn_],?_⟩
     show ((k+1:Nat):Int)=_
     rw[Lw (A:=A) ⟨bh,fun _=>?_⟩]
     rcases bO A (65536 ^ k) with h|h
     ·exact absurd (kZ h) hd
     ·exact h) (n:Int) ⟨n,rfl,aC _,hA⟩
 unfold eT
 have hs:=rQ hA
 rw[ci,hl,hx,ab,aB,subL_to _ _ (by omega),aD,lF_take hs]
theorem pmax {n m A B:Nat}(hA:A<65536 ^ n)(hB:B<65536 ^ m):A<65536 ^ max n m∧B<65536 ^ max n m:=
 ⟨bC hA (im (by decide) (al_8 ..)),bC hB (im (by decide) (Io ..))⟩
theorem CH(n m:Nat):max (n:Int) (m:Int)=((max n m:Nat):Int):=by omega
theorem G_dplus {n m A B:Nat}(hA:A<65536 ^ n)(hB:B<65536 ^ m)(hn:n<100000)(hm:m<100000):nX (dk n A) (dk m B)=some (dl (A+B)):=by
 have hM:max n m<100000:=by omega
 obtain⟨IY,hB'⟩:=pmax hA hB
 have hl:=qB (b:=jx (dk n A) (dk m B)) (s0:=(([]:List Int),(0:Int),(0:Int))) (fun k=>(dk k (A+B),(((A % 65536 ^ k+B % 65536 ^ k) / 65536 ^ k:Nat):Int),(k:Int))) (max n m+1) (dk (max n m+1) (A+B))
  (by simp only[fI,mw];rfl)
  (fun k hk=>by
   have hc:=n4 (b:=65536) (A:=A) (B:=B) (k:=k) (by decide)
   obtain⟨h1,h2⟩:=pb (b:=65536) (A:=A) (B:=B) (k:=k) (by decide)
   have ha:=@j5 A k
   have hb:=@j5 B k
   have Tg:=n4 (b:=65536) (A:=A) (B:=B) (k:=k+1) (by decide)
   generalize (A % 65536 ^ k+B % 65536 ^ k) / 65536 ^ k=c at h1 h2 hc ⊢
   generalize (A % 65536 ^ (k+1)+B % 65536 ^ (k+1)) / 65536 ^ (k+1)=c' at h2 Tg ⊢
   dsimp only[jx]
   rw[ci,ci,CH,bU,ba _ _,tY hA,ab,tY hB,ab,bU (z:=(dg 65536 A k:Int)+(dg 65536 B k:Int)) (by omega),bU,ab,←kS,←kS,show (65536:Int)=((65536:Nat):Int) from rfl,←sm,←sj,lU (dg 65536 A k+dg 65536 B k),←kU,h1,h2,yh,ci,aB,bU (z:=(c':Int)) (by omega),bU]
   rfl)
  (by
   dsimp only[jx]
   rw[ci,ci,CH,bU,a9 _ _])
 unfold nX
 have:A+B<65536 ^ (max n m+1):=by rw[cC];omega
 rw[hl,ab,xt this (by omega),ab]
theorem K9 {n m A B:Nat}(hA:A<65536 ^ n)(hB:B<65536 ^ m)(hn:n<100000)(hBA:B≤A):kI (dk n A) (dk m B)=some (dl (A - B)):=by
 obtain⟨D,rfl⟩:∃D,A=D+B:=⟨A - B,by omega⟩
 rw[DF]
 have hl:=qB (b:=iL (dk n (D+B)) (dk m B)) (s0:=(([]:List Int),(0:Int),(0:Int))) (fun k=>(dk k D,(((D % 65536 ^ k+B % 65536 ^ k) / 65536 ^ k:Nat):Int),(k:Int))) n (dk n D)
  (by simp only[fI,mw];rfl)
  (fun k hk=>by
   have hc:=n4 (b:=65536) (A:=D) (B:=B) (k:=k) (by decide)
   have Tg:=n4 (b:=65536) (A:=D) (B:=B) (k:=k+1) (by decide)
   obtain⟨h1,h2⟩:=pb (b:=65536) (A:=D) (B:=B) (k:=k) (by decide)
   have ha:=@j5 D k
   have hb:=@j5 B k
   have hd:=@j5 (D+B) k
   generalize hq:(D % 65536 ^ k+B % 65536 ^ k) / 65536 ^ k=c at h1 h2 hc ⊢
   generalize (D % 65536 ^ (k+1)+B % 65536 ^ (k+1)) / 65536 ^ (k+1)=c' at h2 Tg ⊢
   dsimp only[iL]
   rw[ci,ba _ _,aB,tY hB,ab,aD,pL hk,bU (z:=(dg 65536 (D+B) k:Int) - (dg 65536 B k:Int)) (by omega),bU,ab]
   by_cases hn0:(dg 65536 (D+B) k:Int) - (dg 65536 B k:Int) - (c:Int)<0
   ·obtain rfl:c'=1:=by omega
    rw[ba _ _ hn0,ab,bU]
    dsimp only
    rw[show (dg 65536 (D+B) k:Int) - (dg 65536 B k:Int) - (c:Int)+65536=(dg 65536 D k:Int) from by omega,yh,ci,aB,bU]
    rfl
   ·obtain rfl:c'=0:=by omega
    rw[a9 _ _ hn0,ab]
    dsimp only
    rw[show (dg 65536 (D+B) k:Int) - (dg 65536 B k:Int) - (c:Int)=(dg 65536 D k:Int) from by omega,yh,ci,aB,bU]
    rfl)
  (by
   dsimp only[iL]
   rw[ci,a9 _ _])
 unfold kI
 rw[hl,ab,xt (by omega) (by omega),ab]
theorem yb {A B k:Nat}(he:A / 65536 ^ (k+1)=B / 65536 ^ (k+1))(h:dg 65536 A k<dg 65536 B k):A<B:=by
 have e1:=b9 (b:=65536) (A:=A) (k:=k)
 have e2:=b9 (b:=65536) (A:=B) (k:=k)
 have h1:A / 65536 ^ k<B / 65536 ^ k:=by
  rw[e1,e2,he];exact uX h _
 rcases bO A B with h2|h2
 ·exact h2
 ·exact absurd (M2 h2) (Nat.not_le.2 h1)
theorem G_dless {n m A B:Nat}(hA:A<65536 ^ n)(hB:B<65536 ^ m)(hn:n<100000)(hm:m<100000):nY (dk n A) (dk m B)=some (decide (A<B)):=by
 obtain⟨IY,hB'⟩:=pmax hA hB
 obtain⟨x,hl,hx⟩:=wi (b:=kw (dk n A) (dk m B)) (fun s=>∃k:Nat,s=(k:Int) - 1∧k≤max n m∧A / 65536 ^ k=B / 65536 ^ k) (fun s=>(s+1).toNat) (fun x=>match x with| .inl r=>r=decide (A<B)| .inr _=>A=B)
  (by
   rintro s ⟨k,rfl,hk,he⟩
   cases k with
   |zero=>
    right
    refine⟨(Sum.inr ():Bool⊕Unit),?_,?_⟩
    ·dsimp only[kw]
     rw[a9 _ _]
    ·simpa using he
   |succ k=>
    have e:((k+1:Nat):Int) - 1=(k:Int):=by omega
    rw[e]
    dsimp only[kw]
    rw[ba _ _,tY hA,ab,tY hB,ab]
    by_cases hd:dg 65536 A k=dg 65536 B k
    ·left
     refine⟨(k:Int) - 1,?_,⟨k,rfl,by omega,?_⟩,by omega⟩
     ·rw[a9 _ _ (by rw[hd];simp),bU]
     ·rw[b9 (b:=65536) (A:=A) (k:=k),b9 (b:=65536) (A:=B) (k:=k),he,hd]
    ·right
     refine⟨(Sum.inl (decide (A<B)):Bool⊕Unit),?_,rfl⟩
     rw[ba _ _,ab,ab]
     congr 3
     refine p6.2 ?_
     rcases Nat.lt_or_gt_of_ne hd with h|h
     ·have:=yb he h
      exact⟨fun _=>this,fun _=>by omega⟩
     ·have:=yb he.symm h
      exact⟨fun h'=>by omega,fun h'=>by omega⟩) (((max n m:Nat):Int) - 1) ⟨max n m,rfl,aC _,by rw[dE IY,dE hB']⟩
 unfold nY
 rw[ci,ci,CH,bU,ab,hl,ab]
 cases x with
 |inl r=>obtain rfl:r=_:=hx;rfl
 |inr u=>
  obtain rfl:A=B:=hx
  simp
section
variable {b:Nat} {f g:Nat→Nat}
theorem Jg:∀n,(∀j,j<n→f j=g j)→fU b f n=fU b g n
 |0,_=>rfl
 |n+1,h=>by
  unfold fU
  rw[Jg n fun j hj=>h j (by omega),h n (by omega)]
theorem Je {q x:Nat}:∀n,q<n→fU b (fun j=>if j=q then f j+x else f j) n=fU b f n+x*b ^ q
 |0,h=>by omega
 |n+1,h=>by
  unfold fU
  by_cases hq:q=n
  ·subst hq
   rw[an rfl,Jg q (g:=f) fun j hj=>ifn_,aX];omega
  ·rw[ifn_,Je n (by omega)];omega
theorem NC {A:Nat}:∀n,fU b (dg b A) n=A % b ^ n
 |0=>by simp[fU,mw]
 |n+1=>by
  unfold fU
  rw[NC n,gi,bj]
theorem Jf(k:Nat):∀n,k≤n→fU b f n % b ^ k=fU b f k % b ^ k
 |0,h=>by
  obtain rfl:k=0:=by omega
  rfl
 |n+1,h=>by
  by_cases hk:k=n+1
  ·rw[hk]
  ·have pf:k≤n:=by omega
   obtain⟨d,rfl⟩:∃d,n=k+d:=⟨n - k,by omega⟩
   rw[←Jf k (k+d) pf]
   show (fU b f (k+d)+f (k+d)*b ^ (k+d)) % b ^ k=_
   rw[gH,Ar,Aq]
theorem NB {M:Nat}(hb:2≤b):∀n,(∀j,j<n→f j≤M)→fU b f n≤M*b ^ n
 |0,_=>by simp[fU]
 |n+1,h=>by
  have ih:=NB hb n fun j hj=>h j (by omega)
  have h1:f n*b ^ n≤M*b ^ n:=bY _ (h n (by omega))
  have h2:M*b ^ n*2≤M*b ^ n*b:=uW _ hb
  unfold fU
  rw[cC,←fa]
  omega
theorem P3 {n k:Nat}(hb:0<b)(hk:k<n):(fU b f k / b ^ k+f k) % b=dg b (fU b f n) k∧(fU b f k / b ^ k+f k) / b=fU b f (k+1) / b ^ (k+1):=by
 have hp:0<b ^ k:=bD hb
 have e:fU b f (k+1) / b ^ k=fU b f k / b ^ k+f k:=by
  show (fU b f k+f k*b ^ k) / b ^ k=_
  rw[Nh _ _ hp]
 refine⟨?_,?_⟩
 ·rw[←e,←mX (A:=fU b f n) (k:=k+1) (dH _),Jf (k+1) n hk,mX (dH _)]
  rfl
 ·rw[←e,gg,←cC]
end
theorem PJ {n m A B i:Nat}(hi:i<n)(hn:n<1000)(hm:m<1000)(hB:B<65536 ^ m){R:Nat}(hR:R<65536 ^ (n+m+1)):
  ∃f:Nat→Nat,aL (iK (dk n A) (dk m B) (i:Int)) ((0:Int),dk (n+m+1) R)=some (lF (n+m+1) f)∧fU 65536 f (n+m+1)=R+dg 65536 A i*B*65536 ^ i∧∀j,f j≤65535+65535*65535:=by
 have ha:=@j5 A i
 have eP:i64.wrap ((i64.wrap (((dk n A).length:Int)+((dk m B).length:Int)))+(1:Int))=((n+m+1:Nat):Int):=by
  rw[ci,ci,bU (z:=(n:Int)+(m:Int)) (by omega),bU];omega
 obtain⟨x,hl,f,rfl,h1,h2⟩:=wi (b:=iK (dk n A) (dk m B) (i:Int)) (fun s=>∃(k:Nat) (f:Nat→Nat),s=((k:Int),lF (n+m+1) f)∧k≤m∧fU 65536 f (n+m+1)=R+dg 65536 A i*(B % 65536 ^ k)*65536 ^ i∧(∀j,f j≤65535+65535*65535)∧∀j,i+k≤j→f j≤65535) (fun s=>m - s.1.toNat)
  (fun x=>∃f:Nat→Nat,x=lF (n+m+1) f∧fU 65536 f (n+m+1)=R+dg 65536 A i*B*65536 ^ i∧∀j,f j≤65535+65535*65535)
  (by
   rintro s ⟨k,f,rfl,hk,hv,hf,S8⟩
   dsimp only[iK]
   rw[eP,aD,ci,ci,ci]
   by_cases S2:k<m
   ·left
    have eik:i64.wrap ((i:Int)+(k:Int))=((i+k:Nat):Int):=by rw[bU];omega
    have hb:=@j5 B k
    have A2:dg 65536 A i*dg 65536 B k≤65535*65535:=gG (by omega) (by omega)
    have hfk:=S8 (i+k) (aC _)
    rw[ba _ _,eik,aB,aB,aB,aB,ab,aD,aD,aD,pL (by omega),pL hi,pL S2,←ob,bU (z:=((dg 65536 A i*dg 65536 B k:Nat):Int)) (by omega),←kS,bU (z:=((f (i+k)+dg 65536 A i*dg 65536 B k:Nat):Int)) (by omega),LX,bU]
    have e:lF (n+m+1) (fun j=>if j=i+k then f (i+k)+dg 65536 A i*dg 65536 B k else f j)=lF (n+m+1) (fun j=>if j=i+k then f j+dg 65536 A i*dg 65536 B k else f j):=tH fun j _=>by
     by_cases h:j=i+k
     ·rw[an h,an h,h]
     ·rw[az h,az h]
    refine⟨_,rfl,⟨k+1,(fun j=>if j=i+k then f j+dg 65536 A i*dg 65536 B k else f j),by rw[e];rfl,by omega,?_,fun j=>?_,fun j hj=>?_⟩,by show m - ((k:Int)+1).toNat<m - (k:Int).toNat;omega⟩
    ·rw[Je _ (by omega),hv,gi,tQ,aX,gH]
     simp only[fa,Ar,bj,kU]
    ·dsimp only
     by_cases h:j=i+k
     ·rw[an h,h];omega
     ·rw[az h];exact hf j
    ·dsimp only
     rw[ifn_];exact S8 j (by omega)
   ·right
    obtain rfl:k=m:=by omega
    refine⟨_,by rw[a9 _ _],f,rfl,?_,hf⟩
    rw[hv,dX hB])
  ((0:Int),dk (n+m+1) R) ⟨0,dg 65536 R,rfl,il _,by rw[NC,fI,mw,al_7,jJ,dX hR,i9],fun j=>by have:=@j5 R j;omega,fun j _=>by have:=@j5 R j;omega⟩
 exact⟨f,hl,h1,h2⟩
theorem Lt {n m A B:Nat}(hn:n<1000)(hm:m<1000){f:Nat→Nat}(hf:∀j,f j≤65535+65535*65535):
  aL (fW (dk n A) (dk m B)) ((0:Int),(0:Int),lF (n+m+1) f)=some (dk (n+m+1) (fU 65536 f (n+m+1))):=by
 have eP:i64.wrap ((i64.wrap (((dk n A).length:Int)+((dk m B).length:Int)))+(1:Int))=((n+m+1:Nat):Int):=by
  rw[ci,ci,bU (z:=(n:Int)+(m:Int)) (by omega),bU];omega
 have hl:=qB (b:=fW (dk n A) (dk m B)) (s0:=((0:Int),(0:Int),lF (n+m+1) f)) (fun k=>(((fU 65536 f k / 65536 ^ k:Nat):Int),(k:Int),lF (n+m+1) (fun j=>if j<k then dg 65536 (fU 65536 f (n+m+1)) j else f j))) (n+m+1) (lF (n+m+1) (fun j=>if j<n+m+1 then dg 65536 (fU 65536 f (n+m+1)) j else f j))
  (by
   rw[show fU 65536 f 0 / 65536 ^ 0=0 from by simp[fU],tH (n:=n+m+1) (f:=fun j=>if j<0 then dg 65536 (fU 65536 f (n+m+1)) j else f j) (g:=f) fun j _=>ifn_]
   rfl)
  (fun k hk=>by
   obtain⟨h1,h2⟩:=P3 (b:=65536) (f:=f) (n:=n+m+1) (k:=k) (by decide) hk
   have hc:fU 65536 f k / 65536 ^ k≤65535+65535*65535:=by
    have:=NB (b:=65536) (f:=f) (by decide) k fun j _=>hf j
    exact Nat.div_le_of_le_mul (by rw[bj];exact this)
   have hfk:=hf k
   generalize fU 65536 f k / 65536 ^ k=c at h1 h2 hc ⊢
   generalize fU 65536 f (k+1) / 65536 ^ (k+1)=c' at h2 ⊢
   dsimp only[fW]
   rw[eP,aD,ci,ba _ _,aB,ab,aB,aD,pL hk,az (u3 _),←kS,lU (f k),bU (z:=((c+f k:Nat):Int)) (by omega),show (65536:Int)=((65536:Nat):Int) from rfl,←sm,←sj,h1,h2,bU (z:=(c':Int)) (by omega),bU,LX]
   have e:lF (n+m+1) (fun j=>if j=k then dg 65536 (fU 65536 f (n+m+1)) k else if j<k then dg 65536 (fU 65536 f (n+m+1)) j else f j)=lF (n+m+1) (fun j=>if j<k+1 then dg 65536 (fU 65536 f (n+m+1)) j else f j):=tH fun j _=>by
    by_cases h:j=k
    ·rw[an h,ifp_,h]
    ·rw[az h]
     by_cases h3:j<k
     ·rw[an h3,ifp_]
     ·rw[az h3,ifn_]
   rw[e]
   rfl)
  (by
   dsimp only[fW]
   rw[eP,aD,a9 _ _])
 rw[hl]
 congr 1
 exact tH fun j hj=>an hj
theorem Vg {n m A B:Nat}(hA:A<65536 ^ n)(hB:B<65536 ^ m)(hn:n<1000)(hm:m<1000):mF (dk n A) (dk m B)=some (dl (A*B)):=by
 have eP:i64.wrap ((i64.wrap (((dk n A).length:Int)+((dk m B).length:Int)))+(1:Int))=((n+m+1:Nat):Int):=by
  rw[ci,ci,bU (z:=(n:Int)+(m:Int)) (by omega),bU];omega
 have hbnd:∀i,A % 65536 ^ i*B<65536 ^ (n+m+1):=fun i=>by
  have h1:A % 65536 ^ i*B≤A*B:=bY _ (Nat.mod_le _ _)
  have h2:A*B<65536 ^ n*65536 ^ m:=At hA hB
  have h3:65536 ^ n*65536 ^ m≤65536 ^ (n+m+1):=by rw[←gH];exact im (by decide) (by omega)
  omega
 have hl:=qB (b:=jw (dk n A) (dk m B)) (s0:=((0:Int),List.replicate (n+m+1) (0:Int))) (fun i=>((i:Int),dk (n+m+1) (A % 65536 ^ i*B))) n (dk (n+m+1) (A % 65536 ^ n*B))
  (by
   rw[Su,fI,mw,jJ]
   have:dk (n+m+1) 0=lF (n+m+1) (fun _=>0):=tH fun j _=>by unfold dg;simp
   rw[this];rfl)
  (fun i hi=>by
   obtain⟨f,h1,h2,h3⟩:=PJ (A:=A) (i:=i) hi hn hm hB (hbnd i)
   dsimp only[jw]
   rw[ci,ba _ _,h1,ab,Lt hn hm h3,ab,h2,bU,gi,aX]
   have:65536 ^ i*dg 65536 A i*B=dg 65536 A i*B*65536 ^ i:=by simp only[fa,Ar,bj]
   rw[this]
   rfl)
  (by
   dsimp only[jw]
   rw[ci,a9 _ _])
 unfold mF
 rw[eP,aB,aD,hl,ab,ci,aB rfl,dX hA,xt (by have:=hbnd n;rwa[dX hA] at this) (by omega),ab]
end
theorem dg_cons {R d i:Nat}(hd:d<65536):dg 65536 (R*65536+d) (i+1)=dg 65536 R i:=by
 have e:(R*65536+d) / 65536=R:=by omega
 unfold dg
 rw[cC,bj (65536 ^ i),←gg,e]
theorem G_at {n A k:Nat}(hA:A<65536 ^ n):ib (dk n A) (k:Int)=some ((dg 65536 A k:Nat):Int):=by
 unfold ib
 rw[a9 _ _,tY hA,ab]
theorem Vj {l:List Int}{k:Int}(h:k<0):ib l k=some 0:=by
 unfold ib
 rw[ba _ _ h]
def yd(A:Nat)(m:Nat):Nat:=if m<2 then 0 else dg 65536 A (m - 2)
theorem Oc {A m:Nat}:yd A m<65536:=by
 unfold yd;split
 ·omega
 ·exact j5
theorem G_at2 {n A m:Nat}(hA:A<65536 ^ n)(hm:0<m)(hm2:m<100000):ib (dk n A) (i64.wrap ((m:Int) - (2:Int)))=some ((yd A m:Nat):Int):=by
 unfold yd
 rw[bU]
 by_cases h:m<2
 ·rw[an h,Vj (by omega)];rfl
 ·rw[az h,show (m:Int) - 2=((m - 2:Nat):Int) from by omega,G_at hA]
def Mv(x0 x1 x2:Nat):Nat:=x0*4294967296+x1*65536+x2
theorem Qy {x0 x1 x2:Nat}(h0:x0<65536)(h1:x1<65536)(h2:x2<65536):i64.wrap ((i64.wrap ((i64.wrap ((x0:Int)*(4294967296:Int)))+(i64.wrap ((x1:Int)*(65536:Int)))))+(x2:Int))=((Mv x0 x1 x2:Nat):Int):=by
 unfold Mv
 rw[bU (z:=(x0:Int)*(4294967296:Int)) (by omega),bU (z:=(x1:Int)*(65536:Int)) (by omega),bU (z:=(x0:Int)*4294967296+(x1:Int)*65536) (by omega),bU]
 omega
theorem est3_lt {x0 x1 x2:Nat}(h0:x0<65536)(h1:x1<65536)(h2:x2<65536):Mv x0 x1 x2<281474976710656:=by
 unfold Mv;omega
theorem quo_w {S T:Nat}(h:S<281474976710656):i64.wrap (Int.tdiv (S:Int) (T:Int))=((S / T:Nat):Int):=by
 have:=uZ S T
 rw[←sj]
 generalize S / T=q at this ⊢
 rw[bU]
theorem min_w {e:Nat}:min (65535:Int) (e:Int)=((min 65535 e:Nat):Int):=by omega
theorem est_ge {X B m:Nat}(hm:0<m)(hB:B<65536 ^ m)(hB1:65536 ^ (m - 1)≤B)(hX:X<B*65536):
  X / B≤Mv (dg 65536 X m) (dg 65536 X (m - 1)) (yd X m) / (dg 65536 B (m - 1)*65536+yd B m):=by
 unfold Mv
 have Ki:0<B:=bC (bD (by decide)) hB1
 have hXm:X<65536 ^ (m+1):=by
  rw[cC];exact bC hX (bY _ (kQ hB))
 by_cases h:m<2
 ·obtain rfl:m=1:=by omega
  have eX:X=dg 65536 X 1*65536+dg 65536 X 0:=by
   have:=b9 (b:=65536) (A:=X) (k:=0)
   rw[fI,m8] at this
   have e2:=b9 (b:=65536) (A:=X) (k:=1)
   rw[dE hXm,jJ,cj] at e2
   rw[←e2];exact this
  have eB:B=dg 65536 B 0:=by
   have:=b9 (b:=65536) (A:=B) (k:=0)
   rw[fI,m8,dE hB,jJ,cj] at this
   exact this
  unfold yd
  rw[ifp_,ifp_,i9,i9,show 1 - 1=0 from rfl,←eB]
  have:dg 65536 X 1*4294967296+dg 65536 X 0*65536=X*65536:=by omega
  rw[this,Nat.mul_div_mul_right _ _ (by decide)]
  exact aC _
 ·obtain⟨p,rfl⟩:∃p,m=p+2:=⟨m - 2,by omega⟩
  have hp:0<65536 ^ p:=bD (by decide)
  have eX:X / 65536 ^ p=dg 65536 X (p+2)*4294967296+dg 65536 X (p+1)*65536+dg 65536 X p:=by
   have e0:=b9 (b:=65536) (A:=X) (k:=p)
   have e1:=b9 (b:=65536) (A:=X) (k:=p+1)
   have e2:=b9 (b:=65536) (A:=X) (k:=p+2)
   rw[dE hXm,jJ,cj] at e2
   rw[e0,e1,show p+1+1=p+2 from rfl,e2,aX,fa]
  have eB:B / 65536 ^ p=dg 65536 B (p+1)*65536+dg 65536 B p:=by
   have e0:=b9 (b:=65536) (A:=B) (k:=p)
   have e1:=b9 (b:=65536) (A:=B) (k:=p+1)
   rw[dE hB,jJ,cj] at e1
   rw[e0,e1]
  unfold yd
  rw[az h,az h,show p+2 - 2=p from rfl,show p+2 - 1=p+1 from rfl,←eX,←eB]
  have hT:0<B / 65536 ^ p:=by
   refine D0 (cg ?_ hB1) hp
   exact im (by decide) (by omega)
  rw[oZ hT,oZ hp,fa]
  refine cg (uW _ (M1 _ _)) ?_
  rw[bj]
  exact Nat.mul_div_le _ _
theorem J1 {X B d:Nat}(hB:0<B):X<B*d↔X / B<d:=by
 rw[kO hB,bj]
theorem TL {X B m:Nat}(hm:m<900)(hB:B<65536 ^ m)(Ki:0<B)(hXs:sz6 X≤m+1)(d:Nat)(hd:X / B≤d)(HJ:d≤65535):
  aL (g9 (dk m B) (dl X)) ((d:Int),dl (B*d))=some (((X / B:Nat):Int),dl (B*(X / B))):=by
 obtain⟨x,hl,hx⟩:=wi (b:=g9 (dk m B) (dl X)) (fun s=>∃d:Nat,s=((d:Int),dl (B*d))∧X / B≤d∧d≤65535) (fun s=>s.1.toNat) (fun x=>x=(((X / B:Nat):Int),dl (B*(X / B))))
  (by
   rintro s ⟨d,rfl,h1,h2⟩
   have hBd:B*d<65536 ^ (m+1):=by
    rw[cC];exact Nat.mul_lt_mul_of_lt_of_le hB (by omega) (by decide)
   have hsz:=rQ hBd
   dsimp only[g9]
   rw[G_dless (jV X) (jV (B*d)) (by omega) (by omega),ab]
   by_cases bh:X<B*d
   ·left
    have h3:=(J1 Ki).1 bh
    have E7:0<d:=fg (il _) h3
    have h4:B≤B*d:=Au _ E7
    refine⟨_,by rw[ba _ _ bh,K9 (jV (B*d)) hB (by omega) h4,ab,bU],⟨d - 1,?_,by omega,by omega⟩,?_⟩
    ·rw[Nat.mul_sub,si]
     congr 1
     omega
    ·show ((d:Int) - 1).toNat<((d:Nat):Int).toNat
     omega
   ·right
    have h3:=mt (J1 Ki).2 bh
    obtain rfl:d=X / B:=by omega
    exact⟨_,by rw[a9 _ _ bh],rfl⟩) ((d:Int),dl (B*d)) ⟨d,rfl,hd,HJ⟩
 rw[hl,hx]
set_option maxRecDepth 10000 in
theorem Vh {A B:Nat}(hA:sz6 A<800)(hBs:sz6 B<800)(Ki:0<B):jy (dl A) (dl B)=some (dl (A / B),dl (A % B)):=by
 obtain⟨m,hm⟩:∃m,m=sz6 B:=⟨_,rfl⟩
 obtain⟨n,hn⟩:∃n,n=sz6 A:=⟨_,rfl⟩
 have hB:=jV B
 have hB1:=(xJ B).2 (BH Ki)
 have hm0:=BH Ki
 have hAn:=jV A
 show jy (dk (sz6 A) A) (dk (sz6 B) B)=_
 rw[←hm] at hB hB1 hm0 hBs ⊢
 rw[←hn] at hAn hA ⊢
 have fy:1≤dg 65536 B (m - 1):=by
  have:=b9 (b:=65536) (A:=B) (k:=m - 1)
  rw[show m - 1+1=m from by omega,dE hB,jJ,cj] at this
  rw[←this]
  exact (oZ (bD (by decide))).2 (by rw[dq];exact hB1)
 have hbl:=@j5 B (m - 1)
 have hll:=@Oc B m
 have em1:i64.wrap ((m:Int) - (1:Int))=((m - 1:Nat):Int):=by rw[bU];omega
 have hm5:m<100000:=by omega
 have htop:((dg 65536 B (m - 1)*65536+yd B m:Nat):Int)≠0:=by omega
 have hl:=So (b:=ia (dk n A) (dk m B) ((dg 65536 B (m - 1)*65536+yd B m:Nat):Int)) (s0:=(([]:List Int),(n:Int) - 1,List.replicate n (0:Int))) (fun k=>(dl (A / 65536 ^ k % B),(k:Int) - 1,lF n (fun j=>if k≤j then dg 65536 (A / B) j else 0))) n (dl (A / 65536 ^ 0 % B),lF n (fun j=>if 0≤j then dg 65536 (A / B) j else 0))
  (by
   rw[dE hAn,Nat.zero_mod,dl_zero,Su]
   congr 2
   exact tH fun j hj=>ifn_)
  (fun k hk=>by
   obtain⟨h1,h2⟩:=wH (b:=65536) (A:=A) (k:=k) (d:=B) (by decide) Ki
   have hr:=dM (A / 65536 ^ (k+1)) Ki
   have ha:=@j5 A k
   generalize A / 65536 ^ (k+1) % B=R at h1 h2 hr ⊢
   generalize A / 65536 ^ k % B=R' at h2 ⊢
   have hX:R*65536+dg 65536 A k<B*65536:=by
    have:(R+1)*65536≤B*65536:=bY _ hr
    omega
   have hRs:sz6 R≤m:=rQ (by omega)
   have hXm:R*65536+dg 65536 A k<65536 ^ (m+1):=by
    rw[cC];exact bC hX (bY _ (kQ hB))
   have hXs:=rQ hXm
   have hcons:[(dg 65536 A k:Int)]++dl R=dk (sz6 R+1) (R*65536+dg 65536 A k):=by
    unfold dl
    rw[lF_cons]
    exact tH fun j hj=>by
     by_cases hj0:j=0
     ·subst hj0
      rw[an rfl]
      unfold dg
      rw[fI,m8]
      have:=@j5 A k
      unfold dg at this
      omega
     ·rw[az hj0]
      obtain⟨i,rfl⟩:∃i,j=i+1:=⟨j - 1,by omega⟩
      exact (dg_cons ha).symm
   have hXlt:R*65536+dg 65536 A k<65536 ^ (sz6 R+1):=by
    have:=jV R
    rw[cC]
    have h3:(R+1)*65536≤65536 ^ sz6 R*65536:=bY _ this
    rw[aX,dq] at h3
    exact bC (uX ha _) h3
   have hszR:sz6 R+1<1000:=by
    have:=fg hRs hBs
    exact bC (Nat.succ_lt_succ this) (by decide)
   have ei:((k+1:Nat):Int) - 1=(k:Int):=by omega
   have Ql:=est_ge hm0 hB hB1 hX
   have d1:=@j5 (R*65536+dg 65536 A k) m
   have d2:=@j5 (R*65536+dg 65536 A k) (m - 1)
   have d3:=@Oc (R*65536+dg 65536 A k) m
   have hqk:(R*65536+dg 65536 A k) / B<65536:=(kO Ki).2 (by rw[bj 65536 B];exact hX)
   dsimp only[ia]
   rw[ei,ba _ _ (Iv k)]
   rw[ci,ci,ci]
   rw[aB (show (0:Int)≤(k:Int)∧(k:Int)<(n:Int) from⟨Iv k,Int.ofNat_lt.2 hk⟩)]
   rw[aD,aD]
   rw[pL hk,hcons,ci]
   rw[aB (show (sz6 R+1)*8≤140737488355328 from cg (bY _ (kQ hszR)) (by decide))]
   rw[xt hXlt (As hszR (by decide)),ab,G_at (jV _),ab]
   rw[show i64.wrap ((m:Int) - (1:Int))=((m - 1:Nat):Int) from em1,G_at (jV _),ab,G_at2 (jV _) hm0 hm5,ab,aB htop]
   obtain⟨X,hX2⟩:∃X,X=R*65536+dg 65536 A k:=⟨_,rfl⟩
   rw[←hX2] at h1 h2 hX hXm hXs hXlt Ql d1 d2 d3 hqk ⊢
   generalize dg 65536 X m=x0 at Ql d1 ⊢
   generalize dg 65536 X (m - 1)=x1 at Ql d2 ⊢
   generalize yd X m=x2 at Ql d3 ⊢
   have hS:=est3_lt d1 d2 d3
   rw[Qy d1 d2 d3,quo_w hS]
   generalize Mv x0 x1 x2 / (dg 65536 B (m - 1)*65536+yd B m)=e at Ql ⊢
   have Q2:X / B≤min 65535 e:=Nat.le_min.2 ⟨Nat.le_of_lt_succ hqk,Ql⟩
   have HJ:min 65535 e≤65535:=Nat.min_le_left ..
   rw[min_w,ab]
   generalize min 65535 e=d at Q2 HJ ⊢
   have e1:[(d:Int)]=dk 1 d:=by
    show _=lF 1 _
    unfold lF dg
    simp only[List.range_one,gZ,pN,fI,m8]
    rw[dX (by omega)]
   have hmul:B*(X / B)≤X:=Nat.mul_div_le _ _
   have hms:sz6 (B*(X / B))≤m+1:=rQ (by omega)
   rw[e1,Vg hB (by rw[uV];omega) (by omega) (by omega),ab,TL (by omega) hB Ki hXs d Q2 HJ,ab]
   dsimp only
   rw[aB,K9 (jV X) (jV _) (by omega) hmul,ab,bU,LX]
   have em:X - B*(X / B)=X % B:=by have:=kV X B;omega
   rw[em,h2,h1]
   have ef:lF n (fun j=>if j=k then dg 65536 (A / B) k else if k+1≤j then dg 65536 (A / B) j else 0)=lF n (fun j=>if k≤j then dg 65536 (A / B) j else 0):=tH fun j _=>by
    by_cases h:j=k
    ·rw[an h,ifp_,h]
    ·rw[az h]
     by_cases h3:k+1≤j
     ·rw[an h3,ifp_]
     ·rw[az h3,ifn_]
   rw[ef])
  (by
   dsimp only[ia]
   rw[a9 _ _])
 have hq:A / B<65536 ^ n:=fg (uZ _ _) hAn
 unfold jy
 rw[ci,ci,aB,show i64.wrap ((m:Int) - (1:Int))=((m - 1:Nat):Int) from by rw[bU];omega,aB,G_at2 hB hm0 (by omega),ab,aD,aD,pL (by omega),bU (z:=(dg 65536 B (m - 1):Int)*65536) (by omega),bU,ab,bU,ab,show (dg 65536 B (m - 1):Int)*65536+(yd B m:Int)=((dg 65536 B (m - 1)*65536+yd B m:Nat):Int) from by omega,hl,ab]
 dsimp only
 rw[ci,aB rfl,tH (n:=n) (f:=fun j=>if 0≤j then dg 65536 (A / B) j else 0) (g:=dg 65536 (A / B)) fun j _=>an (il _),xt hq (by omega),ab,fI,m8]
theorem LIM6:LIM=65536 ^ 32:=by decide +kernel
theorem OI {A k:Nat}:dg 4294967296 A k=dg 65536 A (2*k+1)*65536+dg 65536 A (2*k):=by
 have e:(4294967296:Nat) ^ k=65536 ^ (2*k):=by rw[Ap]
 unfold dg
 rw[e,cC,←gg]
 omega
theorem Vi {x:ap}{A:Nat}(hx:x.vW=W A)(hA:A<LIM):eh x=some (dl A):=by
 have hl:=qB (b:=iM x) (s0:=(([]:List Int),(0:Int))) (fun k=>(dk (2*k) A,(k:Int))) 16 (dk 32 A)
  (by rfl)
  (fun k hk=>by
   have hp:=OI (A:=A) (k:=k)
   have h0:=@j5 A (2*k)
   have h1:=@j5 A (2*k+1)
   dsimp only[iM]
   rw[ba _ _,aB,aB,hx,aD,f8 hk]
   have e1:i64.wrap (Int.tmod (dg 4294967296 A k:Int) (65536:Int))=(dg 65536 A (2*k):Int):=by
    rw[show (65536:Int)=((65536:Nat):Int) from rfl,←sm,bU];omega
   have e2:i64.wrap (u32.wrap (Int.tdiv (dg 4294967296 A k:Int) (65536:Int)))=(dg 65536 A (2*k+1):Int):=by
    rw[show (65536:Int)=((65536:Nat):Int) from rfl,←sj,zk,bU];omega
   rw[e1,e2,show dk (2*k) A++[(dg 65536 A (2*k):Int),(dg 65536 A (2*k+1):Int)]=(dk (2*k) A++[(dg 65536 A (2*k):Int)])++[(dg 65536 A (2*k+1):Int)] from by rw[bP];rfl,yh,yh,ci,aB,bU]
   rfl)
  (by
   dsimp only[iM]
   rw[a9 _ _])
 unfold eh
 rw[hl,ab,xt (by rw[←LIM6];exact hA) (by decide),ab]
theorem U9:lL=some KJ:=by unfold lL;rw[r16];rfl
theorem R0 {n A:Nat}(hn:n≤32)(neg:Bool):
  aL (fE (dk n A)) ((0:Int),(⟨false,neg,W 0⟩:ap))=some (⟨false,neg,W (A % 65536 ^ n)⟩:ap):=by
 have hb:0<(4294967296:Nat):=by decide
 have hl:=qB (b:=fE (dk n A)) (s0:=((0:Int),(⟨false,neg,W 0⟩:ap))) (fun k=>((k:Int),(⟨false,neg,W (A % 65536 ^ k)⟩:ap))) n (⟨false,neg,W (A % 65536 ^ n)⟩:ap)
  (by rw[fI,mw];rfl)
  (fun k hk=>by
   have h0:=@j5 A k
   have bh:A % 65536 ^ k<65536 ^ k:=dM _ (bD (by decide))
   have hdiv:i64.wrap (Int.tdiv (k:Int) (2:Int))=((k / 2:Nat):Int):=by
    rw[show (2:Int)=((2:Nat):Int) from rfl,←sj,bU]
   have e1:=OI (A:=A % 65536 ^ k) (k:=k / 2)
   have hu:=fun x:Nat=>Ls (b:=4294967296) (A:=A % 65536 ^ k) (p:=k / 2) (x:=x)
   dsimp only[fE]
   rw[ci,ba _ _,hdiv,aB,aB,aB,ab,aB,aB,aB,ab,aD,aD,f8 (by omega),pL hk,show (2:Int)=((2:Nat):Int) from rfl,←sm,zk (n:=dg 65536 A k) (by omega),jj]
   have ru:A % 65536 ^ (k+1)=A % 65536 ^ k+65536 ^ k*dg 65536 A k:=gi
   have hpow:(4294967296:Nat) ^ (k / 2)=65536 ^ (2*(k / 2)):=by rw[Ap]
   by_cases he:k % 2=0
   ·have z3:2*(k / 2)=k:=by omega
    have d0:dg 4294967296 (A % 65536 ^ k) (k / 2)=0:=by
     rw[e1,z3,kZ bh,kZ (bC bh (im (by decide) (by omega)))]
    rw[ifp_,ab,d0,←kS,zk,zi hb (by omega) (by omega),bU]
    have:=hu (0+dg 65536 A k)
    rw[d0,hpow,z3] at this
    rw[jJ,i9,cj] at this
    rw[show up1 4294967296 (A % 65536 ^ k) (k / 2) (0+dg 65536 A k)=A % 65536 ^ (k+1) from by rw[ru,bj (65536 ^ k),cj];exact this]
    rfl
   ·have z3:2*(k / 2)+1=k:=by omega
    have d1:dg 4294967296 (A % 65536 ^ k) (k / 2)=dg 65536 A (2*(k / 2)):=by
     rw[e1,z3,kZ bh,jJ,cj,mX (by omega)]
    have h2:=@j5 A (2*(k / 2))
    rw[ifn_,ab,d1,show ((dg 65536 A k:Nat):Int)*(65536:Int)=((dg 65536 A k*65536:Nat):Int) from by omega,zk (n:=dg 65536 A k*65536) (by omega),←kS,zk,zi hb (by omega) (by omega),bU]
    have:=hu (dg 65536 A (2*(k / 2))+dg 65536 A k*65536)
    rw[d1,hpow,aX] at this
    have bk:65536 ^ (2*(k / 2))*65536=(65536:Nat) ^ k:=by rw[←cC];exact congrArg _ z3
    have e3:dg 65536 A k*65536*65536 ^ (2*(k / 2))=65536 ^ k*dg 65536 A k:=by
     rw[fa,bj 65536,bk,bj]
    rw[e3,Nat.add_left_comm,lU] at this
    have hfin:=Nat.add_left_cancel this
    rw[show up1 4294967296 (A % 65536 ^ k) (k / 2) (dg 65536 A (2*(k / 2))+dg 65536 A k*65536)=A % 65536 ^ (k+1) from by rw[ru];exact hfin]
    rfl)
  (by
   dsimp only[fE]
   rw[ci,a9 _ _])
 exact hl
theorem Ev {n A:Nat}(hA:A<65536 ^ n)(hn:n<100000)(neg:Bool):eU neg (dk n A)=some (enc (bif neg then -(A:Int) else (A:Int))):=by
 have hiff:32<sz6 A↔¬A<LIM:=by
  rw[LIM6]
  constructor
  ·intro h h2
   have:=rQ h2;omega
  ·intro h
   rcases bO 32 (sz6 A) with h1|h1
   ·exact h1
   ·exact absurd (bC (jV A) (im (by decide) h1)) h
 have A2:(bif neg then -(A:Int) else (A:Int)).natAbs=A:=by cases neg <;> simp
 unfold eU
 rw[xt hA (by omega),ab,Mx,r16]
 by_cases h:32<sz6 A
 ·rw[ba _ _,U9,ab,Dj (by rw[A2];exact hiff.1 h)]
 ·have hAL:A<LIM:=Decidable.byContradiction fun h2=>h (hiff.2 h2)
  have hneg:decide ((0:Int)<((sz6 A:Nat):Int))= !decide (A=0):=by
   rw[←decide_not]
   refine p6.2 ?_
   constructor
   ·intro h3 h4;subst h4;rw[Cj] at h3;omega
   ·intro h3;have:=BH (yJ h3);omega
  have hsel:(cnd neg (bnd (some ((⟨false,decide ((0:Int)<((sz6 A:Nat):Int)),W 0⟩:ap))) fun x7=>some (x7)) (some ((⟨false,false,W 0⟩:ap))))=some (⟨false,neg&&!decide (A=0),W 0⟩:ap):=by
   rw[ab,hneg]
   cases neg <;> rfl
  rw[a9 _ _,hsel,ab,R0 (by omega),ab,dX (jV A),TE hAL]
theorem zeroW {v:Vector Int 16}:(∀j:Nat,j<16→v[j]! =0)↔v=W 0:=by
 constructor
 ·intro h
  apply nK
  intro j hj
  rw[h j hj,f8 hj]
  unfold dg;simp
 ·rintro rfl j hj
  rw[f8 hj]
  unfold dg;simp
theorem mi(x:ap):dc x=some (dA x):=by
 have hl:=qB (b:=jz x) (s0:=(true,(0:Int))) (fun k=>(decide (∀j:Nat,j<k→x.vW[j]! =0),(k:Int))) 16 (decide (∀j:Nat,j<16→x.vW[j]! =0))
  (by
   rw[ck (p:=∀j:Nat,j<0→x.vW[j]! =0) (fun j hj=>by omega)]
   rfl)
  (fun k hk=>by
   dsimp only[jz]
   rw[ba _ _,aB,aD,cnd_and,ab,bU,←Bool.decide_and]
   have:((∀j:Nat,j<k→x.vW[j]! =0)∧x.vW[k]! =0)↔∀j:Nat,j<k+1→x.vW[j]! =0:=by
    constructor
    ·rintro⟨h1,h2⟩ j hj
     by_cases h:j=k
     ·rw[h];exact h2
     ·exact h1 j (by omega)
    ·intro h
     exact⟨fun j hj=>h j (by omega),h k (by omega)⟩
   rw[p6.2 this]
   rfl)
  (by
   dsimp only[jz]
   rw[a9 _ _])
 have hz:decide (∀j:Nat,j<16→x.vW[j]! =0)=decide (x.vW=W 0):=p6.2 zeroW
 unfold dc ph dA
 rw[hl,ab,hz]
 cases x.vBad <;> cases decide (x.vW=W 0) <;> cases x.vNeg <;> rfl
theorem On {A:Nat}(hA:A<LIM)(h:∀j,2≤j→j<16→dg 4294967296 A j=0):A / 4294967296 ^ 2=0:=by
 have key:∀d,d≤14→A / 4294967296 ^ (16 - d)=0:=by
  intro d
  induction d with
  |zero=>intro _;exact dE hA
  |succ d ih=>
   intro hd
   have h1:=ih (by omega)
   have h2:=b9 (b:=4294967296) (A:=A) (k:=16 - (d+1))
   rw[show 16 - (d+1)+1=16 - d from by omega,h1,jJ,cj,h _ (by omega) (by omega)] at h2
   exact h2
 exact key 14 (aC _)
structure wB(a:Int):Prop where
 h:a.natAbs<4611686018427387904
instance(a:Int):Decidable (wB a):=decidable_of_iff (a.natAbs<4611686018427387904) ⟨fun h=>⟨h⟩,fun h=>h.h⟩
theorem Ra {A:Nat}(hA:A<LIM):A<4611686018427387904↔dg 4294967296 A 1<1073741824∧∀j,2≤j→j<16→dg 4294967296 A j=0:=by
 constructor
 ·intro h
  refine⟨?_,fun j h1 _=>kZ (bC h ?_)⟩
  ·unfold dg;rw[uV];omega
  ·exact cg (by decide:4611686018427387904≤4294967296 ^ 2) (im (by decide) h1)
 ·rintro⟨h1,h2⟩
  have h3:=On hA h2
  have h4:=b9 (b:=4294967296) (A:=A) (k:=1)
  rw[show 1+1=2 from rfl,h3,jJ,cj,uV] at h4
  omega
theorem U6 {a:Int}(ha:a.natAbs<LIM):l7 (enc a)=some (if wB a then (a,true) else (0,false)):=by
 have hwi:=Ra ha
 obtain⟨x,hl,hx⟩:=wi (b:=l6 (enc a)) (fun s=>∃k:Nat,s=(k:Int)∧2≤k∧k≤16∧∀j,2≤j→j<k→dg 4294967296 a.natAbs j=0) (fun s=>16 - s.toNat) (fun x=>match x with| .inl r=>r=((0:Int),false)∧¬(∀j,2≤j→j<16→dg 4294967296 a.natAbs j=0)| .inr _=>∀j,2≤j→j<16→dg 4294967296 a.natAbs j=0)
  (by
   rintro s ⟨k,rfl,z3,hk,hz⟩
   dsimp only[l6]
   rw[ml ha]
   by_cases h16:k<16
   ·rw[ba _ _,aB,aD,f8 h16]
    by_cases hd:dg 4294967296 a.natAbs k=0
    ·left
     refine⟨((k+1:Nat):Int),by rw[a9 _ _,bU];rfl,⟨k+1,rfl,by omega,by omega,fun j h1 h2=>?_⟩,by omega⟩
     by_cases h:j=k
     ·rw[h];exact hd
     ·exact hz j h1 (by omega)
    ·right
     refine⟨(Sum.inl ((0:Int),false):(Int×Bool)⊕Unit),by rw[ba _ _],rfl,fun h=>hd (h k z3 h16)⟩
   ·right
    refine⟨(Sum.inr ():(Int×Bool)⊕Unit),by rw[a9 _ _],?_⟩
    obtain rfl:k=16:=by omega
    exact hz) (2:Int) ⟨2,rfl,by omega,by omega,fun j h1 h2=>by omega⟩
 have e1:(W a.natAbs)[((1:Int)).toNat]! =(dg 4294967296 a.natAbs 1:Int):=f8 (by decide)
 have e0:(W a.natAbs)[((0:Int)).toNat]! =(dg 4294967296 a.natAbs 0:Int):=f8 (by decide)
 have d0:=@dgl a.natAbs 0
 unfold l7
 rw[mi,bA ha,ab,ep,aP,ab,ml ha,e1,e0,n3 ha]
 by_cases h1:dg 4294967296 a.natAbs 1<1073741824
 ·rw[a9 _ _,hl,ab]
  cases x with
  |inl r=>
   obtain⟨rfl,h2⟩:=hx
   have:¬wB a:=fun h=>h2 (hwi.1 h.h).2
   rw[az this]
  |inr u=>
   have h2:wB a:=⟨hwi.2 ⟨h1,hx⟩⟩
   have h3:=On ha hx
   have h4:=b9 (b:=4294967296) (A:=a.natAbs) (k:=1)
   rw[show 1+1=2 from rfl,h3,jJ,cj,uV] at h4
   have h5:dg 4294967296 a.natAbs 0=a.natAbs % 4294967296:=by unfold dg;rw[fI,m8]
   have h6:(dg 4294967296 a.natAbs 1:Int)*4294967296+(dg 4294967296 a.natAbs 0:Int)=(a.natAbs:Int):=by omega
   have h7:=h2.h
   dsimp only
   rw[bU (z:=(dg 4294967296 a.natAbs 1:Int)) (by omega),bU (z:=(dg 4294967296 a.natAbs 1:Int)*4294967296) (by omega),bU (z:=(dg 4294967296 a.natAbs 0:Int)) (by omega),h6,bU (z:=(a.natAbs:Int)) (by omega),ab,jj,an h2]
   by_cases hn:a<0
   ·rw[an hn,bU,show (0:Int) - (a.natAbs:Int)=a from by omega]
   ·rw[az hn,show (a.natAbs:Int)=a from by omega]
 ·have:¬wB a:=fun h=>h1 (hwi.1 h.h).1
  rw[ba _ _,az this]
theorem dk4 {N:Nat}:dk 4 N=[(dg 65536 N 0:Int),(dg 65536 N 1:Int),(dg 65536 N 2:Int),(dg 65536 N 3:Int)]:=rfl
theorem of4 {N:Nat}(hN:N<9223372036854775808):[Int.tmod (N:Int) (65536:Int),Int.tmod (i64.wrap (Int.tdiv (N:Int) (65536:Int))) (65536:Int),Int.tmod (i64.wrap (Int.tdiv (N:Int) (4294967296:Int))) (65536:Int),i64.wrap (Int.tdiv (N:Int) (281474976710656:Int))]=dk 4 N:=by
 have e1:i64.wrap (Int.tdiv (N:Int) (65536:Int))=((N / 65536:Nat):Int):=by
  rw[show (65536:Int)=((65536:Nat):Int) from rfl,←sj,bU]
 have e2:i64.wrap (Int.tdiv (N:Int) (4294967296:Int))=((N / 4294967296:Nat):Int):=by
  rw[show (4294967296:Int)=((4294967296:Nat):Int) from rfl,←sj,bU]
 have e3:i64.wrap (Int.tdiv (N:Int) (281474976710656:Int))=((N / 281474976710656:Nat):Int):=by
  rw[show (281474976710656:Int)=((281474976710656:Nat):Int) from rfl,←sj,bU]
 rw[e1,e2,e3,dk4,show (65536:Int)=((65536:Nat):Int) from rfl,←sm,←sm,←sm]
 have d0:dg 65536 N 0=N % 65536:=by unfold dg;rw[fI,m8]
 have d1:dg 65536 N 1=N / 65536 % 65536:=by unfold dg;rw[uV]
 have d2:dg 65536 N 2=N / 4294967296 % 65536:=rfl
 have d3:dg 65536 N 3=N / 281474976710656:=by
  have:dg 65536 N 3=N / 281474976710656 % 65536:=rfl
  rw[this];omega
 rw[d0,d1,d2,d3]
theorem one_dk:[(1:Int)]=dk 1 1:=rfl
theorem Po {n:Int}(h1:-9223372036854775808≤n)(h2:n≤9223372036854775807):oS n=some (enc n):=by
 unfold oS
 by_cases hn:0≤n
 ·obtain⟨N,rfl⟩:∃N:Nat,n=(N:Int):=⟨n.toNat,by omega⟩
  have hN4:N<65536 ^ 4:=bC (show N<9223372036854775808 by omega) (by decide)
  rw[ba _ _ hn,of4 (by omega),Ev hN4 (by decide),ab]
  rfl
 ·obtain⟨M,hM⟩:∃M:Nat,-(n+1)=(M:Int):=⟨(-(n+1)).toNat,by omega⟩
  have hM4:M<65536 ^ 4:=bC (show M<9223372036854775808 by omega) (by decide)
  have e:i64.wrap (0 - (i64.wrap (n+(1:Int))))=(M:Int):=by
   rw[bU (z:=n+1) (by omega),bU];omega
  rw[a9 _ _ hn,e,ab,of4 (by omega),one_dk,G_dplus hM4 (by decide) (by decide) (by decide),ab,Ev (A:=M+1) (jV _) (fg (rQ (A:=M+1) (n:=5) (fg (show M+1≤65536 ^ 4 from hM4) (by decide))) (by decide)),ab]
  congr 2
  simp only[lT]
  omega
theorem GS {A:Nat}(h:A<LIM):sz6 A≤32:=rQ (by rw[←LIM6];exact h)
theorem G_num {A:Nat}(h:sz6 A≤1000)(neg:Bool):eU neg (dl A)=some (enc (bif neg then -(A:Int) else (A:Int))):=
 Ev (jV A) (fg h (by decide)) neg
theorem td {a:Int}(ha:a.natAbs<LIM):eh (enc a)=some (dl a.natAbs):=Vi (ml ha) ha
theorem Va {a:Int}(ha:a.natAbs<LIM):pE (enc a)=some (enc (a.natAbs:Int)):=by
 unfold pE
 rw[mi,bA ha,ab,ep,aP,td ha,ab,G_num (cg (GS ha) (by decide)),ab]
 rfl
theorem QO {a:Int}(ha:a.natAbs<LIM):nZ (enc a)=some a.sign:=by
 unfold nZ
 rw[mi,bA ha,ab,ep,aP,td ha,ab,ab,n3 ha]
 have hz:((dl a.natAbs).length:Int)=0↔a=0:=by
  rw[show ((dl a.natAbs).length:Int)=0↔(dl a.natAbs).length=0 from by omega,TJ];omega
 rcases M9 a 0 with h|h|h
 ·rw[a9 _ _ (by rw[hz];omega),ba _ _ h,M6 h]
 ·subst h;rw[ba _ _ (hz.2 rfl)];rfl
 ·rw[a9 _ _ (by rw[hz];omega),a9 _ _,DV h]
theorem fast2(p q:Prop)[Decidable p][Decidable q](a c:Int):(cnd (if p then (a,true) else (0,false):Int×Bool).2 (some (if q then (c,true) else (0,false):Int×Bool).2) (some false))=some (decide (p∧q)):=by
 by_cases hp:p <;> by_cases hq:q <;> simp[hp,hq,cnd]
theorem good2r(x y:ap):(bnd (S:=Bool) (bnd (dc x) fun qp=>cnd (!qp) (some (true)) (bnd (dc y) fun yY=>some (!yY))) fun b=>some b)=some (!(dA x&&dA y)):=by
 rw[mi,mi,ab,ab]
 cases dA x <;> cases dA y <;> rfl
theorem dig2(A:Nat):decide ((0:Int)<((dl A).length:Int))=decide (A≠0):=by
 refine p6.2 ?_
 have:=@TJ A
 omega
theorem Tt(n m:Int):∃r:Int,aL iz (n,m)=some r∧r.natAbs=Nat.gcd n.natAbs m.natAbs:=by
 induction hk:m.natAbs using Nat.strongRecOn generalizing n m with
 |_ k ih=>
  subst hk
  by_cases hm:m=0
  ·subst hm
   refine⟨n,eI (by dsimp only[iz];rw[a9 _ _ (fun h=>h rfl)]),?_⟩
   rw[Int.natAbs_zero,Iu]
  ·have h1:iz (n,m)=some (.inl (m,n.tmod m)):=by
    dsimp only[iz]
    rw[ba _ _ hm,aB hm]
   have e:=Int.natAbs_tmod n m
   obtain⟨r,h2,h3⟩:=ih (n.tmod m).natAbs (by rw[e];exact dM _ (by omega)) m (n.tmod m) rfl
   exact⟨r,(iq h1).trans h2,by rw[h3,e,←yw]⟩
theorem Tu(x y:Nat)(hx:sz6 x<800)(hy:sz6 y<800):aL iy (dl x,dl y)=some (dl (Nat.gcd x y)):=by
 induction y using Nat.strongRecOn generalizing x with
 |_ y ih=>
  by_cases h0:y=0
  ·subst h0
   rw[Iu]
   refine eI ?_
   dsimp only[iy]
   rw[dig2,a9 _ _ (fun h=>h rfl)]
  ·have h1:iy (dl x,dl y)=some (.inl (dl y,dl (x % y))):=by
    dsimp only[iy]
    rw[dig2,ba _ _ h0,Vh hx hy (by omega),ab]
   have bh:=dM x (show 0<y by omega)
   have hs:sz6 (x % y)<800:=fg (rQ (As bh (jV y))) hy
   rw[iq h1,ih (x % y) bh y hy hs,←yw]
theorem U8 {a c:Int}(ha:a.natAbs<LIM)(hc:c.natAbs<LIM):pD (enc a) (enc c)=some (enc (Nat.gcd a.natAbs c.natAbs:Nat)):=by
 have hgl:Nat.gcd a.natAbs c.natAbs<LIM:=by
  rcases rY a.natAbs with h|h
  ·rw[h,Nb];exact hc
  ·exact fg (Av _ h) ha
 unfold pD
 rw[U6 ha,U6 hc,ab,ab,fast2,ab,jj]
 by_cases hw:wB a∧wB c
 ·have h1:=hw.1.h
  have h2:=hw.2.h
  rw[an hw,an hw.1,an hw.2]
  dsimp only
  obtain⟨r,h3,h4⟩:=Tt a c
  have hr:r.natAbs<4611686018427387904:=by
   rw[h4]
   rcases rY a.natAbs with h|h
   ·rw[h,Nb];exact h2
   ·exact fg (Av _ h) h1
  rw[h3,ab,Po (by omega) (by omega),ab,Va (by rw[h4];exact hgl),ab,h4]
 ·have hg:=good2r (enc a) (enc c)
  rw[xe] at hg
  rw[az hw,hg,bA ha,bA hc,ab,iY,ep,aP,td ha,ab,td hc,ab,Tu _ _ (fg (GS ha) (by decide)) (fg (GS hc) (by decide)),ab,G_num (cg (GS hgl) (by decide)),ab]
  rfl
theorem R_one:pB=some (enc 1):=by
 unfold pB
 rw[Po (by decide) (by decide),ab]
theorem R_Good {x:ak}(hx:okR x):l5 x=some (cR x).isSome:=by
 rw[←lg hx]
 obtain⟨n,d⟩:=x
 obtain⟨h1,h2⟩:=hx
 dsimp only at h1 h2
 unfold l5 bq
 dsimp only
 rw[mi,mi,pj,pj,ab,ab,ab,ab]
 cases E5:dA n with
 |false=>rfl
 |true=>
  cases Ml:dA d with
  |false=>rfl
  |true=>
   obtain⟨n,hn,rfl⟩:=uM h1 E5
   obtain⟨d,hd,rfl⟩:=uM h2 Ml
   rw[QO hd,AC hd,U8 hn hd,Py hn hd,R_one,Pq]
   rfl
theorem TF {x:ak}{q:Rat}(h:cR x=some q):x=mJ q:=(fb.1 h).2
def Nu:={x:ak // okR x}
instance:DecidableEq Nu:=inferInstanceAs (DecidableEq {x:ak // okR x})
theorem okR0:okR (default:ak):=by
 have h:∀j:Nat,j<16→(default:ap).vW[j]! =0:=by
  intro j hj
  show (cy)[j]! =0
  rw[bK (cy) j hj,Vector.getElem_replicate]
 exact⟨fun j hj=>by show 0≤(default:ap).vW[j]!∧(default:ap).vW[j]! <4294967296;rw[h j hj];omega,fun j hj=>by show 0≤(default:ap).vW[j]!∧(default:ap).vW[j]! <4294967296;rw[h j hj];omega⟩
instance:Inhabited Nu:=⟨⟨default,okR0⟩⟩
def nuR(o:Option Rat):Nu:=⟨Ab o,tA o⟩
def decW(v:Vector Int 16):Nat:=fU 4294967296 (fun j=>(v[j]!).toNat) 16
def Fd(x:ap):Int:=if x.vNeg then -(decW x.vW:Int) else decW x.vW
theorem decW_W {A:Nat}(h:A<LIM):decW (W A)=A:=by
 refine TO (b:=4294967296) (n:=16) ?_ h fun j hj=>?_
 ·exact BF (by decide) _ fun j hj=>by
   rw[f8 hj]
   have:=@dgl A j
   omega
 ·unfold decW
  rw[HX (by decide) 16 (fun i hi=>by
   rw[f8 hi]
   have:=@dgl A i
   omega) j hj,f8 hj]
  omega
theorem Kw {z:Int}(h:z.natAbs<LIM):Fd (enc z)=z:=by
 rw[qK h]
 unfold Fd
 dsimp only
 rw[decW_W h]
 by_cases hz:z<0
 ·rw[an (ck hz)];omega
 ·rw[az (by simpa using hz)];omega
def zh(x:ak):Option Rat:=if n0 (Rat.divInt (Fd x.vN) (Fd x.vD))∧mJ (Rat.divInt (Fd x.vN) (Fd x.vD))=x then some (Rat.divInt (Fd x.vN) (Fd x.vD)) else none
theorem tq:zh=cR:=by
 funext x
 unfold zh
 cases h:cR x with
 |none=>exact az fun hh=>zf.1 h _ hh.1 hh.2.symm
 |some q=>
  obtain⟨h1,h2⟩:=fb.1 h
  have hn:Fd x.vN=q.num:=by rw[h2];exact Kw h1.1
  have hd:Fd x.vD=(q.den:Int):=by rw[h2];exact Kw (mg h1)
  rw[hn,hd,show Rat.divInt q.num q.den=q from by rw[M3];exact Rat.mkRat_self q,an ⟨h1,h2.symm⟩]
def ES(x y:Nu):Nu:=nuR (JH (zh x.1) (zh y.1))
def tD(x y:Nu):Nu:=nuR (Bo (zh x.1) (zh y.1))
def Bp(x y:Nu):Nu:=nuR (osub (zh x.1) (zh y.1))
def wO(x y:Nu):Nu:=nuR (JF (zh x.1) (zh y.1))
def He(x:Nu):Nu:=nuR (G7 (zh x.1))
def nOf(n:Int):Nu:=nuR (some (n:Rat))
def jo(x:Nu):Int:=osgn (zh x.1)
def aH(x:Nu):Bool:=(zh x.1).isSome
theorem xY(x y:Nu):ES x y=nuR (JH (cR x.1) (cR y.1)):=by unfold ES;rw[tq]
theorem xX(x y:Nu):tD x y=nuR (Bo (cR x.1) (cR y.1)):=by unfold tD;rw[tq]
theorem JQ(x y:Nu):Bp x y=nuR (osub (cR x.1) (cR y.1)):=by unfold Bp;rw[tq]
theorem JR(x y:Nu):wO x y=nuR (JF (cR x.1) (cR y.1)):=by unfold wO;rw[tq]
theorem xW(x:Nu):He x=nuR (G7 (cR x.1)):=by unfold He;rw[tq]
theorem zE(x:Nu):jo x=osgn (cR x.1):=by unfold jo;rw[tq]
theorem fx(x:Nu):aH x=(cR x.1).isSome:=by unfold aH;rw[tq]
def aO:Cd Nu:=⟨36,fun x=>aj.f x.1,fun x=>aj.h x.1⟩
theorem w_Mul(x y:Nu):ar prog 40 [dG aO x,dG aO y] (dG aO (tD x y)):=by rw[xX];exact nb (Nq x.2 y.2)
theorem w_Sub(x y:Nu):ar prog 146 [dG aO x,dG aO y] (dG aO (Bp x y)):=by rw[JQ];exact I9 (G_osub x.2 y.2)
theorem w_Div(x y:Nu):ar prog 144 [dG aO x,dG aO y] (dG aO (wO x y)):=by rw[JR];exact Ja (G_odiv x.2 y.2)
theorem Rh(x:Nu):ar prog 42 [dG aO x] (dI .i64 (jo x)):=by rw[zE];exact tp (Vc x.2)
theorem w_Good(x:Nu):ar prog 41 [dG aO x] (dB (aH x)):=by rw[fx];exact ez (lg x.2)
def nv(x:Nu):ak:=x.1
end
end Go.Proofs.YtgfcnncojhkcoaaGreat
