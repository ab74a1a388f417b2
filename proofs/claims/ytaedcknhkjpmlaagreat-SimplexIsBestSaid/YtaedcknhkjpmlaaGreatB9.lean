/-
  Lemmas, part 9. Conditions: none.
-/
import Derived.Test.YtaedcknhkjpmlaaGreatB8
import Derived.Test.YtaedcknhkjpmlaaGreatRows
import Derived.ProofKit
import Derived.OpenShut
import Derived.ChangeSame
import Derived.Deep.Slices
import Derived.JoinedCond
import Derived.SizedLaws
import Derived.Deep.CondSized
set_option linter.all false
set_option maxRecDepth 100000
set_option maxHeartbeats 4000000
namespace Go.Proofs.YtaedcknhkjpmlaaGreat
open Go.RowKit Go.IntKind Tryz Go.Proofs.Tryz
noncomputable section
theorem e1T:e1B=true:=by decide +kernel
theorem e2T:e2B=true:=by decide +kernel
theorem e3T:e3B=true:=by decide +kernel
theorem e4T:e4B=true:=by decide +kernel
theorem e5T:e5B=true:=by decide +kernel
theorem e6T:e6B=true:=by decide +kernel
theorem AS {R Cc:Int}{A B C:List Nu}{want:Ans}(hA:A.length≤1000000)(hB:B.length≤1000000)(hC:C.length≤1000000)(hl:Fw want)(h:(decide ((rL R Cc A B C 100).1=want)&&(decide ((rL R Cc A B C 100).2.2=0)&&decide (uU R Cc A B C (rL R Cc A B C 100).1=0)))=true):gv ⟨⟨R,Cc,A.map nv⟩,B.map nv,C.map nv⟩ (xV want)=some true:=by
 simp only[b8,r9] at h
 obtain⟨h1,h2,h3⟩:=h
 rw[h1] at h3
 unfold gv
 rw[Jy hA hB hC (by decide),ab]
 have e:(r7 (rL R Cc A B C 100)).1=xV want:=by rw[←h1];rfl
 have e2:(r7 (rL R Cc A B C 100)).2.2=0:=h2
 rw[e,e2,Ju hl,Pv hA hB hC hl,h3]
 simp only[ab,pK]
 simp
theorem xM {rows:Int}{a b c:List Int}(ha:a.length≤1000000)(hb:b.length≤1000000)(hc:c.length≤1000000)(h1:∀i,i<a.length→-1000≤a[i]!∧a[i]!≤1000)(h2:∀i,i<b.length→-1000≤b[i]!∧b[i]!≤1000)(h3:∀i,i<c.length→-1000≤c[i]!∧c[i]!≤1000):fy rows a b c=some ⟨⟨rows,(c.length:Int),(a.map nOf).map nv⟩,(b.map nOf).map nv,(c.map nOf).map nv⟩:=by
 unfold fy
 rw[vl ha h1,ab,vl hb h2,ab,vl hc h3,ab]
theorem sane:iK=some true:=by
 have p1:=xM (rows:=2) (a:=[1,2,3,1]) (b:=[4,6]) (c:=[1,1]) (by decide) (by decide) (by decide) (by decide) (by decide) (by decide)
 have p2:=xM (rows:=1) (a:=[1]) (b:=[-1]) (c:=[0]) (by decide) (by decide) (by decide) (by decide) (by decide) (by decide)
 have p3:=xM (rows:=1) (a:=[-1,1]) (b:=[1]) (c:=[1,0]) (by decide) (by decide) (by decide) (by decide) (by decide) (by decide)
 have p4:=xM (rows:=1) (a:=[-1]) (b:=[-2]) (c:=[-1]) (by decide) (by decide) (by decide) (by decide) (by decide) (by decide)
 have f1:=Fs (a:=8) (b:=6) (by decide) (by decide)
 have f2:=Fs (a:=2) (b:=1) (by decide) (by decide)
 have f3:=Fs (a:=2) (b:=2) (by decide) (by decide)
 have i1:=vl (l:=[1]) (by decide) (by decide)
 have i2:=vl (l:=[0,0]) (by decide) (by decide)
 have i3:=vl (l:=[1,0]) (by decide) (by decide)
 have i4:=vl (l:=[2]) (by decide) (by decide)
 have i5:=vl (l:=[1,1,1,-1]) (by decide) (by decide)
 have i6:=vl (l:=[1,3]) (by decide) (by decide)
 have s1:=AS (want:=⟨1,[fr 8 5,fr 6 5],[fr 2 5,fr 1 5],[]⟩) (R:=2) (Cc:=2) (by decide) (by decide) (by decide) (t7 rfl) e1T
 have s2:=AS (want:=⟨2,[],[1].map nOf,[]⟩) (R:=1) (Cc:=1) (by decide) (by decide) (by decide) (t7 rfl) e2T
 have s3:=AS (want:=⟨3,[0,0].map nOf,[],[1,0].map nOf⟩) (R:=1) (Cc:=2) (by decide) (by decide) (by decide) (t7 rfl) e3T
 have s4:=AS (want:=⟨1,[2].map nOf,[1].map nOf,[]⟩) (R:=1) (Cc:=1) (by decide) (by decide) (by decide) (t7 rfl) e4T
 have q1:=P_Equal (R:=2) (Cc:=2) (A:=[1,1,1,-1].map nOf) (B:=[1,3].map nOf) (most:=100) (by decide) (by decide) (by decide)
 have h5:=e5T
 unfold e5B at h5
 obtain⟨r,hr⟩:∃r,r=IR 2 2 ([1,1,1,-1].map nOf) ([1,3].map nOf) 100:=⟨_,rfl⟩
 rw[←hr] at q1 h5
 simp only[b8,r9] at h5
 obtain⟨hl,k2,k3,k4⟩:=h5
 have q2:=Jz (R:=2) (Cc:=2) (A:=[1,1,1,-1].map nOf) (B:=[1,3].map nOf) (a:=r.1) (by decide) (by decide) (t7 hl)
 rw[k4] at q2
 have q3:=Pv (R:=2) (Cc:=2) (A:=[1,2,3,1].map nOf) (B:=[4,6].map nOf) (C:=[1,1].map nOf) (a:=⟨1,[fr 8 5,fr 6 5],[fr 2 5,fr 2 5],[]⟩) (by decide) (by decide) (by decide) (t7 rfl)
 rw[show uU 2 2 ([1,2,3,1].map nOf) ([4,6].map nOf) ([1,1].map nOf) ⟨1,[fr 8 5,fr 6 5],[fr 2 5,fr 2 5],[]⟩=250 from bw e6T] at q3
 have z1:(r7 r).1=xV r.1:=rfl
 have z2:(r7 r).2.2=0:=k2
 have z3:(xV r.1).vKind=2:=k3
 unfold iK
 rw[p1,ab,f1,ab,f2,ab]
 refine (congrArg (fun o=>bnd o _) s1).trans ?_
 rw[ab,p2,ab,i1,ab]
 refine (congrArg (fun o=>bnd o _) s2).trans ?_
 rw[ab,p3,ab,i2,ab,i3,ab]
 refine (congrArg (fun o=>bnd o _) s3).trans ?_
 rw[ab,p4,ab,i4,ab]
 rw[ab]
 refine (congrArg (fun o=>bnd o _) s4).trans ?_
 rw[ab,i5,ab,i6,ab,q1,ab,z1,z2,z3,ab,q2]
 have dt:decide True=true:=rfl
 simp only[ab,cT,dt,f3]
 refine (congrArg (fun o=>bnd (bnd o _) _) q3).trans ?_
 rfl
section
theorem D9 {d:Dic}{w s:Nat}{z:Nu}(hI:Inv d w)(hs:s<w):∀{n:Nat} {p:Int×Nu},n≤d.rows.length→jm d.rows s z n=some p→
  ∀j,j<n→bD d.rows[j]!.c[s]! <0→∃i,i<n∧p.1=(i:Int)∧ar (oa d.rows[j]!.k (eZ d.rows[j]!.c[s]!))=true∧rv p.2≤rv (oa d.rows[j]!.k (eZ d.rows[j]!.c[s]!))∧(rv p.2=rv (oa d.rows[j]!.k (eZ d.rows[j]!.c[s]!))→d.rows[i]!.b≤d.rows[j]!.b)
 |0,p,_,h,j,hj,_=>by omega
 |n+1,p,hn,h,j,hj,oc=>by
  unfold jm at h
  cases hq:jm d.rows s z n with
  |none=>rw[hq] at h;cases h
  |some q=>
   rw[hq] at h
   have ih:=D9 hI hs (show n≤d.rows.length by omega) hq
   have sm:=px hq
   unfold rT at h
   dsimp only at h
   split at h
   ·rename_i h1
    injection h with h
    subst h
    rcases dX j n with tQ|tQ
    ·obtain⟨i,a1,a2⟩:=ih j tQ oc
     exact⟨i,by omega,a2⟩
    ·obtain rfl:j=n:=by omega
     omega
   ·rename_i h1
    split at h
    ·cases h
    ·rename_i h2
     have hqg:ar (oa d.rows[n]!.k (eZ d.rows[n]!.c[s]!))=true:=by simpa using h2
     split at h
     ·rename_i h3
      injection h with h
      subst h
      refine⟨n,by omega,rfl,?_⟩
      dsimp only
      rcases dX j n with tQ|tQ
      ·obtain⟨i,a1,a2,a3,a4,a5⟩:=ih j tQ oc
       rcases sm with e|⟨i',b1,b2,b3,b4,b5⟩
       ·omega
       obtain rfl:i=i':=by omega
       obtain⟨_,_,c3,c4⟩:=oI hqg b4
       refine⟨a3,?_⟩
       rcases h3 with h3|h3|⟨h3,h4⟩
       ·omega
       ·have:=c3.1 h3
        exact⟨by grind,fun e=>by grind⟩
       ·have e:=c4.1 h3
        rw[a2,show ((i:Int)).toNat=i by omega] at h4
        exact⟨by grind,fun e2=>by have:=a5 (by rw[←e];exact e2);omega⟩
      ·obtain rfl:j=n:=by omega
       exact⟨hqg,by grind,fun _=>zt _⟩
     ·rename_i h3
      injection h with h
      subst h
      rcases sm with e|⟨i',b1,b2,b3,b4,b5⟩
      ·exact absurd (.inl (by omega)) h3
      rcases dX j n with tQ|tQ
      ·obtain⟨i,a1,a2⟩:=ih j tQ oc
       exact⟨i,by omega,a2⟩
      ·obtain rfl:j=n:=by omega
       obtain⟨_,_,c3,c4⟩:=oI hqg b4
       have n1:¬rv (oa d.rows[j]!.k (eZ d.rows[j]!.c[s]!))<rv q.2:=fun e=>h3 (.inr (.inl (c3.2 e)))
       refine⟨i',by omega,b2,hqg,by grind,fun e=>?_⟩
       have n2:¬d.rows[j]!.b<d.rows[q.1.toNat]!.b:=fun e2=>h3 (.inr (.inr ⟨c4.2 e.symm,e2⟩))
       rw[b2,show ((i':Int)).toNat=i' by omega] at n2
       omega
def sy(d:Dic):Prop:=∀i,i<d.rows.length→0≤rv d.rows[i]!.k
structure Step(d d':Dic)(w:Nat)(i s:Nat):Prop where
 en:ku d.gc=some s
 lv:∃q:Nu,jm d.rows s default d.rows.length=some ((i:Int),q)
 good:gO d w i s
 eq:d'=gp d i s
def Bas(d:Dic)(t:Nat):Prop:=∃j,j<d.rows.length∧d.rows[j]!.b=(t:Int)
def m7(d:Dic)(t:Nat):Rat:=match d.rows.findIdx? fun r=>decide (r.b=(t:Int)) with|some i=>rv d.rows[i]!.k|none=>0
section
variable {d d':Dic} {w i s:Nat}
theorem Inv.bsol_row(hI:Inv d w){i:Nat}(hi:i<d.rows.length):m7 d d.rows[i]!.b.toNat=rv d.rows[i]!.k:=by
 have hr:=hI.rng i hi
 unfold m7
 have:(d.rows.findIdx? fun r=>decide (r.b=((d.rows[i]!.b.toNat:Nat):Int)))=some i:=by
  rw[oO]
  refine⟨hi,?_,fun j hj=>?_⟩
  ·have:d.rows[i].b=d.rows[i]!.b:=by rw[bL d.rows i hi]
   exact aA (by omega)
  ·have h2:d.rows[j].b=d.rows[j]!.b:=by rw[bL d.rows j (by omega)]
   have:=hI.inj i j hi (by omega)
   simp only[r9]
   omega
 rw[this]
theorem lz {t:Nat}(h:¬Bas d t):m7 d t=0:=by
 unfold m7
 have:(d.rows.findIdx? fun r=>decide (r.b=(t:Int)))=none:=by
  rw[u7]
  intro r hr
  obtain⟨j,hj,rfl⟩:=w5.1 hr
  refine a8 fun e=>h ⟨j,hj,?_⟩
  rw[bL d.rows j hj];exact e
 rw[this]
theorem JO {k:Nu}{c:List Nu}{y:Nat→Rat}(hs:s<w)(h:∀t,t<w→t≠s→y t=0∨c[t]! =nOf 0):bM w k c y=rv k+rv c[s]! *y s:=by
 unfold bM
 rw[az (g:=fun t=>if t=s then rv c[s]! *y s else 0) fun t ht=>?_,mc s _ w hs]
 by_cases rt:t=s
 ·rw[ai rt,rt]
 ·rw[ah rt]
  rcases h t ht rt with e|e
  ·rw[e];grind
  ·rw[e,of0.2];grind
theorem Inv.bas(hI:Inv d w){t:Nat}(h:Bas d t):t<w∧d.gc[t]! =nOf 0∧∀i,i<d.rows.length→d.rows[i]!.c[t]! =nOf 0:=by
 obtain⟨j,hj,e⟩:=h
 have hr:=hI.rng j hj
 have et:d.rows[j]!.b.toNat=t:=by omega
 have h1:=hI.zg j hj
 rw[et] at h1
 exact⟨by omega,h1,fun i hi=>by have:=hI.zr i j hi hj;rwa[et] at this⟩
theorem Inv.at(hI:Inv d w)(hs:s<w)(Ta:¬Bas d s){y:Nat→Rat}(hy:Sol d w y)(h0:∀t,t<w→¬Bas d t→t≠s→y t=0):(∀i,i<d.rows.length→y d.rows[i]!.b.toNat=rv d.rows[i]!.k+rv d.rows[i]!.c[s]! *y s)∧bM w d.gk d.gc y=rv d.gk+rv d.gc[s]! *y s:=by
 refine⟨fun i hi=>?_,?_⟩
 ·rw[hy i hi]
  refine JO hs fun t ht rt=>?_
  by_cases hb:Bas d t
  ·exact .inr ((hI.bas hb).2.2 i hi)
  ·exact .inl (h0 t ht hb rt)
 ·refine JO hs fun t ht rt=>?_
  by_cases hb:Bas d t
  ·exact .inr (hI.bas hb).2.1
  ·exact .inl (h0 t ht hb rt)
theorem Inv.uniq(hI:Inv d w){y:Nat→Rat}(hy:Sol d w y)(h0:∀t,t<w→¬Bas d t→y t=0):(∀t,t<w→y t=m7 d t)∧bM w d.gk d.gc y=rv d.gk:=by
 have hw:∀(k:Nu) (c:List Nu),(∀t,Bas d t→c[t]! =nOf 0)→bM w k c y=rv k:=fun k c hc=>by
  unfold bM
  rw[az (g:=fun _=>0) fun t ht=>?_,eR]
  ·grind
  ·by_cases hb:Bas d t
   ·rw[hc t hb,of0.2];grind
   ·rw[h0 t ht hb];grind
 refine⟨fun t ht=>?_,hw _ _ fun t hb=>(hI.bas hb).2.1⟩
 by_cases hb:Bas d t
 ·obtain⟨j,hj,e⟩:=hb
  have et:d.rows[j]!.b.toNat=t:=by omega
  rw[←et,hI.bsol_row hj,hy j hj]
  exact hw _ _ fun t hb=>(hI.bas hb).2.2 j hj
 ·rw[h0 t ht hb,lz hb]
theorem Inv.bsol(hI:Inv d w):Sol d w (m7 d):=by
 obtain⟨y,hy,hv⟩:=hI.pick fun _=>0
 have h0:∀t,t<w→¬Bas d t→y t=0:=fun t _ hb=>hv t fun j hj e=>hb ⟨j,hj,e⟩
 obtain⟨h1,_⟩:=hI.uniq hy h0
 intro i hi
 have hr:=hI.rng i hi
 rw[←h1 _ (by omega),hy i hi]
 unfold bM
 congr 1
 exact az fun t ht=>by rw[h1 t ht]
theorem Inv.bgoal(hI:Inv d w):bM w d.gk d.gc (Go.Proofs.YtaedcknhkjpmlaaGreat.m7 d)=rv d.gk:=(hI.uniq hI.bsol fun _ _ hb=>lz hb).2
structure CQ(d d':Dic)(w i s:Nat):Prop where
 hi:i<d.rows.length
 hs:s<w
 inv:Inv d w
 inv':Inv d' w
 gs:0<rv d.gc[s]!
 low:∀t,t<s→rv d.gc[t]!≤0
 cs:rv d.rows[i]!.c[s]! <0
 min:∀j,j<d.rows.length→rv d.rows[j]!.c[s]! <0→rv d.rows[i]!.k / -rv d.rows[i]!.c[s]!≤rv d.rows[j]!.k / -rv d.rows[j]!.c[s]!∧(rv d.rows[i]!.k / -rv d.rows[i]!.c[s]! =rv d.rows[j]!.k / -rv d.rows[j]!.c[s]!→d.rows[i]!.b≤d.rows[j]!.b)
 sol:∀y,Sol d' w y↔Sol d w y
 goal:∀y,Sol d w y→bM w d'.gk d'.gc y=bM w d.gk d.gc y
 ns:¬Bas d s
 len:d'.rows.length=d.rows.length
 bas:∀t,Bas d' t↔t=s∨(Bas d t∧d.rows[i]!.b≠(t:Int))
theorem Step.toF(h:Step d d' w i s):CQ d d' w i s:=by
 obtain⟨q,hl⟩:=h.lv
 have hG:=h.good
 have hI:=hG.inv
 obtain⟨h1,h2,h3⟩:=pJ h.en
 have OQ:=(bm.1 hI.fine.gg).2
 have hrg:∀j,j<d.rows.length→ar d.rows[j]!.c[s]! =true∧ar d.rows[j]!.k=true:=fun j hj=>⟨(bm.1 (hI.fine.gr j hj)).2 s (by rw[hI.fine.lr j hj];exact hG.hs),(bm.1 (hI.fine.gr j hj)).1⟩
 have hls:=px hl
 obtain⟨i',a1,a2,a3,a4,a5⟩:∃i',i'<d.rows.length∧(i:Int)=(i':Int)∧bD d.rows[i']!.c[s]! <0∧ar q=true∧q=oa d.rows[i']!.k (eZ d.rows[i']!.c[s]!):=by
  rcases hls with e|e
  ·dsimp only at e;omega
  ·exact e
 obtain rfl:i=i':=by omega
 have hq:rv q=rv d.rows[i]!.k / -rv d.rows[i]!.c[s]! :=by
  have a4':=a4
  rw[a5] at a4' ⊢
  rw[(ub a4').2.2.2,lW]
 have Ta:¬Bas d s:=fun⟨j,hj,e⟩=>hG.nb j hj e
 refine⟨a1,hG.hs,hI,by rw[h.eq];exact hG.toInv,(Kh (OQ s h1)).1 h2,fun t ht=>?_,(sU (hrg i a1).1).1 a3,fun j hj hc=>?_,fun y=>by rw[h.eq];exact hG.sol y,fun y hy=>by rw[h.eq];exact hG.goal hy,Ta,by rw[h.eq];exact d7,fun t=>?_⟩
 ·have h4:=h3 t ht
  have h5:=Kh (OQ t (by omega))
  grind
 ·obtain⟨i',b1,b2,b3,b4,b5⟩:=D9 hI hG.hs (ax _) hl j hj ((sU (hrg j hj).1).2 hc)
  obtain rfl:i=i':=by omega
  rw[(ub b3).2.2.2,lW,hq] at b4 b5
  exact⟨b4,b5⟩
 ·rw[h.eq]
  unfold Bas
  rw[d7]
  constructor
  ·rintro⟨j,hj,e⟩
   rw[pp hj] at e
   by_cases zF:j=i
   ·rw[ai zF] at e;exact .inl (by omega)
   ·rw[ah zF] at e
    exact .inr ⟨⟨j,hj,e⟩,fun e2=>zF (hI.inj j i hj a1 (by omega))⟩
  ·rintro (e|⟨⟨j,hj,e⟩,e2⟩)
   ·exact⟨i,a1,by rw[pp a1,ai rfl,e]⟩
   ·refine⟨j,hj,?_⟩
    rw[pp hj,ah (fun e3=>e2 (by rw[←e3];exact e))]
    exact e
theorem CQ.move(h:CQ d d' w i s):rv d'.gk=rv d.gk+rv d.gc[s]! *m7 d' s∧m7 d' s=rv d.rows[i]!.k / -rv d.rows[i]!.c[s]!∧∀j,j<d.rows.length→m7 d' d.rows[j]!.b.toNat=rv d.rows[j]!.k+rv d.rows[j]!.c[s]! *m7 d' s:=by
 have hy:=(h.sol (m7 d')).1 h.inv'.bsol
 have hr:=h.inv.rng i h.hi
 have h0:∀t,t<w→¬Bas d t→t≠s→m7 d' t=0:=fun t _ hb rt=>lz fun oZ=>by
  rcases (h.bas t).1 oZ with e|⟨e,_⟩
  ·exact rt e
  ·exact hb e
 obtain⟨h1,h2⟩:=h.inv.at h.hs h.ns hy h0
 have h3:=h.goal _ hy
 rw[h.inv'.bgoal,h2] at h3
 have h4:m7 d' d.rows[i]!.b.toNat=0:=lz fun oZ=>by
  rcases (h.bas _).1 oZ with e|⟨_,e⟩
  ·exact h.ns ⟨i,h.hi,by omega⟩
  ·exact e (by omega)
 have h5:=h1 i h.hi
 rw[h4] at h5
 have hc:=h.cs
 refine⟨h3,?_,h1⟩
 rw[iL]
 have:m7 d' s=(rv d.rows[i]!.k+rv d.rows[i]!.c[s]! *m7 d' s)*(-rv d.rows[i]!.c[s]!)⁻¹+m7 d' s:=by rw[←h5];grind
 grind
theorem CG {a b:Rat}(ha:0≤a)(hb:0<b):0≤a / b:=by
 rw[iL]
 have:0≤b⁻¹:=Rat.le_of_lt (Rat.inv_pos.2 hb)
 exact E0 ha this
theorem CQ.feas(h:CQ d d' w i s)(hf:sy d):sy d'∧rv d.gk≤rv d'.gk:=by
 obtain⟨m1,m2,m3⟩:=h.move
 have hc:=h.cs
 have hk:=hf i h.hi
 have hr0:0≤m7 d' s:=by rw[m2];exact CG hk (by grind)
 refine⟨fun j hj=>?_,?_⟩
 ·rw[h.len] at hj
  have Cw:j<d'.rows.length:=by rw[h.len];exact hj
  have hr:=h.inv'.rng j Cw
  rw[←h.inv'.bsol_row Cw]
  rcases (h.bas d'.rows[j]!.b.toNat).1 ⟨j,Cw,by omega⟩ with e|⟨⟨n,hn,e⟩,_⟩
  ·rw[e];exact hr0
  ·have FP:=h.inv.rng n hn
   have:d'.rows[j]!.b.toNat=d.rows[n]!.b.toNat:=by omega
   rw[this,m3 n hn]
   have xz:=hf n hn
   rcases (Rat.le_total:0≤rv d.rows[n]!.c[s]!∨rv d.rows[n]!.c[s]!≤0) with Dj|Dj
   ·have:=E0 Dj hr0;grind
   ·by_cases hz:rv d.rows[n]!.c[s]! =0
    ·rw[hz];grind
    ·have oc:rv d.rows[n]!.c[s]! <0:=by grind
     have hm:=(h.min n hn oc).1
     rw[←m2] at hm
     have h6:=Rat.mul_le_mul_of_nonneg_left hm (show 0≤-rv d.rows[n]!.c[s]! by grind)
     have h7:-rv d.rows[n]!.c[s]! *(rv d.rows[n]!.k / -rv d.rows[n]!.c[s]!)=rv d.rows[n]!.k:=by rw[iL];grind
     rw[h7] at h6
     grind
 ·have:=E0 (Rat.le_of_lt h.gs) hr0
  grind
end
end
section
theorem MB {a:Nat}{P:(b:Nat)→a≤b→Prop}(base:P a (ax a))(succ:∀(b:Nat) (h:a≤b),P b h→P (b+1) (Nat.le_succ_of_le h))(b:Nat)(h:a≤b):P b h:=by
 obtain⟨k,rfl⟩:=Nat.exists_eq_add_of_le h
 induction k with
 |zero=>exact base
 |succ k ih=>exact succ (a+k) (tg a k) (ih _)
theorem flip {f:Nat→Prop}{a b:Nat}(FX:a≤b)(ha:f a)(hb:¬f b):∃u,a≤u∧u<b∧f u∧¬f (u+1):=by
 induction b,FX using MB with
 |base=>exact absurd ha hb
 |succ n hn ih=>
  by_cases h:f n
  ·exact⟨n,hn,ek n,h,hb⟩
  ·obtain⟨u,h1,h2,h3⟩:=ih h
   exact⟨u,h1,by omega,h3⟩
theorem TO {f:Nat→Prop}{w:Nat}(h:∃t,t<w∧f t):∃t,t<w∧f t∧∀r,r<w→f r→r≤t:=by
 induction w with
 |zero=>obtain⟨t,ht,_⟩:=h;omega
 |succ n ih=>
  by_cases hn:f n
  ·exact⟨n,ek n,hn,fun r hr _=>by omega⟩
  ·obtain⟨t,ht,hf⟩:=h
   have:t≠n:=fun e=>hn (by rw[←e];exact hf)
   obtain⟨t',h1,h2,h3⟩:=ih ⟨t,by omega,hf⟩
   exact⟨t',by omega,h2,fun r hr OI=>by
    have:r≠n:=fun e=>hn (by rw[←e];exact OI)
    exact h3 r (by omega) OI⟩
section
variable {D:Nat→Dic} {I S:Nat→Nat} {w n:Nat}
structure xp(D:Nat→Dic)(I S:Nat→Nat)(w n:Nat):Prop where
 step:∀u,u<n→CQ (D u) (D (u+1)) w (I u) (S u)
 inv:∀u,u≤n→Inv (D u) w
 feas:sy (D 0)
theorem xp.sol(h:xp D I S w n):∀u,u≤n→∀y,Sol (D u) w y↔Sol (D 0) w y
 |0,_,_=>Iff.rfl
 |u+1,hu,y=>((h.step u (by omega)).sol y).trans (h.sol u (by omega) y)
theorem xp.goal(h:xp D I S w n):∀u,u≤n→∀y,Sol (D 0) w y→bM w (D u).gk (D u).gc y=bM w (D 0).gk (D 0).gc y
 |0,_,_,_=>rfl
 |u+1,hu,y,hy=>((h.step u (by omega)).goal y ((h.sol u (by omega) y).2 hy)).trans (h.goal u (by omega) y hy)
theorem xp.feas'(h:xp D I S w n):∀u,u≤n→sy (D u)
 |0,_=>h.feas
 |u+1,hu=>((h.step u (by omega)).feas (h.feas' u (by omega))).1
theorem xp.up(h:xp D I S w n){a:Nat}:∀b,a≤b→b≤n→rv (D a).gk≤rv (D b).gk:=by
 intro b FX
 induction b,FX using MB with
 |base=>intro _;grind
 |succ b _ ih=>
  intro hb
  have:=ih (by omega)
  have:=((h.step b (by omega)).feas (h.feas' b (by omega))).2
  grind
theorem xp.bland(h:xp D I S w n){a b:Nat}(FX:a<b)(hb:b≤n):¬∀t,Bas (D a) t↔Bas (D b) t:=by
 intro Am
 have hIa:=h.inv a (by omega)
 have hIb:=h.inv b hb
 -- rI goal is bM rI same
 have hyb:Sol (D a) w (m7 (D b)):=(h.sol a (by omega) _).2 ((h.sol b hb _).1 hIb.bsol)
 obtain⟨hu1,hu2⟩:=hIa.uniq hyb fun t _ hn=>lz fun e=>hn ((Am t).2 e)
 have hz:rv (D a).gk=rv (D b).gk:=by
  rw[←hu2,h.goal a (by omega) _ ((h.sol b hb _).1 hIb.bsol),←h.goal b hb _ ((h.sol b hb _).1 hIb.bsol),hIb.bgoal]
 have hzz:∀u,a≤u→u≤b→rv (D u).gk=rv (D a).gk:=fun u h1 h2=>by
  have e1:=h.up (a:=a) u h1 (by omega)
  have e2:=h.up (a:=u) b h2 hb
  grind
 -- nothing moves
 have hmv:∀u,a≤u→u<b→m7 (D (u+1)) (S u)=0∧∀t,t<w→m7 (D (u+1)) t=m7 (D u) t:=fun u h1 h2=>by
  have hs:=h.step u (by omega)
  obtain⟨m1,m2,m3⟩:=hs.move
  rw[hzz (u+1) (by omega) (by omega),hzz u h1 (by omega)] at m1
  have hg:=hs.gs
  have h0:m7 (D (u+1)) (S u)=0:=by
   have:rv (D u).gc[S u]! *m7 (D (u+1)) (S u)=0:=by grind
   rcases BY.1 this with e|e
   ·grind
   ·exact e
  refine⟨h0,fun t ht=>?_⟩
  refine ((h.inv u (by omega)).uniq ((hs.sol _).1 (h.inv (u+1) (by omega)).bsol) fun r hr hn=>?_).1 t ht
  by_cases FM:r=S u
  ·rw[FM];exact h0
  ·exact lz fun e=>by
    rcases (hs.bas r).1 e with e|⟨e,_⟩
    ·exact FM e
    ·exact hn e
 have hbs:∀u,a≤u→u≤b→∀t,t<w→m7 (D u) t=m7 (D a) t:=by
  intro u h1
  induction u,h1 using MB with
  |base=>intro _ _ _;rfl
  |succ u h1 ih=>
   intro h2 t ht
   rw[(hmv u h1 (by omega)).2 t ht]
   exact ih (by omega) t ht
 -- rI variables that come and go
 let TZ:Nat→Prop:=fun t=>(∃u,a≤u∧u≤b∧Bas (D u) t)∧∃u,a≤u∧u≤b∧¬Bas (D u) t
 have hf0:∀t,t<w→TZ t→m7 (D a) t=0:=fun t ht hf=>by
  obtain⟨_,u,h1,h2,h3⟩:=hf
  rw[←hbs u h1 h2 t ht];exact lz h3
 have hex:∃t,t<w∧TZ t:=by
  have hs:=h.step a (by omega)
  exact⟨S a,hs.hs,⟨a+1,by omega,by omega,(hs.bas _).2 (.inl rfl)⟩,⟨a,ax _,by omega,hs.ns⟩⟩
 obtain⟨t,Iy,⟨⟨p,p1,p2,p3⟩,q,q1,q2,q3⟩,hmax⟩:=TO hex
 -- where it leaves,and where it enters
 have hl:∃u,a≤u∧u<b∧Bas (D u) t∧¬Bas (D (u+1)) t:=by
  by_cases hba:Bas (D a) t
  ·obtain⟨u,h1,h2,h3⟩:=flip (f:=fun u=>Bas (D u) t) q1 hba q3
   exact⟨u,h1,by omega,h3⟩
  ·have hbb:¬Bas (D b) t:=fun e=>hba ((Am t).2 e)
   obtain⟨u,h1,h2,h3⟩:=flip (f:=fun u=>Bas (D u) t) p2 p3 hbb
   exact⟨u,by omega,h2,h3⟩
 have hen:∃v,a≤v∧v<b∧¬Bas (D v) t∧Bas (D (v+1)) t:=by
  by_cases hba:Bas (D a) t
  ·have hbb:Bas (D b) t:=(Am t).1 hba
   obtain⟨u,h1,h2,h3,h4⟩:=flip (f:=fun u=>¬Bas (D u) t) q2 q3 (fun e=>e hbb)
   exact⟨u,by omega,h2,h3,BX.1 h4⟩
  ·obtain⟨u,h1,h2,h3,h4⟩:=flip (f:=fun u=>¬Bas (D u) t) p1 hba (fun e=>e p3)
   exact⟨u,h1,by omega,h3,BX.1 h4⟩
 obtain⟨u,u1,u2,u3,u4⟩:=hl
 obtain⟨v,v1,v2,v3,v4⟩:=hen
 have MJ:=h.step u (by omega)
 have hsv:=h.step v (by omega)
 have hIu:=h.inv u (by omega)
 have hIv:=h.inv v (by omega)
 have hsvt:S v=t:=by
  rcases (hsv.bas t).1 v4 with e|⟨e,_⟩
  ·exact e.symm
  ·exact absurd e v3
 have Iz:(D u).rows[I u]!.b=(t:Int):=by
  apply EZ
  intro e
  exact u4 ((MJ.bas t).2 (.inr ⟨u3,e⟩))
 have hsf:TZ (S u):=⟨⟨u+1,by omega,by omega,(MJ.bas _).2 (.inl rfl)⟩,⟨u,u1,by omega,MJ.ns⟩⟩
 have Hc:S u<t:=by
  have:=hmax (S u) MJ.hs hsf
  have:S u≠t:=fun e=>MJ.ns (by rw[e];exact u3)
  omega
 have mF:∀r,r<t→rv (D v).gc[r]!≤0:=fun r hr=>hsv.low r (by rw[hsvt];exact hr)
 have hgt:0<rv (D v).gc[t]! :=by have:=hsv.gs;rwa[hsvt] at this
 -- rI numbers that fit D u with rI entering variable free
 have hline:∀l:Rat,∃y,Sol (D u) w y∧y (S u)=l∧∀r,r<w→¬Bas (D u) r→r≠S u→y r=0:=fun l=>by
  obtain⟨y,hy,hv⟩:=hIu.pick fun r=>if r=S u then l else 0
  refine⟨y,hy,?_,fun r hr hb FM=>?_⟩
  ·rw[hv (S u) fun j hj e=>MJ.ns ⟨j,hj,e⟩,ai rfl]
  ·rw[hv r fun j hj e=>hb ⟨j,hj,e⟩,ah FM]
 obtain⟨y0,a1,a2,a3⟩:=hline 0
 obtain⟨y1,b1,b2,b3⟩:=hline 1
 obtain⟨c1,c2⟩:=hIu.at MJ.hs MJ.ns a1 a3
 obtain⟨d1,d2⟩:=hIu.at MJ.hs MJ.ns b1 b3
 have g0:bM w (D v).gk (D v).gc y0=rv (D u).gk:=by
  rw[h.goal v (by omega) _ ((h.sol u (by omega) _).1 a1),←h.goal u (by omega) _ ((h.sol u (by omega) _).1 a1),c2,a2];grind
 have g1:bM w (D v).gk (D v).gc y1=rv (D u).gk+rv (D u).gc[S u]! :=by
  rw[h.goal v (by omega) _ ((h.sol u (by omega) _).1 b1),←h.goal u (by omega) _ ((h.sol u (by omega) _).1 b1),d2,b2];grind
 have OT:aN w (fun r=>rv (D v).gc[r]! *(y1 r - y0 r))=rv (D u).gc[S u]! :=by
  have:(fun r=>rv (D v).gc[r]! *(y1 r - y0 r))=fun r=>rv (D v).gc[r]! *y1 r - rv (D v).gc[r]! *y0 r:=by funext r;grind
  rw[this,zY (fun r=>rv (D v).gc[r]! *y1 r) (fun r=>rv (D v).gc[r]! *y0 r)]
  unfold bM at g0 g1
  grind
 -- a term is positive
 have hpos:∃r,r<w∧0<rv (D v).gc[r]! *(y1 r - y0 r):=by
  apply EZ
  intro MP
  have:aN w (fun r=>rv (D v).gc[r]! *(y1 r - y0 r))≤aN w (fun _=>0):=H3 fun r hr=>by
   have:¬0<rv (D v).gc[r]! *(y1 r - y0 r):=fun e=>MP ⟨r,hr,e⟩
   grind
  rw[OT,eR] at this
  have:=MJ.gs
  grind
 obtain⟨r,hrw,hr⟩:=hpos
 have hrne:r≠S u:=fun e=>by
  rw[e,b2,a2] at hr
  have:=mF (S u) Hc
  grind
 have hrb:Bas (D u) r:=by
  apply EZ
  intro e
  rw[a3 r hrw e hrne,b3 r hrw e hrne] at hr
  grind
 have hgr0:rv (D v).gc[r]!≠0:=fun e=>by rw[e] at hr;grind
 have hrnv:¬Bas (D v) r:=fun e=>hgr0 (by rw[(hIv.bas e).2.1];exact of0.2)
 have hrf:TZ r:=⟨⟨u,u1,by omega,hrb⟩,⟨v,v1,by omega,hrnv⟩⟩
 obtain⟨j,hj,hjb⟩:=hrb
 have hjr:(D u).rows[j]!.b.toNat=r:=by omega
 have hd:y1 r - y0 r=rv (D u).rows[j]!.c[S u]! :=by
  have e1:=d1 j hj
  have e0:=c1 j hj
  rw[hjr,b2] at e1
  rw[hjr,a2] at e0
  grind
 rw[hd] at hr
 have hcI:=MJ.cs
 have hrt:r≠t:=fun e=>by
  have:j=I u:=hIu.inj j (I u) hj MJ.hi (by rw[hjb,Iz,e])
  rw[this,e] at hr
  have:=Rat.mul_pos hgt (show 0< -rv (D u).rows[I u]!.c[S u]! by grind)
  grind
 have hrlt:r<t:=by have:=hmax r hrw hrf;omega
 have hgneg:rv (D v).gc[r]! <0:=by have:=mF r hrlt;grind
 have hcneg:rv (D u).rows[j]!.c[S u]! <0:=by
  apply EZ
  intro e
  have:=E0 (show 0≤-rv (D v).gc[r]! by grind) (show 0≤rv (D u).rows[j]!.c[S u]! by grind)
  grind
 -- both rows have rI constant 0
 have hk:∀(i:Nat) (x:Nat),i<(D u).rows.length→(D u).rows[i]!.b=(x:Int)→x<w→TZ x→rv (D u).rows[i]!.k=0:=fun i x hi e hx hf=>by
  rw[←hIu.bsol_row hi,show (D u).rows[i]!.b.toNat=x by omega,hbs u u1 (by omega) x hx]
  exact hf0 x hx hf
 have k1:=hk j r hj hjb hrw hrf
 have k2:=hk (I u) t MJ.hi Iz Iy ⟨⟨p,p1,p2,p3⟩,q,q1,q2,q3⟩
 have Ei:=(MJ.min j hj hcneg).2
 rw[k1,k2,iL,iL] at Ei
 have:=Ei (by grind)
 rw[Iz,hjb] at this
 omega
end
end
abbrev Col:=Nat→Rat
def sgd(j:Nat):Rat:=if j % 2=0 then 1 else -1
theorem RP(j:Nat):sgd (j+1)=-sgd j:=by
 unfold sgd
 by_cases h:j % 2=0
 ·rw[ai h,ah (by omega)]
 ·rw[ah h,ai (by omega)];grind
def skip(j i:Nat):Nat:=if i<j then i else i+1
def kL(f:Nat→Col)(j:Nat):Nat→Col:=fun c r=>f (skip j c) (r+1)
def det:Nat→(Nat→Col)→Rat
 |0,_=>1
 |n+1,f=>aN (n+1) fun j=>sgd j*(f j 0*det n (kL f j))
def fj(f:Nat→Col)(a:Nat)(u:Col):Nat→Col:=fun c=>if c=a then u else f c
theorem ud:∀{n:Nat} {f g:Nat→Col},(∀c,c<n→∀r,r<n→f c r=g c r)→det n f=det n g
 |0,_,_,_=>rfl
 |n+1,f,g,h=>by
  unfold det
  refine az fun j hj=>?_
  rw[h j hj 0 (by omega),ud (f:=kL f j) (g:=kL g j) fun c hc r hr=>?_]
  unfold kL skip
  split
  ·exact h _ (by omega) _ (by omega)
  ·exact h _ (by omega) _ (by omega)
def place(j a:Nat):Nat:=if a<j then a else a - 1
theorem Mg {j a:Nat}(h:j≠a):skip j (place j a)=a:=by
 unfold skip place
 by_cases h1:a<j
 ·rw[ai h1,ai h1]
 ·rw[ah h1,ah (by omega)];omega
theorem Oi {j a c:Nat}(h:j≠a):skip j c=a↔c=place j a:=by unfold skip place;split <;> split <;> omega
theorem skip_ne(j c:Nat):skip j c≠j:=by unfold skip;split <;> omega
theorem Sb {n j a:Nat}(hj:j<n+1)(ha:a<n+1)(h:j≠a):place j a<n:=by unfold place;split <;> omega
theorem Bu(f:Nat→Col){j a:Nat}(h:j≠a)(u:Col):kL (fj f a u) j=fj (kL f j) (place j a) fun r=>u (r+1):=by
 funext c r
 unfold kL fj
 by_cases hc:c=place j a
 ·rw[ai ((Oi h).2 hc),ai hc]
 ·rw[ah (fun e=>hc ((Oi h).1 e)),ah hc]
theorem rP(f:Nat→Col)(a:Nat)(u:Col):kL (fj f a u) a=kL f a:=by
 funext c r
 unfold kL fj
 rw[ah (skip_ne a c)]
theorem Ax(x:Rat):∀{n:Nat} (f:Nat→Col) (a:Nat) (u v:Col),a<n→det n (fj f a fun r=>x*u r+v r)=x*det n (fj f a u)+det n (fj f a v)
 |0,_,a,_,_,h=>by omega
 |n+1,f,a,u,v,h=>by
  unfold det
  rw[←g5,←lm (fun j=>x*(sgd j*(fj f a u j 0*det n (kL (fj f a u) j)))) (fun j=>sgd j*(fj f a v j 0*det n (kL (fj f a v) j)))]
  refine az fun j hj=>?_
  by_cases sF:j=a
  ·subst sF
   rw[rP,rP,rP]
   unfold fj
   rw[ai rfl,ai rfl,ai rfl]
   grind
  ·rw[Bu f sF,Bu f sF,Bu f sF]
   have:=Ax x (kL f j) (place j a) (fun r=>u (r+1)) (fun r=>v (r+1)) (Sb hj h sF)
   rw[this]
   unfold fj
   rw[ah sF,ah sF,ah sF]
   grind
theorem RF {f:Nat→Rat}{a:Nat}:∀{n:Nat},a+1<n→(∀j,j<n→j≠a→j≠a+1→f j=0)→aN n f=f a+f (a+1):=by
 intro n h h0
 have e:aN n f=aN n fun j=>(if j=a then f a else 0)+(if j=a+1 then f (a+1) else 0):=az fun j hj=>by
  by_cases h1:j=a
  ·subst h1;rw[ai rfl,ah (by omega)];grind
  ·by_cases h2:j=a+1
   ·subst h2;rw[ah (by omega),ai rfl];grind
   ·rw[ah h1,ah h2,h0 j hj h1 h2];grind
 rw[e,lm (fun j=>if j=a then f a else 0) (fun j=>if j=a+1 then f (a+1) else 0),mc a _ n (by omega),mc (a+1) _ n h]
theorem IU:∀{n:Nat} (f:Nat→Col) (a:Nat),a+1<n→(∀r,f a r=f (a+1) r)→det n f=0
 |0,_,a,h,_=>by omega
 |n+1,f,a,h,he=>by
  unfold det
  rw[RF h fun j hj h1 h2=>?_]
  ·have:kL f a=kL f (a+1):=by
    funext c r
    unfold kL skip
    by_cases hc:c=a
    ·subst hc
     rw[ah (by omega),ai (by omega)]
     exact (he _).symm
    ·by_cases q8:c<a
     ·rw[ai q8,ai (by omega)]
     ·rw[ah q8,ah (by omega)]
   rw[this,he 0,RP]
   grind
  ·rw[IU (kL f j) (place j a) ?_ fun r=>?_]
   ·grind
   ·unfold place;split <;> omega
   ·have e1:skip j (place j a)=a:=Mg h1
    have e2:skip j (place j a+1)=a+1:=by unfold skip place;split <;> split <;> omega
    unfold kL
    rw[e1,e2]
    exact he _
theorem A8(f:Nat→Col){a b:Nat}(h:a≠b)(u v:Col):fj (fj f a u) b v=fj (fj f b v) a u:=by
 funext c
 unfold fj
 by_cases h1:c=a <;> by_cases h2:c=b <;> simp[h1,h2,h] <;> (try omega)
theorem Ud {n:Nat}(f:Nat→Col)(a:Nat)(h:a+1<n)(u v:Col):det n (fj (fj f a u) (a+1) v)=-det n (fj (fj f a v) (a+1) u):=by
 have z:∀t:Col,det n (fj (fj f a t) (a+1) t)=0:=fun t=>IU _ a h fun r=>by
  unfold fj
  rw[ah (by omega),ai rfl,ai rfl]
 have h0:=z fun r=>1*u r+v r
 have l1:∀t:Col,det n (fj (fj f a t) (a+1) fun r=>1*u r+v r)=1*det n (fj (fj f a t) (a+1) u)+det n (fj (fj f a t) (a+1) v):=fun t=>Ax 1 _ _ _ _ h
 have l2:∀t:Col,det n (fj (fj f a fun r=>1*u r+v r) (a+1) t)=1*det n (fj (fj f a u) (a+1) t)+det n (fj (fj f a v) (a+1) t):=fun t=>by
  have ne:a≠a+1:=by omega
  rw[A8 f ne _ t,A8 f ne _ t,A8 f ne _ t]
  exact Ax 1 _ _ _ _ (by omega)
 rw[l1,l2,l2,z,z] at h0
 grind
theorem A7(f:Nat→Col)(a:Nat):fj f a (f a)=f:=by
 funext c
 unfold fj
 split
 ·rename_i h;rw[h]
 ·rfl
theorem EC {n:Nat}:∀(k:Nat) (f:Nat→Col) (a:Nat),a+1+k<n→(∀r,f a r=f (a+1+k) r)→det n f=0
 |0,f,a,h,he=>IU f a h he
 |k+1,f,a,h,he=>by
  have e:f=fj (fj f (a+1+k) (f (a+1+k))) (a+1+k+1) (f (a+1+k+1)):=by
   rw[A7]
   exact (A7 f _).symm
  rw[e,Ud f (a+1+k) (by omega),EC k _ a (by omega) fun r=>?_]
  ·grind
  ·unfold fj
   rw[ah (by omega),ah (by omega),ah (by omega),ai rfl]
   exact he r
theorem det_eq0 {n:Nat}(f:Nat→Col){a b:Nat}(ha:a<n)(hb:b<n)(FX:a≠b)(he:∀r,f a r=f b r):det n f=0:=by
 rcases dX a b with h|h
 ·exact EC (b - a - 1) f a (by omega) fun r=>by rw[show a+1+(b - a - 1)=b by omega];exact he r
 ·exact EC (a - b - 1) f b (by omega) fun r=>by rw[show b+1+(a - b - 1)=a by omega];exact (he r).symm
theorem Uc {n:Nat}(f:Nat→Col){a:Nat}(ha:a<n):det n (fj f a fun _=>0)=0:=by
 have:=Ax 1 f a (fun _=>0) (fun _=>0) ha
 have e:(fun r:Nat=>(1:Rat)*(fun _=>(0:Rat)) r+(fun _=>(0:Rat)) r)=fun _=>0:=by funext r;grind
 rw[e] at this
 grind
theorem O8 {n:Nat}(f:Nat→Col){a:Nat}(ha:a<n)(x:Nat→Rat)(g:Nat→Col):∀m,det n (fj f a fun r=>aN m fun i=>x i*g i r)=aN m fun i=>x i*det n (fj f a (g i))
 |0=>Uc f ha
 |m+1=>by
  have e:(fun r=>aN (m+1) fun i=>x i*g i r)=fun r=>x m*g m r+aN m fun i=>x i*g i r:=by
   funext r
   show aN m (fun i=>x i*g i r)+x m*g m r=_
   grind
  rw[e,Ax (x m) f a (g m) (fun r=>aN m fun i=>x i*g i r) ha,O8 f ha x g m]
  show _=aN m (fun i=>x i*det n (fj f a (g i)))+x m*det n (fj f a (g m))
  grind
theorem Nc {n:Nat}(f:Nat→Col){j:Nat}(hj:j<n)(x:Nat→Rat)(v:Col)(h:∀r,r<n→v r=aN n fun i=>x i*f i r):det n (fj f j v)=x j*det n f:=by
 rw[ud (g:=fj f j fun r=>aN n fun i=>x i*f i r) fun c hc r hr=>?_,O8 f hj x f n]
 ·rw[az (g:=fun i=>if i=j then x j*det n f else 0) fun i hi=>?_,mc j _ n hj]
  by_cases Cy:i=j
  ·subst Cy;rw[ai rfl,A7]
  ·rw[ah Cy,det_eq0 (fj f j (f i)) (a:=i) (b:=j) hi hj Cy fun r=>by unfold fj;rw[ah Cy,ai rfl]]
   grind
 ·unfold fj
  split
  ·exact h r hr
  ·rfl
def IsI(x:Rat)(K:Nat):Prop:=∃z:Int,x=(z:Rat)∧z.natAbs≤K
theorem IsI.mono {x:Rat}{K L:Nat}(h:IsI x K)(hl:K≤L):IsI x L:=by obtain⟨z,h1,h2⟩:=h;exact⟨z,h1,by omega⟩
theorem IsI.add {x y:Rat}{K L:Nat}(hx:IsI x K)(hy:IsI y L):IsI (x+y) (K+L):=by
 obtain⟨a,rfl,h1⟩:=hx
 obtain⟨b,rfl,h2⟩:=hy
 exact⟨a+b,by rw[Rat.intCast_add],by have:=Int.natAbs_add_le a b;omega⟩
theorem IsI.mul {x y:Rat}{K L:Nat}(hx:IsI x K)(hy:IsI y L):IsI (x*y) (K*L):=by
 obtain⟨a,rfl,h1⟩:=hx
 obtain⟨b,rfl,h2⟩:=hy
 exact⟨a*b,by rw[Rat.intCast_mul],by rw[oP];exact kD h1 h2⟩
theorem IsI.neg {x:Rat}{K:Nat}(hx:IsI x K):IsI (-x) K:=by
 obtain⟨a,rfl,h1⟩:=hx
 exact⟨-a,by rw[Rat.intCast_neg],by omega⟩
theorem IsI.zero(K:Nat):IsI 0 K:=⟨0,rfl,by simp⟩
theorem IsI.one {K:Nat}(h:0<K):IsI 1 K:=⟨1,rfl,h⟩
theorem IsI.sum {f:Nat→Rat}{K:Nat}:∀{n:Nat},(∀i,i<n→IsI (f i) K)→IsI (aN n f) (n*K)
 |0,_=>IsI.zero _
 |n+1,h=>by
  have:=(IsI.sum (f:=f) (n:=n) fun i hi=>h i (by omega)).add (h n (by omega))
  exact this.mono (by rw[bX];omega)
theorem IsI.sgd(j:Nat):IsI (sgd j) 1:=by
 unfold Go.Proofs.YtaedcknhkjpmlaaGreat.sgd
 split
 ·exact⟨1,rfl,by decide⟩
 ·exact⟨-1,rfl,by decide⟩
def BP:Nat→Nat
 |0=>1
 |n+1=>(n+1)*BP n
theorem IT {K:Nat}:∀{n:Nat} {f:Nat→Col},(∀c,c<n→∀r,r<n→IsI (f c r) K)→IsI (det n f) (BP n*K ^ n)
 |0,_,_=>⟨1,rfl,by simp[BP]⟩
 |n+1,f,h=>by
  unfold det
  refine (IsI.sum (K:=K*(BP n*K ^ n)) fun j hj=>?_).mono ?_
  ·have h1:=IT (n:=n) (f:=kL f j) fun c hc r hr=>by
    unfold kL skip
    split
    ·exact h _ (by omega) _ (by omega)
    ·exact h _ (by omega) _ (by omega)
   exact ((IsI.sgd j).mul ((h j hj 0 (by omega)).mul h1)).mono (by rw[e8];exact ax _)
  ·rw[show BP (n+1)=(n+1)*BP n from rfl,cz]
   refine Nat.le_of_eq ?_
   rw[xa K,bx K (K ^ n),e7]
section
structure QD where
 b:Nat→Nat
 k:Nat→Rat
 c:Nat→Nat→Rat
def QD.turn(q:QD)(at' s t:Nat):Rat:=if t=q.b at' then 1 / q.c at' s else if t=s then 0 else -q.c at' t / q.c at' s
def QD.piv(q:QD)(at' s:Nat):QD:=
  ⟨fun i=>if i=at' then s else q.b i,fun i=>if i=at' then -q.k at' / q.c at' s else q.k i+q.c i s*(-q.k at' / q.c at' s),
   fun i t=>if i=at' then q.turn at' s t else if t=s then 0 else q.c i t+q.c i s*q.turn at' s t⟩
structure VI(M:Nat→Col)(k0:Col)(q:QD)(m w:Nat):Prop where
 k:∀r,r<m→k0 r=aN m fun i=>q.k i*M (q.b i) r
 c:∀t,t<w→(∀j,j<m→q.b j≠t)→∀r,r<m→-M t r=aN m fun i=>q.c i t*M (q.b i) r
 nz:det m (fun i=>M (q.b i))≠0
structure QOk(q:QD)(m w:Nat):Prop where
 z:∀i j,i<m→j<m→q.c i (q.b j)=0
 inj:∀i j,i<m→j<m→q.b i=q.b j→i=j
theorem Oe {f:Nat→Rat}{m a:Nat}(h:a<m):aN m (fun i=>if i=a then 0 else f i)=aN m f - f a:=by
 rw[wC f a 0 h];grind
section
variable {M:Nat→Col} {k0:Col} {q:QD} {m w at' s:Nat}
theorem VI.piv(h:VI M k0 q m w)(ho:QOk q m w)(hat:at'<m)(hs:s<w)(tP:∀j,j<m→q.b j≠s)(hp:q.c at' s≠0):VI M k0 (q.piv at' s) m w:=by
 have hS:∀r,r<m→aN m (fun i=>if i=at' then 0 else q.c i s*M (q.b i) r)=-M s r - q.c at' s*M (q.b at') r:=fun r hr=>by
  rw[Oe (f:=fun i=>q.c i s*M (q.b i) r) hat,←h.c s hs tP r hr]
 -- any line of rI new dictionary
 have key:∀(x:Rat) (f:Nat→Rat) (r:Nat),r<m→aN m (fun i=>(if i=at' then x else f i+q.c i s*x)*M (if i=at' then s else q.b i) r)=aN m (fun i=>f i*M (q.b i) r) - f at'*M (q.b at') r - x*(q.c at' s*M (q.b at') r):=fun x f r hr=>by
  have e:∀i,i<m→(if i=at' then x else f i+q.c i s*x)*M (if i=at' then s else q.b i) r=(if i=at' then x*M s r else 0)+((if i=at' then 0 else f i*M (q.b i) r)+x*(if i=at' then 0 else q.c i s*M (q.b i) r)):=fun i _=>by
   by_cases hi:i=at'
   ·rw[ai hi,ai hi,ai hi,ai hi,ai hi];grind
   ·rw[ah hi,ah hi,ah hi,ah hi,ah hi];grind
  rw[az e,lm (fun i=>if i=at' then x*M s r else 0) (fun i=>(if i=at' then 0 else f i*M (q.b i) r)+x*(if i=at' then 0 else q.c i s*M (q.b i) r)),mc at' _ m hat,
   lm (fun i=>if i=at' then 0 else f i*M (q.b i) r) (fun i=>x*(if i=at' then 0 else q.c i s*M (q.b i) r)),g5,hS r hr,Oe (f:=fun i=>f i*M (q.b i) r) hat]
  grind
 refine⟨fun r hr=>?_,fun t ht Q9 r hr=>?_,?_⟩
 ·have:=key (-q.k at' / q.c at' s) q.k r hr
  refine bB ?_ this.symm
  rw[←h.k r hr,iL]
  have:q.c at' s*(q.c at' s)⁻¹=1:=w3 _ hp
  grind
 ·have rt:t≠s:=fun e=>Q9 at' hat (by show (if at'=at' then s else _)=t;rw[ai rfl,e])
  have e1:(fun i=>(q.piv at' s).c i t*M ((q.piv at' s).b i) r)=fun i=>(if i=at' then q.turn at' s t else q.c i t+q.c i s*q.turn at' s t)*M (if i=at' then s else q.b i) r:=by
   funext i
   show (if i=at' then q.turn at' s t else if t=s then 0 else q.c i t+q.c i s*q.turn at' s t)*_=_
   rw[ah rt];rfl
  rw[e1,key (q.turn at' s t) (fun i=>q.c i t) r hr]
  have hc:q.c at' s*(q.c at' s)⁻¹=1:=w3 _ hp
  by_cases hb:t=q.b at'
  ·have hz:aN m (fun i=>q.c i t*M (q.b i) r)=0:=by
    rw[az (g:=fun _=>0) fun i hi=>by rw[hb,ho.z i at' hi hat];grind,eR]
   rw[hz]
   unfold QD.turn
   rw[ai hb,iL,hb,ho.z at' at' hat hat]
   grind
  ·have hold:∀j,j<m→q.b j≠t:=fun j hj e=>by
    by_cases sF:j=at'
    ·exact hb (by rw[←e,sF])
    ·exact Q9 j hj (by show (if j=at' then s else q.b j)=t;rw[ah sF];exact e)
   rw[←h.c t ht hold r hr]
   unfold QD.turn
   rw[ah hb,ah rt,iL]
   grind
 ·have e:(fun i=>M ((q.piv at' s).b i))=fj (fun i=>M (q.b i)) at' (M s):=by
   funext i
   show M (if i=at' then s else q.b i)=_
   unfold fj
   split <;> rfl
  rw[e,Nc (fun i=>M (q.b i)) hat (fun i=>-q.c i s) (M s) fun r hr=>?_]
  ·intro h0
   rcases BY.1 h0 with h1|h1
   ·exact hp (by grind)
   ·exact h.nz h1
  ·have:=h.c s hs tP r hr
   rw[az (g:=fun i=>(-1)*(q.c i s*M (q.b i) r)) fun i _=>by grind,g5,←this]
   grind
theorem QOk.piv(ho:QOk q m w)(hat:at'<m)(tP:∀j,j<m→q.b j≠s):QOk (q.piv at' s) m w:=by
 have hbs:∀i,i≠at'→(q.piv at' s).b i=q.b i:=fun i hi=>ah hi
 have hba:(q.piv at' s).b at'=s:=ai rfl
 have oV:∀i,(q.piv at' s).c i s=0:=fun i=>by
  show (if i=at' then q.turn at' s s else if s=s then 0 else _)=0
  by_cases hi:i=at'
  ·rw[ai hi];unfold QD.turn;rw[ah (fun e=>tP at' hat e.symm),ai rfl]
  ·rw[ah hi,ai rfl]
 have hcj:∀i j,i<m→j<m→j≠at'→(q.piv at' s).c i (q.b j)=0:=fun i j hi hj sF=>by
  have ht:q.turn at' s (q.b j)=0:=by
   unfold QD.turn
   rw[ah (fun e=>sF (ho.inj j at' hj hat e)),ah (tP j hj),ho.z at' j hat hj,iL]
   grind
  show (if i=at' then q.turn at' s (q.b j) else if q.b j=s then 0 else q.c i (q.b j)+q.c i s*q.turn at' s (q.b j))=0
  rw[ht,ah (tP j hj),ho.z i j hi hj]
  split <;> grind
 refine⟨fun i j hi hj=>?_,fun i j hi hj e=>?_⟩
 ·by_cases sF:j=at'
  ·rw[sF,hba];exact oV i
  ·rw[hbs j sF];exact hcj i j hi hj sF
 ·by_cases rx:i=at' <;> by_cases sF:j=at'
  ·omega
  ·rw[rx,hba,hbs j sF] at e;exact absurd e.symm (tP j hj)
  ·rw[sF,hba,hbs i rx] at e;exact absurd e (tP i hi)
  ·rw[hbs i rx,hbs j sF] at e;exact ho.inj i j hi hj e
def Dn(D:Rat)(K:Nat)(x:Rat):Prop:=IsI (D*x) K
theorem VI.bound {β:Nat}(h:VI M k0 q m w)(ho:QOk q m w)(hM:∀t,t<w→∀r,r<m→IsI (M t r) β)(hk0:∀r,r<m→IsI (k0 r) β)(hb:∀i,i<m→q.b i<w):
  IsI (det m fun i=>M (q.b i)) (BP m*β ^ m)∧(∀i,i<m→Dn (det m fun i=>M (q.b i)) (BP m*β ^ m) (q.k i))∧∀i t,i<m→t<w→Dn (det m fun i=>M (q.b i)) (BP m*β ^ m) (q.c i t):=by
 have hu:∀(i:Nat) (v:Col),(∀r,r<m→IsI (v r) β)→IsI (det m (fj (fun i=>M (q.b i)) i v)) (BP m*β ^ m):=fun i v hv=>IT fun c hc r hr=>by
  unfold fj
  split
  ·exact hv r hr
  ·exact hM _ (hb c hc) r hr
 refine⟨IT fun c hc r hr=>hM _ (hb c hc) r hr,fun i hi=>?_,fun i t hi ht=>?_⟩
 ·have:=Nc (fun i=>M (q.b i)) hi q.k k0 h.k
  unfold Dn
  rw[Je,←this]
  exact hu i k0 hk0
 ·by_cases Q9:∀j,j<m→q.b j≠t
  ·have:=Nc (fun i=>M (q.b i)) hi (fun i=>-q.c i t) (M t) fun r hr=>by
    have:=h.c t ht Q9 r hr
    rw[az (g:=fun i=>(-1)*(q.c i t*M (q.b i) r)) fun i _=>by grind,g5,←this]
    grind
   unfold Dn
   have e:det m (fun i=>M (q.b i))*q.c i t=-(det m (fj (fun i=>M (q.b i)) i (M t))):=by rw[this];grind
   rw[e]
   exact (hu i (M t) (hM t ht)).neg
  ·obtain⟨j,hj⟩:=Ny.1 Q9
   obtain⟨OL,Cv⟩:=Nx.1 hj
   have Cv:=BX.1 Cv
   unfold Dn
   rw[←Cv,ho.z i j hi OL,sf]
   exact IsI.zero _
end
theorem Dn.parts {D x:Rat}{K:Nat}(hD:IsI D K)(h0:D≠0)(h:Dn D K x):x.num.natAbs≤K∧x.den≤K:=by
 obtain⟨d,rfl,hd⟩:=hD
 obtain⟨n,hn,hnK⟩:=h
 have wn:d≠0:=fun e=>h0 (by rw[e];rfl)
 have hx:x=Rat.divInt n d:=by
  rw[Rat.divInt_eq_div,←hn]
  rw[iL]
  have:=w3 _ h0
  grind
 obtain⟨k,l,e1,e2,e3,e4,e5⟩:=oG (n:=n) wn
 have hg:0<Nat.gcd n.natAbs d.natAbs:=Nat.gcd_pos_of_pos_right _ (by omega)
 have a1:(Rat.divInt n d).num.natAbs≤n.natAbs:=by
  rw[e4,oP]
  have:d.sign.natAbs=1:=by
   rcases w9 d 0 with h|h|h
   ·rw[w8 h];rfl
   ·exact absurd h wn
   ·rw[sh h];rfl
  rw[this,e8]
  have:n.natAbs=Nat.gcd n.natAbs d.natAbs*k.natAbs:=by
   conv=>lhs;rw[e1]
   rw[oP,dT]
  rw[this]
  exact va _ hg
 have a2:(Rat.divInt n d).den≤d.natAbs:=by
  have:((Rat.divInt n d).den:Int).natAbs=l.natAbs:=by
   rw[e5,oP]
   have:d.sign.natAbs=1:=by
    rcases w9 d 0 with h|h|h
    ·rw[w8 h];rfl
    ·exact absurd h wn
    ·rw[sh h];rfl
   rw[this,e8]
  rw[dT] at this
  rw[this]
  have e:d.natAbs=Nat.gcd n.natAbs d.natAbs*l.natAbs:=by
   conv=>lhs;rw[e2]
   rw[oP,dT]
  rw[e]
  exact va _ hg
 rw[hx]
 exact⟨by omega,by omega⟩
end
section
def Pq(K:Nat)(x:Rat):Prop:=x.num.natAbs≤K∧x.den≤K
theorem Pq.fit {K:Nat}{x:Rat}(h:Pq K x)(hK:K<LIM):lP x:=⟨dq h.1 hK,dq h.2 hK⟩
theorem pB {x y:Nu}{K L:Nat}(hx:ar x=true)(hy:ar y=true)(h1:Pq K (rv x))(h2:Pq L (rv y))(hKL:2*(K*L)<LIM):ar (jK x y)=true∧rv (jK x y)=rv x+rv y:=by
 have e:Ik (b7 x.1) (b7 y.1)=some (rv x+rv y):=by
  rw[bo.1 hx,bo.1 hy]
  show CT (rv x) (rv y)=_
  unfold CT
  have a1:((rv x).num*(((rv y).den / Nat.gcd (rv x).den (rv y).den:Nat):Int)).natAbs≤K*L:=by
   rw[oP,dT]
   exact kD h1.1 (dv (oQ _ _) h2.2)
  have a2:((rv y).num*(((rv x).den / Nat.gcd (rv x).den (rv y).den:Nat):Int)).natAbs≤K*L:=by
   rw[oP,dT,bx K L]
   exact kD h2.1 (dv (oQ _ _) h1.2)
  have a3:(rv x).den / Nat.gcd (rv x).den (rv y).den*(rv y).den≤K*L:=kD (dv (oQ _ _) h1.2) h2.2
  rw[ai]
  generalize (rv x).num*(((rv y).den / Nat.gcd (rv x).den (rv y).den:Nat):Int)=p at a1 ⊢
  generalize (rv y).num*(((rv x).den / Nat.gcd (rv x).den (rv y).den:Nat):Int)=q at a2 ⊢
  generalize (rv x).den / Nat.gcd (rv x).den (rv y).den*(rv y).den=r at a3 ⊢
  generalize K*L=KL at*
  refine⟨?_,?_,?_,?_⟩
  ·exact dq a1 (by omega)
  ·exact dq a2 (by omega)
  ·exact dq (Int.natAbs_add_le p q) (by omega)
  ·omega
 have hf:lP (rv x+rv y):=Ad (b7 x.1) (b7 y.1) _ e
 rw[qi,e]
 exact qh hf
theorem ry {x y:Nu}(hx:ar x=true)(hy:ar y=true)(h:lP (rv x*rv y)):ar (lM x y)=true∧rv (lM x y)=rv x*rv y:=by
 have e:Bq (b7 x.1) (b7 y.1)=some (rv x*rv y):=by
  rw[bo.1 hx,bo.1 hy]
  exact ai h
 rw[rO,e]
 exact qh h
theorem xC {x y:Nu}(hx:ar x=true)(hy:ar y=true)(h0:rv y≠0)(h:lP (rv x / rv y)):ar (oa x y)=true∧rv (oa x y)=rv x / rv y:=by
 have e:Gq (b7 x.1) (b7 y.1)=some (rv x / rv y):=by
  rw[bo.1 hx,bo.1 hy]
  have:Mr (some (rv y))=some (rv y)⁻¹:=ah h0
  unfold Gq
  rw[this,iL]
  rw[iL] at h
  exact ai h
 rw[D1,e]
 exact qh h
theorem Dn.add {D x y:Rat}{K L:Nat}(hx:Dn D K x)(hy:Dn D L y):Dn D (K+L) (x+y):=by
 unfold Dn at*
 rw[show D*(x+y)=D*x+D*y by grind]
 exact hx.add hy
theorem Dn.mul {D E x y:Rat}{K L:Nat}(hx:Dn D K x)(hy:Dn E L y):Dn (D*E) (K*L) (x*y):=by
 unfold Dn at*
 rw[show D*E*(x*y)=D*x*(E*y) by grind]
 exact IsI.mul hx hy
theorem Dn.neg {D x:Rat}{K:Nat}(hx:Dn D K x):Dn D K (-x):=by
 unfold Dn at*
 rw[show D*-x=-(D*x) by grind]
 exact IsI.neg hx
theorem Dn.mono {D x:Rat}{K L:Nat}(hx:Dn D K x)(h:K≤L):Dn D L x:=IsI.mono hx h
theorem Dn.int {D a x:Rat}{K L:Nat}(ha:IsI a L)(hx:Dn D K x):Dn D (L*K) (a*x):=by
 unfold Dn at*
 rw[show D*(a*x)=a*(D*x) by grind]
 exact ha.mul hx
theorem Dn.of {D a:Rat}{K L:Nat}(hD:IsI D K)(ha:IsI a L):Dn D (K*L) a:=hD.mul ha
theorem Dn.zero(D:Rat)(K:Nat):Dn D K 0:=by unfold Dn;rw[sf];exact IsI.zero K
theorem Dn.pq {D x:Rat}{K:Nat}(hD:IsI D K)(h0:D≠0)(h:Dn D K x):Pq K x:=Dn.parts hD h0 h
theorem Dn.sum {D:Rat}{f:Nat→Rat}{K:Nat}:∀{n:Nat},(∀i,i<n→Dn D K (f i))→Dn D (n*K) (aN n f)
 |0,_=>by rw[gL];exact Dn.zero D 0
 |n+1,h=>by
  rw[qL]
  exact (Dn.sum fun i hi=>h i (by omega)).add (h n (by omega))
def qd(d:Dic)(w m:Nat):QD:=⟨fun i=>if i<m then d.rows[i]!.b.toNat else w,fun i=>if i<m then rv d.rows[i]!.k else rv d.gk,fun i t=>if t=w then 0 else if i<m then rv d.rows[i]!.c[t]! else rv d.gc[t]!⟩
structure Ok(M:Nat→Col)(k0:Col)(d:Dic)(w m:Nat):Prop where
 inv:Inv d w
 len:d.rows.length=m
 vi:VI M k0 (qd d w m) (m+1) (w+1)
def Kf(m β:Nat):Nat:=BP (m+1)*β ^ (m+1)
structure Bd(M:Nat→Col)(k0:Col)(w m β:Nat):Prop where
 ent:∀t,t<w+1→∀r,r<m+1→IsI (M t r) β
 con:∀r,r<m+1→IsI (k0 r) β
 lim:2*(Kf m β*(Kf m β*Kf m β))<LIM
theorem VI.congr {M:Nat→Col}{k0:Col}{q q':QD}{m w:Nat}(h:VI M k0 q m w)(hb:∀i,i<m→q'.b i=q.b i)(hk:∀i,i<m→q'.k i=q.k i)(hc:∀i,i<m→∀t,t<w→q'.c i t=q.c i t):VI M k0 q' m w:=by
 refine⟨fun r hr=>?_,fun t ht Q9 r hr=>?_,?_⟩
 ·rw[h.k r hr]
  exact az fun i hi=>by rw[hb i hi,hk i hi]
 ·rw[h.c t ht (fun j hj=>by rw[←hb j hj];exact Q9 j hj) r hr]
  exact az fun i hi=>by rw[hb i hi,hc i hi t ht]
 ·rw[ud (g:=fun i=>M (q.b i)) fun c hc r _=>by rw[hb c hc]]
  exact h.nz
section
variable {M:Nat→Col} {k0:Col} {d:Dic} {w m at' s β:Nat}
theorem z8 {i:Nat}(hi:i<m):(qd d w m).b i=d.rows[i]!.b.toNat:=ai hi
theorem o6:(qd d w m).b m=w:=ah (pM _)
theorem DN {i:Nat}(hi:i<m):(qd d w m).k i=rv d.rows[i]!.k:=ai hi
theorem Kj:(qd d w m).k m=rv d.gk:=ah (pM _)
theorem Bm {i t:Nat}(hi:i<m)(ht:t<w):(qd d w m).c i t=rv d.rows[i]!.c[t]! :=by
 show (if t=w then 0 else if i<m then rv d.rows[i]!.c[t]! else _)=_
 rw[ah (by omega),ai hi]
theorem Co {t:Nat}(ht:t<w):(qd d w m).c m t=rv d.gc[t]! :=by
 show (if t=w then 0 else if m<m then _ else rv d.gc[t]!)=_
 rw[ah (by omega),ah (pM _)]
theorem DO(i:Nat):(qd d w m).c i w=0:=ai rfl
theorem Inv.qok(h:Inv d w)(hl:d.rows.length=m):QOk (qd d w m) (m+1) (w+1):=by
 have hb:∀j,j<m→(qd d w m).b j<w∧(d.rows[j]!.b=(((qd d w m).b j:Nat):Int)):=fun j hj=>by
  have:=h.rng j (by omega)
  rw[z8 hj]
  omega
 refine⟨fun i j hi hj=>?_,fun i j hi hj e=>?_⟩
 ·rcases dX j m with LV|LV
  ·have h1:=(hb j LV).1
   rcases dX i m with pX|pX
   ·rw[Bm pX h1,z8 LV,h.zr i j (by omega) (by omega)];exact of0.2
   ·obtain rfl:i=m:=by omega
    rw[Co h1,z8 LV,h.zg j (by omega)];exact of0.2
  ·obtain rfl:j=m:=by omega
   rw[o6,DO]
 ·rcases dX j m with LV|LV <;> rcases dX i m with pX|pX
  ·have h1:=hb j LV
   have h2:=hb i pX
   exact h.inj i j (by omega) (by omega) (by rw[h1.2,h2.2,e])
  ·obtain rfl:i=m:=by omega
   have:=(hb j LV).1
   rw[o6] at e;omega
  ·obtain rfl:j=m:=by omega
   have:=(hb i pX).1
   rw[o6] at e;omega
  ·omega
theorem Inv.qlt(h:Inv d w)(hl:d.rows.length=m):∀i,i<m+1→(qd d w m).b i<w+1:=fun i hi=>by
 rcases dX i m with pX|pX
 ·have:=h.rng i (by omega)
  rw[z8 pX];omega
 ·obtain rfl:i=m:=by omega
  rw[o6];omega
theorem Ok.bound(h:Ok M k0 d w m)(hB:Bd M k0 w m β):∃D:Rat,D≠0∧IsI D (Kf m β)∧(∀i,i<m→Dn D (Kf m β) (rv d.rows[i]!.k))∧Dn D (Kf m β) (rv d.gk)∧(∀i t,i<m→t<w→Dn D (Kf m β) (rv d.rows[i]!.c[t]!))∧∀t,t<w→Dn D (Kf m β) (rv d.gc[t]!):=by
 obtain⟨h1,h2,h3⟩:=h.vi.bound (h.inv.qok h.len) hB.ent hB.con (h.inv.qlt h.len)
 refine⟨_,h.vi.nz,h1,fun i hi=>?_,?_,fun i t hi ht=>?_,fun t ht=>?_⟩
 ·have:=h2 i (by omega);rwa[DN hi] at this
 ·have:=h2 m (by omega);rwa[Kj] at this
 ·have:=h3 i t (by omega) (by omega);rwa[Bm hi ht] at this
 ·have:=h3 m t (by omega) (by omega);rwa[Co ht] at this
theorem put_ok {k:Nu}{c:List Nu}{r1:Row}{K:Nat}(hl:c.length=w)(hg:f7 k c=true)(hs:s<w)(hr:ar r1.k=true)(hrc:∀t,t<w→ar r1.c[t]! =true)(hk:Pq K (rv k))(hc:∀t,t<w→Pq K (rv c[t]!))(pk:Pq (K*K) (rv c[s]! *rv r1.k))(pc:∀t,t<w→Pq (K*K) (rv c[s]! *rv r1.c[t]!))(hK:2*(K*(K*K))<LIM)(hKK:K*K<LIM):
  f7 (gS k c r1 s).k (gS k c r1 s).c=true∧rv (gS k c r1 s).k=rv k+rv c[s]! *rv r1.k∧∀t,t<w→rv (gS k c r1 s).c[t]! =if t=s then 0 else rv c[t]! +rv c[s]! *rv r1.c[t]! :=by
 obtain⟨h1,h2⟩:=bm.1 hg
 have hq:=h2 s (by omega)
 have main:(ar (gS k c r1 s).k=true∧rv (gS k c r1 s).k=rv k+rv c[s]! *rv r1.k)∧∀t,t<w→ar (gS k c r1 s).c[t]! =true∧rv (gS k c r1 s).c[t]! =if t=s then 0 else rv c[t]! +rv c[s]! *rv r1.c[t]! :=by
  unfold gS xf uk
  by_cases h0:bD c[s]! =0
  ·rw[ai h0,ai h0,(zZ hq).1 h0]
   refine⟨⟨h1,by dsimp only;grind⟩,fun t ht=>?_⟩
   dsimp only
   rw[eD (by omega)]
   by_cases rt:t=s
   ·rw[ai rt.symm,ai rt];exact of0
   ·rw[ah (fun e=>rt e.symm),ah rt]
    exact⟨h2 t (by omega),by grind⟩
  ·rw[ah h0,ah h0]
   dsimp only
   constructor
   ·obtain⟨g1,g2⟩:=ry hq hr (pk.fit hKK)
    obtain⟨g3,g4⟩:=pB h1 g1 hk (by rw[g2];exact pk) hK
    exact⟨g3,by rw[g4,g2]⟩
   ·intro t ht
    rw[Jp _ _ _ _ _ t (by rw[cY];omega),cY,eD (by omega)]
    by_cases rt:t=s
    ·rw[ah (by omega),ai rt.symm,ai rt];exact of0
    ·rw[ai ⟨by omega,rt⟩,ah (fun e=>rt e.symm),ah rt]
     obtain⟨g1,g2⟩:=ry hq (hrc t ht) ((pc t ht).fit hKK)
     obtain⟨g3,g4⟩:=pB (h2 t (by omega)) g1 (hc t ht) (by rw[g2];exact pc t ht) hK
     exact⟨g3,by rw[g4,g2]⟩
 obtain⟨⟨m1,m2⟩,m3⟩:=main
 refine⟨bm.2 ⟨m1,fun i hi=>(m3 i (by rw[rM] at hi;omega)).1⟩,m2,fun t ht=>(m3 t ht).2⟩
theorem Ok.pivot(h:Ok M k0 d w m)(hB:Bd M k0 w m β)(hat:at'<m)(hs:s<w)(tP:∀j,j<d.rows.length→d.rows[j]!.b≠(s:Int))(hp:rv d.rows[at']!.c[s]!≠0):gO d w at' s∧Ok M k0 (gp d at' s) w m∧lP (rv d.rows[at']!.k / -rv d.rows[at']!.c[s]!)∧
  (∀i,i<m→rv (gp d at' s).rows[i]!.k=if i=at' then -rv d.rows[at']!.k / rv d.rows[at']!.c[s]! else rv d.rows[i]!.k+rv d.rows[i]!.c[s]! *(-rv d.rows[at']!.k / rv d.rows[at']!.c[s]!)):=by
 have hI:=h.inv
 have hl:=h.len
 have hqo:=hI.qok hl
 have oV:(qd d w m).c at' s=rv d.rows[at']!.c[s]! :=Bm hat hs
 have hbat:(qd d w m).b at'=d.rows[at']!.b.toNat:=z8 hat
 have hrb:=hI.rng at' (by omega)
 have hsb:d.rows[at']!.b.toNat≠s:=fun e=>tP at' (by omega) (by omega)
 have hnq:∀j,j<m+1→(qd d w m).b j≠s:=fun j hj=>by
  rcases dX j m with LV|LV
  ·have h1:=hI.rng j (by omega)
   have h2:=tP j (by omega)
   rw[z8 LV];omega
  ·obtain rfl:j=m:=by omega
   rw[o6];omega
 have hvi:=h.vi.piv hqo (show at'<m+1 by omega) (show s<w+1 by omega) hnq (by rw[oV];exact hp)
 have hlt':∀i,i<m+1→((qd d w m).piv at' s).b i<w+1:=fun i hi=>by
  show (if i=at' then s else (qd d w m).b i)<w+1
  split
  ·omega
  ·exact hI.qlt hl i hi
 obtain⟨b1,b2,b3⟩:=hvi.bound (hqo.piv (show at'<m+1 by omega) hnq) hB.ent hB.con hlt'
 have b0:=hvi.nz
 generalize hE:(det (m+1) fun i=>M (((qd d w m).piv at' s).b i))=E at b0 b1 b2 b3
 obtain⟨D,a0,a1,a2,a3,a4,a5⟩:=h.bound hB
 have hlim:=hB.lim
 have hK1:1≤Kf m β:=by
  obtain⟨z,hz,hz2⟩:=a1
  have:z≠0:=fun e=>a0 (by rw[hz,e];rfl)
  omega
 have hKK:Kf m β≤Kf m β*Kf m β:=va _ hK1
 have hKK2:Kf m β*Kf m β≤Kf m β*(Kf m β*Kf m β):=va _ hK1
 generalize hKe:BP (m+1)*β ^ (m+1)=K at b1 b2 b3
 have hK':Kf m β=K:=hKe
 rw[hK'] at a1 a2 a3 a4 a5 hlim hK1 hKK hKK2
 have hKl:K<LIM:=by omega
 -- rI aZ row
 have Th:=hI.fine.lr at' (by omega)
 obtain⟨gk,gc⟩:=bm.1 (hI.fine.gr at' (by omega))
 have tk:ar (aZ d.rows[at']! s).k=true∧rv (aZ d.rows[at']! s).k=-rv d.rows[at']!.k / rv d.rows[at']!.c[s]! :=by
  have e:((qd d w m).piv at' s).k at'=-rv d.rows[at']!.k / rv d.rows[at']!.c[s]! :=by
   show (if at'=at' then -(qd d w m).k at' / (qd d w m).c at' s else _)=_
   rw[ai rfl,oV,DN hat]
  have hf:=(Dn.pq (x:=-rv d.rows[at']!.k / rv d.rows[at']!.c[s]!) b1 b0 (by rw[←e];exact b2 at' (by omega))).fit hKl
  have:=xC (x:=eZ d.rows[at']!.k) (y:=d.rows[at']!.c[s]!) (by rw[rp];exact gk) (gc s (by omega)) hp (by rw[lW];exact hf)
  rw[lW] at this
  exact this
 have tc:∀t,t<w→ar (aZ d.rows[at']! s).c[t]! =true∧rv (aZ d.rows[at']! s).c[t]! =((qd d w m).piv at' s).c at' t:=fun t ht=>by
  have e:((qd d w m).piv at' s).c at' t=if t=d.rows[at']!.b.toNat then 1 / rv d.rows[at']!.c[s]! else if t=s then 0 else -rv d.rows[at']!.c[t]! / rv d.rows[at']!.c[s]! :=by
   show (if at'=at' then (qd d w m).turn at' s t else _)=_
   unfold QD.turn
   rw[ai rfl,oV,hbat,Bm hat ht]
  have hf:=(Dn.pq b1 b0 (b3 at' t (by omega) (by omega))).fit hKl
  rw[e] at hf ⊢
  rw[uE (by omega) (by omega)]
  by_cases e1:t=d.rows[at']!.b.toNat
  ·rw[ai e1] at hf ⊢
   rw[ai e1]
   have:=xC of1.1 (gc s (by omega)) hp (by rw[of1.2];exact hf)
   rw[of1.2] at this
   exact this
  ·rw[ah e1] at hf ⊢
   rw[ah e1]
   by_cases e2:t=s
   ·rw[ai e2,ai e2];exact of0
   ·rw[ah e2] at hf ⊢
    rw[ah e2]
    have:=xC (x:=eZ d.rows[at']!.c[t]!) (y:=d.rows[at']!.c[s]!) (by rw[rp];exact gc t (by omega)) (gc s (by omega)) hp (by rw[lW];exact hf)
    rw[lW] at this
    exact this
 have tlen:(aZ d.rows[at']! s).c.length=w:=by rw[rH];exact Th
 have hx:(BP (m+1)*β ^ (m+1))=K:=hKe
 -- rI lines
 have hDE:IsI (D*E) (K*K):=a1.mul b1
 have hDE0:D*E≠0:=fun e=>(BY.1 e).elim a0 b0
 have line:∀(k:Nu) (c:List Nu),c.length=w→f7 k c=true→Dn D K (rv k)→(∀t,t<w→Dn D K (rv c[t]!))→
   f7 (gS k c (aZ d.rows[at']! s) s).k (gS k c (aZ d.rows[at']! s) s).c=true∧rv (gS k c (aZ d.rows[at']! s) s).k=rv k+rv c[s]! *rv (aZ d.rows[at']! s).k∧∀t,t<w→rv (gS k c (aZ d.rows[at']! s) s).c[t]! =if t=s then 0 else rv c[t]! +rv c[s]! *rv (aZ d.rows[at']! s).c[t]! :=fun k c h1 h2 h3 h4=>by
  refine put_ok h1 h2 hs tk.1 (fun t ht=>(tc t ht).1) (Dn.pq a1 a0 h3) (fun t ht=>Dn.pq a1 a0 (h4 t ht)) ?_ (fun t ht=>?_) hlim (by omega)
  ·refine Dn.pq hDE hDE0 (Dn.mul (h4 s hs) ?_)
   have:=b2 at' (by omega)
   have e:((qd d w m).piv at' s).k at'=rv (aZ d.rows[at']! s).k:=by
    rw[tk.2]
    show (if at'=at' then -(qd d w m).k at' / (qd d w m).c at' s else _)=_
    rw[ai rfl,oV,DN hat]
   rwa[e] at this
  ·refine Dn.pq hDE hDE0 (Dn.mul (h4 s hs) ?_)
   rw[(tc t ht).2]
   exact b3 at' t (by omega) (by omega)
 have Ol:=fun i (hi:i<m)=>line d.rows[i]!.k d.rows[i]!.c (hI.fine.lr i (by omega)) (hI.fine.gr i (by omega)) (a2 i hi) fun t ht=>a4 i t hi ht
 have M4:=line d.gk d.gc hI.fine.lg hI.fine.gg a3 a5
 have hfine:Fine (gp d at' s) w:=by
  refine⟨?_,fun i hi=>?_,M4.1,fun i hi=>?_⟩
  ·show (gS d.gk d.gc _ s).c.length=w
   rw[rM];exact hI.fine.lg
  ·rw[d7] at hi
   rw[jj hi]
   split
   ·exact tlen
   ·show (gS d.rows[i]!.k d.rows[i]!.c _ s).c.length=w
    rw[rM];exact hI.fine.lr i hi
  ·rw[d7] at hi
   rw[jj hi]
   split
   ·exact bm.2 ⟨tk.1,fun t ht=>(tc t (by omega)).1⟩
   ·exact (Ol i (by omega)).1
 have hG:gO d w at' s:=⟨hI,by omega,hs,tP,hfine⟩
 have JH:(gp d at' s).rows.length=m:=by rw[d7];exact hl
 have RB:rv (aZ d.rows[at']! s).k=-(qd d w m).k at' / (qd d w m).c at' s:=by rw[tk.2,oV,DN hat]
 have turnC:∀t,t<w→rv (aZ d.rows[at']! s).c[t]! =(qd d w m).turn at' s t:=fun t ht=>by
  rw[(tc t ht).2]
  exact ai rfl
 have turnW:(qd d w m).turn at' s w=0:=by
  unfold QD.turn
  rw[ah (by rw[hbat];omega),ah (by omega),DO,iL]
  grind
 refine⟨hG,⟨hG.toInv,JH,hvi.congr (fun i hi=>?_) (fun i hi=>?_) (fun i hi t ht=>?_)⟩,?_,fun i hi=>?_⟩
 ·show _=if i=at' then s else (qd d w m).b i
  rcases dX i m with pX|pX
  ·rw[z8 pX,z8 pX,pp (by omega)]
   by_cases e:i=at'
   ·rw[ai e,ai e];omega
   ·rw[ah e,ah e]
  ·obtain rfl:i=m:=by omega
   rw[o6,o6,ah (by omega)]
 ·show _=if i=at' then -(qd d w m).k at' / (qd d w m).c at' s else (qd d w m).k i+(qd d w m).c i s*(-(qd d w m).k at' / (qd d w m).c at' s)
  rcases dX i m with pX|pX
  ·rw[DN pX,jj (by omega)]
   by_cases e:i=at'
   ·rw[ai e,ai e];exact RB
   ·rw[ah e,ah e,DN pX,Bm pX hs,←RB]
    exact (Ol i pX).2.1
  ·obtain rfl:i=m:=by omega
   rw[ah (by omega),Kj,Kj,Co hs,←RB]
   exact M4.2.1
 ·show _=if i=at' then (qd d w m).turn at' s t else if t=s then 0 else (qd d w m).c i t+(qd d w m).c i s*(qd d w m).turn at' s t
  by_cases Iy:t=w
  ·rw[Iy,DO,turnW,DO,ah (by omega:w≠s)]
   split <;> grind
  have ym:t<w:=by omega
  rw[←turnC t ym]
  rcases dX i m with pX|pX
  ·rw[Bm pX ym,jj (by omega)]
   by_cases e:i=at'
   ·rw[ai e,ai e]
   ·rw[ah e,ah e,Bm pX ym,Bm pX hs]
    exact (Ol i pX).2.2 t ym
  ·obtain rfl:i=m:=by omega
   rw[ah (by omega),Co ym,Co ym,Co hs]
   exact M4.2.2 t ym
 ·have:=(Dn.pq b1 b0 (b2 at' (by omega))).fit hKl
  have e:((qd d w m).piv at' s).k at'=rv d.rows[at']!.k / -rv d.rows[at']!.c[s]! :=by
   show (if at'=at' then -(qd d w m).k at' / (qd d w m).c at' s else _)=_
   rw[ai rfl,oV,DN hat,iL,iL]
   have i1:=w3 _ hp
   have i2:=w3 (-rv d.rows[at']!.c[s]!) (fun e=>hp (by grind))
   grind
  rwa[e] at this
 ·rw[jj (by omega)]
  by_cases e:i=at'
  ·rw[ai e,ai e];exact tk.2
  ·rw[ah e,ah e,←tk.2]
   exact (Ol i hi).2.1
end
end
section
theorem Mo:∀(K:Nat) (n:Nat) (f:Nat→Nat),(∀u,u≤n→f u<K)→(∀a b,a<b→b≤n→f a≠f b)→n<K
 |0,n,f,h,_=>absurd (h 0 (cr n)) (qK _)
 |K+1,n,f,h,hi=>by
  by_cases hex:∃u,u≤n∧f u=K
  ·obtain⟨u,hu,hf⟩:=hex
   by_cases hn:n=0
   ·omega
   ·have:=Mo K (n - 1) (fun a=>if a<u then f a else f (a+1)) (fun a ha=>?_) (fun a b FX hb=>?_)
    ·omega
    ·split
     ·rename_i h1
      have h2:=h a (by omega)
      have h3:=hi a u h1 hu
      rw[hf] at h3;omega
     ·rename_i h1
      have h2:=h (a+1) (by omega)
      have h3:=hi u (a+1) (by omega) (by omega)
      rw[hf] at h3;omega
    ·split <;> split
     ·exact hi a b FX (by omega)
     ·exact hi a (b+1) (by omega) (by omega)
     ·omega
     ·exact hi (a+1) (b+1) (by omega) (by omega)
  ·have:=Mo K n f (fun u hu=>by
    have h1:=h u hu
    have:f u≠K:=fun e=>hex ⟨u,hu,e⟩
    omega) hi
   omega
def ny:Nat→Nat→Nat
 |_,0=>1
 |0,_+1=>0
 |n+1,k+1=>ny n k+ny n (k+1)
theorem Pb(n:Nat):ny n 0=1:=by cases n <;> rfl
theorem Uy(n k:Nat):ny n k≤ny (n+1) k:=by
 cases k with
 |zero=>rw[Pb,Pb];exact ax 1
 |succ k=>exact Nat.le_add_left _ _
open Classical in
def cnt(P:Nat→Prop):Nat→Nat
 |0=>0
 |w+1=>cnt P w+if P w then 1 else 0
def AA(P:Nat→Prop):Nat→Nat
 |0=>0
 |w+1=>open Classical in AA P w+if P w then ny w (cnt P w+1) else 0
theorem p6 {P:Nat→Prop}{w:Nat}(h:P w):cnt P (w+1)=cnt P w+1:=by unfold cnt;rw[ai h];cases w <;> rfl
theorem p7 {P:Nat→Prop}{w:Nat}(h:¬P w):cnt P (w+1)=cnt P w:=by unfold cnt;rw[ah h];cases w <;> rfl
theorem wS {P:Nat→Prop}{w:Nat}(h:P w):AA P (w+1)=AA P w+ny w (cnt P w+1):=by unfold AA;rw[ai h];cases w <;> rfl
theorem wU {P:Nat→Prop}{w:Nat}(h:¬P w):AA P (w+1)=AA P w:=by unfold AA;rw[ah h];cases w <;> rfl
theorem Ds(P:Nat→Prop):∀w,AA P w<ny w (cnt P w)
 |0=>Nat.lt_add_one 0
 |w+1=>by
  have h1:=Ds P w
  have h2:=Uy w (cnt P w)
  by_cases hp:P w
  ·rw[wS hp,p6 hp]
   show _<ny w (cnt P w)+ny w (cnt P w+1)
   omega
  ·rw[wU hp,p7 hp];omega
theorem La {P Q:Nat→Prop}:∀{w:Nat},cnt P w=cnt Q w→AA P w=AA Q w→∀t,t<w→(P t↔Q t)
 |0,_,_,t,ht=>by omega
 |w+1,hc,h,t,ht=>by
  have h1:=Ds P w
  have h2:=Ds Q w
  have fin:(P w↔Q w)→cnt P w=cnt Q w→AA P w=AA Q w→(P t↔Q t):=fun e e1 e2=>by
   rcases dX t w with Iy|Iy
   ·exact La e1 e2 t Iy
   ·obtain rfl:t=w:=by omega
    exact e
  by_cases hp:P w <;> by_cases hq:Q w
  ·rw[wS hp,wS hq] at h
   rw[p6 hp,p6 hq] at hc
   have hc:cnt P w=cnt Q w:=by omega
   rw[hc] at h
   exact fin ⟨fun _=>hq,fun _=>hp⟩ hc (by omega)
  ·rw[wS hp,wU hq] at h
   rw[p6 hp,p7 hq] at hc
   rw[←hc] at h2
   omega
  ·rw[wU hp,wS hq] at h
   rw[p7 hp,p6 hq] at hc
   rw[hc] at h1
   omega
  ·rw[wU hp,wU hq] at h
   rw[p7 hp,p7 hq] at hc
   exact fin ⟨fun e=>absurd e hp,fun e=>absurd e hq⟩ (by omega) (by omega)
theorem xG {P Q:Nat→Prop}:∀{w:Nat},(∀t,t<w→(P t↔Q t))→cnt P w=cnt Q w
 |0,_=>rfl
 |w+1,h=>by
  have ih:=xG (P:=P) (Q:=Q) (w:=w) fun t ht=>h t (by omega)
  by_cases hp:P w
  ·rw[p6 hp,p6 ((h w (by omega)).1 hp),ih]
  ·rw[p7 hp,p7 (fun e=>hp ((h w (by omega)).2 e)),ih]
theorem IX {P:Nat→Prop}{x:Nat}(hx:¬P x):∀{w:Nat},x<w→cnt (fun t=>t=x∨P t) w=cnt P w+1
 |0,h=>by omega
 |w+1,h=>by
  by_cases hw:w=x
  ·rw[p6 (P:=fun t=>t=x∨P t) (.inl hw),p7 (P:=P) (by rw[hw];exact hx),xG (Q:=P) fun t ht=>⟨fun e=>e.elim (fun e=>by omega) id,.inr⟩]
  ·have ih:=IX (P:=P) hx (show x<w by omega)
   by_cases hp:P w
   ·rw[p6 (P:=fun t=>t=x∨P t) (.inr hp),p6 hp,ih]
   ·rw[p7 (P:=fun t=>t=x∨P t) (fun e=>e.elim hw hp),p7 hp,ih]
theorem least {f:Nat→Prop}:∀{n:Nat},f n→∃u,u≤n∧f u∧∀v,v<u→¬f v
 |0,h=>⟨0,ax 0,h,fun v hv=>by omega⟩
 |n+1,h=>by
  by_cases hex:∃v,v≤n∧f v
  ·obtain⟨v,hv,hf⟩:=hex
   obtain⟨u,h1,h2,h3⟩:=least hf
   exact⟨u,by omega,h2,h3⟩
  ·exact⟨n+1,ax _,h,fun v hv hf=>hex ⟨v,by omega,hf⟩⟩
def nf(d:Dic):Option (Nat×Nat):=match ku d.gc with
 |none=>none
 |some s=>match jm d.rows s default d.rows.length with
  |none=>none
  |some p=>if p.1<0 then none else some (p.1.toNat,s)
def nx(d:Dic):Dic:=match nf d with
 |none=>d
 |some p=>gp d p.1 p.2
def itD:Nat→Dic→Dic
 |0,d=>d
 |u+1,d=>nx (itD u d)
theorem BD:∀(u:Nat) (d:Dic),itD (u+1) d=itD u (nx d)
 |0,_=>rfl
 |u+1,d=>by
  show nx (itD (u+1) d)=nx (itD u (nx d))
  rw[BD u d]
section
variable {M:Nat→Col} {k0:Col} {d:Dic} {w m β:Nat}
theorem Ok.leav(h:Ok M k0 d w m)(hB:Bd M k0 w m β){s:Nat}(he:ku d.gc=some s)(z:Nu):∀n,n≤m→jm d.rows s z n≠none
 |0,_=>by unfold jm;exact Nw _
 |n+1,hn=>by
  have hI:=h.inv
  have hl:=h.len
  obtain⟨h1,h2,_⟩:=pJ he
  rw[hI.fine.lg] at h1
  have ih:=h.leav hB he z n (by omega)
  unfold jm
  cases hq:jm d.rows s z n with
  |none=>exact absurd hq ih
  |some p=>
   dsimp only
   unfold rT
   dsimp only
   by_cases hc:0≤bD d.rows[n]!.c[s]!
   ·rw[ai hc];exact Nw _
   ·rw[ah hc]
    obtain⟨g1,g2⟩:=bm.1 (hI.fine.gr n (by omega))
    have g3:=g2 s (by rw[hI.fine.lr n (by omega)];exact h1)
    have oc:=(sU g3).1 (by omega)
    obtain⟨_,_,hf,_⟩:=h.pivot hB (show n<m by omega) h1 (hI.enter (by omega)) (by grind)
    have hg:=(xC (x:=d.rows[n]!.k) (y:=eZ d.rows[n]!.c[s]!) g1 (by rw[rp];exact g3) (by rw[lW];grind) (by rw[lW];exact hf)).1
    rw[ah (by rw[hg];simp)]
    split <;> exact Nw _
theorem Ok.next(h:Ok M k0 d w m)(hB:Bd M k0 w m β){i s:Nat}(hn:nf d=some (i,s)):Step d (gp d i s) w i s∧Ok M k0 (gp d i s) w m∧i<m∧s<w:=by
 have hI:=h.inv
 have hl:=h.len
 unfold nf at hn
 cases he:ku d.gc with
 |none=>rw[he] at hn;cases hn
 |some s'=>
  rw[he] at hn
  dsimp only at hn
  cases hq:jm d.rows s' default d.rows.length with
  |none=>rw[hq] at hn;cases hn
  |some p=>
   rw[hq] at hn
   dsimp only at hn
   by_cases hp:p.1<0
   ·rw[ai hp] at hn;cases hn
   ·rw[ah hp] at hn
    injection hn with hn
    injection hn with e1 e2
    subst e2
    obtain⟨h1,h2,_⟩:=pJ he
    rw[hI.fine.lg] at h1
    rcases px hq with h3|⟨i',hi,h3,h4,_⟩
    ·omega
    obtain rfl:i=i':=by omega
    have g3:=(bm.1 (hI.fine.gr i (by omega))).2 s' (by rw[hI.fine.lr i (by omega)];exact h1)
    have oc:=(sU g3).1 h4
    obtain⟨a1,a2,_⟩:=h.pivot hB (show i<m by omega) h1 (hI.enter (by omega)) (by grind)
    exact⟨⟨he,⟨p.2,by rw[hq,←h3]⟩,a1,rfl⟩,a2,by omega,h1⟩
theorem gO.pivotP {at' s:Nat}(h:gO d w at' s)(hp:d.piv<d.most):dP d at' s=(0,gp d at' s):=by
 obtain⟨h1,h2,h3⟩:=Bp d at' s h.hat (by omega)
 have h4:=h3.2 ⟨h.fine.gg,fun i hi=>h.fine.gr i (by rw[d7];exact hi)⟩
 rw[←h1,←h4]
theorem Ok.nx(h:Ok M k0 d w m)(hB:Bd M k0 w m β):Ok M k0 (nx d) w m:=by
 unfold Go.Proofs.YtaedcknhkjpmlaaGreat.nx
 cases hn:nf d with
 |none=>exact h
 |some p=>exact (h.next hB (i:=p.1) (s:=p.2) hn).2.1
theorem Ok.it(h:Ok M k0 d w m)(hB:Bd M k0 w m β):∀u,Ok M k0 (itD u d) w m
 |0=>h
 |u+1=>(h.it hB u).nx hB
theorem CQ.cnt {d':Dic}{i s:Nat}(h:CQ d d' w i s):cnt (Bas d') w=cnt (Bas d) w:=by
 have hr:=h.inv.rng i h.hi
 have e1:Go.Proofs.YtaedcknhkjpmlaaGreat.cnt (Bas d') w=Go.Proofs.YtaedcknhkjpmlaaGreat.cnt (fun t=>t=s∨(Bas d t∧d.rows[i]!.b≠(t:Int))) w:=xG fun t _=>h.bas t
 have e2:Go.Proofs.YtaedcknhkjpmlaaGreat.cnt (Bas d) w=Go.Proofs.YtaedcknhkjpmlaaGreat.cnt (fun t=>t=d.rows[i]!.b.toNat∨(Bas d t∧d.rows[i]!.b≠(t:Int))) w:=xG fun t _=>by
  constructor
  ·intro hb
   by_cases e:t=d.rows[i]!.b.toNat
   ·exact .inl e
   ·exact .inr ⟨hb,by omega⟩
  ·rintro (e|⟨hb,_⟩)
   ·exact⟨i,h.hi,by omega⟩
   ·exact hb
 rw[e1,e2,IX (fun e=>h.ns e.1) h.hs,IX (fun e=>e.2 (by omega)) (by omega)]
theorem Ok.stops(h:Ok M k0 d w m)(hB:Bd M k0 w m β)(hf:sy d){N:Nat}(hN:∀k,ny w k≤N):∃n,n<N∧nf (itD n d)=none∧∀u,u<n→nf (itD u d)≠none:=by
 have chain:∀n,(∀u,u<n→nf (itD u d)≠none)→xp (fun u=>itD u d) (fun u=>((nf (itD u d)).getD (0,0)).1) (fun u=>((nf (itD u d)).getD (0,0)).2) w n:=fun n hn=>by
  refine⟨fun u hu=>?_,fun u _=>(h.it hB u).inv,hf⟩
  cases hq:nf (itD u d) with
  |none=>exact absurd hq (hn u hu)
  |some p=>
   have e:itD (u+1) d=gp (itD u d) p.1 p.2:=by
    show Go.Proofs.YtaedcknhkjpmlaaGreat.nx (itD u d)=_
    unfold Go.Proofs.YtaedcknhkjpmlaaGreat.nx
    rw[hq]
   dsimp only[Option.getD]
   rw[e]
   exact ((h.it hB u).next hB (i:=p.1) (s:=p.2) hq).1.toF
 have hex:∃n,n<N∧nf (itD n d)=none:=by
  apply EZ
  intro MP
  have iV:∀u,u<N→nf (itD u d)≠none:=fun u hu e=>MP ⟨u,hu,e⟩
  have hc:=chain N iV
  have hcnt:∀u,u≤N→cnt (Bas (itD u d)) w=cnt (Bas d) w:=fun u=>by
   induction u with
   |zero=>intro _;rfl
   |succ u ih=>exact fun hu=>((hc.step u (by omega)).cnt).trans (ih (by omega))
  have:=Mo N N (fun u=>AA (Bas (itD u d)) w) (fun u _=>bH (Ds _ _) (hN _)) fun a b FX hb e=>by
   refine hc.bland FX hb fun t=>?_
   by_cases ht:t<w
   ·exact La ((hcnt a (by omega)).trans (hcnt b hb).symm) e t ht
   ·exact⟨fun hh=>absurd ((hc.inv a (by omega)).bas hh).1 ht,fun hh=>absurd ((hc.inv b hb).bas hh).1 ht⟩
  omega
 obtain⟨n,hn,FP⟩:=hex
 obtain⟨u,h1,h2,h3⟩:=least (f:=fun u=>nf (itD u d)=none) FP
 exact⟨u,by omega,h2,h3⟩
theorem Ok.feas1(h:Ok M k0 d w m)(hB:Bd M k0 w m β)(hf:sy d){i s:Nat}(hn:nf d=some (i,s)):sy (gp d i s):=((h.next hB hn).1.toF.feas hf).1
theorem Ok.improveF(hB:Bd M k0 w m β):∀(n:Nat) (d:Dic) (f:Nat),Ok M k0 d w m→sy d→(∀u,u<n→nf (itD u d)≠none)→nf (itD n d)=none→d.piv+n≤d.most→n<f→
  ∃s d',g7 f d=((s,0),d')∧Ok M k0 d' w m∧sy d'∧rk d d' w∧d'.piv=d.piv+n∧((s=-1∧∀t,t<w→rv d'.gc[t]!≤0)∨∃s':Nat,s=(s':Int)∧s'<w∧0<rv d'.gc[s']!∧∀i,i<m→0≤rv d'.rows[i]!.c[s']!)
 |0,d,f,h,hf,_,hn,hp,bI=>by
  obtain⟨f,rfl⟩:∃f',f=f'+1:=⟨f - 1,by omega⟩
  have hI:=h.inv
  have hl:=h.len
  have OQ:=(bm.1 hI.fine.gg).2
  have hn:nf d=none:=hn
  unfold nf at hn
  unfold Go.Proofs.YtaedcknhkjpmlaaGreat.g7
  cases he:ku d.gc with
  |none=>
   refine⟨-1,d,rfl,h,hf,rk.refl d w,by omega,.inl ⟨rfl,fun t ht=>?_⟩⟩
   have h1:=M8 he (t:=t) (by rw[hI.fine.lg];exact ht)
   have h2:=Kh (OQ t (by rw[hI.fine.lg];exact ht))
   grind
  |some s=>
   rw[he] at hn
   dsimp only at hn ⊢
   obtain⟨h1,h2,_⟩:=pJ he
   have h2:=(Kh (OQ s h1)).1 h2
   rw[hI.fine.lg] at h1
   cases hq:jm d.rows s default d.rows.length with
   |none=>exact absurd hq (by rw[hl];exact h.leav hB he default m (ax _))
   |some p=>
    rw[hq] at hn
    dsimp only at hn ⊢
    by_cases hp0:p.1<0
    ·rw[ai hp0]
     refine⟨s,d,rfl,h,hf,rk.refl d w,by omega,.inr ⟨s,rfl,h1,h2,fun i hi=>?_⟩⟩
     have g3:=(bm.1 (hI.fine.gr i (by omega))).2 s (by rw[hI.fine.lr i (by omega)];exact h1)
     by_cases hc:bD d.rows[i]!.c[s]! <0
     ·obtain⟨i',_,e,_⟩:=D9 hI h1 (ax _) hq i (by omega) hc
      omega
     ·have:=sU g3
      grind
    ·rw[ah hp0] at hn;cases hn
 |n+1,d,f,h,hf,iV,hn,hp,bI=>by
  obtain⟨f,rfl⟩:∃f',f=f'+1:=⟨f - 1,by omega⟩
  have h0:nf d≠none:=iV 0 (by omega)
  cases hq:nf d with
  |none=>exact absurd hq h0
  |some p=>
   obtain⟨i,s⟩:=p
   obtain⟨Hc,hok,hi,hs⟩:=h.next hB hq
   have hf':=h.feas1 hB hf hq
   have ru:Go.Proofs.YtaedcknhkjpmlaaGreat.nx d=gp d i s:=by unfold Go.Proofs.YtaedcknhkjpmlaaGreat.nx;rw[hq]
   obtain⟨s',d',e1,e2,e3,e4,e5,e6⟩:=Ok.improveF hB n (gp d i s) f hok hf' (fun u hu=>by rw[←ru,←BD];exact iV (u+1) (by omega)) (by rw[←ru,←BD];exact hn) (by show d.piv+1+n≤d.most;omega) (by omega)
   refine⟨s',d',?_,e2,e3,Hc.good.same.trans e4,by rw[e5];show d.piv+1+(n:Int)=_;omega,e6⟩
   have SZ:=Hc.good.pivotP (by omega)
   unfold Go.Proofs.YtaedcknhkjpmlaaGreat.g7
   unfold nf at hq
   cases he:ku d.gc with
   |none=>rw[he] at hq;cases hq
   |some s2=>
    rw[he] at hq
    dsimp only at hq ⊢
    cases hl:jm d.rows s2 default d.rows.length with
    |none=>rw[hl] at hq;cases hq
    |some p=>
     rw[hl] at hq
     dsimp only at hq ⊢
     by_cases hp0:p.1<0
     ·rw[ai hp0] at hq;cases hq
     ·rw[ah hp0] at hq ⊢
      injection hq with hq
      injection hq with q1 q2
      rw[q1,q2,SZ]
      exact e1
theorem Ok.improve(h:Ok M k0 d w m)(hB:Bd M k0 w m β)(hf:sy d){N:Nat}(hN:∀k,ny w k≤N)(hp:d.piv+N≤d.most):
  ∃s d',aS d=((s,0),d')∧Ok M k0 d' w m∧sy d'∧rk d d' w∧d'.piv≤d.piv+N∧((s=-1∧∀t,t<w→rv d'.gc[t]!≤0)∨∃s':Nat,s=(s':Int)∧s'<w∧0<rv d'.gc[s']!∧∀i,i<m→0≤rv d'.rows[i]!.c[s']!):=by
 obtain⟨n,h1,h2,h3⟩:=h.stops hB hf hN
 obtain⟨s,d',e1,e2,e3,e4,e5,e6⟩:=Ok.improveF hB n d ((d.most - d.piv).toNat+1) h hf h3 h2 (by omega) (by omega)
 exact⟨s,d',e1,e2,e3,e4,by omega,e6⟩
end
end
section
def BT:Nat:=131072
def KT:Nat:=2 ^ 132
def ZT:Nat:=2 ^ 154
structure Sz(m nn:Nat)(A B C:List Nu):Prop where
 m6:m≤6
 n5:nn≤5
 lA:A.length=m*nn
 lB:B.length=m
 lC:C.length=nn
 gA:∀i,i<m*nn→ar A[i]! =true∧IsI (rv A[i]!) BT
 gB:∀i,i<m→ar B[i]! =true∧IsI (rv B[i]!) BT
 gC:∀k,k<nn→ar C[k]! =true∧IsI (rv C[k]!) BT
theorem LF {m:Nat}(h:m≤6):Kf m BT≤KT:=by
 have:m=0∨m=1∨m=2∨m=3∨m=4∨m=5∨m=6:=by omega
 rcases this with rfl|rfl|rfl|rfl|rfl|rfl|rfl <;> exact a9 rfl
theorem KT_lim:2*(KT*(KT*KT))<LIM:=a9 rfl
theorem Jr:2*(ZT*ZT)<LIM:=a9 rfl
theorem UW:ZT<LIM:=a9 rfl
theorem Kf_lim {m:Nat}(h:m≤6):2*(Kf m BT*(Kf m BT*Kf m BT))<LIM:=by
 have h1:=LF h
 have h2:=kD h1 (kD h1 h1)
 have h3:=KT_lim
 omega
theorem JD:1≤BT:=by decide
theorem yQ(a:Nat)(f:Nat→Rat):∀b,aN (a+b) f=aN a f+aN b fun i=>f (a+i)
 |0=>by show aN a f=aN a f+0;grind
 |b+1=>by
  show aN (a+b) f+f (a+b)=aN a f+(aN b (fun i=>f (a+i))+f (a+b))
  rw[yQ a f b];grind
theorem sum3(m nn:Nat)(f:Nat→Rat):aN (1+nn+m) f=f 0+aN nn (fun k=>f (k+1))+aN m fun i=>f (1+nn+i):=by
 rw[yQ (1+nn) f m,yQ 1 f nn]
 have:aN 1 f=f 0:=by show 0+f 0=f 0;grind
 rw[this,az (f:=fun i=>f (1+i)) (g:=fun k=>f (k+1)) fun k _=>by rw[qw]]
theorem Ay:∀{n:Nat} {f:Nat→Col},(∀r,r<n→f n r=0)→f n n=1→det (n+1) f=det n f
 |0,f,_,h1=>by
  show aN 0 _+sgd 0*(f 0 0*det 0 (kL f 0))=1
  rw[h1]
  show (0:Rat)+sgd 0*(1*1)=1
  unfold sgd
  rw[ai rfl]
  grind
 |n+1,f,h0,h1=>by
  show aN (n+1) (fun j=>sgd j*(f j 0*det (n+1) (kL f j)))+sgd (n+1)*(f (n+1) 0*det (n+1) (kL f (n+1)))=aN (n+1) fun j=>sgd j*(f j 0*det n (kL f j))
  rw[h0 0 (by omega),az (g:=fun j=>sgd j*(f j 0*det n (kL f j))) fun j hj=>?_]
  ·grind
  ·have hs:skip j n=n+1:=ah (by omega)
   rw[Ay (f:=kL f j) (n:=n)]
   ·intro r hr
    show f (skip j n) (r+1)=0
    rw[hs];exact h0 (r+1) (by omega)
   ·show f (skip j n) (n+1)=1
    rw[hs];exact h1
theorem Ue:∀n,det n (fun i r=>if i=r then 1 else 0)=1
 |0=>rfl
 |n+1=>by
  rw[Ay (fun r hr=>ah (by omega)) (ai rfl)]
  exact Ue n
def Mq(q:QD):Nat→Col:=fun t r=>(if t=q.b r then 1 else 0) - q.c r t
theorem QOk.vi {q:QD}{m w:Nat}(h:QOk q m w):VI (Mq q) q.k q m w:=by
 have hM:∀i r,i<m→r<m→Mq q (q.b i) r=if i=r then 1 else 0:=fun i r hi hr=>by
  unfold Mq
  rw[h.z r i hr hi]
  by_cases e:i=r
  ·rw[ai e,ai (by rw[e])];grind
  ·rw[ah e,ah (fun e2=>e (h.inj i r hi hr e2))];grind
 have one:∀(f:Nat→Rat) r,r<m→aN m (fun i=>f i*Mq q (q.b i) r)=f r:=fun f r hr=>by
  rw[az (g:=fun i=>if i=r then f r else 0) fun i hi=>?_,mc r _ m hr]
  rw[hM i r hi hr]
  by_cases e:i=r
  ·rw[ai e,ai e,e];grind
  ·rw[ah e,ah e];grind
 refine⟨fun r hr=>(one q.k r hr).symm,fun t ht Q9 r hr=>?_,?_⟩
 ·rw[one (fun i=>q.c i t) r hr]
  unfold Mq
  rw[ah (fun e=>Q9 r hr e.symm)];grind
 ·rw[ud (g:=fun i r=>if i=r then 1 else 0) fun i hi r hr=>hM i r hi hr,Ue]
  grind
theorem Inv.start {d:Dic}{w m:Nat}(h:Inv d w)(hl:d.rows.length=m)(hm:m≤6)(hk:∀i,i<m→IsI (rv d.rows[i]!.k) BT)(hgk:IsI (rv d.gk) BT)(hc:∀i t,i<m→t<w→IsI (rv d.rows[i]!.c[t]!) BT)(hgc:∀t,t<w→IsI (rv d.gc[t]!) BT):
  Ok (Mq (qd d w m)) (qd d w m).k d w m∧Bd (Mq (qd d w m)) (qd d w m).k w m BT∧(∀r,r<m→Mq (qd d w m) w r=0)∧Mq (qd d w m) w m=1:=by
 have hq:=h.qok hl
 have hC:∀r t,r<m+1→t<w+1→IsI ((qd d w m).c r t) BT:=fun r t hr ht=>by
  by_cases Iy:t=w
  ·rw[Iy,DO];exact IsI.zero _
  ·rcases dX r m with Hd|Hd
   ·rw[Bm Hd (by omega)];exact hc r t Hd (by omega)
   ·obtain rfl:r=m:=by omega
    rw[Co (by omega)];exact hgc t (by omega)
 have hbw:∀r,r<m→(qd d w m).b r≠w:=fun r hr=>by
  have:=h.rng r (by omega)
  rw[z8 hr];omega
 refine⟨⟨h,hl,hq.vi⟩,⟨fun t ht r hr=>?_,fun r hr=>?_,Kf_lim hm⟩,fun r hr=>?_,?_⟩
 ·unfold Mq
  by_cases e:t=(qd d w m).b r
  ·rw[ai e,e,hq.z r r hr hr,show (1:Rat) - 0=1 by grind]
   exact IsI.one JD
  ·rw[ah e,show (0:Rat) - (qd d w m).c r t=-(qd d w m).c r t by grind]
   exact (hC r t hr ht).neg
 ·rcases dX r m with Hd|Hd
  ·rw[DN Hd];exact hk r Hd
  ·obtain rfl:r=m:=by omega
   rw[Kj];exact hgk
 ·unfold Mq
  rw[ah (fun e=>hbw r hr e.symm),DO];grind
 ·unfold Mq
  rw[o6,ai rfl,DO];grind
section
variable {m nn:Nat} {A B C:List Nu} {most:Int}
theorem Sz.idx(_:Sz m nn A B C){i k:Nat}(hi:i<m)(hk:k<nn):i*nn+k<m*nn:=by
 calc i*nn+k<i*nn+nn:=by omega
  _=(i+1)*nn:=by rw[bX];omega
  _≤m*nn:=cK _ hi
theorem Do {i t:Nat}(hi:i<m)(ht:t<1+nn+m):(aG m nn A B most).rows[i]!.c[t]! =if 1≤t∧t≤nn then eZ A[i*nn+(t - 1)]! else nOf 0:=by
 rw[eO hi]
 exact c8 (bK _ ht)
theorem s9 {i:Nat}(hi:i<m):(aG m nn A B most).rows[i]!.k=B[i]! :=by rw[eO hi]
theorem Sz.inv(h:Sz m nn A B C):Inv (aG m nn A B most) (1+nn+m):=Hl h.lA h.lB (fun i hi=>(h.gA i (by rw[←h.lA];exact hi)).1) fun i hi=>(h.gB i (by rw[←h.lB];exact hi)).1
theorem Sz.intC(h:Sz m nn A B C){i t:Nat}(hi:i<m)(ht:t<1+nn+m):IsI (rv (aG m nn A B most).rows[i]!.c[t]!) BT:=by
 rw[Do hi ht]
 split
 ·rename_i h1
  rw[lW]
  exact (h.gA _ (h.idx hi (by omega))).2.neg
 ·rw[of0.2];exact IsI.zero _
def Eqs(m nn:Nat)(A B:List Nu)(x0:Rat)(y:Nat→Rat):Prop:=∀i,i<m→y (1+nn+i)=rv B[i]! - aN nn (fun k=>rv A[i*nn+k]! *y (k+1))+x0
theorem CE(x:Nu){i:Nat}(hi:i<m)(y:Nat→Rat):bM (1+nn+m) (aG m nn A B most).rows[i]!.k ((aG m nn A B most).rows[i]!.c.set 0 x) y=rv B[i]! - aN nn (fun k=>rv A[i*nn+k]! *y (k+1))+rv x*y 0:=by
 have hl:(aG m nn A B most).rows[i]!.c.length=1+nn+m:=by rw[eO hi];simp
 unfold bM
 have hg:∀t,t<1+nn+m→((aG m nn A B most).rows[i]!.c.set 0 x)[t]! =if 0=t then x else (aG m nn A B most).rows[i]!.c[t]! :=fun t ht=>eD (by omega)
 rw[sum3,s9 hi,hg 0 (by omega),ai rfl]
 have e1:aN nn (fun k=>rv ((aG m nn A B most).rows[i]!.c.set 0 x)[k+1]! *y (k+1))=aN nn (fun k=>(-1)*(rv A[i*nn+k]! *y (k+1))):=az fun k hk=>by
  rw[hg (k+1) (by omega),ah (by omega),Do hi (by omega),ai (by omega),lW,vb];grind
 have e2:aN m (fun j=>rv ((aG m nn A B most).rows[i]!.c.set 0 x)[1+nn+j]! *y (1+nn+j))=aN m (fun _=>0):=az fun j hj=>by
  rw[hg (1+nn+j) (by omega),ah (by omega),Do hi (by omega),ah (by omega),of0.2];grind
 rw[e1,e2,eR,g5]
 grind
theorem QG(y:Nat→Rat):Sol (aG m nn A B most) (1+nn+m) y↔Eqs m nn A B 0 y:=by
 have h:∀i,i<m→bM (1+nn+m) (aG m nn A B most).rows[i]!.k (aG m nn A B most).rows[i]!.c y=rv B[i]! - aN nn (fun k=>rv A[i*nn+k]! *y (k+1))+0:=fun i hi=>by
  have h1:=CE (most:=most) (A:=A) (B:=B) (nn:=nn) (nOf 0) hi y
  have h2:(aG m nn A B most).rows[i]!.c.set 0 (nOf 0)=(aG m nn A B most).rows[i]!.c:=by
   have hl:(aG m nn A B most).rows[i]!.c.length=1+nn+m:=by rw[eO hi];simp
   refine (ni (n:=1+nn+m) (f:=fun t=>(aG m nn A B most).rows[i]!.c[t]!) (by rw[cY];exact hl) fun t ht=>?_).trans (ni hl fun t ht=>rfl).symm
   rw[eD (by omega)]
   split
   ·rename_i e
    rw[←e,Do hi (by omega),ah (by omega)]
   ·rfl
  rw[h2,of0.2] at h1
  rw[h1];grind
 have hb:∀i,i<m→(aG m nn A B most).rows[i]!.b.toNat=1+nn+i:=fun i hi=>by rw[rA i hi];omega
 constructor
 ·intro hy i hi
  have:=hy i (by rw[jN];exact hi)
  rwa[hb i hi,h i hi] at this
 ·intro hy i hi
  rw[jN] at hi
  rw[hb i hi,h i hi]
  exact hy i hi
theorem pm {i:Nat}(hi:i<m):(co (aG m nn A B most)).rows[i]! =ue (nOf 1) (aG m nn A B most).rows[i]! :=Ah (by rw[jN];exact hi)
theorem tW:(co (aG m nn A B most)).rows.length=m:=by
 show ((aG m nn A B most).rows.map _).length=m
 rw[bb,jN]
theorem GV(y:Nat→Rat):Sol (co (aG m nn A B most)) (1+nn+m) y↔Eqs m nn A B (y 0) y:=by
 have h:∀i,i<m→bM (1+nn+m) (co (aG m nn A B most)).rows[i]!.k (co (aG m nn A B most)).rows[i]!.c y=rv B[i]! - aN nn (fun k=>rv A[i*nn+k]! *y (k+1))+y 0:=fun i hi=>by
  rw[pm hi]
  have:=CE (most:=most) (A:=A) (B:=B) (nn:=nn) (nOf 1) hi y
  rw[of1.2] at this
  refine this.trans ?_
  grind
 have hb:∀i,i<m→(co (aG m nn A B most)).rows[i]!.b.toNat=1+nn+i:=fun i hi=>by
  rw[pm hi]
  show (aG m nn A B most).rows[i]!.b.toNat=_
  rw[rA i hi];omega
 constructor
 ·intro hy i hi
  have:=hy i (by rw[tW];exact hi)
  rwa[hb i hi,h i hi] at this
 ·intro hy i hi
  rw[tW] at hi
  rw[hb i hi,h i hi]
  exact hy i hi
theorem Kg {t:Nat}(ht:t<1+nn+m):(co (aG m nn A B most)).gc[t]! =if t=0 then nOf (-1) else nOf 0:=by
 show ((List.replicate (1+nn+m) (nOf 0)).set 0 (nOf (-1)))[t]! =_
 rw[eD (by simpa using ht)]
 by_cases h:t=0
 ·rw[ai h,ai h.symm]
 ·rw[ah h,ah (fun e=>h e.symm),mE ht]
theorem yS(y:Nat→Rat):bM (1+nn+m) (co (aG m nn A B most)).gk (co (aG m nn A B most)).gc y=-y 0:=by
 unfold bM
 rw[az (g:=fun t=>if t=0 then -y 0 else 0) fun t ht=>?_,mc 0 _ _ (by omega)]
 ·show rv (nOf 0)+_=_
  rw[of0.2];grind
 ·rw[Kg ht]
  by_cases h:t=0
  ·rw[ai h,ai h,ofm1.2,h];grind
  ·rw[ah h,ah h,of0.2];grind
theorem Sz.startInv(h:Sz m nn A B C):Inv (co (aG m nn A B most)) (1+nn+m):=by
 have hI:=h.inv (most:=most)
 have h0:∀j,j<(aG m nn A B most).rows.length→(aG m nn A B most).rows[j]!.b≠0:=fun j hj=>by
  rw[jN] at hj
  rw[rA j hj];omega
 refine hI.col of1.1 (.inl h0) (by rw[cY];exact hI.fine.lg) (rk.fine hI ofm1.1 _ _ hI.fine.lg hI.fine.gg) (fun j hj=>?_) 0
 have:=hI.rng j hj
 have:=h0 j hj
 have:=hI.fine.lg
 rw[eD (by omega),ah (by omega)]
 exact hI.zg j hj
theorem Sz.firstOk(h:Sz m nn A B C):let d:=aG m nn A B most;Ok (Mq (qd d (1+nn+m) m)) (qd d (1+nn+m) m).k d (1+nn+m) m∧Bd (Mq (qd d (1+nn+m) m)) (qd d (1+nn+m) m).k (1+nn+m) m BT∧(∀r,r<m→Mq (qd d (1+nn+m) m) (1+nn+m) r=0)∧Mq (qd d (1+nn+m) m) (1+nn+m) m=1:=by
 refine h.inv.start jN h.m6 (fun i hi=>?_) ?_ (fun i t hi ht=>h.intC hi ht) (fun t ht=>?_)
 ·rw[s9 hi];exact (h.gB i hi).2
 ·show IsI (rv (nOf 0)) BT
  rw[of0.2];exact IsI.zero _
 ·show IsI (rv (List.replicate (1+nn+m) (nOf 0))[t]!) BT
  rw[mE ht,of0.2];exact IsI.zero _
theorem Sz.startOk(h:Sz m nn A B C):let d:=co (aG m nn A B most);Ok (Mq (qd d (1+nn+m) m)) (qd d (1+nn+m) m).k d (1+nn+m) m∧Bd (Mq (qd d (1+nn+m) m)) (qd d (1+nn+m) m).k (1+nn+m) m BT∧(∀r,r<m→Mq (qd d (1+nn+m) m) (1+nn+m) r=0)∧Mq (qd d (1+nn+m) m) (1+nn+m) m=1:=by
 refine h.startInv.start tW h.m6 (fun i hi=>?_) ?_ (fun i t hi ht=>?_) (fun t ht=>?_)
 ·rw[pm hi]
  show IsI (rv (aG m nn A B most).rows[i]!.k) BT
  rw[s9 hi];exact (h.gB i hi).2
 ·show IsI (rv (nOf 0)) BT
  rw[of0.2];exact IsI.zero _
 ·rw[pm hi]
  show IsI (rv ((aG m nn A B most).rows[i]!.c.set 0 (nOf 1))[t]!) BT
  rw[eD (by rw[eO hi];simpa using ht)]
  split
  ·rw[of1.2];exact IsI.one JD
  ·exact h.intC hi ht
 ·rw[Kg ht]
  split
  ·rw[ofm1.2];exact (IsI.one JD).neg
  ·rw[of0.2];exact IsI.zero _
end
theorem OB {l:List Row}(hg:∀i,i<l.length→ar l[i]!.k=true):∀n,n≤l.length→∀j,j<n→rv l[jX l n]!.k≤rv l[j]!.k
 |0,_,j,hj=>by omega
 |n+1,hn,j,hj=>by
  have ih:=OB hg n (by omega)
  have bI:jX l n<l.length:=by
   have:=Ak l n
   omega
  obtain⟨_,_,c3,_⟩:=oI (hg n (by omega)) (hg (jX l n) bI)
  unfold jX
  by_cases h:nh l[n]!.k l[jX l n]!.k<0
  ·rw[ai h]
   have h2:=c3.1 h
   rcases dX j n with tQ|tQ
   ·have:=ih j tQ;grind
   ·obtain rfl:j=n:=by omega
    grind
  ·rw[ah h]
   rcases dX j n with tQ|tQ
   ·exact ih j tQ
   ·obtain rfl:j=n:=by omega
    have:¬rv l[j]!.k<rv l[jX l j]!.k:=fun e=>h (c3.2 e)
    grind
section
variable {M:Nat→Col} {k0:Col} {d:Dic} {w m:Nat}
theorem Inv.bnon(h:Inv d w)(hf:sy d){t:Nat}:0≤Go.Proofs.YtaedcknhkjpmlaaGreat.m7 d t:=by
 by_cases hb:Bas d t
 ·obtain⟨j,hj,e⟩:=hb
  have:=h.rng j hj
  have:=h.bsol_row hj
  rw[show d.rows[j]!.b.toNat=t by omega] at this
  rw[this];exact hf j hj
 ·rw[lz hb];exact Rat.le_refl
theorem Inv.bounded(hI:Inv d w)(hf:sy d)(hw:0<w){s:Nat}(hs:s<w)(hg:0<rv d.gc[s]!)(hc:∀i,i<d.rows.length→0≤rv d.rows[i]!.c[s]!)(sY:∀y,Sol d w y→bM w d.gk d.gc y=-y 0):False:=by
 have Ta:¬Bas d s:=fun hb=>by
  have:=(hI.bas hb).2.1
  rw[this,of0.2] at hg;grind
 have hgk:rv d.gk≤0:=by
  have h1:=sY _ hI.bsol
  rw[hI.bgoal] at h1
  have:=hI.bnon hf (t:=0)
  grind
 obtain⟨l,hl,hl0⟩:∃l:Rat,rv d.gc[s]! *l=1 - rv d.gk∧0≤l:=by
  refine⟨(1 - rv d.gk) / rv d.gc[s]!,?_,CG (by grind) hg⟩
  rw[iL]
  have:=w3 (rv d.gc[s]!) (by grind)
  grind
 obtain⟨y,hy,hv⟩:=hI.pick fun r=>if r=s then l else 0
 have Qe:y s=l:=by rw[hv s fun j hj e=>Ta ⟨j,hj,e⟩,ai rfl]
 have h0:∀t,t<w→¬Bas d t→t≠s→y t=0:=fun t _ hb rt=>by rw[hv t fun j hj e=>hb ⟨j,hj,e⟩,ah rt]
 obtain⟨h1,h2⟩:=hI.at hs Ta hy h0
 rw[sY y hy,Qe,hl] at h2
 have h3:0≤y 0:=by
  by_cases hb:Bas d 0
  ·obtain⟨j,hj,e⟩:=hb
   have:=h1 j hj
   rw[show d.rows[j]!.b.toNat=0 by omega,Qe] at this
   rw[this]
   have a:=E0 (hc j hj) hl0
   have b:=hf j hj
   grind
  ·by_cases hs0:0=s
   ·rw[hs0,Qe];exact hl0
   ·rw[h0 0 hw hb hs0];exact Rat.le_refl
 grind
end
section
variable {m nn:Nat} {A B C:List Nu} {most:Int}
theorem Sz.begin(h:Sz m nn A B C){i0:Nat}(hi0:i0<m)(oc:rv B[i0]! <0){N:Nat}(hN:∀k,ny (1+nn+m) k≤N)(Eh:(N:Int)+10≤most):∃M k0 d',jO (aG m nn A B most)=(0,d')∧Ok M k0 d' (1+nn+m) m∧Bd M k0 (1+nn+m) m BT∧(∀r,r<m→M (1+nn+m) r=0)∧M (1+nn+m) m=1∧sy d'∧rk (co (aG m nn A B most)) d' (1+nn+m)∧d'.piv≤N+2∧
  ((bD d'.gk<0∧∀t,t<1+nn+m→rv d'.gc[t]!≤0)∨(¬bD d'.gk<0∧∀j,j<m→d'.rows[j]!.b≠0)):=by
 obtain⟨hok,hB,M0,Rh⟩:=h.startOk (most:=most)
 generalize hMe:Mq (qd (co (aG m nn A B most)) (1+nn+m) m)=M at hok hB M0 Rh
 generalize hke:(qd (co (aG m nn A B most)) (1+nn+m) m).k=k0 at hok hB
 have Th:(aG m nn A B most).rows.length=m:=jN
 have mF:=Ak (aG m nn A B most).rows m
 have hat:jX (aG m nn A B most).rows m<m:=by omega
 have Ei:=OB (l:=(aG m nn A B most).rows) (fun i hi=>by rw[Th] at hi;rw[s9 hi];exact (h.gB i hi).1) m (by omega)
 generalize Em:jX (aG m nn A B most).rows m=at' at hat Ei
 have sk:∀i,i<m→(co (aG m nn A B most)).rows[i]!.k=B[i]! :=fun i hi=>by rw[pm hi];exact s9 hi
 have sc:∀i,i<m→(co (aG m nn A B most)).rows[i]!.c[0]! =nOf 1:=fun i hi=>by
  rw[pm hi]
  show ((aG m nn A B most).rows[i]!.c.set 0 (nOf 1))[0]! =_
  rw[eD (by rw[eO hi];simp;omega),ai rfl]
 have hmin':∀j,j<m→rv B[at']!≤rv B[j]! :=fun j hj=>by
  have:=Ei j hj
  rwa[s9 hat,s9 hj] at this
 have tP:∀j,j<(co (aG m nn A B most)).rows.length→(co (aG m nn A B most)).rows[j]!.b≠((0:Nat):Int):=fun j hj=>by
  rw[tW] at hj
  rw[pm hj]
  show (aG m nn A B most).rows[j]!.b≠_
  rw[rA j hj];omega
 obtain⟨hG,Ao,_,Ti⟩:=hok.pivot hB hat (show 0<1+nn+m by omega) tP (by rw[sc at' hat,of1.2];grind)
 have jH:=hG.pivotP (show (0:Int)<most by omega)
 have OS:sy (gp (co (aG m nn A B most)) at' 0):=fun i hi=>by
  rw[d7,tW] at hi
  rw[Ti i hi,sk at' hat,sc at' hat,of1.2,sk i hi]
  have e1:=hmin' i hi
  have e2:=hmin' i0 hi0
  have e3:-rv B[at']! / 1=-rv B[at']! :=by rw[iL];have:=w3 (1:Rat) (by grind);grind
  split
  ·rw[e3];grind
  ·rw[e3,sc i hi,of1.2];grind
 have Qz:rk (co (aG m nn A B most)) (gp (co (aG m nn A B most)) at' 0) (1+nn+m):=hG.same
 have hpv1:(gp (co (aG m nn A B most)) at' 0).piv=1:=rfl
 have hmo1:(gp (co (aG m nn A B most)) at' 0).most=most:=rfl
 generalize Di:gp (co (aG m nn A B most)) at' 0=d1 at Ao jH OS Qz hpv1 hmo1
 obtain⟨s,d3,e1,KI,OR,hS3,hpv3,KK⟩:=Ao.improve hB OS hN (by omega)
 have hS:rk (co (aG m nn A B most)) d3 (1+nn+m):=Qz.trans hS3
 have sY:∀y,Sol d3 (1+nn+m) y→bM (1+nn+m) d3.gk d3.gc y=-y 0:=fun y hy=>by
  rw[hS.goal y ((hS.sol y).1 hy)];exact yS y
 have QA:=KI.inv
 have hl3:=KI.len
 have OQ:=(bm.1 QA.fine.gg)
 have hend2:s=-1∧∀t,t<1+nn+m→rv d3.gc[t]!≤0:=by
  rcases KK with e|⟨s',_,a2,a3,a4⟩
  ·exact e
  ·exact (QA.bounded OR (by omega) a2 a3 (fun i hi=>a4 i (by omega)) sY).elim
 unfold jO
 rw[Th,Em]
 dsimp only
 rw[jH]
 dsimp only
 rw[ah (by simp),e1]
 dsimp only
 by_cases hgn:bD d3.gk<0
 ·rw[ai (.inr hgn)]
  exact⟨M,k0,d3,rfl,KI,hB,M0,Rh,OR,hS,by omega,.inl ⟨hgn,hend2.2⟩⟩
 ·rw[ah (by simp;omega)]
  have hgk0:rv d3.gk=0:=by
   have h1:=sY _ QA.bsol
   rw[QA.bgoal] at h1
   have h2:=QA.bnon OR (t:=0)
   have h3:¬rv d3.gk<0:=fun e=>hgn ((sU OQ.1).2 e)
   grind
  rcases rB d3.rows 0 with⟨h5,h6⟩|⟨i,h5,h6,h7⟩
  ·rw[ai (by rw[h5];decide)]
   exact⟨M,k0,d3,rfl,KI,hB,M0,Rh,OR,hS,by omega,.inr ⟨hgn,fun j hj=>h6 j (by omega)⟩⟩
  ·rw[ah (by omega),h6,show ((i:Int)).toNat=i by omega]
   -- rI row of 0 has rI constant 0
   have hki:rv d3.rows[i]!.k=0:=by
    have h1:=sY _ QA.bsol
    rw[QA.bgoal,hgk0] at h1
    have h2:=QA.bsol_row h5
    rw[h7] at h2
    rw[←h2]
    show m7 d3 0=0
    grind
   have hli:=QA.fine.lr i h5
   have JI:=(bm.1 (QA.fine.gr i h5)).2
   cases hz:yh d3.rows[i]!.c with
   |none=>
    exfalso
    have hzz:∀t,t<1+nn+m→d3.rows[i]!.c[t]! =nOf 0:=fun t ht=>by
     unfold yh at hz
     have:=u7.1 hz d3.rows[i]!.c[t] (nO (by omega))
     refine good0 (JI t (by omega)) ?_
     rw[bL _ t (by omega)]
     simpa using this
    -- numbers with y 0=1 fit rI start
    obtain⟨y,hy,hy0⟩:∃y,Sol (co (aG m nn A B most)) (1+nn+m) y∧y 0=1:=by
     refine⟨fun t=>if t=0 then 1 else if t<1+nn then 0 else rv B[t - (1+nn)]! +1,(GV _).2 fun j hj=>?_,ai rfl⟩
     rw[ah (by omega),ah (by omega),ai rfl,show 1+nn+j - (1+nn)=j by omega,az (g:=fun _=>0) fun k hk=>?_,eR]
     ·grind
     ·rw[ah (by omega),ai (by omega)];grind
    have h1:=(hS.sol y).2 hy i h5
    rw[h7] at h1
    have h2:bM (1+nn+m) d3.rows[i]!.k d3.rows[i]!.c y=0:=by
     unfold bM
     rw[az (g:=fun _=>0) fun t ht=>by rw[hzz t ht,of0.2];grind,eR,hki]
     grind
    rw[h2] at h1
    have h3:y 0=0:=h1
    rw[hy0] at h3
    grind
   |some s2=>
    dsimp only
    obtain⟨z1,z2,_⟩:=oO.1 hz
    have z2:bD d3.rows[i]!.c[s2]!≠0:=by rw[bL _ s2 z1];simpa using z2
    have LT:s2<1+nn+m:=by omega
    have fI:rv d3.rows[i]!.c[s2]!≠0:=fun e=>z2 ((zZ (JI s2 z1)).2 e)
    obtain⟨hG4,hok4,_,hk4⟩:=KI.pivot hB (show i<m by omega) LT (QA.rowNz h5 z2) fI
    have hmost3:d3.most=most:=hS.most
    have hp4:=hG4.pivotP (by omega)
    rw[hp4]
    have hS4:=hS.trans hG4.same
    have hz0:-rv d3.rows[i]!.k / rv d3.rows[i]!.c[s2]! =0:=by rw[hki,iL];grind
    have OW:∀j,j<m→(gp d3 i s2).rows[j]!.b≠0:=fun j hj=>by
     rw[pp (by omega)]
     have hs20:s2≠0:=fun e=>by
      have:=QA.zr i i h5 h5
      rw[h7] at this
      rw[e] at fI
      exact fI (by rw[show d3.rows[i]!.c[0]! =nOf 0 from this];exact of0.2)
     split
     ·omega
     ·rename_i zF
      intro e
      exact zF (QA.inj j i (by omega) h5 (by rw[e,h7]))
    have hf4:sy (gp d3 i s2):=fun j hj=>by
     rw[d7] at hj
     rw[hk4 j (by omega),hz0]
     split
     ·exact Rat.le_refl
     ·have:=OR j hj
      grind
    have hgk4:rv (gp d3 i s2).gk=0:=by
     have h1:=hS4.goal _ ((hS4.sol _).1 hok4.inv.bsol)
     rw[hok4.inv.bgoal,yS,lz (fun⟨j,hj,e⟩=>OW j (by rw[d7] at hj;omega) (by rw[e];rfl))] at h1
     rw[h1];grind
    refine⟨M,k0,gp d3 i s2,rfl,hok4,hB,M0,Rh,hf4,hS4,by show d3.piv+1≤_;omega,.inr ⟨fun e=>?_,OW⟩⟩
    have:=(sU (bm.1 hok4.inv.fine.gg).1).1 e
    rw[hgk4] at this
    grind
end
end
section
theorem addK_ok {q x l:Nu}(hq:ar q=true)(hx:ar x=true)(hl:ar l=true)(p1:Pq ZT (rv l))(p2:Pq ZT (rv q*rv x)):ar (xf q x l)=true∧rv (xf q x l)=rv l+rv q*rv x:=by
 unfold xf
 by_cases h0:bD q=0
 ·rw[ai h0,(zZ hq).1 h0]
  exact⟨hl,by grind⟩
 ·rw[ah h0]
  obtain⟨g1,g2⟩:=ry hq hx (p2.fit UW)
  obtain⟨g3,g4⟩:=pB hl g1 p1 (by rw[g2];exact p2) Jr
  exact⟨g3,by rw[g4,g2]⟩
theorem addC_ok {q:Nu}{xc lc:List Nu}{w:Nat}(hlc:lc.length=w)(hq:ar q=true)(hx:∀t,t<w→ar xc[t]! =true)(hl:∀t,t<w→ar lc[t]! =true)(p1:∀t,t<w→Pq ZT (rv lc[t]!))(p2:∀t,t<w→Pq ZT (rv q*rv xc[t]!)):∀t,t<w→ar (uk q xc (-1) lc)[t]! =true∧rv (uk q xc (-1) lc)[t]! =rv lc[t]! +rv q*rv xc[t]! :=by
 intro t ht
 unfold uk
 by_cases h0:bD q=0
 ·rw[ai h0,(zZ hq).1 h0]
  exact⟨hl t ht,by grind⟩
 ·rw[ah h0,Dt _ _ _ _ t (by omega),ai (by omega)]
  obtain⟨g1,g2⟩:=ry hq (hx t ht) ((p2 t ht).fit UW)
  obtain⟨g3,g4⟩:=pB (hl t ht) g1 (p1 t ht) (by rw[g2];exact p2 t ht) Jr
  exact⟨g3,by rw[g4,g2]⟩
def gT(C:List Nu)(k t:Nat):Rat:=if 1≤t∧t≤k then rv C[t - 1]! else 0
theorem IK {C:List Nu}{k t:Nat}:gT C (k+1) t=gT C k t+if t=k+1 then rv C[k]! else 0:=by
 unfold gT
 by_cases h:t=k+1
 ·rw[ai h,ai (by omega),ah (by omega),h,vb];grind
 ·rw[ah h]
  by_cases h2:1≤t∧t≤k
  ·rw[ai h2,ai (by omega)];grind
  ·rw[ah h2,ah (by omega)];grind
theorem TU {C:List Nu}{k t:Nat}(h:t≠k+1):gT C (k+1) t=gT C k t:=by rw[IK,ah h];grind
section
variable {M:Nat→Col} {k0:Col} {d:Dic} {w m nn:Nat} {C:List Nu}
open Classical in
structure AimI(l:List Row)(w m:Nat)(C:List Nu)(bas:Nat→Prop)(k:Nat)(g:Nu×List Nu):Prop where
 len:g.2.length=w
 g1:ar g.1=true
 v1:rv g.1=aN m fun i=>gT C k l[i]!.b.toNat*rv l[i]!.k
 g2:∀t,t<w→ar g.2[t]! =true
 v2:∀t,t<w→rv g.2[t]! =(if bas t then 0 else gT C k t)+aN m fun i=>gT C k l[i]!.b.toNat*rv l[i]!.c[t]!
 sol:∀y:Nat→Rat,(∀i,i<m→y l[i]!.b.toNat=bM w l[i]!.k l[i]!.c y)→bM w g.1 g.2 y=aN k fun j=>rv C[j]! *y (j+1)
theorem Lv {l:List Row}{D:Rat}(hl:l.length=m)(hm:m≤6)(Qj:nn+1≤w)(hlen:∀i,i<m→l[i]!.c.length=w)(hgk:∀i,i<m→ar l[i]!.k=true)(hgc:∀i t,i<m→t<w→ar l[i]!.c[t]! =true)(hb:∀i,i<m→0≤l[i]!.b∧l[i]!.b<w)
  (t9:∀i j,i<m→j<m→l[i]!.b=l[j]!.b→i=j) (JK:D≠0) (hD:IsI D KT) (hDk:∀i,i<m→Dn D KT (rv l[i]!.k)) (hDc:∀i t,i<m→t<w→Dn D KT (rv l[i]!.c[t]!)) (gC:∀k,k<nn→ar C[k]! =true∧IsI (rv C[k]!) BT):
  ∀k,k≤nn→AimI l w m C (fun t=>∃j,j<m∧l[j]!.b=(t:Int)) k (gJ l w C k)
 |0,_=>by
  have e0:∀t,gT C 0 t=0:=fun t=>by unfold gT;rw[ah (by omega)]
  refine⟨by simp[gJ],of0.1,?_,fun t ht=>?_,fun t ht=>?_,fun y _=>?_⟩
  ·rw[az (g:=fun _=>0) fun i _=>by rw[e0];grind,eR];exact of0.2
  ·show ar (List.replicate w (nOf 0))[t]! =true
   rw[mE ht];exact of0.1
  ·rw[az (g:=fun _=>0) fun i _=>by rw[e0];grind,eR,e0]
   show rv (List.replicate w (nOf 0))[t]! =_
   rw[mE ht,of0.2]
   split <;> grind
  ·show bM w (nOf 0) (List.replicate w (nOf 0)) y=0
   unfold bM
   rw[az (g:=fun _=>0) fun t ht=>by rw[mE ht,of0.2];grind,eR,of0.2];grind
 |k+1,hk=>by
  have ih:=Lv hl hm Qj hlen hgk hgc hb t9 JK hD hDk hDc gC k (by omega)
  obtain⟨q1,q2⟩:=gC k (by omega)
  have hZ:m*(BT*KT)+KT*BT≤ZT:=by
   have:m*(BT*KT)≤6*(BT*KT):=cK _ hm
   have h2:6*(BT*KT)+KT*BT≤ZT:=a9 rfl
   omega
  have hZ2:KT≤ZT:=a9 rfl
  have hZ3:BT*KT≤ZT:=a9 rfl
  have Ri:IsI D ZT:=hD.mono hZ2
  have gI:∀t,IsI (gT C k t) BT:=fun t=>by
   unfold gT
   split
   ·exact (gC _ (by omega)).2
   ·exact IsI.zero _
  have pk:Pq ZT (rv (gJ l w C k).1):=by
   rw[ih.v1]
   refine Dn.pq Ri JK ((Dn.sum (K:=BT*KT) fun i hi=>Dn.int (gI _) (hDk i hi)).mono (by omega))
  have pc:∀t,t<w→Pq ZT (rv (gJ l w C k).2[t]!):=fun t ht=>by
   rw[ih.v2 t ht]
   refine Dn.pq Ri JK ((Dn.add (K:=KT*BT) ?_ (Dn.sum (K:=BT*KT) fun i hi=>Dn.int (gI _) (hDc i t hi ht))).mono (by omega))
   split
   ·exact Dn.zero _ _
   ·exact Dn.of hD (gI t)
  unfold gJ
  dsimp only
  generalize hG:gJ l w C k=g at ih pk pc ⊢
  rcases rB l ((k+1:Nat):Int) with⟨h5,h6⟩|⟨j,h5,h6,h7⟩
  ·rw[ah (by omega)]
   have tP:∀i,i<m→l[i]!.b.toNat≠k+1:=fun i hi e=>h6 i (by omega) (by have:=hb i hi;omega)
   have hs:∀f:Nat→Rat,aN m (fun i=>gT C (k+1) l[i]!.b.toNat*f i)=aN m fun i=>gT C k l[i]!.b.toNat*f i:=fun f=>az fun i hi=>by rw[TU (tP i hi)]
   have hkw:k+1<w:=by omega
   obtain⟨a1,a2⟩:=pB (ih.g2 (k+1) hkw) q1 (pc (k+1) hkw) (Dn.pq Ri JK ((Dn.of hD q2).mono (by omega))) Jr
   have fF:∀t,t<w→(g.2.set (k+1) (jK g.2[k+1]! C[k]!))[t]! =if k+1=t then jK g.2[k+1]! C[k]! else g.2[t]! :=fun t ht=>eD (by rw[ih.len];exact ht)
   refine⟨by dsimp only;rw[cY];exact ih.len,ih.g1,by rw[hs];exact ih.v1,fun t ht=>?_,fun t ht=>?_,fun y hy=>?_⟩
   ·dsimp only
    rw[fF t ht]
    split
    ·exact a1
    ·exact ih.g2 t ht
   ·dsimp only
    rw[fF t ht,hs]
    by_cases e:k+1=t
    ·rw[ai e,a2,ih.v2 (k+1) hkw,←e]
     have hn:¬∃j,j<m∧l[j]!.b=((k+1:Nat):Int):=fun⟨j,hj,e⟩=>h6 j (by omega) e
     rw[ah hn,ah hn,IK,ai rfl];grind
    ·rw[ah e,ih.v2 t ht,TU (fun e2=>e e2.symm)]
   ·dsimp only
    show _=aN k (fun j=>rv C[j]! *y (j+1))+rv C[k]! *y (k+1)
    rw[←ih.sol y hy]
    unfold bM
    rw[az (g:=fun t=>if t=k+1 then (rv g.2[k+1]! +rv C[k]!)*y (k+1) else rv g.2[t]! *y t) fun t ht=>?_,wC _ _ _ hkw]
    ·grind
    ·rw[fF t ht]
     by_cases e:k+1=t
     ·rw[ai e,ai e.symm,a2,e]
     ·rw[ah e,ah (fun e2=>e e2.symm)]
  ·rw[ai (by omega),h6,show ((j:Int)).toNat=j by omega]
   have hj:j<m:=by omega
   have OV:l[j]!.b.toNat=k+1:=by omega
   have hs:∀f:Nat→Rat,aN m (fun i=>gT C (k+1) l[i]!.b.toNat*f i)=aN m (fun i=>gT C k l[i]!.b.toNat*f i)+rv C[k]! *f j:=fun f=>by
    rw[←mc j (rv C[k]! *f j) m hj,←lm (fun i=>gT C k l[i]!.b.toNat*f i)]
    refine az fun i hi=>?_
    rw[IK]
    by_cases e:i=j
    ·rw[ai e,ai (by rw[e];exact OV),e];grind
    ·rw[ah e,ah (fun e2=>e (t9 i j hi hj (by have:=hb i hi;omega)))];grind
   obtain⟨a1,a2⟩:=addK_ok q1 (hgk j hj) ih.g1 pk (Dn.pq Ri JK ((Dn.int q2 (hDk j hj)).mono hZ3))
   have ac:=addC_ok ih.len q1 (fun t ht=>hgc j t hj ht) ih.g2 pc (fun t ht=>Dn.pq Ri JK ((Dn.int q2 (hDc j t hj ht)).mono hZ3))
   refine⟨by dsimp only;rw[uj];exact ih.len,a1,by rw[hs];dsimp only;rw[a2,ih.v1],fun t ht=>(ac t ht).1,fun t ht=>?_,fun y hy=>?_⟩
   ·dsimp only
    rw[(ac t ht).2,ih.v2 t ht,hs]
    by_cases e:∃j,j<m∧l[j]!.b=(t:Int)
    ·rw[ai e,ai e];grind
    ·rw[ah e,ah e,TU (fun e2=>e ⟨j,hj,by omega⟩)];grind
   ·show _=aN k (fun j=>rv C[j]! *y (j+1))+rv C[k]! *y (k+1)
    have:=hy j hj
    rw[OV] at this
    rw[←ih.sol y hy,this]
    unfold bM
    dsimp only
    rw[a2,az (g:=fun t=>rv g.2[t]! *y t+rv C[k]! *(rv l[j]!.c[t]! *y t)) fun t ht=>by rw[(ac t ht).2];grind,lm (fun t=>rv g.2[t]! *y t),g5]
    grind
theorem Ok.aim(h:Ok M k0 d w m)(hB:Bd M k0 w m BT)(hm:m≤6)(M0:∀r,r<m→M w r=0)(Rh:M w m=1)(OW:∀j,j<m→d.rows[j]!.b≠0)(Qj:nn+1≤w)(hC:C.length=nn)(gC:∀k,k<nn→ar C[k]! =true∧IsI (rv C[k]!) BT):
  ∃M2 k2,mN d C=(0,mO d C)∧Ok M2 k2 (mO d C) w m∧Bd M2 k2 w m BT∧(∀y,Sol (mO d C) w y↔Sol d w fun t=>if t=0 then 0 else y t)∧(∀y,Sol (mO d C) w y→bM w (mO d C).gk (mO d C).gc y=aN nn fun k=>rv C[k]! *y (k+1))∧(sy d→sy (mO d C)):=by
 have hI:=h.inv
 have hl:=h.len
 obtain⟨D,b0,b1,b2,b3,b4,b5⟩:=h.bound hB
 have hKf:=LF hm
 obtain⟨l,hle⟩:∃l,l=d.rows.map (ue (nOf 0)):=⟨_,rfl⟩
 have MQ:l.length=m:=by rw[hle,bb];exact hl
 have lget:∀i,i<m→l[i]! =ue (nOf 0) d.rows[i]! :=fun i hi=>by rw[hle];exact Ah (by omega)
 have lk:∀i,i<m→l[i]!.k=d.rows[i]!.k:=fun i hi=>by rw[lget i hi];rfl
 have lb:∀i,i<m→l[i]!.b=d.rows[i]!.b:=fun i hi=>by rw[lget i hi];rfl
 have lcl:∀i,i<m→l[i]!.c.length=w:=fun i hi=>by
  rw[lget i hi]
  show (d.rows[i]!.c.set 0 (nOf 0)).length=w
  rw[cY];exact hI.fine.lr i (by omega)
 have lc:∀i t,i<m→t<w→l[i]!.c[t]! =if 0=t then nOf 0 else d.rows[i]!.c[t]! :=fun i t hi ht=>by
  rw[lget i hi]
  show (d.rows[i]!.c.set 0 (nOf 0))[t]! =_
  exact eD (by rw[hI.fine.lr i (by omega)];exact ht)
 have KG:∀i,i<m→0≤l[i]!.b∧l[i]!.b<w:=fun i hi=>by rw[lb i hi];exact hI.rng i (by omega)
 have t9:∀i j,i<m→j<m→l[i]!.b=l[j]!.b→i=j:=fun i j hi hj e=>hI.inj i j (by omega) (by omega) (by rw[←lb i hi,←lb j hj];exact e)
 have gc:∀i t,i<m→t<w→ar l[i]!.c[t]! =true:=fun i t hi ht=>by
  rw[lc i t hi ht]
  split
  ·exact of0.1
  ·exact (bm.1 (hI.fine.gr i (by omega))).2 t (by rw[hI.fine.lr i (by omega)];exact ht)
 have gk:∀i,i<m→ar l[i]!.k=true:=fun i hi=>by rw[lk i hi];exact (bm.1 (hI.fine.gr i (by omega))).1
 have dk:∀i,i<m→Dn D KT (rv l[i]!.k):=fun i hi=>by rw[lk i hi];exact (b2 i hi).mono hKf
 have dc:∀i t,i<m→t<w→Dn D KT (rv l[i]!.c[t]!):=fun i t hi ht=>by
  rw[lc i t hi ht]
  split
  ·rw[of0.2];exact Dn.zero _ _
  ·exact (b4 i t hi ht).mono hKf
 have A:=Lv MQ hm Qj lcl gk gc KG t9 b0 (b1.mono hKf) dk dc gC nn (ax _)
 have hz:=Lu (c:=C) (w:=w) (l:=l) (fun i hi=>lcl i (by omega)) (fun i hi=>KG i (by omega)) (fun i j hi hj=>by
  have Cw:j<m:=by omega
  have we:i<m:=by omega
  have:=KG j Cw
  rw[lc i _ we (by omega)]
  split
  ·rfl
  ·rw[lb j Cw];exact hI.zr i j (by omega) (by omega)) (fun i hi=>(gC i (by omega)).1) nn (by omega)
 have yo:mO d C=⟨l,(gJ l w C nn).1,(gJ l w C nn).2,d.n,d.piv,d.most⟩:=by unfold mO;rw[hI.fine.lg,←hle,hC]
 obtain⟨g,hg⟩:∃g,g=gJ l w C nn:=⟨_,rfl⟩
 rw[←hg] at A hz yo
 have OO:f7 g.1 g.2=true:=bm.2 ⟨A.g1,fun i hi=>A.g2 i (by rw[←A.len];exact hi)⟩
 have hI2:Inv (mO d C) w:=by
  rw[yo,hle]
  exact hI.col of0.1 (.inr rfl) A.len OO (fun j hj=>by have:=hz.2 j (by omega);rwa[lb j (by omega)] at this) d.piv
 have FR:(mO d C).rows.length=m:=by rw[yo];exact MQ
 have z5:(mO d C).rows=l:=by rw[yo]
 have qb:∀i,i<m→(qd (mO d C) w m).b i=(qd d w m).b i:=fun i hi=>by rw[z8 hi,z8 hi,z5,lb i hi]
 have qbw:∀i,i<m→(qd d w m).b i<w∧(qd d w m).b i≠0:=fun i hi=>by
  have h1:=hI.rng i (by omega)
  have h2:=OW i hi
  rw[z8 hi];omega
 obtain⟨M2,hM2⟩:∃M2:Nat→Col,∀t r,M2 t r=if r<m then (if t=0 then 0 else M t r) else if t=w then 1 else -gT C nn t:=⟨fun t r=>if r<m then (if t=0 then 0 else M t r) else if t=w then 1 else -gT C nn t,fun _ _=>rfl⟩
 obtain⟨k2,zc⟩:∃k2:Col,∀r,k2 r=if r<m then k0 r else 0:=⟨fun r=>if r<m then k0 r else 0,fun _=>rfl⟩
 have hMw:∀r,r<m→M2 w r=0:=fun r hr=>by
  rw[hM2,ai hr]
  split
  ·rfl
  ·exact M0 r hr
 have gI:∀t,IsI (gT C nn t) BT:=fun t=>by
  unfold gT
  split
  ·exact (gC _ (by omega)).2
  ·exact IsI.zero _
 have hMb:∀i r,i<m→r<m→M2 ((qd d w m).b i) r=M ((qd d w m).b i) r:=fun i r hi hr=>by rw[hM2,ai hr,ah (qbw i hi).2]
 have hMm:∀i,i<m→M2 ((qd d w m).b i) m=-gT C nn l[i]!.b.toNat:=fun i hi=>by
  rw[hM2,ah (pM _),ah (by have:=(qbw i hi).1;omega),z8 hi,lb i hi]
 have vi2:VI M2 k2 (qd (mO d C) w m) (m+1) (w+1):=by
  refine⟨fun r hr=>?_,fun t ht Q9 r hr=>?_,?_⟩
  ·show k2 r=aN m (fun i=>(qd (mO d C) w m).k i*M2 ((qd (mO d C) w m).b i) r)+(qd (mO d C) w m).k m*M2 ((qd (mO d C) w m).b m) r
   rw[o6,Kj]
   rcases dX r m with Hd|Hd
   ·have h1:k0 r=aN m (fun i=>(qd d w m).k i*M ((qd d w m).b i) r)+(qd d w m).k m*M ((qd d w m).b m) r:=h.vi.k r hr
    rw[o6,M0 r Hd] at h1
    rw[zc,ai Hd,h1,hMw r Hd,az (f:=fun i=>(qd (mO d C) w m).k i*M2 ((qd (mO d C) w m).b i) r) (g:=fun i=>(qd d w m).k i*M ((qd d w m).b i) r) fun i hi=>by rw[qb i hi,hMb i r hi Hd,DN hi,DN hi,z5,lk i hi],sf,sf]
   ·obtain rfl:r=m:=by omega
    rw[zc,ah (pM _),hM2,ah (pM _),ai rfl,az (g:=fun i=>(-1)*(gT C nn l[i]!.b.toNat*rv l[i]!.k)) fun i hi=>by rw[qb i hi,hMm i hi,DN hi,z5];grind,g5]
    have e:rv (mO d C).gk=rv g.1:=by rw[yo]
    rw[e,A.v1];grind
  ·show -M2 t r=aN m (fun i=>(qd (mO d C) w m).c i t*M2 ((qd (mO d C) w m).b i) r)+(qd (mO d C) w m).c m t*M2 ((qd (mO d C) w m).b m) r
   have Iy:t≠w:=fun e=>Q9 m (by omega) (by rw[o6,e])
   have ym:t<w:=by omega
   have hnt':∀j,j<m→(qd d w m).b j≠t:=fun j hj e=>Q9 j (by omega) (by rw[qb j hj];exact e)
   rw[o6,Co ym]
   rcases dX r m with Hd|Hd
   ·have h1:-M t r=aN m (fun i=>(qd d w m).c i t*M ((qd d w m).b i) r)+(qd d w m).c m t*M ((qd d w m).b m) r:=h.vi.c t ht (fun j hj e=>by
     rcases dX j m with LV|LV
     ·exact hnt' j LV e
     ·obtain rfl:j=m:=by omega
      rw[o6] at e;exact Iy e.symm) r hr
    rw[o6,M0 r Hd] at h1
    rw[hMw r Hd]
    by_cases ht0:t=0
    ·rw[hM2,ai Hd,ai ht0,az (g:=fun _=>0) fun i hi=>by rw[Bm hi ym,z5,lc i t hi ym,ai ht0.symm,of0.2];grind,eR]
     grind
    ·rw[hM2,ai Hd,ah ht0,h1,az (f:=fun i=>(qd (mO d C) w m).c i t*M2 ((qd (mO d C) w m).b i) r) (g:=fun i=>(qd d w m).c i t*M ((qd d w m).b i) r) fun i hi=>by rw[qb i hi,hMb i r hi Hd,Bm hi ym,Bm hi ym,z5,lc i t hi ym,ah (fun e=>ht0 e.symm)],sf,sf]
   ·obtain rfl:r=m:=by omega
    rw[hM2 w,ah (pM _),ai rfl,hM2 t,ah (pM _),ah Iy,az (g:=fun i=>(-1)*(gT C nn l[i]!.b.toNat*rv l[i]!.c[t]!)) fun i hi=>by rw[qb i hi,hMm i hi,Bm hi ym,z5];grind,g5]
    have e:rv (mO d C).gc[t]! =rv g.2[t]! :=by rw[yo]
    have hn:¬∃j,j<r∧l[j]!.b=(t:Int):=fun⟨j,hj,e⟩=>hnt' j hj (by rw[z8 hj,←lb j hj,e];rfl)
    rw[e,A.v2 t ym,ah hn];grind
  ·have hv:=h.vi.nz
   rw[Ay (fun r hr=>by rw[o6];exact M0 r hr) (by rw[o6];exact Rh)] at hv
   rw[Ay (fun r hr=>by rw[o6];exact hMw r hr) (by rw[o6,hM2,ah (pM _),ai rfl]),ud (g:=fun i=>M ((qd d w m).b i)) fun i hi r hr=>by rw[qb i hi,hMb i r hi hr]]
   exact hv
 refine⟨M2,k2,?_,⟨hI2,FR,vi2⟩,⟨fun t ht r hr=>?_,fun r hr=>?_,hB.lim⟩,fun y=>?_,fun y hy=>?_,fun hf i hi=>?_⟩
 ·unfold mN
  rw[ai (by rw[yo];exact OO)]
 ·rw[hM2]
  split
  ·split
   ·exact IsI.zero _
   ·exact hB.ent t ht r hr
  ·split
   ·exact IsI.one JD
   ·exact (gI t).neg
 ·rw[zc]
  split
  ·exact hB.con r hr
  ·exact IsI.zero _
 ·have hw:∀i,i<m→bM w l[i]!.k l[i]!.c y=bM w d.rows[i]!.k d.rows[i]!.c fun t=>if t=0 then 0 else y t:=fun i hi=>by
   unfold bM
   rw[lk i hi]
   congr 1
   refine az fun t ht=>?_
   rw[lc i t hi ht]
   dsimp only
   by_cases e:t=0
   ·rw[ai e,ai e.symm,of0.2,sf,Jc]
   ·rw[ah e,ah (fun e2=>e e2.symm)]
  have hbn:∀i,i<m→d.rows[i]!.b.toNat≠0:=fun i hi=>by
   have h1:=hI.rng i (by omega)
   have h2:=OW i hi
   omega
  unfold Sol
  rw[z5,MQ,hl]
  constructor
  ·intro hy i hi
   have:=hy i hi
   rw[hw i hi,lb i hi] at this
   dsimp only
   rw[ah (hbn i hi)]
   exact this
  ·intro hy i hi
   have:=hy i hi
   dsimp only at this
   rw[ah (hbn i hi)] at this
   rw[hw i hi,lb i hi]
   exact this
 ·have:=A.sol y fun i hi=>by have:=hy i (by omega);rwa[z5] at this
  rw[yo]
  exact this
 ·rw[FR] at hi
  rw[z5,lk i hi]
  exact hf i (by omega)
end
end
section
theorem N7 {c x:List Nu}{D:Rat}(hn:c.length≤6)(gc:∀i,i<c.length→ar c[i]! =true)(gx:∀i,i<c.length→ar x[i]! =true)(JK:D≠0)(hD:IsI D KT)(hp:∀i,i<c.length→Dn D (BT*KT) (rv c[i]! *rv x[i]!)):∀n,n≤c.length→ar (om c x n)=true∧rv (om c x n)=aN n fun i=>rv c[i]! *rv x[i]!
 |0,_=>of0
 |n+1,Te=>by
  obtain⟨i1,i2⟩:=N7 hn gc gx JK hD hp n (by omega)
  have hZ2:KT≤ZT:=a9 rfl
  have hZ3:BT*KT≤ZT:=a9 rfl
  have hZ:n*(BT*KT)≤ZT:=by
   have:n*(BT*KT)≤6*(BT*KT):=cK _ (by omega)
   have h2:6*(BT*KT)≤ZT:=a9 rfl
   omega
  have Ri:IsI D ZT:=hD.mono hZ2
  have p2:=Dn.pq Ri JK ((hp n (by omega)).mono hZ3)
  obtain⟨g1,g2⟩:=ry (gc n (by omega)) (gx n (by omega)) (p2.fit UW)
  obtain⟨g3,g4⟩:=pB i1 g1 (by rw[i2];exact Dn.pq Ri JK ((Dn.sum fun i hi=>hp i (by omega)).mono hZ)) (by rw[g2];exact p2) Jr
  exact⟨g3,by
   show rv (jK (om c x n) (lM c[n]! x[n]!))=_
   rw[g4,g2,i2];rfl⟩
theorem tT {c x:List Nu}{D:Rat}(hl:c.length=x.length)(hn:c.length≤6)(gc:∀i,i<c.length→ar c[i]! =true)(gx:∀i,i<c.length→ar x[i]! =true)(JK:D≠0)(hD:IsI D KT)(hp:∀i,i<c.length→Dn D (BT*KT) (rv c[i]! *rv x[i]!)):ar (bn c x)=true∧rv (bn c x)=aN c.length fun i=>rv c[i]! *rv x[i]! :=by
 unfold bn
 rw[ai hl]
 exact N7 hn gc gx JK hD hp _ (ax _)
theorem Sa {l:List Nu}{n:Nat}(hl:l.length=n)(h:∀i,i<n→ar l[i]! =true∧0≤rv l[i]!):Id l n=true:=by
 unfold Id
 rw[b8]
 refine⟨aA hl,ba.2 fun x hx=>?_⟩
 obtain⟨i,hi,rfl⟩:=w5.1 hx
 have h1:=h i (by omega)
 rw[bL l i hi] at h1
 rw[b8]
 refine⟨h1.1,aA ?_⟩
 have h2:=sU h1.1
 have:¬bD l[i]<0:=fun e=>by have:=h2.1 e;grind
 omega
section
variable {m nn:Nat} {A B C x y b c:List Nu} {D:Rat}
theorem zo(hs:Sz m nn A B C)(hx:x.length=nn)(gx:∀k,k<nn→ar x[k]! =true∧0≤rv x[k]!)(JK:D≠0)(hD:IsI D KT)(dx:∀k,k<nn→Dn D KT (rv x[k]!))(hb:b.length=m)(gb:∀i,i<m→ar b[i]! =true)(hle:∀i,i<m→aN nn (fun k=>rv A[i*nn+k]! *rv x[k]!)≤rv b[i]!):lD m nn A x b=true:=by
 unfold lD
 rw[b8]
 refine⟨Sa hx gx,?_⟩
 unfold C4
 rw[ba]
 intro i hi
 have hi:=kC.1 hi
 rw[hb] at hi
 have hlen:(ji A nn i).length=nn:=by
  by_cases h0:nn=0
  ·subst h0;unfold ji;simp
  ·exact (tX hs.lA hi (k:=0) (by omega)).1
 have hn5:=hs.n5
 have fF:∀k,k<nn→(ji A nn i)[k]! =A[i*nn+k]! :=fun k hk=>(tX hs.lA hi hk).2
 obtain⟨v1,v2⟩:=tT (c:=ji A nn i) (x:=x) (by omega) (by omega) (fun k hk=>by rw[fF k (by omega)];exact (hs.gA _ (hs.idx hi (by omega))).1) (fun k hk=>(gx k (by omega)).1) JK hD fun k hk=>by
  rw[fF k (by omega)]
  exact Dn.int (hs.gA _ (hs.idx hi (by omega))).2 (dx k (by omega))
 rw[b8]
 refine⟨v1,aA ?_⟩
 rw[(oI v1 (gb i hi)).1,v2,hlen,az fun k hk=>by rw[fF k hk]]
 exact hle i hi
theorem G0(hs:Sz m nn A B C)(hy:y.length=m)(gy:∀i,i<m→ar y[i]! =true∧0≤rv y[i]!)(JK:D≠0)(hD:IsI D KT)(dy:∀i,i<m→Dn D KT (rv y[i]!))(hc:c.length=nn)(gc:∀k,k<nn→ar c[k]! =true)(hle:∀k,k<nn→rv c[k]!≤aN m (fun i=>rv A[i*nn+k]! *rv y[i]!)):pV m nn A y c=true:=by
 unfold pV
 rw[b8]
 refine⟨Sa hy gy,?_⟩
 unfold C4
 rw[ba]
 intro k hk
 have hk:=kC.1 hk
 rw[hc] at hk
 have hm6:=hs.m6
 have hlen:(wQ A m nn k).length=m:=by simp[wQ]
 have fF:∀i,i<m→(wQ A m nn k)[i]! =A[i*nn+k]! :=fun i hi=>K9 hi
 obtain⟨v1,v2⟩:=tT (c:=wQ A m nn k) (x:=y) (by omega) (by omega) (fun i hi=>by rw[fF i (by omega)];exact (hs.gA _ (hs.idx (by omega) hk)).1) (fun i hi=>(gy i (by omega)).1) JK hD fun i hi=>by
  rw[fF i (by omega)]
  exact Dn.int (hs.gA _ (hs.idx (by omega) hk)).2 (dy i (by omega))
 rw[b8]
 refine⟨v1,aA ?_⟩
 rw[(oI v1 (gc k hk)).2.1,v2,hlen,az fun i hi=>by rw[fF i hi]]
 exact hle k hk
def yOf(m nn:Nat)(A B:List Nu)(v:Nat→Rat)(t:Nat):Rat:=if t=0 then 0 else if t<1+nn then v (t - 1) else rv B[t - (1+nn)]! - aN nn fun k=>rv A[(t - (1+nn))*nn+k]! *v k
theorem Rl {v:Nat→Rat}{k:Nat}(hk:k<nn):yOf m nn A B v (k+1)=v k:=by
 unfold yOf
 rw[ah (by omega),ai (by omega),vb]
theorem yOf_i {v:Nat→Rat}{i:Nat}:yOf m nn A B v (1+nn+i)=rv B[i]! - aN nn fun k=>rv A[i*nn+k]! *v k:=by
 unfold yOf
 rw[ah (by omega),ah (by omega),show 1+nn+i - (1+nn)=i by omega]
theorem N5(v:Nat→Rat):Eqs m nn A B 0 (yOf m nn A B v):=fun i hi=>by
 rw[yOf_i,az (f:=fun k=>rv A[i*nn+k]! *yOf m nn A B v (k+1)) (g:=fun k=>rv A[i*nn+k]! *v k) fun k hk=>by rw[Rl hk]]
 grind
theorem dual {gk:Nu}{gc:List Nu}{cc:Nat→Rat}(h:∀v:Nat→Rat,bM (1+nn+m) gk gc (yOf m nn A B v)=aN nn fun k=>cc k*v k):rv gk=aN m (fun i=>-rv gc[1+nn+i]! *rv B[i]!)∧∀k,k<nn→cc k=rv gc[k+1]! +aN m fun i=>rv A[i*nn+k]! *-rv gc[1+nn+i]! :=by
 have hw:∀v:Nat→Rat,rv gk+(aN nn (fun k=>rv gc[k+1]! *v k)+aN m fun i=>rv gc[1+nn+i]! *(rv B[i]! - aN nn fun k=>rv A[i*nn+k]! *v k))=aN nn fun k=>cc k*v k:=fun v=>by
  rw[←h v]
  unfold bM
  rw[sum3,az (f:=fun k=>rv gc[k+1]! *yOf m nn A B v (k+1)) (g:=fun k=>rv gc[k+1]! *v k) fun k hk=>by rw[Rl hk],az (f:=fun i=>rv gc[1+nn+i]! *yOf m nn A B v (1+nn+i)) (g:=fun i=>rv gc[1+nn+i]! *(rv B[i]! - aN nn fun k=>rv A[i*nn+k]! *v k)) fun i _=>by rw[yOf_i]]
  have:yOf m nn A B v 0=0:=ai rfl
  rw[this,sf,Rat.zero_add]
 have z:∀f:Nat→Rat,aN nn (fun k=>f k*(0:Rat))=0:=fun f=>by rw[az (g:=fun _=>0) fun k _=>sf _,eR]
 have one:∀(f:Nat→Rat) (j:Nat),j<nn→aN nn (fun k=>f k*(if k=j then 1 else 0:Rat))=f j:=fun f j hj=>by
  rw[az (g:=fun k=>if k=j then f j else 0) fun k _=>?_,mc j _ nn hj]
  by_cases e:k=j
  ·rw[ai e,ai e,e,Rat.mul_one]
  ·rw[ah e,ah e,sf]
 have h0:=hw fun _=>0
 rw[z,z,az (f:=fun i=>rv gc[1+nn+i]! *(rv B[i]! - aN nn fun k=>rv A[i*nn+k]! *0)) (g:=fun i=>(-1)*(-rv gc[1+nn+i]! *rv B[i]!)) fun i _=>by rw[z];grind,g5] at h0
 refine⟨by grind,fun k hk=>?_⟩
 have h1:=hw fun j=>if j=k then 1 else 0
 rw[one _ k hk,one _ k hk,az (f:=fun i=>rv gc[1+nn+i]! *(rv B[i]! - aN nn fun j=>rv A[i*nn+j]! *(if j=k then 1 else 0:Rat))) (g:=fun i=>(-1)*(-rv gc[1+nn+i]! *rv B[i]!)+rv A[i*nn+k]! *-rv gc[1+nn+i]!) fun i _=>by rw[one _ k hk];grind,lm (fun i=>(-1)*(-rv gc[1+nn+i]! *rv B[i]!)),g5] at h1
 grind
end
section
variable {m nn:Nat} {A B C:List Nu} {M:Nat→Col} {k0:Col} {d:Dic}
theorem yX(h:Inv d (1+nn+m)):(bR d nn).length=m∧∀i,i<m→(bR d nn)[i]! =eZ d.gc[1+nn+i]! :=by
 have hl:=h.fine.lg
 refine⟨by unfold bR;rw[bb,fa];omega,fun i hi=>c8 ?_⟩
 unfold bR
 rw[dV,nA,show nn+1+i=1+nn+i by omega,wi (by omega)]
 rfl
theorem J6(l:List Row)(of':Row→Nu)(other:Nat→Nu){k:Nat}(hk:k<nn):(∃j,j<l.length∧l[j]!.b=((k+1:Nat):Int)∧(cO l nn of' other)[k]! =of' l[j]!)∨((∀j,j<l.length→l[j]!.b≠((k+1:Nat):Int))∧(cO l nn of' other)[k]! =other (k+1)):=by
 have e:(cO l nn of' other)[k]! =if 0≤dm l ((k+1:Nat):Int) then of' l[(dm l ((k+1:Nat):Int)).toNat]! else other (k+1):=c8 (bK _ hk)
 rcases rB l ((k+1:Nat):Int) with⟨h1,h2⟩|⟨i,h1,h2,h3⟩
 ·rw[h1,ah (by decide)] at e
  exact .inr ⟨h2,e⟩
 ·rw[h2,ai (by omega),show ((i:Int)).toNat=i by omega] at e
  exact .inl ⟨i,h1,h3,e⟩
theorem zV(l:List Row)(of':Row→Nu)(other:Nat→Nu):(cO l nn of' other).length=nn:=by unfold cO;simp
theorem Ok.vals(h:Ok M k0 d (1+nn+m) m)(hB:Bd M k0 (1+nn+m) m BT)(hm:m≤6)(hf:sy d):∃D:Rat,D≠0∧IsI D KT∧∀k,k<nn→(ar (cO d.rows nn Row.k fun _=>nOf 0)[k]! =true∧0≤rv (cO d.rows nn Row.k fun _=>nOf 0)[k]!)∧Dn D KT (rv (cO d.rows nn Row.k fun _=>nOf 0)[k]!)∧rv (cO d.rows nn Row.k fun _=>nOf 0)[k]! =m7 d (k+1):=by
 obtain⟨D,b0,b1,b2,b3,b4,b5⟩:=h.bound hB
 have hK:=LF hm
 have hl:=h.len
 refine⟨D,b0,b1.mono hK,fun k hk=>?_⟩
 rcases J6 d.rows Row.k (fun _=>nOf 0) hk with⟨j,hj,e,e2⟩|⟨e,e2⟩
 ·rw[e2]
  refine⟨⟨(bm.1 (h.inv.fine.gr j hj)).1,hf j hj⟩,(b2 j (by omega)).mono hK,?_⟩
  have:=h.inv.bsol_row hj
  rw[e] at this
  exact this.symm
 ·rw[e2,of0.2]
  exact⟨⟨of0.1,Rat.le_refl⟩,Dn.zero _ _,(lz fun⟨j,hj,e3⟩=>e j hj e3).symm⟩
theorem Ok.prices(h:Ok M k0 d (1+nn+m) m)(hB:Bd M k0 (1+nn+m) m BT)(hm:m≤6)(hg:∀t,t<1+nn+m→rv d.gc[t]!≤0):∃D:Rat,D≠0∧IsI D KT∧∀i,i<m→(ar (bR d nn)[i]! =true∧0≤rv (bR d nn)[i]!)∧Dn D KT (rv (bR d nn)[i]!)∧rv (bR d nn)[i]! =-rv d.gc[1+nn+i]! :=by
 obtain⟨D,b0,b1,b2,b3,b4,b5⟩:=h.bound hB
 have hK:=LF hm
 refine⟨D,b0,b1.mono hK,fun i hi=>?_⟩
 rw[(yX h.inv).2 i hi,rp,lW]
 have h1:=hg (1+nn+i) (by omega)
 exact⟨⟨(bm.1 h.inv.fine.gg).2 _ (by rw[h.inv.fine.lg];omega),by grind⟩,((b5 _ (by omega)).mono hK).neg,rfl⟩
theorem best_ok(hs:Sz m nn A B C)(h:Ok M k0 d (1+nn+m) m)(hB:Bd M k0 (1+nn+m) m BT)(hf:sy d)(iv:∀y,Sol d (1+nn+m) y↔Eqs m nn A B 0 y)(sY:∀y,Sol d (1+nn+m) y→bM (1+nn+m) d.gk d.gc y=aN nn fun k=>rv C[k]! *y (k+1))(hg:∀t,t<1+nn+m→rv d.gc[t]!≤0):
  iT m nn A B C ⟨1,cO d.rows nn Row.k fun _=>nOf 0,bR d nn,[]⟩=true:=by
 obtain⟨D,d0,d1,hx⟩:=h.vals hB hs.m6 hf
 obtain⟨E,e0,e1,hy⟩:=h.prices hB hs.m6 hg
 have hlC:=hs.lC
 have hn5:=hs.n5
 have hm6:=hs.m6
 have JH:=(yX h.inv).1
 obtain⟨du1,du2⟩:=dual (A:=A) (B:=B) (gk:=d.gk) (gc:=d.gc) (cc:=fun k=>rv C[k]!) fun v=>by
  rw[sY _ ((iv _).2 (N5 v))]
  exact az fun k hk=>by rw[Rl hk]
 have hbe:=(iv _).1 h.inv.bsol
 have hal:lD m nn A (cO d.rows nn Row.k fun _=>nOf 0) B=true:=by
  refine zo hs (zV _ _ _) (fun k hk=>(hx k hk).1) d0 d1 (fun k hk=>(hx k hk).2.1) hs.lB (fun i hi=>(hs.gB i hi).1) fun i hi=>?_
  have h1:=hbe i hi
  have h2:=h.inv.bnon hf (t:=1+nn+i)
  rw[az fun k hk=>by rw[(hx k hk).2.2]]
  grind
 have MM:pV m nn A (bR d nn) C=true:=by
  refine G0 hs JH (fun i hi=>(hy i hi).1) e0 e1 (fun i hi=>(hy i hi).2.1) hlC (fun k hk=>(hs.gC k hk).1) fun k hk=>?_
  have h1:=du2 k hk
  have h2:=hg (k+1) (by omega)
  rw[az fun i hi=>by rw[(hy i hi).2.2]]
  grind
 obtain⟨v1,v2⟩:=tT (c:=C) (x:=cO d.rows nn Row.k fun _=>nOf 0) (by rw[zV];exact hlC) (by omega) (fun k hk=>(hs.gC k (by omega)).1) (fun k hk=>(hx k (by omega)).1.1) d0 d1 fun k hk=>Dn.int (hs.gC k (by omega)).2 (hx k (by omega)).2.1
 obtain⟨w1,w2⟩:=tT (c:=bR d nn) (x:=B) (by rw[hs.lB];exact JH) (by omega) (fun i hi=>(hy i (by omega)).1.1) (fun i hi=>(hs.gB i (by omega)).1) e0 e1 fun i hi=>by
  rw[Je]
  exact Dn.int (hs.gB i (by omega)).2 (hy i (by omega)).2.1
 have heq:bn C (cO d.rows nn Row.k fun _=>nOf 0)=bn (bR d nn) B:=by
  refine Et v1 w1 ?_
  have h1:=sY _ h.inv.bsol
  rw[h.inv.bgoal] at h1
  rw[v2,w2,hlC,JH,az (f:=fun i=>rv (bR d nn)[i]! *rv B[i]!) (g:=fun i=>-rv d.gc[1+nn+i]! *rv B[i]!) fun i hi=>by rw[(hy i hi).2.2],←du1,h1]
  exact az fun k hk=>by rw[(hx k hk).2.2]
 unfold iT
 rw[ai rfl]
 dsimp only
 rw[hal,MM,v1,←heq]
 simp
theorem none_ok(hs:Sz m nn A B C)(h:Ok M k0 d (1+nn+m) m)(hB:Bd M k0 (1+nn+m) m BT)(iv:∀y,Sol d (1+nn+m) y↔Eqs m nn A B (y 0) y)(sY:∀y,Sol d (1+nn+m) y→bM (1+nn+m) d.gk d.gc y=-y 0)(hg:∀t,t<1+nn+m→rv d.gc[t]!≤0)(hk:bD d.gk<0):
  iT m nn A B C ⟨2,[],bR d nn,[]⟩=true:=by
 obtain⟨E,e0,e1,hy⟩:=h.prices hB hs.m6 hg
 have hm6:=hs.m6
 have JH:=(yX h.inv).1
 have xz:=(sU (bm.1 h.inv.fine.gg).1).1 hk
 have y00:∀v,yOf m nn A B v 0=0:=fun v=>ai rfl
 obtain⟨du1,du2⟩:=dual (A:=A) (B:=B) (gk:=d.gk) (gc:=d.gc) (cc:=fun _=>0) fun v=>by
  rw[sY _ ((iv _).2 (by rw[y00];exact N5 v)),y00,az (g:=fun _=>0) fun k _=>Jc _,eR]
  grind
 have MM:pV m nn A (bR d nn) (List.replicate nn (nOf 0))=true:=by
  refine G0 hs JH (fun i hi=>(hy i hi).1) e0 e1 (fun i hi=>(hy i hi).2.1) (tJ ..) (fun k hk=>by rw[mE hk];exact of0.1) fun k hk=>?_
  have h1:=du2 k hk
  have h2:=hg (k+1) (by omega)
  rw[mE hk,of0.2,az fun i hi=>by rw[(hy i hi).2.2]]
  grind
 obtain⟨w1,w2⟩:=tT (c:=bR d nn) (x:=B) (by rw[hs.lB];exact JH) (by omega) (fun i hi=>(hy i (by omega)).1.1) (fun i hi=>(hs.gB i (by omega)).1) e0 e1 fun i hi=>by
  rw[Je]
  exact Dn.int (hs.gB i (by omega)).2 (hy i (by omega)).2.1
 have hv:rv (bn (bR d nn) B)=rv d.gk:=by rw[w2,JH,az fun i hi=>by rw[(hy i hi).2.2],←du1]
 have hsg:bD (bn (bR d nn) B)=-1:=by
  rw[rN w1,hv]
  exact w8 (Kp.2 xz)
 unfold iT qX
 rw[ah (show ¬(2:Int)=1 by decide),ai rfl]
 dsimp only
 rw[MM,w1,hsg]
 simp
theorem ray_ok(hs:Sz m nn A B C)(h:Ok M k0 d (1+nn+m) m)(hB:Bd M k0 (1+nn+m) m BT)(hf:sy d)(iv:∀y,Sol d (1+nn+m) y↔Eqs m nn A B 0 y)(sY:∀y,Sol d (1+nn+m) y→bM (1+nn+m) d.gk d.gc y=aN nn fun k=>rv C[k]! *y (k+1)){s:Nat}(hsw:s<1+nn+m)(hg:0<rv d.gc[s]!)(hc:∀i,i<m→0≤rv d.rows[i]!.c[s]!):
  iT m nn A B C ⟨3,cO d.rows nn Row.k fun _=>nOf 0,[],cO d.rows nn (fun r=>r.c[s]!) fun v=>if (v:Int)=(s:Int) then nOf 1 else nOf 0⟩=true:=by
 have hI:=h.inv
 have hl:=h.len
 obtain⟨D,d0,d1,hx⟩:=h.vals hB hs.m6 hf
 obtain⟨E,b0,b1,b2,b3,b4,b5⟩:=h.bound hB
 have hK:=LF hs.m6
 have hlC:=hs.lC
 have hn5:=hs.n5
 have Ta:¬Bas d s:=fun hb=>by
  have:=(hI.bas hb).2.1
  rw[this,of0.2] at hg;grind
 -- numbers that fit,with rI variable raised by 1
 obtain⟨y,hy,hv⟩:=hI.pick fun r=>if r=s then 1 else 0
 have Qe:y s=1:=by rw[hv s fun j hj e=>Ta ⟨j,hj,e⟩,ai rfl]
 have hy0:∀t,¬Bas d t→t≠s→y t=0:=fun t hb rt=>by rw[hv t fun j hj e=>hb ⟨j,hj,e⟩,ah rt]
 obtain⟨h1,h2⟩:=hI.at hsw Ta hy fun t _ hb rt=>hy0 t hb rt
 have hdel:∀t,0≤y t - m7 d t:=fun t=>by
  by_cases hb:Bas d t
  ·obtain⟨j,hj,e⟩:=hb
   have e1:=h1 j hj
   have e2:=hI.bsol_row hj
   rw[show d.rows[j]!.b.toNat=t by omega] at e1 e2
   have:=hc j (by omega)
   rw[e1,e2,Qe];grind
  ·rw[lz hb]
   by_cases rt:t=s
   ·rw[rt,Qe];grind
   ·rw[hy0 t hb rt];grind
 have hr:∀k,k<nn→ar (cO d.rows nn (fun r=>r.c[s]!) fun v=>if (v:Int)=(s:Int) then nOf 1 else nOf 0)[k]! =true∧Dn E KT (rv (cO d.rows nn (fun r=>r.c[s]!) fun v=>if (v:Int)=(s:Int) then nOf 1 else nOf 0)[k]!)∧rv (cO d.rows nn (fun r=>r.c[s]!) fun v=>if (v:Int)=(s:Int) then nOf 1 else nOf 0)[k]! =y (k+1) - m7 d (k+1):=fun k hk=>by
  rcases J6 d.rows (fun r=>r.c[s]!) (fun v=>if (v:Int)=(s:Int) then nOf 1 else nOf 0) hk with⟨j,hj,e,e2⟩|⟨e,e2⟩
  ·rw[e2]
   refine⟨(bm.1 (hI.fine.gr j hj)).2 s (by rw[hI.fine.lr j hj];exact hsw),(b4 j s (by omega) hsw).mono hK,?_⟩
   have e1:=h1 j hj
   have e3:=hI.bsol_row hj
   rw[show d.rows[j]!.b.toNat=k+1 by omega] at e1 e3
   rw[e1,e3,Qe];grind
  ·rw[e2]
   have hb:¬Bas d (k+1):=fun⟨j,hj,e3⟩=>e j hj e3
   rw[lz hb]
   by_cases rt:k+1=s
   ·rw[ai (by omega),rt,Qe,of1.2]
    exact⟨of1.1,(Dn.of b1 (IsI.one (ax 1))).mono (by omega),by grind⟩
   ·rw[ah (by omega),hy0 _ hb rt,of0.2]
    exact⟨of0.1,Dn.zero _ _,by grind⟩
 generalize hray:(cO d.rows nn (fun r=>r.c[s]!) fun v=>if (v:Int)=(s:Int) then nOf 1 else nOf 0)=ray at hr ⊢
 have hrl:ray.length=nn:=by rw[←hray,zV]
 have hbe:=(iv _).1 hI.bsol
 have hye:=(iv _).1 hy
 have hal:lD m nn A (cO d.rows nn Row.k fun _=>nOf 0) B=true:=by
  refine zo hs (zV _ _ _) (fun k hk=>(hx k hk).1) d0 d1 (fun k hk=>(hx k hk).2.1) hs.lB (fun i hi=>(hs.gB i hi).1) fun i hi=>?_
  have h1:=hbe i hi
  have h2:=hI.bnon hf (t:=1+nn+i)
  rw[az fun k hk=>by rw[(hx k hk).2.2]]
  grind
 have har:lD m nn A ray (List.replicate m (nOf 0))=true:=by
  refine zo hs hrl (fun k hk=>⟨(hr k hk).1,by rw[(hr k hk).2.2];exact hdel _⟩) b0 (b1.mono hK) (fun k hk=>(hr k hk).2.1) (tJ ..) (fun i hi=>by rw[mE hi];exact of0.1) fun i hi=>?_
  have h1:=hbe i hi
  have h2:=hye i hi
  have h3:=hdel (1+nn+i)
  rw[mE hi,of0.2,az (g:=fun k=>rv A[i*nn+k]! *y (k+1) - rv A[i*nn+k]! *m7 d (k+1)) fun k hk=>by rw[(hr k hk).2.2];grind,zY (fun k=>rv A[i*nn+k]! *y (k+1))]
  grind
 obtain⟨v1,v2⟩:=tT (c:=C) (x:=ray) (by omega) (by omega) (fun k hk=>(hs.gC k (by omega)).1) (fun k hk=>(hr k (by omega)).1) b0 (b1.mono hK) fun k hk=>Dn.int (hs.gC k (by omega)).2 (hr k (by omega)).2.1
 have hpos:0<rv (bn C ray):=by
  rw[v2,hlC,az (g:=fun k=>rv C[k]! *y (k+1) - rv C[k]! *m7 d (k+1)) fun k hk=>by rw[(hr k hk).2.2];grind,zY (fun k=>rv C[k]! *y (k+1)),←sY y hy,←sY _ hI.bsol,hI.bgoal,h2,Qe]
  grind
 have hsg:bD (bn C ray)=1:=by
  rw[rN v1]
  exact sh (Ko.2 hpos)
 unfold iT qX
 rw[ah (show ¬(3:Int)=1 by decide),ah (show ¬(3:Int)=2 by decide),ai rfl]
 dsimp only
 rw[hal,har,v1,hsg]
 simp
theorem T3(hs:Sz m nn A B C)(h:Ok M k0 d (1+nn+m) m)(hB:Bd M k0 (1+nn+m) m BT)(M0:∀r,r<m→M (1+nn+m) r=0)(Rh:M (1+nn+m) m=1)(OW:∀j,j<m→d.rows[j]!.b≠0)(hf:sy d)(iv:∀y,y 0=0→(Sol d (1+nn+m) y↔Eqs m nn A B 0 y)){N:Nat}(hN:∀k,ny (1+nn+m) k≤N)(hp:d.piv+N≤d.most):
  ∃a n,wj nn d C=(a,n,0)∧iT m nn A B C a=true∧d.piv≤n∧n≤d.piv+N∧a.kind≠2:=by
 obtain⟨M2,k2,e1,hok,hB2,LT,En,CY⟩:=h.aim hB hs.m6 M0 Rh OW (show nn+1≤1+nn+m by omega) hs.lC hs.gC
 have SZ:(mO d C).piv=d.piv∧(mO d C).most=d.most:=⟨rfl,rfl⟩
 obtain⟨s,d3,e2,KI,OR,hS3,hpv3,KK⟩:=hok.improve hB2 (CY hf) hN (by rw[SZ.1,SZ.2];exact hp)
 have hsol3:∀y,Sol d3 (1+nn+m) y↔Eqs m nn A B 0 y:=fun y=>by
  rw[hS3.sol y,LT y,iv _ (ai rfl)]
  unfold Eqs
  constructor
  ·intro hh i hi
   have:=hh i hi
   dsimp only at this
   rw[ah (by omega),az (g:=fun k=>rv A[i*nn+k]! *y (k+1)) fun k _=>by rw[ah (by omega)]] at this
   exact this
  ·intro hh i hi
   dsimp only
   rw[ah (by omega),az (g:=fun k=>rv A[i*nn+k]! *y (k+1)) fun k _=>by rw[ah (by omega)]]
   exact hh i hi
 have Tn:∀y,Sol d3 (1+nn+m) y→bM (1+nn+m) d3.gk d3.gc y=aN nn fun k=>rv C[k]! *y (k+1):=fun y hy=>by
  rw[hS3.goal y ((hS3.sol y).1 hy)]
  exact En y ((hS3.sol y).1 hy)
 have hp3:=hS3.piv
 unfold wj
 rw[e1]
 dsimp only
 rw[ah (by simp),e2]
 dsimp only
 rw[ah (by simp)]
 rcases KK with⟨rfl,hg⟩|⟨s',rfl,a2,a3,a4⟩
 ·rw[ai (by decide)]
  exact⟨_,_,rfl,best_ok hs KI hB2 OR hsol3 Tn hg,by omega,by omega,by show (1:Int)≠2;decide⟩
 ·rw[ah (by omega),show ((s':Int)).toNat=s' by omega]
  exact⟨_,_,rfl,ray_ok hs KI hB2 OR hsol3 Tn a2 a3 a4,by omega,by omega,by show (3:Int)≠2;decide⟩
theorem GW(hs:Sz m nn A B C){most:Int}{N:Nat}(hN:∀k,ny (1+nn+m) k≤N)(Eh:2*(N:Int)+20≤most):
  ∃a n,iz m nn A B C most=(a,n,0)∧0≤n∧n≤most∧iT m nn A B C a=true∧(a.kind=2→∃D:Rat,D≠0∧IsI D KT∧∀i,i<m→Dn D KT (rv a.y[i]!)):=by
 unfold iz
 dsimp only
 by_cases oc:B.any (fun b=>decide (bD b<0))=true
 ·rw[ai oc]
  obtain⟨b,hb,wI⟩:=NJ.1 oc
  obtain⟨i,hi,rfl⟩:=w5.1 hb
  have we:i<m:=by rw[←hs.lB];exact hi
  have hneg':rv B[i]! <0:=by
   have h1:=(hs.gB i we).1
   refine (sU h1).1 ?_
   rw[bL B i hi]
   exact bw wI
  obtain⟨M,k0,d',e1,hok,hB,M0,Rh,hf,hS,SZ,KK⟩:=hs.begin (most:=most) we hneg' hN (by omega)
  have hmo:d'.most=most:=hS.most
  have hp0:0≤d'.piv:=hS.piv
  have iv:∀y,Sol d' (1+nn+m) y↔Eqs m nn A B (y 0) y:=fun y=>(hS.sol y).trans (GV y)
  rw[e1]
  dsimp only
  rw[ah (by simp)]
  rcases KK with⟨g1,g2⟩|⟨g1,g2⟩
  ·rw[ai g1]
   exact⟨_,_,rfl,hp0,by omega,none_ok hs hok hB iv (fun y hy=>by rw[hS.goal y ((hS.sol y).1 hy)];exact yS y) g2 g1,fun _=>by
    obtain⟨E,e0,e1,hy⟩:=hok.prices hB hs.m6 g2
    exact⟨E,e0,e1,fun i hi=>(hy i hi).2.1⟩⟩
  ·rw[ah g1]
   obtain⟨a,n,e2,h1,h2,h3,h4⟩:=T3 hs hok hB M0 Rh g2 hf (fun y hy=>by rw[iv y,hy]) hN (by omega)
   exact⟨a,n,e2,by omega,by omega,h1,fun e=>absurd e h4⟩
 ·rw[ah oc]
  obtain⟨hok,hB,M0,Rh⟩:=hs.firstOk (most:=most)
  have hf:sy (aG m nn A B most):=fun i hi=>by
   rw[jN] at hi
   rw[s9 hi]
   have h1:=(hs.gB i hi).1
   have h2:=sU h1
   have:¬bD B[i]! <0:=fun e=>oc (NJ.2 ⟨B[i]!,by rw[bL B i (by rw[hs.lB];exact hi)];exact nO _,aA e⟩)
   grind
  obtain⟨a,n,e2,h1,h2,h3,h4⟩:=T3 hs hok hB M0 Rh (fun j hj=>by rw[rA j hj];omega) hf (fun y _=>QG y) hN (by show (0:Int)+N≤most;omega)
  have hp0:(aG m nn A B most).piv=0:=rfl
  exact⟨a,n,e2,by omega,by omega,h1,fun e=>absurd e h4⟩
theorem RK(hs:Sz m nn A B C){most:Int}{N:Nat}(hN:∀k,ny (1+nn+m) k≤N)(Eh:2*(N:Int)+20≤most):
  ∃a n,iz m nn A B C most=(a,n,0)∧0≤n∧n≤most∧iT m nn A B C a=true:=by
 obtain⟨a,n,h1,h2,h3,h4,_⟩:=GW hs hN Eh
 exact⟨a,n,h1,h2,h3,h4⟩
theorem Lh:∀n,n≤12→∀k,ny n k≤924:=by
 have hz:∀n k,n<k→ny n k=0:=by
  intro n
  induction n with
  |zero=>intro k hk;cases k with|zero=>omega|succ k=>rfl
  |succ n ih=>
   intro k hk
   cases k with
   |zero=>omega
   |succ k=>show ny n k+ny n (k+1)=0;rw[ih k (by omega),ih (k+1) (by omega)]
 have hs:∀n,n<13→∀k,k<13→ny n k≤924:=by decide +kernel
 intro n hn k
 by_cases hk:k<13
 ·exact hs n (by omega) k hk
 ·rw[hz n k (by omega)];exact cr _
theorem solve_4000D(hs:Sz m nn A B C):∃a n,iz m nn A B C 4000=(a,n,0)∧0≤n∧n≤4000∧iT m nn A B C a=true∧(a.kind=2→∃D:Rat,D≠0∧IsI D KT∧∀i,i<m→Dn D KT (rv a.y[i]!)):=by
 have h1:=hs.m6
 have h2:=hs.n5
 exact GW hs (N:=924) (Lh _ (by omega)) (by decide)
theorem Me(hs:Sz m nn A B C):∃a n,iz m nn A B C 4000=(a,n,0)∧0≤n∧n≤4000∧iT m nn A B C a=true:=by
 have h1:=hs.m6
 have h2:=hs.n5
 exact RK hs (N:=924) (Lh _ (by omega)) (by decide)
end
end
section
structure RQ(m nn:Nat)(a:Nat→Nat→Rat)(b c:Nat→Rat)(kind:Int)(x y r:Nat→Rat):Prop where
 kinds:kind=1∨kind=2∨kind=3
 prim:kind≠2→(∀k,k<nn→0≤x k)∧∀i,i<m→aN nn (fun k=>a i k*x k)≤b i
 pos:kind≠3→∀i,i<m→0≤y i
 best:kind=1→(∀k,k<nn→c k≤aN m fun i=>a i k*y i)∧aN nn (fun k=>c k*x k)=aN m fun i=>y i*b i
 none:kind=2→(∀k,k<nn→0≤aN m fun i=>a i k*y i)∧aN m (fun i=>y i*b i)<0
 ray:kind=3→(∀k,k<nn→0≤r k)∧(∀i,i<m→aN nn (fun k=>a i k*r k)≤0)∧0<aN nn fun k=>c k*r k
section
variable {m nn:Nat} {a:Nat→Nat→Rat} {b c:Nat→Rat} {k1 k2:Int} {x y r x' y' r':Nat→Rat}
theorem no_both(hx:∀k,k<nn→0≤x k)(h1:∀i,i<m→aN nn (fun k=>a i k*x k)≤b i)(hy:∀i,i<m→0≤y i)(h2:∀k,k<nn→0≤aN m (fun i=>a i k*y i))(h3:aN m (fun i=>y i*b i)<0):False:=by
 have:=weak (c:=fun _=>0) hx hy h1 h2
 rw[az (g:=fun _=>0) fun k _=>Jc _,eR] at this
 grind
end
section
variable {m nn:Nat} {A B C:List Nu} {a:Ans}
theorem RY(hA:A.length=m*nn)(hB:B.length=m)(hC:C.length=nn)(hgB:∀i,i<m→ar B[i]! =true)(hgC:∀k,k<nn→ar C[k]! =true)(ha:iT m nn A B C a=true):RQ m nn (fun i k=>rv A[i*nn+k]!) (fun i=>rv B[i]!) (fun k=>rv C[k]!) a.kind (fun k=>rv a.x[k]!) (fun i=>rv a.y[i]!) (fun k=>rv a.ray[k]!)∧
  (a.kind=1→ar (bn C a.x)=true∧rv (bn C a.x)=aN nn fun k=>rv C[k]! *rv a.x[k]!)∧a.x.length≤nn∧a.y.length≤m∧a.ray.length≤nn:=by
 have h0g:∀n i,i<n→ar (List.replicate n (nOf 0))[i]! =true∧rv (List.replicate n (nOf 0))[i]! =0:=fun n i hi=>by rw[mE hi];exact of0
 unfold iT at ha
 by_cases e1:a.kind=1
 ·rw[ai e1] at ha
  simp only[b8] at ha
  obtain⟨⟨⟨h0,h1⟩,h2⟩,h3,h4⟩:=ha
  obtain⟨p1,p2,p3⟩:=u5 hA hB hgB h1
  obtain⟨q1,q2,q3⟩:=Cp hC hgC h2
  obtain⟨_,v2⟩:=pj h3
  have h4:=bw h4
  obtain⟨_,v3⟩:=pj (by rw[←h4];exact h3)
  rw[hC] at v2
  rw[q1,←h4] at v3
  refine⟨⟨.inl e1,fun _=>⟨fun k hk=>(p2 k hk).2,p3⟩,fun _ i hi=>(q2 i hi).2,fun _=>⟨q3,v2.symm.trans v3⟩,fun e=>by omega,fun e=>by omega⟩,fun _=>⟨h3,v2⟩,by omega,by omega,by have:=bw h0;omega⟩
 ·rw[ah e1] at ha
  by_cases e2:a.kind=2
  ·rw[ai e2] at ha
   simp only[b8] at ha
   obtain⟨⟨h0,h1⟩,h2⟩:=ha
   obtain⟨q1,q2,q3⟩:=Cp (by simp) (fun k hk=>(h0g nn k hk).1) h1
   unfold qX at h2
   rw[b8] at h2
   obtain⟨_,v3⟩:=pj h2.1
   have h3:=(sU h2.1).1 (by have:=bw h2.2;omega)
   rw[v3,q1] at h3
   have h0:=bw h0
   refine⟨⟨.inr (.inl e2),fun e=>absurd e2 e,fun _ i hi=>(q2 i hi).2,fun e=>absurd e e1,fun _=>⟨fun k hk=>by have:=q3 k hk;rwa[(h0g nn k hk).2] at this,h3⟩,fun e=>by omega⟩,fun e=>absurd e e1,by omega,by omega,by omega⟩
  ·rw[ah e2] at ha
   by_cases e3:a.kind=3
   ·rw[ai e3] at ha
    simp only[b8] at ha
    obtain⟨⟨⟨h0,h1⟩,h2⟩,h3⟩:=ha
    obtain⟨p1,p2,p3⟩:=u5 hA hB hgB h1
    obtain⟨q1,q2,q3⟩:=u5 hA (by simp) (fun i hi=>(h0g m i hi).1) h2
    unfold qX at h3
    rw[b8] at h3
    obtain⟨_,v3⟩:=pj h3.1
    have h4:=(Kh h3.1).1 (by have:=bw h3.2;omega)
    rw[v3,hC] at h4
    have h0:=bw h0
    refine⟨⟨.inr (.inr e3),fun _=>⟨fun k hk=>(p2 k hk).2,p3⟩,fun e=>absurd e3 e,fun e=>absurd e e1,fun e=>absurd e e2,fun _=>⟨fun k hk=>(q2 k hk).2,fun i hi=>by have:=q3 i hi;rwa[(h0g m i hi).2] at this,h4⟩⟩,fun e=>absurd e e1,by omega,by omega,by omega⟩
   ·rw[ah e3] at ha;cases ha
end
theorem uS(x:Rat):(x.den:Rat)*x=(x.num:Rat)∧(x.den:Rat)≠0:=by
 have h0:(x.den:Rat)≠0:=by exact_mod_cast x.den_nz
 have h:=Rat.mkRat_self x
 rw[Rat.mkRat_eq_div,iL] at h
 have:=w3 (x.den:Rat) h0
 exact⟨by grind,h0⟩
theorem Pq.dn {K:Nat}{x:Rat}(h:Pq K x):Dn (x.den:Rat) K x∧IsI (x.den:Rat) K:=⟨⟨x.num,(uS x).1,h.1⟩,⟨(x.den:Int),rfl,by simpa using h.2⟩⟩
theorem Pq.mul {K L:Nat}{x y:Rat}(hx:Pq K x)(hy:Pq L y):Pq (K*L) (x*y):=by
 obtain⟨h1,i1⟩:=hx.dn
 obtain⟨h2,i2⟩:=hy.dn
 refine Dn.pq (i1.mul i2) (fun e=>?_) (h1.mul h2)
 rcases BY.1 e with e|e
 ·exact (uS x).2 e
 ·exact (uS y).2 e
theorem Pq.add {K L:Nat}{x y:Rat}(hx:Pq K x)(hy:Pq L y):Pq (2*(K*L)) (x+y):=by
 obtain⟨h1,i1⟩:=hx.dn
 obtain⟨h2,i2⟩:=hy.dn
 have d:Dn ((x.den:Rat)*y.den) (2*(K*L)) (x+y):=by
  have a1:IsI ((x.den:Rat)*x*y.den) (K*L):=IsI.mul h1 i2
  have a2:IsI ((y.den:Rat)*y*x.den) (L*K):=IsI.mul h2 i1
  have a3:=(a1.add a2).mono (L:=2*(K*L)) (by rw[bx L K];omega)
  unfold Dn
  rw[show (x.den:Rat)*y.den*(x+y)=(x.den:Rat)*x*y.den+(y.den:Rat)*y*x.den by grind]
  exact a3
 refine Dn.pq ((i1.mul i2).mono (by omega)) (fun e=>?_) d
 rcases BY.1 e with e|e
 ·exact (uS x).2 e
 ·exact (uS y).2 e
theorem yL {c x:List Nu}{P:Nat}(hn:c.length≤6)(gc:∀i,i<c.length→ar c[i]! =true)(gx:∀i,i<c.length→ar x[i]! =true)(hP:1≤P)(hP2:P≤2 ^ 40)(hp:∀i,i<c.length→Pq P (rv c[i]! *rv x[i]!)):∀n,n≤c.length→ar (om c x n)=true∧rv (om c x n)=(aN n fun i=>rv c[i]! *rv x[i]!)∧Pq ((2*P) ^ n) (rv (om c x n))
 |0,_=>⟨of0.1,of0.2,by
  have:rv (om c x 0)=0:=of0.2
  rw[this]
  exact⟨by simp,by simp⟩⟩
 |n+1,Te=>by
  obtain⟨i1,i2,i3⟩:=yL hn gc gx hP hP2 hp n (by omega)
  have p2:=hp n (by omega)
  have hb:(2*P) ^ n≤(2 ^ 41) ^ 5:=dv (Nat.pow_le_pow_left (by omega) n) (gX (by decide) (by omega))
  have hPL:P<LIM:=dq hP2 (a9 rfl)
  have hl:2*((2*P) ^ n*P)<LIM:=by
   have h1:=kD hb hP2
   have h2:2*((2 ^ 41) ^ 5*2 ^ 40)<LIM:=a9 rfl
   omega
  obtain⟨g1,g2⟩:=ry (gc n (by omega)) (gx n (by omega)) (p2.fit hPL)
  obtain⟨g3,g4⟩:=pB i1 g1 i3 (by rw[g2];exact p2) hl
  have e:rv (om c x (n+1))=rv (om c x n)+rv c[n]! *rv x[n]! :=by
   show rv (jK (om c x n) (lM c[n]! x[n]!))=_
   rw[g4,g2]
  refine⟨g3,by rw[e,i2];rfl,?_⟩
  rw[e,cz,show (2*P) ^ n*(2*P)=2*((2*P) ^ n*P) by rw[xa]]
  exact i3.add p2
theorem Cj {c x:List Nu}{P:Nat}(hl:c.length=x.length)(hn:c.length≤6)(gc:∀i,i<c.length→ar c[i]! =true)(gx:∀i,i<c.length→ar x[i]! =true)(hP:1≤P)(hP2:P≤2 ^ 40)(hp:∀i,i<c.length→Pq P (rv c[i]! *rv x[i]!)):ar (bn c x)=true∧rv (bn c x)=aN c.length fun i=>rv c[i]! *rv x[i]! :=by
 unfold bn
 rw[ai hl]
 exact⟨(yL hn gc gx hP hP2 hp _ (ax _)).1,(yL hn gc gx hP hP2 hp _ (ax _)).2.1⟩
theorem Pq.int {a:Rat}{K:Nat}(h:IsI a K)(hK:1≤K):Pq K a:=by
 obtain⟨z,rfl,hz⟩:=h
 exact⟨by simpa using hz,by simpa using hK⟩
end
def kg(mX:aU):Int→Option (Int⊕(Bool⊕Unit)):=fun aC=>cnd (decide (aC<((mX.vA.vV).length:Int))) (gd (0≤aC∧aC<((mX.vA.vV).length:Int)) (bnd (eN (1:Int)) fun x4=>cnd (decide (¬((mX.vA.vV)[(aC).toNat]!.vD=x4))) (some (.inr (.inl false))) (some (.inl (i64.wrap (aC+(1:Int))))))) (some (.inr (.inr ())))
def jA(mX:aU):Int→Option (Int⊕(Bool⊕Unit)):=fun vS=>cnd (decide (vS<((mX.vB).length:Int))) (gd (0≤vS∧vS<((mX.vB).length:Int)) (bnd (eN (1:Int)) fun sJ=>cnd (decide (¬((mX.vB)[(vS).toNat]!.vD=sJ))) (some (.inr (.inl false))) (some (.inl (i64.wrap (vS+(1:Int))))))) (some (.inr (.inr ())))
def jz(mX:aU):Int→Option (Int⊕(Bool⊕Unit)):=fun vP=>cnd (decide (vP<((mX.vC).length:Int))) (gd (0≤vP∧vP<((mX.vC).length:Int)) (bnd (eN (1:Int)) fun sE=>cnd (decide (¬((mX.vC)[(vP).toNat]!.vD=sE))) (some (.inr (.inl false))) (some (.inl (i64.wrap (vP+(1:Int))))))) (some (.inr (.inr ())))
def nr(mX:aU):Option Bool:=bnd (bq (kg mX) (0:Int)) fun y7=>match y7 with| .inl r=>some r| .inr ()=>bnd (bq (jA mX) (0:Int)) fun y14=>match y14 with| .inl r=>some r| .inr ()=>bnd (bq (jz mX) (0:Int)) fun y21=>match y21 with| .inl r=>some r| .inr ()=>some true
theorem Gf {mX:aU}{r:Bool}(h:nr mX=some r):aq prog 26 [dG dJ mX] (dB r):=by
 refine bh (rs:=[.tmp 2]) (fun cx hx h0=>?_) func26
 unfold nr at h
 refine rs hx fun K hK=>?_
 refine s1 (d:=.pt 0 0) fQ ?_
 refine nbr hK ?_
 refine AW.seq (ra hx ?_)
 refine AW.block ?_
 obtain⟨y,hy,h⟩:=ae h
 refine lp (S:=Int) (X:=Bool⊕Unit) (fun aC=>[(1,.pt 0 0),(3,dI .i64 aC)]) (fun aC=>⟨[(0,[dI .i64 mX.vA.vR,dI .i64 mX.vA.vC,dL ak mX.vA.vV,dL ak mX.vB,dL ak mX.vC])],[],1⟩) (PS (PR [.tmp 2] fun r=>dB r) (PE cx (.exit 0) (fun ()=>[(1,.pt 0 0)]) fun ()=>⟨[(0,[dI .i64 mX.vA.vR,dI .i64 mX.vA.vC,dL ak mX.vA.vV,dL ak mX.vB,dL ak mX.vC])],[],1⟩)) hy ?_ ?_ ?_
 exact wk0 h0 [0]
 clear hy h
 rintro aC y h
 dsimp only[kg] at h
 refine AW.seq (rar hx ?_)
 refine cdh h rfl (fun fJ h=>?_) (fun fJ h=>?_)
 refine AW.skip (AW.seq (AW.block (rsd [88] hx fun K hK=>?_)))
 iterate 4 refine sbr ?_
 obtain⟨q8,h⟩:=ay h
 have xT:(aC).toNat<(mX.vA.vV).length:=by omega
 iterate 2 refine sbr ?_
 refine s1 (d:=dG ap ((mX.vA.vV)[(aC).toNat]!.vD)) (jF (c:=ak) (l:=mX.vA.vV) (n:=(aC).toNat) (o:=18) fc xT (by first|exact rfl|exact pG0 _ _ _ rfl|exact pG1 _ _ _ _ rfl rfl)) ?_
 refine cqb h ix fun x4 h=>?_
 refine s1 (xj tok 3 (by decide) eV fc) ?_
 refine nl hK ?_
 refine cdh h rfl (fun qP h=>?_) (fun qP h=>?_)
 refine ra hx ?_
 refine AW.ret ?_
 cases h
 refine PS.r ⟨by nofun,PS.l (PR.i ?_)⟩
 exact rv1
 refine AW.skip (rb hx ?_)
 exact pel h h0 [0]
 exact AW.exit (peq h h0 [0])
 rcases y with r|⟨⟩
 rintro ex tm' hp' ⟨rfl,hw⟩
 cases h
 exact hw
 refine lwr ?_
 refine AW.seq (ra hx ?_)
 refine AW.block ?_
 obtain⟨y,hy,h⟩:=ae h
 refine lp (S:=Int) (X:=Bool⊕Unit) (fun vS=>[(1,.pt 0 0),(4,dI .i64 vS)]) (fun vS=>⟨[(0,[dI .i64 mX.vA.vR,dI .i64 mX.vA.vC,dL ak mX.vA.vV,dL ak mX.vB,dL ak mX.vC])],[],1⟩) (PS (PR [.tmp 2] fun r=>dB r) (PE cx (.exit 2) (fun ()=>[(1,.pt 0 0)]) fun ()=>⟨[(0,[dI .i64 mX.vA.vR,dI .i64 mX.vA.vC,dL ak mX.vA.vV,dL ak mX.vB,dL ak mX.vC])],[],1⟩)) hy ?_ ?_ ?_
 exact wk0 h0 [0]
 clear hy h
 rintro vS y h
 dsimp only[jA] at h
 refine AW.seq (rar hx ?_)
 refine cdh h rfl (fun ua h=>?_) (fun ua h=>?_)
 refine AW.skip (AW.seq (AW.block (rsd [88] hx fun K hK=>?_)))
 iterate 3 refine sbr ?_
 obtain⟨hc9,h⟩:=ay h
 have Td:(vS).toNat<(mX.vB).length:=by omega
 iterate 2 refine sbr ?_
 refine s1 (d:=dG ap ((mX.vB)[(vS).toNat]!.vD)) (jF (c:=ak) (l:=mX.vB) (n:=(vS).toNat) (o:=18) fc Td (by first|exact rfl|exact pG0 _ _ _ rfl|exact pG1 _ _ _ _ rfl rfl)) ?_
 refine cqb h ix fun sJ h=>?_
 refine s1 (xj tok 3 (by decide) eV fc) ?_
 refine nl hK ?_
 refine cdh h rfl (fun GB h=>?_) (fun GB h=>?_)
 refine ra hx ?_
 refine AW.ret ?_
 cases h
 refine PS.r ⟨by nofun,PS.l (PR.i ?_)⟩
 exact rv1
 refine AW.skip (rb hx ?_)
 exact pel h h0 [0]
 exact AW.exit (peq h h0 [0])
 rcases y with r|⟨⟩
 rintro ex tm' hp' ⟨rfl,hw⟩
 cases h
 exact hw
 refine lwr ?_
 refine AW.seq (ra hx ?_)
 refine AW.block ?_
 obtain⟨y,hy,h⟩:=ae h
 refine lp (S:=Int) (X:=Bool⊕Unit) (fun vP=>[(1,.pt 0 0),(5,dI .i64 vP)]) (fun vP=>⟨[(0,[dI .i64 mX.vA.vR,dI .i64 mX.vA.vC,dL ak mX.vA.vV,dL ak mX.vB,dL ak mX.vC])],[],1⟩) (PS (PR [.tmp 2] fun r=>dB r) (PE cx (.exit 4) (fun ()=>[]) fun ()=>⟨[],[],0⟩)) hy ?_ ?_ ?_
 exact wk0 h0 [0]
 clear hy h
 rintro vP y h
 dsimp only[jz] at h
 refine AW.seq (rar hx ?_)
 refine cdh h rfl (fun MX h=>?_) (fun MX h=>?_)
 refine AW.skip (AW.seq (AW.block (rsd [88] hx fun K hK=>?_)))
 iterate 3 refine sbr ?_
 obtain⟨Qr,h⟩:=ay h
 have Tc:(vP).toNat<(mX.vC).length:=by omega
 iterate 2 refine sbr ?_
 refine s1 (d:=dG ap ((mX.vC)[(vP).toNat]!.vD)) (jF (c:=ak) (l:=mX.vC) (n:=(vP).toNat) (o:=18) fc Tc (by first|exact rfl|exact pG0 _ _ _ rfl|exact pG1 _ _ _ _ rfl rfl)) ?_
 refine cqb h ix fun sE h=>?_
 refine s1 (xj tok 3 (by decide) eV fc) ?_
 refine nl hK ?_
 refine cdh h rfl (fun TA h=>?_) (fun TA h=>?_)
 refine ra hx ?_
 refine AW.ret ?_
 cases h
 refine PS.r ⟨by nofun,PS.l (PR.i ?_)⟩
 exact rv1
 refine AW.skip (rb hx ?_)
 exact pel h h0 [0]
 exact AW.exit (peq h h0 [])
 rcases y with r|⟨⟩
 rintro ex tm' hp' ⟨rfl,hw⟩
 cases h
 exact hw
 refine lwr ?_
 refine ra hx ?_
 exact AW.ret (rtv h)
def nt(aI:fE)(DS:Int)(aM:List am):Option am:=gd (0≤i64.wrap (DS*aI.vC)∧i64.wrap (DS*aI.vC)≤i64.wrap ((i64.wrap (DS+(1:Int)))*aI.vC)∧i64.wrap ((i64.wrap (DS+(1:Int)))*aI.vC)≤((aI.vV).length:Int)) (bnd (bU (yR aI.vV (i64.wrap (DS*aI.vC)) (i64.wrap ((i64.wrap (DS+(1:Int)))*aI.vC))) aM) fun x2=>some x2)
theorem Gg {aI:fE}{DS:Int}{aM:List am}{r:am}(h:nt aI DS aM=some r):aq prog 31 [dG mu aI,dI .i64 DS,dL ak aM] (dG ak r):=by
 refine bh (rs:=[.cell 6 43]) (fun cx hx h0=>?_) func31
 unfold nt at h
 refine rs hx fun K hK=>?_
 refine s1 (d:=.pt 0 0) fQ ?_
 refine nbr hK ?_
 refine rs hx fun K hK=>?_
 iterate 11 refine sbr ?_
 obtain⟨LW,h⟩:=ay h
 refine s1 (T_sl (c:=ak) (l:=aI.vV) (a:=i64.wrap (DS*aI.vC)) (b:=i64.wrap ((i64.wrap (DS+(1:Int)))*aI.vC)) LW b9 aR) ?_
 refine sa ?_
 refine scb h dh fun x2 h=>?_
 refine nbr hK ?_
 exact AW.ret (rtv h)
def jL(mX:aU)(aI:ct)(aM:List am):Option Bool:=bnd (S:=Bool) (cnd (decide (aI.vKind=(2:Int))) (some (true)) (cnd (decide (aI.vKind=(1:Int))) (bnd (bU mX.vC aI.vX) fun x3=>bnd (bU mX.vC aM) fun x5=>bnd (fx x3 x5) fun x7=>some (decide (x7<(0:Int)))) (some (false)))) fun bi=>some bi
theorem tv {mX:aU}{aI:ct}{aM:List am}{r:Bool}(h:jL mX aI aM=some r):aq prog 36 [dG dJ mX,dG jC aI,dL ak aM] (dB r):=by
 refine bh (rs:=[.tmp 6]) (fun cx hx h0=>?_) func36
 unfold jL at h
 refine rs hx fun K hK=>?_
 refine s1 (d:=.pt 0 0) fQ ?_
 refine s1 (d:=.pt 1 0) fQ ?_
 refine nbr hK ?_
 refine AW.seq ?_
 obtain⟨bi,hy,h⟩:=ae h
 refine jn ((PE cx .normal (fun bi=>[(6,dB bi)]) fun bi=>⟨[],[],0⟩) bi) ?_ ?_
 replace h:=hy
 refine rqd [17,32] hx fun K hK=>?_
 refine mbr ?_
 rcases aE h with⟨fJ,h⟩|⟨fJ,h⟩
 iterate 4 refine D0 rfl rfl fJ ?_
 iterate 11 refine Sn rfl rfl ?_
 refine nbr hK ?_
 exact pe1 h h0 []
 refine mbr ?_
 rcases aE h with⟨wI,h⟩|⟨wI,h⟩
 refine ga wI ?_
 refine gbr ?_
 refine ga wI ?_
 refine gbr ?_
 obtain⟨x3,SK,h⟩:=ae h
 refine sqg tok rfl rfl wI (dh SK) rfl (lA (au _) (lA (au _) lAn)) (.inl (jJ _ _)) ?_
 refine ga wI ?_
 refine gbr ?_
 refine ga wI ?_
 obtain⟨x5,Gu,h⟩:=ae h
 refine sqg tok rfl rfl wI (dh Gu) rfl (lA (au _) (lA (au _) lAn)) (.inl (jJ _ _)) ?_
 obtain⟨x7,SJ,h⟩:=ae h
 refine sqg tok rfl rfl wI (mb SJ) (by simp only[iW,l8,f5,ic,eI,b8];exact⟨cm _ _,cm _ _⟩) (lA (nJ _ _) (lA (nJ _ _) lAn)) (.inl rfl) ?_
 refine nbr hK ?_
 exact pe1 h h0 []
 refine nbr hK ?_
 exact pe1 h h0 []
 refine lw0 ?_
 exact AW.ret (rtv h)
def ew(aM:List am):Int→Option (Int⊕(Bool⊕Unit)):=fun eh=>cnd (decide (eh<((aM).length:Int))) (gd (0≤eh∧eh<((aM).length:Int)) (bnd (jy ((aM)[(eh).toNat]!)) fun o3=>cnd (decide (o3<(0:Int))) (bnd (iK) fun C7=>some (.inr (.inl C7))) (some (.inl (i64.wrap (eh+(1:Int))))))) (some (.inr (.inr ())))
def eu(mX:aU)(aM:List am):Bool×Int×(List am)→Option ((Bool×Int×(List am))⊕(Bool×(List am))):=fun (tn,jQ,vQ)=>cnd (decide (jQ<mX.vA.vR)) (bnd (nt mX.vA jQ aM) fun AX=>bnd (S:=Bool) (cnd tn (gd (0≤jQ∧jQ<((mX.vB).length:Int)) (bnd (fx AX ((mX.vB)[(jQ).toNat]!)) fun AT=>some (decide (AT≤(0:Int))))) (some (false))) fun Hx=>gd (0≤jQ∧jQ<((mX.vB).length:Int)) (bnd (ib AX) fun x34=>bnd (gh x34) fun x36=>bnd (kO ((mX.vB)[(jQ).toNat]!) x36) fun x38=>gd ((vQ++[x38]).length*136≤140737488355328) (some (.inl (Hx,i64.wrap (jQ+(1:Int)),vQ++[x38]))))) (some (.inr (tn,vQ)))
def fL(mX:aU)(aM:List am):Option Bool:=bnd (S:=Bool) (bnd (qr mX (5:Int) (6:Int)) fun x1=>cnd (!x1) (some (true)) (bnd (nr mX) fun x4=>cnd (!x4) (some (true)) (cnd (decide (((aM).length:Int)≠mX.vA.vC)) (some (true)) (bnd (jM aM (8:Int)) fun x8=>some (!x8))))) fun dK=>cnd dK (bnd (iK) fun nC=>some nC) (bnd (bq (ew aM) (0:Int)) fun y22=>match y22 with| .inl r=>some r| .inr ()=>bnd (bq (eu mX aM) (true,(0:Int),([]:List am))) fun (AI,tj)=>bnd (gW mX (4000:Int)) fun x42=>bnd (gW (⟨mX.vA,tj,mX.vC⟩:aU) (4000:Int)) fun PH=>bnd (S:=Bool) (cnd (decide (x42.2.2≠(0:Int))) (some (true)) (cnd (decide (PH.2.2≠(0:Int))) (some (true)) (cnd AI (bnd (jL mX x42.1 aM) fun x49=>cnd x49 (some (true)) (bnd (jL (⟨mX.vA,tj,mX.vC⟩:aU) PH.1 aM) fun x52=>some (x52))) (bnd (jL (⟨mX.vA,tj,mX.vC⟩:aU) PH.1 aM) fun x54=>some (x54))))) fun Hw=>cnd Hw (some false) (bnd (iK) fun x58=>some x58))
theorem vZ {mX:aU}{aM:List am}{r:Bool}(h:fL mX aM=some r):aq prog 10 [dG dJ mX,dL ak aM] (dB r):=by
 refine bh (rs:=[.tmp 4]) (fun cx hx h0=>?_) func10
 unfold fL at h
 refine rs hx fun K hK=>?_
 refine s1 (d:=.pt 0 0) fQ ?_
 refine nbr hK ?_
 iterate 2 refine AW.seq ?_
 obtain⟨dK,hy,h⟩:=ae h
 refine jn ((PE cx .normal (fun dK=>[(1,dL ak aM),(2,.pt 0 0),(36,dB dK)]) fun dK=>⟨[(0,[dI .i64 mX.vA.vR,dI .i64 mX.vA.vC,dL ak mX.vA.vV,dL ak mX.vB,dL ak mX.vC])],[],1⟩) dK) ?_ ?_
 replace h:=hy
 refine rq hx fun K hK=>?_
 refine s1 (d:=dG dJ mX) (T_ldA rJ) ?_
 refine scb h J3 fun x1 h=>?_
 refine mbr ?_
 rcases aE h with⟨fG,h⟩|⟨fG,h⟩
 refine nbr hK ?_
 exact pe1 h h0 [0]
 refine g1 (d:=dG dJ mX) fG (T_ldA rJ) ?_
 refine gcb h Gf fun x4 h=>?_
 refine mbr ?_
 rcases aE h with⟨qP,h⟩|⟨qP,h⟩
 refine nbr hK ?_
 exact pe1 h h0 [0]
 refine mbr ?_
 rcases aE h with⟨sZ,h⟩|⟨sZ,h⟩
 refine nbr hK ?_
 exact pe1 h h0 [0]
 refine ga sZ ?_
 refine gcb h pT fun x8 h=>?_
 refine nbr hK ?_
 exact pe1 h h0 [0]
 refine lw0 ?_
 refine cdh h rfl (fun wh h=>?_) (fun wh h=>?_)
 refine rs hx fun K hK=>?_
 refine scb h rF fun nC h=>?_
 refine nbr hK ?_
 exact AW.ret (rtv h)
 refine AW.skip (AW.seq (ra hx ?_))
 refine AW.block ?_
 obtain⟨y,hy,h⟩:=ae h
 refine lp (S:=Int) (X:=Bool⊕Unit) (fun eh=>[(1,dL ak aM),(2,.pt 0 0),(5,dI .i64 eh)]) (fun eh=>⟨[(0,[dI .i64 mX.vA.vR,dI .i64 mX.vA.vC,dL ak mX.vA.vV,dL ak mX.vB,dL ak mX.vC])],[],1⟩) (PS (PR [.tmp 4] fun r=>dB r) (PE cx (.exit 0) (fun ()=>[(1,dL ak aM),(2,.pt 0 0)]) fun ()=>⟨[(0,[dI .i64 mX.vA.vR,dI .i64 mX.vA.vC,dL ak mX.vA.vV,dL ak mX.vB,dL ak mX.vC])],[],1⟩)) hy ?_ ?_ ?_
 exact wk0 h0 [0]
 clear hy h
 rintro eh y h
 dsimp only[ew] at h
 refine AW.seq (ra hx ?_)
 refine cdh h rfl (fun uO h=>?_) (fun uO h=>?_)
 refine AW.skip (AW.seq (AW.block (rs hx fun K hK=>?_)))
 iterate 2 refine sa ?_
 obtain⟨hc15,h⟩:=ay h
 have Ql:(eh).toNat<(aM).length:=by omega
 refine sbr ?_
 refine s1 (d:=dG ak ((aM)[(eh).toNat]!)) (jF (c:=ak) (l:=aM) (n:=(eh).toNat) (o:=0) aR Ql (eY _ _ rfl)) ?_
 refine scb h qW fun o3 h=>?_
 refine nbr hK ?_
 refine cdh h rfl (fun MV h=>?_) (fun MV h=>?_)
 refine rs hx fun K hK=>?_
 refine scb h rF fun C7 h=>?_
 refine nbr hK ?_
 refine AW.ret ?_
 cases h
 refine PS.r ⟨by nofun,PS.l (PR.i ?_)⟩
 exact rv1
 refine AW.skip (rb hx ?_)
 exact pel h h0 [0]
 exact AW.exit (peq h h0 [0])
 rcases y with r|⟨⟩
 rintro ex tm' hp' ⟨rfl,hw⟩
 cases h
 exact hw
 refine lwr ?_
 refine rs hx fun K hK=>?_
 refine sa ?_
 refine s1 (d:=dG mu mX.vA) (T_ldA ye) ?_
 iterate 2 refine sbr ?_
 refine s1 (d:=.ag [dI .i64 mX.vA.vR,dI .i64 mX.vA.vC,dL ak mX.vA.vV,dN,dL ak mX.vC]) (dE rJ) ?_
 refine s1 (d:=.pt 1 0) (p8 rJ) ?_
 refine s0 (GL (ds':=[dI .i64 mX.vA.vR,dI .i64 mX.vA.vC,dL ak mX.vA.vV,dN,dL ak mX.vC]) rJ) ?_
 refine nl hK ?_
 refine ra hx ?_
 refine AW.seq (ra hx ?_)
 refine AW.block ?_
 obtain⟨y,hy,h⟩:=ae h
 refine lp (S:=Bool×Int×(List am)) (X:=Bool×(List am)) (fun (tn,jQ,vQ)=>[(1,dL ak aM),(2,.pt 0 0),(6,.pt 1 0),(7,dB tn),(8,dI .i64 jQ)]) (fun (tn,jQ,vQ)=>⟨[(0,[dI .i64 mX.vA.vR,dI .i64 mX.vA.vC,dL ak mX.vA.vV,dL ak mX.vB,dL ak mX.vC]),(1,[dI .i64 mX.vA.vR,dI .i64 mX.vA.vC,dL ak mX.vA.vV,dO 2 ak vQ,dL ak mX.vC])],[(2,(vQ).length,36,43)],3⟩) (PE cx (.exit 2) (fun (AI,tj)=>[(1,dL ak aM),(2,.pt 0 0),(6,.pt 1 0),(7,dB AI)]) fun (AI,tj)=>⟨[(0,[dI .i64 mX.vA.vR,dI .i64 mX.vA.vC,dL ak mX.vA.vV,dL ak mX.vB,dL ak mX.vC]),(1,[dI .i64 mX.vA.vR,dI .i64 mX.vA.vC,dL ak mX.vA.vV,dO 2 ak tj,dL ak mX.vC])],[(2,(tj).length,36,43)],3⟩) hy ?_ ?_ ?_
 exact Wk.trans (Wk.nilOwn (ds':=[dI .i64 mX.vA.vR,dI .i64 mX.vA.vC,dL ak mX.vA.vV,dO 2 ak ([]:List am),dL ak mX.vC]) 1 3 43 36) (wk h0 [0,1,2] (wR rfl (wR rfl (wR rfl (wR rfl (wR rfl wTn))))) (vR rfl (vR rfl wVn)) (wL rfl rfl wLn))
 clear hy h
 rintro⟨tn,jQ,vQ⟩ y h
 dsimp only[eu] at h
 refine AW.seq (rar hx ?_)
 refine cdh h rfl (fun hb23 h=>?_) (fun hb23 h=>?_)
 refine AW.skip (AW.seq (AW.block (rs hx fun K hK=>?_)))
 refine sa ?_
 refine s1 (d:=dG mu mX.vA) (T_ldA ye) ?_
 refine mbr ?_
 refine scb h Gg fun AX h=>?_
 refine nbr hK ?_
 refine AW.seq ?_
 obtain⟨Hx,hy,h⟩:=ae h
 refine jn ((PE cx .normal (fun Hx=>[(1,dL ak aM),(2,.pt 0 0),(6,.pt 1 0),(7,dB Hx),(8,dI .i64 jQ),(9,.pt 2 0)]) fun Hx=>⟨[(0,[dI .i64 mX.vA.vR,dI .i64 mX.vA.vC,dL ak mX.vA.vV,dL ak mX.vB,dL ak mX.vC]),(1,[dI .i64 mX.vA.vR,dI .i64 mX.vA.vC,dL ak mX.vA.vV,dO 3 ak vQ,dL ak mX.vC]),(2,dC (ak.f AX))],[(3,(vQ).length,36,43)],4⟩) Hx) ?_ ?_
 replace h:=hy
 refine rqd [32] hx fun K hK=>?_
 refine mbr ?_
 rcases aE h with⟨IE,h⟩|⟨IE,h⟩
 refine gbr ?_
 refine ga IE ?_
 refine gbr ?_
 refine ga IE ?_
 obtain⟨hc27,h⟩:=ay h
 have hn28:(jQ).toNat<(mX.vB).length:=by omega
 refine gbr ?_
 refine g1 (d:=dG ak ((mX.vB)[(jQ).toNat]!)) IE (jF (c:=ak) (l:=mX.vB) (n:=(jQ).toNat) (o:=0) aR hn28 (eY _ _ rfl)) ?_
 obtain⟨AT,MF,h⟩:=ae h
 refine sqg tok rfl rfl IE (mb MF) (by simp only[iW,l8,f5,ic,eI,b8];exact⟨cm _ _,cm _ _⟩) (lA (nJ _ _) (lA (nJ _ _) lAn)) (.inl rfl) ?_
 refine nbr hK ?_
 exact pe1 h h0 [0,1,3,2]
 refine nbr hK ?_
 exact pe1 h h0 [0,1,3,2]
 refine lw0 ?_
 refine rqd [35,34,33] hx fun K hK=>?_
 iterate 5 refine sbr ?_
 obtain⟨hc32,h⟩:=ay h
 have hn33:(jQ).toNat<(mX.vB).length:=by omega
 refine sbr ?_
 refine s1 (d:=dG ak ((mX.vB)[(jQ).toNat]!)) (jF (c:=ak) (l:=mX.vB) (n:=(jQ).toNat) (o:=0) aR hn33 (eY _ _ rfl)) ?_
 refine mbr ?_
 refine cqb h HU fun x34 h=>?_
 refine cqb h yd fun x36 h=>?_
 refine cqb h J1 fun x38 h=>?_
 refine s1 (Jt ([x38]:List am) ak b9 aR) ?_
 obtain⟨hc40,h⟩:=ay h
 refine s1 (d:=dO 3 ak (vQ++[x38])) (qN b9 aR hc40) ?_
 refine sa ?_
 refine s0 (GL (ds':=[dI .i64 mX.vA.vR,dI .i64 mX.vA.vC,dL ak mX.vA.vV,dO 3 ak (vQ++[x38]),dL ak mX.vC]) b9) ?_
 refine nl hK ?_
 refine rb hx ?_
 exact pel h h0 [0,1,3]
 exact AW.exit (per h h0 [0,1,2])
 obtain⟨AI,tj⟩:=y
 refine lw0 ?_
 refine rs hx fun K hK=>?_
 refine s1 (d:=dG dJ mX) (T_ldA rJ) ?_
 refine scb h qC fun x42 h=>?_
 iterate 4 refine sa ?_
 refine s1 (d:=.pt 3 0) (p8 o5) ?_
 refine s0 (GL (ds':=[dI .i64 x42.1.vKind,dL ak x42.1.vX,dL ak x42.1.vY,dL ak x42.1.vRay]) o5) ?_
 refine nbr hK ?_
 refine rs hx fun K hK=>?_
 refine s1 (d:=.ag [dI .i64 mX.vA.vR,dI .i64 mX.vA.vC,dL ak mX.vA.vV,dO 2 ak tj,dL ak mX.vC]) (T_ldA rJ) ?_
 obtain⟨PH,hx45,h⟩:=ae h
 refine s1 (tM rfl (qC hx45) rfl (lA (qk (wc (l7 _) (wc (l7 _) (wc (l7 _) (wc (l7 _) (wc (l7 _) wcn)))))) (lA (au _) lAn)) (.inr ⟨_,rfl⟩)) ?_
 iterate 4 refine sa ?_
 refine s1 (d:=.pt 4 0) (p8 o5) ?_
 refine s0 (GL (ds':=[dI .i64 PH.1.vKind,dL ak PH.1.vX,dL ak PH.1.vY,dL ak PH.1.vRay]) o5) ?_
 refine nbr hK ?_
 iterate 2 refine AW.seq ?_
 obtain⟨Hw,hy,h⟩:=ae h
 refine jn ((PE cx .normal (fun Hw=>[(125,dB Hw)]) fun Hw=>⟨[],[],0⟩) Hw) ?_ ?_
 replace h:=hy
 refine rq hx fun K hK=>?_
 refine mbr ?_
 rcases aE h with⟨hb46,h⟩|⟨hb46,h⟩
 iterate 2 refine D0 rfl rfl hb46 ?_
 iterate 2 refine sbr ?_
 iterate 2 refine D0 rfl rfl rfl ?_
 iterate 4 refine Sn rfl rfl ?_
 refine nbr hK ?_
 exact pe1 h h0 []
 refine mbr ?_
 rcases aE h with⟨hb47,h⟩|⟨hb47,h⟩
 iterate 2 refine D0 rfl rfl hb47 ?_
 iterate 4 refine Sn rfl rfl ?_
 refine nbr hK ?_
 exact pe1 h h0 []
 refine mbr ?_
 rcases aE h with⟨ID,h⟩|⟨ID,h⟩
 refine g1 (d:=dG dJ mX) ID (T_ldA rJ) ?_
 refine g1 (d:=dG jC x42.1) ID (T_ldA o5) ?_
 refine ga ID ?_
 refine gcb h tv fun x49 h=>?_
 refine mbr ?_
 rcases aE h with⟨hb51,h⟩|⟨hb51,h⟩
 refine nbr hK ?_
 exact pe1 h h0 []
 refine g1 (d:=.ag [dI .i64 mX.vA.vR,dI .i64 mX.vA.vC,dL ak mX.vA.vV,dO 2 ak tj,dL ak mX.vC]) hb51 (T_ldA rJ) ?_
 refine g1 (d:=dG jC PH.1) hb51 (T_ldA o5) ?_
 refine ga hb51 ?_
 obtain⟨x52,hx53,h⟩:=ae h
 refine g1 hb51 (tM rfl (tv hx53) (by simp only[iW,l8,f5,ic,eI,b8];exact⟨rfl,cm _ _,rfl⟩) (lA (qk (wc (l7 _) (wc (l7 _) (wc (l7 _) (wc (l7 _) (wc (l7 _) wcn)))))) (lA (au _) (lA (au _) lAn))) (.inl rfl)) ?_
 refine nbr hK ?_
 exact pe1 h h0 []
 iterate 4 refine D0 rfl rfl ID ?_
 refine gbr ?_
 iterate 2 refine sbr ?_
 refine g1 (d:=.ag [dI .i64 mX.vA.vR,dI .i64 mX.vA.vC,dL ak mX.vA.vV,dO 2 ak tj,dL ak mX.vC]) rfl (T_ldA rJ) ?_
 refine g1 (d:=dG jC PH.1) rfl (T_ldA o5) ?_
 refine ga rfl ?_
 obtain⟨x54,hx55,h⟩:=ae h
 refine g1 rfl (tM rfl (tv hx55) (by simp only[iW,l8,f5,ic,eI,b8];exact⟨rfl,cm _ _,rfl⟩) (lA (qk (wc (l7 _) (wc (l7 _) (wc (l7 _) (wc (l7 _) (wc (l7 _) wcn)))))) (lA (au _) (lA (au _) lAn))) (.inl rfl)) ?_
 refine nbr hK ?_
 exact pe1 h h0 []
 refine lw0 ?_
 refine cdh h rfl (fun hb57 h=>?_) (fun hb57 h=>?_)
 refine ra hx ?_
 exact AW.ret (rtv h)
 refine AW.skip (rs hx fun K hK=>?_)
 refine scb h rF fun x58 h=>?_
 refine nbr hK ?_
 exact AW.ret (rtv h)
section
theorem nv_good {x:Nu}(h:ar x=true):nv x=kI (rv x):=(c6.1 (bo.1 h)).2
theorem T6 {a b:Int}(ha:a.natAbs<LIM)(hb:b.natAbs<LIM):enc a=enc b↔a=b:=⟨fun h=>by rw[←Az ha,←Az hb,h],fun h=>by rw[h]⟩
theorem IV {x:Nu}(hg:ar x=true):decide (¬((nv x).vD=enc 1))= !decide ((rv x).den=1):=by
 have h1:=(KV hg).2
 have e:(nv x).vD=enc ((rv x).den:Int):=by rw[nv_good hg];rfl
 have hi:=T6 (a:=((rv x).den:Int)) (b:=1) (by simpa using h1) (by decide)
 by_cases h:(rv x).den=1
 ·have hh:(nv x).vD=enc 1:=by rw[e];exact hi.2 (by omega)
  simp[hh,h]
 ·have hh:¬(nv x).vD=enc 1:=by rw[e];exact fun hh=>h (by have:=hi.1 hh;omega)
  simp[hh,h]
theorem isI_den {x:Nu}{K:Nat}(h1:(rv x).den=1)(h2:(rv x).num.natAbs≤K):IsI (rv x) K:=by
 refine⟨(rv x).num,?_,h2⟩
 have:=(uS (rv x)).1
 rw[h1] at this
 rw[←this]
 show rv x=((1:Nat):Rat)*rv x
 grind
structure Who(A B C:List Nu):Prop where
 a:∀i,i<A.length→(rv A[i]!).den=1
 b:∀i,i<B.length→(rv B[i]!).den=1
 c:∀i,i<C.length→(rv C[i]!).den=1
theorem DZ {n:Nat}{p:Nat→Bool}(h:(List.range n).all p=true):∀i,i<n→p i=true:=fun i hi=>ba.1 h i (kC.2 hi)
section
variable {R Cc:Int} {A B C:List Nu}
theorem R_whole(hA:A.length≤9223372036854775807)(hB:B.length≤9223372036854775807)(hC:C.length≤9223372036854775807)(gA:∀i,i<A.length→ar A[i]! =true)(gB:∀i,i<B.length→ar B[i]! =true)(gC:∀i,i<C.length→ar C[i]! =true):∃b,nr ⟨⟨R,Cc,A.map nv⟩,B.map nv,C.map nv⟩=some b∧(b=true→Who A B C):=by
 obtain⟨y1,h1,p1⟩:=rr (b:=kg ⟨⟨R,Cc,A.map nv⟩,B.map nv,C.map nv⟩) hA (fun i=>decide ((rv A[i]!).den=1)) (fun _=>false) (fun i hi=>by
  unfold kg
  rw[bb,cy _ _,aB,rm (by omega) (by omega),ab,qO hi,IV (gA i hi)]) (by
  unfold kg
  rw[bb,ci _ _])
 obtain⟨y2,h2,p2⟩:=rr (b:=jA ⟨⟨R,Cc,A.map nv⟩,B.map nv,C.map nv⟩) hB (fun i=>decide ((rv B[i]!).den=1)) (fun _=>false) (fun i hi=>by
  unfold jA
  rw[bb,cy _ _,aB,rm (by omega) (by omega),ab,qO hi,IV (gB i hi)]) (by
  unfold jA
  rw[bb,ci _ _])
 obtain⟨y3,h3,p3⟩:=rr (b:=jz ⟨⟨R,Cc,A.map nv⟩,B.map nv,C.map nv⟩) hC (fun i=>decide ((rv C[i]!).den=1)) (fun _=>false) (fun i hi=>by
  unfold jz
  rw[bb,cy _ _,aB,rm (by omega) (by omega),ab,qO hi,IV (gC i hi)]) (by
  unfold jz
  rw[bb,ci _ _])
 unfold nr
 rw[h1,h2,h3]
 simp only[ab]
 cases y1 with
 |inl r=>obtain⟨i,_,_,rfl⟩:=p1;exact⟨false,rfl,fun e=>by cases e⟩
 |inr u=>
  cases y2 with
  |inl r=>obtain⟨i,_,_,rfl⟩:=p2;exact⟨false,rfl,fun e=>by cases e⟩
  |inr u=>
   cases y3 with
   |inl r=>obtain⟨i,_,_,rfl⟩:=p3;exact⟨false,rfl,fun e=>by cases e⟩
   |inr u=>exact⟨true,rfl,fun _=>⟨fun i hi=>bw (DZ p1 i hi),fun i hi=>bw (DZ p2 i hi),fun i hi=>bw (DZ p3 i hi)⟩⟩
theorem Bh {l:List Nu}(h:HI l 6)(hd:∀i,i<l.length→(rv l[i]!).den=1):∀i,i<l.length→ar l[i]! =true∧IsI (rv l[i]!) 63:=fun i hi=>by
 have:=h.num i hi
 exact⟨h.good i hi,isI_den (hd i hi) (by have e:2 ^ ((6:Int)).toNat=64:=rfl;omega)⟩
structure FF(m nn:Nat)(A B C:List Nu):Prop where
 m5:m≤5
 n5:nn≤5
 lA:A.length=m*nn
 lB:B.length=m
 lC:C.length=nn
 l25:A.length≤25
 a:∀i,i<m*nn→ar A[i]! =true∧IsI (rv A[i]!) 63
 b:∀i,i<m→ar B[i]! =true∧IsI (rv B[i]!) 63
 c:∀k,k<nn→ar C[k]! =true∧IsI (rv C[k]!) 63
theorem FF.sz {m nn:Nat}(h:FF m nn A B C):Sz m nn A B C:=by
 have hb:63≤BT:=by decide
 exact⟨by have:=h.m5;omega,h.n5,h.lA,h.lB,h.lC,fun i hi=>⟨(h.a i hi).1,(h.a i hi).2.mono hb⟩,fun i hi=>⟨(h.b i hi).1,(h.b i hi).2.mono hb⟩,fun i hi=>⟨(h.c i hi).1,(h.c i hi).2.mono hb⟩⟩
theorem T0(hf:Few R Cc A B C 5 6)(hw:Who A B C):∃m nn:Nat,R=m∧Cc=nn∧FF m nn A B C:=by
 obtain⟨m,nn,rfl,rfl,d1,d2,d3,d4,d5,g1,g2,g3⟩:=yK hf.valid
 have hr:=hf.r
 have hc:=hf.c
 have hmn:m*nn≤5*5:=kD (by omega) (by omega)
 exact⟨m,nn,rfl,rfl,by omega,by omega,d3,d4,d5,by omega,fun i hi=>Bh hf.sA hw.a i (by omega),fun i hi=>Bh hf.sB hw.b i (by omega),fun i hi=>Bh hf.sC hw.c i (by omega)⟩
theorem Rx {m nn:Nat}(hm:m≤2000)(hn:nn≤2000)(hA:A.length=m*nn)(hB:B.length=m)(hC:C.length=nn)(gA:∀i,i<A.length→ar A[i]! =true)(gB:∀i,i<B.length→ar B[i]! =true)(gC:∀i,i<C.length→ar C[i]! =true):mW m nn A B C=true:=by
 unfold mW Gr
 rw[I2 gA,I2 gB,I2 gC,hA,hB,hC]
 have q1:decide ((0:Int)≤(m:Int))=true:=aA (by omega)
 have q2:decide ((0:Int)≤(nn:Int))=true:=aA (by omega)
 have q3:decide ((m:Int)≤2000)=true:=aA (by omega)
 have q4:decide ((nn:Int)≤2000)=true:=aA (by omega)
 have q5:decide (((m*nn:Nat):Int)=(m:Int)*(nn:Int))=true:=aA (by rw[ig])
 have q6:decide ((m:Int)=(m:Int))=true:=aA rfl
 have q7:decide ((nn:Int)=(nn:Int))=true:=aA rfl
 rw[q1,q2,q3,q4,q5,q6,q7]
 rfl
theorem Sz.valid {m nn:Nat}(h:Sz m nn A B C):mW m nn A B C=true:=by
 have h1:=h.m6
 have h2:=h.n5
 refine Rx (by omega) (by omega) h.lA h.lB h.lC (fun i hi=>(h.gA i (by rw[←h.lA];exact hi)).1) (fun i hi=>(h.gB i (by rw[←h.lB];exact hi)).1) fun i hi=>(h.gC i (by rw[←h.lC];exact hi)).1
theorem Sz.solveB {m nn:Nat}(h:Sz m nn A B C):∃a n,Go.Proofs.YtaedcknhkjpmlaaGreat.rL m nn A B C 4000=(a,n,0)∧0≤n∧n≤4000∧iT m nn A B C a=true:=by
 obtain⟨a,n,e,h1,h2,h3⟩:=Me h
 refine⟨a,n,?_,h1,h2,h3⟩
 unfold Go.Proofs.YtaedcknhkjpmlaaGreat.rL
 rw[ai (by rw[h.valid];rfl)]
 exact e
theorem Sz.RQ {m nn:Nat}(h:Sz m nn A B C){a:Ans}(ha:iT m nn A B C a=true):Go.Proofs.YtaedcknhkjpmlaaGreat.RQ m nn (fun i k=>rv A[i*nn+k]!) (fun i=>rv B[i]!) (fun k=>rv C[k]!) a.kind (fun k=>rv a.x[k]!) (fun i=>rv a.y[i]!) (fun k=>rv a.ray[k]!)∧(a.kind=1→ar (bn C a.x)=true∧rv (bn C a.x)=aN nn fun k=>rv C[k]! *rv a.x[k]!)∧Fw a:=by
 obtain⟨h1,h2,h3,h4,h5⟩:=RY h.lA h.lB h.lC (fun i hi=>(h.gB i hi).1) (fun k hk=>(h.gC k hk).1) ha
 have h6:=h.m6
 have h7:=h.n5
 exact⟨h1,h2,⟨by omega,by omega,by omega⟩⟩
theorem Sz.len {m nn:Nat}(h:Sz m nn A B C):A.length≤30∧B.length≤6∧C.length≤5:=by
 have h1:=h.m6
 have h2:=h.n5
 have hmn:m*nn≤6*5:=kD h1 h2
 rw[h.lA,h.lB,h.lC]
 omega
end
end
section
open Go.ChangeShapes Go.WideShapes Go.ChangeAt Go.RowKit Go.Deep
section
variable {H:Type} {enc:TypeId×Value→H} {P:Program}
theorem Gn {f:Func}{s:ChangeSpec}{apart fresh handsOn again:Bool}{W W':World}{args:Array Value}{v:Value}{ds gs:List (DataW H)}{before pa pv:List MemPlace}
  (hW:DataW.Whole enc P f.params.toList s.vars apart W args.toList ds gs before)
  (ql:∀(b:Nat) (sp:Nat→Bool) (hd:Bool),DataW.TrodAll enc P W' b sp hd f.resultTypes.toList (v.resultList f.resultTypes.size) (s.fn H (ds++gs)).results [])
  (vJ:∀sp:Nat→Bool,(∀p∈before,sp p.block=true)→DataW.TrodAll enc P W' 0 sp true f.params.toList args.toList (s.fn H (ds++gs)).args pa)
  (OG:∀sp:Nat→Bool,(∀p∈before,sp p.block=true)→DataW.TrodVars enc P W' sp s.vars (s.fn H (ds++gs)).vars pv)
  (S0:before=pa++pv) (hb:Below W.heap.size W W')
  (hok:∀(j:Nat) (t:TypeId) (r:Value),f.resultTypes[j]? =some t→(v.resultList f.resultTypes.size)[j]? =some r→Value.okWide P W' .any 0 t r):
  s.post enc P f apart fresh handsOn again W args v W':=by
 have bI:∀p∈before,p.block<W.heap.size:=fun p hp=>hW.lt p hp
 have hold:∀p∈before,(fun b=>decide (b<W.heap.size)) p.block=true:=fun p hp=>by simpa using bI p hp
 refine⟨ds,gs,before,[],pa,pv,hW,ql _ _ _,vJ _ hold,OG _ hold,World.keptBut_mono (fun p hp=>⟨hp,?_⟩) (hb.frame (·∈before)),fun _=>?_⟩
 ·rw[S0,vM] at hp
  exact Or.inr hp
 ·obtain⟨_,_,_,_,_,hz,hn⟩:=hW
  refine⟨hok,_,_,([]++pa)++pv,⟨[]++pa,pv,trodAll_append (vJ _ (fun _ _=>rfl)) (ql _ _ _),OG _ (fun _ _=>rfl),rfl,?_,?_⟩,?_⟩
  ·intro b off hp
   have Gz:MemPlace.cell b off∈before:=by rw[S0];simpa using hp
   rw[hb.frozen (bI _ Gz)]
   exact hz b off Gz
  ·intro ha
   have:=hn ha
   rw[S0] at this
   simpa using this
  ·intro p hp _
   rw[S0]
   simpa using hp
theorem Gj(hl:laidOutB P=true){W W':World}(hb:Below W.heap.size W W'){sp:Nat→Bool}:∀(ts:List TypeId) (vs:List Value) (ds:List (DataW H)) (p:List MemPlace),
  (ts.all fun t=>P.readableRec t&&decide (t<P.types.size))=true→DataW.TrodAll enc P W 0 (fun _=>true) true ts vs ds p→(∀x∈p,x.block<W.heap.size)→(∀x∈p,sp x.block=true)→
  DataW.TrodAll enc P W' 0 sp true ts vs ds p:=by
 intro ts
 induction ts with
 |nil=>
  intro vs ds p _ h _ _
  cases vs with
  |nil=>cases ds with
   |nil=>exact h
   |cons d ds=>exact h.elim
  |cons v vs=>exact h.elim
 |cons t ts ih=>
  intro vs ds p hr h bI hs
  cases vs with
  |nil=>exact h.elim
  |cons v vs=>
   cases ds with
   |nil=>exact h.elim
   |cons d ds=>
    obtain⟨p1,q,h1,h2,rfl⟩:=h
    simp only[f5,b8,r9] at hr
    refine⟨p1,q,WideElems.Trod_stays hl hr.1.1 hr.1.2 h1 (fun x hx=>hb.same (bI x (by simp[hx]))) (fun x hx=>hs x (by simp[hx])),ih vs ds q hr.2 h2 (fun x hx=>bI x (by simp[hx])) (fun x hx=>hs x (by simp[hx])),rfl⟩
theorem SA {f:Func}{s:ChangeSpec}{W W':World}{args:Array Value}{ds gs:List (DataW H)}{before:List MemPlace}{tb:TypeId}
  (hl:laidOutB P=true) (hv:s.vars=[]) (hrec:(f.params.toList.all fun t=>P.readableRec t&&decide (t<P.types.size))=true)
  (ql:f.resultTypes=#[tb]) (htb:P.underlying tb=some .bool)
  (hW:DataW.Whole enc P f.params.toList s.vars false W args.toList ds gs before)
  (hfn:s.fn H (ds++gs)={results:=[.lit (.bool true)],args:=ds}) (hb:Below W.heap.size W W'):
  s.post enc P f false true false false W args (.bool true) W':=by
 have hW':=hW
 obtain⟨p,q,hA,hV,hpq,_,_⟩:=hW
 rw[hv] at hV
 have hq:q=[]:=by
  cases gs with
  |nil=>exact hV
  |cons g gs=>exact hV.elim
 subst hq
 rw[th] at hpq
 subst hpq
 refine Gn (pa:=before) (pv:=[]) hW' (fun b sp hd=>?_) (fun sp hsp=>?_) (fun sp _=>?_) (by simp) hb ?_
 ·rw[ql,hfn]
  exact trodAll_cons_mk (shut_bool htb _) trodAll_mk0
 ·rw[hfn]
  exact Gj hl hb _ _ _ _ hrec hA (fun x hx=>hW'.lt x hx) hsp
 ·rw[hv,hfn];rfl
 ·exact ok_one ql rfl (okWide_bool_mk htb _)
end
theorem hv_of {P:Program}{W:World}{params:Array TypeId}{args:Array Value}(h:∀(j:Nat) t v,params[j]? =some t→args[j]? =some v→Value.okWide P W .any 0 t v∨∃base,Value.okWide P W .any base t v)(j:Nat){t:TypeId}{v:Value}
  (h1:params[j]? =some t) (h2:args[j]? =some v):∃base,Value.okWide P W .any base t v:=by
 rcases h j t v h1 h2 with h|h
 ·exact⟨0,h⟩
 ·exact h
end
section
open Go.ChangeShapes Go.WideShapes Go.ChangeAt Go.RowKit Go.Deep
def wtFs(tb:TypeId→Option TyE)(f:TypeId→List E→Prop):List (Nat×TypeId)→List E→Prop
 |[],xs=>xs=[]
 |(_,t)::fs,xs=>∃j,tb t=some j∧j.size≤xs.length∧f t (xs.take j.size)∧wtFs tb f fs (xs.drop j.size)
def wtE(tb:TypeId→Option TyE):Nat→TypeId→List E→Prop
 |0,_,_=>False
 |k+1,t,xs=>∃i,tb t=some i∧xs.length=i.size∧match i.ty with
  | .int kd=>∃n,xs=[.lit (.int kd n)]∧(Lit.int kd n).wf=true
  | .bool=>∃b,xs=[.lit (.bool b)]
  | .str=>∃s:ByteArray,xs=[.lit (.string s)]∧s.size≤maxLen
  | .slice e=>∃j n ys,tb e=some j∧xs=[.sl j.size n ys]∧ys.length=n*j.size∧n≤maxLen∧∀i,i<n→wtE tb k e ((ys.drop (i*j.size)).take j.size)
  | .struct fs=>wtFs tb (wtE tb k) fs xs
  | .arr n e=>∃j,tb e=some j∧xs.length=n*j.size∧∀i,i<n→wtE tb k e ((xs.drop (i*j.size)).take j.size)
  |_=>False
def DF(tb:TypeId→Option TyE)(f:TypeId→Bool):List (Nat×TypeId)→Nat→Nat→Bool
 |[],off,n=>off == n
 |(o,t)::fs,off,n=>o == off&&f t&&match tb t with
  |some j=>DF tb f fs (off+j.size) n
  |none=>false
def Ij(tb:TypeId→Option TyE):Nat→TypeId→Bool
 |0,_=>false
 |k+1,t=>match tb t with
  |some i=>match i.ty with
   | .int _| .bool| .str=>i.size == 1
   | .slice e=>i.size == 1&&Ij tb k e&&match tb e with
    |some j=>decide (0<j.size)
    |none=>false
   | .struct fs=>DF tb (Ij tb k) fs 0 i.size
   | .arr n e=>Ij tb k e&&match tb e with
    |some j=>i.size == n*j.size
    |none=>false
   |_=>false
  |none=>false
section
variable {H:Type} {enc:TypeId×Value→H} {P:Program} {tb:TypeId→Option TyE} {W:World} {sp:Nat→Bool} {hd:Bool} {base:Nat}
theorem TOk.cells(tok:TOk P tb){t:TypeId}{i:TyE}(h:tb t=some i):P.cellsOf t=i.size:=by
 obtain⟨f,z,h1,h2,_⟩:=tok.inf h
 unfold Program.cellsOf
 rw[h1]
 exact h2
def F0:Addr→Prop:=fun _=>False
theorem BR {z:Nat}{us:List Value}{Good:List E→Prop}:∀(n:Nat),us.length=n*z→(∀i,i<n→∃xs,Pw (db W F0) xs ((us.drop (i*z)).take z)∧Good xs)→
  ∃ys,Pw (db W F0) ys us∧ys.length=n*z∧∀i,i<n→Good ((ys.drop (i*z)).take z)
 |0,hl,_=>⟨[],by rw[gL] at hl;rw[sI hl];exact Pw.nil,by simp,fun i h=>absurd h (qK _)⟩
 |n+1,hl,h=>by
  rw[qL] at hl
  have bI:(us.take (n*z)).length=n*z:=by rw[eg];omega
  obtain⟨ys,h1,h2,h3⟩:=BR (us:=us.take (n*z)) n bI fun i hi=>by
   obtain⟨xs,g1,g2⟩:=h i (by omega)
   have hm:i*z+z≤n*z:=by rw[←qL];exact cK _ hi
   refine⟨xs,?_,g2⟩
   rw[Lq,Hu,tf (by omega)]
   exact g1
  obtain⟨xs,g1,g2⟩:=h n (by omega)
  have hx:xs.length=z:=by rw[g1.1,eg,fa];omega
  refine⟨ys++xs,?_,by rw[cD,h2,hx,qL],fun i hi=>?_⟩
  ·have e:us=us.take (n*z)++(us.drop (n*z)).take z:=by
    rw[g9 (l:=us.drop (n*z)) (by rw[fa];omega),tL]
   rw[e]
   exact h1.append g1
  ·rcases dX i n with Gz|Gz
   ·have hm:i*z+z≤n*z:=by rw[←qL];exact cK _ Gz
    rw[NO (by omega),vg (by rw[fa];omega)]
    exact h3 i Gz
   ·obtain rfl:i=n:=by omega
    rw[Nq,h2,zq,CK (by omega)]
    simp only[qS,nB]
    rw[g9 (by omega)]
    exact g2
theorem xE(tok:TOk P tb):∀(k:Nat) (fuel:Nat) (t:TypeId) (cs:List Value) (x:DataW H×List MemPlace),Ij tb k t=true→DataW.trod enc P W base sp hd fuel t cs=some x→∃xs,Pw (db W F0) xs cs∧wtE tb k t xs
 |0,_,_,_,_,h,_=>by cases h
 |k+1,fuel,t,cs,x,hok,h=>by
  unfold Ij at hok
  cases ht:tb t with
  |none=>rw[ht] at hok;cases hok
  |some i=>
   rw[ht] at hok
   dsimp only at hok
   cases jP:i.ty with
   |int kd=>
    rw[jP] at hok
    have hz:i.size=1:=by simpa using hok
    obtain⟨n,rfl,_,hw⟩:=DataW.trod_int (tok.int ht jP) h
    exact⟨[.lit (.int kd n)],Pw.cons (.lit _ rfl) Pw.nil,i,ht,by rw[hz];rfl,by rw[jP];exact⟨n,rfl,hw⟩⟩
   |bool=>
    rw[jP] at hok
    have hz:i.size=1:=by simpa using hok
    obtain⟨dd,Di,yo⟩:=tok.und ht
    rw[jP] at yo
    have hb:P.underlying t=some .bool:=by cases dd <;> simp[Ty.of] at yo;exact Di
    obtain⟨b,rfl,_⟩:=DataW.trod_bool hb h
    exact⟨[.lit (.bool b)],Pw.cons (.lit _ rfl) Pw.nil,i,ht,by rw[hz];rfl,by rw[jP];exact⟨b,rfl⟩⟩
   |str=>
    rw[jP] at hok
    have hz:i.size=1:=by simpa using hok
    obtain⟨s,rfl,_,hs⟩:=DataW.trod_string (tok.str ht jP) h
    exact⟨[.lit (.string s)],Pw.cons (.lit _ rfl) Pw.nil,i,ht,by rw[hz];rfl,by rw[jP];exact⟨s,rfl,hs⟩⟩
   |slice e=>
    rw[jP] at hok
    dsimp only at hok
    cases he:tb e with
    |none=>rw[he] at hok;simp at hok
    |some j=>
     rw[he] at hok
     simp only[b8,beq_iff_eq,r9] at hok
     obtain⟨⟨hz,hoe⟩,IC⟩:=hok
     have hce:=tok.cells he
     rcases open_slice (tok.slice ht jP) h with⟨rfl,_⟩|⟨a,len,cap,m,n,D,Pl,rfl,hb,hlc,o9,hm,_,hi⟩
     ·exact⟨[.sl j.size 0 []],Pw.cons (.sl _ 0 [] none 0 (fun _=>undef) (by simp) IC (ax _) (cr _) (fun h=>absurd h (pM _)) (fun _ h=>by cases h) (fun _ _ h=>by simp at h)) Pw.nil,
       i,ht,by rw[hz];rfl,by rw[jP];exact⟨j,0,[],he,rfl,by simp,cr _,fun i h=>absurd h (qK _)⟩⟩
     ·have hle:len≤m:=by rw[hm];split <;> omega
      rw[hce] at hi
      let us:List Value:=(List.range (len*j.size)).map fun q=>(W.cell? (a.add q)).getD undef
      have OH:us.length=len*j.size:=by simp[us]
      have hu:∀q,q<len*j.size→us[q]? =some ((W.cell? (a.add q)).getD undef):=fun q hq=>by simp[us,hq]
      have Tr:∀i,i<len→∃wP,W.cells? base (a.add (i*j.size)) j.size=some wP∧wP=(us.drop (i*j.size)).take j.size:=by
       intro i zd
       obtain⟨wP,hc,_⟩:=hi i (by omega)
       obtain⟨_,ux,Ep⟩:=World.cells?_some hc
       refine⟨wP,hc,Lo fun q=>?_⟩
       have Tg:i*j.size+j.size≤len*j.size:=by rw[←qL];exact cK _ zd
       rw[gM,nA]
       split
       ·rename_i hq
        have h1:=Ep q hq
        rw[pP] at h1
        rw[hu _ (by omega),h1]
        rw[cH (by omega)];rfl
       ·rename_i hq
        rw[rj (by omega)]
      obtain⟨ys,LS,Eb,hy3⟩:=BR (W:=W) (us:=us) (z:=j.size) (Good:=wtE tb k e) len OH fun i zd=>by
       obtain⟨wP,hc,hcs'⟩:=Tr i zd
       obtain⟨cs2,q8,htr⟩:=hi i (by omega)
       rw[hc] at q8
       injection q8 with q8
       subst q8
       rw[←hcs']
       exact xE tok k _ e wP _ hoe htr
      have CB:∀q v,us[q]? =some v→W.cell? (a.add q)=some v:=by
       intro q v hv
       have hq:q<len*j.size:=by
        rcases dX q us.length with h|h
        ·omega
        ·rw[rj h] at hv;cases hv
       -- rI cell lies in a chunk
       have hqd:q / j.size<len:=Jh (by rw[bx];exact hq)
       obtain⟨wP,hc,hcs'⟩:=Tr (q / j.size) hqd
       obtain⟨_,ux,Ep⟩:=World.cells?_some hc
       have h1:=Ep (q % j.size) (ej _ IC)
       rw[pP,bx,lS] at h1
       rw[hu q hq] at hv
       injection hv with hv
       rw[h1] at hv
       rw[h1,cH (by have:=ej q IC;omega)] at*
       simp only[wY] at hv
       rw[hv]
      refine⟨[.sl j.size len ys],Pw.cons (.sl _ len ys (some a) cap (fun q=>us.getD q undef) Eb IC hlc o9 (fun JH=>⟨a,rfl,?_⟩) (fun ad Rf q y hq=>?_) (fun q y hq=>?_)) Pw.nil,i,ht,by rw[hz];rfl,by rw[jP];exact⟨j,len,ys,he,rfl,Eb,dv hlc o9,hy3⟩⟩
      ·have h0:0<len*j.size:=yy JH IC
       have:=World.block_lt_of_cell? W _ (CB 0 _ (hu 0 h0))
       rwa[gi] at this
      ·injection Rf with Rf
       subst Rf
       obtain⟨v,hv,_⟩:=LS.get hq
       refine⟨?_,fun hf=>hf⟩
       rw[CB q v hv,List.getD,hv];rfl
      ·obtain⟨v,hv,hr⟩:=LS.get hq
       rw[List.getD,hv]
       exact hr
   |other=>rw[jP] at hok;cases hok
   |struct fs=>
    rw[jP] at hok
    dsimp only at hok
    obtain⟨fields,hf,JJ⟩:=tok.struct ht jP
    obtain⟨xs,n,_,_,ux,BI,iV⟩:=DataW.trod_struct hf h
    rw[tok.cells ht] at ux
    have key:∀(l:List Field) (off:Nat),(∀f∈l,∃x,DataW.trod enc P W base sp hd n f.type ((cs.drop f.offset).take (P.cellsOf f.type))=some x)→off≤cs.length→DF tb (Ij tb k) (l.map fun f=>(f.offset,f.type)) off i.size=true→
      ∃ys,Pw (db W F0) ys (cs.drop off)∧wtFs tb (wtE tb k) (l.map fun f=>(f.offset,f.type)) ys:=by
     intro l
     induction l with
     |nil=>
      intro off _ ho yk
      have:off=i.size:=by simpa[DF] using yk
      exact⟨[],by rw[CK (by omega)];exact Pw.nil,rfl⟩
     |cons f l ih=>
      intro off hl ho yk
      simp only[iW,DF,b8,beq_iff_eq] at yk
      obtain⟨⟨hof,CW⟩,yk⟩:=yk
      cases hj:tb f.type with
      |none=>rw[hj] at yk;cases yk
      |some j=>
       rw[hj] at yk
       dsimp only at yk
       obtain⟨x,hx⟩:=hl f (qT ..)
       rw[tok.cells hj,hof] at hx
       obtain⟨zs,ME,hz2⟩:=xE tok k _ f.type _ _ CW hx
       have hzl:zs.length=j.size:=by
        cases k with
        |zero=>cases hz2
        |succ k=>
         obtain⟨j',Cw,Qn,_⟩:=hz2
         rw[hj] at Cw
         injection Cw with Cw
         subst Cw
         exact Qn
       have hlen:off+j.size≤cs.length:=by
        have:=ME.1
        rw[hzl,eg,fa] at this
        omega
       obtain⟨ys,LS,Eb⟩:=ih (off+j.size) (fun g hg=>hl g (pb _ hg)) hlen yk
       refine⟨zs++ys,?_,j,hj,by rw[cD];omega,?_,?_⟩
       ·have e:cs.drop off=(cs.drop off).take j.size++cs.drop (off+j.size):=by
         rw[←qR,tL]
        rw[e]
        exact ME.append LS
       ·rw[vg (by omega),g9 (by omega)]
        exact hz2
       ·rw[NO (by omega),CK (by omega)]
        exact Eb
    obtain⟨ys,LS,Eb⟩:=key fields.toList 0 (fun f hfm=>by
     obtain⟨q,hq⟩:=AF hfm
     have hq':fields[q]? =some f:=by simpa using hq
     have bI:q<xs.length:=by rw[BI];exact (oR.1 hq').1
     exact⟨xs[q],by rw[iV q f hq',cH bI]⟩) (cr _) (by rw[JJ];exact hok)
    rw[qS] at LS
    exact⟨ys,LS,i,ht,by rw[LS.1,ux],by rw[jP];rw[JJ] at Eb;exact Eb⟩
   |arr n e=>
    rw[jP] at hok
    dsimp only at hok
    cases he:tb e with
    |none=>rw[he] at hok;simp at hok
    |some j=>
     rw[he] at hok
     simp only[b8,beq_iff_eq] at hok
     obtain⟨hoe,hz⟩:=hok
     obtain⟨xs,m,_,_,ux,BI,iV⟩:=DataW.trod_array (tok.arr ht jP) h
     rw[tok.cells ht] at ux
     rw[tok.cells he] at iV
     obtain⟨ys,LS,Eb,hy3⟩:=BR (W:=W) (us:=cs) (z:=j.size) (Good:=wtE tb k e) n (by rw[ux,hz]) fun q hq=>by
      have hq':=iV q hq
      rw[cH (by omega)] at hq'
      exact xE tok k _ e _ _ hoe hq'
     exact⟨ys,LS,i,ht,by rw[LS.1,ux],by rw[jP];exact⟨j,he,Eb,hy3⟩⟩
def argD(g:Bool)(xs:List E):D:=match g with
 |true=>.ag (xs.map D.e)
 |false=>.e (xs.headD .any)
theorem arg_rep(tok:TOk P tb){k:Nat}{t:TypeId}{i:TyE}{v:Value}{d:DataW H}{p:List MemPlace}{r:Reach}{b0:Nat}(hok:Ij tb k t=true)(ht:tb t=some i)(wa:Value.okWide P W r b0 t v)(h:DataW.Trod enc P W base sp hd t v d p):
  ∃xs,wtE tb k t xs∧lT W F0 (argD i.ty.agg xs) v:=by
 obtain⟨fuel,hf⟩:=h
 obtain⟨xs,hx,hw⟩:=xE tok k fuel t _ _ hok hf
 refine⟨xs,hw,?_⟩
 have one:v.cells=#[v]→lT W F0 (.e (xs.headD .any)) v:=by
  intro hv
  rw[hv] at hx
  cases xs with
  |nil=>have:=hx.1;simp at this
  |cons y ys=>exact aD.e _ _ (hx.2 0 y v rfl rfl)
 have agg:∀cs,v=.agg cs→lT W F0 (.ag (xs.map D.e)) v:=by
  rintro cs rfl
  have hx':Pw (db W F0) xs cs.toList:=hx
  refine aD.ag _ cs (by simpa using hx'.1.symm) (fun j u hu=>?_) (fun j d u hd hu=>?_)
  ·have vG:cs.toList[j]? =some u:=by simpa using hu
   have bI:j<xs.length:=by
    rw[hx'.1]
    exact (fP.1 vG).1
   exact (hx'.2 j _ u (cH bI) vG).one
  ·rw[dV] at hd
   cases hxj:xs[j]? with
   |none=>simp[hxj] at hd
   |some y=>
    simp only[hxj,n3,n0] at hd
    subst hd
    exact .e _ _ (hx'.2 j y u hxj (by simpa using hu))
 cases jP:i.ty with
 |int kd=>obtain⟨n,rfl⟩:=okWide_int (tok.int ht jP) wa;exact one rfl
 |bool=>
  obtain⟨dd,Di,yo⟩:=tok.und ht
  rw[jP] at yo
  have hb:P.underlying t=some .bool:=by cases dd <;> simp[Ty.of] at yo;exact Di
  obtain⟨b,rfl⟩:=okWide_bool hb wa
  exact one rfl
 |str=>obtain⟨s,rfl⟩:=okWide_string (tok.str ht jP) wa;exact one rfl
 |slice e=>obtain⟨a,l,c,rfl⟩:=okWide_slice (tok.slice ht jP) wa;exact one rfl
 |struct fs=>
  obtain⟨fields,hf,_⟩:=tok.struct ht jP
  obtain⟨cs,rfl,_⟩:=okWide_struct hf wa
  exact agg cs rfl
 |arr n e=>
  have ha:=tok.arr ht jP
  unfold Value.okWide at wa
  rw[ha] at wa
  obtain⟨cs,rfl,_⟩:=wa
  exact agg cs rfl
 |other=>
  cases k with
  |zero=>cases hok
  |succ k=>unfold Ij at hok;rw[ht] at hok;dsimp only at hok;rw[jP] at hok;cases hok
theorem says_of {f:FuncId}{ds:List D}{args:Array Value}(hc:aq P f ds (.e (.lit (.bool true))))(hsz:args.size=ds.length)(vJ:∀(j:Nat) (d:D) (u:Value),ds[j]? =some d→args[j]? =some u→lT W F0 d u):
  Calls P f args W fun e w'=>e=.returned (.bool true)∧Below W.heap.size W w':=by
 refine (hc.2 W F0 args (fun _ h=>h.elim) hsz vJ).mono ?_
 rintro e w' ⟨v,rfl,ql,hb⟩
 have hr:lT w' F0 (.e (.lit (.bool true))) v:=ql
 exact⟨by rw[aD.lit hr],hb⟩
theorem uT {α:Type}(cells:α→List E)(z:Nat)(good:α→Prop):∀(n:Nat) (ys:List E),ys.length=n*z→(∀i,i<n→∃a,(ys.drop (i*z)).take z=cells a∧good a)→∃l:List α,l.length=n∧ys=l.flatMap cells∧∀a∈l,good a
 |0,ys,hl,_=>⟨[],rfl,by rw[gL] at hl;rw[sI hl];rfl,by simp⟩
 |n+1,ys,hl,h=>by
  rw[qL] at hl
  obtain⟨a,ha,hga⟩:=h 0 (Nat.succ_pos n)
  obtain⟨l,h1,h2,h3⟩:=uT cells z good n (ys.drop z) (by rw[fa];omega) fun i hi=>by
   have:=h (i+1) (by omega)
   rw[qR,show z+i*z=(i+1)*z by rw[qL];omega]
   exact this
  simp only[gL,qS] at ha
  refine⟨a::l,by simp[h1],?_,fun b hb=>?_⟩
  ·rw[nQ,←ha,←h2,tL]
  ·rcases kP.1 hb with rfl|hb
   ·exact hga
   ·exact h3 b hb
end
end
section
def Rd(tb:TypeId→Option TyE)(t:TypeId)(d:Nat){α:Type}(c:Cd α)(W:α→Prop):Prop:=∀k xs,wtE tb (k+d) t xs→∃a,xs=c.f a∧W a
theorem Rd.up {tb:TypeId→Option TyE}{t:TypeId}{d:Nat}{α:Type}{c:Cd α}{W:α→Prop}(h:Rd tb t d c W)(m:Nat):Rd tb t (d+m) c W:=fun k xs h'=>h (k+m) xs (by rw[xW,qw m d];exact h')
def Wi(k:IntKind)(n:Int):Prop:=k.min≤n∧n≤k.max
section
variable {tb:TypeId→Option TyE} {t e:TypeId} {i j:TyE} {d:Nat} {α:Type} {c:Cd α} {W:α→Prop}
theorem rd_I {k:IntKind}(ht:tb t=some i)(hi:i.ty=.int k):Rd tb t 1 (cI k) (Wi k):=by
 intro n xs h
 obtain⟨i',h1,_,h⟩:=h
 rw[ht] at h1;cases h1
 rw[hi] at h
 obtain⟨m,h1,h2⟩:=h
 exact⟨m,h1,by unfold Wi;simpa[Lit.wf] using h2⟩
theorem rd_B(ht:tb t=some i)(hi:i.ty=.bool):Rd tb t 1 cB (fun _=>True):=by
 intro n xs h
 obtain⟨i',h1,_,h⟩:=h
 rw[ht] at h1;cases h1
 rw[hi] at h
 obtain⟨m,h1⟩:=h
 exact⟨m,h1,trivial⟩
theorem rd_L(ht:tb t=some i)(he:tb e=some j)(hc:Rd tb e d c W)(hi:i.ty=.slice e:=by exact rfl)(hz:c.sz=j.size:=by exact rfl):Rd tb t (d+1) (cL c) (fun l=>l.length≤maxLen∧∀a∈l,W a):=by
 intro n xs h
 obtain⟨i',h1,_,h⟩:=h
 rw[ht] at h1;cases h1
 rw[hi] at h
 obtain⟨j',m,ys,h1,h2,h3,h4,h5⟩:=h
 rw[he] at h1;cases h1
 obtain⟨l,h6,h7,h8⟩:=uT c.f j.size W m ys h3 fun i hi=>hc n _ (h5 i hi)
 refine⟨l,?_,by omega,h8⟩
 rw[h2,h7,←h6,←hz];rfl
theorem iy {xs:List E}{n:Nat}{ys zs:List E}(h1:xs.take n=ys)(h2:xs.drop n=zs):xs=ys++zs:=by
 rw[←h1,←h2,tL]
theorem UI {P:Program}{H:Type}{enc:TypeId×Value→H}{Wd:World}{sp:Nat→Bool}{hd:Bool}{base k:Nat}{v:Value}{dw:DataW H}{p:List MemPlace}{r:Reach}{b0:Nat}(tok:TOk P tb)(hok:Ij tb (k+d) t=true)(ht:tb t=some i)(hc:Rd tb t d c W)(wa:Value.okWide P Wd r b0 t v)(h:DataW.Trod enc P Wd base sp hd t v dw p):
  ∃a,lT Wd F0 (argD i.ty.agg (c.f a)) v∧W a:=by
 obtain⟨xs,h1,h2⟩:=arg_rep tok hok ht wa h
 obtain⟨a,rfl,h3⟩:=hc k xs h1
 exact⟨a,h2,h3⟩
end
end
theorem rd_A {tb:TypeId→Option TyE}{t e:TypeId}{i j:TyE}{d n:Nat}{α:Type}{c:Cd α}{W:α→Prop}(ht:tb t=some i)(he:tb e=some j)(hc:Rd tb e d c W)(hi:i.ty=.arr n e:=by exact rfl)(hz:c.sz=j.size:=by exact rfl):Rd tb t (d+1) (cA n c) (fun v=>∀a∈v.toList,W a):=by
 intro m xs h
 obtain⟨i',h1,_,h⟩:=h
 rw[ht] at h1;cases h1
 rw[hi] at h
 obtain⟨j',h1,h3,h5⟩:=h
 rw[he] at h1;cases h1
 obtain⟨l,h6,h7,h8⟩:=uT c.f j.size W n xs h3 fun i hi=>hc m _ (h5 i hi)
 exact⟨⟨l.toArray,by simpa using h6⟩,h7,h8⟩
def QR(x:am):Prop:=(True∧True∧∀a∈x.vN.vW.toList,Wi .u32 a)∧(True∧True∧∀a∈x.vD.vW.toList,Wi .u32 a)
theorem Sh {x:ao}(h:∀a∈x.vW.toList,Wi .u32 a):okI x:=fun j hj=>by
 have h2:=h x.vW[j]! (by rw[bL x.vW j hj];simp)
 exact⟨h2.1,by have:x.vW[j]!≤4294967295:=h2.2;omega⟩
theorem okR_of {x:am}(h:QR x):okR x:=⟨Sh h.1.2.2,Sh h.2.2.2⟩
def QL(l:List am):Prop:=l.length≤maxLen∧∀x∈l,QR x
theorem QL.nu {l:List am}(h:QL l):l=(l.map n9).map nv∧(l.map n9).length≤9223372036854775807:=by
 refine⟨(tZ fun x hx=>okR_of (h.2 x hx)).symm,?_⟩
 rw[bb]
 exact dv h.1 (by decide)
section
section
variable {m nn:Nat} {A B C x:List Nu} {a:Ans}
theorem P_times(hA:A.length=m*nn)(hm:m≤2000)(hn:nn≤2000){i:Nat}(hi:i<m):nt ⟨m,nn,A.map nv⟩ i (x.map nv)=some (nv (bn (ji A nn i) x)):=by
 obtain⟨h1,h2,h3⟩:=yZ hm hn hi
 have hr:=H8 A nn i
 unfold nt
 dsimp only
 have e1:i64.wrap ((i:Int)*(nn:Int))=((i*nn:Nat):Int):=by rw[←ig,d6 (by omega) (by omega)]
 have e2:i64.wrap ((i64.wrap ((i:Int)+1))*(nn:Int))=((i*nn+nn:Nat):Int):=by
  rw[d6 (z:=(i:Int)+1) (by omega) (by omega),show (i:Int)+1=((i+1:Nat):Int) by omega,←ig,h3,d6 (by omega) (by omega)]
 have e3:yR (A.map nv) ((i*nn:Nat):Int) ((i*nn+nn:Nat):Int)=(ji A nn i).map nv:=by
  unfold yR ji
  rw[←xb,←vf]
  congr 2;omega
 rw[e1,e2,e3,bb,aB,p9 (.inl (by omega))]
 rfl
def AZ(C:List Nu)(a:Ans)(x:List Nu):Bool:=decide (a.kind=2)||(decide (a.kind=1)&&decide (nh (bn C a.x) (bn C x)<0))
theorem Ps {p:aU}(hp:p.vC=C.map nv)(hC:C.length≤1000000):jL p (xV a) (x.map nv)=some (AZ C a x):=by
 unfold jL AZ xV
 dsimp only
 rw[hp,p9 (.inl hC),p9 (.inl hC)]
 simp only[ab,pCmp,pK,cOr]
theorem G2(hs:Sz m nn A B C)(ha:iT m nn A B C a=true)(hx:∀k,k<nn→0≤rv x[k]!)(hle:∀i,i<m→aN nn (fun k=>rv A[i*nn+k]! *rv x[k]!)≤rv B[i]!)(hv:ar (bn C x)=true∧rv (bn C x)=aN nn fun k=>rv C[k]! *rv x[k]!):AZ C a x=false:=by
 obtain⟨q,v,_⟩:=hs.RQ ha
 unfold AZ
 have h2:a.kind≠2:=fun e=>no_both hx hle (q.pos (by omega)) (q.none e).1 (q.none e).2
 rw[a8 h2,Bool.false_or]
 by_cases h1:a.kind=1
 ·obtain⟨g,e⟩:=v h1
  have w:=weak hx (q.pos (by omega)) hle (q.best h1).1
  have h3:=(q.best h1).2
  rw[aA h1,B9]
  have bI:¬nh (bn C a.x) (bn C x)<0:=fun hc=>by
   have:=(oI g hv.1).2.2.1.1 hc
   rw[e,hv.2] at this
   grind
  exact a8 bI
 ·rw[a8 h1];rfl
theorem GT {f:Nat→Rat}{K:Rat}:∀{n:Nat},(∀i,i<n→-K≤f i∧f i≤K)→-((n:Rat)*K)≤aN n f∧aN n f≤(n:Rat)*K
 |0,_=>by
  have:((0:Nat):Rat)=0:=rfl
  rw[this]
  show -(0*K)≤(0:Rat)∧(0:Rat)≤0*K
  grind
 |n+1,h=>by
  have ih:=GT (f:=f) (K:=K) (n:=n) fun i hi=>h i (by omega)
  have h2:=h n (by omega)
  have:((n+1:Nat):Rat)=(n:Rat)+1:=by exact_mod_cast rfl
  rw[this]
  show -(((n:Rat)+1)*K)≤aN n f+f n∧aN n f+f n≤((n:Rat)+1)*K
  grind
theorem Iu {a b:Int}(h:a≤b):(a:Rat)≤(b:Rat):=by exact_mod_cast h
theorem le_int {a b:Int}(h:(a:Rat)≤(b:Rat)):a≤b:=by exact_mod_cast h
theorem lt_int {a b:Int}(h:(a:Rat)<(b:Rat)):a<b:=by exact_mod_cast h
theorem pCeil(v:Nu):ib (nv v)=some (oceil (b7 v.1)):=G_oceil v.2
theorem pMax(v w:Nu):kO (nv v) (nv w)=some (zf (omax (b7 v.1) (b7 w.1))):=G_omax v.2 w.2
theorem Qa {q:Rat}{K:Nat}(h:IsI q K):-(K:Rat)≤q∧q≤(K:Rat):=by
 obtain⟨z,rfl,hz⟩:=h
 have e:((K:Int):Rat)=(K:Rat):=rfl
 have h1:=Iu (show -(K:Int)≤z by omega)
 have h2:=Iu (show z≤(K:Int) by omega)
 rw[Rat.intCast_neg,e] at h1
 exact⟨h1,h2⟩
structure X8(nn:Nat)(x:List Nu):Prop where
 len:x.length=nn
 g:∀k,k<nn→ar x[k]! =true
 p:∀k,k<nn→Pq 255 (rv x[k]!)
 pos:∀k,k<nn→0≤rv x[k]!
theorem X8.le(h:X8 nn x){k:Nat}(hk:k<nn):rv x[k]!≤255:=by
 have h1:=(h.p k hk).1
 have h2:=(uS (rv x[k]!)).1
 have h3:(1:Rat)≤((rv x[k]!).den:Rat):=by
  have:1≤(rv x[k]!).den:=(rv x[k]!).den_pos
  exact_mod_cast this
 have h4:((rv x[k]!).num:Rat)≤255:=Iu (show (rv x[k]!).num≤255 by omega)
 have h5:=E1 h3 (h.pos k hk)
 grind
theorem FF.row(hd:FF m nn A B C)(hx:X8 nn x){i:Nat}(hi:i<m):ar (bn (ji A nn i) x)=true∧rv (bn (ji A nn i) x)=aN nn (fun k=>rv A[i*nn+k]! *rv x[k]!)∧-80325≤rv (bn (ji A nn i) x)∧rv (bn (ji A nn i) x)≤80325:=by
 have hs:=hd.sz
 have n5:=hd.n5
 have hlen:(ji A nn i).length=nn:=by
  by_cases h0:nn=0
  ·subst h0;unfold ji;simp
  ·exact (tX hd.lA hi (k:=0) (by omega)).1
 have fF:∀k,k<nn→(ji A nn i)[k]! =A[i*nn+k]! :=fun k hk=>(tX hd.lA hi hk).2
 obtain⟨v1,v2⟩:=Cj (c:=ji A nn i) (x:=x) (P:=63*255) (by rw[hlen,hx.len]) (by omega) (fun k hk=>by rw[fF k (by omega)];exact (hd.a _ (hs.idx hi (by omega))).1) (fun k hk=>hx.g k (by omega)) (by decide) (by decide) fun k hk=>by
  rw[fF k (by omega)]
  exact (Pq.int (hd.a _ (hs.idx hi (by omega))).2 (by decide)).mul (hx.p k (by omega))
 rw[hlen,az (g:=fun k=>rv A[i*nn+k]! *rv x[k]!) fun k hk=>by rw[fF k hk]] at v2
 refine⟨v1,v2,?_⟩
 have hb:=GT (n:=nn) (K:=16065) (f:=fun k=>rv A[i*nn+k]! *rv x[k]!) fun k hk=>by
  obtain⟨b1,b2⟩:=Qa (hd.a _ (hs.idx hi hk)).2
  have b1:(-63:Rat)≤rv A[i*nn+k]! :=b1
  have b2:rv A[i*nn+k]!≤(63:Rat):=b2
  have b3:=hx.pos k hk
  have b4:=hx.le hk
  have c1:=E1 b1 b3
  have c2:=E1 b2 b3
  constructor <;> grind
 have hn:((nn:Nat):Rat)≤5:=Iu (a:=(nn:Int)) (b:=5) (by omega)
 have FP:=E1 hn (show (0:Rat)≤16065 by decide)
 rw[v2]
 constructor <;> grind
theorem FF.cval(hd:FF m nn A B C)(hx:X8 nn x):ar (bn C x)=true∧rv (bn C x)=aN nn fun k=>rv C[k]! *rv x[k]! :=by
 have n5:=hd.n5
 have hl:=hd.lC
 obtain⟨v1,v2⟩:=Cj (c:=C) (x:=x) (P:=63*255) (by rw[hl,hx.len]) (by omega) (fun k hk=>(hd.c k (by omega)).1) (fun k hk=>hx.g k (by omega)) (by decide) (by decide) fun k hk=>(Pq.int (hd.c k (by omega)).2 (by decide)).mul (hx.p k (by omega))
 rw[hl] at v2
 exact⟨v1,v2⟩
def upB(A B x:List Nu)(nn i:Nat):Nu:=nuR (some (if rv B[i]! <(((rv (bn (ji A nn i) x)).ceil:Int):Rat) then (((rv (bn (ji A nn i) x)).ceil:Int):Rat) else rv B[i]!))
theorem FF.up(hd:FF m nn A B C)(hx:X8 nn x){i:Nat}(hi:i<m):(bnd (ib (nv (bn (ji A nn i) x))) fun y=>bnd (gh y) fun z=>kO (nv B[i]!) z)=some (nv (upB A B x nn i))∧ar (upB A B x nn i)=true∧IsI (rv (upB A B x nn i)) BT∧rv (bn (ji A nn i) x)≤rv (upB A B x nn i):=by
 obtain⟨v1,_,v3,v4⟩:=hd.row hx hi
 obtain⟨b1,b2⟩:=hd.b i hi
 unfold upB
 generalize bn (ji A nn i) x=v at v1 v3 v4 ⊢
 have hc:-80325≤(rv v).ceil∧(rv v).ceil≤80326:=by
  have c1:=@Rat.le_ceil (rv v)
  have c2:=@Rat.ceil_lt (rv v)
  constructor
  ·refine le_int (a:=-80325) ?_
   have e:((-80325:Int):Rat)=-80325:=rfl
   rw[e];grind
  ·have h2:(rv v).ceil<80327:=by
    refine lt_int (b:=80327) ?_
    have e:((80327:Int):Rat)=80327:=rfl
    rw[e];grind
   omega
 have hlim:131072<LIM:=a9 rfl
 have hI:IsI (if rv B[i]! <(((rv v).ceil:Int):Rat) then (((rv v).ceil:Int):Rat) else rv B[i]!) BT:=by
  split
  ·exact⟨(rv v).ceil,rfl,by show (rv v).ceil.natAbs≤131072;omega⟩
  ·exact b2.mono (by decide)
 obtain⟨g1,g2⟩:=qh ((Pq.int hI (by decide)).fit (show BT<LIM from hlim))
 have hup:rv v≤(if rv B[i]! <(((rv v).ceil:Int):Rat) then (((rv v).ceil:Int):Rat) else rv B[i]!):=by
  have c1:=@Rat.le_ceil (rv v)
  split <;> grind
 have e1:ib (nv v)=some (enc (rv v).ceil):=by rw[pCeil,bo.1 v1];rfl
 have e2:gh (enc (rv v).ceil)=some (nv (nOf (rv v).ceil)):=LK (by omega)
 have gn:ar (nOf (rv v).ceil)=true∧rv (nOf (rv v).ceil)=(((rv v).ceil:Int):Rat):=qh (q:=(((rv v).ceil:Int):Rat)) ⟨by show (rv v).ceil.natAbs<LIM;omega,by show 1<LIM;omega⟩
 have e3:kO (nv B[i]!) (nv (nOf (rv v).ceil))=some (nv (nuR (some (if rv B[i]! <(((rv v).ceil:Int):Rat) then (((rv v).ceil:Int):Rat) else rv B[i]!)))):=by
  rw[pMax,bo.1 b1,bo.1 gn.1,gn.2]
  rfl
 refine⟨?_,g1,by rw[g2];exact hI,by rw[g2];exact hup⟩
 rw[e1,ab,e2,ab,e3]
theorem FF.sz'(hd:FF m nn A B C)(hx:X8 nn x):Sz m nn A ((List.range m).map (upB A B x nn)) C:=by
 have hs:=hd.sz
 have hg:∀i,i<m→((List.range m).map (upB A B x nn))[i]! =upB A B x nn i:=fun i hi=>c8 (bK _ hi)
 exact⟨hs.m6,hs.n5,hs.lA,by simp,hs.lC,hs.gA,fun i hi=>by rw[hg i hi];exact⟨(hd.up hx hi).2.1,(hd.up hx hi).2.2.1⟩,hs.gC⟩
end
section
variable {R Cc:Int} {A B C x:List Nu}
theorem RO {nn:Nat}(h:HI x 8)(hl:x.length=nn)(hp:∀k,k<x.length→decide (0≤bD x[k]!)=true):X8 nn x:=by
 subst hl
 have e:2 ^ ((8:Int)).toNat=256:=rfl
 refine⟨rfl,h.good,fun k hk=>⟨?_,?_⟩,fun k hk=>?_⟩
 ·have:=h.num k hk;omega
 ·have:=h.den k hk;omega
 ·have h1:=bw (hp k hk)
  have h2:=sU (h.good k hk)
  have:¬rv x[k]! <0:=fun e=>by have:=h2.2 e;omega
  grind
theorem G_best(hA:A.length≤9223372036854775807)(hB:B.length≤9223372036854775807)(hC:C.length≤9223372036854775807)(hX:x.length≤9223372036854775807):fL ⟨⟨R,Cc,A.map nv⟩,B.map nv,C.map nv⟩ (x.map nv)=some true:=by
 obtain⟨f,hf,kf⟩:=R_few (R:=R) (Cc:=Cc) (size:=5) (bits:=6) hA hB hC
 obtain⟨sx,hsx,ksx⟩:=Du (l:=x) (bits:=8) hX
 obtain⟨y,hy,py⟩:=rr (b:=ew (x.map nv)) hX (fun i=>decide (0≤bD x[i]!)) (fun _=>true) (fun i hi=>by
  unfold ew
  rw[bb,cy _ _,aB,qO hi,Sd,ab,sane]
  by_cases h3:0≤bD x[i]!
  ·rw[aA h3,a8 (by omega)];rfl
  ·rw[a8 h3,aA (by omega)];rfl) (by
  unfold ew
  rw[bb,ci _ _])
 unfold fL
 rw[hf,sane,hsx,hy]
 cases f with
 |false=>rfl
 |true=>
  have few:=kf rfl
  obtain⟨b,hb,kb⟩:=R_whole (R:=R) (Cc:=Cc) hA hB hC few.sA.good few.sB.good few.sC.good
  rw[hb]
  cases b with
  |false=>rfl
  |true=>
   obtain⟨m,nn,rfl,rfl,hd⟩:=T0 few (kb rfl)
   dsimp only
   rw[bb]
   by_cases hl:x.length=nn
   rotate_left
   ·rw[aA (show ((x.length:Nat):Int)≠(nn:Int) by omega)];rfl
   rw[a8 (show ¬((x.length:Nat):Int)≠(nn:Int) by omega)]
   cases sx with
   |false=>rfl
   |true=>
    cases y with
    |inl r=>obtain⟨i,_,_,rfl⟩:=py;rfl
    |inr u=>
     have hx:X8 nn x:=RO (ksx rfl) hl (DZ py)
     have hs:=hd.sz
     have KF:=hd.sz' hx
     have m5:=hd.m5
     have n5:=hd.n5
     obtain⟨l1,l2,l3⟩:=hs.len
     obtain⟨k1,k2,k3⟩:=KF.len
     obtain⟨a,na,ea,_,_,ra⟩:=hs.solveB
     obtain⟨c,nc,ec,_,_,rc⟩:=KF.solveB
     have key:=t3 (b:=eu ⟨⟨(m:Int),(nn:Int),A.map nv⟩,B.map nv,C.map nv⟩ (x.map nv)) (fun i:Nat=>((List.range i).all fun j=>decide (nh (bn (ji A nn j) x) B[j]!≤0),(i:Int),((List.range i).map (upB A B x nn)).map nv)) 0 m ((List.range m).all fun j=>decide (nh (bn (ji A nn j) x) B[j]!≤0),((List.range m).map (upB A B x nn)).map nv) (cr _) (fun i _ hi=>?_) ?_
     rotate_left
     ·unfold eu
      dsimp only
      have hiB:i<B.length:=by rw[hs.lB];exact hi
      rw[cy _ _,P_times hs.lA (by omega) (by omega) hi,ab,bb,aB,qO hiB,pCmp,ab,pK,ab,aB]
      have hu:=(hd.up hx hi).1
      obtain⟨y1,LS⟩:∃y1,ib (nv (bn (ji A nn i) x))=some y1:=⟨_,pCeil _⟩
      rw[LS,ab] at hu ⊢
      cases hz:gh y1 with
      |none=>rw[hz] at hu;cases hu
      |some z=>
       rw[hz,ab] at hu
       rw[ab,hu,ab,aB (by simp;omega),d6 (by omega) (by omega),vL,lE,iP,iP]
       simp only[f5,ic,eI]
       rfl
     ·unfold eu
      dsimp only
      rw[ci _ _]
     have e0:(((List.range 0).all fun j=>decide (nh (bn (ji A nn j) x) B[j]!≤0)),((0:Nat):Int),((List.range 0).map (upB A B x nn)).map nv)=(true,(0:Int),([]:List am)):=rfl
     rw[e0] at key
     simp only[ab,cG,cF]
     rw[key]
     simp only[ab]
     rw[Jy (by omega) (by omega) (by omega) (by omega),ea,Jy (B:=(List.range m).map (upB A B x nn)) (by omega) (by omega) (by omega) (by omega),ec]
     have e1:(r7 (a,na,0)).1=xV a∧(r7 (a,na,0)).2.2=0:=⟨rfl,rfl⟩
     have e2:(r7 (c,nc,0)).1=xV c∧(r7 (c,nc,0)).2.2=0:=⟨rfl,rfl⟩
     simp only[ab]
     rw[e1.1,e1.2,e2.1,e2.2,Ps (C:=C) rfl (by omega),Ps (C:=C) rfl (by omega)]
     have hcv:=hd.cval hx
     have w2:AZ C c x=false:=by
      refine G2 KF rc hx.pos (fun i hi=>?_) hcv
      have hg:((List.range m).map (upB A B x nn))[i]! =upB A B x nn i:=c8 (bK _ hi)
      have h1:=(hd.up hx hi).2.2.2
      rw[(hd.row hx hi).2.1] at h1
      rw[hg];exact h1
     rw[w2]
     cases iV:((List.range m).all fun j=>decide (nh (bn (ji A nn j) x) B[j]!≤0)) with
     |false=>rfl
     |true=>
      have w1:AZ C a x=false:=by
       refine G2 hs ra hx.pos (fun i hi=>?_) hcv
       have h1:=bw (DZ iV i hi)
       obtain⟨g,e,_⟩:=hd.row hx hi
       have h2:=(oI g (hd.b i hi).1).1.1 h1
       rw[e] at h2
       exact h2
      rw[w1]
      rfl
end
end
theorem G_bestW {p:aU}{x:List am}(hV:QL p.vA.vV)(hB:QL p.vB)(hC:QL p.vC)(hX:QL x):fL p x=some true:=by
 obtain⟨⟨R,Cc,V⟩,B,C⟩:=p
 dsimp only at hV hB hC
 rw[hV.nu.1,hB.nu.1,hC.nu.1,hX.nu.1]
 exact G_best hV.nu.2 hB.nu.2 hC.nu.2 hX.nu.2
section
open Go.ChangeShapes Go.WideShapes Go.ChangeAt Go.RowKit Go.ChangeMaps
namespace simplexBest
theorem k0:(Rows.simplexIsBestRow.wf (OpenSpec.ofChange Rows.simplexIsBestSpec))=true:=by kernel_rfl
theorem k1:(laidOutB prog)=true:=by kernel_rfl
theorem k2:(mapsRowed prog)=true:=by kernel_rfl
theorem k3:(f10.params.all (prog.readableRec ·))=true:=by kernel_rfl
theorem k4:(namedTie prog Rows.simplexIsBestRow.named Rows.simplexIsBestSpec.vars)=true:=by kernel_rfl
theorem k5:((Rows.simplexIsBestRow.stops == []))=true:=by kernel_rfl
theorem k6:((prog.stops == []))=true:=by kernel_rfl
theorem k7:((Rows.simplexIsBestRow.knobs == []))=true:=by kernel_rfl
theorem k8:((prog.stopKnobs == []))=true:=by kernel_rfl
theorem k9:((Rows.simplexIsBestRow.inPlace == prog.inPlace 10))=true:=by kernel_rfl
theorem k10:((Rows.simplexIsBestRow.unfollowed == prog.unfollowed 10))=true:=by kernel_rfl
theorem k11:((Rows.simplexIsBestRow.recurses == prog.recurses 10))=true:=by kernel_rfl
theorem k12:((Rows.simplexIsBestRow.named == prog.varsNamed 10))=true:=by kernel_rfl
theorem k13:((Rows.simplexIsBestRow.maps == (f10.params.toList++Rows.simplexIsBestSpec.plain.varTypes prog).any (prog.mapsRec ·)))=true:=by kernel_rfl
theorem k14:((Rows.simplexIsBestRow.ifaces == (f10.params.toList++Rows.simplexIsBestSpec.plain.varTypes prog).any (prog.ifacesRec ·)))=true:=by kernel_rfl
theorem k15:((Rows.simplexIsBestRow.mapsOut == prog.mapsAmong f10.resultTypes.toList))=true:=by kernel_rfl
theorem k16:((Rows.simplexIsBestRow.loops == (f10.params.toList++Rows.simplexIsBestSpec.plain.varTypes prog).any (prog.loopsFrom ·)))=true:=by kernel_rfl
theorem k17:((Rows.simplexIsBestRow.wideKeys == (f10.params.toList++Rows.simplexIsBestSpec.plain.varTypes prog++f10.resultTypes.toList).any (prog.wideKeysFrom ·)))=true:=by kernel_rfl
theorem k18:(Rows.simplexIsBestSpec.vars.all (prog.varReadable ·))=true:=by kernel_rfl
theorem k19:(f10.resultTypes.all (fun t=>prog.readableRec t&&decide (t<prog.types.size)))=true:=by kernel_rfl
theorem k20:((Rows.simplexIsBestRow.ifacesOut == f10.resultTypes.toList.any (prog.ifacesRec ·)))=true:=by kernel_rfl
theorem k21:((Rows.simplexIsBestRow.loopsOut == f10.resultTypes.toList.any (prog.loopsFrom ·)))=true:=by kernel_rfl
theorem k22:((Rows.simplexIsBestRow.plainKeys == prog.plainKeys))=true:=by kernel_rfl
theorem k23:(Rows.simplexIsBestRow.shortTexts.isNone)=true:=by kernel_rfl
theorem k24:(prog.stopsHeard)=true:=by kernel_rfl
theorem k25:(prog.mayEnter)=true:=by kernel_rfl
theorem k26:((Rows.simplexIsBestRow.lifted == prog.liftsFinal))=true:=by kernel_rfl
theorem k27:((prog.make == some Rows.simplexIsBestRow.make))=true:=by kernel_rfl
theorem k28:((Rows.simplexIsBestRow.kinds == (if Rows.simplexIsBestRow.domain.isEmpty then [] else f10.params.toList.map fun t=>match prog.underlying t with|some (.int k)=>some k|_=>none)))=true:=by kernel_rfl
theorem k29:((Rows.simplexIsBestRow.pinned == Rows.simplexIsBestRow.pinnedBy))=true:=by kernel_rfl
theorem k30:((Rows.simplexIsBestRow.veiled == (f10.params.toList++Rows.simplexIsBestSpec.plain.varTypes prog++f10.resultTypes.toList).any (prog.veiledRec ·)))=true:=by kernel_rfl
theorem k31:(Rows.simplexIsBestRow.veiledFits prog f10.params.toList (f10.params.toList++Rows.simplexIsBestSpec.plain.varTypes prog++f10.resultTypes.toList))=true:=by kernel_rfl
theorem nN {a b:Bool}(h:a=true)(h2:b=true):(a&&b)=true:=by rw[h,h2];rfl
theorem closed:joinedFacts prog 10 f10 Rows.simplexIsBestSpec Rows.simplexIsBestRow=true:=by
 delta joinedFacts
 exact nN (nN (nN (nN (nN (nN (nN (nN (nN (nN (nN (nN (nN (nN (nN (nN (nN (nN (nN (nN (nN (nN (nN (nN (nN (nN (nN (nN (nN (nN (nN k0 k1) k2) k3) k4) k5) k6) k7) k8) k9) k10) k11) k12) k13) k14) k15) k16) k17) k18) k19) k20) k21) k22) k23) k24) k25) k26) k27) k28) k29) k30) k31
end simplexBest
end
end
end Go.Proofs.YtaedcknhkjpmlaaGreat
