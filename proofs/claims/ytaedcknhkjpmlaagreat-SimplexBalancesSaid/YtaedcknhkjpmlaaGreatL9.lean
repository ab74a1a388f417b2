/-
Lemmas. Conditions: none.
-/
import Derived.Test.YtaedcknhkjpmlaaGreatL8
import Derived.Test.YtaedcknhkjpmlaaGreatRows
import Derived.ProofKit
import Derived.OpenShut
import Derived.ChangeSame
import Derived.Deep.Slices
import Derived.JoinedCond
import Derived.SizedLaws
import Derived.Deep.CondSized
set_option linter.all false
set_option maxRecDepth 100000
set_option maxHeartbeats 4000000
namespace Go.Proofs.YtaedcknhkjpmlaaGreat
open Go.RowKit Go.IntKind Tryz Go.Proofs.Tryz
noncomputable section
theorem e1T:e1B=true:=by decide +kernel
theorem e2T:e2B=true:=by decide +kernel
theorem e3T:e3B=true:=by decide +kernel
theorem e4T:e4B=true:=by decide +kernel
theorem e5T:e5B=true:=by decide +kernel
theorem e6T:e6B=true:=by decide +kernel
theorem Bn {R Cc:Int}{A B C:List Nu}{want:Ans}(hA:A.length≤1000000)(hB:B.length≤1000000)(hC:C.length≤1000000)(hl:FR want)(h:(decide ((r6 R Cc A B C 100).1=want)&&(decide ((r6 R Cc A B C 100).2.2=0)&&decide (vr R Cc A B C (r6 R Cc A B C 100).1=0)))=true):gJ ⟨⟨R,Cc,A.map nv⟩,B.map nv,C.map nv⟩ (zR want)=some true:=by
 simp only[bK,sH] at h
 obtain⟨h1,h2,h3⟩:=h
 rw[h1] at h3
 unfold gJ
 rw[P_Solve hA hB hC (by decide),ab]
 have e:(rG (r6 R Cc A B C 100)).1=zR want:=by rw[←h1];rfl
 have e2:(rG (r6 R Cc A B C 100)).2.2=0:=h2
 rw[e,e2,JK hl,PQ hA hB hC hl,h3]
 simp only[ab,rf]
 simp
theorem yl {rows:Int}{a b c:List Int}(ha:a.length≤1000000)(hb:b.length≤1000000)(hc:c.length≤1000000)(h1:∀i,i<a.length→-1000≤a[i]!∧a[i]!≤1000)(h2:∀i,i<b.length→-1000≤b[i]!∧b[i]!≤1000)(h3:∀i,i<c.length→-1000≤c[i]!∧c[i]!≤1000):fM rows a b c=some ⟨⟨rows,(c.length:Int),(a.map nOf).map nv⟩,(b.map nOf).map nv,(c.map nOf).map nv⟩:=by
 unfold fM
 rw[vT ha h1,ab,vT hb h2,ab,vT hc h3,ab]
theorem sane:eN=some true:=by
 have p1:=yl (rows:=2) (a:=[1,2,3,1]) (b:=[4,6]) (c:=[1,1]) (by decide) (by decide) (by decide) (by decide) (by decide) (by decide)
 have p2:=yl (rows:=1) (a:=[1]) (b:=[-1]) (c:=[0]) (by decide) (by decide) (by decide) (by decide) (by decide) (by decide)
 have p3:=yl (rows:=1) (a:=[-1,1]) (b:=[1]) (c:=[1,0]) (by decide) (by decide) (by decide) (by decide) (by decide) (by decide)
 have p4:=yl (rows:=1) (a:=[-1]) (b:=[-2]) (c:=[-1]) (by decide) (by decide) (by decide) (by decide) (by decide) (by decide)
 have f1:=FO (a:=8) (b:=6) (by decide) (by decide)
 have f2:=FO (a:=2) (b:=1) (by decide) (by decide)
 have f3:=FO (a:=2) (b:=2) (by decide) (by decide)
 have i1:=vT (l:=[1]) (by decide) (by decide)
 have i2:=vT (l:=[0,0]) (by decide) (by decide)
 have i3:=vT (l:=[1,0]) (by decide) (by decide)
 have i4:=vT (l:=[2]) (by decide) (by decide)
 have i5:=vT (l:=[1,1,1,-1]) (by decide) (by decide)
 have i6:=vT (l:=[1,3]) (by decide) (by decide)
 have s1:=Bn (want:=⟨1,[fr 8 5,fr 6 5],[fr 2 5,fr 1 5],[]⟩) (R:=2) (Cc:=2) (by decide) (by decide) (by decide) (uq rfl) e1T
 have s2:=Bn (want:=⟨2,[],[1].map nOf,[]⟩) (R:=1) (Cc:=1) (by decide) (by decide) (by decide) (uq rfl) e2T
 have s3:=Bn (want:=⟨3,[0,0].map nOf,[],[1,0].map nOf⟩) (R:=1) (Cc:=2) (by decide) (by decide) (by decide) (uq rfl) e3T
 have s4:=Bn (want:=⟨1,[2].map nOf,[1].map nOf,[]⟩) (R:=1) (Cc:=1) (by decide) (by decide) (by decide) (uq rfl) e4T
 have q1:=JO (R:=2) (Cc:=2) (A:=[1,1,1,-1].map nOf) (B:=[1,3].map nOf) (most:=100) (by decide) (by decide) (by decide)
 have h5:=e5T
 unfold e5B at h5
 obtain⟨r,hr⟩:∃r,r=zM 2 2 ([1,1,1,-1].map nOf) ([1,3].map nOf) 100:=⟨_,rfl⟩
 rw[←hr] at q1 h5
 simp only[bK,sH] at h5
 obtain⟨hl,k2,k3,k4⟩:=h5
 have q2:=rJ (R:=2) (Cc:=2) (A:=[1,1,1,-1].map nOf) (B:=[1,3].map nOf) (a:=r.1) (by decide) (by decide) (uq hl)
 rw[k4] at q2
 have q3:=PQ (R:=2) (Cc:=2) (A:=[1,2,3,1].map nOf) (B:=[4,6].map nOf) (C:=[1,1].map nOf) (a:=⟨1,[fr 8 5,fr 6 5],[fr 2 5,fr 2 5],[]⟩) (by decide) (by decide) (by decide) (uq rfl)
 rw[show vr 2 2 ([1,2,3,1].map nOf) ([4,6].map nOf) ([1,1].map nOf) ⟨1,[fr 8 5,fr 6 5],[fr 2 5,fr 2 5],[]⟩=250 from bq e6T] at q3
 have z1:(rG r).1=zR r.1:=rfl
 have z2:(rG r).2.2=0:=k2
 have z3:(zR r.1).vKind=2:=k3
 unfold eN
 rw[p1,ab,f1,ab,f2,ab]
 refine (congrArg (fun o=>bnd o _) s1).trans ?_
 rw[ab,p2,ab,i1,ab]
 refine (congrArg (fun o=>bnd o _) s2).trans ?_
 rw[ab,p3,ab,i2,ab,i3,ab]
 refine (congrArg (fun o=>bnd o _) s3).trans ?_
 rw[ab,p4,ab,i4,ab]
 rw[ab]
 refine (congrArg (fun o=>bnd o _) s4).trans ?_
 rw[ab,i5,ab,i6,ab,q1,ab,z1,z2,z3,ab,q2]
 have dt:decide True=true:=rfl
 simp only[ab,cT,dt,f3]
 refine (congrArg (fun o=>bnd (bnd o _) _) q3).trans ?_
 rfl
section
theorem EB {d:Dic}{w s:Nat}{z:Nu}(hI:Inv d w)(hs:s<w):∀{n:Nat} {p:Int×Nu},n≤d.rows.length→jy d.rows s z n=some p→
  ∀j,j<n→bE d.rows[j]!.c[s]! <0→∃i,i<n∧p.1=(i:Int)∧au (oJ d.rows[j]!.k (eU d.rows[j]!.c[s]!))=true∧rv p.2≤rv (oJ d.rows[j]!.k (eU d.rows[j]!.c[s]!))∧(rv p.2=rv (oJ d.rows[j]!.k (eU d.rows[j]!.c[s]!))→d.rows[i]!.b≤d.rows[j]!.b)
 |0,p,_,h,j,hj,_=>by omega
 |n+1,p,hn,h,j,hj,nB=>by
  unfold jy at h
  cases hq:jy d.rows s z n with
  |none=>rw[hq] at h;cases h
  |some q=>
   rw[hq] at h
   have ih:=EB hI hs (show n≤d.rows.length by omega) hq
   have sm:=pZ hq
   unfold si at h
   dsimp only at h
   split at h
   ·rename_i h1
    injection h with h
    subst h
    rcases d9 j n with t7|t7
    ·obtain⟨i,a1,a2⟩:=ih j t7 nB
     exact⟨i,by omega,a2⟩
    ·obtain rfl:j=n:=by omega
     omega
   ·rename_i h1
    split at h
    ·cases h
    ·rename_i h2
     have hqg:au (oJ d.rows[n]!.k (eU d.rows[n]!.c[s]!))=true:=by simpa using h2
     split at h
     ·rename_i h3
      injection h with h
      subst h
      refine⟨n,by omega,rfl,?_⟩
      dsimp only
      rcases d9 j n with t7|t7
      ·obtain⟨i,a1,a2,a3,a4,a5⟩:=ih j t7 nB
       rcases sm with e|⟨i',b1,b2,b3,b4,b5⟩
       ·omega
       obtain rfl:i=i':=by omega
       obtain⟨_,_,c3,c4⟩:=nP hqg b4
       refine⟨a3,?_⟩
       rcases h3 with h3|h3|⟨h3,h4⟩
       ·omega
       ·have:=c3.1 h3
        exact⟨by grind,fun e=>by grind⟩
       ·have e:=c4.1 h3
        rw[a2,show ((i:Int)).toNat=i by omega] at h4
        exact⟨by grind,fun e2=>by have:=a5 (by rw[←e];exact e2);omega⟩
      ·obtain rfl:j=n:=by omega
       exact⟨hqg,by grind,fun _=>zX _⟩
     ·rename_i h3
      injection h with h
      subst h
      rcases sm with e|⟨i',b1,b2,b3,b4,b5⟩
      ·exact absurd (.inl (by omega)) h3
      rcases d9 j n with t7|t7
      ·obtain⟨i,a1,a2⟩:=ih j t7 nB
       exact⟨i,by omega,a2⟩
      ·obtain rfl:j=n:=by omega
       obtain⟨_,_,c3,c4⟩:=nP hqg b4
       have n1:¬rv (oJ d.rows[j]!.k (eU d.rows[j]!.c[s]!))<rv q.2:=fun e=>h3 (.inr (.inl (c3.2 e)))
       refine⟨i',by omega,b2,hqg,by grind,fun e=>?_⟩
       have n2:¬d.rows[j]!.b<d.rows[q.1.toNat]!.b:=fun e2=>h3 (.inr (.inr ⟨c4.2 e.symm,e2⟩))
       rw[b2,show ((i':Int)).toNat=i' by omega] at n2
       omega
def sY(d:Dic):Prop:=∀i,i<d.rows.length→0≤rv d.rows[i]!.k
structure Step(d d':Dic)(w:Nat)(i s:Nat):Prop where
 en:kF d.gc=some s
 lv:∃q:Nu,jy d.rows s default d.rows.length=some ((i:Int),q)
 good:gW d w i s
 eq:d'=gF d i s
def Bas(d:Dic)(t:Nat):Prop:=∃j,j<d.rows.length∧d.rows[j]!.b=(t:Int)
def nD(d:Dic)(t:Nat):Rat:=match d.rows.findIdx? fun r=>decide (r.b=(t:Int)) with|some i=>rv d.rows[i]!.k|none=>0
section
variable {d d':Dic} {w i s:Nat}
theorem Inv.bsol_row(hI:Inv d w){i:Nat}(hi:i<d.rows.length):nD d d.rows[i]!.b.toNat=rv d.rows[i]!.k:=by
 have hr:=hI.rng i hi
 unfold nD
 have:(d.rows.findIdx? fun r=>decide (r.b=((d.rows[i]!.b.toNat:Nat):Int)))=some i:=by
  rw[ph]
  refine⟨hi,?_,fun j hj=>?_⟩
  ·have:d.rows[i].b=d.rows[i]!.b:=by rw[bT d.rows i hi]
   exact det_
  ·have h2:d.rows[j].b=d.rows[j]!.b:=by rw[bT d.rows j (by omega)]
   have:=hI.inj i j hi (by omega)
   simp only[sH]
   omega
 rw[this]
theorem lO {t:Nat}(h:¬Bas d t):nD d t=0:=by
 unfold nD
 have:(d.rows.findIdx? fun r=>decide (r.b=(t:Int)))=none:=by
  rw[vH]
  intro r hr
  obtain⟨j,hj,rfl⟩:=xy.1 hr
  refine bm fun e=>h ⟨j,hj,?_⟩
  rw[bT d.rows j hj];exact e
 rw[this]
theorem J4 {k:Nu}{c:List Nu}{y:Nat→Rat}(hs:s<w)(h:∀t,t<w→t≠s→y t=0∨c[t]! =nOf 0):bU w k c y=rv k+rv c[s]! *y s:=by
 unfold bU
 rw[ay (g:=fun t=>if t=s then rv c[s]! *y s else 0) fun t ht=>?_,mv s _ w hs]
 by_cases rO:t=s
 ·rw[ah rO,rO]
 ·rw[ai rO]
  rcases h t ht rO with e|e
  ·rw[e];grind
  ·rw[e,of0.2];grind
theorem Inv.bas(hI:Inv d w){t:Nat}(h:Bas d t):t<w∧d.gc[t]! =nOf 0∧∀i,i<d.rows.length→d.rows[i]!.c[t]! =nOf 0:=by
 obtain⟨j,hj,e⟩:=h
 have hr:=hI.rng j hj
 have et:d.rows[j]!.b.toNat=t:=by omega
 have h1:=hI.zg j hj
 rw[et] at h1
 exact⟨by omega,h1,fun i hi=>by have:=hI.zr i j hi hj;rwa[et] at this⟩
theorem Inv.at(hI:Inv d w)(hs:s<w)(Ts:¬Bas d s){y:Nat→Rat}(hy:Sol d w y)(h0:∀t,t<w→¬Bas d t→t≠s→y t=0):(∀i,i<d.rows.length→y d.rows[i]!.b.toNat=rv d.rows[i]!.k+rv d.rows[i]!.c[s]! *y s)∧bU w d.gk d.gc y=rv d.gk+rv d.gc[s]! *y s:=by
 refine⟨fun i hi=>?_,?_⟩
 ·rw[hy i hi]
  refine J4 hs fun t ht rO=>?_
  by_cases hb:Bas d t
  ·exact .inr ((hI.bas hb).2.2 i hi)
  ·exact .inl (h0 t ht hb rO)
 ·refine J4 hs fun t ht rO=>?_
  by_cases hb:Bas d t
  ·exact .inr (hI.bas hb).2.1
  ·exact .inl (h0 t ht hb rO)
theorem Inv.uniq(hI:Inv d w){y:Nat→Rat}(hy:Sol d w y)(h0:∀t,t<w→¬Bas d t→y t=0):(∀t,t<w→y t=nD d t)∧bU w d.gk d.gc y=rv d.gk:=by
 have hw:∀(k:Nu) (c:List Nu),(∀t,Bas d t→c[t]! =nOf 0)→bU w k c y=rv k:=fun k c hc=>by
  unfold bU
  rw[ay (g:=fun _=>0) fun t ht=>?_,fa]
  ·grind
  ·by_cases hb:Bas d t
   ·rw[hc t hb,of0.2];grind
   ·rw[h0 t ht hb];grind
 refine⟨fun t ht=>?_,hw _ _ fun t hb=>(hI.bas hb).2.1⟩
 by_cases hb:Bas d t
 ·obtain⟨j,hj,e⟩:=hb
  have et:d.rows[j]!.b.toNat=t:=by omega
  rw[←et,hI.bsol_row hj,hy j hj]
  exact hw _ _ fun t hb=>(hI.bas hb).2.2 j hj
 ·rw[h0 t ht hb,lO hb]
theorem Inv.bsol(hI:Inv d w):Sol d w (nD d):=by
 obtain⟨y,hy,hv⟩:=hI.pick fun _=>0
 have h0:∀t,t<w→¬Bas d t→y t=0:=fun t _ hb=>hv t fun j hj e=>hb ⟨j,hj,e⟩
 obtain⟨h1,_⟩:=hI.uniq hy h0
 intro i hi
 have hr:=hI.rng i hi
 rw[←h1 _ (by omega),hy i hi]
 unfold bU
 congr 1
 exact ay fun t ht=>by rw[h1 t ht]
theorem Inv.bgoal(hI:Inv d w):bU w d.gk d.gc (Go.Proofs.YtaedcknhkjpmlaaGreat.nD d)=rv d.gk:=(hI.uniq hI.bsol fun _ _ hb=>lO hb).2
structure Dh(d d':Dic)(w i s:Nat):Prop where
 hi:i<d.rows.length
 hs:s<w
 inv:Inv d w
 inv':Inv d' w
 gs:0<rv d.gc[s]!
 low:∀t,t<s→rv d.gc[t]!≤0
 cs:rv d.rows[i]!.c[s]! <0
 min:∀j,j<d.rows.length→rv d.rows[j]!.c[s]! <0→rv d.rows[i]!.k / -rv d.rows[i]!.c[s]!≤rv d.rows[j]!.k / -rv d.rows[j]!.c[s]!∧(rv d.rows[i]!.k / -rv d.rows[i]!.c[s]! =rv d.rows[j]!.k / -rv d.rows[j]!.c[s]!→d.rows[i]!.b≤d.rows[j]!.b)
 sol:∀y,Sol d' w y↔Sol d w y
 goal:∀y,Sol d w y→bU w d'.gk d'.gc y=bU w d.gk d.gc y
 ns:¬Bas d s
 len:d'.rows.length=d.rows.length
 bas:∀t,Bas d' t↔t=s∨(Bas d t∧d.rows[i]!.b≠(t:Int))
theorem Step.toF(h:Step d d' w i s):Dh d d' w i s:=by
 obtain⟨q,hl⟩:=h.lv
 have hG:=h.good
 have hI:=hG.inv
 obtain⟨h1,h2,h3⟩:=qg h.en
 have Pa:=(br.1 hI.fine.gg).2
 have hrg:∀j,j<d.rows.length→au d.rows[j]!.c[s]! =true∧au d.rows[j]!.k=true:=fun j hj=>⟨(br.1 (hI.fine.gr j hj)).2 s (by rw[hI.fine.lr j hj];exact hG.hs),(br.1 (hI.fine.gr j hj)).1⟩
 have hls:=pZ hl
 obtain⟨i',a1,a2,a3,a4,a5⟩:∃i',i'<d.rows.length∧(i:Int)=(i':Int)∧bE d.rows[i']!.c[s]! <0∧au q=true∧q=oJ d.rows[i']!.k (eU d.rows[i']!.c[s]!):=by
  rcases hls with e|e
  ·dsimp only at e;omega
  ·exact e
 obtain rfl:i=i':=by omega
 have hq:rv q=rv d.rows[i]!.k / -rv d.rows[i]!.c[s]! :=by
  have a4':=a4
  rw[a5] at a4' ⊢
  rw[(uy a4').2.2.2,ik]
 have Ts:¬Bas d s:=fun⟨j,hj,e⟩=>hG.nb j hj e
 refine⟨a1,hG.hs,hI,by rw[h.eq];exact hG.toInv,(KA (Pa s h1)).1 h2,fun t ht=>?_,(r7 (hrg i a1).1).1 a3,fun j hj hc=>?_,fun y=>by rw[h.eq];exact hG.sol y,fun y hy=>by rw[h.eq];exact hG.goal hy,Ts,by rw[h.eq];exact ej,fun t=>?_⟩
 ·have h4:=h3 t ht
  have h5:=KA (Pa t (by omega))
  grind
 ·obtain⟨i',b1,b2,b3,b4,b5⟩:=EB hI hG.hs (az _) hl j hj ((r7 (hrg j hj).1).2 hc)
  obtain rfl:i=i':=by omega
  rw[(uy b3).2.2.2,ik,hq] at b4 b5
  exact⟨b4,b5⟩
 ·rw[h.eq]
  unfold Bas
  rw[ej]
  constructor
  ·rintro⟨j,hj,e⟩
   rw[pW hj] at e
   by_cases Ab:j=i
   ·rw[ah Ab] at e;exact .inl (by omega)
   ·rw[ai Ab] at e
    exact .inr ⟨⟨j,hj,e⟩,fun e2=>Ab (hI.inj j i hj a1 (by omega))⟩
  ·rintro (e|⟨⟨j,hj,e⟩,e2⟩)
   ·exact⟨i,a1,by rw[pW a1,ah rfl,e]⟩
   ·refine⟨j,hj,?_⟩
    rw[pW hj,ai (fun e3=>e2 (by rw[←e3];exact e))]
    exact e
theorem Dh.move(h:Dh d d' w i s):rv d'.gk=rv d.gk+rv d.gc[s]! *nD d' s∧nD d' s=rv d.rows[i]!.k / -rv d.rows[i]!.c[s]!∧∀j,j<d.rows.length→nD d' d.rows[j]!.b.toNat=rv d.rows[j]!.k+rv d.rows[j]!.c[s]! *nD d' s:=by
 have hy:=(h.sol (nD d')).1 h.inv'.bsol
 have hr:=h.inv.rng i h.hi
 have h0:∀t,t<w→¬Bas d t→t≠s→nD d' t=0:=fun t _ hb rO=>lO fun pC=>by
  rcases (h.bas t).1 pC with e|⟨e,_⟩
  ·exact rO e
  ·exact hb e
 obtain⟨h1,h2⟩:=h.inv.at h.hs h.ns hy h0
 have h3:=h.goal _ hy
 rw[h.inv'.bgoal,h2] at h3
 have h4:nD d' d.rows[i]!.b.toNat=0:=lO fun pC=>by
  rcases (h.bas _).1 pC with e|⟨_,e⟩
  ·exact h.ns ⟨i,h.hi,by omega⟩
  ·exact e (by omega)
 have h5:=h1 i h.hi
 rw[h4] at h5
 have hc:=h.cs
 refine⟨h3,?_,h1⟩
 rw[iS]
 have:nD d' s=(rv d.rows[i]!.k+rv d.rows[i]!.c[s]! *nD d' s)*(-rv d.rows[i]!.c[s]!)⁻¹+nD d' s:=by rw[←h5];grind
 grind
theorem C7 {a b:Rat}(ha:0≤a)(hb:0<b):0≤a / b:=by
 rw[iS]
 have:0≤b⁻¹:=Rat.le_of_lt (Rat.inv_pos.2 hb)
 exact Cu ha this
theorem Dh.feas(h:Dh d d' w i s)(hf:sY d):sY d'∧rv d.gk≤rv d'.gk:=by
 obtain⟨m1,m2,m3⟩:=h.move
 have hc:=h.cs
 have hk:=hf i h.hi
 have hr0:0≤nD d' s:=by rw[m2];exact C7 hk (by grind)
 refine⟨fun j hj=>?_,?_⟩
 ·rw[h.len] at hj
  have CW:j<d'.rows.length:=by rw[h.len];exact hj
  have hr:=h.inv'.rng j CW
  rw[←h.inv'.bsol_row CW]
  rcases (h.bas d'.rows[j]!.b.toNat).1 ⟨j,CW,by omega⟩ with e|⟨⟨n,hn,e⟩,_⟩
  ·rw[e];exact hr0
  ·have Gg:=h.inv.rng n hn
   have:d'.rows[j]!.b.toNat=d.rows[n]!.b.toNat:=by omega
   rw[this,m3 n hn]
   have xY:=hf n hn
   rcases (Rat.le_total:0≤rv d.rows[n]!.c[s]!∨rv d.rows[n]!.c[s]!≤0) with DJ|DJ
   ·have:=Cu DJ hr0;grind
   ·by_cases hz:rv d.rows[n]!.c[s]! =0
    ·rw[hz];grind
    ·have nB:rv d.rows[n]!.c[s]! <0:=by grind
     have hm:=(h.min n hn nB).1
     rw[←m2] at hm
     have h6:=Rat.mul_le_mul_of_nonneg_left hm (show 0≤-rv d.rows[n]!.c[s]! by grind)
     have h7:-rv d.rows[n]!.c[s]! *(rv d.rows[n]!.k / -rv d.rows[n]!.c[s]!)=rv d.rows[n]!.k:=by rw[iS];grind
     rw[h7] at h6
     grind
 ·have:=Cu (Rat.le_of_lt h.gs) hr0
  grind
end
end
section
theorem MT {a:Nat}{P:(b:Nat)→a≤b→Prop}(base:P a (az a))(succ:∀(b:Nat) (h:a≤b),P b h→P (b+1) (Nat.le_succ_of_le h))(b:Nat)(h:a≤b):P b h:=by
 obtain⟨k,rfl⟩:=Nat.exists_eq_add_of_le h
 induction k with
 |zero=>exact base
 |succ k ih=>exact succ (a+k) (tF a k) (ih _)
theorem flip {f:Nat→Prop}{a b:Nat}(Gn:a≤b)(ha:f a)(hb:¬f b):∃u,a≤u∧u<b∧f u∧¬f (u+1):=by
 induction b,Gn using MT with
 |base=>exact absurd ha hb
 |succ n hn ih=>
  by_cases h:f n
  ·exact⟨n,hn,ez n,h,hb⟩
  ·obtain⟨u,h1,h2,h3⟩:=ih h
   exact⟨u,h1,by omega,h3⟩
theorem T6 {f:Nat→Prop}{w:Nat}(h:∃t,t<w∧f t):∃t,t<w∧f t∧∀r,r<w→f r→r≤t:=by
 induction w with
 |zero=>obtain⟨t,ht,_⟩:=h;omega
 |succ n ih=>
  by_cases hn:f n
  ·exact⟨n,ez n,hn,fun r hr _=>by omega⟩
  ·obtain⟨t,ht,hf⟩:=h
   have:t≠n:=fun e=>hn (by rw[←e];exact hf)
   obtain⟨t',h1,h2,h3⟩:=ih ⟨t,by omega,hf⟩
   exact⟨t',by omega,h2,fun r hr O2=>by
    have:r≠n:=fun e=>hn (by rw[←e];exact O2)
    exact h3 r (by omega) O2⟩
section
variable {D:Nat→Dic} {I S:Nat→Nat} {w n:Nat}
structure xQ(D:Nat→Dic)(I S:Nat→Nat)(w n:Nat):Prop where
 step:∀u,u<n→Dh (D u) (D (u+1)) w (I u) (S u)
 inv:∀u,u≤n→Inv (D u) w
 feas:sY (D 0)
theorem xQ.sol(h:xQ D I S w n):∀u,u≤n→∀y,Sol (D u) w y↔Sol (D 0) w y
 |0,_,_=>Iff.rfl
 |u+1,hu,y=>((h.step u (by omega)).sol y).trans (h.sol u (by omega) y)
theorem xQ.goal(h:xQ D I S w n):∀u,u≤n→∀y,Sol (D 0) w y→bU w (D u).gk (D u).gc y=bU w (D 0).gk (D 0).gc y
 |0,_,_,_=>rfl
 |u+1,hu,y,hy=>((h.step u (by omega)).goal y ((h.sol u (by omega) y).2 hy)).trans (h.goal u (by omega) y hy)
theorem xQ.feas'(h:xQ D I S w n):∀u,u≤n→sY (D u)
 |0,_=>h.feas
 |u+1,hu=>((h.step u (by omega)).feas (h.feas' u (by omega))).1
theorem xQ.up(h:xQ D I S w n){a:Nat}:∀b,a≤b→b≤n→rv (D a).gk≤rv (D b).gk:=by
 intro b Gn
 induction b,Gn using MT with
 |base=>intro _;grind
 |succ b _ ih=>
  intro hb
  have:=ih (by omega)
  have:=((h.step b (by omega)).feas (h.feas' b (by omega))).2
  grind
theorem xQ.bland(h:xQ D I S w n){a b:Nat}(Gn:a<b)(hb:b≤n):¬∀t,Bas (D a) t↔Bas (D b) t:=by
 intro AM
 have hIa:=h.inv a (by omega)
 have hIb:=h.inv b hb
 -- r4 goal is bU r4 same
 have hyb:Sol (D a) w (nD (D b)):=(h.sol a (by omega) _).2 ((h.sol b hb _).1 hIb.bsol)
 obtain⟨hu1,hu2⟩:=hIa.uniq hyb fun t _ hn=>lO fun e=>hn ((AM t).2 e)
 have hz:rv (D a).gk=rv (D b).gk:=by
  rw[←hu2,h.goal a (by omega) _ ((h.sol b hb _).1 hIb.bsol),←h.goal b hb _ ((h.sol b hb _).1 hIb.bsol),hIb.bgoal]
 have hzz:∀u,a≤u→u≤b→rv (D u).gk=rv (D a).gk:=fun u h1 h2=>by
  have e1:=h.up (a:=a) u h1 (by omega)
  have e2:=h.up (a:=u) b h2 hb
  grind
 -- nothing moves
 have hmv:∀u,a≤u→u<b→nD (D (u+1)) (S u)=0∧∀t,t<w→nD (D (u+1)) t=nD (D u) t:=fun u h1 h2=>by
  have hs:=h.step u (by omega)
  obtain⟨m1,m2,m3⟩:=hs.move
  rw[hzz (u+1) (by omega) (by omega),hzz u h1 (by omega)] at m1
  have hg:=hs.gs
  have h0:nD (D (u+1)) (S u)=0:=by
   have:rv (D u).gc[S u]! *nD (D (u+1)) (S u)=0:=by grind
   rcases Ct.1 this with e|e
   ·grind
   ·exact e
  refine⟨h0,fun t ht=>?_⟩
  refine ((h.inv u (by omega)).uniq ((hs.sol _).1 (h.inv (u+1) (by omega)).bsol) fun r hr hn=>?_).1 t ht
  by_cases Gc:r=S u
  ·rw[Gc];exact h0
  ·exact lO fun e=>by
    rcases (hs.bas r).1 e with e|⟨e,_⟩
    ·exact Gc e
    ·exact hn e
 have hbs:∀u,a≤u→u≤b→∀t,t<w→nD (D u) t=nD (D a) t:=by
  intro u h1
  induction u,h1 using MT with
  |base=>intro _ _ _;rfl
  |succ u h1 ih=>
   intro h2 t ht
   rw[(hmv u h1 (by omega)).2 t ht]
   exact ih (by omega) t ht
 -- r4 variables that come and go
 let Uh:Nat→Prop:=fun t=>(∃u,a≤u∧u≤b∧Bas (D u) t)∧∃u,a≤u∧u≤b∧¬Bas (D u) t
 have hf0:∀t,t<w→Uh t→nD (D a) t=0:=fun t ht hf=>by
  obtain⟨_,u,h1,h2,h3⟩:=hf
  rw[←hbs u h1 h2 t ht];exact lO h3
 have hex:∃t,t<w∧Uh t:=by
  have hs:=h.step a (by omega)
  exact⟨S a,hs.hs,⟨a+1,by omega,by omega,(hs.bas _).2 (.inl rfl)⟩,⟨a,az _,by omega,hs.ns⟩⟩
 obtain⟨t,IM,⟨⟨p,p1,p2,p3⟩,q,q1,q2,q3⟩,hmax⟩:=T6 hex
 -- where it leaves,and where it enters
 have hl:∃u,a≤u∧u<b∧Bas (D u) t∧¬Bas (D (u+1)) t:=by
  by_cases hba:Bas (D a) t
  ·obtain⟨u,h1,h2,h3⟩:=flip (f:=fun u=>Bas (D u) t) q1 hba q3
   exact⟨u,h1,by omega,h3⟩
  ·have hbb:¬Bas (D b) t:=fun e=>hba ((AM t).2 e)
   obtain⟨u,h1,h2,h3⟩:=flip (f:=fun u=>Bas (D u) t) p2 p3 hbb
   exact⟨u,by omega,h2,h3⟩
 have hen:∃v,a≤v∧v<b∧¬Bas (D v) t∧Bas (D (v+1)) t:=by
  by_cases hba:Bas (D a) t
  ·have hbb:Bas (D b) t:=(AM t).1 hba
   obtain⟨u,h1,h2,h3,h4⟩:=flip (f:=fun u=>¬Bas (D u) t) q2 q3 (fun e=>e hbb)
   exact⟨u,by omega,h2,h3,Cs.1 h4⟩
  ·obtain⟨u,h1,h2,h3,h4⟩:=flip (f:=fun u=>¬Bas (D u) t) p1 hba (fun e=>e p3)
   exact⟨u,h1,by omega,h3,Cs.1 h4⟩
 obtain⟨u,u1,u2,u3,u4⟩:=hl
 obtain⟨v,v1,v2,v3,v4⟩:=hen
 have M1:=h.step u (by omega)
 have hsv:=h.step v (by omega)
 have hIu:=h.inv u (by omega)
 have hIv:=h.inv v (by omega)
 have hsvt:S v=t:=by
  rcases (hsv.bas t).1 v4 with e|⟨e,_⟩
  ·exact e.symm
  ·exact absurd e v3
 have IN:(D u).rows[I u]!.b=(t:Int):=by
  apply Fl
  intro e
  exact u4 ((M1.bas t).2 (.inr ⟨u3,e⟩))
 have hsf:Uh (S u):=⟨⟨u+1,by omega,by omega,(M1.bas _).2 (.inl rfl)⟩,⟨u,u1,by omega,M1.ns⟩⟩
 have Ho:S u<t:=by
  have:=hmax (S u) M1.hs hsf
  have:S u≠t:=fun e=>M1.ns (by rw[e];exact u3)
  omega
 have mR:∀r,r<t→rv (D v).gc[r]!≤0:=fun r hr=>hsv.low r (by rw[hsvt];exact hr)
 have hgt:0<rv (D v).gc[t]! :=by have:=hsv.gs;rwa[hsvt] at this
 -- r4 numbers that fit D u with r4 entering variable free
 have hline:∀l:Rat,∃y,Sol (D u) w y∧y (S u)=l∧∀r,r<w→¬Bas (D u) r→r≠S u→y r=0:=fun l=>by
  obtain⟨y,hy,hv⟩:=hIu.pick fun r=>if r=S u then l else 0
  refine⟨y,hy,?_,fun r hr hb Gc=>?_⟩
  ·rw[hv (S u) fun j hj e=>M1.ns ⟨j,hj,e⟩,ah rfl]
  ·rw[hv r fun j hj e=>hb ⟨j,hj,e⟩,ai Gc]
 obtain⟨y0,a1,a2,a3⟩:=hline 0
 obtain⟨y1,b1,b2,b3⟩:=hline 1
 obtain⟨c1,c2⟩:=hIu.at M1.hs M1.ns a1 a3
 obtain⟨d1,d2⟩:=hIu.at M1.hs M1.ns b1 b3
 have g0:bU w (D v).gk (D v).gc y0=rv (D u).gk:=by
  rw[h.goal v (by omega) _ ((h.sol u (by omega) _).1 a1),←h.goal u (by omega) _ ((h.sol u (by omega) _).1 a1),c2,a2];grind
 have g1:bU w (D v).gk (D v).gc y1=rv (D u).gk+rv (D u).gc[S u]! :=by
  rw[h.goal v (by omega) _ ((h.sol u (by omega) _).1 b1),←h.goal u (by omega) _ ((h.sol u (by omega) _).1 b1),d2,b2];grind
 have Pe:aT w (fun r=>rv (D v).gc[r]! *(y1 r - y0 r))=rv (D u).gc[S u]! :=by
  have:(fun r=>rv (D v).gc[r]! *(y1 r - y0 r))=fun r=>rv (D v).gc[r]! *y1 r - rv (D v).gc[r]! *y0 r:=by funext r;grind
  rw[this,ue (fun r=>rv (D v).gc[r]! *y1 r) (fun r=>rv (D v).gc[r]! *y0 r)]
  unfold bU at g0 g1
  grind
 -- a term is positive
 have hpos:∃r,r<w∧0<rv (D v).gc[r]! *(y1 r - y0 r):=by
  apply Fl
  intro M8
  have:aT w (fun r=>rv (D v).gc[r]! *(y1 r - y0 r))≤aT w (fun _=>0):=sumN_le fun r hr=>by
   have:¬0<rv (D v).gc[r]! *(y1 r - y0 r):=fun e=>M8 ⟨r,hr,e⟩
   grind
  rw[Pe,fa] at this
  have:=M1.gs
  grind
 obtain⟨r,hrw,hr⟩:=hpos
 have hrne:r≠S u:=fun e=>by
  rw[e,b2,a2] at hr
  have:=mR (S u) Ho
  grind
 have hrb:Bas (D u) r:=by
  apply Fl
  intro e
  rw[a3 r hrw e hrne,b3 r hrw e hrne] at hr
  grind
 have hgr0:rv (D v).gc[r]!≠0:=fun e=>by rw[e] at hr;grind
 have hrnv:¬Bas (D v) r:=fun e=>hgr0 (by rw[(hIv.bas e).2.1];exact of0.2)
 have hrf:Uh r:=⟨⟨u,u1,by omega,hrb⟩,⟨v,v1,by omega,hrnv⟩⟩
 obtain⟨j,hj,hjb⟩:=hrb
 have hjr:(D u).rows[j]!.b.toNat=r:=by omega
 have hd:y1 r - y0 r=rv (D u).rows[j]!.c[S u]! :=by
  have e1:=d1 j hj
  have e0:=c1 j hj
  rw[hjr,b2] at e1
  rw[hjr,a2] at e0
  grind
 rw[hd] at hr
 have hcI:=M1.cs
 have hrt:r≠t:=fun e=>by
  have:j=I u:=hIu.inj j (I u) hj M1.hi (by rw[hjb,IN,e])
  rw[this,e] at hr
  have:=Rat.mul_pos hgt (show 0< -rv (D u).rows[I u]!.c[S u]! by grind)
  grind
 have hrlt:r<t:=by have:=hmax r hrw hrf;omega
 have hgneg:rv (D v).gc[r]! <0:=by have:=mR r hrlt;grind
 have hcneg:rv (D u).rows[j]!.c[S u]! <0:=by
  apply Fl
  intro e
  have:=Cu (show 0≤-rv (D v).gc[r]! by grind) (show 0≤rv (D u).rows[j]!.c[S u]! by grind)
  grind
 -- both rows have r4 constant 0
 have hk:∀(i:Nat) (x:Nat),i<(D u).rows.length→(D u).rows[i]!.b=(x:Int)→x<w→Uh x→rv (D u).rows[i]!.k=0:=fun i x hi e hx hf=>by
  rw[←hIu.bsol_row hi,show (D u).rows[i]!.b.toNat=x by omega,hbs u u1 (by omega) x hx]
  exact hf0 x hx hf
 have k1:=hk j r hj hjb hrw hrf
 have k2:=hk (I u) t M1.hi IN IM ⟨⟨p,p1,p2,p3⟩,q,q1,q2,q3⟩
 have EJ:=(M1.min j hj hcneg).2
 rw[k1,k2,iS,iS] at EJ
 have:=EJ (by grind)
 rw[IN,hjb] at this
 omega
end
end
abbrev Col:=Nat→Rat
def sgd(j:Nat):Rat:=if j % 2=0 then 1 else -1
theorem R8(j:Nat):sgd (j+1)=-sgd j:=by
 unfold sgd
 by_cases h:j % 2=0
 ·rw[ah h,ifn_]
 ·rw[ai h,ifp_];grind
def skip(j i:Nat):Nat:=if i<j then i else i+1
def kU(f:Nat→Col)(j:Nat):Nat→Col:=fun c r=>f (skip j c) (r+1)
def det:Nat→(Nat→Col)→Rat
 |0,_=>1
 |n+1,f=>aT (n+1) fun j=>sgd j*(f j 0*det n (kU f j))
def fH(f:Nat→Col)(a:Nat)(u:Col):Nat→Col:=fun c=>if c=a then u else f c
theorem uB:∀{n:Nat} {f g:Nat→Col},(∀c,c<n→∀r,r<n→f c r=g c r)→det n f=det n g
 |0,_,_,_=>rfl
 |n+1,f,g,h=>by
  unfold det
  refine ay fun j hj=>?_
  rw[h j hj 0 (by omega),uB (f:=kU f j) (g:=kU g j) fun c hc r hr=>?_]
  unfold kU skip
  split
  ·exact h _ (by omega) _ (by omega)
  ·exact h _ (by omega) _ (by omega)
def place(j a:Nat):Nat:=if a<j then a else a - 1
theorem MA {j a:Nat}(h:j≠a):skip j (place j a)=a:=by
 unfold skip place
 by_cases h1:a<j
 ·rw[ah h1,ah h1]
 ·rw[ai h1,ifn_];omega
theorem OD {j a c:Nat}(h:j≠a):skip j c=a↔c=place j a:=by unfold skip place;split <;> split <;> omega
theorem skip_ne(j c:Nat):skip j c≠j:=by unfold skip;split <;> omega
theorem St {n j a:Nat}(hj:j<n+1)(ha:a<n+1)(h:j≠a):place j a<n:=by unfold place;split <;> omega
theorem BV(f:Nat→Col){j a:Nat}(h:j≠a)(u:Col):kU (fH f a u) j=fH (kU f j) (place j a) fun r=>u (r+1):=by
 funext c r
 unfold kU fH
 by_cases hc:c=place j a
 ·rw[ah ((OD h).2 hc),ah hc]
 ·rw[ai (fun e=>hc ((OD h).1 e)),ai hc]
theorem sb(f:Nat→Col)(a:Nat)(u:Col):kU (fH f a u) a=kU f a:=by
 funext c r
 unfold kU fH
 rw[ai (skip_ne a c)]
theorem A0(x:Rat):∀{n:Nat} (f:Nat→Col) (a:Nat) (u v:Col),a<n→det n (fH f a fun r=>x*u r+v r)=x*det n (fH f a u)+det n (fH f a v)
 |0,_,a,_,_,h=>by omega
 |n+1,f,a,u,v,h=>by
  unfold det
  rw[←fB,←lH (fun j=>x*(sgd j*(fH f a u j 0*det n (kU (fH f a u) j)))) (fun j=>sgd j*(fH f a v j 0*det n (kU (fH f a v) j)))]
  refine ay fun j hj=>?_
  by_cases s6:j=a
  ·subst s6
   rw[sb,sb,sb]
   unfold fH
   rw[ah rfl,ah rfl,ah rfl]
   grind
  ·rw[BV f s6,BV f s6,BV f s6]
   have:=A0 x (kU f j) (place j a) (fun r=>u (r+1)) (fun r=>v (r+1)) (St hj h s6)
   rw[this]
   unfold fH
   rw[ai s6,ai s6,ai s6]
   grind
theorem R0 {f:Nat→Rat}{a:Nat}:∀{n:Nat},a+1<n→(∀j,j<n→j≠a→j≠a+1→f j=0)→aT n f=f a+f (a+1):=by
 intro n h h0
 have e:aT n f=aT n fun j=>(if j=a then f a else 0)+(if j=a+1 then f (a+1) else 0):=ay fun j hj=>by
  by_cases h1:j=a
  ·subst h1;rw[ah rfl,ifn_];grind
  ·by_cases h2:j=a+1
   ·subst h2;rw[ifn_,ah rfl];grind
   ·rw[ai h1,ai h2,h0 j hj h1 h2];grind
 rw[e,lH (fun j=>if j=a then f a else 0) (fun j=>if j=a+1 then f (a+1) else 0),mv a _ n (by omega),mv (a+1) _ n h]
theorem I8:∀{n:Nat} (f:Nat→Col) (a:Nat),a+1<n→(∀r,f a r=f (a+1) r)→det n f=0
 |0,_,a,h,_=>by omega
 |n+1,f,a,h,he=>by
  unfold det
  rw[R0 h fun j hj h1 h2=>?_]
  ·have:kU f a=kU f (a+1):=by
    funext c r
    unfold kU skip
    by_cases hc:c=a
    ·subst hc
     rw[ifn_,ifp_]
     exact (he _).symm
    ·by_cases rA:c<a
     ·rw[ah rA,ifp_]
     ·rw[ai rA,ifn_]
   rw[this,he 0,R8]
   grind
  ·rw[I8 (kU f j) (place j a) ?_ fun r=>?_]
   ·grind
   ·unfold place;split <;> omega
   ·have e1:skip j (place j a)=a:=MA h1
    have e2:skip j (place j a+1)=a+1:=by unfold skip place;split <;> split <;> omega
    unfold kU
    rw[e1,e2]
    exact he _
theorem Bz(f:Nat→Col){a b:Nat}(h:a≠b)(u v:Col):fH (fH f a u) b v=fH (fH f b v) a u:=by
 funext c
 unfold fH
 by_cases h1:c=a <;> by_cases h2:c=b <;> simp[h1,h2,h] <;> (try omega)
theorem Uw {n:Nat}(f:Nat→Col)(a:Nat)(h:a+1<n)(u v:Col):det n (fH (fH f a u) (a+1) v)=-det n (fH (fH f a v) (a+1) u):=by
 have z:∀t:Col,det n (fH (fH f a t) (a+1) t)=0:=fun t=>I8 _ a h fun r=>by
  unfold fH
  rw[ifn_,ah rfl,ah rfl]
 have h0:=z fun r=>1*u r+v r
 have l1:∀t:Col,det n (fH (fH f a t) (a+1) fun r=>1*u r+v r)=1*det n (fH (fH f a t) (a+1) u)+det n (fH (fH f a t) (a+1) v):=fun t=>A0 1 _ _ _ _ h
 have l2:∀t:Col,det n (fH (fH f a fun r=>1*u r+v r) (a+1) t)=1*det n (fH (fH f a u) (a+1) t)+det n (fH (fH f a v) (a+1) t):=fun t=>by
  have ne:a≠a+1:=by omega
  rw[Bz f ne _ t,Bz f ne _ t,Bz f ne _ t]
  exact A0 1 _ _ _ _ (by omega)
 rw[l1,l2,l2,z,z] at h0
 grind
theorem By(f:Nat→Col)(a:Nat):fH f a (f a)=f:=by
 funext c
 unfold fH
 split
 ·rename_i h;rw[h]
 ·rfl
theorem EZ {n:Nat}:∀(k:Nat) (f:Nat→Col) (a:Nat),a+1+k<n→(∀r,f a r=f (a+1+k) r)→det n f=0
 |0,f,a,h,he=>I8 f a h he
 |k+1,f,a,h,he=>by
  have e:f=fH (fH f (a+1+k) (f (a+1+k))) (a+1+k+1) (f (a+1+k+1)):=by
   rw[By]
   exact (By f _).symm
  rw[e,Uw f (a+1+k) (by omega),EZ k _ a (by omega) fun r=>?_]
  ·grind
  ·unfold fH
   rw[ifn_,ifn_,ifn_,ah rfl]
   exact he r
theorem det_eq0 {n:Nat}(f:Nat→Col){a b:Nat}(ha:a<n)(hb:b<n)(Gn:a≠b)(he:∀r,f a r=f b r):det n f=0:=by
 rcases d9 a b with h|h
 ·exact EZ (b - a - 1) f a (by omega) fun r=>by rw[show a+1+(b - a - 1)=b by omega];exact he r
 ·exact EZ (a - b - 1) f b (by omega) fun r=>by rw[show b+1+(a - b - 1)=a by omega];exact (he r).symm
theorem Uv {n:Nat}(f:Nat→Col){a:Nat}(ha:a<n):det n (fH f a fun _=>0)=0:=by
 have:=A0 1 f a (fun _=>0) (fun _=>0) ha
 have e:(fun r:Nat=>(1:Rat)*(fun _=>(0:Rat)) r+(fun _=>(0:Rat)) r)=fun _=>0:=by funext r;grind
 rw[e] at this
 grind
theorem Pv {n:Nat}(f:Nat→Col){a:Nat}(ha:a<n)(x:Nat→Rat)(g:Nat→Col):∀m,det n (fH f a fun r=>aT m fun i=>x i*g i r)=aT m fun i=>x i*det n (fH f a (g i))
 |0=>Uv f ha
 |m+1=>by
  have e:(fun r=>aT (m+1) fun i=>x i*g i r)=fun r=>x m*g m r+aT m fun i=>x i*g i r:=by
   funext r
   show aT m (fun i=>x i*g i r)+x m*g m r=_
   grind
  rw[e,A0 (x m) f a (g m) (fun r=>aT m fun i=>x i*g i r) ha,Pv f ha x g m]
  show _=aT m (fun i=>x i*det n (fH f a (g i)))+x m*det n (fH f a (g m))
  grind
theorem Nv {n:Nat}(f:Nat→Col){j:Nat}(hj:j<n)(x:Nat→Rat)(v:Col)(h:∀r,r<n→v r=aT n fun i=>x i*f i r):det n (fH f j v)=x j*det n f:=by
 rw[uB (g:=fH f j fun r=>aT n fun i=>x i*f i r) fun c hc r hr=>?_,Pv f hj x f n]
 ·rw[ay (g:=fun i=>if i=j then x j*det n f else 0) fun i hi=>?_,mv j _ n hj]
  by_cases CX:i=j
  ·subst CX;rw[ah rfl,By]
  ·rw[ai CX,det_eq0 (fH f j (f i)) (a:=i) (b:=j) hi hj CX fun r=>by unfold fH;rw[ai CX,ah rfl]]
   grind
 ·unfold fH
  split
  ·exact h r hr
  ·rfl
def IsI(x:Rat)(K:Nat):Prop:=∃z:Int,x=(z:Rat)∧z.natAbs≤K
theorem IsI.mono {x:Rat}{K L:Nat}(h:IsI x K)(hl:K≤L):IsI x L:=by obtain⟨z,h1,h2⟩:=h;exact⟨z,h1,by omega⟩
theorem IsI.add {x y:Rat}{K L:Nat}(hx:IsI x K)(hy:IsI y L):IsI (x+y) (K+L):=by
 obtain⟨a,rfl,h1⟩:=hx
 obtain⟨b,rfl,h2⟩:=hy
 exact⟨a+b,by rw[Rat.intCast_add],by have:=Int.natAbs_add_le a b;omega⟩
theorem IsI.mul {x y:Rat}{K L:Nat}(hx:IsI x K)(hy:IsI y L):IsI (x*y) (K*L):=by
 obtain⟨a,rfl,h1⟩:=hx
 obtain⟨b,rfl,h2⟩:=hy
 exact⟨a*b,by rw[Rat.intCast_mul],by rw[pi];exact kL h1 h2⟩
theorem IsI.neg {x:Rat}{K:Nat}(hx:IsI x K):IsI (-x) K:=by
 obtain⟨a,rfl,h1⟩:=hx
 exact⟨-a,by rw[Rat.intCast_neg],by omega⟩
theorem IsI.zero(K:Nat):IsI 0 K:=⟨0,rfl,by simp⟩
theorem IsI.one {K:Nat}(h:0<K):IsI 1 K:=⟨1,rfl,h⟩
theorem IsI.sum {f:Nat→Rat}{K:Nat}:∀{n:Nat},(∀i,i<n→IsI (f i) K)→IsI (aT n f) (n*K)
 |0,_=>IsI.zero _
 |n+1,h=>by
  have:=(IsI.sum (f:=f) (n:=n) fun i hi=>h i (by omega)).add (h n (by omega))
  exact this.mono (by rw[bP];omega)
theorem IsI.sgd(j:Nat):IsI (sgd j) 1:=by
 unfold Go.Proofs.YtaedcknhkjpmlaaGreat.sgd
 split
 ·exact⟨1,rfl,by decide⟩
 ·exact⟨-1,rfl,by decide⟩
def Ck:Nat→Nat
 |0=>1
 |n+1=>(n+1)*Ck n
theorem I7 {K:Nat}:∀{n:Nat} {f:Nat→Col},(∀c,c<n→∀r,r<n→IsI (f c r) K)→IsI (det n f) (Ck n*K ^ n)
 |0,_,_=>⟨1,rfl,by simp[Ck]⟩
 |n+1,f,h=>by
  unfold det
  refine (IsI.sum (K:=K*(Ck n*K ^ n)) fun j hj=>?_).mono ?_
  ·have h1:=I7 (n:=n) (f:=kU f j) fun c hc r hr=>by
    unfold kU skip
    split
    ·exact h _ (by omega) _ (by omega)
    ·exact h _ (by omega) _ (by omega)
   exact ((IsI.sgd j).mul ((h j hj 0 (by omega)).mul h1)).mono (by rw[fk];exact az _)
  ·rw[show Ck (n+1)=(n+1)*Ck n from rfl,cK]
   refine Nat.le_of_eq ?_
   rw[xC K,bz K (K ^ n),eR]
section
structure QD where
 b:Nat→Nat
 k:Nat→Rat
 c:Nat→Nat→Rat
def QD.turn(q:QD)(at' s t:Nat):Rat:=if t=q.b at' then 1 / q.c at' s else if t=s then 0 else -q.c at' t / q.c at' s
def QD.piv(q:QD)(at' s:Nat):QD:=
  ⟨fun i=>if i=at' then s else q.b i,fun i=>if i=at' then -q.k at' / q.c at' s else q.k i+q.c i s*(-q.k at' / q.c at' s),
   fun i t=>if i=at' then q.turn at' s t else if t=s then 0 else q.c i t+q.c i s*q.turn at' s t⟩
structure VI(M:Nat→Col)(k0:Col)(q:QD)(m w:Nat):Prop where
 k:∀r,r<m→k0 r=aT m fun i=>q.k i*M (q.b i) r
 c:∀t,t<w→(∀j,j<m→q.b j≠t)→∀r,r<m→-M t r=aT m fun i=>q.c i t*M (q.b i) r
 nz:det m (fun i=>M (q.b i))≠0
structure QOk(q:QD)(m w:Nat):Prop where
 z:∀i j,i<m→j<m→q.c i (q.b j)=0
 inj:∀i j,i<m→j<m→q.b i=q.b j→i=j
theorem Oz {f:Nat→Rat}{m a:Nat}(h:a<m):aT m (fun i=>if i=a then 0 else f i)=aT m f - f a:=by
 rw[w4 f a 0 h];grind
section
variable {M:Nat→Col} {k0:Col} {q:QD} {m w at' s:Nat}
theorem VI.piv(h:VI M k0 q m w)(ho:QOk q m w)(hat:at'<m)(hs:s<w)(t6:∀j,j<m→q.b j≠s)(hp:q.c at' s≠0):VI M k0 (q.piv at' s) m w:=by
 have hS:∀r,r<m→aT m (fun i=>if i=at' then 0 else q.c i s*M (q.b i) r)=-M s r - q.c at' s*M (q.b at') r:=fun r hr=>by
  rw[Oz (f:=fun i=>q.c i s*M (q.b i) r) hat,←h.c s hs t6 r hr]
 -- any line of r4 new dictionary
 have key:∀(x:Rat) (f:Nat→Rat) (r:Nat),r<m→aT m (fun i=>(if i=at' then x else f i+q.c i s*x)*M (if i=at' then s else q.b i) r)=aT m (fun i=>f i*M (q.b i) r) - f at'*M (q.b at') r - x*(q.c at' s*M (q.b at') r):=fun x f r hr=>by
  have e:∀i,i<m→(if i=at' then x else f i+q.c i s*x)*M (if i=at' then s else q.b i) r=(if i=at' then x*M s r else 0)+((if i=at' then 0 else f i*M (q.b i) r)+x*(if i=at' then 0 else q.c i s*M (q.b i) r)):=fun i _=>by
   by_cases hi:i=at'
   ·rw[ah hi,ah hi,ah hi,ah hi,ah hi];grind
   ·rw[ai hi,ai hi,ai hi,ai hi,ai hi];grind
  rw[ay e,lH (fun i=>if i=at' then x*M s r else 0) (fun i=>(if i=at' then 0 else f i*M (q.b i) r)+x*(if i=at' then 0 else q.c i s*M (q.b i) r)),mv at' _ m hat,
   lH (fun i=>if i=at' then 0 else f i*M (q.b i) r) (fun i=>x*(if i=at' then 0 else q.c i s*M (q.b i) r)),fB,hS r hr,Oz (f:=fun i=>f i*M (q.b i) r) hat]
  grind
 refine⟨fun r hr=>?_,fun t ht Rt r hr=>?_,?_⟩
 ·have:=key (-q.k at' / q.c at' s) q.k r hr
  refine bC ?_ this.symm
  rw[←h.k r hr,iS]
  have:q.c at' s*(q.c at' s)⁻¹=1:=xw _ hp
  grind
 ·have rO:t≠s:=fun e=>Rt at' hat (by show (if at'=at' then s else _)=t;rw[ah rfl,e])
  have e1:(fun i=>(q.piv at' s).c i t*M ((q.piv at' s).b i) r)=fun i=>(if i=at' then q.turn at' s t else q.c i t+q.c i s*q.turn at' s t)*M (if i=at' then s else q.b i) r:=by
   funext i
   show (if i=at' then q.turn at' s t else if t=s then 0 else q.c i t+q.c i s*q.turn at' s t)*_=_
   rw[ai rO];rfl
  rw[e1,key (q.turn at' s t) (fun i=>q.c i t) r hr]
  have hc:q.c at' s*(q.c at' s)⁻¹=1:=xw _ hp
  by_cases hb:t=q.b at'
  ·have hz:aT m (fun i=>q.c i t*M (q.b i) r)=0:=by
    rw[ay (g:=fun _=>0) fun i hi=>by rw[hb,ho.z i at' hi hat];grind,fa]
   rw[hz]
   unfold QD.turn
   rw[ah hb,iS,hb,ho.z at' at' hat hat]
   grind
  ·have hold:∀j,j<m→q.b j≠t:=fun j hj e=>by
    by_cases s6:j=at'
    ·exact hb (by rw[←e,s6])
    ·exact Rt j hj (by show (if j=at' then s else q.b j)=t;rw[ai s6];exact e)
   rw[←h.c t ht hold r hr]
   unfold QD.turn
   rw[ai hb,ai rO,iS]
   grind
 ·have e:(fun i=>M ((q.piv at' s).b i))=fH (fun i=>M (q.b i)) at' (M s):=by
   funext i
   show M (if i=at' then s else q.b i)=_
   unfold fH
   split <;> rfl
  rw[e,Nv (fun i=>M (q.b i)) hat (fun i=>-q.c i s) (M s) fun r hr=>?_]
  ·intro h0
   rcases Ct.1 h0 with h1|h1
   ·exact hp (by grind)
   ·exact h.nz h1
  ·have:=h.c s hs t6 r hr
   rw[ay (g:=fun i=>(-1)*(q.c i s*M (q.b i) r)) fun i _=>by grind,fB,←this]
   grind
theorem QOk.piv(ho:QOk q m w)(hat:at'<m)(t6:∀j,j<m→q.b j≠s):QOk (q.piv at' s) m w:=by
 have hbs:∀i,i≠at'→(q.piv at' s).b i=q.b i:=fun i hi=>ai hi
 have hba:(q.piv at' s).b at'=s:=ah rfl
 have pw:∀i,(q.piv at' s).c i s=0:=fun i=>by
  show (if i=at' then q.turn at' s s else if s=s then 0 else _)=0
  by_cases hi:i=at'
  ·rw[ah hi];unfold QD.turn;rw[ai (fun e=>t6 at' hat e.symm),ah rfl]
  ·rw[ai hi,ah rfl]
 have hcj:∀i j,i<m→j<m→j≠at'→(q.piv at' s).c i (q.b j)=0:=fun i j hi hj s6=>by
  have ht:q.turn at' s (q.b j)=0:=by
   unfold QD.turn
   rw[ai (fun e=>s6 (ho.inj j at' hj hat e)),ai (t6 j hj),ho.z at' j hat hj,iS]
   grind
  show (if i=at' then q.turn at' s (q.b j) else if q.b j=s then 0 else q.c i (q.b j)+q.c i s*q.turn at' s (q.b j))=0
  rw[ht,ai (t6 j hj),ho.z i j hi hj]
  split <;> grind
 refine⟨fun i j hi hj=>?_,fun i j hi hj e=>?_⟩
 ·by_cases s6:j=at'
  ·rw[s6,hba];exact pw i
  ·rw[hbs j s6];exact hcj i j hi hj s6
 ·by_cases rQ:i=at' <;> by_cases s6:j=at'
  ·omega
  ·rw[rQ,hba,hbs j s6] at e;exact absurd e.symm (t6 j hj)
  ·rw[s6,hba,hbs i rQ] at e;exact absurd e (t6 i hi)
  ·rw[hbs i rQ,hbs j s6] at e;exact ho.inj i j hi hj e
def Dn(D:Rat)(K:Nat)(x:Rat):Prop:=IsI (D*x) K
theorem VI.bound {β:Nat}(h:VI M k0 q m w)(ho:QOk q m w)(hM:∀t,t<w→∀r,r<m→IsI (M t r) β)(hk0:∀r,r<m→IsI (k0 r) β)(hb:∀i,i<m→q.b i<w):
  IsI (det m fun i=>M (q.b i)) (Ck m*β ^ m)∧(∀i,i<m→Dn (det m fun i=>M (q.b i)) (Ck m*β ^ m) (q.k i))∧∀i t,i<m→t<w→Dn (det m fun i=>M (q.b i)) (Ck m*β ^ m) (q.c i t):=by
 have hu:∀(i:Nat) (v:Col),(∀r,r<m→IsI (v r) β)→IsI (det m (fH (fun i=>M (q.b i)) i v)) (Ck m*β ^ m):=fun i v hv=>I7 fun c hc r hr=>by
  unfold fH
  split
  ·exact hv r hr
  ·exact hM _ (hb c hc) r hr
 refine⟨I7 fun c hc r hr=>hM _ (hb c hc) r hr,fun i hi=>?_,fun i t hi ht=>?_⟩
 ·have:=Nv (fun i=>M (q.b i)) hi q.k k0 h.k
  unfold Dn
  rw[Js,←this]
  exact hu i k0 hk0
 ·by_cases Rt:∀j,j<m→q.b j≠t
  ·have:=Nv (fun i=>M (q.b i)) hi (fun i=>-q.c i t) (M t) fun r hr=>by
    have:=h.c t ht Rt r hr
    rw[ay (g:=fun i=>(-1)*(q.c i t*M (q.b i) r)) fun i _=>by grind,fB,←this]
    grind
   unfold Dn
   have e:det m (fun i=>M (q.b i))*q.c i t=-(det m (fH (fun i=>M (q.b i)) i (M t))):=by rw[this];grind
   rw[e]
   exact (hu i (M t) (hM t ht)).neg
  ·obtain⟨j,hj⟩:=NQ.1 Rt
   obtain⟨O5,CV⟩:=NP.1 hj
   have CV:=Cs.1 CV
   unfold Dn
   rw[←CV,ho.z i j hi O5,sL]
   exact IsI.zero _
end
theorem Dn.parts {D x:Rat}{K:Nat}(hD:IsI D K)(h0:D≠0)(h:Dn D K x):x.num.natAbs≤K∧x.den≤K:=by
 obtain⟨d,rfl,hd⟩:=hD
 obtain⟨n,hn,hnK⟩:=h
 have wK:d≠0:=fun e=>h0 (by rw[e];rfl)
 have hx:x=Rat.divInt n d:=by
  rw[Rat.divInt_eq_div,←hn]
  rw[iS]
  have:=xw _ h0
  grind
 obtain⟨k,l,e1,e2,e3,e4,e5⟩:=o7 (n:=n) wK
 have hg:0<Nat.gcd n.natAbs d.natAbs:=Nat.gcd_pos_of_pos_right _ (by omega)
 have a1:(Rat.divInt n d).num.natAbs≤n.natAbs:=by
  rw[e4,pi]
  have:d.sign.natAbs=1:=by
   rcases xB d 0 with h|h|h
   ·rw[vK h];rfl
   ·exact absurd h wK
   ·rw[sM h];rfl
  rw[this,fk]
  have:n.natAbs=Nat.gcd n.natAbs d.natAbs*k.natAbs:=by
   conv=>lhs;rw[e1]
   rw[pi,dZ]
  rw[this]
  exact vJ _ hg
 have a2:(Rat.divInt n d).den≤d.natAbs:=by
  have:((Rat.divInt n d).den:Int).natAbs=l.natAbs:=by
   rw[e5,pi]
   have:d.sign.natAbs=1:=by
    rcases xB d 0 with h|h|h
    ·rw[vK h];rfl
    ·exact absurd h wK
    ·rw[sM h];rfl
   rw[this,fk]
  rw[dZ] at this
  rw[this]
  have e:d.natAbs=Nat.gcd n.natAbs d.natAbs*l.natAbs:=by
   conv=>lhs;rw[e2]
   rw[pi,dZ]
  rw[e]
  exact vJ _ hg
 rw[hx]
 exact⟨by omega,by omega⟩
end
section
def Pq(K:Nat)(x:Rat):Prop:=x.num.natAbs≤K∧x.den≤K
theorem Pq.fit {K:Nat}{x:Rat}(h:Pq K x)(hK:K<LIM):mn x:=⟨dM h.1 hK,dM h.2 hK⟩
theorem Pq.mono {K L:Nat}{x:Rat}(h:Pq K x)(hK:K≤L):Pq L x:=⟨dm h.1 hK,dm h.2 hK⟩
theorem og {x y:Nu}{K L:Nat}(hx:au x=true)(hy:au y=true)(h1:Pq K (rv x))(h2:Pq L (rv y))(hKL:2*(K*L)<LIM):au (jw x y)=true∧rv (jw x y)=rv x+rv y:=by
 have e:Iy (cC x.1) (cC y.1)=some (rv x+rv y):=by
  rw[bF.1 hx,bF.1 hy]
  show Dk (rv x) (rv y)=_
  unfold Dk
  have a1:((rv x).num*(((rv y).den / Nat.gcd (rv x).den (rv y).den:Nat):Int)).natAbs≤K*L:=by
   rw[pi,dZ]
   exact kL h1.1 (dm (pj _ _) h2.2)
  have a2:((rv y).num*(((rv x).den / Nat.gcd (rv x).den (rv y).den:Nat):Int)).natAbs≤K*L:=by
   rw[pi,dZ,bz K L]
   exact kL h2.1 (dm (pj _ _) h1.2)
  have a3:(rv x).den / Nat.gcd (rv x).den (rv y).den*(rv y).den≤K*L:=kL (dm (pj _ _) h1.2) h2.2
  rw[ah]
  generalize (rv x).num*(((rv y).den / Nat.gcd (rv x).den (rv y).den:Nat):Int)=p at a1 ⊢
  generalize (rv y).num*(((rv x).den / Nat.gcd (rv x).den (rv y).den:Nat):Int)=q at a2 ⊢
  generalize (rv x).den / Nat.gcd (rv x).den (rv y).den*(rv y).den=r at a3 ⊢
  generalize K*L=KL at*
  refine⟨?_,?_,?_,?_⟩
  ·exact dM a1 (by omega)
  ·exact dM a2 (by omega)
  ·exact dM (Int.natAbs_add_le p q) (by omega)
  ·omega
 have hf:mn (rv x+rv y):=AD (cC x.1) (cC y.1) _ e
 rw[oW,e]
 exact uh hf
theorem rR {x y:Nu}(hx:au x=true)(hy:au y=true)(h:mn (rv x*rv y)):au (lX x y)=true∧rv (lX x y)=rv x*rv y:=by
 have e:BQ (cC x.1) (cC y.1)=some (rv x*rv y):=by
  rw[bF.1 hx,bF.1 hy]
  exact ah h
 rw[r9,e]
 exact uh h
theorem yb {x y:Nu}(hx:au x=true)(hy:au y=true)(h0:rv y≠0)(h:mn (rv x / rv y)):au (oJ x y)=true∧rv (oJ x y)=rv x / rv y:=by
 have e:GG (cC x.1) (cC y.1)=some (rv x / rv y):=by
  rw[bF.1 hx,bF.1 hy]
  have:MJ (some (rv y))=some (rv y)⁻¹:=ai h0
  unfold GG
  rw[this,iS]
  rw[iS] at h
  exact ah h
 rw[Et,e]
 exact uh h
theorem Dn.add {D x y:Rat}{K L:Nat}(hx:Dn D K x)(hy:Dn D L y):Dn D (K+L) (x+y):=by
 unfold Dn at*
 rw[show D*(x+y)=D*x+D*y by grind]
 exact hx.add hy
theorem Dn.mul {D E x y:Rat}{K L:Nat}(hx:Dn D K x)(hy:Dn E L y):Dn (D*E) (K*L) (x*y):=by
 unfold Dn at*
 rw[show D*E*(x*y)=D*x*(E*y) by grind]
 exact IsI.mul hx hy
theorem Dn.neg {D x:Rat}{K:Nat}(hx:Dn D K x):Dn D K (-x):=by
 unfold Dn at*
 rw[show D*-x=-(D*x) by grind]
 exact IsI.neg hx
theorem Dn.mono {D x:Rat}{K L:Nat}(hx:Dn D K x)(h:K≤L):Dn D L x:=IsI.mono hx h
theorem Dn.int {D a x:Rat}{K L:Nat}(ha:IsI a L)(hx:Dn D K x):Dn D (L*K) (a*x):=by
 unfold Dn at*
 rw[show D*(a*x)=a*(D*x) by grind]
 exact ha.mul hx
theorem Dn.of {D a:Rat}{K L:Nat}(hD:IsI D K)(ha:IsI a L):Dn D (K*L) a:=hD.mul ha
theorem Dn.zero(D:Rat)(K:Nat):Dn D K 0:=by unfold Dn;rw[sL];exact IsI.zero K
theorem Dn.pq {D x:Rat}{K:Nat}(hD:IsI D K)(h0:D≠0)(h:Dn D K x):Pq K x:=Dn.parts hD h0 h
theorem Dn.sum {D:Rat}{f:Nat→Rat}{K:Nat}:∀{n:Nat},(∀i,i<n→Dn D K (f i))→Dn D (n*K) (aT n f)
 |0,_=>by rw[gS];exact Dn.zero D 0
 |n+1,h=>by
  rw[rl]
  exact (Dn.sum fun i hi=>h i (by omega)).add (h n (by omega))
def qd(d:Dic)(w m:Nat):QD:=⟨fun i=>if i<m then d.rows[i]!.b.toNat else w,fun i=>if i<m then rv d.rows[i]!.k else rv d.gk,fun i t=>if t=w then 0 else if i<m then rv d.rows[i]!.c[t]! else rv d.gc[t]!⟩
structure Ok(M:Nat→Col)(k0:Col)(d:Dic)(w m:Nat):Prop where
 inv:Inv d w
 len:d.rows.length=m
 vi:VI M k0 (qd d w m) (m+1) (w+1)
def Kf(m β:Nat):Nat:=Ck (m+1)*β ^ (m+1)
structure Bd(M:Nat→Col)(k0:Col)(w m β:Nat):Prop where
 ent:∀t,t<w+1→∀r,r<m+1→IsI (M t r) β
 con:∀r,r<m+1→IsI (k0 r) β
 lim:2*(Kf m β*(Kf m β*Kf m β))<LIM
theorem VI.congr {M:Nat→Col}{k0:Col}{q q':QD}{m w:Nat}(h:VI M k0 q m w)(hb:∀i,i<m→q'.b i=q.b i)(hk:∀i,i<m→q'.k i=q.k i)(hc:∀i,i<m→∀t,t<w→q'.c i t=q.c i t):VI M k0 q' m w:=by
 refine⟨fun r hr=>?_,fun t ht Rt r hr=>?_,?_⟩
 ·rw[h.k r hr]
  exact ay fun i hi=>by rw[hb i hi,hk i hi]
 ·rw[h.c t ht (fun j hj=>by rw[←hb j hj];exact Rt j hj) r hr]
  exact ay fun i hi=>by rw[hb i hi,hc i hi t ht]
 ·rw[uB (g:=fun i=>M (q.b i)) fun c hc r _=>by rw[hb c hc]]
  exact h.nz
section
variable {M:Nat→Col} {k0:Col} {d:Dic} {w m at' s β:Nat}
theorem Ay {i:Nat}(hi:i<m):(qd d w m).b i=d.rows[i]!.b.toNat:=ah hi
theorem pF:(qd d w m).b m=w:=ai (qj _)
theorem Ee {i:Nat}(hi:i<m):(qd d w m).k i=rv d.rows[i]!.k:=ah hi
theorem KD:(qd d w m).k m=rv d.gk:=ai (qj _)
theorem BM {i t:Nat}(hi:i<m)(ht:t<w):(qd d w m).c i t=rv d.rows[i]!.c[t]! :=by
 show (if t=w then 0 else if i<m then rv d.rows[i]!.c[t]! else _)=_
 rw[ifn_,ah hi]
theorem CP {t:Nat}(ht:t<w):(qd d w m).c m t=rv d.gc[t]! :=by
 show (if t=w then 0 else if m<m then _ else rv d.gc[t]!)=_
 rw[ifn_,ai (qj _)]
theorem Ef(i:Nat):(qd d w m).c i w=0:=ah rfl
theorem Inv.qok(h:Inv d w)(hl:d.rows.length=m):QOk (qd d w m) (m+1) (w+1):=by
 have hb:∀j,j<m→(qd d w m).b j<w∧(d.rows[j]!.b=(((qd d w m).b j:Nat):Int)):=fun j hj=>by
  have:=h.rng j (by omega)
  rw[Ay hj]
  omega
 refine⟨fun i j hi hj=>?_,fun i j hi hj e=>?_⟩
 ·rcases d9 j m with Mm|Mm
  ·have h1:=(hb j Mm).1
   rcases d9 i m with qv|qv
   ·rw[BM qv h1,Ay Mm,h.zr i j (by omega) (by omega)];exact of0.2
   ·obtain rfl:i=m:=by omega
    rw[CP h1,Ay Mm,h.zg j (by omega)];exact of0.2
  ·obtain rfl:j=m:=by omega
   rw[pF,Ef]
 ·rcases d9 j m with Mm|Mm <;> rcases d9 i m with qv|qv
  ·have h1:=hb j Mm
   have h2:=hb i qv
   exact h.inj i j (by omega) (by omega) (by rw[h1.2,h2.2,e])
  ·obtain rfl:i=m:=by omega
   have:=(hb j Mm).1
   rw[pF] at e;omega
  ·obtain rfl:j=m:=by omega
   have:=(hb i qv).1
   rw[pF] at e;omega
  ·omega
theorem Inv.qlt(h:Inv d w)(hl:d.rows.length=m):∀i,i<m+1→(qd d w m).b i<w+1:=fun i hi=>by
 rcases d9 i m with qv|qv
 ·have:=h.rng i (by omega)
  rw[Ay qv];omega
 ·obtain rfl:i=m:=by omega
  rw[pF];omega
theorem Ok.bound(h:Ok M k0 d w m)(hB:Bd M k0 w m β):∃D:Rat,D≠0∧IsI D (Kf m β)∧(∀i,i<m→Dn D (Kf m β) (rv d.rows[i]!.k))∧Dn D (Kf m β) (rv d.gk)∧(∀i t,i<m→t<w→Dn D (Kf m β) (rv d.rows[i]!.c[t]!))∧∀t,t<w→Dn D (Kf m β) (rv d.gc[t]!):=by
 obtain⟨h1,h2,h3⟩:=h.vi.bound (h.inv.qok h.len) hB.ent hB.con (h.inv.qlt h.len)
 refine⟨_,h.vi.nz,h1,fun i hi=>?_,?_,fun i t hi ht=>?_,fun t ht=>?_⟩
 ·have:=h2 i (by omega);rwa[Ee hi] at this
 ·have:=h2 m (by omega);rwa[KD] at this
 ·have:=h3 i t (by omega) (by omega);rwa[BM hi ht] at this
 ·have:=h3 m t (by omega) (by omega);rwa[CP ht] at this
theorem put_ok {k:Nu}{c:List Nu}{r1:Row}{K:Nat}(hl:c.length=w)(hg:gl k c=true)(hs:s<w)(hr:au r1.k=true)(hrc:∀t,t<w→au r1.c[t]! =true)(hk:Pq K (rv k))(hc:∀t,t<w→Pq K (rv c[t]!))(pk:Pq (K*K) (rv c[s]! *rv r1.k))(pc:∀t,t<w→Pq (K*K) (rv c[s]! *rv r1.c[t]!))(hK:2*(K*(K*K))<LIM)(hKK:K*K<LIM):
  gl (g5 k c r1 s).k (g5 k c r1 s).c=true∧rv (g5 k c r1 s).k=rv k+rv c[s]! *rv r1.k∧∀t,t<w→rv (g5 k c r1 s).c[t]! =if t=s then 0 else rv c[t]! +rv c[s]! *rv r1.c[t]! :=by
 obtain⟨h1,h2⟩:=br.1 hg
 have hq:=h2 s (by omega)
 have main:(au (g5 k c r1 s).k=true∧rv (g5 k c r1 s).k=rv k+rv c[s]! *rv r1.k)∧∀t,t<w→au (g5 k c r1 s).c[t]! =true∧rv (g5 k c r1 s).c[t]! =if t=s then 0 else rv c[t]! +rv c[s]! *rv r1.c[t]! :=by
  unfold g5 xG uI
  by_cases h0:bE c[s]! =0
  ·rw[ah h0,ah h0,(At hq).1 h0]
   refine⟨⟨h1,by dsimp only;grind⟩,fun t ht=>?_⟩
   dsimp only
   rw[eJ (by omega)]
   by_cases rO:t=s
   ·rw[ah rO.symm,ah rO];exact of0
   ·rw[ai (fun e=>rO e.symm),ai rO]
    exact⟨h2 t (by omega),by grind⟩
  ·rw[ai h0,ai h0]
   dsimp only
   constructor
   ·obtain⟨g1,g2⟩:=rR hq hr (pk.fit hKK)
    obtain⟨g3,g4⟩:=og h1 g1 hk (by rw[g2];exact pk) hK
    exact⟨g3,by rw[g4,g2]⟩
   ·intro t ht
    rw[JF _ _ _ _ _ t (by rw[c7];omega),c7,eJ (by omega)]
    by_cases rO:t=s
    ·rw[ifn_,ah rO.symm,ah rO];exact of0
    ·rw[ah ⟨by omega,rO⟩,ai (fun e=>rO e.symm),ai rO]
     obtain⟨g1,g2⟩:=rR hq (hrc t ht) ((pc t ht).fit hKK)
     obtain⟨g3,g4⟩:=og (h2 t (by omega)) g1 (hc t ht) (by rw[g2];exact pc t ht) hK
     exact⟨g3,by rw[g4,g2]⟩
 obtain⟨⟨m1,m2⟩,m3⟩:=main
 refine⟨br.2 ⟨m1,fun i hi=>(m3 i (by rw[r8] at hi;omega)).1⟩,m2,fun t ht=>(m3 t ht).2⟩
theorem Ok.pivot(h:Ok M k0 d w m)(hB:Bd M k0 w m β)(hat:at'<m)(hs:s<w)(t6:∀j,j<d.rows.length→d.rows[j]!.b≠(s:Int))(hp:rv d.rows[at']!.c[s]!≠0):gW d w at' s∧Ok M k0 (gF d at' s) w m∧mn (rv d.rows[at']!.k / -rv d.rows[at']!.c[s]!)∧
  (∀i,i<m→rv (gF d at' s).rows[i]!.k=if i=at' then -rv d.rows[at']!.k / rv d.rows[at']!.c[s]! else rv d.rows[i]!.k+rv d.rows[i]!.c[s]! *(-rv d.rows[at']!.k / rv d.rows[at']!.c[s]!)):=by
 have hI:=h.inv
 have hl:=h.len
 have hqo:=hI.qok hl
 have pw:(qd d w m).c at' s=rv d.rows[at']!.c[s]! :=BM hat hs
 have hbat:(qd d w m).b at'=d.rows[at']!.b.toNat:=Ay hat
 have hrb:=hI.rng at' (by omega)
 have hsb:d.rows[at']!.b.toNat≠s:=fun e=>t6 at' (by omega) (by omega)
 have hnq:∀j,j<m+1→(qd d w m).b j≠s:=fun j hj=>by
  rcases d9 j m with Mm|Mm
  ·have h1:=hI.rng j (by omega)
   have h2:=t6 j (by omega)
   rw[Ay Mm];omega
  ·obtain rfl:j=m:=by omega
   rw[pF];omega
 have hvi:=h.vi.piv hqo (show at'<m+1 by omega) (show s<w+1 by omega) hnq (by rw[pw];exact hp)
 have hlt':∀i,i<m+1→((qd d w m).piv at' s).b i<w+1:=fun i hi=>by
  show (if i=at' then s else (qd d w m).b i)<w+1
  split
  ·omega
  ·exact hI.qlt hl i hi
 obtain⟨b1,b2,b3⟩:=hvi.bound (hqo.piv (show at'<m+1 by omega) hnq) hB.ent hB.con hlt'
 have b0:=hvi.nz
 generalize hE:(det (m+1) fun i=>M (((qd d w m).piv at' s).b i))=E at b0 b1 b2 b3
 obtain⟨D,a0,a1,a2,a3,a4,a5⟩:=h.bound hB
 have hlim:=hB.lim
 have hK1:1≤Kf m β:=by
  obtain⟨z,hz,hz2⟩:=a1
  have:z≠0:=fun e=>a0 (by rw[hz,e];rfl)
  omega
 have hKK:Kf m β≤Kf m β*Kf m β:=vJ _ hK1
 have hKK2:Kf m β*Kf m β≤Kf m β*(Kf m β*Kf m β):=vJ _ hK1
 generalize hKe:Ck (m+1)*β ^ (m+1)=K at b1 b2 b3
 have hK':Kf m β=K:=hKe
 rw[hK'] at a1 a2 a3 a4 a5 hlim hK1 hKK hKK2
 have hKl:K<LIM:=by omega
 -- r4 bc row
 have TA:=hI.fine.lr at' (by omega)
 obtain⟨gk,gc⟩:=br.1 (hI.fine.gr at' (by omega))
 have tk:au (bc d.rows[at']! s).k=true∧rv (bc d.rows[at']! s).k=-rv d.rows[at']!.k / rv d.rows[at']!.c[s]! :=by
  have e:((qd d w m).piv at' s).k at'=-rv d.rows[at']!.k / rv d.rows[at']!.c[s]! :=by
   show (if at'=at' then -(qd d w m).k at' / (qd d w m).c at' s else _)=_
   rw[ah rfl,pw,Ee hat]
  have hf:=(Dn.pq (x:=-rv d.rows[at']!.k / rv d.rows[at']!.c[s]!) b1 b0 (by rw[←e];exact b2 at' (by omega))).fit hKl
  have:=yb (x:=eU d.rows[at']!.k) (y:=d.rows[at']!.c[s]!) (by rw[ob];exact gk) (gc s (by omega)) hp (by rw[ik];exact hf)
  rw[ik] at this
  exact this
 have tc:∀t,t<w→au (bc d.rows[at']! s).c[t]! =true∧rv (bc d.rows[at']! s).c[t]! =((qd d w m).piv at' s).c at' t:=fun t ht=>by
  have e:((qd d w m).piv at' s).c at' t=if t=d.rows[at']!.b.toNat then 1 / rv d.rows[at']!.c[s]! else if t=s then 0 else -rv d.rows[at']!.c[t]! / rv d.rows[at']!.c[s]! :=by
   show (if at'=at' then (qd d w m).turn at' s t else _)=_
   unfold QD.turn
   rw[ah rfl,pw,hbat,BM hat ht]
  have hf:=(Dn.pq b1 b0 (b3 at' t (by omega) (by omega))).fit hKl
  rw[e] at hf ⊢
  rw[uX (by omega) (by omega)]
  by_cases e1:t=d.rows[at']!.b.toNat
  ·rw[ah e1] at hf ⊢
   rw[ah e1]
   have:=yb of1.1 (gc s (by omega)) hp (by rw[of1.2];exact hf)
   rw[of1.2] at this
   exact this
  ·rw[ai e1] at hf ⊢
   rw[ai e1]
   by_cases e2:t=s
   ·rw[ah e2,ah e2];exact of0
   ·rw[ai e2] at hf ⊢
    rw[ai e2]
    have:=yb (x:=eU d.rows[at']!.c[t]!) (y:=d.rows[at']!.c[s]!) (by rw[ob];exact gc t (by omega)) (gc s (by omega)) hp (by rw[ik];exact hf)
    rw[ik] at this
    exact this
 have tlen:(bc d.rows[at']! s).c.length=w:=by rw[rZ];exact TA
 have hx:(Ck (m+1)*β ^ (m+1))=K:=hKe
 -- r4 lines
 have hDE:IsI (D*E) (K*K):=a1.mul b1
 have hDE0:D*E≠0:=fun e=>(Ct.1 e).elim a0 b0
 have line:∀(k:Nu) (c:List Nu),c.length=w→gl k c=true→Dn D K (rv k)→(∀t,t<w→Dn D K (rv c[t]!))→
   gl (g5 k c (bc d.rows[at']! s) s).k (g5 k c (bc d.rows[at']! s) s).c=true∧rv (g5 k c (bc d.rows[at']! s) s).k=rv k+rv c[s]! *rv (bc d.rows[at']! s).k∧∀t,t<w→rv (g5 k c (bc d.rows[at']! s) s).c[t]! =if t=s then 0 else rv c[t]! +rv c[s]! *rv (bc d.rows[at']! s).c[t]! :=fun k c h1 h2 h3 h4=>by
  refine put_ok h1 h2 hs tk.1 (fun t ht=>(tc t ht).1) (Dn.pq a1 a0 h3) (fun t ht=>Dn.pq a1 a0 (h4 t ht)) ?_ (fun t ht=>?_) hlim (by omega)
  ·refine Dn.pq hDE hDE0 (Dn.mul (h4 s hs) ?_)
   have:=b2 at' (by omega)
   have e:((qd d w m).piv at' s).k at'=rv (bc d.rows[at']! s).k:=by
    rw[tk.2]
    show (if at'=at' then -(qd d w m).k at' / (qd d w m).c at' s else _)=_
    rw[ah rfl,pw,Ee hat]
   rwa[e] at this
  ·refine Dn.pq hDE hDE0 (Dn.mul (h4 s hs) ?_)
   rw[(tc t ht).2]
   exact b3 at' t (by omega) (by omega)
 have OF:=fun i (hi:i<m)=>line d.rows[i]!.k d.rows[i]!.c (hI.fine.lr i (by omega)) (hI.fine.gr i (by omega)) (a2 i hi) fun t ht=>a4 i t hi ht
 have Nm:=line d.gk d.gc hI.fine.lg hI.fine.gg a3 a5
 have hfine:Fine (gF d at' s) w:=by
  refine⟨?_,fun i hi=>?_,Nm.1,fun i hi=>?_⟩
  ·show (g5 d.gk d.gc _ s).c.length=w
   rw[r8];exact hI.fine.lg
  ·rw[ej] at hi
   rw[jv hi]
   split
   ·exact tlen
   ·show (g5 d.rows[i]!.k d.rows[i]!.c _ s).c.length=w
    rw[r8];exact hI.fine.lr i hi
  ·rw[ej] at hi
   rw[jv hi]
   split
   ·exact br.2 ⟨tk.1,fun t ht=>(tc t (by omega)).1⟩
   ·exact (OF i (by omega)).1
 have hG:gW d w at' s:=⟨hI,by omega,hs,t6,hfine⟩
 have JX:(gF d at' s).rows.length=m:=by rw[ej];exact hl
 have RW:rv (bc d.rows[at']! s).k=-(qd d w m).k at' / (qd d w m).c at' s:=by rw[tk.2,pw,Ee hat]
 have turnC:∀t,t<w→rv (bc d.rows[at']! s).c[t]! =(qd d w m).turn at' s t:=fun t ht=>by
  rw[(tc t ht).2]
  exact ah rfl
 have turnW:(qd d w m).turn at' s w=0:=by
  unfold QD.turn
  rw[ai (by rw[hbat];omega),ifn_,Ef,iS]
  grind
 refine⟨hG,⟨hG.toInv,JX,hvi.congr (fun i hi=>?_) (fun i hi=>?_) (fun i hi t ht=>?_)⟩,?_,fun i hi=>?_⟩
 ·show _=if i=at' then s else (qd d w m).b i
  rcases d9 i m with qv|qv
  ·rw[Ay qv,Ay qv,pW (by omega)]
   by_cases e:i=at'
   ·rw[ah e,ah e];omega
   ·rw[ai e,ai e]
  ·obtain rfl:i=m:=by omega
   rw[pF,pF,ifn_]
 ·show _=if i=at' then -(qd d w m).k at' / (qd d w m).c at' s else (qd d w m).k i+(qd d w m).c i s*(-(qd d w m).k at' / (qd d w m).c at' s)
  rcases d9 i m with qv|qv
  ·rw[Ee qv,jv (by omega)]
   by_cases e:i=at'
   ·rw[ah e,ah e];exact RW
   ·rw[ai e,ai e,Ee qv,BM qv hs,←RW]
    exact (OF i qv).2.1
  ·obtain rfl:i=m:=by omega
   rw[ifn_,KD,KD,CP hs,←RW]
   exact Nm.2.1
 ·show _=if i=at' then (qd d w m).turn at' s t else if t=s then 0 else (qd d w m).c i t+(qd d w m).c i s*(qd d w m).turn at' s t
  by_cases IM:t=w
  ·rw[IM,Ef,turnW,Ef,ai (by omega:w≠s)]
   split <;> grind
  have yP:t<w:=by omega
  rw[←turnC t yP]
  rcases d9 i m with qv|qv
  ·rw[BM qv yP,jv (by omega)]
   by_cases e:i=at'
   ·rw[ah e,ah e]
   ·rw[ai e,ai e,BM qv yP,BM qv hs]
    exact (OF i qv).2.2 t yP
  ·obtain rfl:i=m:=by omega
   rw[ifn_,CP yP,CP yP,CP hs]
   exact Nm.2.2 t yP
 ·have:=(Dn.pq b1 b0 (b2 at' (by omega))).fit hKl
  have e:((qd d w m).piv at' s).k at'=rv d.rows[at']!.k / -rv d.rows[at']!.c[s]! :=by
   show (if at'=at' then -(qd d w m).k at' / (qd d w m).c at' s else _)=_
   rw[ah rfl,pw,Ee hat,iS,iS]
   have i1:=xw _ hp
   have i2:=xw (-rv d.rows[at']!.c[s]!) (fun e=>hp (by grind))
   grind
  rwa[e] at this
 ·rw[jv (by omega)]
  by_cases e:i=at'
  ·rw[ah e,ah e];exact tk.2
  ·rw[ai e,ai e,←tk.2]
   exact (OF i hi).2.1
end
end
section
theorem MH:∀(K:Nat) (n:Nat) (f:Nat→Nat),(∀u,u≤n→f u<K)→(∀a b,a<b→b≤n→f a≠f b)→n<K
 |0,n,f,h,_=>absurd (h 0 (cy n)) (rk _)
 |K+1,n,f,h,hi=>by
  by_cases hex:∃u,u≤n∧f u=K
  ·obtain⟨u,hu,hf⟩:=hex
   by_cases hn:n=0
   ·omega
   ·have:=MH K (n - 1) (fun a=>if a<u then f a else f (a+1)) (fun a ha=>?_) (fun a b Gn hb=>?_)
    ·omega
    ·split
     ·rename_i h1
      have h2:=h a (by omega)
      have h3:=hi a u h1 hu
      rw[hf] at h3;omega
     ·rename_i h1
      have h2:=h (a+1) (by omega)
      have h3:=hi u (a+1) (by omega) (by omega)
      rw[hf] at h3;omega
    ·split <;> split
     ·exact hi a b Gn (by omega)
     ·exact hi a (b+1) (by omega) (by omega)
     ·omega
     ·exact hi (a+1) (b+1) (by omega) (by omega)
  ·have:=MH K n f (fun u hu=>by
    have h1:=h u hu
    have:f u≠K:=fun e=>hex ⟨u,hu,e⟩
    omega) hi
   omega
def oy:Nat→Nat→Nat
 |_,0=>1
 |0,_+1=>0
 |n+1,k+1=>oy n k+oy n (k+1)
theorem Pz(n:Nat):oy n 0=1:=by cases n <;> rfl
theorem UR(n k:Nat):oy n k≤oy (n+1) k:=by
 cases k with
 |zero=>rw[Pz,Pz];exact az 1
 |succ k=>exact Nat.le_add_left _ _
open Classical in
def cnt(P:Nat→Prop):Nat→Nat
 |0=>0
 |w+1=>cnt P w+if P w then 1 else 0
def A7(P:Nat→Prop):Nat→Nat
 |0=>0
 |w+1=>open Classical in A7 P w+if P w then oy w (cnt P w+1) else 0
theorem qy {P:Nat→Prop}{w:Nat}(h:P w):cnt P (w+1)=cnt P w+1:=by unfold cnt;rw[ah h];cases w <;> rfl
theorem qz {P:Nat→Prop}{w:Nat}(h:¬P w):cnt P (w+1)=cnt P w:=by unfold cnt;rw[ai h];cases w <;> rfl
theorem xo {P:Nat→Prop}{w:Nat}(h:P w):A7 P (w+1)=A7 P w+oy w (cnt P w+1):=by unfold A7;rw[ah h];cases w <;> rfl
theorem xp {P:Nat→Prop}{w:Nat}(h:¬P w):A7 P (w+1)=A7 P w:=by unfold A7;rw[ai h];cases w <;> rfl
theorem DR(P:Nat→Prop):∀w,A7 P w<oy w (cnt P w)
 |0=>Nat.lt_add_one 0
 |w+1=>by
  have h1:=DR P w
  have h2:=UR w (cnt P w)
  by_cases hp:P w
  ·rw[xo hp,qy hp]
   show _<oy w (cnt P w)+oy w (cnt P w+1)
   omega
  ·rw[xp hp,qz hp];omega
theorem Lu {P Q:Nat→Prop}:∀{w:Nat},cnt P w=cnt Q w→A7 P w=A7 Q w→∀t,t<w→(P t↔Q t)
 |0,_,_,t,ht=>by omega
 |w+1,hc,h,t,ht=>by
  have h1:=DR P w
  have h2:=DR Q w
  have fin:(P w↔Q w)→cnt P w=cnt Q w→A7 P w=A7 Q w→(P t↔Q t):=fun e e1 e2=>by
   rcases d9 t w with IM|IM
   ·exact Lu e1 e2 t IM
   ·obtain rfl:t=w:=by omega
    exact e
  by_cases hp:P w <;> by_cases hq:Q w
  ·rw[xo hp,xo hq] at h
   rw[qy hp,qy hq] at hc
   have hc:cnt P w=cnt Q w:=by omega
   rw[hc] at h
   exact fin ⟨fun _=>hq,fun _=>hp⟩ hc (by omega)
  ·rw[xo hp,xp hq] at h
   rw[qy hp,qz hq] at hc
   rw[←hc] at h2
   omega
  ·rw[xp hp,xo hq] at h
   rw[qz hp,qy hq] at hc
   rw[hc] at h1
   omega
  ·rw[xp hp,xp hq] at h
   rw[qz hp,qz hq] at hc
   exact fin ⟨fun e=>absurd e hp,fun e=>absurd e hq⟩ (by omega) (by omega)
theorem yf {P Q:Nat→Prop}:∀{w:Nat},(∀t,t<w→(P t↔Q t))→cnt P w=cnt Q w
 |0,_=>rfl
 |w+1,h=>by
  have ih:=yf (P:=P) (Q:=Q) (w:=w) fun t ht=>h t (by omega)
  by_cases hp:P w
  ·rw[qy hp,qy ((h w (by omega)).1 hp),ih]
  ·rw[qz hp,qz (fun e=>hp ((h w (by omega)).2 e)),ih]
theorem Jb {P:Nat→Prop}{x:Nat}(hx:¬P x):∀{w:Nat},x<w→cnt (fun t=>t=x∨P t) w=cnt P w+1
 |0,h=>by omega
 |w+1,h=>by
  by_cases hw:w=x
  ·rw[qy (P:=fun t=>t=x∨P t) (.inl hw),qz (P:=P) (by rw[hw];exact hx),yf (Q:=P) fun t ht=>⟨fun e=>e.elim (fun e=>by omega) id,.inr⟩]
  ·have ih:=Jb (P:=P) hx (show x<w by omega)
   by_cases hp:P w
   ·rw[qy (P:=fun t=>t=x∨P t) (.inr hp),qy hp,ih]
   ·rw[qz (P:=fun t=>t=x∨P t) (fun e=>e.elim hw hp),qz hp,ih]
theorem least {f:Nat→Prop}:∀{n:Nat},f n→∃u,u≤n∧f u∧∀v,v<u→¬f v
 |0,h=>⟨0,az 0,h,fun v hv=>by omega⟩
 |n+1,h=>by
  by_cases hex:∃v,v≤n∧f v
  ·obtain⟨v,hv,hf⟩:=hex
   obtain⟨u,h1,h2,h3⟩:=least hf
   exact⟨u,by omega,h2,h3⟩
  ·exact⟨n+1,az _,h,fun v hv hf=>hex ⟨v,by omega,hf⟩⟩
def nJ(d:Dic):Option (Nat×Nat):=match kF d.gc with
 |none=>none
 |some s=>match jy d.rows s default d.rows.length with
  |none=>none
  |some p=>if p.1<0 then none else some (p.1.toNat,s)
def nx(d:Dic):Dic:=match nJ d with
 |none=>d
 |some p=>gF d p.1 p.2
def itD:Nat→Dic→Dic
 |0,d=>d
 |u+1,d=>nx (itD u d)
theorem B7:∀(u:Nat) (d:Dic),itD (u+1) d=itD u (nx d)
 |0,_=>rfl
 |u+1,d=>by
  show nx (itD (u+1) d)=nx (itD u (nx d))
  rw[B7 u d]
section
variable {M:Nat→Col} {k0:Col} {d:Dic} {w m β:Nat}
theorem Ok.leav(h:Ok M k0 d w m)(hB:Bd M k0 w m β){s:Nat}(he:kF d.gc=some s)(z:Nu):∀n,n≤m→jy d.rows s z n≠none
 |0,_=>by unfold jy;exact NO _
 |n+1,hn=>by
  have hI:=h.inv
  have hl:=h.len
  obtain⟨h1,h2,_⟩:=qg he
  rw[hI.fine.lg] at h1
  have ih:=h.leav hB he z n (by omega)
  unfold jy
  cases hq:jy d.rows s z n with
  |none=>exact absurd hq ih
  |some p=>
   dsimp only
   unfold si
   dsimp only
   by_cases hc:0≤bE d.rows[n]!.c[s]!
   ·rw[ah hc];exact NO _
   ·rw[ai hc]
    obtain⟨g1,g2⟩:=br.1 (hI.fine.gr n (by omega))
    have g3:=g2 s (by rw[hI.fine.lr n (by omega)];exact h1)
    have nB:=(r7 g3).1 (by omega)
    obtain⟨_,_,hf,_⟩:=h.pivot hB (show n<m by omega) h1 (hI.enter (by omega)) (by grind)
    have hg:=(yb (x:=d.rows[n]!.k) (y:=eU d.rows[n]!.c[s]!) g1 (by rw[ob];exact g3) (by rw[ik];grind) (by rw[ik];exact hf)).1
    rw[ai (by rw[hg];simp)]
    split <;> exact NO _
theorem Ok.next(h:Ok M k0 d w m)(hB:Bd M k0 w m β){i s:Nat}(hn:nJ d=some (i,s)):Step d (gF d i s) w i s∧Ok M k0 (gF d i s) w m∧i<m∧s<w:=by
 have hI:=h.inv
 have hl:=h.len
 unfold nJ at hn
 cases he:kF d.gc with
 |none=>rw[he] at hn;cases hn
 |some s'=>
  rw[he] at hn
  dsimp only at hn
  cases hq:jy d.rows s' default d.rows.length with
  |none=>rw[hq] at hn;cases hn
  |some p=>
   rw[hq] at hn
   dsimp only at hn
   by_cases hp:p.1<0
   ·rw[ah hp] at hn;cases hn
   ·rw[ai hp] at hn
    injection hn with hn
    injection hn with e1 e2
    subst e2
    obtain⟨h1,h2,_⟩:=qg he
    rw[hI.fine.lg] at h1
    rcases pZ hq with h3|⟨i',hi,h3,h4,_⟩
    ·omega
    obtain rfl:i=i':=by omega
    have g3:=(br.1 (hI.fine.gr i (by omega))).2 s' (by rw[hI.fine.lr i (by omega)];exact h1)
    have nB:=(r7 g3).1 h4
    obtain⟨a1,a2,_⟩:=h.pivot hB (show i<m by omega) h1 (hI.enter (by omega)) (by grind)
    exact⟨⟨he,⟨p.2,by rw[hq,←h3]⟩,a1,rfl⟩,a2,by omega,h1⟩
theorem gW.pivotP {at' s:Nat}(h:gW d w at' s)(hp:d.piv<d.most):dX d at' s=(0,gF d at' s):=by
 obtain⟨h1,h2,h3⟩:=BP d at' s h.hat (by omega)
 have h4:=h3.2 ⟨h.fine.gg,fun i hi=>h.fine.gr i (by rw[ej];exact hi)⟩
 rw[←h1,←h4]
theorem Ok.nx(h:Ok M k0 d w m)(hB:Bd M k0 w m β):Ok M k0 (nx d) w m:=by
 unfold Go.Proofs.YtaedcknhkjpmlaaGreat.nx
 cases hn:nJ d with
 |none=>exact h
 |some p=>exact (h.next hB (i:=p.1) (s:=p.2) hn).2.1
theorem Ok.it(h:Ok M k0 d w m)(hB:Bd M k0 w m β):∀u,Ok M k0 (itD u d) w m
 |0=>h
 |u+1=>(h.it hB u).nx hB
theorem Dh.cnt {d':Dic}{i s:Nat}(h:Dh d d' w i s):cnt (Bas d') w=cnt (Bas d) w:=by
 have hr:=h.inv.rng i h.hi
 have e1:Go.Proofs.YtaedcknhkjpmlaaGreat.cnt (Bas d') w=Go.Proofs.YtaedcknhkjpmlaaGreat.cnt (fun t=>t=s∨(Bas d t∧d.rows[i]!.b≠(t:Int))) w:=yf fun t _=>h.bas t
 have e2:Go.Proofs.YtaedcknhkjpmlaaGreat.cnt (Bas d) w=Go.Proofs.YtaedcknhkjpmlaaGreat.cnt (fun t=>t=d.rows[i]!.b.toNat∨(Bas d t∧d.rows[i]!.b≠(t:Int))) w:=yf fun t _=>by
  constructor
  ·intro hb
   by_cases e:t=d.rows[i]!.b.toNat
   ·exact .inl e
   ·exact .inr ⟨hb,by omega⟩
  ·rintro (e|⟨hb,_⟩)
   ·exact⟨i,h.hi,by omega⟩
   ·exact hb
 rw[e1,e2,Jb (fun e=>h.ns e.1) h.hs,Jb (fun e=>e.2 (by omega)) (by omega)]
theorem Ok.stops(h:Ok M k0 d w m)(hB:Bd M k0 w m β)(hf:sY d){N:Nat}(hN:∀k,oy w k≤N):∃n,n<N∧nJ (itD n d)=none∧∀u,u<n→nJ (itD u d)≠none:=by
 have chain:∀n,(∀u,u<n→nJ (itD u d)≠none)→xQ (fun u=>itD u d) (fun u=>((nJ (itD u d)).getD (0,0)).1) (fun u=>((nJ (itD u d)).getD (0,0)).2) w n:=fun n hn=>by
  refine⟨fun u hu=>?_,fun u _=>(h.it hB u).inv,hf⟩
  cases hq:nJ (itD u d) with
  |none=>exact absurd hq (hn u hu)
  |some p=>
   have e:itD (u+1) d=gF (itD u d) p.1 p.2:=by
    show Go.Proofs.YtaedcknhkjpmlaaGreat.nx (itD u d)=_
    unfold Go.Proofs.YtaedcknhkjpmlaaGreat.nx
    rw[hq]
   dsimp only[Option.getD]
   rw[e]
   exact ((h.it hB u).next hB (i:=p.1) (s:=p.2) hq).1.toF
 have hex:∃n,n<N∧nJ (itD n d)=none:=by
  apply Fl
  intro M8
  have iW:∀u,u<N→nJ (itD u d)≠none:=fun u hu e=>M8 ⟨u,hu,e⟩
  have hc:=chain N iW
  have hcnt:∀u,u≤N→cnt (Bas (itD u d)) w=cnt (Bas d) w:=fun u=>by
   induction u with
   |zero=>intro _;rfl
   |succ u ih=>exact fun hu=>((hc.step u (by omega)).cnt).trans (ih (by omega))
  have:=MH N N (fun u=>A7 (Bas (itD u d)) w) (fun u _=>bM (DR _ _) (hN _)) fun a b Gn hb e=>by
   refine hc.bland Gn hb fun t=>?_
   by_cases ht:t<w
   ·exact Lu ((hcnt a (by omega)).trans (hcnt b hb).symm) e t ht
   ·exact⟨fun hh=>absurd ((hc.inv a (by omega)).bas hh).1 ht,fun hh=>absurd ((hc.inv b hb).bas hh).1 ht⟩
  omega
 obtain⟨n,hn,Gg⟩:=hex
 obtain⟨u,h1,h2,h3⟩:=least (f:=fun u=>nJ (itD u d)=none) Gg
 exact⟨u,by omega,h2,h3⟩
theorem Ok.feas1(h:Ok M k0 d w m)(hB:Bd M k0 w m β)(hf:sY d){i s:Nat}(hn:nJ d=some (i,s)):sY (gF d i s):=((h.next hB hn).1.toF.feas hf).1
theorem Ok.improveF(hB:Bd M k0 w m β):∀(n:Nat) (d:Dic) (f:Nat),Ok M k0 d w m→sY d→(∀u,u<n→nJ (itD u d)≠none)→nJ (itD n d)=none→d.piv+n≤d.most→n<f→
  ∃s d',ie f d=((s,0),d')∧Ok M k0 d' w m∧sY d'∧rI d d' w∧d'.piv=d.piv+n∧((s=-1∧∀t,t<w→rv d'.gc[t]!≤0)∨∃s':Nat,s=(s':Int)∧s'<w∧0<rv d'.gc[s']!∧∀i,i<m→0≤rv d'.rows[i]!.c[s']!)
 |0,d,f,h,hf,_,hn,hp,bO=>by
  obtain⟨f,rfl⟩:∃f',f=f'+1:=⟨f - 1,by omega⟩
  have hI:=h.inv
  have hl:=h.len
  have Pa:=(br.1 hI.fine.gg).2
  have hn:nJ d=none:=hn
  unfold nJ at hn
  unfold Go.Proofs.YtaedcknhkjpmlaaGreat.ie
  cases he:kF d.gc with
  |none=>
   refine⟨-1,d,rfl,h,hf,rI.refl d w,by omega,.inl ⟨rfl,fun t ht=>?_⟩⟩
   have h1:=Nq he (t:=t) (by rw[hI.fine.lg];exact ht)
   have h2:=KA (Pa t (by rw[hI.fine.lg];exact ht))
   grind
  |some s=>
   rw[he] at hn
   dsimp only at hn ⊢
   obtain⟨h1,h2,_⟩:=qg he
   have h2:=(KA (Pa s h1)).1 h2
   rw[hI.fine.lg] at h1
   cases hq:jy d.rows s default d.rows.length with
   |none=>exact absurd hq (by rw[hl];exact h.leav hB he default m (az _))
   |some p=>
    rw[hq] at hn
    dsimp only at hn ⊢
    by_cases hp0:p.1<0
    ·rw[ah hp0]
     refine⟨s,d,rfl,h,hf,rI.refl d w,by omega,.inr ⟨s,rfl,h1,h2,fun i hi=>?_⟩⟩
     have g3:=(br.1 (hI.fine.gr i (by omega))).2 s (by rw[hI.fine.lr i (by omega)];exact h1)
     by_cases hc:bE d.rows[i]!.c[s]! <0
     ·obtain⟨i',_,e,_⟩:=EB hI h1 (az _) hq i (by omega) hc
      omega
     ·have:=r7 g3
      grind
    ·rw[ai hp0] at hn;cases hn
 |n+1,d,f,h,hf,iW,hn,hp,bO=>by
  obtain⟨f,rfl⟩:∃f',f=f'+1:=⟨f - 1,by omega⟩
  have h0:nJ d≠none:=iW 0 (by omega)
  cases hq:nJ d with
  |none=>exact absurd hq h0
  |some p=>
   obtain⟨i,s⟩:=p
   obtain⟨Ho,hok,hi,hs⟩:=h.next hB hq
   have hf':=h.feas1 hB hf hq
   have rP:Go.Proofs.YtaedcknhkjpmlaaGreat.nx d=gF d i s:=by unfold Go.Proofs.YtaedcknhkjpmlaaGreat.nx;rw[hq]
   obtain⟨s',d',e1,e2,e3,e4,e5,e6⟩:=Ok.improveF hB n (gF d i s) f hok hf' (fun u hu=>by rw[←rP,←B7];exact iW (u+1) (by omega)) (by rw[←rP,←B7];exact hn) (by show d.piv+1+n≤d.most;omega) (by omega)
   refine⟨s',d',?_,e2,e3,Ho.good.same.trans e4,by rw[e5];show d.piv+1+(n:Int)=_;omega,e6⟩
   have Tg:=Ho.good.pivotP (by omega)
   unfold Go.Proofs.YtaedcknhkjpmlaaGreat.ie
   unfold nJ at hq
   cases he:kF d.gc with
   |none=>rw[he] at hq;cases hq
   |some s2=>
    rw[he] at hq
    dsimp only at hq ⊢
    cases hl:jy d.rows s2 default d.rows.length with
    |none=>rw[hl] at hq;cases hq
    |some p=>
     rw[hl] at hq
     dsimp only at hq ⊢
     by_cases hp0:p.1<0
     ·rw[ah hp0] at hq;cases hq
     ·rw[ai hp0] at hq ⊢
      injection hq with hq
      injection hq with q1 q2
      rw[q1,q2,Tg]
      exact e1
theorem Ok.improve(h:Ok M k0 d w m)(hB:Bd M k0 w m β)(hf:sY d){N:Nat}(hN:∀k,oy w k≤N)(hp:d.piv+N≤d.most):
  ∃s d',aV d=((s,0),d')∧Ok M k0 d' w m∧sY d'∧rI d d' w∧d'.piv≤d.piv+N∧((s=-1∧∀t,t<w→rv d'.gc[t]!≤0)∨∃s':Nat,s=(s':Int)∧s'<w∧0<rv d'.gc[s']!∧∀i,i<m→0≤rv d'.rows[i]!.c[s']!):=by
 obtain⟨n,h1,h2,h3⟩:=h.stops hB hf hN
 obtain⟨s,d',e1,e2,e3,e4,e5,e6⟩:=Ok.improveF hB n d ((d.most - d.piv).toNat+1) h hf h3 h2 (by omega) (by omega)
 exact⟨s,d',e1,e2,e3,e4,by omega,e6⟩
end
end
section
def BT:Nat:=131072
def KT:Nat:=2 ^ 132
def ZT:Nat:=2 ^ 154
structure Sz(m nn:Nat)(A B C:List Nu):Prop where
 m6:m≤6
 n5:nn≤5
 lA:A.length=m*nn
 lB:B.length=m
 lC:C.length=nn
 gA:∀i,i<m*nn→au A[i]! =true∧IsI (rv A[i]!) BT
 gB:∀i,i<m→au B[i]! =true∧IsI (rv B[i]!) BT
 gC:∀k,k<nn→au C[k]! =true∧IsI (rv C[k]!) BT
theorem L6 {m:Nat}(h:m≤6):Kf m BT≤KT:=by
 have:m=0∨m=1∨m=2∨m=3∨m=4∨m=5∨m=6:=by omega
 rcases this with rfl|rfl|rfl|rfl|rfl|rfl|rfl <;> exact bb rfl
theorem KT_lim:2*(KT*(KT*KT))<LIM:=bb rfl
theorem JH:2*(ZT*ZT)<LIM:=bb rfl
theorem Vf:ZT<LIM:=bb rfl
theorem Kf_lim {m:Nat}(h:m≤6):2*(Kf m BT*(Kf m BT*Kf m BT))<LIM:=by
 have h1:=L6 h
 have h2:=kL h1 (kL h1 h1)
 have h3:=KT_lim
 omega
theorem JR:1≤BT:=by decide
theorem u5(a:Nat)(f:Nat→Rat):∀b,aT (a+b) f=aT a f+aT b fun i=>f (a+i)
 |0=>by show aT a f=aT a f+0;grind
 |b+1=>by
  show aT (a+b) f+f (a+b)=aT a f+(aT b (fun i=>f (a+i))+f (a+b))
  rw[u5 a f b];grind
theorem sum3(m nn:Nat)(f:Nat→Rat):aT (1+nn+m) f=f 0+aT nn (fun k=>f (k+1))+aT m fun i=>f (1+nn+i):=by
 rw[u5 (1+nn) f m,u5 1 f nn]
 have:aT 1 f=f 0:=by show 0+f 0=f 0;grind
 rw[this,ay (f:=fun i=>f (1+i)) (g:=fun k=>f (k+1)) fun k _=>by rw[qR]]
theorem A1:∀{n:Nat} {f:Nat→Col},(∀r,r<n→f n r=0)→f n n=1→det (n+1) f=det n f
 |0,f,_,h1=>by
  show aT 0 _+sgd 0*(f 0 0*det 0 (kU f 0))=1
  rw[h1]
  show (0:Rat)+sgd 0*(1*1)=1
  unfold sgd
  rw[ah rfl]
  grind
 |n+1,f,h0,h1=>by
  show aT (n+1) (fun j=>sgd j*(f j 0*det (n+1) (kU f j)))+sgd (n+1)*(f (n+1) 0*det (n+1) (kU f (n+1)))=aT (n+1) fun j=>sgd j*(f j 0*det n (kU f j))
  rw[h0 0 (by omega),ay (g:=fun j=>sgd j*(f j 0*det n (kU f j))) fun j hj=>?_]
  ·grind
  ·have hs:skip j n=n+1:=ifn_
   rw[A1 (f:=kU f j) (n:=n)]
   ·intro r hr
    show f (skip j n) (r+1)=0
    rw[hs];exact h0 (r+1) (by omega)
   ·show f (skip j n) (n+1)=1
    rw[hs];exact h1
theorem Ux:∀n,det n (fun i r=>if i=r then 1 else 0)=1
 |0=>rfl
 |n+1=>by
  rw[A1 (fun r hr=>ifn_) (ah rfl)]
  exact Ux n
def Mq(q:QD):Nat→Col:=fun t r=>(if t=q.b r then 1 else 0) - q.c r t
theorem QOk.vi {q:QD}{m w:Nat}(h:QOk q m w):VI (Mq q) q.k q m w:=by
 have hM:∀i r,i<m→r<m→Mq q (q.b i) r=if i=r then 1 else 0:=fun i r hi hr=>by
  unfold Mq
  rw[h.z r i hr hi]
  by_cases e:i=r
  ·rw[ah e,ah (by rw[e])];grind
  ·rw[ai e,ai (fun e2=>e (h.inj i r hi hr e2))];grind
 have one:∀(f:Nat→Rat) r,r<m→aT m (fun i=>f i*Mq q (q.b i) r)=f r:=fun f r hr=>by
  rw[ay (g:=fun i=>if i=r then f r else 0) fun i hi=>?_,mv r _ m hr]
  rw[hM i r hi hr]
  by_cases e:i=r
  ·rw[ah e,ah e,e];grind
  ·rw[ai e,ai e];grind
 refine⟨fun r hr=>(one q.k r hr).symm,fun t ht Rt r hr=>?_,?_⟩
 ·rw[one (fun i=>q.c i t) r hr]
  unfold Mq
  rw[ai (fun e=>Rt r hr e.symm)];grind
 ·rw[uB (g:=fun i r=>if i=r then 1 else 0) fun i hi r hr=>hM i r hi hr,Ux]
  grind
theorem Inv.start {d:Dic}{w m:Nat}(h:Inv d w)(hl:d.rows.length=m)(hm:m≤6)(hk:∀i,i<m→IsI (rv d.rows[i]!.k) BT)(hgk:IsI (rv d.gk) BT)(hc:∀i t,i<m→t<w→IsI (rv d.rows[i]!.c[t]!) BT)(Pb:∀t,t<w→IsI (rv d.gc[t]!) BT):
  Ok (Mq (qd d w m)) (qd d w m).k d w m∧Bd (Mq (qd d w m)) (qd d w m).k w m BT∧(∀r,r<m→Mq (qd d w m) w r=0)∧Mq (qd d w m) w m=1:=by
 have hq:=h.qok hl
 have hC:∀r t,r<m+1→t<w+1→IsI ((qd d w m).c r t) BT:=fun r t hr ht=>by
  by_cases IM:t=w
  ·rw[IM,Ef];exact IsI.zero _
  ·rcases d9 r m with Hq|Hq
   ·rw[BM Hq (by omega)];exact hc r t Hq (by omega)
   ·obtain rfl:r=m:=by omega
    rw[CP (by omega)];exact Pb t (by omega)
 have hbw:∀r,r<m→(qd d w m).b r≠w:=fun r hr=>by
  have:=h.rng r (by omega)
  rw[Ay hr];omega
 refine⟨⟨h,hl,hq.vi⟩,⟨fun t ht r hr=>?_,fun r hr=>?_,Kf_lim hm⟩,fun r hr=>?_,?_⟩
 ·unfold Mq
  by_cases e:t=(qd d w m).b r
  ·rw[ah e,e,hq.z r r hr hr,show (1:Rat) - 0=1 by grind]
   exact IsI.one JR
  ·rw[ai e,show (0:Rat) - (qd d w m).c r t=-(qd d w m).c r t by grind]
   exact (hC r t hr ht).neg
 ·rcases d9 r m with Hq|Hq
  ·rw[Ee Hq];exact hk r Hq
  ·obtain rfl:r=m:=by omega
   rw[KD];exact hgk
 ·unfold Mq
  rw[ai (fun e=>hbw r hr e.symm),Ef];grind
 ·unfold Mq
  rw[pF,ah rfl,Ef];grind
section
variable {m nn:Nat} {A B C:List Nu} {most:Int}
theorem Sz.idx(_:Sz m nn A B C){i k:Nat}(hi:i<m)(hk:k<nn):i*nn+k<m*nn:=by
 calc i*nn+k<i*nn+nn:=by omega
  _=(i+1)*nn:=by rw[bP];omega
  _≤m*nn:=cz _ hi
theorem DN {i t:Nat}(hi:i<m)(ht:t<1+nn+m):(aH m nn A B most).rows[i]!.c[t]! =if 1≤t∧t≤nn then eU A[i*nn+(t - 1)]! else nOf 0:=by
 rw[e8 hi]
 exact cZ (bS _ ht)
theorem tA {i:Nat}(hi:i<m):(aH m nn A B most).rows[i]!.k=B[i]! :=by rw[e8 hi]
theorem Sz.inv(h:Sz m nn A B C):Inv (aH m nn A B most) (1+nn+m):=Hz h.lA h.lB (fun i hi=>(h.gA i (by rw[←h.lA];exact hi)).1) fun i hi=>(h.gB i (by rw[←h.lB];exact hi)).1
theorem Sz.intC(h:Sz m nn A B C){i t:Nat}(hi:i<m)(ht:t<1+nn+m):IsI (rv (aH m nn A B most).rows[i]!.c[t]!) BT:=by
 rw[DN hi ht]
 split
 ·rename_i h1
  rw[ik]
  exact (h.gA _ (h.idx hi (by omega))).2.neg
 ·rw[of0.2];exact IsI.zero _
def Eqs(m nn:Nat)(A B:List Nu)(x0:Rat)(y:Nat→Rat):Prop:=∀i,i<m→y (1+nn+i)=rv B[i]! - aT nn (fun k=>rv A[i*nn+k]! *y (k+1))+x0
theorem C5(x:Nu){i:Nat}(hi:i<m)(y:Nat→Rat):bU (1+nn+m) (aH m nn A B most).rows[i]!.k ((aH m nn A B most).rows[i]!.c.set 0 x) y=rv B[i]! - aT nn (fun k=>rv A[i*nn+k]! *y (k+1))+rv x*y 0:=by
 have hl:(aH m nn A B most).rows[i]!.c.length=1+nn+m:=by rw[e8 hi];simp
 unfold bU
 have hg:∀t,t<1+nn+m→((aH m nn A B most).rows[i]!.c.set 0 x)[t]! =if 0=t then x else (aH m nn A B most).rows[i]!.c[t]! :=fun t ht=>eJ (by omega)
 rw[sum3,tA hi,hg 0 (by omega),ah rfl]
 have e1:aT nn (fun k=>rv ((aH m nn A B most).rows[i]!.c.set 0 x)[k+1]! *y (k+1))=aT nn (fun k=>(-1)*(rv A[i*nn+k]! *y (k+1))):=ay fun k hk=>by
  rw[hg (k+1) (by omega),ifn_,DN hi (by omega),ifp_,ik,vL];grind
 have e2:aT m (fun j=>rv ((aH m nn A B most).rows[i]!.c.set 0 x)[1+nn+j]! *y (1+nn+j))=aT m (fun _=>0):=ay fun j hj=>by
  rw[hg (1+nn+j) (by omega),ifn_,DN hi (by omega),ifn_,of0.2];grind
 rw[e1,e2,fa,fB]
 grind
theorem Q5(y:Nat→Rat):Sol (aH m nn A B most) (1+nn+m) y↔Eqs m nn A B 0 y:=by
 have h:∀i,i<m→bU (1+nn+m) (aH m nn A B most).rows[i]!.k (aH m nn A B most).rows[i]!.c y=rv B[i]! - aT nn (fun k=>rv A[i*nn+k]! *y (k+1))+0:=fun i hi=>by
  have h1:=C5 (most:=most) (A:=A) (B:=B) (nn:=nn) (nOf 0) hi y
  have h2:(aH m nn A B most).rows[i]!.c.set 0 (nOf 0)=(aH m nn A B most).rows[i]!.c:=by
   have hl:(aH m nn A B most).rows[i]!.c.length=1+nn+m:=by rw[e8 hi];simp
   refine (nK (n:=1+nn+m) (f:=fun t=>(aH m nn A B most).rows[i]!.c[t]!) (by rw[c7];exact hl) fun t ht=>?_).trans (nK hl fun t ht=>rfl).symm
   rw[eJ (by omega)]
   split
   ·rename_i e
    rw[←e,DN hi (by omega),ifn_]
   ·rfl
  rw[h2,of0.2] at h1
  rw[h1];grind
 have hb:∀i,i<m→(aH m nn A B most).rows[i]!.b.toNat=1+nn+i:=fun i hi=>by rw[rS i hi];omega
 constructor
 ·intro hy i hi
  have:=hy i (by rw[jT];exact hi)
  rwa[hb i hi,h i hi] at this
 ·intro hy i hi
  rw[jT] at hi
  rw[hb i hi,h i hi]
  exact hy i hi
theorem pU {i:Nat}(hi:i<m):(cv (aH m nn A B most)).rows[i]! =uC (nOf 1) (aH m nn A B most).rows[i]! :=AH (by rw[jT];exact hi)
theorem uf:(cv (aH m nn A B most)).rows.length=m:=by
 show ((aH m nn A B most).rows.map _).length=m
 rw[bg,jT]
theorem G9(y:Nat→Rat):Sol (cv (aH m nn A B most)) (1+nn+m) y↔Eqs m nn A B (y 0) y:=by
 have h:∀i,i<m→bU (1+nn+m) (cv (aH m nn A B most)).rows[i]!.k (cv (aH m nn A B most)).rows[i]!.c y=rv B[i]! - aT nn (fun k=>rv A[i*nn+k]! *y (k+1))+y 0:=fun i hi=>by
  rw[pU hi]
  have:=C5 (most:=most) (A:=A) (B:=B) (nn:=nn) (nOf 1) hi y
  rw[of1.2] at this
  refine this.trans ?_
  grind
 have hb:∀i,i<m→(cv (aH m nn A B most)).rows[i]!.b.toNat=1+nn+i:=fun i hi=>by
  rw[pU hi]
  show (aH m nn A B most).rows[i]!.b.toNat=_
  rw[rS i hi];omega
 constructor
 ·intro hy i hi
  have:=hy i (by rw[uf];exact hi)
  rwa[hb i hi,h i hi] at this
 ·intro hy i hi
  rw[uf] at hi
  rw[hb i hi,h i hi]
  exact hy i hi
theorem Ky {t:Nat}(ht:t<1+nn+m):(cv (aH m nn A B most)).gc[t]! =if t=0 then nOf (-1) else nOf 0:=by
 show ((List.replicate (1+nn+m) (nOf 0)).set 0 (nOf (-1)))[t]! =_
 rw[eJ (by simpa using ht)]
 by_cases h:t=0
 ·rw[ah h,ah h.symm]
 ·rw[ai h,ai (fun e=>h e.symm),ju ht]
theorem zA(y:Nat→Rat):bU (1+nn+m) (cv (aH m nn A B most)).gk (cv (aH m nn A B most)).gc y=-y 0:=by
 unfold bU
 rw[ay (g:=fun t=>if t=0 then -y 0 else 0) fun t ht=>?_,mv 0 _ _ (by omega)]
 ·show rv (nOf 0)+_=_
  rw[of0.2];grind
 ·rw[Ky ht]
  by_cases h:t=0
  ·rw[ah h,ah h,ofm1.2,h];grind
  ·rw[ai h,ai h,of0.2];grind
theorem Sz.startInv(h:Sz m nn A B C):Inv (cv (aH m nn A B most)) (1+nn+m):=by
 have hI:=h.inv (most:=most)
 have h0:∀j,j<(aH m nn A B most).rows.length→(aH m nn A B most).rows[j]!.b≠0:=fun j hj=>by
  rw[jT] at hj
  rw[rS j hj];omega
 refine hI.col of1.1 (.inl h0) (by rw[c7];exact hI.fine.lg) (rI.fine hI ofm1.1 _ _ hI.fine.lg hI.fine.gg) (fun j hj=>?_) 0
 have:=hI.rng j hj
 have:=h0 j hj
 have:=hI.fine.lg
 rw[eJ (by omega),ifn_]
 exact hI.zg j hj
theorem Sz.firstOk(h:Sz m nn A B C):let d:=aH m nn A B most;Ok (Mq (qd d (1+nn+m) m)) (qd d (1+nn+m) m).k d (1+nn+m) m∧Bd (Mq (qd d (1+nn+m) m)) (qd d (1+nn+m) m).k (1+nn+m) m BT∧(∀r,r<m→Mq (qd d (1+nn+m) m) (1+nn+m) r=0)∧Mq (qd d (1+nn+m) m) (1+nn+m) m=1:=by
 refine h.inv.start jT h.m6 (fun i hi=>?_) ?_ (fun i t hi ht=>h.intC hi ht) (fun t ht=>?_)
 ·rw[tA hi];exact (h.gB i hi).2
 ·show IsI (rv (nOf 0)) BT
  rw[of0.2];exact IsI.zero _
 ·show IsI (rv (List.replicate (1+nn+m) (nOf 0))[t]!) BT
  rw[ju ht,of0.2];exact IsI.zero _
theorem Sz.startOk(h:Sz m nn A B C):let d:=cv (aH m nn A B most);Ok (Mq (qd d (1+nn+m) m)) (qd d (1+nn+m) m).k d (1+nn+m) m∧Bd (Mq (qd d (1+nn+m) m)) (qd d (1+nn+m) m).k (1+nn+m) m BT∧(∀r,r<m→Mq (qd d (1+nn+m) m) (1+nn+m) r=0)∧Mq (qd d (1+nn+m) m) (1+nn+m) m=1:=by
 refine h.startInv.start uf h.m6 (fun i hi=>?_) ?_ (fun i t hi ht=>?_) (fun t ht=>?_)
 ·rw[pU hi]
  show IsI (rv (aH m nn A B most).rows[i]!.k) BT
  rw[tA hi];exact (h.gB i hi).2
 ·show IsI (rv (nOf 0)) BT
  rw[of0.2];exact IsI.zero _
 ·rw[pU hi]
  show IsI (rv ((aH m nn A B most).rows[i]!.c.set 0 (nOf 1))[t]!) BT
  rw[eJ (by rw[e8 hi];simpa using ht)]
  split
  ·rw[of1.2];exact IsI.one JR
  ·exact h.intC hi ht
 ·rw[Ky ht]
  split
  ·rw[ofm1.2];exact (IsI.one JR).neg
  ·rw[of0.2];exact IsI.zero _
end
theorem OT {l:List Row}(hg:∀i,i<l.length→au l[i]!.k=true):∀n,n≤l.length→∀j,j<n→rv l[j7 l n]!.k≤rv l[j]!.k
 |0,_,j,hj=>by omega
 |n+1,hn,j,hj=>by
  have ih:=OT hg n (by omega)
  have bO:j7 l n<l.length:=by
   have:=AK l n
   omega
  obtain⟨_,_,c3,_⟩:=nP (hg n (by omega)) (hg (j7 l n) bO)
  unfold j7
  by_cases h:qH l[n]!.k l[j7 l n]!.k<0
  ·rw[ah h]
   have h2:=c3.1 h
   rcases d9 j n with t7|t7
   ·have:=ih j t7;grind
   ·obtain rfl:j=n:=by omega
    grind
  ·rw[ai h]
   rcases d9 j n with t7|t7
   ·exact ih j t7
   ·obtain rfl:j=n:=by omega
    have:¬rv l[j]!.k<rv l[j7 l j]!.k:=fun e=>h (c3.2 e)
    grind
section
variable {M:Nat→Col} {k0:Col} {d:Dic} {w m:Nat}
theorem Inv.bnon(h:Inv d w)(hf:sY d){t:Nat}:0≤Go.Proofs.YtaedcknhkjpmlaaGreat.nD d t:=by
 by_cases hb:Bas d t
 ·obtain⟨j,hj,e⟩:=hb
  have:=h.rng j hj
  have:=h.bsol_row hj
  rw[show d.rows[j]!.b.toNat=t by omega] at this
  rw[this];exact hf j hj
 ·rw[lO hb];exact Rat.le_refl
theorem Inv.bounded(hI:Inv d w)(hf:sY d)(hw:0<w){s:Nat}(hs:s<w)(hg:0<rv d.gc[s]!)(hc:∀i,i<d.rows.length→0≤rv d.rows[i]!.c[s]!)(tv:∀y,Sol d w y→bU w d.gk d.gc y=-y 0):False:=by
 have Ts:¬Bas d s:=fun hb=>by
  have:=(hI.bas hb).2.1
  rw[this,of0.2] at hg;grind
 have hgk:rv d.gk≤0:=by
  have h1:=tv _ hI.bsol
  rw[hI.bgoal] at h1
  have:=hI.bnon hf (t:=0)
  grind
 obtain⟨l,hl,hl0⟩:∃l:Rat,rv d.gc[s]! *l=1 - rv d.gk∧0≤l:=by
  refine⟨(1 - rv d.gk) / rv d.gc[s]!,?_,C7 (by grind) hg⟩
  rw[iS]
  have:=xw (rv d.gc[s]!) (by grind)
  grind
 obtain⟨y,hy,hv⟩:=hI.pick fun r=>if r=s then l else 0
 have Qz:y s=l:=by rw[hv s fun j hj e=>Ts ⟨j,hj,e⟩,ah rfl]
 have h0:∀t,t<w→¬Bas d t→t≠s→y t=0:=fun t _ hb rO=>by rw[hv t fun j hj e=>hb ⟨j,hj,e⟩,ai rO]
 obtain⟨h1,h2⟩:=hI.at hs Ts hy h0
 rw[tv y hy,Qz,hl] at h2
 have h3:0≤y 0:=by
  by_cases hb:Bas d 0
  ·obtain⟨j,hj,e⟩:=hb
   have:=h1 j hj
   rw[show d.rows[j]!.b.toNat=0 by omega,Qz] at this
   rw[this]
   have a:=Cu (hc j hj) hl0
   have b:=hf j hj
   grind
  ·by_cases hs0:0=s
   ·rw[hs0,Qz];exact hl0
   ·rw[h0 0 hw hb hs0];exact Rat.le_refl
 grind
end
section
variable {m nn:Nat} {A B C:List Nu} {most:Int}
theorem Sz.begin(h:Sz m nn A B C){i0:Nat}(hi0:i0<m)(nB:rv B[i0]! <0){N:Nat}(hN:∀k,oy (1+nn+m) k≤N)(K4:(N:Int)+10≤most):∃M k0 d',jU (aH m nn A B most)=(0,d')∧Ok M k0 d' (1+nn+m) m∧Bd M k0 (1+nn+m) m BT∧(∀r,r<m→M (1+nn+m) r=0)∧M (1+nn+m) m=1∧sY d'∧rI (cv (aH m nn A B most)) d' (1+nn+m)∧d'.piv≤N+2∧
  ((bE d'.gk<0∧∀t,t<1+nn+m→rv d'.gc[t]!≤0)∨(¬bE d'.gk<0∧∀j,j<m→d'.rows[j]!.b≠0)):=by
 obtain⟨hok,hB,Nj,RB⟩:=h.startOk (most:=most)
 generalize hMe:Mq (qd (cv (aH m nn A B most)) (1+nn+m) m)=M at hok hB Nj RB
 generalize hke:(qd (cv (aH m nn A B most)) (1+nn+m) m).k=k0 at hok hB
 have TA:(aH m nn A B most).rows.length=m:=jT
 have mR:=AK (aH m nn A B most).rows m
 have hat:j7 (aH m nn A B most).rows m<m:=by omega
 have EJ:=OT (l:=(aH m nn A B most).rows) (fun i hi=>by rw[TA] at hi;rw[tA hi];exact (h.gB i hi).1) m (by omega)
 generalize EM:j7 (aH m nn A B most).rows m=at' at hat EJ
 have sk:∀i,i<m→(cv (aH m nn A B most)).rows[i]!.k=B[i]! :=fun i hi=>by rw[pU hi];exact tA hi
 have sc:∀i,i<m→(cv (aH m nn A B most)).rows[i]!.c[0]! =nOf 1:=fun i hi=>by
  rw[pU hi]
  show ((aH m nn A B most).rows[i]!.c.set 0 (nOf 1))[0]! =_
  rw[eJ (by rw[e8 hi];simp;omega),ah rfl]
 have hmin':∀j,j<m→rv B[at']!≤rv B[j]! :=fun j hj=>by
  have:=EJ j hj
  rwa[tA hat,tA hj] at this
 have t6:∀j,j<(cv (aH m nn A B most)).rows.length→(cv (aH m nn A B most)).rows[j]!.b≠((0:Nat):Int):=fun j hj=>by
  rw[uf] at hj
  rw[pU hj]
  show (aH m nn A B most).rows[j]!.b≠_
  rw[rS j hj];omega
 obtain⟨hG,AO,_,TC⟩:=hok.pivot hB hat (show 0<1+nn+m by omega) t6 (by rw[sc at' hat,of1.2];grind)
 have jP:=hG.pivotP (show (0:Int)<most by omega)
 have Pd:sY (gF (cv (aH m nn A B most)) at' 0):=fun i hi=>by
  rw[ej,uf] at hi
  rw[TC i hi,sk at' hat,sc at' hat,of1.2,sk i hi]
  have e1:=hmin' i hi
  have e2:=hmin' i0 hi0
  have e3:-rv B[at']! / 1=-rv B[at']! :=by rw[iS];have:=xw (1:Rat) (by grind);grind
  split
  ·rw[e3];grind
  ·rw[e3,sc i hi,of1.2];grind
 have QZ:rI (cv (aH m nn A B most)) (gF (cv (aH m nn A B most)) at' 0) (1+nn+m):=hG.same
 have hpv1:(gF (cv (aH m nn A B most)) at' 0).piv=1:=rfl
 have hmo1:(gF (cv (aH m nn A B most)) at' 0).most=most:=rfl
 generalize DI:gF (cv (aH m nn A B most)) at' 0=d1 at AO jP Pd QZ hpv1 hmo1
 obtain⟨s,d3,e1,K2,Pc,hS3,hpv3,K6⟩:=AO.improve hB Pd hN (by omega)
 have hS:rI (cv (aH m nn A B most)) d3 (1+nn+m):=QZ.trans hS3
 have tv:∀y,Sol d3 (1+nn+m) y→bU (1+nn+m) d3.gk d3.gc y=-y 0:=fun y hy=>by
  rw[hS.goal y ((hS.sol y).1 hy)];exact zA y
 have Q1:=K2.inv
 have hl3:=K2.len
 have Pa:=(br.1 Q1.fine.gg)
 have hend2:s=-1∧∀t,t<1+nn+m→rv d3.gc[t]!≤0:=by
  rcases K6 with e|⟨s',_,a2,a3,a4⟩
  ·exact e
  ·exact (Q1.bounded Pc (by omega) a2 a3 (fun i hi=>a4 i (by omega)) tv).elim
 unfold jU
 rw[TA,EM]
 dsimp only
 rw[jP]
 dsimp only
 rw[ai (by simp),e1]
 dsimp only
 by_cases hgn:bE d3.gk<0
 ·rw[ah (.inr hgn)]
  exact⟨M,k0,d3,rfl,K2,hB,Nj,RB,Pc,hS,by omega,.inl ⟨hgn,hend2.2⟩⟩
 ·rw[ai (by simp;omega)]
  have hgk0:rv d3.gk=0:=by
   have h1:=tv _ Q1.bsol
   rw[Q1.bgoal] at h1
   have h2:=Q1.bnon Pc (t:=0)
   have h3:¬rv d3.gk<0:=fun e=>hgn ((r7 Pa.1).2 e)
   grind
  rcases rT d3.rows 0 with⟨h5,h6⟩|⟨i,h5,h6,h7⟩
  ·rw[ah (by rw[h5];decide)]
   exact⟨M,k0,d3,rfl,K2,hB,Nj,RB,Pc,hS,by omega,.inr ⟨hgn,fun j hj=>h6 j (by omega)⟩⟩
  ·rw[ifn_,h6,show ((i:Int)).toNat=i by omega]
   -- r4 row of 0 has r4 constant 0
   have hki:rv d3.rows[i]!.k=0:=by
    have h1:=tv _ Q1.bsol
    rw[Q1.bgoal,hgk0] at h1
    have h2:=Q1.bsol_row h5
    rw[h7] at h2
    rw[←h2]
    show nD d3 0=0
    grind
   have hli:=Q1.fine.lr i h5
   have JY:=(br.1 (Q1.fine.gr i h5)).2
   cases hz:yK d3.rows[i]!.c with
   |none=>
    exfalso
    have hzz:∀t,t<1+nn+m→d3.rows[i]!.c[t]! =nOf 0:=fun t ht=>by
     unfold yK at hz
     have:=vH.1 hz d3.rows[i]!.c[t] (n7 (by omega))
     refine good0 (JY t (by omega)) ?_
     rw[bT _ t (by omega)]
     simpa using this
    -- numbers with y 0=1 fit r4 start
    obtain⟨y,hy,hy0⟩:∃y,Sol (cv (aH m nn A B most)) (1+nn+m) y∧y 0=1:=by
     refine⟨fun t=>if t=0 then 1 else if t<1+nn then 0 else rv B[t - (1+nn)]! +1,(G9 _).2 fun j hj=>?_,ah rfl⟩
     rw[ifn_,ifn_,ah rfl,show 1+nn+j - (1+nn)=j by omega,ay (g:=fun _=>0) fun k hk=>?_,fa]
     ·grind
     ·rw[ifn_,ifp_];grind
    have h1:=(hS.sol y).2 hy i h5
    rw[h7] at h1
    have h2:bU (1+nn+m) d3.rows[i]!.k d3.rows[i]!.c y=0:=by
     unfold bU
     rw[ay (g:=fun _=>0) fun t ht=>by rw[hzz t ht,of0.2];grind,fa,hki]
     grind
    rw[h2] at h1
    have h3:y 0=0:=h1
    rw[hy0] at h3
    grind
   |some s2=>
    dsimp only
    obtain⟨z1,z2,_⟩:=ph.1 hz
    have z2:bE d3.rows[i]!.c[s2]!≠0:=by rw[bT _ s2 z1];simpa using z2
    have Mk:s2<1+nn+m:=by omega
    have fS:rv d3.rows[i]!.c[s2]!≠0:=fun e=>z2 ((At (JY s2 z1)).2 e)
    obtain⟨hG4,hok4,_,hk4⟩:=K2.pivot hB (show i<m by omega) Mk (Q1.rowNz h5 z2) fS
    have hmost3:d3.most=most:=hS.most
    have hp4:=hG4.pivotP (by omega)
    rw[hp4]
    have hS4:=hS.trans hG4.same
    have hz0:-rv d3.rows[i]!.k / rv d3.rows[i]!.c[s2]! =0:=by rw[hki,iS];grind
    have Mo:∀j,j<m→(gF d3 i s2).rows[j]!.b≠0:=fun j hj=>by
     rw[pW (by omega)]
     have hs20:s2≠0:=fun e=>by
      have:=Q1.zr i i h5 h5
      rw[h7] at this
      rw[e] at fS
      exact fS (by rw[show d3.rows[i]!.c[0]! =nOf 0 from this];exact of0.2)
     split
     ·omega
     ·rename_i Ab
      intro e
      exact Ab (Q1.inj j i (by omega) h5 (by rw[e,h7]))
    have hf4:sY (gF d3 i s2):=fun j hj=>by
     rw[ej] at hj
     rw[hk4 j (by omega),hz0]
     split
     ·exact Rat.le_refl
     ·have:=Pc j hj
      grind
    have hgk4:rv (gF d3 i s2).gk=0:=by
     have h1:=hS4.goal _ ((hS4.sol _).1 hok4.inv.bsol)
     rw[hok4.inv.bgoal,zA,lO (fun⟨j,hj,e⟩=>Mo j (by rw[ej] at hj;omega) (by rw[e];rfl))] at h1
     rw[h1];grind
    refine⟨M,k0,gF d3 i s2,rfl,hok4,hB,Nj,RB,hf4,hS4,by show d3.piv+1≤_;omega,.inr ⟨fun e=>?_,Mo⟩⟩
    have:=(r7 (br.1 hok4.inv.fine.gg).1).1 e
    rw[hgk4] at this
    grind
end
end
section
theorem addK_ok {q x l:Nu}(hq:au q=true)(hx:au x=true)(hl:au l=true)(p1:Pq ZT (rv l))(p2:Pq ZT (rv q*rv x)):au (xG q x l)=true∧rv (xG q x l)=rv l+rv q*rv x:=by
 unfold xG
 by_cases h0:bE q=0
 ·rw[ah h0,(At hq).1 h0]
  exact⟨hl,by grind⟩
 ·rw[ai h0]
  obtain⟨g1,g2⟩:=rR hq hx (p2.fit Vf)
  obtain⟨g3,g4⟩:=og hl g1 p1 (by rw[g2];exact p2) JH
  exact⟨g3,by rw[g4,g2]⟩
theorem addC_ok {q:Nu}{xc lc:List Nu}{w:Nat}(hlc:lc.length=w)(hq:au q=true)(hx:∀t,t<w→au xc[t]! =true)(hl:∀t,t<w→au lc[t]! =true)(p1:∀t,t<w→Pq ZT (rv lc[t]!))(p2:∀t,t<w→Pq ZT (rv q*rv xc[t]!)):∀t,t<w→au (uI q xc (-1) lc)[t]! =true∧rv (uI q xc (-1) lc)[t]! =rv lc[t]! +rv q*rv xc[t]! :=by
 intro t ht
 unfold uI
 by_cases h0:bE q=0
 ·rw[ah h0,(At hq).1 h0]
  exact⟨hl t ht,by grind⟩
 ·rw[ai h0,DS _ _ _ _ t (by omega),ifp_]
  obtain⟨g1,g2⟩:=rR hq (hx t ht) ((p2 t ht).fit Vf)
  obtain⟨g3,g4⟩:=og (hl t ht) g1 (p1 t ht) (by rw[g2];exact p2 t ht) JH
  exact⟨g3,by rw[g4,g2]⟩
def gT(C:List Nu)(k t:Nat):Rat:=if 1≤t∧t≤k then rv C[t - 1]! else 0
theorem I0 {C:List Nu}{k t:Nat}:gT C (k+1) t=gT C k t+if t=k+1 then rv C[k]! else 0:=by
 unfold gT
 by_cases h:t=k+1
 ·rw[ah h,ifp_,ifn_,h,vL];grind
 ·rw[ai h]
  by_cases h2:1≤t∧t≤k
  ·rw[ah h2,ifp_];grind
  ·rw[ai h2,ifn_];grind
theorem Uc {C:List Nu}{k t:Nat}(h:t≠k+1):gT C (k+1) t=gT C k t:=by rw[I0,ai h];grind
section
variable {M:Nat→Col} {k0:Col} {d:Dic} {w m nn:Nat} {C:List Nu}
open Classical in
structure AimI(l:List Row)(w m:Nat)(C:List Nu)(bas:Nat→Prop)(k:Nat)(g:Nu×List Nu):Prop where
 len:g.2.length=w
 g1:au g.1=true
 v1:rv g.1=aT m fun i=>gT C k l[i]!.b.toNat*rv l[i]!.k
 g2:∀t,t<w→au g.2[t]! =true
 v2:∀t,t<w→rv g.2[t]! =(if bas t then 0 else gT C k t)+aT m fun i=>gT C k l[i]!.b.toNat*rv l[i]!.c[t]!
 sol:∀y:Nat→Rat,(∀i,i<m→y l[i]!.b.toNat=bU w l[i]!.k l[i]!.c y)→bU w g.1 g.2 y=aT k fun j=>rv C[j]! *y (j+1)
theorem LP {l:List Row}{D:Rat}(hl:l.length=m)(hm:m≤6)(QH:nn+1≤w)(hlen:∀i,i<m→l[i]!.c.length=w)(hgk:∀i,i<m→au l[i]!.k=true)(Pb:∀i t,i<m→t<w→au l[i]!.c[t]! =true)(hb:∀i,i<m→0≤l[i]!.b∧l[i]!.b<w)
  (uu:∀i j,i<m→j<m→l[i]!.b=l[j]!.b→i=j) (J0:D≠0) (hD:IsI D KT) (hDk:∀i,i<m→Dn D KT (rv l[i]!.k)) (hDc:∀i t,i<m→t<w→Dn D KT (rv l[i]!.c[t]!)) (gC:∀k,k<nn→au C[k]! =true∧IsI (rv C[k]!) BT):
  ∀k,k≤nn→AimI l w m C (fun t=>∃j,j<m∧l[j]!.b=(t:Int)) k (gQ l w C k)
 |0,_=>by
  have e0:∀t,gT C 0 t=0:=fun t=>by unfold gT;rw[ifn_]
  refine⟨by simp[gQ],of0.1,?_,fun t ht=>?_,fun t ht=>?_,fun y _=>?_⟩
  ·rw[ay (g:=fun _=>0) fun i _=>by rw[e0];grind,fa];exact of0.2
  ·show au (List.replicate w (nOf 0))[t]! =true
   rw[ju ht];exact of0.1
  ·rw[ay (g:=fun _=>0) fun i _=>by rw[e0];grind,fa,e0]
   show rv (List.replicate w (nOf 0))[t]! =_
   rw[ju ht,of0.2]
   split <;> grind
  ·show bU w (nOf 0) (List.replicate w (nOf 0)) y=0
   unfold bU
   rw[ay (g:=fun _=>0) fun t ht=>by rw[ju ht,of0.2];grind,fa,of0.2];grind
 |k+1,hk=>by
  have ih:=LP hl hm QH hlen hgk Pb hb uu J0 hD hDk hDc gC k (by omega)
  obtain⟨q1,q2⟩:=gC k (by omega)
  have hZ:m*(BT*KT)+KT*BT≤ZT:=by
   have:m*(BT*KT)≤6*(BT*KT):=cz _ hm
   have h2:6*(BT*KT)+KT*BT≤ZT:=bb rfl
   omega
  have hZ2:KT≤ZT:=bb rfl
  have hZ3:BT*KT≤ZT:=bb rfl
  have RC:IsI D ZT:=hD.mono hZ2
  have gI:∀t,IsI (gT C k t) BT:=fun t=>by
   unfold gT
   split
   ·exact (gC _ (by omega)).2
   ·exact IsI.zero _
  have pk:Pq ZT (rv (gQ l w C k).1):=by
   rw[ih.v1]
   refine Dn.pq RC J0 ((Dn.sum (K:=BT*KT) fun i hi=>Dn.int (gI _) (hDk i hi)).mono (by omega))
  have pc:∀t,t<w→Pq ZT (rv (gQ l w C k).2[t]!):=fun t ht=>by
   rw[ih.v2 t ht]
   refine Dn.pq RC J0 ((Dn.add (K:=KT*BT) ?_ (Dn.sum (K:=BT*KT) fun i hi=>Dn.int (gI _) (hDc i t hi ht))).mono (by omega))
   split
   ·exact Dn.zero _ _
   ·exact Dn.of hD (gI t)
  unfold gQ
  dsimp only
  generalize hG:gQ l w C k=g at ih pk pc ⊢
  rcases rT l ((k+1:Nat):Int) with⟨h5,h6⟩|⟨j,h5,h6,h7⟩
  ·rw[ifn_]
   have t6:∀i,i<m→l[i]!.b.toNat≠k+1:=fun i hi e=>h6 i (by omega) (by have:=hb i hi;omega)
   have hs:∀f:Nat→Rat,aT m (fun i=>gT C (k+1) l[i]!.b.toNat*f i)=aT m fun i=>gT C k l[i]!.b.toNat*f i:=fun f=>ay fun i hi=>by rw[Uc (t6 i hi)]
   have hkw:k+1<w:=by omega
   obtain⟨a1,a2⟩:=og (ih.g2 (k+1) hkw) q1 (pc (k+1) hkw) (Dn.pq RC J0 ((Dn.of hD q2).mono (by omega))) JH
   have fq:∀t,t<w→(g.2.set (k+1) (jw g.2[k+1]! C[k]!))[t]! =if k+1=t then jw g.2[k+1]! C[k]! else g.2[t]! :=fun t ht=>eJ (by rw[ih.len];exact ht)
   refine⟨by dsimp only;rw[c7];exact ih.len,ih.g1,by rw[hs];exact ih.v1,fun t ht=>?_,fun t ht=>?_,fun y hy=>?_⟩
   ·dsimp only
    rw[fq t ht]
    split
    ·exact a1
    ·exact ih.g2 t ht
   ·dsimp only
    rw[fq t ht,hs]
    by_cases e:k+1=t
    ·rw[ah e,a2,ih.v2 (k+1) hkw,←e]
     have hn:¬∃j,j<m∧l[j]!.b=((k+1:Nat):Int):=fun⟨j,hj,e⟩=>h6 j (by omega) e
     rw[ai hn,ai hn,I0,ah rfl];grind
    ·rw[ai e,ih.v2 t ht,Uc (fun e2=>e e2.symm)]
   ·dsimp only
    show _=aT k (fun j=>rv C[j]! *y (j+1))+rv C[k]! *y (k+1)
    rw[←ih.sol y hy]
    unfold bU
    rw[ay (g:=fun t=>if t=k+1 then (rv g.2[k+1]! +rv C[k]!)*y (k+1) else rv g.2[t]! *y t) fun t ht=>?_,w4 _ _ _ hkw]
    ·grind
    ·rw[fq t ht]
     by_cases e:k+1=t
     ·rw[ah e,ah e.symm,a2,e]
     ·rw[ai e,ai (fun e2=>e e2.symm)]
  ·rw[ifp_,h6,show ((j:Int)).toNat=j by omega]
   have hj:j<m:=by omega
   have Pg:l[j]!.b.toNat=k+1:=by omega
   have hs:∀f:Nat→Rat,aT m (fun i=>gT C (k+1) l[i]!.b.toNat*f i)=aT m (fun i=>gT C k l[i]!.b.toNat*f i)+rv C[k]! *f j:=fun f=>by
    rw[←mv j (rv C[k]! *f j) m hj,←lH (fun i=>gT C k l[i]!.b.toNat*f i)]
    refine ay fun i hi=>?_
    rw[I0]
    by_cases e:i=j
    ·rw[ah e,ah (by rw[e];exact Pg),e];grind
    ·rw[ai e,ai (fun e2=>e (uu i j hi hj (by have:=hb i hi;omega)))];grind
   obtain⟨a1,a2⟩:=addK_ok q1 (hgk j hj) ih.g1 pk (Dn.pq RC J0 ((Dn.int q2 (hDk j hj)).mono hZ3))
   have ac:=addC_ok ih.len q1 (fun t ht=>Pb j t hj ht) ih.g2 pc (fun t ht=>Dn.pq RC J0 ((Dn.int q2 (hDc j t hj ht)).mono hZ3))
   refine⟨by dsimp only;rw[uH];exact ih.len,a1,by rw[hs];dsimp only;rw[a2,ih.v1],fun t ht=>(ac t ht).1,fun t ht=>?_,fun y hy=>?_⟩
   ·dsimp only
    rw[(ac t ht).2,ih.v2 t ht,hs]
    by_cases e:∃j,j<m∧l[j]!.b=(t:Int)
    ·rw[ah e,ah e];grind
    ·rw[ai e,ai e,Uc (fun e2=>e ⟨j,hj,by omega⟩)];grind
   ·show _=aT k (fun j=>rv C[j]! *y (j+1))+rv C[k]! *y (k+1)
    have:=hy j hj
    rw[Pg] at this
    rw[←ih.sol y hy,this]
    unfold bU
    dsimp only
    rw[a2,ay (g:=fun t=>rv g.2[t]! *y t+rv C[k]! *(rv l[j]!.c[t]! *y t)) fun t ht=>by rw[(ac t ht).2];grind,lH (fun t=>rv g.2[t]! *y t),fB]
    grind
theorem Ok.aim(h:Ok M k0 d w m)(hB:Bd M k0 w m BT)(hm:m≤6)(Nj:∀r,r<m→M w r=0)(RB:M w m=1)(Mo:∀j,j<m→d.rows[j]!.b≠0)(QH:nn+1≤w)(hC:C.length=nn)(gC:∀k,k<nn→au C[k]! =true∧IsI (rv C[k]!) BT):
  ∃M2 k2,mZ d C=(0,m4 d C)∧Ok M2 k2 (m4 d C) w m∧Bd M2 k2 w m BT∧(∀y,Sol (m4 d C) w y↔Sol d w fun t=>if t=0 then 0 else y t)∧(∀y,Sol (m4 d C) w y→bU w (m4 d C).gk (m4 d C).gc y=aT nn fun k=>rv C[k]! *y (k+1))∧(sY d→sY (m4 d C)):=by
 have hI:=h.inv
 have hl:=h.len
 obtain⟨D,b0,b1,b2,b3,b4,b5⟩:=h.bound hB
 have hKf:=L6 hm
 obtain⟨l,hle⟩:∃l,l=d.rows.map (uC (nOf 0)):=⟨_,rfl⟩
 have M9:l.length=m:=by rw[hle,bg];exact hl
 have lget:∀i,i<m→l[i]! =uC (nOf 0) d.rows[i]! :=fun i hi=>by rw[hle];exact AH (by omega)
 have lk:∀i,i<m→l[i]!.k=d.rows[i]!.k:=fun i hi=>by rw[lget i hi];rfl
 have lb:∀i,i<m→l[i]!.b=d.rows[i]!.b:=fun i hi=>by rw[lget i hi];rfl
 have lcl:∀i,i<m→l[i]!.c.length=w:=fun i hi=>by
  rw[lget i hi]
  show (d.rows[i]!.c.set 0 (nOf 0)).length=w
  rw[c7];exact hI.fine.lr i (by omega)
 have lc:∀i t,i<m→t<w→l[i]!.c[t]! =if 0=t then nOf 0 else d.rows[i]!.c[t]! :=fun i t hi ht=>by
  rw[lget i hi]
  show (d.rows[i]!.c.set 0 (nOf 0))[t]! =_
  exact eJ (by rw[hI.fine.lr i (by omega)];exact ht)
 have K0:∀i,i<m→0≤l[i]!.b∧l[i]!.b<w:=fun i hi=>by rw[lb i hi];exact hI.rng i (by omega)
 have uu:∀i j,i<m→j<m→l[i]!.b=l[j]!.b→i=j:=fun i j hi hj e=>hI.inj i j (by omega) (by omega) (by rw[←lb i hi,←lb j hj];exact e)
 have gc:∀i t,i<m→t<w→au l[i]!.c[t]! =true:=fun i t hi ht=>by
  rw[lc i t hi ht]
  split
  ·exact of0.1
  ·exact (br.1 (hI.fine.gr i (by omega))).2 t (by rw[hI.fine.lr i (by omega)];exact ht)
 have gk:∀i,i<m→au l[i]!.k=true:=fun i hi=>by rw[lk i hi];exact (br.1 (hI.fine.gr i (by omega))).1
 have dk:∀i,i<m→Dn D KT (rv l[i]!.k):=fun i hi=>by rw[lk i hi];exact (b2 i hi).mono hKf
 have dc:∀i t,i<m→t<w→Dn D KT (rv l[i]!.c[t]!):=fun i t hi ht=>by
  rw[lc i t hi ht]
  split
  ·rw[of0.2];exact Dn.zero _ _
  ·exact (b4 i t hi ht).mono hKf
 have A:=LP M9 hm QH lcl gk gc K0 uu b0 (b1.mono hKf) dk dc gC nn (az _)
 have hz:=LO (c:=C) (w:=w) (l:=l) (fun i hi=>lcl i (by omega)) (fun i hi=>K0 i (by omega)) (fun i j hi hj=>by
  have CW:j<m:=by omega
  have wE:i<m:=by omega
  have:=K0 j CW
  rw[lc i _ wE (by omega)]
  split
  ·rfl
  ·rw[lb j CW];exact hI.zr i j (by omega) (by omega)) (fun i hi=>(gC i (by omega)).1) nn (by omega)
 have yR:m4 d C=⟨l,(gQ l w C nn).1,(gQ l w C nn).2,d.n,d.piv,d.most⟩:=by unfold m4;rw[hI.fine.lg,←hle,hC]
 obtain⟨g,hg⟩:∃g,g=gQ l w C nn:=⟨_,rfl⟩
 rw[←hg] at A hz yR
 have O8:gl g.1 g.2=true:=br.2 ⟨A.g1,fun i hi=>A.g2 i (by rw[←A.len];exact hi)⟩
 have hI2:Inv (m4 d C) w:=by
  rw[yR,hle]
  exact hI.col of0.1 (.inr rfl) A.len O8 (fun j hj=>by have:=hz.2 j (by omega);rwa[lb j (by omega)] at this) d.piv
 have Gj:(m4 d C).rows.length=m:=by rw[yR];exact M9
 have Av:(m4 d C).rows=l:=by rw[yR]
 have qb:∀i,i<m→(qd (m4 d C) w m).b i=(qd d w m).b i:=fun i hi=>by rw[Ay hi,Ay hi,Av,lb i hi]
 have qbw:∀i,i<m→(qd d w m).b i<w∧(qd d w m).b i≠0:=fun i hi=>by
  have h1:=hI.rng i (by omega)
  have h2:=Mo i hi
  rw[Ay hi];omega
 obtain⟨M2,hM2⟩:∃M2:Nat→Col,∀t r,M2 t r=if r<m then (if t=0 then 0 else M t r) else if t=w then 1 else -gT C nn t:=⟨fun t r=>if r<m then (if t=0 then 0 else M t r) else if t=w then 1 else -gT C nn t,fun _ _=>rfl⟩
 obtain⟨k2,zK⟩:∃k2:Col,∀r,k2 r=if r<m then k0 r else 0:=⟨fun r=>if r<m then k0 r else 0,fun _=>rfl⟩
 have hMw:∀r,r<m→M2 w r=0:=fun r hr=>by
  rw[hM2,ah hr]
  split
  ·rfl
  ·exact Nj r hr
 have gI:∀t,IsI (gT C nn t) BT:=fun t=>by
  unfold gT
  split
  ·exact (gC _ (by omega)).2
  ·exact IsI.zero _
 have hMb:∀i r,i<m→r<m→M2 ((qd d w m).b i) r=M ((qd d w m).b i) r:=fun i r hi hr=>by rw[hM2,ah hr,ai (qbw i hi).2]
 have hMm:∀i,i<m→M2 ((qd d w m).b i) m=-gT C nn l[i]!.b.toNat:=fun i hi=>by
  rw[hM2,ai (qj _),ai (by have:=(qbw i hi).1;omega),Ay hi,lb i hi]
 have vi2:VI M2 k2 (qd (m4 d C) w m) (m+1) (w+1):=by
  refine⟨fun r hr=>?_,fun t ht Rt r hr=>?_,?_⟩
  ·show k2 r=aT m (fun i=>(qd (m4 d C) w m).k i*M2 ((qd (m4 d C) w m).b i) r)+(qd (m4 d C) w m).k m*M2 ((qd (m4 d C) w m).b m) r
   rw[pF,KD]
   rcases d9 r m with Hq|Hq
   ·have h1:k0 r=aT m (fun i=>(qd d w m).k i*M ((qd d w m).b i) r)+(qd d w m).k m*M ((qd d w m).b m) r:=h.vi.k r hr
    rw[pF,Nj r Hq] at h1
    rw[zK,ah Hq,h1,hMw r Hq,ay (f:=fun i=>(qd (m4 d C) w m).k i*M2 ((qd (m4 d C) w m).b i) r) (g:=fun i=>(qd d w m).k i*M ((qd d w m).b i) r) fun i hi=>by rw[qb i hi,hMb i r hi Hq,Ee hi,Ee hi,Av,lk i hi],sL,sL]
   ·obtain rfl:r=m:=by omega
    rw[zK,ai (qj _),hM2,ai (qj _),ah rfl,ay (g:=fun i=>(-1)*(gT C nn l[i]!.b.toNat*rv l[i]!.k)) fun i hi=>by rw[qb i hi,hMm i hi,Ee hi,Av];grind,fB]
    have e:rv (m4 d C).gk=rv g.1:=by rw[yR]
    rw[e,A.v1];grind
  ·show -M2 t r=aT m (fun i=>(qd (m4 d C) w m).c i t*M2 ((qd (m4 d C) w m).b i) r)+(qd (m4 d C) w m).c m t*M2 ((qd (m4 d C) w m).b m) r
   have IM:t≠w:=fun e=>Rt m (by omega) (by rw[pF,e])
   have yP:t<w:=by omega
   have hnt':∀j,j<m→(qd d w m).b j≠t:=fun j hj e=>Rt j (by omega) (by rw[qb j hj];exact e)
   rw[pF,CP yP]
   rcases d9 r m with Hq|Hq
   ·have h1:-M t r=aT m (fun i=>(qd d w m).c i t*M ((qd d w m).b i) r)+(qd d w m).c m t*M ((qd d w m).b m) r:=h.vi.c t ht (fun j hj e=>by
     rcases d9 j m with Mm|Mm
     ·exact hnt' j Mm e
     ·obtain rfl:j=m:=by omega
      rw[pF] at e;exact IM e.symm) r hr
    rw[pF,Nj r Hq] at h1
    rw[hMw r Hq]
    by_cases ht0:t=0
    ·rw[hM2,ah Hq,ah ht0,ay (g:=fun _=>0) fun i hi=>by rw[BM hi yP,Av,lc i t hi yP,ah ht0.symm,of0.2];grind,fa]
     grind
    ·rw[hM2,ah Hq,ai ht0,h1,ay (f:=fun i=>(qd (m4 d C) w m).c i t*M2 ((qd (m4 d C) w m).b i) r) (g:=fun i=>(qd d w m).c i t*M ((qd d w m).b i) r) fun i hi=>by rw[qb i hi,hMb i r hi Hq,BM hi yP,BM hi yP,Av,lc i t hi yP,ai (fun e=>ht0 e.symm)],sL,sL]
   ·obtain rfl:r=m:=by omega
    rw[hM2 w,ai (qj _),ah rfl,hM2 t,ai (qj _),ai IM,ay (g:=fun i=>(-1)*(gT C nn l[i]!.b.toNat*rv l[i]!.c[t]!)) fun i hi=>by rw[qb i hi,hMm i hi,BM hi yP,Av];grind,fB]
    have e:rv (m4 d C).gc[t]! =rv g.2[t]! :=by rw[yR]
    have hn:¬∃j,j<r∧l[j]!.b=(t:Int):=fun⟨j,hj,e⟩=>hnt' j hj (by rw[Ay hj,←lb j hj,e];rfl)
    rw[e,A.v2 t yP,ai hn];grind
  ·have hv:=h.vi.nz
   rw[A1 (fun r hr=>by rw[pF];exact Nj r hr) (by rw[pF];exact RB)] at hv
   rw[A1 (fun r hr=>by rw[pF];exact hMw r hr) (by rw[pF,hM2,ai (qj _),ah rfl]),uB (g:=fun i=>M ((qd d w m).b i)) fun i hi r hr=>by rw[qb i hi,hMb i r hi hr]]
   exact hv
 refine⟨M2,k2,?_,⟨hI2,Gj,vi2⟩,⟨fun t ht r hr=>?_,fun r hr=>?_,hB.lim⟩,fun y=>?_,fun y hy=>?_,fun hf i hi=>?_⟩
 ·unfold mZ
  rw[ah (by rw[yR];exact O8)]
 ·rw[hM2]
  split
  ·split
   ·exact IsI.zero _
   ·exact hB.ent t ht r hr
  ·split
   ·exact IsI.one JR
   ·exact (gI t).neg
 ·rw[zK]
  split
  ·exact hB.con r hr
  ·exact IsI.zero _
 ·have hw:∀i,i<m→bU w l[i]!.k l[i]!.c y=bU w d.rows[i]!.k d.rows[i]!.c fun t=>if t=0 then 0 else y t:=fun i hi=>by
   unfold bU
   rw[lk i hi]
   congr 1
   refine ay fun t ht=>?_
   rw[lc i t hi ht]
   dsimp only
   by_cases e:t=0
   ·rw[ah e,ah e.symm,of0.2,sL,Jr]
   ·rw[ai e,ai (fun e2=>e e2.symm)]
  have hbn:∀i,i<m→d.rows[i]!.b.toNat≠0:=fun i hi=>by
   have h1:=hI.rng i (by omega)
   have h2:=Mo i hi
   omega
  unfold Sol
  rw[Av,M9,hl]
  constructor
  ·intro hy i hi
   have:=hy i hi
   rw[hw i hi,lb i hi] at this
   dsimp only
   rw[ai (hbn i hi)]
   exact this
  ·intro hy i hi
   have:=hy i hi
   dsimp only at this
   rw[ai (hbn i hi)] at this
   rw[hw i hi,lb i hi]
   exact this
 ·have:=A.sol y fun i hi=>by have:=hy i (by omega);rwa[Av] at this
  rw[yR]
  exact this
 ·rw[Gj] at hi
  rw[Av,lk i hi]
  exact hf i (by omega)
end
end
section
theorem Oq {c x:List Nu}{D:Rat}(hn:c.length≤6)(gc:∀i,i<c.length→au c[i]! =true)(gx:∀i,i<c.length→au x[i]! =true)(J0:D≠0)(hD:IsI D KT)(hp:∀i,i<c.length→Dn D (BT*KT) (rv c[i]! *rv x[i]!)):∀n,n≤c.length→au (oT c x n)=true∧rv (oT c x n)=aT n fun i=>rv c[i]! *rv x[i]!
 |0,_=>of0
 |n+1,Tw=>by
  obtain⟨i1,i2⟩:=Oq hn gc gx J0 hD hp n (by omega)
  have hZ2:KT≤ZT:=bb rfl
  have hZ3:BT*KT≤ZT:=bb rfl
  have hZ:n*(BT*KT)≤ZT:=by
   have:n*(BT*KT)≤6*(BT*KT):=cz _ (by omega)
   have h2:6*(BT*KT)≤ZT:=bb rfl
   omega
  have RC:IsI D ZT:=hD.mono hZ2
  have p2:=Dn.pq RC J0 ((hp n (by omega)).mono hZ3)
  obtain⟨g1,g2⟩:=rR (gc n (by omega)) (gx n (by omega)) (p2.fit Vf)
  obtain⟨g3,g4⟩:=og i1 g1 (by rw[i2];exact Dn.pq RC J0 ((Dn.sum fun i hi=>hp i (by omega)).mono hZ)) (by rw[g2];exact p2) JH
  exact⟨g3,by
   show rv (jw (oT c x n) (lX c[n]! x[n]!))=_
   rw[g4,g2,i2];rfl⟩
theorem qE {c x:List Nu}{D:Rat}(hl:c.length=x.length)(hn:c.length≤6)(gc:∀i,i<c.length→au c[i]! =true)(gx:∀i,i<c.length→au x[i]! =true)(J0:D≠0)(hD:IsI D KT)(hp:∀i,i<c.length→Dn D (BT*KT) (rv c[i]! *rv x[i]!)):au (cj c x)=true∧rv (cj c x)=aT c.length fun i=>rv c[i]! *rv x[i]! :=by
 unfold cj
 rw[ah hl]
 exact Oq hn gc gx J0 hD hp _ (az _)
theorem Ss {l:List Nu}{n:Nat}(hl:l.length=n)(h:∀i,i<n→au l[i]! =true∧0≤rv l[i]!):Iq l n=true:=by
 unfold Iq
 rw[bK]
 refine⟨aB hl,a7.2 fun x hx=>?_⟩
 obtain⟨i,hi,rfl⟩:=xy.1 hx
 have h1:=h i (by omega)
 rw[bT l i hi] at h1
 rw[bK]
 refine⟨h1.1,aB ?_⟩
 have h2:=r7 h1.1
 have:¬bE l[i]<0:=fun e=>by have:=h2.1 e;grind
 omega
section
variable {m nn:Nat} {A B C x y b c:List Nu} {D:Rat}
theorem zT(hs:Sz m nn A B C)(hx:x.length=nn)(gx:∀k,k<nn→au x[k]! =true∧0≤rv x[k]!)(J0:D≠0)(hD:IsI D KT)(dx:∀k,k<nn→Dn D KT (rv x[k]!))(hb:b.length=m)(gb:∀i,i<m→au b[i]! =true)(hle:∀i,i<m→aT nn (fun k=>rv A[i*nn+k]! *rv x[k]!)≤rv b[i]!):kH m nn A x b=true:=by
 unfold kH
 rw[bK]
 refine⟨Ss hx gx,?_⟩
 unfold xq
 rw[a7]
 intro i hi
 have hi:=iq.1 hi
 rw[hb] at hi
 have hlen:(jt A nn i).length=nn:=by
  by_cases h0:nn=0
  ·subst h0;unfold jt;simp
  ·exact (qG hs.lA hi (k:=0) (by omega)).1
 have hn5:=hs.n5
 have fq:∀k,k<nn→(jt A nn i)[k]! =A[i*nn+k]! :=fun k hk=>(qG hs.lA hi hk).2
 obtain⟨v1,v2⟩:=qE (c:=jt A nn i) (x:=x) (by omega) (by omega) (fun k hk=>by rw[fq k (by omega)];exact (hs.gA _ (hs.idx hi (by omega))).1) (fun k hk=>(gx k (by omega)).1) J0 hD fun k hk=>by
  rw[fq k (by omega)]
  exact Dn.int (hs.gA _ (hs.idx hi (by omega))).2 (dx k (by omega))
 rw[bK]
 refine⟨v1,aB ?_⟩
 rw[(nP v1 (gb i hi)).1,v2,hlen,ay fun k hk=>by rw[fq k hk]]
 exact hle i hi
theorem Hd(hs:Sz m nn A B C)(hy:y.length=m)(gy:∀i,i<m→au y[i]! =true∧0≤rv y[i]!)(J0:D≠0)(hD:IsI D KT)(dy:∀i,i<m→Dn D KT (rv y[i]!))(hc:c.length=nn)(gc:∀k,k<nn→au c[k]! =true)(hle:∀k,k<nn→rv c[k]!≤aT m (fun i=>rv A[i*nn+k]! *rv y[i]!)):qr m nn A y c=true:=by
 unfold qr
 rw[bK]
 refine⟨Ss hy gy,?_⟩
 unfold xq
 rw[a7]
 intro k hk
 have hk:=iq.1 hk
 rw[hc] at hk
 have hm6:=hs.m6
 have hlen:(rE A m nn k).length=m:=by simp[rE]
 have fq:∀i,i<m→(rE A m nn k)[i]! =A[i*nn+k]! :=fun i hi=>A6 hi
 obtain⟨v1,v2⟩:=qE (c:=rE A m nn k) (x:=y) (by omega) (by omega) (fun i hi=>by rw[fq i (by omega)];exact (hs.gA _ (hs.idx (by omega) hk)).1) (fun i hi=>(gy i (by omega)).1) J0 hD fun i hi=>by
  rw[fq i (by omega)]
  exact Dn.int (hs.gA _ (hs.idx (by omega) hk)).2 (dy i (by omega))
 rw[bK]
 refine⟨v1,aB ?_⟩
 rw[(nP v1 (gc k hk)).2.1,v2,hlen,ay fun i hi=>by rw[fq i hi]]
 exact hle k hk
def yOf(m nn:Nat)(A B:List Nu)(v:Nat→Rat)(t:Nat):Rat:=if t=0 then 0 else if t<1+nn then v (t - 1) else rv B[t - (1+nn)]! - aT nn fun k=>rv A[(t - (1+nn))*nn+k]! *v k
theorem RF {v:Nat→Rat}{k:Nat}(hk:k<nn):yOf m nn A B v (k+1)=v k:=by
 unfold yOf
 rw[ifn_,ifp_,vL]
theorem yOf_i {v:Nat→Rat}{i:Nat}:yOf m nn A B v (1+nn+i)=rv B[i]! - aT nn fun k=>rv A[i*nn+k]! *v k:=by
 unfold yOf
 rw[ifn_,ifn_,show 1+nn+i - (1+nn)=i by omega]
theorem On(v:Nat→Rat):Eqs m nn A B 0 (yOf m nn A B v):=fun i hi=>by
 rw[yOf_i,ay (f:=fun k=>rv A[i*nn+k]! *yOf m nn A B v (k+1)) (g:=fun k=>rv A[i*nn+k]! *v k) fun k hk=>by rw[RF hk]]
 grind
theorem dual {gk:Nu}{gc:List Nu}{cc:Nat→Rat}(h:∀v:Nat→Rat,bU (1+nn+m) gk gc (yOf m nn A B v)=aT nn fun k=>cc k*v k):rv gk=aT m (fun i=>-rv gc[1+nn+i]! *rv B[i]!)∧∀k,k<nn→cc k=rv gc[k+1]! +aT m fun i=>rv A[i*nn+k]! *-rv gc[1+nn+i]! :=by
 have hw:∀v:Nat→Rat,rv gk+(aT nn (fun k=>rv gc[k+1]! *v k)+aT m fun i=>rv gc[1+nn+i]! *(rv B[i]! - aT nn fun k=>rv A[i*nn+k]! *v k))=aT nn fun k=>cc k*v k:=fun v=>by
  rw[←h v]
  unfold bU
  rw[sum3,ay (f:=fun k=>rv gc[k+1]! *yOf m nn A B v (k+1)) (g:=fun k=>rv gc[k+1]! *v k) fun k hk=>by rw[RF hk],ay (f:=fun i=>rv gc[1+nn+i]! *yOf m nn A B v (1+nn+i)) (g:=fun i=>rv gc[1+nn+i]! *(rv B[i]! - aT nn fun k=>rv A[i*nn+k]! *v k)) fun i _=>by rw[yOf_i]]
  have:yOf m nn A B v 0=0:=ah rfl
  rw[this,sL,Rat.zero_add]
 have z:∀f:Nat→Rat,aT nn (fun k=>f k*(0:Rat))=0:=fun f=>by rw[ay (g:=fun _=>0) fun k _=>sL _,fa]
 have one:∀(f:Nat→Rat) (j:Nat),j<nn→aT nn (fun k=>f k*(if k=j then 1 else 0:Rat))=f j:=fun f j hj=>by
  rw[ay (g:=fun k=>if k=j then f j else 0) fun k _=>?_,mv j _ nn hj]
  by_cases e:k=j
  ·rw[ah e,ah e,e,Rat.mul_one]
  ·rw[ai e,ai e,sL]
 have h0:=hw fun _=>0
 rw[z,z,ay (f:=fun i=>rv gc[1+nn+i]! *(rv B[i]! - aT nn fun k=>rv A[i*nn+k]! *0)) (g:=fun i=>(-1)*(-rv gc[1+nn+i]! *rv B[i]!)) fun i _=>by rw[z];grind,fB] at h0
 refine⟨by grind,fun k hk=>?_⟩
 have h1:=hw fun j=>if j=k then 1 else 0
 rw[one _ k hk,one _ k hk,ay (f:=fun i=>rv gc[1+nn+i]! *(rv B[i]! - aT nn fun j=>rv A[i*nn+j]! *(if j=k then 1 else 0:Rat))) (g:=fun i=>(-1)*(-rv gc[1+nn+i]! *rv B[i]!)+rv A[i*nn+k]! *-rv gc[1+nn+i]!) fun i _=>by rw[one _ k hk];grind,lH (fun i=>(-1)*(-rv gc[1+nn+i]! *rv B[i]!)),fB] at h1
 grind
end
section
variable {m nn:Nat} {A B C:List Nu} {M:Nat→Col} {k0:Col} {d:Dic}
theorem zF(h:Inv d (1+nn+m)):(bY d nn).length=m∧∀i,i<m→(bY d nn)[i]! =eU d.gc[1+nn+i]! :=by
 have hl:=h.fine.lg
 refine⟨by unfold bY;rw[bg,fh];omega,fun i hi=>cZ ?_⟩
 unfold bY
 rw[dW,nQ,show nn+1+i=1+nn+i by omega,uz (by omega)]
 rfl
theorem Ko(l:List Row)(of':Row→Nu)(other:Nat→Nu){k:Nat}(hk:k<nn):(∃j,j<l.length∧l[j]!.b=((k+1:Nat):Int)∧(cU l nn of' other)[k]! =of' l[j]!)∨((∀j,j<l.length→l[j]!.b≠((k+1:Nat):Int))∧(cU l nn of' other)[k]! =other (k+1)):=by
 have e:(cU l nn of' other)[k]! =if 0≤dJ l ((k+1:Nat):Int) then of' l[(dJ l ((k+1:Nat):Int)).toNat]! else other (k+1):=cZ (bS _ hk)
 rcases rT l ((k+1:Nat):Int) with⟨h1,h2⟩|⟨i,h1,h2,h3⟩
 ·rw[h1,ai (by decide)] at e
  exact .inr ⟨h2,e⟩
 ·rw[h2,ifp_,show ((i:Int)).toNat=i by omega] at e
  exact .inl ⟨i,h1,h3,e⟩
theorem Aq(l:List Row)(of':Row→Nu)(other:Nat→Nu):(cU l nn of' other).length=nn:=by unfold cU;simp
theorem Ok.vals(h:Ok M k0 d (1+nn+m) m)(hB:Bd M k0 (1+nn+m) m BT)(hm:m≤6)(hf:sY d):∃D:Rat,D≠0∧IsI D KT∧∀k,k<nn→(au (cU d.rows nn Row.k fun _=>nOf 0)[k]! =true∧0≤rv (cU d.rows nn Row.k fun _=>nOf 0)[k]!)∧Dn D KT (rv (cU d.rows nn Row.k fun _=>nOf 0)[k]!)∧rv (cU d.rows nn Row.k fun _=>nOf 0)[k]! =nD d (k+1):=by
 obtain⟨D,b0,b1,b2,b3,b4,b5⟩:=h.bound hB
 have hK:=L6 hm
 have hl:=h.len
 refine⟨D,b0,b1.mono hK,fun k hk=>?_⟩
 rcases Ko d.rows Row.k (fun _=>nOf 0) hk with⟨j,hj,e,e2⟩|⟨e,e2⟩
 ·rw[e2]
  refine⟨⟨(br.1 (h.inv.fine.gr j hj)).1,hf j hj⟩,(b2 j (by omega)).mono hK,?_⟩
  have:=h.inv.bsol_row hj
  rw[e] at this
  exact this.symm
 ·rw[e2,of0.2]
  exact⟨⟨of0.1,Rat.le_refl⟩,Dn.zero _ _,(lO fun⟨j,hj,e3⟩=>e j hj e3).symm⟩
theorem Ok.prices(h:Ok M k0 d (1+nn+m) m)(hB:Bd M k0 (1+nn+m) m BT)(hm:m≤6)(hg:∀t,t<1+nn+m→rv d.gc[t]!≤0):∃D:Rat,D≠0∧IsI D KT∧∀i,i<m→(au (bY d nn)[i]! =true∧0≤rv (bY d nn)[i]!)∧Dn D KT (rv (bY d nn)[i]!)∧rv (bY d nn)[i]! =-rv d.gc[1+nn+i]! :=by
 obtain⟨D,b0,b1,b2,b3,b4,b5⟩:=h.bound hB
 have hK:=L6 hm
 refine⟨D,b0,b1.mono hK,fun i hi=>?_⟩
 rw[(zF h.inv).2 i hi,ob,ik]
 have h1:=hg (1+nn+i) (by omega)
 exact⟨⟨(br.1 h.inv.fine.gg).2 _ (by rw[h.inv.fine.lg];omega),by grind⟩,((b5 _ (by omega)).mono hK).neg,rfl⟩
theorem best_ok(hs:Sz m nn A B C)(h:Ok M k0 d (1+nn+m) m)(hB:Bd M k0 (1+nn+m) m BT)(hf:sY d)(iF:∀y,Sol d (1+nn+m) y↔Eqs m nn A B 0 y)(tv:∀y,Sol d (1+nn+m) y→bU (1+nn+m) d.gk d.gc y=aT nn fun k=>rv C[k]! *y (k+1))(hg:∀t,t<1+nn+m→rv d.gc[t]!≤0):
  ln m nn A B C ⟨1,cU d.rows nn Row.k fun _=>nOf 0,bY d nn,[]⟩=true:=by
 obtain⟨D,d0,d1,hx⟩:=h.vals hB hs.m6 hf
 obtain⟨E,e0,e1,hy⟩:=h.prices hB hs.m6 hg
 have hlC:=hs.lC
 have hn5:=hs.n5
 have hm6:=hs.m6
 have JX:=(zF h.inv).1
 obtain⟨du1,du2⟩:=dual (A:=A) (B:=B) (gk:=d.gk) (gc:=d.gc) (cc:=fun k=>rv C[k]!) fun v=>by
  rw[tv _ ((iF _).2 (On v))]
  exact ay fun k hk=>by rw[RF hk]
 have hbe:=(iF _).1 h.inv.bsol
 have hal:kH m nn A (cU d.rows nn Row.k fun _=>nOf 0) B=true:=by
  refine zT hs (Aq _ _ _) (fun k hk=>(hx k hk).1) d0 d1 (fun k hk=>(hx k hk).2.1) hs.lB (fun i hi=>(hs.gB i hi).1) fun i hi=>?_
  have h1:=hbe i hi
  have h2:=h.inv.bnon hf (t:=1+nn+i)
  rw[ay fun k hk=>by rw[(hx k hk).2.2]]
  grind
 have M5:qr m nn A (bY d nn) C=true:=by
  refine Hd hs JX (fun i hi=>(hy i hi).1) e0 e1 (fun i hi=>(hy i hi).2.1) hlC (fun k hk=>(hs.gC k hk).1) fun k hk=>?_
  have h1:=du2 k hk
  have h2:=hg (k+1) (by omega)
  rw[ay fun i hi=>by rw[(hy i hi).2.2]]
  grind
 obtain⟨v1,v2⟩:=qE (c:=C) (x:=cU d.rows nn Row.k fun _=>nOf 0) (by rw[Aq];exact hlC) (by omega) (fun k hk=>(hs.gC k (by omega)).1) (fun k hk=>(hx k (by omega)).1.1) d0 d1 fun k hk=>Dn.int (hs.gC k (by omega)).2 (hx k (by omega)).2.1
 obtain⟨w1,w2⟩:=qE (c:=bY d nn) (x:=B) (by rw[hs.lB];exact JX) (by omega) (fun i hi=>(hy i (by omega)).1.1) (fun i hi=>(hs.gB i (by omega)).1) e0 e1 fun i hi=>by
  rw[Js]
  exact Dn.int (hs.gB i (by omega)).2 (hy i (by omega)).2.1
 have heq:cj C (cU d.rows nn Row.k fun _=>nOf 0)=cj (bY d nn) B:=by
  refine ES v1 w1 ?_
  have h1:=tv _ h.inv.bsol
  rw[h.inv.bgoal] at h1
  rw[v2,w2,hlC,JX,ay (f:=fun i=>rv (bY d nn)[i]! *rv B[i]!) (g:=fun i=>-rv d.gc[1+nn+i]! *rv B[i]!) fun i hi=>by rw[(hy i hi).2.2],←du1,h1]
  exact ay fun k hk=>by rw[(hx k hk).2.2]
 unfold ln
 rw[ah rfl]
 dsimp only
 rw[hal,M5,v1,←heq]
 simp
theorem none_ok(hs:Sz m nn A B C)(h:Ok M k0 d (1+nn+m) m)(hB:Bd M k0 (1+nn+m) m BT)(iF:∀y,Sol d (1+nn+m) y↔Eqs m nn A B (y 0) y)(tv:∀y,Sol d (1+nn+m) y→bU (1+nn+m) d.gk d.gc y=-y 0)(hg:∀t,t<1+nn+m→rv d.gc[t]!≤0)(hk:bE d.gk<0):
  ln m nn A B C ⟨2,[],bY d nn,[]⟩=true:=by
 obtain⟨E,e0,e1,hy⟩:=h.prices hB hs.m6 hg
 have hm6:=hs.m6
 have JX:=(zF h.inv).1
 have xY:=(r7 (br.1 h.inv.fine.gg).1).1 hk
 have y00:∀v,yOf m nn A B v 0=0:=fun v=>ah rfl
 obtain⟨du1,du2⟩:=dual (A:=A) (B:=B) (gk:=d.gk) (gc:=d.gc) (cc:=fun _=>0) fun v=>by
  rw[tv _ ((iF _).2 (by rw[y00];exact On v)),y00,ay (g:=fun _=>0) fun k _=>Jr _,fa]
  grind
 have M5:qr m nn A (bY d nn) (List.replicate nn (nOf 0))=true:=by
  refine Hd hs JX (fun i hi=>(hy i hi).1) e0 e1 (fun i hi=>(hy i hi).2.1) (sS ..) (fun k hk=>by rw[ju hk];exact of0.1) fun k hk=>?_
  have h1:=du2 k hk
  have h2:=hg (k+1) (by omega)
  rw[ju hk,of0.2,ay fun i hi=>by rw[(hy i hi).2.2]]
  grind
 obtain⟨w1,w2⟩:=qE (c:=bY d nn) (x:=B) (by rw[hs.lB];exact JX) (by omega) (fun i hi=>(hy i (by omega)).1.1) (fun i hi=>(hs.gB i (by omega)).1) e0 e1 fun i hi=>by
  rw[Js]
  exact Dn.int (hs.gB i (by omega)).2 (hy i (by omega)).2.1
 have hv:rv (cj (bY d nn) B)=rv d.gk:=by rw[w2,JX,ay fun i hi=>by rw[(hy i hi).2.2],←du1]
 have JW:bE (cj (bY d nn) B)=-1:=by
  rw[pX w1,hv]
  exact vK (Er.2 xY)
 unfold ln oU
 rw[ai (show ¬(2:Int)=1 by decide),ah rfl]
 dsimp only
 rw[M5,w1,JW]
 simp
theorem ray_ok(hs:Sz m nn A B C)(h:Ok M k0 d (1+nn+m) m)(hB:Bd M k0 (1+nn+m) m BT)(hf:sY d)(iF:∀y,Sol d (1+nn+m) y↔Eqs m nn A B 0 y)(tv:∀y,Sol d (1+nn+m) y→bU (1+nn+m) d.gk d.gc y=aT nn fun k=>rv C[k]! *y (k+1)){s:Nat}(hsw:s<1+nn+m)(hg:0<rv d.gc[s]!)(hc:∀i,i<m→0≤rv d.rows[i]!.c[s]!):
  ln m nn A B C ⟨3,cU d.rows nn Row.k fun _=>nOf 0,[],cU d.rows nn (fun r=>r.c[s]!) fun v=>if (v:Int)=(s:Int) then nOf 1 else nOf 0⟩=true:=by
 have hI:=h.inv
 have hl:=h.len
 obtain⟨D,d0,d1,hx⟩:=h.vals hB hs.m6 hf
 obtain⟨E,b0,b1,b2,b3,b4,b5⟩:=h.bound hB
 have hK:=L6 hs.m6
 have hlC:=hs.lC
 have hn5:=hs.n5
 have Ts:¬Bas d s:=fun hb=>by
  have:=(hI.bas hb).2.1
  rw[this,of0.2] at hg;grind
 -- numbers that fit,with r4 variable raised by 1
 obtain⟨y,hy,hv⟩:=hI.pick fun r=>if r=s then 1 else 0
 have Qz:y s=1:=by rw[hv s fun j hj e=>Ts ⟨j,hj,e⟩,ah rfl]
 have hy0:∀t,¬Bas d t→t≠s→y t=0:=fun t hb rO=>by rw[hv t fun j hj e=>hb ⟨j,hj,e⟩,ai rO]
 obtain⟨h1,h2⟩:=hI.at hsw Ts hy fun t _ hb rO=>hy0 t hb rO
 have hdel:∀t,0≤y t - nD d t:=fun t=>by
  by_cases hb:Bas d t
  ·obtain⟨j,hj,e⟩:=hb
   have e1:=h1 j hj
   have e2:=hI.bsol_row hj
   rw[show d.rows[j]!.b.toNat=t by omega] at e1 e2
   have:=hc j (by omega)
   rw[e1,e2,Qz];grind
  ·rw[lO hb]
   by_cases rO:t=s
   ·rw[rO,Qz];grind
   ·rw[hy0 t hb rO];grind
 have hr:∀k,k<nn→au (cU d.rows nn (fun r=>r.c[s]!) fun v=>if (v:Int)=(s:Int) then nOf 1 else nOf 0)[k]! =true∧Dn E KT (rv (cU d.rows nn (fun r=>r.c[s]!) fun v=>if (v:Int)=(s:Int) then nOf 1 else nOf 0)[k]!)∧rv (cU d.rows nn (fun r=>r.c[s]!) fun v=>if (v:Int)=(s:Int) then nOf 1 else nOf 0)[k]! =y (k+1) - nD d (k+1):=fun k hk=>by
  rcases Ko d.rows (fun r=>r.c[s]!) (fun v=>if (v:Int)=(s:Int) then nOf 1 else nOf 0) hk with⟨j,hj,e,e2⟩|⟨e,e2⟩
  ·rw[e2]
   refine⟨(br.1 (hI.fine.gr j hj)).2 s (by rw[hI.fine.lr j hj];exact hsw),(b4 j s (by omega) hsw).mono hK,?_⟩
   have e1:=h1 j hj
   have e3:=hI.bsol_row hj
   rw[show d.rows[j]!.b.toNat=k+1 by omega] at e1 e3
   rw[e1,e3,Qz];grind
  ·rw[e2]
   have hb:¬Bas d (k+1):=fun⟨j,hj,e3⟩=>e j hj e3
   rw[lO hb]
   by_cases rO:k+1=s
   ·rw[ifp_,rO,Qz,of1.2]
    exact⟨of1.1,(Dn.of b1 (IsI.one (az 1))).mono (by omega),by grind⟩
   ·rw[ifn_,hy0 _ hb rO,of0.2]
    exact⟨of0.1,Dn.zero _ _,by grind⟩
 generalize hray:(cU d.rows nn (fun r=>r.c[s]!) fun v=>if (v:Int)=(s:Int) then nOf 1 else nOf 0)=ray at hr ⊢
 have hrl:ray.length=nn:=by rw[←hray,Aq]
 have hbe:=(iF _).1 hI.bsol
 have hye:=(iF _).1 hy
 have hal:kH m nn A (cU d.rows nn Row.k fun _=>nOf 0) B=true:=by
  refine zT hs (Aq _ _ _) (fun k hk=>(hx k hk).1) d0 d1 (fun k hk=>(hx k hk).2.1) hs.lB (fun i hi=>(hs.gB i hi).1) fun i hi=>?_
  have h1:=hbe i hi
  have h2:=hI.bnon hf (t:=1+nn+i)
  rw[ay fun k hk=>by rw[(hx k hk).2.2]]
  grind
 have har:kH m nn A ray (List.replicate m (nOf 0))=true:=by
  refine zT hs hrl (fun k hk=>⟨(hr k hk).1,by rw[(hr k hk).2.2];exact hdel _⟩) b0 (b1.mono hK) (fun k hk=>(hr k hk).2.1) (sS ..) (fun i hi=>by rw[ju hi];exact of0.1) fun i hi=>?_
  have h1:=hbe i hi
  have h2:=hye i hi
  have h3:=hdel (1+nn+i)
  rw[ju hi,of0.2,ay (g:=fun k=>rv A[i*nn+k]! *y (k+1) - rv A[i*nn+k]! *nD d (k+1)) fun k hk=>by rw[(hr k hk).2.2];grind,ue (fun k=>rv A[i*nn+k]! *y (k+1))]
  grind
 obtain⟨v1,v2⟩:=qE (c:=C) (x:=ray) (by omega) (by omega) (fun k hk=>(hs.gC k (by omega)).1) (fun k hk=>(hr k (by omega)).1) b0 (b1.mono hK) fun k hk=>Dn.int (hs.gC k (by omega)).2 (hr k (by omega)).2.1
 have hpos:0<rv (cj C ray):=by
  rw[v2,hlC,ay (g:=fun k=>rv C[k]! *y (k+1) - rv C[k]! *nD d (k+1)) fun k hk=>by rw[(hr k hk).2.2];grind,ue (fun k=>rv C[k]! *y (k+1)),←tv y hy,←tv _ hI.bsol,hI.bgoal,h2,Qz]
  grind
 have JW:bE (cj C ray)=1:=by
  rw[pX v1]
  exact sM (KH.2 hpos)
 unfold ln oU
 rw[ai (show ¬(3:Int)=1 by decide),ai (show ¬(3:Int)=2 by decide),ah rfl]
 dsimp only
 rw[hal,har,v1,JW]
 simp
theorem Ul(hs:Sz m nn A B C)(h:Ok M k0 d (1+nn+m) m)(hB:Bd M k0 (1+nn+m) m BT)(Nj:∀r,r<m→M (1+nn+m) r=0)(RB:M (1+nn+m) m=1)(Mo:∀j,j<m→d.rows[j]!.b≠0)(hf:sY d)(iF:∀y,y 0=0→(Sol d (1+nn+m) y↔Eqs m nn A B 0 y)){N:Nat}(hN:∀k,oy (1+nn+m) k≤N)(hp:d.piv+N≤d.most):
  ∃a n,wH nn d C=(a,n,0)∧ln m nn A B C a=true∧d.piv≤n∧n≤d.piv+N∧a.kind≠2:=by
 obtain⟨M2,k2,e1,hok,hB2,Mk,EN,Dq⟩:=h.aim hB hs.m6 Nj RB Mo (show nn+1≤1+nn+m by omega) hs.lC hs.gC
 have Tg:(m4 d C).piv=d.piv∧(m4 d C).most=d.most:=⟨rfl,rfl⟩
 obtain⟨s,d3,e2,K2,Pc,hS3,hpv3,K6⟩:=hok.improve hB2 (Dq hf) hN (by rw[Tg.1,Tg.2];exact hp)
 have hsol3:∀y,Sol d3 (1+nn+m) y↔Eqs m nn A B 0 y:=fun y=>by
  rw[hS3.sol y,Mk y,iF _ (ah rfl)]
  unfold Eqs
  constructor
  ·intro hh i hi
   have:=hh i hi
   dsimp only at this
   rw[ifn_,ay (g:=fun k=>rv A[i*nn+k]! *y (k+1)) fun k _=>by rw[ifn_]] at this
   exact this
  ·intro hh i hi
   dsimp only
   rw[ifn_,ay (g:=fun k=>rv A[i*nn+k]! *y (k+1)) fun k _=>by rw[ifn_]]
   exact hh i hi
 have TG:∀y,Sol d3 (1+nn+m) y→bU (1+nn+m) d3.gk d3.gc y=aT nn fun k=>rv C[k]! *y (k+1):=fun y hy=>by
  rw[hS3.goal y ((hS3.sol y).1 hy)]
  exact EN y ((hS3.sol y).1 hy)
 have hp3:=hS3.piv
 unfold wH
 rw[e1]
 dsimp only
 rw[ai (by simp),e2]
 dsimp only
 rw[ai (by simp)]
 rcases K6 with⟨rfl,hg⟩|⟨s',rfl,a2,a3,a4⟩
 ·rw[ah (by decide)]
  exact⟨_,_,rfl,best_ok hs K2 hB2 Pc hsol3 TG hg,by omega,by omega,by show (1:Int)≠2;decide⟩
 ·rw[ifn_,show ((s':Int)).toNat=s' by omega]
  exact⟨_,_,rfl,ray_ok hs K2 hB2 Pc hsol3 TG a2 a3 a4,by omega,by omega,by show (3:Int)≠2;decide⟩
theorem Qg(hs:Sz m nn A B C){most:Int}{N:Nat}(hN:∀k,oy (1+nn+m) k≤N)(K4:2*(N:Int)+20≤most):
  ∃a n,jR m nn A B C most=(a,n,0)∧0≤n∧n≤most∧ln m nn A B C a=true∧(a.kind=2→∃D:Rat,D≠0∧IsI D KT∧∀i,i<m→Dn D KT (rv a.y[i]!)):=by
 unfold jR
 dsimp only
 by_cases nB:B.any (fun b=>decide (bE b<0))=true
 ·rw[ah nB]
  obtain⟨b,hb,xf⟩:=N3.1 nB
  obtain⟨i,hi,rfl⟩:=xy.1 hb
  have wE:i<m:=by rw[←hs.lB];exact hi
  have hneg':rv B[i]! <0:=by
   have h1:=(hs.gB i wE).1
   refine (r7 h1).1 ?_
   rw[bT B i hi]
   exact bq xf
  obtain⟨M,k0,d',e1,hok,hB,Nj,RB,hf,hS,Tg,K6⟩:=hs.begin (most:=most) wE hneg' hN (by omega)
  have hmo:d'.most=most:=hS.most
  have hp0:0≤d'.piv:=hS.piv
  have iF:∀y,Sol d' (1+nn+m) y↔Eqs m nn A B (y 0) y:=fun y=>(hS.sol y).trans (G9 y)
  rw[e1]
  dsimp only
  rw[ai (by simp)]
  rcases K6 with⟨g1,g2⟩|⟨g1,g2⟩
  ·rw[ah g1]
   exact⟨_,_,rfl,hp0,by omega,none_ok hs hok hB iF (fun y hy=>by rw[hS.goal y ((hS.sol y).1 hy)];exact zA y) g2 g1,fun _=>by
    obtain⟨E,e0,e1,hy⟩:=hok.prices hB hs.m6 g2
    exact⟨E,e0,e1,fun i hi=>(hy i hi).2.1⟩⟩
  ·rw[ai g1]
   obtain⟨a,n,e2,h1,h2,h3,h4⟩:=Ul hs hok hB Nj RB g2 hf (fun y hy=>by rw[iF y,hy]) hN (by omega)
   exact⟨a,n,e2,by omega,by omega,h1,fun e=>absurd e h4⟩
 ·rw[ai nB]
  obtain⟨hok,hB,Nj,RB⟩:=hs.firstOk (most:=most)
  have hf:sY (aH m nn A B most):=fun i hi=>by
   rw[jT] at hi
   rw[tA hi]
   have h1:=(hs.gB i hi).1
   have h2:=r7 h1
   have:¬bE B[i]! <0:=fun e=>nB (N3.2 ⟨B[i]!,by rw[bT B i (by rw[hs.lB];exact hi)];exact n7 _,aB e⟩)
   grind
  obtain⟨a,n,e2,h1,h2,h3,h4⟩:=Ul hs hok hB Nj RB (fun j hj=>by rw[rS j hj];omega) hf (fun y _=>Q5 y) hN (by show (0:Int)+N≤most;omega)
  have hp0:(aH m nn A B most).piv=0:=rfl
  exact⟨a,n,e2,by omega,by omega,h1,fun e=>absurd e h4⟩
theorem US:∀n,n≤12→∀k,oy n k≤924:=by
 have hz:∀n k,n<k→oy n k=0:=by
  intro n
  induction n with
  |zero=>intro k hk;cases k with|zero=>omega|succ k=>rfl
  |succ n ih=>
   intro k hk
   cases k with
   |zero=>omega
   |succ k=>show oy n k+oy n (k+1)=0;rw[ih k (by omega),ih (k+1) (by omega)]
 have hs:∀n,n<13→∀k,k<13→oy n k≤924:=by decide +kernel
 intro n hn k
 by_cases hk:k<13
 ·exact hs n (by omega) k hk
 ·rw[hz n k (by omega)];exact cy _
theorem Kz(hs:Sz m nn A B C):∃a n,jR m nn A B C 4000=(a,n,0)∧0≤n∧n≤4000∧ln m nn A B C a=true∧(a.kind=2→∃D:Rat,D≠0∧IsI D KT∧∀i,i<m→Dn D KT (rv a.y[i]!)):=by
 have h1:=hs.m6
 have h2:=hs.n5
 exact Qg hs (N:=924) (US _ (by omega)) (by decide)
end
end
section
structure RQ(m nn:Nat)(a:Nat→Nat→Rat)(b c:Nat→Rat)(kind:Int)(x y r:Nat→Rat):Prop where
 kinds:kind=1∨kind=2∨kind=3
 prim:kind≠2→(∀k,k<nn→0≤x k)∧∀i,i<m→aT nn (fun k=>a i k*x k)≤b i
 pos:kind≠3→∀i,i<m→0≤y i
 best:kind=1→(∀k,k<nn→c k≤aT m fun i=>a i k*y i)∧aT nn (fun k=>c k*x k)=aT m fun i=>y i*b i
 none:kind=2→(∀k,k<nn→0≤aT m fun i=>a i k*y i)∧aT m (fun i=>y i*b i)<0
 ray:kind=3→(∀k,k<nn→0≤r k)∧(∀i,i<m→aT nn (fun k=>a i k*r k)≤0)∧0<aT nn fun k=>c k*r k
section
variable {m nn:Nat} {A B C:List Nu} {a:Ans}
theorem Sf(hA:A.length=m*nn)(hB:B.length=m)(hC:C.length=nn)(hgB:∀i,i<m→au B[i]! =true)(hgC:∀k,k<nn→au C[k]! =true)(ha:ln m nn A B C a=true):RQ m nn (fun i k=>rv A[i*nn+k]!) (fun i=>rv B[i]!) (fun k=>rv C[k]!) a.kind (fun k=>rv a.x[k]!) (fun i=>rv a.y[i]!) (fun k=>rv a.ray[k]!)∧
  (a.kind=1→au (cj C a.x)=true∧rv (cj C a.x)=aT nn fun k=>rv C[k]! *rv a.x[k]!)∧a.x.length≤nn∧a.y.length≤m∧a.ray.length≤nn:=by
 have h0g:∀n i,i<n→au (List.replicate n (nOf 0))[i]! =true∧rv (List.replicate n (nOf 0))[i]! =0:=fun n i hi=>by rw[ju hi];exact of0
 unfold ln at ha
 by_cases e1:a.kind=1
 ·rw[ah e1] at ha
  simp only[bK] at ha
  obtain⟨⟨⟨h0,h1⟩,h2⟩,h3,h4⟩:=ha
  obtain⟨p1,p2,p3⟩:=vE hA hB hgB h1
  obtain⟨q1,q2,q3⟩:=w8 hC hgC h2
  obtain⟨_,v2⟩:=lj h3
  have h4:=bq h4
  obtain⟨_,v3⟩:=lj (by rw[←h4];exact h3)
  rw[hC] at v2
  rw[q1,←h4] at v3
  refine⟨⟨.inl e1,fun _=>⟨fun k hk=>(p2 k hk).2,p3⟩,fun _ i hi=>(q2 i hi).2,fun _=>⟨q3,v2.symm.trans v3⟩,fun e=>by omega,fun e=>by omega⟩,fun _=>⟨h3,v2⟩,by omega,by omega,by have:=bq h0;omega⟩
 ·rw[ai e1] at ha
  by_cases e2:a.kind=2
  ·rw[ah e2] at ha
   simp only[bK] at ha
   obtain⟨⟨h0,h1⟩,h2⟩:=ha
   obtain⟨q1,q2,q3⟩:=w8 (by simp) (fun k hk=>(h0g nn k hk).1) h1
   unfold oU at h2
   rw[bK] at h2
   obtain⟨_,v3⟩:=lj h2.1
   have h3:=(r7 h2.1).1 (by have:=bq h2.2;omega)
   rw[v3,q1] at h3
   have h0:=bq h0
   refine⟨⟨.inr (.inl e2),fun e=>absurd e2 e,fun _ i hi=>(q2 i hi).2,fun e=>absurd e e1,fun _=>⟨fun k hk=>by have:=q3 k hk;rwa[(h0g nn k hk).2] at this,h3⟩,fun e=>by omega⟩,fun e=>absurd e e1,by omega,by omega,by omega⟩
  ·rw[ai e2] at ha
   by_cases e3:a.kind=3
   ·rw[ah e3] at ha
    simp only[bK] at ha
    obtain⟨⟨⟨h0,h1⟩,h2⟩,h3⟩:=ha
    obtain⟨p1,p2,p3⟩:=vE hA hB hgB h1
    obtain⟨q1,q2,q3⟩:=vE hA (by simp) (fun i hi=>(h0g m i hi).1) h2
    unfold oU at h3
    rw[bK] at h3
    obtain⟨_,v3⟩:=lj h3.1
    have h4:=(KA h3.1).1 (by have:=bq h3.2;omega)
    rw[v3,hC] at h4
    have h0:=bq h0
    refine⟨⟨.inr (.inr e3),fun _=>⟨fun k hk=>(p2 k hk).2,p3⟩,fun e=>absurd e3 e,fun e=>absurd e e1,fun e=>absurd e e2,fun _=>⟨fun k hk=>(q2 k hk).2,fun i hi=>by have:=q3 i hi;rwa[(h0g m i hi).2] at this,h4⟩⟩,fun e=>absurd e e1,by omega,by omega,by omega⟩
   ·rw[ai e3] at ha;cases ha
end
theorem vp(x:Rat):(x.den:Rat)*x=(x.num:Rat)∧(x.den:Rat)≠0:=by
 have h0:(x.den:Rat)≠0:=by exact_mod_cast x.den_nz
 have h:=Rat.mkRat_self x
 rw[Rat.mkRat_eq_div,iS] at h
 have:=xw (x.den:Rat) h0
 exact⟨by grind,h0⟩
theorem Pq.dn {K:Nat}{x:Rat}(h:Pq K x):Dn (x.den:Rat) K x∧IsI (x.den:Rat) K:=⟨⟨x.num,(vp x).1,h.1⟩,⟨(x.den:Int),rfl,by simpa using h.2⟩⟩
theorem Pq.mul {K L:Nat}{x y:Rat}(hx:Pq K x)(hy:Pq L y):Pq (K*L) (x*y):=by
 obtain⟨h1,i1⟩:=hx.dn
 obtain⟨h2,i2⟩:=hy.dn
 refine Dn.pq (i1.mul i2) (fun e=>?_) (h1.mul h2)
 rcases Ct.1 e with e|e
 ·exact (vp x).2 e
 ·exact (vp y).2 e
theorem Pq.add {K L:Nat}{x y:Rat}(hx:Pq K x)(hy:Pq L y):Pq (2*(K*L)) (x+y):=by
 obtain⟨h1,i1⟩:=hx.dn
 obtain⟨h2,i2⟩:=hy.dn
 have d:Dn ((x.den:Rat)*y.den) (2*(K*L)) (x+y):=by
  have a1:IsI ((x.den:Rat)*x*y.den) (K*L):=IsI.mul h1 i2
  have a2:IsI ((y.den:Rat)*y*x.den) (L*K):=IsI.mul h2 i1
  have a3:=(a1.add a2).mono (L:=2*(K*L)) (by rw[bz L K];omega)
  unfold Dn
  rw[show (x.den:Rat)*y.den*(x+y)=(x.den:Rat)*x*y.den+(y.den:Rat)*y*x.den by grind]
  exact a3
 refine Dn.pq ((i1.mul i2).mono (by omega)) (fun e=>?_) d
 rcases Ct.1 e with e|e
 ·exact (vp x).2 e
 ·exact (vp y).2 e
theorem zq {c x:List Nu}{P:Nat}(hn:c.length≤6)(gc:∀i,i<c.length→au c[i]! =true)(gx:∀i,i<c.length→au x[i]! =true)(hP:1≤P)(hP2:P≤2 ^ 40)(hp:∀i,i<c.length→Pq P (rv c[i]! *rv x[i]!)):∀n,n≤c.length→au (oT c x n)=true∧rv (oT c x n)=(aT n fun i=>rv c[i]! *rv x[i]!)∧Pq ((2*P) ^ n) (rv (oT c x n))
 |0,_=>⟨of0.1,of0.2,by
  have:rv (oT c x 0)=0:=of0.2
  rw[this]
  exact⟨by simp,by simp⟩⟩
 |n+1,Tw=>by
  obtain⟨i1,i2,i3⟩:=zq hn gc gx hP hP2 hp n (by omega)
  have p2:=hp n (by omega)
  have hb:(2*P) ^ n≤(2 ^ 41) ^ 5:=dm (Nat.pow_le_pow_left (by omega) n) (hJ (by decide) (by omega))
  have hPL:P<LIM:=dM hP2 (bb rfl)
  have hl:2*((2*P) ^ n*P)<LIM:=by
   have h1:=kL hb hP2
   have h2:2*((2 ^ 41) ^ 5*2 ^ 40)<LIM:=bb rfl
   omega
  obtain⟨g1,g2⟩:=rR (gc n (by omega)) (gx n (by omega)) (p2.fit hPL)
  obtain⟨g3,g4⟩:=og i1 g1 i3 (by rw[g2];exact p2) hl
  have e:rv (oT c x (n+1))=rv (oT c x n)+rv c[n]! *rv x[n]! :=by
   show rv (jw (oT c x n) (lX c[n]! x[n]!))=_
   rw[g4,g2]
  refine⟨g3,by rw[e,i2];rfl,?_⟩
  rw[e,cK,show (2*P) ^ n*(2*P)=2*((2*P) ^ n*P) by rw[xC]]
  exact i3.add p2
theorem Km {c x:List Nu}{P:Nat}(hl:c.length=x.length)(hn:c.length≤6)(gc:∀i,i<c.length→au c[i]! =true)(gx:∀i,i<c.length→au x[i]! =true)(hP:1≤P)(hP2:P≤2 ^ 40)(hp:∀i,i<c.length→Pq P (rv c[i]! *rv x[i]!)):au (cj c x)=true∧rv (cj c x)=aT c.length fun i=>rv c[i]! *rv x[i]! :=by
 unfold cj
 rw[ah hl]
 exact⟨(zq hn gc gx hP hP2 hp _ (az _)).1,(zq hn gc gx hP hP2 hp _ (az _)).2.1⟩
theorem Pq.int {a:Rat}{K:Nat}(h:IsI a K)(hK:1≤K):Pq K a:=by
 obtain⟨z,rfl,hz⟩:=h
 exact⟨by simpa using hz,by simpa using hK⟩
end
def kC(nt:aX):Int→Option (Int⊕(Bool⊕Unit)):=fun aD=>cnd (decide (aD<((nt.vA.vV).length:Int))) (gd (0≤aD∧aD<((nt.vA.vV).length:Int)) (bnd (e7 (1:Int)) fun x4=>cnd (decide (¬((nt.vA.vV)[(aD).toNat]!.vD=x4))) (some (.inr (.inl false))) (some (.inl (i64.wrap (aD+(1:Int))))))) (some (.inr (.inr ())))
def jK(nt:aX):Int→Option (Int⊕(Bool⊕Unit)):=fun wu=>cnd (decide (wu<((nt.vB).length:Int))) (gd (0≤wu∧wu<((nt.vB).length:Int)) (bnd (e7 (1:Int)) fun ta=>cnd (decide (¬((nt.vB)[(wu).toNat]!.vD=ta))) (some (.inr (.inl false))) (some (.inl (i64.wrap (wu+(1:Int))))))) (some (.inr (.inr ())))
def jJ(nt:aX):Int→Option (Int⊕(Bool⊕Unit)):=fun ws=>cnd (decide (ws<((nt.vC).length:Int))) (gd (0≤ws∧ws<((nt.vC).length:Int)) (bnd (e7 (1:Int)) fun sZ=>cnd (decide (¬((nt.vC)[(ws).toNat]!.vD=sZ))) (some (.inr (.inl false))) (some (.inl (i64.wrap (ws+(1:Int))))))) (some (.inr (.inr ())))
def lU(nt:aX):Option Bool:=bnd (bt (kC nt) (0:Int)) fun y7=>match y7 with| .inl r=>some r| .inr ()=>bnd (bt (jK nt) (0:Int)) fun y14=>match y14 with| .inl r=>some r| .inr ()=>bnd (bt (jJ nt) (0:Int)) fun y21=>match y21 with| .inl r=>some r| .inr ()=>some true
theorem yF {nt:aX}{r:Bool}(h:lU nt=some r):ar prog 26 [dG eC nt] (dB r):=by
 refine bk (rs:=[.tmp 2]) (fun cx hx h0=>?_) func26
 unfold lU at h
 refine rs hx fun K hK=>?_
 refine s1 (d:=.pt 0 0) fQ ?_
 refine nbr hK ?_
 refine AW.seq (ra hx ?_)
 refine AW.block ?_
 obtain⟨y,hy,h⟩:=ae h
 refine lp (S:=Int) (X:=Bool⊕Unit) (fun aD=>[(1,.pt 0 0),(3,dI .i64 aD)]) (fun aD=>⟨[(0,[dI .i64 nt.vA.vR,dI .i64 nt.vA.vC,dL aj nt.vA.vV,dL aj nt.vB,dL aj nt.vC])],[],1⟩) (PS (PR [.tmp 2] fun r=>dB r) (PE cx (.exit 0) (fun ()=>[(1,.pt 0 0)]) fun ()=>⟨[(0,[dI .i64 nt.vA.vR,dI .i64 nt.vA.vC,dL aj nt.vA.vV,dL aj nt.vB,dL aj nt.vC])],[],1⟩)) hy ?_ ?_ ?_
 exact wk0 h0 [0]
 clear hy h
 rintro aD y h
 dsimp only[kC] at h
 refine AW.seq (rar hx ?_)
 refine cdh h rfl (fun fT h=>?_) (fun fT h=>?_)
 refine AW.skip (AW.seq (AW.block (rsd [88] hx fun K hK=>?_)))
 iterate 4 refine sbr ?_
 obtain⟨rA,h⟩:=aA h
 have yv:(aD).toNat<(nt.vA.vV).length:=by omega
 iterate 2 refine sbr ?_
 refine s1 (d:=dG aq ((nt.vA.vV)[(aD).toNat]!.vD)) (i8 (c:=aj) (l:=nt.vA.vV) (n:=(aD).toNat) (o:=18) fy yv (by first|exact rfl|exact pG0 _ _ _ rfl|exact pG1 _ _ _ _ rfl rfl)) ?_
 refine cqb h iH fun x4 h=>?_
 refine s1 (xK tok 3 (by decide) fg fy) ?_
 refine nl hK ?_
 refine cdh h rfl (fun qV h=>?_) (fun qV h=>?_)
 refine ra hx ?_
 refine AW.ret ?_
 cases h
 refine PS.r ⟨by nofun,PS.l (PR.i ?_)⟩
 exact rv1
 refine AW.skip (rb hx ?_)
 exact pel h h0 [0]
 exact AW.exit (peq h h0 [0])
 rcases y with r|⟨⟩
 rintro ex tm' hp' ⟨rfl,hw⟩
 cases h
 exact hw
 refine lwr ?_
 refine AW.seq (ra hx ?_)
 refine AW.block ?_
 obtain⟨y,hy,h⟩:=ae h
 refine lp (S:=Int) (X:=Bool⊕Unit) (fun wu=>[(1,.pt 0 0),(4,dI .i64 wu)]) (fun wu=>⟨[(0,[dI .i64 nt.vA.vR,dI .i64 nt.vA.vC,dL aj nt.vA.vV,dL aj nt.vB,dL aj nt.vC])],[],1⟩) (PS (PR [.tmp 2] fun r=>dB r) (PE cx (.exit 2) (fun ()=>[(1,.pt 0 0)]) fun ()=>⟨[(0,[dI .i64 nt.vA.vR,dI .i64 nt.vA.vC,dL aj nt.vA.vV,dL aj nt.vB,dL aj nt.vC])],[],1⟩)) hy ?_ ?_ ?_
 exact wk0 h0 [0]
 clear hy h
 rintro wu y h
 dsimp only[jK] at h
 refine AW.seq (rar hx ?_)
 refine cdh h rfl (fun uw h=>?_) (fun uw h=>?_)
 refine AW.skip (AW.seq (AW.block (rsd [88] hx fun K hK=>?_)))
 iterate 3 refine sbr ?_
 obtain⟨hc9,h⟩:=aA h
 have Tv:(wu).toNat<(nt.vB).length:=by omega
 iterate 2 refine sbr ?_
 refine s1 (d:=dG aq ((nt.vB)[(wu).toNat]!.vD)) (i8 (c:=aj) (l:=nt.vB) (n:=(wu).toNat) (o:=18) fy Tv (by first|exact rfl|exact pG0 _ _ _ rfl|exact pG1 _ _ _ _ rfl rfl)) ?_
 refine cqb h iH fun ta h=>?_
 refine s1 (xK tok 3 (by decide) fg fy) ?_
 refine nl hK ?_
 refine cdh h rfl (fun GR h=>?_) (fun GR h=>?_)
 refine ra hx ?_
 refine AW.ret ?_
 cases h
 refine PS.r ⟨by nofun,PS.l (PR.i ?_)⟩
 exact rv1
 refine AW.skip (rb hx ?_)
 exact pel h h0 [0]
 exact AW.exit (peq h h0 [0])
 rcases y with r|⟨⟩
 rintro ex tm' hp' ⟨rfl,hw⟩
 cases h
 exact hw
 refine lwr ?_
 refine AW.seq (ra hx ?_)
 refine AW.block ?_
 obtain⟨y,hy,h⟩:=ae h
 refine lp (S:=Int) (X:=Bool⊕Unit) (fun ws=>[(1,.pt 0 0),(5,dI .i64 ws)]) (fun ws=>⟨[(0,[dI .i64 nt.vA.vR,dI .i64 nt.vA.vC,dL aj nt.vA.vV,dL aj nt.vB,dL aj nt.vC])],[],1⟩) (PS (PR [.tmp 2] fun r=>dB r) (PE cx (.exit 4) (fun ()=>[]) fun ()=>⟨[],[],0⟩)) hy ?_ ?_ ?_
 exact wk0 h0 [0]
 clear hy h
 rintro ws y h
 dsimp only[jJ] at h
 refine AW.seq (rar hx ?_)
 refine cdh h rfl (fun Ng h=>?_) (fun Ng h=>?_)
 refine AW.skip (AW.seq (AW.block (rsd [88] hx fun K hK=>?_)))
 iterate 3 refine sbr ?_
 obtain⟨QP,h⟩:=aA h
 have Tu:(ws).toNat<(nt.vC).length:=by omega
 iterate 2 refine sbr ?_
 refine s1 (d:=dG aq ((nt.vC)[(ws).toNat]!.vD)) (i8 (c:=aj) (l:=nt.vC) (n:=(ws).toNat) (o:=18) fy Tu (by first|exact rfl|exact pG0 _ _ _ rfl|exact pG1 _ _ _ _ rfl rfl)) ?_
 refine cqb h iH fun sZ h=>?_
 refine s1 (xK tok 3 (by decide) fg fy) ?_
 refine nl hK ?_
 refine cdh h rfl (fun TT h=>?_) (fun TT h=>?_)
 refine ra hx ?_
 refine AW.ret ?_
 cases h
 refine PS.r ⟨by nofun,PS.l (PR.i ?_)⟩
 exact rv1
 refine AW.skip (rb hx ?_)
 exact pel h h0 [0]
 exact AW.exit (peq h h0 [])
 rcases y with r|⟨⟩
 rintro ex tm' hp' ⟨rfl,hw⟩
 cases h
 exact hw
 refine lwr ?_
 refine ra hx ?_
 exact AW.ret (rtv h)
def lV(aG:eZ)(Ej:Int)(aK:List am):Option am:=gd (0≤i64.wrap (Ej*aG.vC)∧i64.wrap (Ej*aG.vC)≤i64.wrap ((i64.wrap (Ej+(1:Int)))*aG.vC)∧i64.wrap ((i64.wrap (Ej+(1:Int)))*aG.vC)≤((aG.vV).length:Int)) (bnd (b8 (zy aG.vV (i64.wrap (Ej*aG.vC)) (i64.wrap ((i64.wrap (Ej+(1:Int)))*aG.vC))) aK) fun x2=>some x2)
theorem yG {aG:eZ}{Ej:Int}{aK:List am}{r:am}(h:lV aG Ej aK=some r):ar prog 31 [dG mh aG,dI .i64 Ej,dL aj aK] (dG aj r):=by
 refine bk (rs:=[.cell 6 43]) (fun cx hx h0=>?_) func31
 unfold lV at h
 refine rs hx fun K hK=>?_
 refine s1 (d:=.pt 0 0) fQ ?_
 refine nbr hK ?_
 refine rs hx fun K hK=>?_
 iterate 11 refine sbr ?_
 obtain⟨Mn,h⟩:=aA h
 refine s1 (T_sl (c:=aj) (l:=aG.vV) (a:=i64.wrap (Ej*aG.vC)) (b:=i64.wrap ((i64.wrap (Ej+(1:Int)))*aG.vC)) Mn cg aQ) ?_
 refine sa ?_
 refine scb h dH fun x2 h=>?_
 refine nbr hK ?_
 exact AW.ret (rtv h)
def nO(nt:aX)(aG:ci)(aK:List am):Option Bool:=bnd (S:=Bool) (cnd (decide (aG.vKind=(2:Int))) (some (true)) (cnd (decide (aG.vKind=(1:Int))) (bnd (b8 nt.vC aG.vX) fun x3=>bnd (b8 nt.vC aK) fun x5=>bnd (fL x3 x5) fun x7=>some (decide (x7<(0:Int)))) (some (false)))) fun bn=>some bn
theorem tL {nt:aX}{aG:ci}{aK:List am}{r:Bool}(h:nO nt aG aK=some r):ar prog 36 [dG eC nt,dG jL aG,dL aj aK] (dB r):=by
 refine bk (rs:=[.tmp 6]) (fun cx hx h0=>?_) func36
 unfold nO at h
 refine rs hx fun K hK=>?_
 refine s1 (d:=.pt 0 0) fQ ?_
 refine s1 (d:=.pt 1 0) fQ ?_
 refine nbr hK ?_
 refine AW.seq ?_
 obtain⟨bn,hy,h⟩:=ae h
 refine jn ((PE cx .normal (fun bn=>[(6,dB bn)]) fun bn=>⟨[],[],0⟩) bn) ?_ ?_
 replace h:=hy
 refine rqd [17,32] hx fun K hK=>?_
 refine mbr ?_
 rcases aE h with⟨fT,h⟩|⟨fT,h⟩
 iterate 4 refine Es rfl rfl fT ?_
 iterate 11 refine SG rfl rfl ?_
 refine nbr hK ?_
 exact pe1 h h0 []
 refine mbr ?_
 rcases aE h with⟨xf,h⟩|⟨xf,h⟩
 refine ga xf ?_
 refine gbr ?_
 refine ga xf ?_
 refine gbr ?_
 obtain⟨x3,S0,h⟩:=ae h
 refine sqg tok rfl rfl xf (dH S0) rfl (lA (aw _) (lA (aw _) lAn)) (.inl (jS _ _)) ?_
 refine ga xf ?_
 refine gbr ?_
 refine ga xf ?_
 obtain⟨x5,GK,h⟩:=ae h
 refine sqg tok rfl rfl xf (dH GK) rfl (lA (aw _) (lA (aw _) lAn)) (.inl (jS _ _)) ?_
 obtain⟨x7,SZ,h⟩:=ae h
 refine sqg tok rfl rfl xf (mr SZ) (by simp only[iX,l6,gh,io,eQ,bK];exact⟨cl _ _,cl _ _⟩) (lA (nZ _ _) (lA (nZ _ _) lAn)) (.inl rfl) ?_
 refine nbr hK ?_
 exact pe1 h h0 []
 refine nbr hK ?_
 exact pe1 h h0 []
 refine lw0 ?_
 exact AW.ret (rtv h)
def nj(aK:List am):Int→Option (Int⊕(Bool⊕Unit)):=fun ew=>cnd (decide (ew<((aK).length:Int))) (gd (0≤ew∧ew<((aK).length:Int)) (bnd (im ((aK)[(ew).toNat]!)) fun oN=>cnd (decide (oN<(0:Int))) (bnd (eN) fun Br=>some (.inr (.inl Br))) (some (.inl (i64.wrap (ew+(1:Int))))))) (some (.inr (.inr ())))
def ni(nt:aX)(aK:List am):Bool×Int×(List am)→Option ((Bool×Int×(List am))⊕(Bool×(List am))):=fun (ml,gq,wt)=>cnd (decide (gq<nt.vA.vR)) (bnd (lV nt.vA gq aK) fun yo=>bnd (S:=Bool) (cnd ml (gd (0≤gq∧gq<((nt.vB).length:Int)) (bnd (fL yo ((nt.vB)[(gq).toNat]!)) fun Bo=>some (decide (Bo≤(0:Int))))) (some (false))) fun HO=>gd (0≤gq∧gq<((nt.vB).length:Int)) (bnd (vl yo) fun P4=>bnd (lT P4) fun x36=>bnd (xl ((nt.vB)[(gq).toNat]!) x36) fun x38=>gd ((wt++[x38]).length*136≤140737488355328) (some (.inl (HO,i64.wrap (gq+(1:Int)),wt++[x38]))))) (some (.inr (ml,wt)))
def pJ(nt:aX)(aK:List am):Option Bool:=bnd (S:=Bool) (bnd (oq nt (5:Int) (6:Int)) fun x1=>cnd (!x1) (some (true)) (bnd (lU nt) fun x4=>cnd (!x4) (some (true)) (cnd (decide (((aK).length:Int)≠nt.vA.vC)) (some (true)) (bnd (iA aK (8:Int)) fun x8=>some (!x8))))) fun dU=>cnd dU (bnd (eN) fun nq=>some nq) (bnd (bt (nj aK) (0:Int)) fun y22=>match y22 with| .inl r=>some r| .inr ()=>bnd (bt (ni nt aK) (true,(0:Int),([]:List am))) fun (mj,tH)=>bnd (g8 nt (4000:Int)) fun x42=>bnd (g8 (⟨nt.vA,tH,nt.vC⟩:aX) (4000:Int)) fun P3=>bnd (S:=Bool) (cnd (decide (x42.2.2≠(0:Int))) (some (true)) (cnd (decide (P3.2.2≠(0:Int))) (some (true)) (cnd mj (bnd (nO nt x42.1 aK) fun x49=>cnd x49 (some (true)) (bnd (nO (⟨nt.vA,tH,nt.vC⟩:aX) P3.1 aK) fun x52=>some (x52))) (bnd (nO (⟨nt.vA,tH,nt.vC⟩:aX) P3.1 aK) fun x54=>some (x54))))) fun HM=>cnd HM (some false) (bnd (eN) fun x58=>some x58))
theorem JT {nt:aX}{aK:List am}{r:Bool}(h:pJ nt aK=some r):ar prog 10 [dG eC nt,dL aj aK] (dB r):=by
 refine bk (rs:=[.tmp 4]) (fun cx hx h0=>?_) func10
 unfold pJ at h
 refine rs hx fun K hK=>?_
 refine s1 (d:=.pt 0 0) fQ ?_
 refine nbr hK ?_
 iterate 2 refine AW.seq ?_
 obtain⟨dU,hy,h⟩:=ae h
 refine jn ((PE cx .normal (fun dU=>[(1,dL aj aK),(2,.pt 0 0),(36,dB dU)]) fun dU=>⟨[(0,[dI .i64 nt.vA.vR,dI .i64 nt.vA.vC,dL aj nt.vA.vV,dL aj nt.vB,dL aj nt.vC])],[],1⟩) dU) ?_ ?_
 replace h:=hy
 refine rq hx fun K hK=>?_
 refine s1 (d:=dG eC nt) (T_ldA rm) ?_
 refine scb h CL fun x1 h=>?_
 refine mbr ?_
 rcases aE h with⟨fI,h⟩|⟨fI,h⟩
 refine nbr hK ?_
 exact pe1 h h0 [0]
 refine g1 (d:=dG eC nt) fI (T_ldA rm) ?_
 refine gcb h yF fun x4 h=>?_
 refine mbr ?_
 rcases aE h with⟨qV,h⟩|⟨qV,h⟩
 refine nbr hK ?_
 exact pe1 h h0 [0]
 refine mbr ?_
 rcases aE h with⟨ss,h⟩|⟨ss,h⟩
 refine nbr hK ?_
 exact pe1 h h0 [0]
 refine ga ss ?_
 refine gcb h nH fun x8 h=>?_
 refine nbr hK ?_
 exact pe1 h h0 [0]
 refine lw0 ?_
 refine cdh h rfl (fun ux h=>?_) (fun ux h=>?_)
 refine rs hx fun K hK=>?_
 refine scb h j3 fun nq h=>?_
 refine nbr hK ?_
 exact AW.ret (rtv h)
 refine AW.skip (AW.seq (ra hx ?_))
 refine AW.block ?_
 obtain⟨y,hy,h⟩:=ae h
 refine lp (S:=Int) (X:=Bool⊕Unit) (fun ew=>[(1,dL aj aK),(2,.pt 0 0),(5,dI .i64 ew)]) (fun ew=>⟨[(0,[dI .i64 nt.vA.vR,dI .i64 nt.vA.vC,dL aj nt.vA.vV,dL aj nt.vB,dL aj nt.vC])],[],1⟩) (PS (PR [.tmp 4] fun r=>dB r) (PE cx (.exit 0) (fun ()=>[(1,dL aj aK),(2,.pt 0 0)]) fun ()=>⟨[(0,[dI .i64 nt.vA.vR,dI .i64 nt.vA.vC,dL aj nt.vA.vV,dL aj nt.vB,dL aj nt.vC])],[],1⟩)) hy ?_ ?_ ?_
 exact wk0 h0 [0]
 clear hy h
 rintro ew y h
 dsimp only[nj] at h
 refine AW.seq (ra hx ?_)
 refine cdh h rfl (fun tT h=>?_) (fun tT h=>?_)
 refine AW.skip (AW.seq (AW.block (rs hx fun K hK=>?_)))
 iterate 2 refine sa ?_
 obtain⟨hc15,h⟩:=aA h
 have K3:(ew).toNat<(aK).length:=by omega
 refine sbr ?_
 refine s1 (d:=dG aj ((aK)[(ew).toNat]!)) (i8 (c:=aj) (l:=aK) (n:=(ew).toNat) (o:=0) aQ K3 (eS _ _ rfl)) ?_
 refine scb h oO fun oN h=>?_
 refine nbr hK ?_
 refine cdh h rfl (fun IU h=>?_) (fun IU h=>?_)
 refine rs hx fun K hK=>?_
 refine scb h j3 fun Br h=>?_
 refine nbr hK ?_
 refine AW.ret ?_
 cases h
 refine PS.r ⟨by nofun,PS.l (PR.i ?_)⟩
 exact rv1
 refine AW.skip (rb hx ?_)
 exact pel h h0 [0]
 exact AW.exit (peq h h0 [0])
 rcases y with r|⟨⟩
 rintro ex tm' hp' ⟨rfl,hw⟩
 cases h
 exact hw
 refine lwr ?_
 refine rs hx fun K hK=>?_
 refine sa ?_
 refine s1 (d:=dG mh nt.vA) (T_ldA yH) ?_
 iterate 2 refine sbr ?_
 refine s1 (d:=.ag [dI .i64 nt.vA.vR,dI .i64 nt.vA.vC,dL aj nt.vA.vV,dN,dL aj nt.vC]) (da rm) ?_
 refine s1 (d:=.pt 1 0) (m9 rm) ?_
 refine s0 (CG (ds':=[dI .i64 nt.vA.vR,dI .i64 nt.vA.vC,dL aj nt.vA.vV,dN,dL aj nt.vC]) rm) ?_
 refine nl hK ?_
 refine ra hx ?_
 refine AW.seq (ra hx ?_)
 refine AW.block ?_
 obtain⟨y,hy,h⟩:=ae h
 refine lp (S:=Bool×Int×(List am)) (X:=Bool×(List am)) (fun (ml,gq,wt)=>[(1,dL aj aK),(2,.pt 0 0),(6,.pt 1 0),(7,dB ml),(8,dI .i64 gq)]) (fun (ml,gq,wt)=>⟨[(0,[dI .i64 nt.vA.vR,dI .i64 nt.vA.vC,dL aj nt.vA.vV,dL aj nt.vB,dL aj nt.vC]),(1,[dI .i64 nt.vA.vR,dI .i64 nt.vA.vC,dL aj nt.vA.vV,dO 2 aj wt,dL aj nt.vC])],[(2,(wt).length,36,43)],3⟩) (PE cx (.exit 2) (fun (mj,tH)=>[(1,dL aj aK),(2,.pt 0 0),(6,.pt 1 0),(7,dB mj)]) fun (mj,tH)=>⟨[(0,[dI .i64 nt.vA.vR,dI .i64 nt.vA.vC,dL aj nt.vA.vV,dL aj nt.vB,dL aj nt.vC]),(1,[dI .i64 nt.vA.vR,dI .i64 nt.vA.vC,dL aj nt.vA.vV,dO 2 aj tH,dL aj nt.vC])],[(2,(tH).length,36,43)],3⟩) hy ?_ ?_ ?_
 exact Wk.trans (Wk.nilOwn (ds':=[dI .i64 nt.vA.vR,dI .i64 nt.vA.vC,dL aj nt.vA.vV,dO 2 aj ([]:List am),dL aj nt.vC]) 1 3 43 36) (wk h0 [0,1,2] (wR rfl (wR rfl (wR rfl (wR rfl (wR rfl wTn))))) (vR rfl (vR rfl wVn)) (wL rfl rfl wLn))
 clear hy h
 rintro⟨ml,gq,wt⟩ y h
 dsimp only[ni] at h
 refine AW.seq (rar hx ?_)
 refine cdh h rfl (fun TS h=>?_) (fun TS h=>?_)
 refine AW.skip (AW.seq (AW.block (rs hx fun K hK=>?_)))
 refine sa ?_
 refine s1 (d:=dG mh nt.vA) (T_ldA yH) ?_
 refine mbr ?_
 refine scb h yG fun yo h=>?_
 refine nbr hK ?_
 refine AW.seq ?_
 obtain⟨HO,hy,h⟩:=ae h
 refine jn ((PE cx .normal (fun HO=>[(1,dL aj aK),(2,.pt 0 0),(6,.pt 1 0),(7,dB HO),(8,dI .i64 gq),(9,.pt 2 0)]) fun HO=>⟨[(0,[dI .i64 nt.vA.vR,dI .i64 nt.vA.vC,dL aj nt.vA.vV,dL aj nt.vB,dL aj nt.vC]),(1,[dI .i64 nt.vA.vR,dI .i64 nt.vA.vC,dL aj nt.vA.vV,dO 3 aj wt,dL aj nt.vC]),(2,dC (aj.f yo))],[(3,(wt).length,36,43)],4⟩) HO) ?_ ?_
 replace h:=hy
 refine rqd [32] hx fun K hK=>?_
 refine mbr ?_
 rcases aE h with⟨IT,h⟩|⟨IT,h⟩
 refine gbr ?_
 refine ga IT ?_
 refine gbr ?_
 refine ga IT ?_
 obtain⟨hc27,h⟩:=aA h
 have hn28:(gq).toNat<(nt.vB).length:=by omega
 refine gbr ?_
 refine g1 (d:=dG aj ((nt.vB)[(gq).toNat]!)) IT (i8 (c:=aj) (l:=nt.vB) (n:=(gq).toNat) (o:=0) aQ hn28 (eS _ _ rfl)) ?_
 obtain⟨Bo,MX,h⟩:=ae h
 refine sqg tok rfl rfl IT (mr MX) (by simp only[iX,l6,gh,io,eQ,bK];exact⟨cl _ _,cl _ _⟩) (lA (nZ _ _) (lA (nZ _ _) lAn)) (.inl rfl) ?_
 refine nbr hK ?_
 exact pe1 h h0 [0,1,3,2]
 refine nbr hK ?_
 exact pe1 h h0 [0,1,3,2]
 refine lw0 ?_
 refine rqd [35,34,33] hx fun K hK=>?_
 iterate 5 refine sbr ?_
 obtain⟨hc32,h⟩:=aA h
 have hn33:(gq).toNat<(nt.vB).length:=by omega
 refine sbr ?_
 refine s1 (d:=dG aj ((nt.vB)[(gq).toNat]!)) (i8 (c:=aj) (l:=nt.vB) (n:=(gq).toNat) (o:=0) aQ hn33 (eS _ _ rfl)) ?_
 refine mbr ?_
 refine cqb h H9 fun P4 h=>?_
 refine cqb h yE fun x36 h=>?_
 refine cqb h Ki fun x38 h=>?_
 refine s1 (JJ ([x38]:List am) aj cg aQ) ?_
 obtain⟨hc40,h⟩:=aA h
 refine s1 (d:=dO 3 aj (wt++[x38])) (qn cg aQ hc40) ?_
 refine sa ?_
 refine s0 (CG (ds':=[dI .i64 nt.vA.vR,dI .i64 nt.vA.vC,dL aj nt.vA.vV,dO 3 aj (wt++[x38]),dL aj nt.vC]) cg) ?_
 refine nl hK ?_
 refine rb hx ?_
 exact pel h h0 [0,1,3]
 exact AW.exit (per h h0 [0,1,2])
 obtain⟨mj,tH⟩:=y
 refine lw0 ?_
 refine rs hx fun K hK=>?_
 refine s1 (d:=dG eC nt) (T_ldA rm) ?_
 refine scb h qY fun x42 h=>?_
 iterate 4 refine sa ?_
 refine s1 (d:=.pt 3 0) (m9 ms) ?_
 refine s0 (CG (ds':=[dI .i64 x42.1.vKind,dL aj x42.1.vX,dL aj x42.1.vY,dL aj x42.1.vRay]) ms) ?_
 refine nbr hK ?_
 refine rs hx fun K hK=>?_
 refine s1 (d:=.ag [dI .i64 nt.vA.vR,dI .i64 nt.vA.vC,dL aj nt.vA.vV,dO 2 aj tH,dL aj nt.vC]) (T_ldA rm) ?_
 obtain⟨P3,hx45,h⟩:=ae h
 refine s1 (sV rfl (qY hx45) rfl (lA (pI (wc (lI _) (wc (lI _) (wc (lI _) (wc (lI _) (wc (lI _) wcn)))))) (lA (aw _) lAn)) (.inr ⟨_,rfl⟩)) ?_
 iterate 4 refine sa ?_
 refine s1 (d:=.pt 4 0) (m9 ms) ?_
 refine s0 (CG (ds':=[dI .i64 P3.1.vKind,dL aj P3.1.vX,dL aj P3.1.vY,dL aj P3.1.vRay]) ms) ?_
 refine nbr hK ?_
 iterate 2 refine AW.seq ?_
 obtain⟨HM,hy,h⟩:=ae h
 refine jn ((PE cx .normal (fun HM=>[(125,dB HM)]) fun HM=>⟨[],[],0⟩) HM) ?_ ?_
 replace h:=hy
 refine rq hx fun K hK=>?_
 refine mbr ?_
 rcases aE h with⟨hb46,h⟩|⟨hb46,h⟩
 iterate 2 refine Es rfl rfl hb46 ?_
 iterate 2 refine sbr ?_
 iterate 2 refine Es rfl rfl rfl ?_
 iterate 4 refine SG rfl rfl ?_
 refine nbr hK ?_
 exact pe1 h h0 []
 refine mbr ?_
 rcases aE h with⟨hb47,h⟩|⟨hb47,h⟩
 iterate 2 refine Es rfl rfl hb47 ?_
 iterate 4 refine SG rfl rfl ?_
 refine nbr hK ?_
 exact pe1 h h0 []
 refine mbr ?_
 rcases aE h with⟨IS,h⟩|⟨IS,h⟩
 refine g1 (d:=dG eC nt) IS (T_ldA rm) ?_
 refine g1 (d:=dG jL x42.1) IS (T_ldA ms) ?_
 refine ga IS ?_
 refine gcb h tL fun x49 h=>?_
 refine mbr ?_
 rcases aE h with⟨hb51,h⟩|⟨hb51,h⟩
 refine nbr hK ?_
 exact pe1 h h0 []
 refine g1 (d:=.ag [dI .i64 nt.vA.vR,dI .i64 nt.vA.vC,dL aj nt.vA.vV,dO 2 aj tH,dL aj nt.vC]) hb51 (T_ldA rm) ?_
 refine g1 (d:=dG jL P3.1) hb51 (T_ldA ms) ?_
 refine ga hb51 ?_
 obtain⟨x52,hx53,h⟩:=ae h
 refine g1 hb51 (sV rfl (tL hx53) (by simp only[iX,l6,gh,io,eQ,bK];exact⟨rfl,cl _ _,rfl⟩) (lA (pI (wc (lI _) (wc (lI _) (wc (lI _) (wc (lI _) (wc (lI _) wcn)))))) (lA (aw _) (lA (aw _) lAn))) (.inl rfl)) ?_
 refine nbr hK ?_
 exact pe1 h h0 []
 iterate 4 refine Es rfl rfl IS ?_
 refine gbr ?_
 iterate 2 refine sbr ?_
 refine g1 (d:=.ag [dI .i64 nt.vA.vR,dI .i64 nt.vA.vC,dL aj nt.vA.vV,dO 2 aj tH,dL aj nt.vC]) rfl (T_ldA rm) ?_
 refine g1 (d:=dG jL P3.1) rfl (T_ldA ms) ?_
 refine ga rfl ?_
 obtain⟨x54,hx55,h⟩:=ae h
 refine g1 rfl (sV rfl (tL hx55) (by simp only[iX,l6,gh,io,eQ,bK];exact⟨rfl,cl _ _,rfl⟩) (lA (pI (wc (lI _) (wc (lI _) (wc (lI _) (wc (lI _) (wc (lI _) wcn)))))) (lA (aw _) (lA (aw _) lAn))) (.inl rfl)) ?_
 refine nbr hK ?_
 exact pe1 h h0 []
 refine lw0 ?_
 refine cdh h rfl (fun hb57 h=>?_) (fun hb57 h=>?_)
 refine ra hx ?_
 exact AW.ret (rtv h)
 refine AW.skip (rs hx fun K hK=>?_)
 refine scb h j3 fun x58 h=>?_
 refine nbr hK ?_
 exact AW.ret (rtv h)
def d7(aK:List am):Int→Option (Int⊕(Bool⊕Unit)):=fun a9=>cnd (decide (a9<((aK).length:Int))) (gd (0≤a9∧a9<((aK).length:Int)) (bnd (im ((aK)[(a9).toNat]!)) fun oN=>cnd (decide (oN<(0:Int))) (bnd (eN) fun Br=>some (.inr (.inl Br))) (some (.inl (i64.wrap (a9+(1:Int))))))) (some (.inr (.inr ())))
def d6(aG:eZ)(aK:List am):(List am)×Int→Option (((List am)×Int)⊕((List am))):=fun (ml,gq)=>cnd (decide (gq<aG.vR)) (bnd (lV aG gq aK) fun yo=>gd ((ml++[yo]).length*136≤140737488355328) (some (.inl (ml++[yo],i64.wrap (gq+(1:Int)))))) (some (.inr ml))
def ff(aG:eZ)(aK:List am)(aP:List am)(kR:List am):Option Bool:=bnd (S:=Bool) (bnd (oq (⟨aG,aP,aK⟩:aX) (5:Int) (6:Int)) fun x1=>cnd (!x1) (some (true)) (bnd (lU (⟨aG,aP,aK⟩:aX)) fun x4=>cnd (!x4) (some (true)) (cnd (decide ((3:Int)<aG.vR)) (some (true)) (bnd (iA kR (60:Int)) fun x8=>some (!x8))))) fun aD=>cnd aD (bnd (eN) fun nq=>some nq) (bnd (bt (d7 aK) (0:Int)) fun y22=>match y22 with| .inl r=>some r| .inr ()=>bnd (bt (d6 aG aK) (([]:List am),(0:Int))) fun mj=>bnd (g9 aG mj (4000:Int)) fun Dx=>bnd (g9 aG aP (4000:Int)) fun Dw=>bnd (S:=Bool) (cnd (decide (Dx.2.2≠(0:Int))) (some (true)) (cnd (decide (Dx.1.vKind≠(1:Int))) (some (true)) (bnd (de aG mj Dx.1) fun P4=>cnd (decide (P4≠(0:Int))) (some (true)) (bnd (de aG mj (⟨(2:Int),([]:List am),kR,([]:List am)⟩:ci)) fun DV=>some (decide (DV=(0:Int))))))) fun HN=>cnd HN (some false) (bnd (S:=Bool) (bnd (eN) fun x41=>cnd x41 (cnd (decide (Dw.2.2=(0:Int))) (bnd (de aG aP Dw.1) fun x45=>some (decide (x45=(0:Int)))) (some (false))) (some (false))) fun HK=>some HK))
theorem ub {aG:eZ}{aK:List am}{aP:List am}{kR:List am}{r:Bool}(h:ff aG aK aP kR=some r):ar prog 9 [dG mh aG,dL aj aK,dL aj aP,dL aj kR] (dB r):=by
 refine bk (rs:=[.tmp 8]) (fun cx hx h0=>?_) func9
 unfold ff at h
 refine rs hx fun K hK=>?_
 refine s1 (d:=.pt 0 0) fQ ?_
 refine nbr hK ?_
 refine rs hx fun K hK=>?_
 refine s1 (d:=dG mh aG) (T_ldA yH) ?_
 iterate 2 refine sa ?_
 refine s1 (d:=dG eC (⟨aG,aP,aK⟩:aX)) (da rm) ?_
 refine s1 (d:=.pt 1 0) (m9 rm) ?_
 refine s0 (CG (ds':=[dI .i64 aG.vR,dI .i64 aG.vC,dL aj aG.vV,dL aj aP,dL aj aK]) rm) ?_
 refine nl hK ?_
 iterate 2 refine AW.seq ?_
 obtain⟨aD,hy,h⟩:=ae h
 refine jn ((PE cx .normal (fun aD=>[(1,dL aj aK),(2,dL aj aP),(3,dL aj kR),(4,.pt 0 0),(40,dB aD)]) fun aD=>⟨[(0,[dI .i64 aG.vR,dI .i64 aG.vC,dL aj aG.vV])],[],1⟩) aD) ?_ ?_
 replace h:=hy
 refine rq hx fun K hK=>?_
 refine s1 (d:=dG eC (⟨aG,aP,aK⟩:aX)) (T_ldA rm) ?_
 refine scb h CL fun x1 h=>?_
 refine mbr ?_
 rcases aE h with⟨fI,h⟩|⟨fI,h⟩
 refine nbr hK ?_
 exact pe1 h h0 [0]
 refine g1 (d:=dG eC (⟨aG,aP,aK⟩:aX)) fI (T_ldA rm) ?_
 refine gcb h yF fun x4 h=>?_
 refine mbr ?_
 rcases aE h with⟨qV,h⟩|⟨qV,h⟩
 refine nbr hK ?_
 exact pe1 h h0 [0]
 refine mbr ?_
 rcases aE h with⟨ss,h⟩|⟨ss,h⟩
 refine nbr hK ?_
 exact pe1 h h0 [0]
 refine ga ss ?_
 refine gcb h nH fun x8 h=>?_
 refine nbr hK ?_
 exact pe1 h h0 [0]
 refine lw0 ?_
 refine cdh h rfl (fun ux h=>?_) (fun ux h=>?_)
 refine rs hx fun K hK=>?_
 refine scb h j3 fun nq h=>?_
 refine nbr hK ?_
 exact AW.ret (rtv h)
 refine AW.skip (rs hx fun K hK=>?_)
 refine s1 (d:=dO 1 aj ([]:List am)) (gi cg aQ) ?_
 refine nl hK ?_
 refine AW.seq (ra hx ?_)
 refine AW.block ?_
 obtain⟨y,hy,h⟩:=ae h
 refine lp (S:=Int) (X:=Bool⊕Unit) (fun a9=>[(1,dL aj aK),(2,dL aj aP),(3,dL aj kR),(4,.pt 0 0),(10,dO 1 aj ([]:List am)),(11,dI .i64 a9)]) (fun a9=>⟨[(0,[dI .i64 aG.vR,dI .i64 aG.vC,dL aj aG.vV])],[(1,(([]:List am)).length,36,43)],2⟩) (PS (PR [.tmp 8] fun r=>dB r) (PE cx (.exit 0) (fun ()=>[(1,dL aj aK),(2,dL aj aP),(3,dL aj kR),(4,.pt 0 0),(10,dO 1 aj ([]:List am))]) fun ()=>⟨[(0,[dI .i64 aG.vR,dI .i64 aG.vC,dL aj aG.vV])],[(1,(([]:List am)).length,36,43)],2⟩)) hy ?_ ?_ ?_
 exact wk0 h0 [0,1]
 clear hy h
 rintro a9 y h
 dsimp only[d7] at h
 refine AW.seq (ra hx ?_)
 refine cdh h rfl (fun tT h=>?_) (fun tT h=>?_)
 refine AW.skip (AW.seq (AW.block (rs hx fun K hK=>?_)))
 iterate 2 refine sa ?_
 obtain⟨hc15,h⟩:=aA h
 have K3:(a9).toNat<(aK).length:=by omega
 refine sbr ?_
 refine s1 (d:=dG aj ((aK)[(a9).toNat]!)) (i8 (c:=aj) (l:=aK) (n:=(a9).toNat) (o:=0) aQ K3 (eS _ _ rfl)) ?_
 refine scb h oO fun oN h=>?_
 refine nbr hK ?_
 refine cdh h rfl (fun IU h=>?_) (fun IU h=>?_)
 refine rs hx fun K hK=>?_
 refine scb h j3 fun Br h=>?_
 refine nbr hK ?_
 refine AW.ret ?_
 cases h
 refine PS.r ⟨by nofun,PS.l (PR.i ?_)⟩
 exact rv1
 refine AW.skip (rb hx ?_)
 exact pel h h0 [0,1]
 exact AW.exit (peq h h0 [0,1])
 rcases y with r|⟨⟩
 rintro ex tm' hp' ⟨rfl,hw⟩
 cases h
 exact hw
 refine lwr ?_
 refine AW.seq (ra hx ?_)
 refine AW.block ?_
 obtain⟨mj,hy,h⟩:=ae h
 refine lp (S:=(List am)×Int) (X:=(List am)) (fun (ml,gq)=>[(1,dL aj aK),(2,dL aj aP),(3,dL aj kR),(4,.pt 0 0),(10,dO 1 aj ml),(12,dI .i64 gq)]) (fun (ml,gq)=>⟨[(0,[dI .i64 aG.vR,dI .i64 aG.vC,dL aj aG.vV])],[(1,(ml).length,36,43)],2⟩) (PE cx (.exit 2) (fun mj=>[(2,dL aj aP),(3,dL aj kR),(4,.pt 0 0),(10,dO 1 aj mj)]) fun mj=>⟨[(0,[dI .i64 aG.vR,dI .i64 aG.vC,dL aj aG.vV])],[(1,(mj).length,36,43)],2⟩) hy ?_ ?_ ?_
 exact wk0 h0 [0,1]
 clear hy h
 rintro⟨ml,gq⟩ y h
 dsimp only[d6] at h
 refine AW.seq (rar hx ?_)
 refine cdh h rfl (fun TS h=>?_) (fun TS h=>?_)
 refine AW.skip (AW.seq (AW.block (rq hx fun K hK=>?_)))
 refine sa ?_
 refine s1 (d:=dG mh aG) (T_ldA yH) ?_
 refine mbr ?_
 refine scb h yG fun yo h=>?_
 refine s1 (kP ([yo]:List am) aj cg aQ) ?_
 obtain⟨hc26,h⟩:=aA h
 refine s1 (d:=dO 1 aj (ml++[yo])) (qn cg aQ hc26) ?_
 refine nbr hK ?_
 refine rb hx ?_
 exact pel h h0 [0,1]
 exact AW.exit (per h h0 [0,1])
 refine lw0 ?_
 refine rs hx fun K hK=>?_
 refine s1 (d:=dG mh aG) (T_ldA yH) ?_
 refine sa ?_
 refine scb h nT fun Dx h=>?_
 iterate 4 refine sa ?_
 refine s1 (d:=.pt 2 0) (m9 ms) ?_
 refine s0 (CG (ds':=[dI .i64 Dx.1.vKind,dL aj Dx.1.vX,dL aj Dx.1.vY,dL aj Dx.1.vRay]) ms) ?_
 refine nbr hK ?_
 refine rs hx fun K hK=>?_
 refine s1 (d:=dG mh aG) (T_ldA yH) ?_
 refine sa ?_
 refine scb h nT fun Dw h=>?_
 iterate 4 refine sa ?_
 refine s1 (d:=.pt 3 0) (m9 ms) ?_
 refine s0 (CG (ds':=[dI .i64 Dw.1.vKind,dL aj Dw.1.vX,dL aj Dw.1.vY,dL aj Dw.1.vRay]) ms) ?_
 refine nbr hK ?_
 iterate 2 refine AW.seq ?_
 obtain⟨HN,hy,h⟩:=ae h
 refine jn ((PE cx .normal (fun HN=>[(2,dL aj aP),(4,.pt 0 0),(16,.pt 1 0),(18,dI .i64 Dw.2.2),(103,dB HN)]) fun HN=>⟨[(0,[dI .i64 aG.vR,dI .i64 aG.vC,dL aj aG.vV]),(1,[dI .i64 Dw.1.vKind,dL aj Dw.1.vX,dL aj Dw.1.vY,dL aj Dw.1.vRay])],[],2⟩) HN) ?_ ?_
 replace h:=hy
 refine rq hx fun K hK=>?_
 refine mbr ?_
 rcases aE h with⟨hb32,h⟩|⟨hb32,h⟩
 refine nbr hK ?_
 exact pe1 h h0 [0,3]
 refine mbr ?_
 rcases aE h with⟨hb33,h⟩|⟨hb33,h⟩
 refine nbr hK ?_
 exact pe1 h h0 [0,3]
 refine g1 (d:=dG mh aG) hb33 (T_ldA yH) ?_
 refine ga hb33 ?_
 refine g1 (d:=dG jL Dx.1) hb33 (T_ldA ms) ?_
 refine gcb h jr fun P4 h=>?_
 refine mbr ?_
 rcases aE h with⟨hb36,h⟩|⟨hb36,h⟩
 refine nbr hK ?_
 exact pe1 h h0 [0,3]
 refine g1 (d:=dG mh aG) hb36 (T_ldA yH) ?_
 iterate 2 refine ga hb36 ?_
 refine g1 (d:=.ag [dI .i64 (2:Int),dN,dL aj kR,dN]) hb36 (da ms) ?_
 obtain⟨DV,hx38,h⟩:=ae h
 refine g1 hb36 (sV rfl (jr hx38) (by simp only[iX,l6,gh,io,eQ,bK];exact⟨cl _ _,rfl,rfl⟩) (lA (aw _) (lA (aw _) (lA (pI (wc (lI _) (wc (KU rfl) (wc (lI _) (wc (KU rfl) wcn))))) lAn))) (.inl rfl)) ?_
 refine nbr hK ?_
 exact pe1 h h0 [0,3]
 refine lw0 ?_
 refine cdh h rfl (fun hb40 h=>?_) (fun hb40 h=>?_)
 refine ra hx ?_
 exact AW.ret (rtv h)
 refine AW.skip (AW.seq ?_)
 obtain⟨HK,hy,h⟩:=ae h
 refine jn ((PE cx .normal (fun HK=>[(8,dB HK)]) fun HK=>⟨[],[],0⟩) HK) ?_ ?_
 replace h:=hy
 refine rq hx fun K hK=>?_
 refine scb h j3 fun x41 h=>?_
 refine sa ?_
 rcases aE h with⟨hb43,h⟩|⟨hb43,h⟩
 refine mbr ?_
 rcases aE h with⟨hb44,h⟩|⟨hb44,h⟩
 refine g1 (d:=dG mh aG) hb44 (T_ldA yH) ?_
 refine ga hb44 ?_
 refine g1 (d:=dG jL Dw.1) hb44 (T_ldA ms) ?_
 refine gcb h jr fun x45 h=>?_
 refine nbr hK ?_
 exact pe1 h h0 []
 refine nbr hK ?_
 exact pe1 h h0 []
 refine nbr hK ?_
 exact pe1 h h0 []
 refine lw0 ?_
 exact AW.ret (rtv h)
section
theorem nv_good {x:Nu}(h:au x=true):nv x=ly (rv x):=(dQ.1 (bF.1 h)).2
theorem Up {a b:Int}(ha:a.natAbs<LIM)(hb:b.natAbs<LIM):enc a=enc b↔a=b:=⟨fun h=>by rw[←A5 ha,←A5 hb,h],fun h=>by rw[h]⟩
theorem I9 {x:Nu}(hg:au x=true):decide (¬((nv x).vD=enc 1))= !decide ((rv x).den=1):=by
 have h1:=(Lf hg).2
 have e:(nv x).vD=enc ((rv x).den:Int):=by rw[nv_good hg];rfl
 have hi:=Up (a:=((rv x).den:Int)) (b:=1) (by simpa using h1) (by decide)
 by_cases h:(rv x).den=1
 ·have hh:(nv x).vD=enc 1:=by rw[e];exact hi.2 (by omega)
  simp[hh,h]
 ·have hh:¬(nv x).vD=enc 1:=by rw[e];exact fun hh=>h (by have:=hi.1 hh;omega)
  simp[hh,h]
theorem isI_den {x:Nu}{K:Nat}(h1:(rv x).den=1)(h2:(rv x).num.natAbs≤K):IsI (rv x) K:=by
 refine⟨(rv x).num,?_,h2⟩
 have:=(vp (rv x)).1
 rw[h1] at this
 rw[←this]
 show rv x=((1:Nat):Rat)*rv x
 grind
structure Who(A B C:List Nu):Prop where
 a:∀i,i<A.length→(rv A[i]!).den=1
 b:∀i,i<B.length→(rv B[i]!).den=1
 c:∀i,i<C.length→(rv C[i]!).den=1
theorem Ix {n:Nat}{p:Nat→Bool}(h:(List.range n).all p=true):∀i,i<n→p i=true:=fun i hi=>a7.1 h i (iq.2 hi)
section
variable {R Cc:Int} {A B C:List Nu}
theorem R_whole(hA:A.length≤9223372036854775807)(hB:B.length≤9223372036854775807)(hC:C.length≤9223372036854775807)(gA:∀i,i<A.length→au A[i]! =true)(gB:∀i,i<B.length→au B[i]! =true)(gC:∀i,i<C.length→au C[i]! =true):∃b,lU ⟨⟨R,Cc,A.map nv⟩,B.map nv,C.map nv⟩=some b∧(b=true→Who A B C):=by
 obtain⟨y1,h1,p1⟩:=rN (b:=kC ⟨⟨R,Cc,A.map nv⟩,B.map nv,C.map nv⟩) hA (fun i=>decide ((rv A[i]!).den=1)) (fun _=>false) (fun i hi=>by
  unfold kC
  rw[bg,cH _ _,aC,rL (by omega) (by omega),ab,sd hi,I9 (gA i hi)]) (by
  unfold kC
  rw[bg,cr _ _])
 obtain⟨y2,h2,p2⟩:=rN (b:=jK ⟨⟨R,Cc,A.map nv⟩,B.map nv,C.map nv⟩) hB (fun i=>decide ((rv B[i]!).den=1)) (fun _=>false) (fun i hi=>by
  unfold jK
  rw[bg,cH _ _,aC,rL (by omega) (by omega),ab,sd hi,I9 (gB i hi)]) (by
  unfold jK
  rw[bg,cr _ _])
 obtain⟨y3,h3,p3⟩:=rN (b:=jJ ⟨⟨R,Cc,A.map nv⟩,B.map nv,C.map nv⟩) hC (fun i=>decide ((rv C[i]!).den=1)) (fun _=>false) (fun i hi=>by
  unfold jJ
  rw[bg,cH _ _,aC,rL (by omega) (by omega),ab,sd hi,I9 (gC i hi)]) (by
  unfold jJ
  rw[bg,cr _ _])
 unfold lU
 rw[h1,h2,h3]
 simp only[ab]
 cases y1 with
 |inl r=>obtain⟨i,_,_,rfl⟩:=p1;exact⟨false,rfl,fun e=>by cases e⟩
 |inr u=>
  cases y2 with
  |inl r=>obtain⟨i,_,_,rfl⟩:=p2;exact⟨false,rfl,fun e=>by cases e⟩
  |inr u=>
   cases y3 with
   |inl r=>obtain⟨i,_,_,rfl⟩:=p3;exact⟨false,rfl,fun e=>by cases e⟩
   |inr u=>exact⟨true,rfl,fun _=>⟨fun i hi=>bq (Ix p1 i hi),fun i hi=>bq (Ix p2 i hi),fun i hi=>bq (Ix p3 i hi)⟩⟩
theorem BH {l:List Nu}(h:LW l 6)(hd:∀i,i<l.length→(rv l[i]!).den=1):∀i,i<l.length→au l[i]! =true∧IsI (rv l[i]!) 63:=fun i hi=>by
 have:=h.num i hi
 exact⟨h.good i hi,isI_den (hd i hi) (by have e:2 ^ ((6:Int)).toNat=64:=rfl;omega)⟩
structure V7(m nn:Nat)(A B C:List Nu):Prop where
 m5:m≤5
 n5:nn≤5
 lA:A.length=m*nn
 lB:B.length=m
 lC:C.length=nn
 l25:A.length≤25
 a:∀i,i<m*nn→au A[i]! =true∧IsI (rv A[i]!) 63
 b:∀i,i<m→au B[i]! =true∧IsI (rv B[i]!) 63
 c:∀k,k<nn→au C[k]! =true∧IsI (rv C[k]!) 63
theorem V7.sz {m nn:Nat}(h:V7 m nn A B C):Sz m nn A B C:=by
 have hb:63≤BT:=by decide
 exact⟨by have:=h.m5;omega,h.n5,h.lA,h.lB,h.lC,fun i hi=>⟨(h.a i hi).1,(h.a i hi).2.mono hb⟩,fun i hi=>⟨(h.b i hi).1,(h.b i hi).2.mono hb⟩,fun i hi=>⟨(h.c i hi).1,(h.c i hi).2.mono hb⟩⟩
theorem Ui(hf:Few R Cc A B C 5 6)(hw:Who A B C):∃m nn:Nat,R=m∧Cc=nn∧V7 m nn A B C:=by
 obtain⟨m,nn,rfl,rfl,d1,d2,d3,d4,d5,g1,g2,g3⟩:=zp hf.valid
 have hr:=hf.r
 have hc:=hf.c
 have hmn:m*nn≤5*5:=kL (by omega) (by omega)
 exact⟨m,nn,rfl,rfl,by omega,by omega,d3,d4,d5,by omega,fun i hi=>BH hf.sA hw.a i (by omega),fun i hi=>BH hf.sB hw.b i (by omega),fun i hi=>BH hf.sC hw.c i (by omega)⟩
theorem Sz.len {m nn:Nat}(h:Sz m nn A B C):A.length≤30∧B.length≤6∧C.length≤5:=by
 have h1:=h.m6
 have h2:=h.n5
 have hmn:m*nn≤6*5:=kL h1 h2
 rw[h.lA,h.lB,h.lC]
 omega
end
end
section
open Go.ChangeShapes Go.WideShapes Go.ChangeAt Go.RowKit Go.Deep
section
variable {H:Type} {enc:TypeId×Value→H} {P:Program}
theorem GE {f:Func}{s:ChangeSpec}{apart fresh handsOn again:Bool}{W W':World}{args:Array Value}{v:Value}{ds gs:List (DataW H)}{before pa pv:List MemPlace}
  (hW:DataW.Whole enc P f.params.toList s.vars apart W args.toList ds gs before)
  (qJ:∀(b:Nat) (sp:Nat→Bool) (hd:Bool),DataW.TrodAll enc P W' b sp hd f.resultTypes.toList (v.resultList f.resultTypes.size) (s.fn H (ds++gs)).results [])
  (wm:∀sp:Nat→Bool,(∀p∈before,sp p.block=true)→DataW.TrodAll enc P W' 0 sp true f.params.toList args.toList (s.fn H (ds++gs)).args pa)
  (OZ:∀sp:Nat→Bool,(∀p∈before,sp p.block=true)→DataW.TrodVars enc P W' sp s.vars (s.fn H (ds++gs)).vars pv)
  (Th:before=pa++pv) (hb:Below W.heap.size W W')
  (hok:∀(j:Nat) (t:TypeId) (r:Value),f.resultTypes[j]? =some t→(v.resultList f.resultTypes.size)[j]? =some r→Value.okWide P W' .any 0 t r):
  s.post enc P f apart fresh handsOn again W args v W':=by
 have bO:∀p∈before,p.block<W.heap.size:=fun p hp=>hW.lt p hp
 have hold:∀p∈before,(fun b=>decide (b<W.heap.size)) p.block=true:=fun p hp=>by simpa using bO p hp
 refine⟨ds,gs,before,[],pa,pv,hW,qJ _ _ _,wm _ hold,OZ _ hold,World.keptBut_mono (fun p hp=>⟨hp,?_⟩) (hb.frame (·∈before)),fun _=>?_⟩
 ·rw[Th,wq] at hp
  exact Or.inr hp
 ·obtain⟨_,_,_,_,_,hz,hn⟩:=hW
  refine⟨hok,_,_,([]++pa)++pv,⟨[]++pa,pv,trodAll_append (wm _ (fun _ _=>rfl)) (qJ _ _ _),OZ _ (fun _ _=>rfl),rfl,?_,?_⟩,?_⟩
  ·intro b off hp
   have GP:MemPlace.cell b off∈before:=by rw[Th];simpa using hp
   rw[hb.frozen (bO _ GP)]
   exact hz b off GP
  ·intro ha
   have:=hn ha
   rw[Th] at this
   simpa using this
  ·intro p hp _
   rw[Th]
   simpa using hp
theorem GA(hl:laidOutB P=true){W W':World}(hb:Below W.heap.size W W'){sp:Nat→Bool}:∀(ts:List TypeId) (vs:List Value) (ds:List (DataW H)) (p:List MemPlace),
  (ts.all fun t=>P.readableRec t&&decide (t<P.types.size))=true→DataW.TrodAll enc P W 0 (fun _=>true) true ts vs ds p→(∀x∈p,x.block<W.heap.size)→(∀x∈p,sp x.block=true)→
  DataW.TrodAll enc P W' 0 sp true ts vs ds p:=by
 intro ts
 induction ts with
 |nil=>
  intro vs ds p _ h _ _
  cases vs with
  |nil=>cases ds with
   |nil=>exact h
   |cons d ds=>exact h.elim
  |cons v vs=>exact h.elim
 |cons t ts ih=>
  intro vs ds p hr h bO hs
  cases vs with
  |nil=>exact h.elim
  |cons v vs=>
   cases ds with
   |nil=>exact h.elim
   |cons d ds=>
    obtain⟨p1,q,h1,h2,rfl⟩:=h
    simp only[gh,bK,sH] at hr
    refine⟨p1,q,WideElems.Trod_stays hl hr.1.1 hr.1.2 h1 (fun x hx=>hb.same (bO x (by simp[hx]))) (fun x hx=>hs x (by simp[hx])),ih vs ds q hr.2 h2 (fun x hx=>bO x (by simp[hx])) (fun x hx=>hs x (by simp[hx])),rfl⟩
theorem SR {f:Func}{s:ChangeSpec}{W W':World}{args:Array Value}{ds gs:List (DataW H)}{before:List MemPlace}{tb:TypeId}
  (hl:laidOutB P=true) (hv:s.vars=[]) (hrec:(f.params.toList.all fun t=>P.readableRec t&&decide (t<P.types.size))=true)
  (qJ:f.resultTypes=#[tb]) (htb:P.underlying tb=some .bool)
  (hW:DataW.Whole enc P f.params.toList s.vars false W args.toList ds gs before)
  (hfn:s.fn H (ds++gs)={results:=[.lit (.bool true)],args:=ds}) (hb:Below W.heap.size W W'):
  s.post enc P f false true false false W args (.bool true) W':=by
 have hW':=hW
 obtain⟨p,q,hA,hV,hpq,_,_⟩:=hW
 rw[hv] at hV
 have hq:q=[]:=by
  cases gs with
  |nil=>exact hV
  |cons g gs=>exact hV.elim
 subst hq
 rw[tG] at hpq
 subst hpq
 refine GE (pa:=before) (pv:=[]) hW' (fun b sp hd=>?_) (fun sp hsp=>?_) (fun sp _=>?_) (by simp) hb ?_
 ·rw[qJ,hfn]
  exact trodAll_cons_mk (shut_bool htb _) trodAll_mk0
 ·rw[hfn]
  exact GA hl hb _ _ _ _ hrec hA (fun x hx=>hW'.lt x hx) hsp
 ·rw[hv,hfn];rfl
 ·exact ok_one qJ rfl (okWide_bool_mk htb _)
end
theorem O0 {P:Program}{W:World}{params:Array TypeId}{args:Array Value}(h:∀(j:Nat) t v,params[j]? =some t→args[j]? =some v→Value.okWide P W .any 0 t v∨∃base,Value.okWide P W .any base t v)(j:Nat){t:TypeId}{v:Value}
  (h1:params[j]? =some t) (h2:args[j]? =some v):∃base,Value.okWide P W .any base t v:=by
 rcases h j t v h1 h2 with h|h
 ·exact⟨0,h⟩
 ·exact h
end
section
open Go.ChangeShapes Go.WideShapes Go.ChangeAt Go.RowKit Go.Deep
def wtFs(tb:TypeId→Option TyE)(f:TypeId→List E→Prop):List (Nat×TypeId)→List E→Prop
 |[],xs=>xs=[]
 |(_,t)::fs,xs=>∃j,tb t=some j∧j.size≤xs.length∧f t (xs.take j.size)∧wtFs tb f fs (xs.drop j.size)
def wtE(tb:TypeId→Option TyE):Nat→TypeId→List E→Prop
 |0,_,_=>False
 |k+1,t,xs=>∃i,tb t=some i∧xs.length=i.size∧match i.ty with
  | .int kd=>∃n,xs=[.lit (.int kd n)]∧(Lit.int kd n).wf=true
  | .bool=>∃b,xs=[.lit (.bool b)]
  | .str=>∃s:ByteArray,xs=[.lit (.string s)]∧s.size≤maxLen
  | .slice e=>∃j n ys,tb e=some j∧xs=[.sl j.size n ys]∧ys.length=n*j.size∧n≤maxLen∧∀i,i<n→wtE tb k e ((ys.drop (i*j.size)).take j.size)
  | .struct fs=>wtFs tb (wtE tb k) fs xs
  | .arr n e=>∃j,tb e=some j∧xs.length=n*j.size∧∀i,i<n→wtE tb k e ((xs.drop (i*j.size)).take j.size)
  |_=>False
def D6(tb:TypeId→Option TyE)(f:TypeId→Bool):List (Nat×TypeId)→Nat→Nat→Bool
 |[],off,n=>off == n
 |(o,t)::fs,off,n=>o == off&&f t&&match tb t with
  |some j=>D6 tb f fs (off+j.size) n
  |none=>false
def Iw(tb:TypeId→Option TyE):Nat→TypeId→Bool
 |0,_=>false
 |k+1,t=>match tb t with
  |some i=>match i.ty with
   | .int _| .bool| .str=>i.size == 1
   | .slice e=>i.size == 1&&Iw tb k e&&match tb e with
    |some j=>decide (0<j.size)
    |none=>false
   | .struct fs=>D6 tb (Iw tb k) fs 0 i.size
   | .arr n e=>Iw tb k e&&match tb e with
    |some j=>i.size == n*j.size
    |none=>false
   |_=>false
  |none=>false
section
variable {H:Type} {enc:TypeId×Value→H} {P:Program} {tb:TypeId→Option TyE} {W:World} {sp:Nat→Bool} {hd:Bool} {base:Nat}
theorem TOk.cells(tok:TOk P tb){t:TypeId}{i:TyE}(h:tb t=some i):P.cellsOf t=i.size:=by
 obtain⟨f,z,h1,h2,_⟩:=tok.inf h
 unfold Program.cellsOf
 rw[h1]
 exact h2
def F0:Addr→Prop:=fun _=>False
theorem Cn {z:Nat}{us:List Value}{Good:List E→Prop}:∀(n:Nat),us.length=n*z→(∀i,i<n→∃xs,Pw (dA W F0) xs ((us.drop (i*z)).take z)∧Good xs)→
  ∃ys,Pw (dA W F0) ys us∧ys.length=n*z∧∀i,i<n→Good ((ys.drop (i*z)).take z)
 |0,hl,_=>⟨[],by rw[gS] at hl;rw[s9 hl];exact Pw.nil,by simp,fun i h=>absurd h (rk _)⟩
 |n+1,hl,h=>by
  rw[rl] at hl
  have bO:(us.take (n*z)).length=n*z:=by rw[eu];omega
  obtain⟨ys,h1,h2,h3⟩:=Cn (us:=us.take (n*z)) n bO fun i hi=>by
   obtain⟨xs,g1,g2⟩:=h i (by omega)
   have hm:i*z+z≤n*z:=by rw[←rl];exact cz _ hi
   refine⟨xs,?_,g2⟩
   rw[LK,HI,tE (by omega)]
   exact g1
  obtain⟨xs,g1,g2⟩:=h n (by omega)
  have hx:xs.length=z:=by rw[g1.1,eu,fh];omega
  refine⟨ys++xs,?_,by rw[cJ,h2,hx,rl],fun i hi=>?_⟩
  ·have e:us=us.take (n*z)++(us.drop (n*z)).take z:=by
    rw[ii (l:=us.drop (n*z)) (by rw[fh];omega),t4]
   rw[e]
   exact h1.append g1
  ·rcases d9 i n with GP|GP
   ·have hm:i*z+z≤n*z:=by rw[←rl];exact cz _ GP
    rw[JD (by omega),t0 (by rw[fh];omega)]
    exact h3 i GP
   ·obtain rfl:i=n:=by omega
    rw[NI,h2,zV,Db (by omega)]
    simp only[rp,nR]
    rw[ii (by omega)]
    exact g2
theorem yd(tok:TOk P tb):∀(k:Nat) (fuel:Nat) (t:TypeId) (cs:List Value) (x:DataW H×List MemPlace),Iw tb k t=true→DataW.trod enc P W base sp hd fuel t cs=some x→∃xs,Pw (dA W F0) xs cs∧wtE tb k t xs
 |0,_,_,_,_,h,_=>by cases h
 |k+1,fuel,t,cs,x,hok,h=>by
  unfold Iw at hok
  cases ht:tb t with
  |none=>rw[ht] at hok;cases hok
  |some i=>
   rw[ht] at hok
   dsimp only at hok
   cases jV:i.ty with
   |int kd=>
    rw[jV] at hok
    have hz:i.size=1:=by simpa using hok
    obtain⟨n,rfl,_,hw⟩:=DataW.trod_int (tok.int ht jV) h
    exact⟨[.lit (.int kd n)],Pw.cons (.lit _ rfl) Pw.nil,i,ht,by rw[hz];rfl,by rw[jV];exact⟨n,rfl,hw⟩⟩
   |bool=>
    rw[jV] at hok
    have hz:i.size=1:=by simpa using hok
    obtain⟨dd,DI,yR⟩:=tok.und ht
    rw[jV] at yR
    have hb:P.underlying t=some .bool:=by cases dd <;> simp[Ty.of] at yR;exact DI
    obtain⟨b,rfl,_⟩:=DataW.trod_bool hb h
    exact⟨[.lit (.bool b)],Pw.cons (.lit _ rfl) Pw.nil,i,ht,by rw[hz];rfl,by rw[jV];exact⟨b,rfl⟩⟩
   |str=>
    rw[jV] at hok
    have hz:i.size=1:=by simpa using hok
    obtain⟨s,rfl,_,hs⟩:=DataW.trod_string (tok.str ht jV) h
    exact⟨[.lit (.string s)],Pw.cons (.lit _ rfl) Pw.nil,i,ht,by rw[hz];rfl,by rw[jV];exact⟨s,rfl,hs⟩⟩
   |slice e=>
    rw[jV] at hok
    dsimp only at hok
    cases he:tb e with
    |none=>rw[he] at hok;simp at hok
    |some j=>
     rw[he] at hok
     simp only[bK,beq_iff_eq,sH] at hok
     obtain⟨⟨hz,hoe⟩,IR⟩:=hok
     have hce:=tok.cells he
     rcases open_slice (tok.slice ht jV) h with⟨rfl,_⟩|⟨a,len,cap,m,n,D,Pl,rfl,hb,hlc,oY,hm,_,hi⟩
     ·exact⟨[.sl j.size 0 []],Pw.cons (.sl _ 0 [] none 0 (fun _=>undef) (by simp) IR (az _) (cy _) (fun h=>absurd h (qj _)) (fun _ h=>by cases h) (fun _ _ h=>by simp at h)) Pw.nil,
       i,ht,by rw[hz];rfl,by rw[jV];exact⟨j,0,[],he,rfl,by simp,cy _,fun i h=>absurd h (rk _)⟩⟩
     ·have hle:len≤m:=by rw[hm];split <;> omega
      rw[hce] at hi
      let us:List Value:=(List.range (len*j.size)).map fun q=>(W.cell? (a.add q)).getD undef
      have O1:us.length=len*j.size:=by simp[us]
      have hu:∀q,q<len*j.size→us[q]? =some ((W.cell? (a.add q)).getD undef):=fun q hq=>by simp[us,hq]
      have TK:∀i,i<len→∃xn,W.cells? base (a.add (i*j.size)) j.size=some xn∧xn=(us.drop (i*j.size)).take j.size:=by
       intro i zL
       obtain⟨xn,hc,_⟩:=hi i (by omega)
       obtain⟨_,t8,EP⟩:=World.cells?_some hc
       refine⟨xn,hc,LI fun q=>?_⟩
       have Tz:i*j.size+j.size≤len*j.size:=by rw[←rl];exact cz _ zL
       rw[gU,nQ]
       split
       ·rename_i hq
        have h1:=EP q hq
        rw[ql] at h1
        rw[hu _ (by omega),h1]
        rw[cP (by omega)];rfl
       ·rename_i hq
        rw[rH (by omega)]
      obtain⟨ys,OY,ED,hy3⟩:=Cn (W:=W) (us:=us) (z:=j.size) (Good:=wtE tb k e) len O1 fun i zL=>by
       obtain⟨xn,hc,hcs'⟩:=TK i zL
       obtain⟨cs2,rA,htr⟩:=hi i (by omega)
       rw[hc] at rA
       injection rA with rA
       subst rA
       rw[←hcs']
       exact yd tok k _ e xn _ hoe htr
      have C0:∀q v,us[q]? =some v→W.cell? (a.add q)=some v:=by
       intro q v hv
       have hq:q<len*j.size:=by
        rcases d9 q us.length with h|h
        ·omega
        ·rw[rH h] at hv;cases hv
       -- r4 cell lies in a chunk
       have hqd:q / j.size<len:=Jw (by rw[bz];exact hq)
       obtain⟨xn,hc,hcs'⟩:=TK (q / j.size) hqd
       obtain⟨_,t8,EP⟩:=World.cells?_some hc
       have h1:=EP (q % j.size) (ey _ IR)
       rw[ql,bz,l8] at h1
       rw[hu q hq] at hv
       injection hv with hv
       rw[h1] at hv
       rw[h1,cP (by have:=ey q IR;omega)] at*
       simp only[xv] at hv
       rw[hv]
      refine⟨[.sl j.size len ys],Pw.cons (.sl _ len ys (some a) cap (fun q=>us.getD q undef) ED IR hlc oY (fun JX=>⟨a,rfl,?_⟩) (fun ad Rz q y hq=>?_) (fun q y hq=>?_)) Pw.nil,i,ht,by rw[hz];rfl,by rw[jV];exact⟨j,len,ys,he,rfl,ED,dm hlc oY,hy3⟩⟩
      ·have h0:0<len*j.size:=yZ JX IR
       have:=World.block_lt_of_cell? W _ (C0 0 _ (hu 0 h0))
       rwa[gD] at this
      ·injection Rz with Rz
       subst Rz
       obtain⟨v,hv,_⟩:=OY.get hq
       refine⟨?_,fun hf=>hf⟩
       rw[C0 q v hv,List.getD,hv];rfl
      ·obtain⟨v,hv,hr⟩:=OY.get hq
       rw[List.getD,hv]
       exact hr
   |other=>rw[jV] at hok;cases hok
   |struct fs=>
    rw[jV] at hok
    dsimp only at hok
    obtain⟨fields,hf,JZ⟩:=tok.struct ht jV
    obtain⟨xs,n,_,_,t8,Ce,iW⟩:=DataW.trod_struct hf h
    rw[tok.cells ht] at t8
    have key:∀(l:List Field) (off:Nat),(∀f∈l,∃x,DataW.trod enc P W base sp hd n f.type ((cs.drop f.offset).take (P.cellsOf f.type))=some x)→off≤cs.length→D6 tb (Iw tb k) (l.map fun f=>(f.offset,f.type)) off i.size=true→
      ∃ys,Pw (dA W F0) ys (cs.drop off)∧wtFs tb (wtE tb k) (l.map fun f=>(f.offset,f.type)) ys:=by
     intro l
     induction l with
     |nil=>
      intro off _ ho yN
      have:off=i.size:=by simpa[D6] using yN
      exact⟨[],by rw[Db (by omega)];exact Pw.nil,rfl⟩
     |cons f l ih=>
      intro off hl ho yN
      simp only[iX,D6,bK,beq_iff_eq] at yN
      obtain⟨⟨hof,Do⟩,yN⟩:=yN
      cases hj:tb f.type with
      |none=>rw[hj] at yN;cases yN
      |some j=>
       rw[hj] at yN
       dsimp only at yN
       obtain⟨x,hx⟩:=hl f (rr ..)
       rw[tok.cells hj,hof] at hx
       obtain⟨zs,MW,hz2⟩:=yd tok k _ f.type _ _ Do hx
       have hzl:zs.length=j.size:=by
        cases k with
        |zero=>cases hz2
        |succ k=>
         obtain⟨j',CW,QK,_⟩:=hz2
         rw[hj] at CW
         injection CW with CW
         subst CW
         exact QK
       have hlen:off+j.size≤cs.length:=by
        have:=MW.1
        rw[hzl,eu,fh] at this
        omega
       obtain⟨ys,OY,ED⟩:=ih (off+j.size) (fun g hg=>hl g (pK _ hg)) hlen yN
       refine⟨zs++ys,?_,j,hj,by rw[cJ];omega,?_,?_⟩
       ·have e:cs.drop off=(cs.drop off).take j.size++cs.drop (off+j.size):=by
         rw[←nG,t4]
        rw[e]
        exact MW.append OY
       ·rw[t0 (by omega),ii (by omega)]
        exact hz2
       ·rw[JD (by omega),Db (by omega)]
        exact ED
    obtain⟨ys,OY,ED⟩:=key fields.toList 0 (fun f hfm=>by
     obtain⟨q,hq⟩:=Bc hfm
     have hq':fields[q]? =some f:=by simpa using hq
     have bO:q<xs.length:=by rw[Ce];exact (pl.1 hq').1
     exact⟨xs[q],by rw[iW q f hq',cP bO]⟩) (cy _) (by rw[JZ];exact hok)
    rw[rp] at OY
    exact⟨ys,OY,i,ht,by rw[OY.1,t8],by rw[jV];rw[JZ] at ED;exact ED⟩
   |arr n e=>
    rw[jV] at hok
    dsimp only at hok
    cases he:tb e with
    |none=>rw[he] at hok;simp at hok
    |some j=>
     rw[he] at hok
     simp only[bK,beq_iff_eq] at hok
     obtain⟨hoe,hz⟩:=hok
     obtain⟨xs,m,_,_,t8,Ce,iW⟩:=DataW.trod_array (tok.arr ht jV) h
     rw[tok.cells ht] at t8
     rw[tok.cells he] at iW
     obtain⟨ys,OY,ED,hy3⟩:=Cn (W:=W) (us:=cs) (z:=j.size) (Good:=wtE tb k e) n (by rw[t8,hz]) fun q hq=>by
      have hq':=iW q hq
      rw[cP (by omega)] at hq'
      exact yd tok k _ e _ _ hoe hq'
     exact⟨ys,OY,i,ht,by rw[OY.1,t8],by rw[jV];exact⟨j,he,ED,hy3⟩⟩
def argD(g:Bool)(xs:List E):D:=match g with
 |true=>.ag (xs.map D.e)
 |false=>.e (xs.headD .any)
theorem arg_rep(tok:TOk P tb){k:Nat}{t:TypeId}{i:TyE}{v:Value}{d:DataW H}{p:List MemPlace}{r:Reach}{b0:Nat}(hok:Iw tb k t=true)(ht:tb t=some i)(ur:Value.okWide P W r b0 t v)(h:DataW.Trod enc P W base sp hd t v d p):
  ∃xs,wtE tb k t xs∧l9 W F0 (argD i.ty.agg xs) v:=by
 obtain⟨fuel,hf⟩:=h
 obtain⟨xs,hx,hw⟩:=yd tok k fuel t _ _ hok hf
 refine⟨xs,hw,?_⟩
 have one:v.cells=#[v]→l9 W F0 (.e (xs.headD .any)) v:=by
  intro hv
  rw[hv] at hx
  cases xs with
  |nil=>have:=hx.1;simp at this
  |cons y ys=>exact aF.e _ _ (hx.2 0 y v rfl rfl)
 have agg:∀cs,v=.agg cs→l9 W F0 (.ag (xs.map D.e)) v:=by
  rintro cs rfl
  have hx':Pw (dA W F0) xs cs.toList:=hx
  refine aF.ag _ cs (by simpa using hx'.1.symm) (fun j u hu=>?_) (fun j d u hd hu=>?_)
  ·have wi:cs.toList[j]? =some u:=by simpa using hu
   have bO:j<xs.length:=by
    rw[hx'.1]
    exact (fW.1 wi).1
   exact (hx'.2 j _ u (cP bO) wi).one
  ·rw[dW] at hd
   cases hxj:xs[j]? with
   |none=>simp[hxj] at hd
   |some y=>
    simp only[hxj,oD,oz] at hd
    subst hd
    exact .e _ _ (hx'.2 j y u hxj (by simpa using hu))
 cases jV:i.ty with
 |int kd=>obtain⟨n,rfl⟩:=okWide_int (tok.int ht jV) ur;exact one rfl
 |bool=>
  obtain⟨dd,DI,yR⟩:=tok.und ht
  rw[jV] at yR
  have hb:P.underlying t=some .bool:=by cases dd <;> simp[Ty.of] at yR;exact DI
  obtain⟨b,rfl⟩:=okWide_bool hb ur
  exact one rfl
 |str=>obtain⟨s,rfl⟩:=okWide_string (tok.str ht jV) ur;exact one rfl
 |slice e=>obtain⟨a,l,c,rfl⟩:=okWide_slice (tok.slice ht jV) ur;exact one rfl
 |struct fs=>
  obtain⟨fields,hf,_⟩:=tok.struct ht jV
  obtain⟨cs,rfl,_⟩:=okWide_struct hf ur
  exact agg cs rfl
 |arr n e=>
  have ha:=tok.arr ht jV
  unfold Value.okWide at ur
  rw[ha] at ur
  obtain⟨cs,rfl,_⟩:=ur
  exact agg cs rfl
 |other=>
  cases k with
  |zero=>cases hok
  |succ k=>unfold Iw at hok;rw[ht] at hok;dsimp only at hok;rw[jV] at hok;cases hok
theorem says_of {f:FuncId}{ds:List D}{args:Array Value}(hc:ar P f ds (.e (.lit (.bool true))))(hsz:args.size=ds.length)(wm:∀(j:Nat) (d:D) (u:Value),ds[j]? =some d→args[j]? =some u→l9 W F0 d u):
  Calls P f args W fun e w'=>e=.returned (.bool true)∧Below W.heap.size W w':=by
 refine (hc.2 W F0 args (fun _ h=>h.elim) hsz wm).mono ?_
 rintro e w' ⟨v,rfl,qJ,hb⟩
 have hr:l9 w' F0 (.e (.lit (.bool true))) v:=qJ
 exact⟨by rw[aF.lit hr],hb⟩
theorem vq {α:Type}(cells:α→List E)(z:Nat)(good:α→Prop):∀(n:Nat) (ys:List E),ys.length=n*z→(∀i,i<n→∃a,(ys.drop (i*z)).take z=cells a∧good a)→∃l:List α,l.length=n∧ys=l.flatMap cells∧∀a∈l,good a
 |0,ys,hl,_=>⟨[],rfl,by rw[gS] at hl;rw[s9 hl];rfl,by simp⟩
 |n+1,ys,hl,h=>by
  rw[rl] at hl
  obtain⟨a,ha,hga⟩:=h 0 (Nat.succ_pos n)
  obtain⟨l,h1,h2,h3⟩:=vq cells z good n (ys.drop z) (by rw[fh];omega) fun i hi=>by
   have:=h (i+1) (by omega)
   rw[nG,show z+i*z=(i+1)*z by rw[rl];omega]
   exact this
  simp only[gS,rp] at ha
  refine⟨a::l,by simp[h1],?_,fun b hb=>?_⟩
  ·rw[n9,←ha,←h2,t4]
  ·rcases kY.1 hb with rfl|hb
   ·exact hga
   ·exact h3 b hb
end
end
section
def Rd(tb:TypeId→Option TyE)(t:TypeId)(d:Nat){α:Type}(c:Cd α)(W:α→Prop):Prop:=∀k xs,wtE tb (k+d) t xs→∃a,xs=c.f a∧W a
theorem Rd.up {tb:TypeId→Option TyE}{t:TypeId}{d:Nat}{α:Type}{c:Cd α}{W:α→Prop}(h:Rd tb t d c W)(m:Nat):Rd tb t (d+m) c W:=fun k xs h'=>h (k+m) xs (by rw[xE,qR m d];exact h')
def Wi(k:IntKind)(n:Int):Prop:=k.min≤n∧n≤k.max
section
variable {tb:TypeId→Option TyE} {t e:TypeId} {i j:TyE} {d:Nat} {α:Type} {c:Cd α} {W:α→Prop}
theorem rd_I {k:IntKind}(ht:tb t=some i)(hi:i.ty=.int k):Rd tb t 1 (cI k) (Wi k):=by
 intro n xs h
 obtain⟨i',h1,_,h⟩:=h
 rw[ht] at h1;cases h1
 rw[hi] at h
 obtain⟨m,h1,h2⟩:=h
 exact⟨m,h1,by unfold Wi;simpa[Lit.wf] using h2⟩
theorem rd_B(ht:tb t=some i)(hi:i.ty=.bool):Rd tb t 1 cB (fun _=>True):=by
 intro n xs h
 obtain⟨i',h1,_,h⟩:=h
 rw[ht] at h1;cases h1
 rw[hi] at h
 obtain⟨m,h1⟩:=h
 exact⟨m,h1,trivial⟩
theorem rd_L(ht:tb t=some i)(he:tb e=some j)(hc:Rd tb e d c W)(hi:i.ty=.slice e:=by exact rfl)(hz:c.sz=j.size:=by exact rfl):Rd tb t (d+1) (cL c) (fun l=>l.length≤maxLen∧∀a∈l,W a):=by
 intro n xs h
 obtain⟨i',h1,_,h⟩:=h
 rw[ht] at h1;cases h1
 rw[hi] at h
 obtain⟨j',m,ys,h1,h2,h3,h4,h5⟩:=h
 rw[he] at h1;cases h1
 obtain⟨l,h6,h7,h8⟩:=vq c.f j.size W m ys h3 fun i hi=>hc n _ (h5 i hi)
 refine⟨l,?_,by omega,h8⟩
 rw[h2,h7,←h6,←hz];rfl
theorem mu {xs:List E}{n:Nat}{ys zs:List E}(h1:xs.take n=ys)(h2:xs.drop n=zs):xs=ys++zs:=by
 rw[←h1,←h2,t4]
theorem Jf {P:Program}{H:Type}{enc:TypeId×Value→H}{Wd:World}{sp:Nat→Bool}{hd:Bool}{base k:Nat}{v:Value}{dw:DataW H}{p:List MemPlace}{r:Reach}{b0:Nat}(tok:TOk P tb)(hok:Iw tb (k+d) t=true)(ht:tb t=some i)(hc:Rd tb t d c W)(ur:Value.okWide P Wd r b0 t v)(h:DataW.Trod enc P Wd base sp hd t v dw p):
  ∃a,l9 Wd F0 (argD i.ty.agg (c.f a)) v∧W a:=by
 obtain⟨xs,h1,h2⟩:=arg_rep tok hok ht ur h
 obtain⟨a,rfl,h3⟩:=hc k xs h1
 exact⟨a,h2,h3⟩
end
end
theorem rd_A {tb:TypeId→Option TyE}{t e:TypeId}{i j:TyE}{d n:Nat}{α:Type}{c:Cd α}{W:α→Prop}(ht:tb t=some i)(he:tb e=some j)(hc:Rd tb e d c W)(hi:i.ty=.arr n e:=by exact rfl)(hz:c.sz=j.size:=by exact rfl):Rd tb t (d+1) (cA n c) (fun v=>∀a∈v.toList,W a):=by
 intro m xs h
 obtain⟨i',h1,_,h⟩:=h
 rw[ht] at h1;cases h1
 rw[hi] at h
 obtain⟨j',h1,h3,h5⟩:=h
 rw[he] at h1;cases h1
 obtain⟨l,h6,h7,h8⟩:=vq c.f j.size W n xs h3 fun i hi=>hc m _ (h5 i hi)
 exact⟨⟨l.toArray,by simpa using h6⟩,h7,h8⟩
def QR(x:am):Prop:=(True∧True∧∀a∈x.vN.vW.toList,Wi .u32 a)∧(True∧True∧∀a∈x.vD.vW.toList,Wi .u32 a)
theorem SB {x:ap}(h:∀a∈x.vW.toList,Wi .u32 a):okI x:=fun j hj=>by
 have h2:=h x.vW[j]! (by rw[bT x.vW j hj];simp)
 exact⟨h2.1,by have:x.vW[j]!≤4294967295:=h2.2;omega⟩
theorem okR_of {x:am}(h:QR x):okR x:=⟨SB h.1.2.2,SB h.2.2.2⟩
def QL(l:List am):Prop:=l.length≤maxLen∧∀x∈l,QR x
theorem QL.nu {l:List am}(h:QL l):l=(l.map oI).map nv∧(l.map oI).length≤9223372036854775807:=by
 refine⟨(ui fun x hx=>okR_of (h.2 x hx)).symm,?_⟩
 rw[bg]
 exact dm h.1 (by decide)
section
section
variable {m nn:Nat} {A B C x:List Nu} {a:Ans}
theorem P_times(hA:A.length=m*nn)(hm:m≤2000)(hn:nn≤2000){i:Nat}(hi:i<m):lV ⟨m,nn,A.map nv⟩ i (x.map nv)=some (nv (cj (jt A nn i) x)):=by
 obtain⟨h1,h2,h3⟩:=zH hm hn hi
 have hr:=Il A nn i
 unfold lV
 dsimp only
 have e1:i64.wrap ((i:Int)*(nn:Int))=((i*nn:Nat):Int):=by rw[←ir,eh (by omega) (by omega)]
 have e2:i64.wrap ((i64.wrap ((i:Int)+1))*(nn:Int))=((i*nn+nn:Nat):Int):=by
  rw[eh (z:=(i:Int)+1) (by omega) (by omega),show (i:Int)+1=((i+1:Nat):Int) by omega,←ir,h3,eh (by omega) (by omega)]
 have e3:zy (A.map nv) ((i*nn:Nat):Int) ((i*nn+nn:Nat):Int)=(jt A nn i).map nv:=by
  unfold zy jt
  rw[←xD,←vP]
  congr 2;omega
 rw[e1,e2,e3,bg,aC,tJ (.inl (by omega))]
 rfl
theorem G7 {f:Nat→Rat}{K:Rat}:∀{n:Nat},(∀i,i<n→-K≤f i∧f i≤K)→-((n:Rat)*K)≤aT n f∧aT n f≤(n:Rat)*K
 |0,_=>by
  have:((0:Nat):Rat)=0:=rfl
  rw[this]
  show -(0*K)≤(0:Rat)∧(0:Rat)≤0*K
  grind
 |n+1,h=>by
  have ih:=G7 (f:=f) (K:=K) (n:=n) fun i hi=>h i (by omega)
  have h2:=h n (by omega)
  have:((n+1:Nat):Rat)=(n:Rat)+1:=by exact_mod_cast rfl
  rw[this]
  show -(((n:Rat)+1)*K)≤aT n f+f n∧aT n f+f n≤((n:Rat)+1)*K
  grind
theorem II {a b:Int}(h:a≤b):(a:Rat)≤(b:Rat):=by exact_mod_cast h
theorem Qu {q:Rat}{K:Nat}(h:IsI q K):-(K:Rat)≤q∧q≤(K:Rat):=by
 obtain⟨z,rfl,hz⟩:=h
 have e:((K:Int):Rat)=(K:Rat):=rfl
 have h1:=II (show -(K:Int)≤z by omega)
 have h2:=II (show z≤(K:Int) by omega)
 rw[Rat.intCast_neg,e] at h1
 exact⟨h1,h2⟩
structure X8(nn:Nat)(x:List Nu):Prop where
 len:x.length=nn
 g:∀k,k<nn→au x[k]! =true
 p:∀k,k<nn→Pq 255 (rv x[k]!)
 pos:∀k,k<nn→0≤rv x[k]!
theorem X8.le(h:X8 nn x){k:Nat}(hk:k<nn):rv x[k]!≤255:=by
 have h1:=(h.p k hk).1
 have h2:=(vp (rv x[k]!)).1
 have h3:(1:Rat)≤((rv x[k]!).den:Rat):=by
  have:1≤(rv x[k]!).den:=(rv x[k]!).den_pos
  exact_mod_cast this
 have h4:((rv x[k]!).num:Rat)≤255:=II (show (rv x[k]!).num≤255 by omega)
 have h5:=Jj h3 (h.pos k hk)
 grind
theorem V7.row(hd:V7 m nn A B C)(hx:X8 nn x){i:Nat}(hi:i<m):au (cj (jt A nn i) x)=true∧rv (cj (jt A nn i) x)=aT nn (fun k=>rv A[i*nn+k]! *rv x[k]!)∧-80325≤rv (cj (jt A nn i) x)∧rv (cj (jt A nn i) x)≤80325:=by
 have hs:=hd.sz
 have n5:=hd.n5
 have hlen:(jt A nn i).length=nn:=by
  by_cases h0:nn=0
  ·subst h0;unfold jt;simp
  ·exact (qG hd.lA hi (k:=0) (by omega)).1
 have fq:∀k,k<nn→(jt A nn i)[k]! =A[i*nn+k]! :=fun k hk=>(qG hd.lA hi hk).2
 obtain⟨v1,v2⟩:=Km (c:=jt A nn i) (x:=x) (P:=63*255) (by rw[hlen,hx.len]) (by omega) (fun k hk=>by rw[fq k (by omega)];exact (hd.a _ (hs.idx hi (by omega))).1) (fun k hk=>hx.g k (by omega)) (by decide) (by decide) fun k hk=>by
  rw[fq k (by omega)]
  exact (Pq.int (hd.a _ (hs.idx hi (by omega))).2 (by decide)).mul (hx.p k (by omega))
 rw[hlen,ay (g:=fun k=>rv A[i*nn+k]! *rv x[k]!) fun k hk=>by rw[fq k hk]] at v2
 refine⟨v1,v2,?_⟩
 have hb:=G7 (n:=nn) (K:=16065) (f:=fun k=>rv A[i*nn+k]! *rv x[k]!) fun k hk=>by
  obtain⟨b1,b2⟩:=Qu (hd.a _ (hs.idx hi hk)).2
  have b1:(-63:Rat)≤rv A[i*nn+k]! :=b1
  have b2:rv A[i*nn+k]!≤(63:Rat):=b2
  have b3:=hx.pos k hk
  have b4:=hx.le hk
  have c1:=Jj b1 b3
  have c2:=Jj b2 b3
  constructor <;> grind
 have hn:((nn:Nat):Rat)≤5:=II (a:=(nn:Int)) (b:=5) (by omega)
 have Gg:=Jj hn (show (0:Rat)≤16065 by decide)
 rw[v2]
 constructor <;> grind
end
end
section
theorem AF {l:List Nu}{i:Nat}(hi:i<l.length+l.length):(fR l)[i]! =if i<l.length then l[i]! else eU l[i - l.length]! :=by
 unfold fR
 by_cases h:i<l.length
 ·rw[ah h]
  exact cZ (by rw[za h];exact uz h)
 ·rw[ai h]
  exact cZ (by rw[qi (by omega),dW,uz (by omega)];rfl)
theorem Iz(l:List Nu):(fR l).length=l.length+l.length:=by unfold fR;rw[cJ,bg]
theorem OQ {l:List Nu}{K:Nat}(h:∀i,i<l.length→au l[i]! =true∧IsI (rv l[i]!) K):∀i,i<l.length+l.length→au (fR l)[i]! =true∧IsI (rv (fR l)[i]!) K:=fun i hi=>by
 rw[AF hi]
 split
 ·exact h i (by omega)
 ·rw[ob,ik]
  exact⟨(h _ (by omega)).1,(h _ (by omega)).2.neg⟩
theorem R1 {x y:Nu}{D:Rat}{K:Nat}(hx:au x=true)(hy:au y=true)(h0:D≠0)(hD:IsI D K)(h1:Dn D K (rv x))(h2:Dn D K (rv y))(hK:2*(K*K)<LIM):au (xa x y)=true∧rv (xa x y)=rv x - rv y:=by
 have e:xa x y=jw x (eU y):=by
  rw[KM,oW,xb,oS (AC (AY y.1))]
  rfl
 have g:au (eU y)=true:=by rw[ob];exact hy
 obtain⟨g1,g2⟩:=og hx g (Dn.pq hD h0 h1) (by rw[ik];exact Dn.pq hD h0 h2.neg) hK
 rw[e]
 refine⟨g1,?_⟩
 rw[g2,ik];grind
section
variable {m nn:Nat} {A b:List Nu}
structure Sy(m nn:Nat)(A b:List Nu):Prop where
 m3:m≤3
 n5:nn≤5
 lA:A.length=m*nn
 lb:b.length=m
 gA:∀i,i<m*nn→au A[i]! =true∧IsI (rv A[i]!) 63
 gb:∀i,i<m→au b[i]! =true∧IsI (rv b[i]!) 20000
theorem Sy.idx(_:Sy m nn A b){i k:Nat}(hi:i<m)(hk:k<nn):i*nn+k<m*nn:=by
 calc i*nn+k<i*nn+nn:=by omega
  _=(i+1)*nn:=by rw[bP];omega
  _≤m*nn:=cz _ hi
theorem Sy.sz(h:Sy m nn A b):Sz (m+m) nn (fR A) (fR b) (List.replicate nn (nOf 0)):=by
 have m3:=h.m3
 refine⟨by omega,h.n5,by rw[Iz,h.lA,bP],by rw[Iz,h.lb],by simp,fun i hi=>?_,fun i hi=>?_,fun k hk=>?_⟩
 ·have:=OQ (l:=A) (K:=63) (fun j hj=>h.gA j (by rw[←h.lA];exact hj)) i (by rw[h.lA,←bP];exact hi)
  exact⟨this.1,this.2.mono (by decide)⟩
 ·have:=OQ (l:=b) (K:=20000) (fun j hj=>h.gb j (by rw[←h.lb];exact hj)) i (by rw[h.lb];exact hi)
  exact⟨this.1,this.2.mono (by decide)⟩
 ·rw[ju hk]
  exact⟨of0.1,by rw[of0.2];exact IsI.zero _⟩
theorem Sy.aL(h:Sy m nn A b){i k:Nat}(hi:i<m)(hk:k<nn):(fR A)[i*nn+k]! =A[i*nn+k]! :=by
 have:=h.idx hi hk
 rw[AF (by rw[h.lA];omega),ah (by rw[h.lA];omega)]
theorem Sy.aR(h:Sy m nn A b){i k:Nat}(hi:i<m)(hk:k<nn):rv (fR A)[(m+i)*nn+k]! =-rv A[i*nn+k]! :=by
 have h1:=h.idx hi hk
 have e:(m+i)*nn+k=m*nn+(i*nn+k):=by rw[bP,xE]
 rw[e,AF (by rw[h.lA];omega),ai (by rw[h.lA];omega),ik,h.lA,PG]
theorem Sy.bL(h:Sy m nn A b){i:Nat}(hi:i<m):(fR b)[i]! =b[i]! :=by rw[AF (by rw[h.lb];omega),ah (by rw[h.lb];omega)]
theorem Sy.bR(h:Sy m nn A b){i:Nat}(hi:i<m):rv (fR b)[m+i]! =-rv b[i]! :=by
 rw[AF (by rw[h.lb];omega),ai (by rw[h.lb];omega),ik,h.lb,PG]
theorem Sy.system(h:Sy m nn A b):qq m nn A b=true:=by
 have m3:=h.m3
 have n5:=h.n5
 unfold qq GH
 rw[Jh (l:=A) fun i hi=>(h.gA i (by rw[←h.lA];exact hi)).1,Jh (l:=b) fun i hi=>(h.gb i (by rw[←h.lb];exact hi)).1,h.lA,h.lb]
 have q1:decide ((0:Int)≤(m:Int))=true:=det_
 have q2:decide ((0:Int)≤(nn:Int))=true:=det_
 have q3:decide ((m:Int)≤1000)=true:=det_
 have q4:decide ((nn:Int)≤2000)=true:=det_
 have q5:decide (((m*nn:Nat):Int)=(m:Int)*(nn:Int))=true:=aB (by rw[ir])
 have q6:decide ((m:Int)=(m:Int))=true:=aB rfl
 rw[q1,q2,q3,q4,q5,q6]
 rfl
theorem Sy.equal(h:Sy m nn A b):∃a n,zM m nn A b 4000=(a,n,0)∧xm m nn A b a=true∧FR a∧(a.kind=1∨a.kind=2)∧
  (a.kind=2→∃y:Nat→Rat,(∀i,i<m→True)∧(∀k,k<nn→0≤aT m fun i=>rv A[i*nn+k]! *y i)∧aT m (fun i=>y i*rv b[i]!)<0):=by
 have hs:=h.sz
 have m3:=h.m3
 have n5:=h.n5
 obtain⟨a,n,e,_,_,ra,hD⟩:=Kz hs
 obtain⟨q,_,l1,l2,l3⟩:=Sf hs.lA hs.lB hs.lC (fun i hi=>(hs.gB i hi).1) (fun k hk=>(hs.gC k hk).1) ra
 have hq:zM m nn A b 4000=vn m nn A b 4000:=by
  unfold zM
  rw[ah (by rw[h.system];rfl),bH,bH]
 have h3:a.kind≠3:=fun h3=>by
  have:=(q.ray h3).2.2
  rw[ay (g:=fun _=>0) fun k hk=>by rw[ju hk,of0.2,Jr],fa] at this
  grind
 have S7:∀f:Nat→Rat,aT (m+m) f=aT m f+aT m fun i=>f (m+i):=fun f=>u5 m f m
 rw[hq]
 unfold vn
 dsimp only
 rw[e]
 by_cases h1:a.kind=1
 ·rw[ah (.inr (by dsimp only;omega))]
  have ra':=ra
  unfold ln at ra'
  rw[ah h1] at ra'
  simp only[bK] at ra'
  obtain⟨⟨⟨r0,r1⟩,_⟩,_⟩:=ra'
  have r0:=bq r0
  unfold kH at r1
  rw[bK] at r1
  refine⟨_,_,rfl,?_,⟨by show a.x.length≤_;omega,by simp,by show a.ray.length≤_;omega⟩,.inl h1,fun e2=>by have e2:a.kind=2:=e2;omega⟩
  unfold xm
  dsimp only
  rw[ah h1,r1.1,r0]
  have hc:xq (jt A nn) a.x b (fun c=>decide (c=0))=true:=by
   unfold xq
   rw[a7]
   intro i hi
   have hi:=iq.1 hi
   rw[h.lb] at hi
   have hr:jt (fR A) nn i=jt A nn i:=by
    unfold jt fR
    have:i*nn+nn≤A.length:=by
     rw[h.lA]
     calc i*nn+nn=(i+1)*nn:=by rw[bP];omega
      _≤m*nn:=cz _ hi
    rw[JD (by omega),t0 (by rw[fh];omega)]
   have c1:=a7.1 r1.2 i (iq.2 (by rw[Iz,h.lb];omega))
   rw[bK,hr] at c1
   obtain⟨v1,v2⟩:=lj c1.1
   have hlen:(jt A nn i).length=nn:=by
    by_cases h0:nn=0
    ·subst h0;unfold jt;simp
    ·exact (qG h.lA hi (k:=0) (by omega)).1
   rw[hlen,ay (g:=fun k=>rv A[i*nn+k]! *rv a.x[k]!) fun k hk=>by rw[(qG h.lA hi hk).2]] at v2
   obtain⟨p1,p2⟩:=q.prim (by omega)
   have s1:=p2 i (by omega)
   have s2:=p2 (m+i) (by omega)
   rw[h.bL hi,ay (g:=fun k=>rv A[i*nn+k]! *rv a.x[k]!) fun k hk=>by rw[h.aL hi hk]] at s1
   rw[h.bR hi,ay (g:=fun k=>(-1)*(rv A[i*nn+k]! *rv a.x[k]!)) fun k hk=>by rw[h.aR hi hk];grind,fB] at s2
   rw[bK]
   refine⟨c1.1,aB ((nP c1.1 (h.gb i hi).1).2.2.2.2 ?_)⟩
   rw[v2];grind
  rw[hc]
  rfl
 ·have h2:a.kind=2:=by have:=q.kinds;omega
  obtain⟨D,d0,d1,dy⟩:=hD h2
  rw[ai (by simp[h2])]
  have ra':=ra
  unfold ln at ra'
  rw[ai h1,ah h2] at ra'
  simp only[bK] at ra'
  obtain⟨⟨r0,r1⟩,r2⟩:=ra'
  have r0:=bq r0
  obtain⟨q1,q2,_⟩:=w8 (hs.lC) (fun k hk=>(hs.gC k hk).1) r1
  have hKK:2*(KT*KT)<LIM:=bb rfl
  have hg:∀i,i<m→au (xa a.y[i]! a.y[m+i]!)=true∧rv (xa a.y[i]! a.y[m+i]!)=rv a.y[i]! - rv a.y[m+i]! :=fun i hi=>R1 (q2 i (by omega)).1 (q2 (m+i) (by omega)).1 d0 d1 (dy i (by omega)) (dy (m+i) (by omega)) hKK
  have fq:∀i,i<m→((List.range m).map fun i=>xa a.y[i]! a.y[m+i]!)[i]! =xa a.y[i]! a.y[m+i]! :=fun i hi=>cZ (bS _ hi)
  generalize Qy:((List.range m).map fun i=>xa a.y[i]! a.y[m+i]!)=yy at fq
  have QA:yy.length=m:=by rw[←Qy];simp
  have hyg:∀i,i<m→au yy[i]! =true∧rv yy[i]! =rv a.y[i]! - rv a.y[m+i]!∧Dn D (2*KT) (rv yy[i]!):=fun i hi=>by
   rw[fq i hi]
   refine⟨(hg i hi).1,(hg i hi).2,?_⟩
   rw[(hg i hi).2,show rv a.y[i]! - rv a.y[m+i]! =rv a.y[i]! +-rv a.y[m+i]! by grind,show 2*KT=KT+KT by omega]
   exact (dy i (by omega)).add (dy (m+i) (by omega)).neg
  have iW:yy.all au=true:=Jh fun i hi=>(hyg i (by omega)).1
  rw[iW,ah rfl]
  have hk0:=(q.none h2).1
  have Mo:=(q.none h2).2
  have hcol:∀k,k<nn→0≤aT m fun i=>rv A[i*nn+k]! *rv yy[i]! :=fun k hk=>by
   have:=hk0 k hk
   rw[S7,ay (n:=m) (f:=fun i=>rv (fR A)[i*nn+k]! *rv a.y[i]!) (g:=fun i=>rv A[i*nn+k]! *rv a.y[i]!) fun i hi=>by rw[h.aL hi hk],ay (n:=m) (f:=fun i=>rv (fR A)[(m+i)*nn+k]! *rv a.y[m+i]!) (g:=fun i=>(-1)*(rv A[i*nn+k]! *rv a.y[m+i]!)) fun i hi=>by rw[h.aR hi hk];grind,fB] at this
   rw[ay (g:=fun i=>rv A[i*nn+k]! *rv a.y[i]! - rv A[i*nn+k]! *rv a.y[m+i]!) fun i hi=>by rw[(hyg i hi).2.1];grind,ue (fun i=>rv A[i*nn+k]! *rv a.y[i]!)]
   grind
  have nB:aT m (fun i=>rv yy[i]! *rv b[i]!)<0:=by
   have:=Mo
   rw[S7,ay (n:=m) (f:=fun i=>rv a.y[i]! *rv (fR b)[i]!) (g:=fun i=>rv a.y[i]! *rv b[i]!) fun i hi=>by rw[h.bL hi],ay (n:=m) (f:=fun i=>rv a.y[m+i]! *rv (fR b)[m+i]!) (g:=fun i=>(-1)*(rv a.y[m+i]! *rv b[i]!)) fun i hi=>by rw[h.bR hi];grind,fB] at this
   rw[ay (g:=fun i=>rv a.y[i]! *rv b[i]! - rv a.y[m+i]! *rv b[i]!) fun i hi=>by rw[(hyg i hi).2.1];grind,ue (fun i=>rv a.y[i]! *rv b[i]!)]
   grind
  refine⟨_,_,rfl,?_,⟨by show a.x.length≤_;omega,by show yy.length≤_;omega,by show a.ray.length≤_;omega⟩,.inr h2,fun _=>⟨fun i=>rv yy[i]!,fun _ _=>trivial,hcol,nB⟩⟩
  unfold xm
  dsimp only
  rw[ai h1,ah h2,aB r0,aB QA,iW]
  have hKT:1≤KT:=bb rfl
  have hc:xq (rE A m nn) yy (List.replicate nn (nOf 0)) (fun c=>decide (0≤c))=true:=by
   unfold xq
   rw[a7]
   intro k hk
   have hk:=iq.1 hk
   rw[sS] at hk
   have hl:(rE A m nn k).length=m:=by simp[rE]
   have Pb:∀i,i<m→(rE A m nn k)[i]! =A[i*nn+k]! :=fun i hi=>A6 hi
   obtain⟨v1,v2⟩:=qE (c:=rE A m nn k) (x:=yy) (by omega) (by omega) (fun i hi=>by rw[Pb i (by omega)];exact (h.gA _ (h.idx (by omega) hk)).1) (fun i hi=>(hyg i (by omega)).1) d0 d1 fun i hi=>by
    rw[Pb i (by omega)]
    exact (Dn.int (h.gA _ (h.idx (by omega) hk)).2 (hyg i (by omega)).2.2).mono (by rw[←eR];exact cz _ (by decide))
   rw[hl,ay (g:=fun i=>rv A[i*nn+k]! *rv yy[i]!) fun i hi=>by rw[Pb i hi]] at v2
   rw[bK]
   refine⟨v1,aB ?_⟩
   rw[ju hk]
   refine (nP v1 of0.1).2.1.2 ?_
   rw[of0.2,v2]
   exact hcol k hk
  obtain⟨w1,w2⟩:=qE (c:=yy) (x:=b) (by rw[QA,h.lb]) (by omega) (fun i hi=>(hyg i (by omega)).1) (fun i hi=>(h.gb i (by omega)).1) d0 d1 fun i hi=>by
   rw[Js]
   exact (Dn.int (h.gb i (by omega)).2 (hyg i (by omega)).2.2).mono (by rw[←eR];exact cz _ (by decide))
  rw[QA] at w2
  have JW:bE (cj yy b)=-1:=by
   rw[pX w1,w2]
   exact vK (Er.2 nB)
  unfold oU
  rw[hc,w1,JW]
  rfl
theorem KI {x y:Nat→Rat}{a:Nat→Nat→Rat}{c:Nat→Rat}(hx:∀k,k<nn→0≤x k)(hc:∀i,i<m→c i=aT nn fun k=>a i k*x k)(hy:∀k,k<nn→0≤aT m fun i=>a i k*y i)(hn:aT m (fun i=>y i*c i)<0):False:=by
 have e:aT m (fun i=>y i*c i)=aT nn fun k=>x k*aT m fun i=>a i k*y i:=by
  rw[ay (g:=fun i=>aT nn fun k=>y i*(a i k*x k)) fun i hi=>by rw[hc i hi,fB],G8]
  refine ay fun k _=>?_
  rw[←fB]
  exact ay fun i _=>by grind
 have:=w5 (n:=nn) (f:=fun k=>x k*aT m fun i=>a i k*y i) fun k hk=>Cu (hx k hk) (hy k hk)
 rw[←e] at this
 grind
end
section
variable {R Cc:Int} {A B C y:List Nu}
theorem Oi(hA:A.length≤9223372036854775807)(hB:B.length≤9223372036854775807)(hC:C.length≤9223372036854775807)(hY:y.length≤9223372036854775807):ff ⟨R,Cc,A.map nv⟩ (C.map nv) (B.map nv) (y.map nv)=some true:=by
 obtain⟨f,hf,kf⟩:=R_few (R:=R) (Cc:=Cc) (size:=5) (bits:=6) hA hB hC
 obtain⟨sy,hsy,_⟩:=DT (l:=y) (bits:=60) hY
 obtain⟨z,hz,pz⟩:=rN (b:=d7 (C.map nv)) hC (fun i=>decide (0≤bE C[i]!)) (fun _=>true) (fun i hi=>by
  unfold d7
  rw[bg,cH _ _,aC,sd hi,Sv,ab,sane]
  by_cases h3:0≤bE C[i]!
  ·rw[aB h3,def_];rfl
  ·rw[bm h3,det_];rfl) (by
  unfold d7
  rw[bg,cr _ _])
 unfold ff
 rw[hf,sane,hsy,hz]
 cases f with
 |false=>rfl
 |true=>
  have few:=kf rfl
  obtain⟨b,hb,kb⟩:=R_whole (R:=R) (Cc:=Cc) hA hB hC few.sA.good few.sB.good few.sC.good
  rw[hb]
  cases b with
  |false=>rfl
  |true=>
   obtain⟨m,nn,rfl,rfl,hd⟩:=Ui few (kb rfl)
   dsimp only
   by_cases hm3:m≤3
   rotate_left
   ·rw[aB (show (3:Int)<(m:Int) by omega)];rfl
   rw[bm (show ¬(3:Int)<(m:Int) by omega)]
   cases sy with
   |false=>rfl
   |true=>
    cases z with
    |inl r=>obtain⟨i,_,_,rfl⟩:=pz;rfl
    |inr u=>
     have hs:=hd.sz
     have n5:=hd.n5
     obtain⟨l1,l2,l3⟩:=hs.len
     have hlC:=hd.lC
     have hx:X8 nn C:=by
      refine⟨hlC,fun k hk=>(hd.c k hk).1,fun k hk=>(Pq.int (hd.c k hk).2 (by decide)).mono (by decide),fun k hk=>?_⟩
      have h1:=bq (Ix pz k (by omega))
      have h2:=r7 (hd.c k hk).1
      have:¬rv C[k]! <0:=fun e=>by have:=h2.2 e;omega
      grind
     -- r4 right side that x makes
     obtain⟨c,hc⟩:∃c:List Nu,c=(List.range m).map fun i=>cj (jt A nn i) C:=⟨_,rfl⟩
     have t8:c.length=m:=by rw[hc];simp
     have hcg:∀i,i<m→c[i]! =cj (jt A nn i) C:=fun i hi=>by rw[hc];exact cZ (bS _ hi)
     have Ry:∀i,i<m→au c[i]! =true∧rv c[i]! =aT nn (fun k=>rv A[i*nn+k]! *rv C[k]!)∧IsI (rv c[i]!) 20000:=fun i hi=>by
      obtain⟨g1,g2,_⟩:=hd.row hx hi
      rw[hcg i hi]
      refine⟨g1,g2,?_⟩
      rw[g2]
      have:=IsI.sum (n:=nn) (K:=63*63) (f:=fun k=>rv A[i*nn+k]! *rv C[k]!) fun k hk=>(hd.a _ (hs.idx hi hk)).2.mul (hd.c k hk).2
      exact this.mono (by have:nn*(63*63)≤5*(63*63):=cz _ n5;omega)
     have s1:Sy m nn A c:=⟨hm3,n5,hd.lA,t8,hd.a,fun i hi=>⟨(Ry i hi).1,(Ry i hi).2.2⟩⟩
     have s2:Sy m nn A B:=⟨hm3,n5,hd.lA,hd.lB,hd.a,fun i hi=>⟨(hd.b i hi).1,(hd.b i hi).2.mono (by decide)⟩⟩
     obtain⟨a,na,ea,va,la,ka,pa⟩:=s1.equal
     obtain⟨d,nd,ed,vd,ld,_,_⟩:=s2.equal
     have k1:a.kind=1:=by
      rcases ka with e|e
      ·exact e
      ·obtain⟨w,_,w2,w3⟩:=pa e
       exact (KI (a:=fun i k=>rv A[i*nn+k]!) hx.pos (fun i hi=>(Ry i hi).2.1) w2 w3).elim
     have key:=uk (b:=d6 ⟨(m:Int),(nn:Int),A.map nv⟩ (C.map nv)) (fun i:Nat=>(((List.range i).map fun i=>cj (jt A nn i) C).map nv,(i:Int))) 0 m (c.map nv) (cy _) (fun i _ hi=>?_) ?_
     rotate_left
     ·unfold d6
      dsimp only
      rw[cH _ _,P_times hs.lA (by omega) (by omega) hi,ab,aC (by simp;omega),eh (by omega) (by omega),wo,iZ,iZ]
      rfl
     ·unfold d6
      dsimp only
      rw[cr _ _,hc]
     have e0:((((List.range 0).map fun i=>cj (jt A nn i) C).map nv,((0:Nat):Int)))=(([]:List am),(0:Int)):=rfl
     rw[e0] at key
     simp only[ab,c8,cF]
     rw[key]
     simp only[ab]
     rw[JO (by omega) (by omega) (by omega),ea,JO (by omega) (by omega) (by omega),ed]
     have e1:(rG (a,na,0)).1=zR a∧(rG (a,na,0)).2.2=0∧(rG (a,na,0)).1.vKind=a.kind:=⟨rfl,rfl,rfl⟩
     have e2:(rG (d,nd,0)).1=zR d∧(rG (d,nd,0)).2.2=0:=⟨rfl,rfl⟩
     simp only[ab]
     rw[e1.2.2,e1.1,e1.2.1,e2.1,e2.2,k1,show (⟨(2:Int),([]:List am),y.map nv,([]:List am)⟩:ci)=zR ⟨2,[],y,[]⟩ from rfl,rJ (by omega) (by omega) la,rJ (by omega) (by omega) ⟨by simp,hY,by simp⟩,rJ (by omega) (by omega) ld]
     have c1:o9 m nn A c a=0:=by
      unfold o9
      rw[ah s1.system,bH,bH,ah va]
     have c2:o9 m nn A B d=0:=by
      unfold o9
      rw[ah s2.system,bH,bH,ah vd]
     have c3:o9 m nn A c ⟨2,[],y,[]⟩=250:=by
      unfold o9
      rw[ah s1.system,bH,bH]
      refine ai fun hv=>?_
      unfold xm at hv
      dsimp only at hv
      rw[ai (show ¬(2:Int)=1 by decide),ah rfl] at hv
      simp only[bK] at hv
      obtain⟨_,QA,_,oY,JW⟩:=hv
      have QA:=bq QA
      unfold oU at JW
      rw[bK] at JW
      obtain⟨_,v3⟩:=lj JW.1
      have h4:=(r7 JW.1).1 (by have:=bq JW.2;omega)
      rw[v3,QA] at h4
      refine KI (a:=fun i k=>rv A[i*nn+k]!) hx.pos (fun i hi=>(Ry i hi).2.1) (y:=fun i=>rv y[i]!) (fun k hk=>?_) h4
      unfold xq at oY
      have h5:=a7.1 oY k (iq.2 (by simpa using hk))
      rw[bK] at h5
      obtain⟨_,v5⟩:=lj h5.1
      have h6:=bq h5.2
      rw[ju hk] at h6
      have h7:=(nP h5.1 of0.1).2.1.1 h6
      rw[of0.2,v5,show (rE A m nn k).length=m by simp[rE],ay (g:=fun i=>rv A[i*nn+k]! *rv y[i]!) fun i hi=>by rw[A6 hi]] at h7
      exact h7
     rw[c1,c2,c3]
     rfl
end
theorem Me {a:eZ}{x b y:List am}(hV:QL a.vV)(hB:QL b)(hC:QL x)(hY:QL y):ff a x b y=some true:=by
 obtain⟨R,Cc,V⟩:=a
 dsimp only at hV
 rw[hV.nu.1,hB.nu.1,hC.nu.1,hY.nu.1]
 exact Oi hV.nu.2 hB.nu.2 hC.nu.2 hY.nu.2
end
section
open Go.ChangeShapes Go.WideShapes Go.ChangeAt Go.RowKit Go.ChangeMaps
namespace simplexBalances
theorem k0:(Rows.simplexBalancesRow.wf (OpenSpec.ofChange Rows.simplexBalancesSpec))=true:=by kernel_rfl
theorem k1:(laidOutB prog)=true:=by kernel_rfl
theorem k2:(mapsRowed prog)=true:=by kernel_rfl
theorem k3:(f9.params.all (prog.readableRec ·))=true:=by kernel_rfl
theorem k4:(namedTie prog Rows.simplexBalancesRow.named Rows.simplexBalancesSpec.vars)=true:=by kernel_rfl
theorem k5:((Rows.simplexBalancesRow.stops == []))=true:=by kernel_rfl
theorem k6:((prog.stops == []))=true:=by kernel_rfl
theorem k7:((Rows.simplexBalancesRow.knobs == []))=true:=by kernel_rfl
theorem k8:((prog.stopKnobs == []))=true:=by kernel_rfl
theorem k9:((Rows.simplexBalancesRow.inPlace == prog.inPlace 9))=true:=by kernel_rfl
theorem k10:((Rows.simplexBalancesRow.unfollowed == prog.unfollowed 9))=true:=by kernel_rfl
theorem k11:((Rows.simplexBalancesRow.recurses == prog.recurses 9))=true:=by kernel_rfl
theorem k12:((Rows.simplexBalancesRow.named == prog.varsNamed 9))=true:=by kernel_rfl
theorem k13:((Rows.simplexBalancesRow.maps == (f9.params.toList++Rows.simplexBalancesSpec.plain.varTypes prog).any (prog.mapsRec ·)))=true:=by kernel_rfl
theorem k14:((Rows.simplexBalancesRow.ifaces == (f9.params.toList++Rows.simplexBalancesSpec.plain.varTypes prog).any (prog.ifacesRec ·)))=true:=by kernel_rfl
theorem k15:((Rows.simplexBalancesRow.mapsOut == prog.mapsAmong f9.resultTypes.toList))=true:=by kernel_rfl
theorem k16:((Rows.simplexBalancesRow.loops == (f9.params.toList++Rows.simplexBalancesSpec.plain.varTypes prog).any (prog.loopsFrom ·)))=true:=by kernel_rfl
theorem k17:((Rows.simplexBalancesRow.wideKeys == (f9.params.toList++Rows.simplexBalancesSpec.plain.varTypes prog++f9.resultTypes.toList).any (prog.wideKeysFrom ·)))=true:=by kernel_rfl
theorem k18:(Rows.simplexBalancesSpec.vars.all (prog.varReadable ·))=true:=by kernel_rfl
theorem k19:(f9.resultTypes.all (fun t=>prog.readableRec t&&decide (t<prog.types.size)))=true:=by kernel_rfl
theorem k20:((Rows.simplexBalancesRow.ifacesOut == f9.resultTypes.toList.any (prog.ifacesRec ·)))=true:=by kernel_rfl
theorem k21:((Rows.simplexBalancesRow.loopsOut == f9.resultTypes.toList.any (prog.loopsFrom ·)))=true:=by kernel_rfl
theorem k22:((Rows.simplexBalancesRow.plainKeys == prog.plainKeys))=true:=by kernel_rfl
theorem k23:(Rows.simplexBalancesRow.shortTexts.isNone)=true:=by kernel_rfl
theorem k24:(prog.stopsHeard)=true:=by kernel_rfl
theorem k25:(prog.mayEnter)=true:=by kernel_rfl
theorem k26:((Rows.simplexBalancesRow.lifted == prog.liftsFinal))=true:=by kernel_rfl
theorem k27:((prog.make == some Rows.simplexBalancesRow.make))=true:=by kernel_rfl
theorem k28:((Rows.simplexBalancesRow.kinds == (if Rows.simplexBalancesRow.domain.isEmpty then [] else f9.params.toList.map fun t=>match prog.underlying t with|some (.int k)=>some k|_=>none)))=true:=by kernel_rfl
theorem k29:((Rows.simplexBalancesRow.pinned == Rows.simplexBalancesRow.pinnedBy))=true:=by kernel_rfl
theorem k30:((Rows.simplexBalancesRow.veiled == (f9.params.toList++Rows.simplexBalancesSpec.plain.varTypes prog++f9.resultTypes.toList).any (prog.veiledRec ·)))=true:=by kernel_rfl
theorem k31:(Rows.simplexBalancesRow.veiledFits prog f9.params.toList (f9.params.toList++Rows.simplexBalancesSpec.plain.varTypes prog++f9.resultTypes.toList))=true:=by kernel_rfl
theorem n6 {a b:Bool}(h:a=true)(h2:b=true):(a&&b)=true:=by rw[h,h2];rfl
theorem closed:joinedFacts prog 9 f9 Rows.simplexBalancesSpec Rows.simplexBalancesRow=true:=by
 delta joinedFacts
 exact n6 (n6 (n6 (n6 (n6 (n6 (n6 (n6 (n6 (n6 (n6 (n6 (n6 (n6 (n6 (n6 (n6 (n6 (n6 (n6 (n6 (n6 (n6 (n6 (n6 (n6 (n6 (n6 (n6 (n6 (n6 k0 k1) k2) k3) k4) k5) k6) k7) k8) k9) k10) k11) k12) k13) k14) k15) k16) k17) k18) k19) k20) k21) k22) k23) k24) k25) k26) k27) k28) k29) k30) k31
end simplexBalances
end
end
end Go.Proofs.YtaedcknhkjpmlaaGreat
