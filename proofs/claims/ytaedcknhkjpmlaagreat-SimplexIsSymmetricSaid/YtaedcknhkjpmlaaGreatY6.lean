/-
  Lemmas, part 6. Conditions: none.
-/
import Derived.Test.YtaedcknhkjpmlaaGreatY5
set_option linter.all false
set_option maxRecDepth 100000
set_option maxHeartbeats 4000000
namespace Go.Proofs.YtaedcknhkjpmlaaGreat
open Go.RowKit Go.IntKind Tryz
noncomputable section
def ke(c:List Nu):Option Nat:=c.findIdx? fun x=>decide (0<bL x)
def g6:Nat→Dic→(Int×Int)×Dic
 |0,d=>((-1,0),d)
 |f+1,d=>match ke d.gc with
  |none=>((-1,0),d)
  |some s=>match jg d.rows s default d.rows.length with
   |none=>((-1,30),d)
   |some p=>if p.1<0 then (((s:Int),0),d) else
    let q:=dV d p.1.toNat s
    if q.1=0 then g6 f q.2 else ((-1,q.1),q.2)
def aR(d:Dic):(Int×Int)×Dic:=g6 ((d.most - d.piv).toNat+1) d
def uc(x:Nu)(r:Row):Row:=⟨r.k,r.c.set 0 x,r.b⟩
def jS(l:List Row):Nat→Nat
 |0=>0
 |i+1=>if p8 l[i]!.k l[jS l i]!.k<0 then i else jS l i
def co(d:Dic):Dic:=⟨d.rows.map (uc (nOf 1)),d.gk,d.gc.set 0 (nOf (-1)),d.n,d.piv,d.most⟩
def yf(c:List Nu):Option Nat:=c.findIdx? fun x=>decide (bL x≠0)
def jH(d:Dic):Int×Dic:=
 let p:=dV (co d) (jS d.rows d.rows.length) 0
 if p.1≠0 then p else
 let q:=aR p.2
 if q.1.2≠0∨bL q.2.gk<0 then (q.1.2,q.2) else
 if dA q.2.rows 0<0 then (0,q.2) else
 match yf q.2.rows[(dA q.2.rows 0).toNat]!.c with
 |none=>(0,q.2)
 |some s=>dV q.2 (dA q.2.rows 0).toNat s
def gF(l:List Row)(w:Nat)(c:List Nu):Nat→Nu×List Nu
 |0=>(nOf 0,List.replicate w (nOf 0))
 |k+1=>let g:=gF l w c k
  if 0≤dA l ((k+1:Nat):Int) then (xb c[k]! l[(dA l ((k+1:Nat):Int)).toNat]!.k g.1,ui c[k]! l[(dA l ((k+1:Nat):Int)).toNat]!.c (-1) g.2)
  else (g.1,g.2.set (k+1) (jJ g.2[k+1]! c[k]!))
def mL(d:Dic)(c:List Nu):Dic:=⟨d.rows.map (uc (nOf 0)),(gF (d.rows.map (uc (nOf 0))) d.gc.length c c.length).1,(gF (d.rows.map (uc (nOf 0))) d.gc.length c c.length).2,d.n,d.piv,d.most⟩
def mK(d:Dic)(c:List Nu):Int×Dic:=(if f5 (mL d c).gk (mL d c).gc then 0 else 30,mL d c)
def cP(l:List Row)(nn:Nat)(of:Row→Nu)(other:Nat→Nu):List Nu:=(List.range nn).map fun j=>if 0≤dA l ((j+1:Nat):Int) then of l[(dA l ((j+1:Nat):Int)).toNat]! else other (j+1)
def aH(m nn:Nat)(A B:List Nu)(most:Int):Dic:=
 ⟨(List.range m).map fun i=>⟨B[i]!,(List.range (1+nn+m)).map (fun t=>if 1≤t∧t≤nn then e9 A[i*nn+(t - 1)]! else nOf 0),((1+nn+i:Nat):Int)⟩,nOf 0,List.replicate (1+nn+m) (nOf 0),nn,0,most⟩
structure Ans where
 kind:Int
 x:List Nu
 y:List Nu
 ray:List Nu
 deriving DecidableEq
def we(nn:Nat)(d:Dic)(c:List Nu):Ans×Int×Int:=
 let a:=mK d c
 if a.1≠0 then (⟨0,[],[],[]⟩,0,a.1) else
 let q:=aR a.2
 if q.1.2≠0 then (⟨0,[],[],[]⟩,0,q.1.2) else
 let x:=cP q.2.rows nn Row.k fun _=>nOf 0
 if q.1.1<0 then (⟨1,x,bS q.2 nn,[]⟩,q.2.piv,0) else
 (⟨3,x,[],cP q.2.rows nn (fun r=>r.c[q.1.1.toNat]!) fun v=>if (v:Int)=q.1.1 then nOf 1 else nOf 0⟩,q.2.piv,0)
def iw(m nn:Nat)(A B C:List Nu)(most:Int):Ans×Int×Int:=
 let d:=aH m nn A B most
 if B.any (fun b=>decide (bL b<0))=true then
  let p:=jH d
  if p.1≠0 then (⟨0,[],[],[]⟩,0,p.1) else
  if bL p.2.gk<0 then (⟨2,[],bS p.2 nn,[]⟩,p.2.piv,0) else we nn p.2 C
 else we nn d C
section
def aG:Nat→(Nat→Rat)→Rat
 |0,_=>0
 |n+1,f=>aG n f+f n
theorem ay {f g:Nat→Rat}:∀{n:Nat},(∀t,t<n→f t=g t)→aG n f=aG n g
 |0,_=>rfl
 |n+1,h=>by unfold aG;rw[ay fun t ht=>h t (by omega),h n (by omega)]
theorem li(f g:Nat→Rat):∀n,aG n (fun t=>f t+g t)=aG n f+aG n g
 |0=>by show (0:Rat)=0+0;grind
 |n+1=>by unfold aG;rw[li f g n];grind
theorem eV(a:Rat)(f:Nat→Rat):∀n,aG n (fun t=>a*f t)=a*aG n f
 |0=>by simp[aG]
 |n+1=>by unfold aG;rw[eV a f n];grind
theorem eI:∀n,aG n (fun _=>0)=0
 |0=>rfl
 |n+1=>by unfold aG;rw[eI n];show (0:Rat)+0=0;grind
theorem l9(a:Nat)(x:Rat):∀n,a<n→aG n (fun t=>if t=a then x else 0)=x
 |0,h=>by omega
 |n+1,h=>by
  show aG n (fun t=>if t=a then x else 0)+(if n=a then x else 0)=x
  by_cases hn:n=a
  ·subst hn
   rw[ai rfl,ay (g:=fun _=>0) fun t ht=>ah (by omega),eI]
   grind
  ·rw[ah hn,l9 a x n (by omega)];grind
theorem zW(f g:Nat→Rat)(n:Nat):aG n (fun t=>f t - g t)=aG n f - aG n g:=by
 have:(fun t=>f t - g t)=fun t=>f t+(-1)*g t:=by funext t;grind
 rw[this,li f (fun t=>(-1)*g t),eV];grind
theorem GP(f:Nat→Nat→Rat)(m:Nat):∀n,aG n (fun i=>aG m (fun j=>f i j))=aG m (fun j=>aG n (fun i=>f i j))
 |0=>(eI m).symm
 |n+1=>by
  have:(fun j=>aG (n+1) fun i=>f i j)=fun j=>aG n (fun i=>f i j)+f n j:=rfl
  rw[this,li]
  show aG n (fun i=>aG m fun j=>f i j)+aG m (fun j=>f n j)=_
  rw[GP f m n]
theorem Cl {f:Nat→Rat}:∀{n:Nat},(∀t,t<n→0≤f t)→0≤aG n f
 |0,_=>by simp[aG]
 |n+1,h=>by
  unfold aG
  have h1:=Cl (f:=f) (n:=n) fun t ht=>h t (by omega)
  have h2:=h n (by omega)
  grind
theorem wC(f:Nat→Rat)(a:Nat)(x:Rat){n:Nat}(h:a<n):aG n (fun t=>if t=a then x else f t)=aG n f+(x - f a):=by
 rw[←l9 a (x - f a) n h,←li]
 refine ay fun t _=>?_
 by_cases ht:t=a
 ·subst ht;rw[ai rfl,ai rfl];grind
 ·rw[ah ht,ah ht];grind
def bM(w:Nat)(k:Nu)(c:List Nu)(y:Nat→Rat):Rat:=rv k+aG w (fun t=>rv c[t]! *y t)
def Sol(d:Dic)(w:Nat)(y:Nat→Rat):Prop:=∀i,i<d.rows.length→y d.rows[i]!.b.toNat=bM w d.rows[i]!.k d.rows[i]!.c y
structure Inv(d:Dic)(w:Nat):Prop where
 fine:Fine d w
 rng:∀i,i<d.rows.length→0≤d.rows[i]!.b∧d.rows[i]!.b<w
 inj:∀i j,i<d.rows.length→j<d.rows.length→d.rows[i]!.b=d.rows[j]!.b→i=j
 zg:∀j,j<d.rows.length→d.gc[d.rows[j]!.b.toNat]! =nOf 0
 zr:∀i j,i<d.rows.length→j<d.rows.length→d.rows[i]!.c[d.rows[j]!.b.toNat]! =nOf 0
theorem uD {r:Row}{s t:Nat}(hs:s<r.c.length)(ht:t<r.c.length):(a9 r s).c[t]! =if t=r.b.toNat then n6 (nOf 1) r.c[s]! else if t=s then nOf 0 else n6 (e9 r.c[t]!) r.c[s]! :=by
 unfold a9
 rw[PK]
 dsimp only
 rw[eG (by simpa using ht)]
 by_cases h1:r.b.toNat=t
 ·rw[ai h1,ai h1.symm]
 ·rw[ah h1,ah (fun e=>h1 e.symm),eG (by simpa using ht)]
  by_cases h2:s=t
  ·rw[ai h2,ai h2.symm]
  ·rw[ah h2,ah (fun e=>h2 e.symm)]
   apply dJ
   rw[dT,uR ht];rfl
theorem HT {r:Row}{w s:Nat}(hs:s<w)(hl:r.c.length=w)(hb:r.b.toNat<w)(hg:f5 r.k r.c=true)(hz:r.c[r.b.toNat]! =nOf 0)(fI:s≠r.b.toNat)(Cy:f5 (a9 r s).k (a9 r s).c=true)(y:Nat→Rat):
  rv r.c[s]!≠0∧bM w (a9 r s).k (a9 r s).c y - y s=(y r.b.toNat - bM w r.k r.c y) / rv r.c[s]! :=by
 obtain⟨h1,h2⟩:=bm.1 hg
 obtain⟨h3,h4⟩:=bm.1 Cy
 have hk:(a9 r s).k=n6 (e9 r.k) r.c[s]! :=rfl
 rw[hk] at h3
 obtain⟨_,h6,h7,h8⟩:=t9 h3
 refine⟨h7,?_⟩
 have hc:∀t,t<w→rv (a9 r s).c[t]! *y t=if t=r.b.toNat then (rv r.c[s]!)⁻¹*y r.b.toNat else if t=s then 0 else -(rv r.c[s]!)⁻¹*(rv r.c[t]! *y t):=by
  intro t ht
  have h9:=h4 t (by rw[rD];omega)
  rw[uD (by omega) (by omega)] at h9 ⊢
  by_cases e1:t=r.b.toNat
  ·rw[ai e1] at h9 ⊢
   rw[ai e1,(t9 h9).2.2.2,of1.2,←e1];grind
  ·rw[ah e1] at h9 ⊢
   rw[ah e1]
   by_cases e2:t=s
   ·rw[ai e2,ai e2,of0.2];grind
   ·rw[ah e2] at h9 ⊢
    rw[ah e2,(t9 h9).2.2.2,lR];grind
 unfold bM
 rw[ay hc,wC (fun t=>if t=s then 0 else -(rv r.c[s]!)⁻¹*(rv r.c[t]! *y t)) r.b.toNat _ hb,ah (fun e=>fI e.symm),wC (fun t=>-(rv r.c[s]!)⁻¹*(rv r.c[t]! *y t)) s 0 hs,eV,hk,h8,lR,hz,of0.2]
 grind
theorem DT {k:Nu}{c:List Nu}{row:Lin}{w s:Nat}(hs:s<w)(hl:c.length=w)(hg:f5 k c=true)(Cy:goodR (Bl ⟨k,c⟩ row s)=true)(S5:row.c.length=w)(FR:goodR row=true)(hz:row.c[s]! =nOf 0)(y:Nat→Rat):
  bM w (Bl ⟨k,c⟩ row s).k (Bl ⟨k,c⟩ row s).c y=bM w k c y+rv c[s]! *(bM w row.k row.c y - y s):=by
 obtain⟨h1,h2⟩:=bm.1 hg
 obtain⟨h3,h4⟩:=bm.1 Cy
 obtain⟨h5,h6⟩:=bm.1 FR
 have hk:(Bl ⟨k,c⟩ row s).k=jJ k (iy c[s]! row.k):=rfl
 have Es:∀t,t<w→(Bl ⟨k,c⟩ row s).c[t]! =if t=s then nOf 0 else jJ c[t]! (iy c[s]! row.c[t]!):=fun t ht=>dJ (b7 _ (by show t<c.length;omega))
 have hlen:(Bl ⟨k,c⟩ row s).c.length=w:=by unfold Bl;simp[hl]
 rw[hk] at h3
 have za:rv (Bl ⟨k,c⟩ row s).k=rv k+rv c[s]! *rv row.k:=by
  rw[hk,Ig h1 (wJ h3).2 h3,If (h2 s (by omega)) h5 (wJ h3).2]
 have hc:∀t,t<w→rv (Bl ⟨k,c⟩ row s).c[t]! *y t=if t=s then 0 else rv c[t]! *y t+rv c[s]! *(rv row.c[t]! *y t):=by
  intro t ht
  have h9:=h4 t (by omega)
  rw[Es t ht] at h9 ⊢
  by_cases e:t=s
  ·rw[ai e,ai e,of0.2];grind
  ·rw[ah e] at h9 ⊢
   rw[ah e,Ig (h2 t (by omega)) (wJ h9).2 h9,If (h2 s (by omega)) (h6 t (by omega)) (wJ h9).2]
   grind
 unfold bM
 rw[za,ay hc,wC (fun t=>rv c[t]! *y t+rv c[s]! *(rv row.c[t]! *y t)) s 0 hs,li (fun t=>rv c[t]! *y t) (fun t=>rv c[s]! *(rv row.c[t]! *y t)),eV,hz,of0.2]
 grind
section
variable {d:Dic} {w at' s:Nat}
theorem eg:(gi d at' s).rows.length=d.rows.length:=by unfold gi;simp
theorem je {i:Nat}(hi:i<d.rows.length):(gi d at' s).rows[i]! =if i=at' then a9 d.rows[at']! s else⟨(gV d.rows[i]!.k d.rows[i]!.c (a9 d.rows[at']! s) s).k,(gV d.rows[i]!.k d.rows[i]!.c (a9 d.rows[at']! s) s).c,d.rows[i]!.b⟩:=dJ (b7 _ hi)
theorem pi {i:Nat}(hi:i<d.rows.length):(gi d at' s).rows[i]!.b=if i=at' then (s:Int) else d.rows[i]!.b:=by
 rw[je hi]
 by_cases h:i=at'
 ·rw[ai h,ai h];rfl
 ·rw[ah h,ah h]
structure gQ(d:Dic)(w at' s:Nat):Prop where
 inv:Inv d w
 hat:at'<d.rows.length
 hs:s<w
 nb:∀j,j<d.rows.length→d.rows[j]!.b≠s
 fine:Fine (gi d at' s) w
section
variable (h:gQ d w at' s)
include h
theorem gQ.turn(y:Nat→Rat):rv d.rows[at']!.c[s]!≠0∧bM w (a9 d.rows[at']! s).k (a9 d.rows[at']! s).c y - y s=(y d.rows[at']!.b.toNat - bM w d.rows[at']!.k d.rows[at']!.c y) / rv d.rows[at']!.c[s]! :=by
 have hr:=h.inv.rng at' h.hat
 refine HT h.hs (h.inv.fine.lr at' h.hat) (by omega) (h.inv.fine.gr at' h.hat) (h.inv.zr at' at' h.hat h.hat) (fun e=>h.nb at' h.hat (by omega)) ?_ y
 have:=h.fine.gr at' (by rw[eg];exact h.hat)
 rwa[je h.hat,ai rfl] at this
theorem gQ.row:f5 (a9 d.rows[at']! s).k (a9 d.rows[at']! s).c=true:=by
 have:=h.fine.gr at' (by rw[eg];exact h.hat)
 rwa[je h.hat,ai rfl] at this
theorem gQ.lrow:(a9 d.rows[at']! s).c.length=w:=by rw[rD];exact h.inv.fine.lr at' h.hat
theorem gQ.rowS:(a9 d.rows[at']! s).c[s]! =nOf 0:=by
 have hl:=h.inv.fine.lr at' h.hat
 have hs:=h.hs
 have hr:=h.inv.rng at' h.hat
 rw[uD (by omega) (by omega),ah (fun e=>h.nb at' h.hat (by omega)),ai rfl]
theorem gQ.put {k:Nu}{c:List Nu}(hg:f5 k c=true)(hl:c.length=w):gV k c (a9 d.rows[at']! s) s=Bl ⟨k,c⟩ ⟨(a9 d.rows[at']! s).k,(a9 d.rows[at']! s).c⟩ s:=by
 have hs:=h.hs
 have:=h.lrow
 exact putP_eq hg h.row (by omega) (by omega)
theorem gQ.goalW(y:Nat→Rat):bM w (gi d at' s).gk (gi d at' s).gc y=bM w d.gk d.gc y+rv d.gc[s]! *(bM w (a9 d.rows[at']! s).k (a9 d.rows[at']! s).c y - y s):=by
 have h1:=h.fine.gg
 have e:gV d.gk d.gc (a9 d.rows[at']! s) s=⟨(gi d at' s).gk,(gi d at' s).gc⟩:=rfl
 have e2:=(h.put h.inv.fine.gg h.inv.fine.lg).symm.trans e
 have:=DT (row:=⟨(a9 d.rows[at']! s).k,(a9 d.rows[at']! s).c⟩) h.hs h.inv.fine.lg h.inv.fine.gg (by rw[e2];exact h1) h.lrow h.row h.rowS y
 rw[e2] at this
 exact this
theorem gQ.rowW {i:Nat}(hi:i<d.rows.length)(ro:i≠at')(y:Nat→Rat):bM w (gi d at' s).rows[i]!.k (gi d at' s).rows[i]!.c y=bM w d.rows[i]!.k d.rows[i]!.c y+rv d.rows[i]!.c[s]! *(bM w (a9 d.rows[at']! s).k (a9 d.rows[at']! s).c y - y s):=by
 have h1:=h.fine.gr i (by rw[eg];exact hi)
 rw[je hi,ah ro] at h1 ⊢
 have e2:=h.put (h.inv.fine.gr i hi) (h.inv.fine.lr i hi)
 have:=DT (row:=⟨(a9 d.rows[at']! s).k,(a9 d.rows[at']! s).c⟩) h.hs (h.inv.fine.lr i hi) (h.inv.fine.gr i hi) (by rw[←e2];exact h1) h.lrow h.row h.rowS y
 rw[←e2] at this
 exact this
theorem gQ.sol(y:Nat→Rat):Sol (gi d at' s) w y↔Sol d w y:=by
 obtain⟨h0,ht⟩:=h.turn y
 have hat:=h.hat
 have key:y s=bM w (a9 d.rows[at']! s).k (a9 d.rows[at']! s).c y↔y d.rows[at']!.b.toNat=bM w d.rows[at']!.k d.rows[at']!.c y:=by
  constructor
  ·intro e
   rw[←e] at ht
   have:(y d.rows[at']!.b.toNat - bM w d.rows[at']!.k d.rows[at']!.c y) / rv d.rows[at']!.c[s]! =0:=by grind
   rw[iI] at this
   have h2:=I5.1 this
   rcases h2 with h2|h2
   ·grind
   ·exact absurd h2 (by grind)
  ·intro e
   rw[e] at ht
   have:bM w (a9 d.rows[at']! s).k (a9 d.rows[at']! s).c y - y s=0:=by rw[ht,iI];grind
   grind
 have hatS:(gi d at' s).rows[at']!.b.toNat=s∧(gi d at' s).rows[at']! =a9 d.rows[at']! s:=by
  rw[je hat,ai rfl]
  exact⟨by show ((s:Int)).toNat=s;omega,rfl⟩
 unfold Sol
 rw[eg]
 constructor
 ·intro hy i hi
  have h1:=hy at' hat
  rw[hatS.1,hatS.2] at h1
  by_cases ro:i=at'
  ·subst ro;exact key.1 h1
  ·have h2:=hy i hi
   rw[h.rowW hi ro,pi hi,ah ro] at h2
   rw[h2]
   grind
 ·intro hy i hi
  have h1:=key.2 (hy at' hat)
  by_cases ro:i=at'
  ·subst ro;rw[hatS.1,hatS.2];exact h1
  ·rw[h.rowW hi ro,pi hi,ah ro,hy i hi]
   grind
theorem gQ.goal {y:Nat→Rat}(hy:Sol d w y):bM w (gi d at' s).gk (gi d at' s).gc y=bM w d.gk d.gc y:=by
 have h1:=(h.sol y).2 hy at' (by rw[eg];exact h.hat)
 rw[je h.hat,ai rfl] at h1
 have h2:y s=bM w (a9 d.rows[at']! s).k (a9 d.rows[at']! s).c y:=by
  have e:((a9 d.rows[at']! s).b).toNat=s:=by show ((s:Int)).toNat=s;omega
  rw[e] at h1;exact h1
 rw[h.goalW y]
 grind
end
end
end
section
theorem rv_nOf0 {x:Nu}(hg:aw x=true)(h:rv x=0):x=nOf 0:=As hg of0.1 (h.trans of0.2.symm)
section
variable {d:Dic} {w at' s:Nat}
theorem gQ.toInv(h:gQ d w at' s):Inv (gi d at' s) w:=by
 have hat:=h.hat
 have hs:=h.hs
 have hb:∀j,j<d.rows.length→d.rows[j]!.b.toNat<w:=fun j hj=>by have:=h.inv.rng j hj;omega
 have hrz:∀j,j<d.rows.length→j≠at'→(a9 d.rows[at']! s).c[d.rows[j]!.b.toNat]! =nOf 0:=fun j hj sH=>by
  have hl:=h.inv.fine.lr at' hat
  have h1:=(bm.1 h.row).2 d.rows[j]!.b.toNat (by rw[h.lrow];exact hb j hj)
  have FN:=h.inv.rng j hj
  have OE:=h.inv.rng at' hat
  rw[uD (by omega) (by rw[hl];exact hb j hj)] at h1 ⊢
  rw[ah (fun e=>sH (h.inv.inj j at' hj hat (by omega))),ah (fun e=>h.nb j hj (by omega))] at h1 ⊢
  refine rv_nOf0 h1 ?_
  rw[(t9 h1).2.2.2,lR,h.inv.zr at' j hat hj,of0.2,iI];grind
 have hz:∀(k:Nu) (c:List Nu),f5 k c=true→c.length=w→f5 (gV k c (a9 d.rows[at']! s) s).k (gV k c (a9 d.rows[at']! s) s).c=true→(gV k c (a9 d.rows[at']! s) s).c[s]! =nOf 0∧
   ∀j,j<d.rows.length→j≠at'→c[d.rows[j]!.b.toNat]! =nOf 0→(gV k c (a9 d.rows[at']! s) s).c[d.rows[j]!.b.toNat]! =nOf 0:=fun k c hg hl Cy=>by
  rw[h.put hg hl] at Cy ⊢
  have Es:∀t,t<w→(Bl ⟨k,c⟩ ⟨(a9 d.rows[at']! s).k,(a9 d.rows[at']! s).c⟩ s).c[t]! =if t=s then nOf 0 else jJ c[t]! (iy c[s]! (a9 d.rows[at']! s).c[t]!):=fun t ht=>dJ (b7 _ (by show t<c.length;omega))
  refine⟨by rw[Es s hs,ai rfl],fun j hj sH h0=>?_⟩
  have FN:=h.inv.rng j hj
  rw[Es _ (hb j hj),ah (fun e=>h.nb j hj (by omega)),h0,hrz j hj sH]
  rw[yX ((bm.1 hg).2 s (by omega)),xv of0.1]
 refine⟨h.fine,fun i hi=>?_,fun i j hi hj e=>?_,fun j hj=>?_,fun i j hi hj=>?_⟩
 ·rw[eg] at hi
  rw[pi hi]
  by_cases ro:i=at'
  ·rw[ai ro];omega
  ·rw[ah ro];exact h.inv.rng i hi
 ·rw[eg] at hi hj
  rw[pi hi,pi hj] at e
  by_cases ro:i=at' <;> by_cases sH:j=at'
  ·omega
  ·rw[ai ro,ah sH] at e;exact absurd e.symm (h.nb j hj)
  ·rw[ah ro,ai sH] at e;exact absurd e (h.nb i hi)
  ·rw[ah ro,ah sH] at e;exact h.inv.inj i j hi hj e
 ·rw[eg] at hj
  rw[pi hj]
  obtain⟨h1,h2⟩:=hz d.gk d.gc h.inv.fine.gg h.inv.fine.lg h.fine.gg
  by_cases sH:j=at'
  ·rw[ai sH,show ((s:Int)).toNat=s by omega];exact h1
  ·rw[ah sH];exact h2 j hj sH (h.inv.zg j hj)
 ·rw[eg] at hi hj
  have Jz:=h.fine.gr i (by rw[eg];exact hi)
  rw[pi hj]
  rw[je hi] at Jz ⊢
  by_cases ro:i=at'
  ·rw[ai ro]
   by_cases sH:j=at'
   ·rw[ai sH,show ((s:Int)).toNat=s by omega];exact h.rowS
   ·rw[ah sH];exact hrz j hj sH
  ·rw[ah ro] at Jz ⊢
   obtain⟨h1,h2⟩:=hz d.rows[i]!.k d.rows[i]!.c (h.inv.fine.gr i hi) (h.inv.fine.lr i hi) Jz
   by_cases sH:j=at'
   ·rw[ai sH,show ((s:Int)).toNat=s by omega];exact h1
   ·rw[ah sH];exact h2 j hj sH (h.inv.zr i j hi hj)
theorem Inv.pick(hI:Inv d w)(v:Nat→Rat):∃y,Sol d w y∧∀t,(∀j,j<d.rows.length→d.rows[j]!.b≠(t:Nat))→y t=v t:=by
 have hex:∃y:Nat→Rat,∀t,y t=(match (d.rows.findIdx? fun r=>decide (r.b=(t:Int))) with|some i=>bM w d.rows[i]!.k d.rows[i]!.c v|none=>v t):=⟨_,fun _=>rfl⟩
 obtain⟨y,hy⟩:=hex
 have h1:∀t,(∀j,j<d.rows.length→d.rows[j]!.b≠(t:Nat))→y t=v t:=fun t ht=>by
  rw[hy t]
  have:(d.rows.findIdx? fun r=>decide (r.b=(t:Int)))=none:=by
   rw[u9]
   intro r hr
   obtain⟨j,hj,rfl⟩:=w4.1 hr
   have:=ht j hj
   rw[bI d.rows j hj] at this
   exact bp this
  rw[this]
 refine⟨y,fun i hi=>?_,h1⟩
 have hr:=hI.rng i hi
 rw[hy]
 have:(d.rows.findIdx? fun r=>decide (r.b=((d.rows[i]!.b.toNat:Nat):Int)))=some i:=by
  rw[oI]
  refine⟨hi,?_,fun j hj=>?_⟩
  ·have:d.rows[i].b=d.rows[i]!.b:=by rw[bI d.rows i hi]
   exact aB (by omega)
  ·have h2:d.rows[j].b=d.rows[j]!.b:=by rw[bI d.rows j (by omega)]
   have:=hI.inj i j hi (by omega)
   simp only[r8]
   omega
 rw[this]
 dsimp only
 unfold bM
 congr 1
 refine ay fun t ht=>?_
 by_cases hb:∀j,j<d.rows.length→d.rows[j]!.b≠(t:Nat)
 ·rw[h1 t hb]
 ·obtain⟨j,hj⟩:=Np.1 hb
  obtain⟨OH,Cu⟩:=No.1 hj
  have Cu:=BW.1 Cu
  have:=hI.zr i j hi OH
  rw[Cu,show ((t:Nat):Int).toNat=t by omega] at this
  rw[this,of0.2];grind
end
theorem pD {c:List Nu}{s:Nat}(h:ke c=some s):s<c.length∧0<bL c[s]!∧∀t,t<s→¬0<bL c[t]! :=by
 unfold ke at h
 obtain⟨h1,h2,h3⟩:=oI.1 h
 refine⟨h1,?_,fun t ht=>?_⟩
 ·rw[bI c s h1];exact bC h2
 ·have:=h3 t ht
  rw[bI c t (by omega)]
  simpa using this
theorem M0 {c:List Nu}(h:ke c=none){t:Nat}(ht:t<c.length):¬0<bL c[t]! :=by
 unfold ke at h
 have:=u9.1 h c[t] (nK ht)
 rw[bI c t ht]
 simpa using this
theorem pl {l:List Row}{s:Nat}{z:Nu}:∀{n:Nat} {p:Int×Nu},jg l s z n=some p→p.1=-1∨∃i,i<n∧p.1=(i:Int)∧bL l[i]!.c[s]! <0∧aw p.2=true∧p.2=n6 l[i]!.k (e9 l[i]!.c[s]!)
 |0,p,h=>by unfold jg at h;injection h with h;exact .inl (by rw[←h])
 |n+1,p,h=>by
  unfold jg at h
  cases hq:jg l s z n with
  |none=>rw[hq] at h;cases h
  |some q=>
   rw[hq] at h
   have ih:=pl hq
   have up:q=p→p.1=-1∨∃i,i<n+1∧p.1=(i:Int)∧bL l[i]!.c[s]! <0∧aw p.2=true∧p.2=n6 l[i]!.k (e9 l[i]!.c[s]!):=by
    rintro rfl
    rcases ih with h1|⟨i,h1,h2⟩
    ·exact .inl h1
    ·exact .inr ⟨i,by omega,h2⟩
   unfold rR at h
   dsimp only at h
   split at h
   ·injection h with h;exact up h
   ·rename_i h1
    split at h
    ·cases h
    ·rename_i h2
     split at h
     ·injection h with h
      subst h
      exact .inr ⟨n,by omega,rfl,by omega,by simpa using h2,rfl⟩
     ·injection h with h;exact up h
theorem Inv.enter {d:Dic}{w s:Nat}(hI:Inv d w)(h:bL d.gc[s]!≠0):∀j,j<d.rows.length→d.rows[j]!.b≠s:=fun j hj e=>by
 have:=hI.zg j hj
 rw[e,show ((s:Int)).toNat=s by omega] at this
 rw[this,(zX of0.1).2 of0.2] at h
 exact h rfl
theorem Inv.rowNz {d:Dic}{w s i:Nat}(hI:Inv d w)(hi:i<d.rows.length)(h:bL d.rows[i]!.c[s]!≠0):∀j,j<d.rows.length→d.rows[j]!.b≠s:=fun j hj e=>by
 have:=hI.zr i j hi hj
 rw[e,show ((s:Int)).toNat=s by omega] at this
 rw[this,(zX of0.1).2 of0.2] at h
 exact h rfl
structure q9(d d':Dic)(w:Nat):Prop where
 len:d'.rows.length=d.rows.length
 n:d'.n=d.n
 most:d'.most=d.most
 sol:∀y,Sol d' w y↔Sol d w y
 goal:∀y,Sol d w y→bM w d'.gk d'.gc y=bM w d.gk d.gc y
 piv:d.piv≤d'.piv
theorem q9.refl(d:Dic)(w:Nat):q9 d d w:=⟨rfl,rfl,rfl,fun _=>Iff.rfl,fun _ _=>rfl,zk _⟩
theorem q9.trans {d d' T5:Dic}{w:Nat}(h:q9 d d' w)(h':q9 d' T5 w):q9 d T5 w:=
 ⟨h'.len.trans h.len,h'.n.trans h.n,h'.most.trans h.most,fun y=>(h'.sol y).trans (h.sol y),fun y hy=>(h'.goal y ((h.sol y).2 hy)).trans (h.goal y hy),Int.le_trans h.piv h'.piv⟩
theorem gQ.same {d:Dic}{w at' s:Nat}(h:gQ d w at' s):q9 d (gi d at' s) w:=
 ⟨eg,rfl,rfl,h.sol,fun _ hy=>h.goal hy,by show d.piv≤d.piv+1;omega⟩
end
section
section
variable {vs:List (Nat×List D)} {lv:List (Nat×Nat×Nat×TypeId)} {N kd R G w:Nat} {C:Nat→Nat} {d:Dic}
theorem GS {A B:List D}{j:Nat}{r:Row}{F:List D}(h:F=A++iQ C w j r++B)(hA:A.length=j*38):Pt F (j*38) (iQ C w j r) (fun ys=>A++ys++B):=Pt.of A B hA h fun y=>rfl
theorem Ma {j:Nat}{r:Row}:Pt (iQ C w j r) (0+36) [.ow (C j) 0 36 w] (fun ys=>dC (au.f r.k)++ys++[dI .i64 r.b]):=Pt.of (dC (au.f r.k)) [dI .i64 r.b] (iS _) (by unfold iQ aY;simp only[da]) fun y=>rfl
theorem RL {j:Nat}{r:Row}:Pt (iQ C w j r) (0+0) (dC (au.f r.k)) (fun ys=>ys++([.ow (C j) 0 36 w]++[dI .i64 r.b])):=Pt.of [] ([.ow (C j) 0 36 w]++[dI .i64 r.b]) rfl (by unfold iQ aY;simp only[da,ny]) fun y=>rfl
theorem rowD_b {j:Nat}{r:Row}:Pt (iQ C w j r) (0+37) [dI .i64 r.b] (fun ys=>aY r.k (C j) w++ys++[]):=Pt.of (aY r.k (C j) w) [] (bT _ _ _) (by unfold iQ;simp) fun y=>rfl
def PB:List E:=zN++[.lit (.slice none 0 0)]++[.lit (.int .i64 0)]
theorem Pt.all {F:List D}:Pt F 0 F id:=Pt.of [] [] rfl (by simp) fun y=>by simp
def Mr(o:Option (Int×Nu)):D:=match o with
 |none=>.tu [dI .i64 (-1),dI .i64 30]
 |some p=>.tu [dI .i64 p.1,dI .i64 0]
theorem Ms {l:List Row}{s:Nat}{z:Nu}{i:Nat}(h:jg l s z i=none):∀n,i≤n→jg l s z n=none:=by
 intro n hn
 induction n with
 |zero=>
      obtain rfl:i=0:=by omega
      exact h
 |succ n ih=>
  rcases Nat.eq_or_lt_of_le hn with e|e
  ·subst e;exact h
  ·unfold jg;rw[ih (by omega)]
theorem Qo {s:Nat}(hD:DAt vs kd R G C w d)(hs:s<w)(hm:d.rows.length≤1000000):
  HC prog 110 [.pt kd 0,dI .i64 s] ⟨vs,lv,N⟩ (Mr (jg d.rows s default d.rows.length)) ⟨vs,lv,N⟩:=by
 refine HC.of (rs:=[.tmp 4,.tmp 5]) tok func110 rfl rfl (bi rfl) rfl (fun cx hx h0 hok=>?_)
 simp only[fG,Nat.reduceAdd,bt]
 have wi:=hD.hd
 have Gw:=hok.lt wi
 have hRi:(fb R d.rows).idsB (N+1)=true:=by
  cases hl:d.rows with
  |nil=>rfl
  |cons r l'=>exact aB (by have:=hok.lt (hD.hR (by rw[hl];simp));omega)
 refine rs hx fun K hK=>?_
 iterate 2 refine sa ?_
 refine nl hK ?_
 refine rs hx fun K hK=>?_
 refine sa ?_
 refine nl hK ?_
 refine rs hx fun K hK=>?_
 refine n1 ?_
 refine nl hK ?_
 rw[←zNu]
 refine AW.seq (rs hx fun K hK=>?_)
 iterate 3 refine sa ?_
 refine c1 gu ?_
 refine Oa (R:=R) (l:=d.rows) rfl ?_
 refine sa ?_
 refine nl hK ?_
 refine AW.block (AW.loopW (fun u:Nat×(Int×Nu)=>[(0,.pt kd 0),(1,dI .i64 s),(6,dI .i64 u.2.1),(7,.pt N 0),(15,fb R d.rows),(16,dI .i64 d.rows.length),(17,dI .i64 u.1)]) (fun u=>⟨(N,dC (au.f u.2.2))::vs,lv,N+1⟩) (fun u=>u.1≤d.rows.length∧jg d.rows s default u.1=some u.2) (fun u=>d.rows.length - u.1) (0,(-1,default)) ?_ ⟨cr _,rfl⟩ ?_)
 ·exact wk1 h0
 ·rintro⟨i,at',q⟩ ⟨hi,hp⟩
  dsimp only at hi hp ⊢
  refine rs hx fun K hK=>?_
  refine sa ?_
  refine nl hK ?_
  refine AW.seq (AW.condS rfl (fun hb=>?_) (fun hb=>?_))
  ·have zb:i<d.rows.length:=by have:=bC hb;omega
   have fI:d.rows≠[]:=fun e=>by rw[e] at zb;simp at zb
   have hr:d.rows[i]? =some d.rows[i]! :=by rw[bI d.rows i zb];exact cC zb
   obtain⟨A,B,hA,_,h3,_,_⟩:=mA C w d.rows i hr
   have hRv:=hD.hR fI
   have Dp:=hok.lt hRv
   have hcv:=hD.hC i _ hr
   have hCN:=hok.lt hcv
   have uu:=hD.lC i _ hr
   have iN:jg d.rows s default (i+1)=rR d.rows s (at',q) i:=by
    show (match jg d.rows s default i with|none=>none|some p=>rR d.rows s p i)=_
    rw[hp]
   unfold rR at iN
   dsimp only at iN
   generalize It:d.rows[i]! =r at hr hcv uu h3 iN
   refine AW.skip (AW.seq (AW.block (rs hx fun K hK=>?_)))
   refine sa ?_
   refine r1 zb ?_ (by show (fb R d.rows).toOw=_;rw[p7 fI];rfl)
   refine p1 (GS h3 hA) (tT _ _ _ _) ?_
   refine a1 (F:=PB) tQ ?_
   refine sa ?_
   refine v1 (Pt.all (F:=dC PB)) rfl (tT C w i r) rfl ?_
   refine nl hK ?_
   refine AW.seq (rs hx fun K hK=>?_)
   iterate 2 refine sa ?_
   refine c1 (Ma (C:=C) (w:=w) (j:=i) (r:=r)) ?_
   refine sa ?_
   refine i1 hs ?_
   refine l1 (Pt.el r.c s (by omega)) ?_
   refine cq (yL _) ?_
   refine sa ?_
   refine nl hK ?_
   refine AW.condS rfl (fun hb=>?_) (fun hb=>?_)
   ·have hsg:0≤bL r.c[s]! :=bC hb
    refine AW.exit (rq hx fun K hK=>?_)
    iterate 2 refine sa ?_
    refine nl hK ?_
    rw[bU]
    exact⟨(i+1,(at',q)),wk1 h0,⟨zb,iN.trans (by rw[ai hsg])⟩,by dsimp only;omega⟩
   have hsg:¬0≤bL r.c[s]! :=dE hb
   rw[ah hsg] at iN
   refine AW.skip (rsd [42,153] hx fun K hK=>?_)
   iterate 2 refine sa ?_
   refine l1 (RL (C:=C) (w:=w) (j:=i) (r:=r)) ?_
   iterate 2 refine sa ?_
   refine c1 (Ma (C:=C) (w:=w) (j:=i) (r:=r)) ?_
   refine sa ?_
   refine i1 hs ?_
   refine l1 (Pt.el r.c s (by omega)) ?_
   refine cq (JU _) ?_
   refine cq (Rn _ _) ?_
   refine n1 ?_
   refine z1 ?_
   refine nl hK ?_
   generalize n6 r.k (e9 r.c[s]!)=q' at iN ⊢
   refine AW.seq (rs hx fun K hK=>?_)
   refine l1 (Pt.idN q') ?_
   refine cq (w_Good _) ?_
   refine sa ?_
   refine nl hK ?_
   refine AW.condS rfl (fun hb=>?_) (fun hb=>?_)
   ·have hg:aw q'=false:=by simpa using hb
    rw[ai hg] at iN
    refine rs hx fun K hK=>?_
    iterate 2 refine sa ?_
    refine nl hK ?_
    refine AW.ret ?_
    rw[Ms iN _ zb]
    exact rt2 h0
   have hg:¬aw q'=false:=by simpa using hb
   rw[ah hg] at iN
   refine AW.skip (rs hx fun K hK=>?_)
   refine l1 (Pt.idN q') ?_
   refine l1 (Pt.idN q) ?_
   refine cq (w_Cmp _ _) ?_
   refine sa ?_
   refine nl hK ?_
   refine rsd [] hx fun K hK=>?_
   iterate 3 refine sa ?_
   by_cases h1:at'<0
   ·have e1:decide (at'<0)=true:=aB h1
    iterate 2 refine gn e1 ?_
    refine s1 (d:=dB true) (oO e1) ?_
    refine sa ?_
    iterate 3 refine gn rfl ?_
    iterate 11 refine gm ?_
    refine gn rfl ?_
    refine s1 (d:=dB true) (oO rfl) ?_
    refine nl hK ?_
    rw[ai (.inl h1)] at iN
    refine AW.condS rfl (fun hb=>?_) (fun hb=>absurd hb (by simp))
    refine rqd [] hx fun K hK=>?_
    refine sa ?_
    refine l1 (Pt.idN q') ?_
    refine sa ?_
    refine t1 (Pt.idN q) rfl ?_
    refine nl hK ?_
    refine rq hx fun K hK=>?_
    iterate 2 refine sa ?_
    refine nl hK ?_
    rw[bU]
    exact⟨(i+1,((i:Int),q')),wk1 h0,⟨zb,iN.trans rfl⟩,by dsimp only;omega⟩
   have qV:decide (at'<0)=false:=bp h1
   iterate 2 refine ga qV ?_
   refine s1 (d:=dB (decide (p8 q' q<0))) (lY qV) ?_
   refine sa ?_
   by_cases h2:p8 q' q<0
   ·have e2:decide (p8 q' q<0)=true:=aB h2
    iterate 3 refine gn e2 ?_
    iterate 11 refine gm ?_
    refine gn e2 ?_
    refine s1 (d:=dB true) (oO e2) ?_
    refine nl hK ?_
    rw[ai (.inr (.inl h2))] at iN
    refine AW.condS rfl (fun hb=>?_) (fun hb=>absurd hb (by simp))
    refine rqd [] hx fun K hK=>?_
    refine sa ?_
    refine l1 (Pt.idN q') ?_
    refine sa ?_
    refine t1 (Pt.idN q) rfl ?_
    refine nl hK ?_
    refine rq hx fun K hK=>?_
    iterate 2 refine sa ?_
    refine nl hK ?_
    rw[bU]
    exact⟨(i+1,((i:Int),q')),wk1 h0,⟨zb,iN.trans rfl⟩,by dsimp only;omega⟩
   have e2:decide (p8 q' q<0)=false:=bp h2
   iterate 3 refine ga e2 ?_
   by_cases h3:p8 q' q=0
   ·have e3:decide (p8 q' q=0)=true:=aB h3
    obtain⟨a,ha,hai⟩:∃a:Nat,at'=(a:Int)∧a<i:=by
     rcases pl hp with e|⟨a,b1,b2,_⟩
     ·dsimp only at e;omega
     ·exact⟨a,b2,b1⟩
    have hra:d.rows[a]? =some d.rows[a]! :=by rw[bI d.rows a (by omega)];exact cC _
    obtain⟨_,_,_,_,_,_,hPa⟩:=mA C w d.rows a hra
    subst ha
    rw[show ((a:Int)).toNat=a by omega] at iN
    generalize d.rows[a]! =ra at hPa iN
    refine ga e3 ?_
    refine c1g rowD_b e3 ?_
    iterate 3 refine ga e3 ?_
    refine c1g gu e3 ?_
    refine ga e3 ?_
    refine r1g' (i:=a) (n:=d.rows.length) (by omega) e3 ?_ (p7 fI)
    refine ga e3 ?_
    refine c1g hPa e3 ?_
    refine ga e3 ?_
    refine g1 (d:=dB (decide (r.b<ra.b))) e2 (oO e3) ?_
    refine s1 (d:=dB (decide (r.b<ra.b))) (lY e2) ?_
    refine nl hK ?_
    refine AW.condS rfl (fun hb=>?_) (fun hb=>?_)
    ·have bK:=bC hb
     rw[ai (.inr (.inr ⟨h3,bK⟩))] at iN
     refine rqd [] hx fun K hK=>?_
     refine sa ?_
     refine l1 (Pt.idN q') ?_
     refine sa ?_
     refine t1 (Pt.idN q) rfl ?_
     refine nl hK ?_
     refine rq hx fun K hK=>?_
     iterate 2 refine sa ?_
     refine nl hK ?_
     rw[bU]
     exact⟨(i+1,((i:Int),q')),wk1 h0,⟨zb,iN.trans rfl⟩,by dsimp only;omega⟩
    ·have bK:=dE hb
     rw[ah (by rintro (e|e|e);exact h1 e;exact h2 e;exact bK e.2)] at iN
     refine AW.skip (rq hx fun K hK=>?_)
     iterate 2 refine sa ?_
     refine nl hK ?_
     rw[bU]
     exact⟨(i+1,((a:Int),q)),wk1 h0,⟨zb,iN.trans rfl⟩,by dsimp only;omega⟩
   ·have e3:decide (p8 q' q=0)=false:=bp h3
    iterate 11 refine gn e3 ?_
    refine g1 (d:=dB false) e2 (lY e3) ?_
    refine s1 (d:=dB false) (lY e2) ?_
    refine nl hK ?_
    rw[ah (by rintro (e|e|e);exact h1 e;exact h2 e;exact h3 e.1)] at iN
    refine AW.condS rfl (fun hb=>absurd hb (by simp)) (fun hb=>AW.skip (rq hx fun K hK=>?_))
    iterate 2 refine sa ?_
    refine nl hK ?_
    rw[bU]
    exact⟨(i+1,(at',q)),wk1 h0,⟨zb,iN.trans rfl⟩,by dsimp only;omega⟩
  ·refine AW.exit ?_
   have zb:i=d.rows.length:=by have:=dE hb;omega
   refine rs hx fun K hK=>?_
   iterate 3 refine sa ?_
   refine nl hK ?_
   refine AW.ret ?_
   rw[←zb,hp]
   exact rt2 h0
end
end
section
theorem z4 {A B:List D}{C:Nat→Nat}{w j:Nat}(h:A.length=j*38)(r:Row):o8 (A++iQ C w j r++B) (j*38) r.k (C j) w A ([dI .i64 r.b]++B):=⟨h,by unfold iQ;simp only[da]⟩
theorem Of {A B:List D}{C:Nat→Nat}{w j:Nat}(h:A.length=j*38)(r:Row):Pt (A++iQ C w j r++B) (j*38+37) [dI .i64 r.b] (fun ys=>A++(aY r.k (C j) w++ys)++B):=
 Pt.of (A++aY r.k (C j) w) B (by rw[cD,h,bT]) (by unfold iQ;simp only[da]) fun y=>by simp only[da]
theorem row_k {A B:List D}{C:Nat→Nat}{w j:Nat}(k:Nu)(c:List Nu)(b:Int):A++(dC (au.f k)++[.ow (C j) 0 36 w])++([dI .i64 b]++B)=A++iQ C w j ⟨k,c,b⟩++B:=by unfold iQ aY;simp only[da]
theorem row_b {A B:List D}{C:Nat→Nat}{w j:Nat}(k:Nu)(c:List Nu)(b:Int):A++(aY k (C j) w++[dI .i64 b])++B=A++iQ C w j ⟨k,c,b⟩++B:=by unfold iQ;simp only[da]
def lns(kd R at' i:Nat):List D:=.pt kd 1::((List.range i).filter fun j=>decide (j≠at')).map fun j=>.pt R (j*38)
theorem Ox(kd R at' i:Nat):lns kd R at' i=(xR at' i).map fun o=>.pt (klO kd R o) (olO o):=by
 unfold lns xR
 rw[jK,qp]
 rfl
theorem Ik {kd R at' i:Nat}(h:i=at'):lns kd R at' (i+1)=lns kd R at' i:=by
 unfold lns
 rw[wY,Ni,Nj (by simp[h]),List.filter_nil,tf]
theorem Ij {kd R at' i:Nat}(h:i≠at'):lns kd R at' (i+1)=lns kd R at' i++[.pt R (i*38)]:=by
 unfold lns
 rw[wY,Ni,I2 (by simp[h]),List.filter_nil,gK]
 rfl
theorem Ml {kd R at':Nat}:∀i,(lns kd R at' i).length≤i+1
 |0=>by simp[lns]
 |i+1=>by
  have:=Ml (kd:=kd) (R:=R) (at':=at') i
  by_cases h:i=at'
  ·rw[Ik h];omega
  ·rw[Ij h,cD];simp;omega
theorem Oy {kd R at' M:Nat}(hk:kd<M)(hR:R<M):∀i,(lns kd R at' i).all (D.idsC M)=true
 |0=>by simp[lns,D.idsC,hk]
 |i+1=>by
  have:=Oy (at':=at') hk hR i
  by_cases h:i=at'
  ·rw[Ik h];exact this
  ·rw[Ij h,lW,this];simp[D.idsC,hR]
section
variable {vs:List (Nat×List D)} {lv:List (Nat×Nat×Nat×TypeId)} {N kd R G w:Nat} {C:Nat→Nat} {d:Dic} {at' s:Nat}
theorem Iy {r0:Row}(hD:DAt vs kd R G C w d)(hf:Dif d.rows.length kd R G C)(hr0:d.rows[at']? =some r0)(hs:s<w)(OT:0≤r0.b∧r0.b<w)(hw:w≤1000000)(hm:d.rows.length≤1000000)(jC:0≤d.piv∧d.piv≤9223372036854775807)(de:0≤d.most∧d.most≤9223372036854775807):
  HC prog 104 [.pt kd 0,dI .i64 at',dI .i64 s] ⟨vs,lv,N⟩ (dI .i64 (dV d at' s).1) ⟨ov kd R G C w (dV d at' s).2 vs,lv,N⟩:=by
 refine HC.of (rs:=[.tmp 6]) tok func104 rfl rfl (bi rfl) rfl (fun cx hx h0 hok=>?_)
 simp only[fG,Nat.reduceAdd,bt]
 have hat:=(fL.1 hr0).1
 have fI:d.rows≠[]:=fun e=>by rw[e] at hat;simp at hat
 have hRv:=hD.hR fI
 have Gw:=hok.lt hD.hd
 have Dp:=hok.lt hRv
 have Tx:=hok.lt hD.hG
 obtain⟨A,B,hA,CX,heq,_,_⟩:=mA C w d.rows at' hr0
 rw[heq] at hRv
 have hlin:=z4 (B:=B) (C:=C) (w:=w) hA r0
 have hbas:=Of (B:=B) (C:=C) (w:=w) hA r0
 obtain⟨bN,hbN⟩:∃bN:Nat,r0.b=(bN:Int):=⟨r0.b.toNat,by omega⟩
 have hbw:bN<w:=by omega
 have hcv:=hD.hC at' r0 hr0
 have hcN:=hok.lt hcv
 have uu:=hD.lC at' r0 hr0
 obtain⟨hC1,hC2,hC3⟩:=hf.C1 at' hat
 refine rs hx fun K hK=>?_
 refine sa ?_
 refine nl hK ?_
 refine AW.seq (rsd [] hx fun K hK=>?_)
 iterate 3 refine sa ?_
 refine s1 (kC oz hD.hd Gw tbI) ?_
 iterate 3 refine sa ?_
 refine s1 (kC TY hD.hd Gw tbI) ?_
 refine sa ?_
 refine nl hK ?_
 have hCj:∀j,j<d.rows.length→C j<N:=fun j hj=>hok.lt (hD.hC j _ (cC hj))
 refine AW.condS rfl (fun hb=>?_) (fun hb=>?_)
 ·have hpm:d.most≤d.piv:=bC hb
  have hpp:dV d at' s=(220,d):=by unfold dV;rw[ai hpm]
  rw[hpp]
  refine rs hx fun K hK=>?_
  refine sa ?_
  refine nl hK ?_
  exact AW.ret (Sn h0 hok (az _) hD hf Gw Dp Tx hCj (fun k ds _ _ _ _ h=>h) (fun e=>absurd e fI) rfl)
 have hpm:d.piv<d.most:=by have:=dE hb;omega
 refine AW.skip (rs hx fun K hK=>?_)
 iterate 3 refine sa ?_
 refine s1 (kC oz hD.hd Gw tbI) ?_
 iterate 3 refine sa ?_
 obtain⟨d1,Dm⟩:∃d1:Dic,d1=⟨d.rows,d.gk,d.gc,d.n,d.piv+1,d.most⟩:=⟨_,rfl⟩
 have Tb:d1.rows=d.rows:=by rw[Dm]
 have hdic1:[fb R d.rows]++aY d.gk G w++([dI .i64 d.n]++[dI .i64 (i64.wrap (d.piv+1))]++[dI .i64 d.most])=mX R G w d1:=by
  rw[ee (show -9223372036854775808≤d.piv+1 by omega) (by omega),Dm];rfl
 refine s0 (Hz (ys:=[dI .i64 (i64.wrap (d.piv+1))]) oz hD.hd rfl tbI rfl rfl hdic1) ?_
 refine nl hK ?_
 refine rs hx fun K hK=>?_
 iterate 3 refine sa ?_
 refine s1 (kC (gu (d:=d1)) aa Gw tbI) ?_
 rw[Tb,p7 fI]
 refine sa ?_
 refine stG (d:=.pt R (at'*38)) tok (iaR hat) ?_
 refine sa ?_
 refine nl hK ?_
 have Gu:∀p:Nu,cp ⟨(N,dC (au.f p))::(kd,mX R G w d1)::vs,lv,N+1⟩:=fun p=>(hok.cons (az _) Gw (r4 Dp Tx)).cons (jw _) (ew _) (eD _)
 refine sj [(0,.pt kd 0),(1,dI .i64 at'),(2,dI .i64 s),(7,.pt R (at'*38)),(8,.pt N 0),(9,dI .i64 r0.b)] ⟨(N,dC (au.f r0.c[s]!))::(kd,mX R G w d1)::vs,lv,N+1⟩ ?_ ?_
 ·have fin:∀tm:List (Nat×D),tm.lookup 0=some (.pt kd 0)→tm.lookup 1=some (dI .i64 at')→tm.lookup 2=some (dI .i64 s)→tm.lookup 7=some (.pt R (at'*38))→tm.lookup 8=some (.pt N 0)→tm.lookup 9=some (dI .i64 r0.b)→Wk cx tm ⟨(N,dC (au.f r0.c[s]!))::(N,dC zN)::(kd,mX R G w d1)::vs,lv,N+1⟩ [(0,.pt kd 0),(1,dI .i64 at'),(2,dI .i64 s),(7,.pt R (at'*38)),(8,.pt N 0),(9,dI .i64 r0.b)] ⟨(N,dC (au.f r0.c[s]!))::(kd,mX R G w d1)::vs,lv,N+1⟩:=fun tm a b c e f g=>
   wkS (by rw[h0];exact jw N) (az _) (Gu _) (fun j ds h=>by rw[wH];exact h) ((((((bG.nil.cons g).cons f (aB (ew N))).cons e (aB (show R<N+1 by omega))).cons c).cons b).cons a (aB (show kd<N+1 by omega)))
  refine dw (DW.split 11 13 (by decide) ?_ ?_)
  ·refine dwg [] [0,1,2,3,4,5,6,7,8,9,10,11,12,13,14] hx (by kernel_rfl) (by kernel_rfl) (by kernel_rfl) fun K hK=>?_
   dsimp only[eh,mM,mW,List.map]
   iterate 4 refine sa ?_
   refine s1 (kC hlin.pc (al hf.dR.symm hRv) Dp tbI) ?_
   refine sa ?_
   refine s1 (iaN hs) ?_
   refine s1 (ldN (Pt.el r0.c s (by omega)) (al hC1 hcv) hcN) ?_
   iterate 3 refine sa ?_
   refine s1 (kC hbas (al hf.dR.symm hRv) Dp tbI) ?_
   refine s1 Lt ?_
   refine s0 (stZ aa) ?_
   refine sa ?_
   exact .nil (hK _ _ ⟨rfl,fin _ rfl rfl rfl rfl rfl rfl⟩)
  ·refine dwg [] [0,1,2,3,4,5,6,7,8,9,10,12,13,11,14] hx (by kernel_rfl) (by kernel_rfl) (by kernel_rfl) fun K hK=>?_
   dsimp only[eh,mM,mW,List.map]
   iterate 4 refine sa ?_
   refine s1 (kC hlin.pc (al hf.dR.symm hRv) Dp tbI) ?_
   refine sa ?_
   refine s1 (iaN hs) ?_
   refine s1 (ldN (Pt.el r0.c s (by omega)) (al hC1 hcv) hcN) ?_
   iterate 3 refine sa ?_
   refine s1 Lt ?_
   refine s0 (stZ aa) ?_
   refine s1 (kC hbas (al (show R≠N by omega) (al (show R≠N by omega) (al hf.dR.symm hRv))) (show R<N+1 by omega) tbI) ?_
   refine sa ?_
   exact .nil (hK _ _ ⟨rfl,fin _ rfl rfl rfl rfl rfl rfl⟩)
 refine rs hx fun K hK=>?_
 refine s1 (Fq (ks:=[N])) ?_
 refine sa ?_
 refine nl hK ?_
 -- qu constant of qu row
 obtain⟨p,hp⟩:∃p,p=r0.c[s]! :=⟨_,rfl⟩
 rw[←hp]
 refine rs hx fun K hK=>?_
 iterate 5 refine sa ?_
 have ht:=To (vs:=(N,dC (au.f p))::(kd,mX R G w d1)::vs) (lv:=lv) (N:=N+1) (al (show R≠N by omega) (al hf.dR.symm hRv)) (show R<N+1 by omega) hlin.pk aa (ew N)
 rw[row_k _ r0.c] at ht
 refine q1 (sHF ht rfl) ?_
 refine nl hK ?_
 obtain⟨k1,S6⟩:∃k1,k1=n6 (e9 r0.k) p:=⟨_,rfl⟩
 rw[←S6]
 -- its coefficients
 have KI:R<N+1:=by omega
 have hkN1:kd<N+1:=by omega
 have hcN1:C at'<N+1:=by omega
 have SJ:∀(r:Row),(A++iQ C w at' r++B).all (D.idsC (N+1))=true:=fun r=>by
  rw[←CX r]
  refine xr 0 _ fun j hj=>?_
  rw[c7] at hj
  rw[bt]
  have:=hok.lt (hD.hC j _ (cC hj))
  omega
 have hokB:∀(r:Row),cp ⟨(C at',dC ((cW au).f r.c))::(R,A++iQ C w at' r++B)::(N,dC (au.f p))::(kd,mX R G w d1)::vs,lv,N+1⟩:=fun r=>
  (cp.cons (N:=N+1) ((Gu p).cons (az _) KI (SJ r)) (az _) hcN1 (eD _))
 have hTm:∀(t:Nat) (tm:List (Nat×D)),tm.lookup 0=some (.pt kd 0)→tm.lookup 1=some (dI .i64 at')→tm.lookup 2=some (dI .i64 s)→tm.lookup 7=some (.pt R (at'*38))→tm.lookup 8=some (.pt N 0)→tm.lookup 9=some (dI .i64 r0.b)→tm.lookup 10=some (.fn 152 [N])→tm.lookup 64=some (dI .i64 w)→tm.lookup 65=some (dI .i64 t)→
   bG (N+1) tm [(0,.pt kd 0),(1,dI .i64 at'),(2,dI .i64 s),(7,.pt R (at'*38)),(8,.pt N 0),(9,dI .i64 r0.b),(10,.fn 152 [N]),(64,dI .i64 w),(65,dI .i64 t)]:=fun t tm a b c e f g h i j=>
  (((((((((bG.nil.cons j).cons i).cons h (bc.2 fun k hk=>aB (by rw[qF.1 hk];omega))).cons g).cons f (aB (ew N))).cons e (aB KI)).cons c).cons b).cons a (aB hkN1))
 refine AW.seq (rs hx fun K hK=>?_)
 iterate 4 refine sa ?_
 refine s1 (kC (z4 hA ⟨k1,r0.c,r0.b⟩).pc aa KI tbI) ?_
 iterate 2 refine sa ?_
 refine nl hK ?_
 refine AW.block ?_
 refine AW.loopW (fun t:Nat=>[(0,.pt kd 0),(1,dI .i64 at'),(2,dI .i64 s),(7,.pt R (at'*38)),(8,.pt N 0),(9,dI .i64 r0.b),(10,.fn 152 [N]),(64,dI .i64 w),(65,dI .i64 t)])
  (fun t=>⟨(C at',dC ((cW au).f (sT p t r0.c)))::(R,A++iQ C w at' ⟨k1,r0.c,r0.b⟩++B)::(N,dC (au.f p))::(kd,mX R G w d1)::vs,lv,N+1⟩) (fun t=>t≤w) (fun t=>w - t) 0 ?_ (cr _) ?_
 ·refine wkS (by rw[h0];exact jw N) (az _) ((cp.cons (N:=N+1) ((Gu p).cons (az _) KI (SJ ⟨k1,r0.c,r0.b⟩)) (az _) hcN1 (eD _))) (fun j ds h=>?_) (hTm 0 _ rfl rfl rfl rfl rfl rfl rfl rfl rfl)
  rcases b8 h with⟨rfl,rfl⟩|⟨_,h⟩
  ·exact al hC2 (al (show C at'≠N by omega) (al hC1 hcv))
  ·exact h
 ·intro t ht
  have MH:(sT p t r0.c).length=w:=by rw[A9,uu]
  refine rs hx fun K hK=>?_
  refine sa ?_
  refine nl hK ?_
  refine AW.seq (AW.condS rfl (fun hb=>?_) (fun hb=>?_))
  ·have htn:t<w:=by have:=bC hb;omega
   refine AW.skip (AW.seq (AW.block (rs hx fun K hK=>?_)))
   iterate 2 refine sa ?_
   refine nl hK ?_
   refine rq hx fun K hK=>?_
   iterate 5 refine sa ?_
   refine s1 (kC (z4 hA ⟨k1,r0.c,r0.b⟩).pc (al hC2.symm aa) KI tbI) ?_
   refine sa ?_
   refine s1 (iaN htn) ?_
   refine q1 (sHF (To aa hcN1 (Pt.el (sT p t r0.c) t (by omega)) (al (show N≠C at' by omega) (al (show N≠R by omega) aa)) (ew N)) rfl) ?_
   refine nl hK ?_
   refine rq hx fun K hK=>?_
   iterate 2 refine sa ?_
   refine nl hK ?_
   rw[bU]
   refine⟨t+1,wkS (by rw[h0];exact jw N) (az _) ?_ (fun j ds h=>?_) (hTm (t+1) _ rfl rfl rfl rfl rfl rfl rfl rfl rfl),htn,by omega⟩
   ·exact (cp.cons (N:=N+1) ((Gu p).cons (az _) KI (SJ ⟨k1,r0.c,r0.b⟩)) (az _) hcN1 (eD _))
   ·rw[Pt.el_set _ _ (by omega),wH]
    exact h
  ·refine AW.exit ?_
   have htn:t=w:=by have:=dE hb;omega
   subst htn
   obtain⟨c1,OR⟩:∃c1,c1=sT p t r0.c:=⟨_,rfl⟩
   rw[←OR] at MH ⊢
   -- qu row's own places
   refine rsd [28,153] hx fun K hK=>?_
   iterate 4 refine sa ?_
   refine s1 (kC (z4 hA ⟨k1,r0.c,r0.b⟩).pc (al hC2.symm aa) KI tbI) ?_
   iterate 5 refine sa ?_
   refine s1 (kC (z4 hA ⟨k1,r0.c,r0.b⟩).pc (al hC2.symm aa) KI tbI) ?_
   iterate 2 refine sa ?_
   refine cq (Gg 0 (by omega)) ?_
   refine cq (Gg 1 (by omega)) ?_
   refine s1 (ldN (Pt.idN p) (al (show N≠C at' by omega) (al (show N≠R by omega) aa)) (ew N)) ?_
   refine cq (Rn _ p) ?_
   refine sa ?_
   refine s1 (iaN hs) ?_
   refine s0 (stN (Pt.el c1 s (by omega)) aa (Pt.el_set c1 s (by omega) _)) ?_
   refine s1 (iaN (i:=bN) hbw rfl (congrArg (dI .i64) hbN)) ?_
   refine s0 (stN (Pt.el (c1.set s (nOf 0)) bN (by rw[c7];omega)) aa (Pt.el_set (c1.set s (nOf 0)) bN (by rw[c7];omega) _)) ?_
   iterate 2 refine sa ?_
   refine s0 (Hz (ys:=[dI .i64 s]) (Of hA ⟨k1,r0.c,r0.b⟩) (al hC2.symm (al hC2.symm (al hC2.symm aa))) rfl tbI rfl rfl (row_b k1 (((c1.set s (nOf 0)).set bN (n6 (nOf 1) p))) s)) ?_
   refine nl hK ?_
   -- qu dictionary with qu row
   obtain⟨r1,FN⟩:∃r1:Row,r1=⟨k1,(c1.set s (nOf 0)).set bN (n6 (nOf 1) p),s⟩:=⟨_,rfl⟩
   obtain⟨d2,ym⟩:∃d2:Dic,d2=⟨d.rows.set at' r1,d.gk,d.gc,d.n,d.piv+1,d.most⟩:=⟨_,rfl⟩
   have hr1c:r1.c.length=t:=by rw[FN];show (List.set _ _ _).length=t;rw[c7,c7];exact MH
   have hrowN:(fY C t 0 (d.rows.set at' r1)).all (D.idsC N)=true:=xr 0 _ fun j hj=>by
    rw[c7] at hj
    rw[bt];exact hCj j hj
   obtain⟨PG,Qb⟩:∃v,v=(C at',dC ((cW au).f r1.c))::(R,fY C t 0 (d.rows.set at' r1))::(kd,mX R G t d1)::vs:=⟨_,rfl⟩
   have Ao:cp ⟨PG,lv,N⟩:=by
    rw[Qb]
    exact ((hok.cons (az _) Gw (r4 Dp Tx)).cons (az _) Dp hrowN).cons (az _) hcN (eD _)
   have hfr1:∀k ds,k≠kd→k≠R→k≠C at'→vs.lookup k=some ds→PG.lookup k=some ds:=fun k ds h1 h2 h3 h=>by
    rw[Qb];exact al h3 (al h2 (al h1 h))
   have hD2:DAt PG kd R G C t d2:=by
    have hDa:DAt ((kd,mX R G t d1)::vs) kd R G C t d1:=hD.setDic hf d1 Tb (by rw[Dm];exact hD.lG) aa (al hf.dG.symm (by rw[Dm];exact hD.hG)) fun k ds h1 _ h=>al h1 h
    have:=hDa.setRow (vs2:=PG) (by rw[Tb];exact hf) (by rw[Tb];exact hat) r1 hr1c (by rw[Qb,Tb];exact al hC2.symm aa) (by rw[Qb];exact aa) fun k ds h1 h2 h=>by rw[Qb];exact al h2 (al h1 h)
    rw[ym]
    rw[Dm] at this
    exact this
   have FQ:d2.rows.length=d.rows.length:=by rw[ym];exact c7 ..
   have C0:Dif d2.rows.length kd R G C:=by rw[FQ];exact hf
   have Qe:d2.rows≠[]:=fun e=>by rw[e] at FQ;simp at FQ;omega
   have OE:d2.rows[at']? =some r1:=by rw[ym];exact Hq hat
   refine AW.weak (wkS (tm':=[(0,.pt kd 0),(1,dI .i64 at'),(2,dI .i64 s),(7,.pt R (at'*38))]) (by rw[h0];exact az N) (jw N) Ao (fun j ds h=>?_) (bG.cons (t:=0) (d:=.pt kd 0) (bG.cons (t:=1) (d:=dI .i64 at') (bG.cons (t:=2) (d:=dI .i64 s) (bG.cons (t:=7) (d:=.pt R (at'*38)) bG.nil rfl (aB Dp)))) rfl (aB Gw))) ?_
   ·have hj:=Ao.lt h
    rw[Qb] at h
    rcases b8 h with⟨rfl,rfl⟩|⟨OH,h⟩
    ·refine al hC2 ?_
     rw[FN];exact aa
    rcases b8 h with⟨rfl,rfl⟩|⟨Cu,h⟩
    ·rw[CX,FN];exact aa
    exact al Cu (al OH (al OH (al OH (al Cu (al (show j≠N by omega) h)))))
   obtain⟨A2,B2,_,_,_,hlin2,_⟩:=mA C t d2.rows at' OE
   refine rs hx fun K hK=>?_
   iterate 3 refine sa ?_
   refine s1 (CP hlin2.pa (hD2.hR Qe) Dp zU (bT _ _ _)) ?_
   refine q1 (sHC (MR (hD2.hC at' r1 OE) hr1c hw) rfl (.inr (Fr.refl _))) ?_
   refine sa ?_
   refine nl hK ?_
   refine rs hx fun K hK=>?_
   iterate 3 refine sa ?_
   refine q1 (litR tok Bb yP rfl rfl) ?_
   refine sa ?_
   refine nl hK ?_
   -- qu lines
   obtain⟨ok0,hok0⟩:∃b,b=f5 r1.k r1.c:=⟨_,rfl⟩
   rw[←hok0]
   obtain⟨m,S4⟩:∃m,m=d2.rows.length:=⟨_,rfl⟩
   have hmm:m=d.rows.length:=S4.trans FQ
   have Iv:∀i id nx,N≤nx→id<nx→cp ⟨(id,lns kd R at' i)::PG,lv,nx⟩:=fun i id nx h1 h2=>Ao.cons h1 h2 (Oy (by omega) (by omega) i)
   have hTmL:∀(i id n nx:Nat) (tm:List (Nat×D)),N≤nx→id<nx→tm.lookup 0=some (.pt kd 0)→tm.lookup 1=some (dI .i64 at')→tm.lookup 2=some (dI .i64 s)→tm.lookup 7=some (.pt R (at'*38))→tm.lookup 12=some (dB ok0)→tm.lookup 13=some (.gw id 1 n)→tm.lookup 113=some (dI .i64 m)→tm.lookup 114=some (dI .i64 i)→
     bG nx tm [(0,.pt kd 0),(1,dI .i64 at'),(2,dI .i64 s),(7,.pt R (at'*38)),(12,dB ok0),(13,.gw id 1 n),(113,dI .i64 m),(114,dI .i64 i)]:=fun i id n nx tm h1 h2 a b c e f g h j=>
    ((((((((bG.nil.cons j).cons h).cons g (aB h2)).cons f).cons e (aB (show R<nx by omega))).cons c).cons b).cons a (aB (show kd<nx by omega)))
   refine AW.seq (rs hx fun K hK=>?_)
   iterate 3 refine sa ?_
   refine s1 (kC (gu (d:=d2)) (al (show kd≠N by omega) hD2.hd) hkN1 tbI) ?_
   rw[p7 Qe]
   refine stG (d:=dI .i64 d2.rows.length) tok (Ce Cj tQ) ?_
   refine sa ?_
   refine nl hK ?_
   rw[←S4]
   refine AW.block ?_
   refine AW.loopW (fun st:Nat×Nat×Nat=>[(0,.pt kd 0),(1,dI .i64 at'),(2,dI .i64 s),(7,.pt R (at'*38)),(12,dB ok0),(13,.gw st.2.1 1 (lns kd R at' st.1).length),(113,dI .i64 m),(114,dI .i64 st.1)])
    (fun st=>⟨(st.2.1,lns kd R at' st.1)::PG,lv,st.2.2⟩) (fun st=>st.1≤m∧N≤st.2.1∧st.2.1<st.2.2) (fun st=>m - st.1) (0,N,N+1) ?_ ⟨cr _,az _,ew _⟩ ?_
   ·exact wkS (by rw[h0];exact jw N) (az _) (Iv 0 N (N+1) (jw _) (ew _)) (fun j ds h=>h) (hTmL 0 N 1 (N+1) _ (jw _) (ew _) rfl rfl rfl rfl rfl rfl rfl rfl)
   ·rintro⟨i,id,nx⟩ ⟨hi,hid,rm⟩
    dsimp only at hi hid rm ⊢
    refine rs hx fun K hK=>?_
    refine sa ?_
    refine nl hK ?_
    refine AW.seq (AW.condS rfl (fun hb=>?_) (fun hb=>?_))
    ·have Gx:i<m:=by have:=bC hb;omega
     refine AW.skip (AW.seq (AW.block (rs hx fun K hK=>?_)))
     iterate 2 refine sa ?_
     refine nl hK ?_
     refine rs hx fun K hK=>?_
     iterate 3 refine sa ?_
     refine nl hK ?_
     refine AW.condS rfl (fun hb=>?_) (fun hb=>?_)
     ·have ro:i≠at':=by have:=bC hb;omega
      refine rq hx fun K hK=>?_
      iterate 4 refine sa ?_
      refine s1 (kC (gu (d:=d2)) (al (show kd≠id by omega) hD2.hd) (show kd<nx by omega) tbI) ?_
      rw[p7 Qe]
      refine sa ?_
      refine stG (d:=.pt R (i*38)) tok (iaR (i:=i) (n:=d2.rows.length) (by omega)) ?_
      refine sa ?_
      refine q1 (litR tok Bb yP rfl rfl) ?_
      refine q1 (appR tok (k:=id) (ky:=nx) (ds:=lns kd R at' i) Bb yP (al (show id≠nx by omega) aa) aa rfl rfl (yy _).symm rfl (by have:=Ml (kd:=kd) (R:=R) (at':=at') i;show (_+1)*8≤_;omega)) ?_
      refine sa ?_
      refine nl hK ?_
      refine rq hx fun K hK=>?_
      iterate 2 refine sa ?_
      refine nl hK ?_
      rw[bU]
      have hlen:(lns kd R at' (i+1)).length=(lns kd R at' i).length+1:=by rw[Ij ro,cD];rfl
      refine⟨(i+1,nx+1,nx+1+1),wkS (by rw[h0];show N≤nx+1+1;omega) (az _) (Iv (i+1) (nx+1) (nx+1+1) (by omega) (by omega)) (fun j ds h=>?_) (by
       dsimp only
       rw[hlen]
       exact hTmL (i+1) (nx+1) _ (nx+1+1) _ (by omega) (by omega) rfl rfl rfl rfl rfl rfl rfl rfl),⟨Gx,by show N≤nx+1;omega,ew _⟩,by show m - (i+1)<m - i;omega⟩
      rcases b8 h with⟨rfl,rfl⟩|⟨hj,h⟩
      ·rw[Ij ro];exact aa
      ·have hjN:=Ao.lt h
       exact al hj (xw (by simp;omega) (al (show j≠nx by omega) (al (show j≠id by omega) h)))
     ·have ro:i=at':=by have:=dE hb;simp at this;omega
      refine AW.skip (rq hx fun K hK=>?_)
      iterate 2 refine sa ?_
      refine nl hK ?_
      rw[bU]
      refine⟨(i+1,id,nx),wkS (by rw[h0];show N≤nx;omega) (az _) (Iv (i+1) id nx (by omega) rm) (fun j ds h=>?_) (by
       dsimp only
       rw[Ik ro]
       exact hTmL (i+1) id _ nx _ (by omega) rm rfl rfl rfl rfl rfl rfl rfl rfl),⟨Gx,hid,rm⟩,by show m - (i+1)<m - i;omega⟩
      dsimp only at h
      rw[Ik ro] at h
      exact h
    ·refine AW.exit ?_
     have pP:i=m:=by have:=dE hb;omega
     subst pP
     -- qu lines,one by one
     have hiat:at'<i:=by omega
     obtain⟨P,hP⟩:∃P:Nat→Dic×Bool,P=pO r1 s at' i (d2,ok0):=⟨_,rfl⟩
     have hP0:P 0=(d2,ok0):=by rw[hP];rfl
     have hPs:∀u o,(xR at' i)[u]? =some o→P (u+1)=wD r1 s (P u) o:=fun u o h=>by rw[hP];exact pO_succ h
     have hLl:(lns kd R at' i).length=(xR at' i).length:=by rw[Ox,a8]
     have hLle:=Ml (kd:=kd) (R:=R) (at':=at') i
     refine AW.seq (rs hx fun K hK=>?_)
     refine sa ?_
     refine stG (d:=dI .i64 (lns kd R at' i).length) tok (Ce Bb yP) ?_
     refine sa ?_
     refine nl hK ?_
     refine AW.block ?_
     refine AW.loopW (fun st:Nat×List (Nat×List D)=>[(2,dI .i64 s),(7,.pt R (at'*38)),(12,dB (P st.1).2),(131,.gw id 1 (lns kd R at' i).length),(132,dI .i64 (lns kd R at' i).length),(133,dI .i64 st.1)])
      (fun st=>⟨st.2,lv,nx⟩)
      (fun st=>st.1≤(lns kd R at' i).length∧DAt st.2 kd R G C t (P st.1).1∧cp ⟨st.2,lv,nx⟩∧st.2.lookup id=some (lns kd R at' i)∧(P st.1).1.rows.length=i∧(P st.1).1.rows[at']? =some r1∧
       ∀k ds,k≠kd→k≠R→k≠G→(∀j,j<i→k≠C j)→PG.lookup k=some ds→st.2.lookup k=some ds)
      (fun st=>(lns kd R at' i).length - st.1) (0,(id,lns kd R at' i)::PG) ?_ ?_ ?_
     ·refine wkS (by rw[h0];show N≤nx;omega) (az _) (Iv i id nx (by omega) rm) (fun j ds h=>h) ?_
      dsimp only
      rw[hP0]
      exact bG.cons (t:=2) (d:=dI .i64 s) (bG.cons (t:=7) (d:=.pt R (at'*38)) (bG.cons (t:=12) (d:=dB ok0) (bG.cons (t:=131) (d:=.gw id 1 (lns kd R at' i).length) (bG.cons (t:=132) (d:=dI .i64 (lns kd R at' i).length) (bG.cons (t:=133) (d:=dI .i64 (0:Nat)) bG.nil rfl rfl) rfl rfl) rfl (aB rm)) rfl rfl) rfl (aB (show R<nx by omega))) rfl rfl
     ·dsimp only
      rw[hP0]
      refine⟨cr _,hD2.look fun k ds hk h=>al ?_ h,Iv i id nx (by omega) rm,aa,by rw[hmm];exact FQ,OE,fun k ds _ _ _ _ h=>al (by have:=Ao.lt h;omega) h⟩
      have:=Ao.lt h
      omega
     ·rintro⟨u,v⟩ ⟨hu,hDu,SV,hvid,G9,hru,hfru⟩
      dsimp only at hu hDu SV hvid G9 hru hfru ⊢
      obtain⟨du,hdu⟩:∃x,x=(P u).1:=⟨_,rfl⟩
      obtain⟨oku,SU⟩:∃x,x=(P u).2:=⟨_,rfl⟩
      rw[←hdu] at hDu G9 hru
      rw[←SU]
      have hfu:Dif du.rows.length kd R G C:=by rw[G9,hmm];exact hf
      refine rs hx fun K hK=>?_
      refine sa ?_
      refine nl hK ?_
      refine AW.seq (AW.condS rfl (fun hb=>?_) (fun hb=>?_))
      ·have Mz:u<(lns kd R at' i).length:=by have:=bC hb;omega
       obtain⟨o,ho⟩:∃o,(xR at' i)[u]? =some o:=⟨_,cC (by omega)⟩
       obtain⟨hoa,hoi⟩:=R6 (eb ho)
       have CA:(lns kd R at' i)[u]? =some (.pt (klO kd R o) (olO o)):=by rw[Ox,dT,ho];rfl
       obtain⟨F,A3,B3,hF,hLi,hcO,hlO,Kz,CZ⟩:=lineO hDu hfu o (fun j hj=>by rw[G9];exact hoi j hj)
       have hklN:=SV.lt hF
       have hkcN:=SV.lt hcO
       refine AW.skip (AW.seq (AW.block (rs hx fun K hK=>?_)))
       refine stG (d:=.pt id u) tok (iaP Mz) ?_
       refine s1 (kC (Pt.cell CA) hvid rm yP) ?_
       refine sa ?_
       refine nl hK ?_
       refine rs hx fun K hK=>?_
       iterate 3 refine sa ?_
       refine s1 (kC hLi.pc hF hklN tbI) ?_
       refine sa ?_
       refine s1 (iaN hs) ?_
       refine s1 (ldN (Pt.el (lcO du o) s (by omega)) hcO hkcN) ?_
       refine s1 Lt ?_
       refine s0 (stZ aa) ?_
       refine nl hK ?_
       obtain⟨q,hq⟩:∃q,q=(lcO du o)[s]! :=⟨_,rfl⟩
       rw[←hq]
       refine rsd [28] hx fun K hK=>?_
       iterate 3 refine sa ?_
       refine s1 (kC hLi.pc (al (show _≠nx by omega) (al (show _≠nx by omega) hF)) (show klO kd R o<nx+1 by omega) tbI) ?_
       refine sa ?_
       refine cq (Gg 0 (by omega)) ?_
       refine s1 (iaN hs) ?_
       refine s0 (stN (Pt.el (lcO du o) s (by omega)) (al (show _≠nx by omega) (al (show _≠nx by omega) hcO)) (Pt.el_set (lcO du o) s (by omega) _)) ?_
       refine nl hK ?_
       have hneu:du.rows≠[]:=fun e=>by rw[e] at hru;simp at hru
       obtain⟨A4,B4,_,_,_,hlinr,_⟩:=mA C t du.rows at' hru
       have hidk:klO kd R o<N∧kcO G C o<N∧R≠kcO G C o∧C at'≠kcO G C o∧C at'≠klO kd R o:=by
        cases o with
        |none=>exact⟨Gw,Tx,hf.RG,hC3,hC1⟩
        |some j=>
         have hj:=hoi j rfl
         have S7:j<d.rows.length:=by omega
         exact⟨Dp,hCj j S7,(hf.C1 j S7).2.1.symm,fun e=>hoa (by rw[hf.C2 at' j hat S7 e]),hC2⟩
       obtain⟨hk1N,hk2N,hRkc,hakc,hakl⟩:=hidk
       refine rsd [] hx fun K hK=>?_
       refine sa ?_
       refine s1 (ldN (Pt.idN q) (al (show nx≠kcO G C o by omega) aa) (ew nx)) ?_
       iterate 3 refine sa ?_
       refine s1 (CP hlinr.pa (al hRkc (al (show R≠nx by omega) (al (show R≠nx by omega) (hDu.hR hneu)))) (show R<nx+1 by omega) zU (bT _ _ _)) ?_
       refine sa ?_
       refine q1 (sHC (h_add (vs:=(kcO G C o,dC ((cW au).f ((lcO du o).set s (nOf 0))))::(nx,dC (au.f q))::(nx,dC zN)::v) (lv:=lv) (N:=nx+1) (kx:=C at') (xc:=r1.c) (but:=(s:Int)) (al Kz (al (show klO kd R o≠nx by omega) (al (show klO kd R o≠nx by omega) hF))) hLi aa (by rw[c7];exact hlO)
        (al hakc (al (show C at'≠nx by omega) (al (show C at'≠nx by omega) (hDu.hC at' r1 hru)))) hr1c Kz hakc hakl hw) rfl (.inl (by kernel_rfl))) ?_
       refine nl hK ?_
       obtain⟨k2,za⟩:∃x,x=xb q r1.k (lkO du o):=⟨_,rfl⟩
       obtain⟨c2,qU⟩:∃x,x=ui q r1.c s ((lcO du o).set s (nOf 0)):=⟨_,rfl⟩
       rw[←za,←qU]
       have hc2l:c2.length=t:=by rw[qU,uh,c7];exact hlO
       have hPn:P (u+1)=(L6 du o k2 c2,oku&&f5 k2 c2):=by
        rw[hPs u o ho,za,qU,hq,hdu,SU];rfl
       have CY:cp ⟨(kcO G C o,dC ((cW au).f c2))::(klO kd R o,A3++aY k2 (kcO G C o) t++B3)::v,lv,nx⟩:=
        cp.cons (N:=nx) (SV.cons (az _) hklN (hLi.pa.ids (by rw[bT,bT]) (SV.var _ F hF).2 (iU hkcN))) (az _) hkcN (eD _)
       have fin:∀tm:List (Nat×D),tm.lookup 2=some (dI .i64 s)→tm.lookup 7=some (.pt R (at'*38))→tm.lookup 12=some (dB (oku&&f5 k2 c2))→tm.lookup 131=some (.gw id 1 (lns kd R at' i).length)→tm.lookup 132=some (dI .i64 (lns kd R at' i).length)→tm.lookup 133=some (dI .i64 ((u+1:Nat):Int))→
         ∃st:Nat×List (Nat×List D),Wk cx tm ⟨(kcO G C o,dC ((cW au).f c2))::(klO kd R o,A3++aY k2 (kcO G C o) t++B3)::(kcO G C o,dC ((cW au).f ((lcO du o).set s (nOf 0))))::(nx,dC (au.f q))::(nx,dC zN)::v,lv,nx+1⟩
          [(2,dI .i64 s),(7,.pt R (at'*38)),(12,dB (P st.1).2),(131,.gw id 1 (lns kd R at' i).length),(132,dI .i64 (lns kd R at' i).length),(133,dI .i64 st.1)] ⟨st.2,lv,nx⟩∧
          (st.1≤(lns kd R at' i).length∧DAt st.2 kd R G C t (P st.1).1∧cp ⟨st.2,lv,nx⟩∧st.2.lookup id=some (lns kd R at' i)∧(P st.1).1.rows.length=i∧(P st.1).1.rows[at']? =some r1∧
           ∀k ds,k≠kd→k≠R→k≠G→(∀j,j<i→k≠C j)→PG.lookup k=some ds→st.2.lookup k=some ds)∧(lns kd R at' i).length - st.1<(lns kd R at' i).length - u:=fun tm a b c e f g=>by
        refine⟨(u+1,(kcO G C o,dC ((cW au).f c2))::(klO kd R o,A3++aY k2 (kcO G C o) t++B3)::v),wkS (by rw[h0];show N≤nx;omega) (jw nx) CY (fun j ds h=>?_) ?_,⟨by show u+1≤_;omega,?_,CY,?_,?_,?_,fun k ds h1 h2 h3 h4 h=>?_⟩,by show (lns kd R at' i).length - (u+1)<_;omega⟩
        ·have hj:=CY.lt h
         rcases b8 h with⟨rfl,rfl⟩|⟨OH,h⟩
         ·exact aa
         rcases b8 h with⟨rfl,rfl⟩|⟨Cu,h⟩
         ·exact al Kz aa
         ·exact al OH (al Cu (al OH (al (show j≠nx by omega) (al (show j≠nx by omega) h))))
        ·dsimp only
         rw[hPn]
         exact (((((bG.nil.cons g).cons f).cons e (aB rm)).cons c).cons b (aB (show R<nx by omega))).cons a
        ·dsimp only
         rw[hPn]
         exact CZ _ k2 c2 hc2l (al Kz aa) aa fun k ds h1 h2 h=>al h2 (al h1 h)
        ·exact al (show id≠kcO G C o by omega) (al (show id≠klO kd R o by omega) hvid)
        ·dsimp only
         rw[hPn,RI];exact G9
        ·dsimp only
         rw[hPn,setO_ne hoa];exact hru
        ·have hkk:k≠klO kd R o∧k≠kcO G C o:=by
          cases o with
          |none=>exact⟨h1,h3⟩
          |some j=>exact⟨h2,h4 j (hoi j rfl)⟩
         exact al hkk.2 (al hkk.1 (hfru k ds h1 h2 h3 h4 h))
       refine rq hx fun K hK=>?_
       iterate 2 refine sa ?_
       rcases Bool.eq_false_or_eq_true oku with MF|MF
       ·iterate 2 refine ga MF ?_
        refine g1 (d:=.ag (aY k2 (kcO G C o) t)) MF (CP (hLi.new k2).pa (al Kz aa) (show klO kd R o<nx+1 by omega) zU (bT _ _ _)) ?_
        refine N9 rfl rfl (by rw[MF];rfl) (sHC (MR aa hc2l hw) rfl (.inr (Fr.refl _))) ?_
        refine s1 (oO MF) ?_
        refine sa ?_
        refine nl hK ?_
        refine rq hx fun K hK=>?_
        iterate 2 refine sa ?_
        refine nl hK ?_
        rw[bU]
        exact fin _ rfl rfl (by rw[MF];rfl) rfl rfl rfl
       ·iterate 4 refine Mj rfl rfl MF ?_
        refine s1 (lY MF) ?_
        refine sa ?_
        refine nl hK ?_
        refine rq hx fun K hK=>?_
        iterate 2 refine sa ?_
        refine nl hK ?_
        rw[bU]
        exact fin _ rfl rfl (by rw[MF];rfl) rfl rfl rfl
      ·refine AW.exit ?_
       have Mz:u=(lns kd R at' i).length:=by have:=dE hb;omega
       have MC:d.rows[at']! =r0:=by rw[bI d.rows at' hat];exact (fL.1 hr0).2
       have hr1t:r1=a9 r0 s:=by
        rw[FN,S6,OR,hp]
        unfold a9
        rw[show r0.b.toNat=bN by omega,show r0.c.length=t from uu]
       have hpp:dV d at' s=(if oku then 0 else 30,du):=by
        unfold dV
        rw[ah (by omega)]
        dsimp only
        rw[MC,←hr1t,←hmm,←hok0,←ym,←hLl,←Mz,←show P=pO r1 s at' i (d2,ok0) from hP,←hdu,←SU]
       rw[hpp]
       have hlen':du.rows.length=d.rows.length:=by rw[G9,hmm]
       have fin2:∀(tm:List (Nat×D)) (e:Int),tm.lookup 6=some (dI .i64 e)→∃tm',Wk cx tm ⟨v,lv,nx⟩ tm' ⟨ov kd R G C t du vs,lv,N⟩∧tI tbl [.tmp 6] tm' ⟨ov kd R G C t du vs,lv,N⟩ (dI .i64 e):=fun tm e h=>
        Sn h0 hok (by omega) hDu hfu Gw Dp Tx (fun j hj=>hCj j (by omega)) (fun k ds h1 h2 h3 h4 h=>hfru k ds h1 h2 h3 (fun j hj=>h4 j (by omega)) (hfr1 k ds h1 h2 (h4 at' (by omega)) h)) (fun e=>by rw[e] at hlen';simp at hlen';omega) h
       refine AW.seq (rs hx fun K hK=>?_)
       iterate 2 refine sa ?_
       refine nl hK ?_
       rcases Bool.eq_false_or_eq_true oku with MF|MF
       ·refine AW.condF rfl (by rw[MF];rfl) (AW.skip (rs hx fun K hK=>?_))
        refine sa ?_
        refine nl hK ?_
        refine AW.ret ?_
        rw[MF]
        exact fin2 _ 0 rfl
       ·refine AW.condT rfl (by rw[MF];rfl) (rs hx fun K hK=>?_)
        refine sa ?_
        refine nl hK ?_
        refine AW.ret ?_
        rw[MF]
        exact fin2 _ 30 rfl
end
end
section
structure cO(d:Dic)(w m:Nat):Prop where
 len:d.rows.length=m
 lg:d.gc.length=w
 lc:∀i,i<m→d.rows[i]!.c.length=w
 b:∀i,i<m→0≤d.rows[i]!.b∧d.rows[i]!.b<w
 p0:0≤d.piv
 p1:d.piv≤9223372036854775807
 m0:0≤d.most
 m1:d.most≤9223372036854775807
section
variable {d:Dic} {w m at' s:Nat}
theorem cO.lC(h:cO d w m):∀(i:Nat) (r:Row),d.rows[i]? =some r→r.c.length=w:=fun i r hr=>by
 have hi:=(fL.1 hr).1
 have:=h.lc i (by rw[←h.len];exact hi)
 rwa[dJ hr] at this
theorem R3(h:d.most≤d.piv):dV d at' s=(220,d):=by unfold dV;rw[ai h]
theorem cO.pivD(h:cO d w m)(hat:at'<m)(hs:s<w)(hp:d.piv<d.most):cO (gi d at' s) w m:=by
 have hl:=h.len
 refine⟨by rw[eg];exact hl,?_,fun i hi=>?_,fun i hi=>?_,?_,?_,h.m0,h.m1⟩
 ·show (gV d.gk d.gc _ s).c.length=w
  rw[rJ];exact h.lg
 ·rw[je (by omega)]
  split
  ·rw[rD];exact h.lc at' hat
  ·show (gV d.rows[i]!.k d.rows[i]!.c (a9 d.rows[at']! s) s).c.length=w
   rw[rJ];exact h.lc i hi
 ·rw[pi (by omega)]
  split
  ·omega
  ·exact h.b i hi
 ·have:=h.p0
  show 0≤d.piv+1;omega
 ·have:=h.m1
  show d.piv+1≤_;omega
theorem cO.pivot(h:cO d w m)(hat:at'<m)(hs:s<w):cO (dV d at' s).2 w m∧(dV d at' s).2.most=d.most∧(dV d at' s).2.n=d.n∧((dV d at' s).1=0→(dV d at' s).2.piv=d.piv+1∧d.piv<d.most):=by
 by_cases hp:d.most≤d.piv
 ·rw[R3 hp]
  exact⟨h,rfl,rfl,fun e=>by cases e⟩
 ·obtain⟨h2,_,_⟩:=Bn d at' s (by rw[h.len];exact hat) hp
  rw[h2]
  exact⟨h.pivD hat hs (by omega),rfl,rfl,fun _=>⟨rfl,by omega⟩⟩
theorem cO.enter(h:cO d w m)(he:ke d.gc=some s):s<w:=by have:=(pD he).1;rw[h.lg] at this;exact this
theorem cO.leav(h:cO d w m){z:Nu}{p:Int×Nu}(hl:jg d.rows s z d.rows.length=some p)(hp:¬p.1<0):p.1.toNat<m∧p.1=(p.1.toNat:Int):=by
 rcases pl hl with e|⟨i,h1,h2,_⟩
 ·omega
 ·have:=h.len;omega
theorem cO.improve(h:cO d w m):∀(f:Nat),cO (g6 f d).2 w m∧(g6 f d).2.most=d.most∧(g6 f d).2.n=d.n∧-1≤(g6 f d).1.1∧(g6 f d).1.1<w:=by
 intro f
 induction f generalizing d with
 |zero=>exact⟨h,rfl,rfl,zk _,by show (-1:Int)<w;omega⟩
 |succ f ih=>
  unfold g6
  cases he:ke d.gc with
  |none=>exact⟨h,rfl,rfl,zk _,by show (-1:Int)<w;omega⟩
  |some s=>
   dsimp only
   have hs:=h.enter he
   cases hl:jg d.rows s default d.rows.length with
   |none=>exact⟨h,rfl,rfl,zk _,by show (-1:Int)<w;omega⟩
   |some p=>
    dsimp only
    by_cases hp:p.1<0
    ·rw[ai hp];exact⟨h,rfl,rfl,by show -1≤(s:Int);omega,by show (s:Int)<w;omega⟩
    ·rw[ah hp]
     obtain⟨h1,_⟩:=h.leav hl hp
     obtain⟨h2,h3,h4,_⟩:=h.pivot h1 hs
     by_cases h0:(dV d p.1.toNat s).1=0
     ·rw[ai h0]
      obtain⟨a1,a2,a3,a4⟩:=ih h2
      exact⟨a1,a2.trans h3,a3.trans h4,a4⟩
     ·rw[ah h0]
      exact⟨h2,h3,h4,zk _,by show (-1:Int)<w;omega⟩
end
end
section
section
variable {vs vsX:List (Nat×List D)} {lv:List (Nat×Nat×Nat×TypeId)} {N kd R G w m:Nat} {C:Nat→Nat} {d d':Dic}
theorem Dg(hf:Dif m kd R G C)(hS:cO d' w m)(hm:0<m)(hX:∀k ds,k≠kd→k≠R→k≠G→(∀j,j<m→k≠C j)→vs.lookup k=some ds→vsX.lookup k=some ds):∀j ds,(ov kd R G C w d' vs).lookup j=some ds→(ov kd R G C w d' vsX).lookup j=some ds:=by
 have hf':Dif d'.rows.length kd R G C:=by rw[hS.len];exact hf
 refine DV hf' (DAt.ov hf' hS.lg hS.lC) (fun k ds h1 h2 h3 h4 h=>?_) (fun e=>?_)
 ·rw[H9 h1 h2 h3 h4]
  exact hX k ds h1 h2 h3 (fun j hj=>h4 j (by rw[hS.len];exact hj)) h
 ·have:=hS.len
  rw[e] at this
  exact absurd this (by simp only[IV];omega)
theorem cO.dif(h:cO d w m)(hf:Dif m kd R G C):Dif d.rows.length kd R G C:=by rw[h.len];exact hf
theorem cO.at(h:cO d w m)(hf:Dif m kd R G C):DAt (ov kd R G C w d vs) kd R G C w d:=DAt.ov (h.dif hf) h.lg h.lC
theorem Qz {c:List Nu}{s:Nat}(h:s<c.length)(h1:0<bL c[s]!)(h2:∀t,t<s→¬0<bL c[t]!):ke c=some s:=by
 unfold ke
 rw[oI]
 refine⟨h,?_,fun t ht=>?_⟩
 ·rw[bI c s h] at h1;exact aB h1
 ·have:=h2 t ht
  rw[bI c t (by omega)] at this
  simpa using this
theorem M1 {c:List Nu}(h2:∀t,t<c.length→¬0<bL c[t]!):ke c=none:=by
 unfold ke
 rw[u9]
 intro x hx
 obtain⟨t,ht,rfl⟩:=w4.1 hx
 have:=h2 t ht
 rw[bI c t ht] at this
 exact bp this
theorem DAt.up(h:DAt vs kd R G C w d)(hX:∀k ds,vs.lookup k=some ds→vsX.lookup k=some ds):DAt vsX kd R G C w d:=h.look fun k ds _=>hX k ds
theorem Hb(Dp:R<N)(hD:DAt vs kd R G C w d)(hf:Dif m kd R G C)(hS:cO d w m)(hw:w≤1000000)(hm:m≤1000000):
  HC prog 46 [.pt kd 0] ⟨vs,lv,N⟩ (.tu [dI .i64 (aR d).1.1,dI .i64 (aR d).1.2]) ⟨ov kd R G C w (aR d).2 vs,lv,N⟩:=by
 refine HC.of (rs:=[.tmp 2,.tmp 3]) tok func46 rfl rfl (bi rfl) rfl (fun cx hx h0 hok=>?_)
 simp only[fG,Nat.reduceAdd,bt]
 have hl:=hS.len
 have wi:=hD.hd
 have Gw:=hok.lt wi
 have Tx:=hok.lt hD.hG
 have hCN:∀j,j<m→C j<N:=fun j hj=>hok.lt (hD.hC j d.rows[j]! (by rw[bI d.rows j (by omega)];exact cC _))
 have tx:∀d2,cO d2 w m→cp ⟨ov kd R G C w d2 vs,lv,N⟩:=fun d2 h2=>Cp hok Gw Dp Tx fun j hj=>hCN j (by rw[←h2.len];exact hj)
 refine rs hx fun K hK=>?_
 iterate 2 refine sa ?_
 refine nl hK ?_
 refine AW.scope (AW.seq (AW.label (AW.block (AW.loopW (fun u:Nat×Dic=>[(0,.pt kd 0)]) (fun u=>⟨ov kd R G C w u.2 vs,lv,N⟩) (fun u=>g6 u.1 u.2=aR d∧cO u.2 w m∧(u.2.most - u.2.piv).toNat+1≤u.1) (fun u=>u.1) ((d.most - d.piv).toNat+1,d) ?_ ⟨rfl,hS,az _⟩ ?_))))
 ·exact wk1 h0 (hok:=tx d hS) (hv:=DV (hS.dif hf) hD (fun _ _ _ _ _ _ h=>h) fun _ _ h=>h)
 ·rintro⟨f,dj⟩ ⟨he,CD,hfj⟩
  dsimp only at he CD hfj ⊢
  obtain⟨f,rfl⟩:∃f',f=f'+1:=⟨f - 1,by omega⟩
  have hDV:=CD.at hf (vs:=vs)
  have n7:=tx dj CD
  have t5:∀k ds,k≠kd→k≠R→k≠G→(∀j,j<m→k≠C j)→vs.lookup k=some ds→(ov kd R G C w dj vs).lookup k=some ds:=fun k ds h1 h2 h3 h4 h=>by rw[H9 h1 h2 h3 fun j hj=>h4 j (by rw[←CD.len];exact hj)];exact h
  generalize hV:ov kd R G C w dj vs=V at hDV n7 t5 ⊢
  have hdV:=hDV.hd
  have hGV:=hDV.hG
  have OL:=hDV.lG
  refine AW.block (AW.seq (rs hx fun K hK=>?_))
  iterate 4 refine sa ?_
  refine c1 ms.pc ?_
  iterate 2 refine sa ?_
  refine nl hK ?_
  refine AW.block (AW.loopW (fun t:Nat=>[(0,.pt kd 0),(13,.ow G 0 36 w),(14,dI .i64 w),(15,dI .i64 t)]) (fun _=>⟨V,lv,N⟩) (fun t=>t≤w∧∀t',t'<t→¬0<bL dj.gc[t']!) (fun t=>w - t) 0 ?_ ⟨cr _,fun t h=>absurd h (qJ _)⟩ ?_)
  ·exact wk1 h0
  ·rintro t ⟨ht,mC⟩
   refine rs hx fun K hK=>?_
   refine sa ?_
   refine nl hK ?_
   refine AW.seq (AW.condS rfl (fun hb=>?_) (fun hb=>?_))
   ·have Is:t<w:=by have:=bC hb;omega
    refine AW.skip (AW.seq (AW.block (rs hx fun K hK=>?_)))
    refine sa ?_
    refine i1 Is ?_
    refine l1 (Pt.el dj.gc t (by omega)) ?_
    refine n1 ?_
    refine sa ?_
    refine z1 ?_
    refine nl hK ?_
    refine AW.seq (rs hx fun K hK=>?_)
    refine l1 (Pt.idN _) ?_
    refine cq (yL _) ?_
    refine sa ?_
    refine nl hK ?_
    refine AW.condS rfl (fun hb=>?_) (fun hb=>?_)
    ·have hsg:bL dj.gc[t]!≤0:=bC hb
     refine AW.exit (rq hx fun K hK=>?_)
     iterate 2 refine sa ?_
     refine nl hK ?_
     rw[bU]
     refine⟨t+1,wk1 h0,⟨Is,fun t' h=>?_⟩,by omega⟩
     rcases d6 t' t with h1|h1
     ·exact mC t' h1
     ·obtain rfl:t'=t:=by omega
      omega
    have hsg:¬bL dj.gc[t]!≤0:=dE hb
    have hen:ke dj.gc=some t:=Qz (by omega) (by omega) mC
    unfold g6 at he
    rw[hen] at he
    dsimp only at he
    refine AW.skip ?_
    have hup:∀(k:Nat) (ds:List D),V.lookup k=some ds→((N,dC (au.f dj.gc[t]!))::(N,dC zN)::V).lookup k=some ds:=fun k ds h=>by
     have hk:=n7.lt h
     exact al (by omega) (al (by omega) h)
    have Tz:=hDV.up hup
    have Q2:=Qo (lv:=lv) (N:=N+1) Tz Is (by rw[CD.len];exact hm)
    cases hlp:jg dj.rows t default dj.rows.length with
    |none=>
     rw[hlp] at Q2 he
     dsimp only[Mr] at Q2 he
     refine rs hx fun K hK=>?_
     iterate 2 refine sa ?_
     refine q1 (sHC Q2 rfl (.inl (by kernel_rfl))) ?_
     iterate 5 refine sa ?_
     refine nl hK ?_
     refine AW.seq (rs hx fun K hK=>?_)
     iterate 2 refine sa ?_
     refine nl hK ?_
     refine AW.condT rfl (by decide) (rs hx fun K hK=>?_)
     iterate 3 refine sa ?_
     refine nl hK ?_
     refine AW.ret ?_
     rw[←he,hV]
     exact rt2 h0 (hok:=n7) (hv:=hup)
    |some p=>
     rw[hlp] at Q2 he
     dsimp only[Mr] at Q2 he
     refine rs hx fun K hK=>?_
     iterate 2 refine sa ?_
     refine q1 (sHC Q2 rfl (.inl (by kernel_rfl))) ?_
     iterate 5 refine sa ?_
     refine nl hK ?_
     refine AW.seq (rs hx fun K hK=>?_)
     iterate 2 refine sa ?_
     refine nl hK ?_
     refine AW.condF rfl (by decide) (AW.skip (AW.seq (rs hx fun K hK=>?_)))
     iterate 2 refine sa ?_
     refine nl hK ?_
     refine AW.condS rfl (fun hb=>?_) (fun hb=>?_)
     ·have hp:p.1<0:=bC hb
      rw[ai hp] at he
      refine rs hx fun K hK=>?_
      iterate 3 refine sa ?_
      refine nl hK ?_
      refine AW.ret ?_
      rw[←he,hV]
      exact rt2 h0 (hok:=n7) (hv:=hup)
     have hp:¬p.1<0:=dE hb
     rw[ah hp] at he
     obtain⟨ha,hpa⟩:=CD.leav hlp hp
     generalize p.1.toNat=a at ha hpa he
     have hra:dj.rows[a]? =some dj.rows[a]! :=by
      have:=CD.len
      rw[bI dj.rows a (by omega)];exact cC _
     have SO:=Iy (lv:=lv) (N:=N+1) Tz (CD.dif hf) hra Is (CD.b a ha) hw (by rw[CD.len];exact hm) ⟨CD.p0,CD.p1⟩ ⟨CD.m0,CD.m1⟩
     obtain⟨Q5,hmq,hnq,hq0⟩:=CD.pivot ha Is
     have hov:=Dg (vs:=vs) (vsX:=(N,dC (au.f dj.gc[t]!))::(N,dC zN)::V) hf Q5 (by omega) fun k ds h1 h2 h3 h4 h=>hup k ds (t5 k ds h1 h2 h3 h4 h)
     have Qc:=tx _ Q5
     generalize dV dj a t=q at SO Q5 hmq hnq hq0 hov Qc he
     refine AW.skip (AW.seq (rs hx fun K hK=>?_))
     iterate 3 refine sa ?_
     refine q1 (sHC SO (by show [_,dI .i64 p.1,_]=_;rw[hpa];rfl) (.inl (by kernel_rfl))) ?_
     refine sa ?_
     refine nl hK ?_
     refine rs hx fun K hK=>?_
     iterate 2 refine sa ?_
     refine nl hK ?_
     refine AW.condS rfl (fun hb=>?_) (fun hb=>?_)
     ·have hq:¬q.1=0:=bC hb
      rw[ah hq] at he
      refine rs hx fun K hK=>?_
      iterate 3 refine sa ?_
      refine nl hK ?_
      refine AW.ret ?_
      rw[←he]
      exact rt2 h0 (hok:=Qc) (hv:=hov)
     ·have hq:q.1=0:=by have:=dE hb;simpa using this
      rw[ai hq] at he
      obtain⟨hq1,hq2⟩:=hq0 hq
      exact AW.skip (AW.exit (⟨(f,q.2),wk1 h0 (hok:=Qc) (hv:=hov),⟨he,Q5,by dsimp only;omega⟩,by dsimp only;omega⟩))
   ·have Is:t=w:=by have:=dE hb;omega
    subst Is
    have hen:ke dj.gc=none:=M1 fun t' h=>mC t' (by omega)
    unfold g6 at he
    rw[hen] at he
    dsimp only at he
    refine AW.exit (rs hx fun K hK=>?_)
    iterate 2 refine sa ?_
    refine nl hK ?_
    refine AW.ret ?_
    rw[←he,hV]
    exact rt2 h0 (hok:=n7) (hv:=fun _ _ h=>h)
end
end
def P7(p:Nu→Bool)(l:List Nu):Int:=match l.findIdx? p with
 |some i=>i
 |none=>-1
theorem Sv {p:Nu→Bool}{l:List Nu}{i:Nat}(hi:i<l.length)(h:p l[i]! =true)(mC:∀j,j<i→p l[j]! =false):P7 p l=i:=by
 have:l.findIdx? p=some i:=by
  rw[oI]
  refine⟨hi,by rw[bI l i hi] at h;exact h,fun j hj=>?_⟩
  have:=mC j hj
  rw[bI l j (by omega)] at this
  simp[this]
 unfold P7;rw[this]
theorem P6 {p:Nu→Bool}{l:List Nu}(mC:∀j,j<l.length→p l[j]! =false):P7 p l=-1:=by
 have:l.findIdx? p=none:=by
  rw[u9]
  intro x hx
  obtain⟨j,hj,rfl⟩:=w4.1 hx
  have:=mC j hj
  rwa[bI l j hj] at this
 unfold P7;rw[this]
theorem Rm {f:FuncId}{p:Nu→Bool}(hf:∀x:Nu,ar prog f [dG au x] (dB (p x))){l:List Nu}(hl:l.length≤1000000):ar prog 106 [.e (slE au l),.e (.lit (.func (.func f) #[] #[]))] (dI .i64 (P7 p l)):=by
 refine bn (rs:=[.tmp 4]) (fun cx hx h0=>?_) func106
 refine ra hx ?_
 refine AW.seq (ra hx ?_)
 refine AW.block (AW.loopW (fun i:Nat=>[(0,.e (slE au l)),(1,.e (.lit (.func (.func f) #[] #[]))),(7,dI .i64 (l.length:Nat)),(8,dI .i64 (i:Nat))]) (fun _=>⟨[],[],0⟩) (fun i=>i≤l.length∧∀j,j<i→p l[j]! =false) (fun i=>l.length - i) 0 ?_ ⟨cr _,fun j h=>absurd h (qJ _)⟩ ?_)
 ·exact wk h0 [] (wR rfl (wR rfl (wR rfl (wR rfl wTn)))) wVn wLn
 ·rintro i ⟨hi,mC⟩
  refine ra hx ?_
  refine AW.seq (AW.condS rfl (fun hb=>?_) (fun hb=>?_))
  ·have zb:i<l.length:=by have:=bC hb;omega
   refine AW.skip (AW.seq (AW.block (ra hx ?_)))
   refine rs hx fun K hK=>?_
   iterate 3 refine sa ?_
   have qU:0≤(i:Int)∧(i:Int)<((l.length:Nat):Int):=by omega
   refine sbr ?_
   refine s1 (d:=dG au l[i]!) (jA (c:=au) (l:=l) (n:=i) (o:=0) aO zb (e8 _ _ rfl)) ?_
   refine sc (hf _) ?_
   refine nl hK ?_
   refine AW.condS rfl (fun hb=>?_) (fun hb=>?_)
   ·refine ra hx ?_
    refine AW.ret ?_
    rw[Sv zb hb mC]
    exact rv1
   ·refine AW.skip (rbr hx ?_)
    rw[bU]
    refine⟨i+1,wk h0 [] (wR rfl (wR rfl (wR rfl (wR rfl wTn)))) wVn wLn,⟨zb,fun j hj=>?_⟩,by omega⟩
    rcases d6 j i with h1|h1
    ·exact mC j h1
    ·obtain rfl:j=i:=by omega
     exact hb
  ·refine AW.exit ?_
   have zb:i=l.length:=by have:=dE hb;omega
   refine ra hx ?_
   refine AW.ret ?_
   rw[P6 fun j hj=>mC j (by omega)]
   exact rv1
theorem Rl(x:Nu):ar prog 107 [dG au x] (dB (decide (bL x≠0))):=by
 refine bn (rs:=[.tmp 2]) (fun cx hx h0=>?_) func107
 refine ra hx ?_
 refine rs hx fun K hK=>?_
 refine mbr ?_
 refine sc (yL x) ?_
 refine nbr hK ?_
 exact AW.ret (rv1)
section
section
variable {vs V V2:List (Nat×List D)} {lv:List (Nat×Nat×Nat×TypeId)} {N kd R G w m:Nat} {C:Nat→Nat} {d d':Dic}
def eM(x:Nu)(i:Nat)(d:Dic):Dic:=⟨(d.rows.take i).map (uc x)++d.rows.drop i,d.gk,d.gc,d.n,d.piv,d.most⟩
theorem EI(x:Nu)(d:Dic):eM x 0 d=d:=by unfold eM;simp
theorem xE(x:Nu)(d:Dic):eM x d.rows.length d=⟨d.rows.map (uc x),d.gk,d.gc,d.n,d.piv,d.most⟩:=by unfold eM;simp
theorem Hi {x:Nu}{i:Nat}(hi:i<d.rows.length):(eM x i d).rows[i]! =d.rows[i]! :=by
 apply dJ
 unfold eM
 dsimp only
 rw[qH (by simp;omega),a8,ep,td (by omega),zm,nt,iK]
 exact uR hi
theorem QE {x:Nu}{i:Nat}(hi:i≤d.rows.length):(eM x i d).rows.length=d.rows.length:=by
 unfold eM;simp;omega
theorem EJ {x:Nu}{i:Nat}(hi:i<d.rows.length):(⟨(eM x i d).rows.set i (uc x d.rows[i]!),d.gk,d.gc,d.n,d.piv,d.most⟩:Dic)=eM x (i+1) d:=by
 unfold eM
 dsimp only
 congr 1
 have hl:((d.rows.take i).map (uc x)).length=i:=by simp;omega
 rw[List.set_append_right _ _ (by omega),hl,zm,Fe hi,List.set_cons_zero,yx,cC hi,gK,da]
 rw[bI d.rows i hi]
 rfl
theorem Dv {x:Nu}{i j:Nat}(hi:i≤d.rows.length)(hj:j<d.rows.length):(eM x i d).rows[j]!.k=d.rows[j]!.k∧(eM x i d).rows[j]!.b=d.rows[j]!.b∧(eM x i d).rows[j]!.c.length=d.rows[j]!.c.length:=by
 have hl:((d.rows.take i).map (uc x)).length=i:=by simp;omega
 by_cases h:j<i
 ·have:(eM x i d).rows[j]! =uc x d.rows[j]! :=by
   apply dJ
   unfold eM
   dsimp only
   rw[AG (by omega),dT,gL,ai h,uR hj]
   rfl
  rw[this]
  exact⟨rfl,rfl,c7 ..⟩
 ·have:(eM x i d).rows[j]! =d.rows[j]! :=by
   apply dJ
   unfold eM
   dsimp only
   rw[qH (by omega),hl,nt,show i+(j - i)=j by omega]
   exact uR hj
  rw[this]
  exact⟨rfl,rfl,rfl⟩
theorem cO.colsI(h:cO d w m)(x:Nu){i:Nat}(hi:i≤m):cO (Go.Proofs.YtaedcknhkjpmlaaGreat.eM x i d) w m:=by
 have hl:=h.len
 refine⟨(QE (by omega)).trans hl,h.lg,fun j hj=>?_,fun j hj=>?_,h.p0,h.p1,h.m0,h.m1⟩
 ·rw[(Dv (by omega) (by omega)).2.2];exact h.lc j hj
 ·rw[(Dv (by omega) (by omega)).2.1];exact h.b j hj
theorem Ii(l:List Row):∀k,jS l k≤k
 |0=>az _
 |k+1=>by unfold jS;have:=Ii l k;split <;> omega
theorem rowsC_c {l:List Row}{j:Nat}(hj:j<l.length)(c:List Nu):fY C w 0 (l.set j ⟨l[j]!.k,c,l[j]!.b⟩)=fY C w 0 l:=by
 obtain⟨A,B,_,h2,h3,_⟩:=mA C w l j (uR hj)
 rw[h2,h3]
 rfl
theorem DAt.setC(h:DAt V kd R G C w d)(hf:Dif d.rows.length kd R G C){j:Nat}(hj:j<d.rows.length)(c:List Nu)(hl:c.length=w):DAt ((C j,dC ((cW au).f c))::V) kd R G C w ⟨d.rows.set j ⟨d.rows[j]!.k,c,d.rows[j]!.b⟩,d.gk,d.gc,d.n,d.piv,d.most⟩:=by
 obtain⟨h1,h2,h3⟩:=hf.C1 j hj
 refine h.setRow hf hj ⟨d.rows[j]!.k,c,d.rows[j]!.b⟩ hl ?_ aa fun k ds _ za hk=>al za hk
 rw[rowsC_c hj]
 exact al h2.symm (h.hR (fun e=>by rw[e] at hj;simp at hj))
theorem DAt.setG(h:DAt V kd R G C w d)(hf:Dif d.rows.length kd R G C)(c:List Nu)(hl:c.length=w):DAt ((G,dC ((cW au).f c))::V) kd R G C w ⟨d.rows,d.gk,c,d.n,d.piv,d.most⟩:=
 h.setDic hf ⟨d.rows,d.gk,c,d.n,d.piv,d.most⟩ rfl hl (al hf.dG h.hd) aa fun k ds _ za hk=>al za hk
theorem ov_in(hf:Dif m kd R G C)(hS:cO d w m)(h:DAt V2 kd R G C w d)(hm:0<m)(hr:∀k ds,k≠kd→k≠R→k≠G→(∀j,j<m→k≠C j)→vs.lookup k=some ds→V2.lookup k=some ds):∀j ds,(ov kd R G C w d vs).lookup j=some ds→V2.lookup j=some ds:=
 DV (hS.dif hf) h (fun k ds h1 h2 h3 h4 h5=>hr k ds h1 h2 h3 (fun j hj=>h4 j (by rw[hS.len];exact hj)) h5) fun e=>by
  have:=hS.len
  rw[e] at this
  simp only[IV] at this
  omega
theorem Oq(hS:cO d w m){k:Nat}{ds:List D}(h1:k≠kd)(h2:k≠R)(h3:k≠G)(h4:∀j,j<m→k≠C j)(h:vs.lookup k=some ds):(ov kd R G C w d vs).lookup k=some ds:=by
 rw[H9 h1 h2 h3 fun j hj=>h4 j (by rw[←hS.len];exact hj)];exact h
structure RowAt(V:List (Nat×List D))(R w:Nat)(C:Nat→Nat)(d:Dic)(i:Nat):Prop where
 k:∃F F',V.lookup R=some F∧Pt F (i*38+0+0) (dC (au.f d.rows[i]!.k)) F'
 c:∃F F',V.lookup R=some F∧Pt F (i*38+0+36) [.ow (C i) 0 36 w] F'
 v:V.lookup (C i)=some (dC ((cW au).f d.rows[i]!.c))
 l:d.rows[i]!.c.length=w
 r:∃F F',V.lookup R=some F∧Pt F (i*38) (iQ C w i d.rows[i]!) F'
 n:∃F F',V.lookup R=some F∧Pt F (i*38+0) (aY d.rows[i]!.k (C i) w) F'
 ne:fb R d.rows=.gw R 38 d.rows.length
theorem DAt.row(h:DAt V kd R G C w d){i:Nat}(hi:i<d.rows.length):RowAt V R w C d i:=by
 have hr:d.rows[i]? =some d.rows[i]! :=uR hi
 obtain⟨A,B,hA,h2,h3,h4,h5⟩:=mA C w d.rows i hr
 have fI:d.rows≠[]:=fun e=>by rw[e] at hi;simp at hi
 exact⟨⟨_,_,h.hR fI,h4.pk⟩,⟨_,_,h.hR fI,h4.pc⟩,h.hC i _ hr,h.lC i _ hr,⟨_,_,h.hR fI,GS h3 hA⟩,⟨_,_,h.hR fI,h4.pa⟩,p7 fI⟩
theorem RJ {x:Cx}{tm:List (Nat×D)}{q n2:Nat}{a:Int}{r:Int×Dic}(h0:x.hp0=⟨vs,lv,N⟩)(hr:r=(a,d))(hok:cp ⟨ov kd R G C w d vs,lv,N⟩)(hN:N≤n2)(hv:∀j ds,(ov kd R G C w d vs).lookup j=some ds→V.lookup j=some ds)(hq:tm.lookup q=some (dI .i64 a):=by exact rfl):
  ∃tm',Wk x tm ⟨V,lv,n2⟩ tm' ⟨ov kd R G C w r.2 vs,lv,N⟩∧tI tbl [.tmp q] tm' ⟨ov kd R G C w r.2 vs,lv,N⟩ (dI .i64 r.1):=by
 subst hr
 exact rt1 h0 hok hN hv hq rfl
theorem Su(c:List Nu):P7 (fun x=>decide (bL x≠0)) c=match yf c with|some i=>(i:Int)|none=>-1:=rfl
theorem h_begin(Dp:R<N)(hD:DAt vs kd R G C w d)(hf:Dif m kd R G C)(hS:cO d w m)(hw:w≤1000000)(hm:m≤1000000)(FP:0<m)(hw0:0<w)
  (An:∀q,dV (co d) (jS d.rows d.rows.length) 0=q→q.1=0→(aR q.2).1.2=0→0≤dA (aR q.2).2.rows 0→yf (aR q.2).2.rows[(dA (aR q.2).2.rows 0).toNat]!.c≠none):
  HC prog 43 [.pt kd 0] ⟨vs,lv,N⟩ (dI .i64 (jH d).1) ⟨ov kd R G C w (jH d).2 vs,lv,N⟩:=by
 refine HC.of (rs:=[.tmp 2]) tok func43 rfl rfl (bi rfl) rfl (fun cx hx h0 hok=>?_)
 simp only[fG,Nat.reduceAdd,bt]
 have hl:=hS.len
 have wi:=hD.hd
 have Gw:=hok.lt wi
 have Tx:=hok.lt hD.hG
 have hCN:∀j,j<m→C j<N:=fun j hj=>hok.lt (hD.hC j d.rows[j]! (uR (by omega)))
 have tx:∀d2,cO d2 w m→cp ⟨ov kd R G C w d2 vs,lv,N⟩:=fun d2 h2=>Cp hok Gw Dp Tx fun j hj=>hCN j (by rw[←h2.len];exact hj)
 refine rs hx fun K hK=>?_
 refine sa ?_
 refine nl hK ?_
 refine rs hx fun K hK=>?_
 refine sa ?_
 refine nl hK ?_
 refine AW.seq (rs hx fun K hK=>?_)
 iterate 3 refine sa ?_
 refine c1 gu ?_
 refine Oa (R:=R) (l:=d.rows) rfl ?_
 refine sa ?_
 refine nl hK ?_
 rw[hl]
 refine AW.block (AW.loopW (fun i:Nat=>[(0,.pt kd 0),(3,dI .i64 (jS d.rows i:Nat)),(14,dI .i64 m),(15,dI .i64 i)]) (fun i=>⟨ov kd R G C w (eM (nOf 1) i d) vs,lv,N⟩) (fun i=>i≤m) (fun i=>m - i) 0 ?_ (cr _) ?_)
 ·rw[EI]
  exact wk1 h0 (hok:=tx d hS) (hv:=ov_in hf hS hD FP fun _ _ _ _ _ _ h=>h)
 ·intro i hi
  have xA:=hS.colsI (nOf 1) hi
  have Dq:=xA.at hf (vs:=vs)
  have n7:=tx _ xA
  have t5:∀k ds,k≠kd→k≠R→k≠G→(∀j,j<m→k≠C j)→vs.lookup k=some ds→(ov kd R G C w (eM (nOf 1) i d) vs).lookup k=some ds:=fun k ds h1 h2 h3 h4 h=>Oq xA h1 h2 h3 h4 h
  generalize hV:ov kd R G C w (eM (nOf 1) i d) vs=V at Dq n7 t5 ⊢
  have hdi:=Dq.hd
  have hli:=xA.len
  refine rs hx fun K hK=>?_
  refine sa ?_
  refine nl hK ?_
  refine AW.seq (AW.condS rfl (fun hb=>?_) (fun hb=>?_))
  ·have pP:i<m:=by have:=bC hb;omega
   have Jz:(eM (nOf 1) i d).rows[i]! =d.rows[i]! :=Hi (by omega)
   obtain⟨⟨F1,F1',e1,L1⟩,⟨F2,F2',e2,L2⟩,e3,uu,_,_,fI⟩:=Dq.row (i:=i) (by omega)
   have S6:=n7.lt e1
   have hk3:=n7.lt e3
   rw[Jz] at e3 L1 uu
   refine AW.skip (AW.seq (AW.block (rs hx fun K hK=>?_)))
   iterate 2 refine sa ?_
   refine nl hK ?_
   refine rsd [28] hx fun K hK=>?_
   iterate 3 refine sa ?_
   refine c1 gu ?_
   refine sa ?_
   refine r1 (n:=(eM (nOf 1) i d).rows.length) (i:=i) (by omega) ?_ (by show (fb R _).toOw=_;rw[fI];rfl)
   iterate 2 refine sa ?_
   refine c1 L2 ?_
   refine cq (Gg 1 (by omega)) ?_
   refine i1 (i:=0) (n:=w) hw0 ?_
   refine t1 (Pt.el d.rows[i]!.c 0 (by omega)) (Pt.el_set d.rows[i]!.c 0 (by omega) _) ?_
   refine nl hK ?_
   have hdn:(⟨(eM (nOf 1) i d).rows.set i ⟨(eM (nOf 1) i d).rows[i]!.k,d.rows[i]!.c.set 0 (nOf 1),(eM (nOf 1) i d).rows[i]!.b⟩,d.gk,d.gc,d.n,d.piv,d.most⟩:Dic)=eM (nOf 1) (i+1) d:=by
    rw[Jz];exact EJ (by omega)
   have MU:=Dq.setC (xA.dif hf) (j:=i) (by omega) (d.rows[i]!.c.set 0 (nOf 1)) (by rw[c7];exact uu)
   have MU:DAt ((C i,dC ((cW au).f (d.rows[i]!.c.set 0 (nOf 1))))::V) kd R G C w (eM (nOf 1) (i+1) d):=by rw[←hdn];exact MU
   have hSn:=hS.colsI (nOf 1) (show i+1≤m by omega)
   have mC:jS d.rows i<m:=by
    have:=Ii d.rows i
    omega
   have LM:=hSn.len
   obtain⟨⟨F3,F3',e4,L3⟩,_,_,_,_,_,Qe⟩:=MU.row (i:=i) (by omega)
   obtain⟨⟨F4,F4',e5,L4⟩,_⟩:=MU.row (i:=jS d.rows i) (by omega)
   rw[(Dv (show i+1≤d.rows.length by omega) (show i<d.rows.length by omega)).1] at L3
   rw[(Dv (show i+1≤d.rows.length by omega) (show jS d.rows i<d.rows.length by omega)).1] at L4
   have hdn2:=MU.hd
   have wd:∀j ds,(ov kd R G C w (eM (nOf 1) (i+1) d) vs).lookup j=some ds→((C i,dC ((cW au).f (d.rows[i]!.c.set 0 (nOf 1))))::V).lookup j=some ds:=ov_in hf hSn MU FP fun k ds h1 h2 h3 h4 h=>al (h4 i pP) (t5 k ds h1 h2 h3 h4 h)
   have hokn:=tx _ hSn
   have hokW:cp ⟨(C i,dC ((cW au).f (d.rows[i]!.c.set 0 (nOf 1))))::V,lv,N⟩:=n7.consM hk3 (eD _)
   have hk4:=hokW.lt e4
   generalize (C i,dC ((cW au).f (d.rows[i]!.c.set 0 (nOf 1))))::V=W at MU e4 e5 hdn2 wd ⊢
   have iN:jS d.rows (i+1)=if p8 d.rows[i]!.k d.rows[jS d.rows i]!.k<0 then i else jS d.rows i:=rfl
   refine rsd [32] hx fun K hK=>?_
   iterate 3 refine sa ?_
   refine c1 gu ?_
   refine sa ?_
   refine r1 (n:=(eM (nOf 1) (i+1) d).rows.length) (i:=i) (by omega) ?_ (by show (fb R _).toOw=_;rw[Qe];rfl)
   iterate 2 refine sa ?_
   refine l1 L3 ?_
   iterate 3 refine sa ?_
   refine c1 gu ?_
   refine sa ?_
   refine r1 (n:=(eM (nOf 1) (i+1) d).rows.length) (i:=jS d.rows i) (by omega) ?_ (by show (fb R _).toOw=_;rw[Qe];rfl)
   iterate 2 refine sa ?_
   refine l1 L4 ?_
   refine cq (w_Cmp _ _) ?_
   refine sa ?_
   refine nl hK ?_
   refine AW.condS rfl (fun hb=>?_) (fun hb=>?_)
   ·rw[ai (bC hb)] at iN
    refine rq hx fun K hK=>?_
    iterate 2 refine sa ?_
    refine nl hK ?_
    refine rq hx fun K hK=>?_
    iterate 2 refine sa ?_
    refine nl hK ?_
    rw[bU]
    refine⟨i+1,?_,pP,by omega⟩
    rw[iN]
    exact wk1 h0 (hok:=hokn) (hv:=wd)
   ·rw[ah (dE hb)] at iN
    refine AW.skip (rq hx fun K hK=>?_)
    iterate 2 refine sa ?_
    refine nl hK ?_
    rw[bU]
    refine⟨i+1,?_,pP,by omega⟩
    rw[iN]
    exact wk1 h0 (hok:=hokn) (hv:=wd)
  ·refine AW.exit ?_
   have pP:i=m:=by have:=dE hb;omega
   subst pP
   have hlowm:jS d.rows i=jS d.rows d.rows.length:=by rw[hl]
   rw[hlowm]
   have hci:eM (nOf 1) i d=⟨d.rows.map (uc (nOf 1)),d.gk,d.gc,d.n,d.piv,d.most⟩:=by rw[←hl];exact xE _ _
   rw[hci] at xA Dq hdi
   have hGi:=Dq.hG
   -- qu goal
   refine rsd [28] hx fun K hK=>?_
   iterate 4 refine sa ?_
   refine c1 ms.pc ?_
   refine cq (Gg (-1) (by omega)) ?_
   refine i1 (i:=0) (n:=w) hw0 ?_
   refine t1 (Pt.el d.gc 0 (by rw[hS.lg];omega)) (Pt.el_set d.gc 0 (by rw[hS.lg];omega) _) ?_
   refine nl hK ?_
   have hDs:=Dq.setG (xA.dif hf) (d.gc.set 0 (nOf (-1))) (by rw[c7];exact hS.lg)
   have hDs:DAt ((G,dC ((cW au).f (d.gc.set 0 (nOf (-1)))))::V) kd R G C w (co d):=hDs
   have hSs:cO (co d) w i:=by
    refine⟨xA.len,?_,xA.lc,xA.b,hS.p0,hS.p1,hS.m0,hS.m1⟩
    show (d.gc.set 0 (nOf (-1))).length=w
    rw[c7];exact hS.lg
   have Eh:∀k ds,k≠kd→k≠R→k≠G→(∀j,j<i→k≠C j)→vs.lookup k=some ds→((G,dC ((cW au).f (d.gc.set 0 (nOf (-1)))))::V).lookup k=some ds:=fun k ds h1 h2 h3 h4 h=>al h3 (t5 k ds h1 h2 h3 h4 h)
   generalize (G,dC ((cW au).f (d.gc.set 0 (nOf (-1)))))::V=W at hDs Eh ⊢
   have hdW:=hDs.hd
   have hms:0<(co d).rows.length:=by rw[hSs.len];omega
   have mC:jS d.rows d.rows.length<i:=by
    rcases sd i with e|e
    ·omega
    ·have:jS d.rows i<i:=by
      have h3:∀n,0<n→jS d.rows n<n:=by
       intro n hn
       obtain⟨n,rfl⟩:∃n',n=n'+1:=⟨n - 1,by omega⟩
       unfold jS
       have:=Ii d.rows n
       split <;> omega
      exact h3 i e
     omega
   have hra:(co d).rows[jS d.rows d.rows.length]? =some (co d).rows[jS d.rows d.rows.length]! :=uR (by rw[hSs.len];exact mC)
   have SO:=Iy (lv:=lv) (N:=N) hDs (hSs.dif hf) hra hw0 (hSs.b _ mC) hw (by rw[hSs.len];exact hm) ⟨hSs.p0,hSs.p1⟩ ⟨hSs.m0,hSs.m1⟩
   obtain⟨Q5,_⟩:=hSs.pivot mC hw0
   have hov1:=Dg (vs:=vs) (vsX:=W) hf Q5 FP Eh
   have Qc:=tx _ Q5
   have uO:jH d=(let p:=dV (co d) (jS d.rows d.rows.length) 0;if p.1≠0 then p else let q:=aR p.2;if q.1.2≠0∨bL q.2.gk<0 then (q.1.2,q.2) else if dA q.2.rows 0<0 then (0,q.2) else match yf q.2.rows[(dA q.2.rows 0).toNat]!.c with|none=>(0,q.2)|some s=>dV q.2 (dA q.2.rows 0).toNat s):=rfl
   have An:=An _ rfl
   generalize dV (co d) (jS d.rows d.rows.length) 0=q at SO Q5 hov1 Qc uO An
   dsimp only at uO
   refine AW.seq (rs hx fun K hK=>?_)
   iterate 2 refine sa ?_
   refine q1 (sHC SO rfl (.inl (by kernel_rfl))) ?_
   refine sa ?_
   refine nl hK ?_
   refine rs hx fun K hK=>?_
   iterate 2 refine sa ?_
   refine nl hK ?_
   refine AW.condS rfl (fun hb=>?_) (fun hb=>?_)
   ·have hq:q.1≠0:=bC hb
    rw[ai hq] at uO
    refine rs hx fun K hK=>?_
    iterate 2 refine sa ?_
    refine nl hK ?_
    exact AW.ret (RJ h0 uO Qc (az _) hov1)
   have hq0:q.1=0:=by have:=dE hb;simpa using this
   rw[ah (fun e=>e hq0)] at uO
   have An:=An hq0
   refine AW.skip ?_
   -- improving
   have pP:=Hb (lv:=lv) (N:=N) Dp (Q5.at hf (vs:=W)) hf Q5 hw hm
   obtain⟨Hc,hmr,hnr,FN,OE⟩:=Q5.improve ((q.2.most - q.2.piv).toNat+1)
   change cO (aR q.2).2 w i at Hc
   have hout3:∀k ds,k≠kd→k≠R→k≠G→(∀j,j<i→k≠C j)→vs.lookup k=some ds→(ov kd R G C w q.2 W).lookup k=some ds:=fun k ds h1 h2 h3 h4 h=>Oq Q5 h1 h2 h3 h4 (Eh k ds h1 h2 h3 h4 h)
   have SS:=Dg (vs:=vs) (vsX:=ov kd R G C w q.2 W) hf Hc FP hout3
   have hokr:=tx _ Hc
   generalize aR q.2=r at pP Hc SS hokr uO An
   have hDr:=Hc.at hf (vs:=ov kd R G C w q.2 W)
   have hdr:=hDr.hd
   refine AW.seq (rs hx fun K hK=>?_)
   refine sa ?_
   refine q1 (sHC pP rfl (.inl (by kernel_rfl))) ?_
   iterate 5 refine sa ?_
   refine nl hK ?_
   generalize hX:ov kd R G C w r.2 (ov kd R G C w q.2 W)=X at hDr hdr SS ⊢
   refine rs hx fun K hK=>?_
   iterate 3 refine sa ?_
   by_cases he:r.1.2≠0
   ·have e1:decide (r.1.2≠0)=true:=aB he
    iterate 7 refine gn e1 ?_
    refine s1 (d:=dB true) (oO e1) ?_
    refine nl hK ?_
    rw[ai (.inl he)] at uO
    refine AW.condT rfl rfl (rs hx fun K hK=>?_)
    iterate 2 refine sa ?_
    refine nl hK ?_
    exact AW.ret (RJ h0 uO hokr (az _) SS)
   have e1:decide (r.1.2≠0)=false:=bp he
   iterate 4 refine ga e1 ?_
   refine l1g ms.pk e1 ?_
   refine cqg (yL _) e1 ?_
   refine ga e1 ?_
   refine s1 (d:=dB (decide (bL r.2.gk<0))) (lY e1) ?_
   refine nl hK ?_
   have he0:r.1.2=0:=BW.1 he
   refine AW.condS rfl (fun hb=>?_) (fun hb=>?_)
   ·rw[ai (.inr (bC hb))] at uO
    refine rs hx fun K hK=>?_
    iterate 2 refine sa ?_
    refine nl hK ?_
    exact AW.ret (RJ h0 uO hokr (az _) SS)
   rw[ah (by rintro (e|e);exact he e;exact dE hb e)] at uO
   have An:=An he0
   refine AW.skip ?_
   -- x(0)
   have hfd:=MS (lv:=lv) (N:=N) (v:=0) hDr (by rw[Hc.len];exact hm)
   refine AW.seq (rs hx fun K hK=>?_)
   refine sa ?_
   refine q1 (sHC hfd rfl (.inl (by kernel_rfl))) ?_
   refine sa ?_
   refine nl hK ?_
   refine rs hx fun K hK=>?_
   iterate 2 refine sa ?_
   refine nl hK ?_
   refine AW.condS rfl (fun hb=>?_) (fun hb=>?_)
   ·have vL:0≤dA r.2.rows 0:=bC hb
    rw[ah (by omega)] at uO
    obtain⟨a,ha,Qm⟩:∃a:Nat,a<i∧dA r.2.rows 0=(a:Int):=by
     have S5:=Hc.len
     unfold dA at vL ⊢
     cases Qh:r.2.rows.findIdx? fun r=>decide (r.b=0) with
     |none=>rw[Qh] at vL;exact absurd vL (by decide)
     |some a=>exact⟨a,by have:=(oI.1 Qh).1;omega,rfl⟩
    have An:=An vL
    rw[Qm,show ((a:Int)).toNat=a by omega] at uO An
    cases SY:yf r.2.rows[a]!.c with
    |none=>exact absurd SY An
    |some sN=>
    rw[SY] at uO
    dsimp only at uO
    have hsw:sN<w:=by
     unfold yf at SY
     have:=(oI.1 SY).1
     rw[Hc.lc a ha] at this;exact this
    obtain⟨_,⟨F2,F2',e2,L2⟩,e3,uu,_,_,fI⟩:=hDr.row (i:=a) (by rw[Hc.len];exact ha)
    have hix:=HC.frz (hp:=⟨X,lv,N⟩) (Rm Rl (l:=r.2.rows[a]!.c) (by omega)) (ds:=[.ow (C a) 0 36 w,.e (.lit (.func (.func 107) #[] #[]))]) ⟨AR.list e3 uu,AR.data rfl,trivial⟩ rfl
    rw[Su,SY] at hix
    dsimp only at hix
    have hrb:r.2.rows[a]? =some r.2.rows[a]! :=uR (by rw[Hc.len];exact ha)
    have hpv2:=Iy (lv:=lv) (N:=N) hDr (Hc.dif hf) hrb hsw (Hc.b a ha) hw (by rw[Hc.len];exact hm) ⟨Hc.p0,Hc.p1⟩ ⟨Hc.m0,Hc.m1⟩
    obtain⟨hSz,_⟩:=Hc.pivot ha hsw
    have hout4:∀k ds,k≠kd→k≠R→k≠G→(∀j,j<i→k≠C j)→vs.lookup k=some ds→X.lookup k=some ds:=fun k ds h1 h2 h3 h4 h=>by rw[←hX];exact Oq Hc h1 h2 h3 h4 (hout3 k ds h1 h2 h3 h4 h)
    have hov3:=Dg (vs:=vs) (vsX:=X) hf hSz FP hout4
    have hokz:=tx _ hSz
    generalize dV r.2 a sN=z at hpv2 hSz hov3 hokz uO
    have za:R<N:=Dp
    have heX:X.lookup R=some F2:=e2
    refine rs hx fun K hK=>?_
    iterate 3 refine sa ?_
    refine c1 gu ?_
    refine sa ?_
    refine r1 (n:=r.2.rows.length) (i:=a) (by rw[Hc.len];exact ha) ?_ (by show (fb R _).toOw=_;rw[fI];rfl) (by show D.toOw (dI .i64 _)=_;rw[Qm];rfl)
    iterate 2 refine sa ?_
    refine c1 L2 ?_
    refine q1 (sHC hix rfl (.inl (by kernel_rfl))) ?_
    refine sa ?_
    refine nl hK ?_
    refine rs hx fun K hK=>?_
    iterate 3 refine sa ?_
    refine q1 (sHC hpv2 (by show [_,dI .i64 (dA r.2.rows 0),_]=_;rw[Qm];rfl) (.inl (by kernel_rfl))) ?_
    refine sa ?_
    refine nl hK ?_
    exact AW.ret (RJ h0 uO hokz (az _) hov3)
   ·have bK:dA r.2.rows 0<0:=by have:=dE hb;omega
    rw[ai bK] at uO
    refine AW.skip (rs hx fun K hK=>?_)
    refine sa ?_
    refine nl hK ?_
    exact AW.ret (RJ h0 uO hokr (az _) SS)
end
end
section
theorem xa(l:List Row)(w:Nat)(c:List Nu):∀k,(gF l w c k).2.length=w
 |0=>by simp[gF]
 |k+1=>by
  unfold gF
  dsimp only
  split
  ·rw[uh];exact xa l w c k
  ·rw[c7];exact xa l w c k
section
variable {vs V V2:List (Nat×List D)} {lv:List (Nat×Nat×Nat×TypeId)} {N kd R G w m:Nat} {C:Nat→Nat} {d d':Dic}
theorem DAt.setGK(h:DAt V kd R G C w d)(hf:Dif d.rows.length kd R G C)(k:Nu)(c:List Nu)(hl:c.length=w):DAt ((G,dC ((cW au).f c))::(kd,[fb R d.rows]++aY k G w++[dI .i64 d.n,dI .i64 d.piv,dI .i64 d.most])::V) kd R G C w ⟨d.rows,k,c,d.n,d.piv,d.most⟩:=
 h.setDic hf ⟨d.rows,k,c,d.n,d.piv,d.most⟩ rfl hl (al hf.dG aa) aa fun j ds h1 h2 hj=>al h2 (al h1 hj)
theorem wF(hf:Dif m kd R G C)(hS:cO d w m)(h:DAt V2 kd R G C w d)(hr:∀k ds,k≠kd→(m≠0→k≠R)→k≠G→(∀j,j<m→k≠C j)→vs.lookup k=some ds→V2.lookup k=some ds):∀j ds,(ov kd R G C w d vs).lookup j=some ds→V2.lookup j=some ds:=
 DV (hS.dif hf) h (fun k ds h1 h2 h3 h4 h5=>hr k ds h1 (fun _=>h2) h3 (fun j hj=>h4 j (by rw[hS.len];exact hj)) h5) fun e ds h5=>by
  have hm:=hS.len
  rw[e] at hm
  simp only[IV] at hm
  exact hr R ds hf.dR.symm (fun hh=>absurd hm.symm hh) hf.RG (fun j hj=>by omega) h5
theorem DX(hS:cO d w m){k:Nat}{ds:List D}(h1:k≠kd)(h2:m≠0→k≠R)(h3:k≠G)(h4:∀j,j<m→k≠C j)(h:vs.lookup k=some ds):(ov kd R G C w d vs).lookup k=some ds:=by
 by_cases hm:m=0
 ·have hl:=hS.len
  have hr:d.rows=[]:=IX.1 (by omega)
  refine al h1 (al h3 ?_)
  rw[hr];exact h
 ·exact Oq hS h1 (h2 hm) h3 h4 h
theorem rtN {x:Cx}{tm:List (Nat×D)}{vs0:List (Nat×List D)}{lv0:List (Nat×Nat×Nat×TypeId)}{N0 M n2 q:Nat}{a:D}(h0:x.hp0=⟨vs0,lv0,N0⟩)(hM:N0≤M)(hok:cp ⟨V,lv,M⟩)(hN:M≤n2)(hv:∀j ds,V.lookup j=some ds→V2.lookup j=some ds)(hq:tm.lookup q=some a:=by exact rfl)(hd:a.idsB M=true:=by exact rfl):
  ∃tm',Wk x tm ⟨V2,lv,n2⟩ tm' ⟨V,lv,M⟩∧tI tbl [.tmp q] tm' ⟨V,lv,M⟩ a:=
 ⟨[(q,a)],wkS (by rw[h0];exact hM) hN hok hv (bG.nil.cons hq hd),⟨a,aa,rfl⟩⟩
theorem h_aim {c:List Nu}(Dp:R<N)(hD:DAt vs kd R G C w d)(hf:Dif m kd R G C)(hS:cO d w m)(hw:w≤1000000)(hm:m≤1000000)(hw0:0<w)(hc:c.length+1≤w):
  HC prog 45 [.pt kd 0,.e (slE au c)] ⟨vs,lv,N⟩ (dI .i64 (mK d c).1) ⟨ov kd R (N+3) C w (mK d c).2 vs,lv,N+4⟩:=by
 refine HC.of (rs:=[.tmp 4]) tok func45 rfl rfl (bi rfl) rfl (fun cx hx h0 hok=>?_)
 simp only[fG,Nat.reduceAdd,bt]
 have hl:=hS.len
 have wi:=hD.hd
 have Gw:=hok.lt wi
 have Tx:=hok.lt hD.hG
 have hGV:=hD.hG
 have OL:=hD.lG
 have hCN:∀j,j<m→C j<N:=fun j hj=>hok.lt (hD.hC j d.rows[j]! (uR (by omega)))
 have C0:Dif m kd R (N+3) C:=⟨hf.dR,by omega,by omega,fun i hi=>⟨(hf.C1 i hi).1,(hf.C1 i hi).2.1,by have:=hCN i hi;omega⟩,hf.C2⟩
 refine rs hx fun K hK=>?_
 refine sa ?_
 refine nl hK ?_
 refine rs hx fun K hK=>?_
 iterate 5 refine sa ?_
 refine c1 ms.pc ?_
 refine sa ?_
 refine q1 (sHC (xz hw) rfl (.inr ⟨by show N≤N+4;omega,fun j hj=>by have hj:j<N:=hj;exact (ao (by omega)).trans (ao (by omega))⟩)) ?_
 iterate 2 refine sa ?_
 refine v1 (ys:=aY (nOf 0) (N+3) w) (ms (R:=R) (G:=G) (w:=w) (d:=d)).pa (bT _ _ _) ((bT _ _ _).trans (bT d.gk G w).symm) rfl ?_
 refine nl hK ?_
 -- qu dictionary with qu goal 0
 obtain⟨dz,hdz⟩:∃dz:Dic,dz=⟨d.rows,nOf 0,List.replicate w (nOf 0),d.n,d.piv,d.most⟩:=⟨_,rfl⟩
 have hSz:cO dz w m:=by rw[hdz];exact⟨hl,by simp,hS.lc,hS.b,hS.p0,hS.p1,hS.m0,hS.m1⟩
 obtain⟨V0,FX⟩:∃V0,V0=(kd,[fb R d.rows]++aY (nOf 0) (N+3) w++[dI .i64 d.n,dI .i64 d.piv,dI .i64 d.most])::(N,aY (nOf 0) (N+3) w)::(N+3,dC ((cW au).f (List.replicate w (nOf 0))))::vs:=⟨_,rfl⟩
 have hDz:DAt V0 kd R (N+3) C w dz:=by
  rw[FX,hdz]
  refine⟨aa,fun fI=>al hf.dR.symm (al (by omega) (al (by omega) (hD.hR fI))),al (by omega) (al (by omega) aa),fun i r hr=>?_,by simp,hS.lC⟩
  have hi:=(fL.1 hr).1
  have hi:i<m:=by rw[←hl];exact hi
  have:=hCN i hi
  exact al (hf.C1 i hi).1 (al (by omega) (al (by omega) (hD.hC i r hr)))
 have hok0:cp ⟨V0,lv,N+4⟩:=by
  rw[FX]
  refine cp.consM ?_ (by omega) ?_
  ·refine cp.consM ?_ (by omega) (iU (by omega))
   exact cp.consM (hok.up (by omega)) (by omega) (eD _)
  ·exact r4 (d:=⟨d.rows,nOf 0,List.replicate w (nOf 0),d.n,d.piv,d.most⟩) (R:=R) (G:=N+3) (w:=w) (by omega) (by omega)
 have OG:∀k ds,k≠kd→(m≠0→k≠R)→k≠N+3→(∀j,j<m→k≠C j)→vs.lookup k=some ds→V0.lookup k=some ds:=fun k ds h1 h2 h3 h4 h=>by
  have:=hok.lt h
  rw[FX];exact al h1 (al (by omega) (al h3 h))
 rw[←FX]
 have tx:∀d2,cO d2 w m→cp ⟨ov kd R (N+3) C w d2 vs,lv,N+4⟩:=fun d2 h2=>Cp (hok.up (by omega)) (by omega) (by omega) (by omega) fun j hj=>by have:=hCN j (by rw[←h2.len];exact hj);omega
 -- qu rows
 refine AW.seq (rs hx fun K hK=>?_)
 have hdz0:=hDz.hd
 iterate 3 refine sa ?_
 refine c1 gu ?_
 refine Oa (R:=R) (l:=dz.rows) rfl ?_
 refine sa ?_
 refine nl hK ?_
 rw[hSz.len]
 refine AW.block (AW.loopW (fun i:Nat=>[(0,.pt kd 0),(1,.e (slE au c)),(23,dI .i64 m),(24,dI .i64 i)]) (fun i=>⟨ov kd R (N+3) C w (eM (nOf 0) i dz) vs,lv,N+4⟩) (fun i=>i≤m) (fun i=>m - i) 0 ?_ (cr _) ?_)
 ·rw[EI]
  exact wk1 h0 (hok:=tx dz hSz) (hv:=wF C0 hSz hDz OG)
 ·intro i hi
  have xA:=hSz.colsI (nOf 0) hi
  have Dq:=xA.at C0 (vs:=vs)
  have n7:=tx _ xA
  have t5:∀k ds,k≠kd→(m≠0→k≠R)→k≠N+3→(∀j,j<m→k≠C j)→vs.lookup k=some ds→(ov kd R (N+3) C w (eM (nOf 0) i dz) vs).lookup k=some ds:=fun k ds h1 h2 h3 h4 h=>DX xA h1 h2 h3 h4 h
  have hzl:=hSz.len
  generalize hV:ov kd R (N+3) C w (eM (nOf 0) i dz) vs=V at Dq n7 t5 ⊢
  have hdi:=Dq.hd
  have hli:=xA.len
  refine rs hx fun K hK=>?_
  refine sa ?_
  refine nl hK ?_
  refine AW.seq (AW.condS rfl (fun hb=>?_) (fun hb=>?_))
  ·have pP:i<m:=by have:=bC hb;omega
   have Jz:(eM (nOf 0) i dz).rows[i]! =dz.rows[i]! :=Hi (by omega)
   obtain⟨⟨F1,F1',e1,L1⟩,⟨F2,F2',e2,L2⟩,e3,uu,_,_,fI⟩:=Dq.row (i:=i) (by omega)
   have S6:=n7.lt e1
   have hk3:=n7.lt e3
   rw[Jz] at e3 L1 uu
   refine AW.skip (AW.seq (AW.block (rs hx fun K hK=>?_)))
   iterate 2 refine sa ?_
   refine nl hK ?_
   refine rqd [28] hx fun K hK=>?_
   iterate 3 refine sa ?_
   refine c1 gu ?_
   refine sa ?_
   refine r1 (n:=(eM (nOf 0) i dz).rows.length) (i:=i) (by omega) ?_ (by show (fb R _).toOw=_;rw[fI];rfl)
   iterate 2 refine sa ?_
   refine c1 L2 ?_
   refine cq (Gg 0 (by omega)) ?_
   refine i1 (i:=0) (n:=w) hw0 ?_
   refine t1 (Pt.el dz.rows[i]!.c 0 (by omega)) (Pt.el_set dz.rows[i]!.c 0 (by omega) _) ?_
   refine nl hK ?_
   have hdn:(⟨(eM (nOf 0) i dz).rows.set i ⟨(eM (nOf 0) i dz).rows[i]!.k,dz.rows[i]!.c.set 0 (nOf 0),(eM (nOf 0) i dz).rows[i]!.b⟩,dz.gk,dz.gc,dz.n,dz.piv,dz.most⟩:Dic)=eM (nOf 0) (i+1) dz:=by
    rw[Jz];exact EJ (by omega)
   have MU:=Dq.setC (xA.dif C0) (j:=i) (by omega) (dz.rows[i]!.c.set 0 (nOf 0)) (by rw[c7];exact uu)
   have MU:DAt ((C i,dC ((cW au).f (dz.rows[i]!.c.set 0 (nOf 0))))::V) kd R (N+3) C w (eM (nOf 0) (i+1) dz):=by rw[←hdn];exact MU
   have hSn:=hSz.colsI (nOf 0) (show i+1≤m by omega)
   have wd:=wF (vs:=vs) C0 hSn MU fun k ds h1 h2 h3 h4 h=>al (h4 i pP) (t5 k ds h1 h2 h3 h4 h)
   have hokn:=tx _ hSn
   refine rq hx fun K hK=>?_
   iterate 2 refine sa ?_
   refine nl hK ?_
   rw[bU]
   exact⟨i+1,wk1 h0 (hok:=hokn) (hv:=wd),pP,by omega⟩
  ·refine AW.exit ?_
   have pP:i=m:=by have:=dE hb;omega
   subst pP
   have hci:eM (nOf 0) i dz=⟨d.rows.map (uc (nOf 0)),nOf 0,List.replicate w (nOf 0),d.n,d.piv,d.most⟩:=by
    rw[←hzl,xE,hdz]
   rw[hci] at xA Dq hdi
   -- qu numbers of qu program
   obtain⟨rz,hrz⟩:∃rz,rz=d.rows.map (uc (nOf 0)):=⟨_,rfl⟩
   rw[←hrz] at xA Dq hdi
   have hSk:∀k,cO ⟨rz,(gF rz w c k).1,(gF rz w c k).2,d.n,d.piv,d.most⟩ w i:=fun k=>⟨xA.len,xa rz w c k,xA.lc,xA.b,hS.p0,hS.p1,hS.m0,hS.m1⟩
   have haim:mK d c=(if f5 (gF rz w c c.length).1 (gF rz w c c.length).2 then 0 else 30,⟨rz,(gF rz w c c.length).1,(gF rz w c c.length).2,d.n,d.piv,d.most⟩):=by
    unfold mK mL
    rw[←hrz,hS.lg]
   refine AW.seq (rs hx fun K hK=>?_)
   iterate 3 refine sa ?_
   refine nl hK ?_
   refine AW.block (AW.loopW (fun k:Nat=>[(0,.pt kd 0),(39,.e (slE au c)),(40,dI .i64 (c.length:Nat)),(41,dI .i64 k)]) (fun k=>⟨ov kd R (N+3) C w ⟨rz,(gF rz w c k).1,(gF rz w c k).2,d.n,d.piv,d.most⟩ vs,lv,N+4⟩) (fun k=>k≤c.length) (fun k=>c.length - k) 0 ?_ (cr _) ?_)
   ·exact wk1 h0 (hok:=tx _ (hSk 0)) (hv:=wF C0 (hSk 0) Dq t5)
   ·intro k hk
    have CD:=hSk k
    have hDj:=CD.at C0 (vs:=vs)
    have n7:=tx _ CD
    have t5:∀k' ds,k'≠kd→(i≠0→k'≠R)→k'≠N+3→(∀j,j<i→k'≠C j)→vs.lookup k'=some ds→(ov kd R (N+3) C w ⟨rz,(gF rz w c k).1,(gF rz w c k).2,d.n,d.piv,d.most⟩ vs).lookup k'=some ds:=fun k' ds h1 h2 h3 h4 h=>DX CD h1 h2 h3 h4 h
    have Ep:gF rz w c (k+1)=(if 0≤dA rz ((k+1:Nat):Int) then (xb c[k]! rz[(dA rz ((k+1:Nat):Int)).toNat]!.k (gF rz w c k).1,ui c[k]! rz[(dA rz ((k+1:Nat):Int)).toNat]!.c (-1) (gF rz w c k).2) else ((gF rz w c k).1,(gF rz w c k).2.set (k+1) (jJ (gF rz w c k).2[k+1]! c[k]!))):=rfl
    have AT:=xa rz w c k
    clear hV OG n7
    have n7:=tx _ CD
    generalize ov kd R (N+3) C w ⟨rz,(gF rz w c k).1,(gF rz w c k).2,d.n,d.piv,d.most⟩ vs=W at hDj n7 t5 ⊢
    have Qq:=hSk (k+1)
    refine rs hx fun K hK=>?_
    refine sa ?_
    refine nl hK ?_
    refine AW.seq (AW.condS rfl (fun hb=>?_) (fun hb=>?_))
    ·have hkc:k<c.length:=by have:=bC hb;omega
     have qU:0≤(k:Int)∧(k:Int)<((c.length:Nat):Int):=by omega
     refine AW.skip (AW.seq (AW.block (rs hx fun K hK=>?_)))
     refine sa ?_
     refine s1 (Pm qU bZ aO) ?_
     refine s1 (d:=dG au c[k]!) (jA (c:=au) (l:=c) (n:=k) (o:=0) aO hkc (e8 _ _ rfl)) ?_
     refine n1 ?_
     refine sa ?_
     refine z1 ?_
     refine nl hK ?_
     generalize c[k]! =ck at Ep ⊢
     generalize gF rz w c k=g1 at Ep hDj AT CD t5
     have hup:∀(j:Nat) (ds:List D),W.lookup j=some ds→((N+4,dC (au.f ck))::(N+4,dC zN)::W).lookup j=some ds:=fun j ds h=>by
      have:=n7.lt h
      exact al (by omega) (al (by omega) h)
     have Tz:=hDj.up hup
     have hfd:=MS (lv:=lv) (N:=N+4+1) (v:=((k+1:Nat):Int)) Tz (by show rz.length≤_;have:=xA.len;dsimp only at this;omega)
     have hoX:cp ⟨(N+4,dC (au.f ck))::(N+4,dC zN)::W,lv,N+4+1⟩:=cp.consM (cp.consM (n7.up (by omega)) (by omega) (eD _)) (by omega) (eD _)
     have Eh:∀k' ds,k'≠kd→(i≠0→k'≠R)→k'≠N+3→(∀j,j<i→k'≠C j)→vs.lookup k'=some ds→((N+4,dC (au.f ck))::(N+4,dC zN)::W).lookup k'=some ds:=fun k' ds h1 h2 h3 h4 h=>hup k' ds (t5 k' ds h1 h2 h3 h4 h)
     have hcX:((N+4,dC (au.f ck))::(N+4,dC zN)::W).lookup (N+4)=some (dC (au.f ck)):=aa
     generalize (N+4,dC (au.f ck))::(N+4,dC zN)::W=X at Tz hfd hoX Eh hcX ⊢
     have hdX:=Tz.hd
     have hGX:=Tz.hG
     refine rs hx fun K hK=>?_
     iterate 3 refine sa ?_
     rw[bU]
     refine q1 (sHC hfd rfl (.inl (by kernel_rfl))) ?_
     refine sa ?_
     refine nl hK ?_
     refine rs hx fun K hK=>?_
     iterate 2 refine sa ?_
     refine nl hK ?_
     dsimp only
     refine AW.condS rfl (fun hb=>?_) (fun hb=>?_)
     ·have vL:0≤dA rz ((k+1:Nat):Int):=bC hb
      rw[ai vL] at Ep
      obtain⟨a,ha,Qm⟩:∃a:Nat,a<i∧dA rz ((k+1:Nat):Int)=(a:Int):=by
       have S5:=xA.len
       dsimp only at S5
       unfold dA at vL ⊢
       cases Qh:rz.findIdx? fun r=>decide (r.b=((k+1:Nat):Int)) with
       |none=>rw[Qh] at vL;exact absurd vL (by decide)
       |some a=>exact⟨a,by have:=(oI.1 Qh).1;omega,rfl⟩
      rw[Qm,show ((a:Int)).toNat=a by omega] at Ep
      have hra:=Tz.row (i:=a) (by have:=xA.len;dsimp only at this ⊢;omega)
      obtain⟨_,_,e3,uu,_,⟨F5,F5',e5,L5⟩,fI⟩:=hra
      dsimp only at e3 uu L5 fI
      have hk5:=hoX.lt e5
      have hkX:=hoX.lt hdX
      have hkC:=C0.C1 a ha
      have hadd:=h_add (lv:=lv) (N:=N+4+1) (q:=ck) (xk:=rz[a]!.k) (but:=-1) hdX ms hGX Tz.lG e3 uu C0.dG hkC.2.2 hkC.1 hw
      refine rqd [] hx fun K hK=>?_
      iterate 3 refine sa ?_
      refine l1 (Pt.idN ck) ?_
      iterate 3 refine sa ?_
      refine c1 gu ?_
      refine sa ?_
      refine r1 (n:=rz.length) (i:=a) (by have:=xA.len;dsimp only at this;omega) ?_ (by show (fb R _).toOw=_;rw[fI];rfl) (by show D.toOw (dI .i64 _)=_;rw[Qm];rfl)
      refine sa ?_
      refine p1 L5 (bT _ _ _) ?_
      refine q1 (sHC hadd rfl (.inl (by kernel_rfl))) ?_
      refine nl hK ?_
      have MU:=Tz.setGK (CD.dif C0) (xb ck rz[a]!.k g1.1) (ui ck rz[a]!.c (-1) g1.2) (by rw[uh];exact AT)
      refine rq hx fun K hK=>?_
      iterate 2 refine sa ?_
      refine nl hK ?_
      rw[bU]
      rw[Ep] at Qq
      refine⟨k+1,?_,hkc,by omega⟩
      rw[Ep]
      exact wk1 h0 (hok:=tx _ Qq) (hv:=wF C0 Qq MU fun k' ds h1 h2 h3 h4 h=>al h3 (al h1 (Eh k' ds h1 h2 h3 h4 h)))
     ·have bK:¬0≤dA rz ((k+1:Nat):Int):=dE hb
      rw[ah bK] at Ep
      refine rqd [66] hx fun K hK=>?_
      iterate 4 refine sa ?_
      refine c1 ms.pc ?_
      iterate 2 refine sa ?_
      rw[bU]
      iterate 4 refine sa ?_
      refine c1 ms.pc ?_
      iterate 2 refine sa ?_
      rw[bU]
      refine i1 (i:=k+1) (n:=w) (by omega) ?_
      refine l1 (Pt.el g1.2 (k+1) (by omega)) ?_
      refine l1 (Pt.idN ck) ?_
      refine cq (w_Add _ _) ?_
      refine i1 (i:=k+1) (n:=w) (by omega) ?_
      refine t1 (Pt.el g1.2 (k+1) (by omega)) (Pt.el_set g1.2 (k+1) (by omega) _) ?_
      refine nl hK ?_
      have MU:=Tz.setG (CD.dif C0) (g1.2.set (k+1) (jJ g1.2[k+1]! ck)) (by rw[c7];exact AT)
      refine rq hx fun K hK=>?_
      iterate 2 refine sa ?_
      refine nl hK ?_
      rw[bU]
      rw[Ep] at Qq
      refine⟨k+1,?_,hkc,by omega⟩
      rw[Ep]
      exact wk1 h0 (hok:=tx _ Qq) (hv:=wF C0 Qq MU fun k' ds h1 h2 h3 h4 h=>al h3 (Eh k' ds h1 h2 h3 h4 h))
    ·refine AW.exit ?_
     have hkc:k=c.length:=by have:=dE hb;omega
     subst hkc
     have hdX:=hDj.hd
     have hgd:=MR (lv:=lv) (N:=N+4) (k:=(gF rz w c c.length).1) hDj.hG AT hw
     have wd:=wF (vs:=vs) C0 CD hDj t5
     refine AW.seq (rs hx fun K hK=>?_)
     iterate 3 refine sa ?_
     refine p1 ms.pa (bT _ _ _) ?_
     refine q1 (sHC hgd rfl (.inl (by kernel_rfl))) ?_
     refine sa ?_
     refine nl hK ?_
     rw[haim]
     refine AW.condS rfl (fun hb=>?_) (fun hb=>?_)
     ·rw[ah (by simpa using hb)]
      refine rs hx fun K hK=>?_
      refine sa ?_
      refine nl hK ?_
      exact AW.ret (rtN h0 (te N 4) (tx _ CD) (az _) wd)
     ·rw[ai (by simpa using hb)]
      refine AW.skip (rs hx fun K hK=>?_)
      refine sa ?_
      refine nl hK ?_
      exact AW.ret (rtN h0 (te N 4) (tx _ CD) (az _) wd)
end
end
section
theorem HC.conv {P:Program}{f:FuncId}{ds ds':List D}{hp hp':Hp}{d:D}(hl:ds'.length=ds.length)(hr:∀(g:Gh) (w:World) (j:Nat) (a b:D) (v:Value),ds[j]? =some a→ds'[j]? =some b→aE hp g w a v→aE hp g w b v)(hc:HC P f ds' hp d hp'):HC P f ds hp d hp':=by
 refine⟨hc.1,fun B g w vs pN hsz cR=>hc.2 B g w vs pN (by omega) fun j e u he hu=>?_⟩
 have hj:j<ds.length:=by rw[←hl];exact (fL.1 he).1
 exact hr g w j ds[j] e u (cC hj) he (cR j ds[j] u (cC hj) hu)
theorem Oi {hp:Hp}{g:Gh}{w:World}{f:FuncId}{v:Value}(h:aE hp g w (.e (.lit (.func (.func f) #[] #[]))) v):aE hp g w (.fn f []) v:=by
 have h2:=h.lit
 subst h2
 exact .fn f [] (fun k hk=>absurd hk (qG))
section
variable {vs V V2:List (Nat×List D)} {lv:List (Nat×Nat×Nat×TypeId)} {N kd R G w m:Nat} {C:Nat→Nat} {d:Dic}
theorem KF {fo ft:FuncId}{ko kt:List Nat}{of:Row→Nu}{ot:Nat→Int}{nn:Nat}(hD:DAt vs kd R G C w d)(hS:cO d w m)(hm:m≤1000000)(Qd:d.n=(nn:Int))(Gv:nn≤1000000)
  (hko:∀k,k∈ko→k<N) (hkt:∀k,k∈kt→k<N) (hot2:∀v,-2≤ot v∧ot v≤2)
  (hof:∀(V2:List (Nat×List D)) (FI:List (Nat×Nat×Nat×TypeId)) (M i:Nat),(∀k ds,vs.lookup k=some ds→V2.lookup k=some ds)→i<m→HC prog fo ([.ag (iQ C w i d.rows[i]!)]++ko.map fun k=>.pt k 0) ⟨V2,FI,M⟩ (dG au (of d.rows[i]!)) ⟨V2,FI,M⟩)
  (hot:∀(V2:List (Nat×List D)) (FI:List (Nat×Nat×Nat×TypeId)) (M v:Nat),(∀k ds,vs.lookup k=some ds→V2.lookup k=some ds)→HC prog ft ([dI .i64 v]++kt.map fun k=>.pt k 0) ⟨V2,FI,M⟩ (dI .i64 (ot v)) ⟨V2,FI,M⟩):
  HC prog 47 [.pt kd 0,.fn fo ko,.fn ft kt] ⟨vs,lv,N⟩ (.e (slE au (cP d.rows nn of fun v=>nOf (ot v)))) ⟨vs,lv,N⟩:=by
 refine HC.of (rs:=[.tmp 6]) tok func47 rfl rfl (bi rfl) rfl (fun cx hx h0 hok=>?_)
 simp only[fG,Nat.reduceAdd,bt]
 have hl:=hS.len
 have wi:=hD.hd
 have Gw:=hok.lt wi
 obtain⟨f,hf⟩:∃f:Nat→Nu,f=fun j=>if 0≤dA d.rows ((j+1:Nat):Int) then of d.rows[(dA d.rows ((j+1:Nat):Int)).toNat]! else nOf (ot (j+1)):=⟨_,rfl⟩
 have hfv:cP d.rows nn of (fun v=>nOf (ot v))=(List.range nn).map f:=by rw[hf];rfl
 have hsk:∀M,N≤M→(D.fn fo ko).idsB M=true∧(D.fn ft kt).idsB M=true:=fun M hM=>⟨bc.2 fun k hk=>aB (by have:=hko k hk;omega),bc.2 fun k hk=>aB (by have:=hkt k hk;omega)⟩
 refine rs hx fun K hK=>?_
 refine s1 (d:=dO N au ([]:List Nu)) (gz bZ aO) ?_
 refine nl hK ?_
 refine rs hx fun K hK=>?_
 refine s1 (d:=dO (N+1) au ([]:List Nu)) (gz bZ aO) ?_
 refine nl hK ?_
 have SW:∀u:Nat,cp ⟨vs,(N+1,u,36,43)::lv,N+1+1⟩:=fun u=>by
  refine⟨fun j ds h=>?_,fun id e h=>?_⟩
  ·obtain⟨h1,h2⟩:=hok.var j ds h
   have h1:j<N:=h1
   exact⟨show j<N+1+1 by omega,bc.2 fun d hd=>D.idsC_le (show N≤N+1+1 by omega) (bc.1 h2 d hd)⟩
  ·by_cases hid:id=N+1
   ·show id<N+1+1;omega
   ·have:=hok.tok id e (by rw[←h];exact (ao hid).symm)
    have:id<N:=this
    show id<N+1+1;omega
 refine AW.seq (rs hx fun K hK=>?_)
 refine sa ?_
 refine nl hK ?_
 refine AW.block (AW.loopW (fun u:Nat=>[(0,.pt kd 0),(1,.fn fo ko),(2,.fn ft kt),(7,dO (N+1) au ((List.range u).map f)),(8,dI .i64 (u+1:Nat))]) (fun u=>⟨vs,(N+1,u,36,43)::lv,N+1+1⟩) (fun u=>u≤nn) (fun u=>nn - u) 0 ?_ (cr _) ?_)
 ·refine F7 (by rw[h0];show N≤N+1+1;omega) (az _) (SW 0) (fun j ds h=>h) (fun j y h=>?_) (bG.cons (bG.cons (bG.cons (bG.cons (bG.cons bG.nil rfl rfl) rfl (aB (show N+1<N+1+1 by omega))) rfl (hsk _ (by omega)).2) rfl (hsk _ (by omega)).1) rfl (aB (show kd<N+1+1 by omega)))
  by_cases hj:j=N+1
  ·subst hj
   rw[←h]
   exact aa.trans aa.symm
  ·have h1:lv.lookup j=some y:=by rw[←h];exact (ao hj).symm
   have h2:j<N:=hok.tok j y h1
   exact (ao hj).trans ((ao (show j≠N by omega)).trans h1)
 ·intro u hu
  have Qg:((List.range u).map f).length=u:=by simp
  refine AW.seq (rs hx fun K hK=>?_)
  iterate 4 refine sa ?_
  refine c1 dic_n ?_
  rw[Qd]
  refine sa ?_
  refine nl hK ?_
  refine AW.condS rfl (fun hb=>?_) (fun hb=>?_)
  ·have hun:u<nn:=by have:=bC hb;omega
   refine AW.skip ?_
   have hfd:=MS (lv:=(N+1,u,36,43)::lv) (N:=N+1+1) (v:=((u+1:Nat):Int)) hD (by omega)
   have rm:(List.range (u+1)).map f=(List.range u).map f++[f u]:=by rw[wY,gK];rfl
   have hfu:f u=if 0≤dA d.rows ((u+1:Nat):Int) then of d.rows[(dA d.rows ((u+1:Nat):Int)).toNat]! else nOf (ot (u+1)):=by rw[hf]
   have SK:∀{tm:List (Nat×D)} {vX:List (Nat×List D)} {n2:Nat},(∀j ds,vs.lookup j=some ds→vX.lookup j=some ds)→N+1+1≤n2→tm.lookup 0=some (.pt kd 0)→tm.lookup 1=some (.fn fo ko)→tm.lookup 2=some (.fn ft kt)→tm.lookup 7=some (dO (N+1) au ((List.range u).map f++[f u]))→tm.lookup 8=some (dI .i64 ((u+1+1:Nat):Int))→
     Wk cx tm ⟨vX,(N+1,((List.range u).map f++[f u]).length,36,43)::(N+1+1,1,36,43)::(N+1,u,36,43)::lv,n2⟩ [(0,.pt kd 0),(1,.fn fo ko),(2,.fn ft kt),(7,dO (N+1) au ((List.range (u+1)).map f)),(8,dI .i64 (u+1+1:Nat))] ⟨vs,(N+1,u+1,36,43)::lv,N+1+1⟩:=fun hv hn a b c e g=>by
    rw[rm]
    refine F7 (by rw[h0];show N≤N+1+1;omega) hn (SW (u+1)) hv (fun j y h=>?_) (bG.cons (bG.cons (bG.cons (bG.cons (bG.cons bG.nil g rfl) e (aB (show N+1<N+1+1 by omega))) c (hsk _ (by omega)).2) b (hsk _ (by omega)).1) a (aB (show kd<N+1+1 by omega)))
    by_cases hj:j=N+1
    ·subst hj
     have h1:some (u+1,36,43)=some y:=by rw[←h];exact aa.symm
     rw[←h1]
     exact aa.trans (by rw[cD,Qg];rfl)
    ·have h1:lv.lookup j=some y:=by rw[←h];exact (ao hj).symm
     have h2:j<N:=hok.tok j y h1
     exact (ao hj).trans ((ao (show j≠N+1+1 by omega)).trans ((ao hj).trans h1))
   refine AW.seq (AW.block (rs hx fun K hK=>?_))
   iterate 2 refine sa ?_
   refine q1 (sHC hfd rfl (.inl (by kernel_rfl))) ?_
   refine sa ?_
   refine nl hK ?_
   refine rs hx fun K hK=>?_
   iterate 2 refine sa ?_
   refine nl hK ?_
   refine AW.condS rfl (fun hb=>?_) (fun hb=>?_)
   ·have vL:0≤dA d.rows ((u+1:Nat):Int):=bC hb
    rw[ai vL] at hfu
    obtain⟨a,ha,Qm⟩:∃a:Nat,a<m∧dA d.rows ((u+1:Nat):Int)=(a:Int):=by
     unfold dA at vL ⊢
     cases Qh:d.rows.findIdx? fun r=>decide (r.b=((u+1:Nat):Int)) with
     |none=>rw[Qh] at vL;exact absurd vL (by decide)
     |some a=>exact⟨a,by have:=(oI.1 Qh).1;omega,rfl⟩
    rw[Qm,show ((a:Int)).toNat=a by omega] at hfu
    obtain⟨_,_,_,_,⟨F5,F5',e5,L5⟩,_,fI⟩:=hD.row (i:=a) (by omega)
    have hk5:=hok.lt e5
    refine rq hx fun K hK=>?_
    iterate 5 refine sa ?_
    refine c1 gu ?_
    refine sa ?_
    refine r1 (n:=d.rows.length) (i:=a) (by omega) ?_ (by show (fb R _).toOw=_;rw[fI];rfl) (by show D.toOw (dI .i64 _)=_;rw[Qm];rfl)
    refine p1 L5 (tT _ _ _ _) ?_
    refine q1 (sHF (hof vs _ _ a (fun _ _ h=>h) ha) rfl) ?_
    rw[←hfu]
    refine s1 (lh [f u] au bZ aO) ?_
    refine s1 (oP (id:=N+1) (l:=(List.range u).map f) (l':=[f u]) bZ aO (by rw[cD,Qg];show (u+1)*136≤140737488355328;omega) rfl rfl rfl rfl (by rw[Qg];exact (ao (show N+1≠N+1+1 by omega)).trans aa)) ?_
    refine sa ?_
    refine nl hK ?_
    refine rq hx fun K hK=>?_
    iterate 3 refine sa ?_
    refine nl hK ?_
    rw[bU]
    exact⟨u+1,SK (fun _ _ h=>h) (by omega) rfl rfl rfl rfl rfl,hun,by omega⟩
   ·have bK:¬0≤dA d.rows ((u+1:Nat):Int):=dE hb
    rw[ah bK] at hfu
    refine rq hx fun K hK=>?_
    iterate 3 refine sa ?_
    refine q1 (sHF (hot vs _ _ (u+1) (fun _ _ h=>h)) rfl) ?_
    refine cq (Gg (ot (u+1)) (hot2 _)) ?_
    rw[←hfu]
    refine s1 (lh [f u] au bZ aO) ?_
    refine s1 (oP (id:=N+1) (l:=(List.range u).map f) (l':=[f u]) bZ aO (by rw[cD,Qg];show (u+1)*136≤140737488355328;omega) rfl rfl rfl rfl (by rw[Qg];exact (ao (show N+1≠N+1+1 by omega)).trans aa)) ?_
    refine sa ?_
    refine nl hK ?_
    refine rq hx fun K hK=>?_
    iterate 3 refine sa ?_
    refine nl hK ?_
    rw[bU]
    exact⟨u+1,SK (fun _ _ h=>h) (by omega) rfl rfl rfl rfl rfl,hun,by omega⟩
  ·refine AW.exit ?_
   have hun:u=nn:=by have:=dE hb;omega
   refine rs hx fun K hK=>?_
   iterate 2 refine sa ?_
   refine nl hK ?_
   refine AW.ret ?_
   rw[hfv,hun]
   exact⟨[(6,D.ex (dO (N+1) au ((List.range nn).map f)))],F7 (by rw[h0];exact az N) (show N≤N+1+1 by omega) hok (fun j ds h=>h) (fun j y h=>(ao (by have h2:j<N:=hok.tok j y h;omega)).trans h) (bG.consX bG.nil rfl rfl),⟨_,aa,rfl⟩⟩
end
end
section
section
variable {P:Program} {tb:TypeId→Option TyE} {dr:Bool} {ty:TypeId} {ev:Operand→D} {hp:Hp} {t:TypeId} {i:TyE} {x:Operand} {xs:List E} {off:Nat} {e:E}
theorem T_ldX(he:xs[off]? =some e)(ht:tb t=some i)(hg:i.ty.agg=false:=by exact rfl)(hx:ev x=.fp xs off:=by exact rfl):AVC P tb dr (.load t x) ty ev hp (Kq (.e e) hp):=by
 rw[qY,hx,D8,ht]
 simp only[hg]
 refine⟨(fL.1 he).1,?_⟩
 rw[show xs.getD off .any=e by rw[u7,he];rfl]
 exact Kq.here _ _
theorem AR.ptf {k:Nat}{ds:List D}{es:List E}(hv:hp.vars.lookup k=some ds)(hl:es.length=ds.length)(ha:∀(j:Nat) (d:D) (e:E),ds[j]? =some d→es[j]? =some e→AR hp d (.e e)):AR hp (.pt k 0) (.fp es 0):=by
 intro B g w v hr hd
 obtain⟨h1,h2,h3,cs,tt,h4,h5,h6⟩:=hr.var k ds hv
 cases hd with
 |pt _ _ hk=>
  have h0:(⟨g.μ k,0,none⟩:Addr).add 0=⟨g.μ k,0,none⟩:=by rw[Addr.add_lit]
  have:=aE.fp (hp:=⟨[],[],0⟩) (g:=⟨fun _=>0,fun _=>default,Fv hp g⟩) (w:=w) es 0 ⟨g.μ k,0,none⟩ (oL.1 h4).1 fun j e he=>?_
  ·rw[h0] at this;exact this
  ·have hj:j<ds.length:=by rw[←hl];exact (fL.1 he).1
   have hjc:j<cs.size:=by omega
   obtain⟨h7,h8⟩:=h6 j cs[j] (ta hjc)
   have h9:=ha j ds[j] e (cC hj) he B g w cs[j] hr (h8 ds[j] (cC hj))
   refine⟨cs[j],?_,fun hf=>hf.2 k ds hv (by rw[gh]),?_⟩
   ·rw[Addr.add_lit]
    simp[World.cell?,h4,ta hjc]
   ·cases h9 with
    |e _ _ h=>exact h
end
def KX(d:Dic):List E:=[.any]++(au.f d.gk++[slE au d.gc])++[.lit (.int .i64 d.n),.lit (.int .i64 d.piv),.lit (.int .i64 d.most)]
theorem IG(a:Nu):(au.f a).length=36:=by rw[au.h];rfl
theorem dicE_c(d:Dic):(KX d)[0+1+36]? =some (slE au d.gc):=by
 have:=IG d.gk
 unfold KX
 rw[AG (by simp[this]),qH (by simp),show (0+1+36 - [E.any].length)=(au.f d.gk).length by rw[this];rfl,qH (by omega),zm]
 rfl
theorem dicE_n(d:Dic):(KX d)[0+38]? =some (.lit (.int .i64 d.n)):=by
 have:=IG d.gk
 unfold KX
 rw[qH (by simp[this])]
 simp[this]
theorem PD {d:Dic}{nn w:Nat}(hl:d.gc.length=w)(Qd:d.n=(nn:Int))(hw:nn+1≤w)(hw2:w≤1000000):
  ar prog 44 [.fp (KX d) 0] (.own 43 36 (bS d nn).length ((bS d nn).flatMap au.f)):=by
 refine bn (rs:=[.tmp 2]) (fun cx hx h0=>?_) func44
 obtain⟨l,MH⟩:∃l:List Nu,l=d.gc.drop (nn+1):=⟨_,rfl⟩
 have hlen:l.length=w - (nn+1):=by rw[MH,fc,hl]
 have MD:bS d nn=l.map e9:=by rw[MH];rfl
 refine rs hx fun K hK=>?_
 refine s1 (d:=dO 0 au ([]:List Nu)) (gz bZ aO) ?_
 refine nl hK ?_
 refine rs hx fun K hK=>?_
 refine s1 (d:=dO 1 au ([]:List Nu)) (gz bZ aO) ?_
 refine nl hK ?_
 refine AW.seq (rsd [] hx fun K hK=>?_)
 iterate 4 refine sa ?_
 refine s1 (T_ldX (dicE_c d) tbI) ?_
 iterate 3 refine sa ?_
 refine s1 (T_ldX (dicE_n d) tbI) ?_
 rw[Qd]
 refine sa ?_
 rw[bU]
 have hsub:CU d.gc ((nn+1:Nat):Int) (d.gc.length:Int)=l:=by
  rw[MH]
  unfold CU
  rw[show (((nn+1:Nat):Int)).toNat=nn+1 by omega,gJ (by rw[fc];omega)]
 refine s1 (d:=dL au (CU d.gc ((nn+1:Nat):Int) (d.gc.length:Int))) (T_sl (c:=au) (l:=d.gc) (a:=((nn+1:Nat):Int)) (b:=(d.gc.length:Int)) (by omega) bZ aO) ?_
 rw[hsub]
 refine nbr hK ?_
 refine AW.block (AW.loopW (fun u:Nat=>[(3,dO 1 au ((l.take u).map e9)),(16,dL au l),(17,dI .i64 (l.length:Nat)),(18,dI .i64 u)]) (fun u=>⟨[],[(1,u,36,43)],2⟩) (fun u=>u≤l.length) (fun u=>l.length - u) 0 ?_ (cr _) ?_)
 ·exact F7 (by rw[h0];exact cr _) (az _) ⟨fun _ _ h=>by simp at h,fun id e h=>by rcases qF.1 (bF h) with h2;simp at h2;show id<2;omega⟩ (fun _ _ h=>h) (fun j y h=>by
   by_cases hj:j=1
   ·subst hj;rw[←h];rfl
   ·exact absurd h (by rw[ao hj];simp)) (bG.cons (bG.cons (bG.cons (bG.cons bG.nil rfl rfl) rfl rfl) rfl rfl) rfl rfl)
 ·intro u hu
  have Qg:((l.take u).map e9).length=u:=by rw[a8,ep];omega
  refine rar hx ?_
  refine AW.seq (AW.condS rfl (fun hb=>?_) (fun hb=>?_))
  ·have Mz:u<l.length:=by have:=bC hb;omega
   have qU:0≤(u:Int)∧(u:Int)<((l.length:Nat):Int):=by omega
   refine AW.skip (AW.seq (AW.block (rs hx fun K hK=>?_)))
   refine sbr ?_
   refine s1 (d:=dG au l[u]!) (jA (c:=au) (l:=l) (n:=u) (o:=0) aO Mz (e8 _ _ rfl)) ?_
   refine n1 ?_
   refine z1 ?_
   refine nl hK ?_
   refine rq hx fun K hK=>?_
   refine sa ?_
   refine l1 (Pt.idN _) ?_
   refine cq (JU _) ?_
   refine s1 (lh [e9 l[u]!] au bZ aO) ?_
   have Ct:(l.take u).map e9++[e9 l[u]!]=(l.take (u+1)).map e9:=by
    rw[yx,gK,bI l u Mz,cC Mz]
    rfl
   refine s1 (oP (id:=1) (l:=(l.take u).map e9) (l':=[e9 l[u]!]) bZ aO (by rw[cD,Qg];show (u+1)*136≤140737488355328;omega) rfl rfl rfl rfl (by rw[Qg];rfl)) ?_
   rw[Ct]
   refine nbr hK ?_
   refine rbr hx ?_
   rw[bU]
   have hlu1:((l.take (u+1)).map e9).length=u+1:=by rw[←Ct,cD,Qg];rfl
   refine⟨u+1,F7 (by rw[h0];exact cr _) (show 2≤_ by decide) ⟨fun _ _ h=>by simp at h,fun id e h=>by rcases qF.1 (bF h) with h2;simp at h2;show id<2;omega⟩ (fun _ _ h=>by simp at h) (fun j y h=>?_) (bG.cons (bG.cons (bG.cons (bG.cons bG.nil rfl rfl) rfl rfl) rfl rfl) rfl rfl),Mz,by omega⟩
   by_cases hj:j=1
   ·subst hj;rw[←h,hlu1];rfl
   ·exact absurd h (by rw[ao hj];simp)
  ·refine AW.exit ?_
   have Mz:u=l.length:=by have:=dE hb;omega
   refine rar hx ?_
   refine AW.ret ?_
   have wd:(l.take u).map e9=bS d nn:=by rw[Mz,List.take_length,MD]
   have Jy:(bS d nn).length=u:=by rw[MD,a8,Mz]
   rw[wd]
   refine n9.own (id:=1) rfl ?_
   rw[Jy];rfl
section
variable {vs:List (Nat×List D)} {lv:List (Nat×Nat×Nat×TypeId)} {N kd R G w m nn:Nat} {C:Nat→Nat} {d:Dic}
theorem pw {α:Type}{a b:List α}{j:Nat}{x:α}(h:(a++b)[j]? =some x):(j<a.length∧a[j]? =some x)∨(a.length≤j∧b[j - a.length]? =some x):=by
 rcases d6 j a.length with h1|h1
 ·exact .inl ⟨h1,by rw[AG h1] at h;exact h⟩
 ·exact .inr ⟨h1,by rw[qH h1] at h;exact h⟩
theorem AR.dic(hD:DAt vs kd R G C w d):AR ⟨vs,lv,N⟩ (.pt kd 0) (.fp (KX d) 0):=by
 have hk:=IG d.gk
 refine AR.ptf hD.hd ?_ fun j x e hx he=>?_
 ·unfold mX KX aY
  simp[hk,eE]
 ·unfold mX aY at hx
  unfold KX at he
  rcases pw hx with⟨a1,hx⟩|⟨a1,hx⟩ <;> rcases pw he with⟨b1,he⟩|⟨b1,he⟩
  ·rcases pw hx with⟨a2,hx⟩|⟨a2,hx⟩ <;> rcases pw he with⟨b2,he⟩|⟨b2,he⟩
   ·obtain rfl:j=0:=by simp at a2;omega
    simp at hx he
    subst hx he
    intro B g w2 v hr hd
    refine .e _ _ (.any _ ?_)
    cases hl:d.rows with
    |nil=>rw[hl] at hd;exact (hd.lit▸rfl)
    |cons r l=>rw[hl] at hd;cases hd;rfl
   ·simp at a2 b2;omega
   ·simp at a2 b2;omega
   ·simp only[r9,IV] at hx he a2
    rcases pw hx with⟨a3,hx⟩|⟨a3,hx⟩ <;> rcases pw he with⟨b3,he⟩|⟨b3,he⟩
    ·unfold dC at hx
     rw[dT,he] at hx
     injection hx with hx
     subst hx
     exact AR.data (d:=.e e) rfl
    ·rw[eE] at a3;omega
    ·rw[eE] at a3;omega
    ·rw[eE] at a3 hx
     have h0:j - (0+1) - (au.f d.gk).length=0:=by
      have:=(fL.1 hx).1
      simp at this;omega
     rw[h0] at hx he
     simp at hx he
     subst hx he
     exact AR.list hD.hG hD.lG
  ·simp[eE] at a1 b1;omega
  ·simp[eE] at a1 b1;omega
  ·have e1:(([fb R d.rows]++(dC (au.f d.gk)++[D.ow G 0 36 w])).length)=([E.any]++(au.f d.gk++[slE au d.gc])).length:=by simp[eE]
   rw[e1] at hx
   generalize j - ([E.any]++(au.f d.gk++[slE au d.gc])).length=q at hx he
   have hq:q=0∨q=1∨q=2:=by
    have:=(fL.1 he).1
    simp at this;omega
   rcases hq with rfl|rfl|rfl
   all_goals
    simp at hx he
    subst hx he
    exact AR.data (d:=dI .i64 _) rfl
theorem lit_Nu(l:List Nu):(l.flatMap au.f).all E.isLit=true:=by
 rw[bc]
 intro x hx
 obtain⟨a,_,ha⟩:=List.mem_flatMap.1 hx
 have h2:∀y,y∈aq.f a.1.vN∨y∈aq.f a.1.vD→y.isLit=true:=by
  have h3:∀z:ap,∀y∈aq.f z,y.isLit=true:=fun z y hy=>by
   rcases vP.1 (show y∈[E.lit (.bool z.vBad),.lit (.bool z.vNeg)]++(cA 16 (cI .u32)).f z.vW from hy) with h|h
   ·simp at h;rcases h with rfl|rfl <;> rfl
   ·obtain⟨n,_,hn⟩:=List.mem_flatMap.1 (show y∈z.vW.toList.flatMap (cI .u32).f from h)
    rw[qF.1 hn];rfl
  rintro y (h|h)
  ·exact h3 _ y h
  ·exact h3 _ y h
 exact h2 x (vP.1 (show x∈aq.f a.1.vN++aq.f a.1.vD from ha))
theorem Qn(hD:DAt vs kd R G C w d)(Qd:d.n=(nn:Int))(hw:nn+1≤w)(hw2:w≤1000000)(hm:0<(bS d nn).length):
  HC prog 44 [.pt kd 0] ⟨vs,lv,N⟩ (.gw N 36 (bS d nn).length) ⟨(N,dC ((cW au).f (bS d nn)))::vs,lv,N+1⟩:=
 HC.adopt (PD hD.lG Qd hw hw2) (hp:=⟨vs,lv,N⟩) ⟨AR.dic hD,trivial⟩ hm (lit_Nu _)
end
end
section
theorem HC.weak {P:Program}{f:FuncId}{ds:List D}{hp:Hp}{d:D}{vars vars':List (Nat×List D)}{lv lv':List (Nat×Nat×Nat×TypeId)}{n n':Nat}(hc:HC P f ds hp d ⟨vars,lv,n⟩)(h0:hp.next≤n')
  (h:cp hp→cp ⟨vars',lv',n'⟩∧(∀j ds,vars'.lookup j=some ds→vars.lookup j=some ds)∧(∀j y,lv'.lookup j=some y→lv.lookup j=some y)∧d.idsB n'=true):HC P f ds hp d ⟨vars',lv',n'⟩:=by
 refine⟨hc.1,fun B g w vs hr hsz cR=>(hc.2 B g w vs hr hsz cR).mono ?_⟩
 obtain⟨hok,hv,hl,hd⟩:=h hr.ok
 rintro e w' ⟨v,g',rfl,pN,hM,hrd,hb,hF⟩
 have dQ:∀id y,lv'.lookup id=some y→lv.lookup id=some y:=hl
 refine⟨v,g',rfl,⟨fun k ds hk=>?_,fun k k' a b hk wa he=>pN.inj k k' a b (hv k a hk) (hv k' b wa) he,fun id m e hi=>?_,fun id BF t t' b hi wb=>pN.tinj id BF t t' b (dQ _ _ hi) (dQ _ _ wb),pN.base,pN.fits⟩,
  ⟨hM.size,hM.cell,hM.forb,h0,hM.μ,fun id hid m e Ky=>hM.live id hid m e (dQ id _ Ky),fun b hb hf=>⟨(hM.fr b hb hf).1,(hM.fr b hb hf).2.1,fun k ds hk=>(hM.fr b hb hf).2.2.1 k ds (hv k ds hk),fun id t hi=>(hM.fr b hb hf).2.2.2 id t (dQ id _ hi)⟩,hM.szs⟩,Ec hrd hd rfl dQ,hb,hF⟩
 ·obtain⟨_,h3,h4,cs,ty,h5,h6,h7⟩:=pN.var k ds (hv k ds hk)
  obtain⟨h1,h2⟩:=hok.var k ds hk
  exact⟨h1,h3,h4,cs,ty,h5,h6,fun j u hu=>⟨(h7 j u hu).1,fun d hd=>iA ((h7 j u hu).2 d hd) (bc.1 h2 d (eb hd)) rfl dQ⟩⟩
 ·obtain⟨_,us,h2,h3,h4⟩:=pN.tok id m e (dQ _ _ hi)
  exact⟨hok.tok id _ hi,us,h2,h3,fun b hb=>⟨(h4 b hb).1,fun k ds hk=>(h4 b hb).2 k ds (hv k ds hk)⟩⟩
theorem resV {q:Nat}{tt:TypeId}{ti:TyE}{k:Nat}{F:List D}{vs:List (Nat×List D)}{lv:List (Nat×Nat×Nat×TypeId)}{N:Nat}{tm:List (Nat×D)}{k2:D→Prop}(ht:tbl tt=some ti)(hl:tm.lookup q=some (.pt k 0))(hv:vs.lookup k=some F)(hk:k<N)(hz:F.length=ti.size)(hg:ti.ty.agg=true)(h:k2 (.ag F)):tp tbl tm ⟨vs,lv,N⟩ (.cell q tt) k2:=by
 refine⟨.pt k 0,hl,⟨_,ht⟩,?_⟩
 rw[og,ht]
 simp only[hv,hg]
 refine⟨hk,by omega,?_⟩
 rw[qN,gJ (by omega)]
 exact h
theorem HC.forget {P:Program}{f:FuncId}{ds:List D}{d:D}{vs vars:List (Nat×List D)}{lv:List (Nat×Nat×Nat×TypeId)}{N n:Nat}(hc:HC P f ds ⟨vs,lv,N⟩ d ⟨vars,lv,n⟩)(hv:∀j ds,j<N→vs.lookup j=some ds→vars.lookup j=some ds)(hd:d.idsB N=true):HC P f ds ⟨vs,lv,N⟩ d ⟨vs,lv,N⟩:=
 hc.weak (az N) fun hok=>⟨hok,fun j ds h=>hv j ds (hok.lt h) h,fun _ _ h=>h,hd⟩
section
variable {vs:List (Nat×List D)} {lv:List (Nat×Nat×Nat×TypeId)} {N w i ks s:Nat} {C:Nat→Nat} {r:Row}
theorem rtN1 {x:Cx}{tm:List (Nat×D)}{pd vs2:List (Nat×List D)}{vs0:List (Nat×List D)}{lv0:List (Nat×Nat×Nat×TypeId)}{N0 M n2 q k:Nat}{a:Nu}(h0:x.hp0=⟨vs0,lv0,N0⟩)(hM:N0≤M)(hok:cp ⟨pd,lv,M⟩)(hN:M≤n2)(hv:∀j ds,pd.lookup j=some ds→vs2.lookup j=some ds)(hk:pd.lookup k=some (dC (au.f a)))(hq:tm.lookup q=some (.pt k 0)):
  ∃tm',Wk x tm ⟨vs2,lv,n2⟩ tm' ⟨pd,lv,M⟩∧tI tbl [.cell q 43] tm' ⟨pd,lv,M⟩ (dG au a):=
 ⟨[(q,.pt k 0)],wkS (by rw[h0];exact hM) hN hok hv (bG.nil.cons hq (aB (hok.lt hk))),resV aO aa hk (hok.lt hk) (iS a) rfl rfl⟩
theorem Tv:HC prog 48 ([.ag (iQ C w i r)]++([]:List Nat).map fun k=>.pt k 0) ⟨vs,lv,N⟩ (dG au r.k) ⟨vs,lv,N⟩:=by
 refine HC.forget (vars:=(N+1,dC (au.f r.k))::vs) (n:=N+2) ?_ (fun j ds hj h=>al (by omega) h) (eD _)
 refine HC.of (rs:=[.cell 2 43]) tok func48 rfl rfl (bi rfl) rfl (fun cx hx h0 hok=>?_)
 simp only[fG,mZ,tf,Nat.reduceAdd,bt]
 refine rs hx fun K hK=>?_
 refine s1 (gP (cs:=iQ C w i r)) ?_
 refine n1 ?_
 refine nl hK ?_
 refine rs hx fun K hK=>?_
 iterate 2 refine sa ?_
 refine l1 (RL (C:=C) (w:=w) (j:=i) (r:=r)) ?_
 refine z1 ?_
 refine nl hK ?_
 refine AW.ret ?_
 exact rtN1 h0 (by omega) (cp.consM (hok.up (by omega)) (by omega) (eD _)) (az _) (fun j ds h=>by
  rcases b8 h with⟨rfl,rfl⟩|⟨hj,h⟩
  ·exact aa
  ·have:=hok.lt h
   exact al hj (al hj (al (by omega) h))) aa rfl
theorem Tu(v:Nat):HC prog 49 ([dI .i64 v]++([]:List Nat).map fun k=>.pt k 0) ⟨vs,lv,N⟩ (dI .i64 0) ⟨vs,lv,N⟩:=by
 refine HC.of (rs:=[.tmp 2]) tok func49 rfl rfl (bi rfl) rfl (fun cx hx h0 hok=>?_)
 simp only[fG,mZ,tf,Nat.reduceAdd,bt]
 refine rs hx fun K hK=>?_
 refine sa ?_
 refine nl hK ?_
 refine rs hx fun K hK=>?_
 refine sa ?_
 refine nl hK ?_
 exact AW.ret (rt1 h0)
theorem Tt(hs:vs.lookup ks=some [dI .i64 s])(hc:vs.lookup (C i)=some (dC ((cW au).f r.c)))(hl:r.c.length=w)(hsw:s<w):HC prog 50 ([.ag (iQ C w i r)]++[ks].map fun k=>.pt k 0) ⟨vs,lv,N⟩ (dG au r.c[s]!) ⟨vs,lv,N⟩:=by
 refine HC.forget (vars:=(N+1,dC (au.f r.c[s]!))::vs) (n:=N+2) ?_ (fun j ds hj h=>al (by omega) h) (eD _)
 refine HC.of (rs:=[.cell 3 43]) tok func50 rfl rfl (bi rfl) rfl (fun cx hx h0 hok=>?_)
 simp only[fG,mZ,jK,EY,ny,Nat.reduceAdd,bt]
 have S6:=hok.lt hs
 have za:=hok.lt hc
 refine rs hx fun K hK=>?_
 refine s1 (gP (cs:=iQ C w i r)) ?_
 refine n1 ?_
 refine nl hK ?_
 refine rs hx fun K hK=>?_
 iterate 2 refine sa ?_
 refine c1 (Ma (C:=C) (w:=w) (j:=i) (r:=r)) ?_
 refine c1 (Pt.all (F:=[dI .i64 s])) ?_
 refine i1 hsw ?_
 refine l1 (Pt.el r.c s (by omega)) ?_
 refine z1 ?_
 refine nl hK ?_
 refine AW.ret ?_
 exact rtN1 h0 (by omega) (cp.consM (hok.up (by omega)) (by omega) (eD _)) (az _) (fun j ds h=>by
  rcases b8 h with⟨rfl,rfl⟩|⟨hj,h⟩
  ·exact aa
  ·have:=hok.lt h
   exact al hj (al hj (al (by omega) h))) aa rfl
theorem Ts(v:Nat)(hs:vs.lookup ks=some [dI .i64 s]):HC prog 51 ([dI .i64 v]++[ks].map fun k=>.pt k 0) ⟨vs,lv,N⟩ (dI .i64 (if (v:Int)=(s:Int) then 1 else 0)) ⟨vs,lv,N⟩:=by
 refine HC.of (rs:=[.tmp 3]) tok func51 rfl rfl (bi rfl) rfl (fun cx hx h0 hok=>?_)
 simp only[fG,mZ,jK,EY,ny,Nat.reduceAdd,bt]
 have S6:=hok.lt hs
 refine rs hx fun K hK=>?_
 refine sa ?_
 refine nl hK ?_
 refine AW.seq (rs hx fun K hK=>?_)
 refine sa ?_
 refine c1 (Pt.all (F:=[dI .i64 s])) ?_
 refine sa ?_
 refine nl hK ?_
 refine AW.condS rfl (fun hb=>?_) (fun hb=>?_)
 ·rw[ai (bC hb)]
  refine rs hx fun K hK=>?_
  refine sa ?_
  refine nl hK ?_
  exact AW.ret (rt1 h0)
 ·rw[ah (dE hb)]
  refine AW.skip (rs hx fun K hK=>?_)
  refine sa ?_
  refine nl hK ?_
  exact AW.ret (rt1 h0)
end
end
def fx(cU:Int):Option (List am):=if 0≤cU∧cU≤1000000 then some (List.replicate cU.toNat (nv (nOf 0))) else none
theorem Uk(l:List Nu):(cW au).f l=(cW ak).f (l.map nv):=by
 show l.flatMap au.f=(l.map nv).flatMap ak.f
 rw[List.flatMap_map]
 rfl
theorem kP(l:List Nu):slE au l=slE ak (l.map nv):=by
 unfold slE
 have:=Uk l
 rw[a8]
 show E.sl 36 l.length ((cW au).f l)=E.sl 36 l.length ((cW ak).f (l.map nv))
 rw[this]
theorem nA {cU:Int}{r:List am}(h:fx cU=some r):ar prog 75 [dI .i64 cU] (dL ak r):=by
 unfold fx at h
 split at h
 rotate_left
 ·cases h
 rename_i hn
 injection h with h
 obtain⟨n,rfl⟩:∃n:Nat,cU=(n:Int):=⟨cU.toNat,by omega⟩
 have hr:slE ak r=slE au (List.replicate n (nOf 0)):=by
  rw[kP,←h,Fb,show ((n:Int)).toNat=n by omega]
 show ar _ _ _ (.e (slE ak r))
 rw[hr]
 refine bn (rs:=[.tmp 2]) (fun cx hx h0=>?_) func75
 refine rs hx fun K hK=>?_
 refine s1 (d:=dO 0 au ([]:List Nu)) (gz bZ aO) ?_
 refine nl hK ?_
 refine rs hx fun K hK=>?_
 refine cq (Gg 0 (by omega)) ?_
 refine s1 (lh [nOf 0] au bZ aO) ?_
 refine sa ?_
 refine q1 (sHC (HC.args (ds:=[dO 1 au [nOf 0],dI .i64 n]) (ds':=[.e (slE au [nOf 0]),dI .i64 n]) ⟨Sp _,ax _,trivial⟩ (KH (vs:=[]) (N:=2) (by omega))) rfl (.inr ⟨show 2≤4 by decide,fun j hj=>ao (by have:j<2:=hj;omega)⟩)) ?_
 refine nbr hK ?_
 refine fzA au 3 [2] (tF ..).symm ?_ (all1 rfl)
 exact AW.ret (rv1)
end
end Go.Proofs.YtaedcknhkjpmlaaGreat
