/-
  Lemmas, part 6. Conditions: none.
-/
import Derived.Test.YtaedcknhkjpmlaaGreatP5
set_option linter.all false
set_option maxRecDepth 100000
set_option maxHeartbeats 4000000
namespace Go.Proofs.YtaedcknhkjpmlaaGreat
open Go.RowKit Go.IntKind Tryz
noncomputable section
def jY(c:List Nu):Option Nat:=c.findIdx? fun x=>decide (0<bI x)
def gR:Nat→Dic→(Int×Int)×Dic
 |0,d=>((-1,0),d)
 |f+1,d=>match jY d.gc with
  |none=>((-1,0),d)
  |some s=>match i8 d.rows s default d.rows.length with
   |none=>((-1,30),d)
   |some p=>if p.1<0 then (((s:Int),0),d) else
    let q:=dH d p.1.toNat s
    if q.1=0 then gR f q.2 else ((-1,q.1),q.2)
def aP(d:Dic):(Int×Int)×Dic:=gR ((d.most - d.piv).toNat+1) d
def tN(x:Nu)(r:Row):Row:=⟨r.k,r.c.set 0 x,r.b⟩
def jI(l:List Row):Nat→Nat
 |0=>0
 |i+1=>if pN l[i]!.k l[jI l i]!.k<0 then i else jI l i
def cf(d:Dic):Dic:=⟨d.rows.map (tN (nOf 1)),d.gk,d.gc.set 0 (nOf (-1)),d.n,d.piv,d.most⟩
def xJ(c:List Nu):Option Nat:=c.findIdx? fun x=>decide (bI x≠0)
def jx(d:Dic):Int×Dic:=
 let p:=dH (cf d) (jI d.rows d.rows.length) 0
 if p.1≠0 then p else
 let q:=aP p.2
 if q.1.2≠0∨bI q.2.gk<0 then (q.1.2,q.2) else
 if db q.2.rows 0<0 then (0,q.2) else
 match xJ q.2.rows[(db q.2.rows 0).toNat]!.c with
 |none=>(0,q.2)
 |some s=>dH q.2 (db q.2.rows 0).toNat s
def gt(l:List Row)(w:Nat)(c:List Nu):Nat→Nu×List Nu
 |0=>(nOf 0,List.replicate w (nOf 0))
 |k+1=>let g:=gt l w c k
  if 0≤db l ((k+1:Nat):Int) then (wK c[k]! l[(db l ((k+1:Nat):Int)).toNat]!.k g.1,tT c[k]! l[(db l ((k+1:Nat):Int)).toNat]!.c (-1) g.2)
  else (g.1,g.2.set (k+1) (jA g.2[k+1]! c[k]!))
def mD(d:Dic)(c:List Nu):Dic:=⟨d.rows.map (tN (nOf 0)),(gt (d.rows.map (tN (nOf 0))) d.gc.length c c.length).1,(gt (d.rows.map (tN (nOf 0))) d.gc.length c c.length).2,d.n,d.piv,d.most⟩
def mC(d:Dic)(c:List Nu):Int×Dic:=(if fS (mD d c).gk (mD d c).gc then 0 else 30,mD d c)
def cJ(l:List Row)(nn:Nat)(of:Row→Nu)(other:Nat→Nu):List Nu:=(List.range nn).map fun j=>if 0≤db l ((j+1:Nat):Int) then of l[(db l ((j+1:Nat):Int)).toNat]! else other (j+1)
def aG(m nn:Nat)(A B:List Nu)(most:Int):Dic:=
 ⟨(List.range m).map fun i=>⟨B[i]!,(List.range (1+nn+m)).map (fun t=>if 1≤t∧t≤nn then eR A[i*nn+(t - 1)]! else nOf 0),((1+nn+i:Nat):Int)⟩,nOf 0,List.replicate (1+nn+m) (nOf 0),nn,0,most⟩
structure Ans where
 kind:Int
 x:List Nu
 y:List Nu
 ray:List Nu
 deriving DecidableEq
def vH(nn:Nat)(d:Dic)(c:List Nu):Ans×Int×Int:=
 let a:=mC d c
 if a.1≠0 then (⟨0,[],[],[]⟩,0,a.1) else
 let q:=aP a.2
 if q.1.2≠0 then (⟨0,[],[],[]⟩,0,q.1.2) else
 let x:=cJ q.2.rows nn Row.k fun _=>nOf 0
 if q.1.1<0 then (⟨1,x,bQ q.2 nn,[]⟩,q.2.piv,0) else
 (⟨3,x,[],cJ q.2.rows nn (fun r=>r.c[q.1.1.toNat]!) fun v=>if (v:Int)=q.1.1 then nOf 1 else nOf 0⟩,q.2.piv,0)
def im(m nn:Nat)(A B C:List Nu)(most:Int):Ans×Int×Int:=
 let d:=aG m nn A B most
 if B.any (fun b=>decide (bI b<0))=true then
  let p:=jx d
  if p.1≠0 then (⟨0,[],[],[]⟩,0,p.1) else
  if bI p.2.gk<0 then (⟨2,[],bQ p.2 nn,[]⟩,p.2.piv,0) else vH nn p.2 C
 else vH nn d C
section
def bi:Nat→(Nat→Rat)→Rat
 |0,_=>0
 |n+1,f=>bi n f+f n
theorem aB {f g:Nat→Rat}:∀{n:Nat},(∀t,t<n→f t=g t)→bi n f=bi n g
 |0,_=>rfl
 |n+1,h=>by unfold bi;rw[aB fun t ht=>h t (by omega),h n (by omega)]
theorem lW(f g:Nat→Rat):∀n,bi n (fun t=>f t+g t)=bi n f+bi n g
 |0=>by show (0:Rat)=0+0;grind
 |n+1=>by unfold bi;rw[lW f g n];grind
theorem iY(a:Rat)(f:Nat→Rat):∀n,bi n (fun t=>a*f t)=a*bi n f
 |0=>by simp[bi]
 |n+1=>by unfold bi;rw[iY a f n];grind
theorem fE:∀n,bi n (fun _=>0)=0
 |0=>rfl
 |n+1=>by unfold bi;rw[fE n];show (0:Rat)+0=0;grind
theorem lV(a:Nat)(x:Rat):∀n,a<n→bi n (fun t=>if t=a then x else 0)=x
 |0,h=>by omega
 |n+1,h=>by
  show bi n (fun t=>if t=a then x else 0)+(if n=a then x else 0)=x
  by_cases hn:n=a
  ·subst hn
   rw[ai rfl,aB (g:=fun _=>0) fun t ht=>ah (by omega),fE]
   grind
  ·rw[ah hn,lV a x n (by omega)];grind
theorem zw(f g:Nat→Rat)(n:Nat):bi n (fun t=>f t - g t)=bi n f - bi n g:=by
 have:(fun t=>f t - g t)=fun t=>f t+(-1)*g t:=by funext t;grind
 rw[this,lW f (fun t=>(-1)*g t),iY];grind
theorem BJ {f:Nat→Rat}:∀{n:Nat},(∀t,t<n→0≤f t)→0≤bi n f
 |0,_=>by simp[bi]
 |n+1,h=>by
  unfold bi
  have h1:=BJ (f:=f) (n:=n) fun t ht=>h t (by omega)
  have h2:=h n (by omega)
  grind
theorem wd(f:Nat→Rat)(a:Nat)(x:Rat){n:Nat}(h:a<n):bi n (fun t=>if t=a then x else f t)=bi n f+(x - f a):=by
 rw[←lV a (x - f a) n h,←lW]
 refine aB fun t _=>?_
 by_cases ht:t=a
 ·subst ht;rw[ai rfl,ai rfl];grind
 ·rw[ah ht,ah ht];grind
def bK(w:Nat)(k:Nu)(c:List Nu)(y:Nat→Rat):Rat:=rv k+bi w (fun t=>rv c[t]! *y t)
def Sol(d:Dic)(w:Nat)(y:Nat→Rat):Prop:=∀i,i<d.rows.length→y d.rows[i]!.b.toNat=bK w d.rows[i]!.k d.rows[i]!.c y
structure Inv(d:Dic)(w:Nat):Prop where
 fine:Fine d w
 rng:∀i,i<d.rows.length→0≤d.rows[i]!.b∧d.rows[i]!.b<w
 inj:∀i j,i<d.rows.length→j<d.rows.length→d.rows[i]!.b=d.rows[j]!.b→i=j
 zg:∀j,j<d.rows.length→d.gc[d.rows[j]!.b.toNat]! =nOf 0
 zr:∀i j,i<d.rows.length→j<d.rows.length→d.rows[i]!.c[d.rows[j]!.b.toNat]! =nOf 0
theorem uc {r:Row}{s t:Nat}(hs:s<r.c.length)(ht:t<r.c.length):(aY r s).c[t]! =if t=r.b.toNat then nV (nOf 1) r.c[s]! else if t=s then nOf 0 else nV (eR r.c[t]!) r.c[s]! :=by
 unfold aY
 rw[OZ]
 dsimp only
 rw[ew (by simpa using ht)]
 by_cases h1:r.b.toNat=t
 ·rw[ai h1,ai h1.symm]
 ·rw[ah h1,ah (fun e=>h1 e.symm),ew (by simpa using ht)]
  by_cases h2:s=t
  ·rw[ai h2,ai h2.symm]
  ·rw[ah h2,ah (fun e=>h2 e.symm)]
   apply dP
   rw[dQ,vG ht];rfl
theorem Hh {r:Row}{w s:Nat}(hs:s<w)(hl:r.c.length=w)(hb:r.b.toNat<w)(hg:fS r.k r.c=true)(hz:r.c[r.b.toNat]! =nOf 0)(fk:s≠r.b.toNat)(BV:fS (aY r s).k (aY r s).c=true)(y:Nat→Rat):
  rv r.c[s]!≠0∧bK w (aY r s).k (aY r s).c y - y s=(y r.b.toNat - bK w r.k r.c y) / rv r.c[s]! :=by
 obtain⟨h1,h2⟩:=bg.1 hg
 obtain⟨h3,h4⟩:=bg.1 BV
 have hk:(aY r s).k=nV (eR r.k) r.c[s]! :=rfl
 rw[hk] at h3
 obtain⟨_,h6,h7,h8⟩:=tK h3
 refine⟨h7,?_⟩
 have hc:∀t,t<w→rv (aY r s).c[t]! *y t=if t=r.b.toNat then (rv r.c[s]!)⁻¹*y r.b.toNat else if t=s then 0 else -(rv r.c[s]!)⁻¹*(rv r.c[t]! *y t):=by
  intro t ht
  have h9:=h4 t (by rw[qX];omega)
  rw[uc (by omega) (by omega)] at h9 ⊢
  by_cases e1:t=r.b.toNat
  ·rw[ai e1] at h9 ⊢
   rw[ai e1,(tK h9).2.2.2,of1.2,←e1];grind
  ·rw[ah e1] at h9 ⊢
   rw[ah e1]
   by_cases e2:t=s
   ·rw[ai e2,ai e2,of0.2];grind
   ·rw[ah e2] at h9 ⊢
    rw[ah e2,(tK h9).2.2.2,lJ];grind
 unfold bK
 rw[aB hc,wd (fun t=>if t=s then 0 else -(rv r.c[s]!)⁻¹*(rv r.c[t]! *y t)) r.b.toNat _ hb,ah (fun e=>fk e.symm),wd (fun t=>-(rv r.c[s]!)⁻¹*(rv r.c[t]! *y t)) s 0 hs,iY,hk,h8,lJ,hz,of0.2]
 grind
theorem Dh {k:Nu}{c:List Nu}{row:Lin}{w s:Nat}(hs:s<w)(hl:c.length=w)(hg:fS k c=true)(BV:goodR (AO ⟨k,c⟩ row s)=true)(Sr:row.c.length=w)(Fh:goodR row=true)(hz:row.c[s]! =nOf 0)(y:Nat→Rat):
  bK w (AO ⟨k,c⟩ row s).k (AO ⟨k,c⟩ row s).c y=bK w k c y+rv c[s]! *(bK w row.k row.c y - y s):=by
 obtain⟨h1,h2⟩:=bg.1 hg
 obtain⟨h3,h4⟩:=bg.1 BV
 obtain⟨h5,h6⟩:=bg.1 Fh
 have hk:(AO ⟨k,c⟩ row s).k=jA k (lQ c[s]! row.k):=rfl
 have DP:∀t,t<w→(AO ⟨k,c⟩ row s).c[t]! =if t=s then nOf 0 else jA c[t]! (lQ c[s]! row.c[t]!):=fun t ht=>dP (bX _ (by show t<c.length;omega))
 have hlen:(AO ⟨k,c⟩ row s).c.length=w:=by unfold AO;simp[hl]
 rw[hk] at h3
 have yB:rv (AO ⟨k,c⟩ row s).k=rv k+rv c[s]! *rv row.k:=by
  rw[hk,HD h1 (wm h3).2 h3,HB (h2 s (by omega)) h5 (wm h3).2]
 have hc:∀t,t<w→rv (AO ⟨k,c⟩ row s).c[t]! *y t=if t=s then 0 else rv c[t]! *y t+rv c[s]! *(rv row.c[t]! *y t):=by
  intro t ht
  have h9:=h4 t (by omega)
  rw[DP t ht] at h9 ⊢
  by_cases e:t=s
  ·rw[ai e,ai e,of0.2];grind
  ·rw[ah e] at h9 ⊢
   rw[ah e,HD (h2 t (by omega)) (wm h9).2 h9,HB (h2 s (by omega)) (h6 t (by omega)) (wm h9).2]
   grind
 unfold bK
 rw[yB,aB hc,wd (fun t=>rv c[t]! *y t+rv c[s]! *(rv row.c[t]! *y t)) s 0 hs,lW (fun t=>rv c[t]! *y t) (fun t=>rv c[s]! *(rv row.c[t]! *y t)),iY,hz,of0.2]
 grind
section
variable {d:Dic} {w at' s:Nat}
theorem d7:(f5 d at' s).rows.length=d.rows.length:=by unfold f5;simp
theorem iZ {i:Nat}(hi:i<d.rows.length):(f5 d at' s).rows[i]! =if i=at' then aY d.rows[at']! s else⟨(gL d.rows[i]!.k d.rows[i]!.c (aY d.rows[at']! s) s).k,(gL d.rows[i]!.k d.rows[i]!.c (aY d.rows[at']! s) s).c,d.rows[i]!.b⟩:=dP (bX _ hi)
theorem o5 {i:Nat}(hi:i<d.rows.length):(f5 d at' s).rows[i]!.b=if i=at' then (s:Int) else d.rows[i]!.b:=by
 rw[iZ hi]
 by_cases h:i=at'
 ·rw[ai h,ai h];rfl
 ·rw[ah h,ah h]
structure gG(d:Dic)(w at' s:Nat):Prop where
 inv:Inv d w
 hat:at'<d.rows.length
 hs:s<w
 nb:∀j,j<d.rows.length→d.rows[j]!.b≠s
 fine:Fine (f5 d at' s) w
section
variable (h:gG d w at' s)
include h
theorem gG.turn(y:Nat→Rat):rv d.rows[at']!.c[s]!≠0∧bK w (aY d.rows[at']! s).k (aY d.rows[at']! s).c y - y s=(y d.rows[at']!.b.toNat - bK w d.rows[at']!.k d.rows[at']!.c y) / rv d.rows[at']!.c[s]! :=by
 have hr:=h.inv.rng at' h.hat
 refine Hh h.hs (h.inv.fine.lr at' h.hat) (by omega) (h.inv.fine.gr at' h.hat) (h.inv.zr at' at' h.hat h.hat) (fun e=>h.nb at' h.hat (by omega)) ?_ y
 have:=h.fine.gr at' (by rw[d7];exact h.hat)
 rwa[iZ h.hat,ai rfl] at this
theorem gG.row:fS (aY d.rows[at']! s).k (aY d.rows[at']! s).c=true:=by
 have:=h.fine.gr at' (by rw[d7];exact h.hat)
 rwa[iZ h.hat,ai rfl] at this
theorem gG.lrow:(aY d.rows[at']! s).c.length=w:=by rw[qX];exact h.inv.fine.lr at' h.hat
theorem gG.rowS:(aY d.rows[at']! s).c[s]! =nOf 0:=by
 have hl:=h.inv.fine.lr at' h.hat
 have hs:=h.hs
 have hr:=h.inv.rng at' h.hat
 rw[uc (by omega) (by omega),ah (fun e=>h.nb at' h.hat (by omega)),ai rfl]
theorem gG.put {k:Nu}{c:List Nu}(hg:fS k c=true)(hl:c.length=w):gL k c (aY d.rows[at']! s) s=AO ⟨k,c⟩ ⟨(aY d.rows[at']! s).k,(aY d.rows[at']! s).c⟩ s:=by
 have hs:=h.hs
 have:=h.lrow
 exact putP_eq hg h.row (by omega) (by omega)
theorem gG.goalW(y:Nat→Rat):bK w (f5 d at' s).gk (f5 d at' s).gc y=bK w d.gk d.gc y+rv d.gc[s]! *(bK w (aY d.rows[at']! s).k (aY d.rows[at']! s).c y - y s):=by
 have h1:=h.fine.gg
 have e:gL d.gk d.gc (aY d.rows[at']! s) s=⟨(f5 d at' s).gk,(f5 d at' s).gc⟩:=rfl
 have e2:=(h.put h.inv.fine.gg h.inv.fine.lg).symm.trans e
 have:=Dh (row:=⟨(aY d.rows[at']! s).k,(aY d.rows[at']! s).c⟩) h.hs h.inv.fine.lg h.inv.fine.gg (by rw[e2];exact h1) h.lrow h.row h.rowS y
 rw[e2] at this
 exact this
theorem gG.rowW {i:Nat}(hi:i<d.rows.length)(qO:i≠at')(y:Nat→Rat):bK w (f5 d at' s).rows[i]!.k (f5 d at' s).rows[i]!.c y=bK w d.rows[i]!.k d.rows[i]!.c y+rv d.rows[i]!.c[s]! *(bK w (aY d.rows[at']! s).k (aY d.rows[at']! s).c y - y s):=by
 have h1:=h.fine.gr i (by rw[d7];exact hi)
 rw[iZ hi,ah qO] at h1 ⊢
 have e2:=h.put (h.inv.fine.gr i hi) (h.inv.fine.lr i hi)
 have:=Dh (row:=⟨(aY d.rows[at']! s).k,(aY d.rows[at']! s).c⟩) h.hs (h.inv.fine.lr i hi) (h.inv.fine.gr i hi) (by rw[←e2];exact h1) h.lrow h.row h.rowS y
 rw[←e2] at this
 exact this
theorem gG.sol(y:Nat→Rat):Sol (f5 d at' s) w y↔Sol d w y:=by
 obtain⟨h0,ht⟩:=h.turn y
 have hat:=h.hat
 have key:y s=bK w (aY d.rows[at']! s).k (aY d.rows[at']! s).c y↔y d.rows[at']!.b.toNat=bK w d.rows[at']!.k d.rows[at']!.c y:=by
  constructor
  ·intro e
   rw[←e] at ht
   have:(y d.rows[at']!.b.toNat - bK w d.rows[at']!.k d.rows[at']!.c y) / rv d.rows[at']!.c[s]! =0:=by grind
   rw[iA] at this
   have h2:=Is.1 this
   rcases h2 with h2|h2
   ·grind
   ·exact absurd h2 (by grind)
  ·intro e
   rw[e] at ht
   have:bK w (aY d.rows[at']! s).k (aY d.rows[at']! s).c y - y s=0:=by rw[ht,iA];grind
   grind
 have hatS:(f5 d at' s).rows[at']!.b.toNat=s∧(f5 d at' s).rows[at']! =aY d.rows[at']! s:=by
  rw[iZ hat,ai rfl]
  exact⟨by show ((s:Int)).toNat=s;omega,rfl⟩
 unfold Sol
 rw[d7]
 constructor
 ·intro hy i hi
  have h1:=hy at' hat
  rw[hatS.1,hatS.2] at h1
  by_cases qO:i=at'
  ·subst qO;exact key.1 h1
  ·have h2:=hy i hi
   rw[h.rowW hi qO,o5 hi,ah qO] at h2
   rw[h2]
   grind
 ·intro hy i hi
  have h1:=key.2 (hy at' hat)
  by_cases qO:i=at'
  ·subst qO;rw[hatS.1,hatS.2];exact h1
  ·rw[h.rowW hi qO,o5 hi,ah qO,hy i hi]
   grind
theorem gG.goal {y:Nat→Rat}(hy:Sol d w y):bK w (f5 d at' s).gk (f5 d at' s).gc y=bK w d.gk d.gc y:=by
 have h1:=(h.sol y).2 hy at' (by rw[d7];exact h.hat)
 rw[iZ h.hat,ai rfl] at h1
 have h2:y s=bK w (aY d.rows[at']! s).k (aY d.rows[at']! s).c y:=by
  have e:((aY d.rows[at']! s).b).toNat=s:=by show ((s:Int)).toNat=s;omega
  rw[e] at h1;exact h1
 rw[h.goalW y]
 grind
end
end
end
section
theorem rv_nOf0 {x:Nu}(hg:aw x=true)(h:rv x=0):x=nOf 0:=DU hg of0.1 (h.trans of0.2.symm)
section
variable {d:Dic} {w at' s:Nat}
theorem gG.toInv(h:gG d w at' s):Inv (f5 d at' s) w:=by
 have hat:=h.hat
 have hs:=h.hs
 have hb:∀j,j<d.rows.length→d.rows[j]!.b.toNat<w:=fun j hj=>by have:=h.inv.rng j hj;omega
 have hrz:∀j,j<d.rows.length→j≠at'→(aY d.rows[at']! s).c[d.rows[j]!.b.toNat]! =nOf 0:=fun j hj rZ=>by
  have hl:=h.inv.fine.lr at' hat
  have h1:=(bg.1 h.row).2 d.rows[j]!.b.toNat (by rw[h.lrow];exact hb j hj)
  have IW:=h.inv.rng j hj
  have Qj:=h.inv.rng at' hat
  rw[uc (by omega) (by rw[hl];exact hb j hj)] at h1 ⊢
  rw[ah (fun e=>rZ (h.inv.inj j at' hj hat (by omega))),ah (fun e=>h.nb j hj (by omega))] at h1 ⊢
  refine rv_nOf0 h1 ?_
  rw[(tK h1).2.2.2,lJ,h.inv.zr at' j hat hj,of0.2,iA];grind
 have hz:∀(k:Nu) (c:List Nu),fS k c=true→c.length=w→fS (gL k c (aY d.rows[at']! s) s).k (gL k c (aY d.rows[at']! s) s).c=true→(gL k c (aY d.rows[at']! s) s).c[s]! =nOf 0∧
   ∀j,j<d.rows.length→j≠at'→c[d.rows[j]!.b.toNat]! =nOf 0→(gL k c (aY d.rows[at']! s) s).c[d.rows[j]!.b.toNat]! =nOf 0:=fun k c hg hl BV=>by
  rw[h.put hg hl] at BV ⊢
  have DP:∀t,t<w→(AO ⟨k,c⟩ ⟨(aY d.rows[at']! s).k,(aY d.rows[at']! s).c⟩ s).c[t]! =if t=s then nOf 0 else jA c[t]! (lQ c[s]! (aY d.rows[at']! s).c[t]!):=fun t ht=>dP (bX _ (by show t<c.length;omega))
  refine⟨by rw[DP s hs,ai rfl],fun j hj rZ h0=>?_⟩
  have IW:=h.inv.rng j hj
  rw[DP _ (hb j hj),ah (fun e=>h.nb j hj (by omega)),h0,hrz j hj rZ]
  rw[yy ((bg.1 hg).2 s (by omega)),w5 of0.1]
 refine⟨h.fine,fun i hi=>?_,fun i j hi hj e=>?_,fun j hj=>?_,fun i j hi hj=>?_⟩
 ·rw[d7] at hi
  rw[o5 hi]
  by_cases qO:i=at'
  ·rw[ai qO];omega
  ·rw[ah qO];exact h.inv.rng i hi
 ·rw[d7] at hi hj
  rw[o5 hi,o5 hj] at e
  by_cases qO:i=at' <;> by_cases rZ:j=at'
  ·omega
  ·rw[ai qO,ah rZ] at e;exact absurd e.symm (h.nb j hj)
  ·rw[ah qO,ai rZ] at e;exact absurd e (h.nb i hi)
  ·rw[ah qO,ah rZ] at e;exact h.inv.inj i j hi hj e
 ·rw[d7] at hj
  rw[o5 hj]
  obtain⟨h1,h2⟩:=hz d.gk d.gc h.inv.fine.gg h.inv.fine.lg h.fine.gg
  by_cases rZ:j=at'
  ·rw[ai rZ,show ((s:Int)).toNat=s by omega];exact h1
  ·rw[ah rZ];exact h2 j hj rZ (h.inv.zg j hj)
 ·rw[d7] at hi hj
  have IY:=h.fine.gr i (by rw[d7];exact hi)
  rw[o5 hj]
  rw[iZ hi] at IY ⊢
  by_cases qO:i=at'
  ·rw[ai qO]
   by_cases rZ:j=at'
   ·rw[ai rZ,show ((s:Int)).toNat=s by omega];exact h.rowS
   ·rw[ah rZ];exact hrz j hj rZ
  ·rw[ah qO] at IY ⊢
   obtain⟨h1,h2⟩:=hz d.rows[i]!.k d.rows[i]!.c (h.inv.fine.gr i hi) (h.inv.fine.lr i hi) IY
   by_cases rZ:j=at'
   ·rw[ai rZ,show ((s:Int)).toNat=s by omega];exact h1
   ·rw[ah rZ];exact h2 j hj rZ (h.inv.zr i j hi hj)
theorem Inv.pick(hI:Inv d w)(v:Nat→Rat):∃y,Sol d w y∧∀t,(∀j,j<d.rows.length→d.rows[j]!.b≠(t:Nat))→y t=v t:=by
 have hex:∃y:Nat→Rat,∀t,y t=(match (d.rows.findIdx? fun r=>decide (r.b=(t:Int))) with|some i=>bK w d.rows[i]!.k d.rows[i]!.c v|none=>v t):=⟨_,fun _=>rfl⟩
 obtain⟨y,hy⟩:=hex
 have h1:∀t,(∀j,j<d.rows.length→d.rows[j]!.b≠(t:Nat))→y t=v t:=fun t ht=>by
  rw[hy t]
  have:(d.rows.findIdx? fun r=>decide (r.b=(t:Int)))=none:=by
   rw[uE]
   intro r hr
   obtain⟨j,hj,rfl⟩:=wC.1 hr
   have:=ht j hj
   rw[bJ d.rows j hj] at this
   exact bk this
  rw[this]
 refine⟨y,fun i hi=>?_,h1⟩
 have hr:=hI.rng i hi
 rw[hy]
 have:(d.rows.findIdx? fun r=>decide (r.b=((d.rows[i]!.b.toNat:Nat):Int)))=some i:=by
  rw[ox]
  refine⟨hi,?_,fun j hj=>?_⟩
  ·have:d.rows[i].b=d.rows[i]!.b:=by rw[bJ d.rows i hi]
   exact aA (by omega)
  ·have h2:d.rows[j].b=d.rows[j]!.b:=by rw[bJ d.rows j (by omega)]
   have:=hI.inj i j hi (by omega)
   simp only[rG]
   omega
 rw[this]
 dsimp only
 unfold bK
 congr 1
 refine aB fun t ht=>?_
 by_cases hb:∀j,j<d.rows.length→d.rows[j]!.b≠(t:Nat)
 ·rw[h1 t hb]
 ·obtain⟨j,hj⟩:=MI.1 hb
  obtain⟨NV,BS⟩:=MH.1 hj
  have BS:=Bs.1 BS
  have:=hI.zr i j hi NV
  rw[BS,show ((t:Nat):Int).toNat=t by omega] at this
  rw[this,of0.2];grind
end
theorem pi {c:List Nu}{s:Nat}(h:jY c=some s):s<c.length∧0<bI c[s]!∧∀t,t<s→¬0<bI c[t]! :=by
 unfold jY at h
 obtain⟨h1,h2,h3⟩:=ox.1 h
 refine⟨h1,?_,fun t ht=>?_⟩
 ·rw[bJ c s h1];exact bA h2
 ·have:=h3 t ht
  rw[bJ c t (by omega)]
  simpa using this
theorem Mk {c:List Nu}(h:jY c=none){t:Nat}(ht:t<c.length):¬0<bI c[t]! :=by
 unfold jY at h
 have:=uE.1 h c[t] (nA ht)
 rw[bJ c t ht]
 simpa using this
theorem o7 {l:List Row}{s:Nat}{z:Nu}:∀{n:Nat} {p:Int×Nu},i8 l s z n=some p→p.1=-1∨∃i,i<n∧p.1=(i:Int)∧bI l[i]!.c[s]! <0∧aw p.2=true∧p.2=nV l[i]!.k (eR l[i]!.c[s]!)
 |0,p,h=>by unfold i8 at h;injection h with h;exact .inl (by rw[←h])
 |n+1,p,h=>by
  unfold i8 at h
  cases hq:i8 l s z n with
  |none=>rw[hq] at h;cases h
  |some q=>
   rw[hq] at h
   have ih:=o7 hq
   have up:q=p→p.1=-1∨∃i,i<n+1∧p.1=(i:Int)∧bI l[i]!.c[s]! <0∧aw p.2=true∧p.2=nV l[i]!.k (eR l[i]!.c[s]!):=by
    rintro rfl
    rcases ih with h1|⟨i,h1,h2⟩
    ·exact .inl h1
    ·exact .inr ⟨i,by omega,h2⟩
   unfold rm at h
   dsimp only at h
   split at h
   ·injection h with h;exact up h
   ·rename_i h1
    split at h
    ·cases h
    ·rename_i h2
     split at h
     ·injection h with h
      subst h
      exact .inr ⟨n,by omega,rfl,by omega,by simpa using h2,rfl⟩
     ·injection h with h;exact up h
theorem Inv.enter {d:Dic}{w s:Nat}(hI:Inv d w)(h:bI d.gc[s]!≠0):∀j,j<d.rows.length→d.rows[j]!.b≠s:=fun j hj e=>by
 have:=hI.zg j hj
 rw[e,show ((s:Int)).toNat=s by omega] at this
 rw[this,(zx of0.1).2 of0.2] at h
 exact h rfl
theorem Inv.rowNz {d:Dic}{w s i:Nat}(hI:Inv d w)(hi:i<d.rows.length)(h:bI d.rows[i]!.c[s]!≠0):∀j,j<d.rows.length→d.rows[j]!.b≠s:=fun j hj e=>by
 have:=hI.zr i j hi hj
 rw[e,show ((s:Int)).toNat=s by omega] at this
 rw[this,(zx of0.1).2 of0.2] at h
 exact h rfl
structure qH(d d':Dic)(w:Nat):Prop where
 len:d'.rows.length=d.rows.length
 n:d'.n=d.n
 most:d'.most=d.most
 sol:∀y,Sol d' w y↔Sol d w y
 goal:∀y,Sol d w y→bK w d'.gk d'.gc y=bK w d.gk d.gc y
 piv:d.piv≤d'.piv
theorem qH.refl(d:Dic)(w:Nat):qH d d w:=⟨rfl,rfl,rfl,fun _=>Iff.rfl,fun _ _=>rfl,yK _⟩
theorem qH.trans {d d' Ts:Dic}{w:Nat}(h:qH d d' w)(h':qH d' Ts w):qH d Ts w:=
 ⟨h'.len.trans h.len,h'.n.trans h.n,h'.most.trans h.most,fun y=>(h'.sol y).trans (h.sol y),fun y hy=>(h'.goal y ((h.sol y).2 hy)).trans (h.goal y hy),Int.le_trans h.piv h'.piv⟩
theorem gG.same {d:Dic}{w at' s:Nat}(h:gG d w at' s):qH d (f5 d at' s) w:=
 ⟨d7,rfl,rfl,h.sol,fun _ hy=>h.goal hy,by show d.piv≤d.piv+1;omega⟩
end
section
section
variable {vs:List (Nat×List D)} {lv:List (Nat×Nat×Nat×TypeId)} {N kd R G w:Nat} {C:Nat→Nat} {d:Dic}
theorem Gn {A B:List D}{j:Nat}{r:Row}{F:List D}(h:F=A++iH C w j r++B)(hA:A.length=j*38):Pt F (j*38) (iH C w j r) (fun ys=>A++ys++B):=Pt.of A B hA h fun y=>rfl
theorem Lt {j:Nat}{r:Row}:Pt (iH C w j r) (0+36) [.ow (C j) 0 36 w] (fun ys=>dC (au.f r.k)++ys++[dI .i64 r.b]):=Pt.of (dC (au.f r.k)) [dI .i64 r.b] (iI _) (by unfold iH aW;simp only[c0]) fun y=>rfl
theorem Q8 {j:Nat}{r:Row}:Pt (iH C w j r) (0+0) (dC (au.f r.k)) (fun ys=>ys++([.ow (C j) 0 36 w]++[dI .i64 r.b])):=Pt.of [] ([.ow (C j) 0 36 w]++[dI .i64 r.b]) rfl (by unfold iH aW;simp only[c0,nd]) fun y=>rfl
theorem rowD_b {j:Nat}{r:Row}:Pt (iH C w j r) (0+37) [dI .i64 r.b] (fun ys=>aW r.k (C j) w++ys++[]):=Pt.of (aW r.k (C j) w) [] (bR _ _ _) (by unfold iH;simp) fun y=>rfl
def OS:List E:=zN++[.lit (.slice none 0 0)]++[.lit (.int .i64 0)]
theorem Pt.all {F:List D}:Pt F 0 F id:=Pt.of [] [] rfl (by simp) fun y=>by simp
def LI(o:Option (Int×Nu)):D:=match o with
 |none=>.tu [dI .i64 (-1),dI .i64 30]
 |some p=>.tu [dI .i64 p.1,dI .i64 0]
theorem LJ {l:List Row}{s:Nat}{z:Nu}{i:Nat}(h:i8 l s z i=none):∀n,i≤n→i8 l s z n=none:=by
 intro n hn
 induction n with
 |zero=>
      obtain rfl:i=0:=by omega
      exact h
 |succ n ih=>
  rcases Nat.eq_or_lt_of_le hn with e|e
  ·subst e;exact h
  ·unfold i8;rw[ih (by omega)]
theorem PI {s:Nat}(hD:DAt vs kd R G C w d)(hs:s<w)(hm:d.rows.length≤1000000):
  HC prog 110 [.pt kd 0,dI .i64 s] ⟨vs,lv,N⟩ (LI (i8 d.rows s default d.rows.length)) ⟨vs,lv,N⟩:=by
 refine HC.of (rs:=[.tmp 4,.tmp 5]) tok func110 rfl rfl (bc rfl) rfl (fun cx hx h0 hok=>?_)
 simp only[fj,Nat.reduceAdd,bp]
 have vK:=hD.hd
 have FR:=hok.lt vK
 have hRi:(eU R d.rows).idsB (N+1)=true:=by
  cases hl:d.rows with
  |nil=>rfl
  |cons r l'=>exact aA (by have:=hok.lt (hD.hR (by rw[hl];simp));omega)
 refine rs hx fun K hK=>?_
 iterate 2 refine sa ?_
 refine nl hK ?_
 refine rs hx fun K hK=>?_
 refine sa ?_
 refine nl hK ?_
 refine rs hx fun K hK=>?_
 refine n1 ?_
 refine nl hK ?_
 rw[←zNu]
 refine AW.seq (rs hx fun K hK=>?_)
 iterate 3 refine sa ?_
 refine c1 gi ?_
 refine Nr (R:=R) (l:=d.rows) rfl ?_
 refine sa ?_
 refine nl hK ?_
 refine AW.block (AW.loopW (fun u:Nat×(Int×Nu)=>[(0,.pt kd 0),(1,dI .i64 s),(6,dI .i64 u.2.1),(7,.pt N 0),(15,eU R d.rows),(16,dI .i64 d.rows.length),(17,dI .i64 u.1)]) (fun u=>⟨(N,dC (au.f u.2.2))::vs,lv,N+1⟩) (fun u=>u.1≤d.rows.length∧i8 d.rows s default u.1=some u.2) (fun u=>d.rows.length - u.1) (0,(-1,default)) ?_ ⟨cl _,rfl⟩ ?_)
 ·exact wk1 h0
 ·rintro⟨i,at',q⟩ ⟨hi,hp⟩
  dsimp only at hi hp ⊢
  refine rs hx fun K hK=>?_
  refine sa ?_
  refine nl hK ?_
  refine AW.seq (AW.condS rfl (fun hb=>?_) (fun hb=>?_))
  ·have yC:i<d.rows.length:=by have:=bA hb;omega
   have fk:d.rows≠[]:=fun e=>by rw[e] at yC;simp at yC
   have hr:d.rows[i]? =some d.rows[i]! :=by rw[bJ d.rows i yC];exact cz yC
   obtain⟨A,B,hA,_,h3,_,_⟩:=mq C w d.rows i hr
   have hRv:=hD.hR fk
   have CL:=hok.lt hRv
   have hcv:=hD.hC i _ hr
   have hCN:=hok.lt hcv
   have t4:=hD.lC i _ hr
   have iE:i8 d.rows s default (i+1)=rm d.rows s (at',q) i:=by
    show (match i8 d.rows s default i with|none=>none|some p=>rm d.rows s p i)=_
    rw[hp]
   unfold rm at iE
   dsimp only at iE
   generalize HQ:d.rows[i]! =r at hr hcv t4 h3 iE
   refine AW.skip (AW.seq (AW.block (rs hx fun K hK=>?_)))
   refine sa ?_
   refine r1 yC ?_ (by show (eU R d.rows).toOw=_;rw[pM fk];rfl)
   refine p1 (Gn h3 hA) (tv _ _ _ _) ?_
   refine a1 (F:=OS) tp ?_
   refine sa ?_
   refine v1 (Pt.all (F:=dC OS)) rfl (tv C w i r) rfl ?_
   refine nl hK ?_
   refine AW.seq (rs hx fun K hK=>?_)
   iterate 2 refine sa ?_
   refine c1 (Lt (C:=C) (w:=w) (j:=i) (r:=r)) ?_
   refine sa ?_
   refine i1 hs ?_
   refine l1 (Pt.el r.c s (by omega)) ?_
   refine cq (yj _) ?_
   refine sa ?_
   refine nl hK ?_
   refine AW.condS rfl (fun hb=>?_) (fun hb=>?_)
   ·have hsg:0≤bI r.c[s]! :=bA hb
    refine AW.exit (rq hx fun K hK=>?_)
    iterate 2 refine sa ?_
    refine nl hK ?_
    rw[bS]
    exact⟨(i+1,(at',q)),wk1 h0,⟨yC,iE.trans (by rw[ai hsg])⟩,by dsimp only;omega⟩
   have hsg:¬0≤bI r.c[s]! :=de hb
   rw[ah hsg] at iE
   refine AW.skip (rsd [42,153] hx fun K hK=>?_)
   iterate 2 refine sa ?_
   refine l1 (Q8 (C:=C) (w:=w) (j:=i) (r:=r)) ?_
   iterate 2 refine sa ?_
   refine c1 (Lt (C:=C) (w:=w) (j:=i) (r:=r)) ?_
   refine sa ?_
   refine i1 hs ?_
   refine l1 (Pt.el r.c s (by omega)) ?_
   refine cq (Jj _) ?_
   refine cq (QH _ _) ?_
   refine n1 ?_
   refine z1 ?_
   refine nl hK ?_
   generalize nV r.k (eR r.c[s]!)=q' at iE ⊢
   refine AW.seq (rs hx fun K hK=>?_)
   refine l1 (Pt.idN q') ?_
   refine cq (w_Good _) ?_
   refine sa ?_
   refine nl hK ?_
   refine AW.condS rfl (fun hb=>?_) (fun hb=>?_)
   ·have hg:aw q'=false:=by simpa using hb
    rw[ai hg] at iE
    refine rs hx fun K hK=>?_
    iterate 2 refine sa ?_
    refine nl hK ?_
    refine AW.ret ?_
    rw[LJ iE _ yC]
    exact rt2 h0
   have hg:¬aw q'=false:=by simpa using hb
   rw[ah hg] at iE
   refine AW.skip (rs hx fun K hK=>?_)
   refine l1 (Pt.idN q') ?_
   refine l1 (Pt.idN q) ?_
   refine cq (w_Cmp _ _) ?_
   refine sa ?_
   refine nl hK ?_
   refine rsd [] hx fun K hK=>?_
   iterate 3 refine sa ?_
   by_cases h1:at'<0
   ·have e1:decide (at'<0)=true:=aA h1
    iterate 2 refine gn e1 ?_
    refine s1 (d:=dB true) (oG e1) ?_
    refine sa ?_
    iterate 3 refine gn rfl ?_
    iterate 11 refine gm ?_
    refine gn rfl ?_
    refine s1 (d:=dB true) (oG rfl) ?_
    refine nl hK ?_
    rw[ai (.inl h1)] at iE
    refine AW.condS rfl (fun hb=>?_) (fun hb=>absurd hb (by simp))
    refine rqd [] hx fun K hK=>?_
    refine sa ?_
    refine l1 (Pt.idN q') ?_
    refine sa ?_
    refine t1 (Pt.idN q) rfl ?_
    refine nl hK ?_
    refine rq hx fun K hK=>?_
    iterate 2 refine sa ?_
    refine nl hK ?_
    rw[bS]
    exact⟨(i+1,((i:Int),q')),wk1 h0,⟨yC,iE.trans rfl⟩,by dsimp only;omega⟩
   have qD:decide (at'<0)=false:=bk h1
   iterate 2 refine ga qD ?_
   refine s1 (d:=dB (decide (pN q' q<0))) (lP qD) ?_
   refine sa ?_
   by_cases h2:pN q' q<0
   ·have e2:decide (pN q' q<0)=true:=aA h2
    iterate 3 refine gn e2 ?_
    iterate 11 refine gm ?_
    refine gn e2 ?_
    refine s1 (d:=dB true) (oG e2) ?_
    refine nl hK ?_
    rw[ai (.inr (.inl h2))] at iE
    refine AW.condS rfl (fun hb=>?_) (fun hb=>absurd hb (by simp))
    refine rqd [] hx fun K hK=>?_
    refine sa ?_
    refine l1 (Pt.idN q') ?_
    refine sa ?_
    refine t1 (Pt.idN q) rfl ?_
    refine nl hK ?_
    refine rq hx fun K hK=>?_
    iterate 2 refine sa ?_
    refine nl hK ?_
    rw[bS]
    exact⟨(i+1,((i:Int),q')),wk1 h0,⟨yC,iE.trans rfl⟩,by dsimp only;omega⟩
   have e2:decide (pN q' q<0)=false:=bk h2
   iterate 3 refine ga e2 ?_
   by_cases h3:pN q' q=0
   ·have e3:decide (pN q' q=0)=true:=aA h3
    obtain⟨a,ha,hai⟩:∃a:Nat,at'=(a:Int)∧a<i:=by
     rcases o7 hp with e|⟨a,b1,b2,_⟩
     ·dsimp only at e;omega
     ·exact⟨a,b2,b1⟩
    have hra:d.rows[a]? =some d.rows[a]! :=by rw[bJ d.rows a (by omega)];exact cz _
    obtain⟨_,_,_,_,_,_,hPa⟩:=mq C w d.rows a hra
    subst ha
    rw[show ((a:Int)).toNat=a by omega] at iE
    generalize d.rows[a]! =ra at hPa iE
    refine ga e3 ?_
    refine c1g rowD_b e3 ?_
    iterate 3 refine ga e3 ?_
    refine c1g gi e3 ?_
    refine ga e3 ?_
    refine r1g' (i:=a) (n:=d.rows.length) (by omega) e3 ?_ (pM fk)
    refine ga e3 ?_
    refine c1g hPa e3 ?_
    refine ga e3 ?_
    refine g1 (d:=dB (decide (r.b<ra.b))) e2 (oG e3) ?_
    refine s1 (d:=dB (decide (r.b<ra.b))) (lP e2) ?_
    refine nl hK ?_
    refine AW.condS rfl (fun hb=>?_) (fun hb=>?_)
    ·have bH:=bA hb
     rw[ai (.inr (.inr ⟨h3,bH⟩))] at iE
     refine rqd [] hx fun K hK=>?_
     refine sa ?_
     refine l1 (Pt.idN q') ?_
     refine sa ?_
     refine t1 (Pt.idN q) rfl ?_
     refine nl hK ?_
     refine rq hx fun K hK=>?_
     iterate 2 refine sa ?_
     refine nl hK ?_
     rw[bS]
     exact⟨(i+1,((i:Int),q')),wk1 h0,⟨yC,iE.trans rfl⟩,by dsimp only;omega⟩
    ·have bH:=de hb
     rw[ah (by rintro (e|e|e);exact h1 e;exact h2 e;exact bH e.2)] at iE
     refine AW.skip (rq hx fun K hK=>?_)
     iterate 2 refine sa ?_
     refine nl hK ?_
     rw[bS]
     exact⟨(i+1,((a:Int),q)),wk1 h0,⟨yC,iE.trans rfl⟩,by dsimp only;omega⟩
   ·have e3:decide (pN q' q=0)=false:=bk h3
    iterate 11 refine gn e3 ?_
    refine g1 (d:=dB false) e2 (lP e3) ?_
    refine s1 (d:=dB false) (lP e2) ?_
    refine nl hK ?_
    rw[ah (by rintro (e|e|e);exact h1 e;exact h2 e;exact h3 e.1)] at iE
    refine AW.condS rfl (fun hb=>absurd hb (by simp)) (fun hb=>AW.skip (rq hx fun K hK=>?_))
    iterate 2 refine sa ?_
    refine nl hK ?_
    rw[bS]
    exact⟨(i+1,(at',q)),wk1 h0,⟨yC,iE.trans rfl⟩,by dsimp only;omega⟩
  ·refine AW.exit ?_
   have yC:i=d.rows.length:=by have:=de hb;omega
   refine rs hx fun K hK=>?_
   iterate 3 refine sa ?_
   refine nl hK ?_
   refine AW.ret ?_
   rw[←yC,hp]
   exact rt2 h0
end
end
section
theorem zB {A B:List D}{C:Nat→Nat}{w j:Nat}(h:A.length=j*38)(r:Row):oV (A++iH C w j r++B) (j*38) r.k (C j) w A ([dI .i64 r.b]++B):=⟨h,by unfold iH;simp only[c0]⟩
theorem Nx {A B:List D}{C:Nat→Nat}{w j:Nat}(h:A.length=j*38)(r:Row):Pt (A++iH C w j r++B) (j*38+37) [dI .i64 r.b] (fun ys=>A++(aW r.k (C j) w++ys)++B):=
 Pt.of (A++aW r.k (C j) w) B (by rw[cu,h,bR]) (by unfold iH;simp only[c0]) fun y=>by simp only[c0]
theorem row_k {A B:List D}{C:Nat→Nat}{w j:Nat}(k:Nu)(c:List Nu)(b:Int):A++(dC (au.f k)++[.ow (C j) 0 36 w])++([dI .i64 b]++B)=A++iH C w j ⟨k,c,b⟩++B:=by unfold iH aW;simp only[c0]
theorem row_b {A B:List D}{C:Nat→Nat}{w j:Nat}(k:Nu)(c:List Nu)(b:Int):A++(aW k (C j) w++[dI .i64 b])++B=A++iH C w j ⟨k,c,b⟩++B:=by unfold iH;simp only[c0]
def lns(kd R at' i:Nat):List D:=.pt kd 1::((List.range i).filter fun j=>decide (j≠at')).map fun j=>.pt R (j*38)
theorem NL(kd R at' i:Nat):lns kd R at' i=(xu at' i).map fun o=>.pt (klO kd R o) (olO o):=by
 unfold lns xu
 rw[j4,pZ]
 rfl
theorem HH {kd R at' i:Nat}(h:i=at'):lns kd R at' (i+1)=lns kd R at' i:=by
 unfold lns
 rw[wz,MB,MC (by simp[h]),List.filter_nil,sL]
theorem HG {kd R at' i:Nat}(h:i≠at'):lns kd R at' (i+1)=lns kd R at' i++[.pt R (i*38)]:=by
 unfold lns
 rw[wz,MB,Ip (by simp[h]),List.filter_nil,jz]
 rfl
theorem LD {kd R at':Nat}:∀i,(lns kd R at' i).length≤i+1
 |0=>by simp[lns]
 |i+1=>by
  have:=LD (kd:=kd) (R:=R) (at':=at') i
  by_cases h:i=at'
  ·rw[HH h];omega
  ·rw[HG h,cu];simp;omega
theorem NM {kd R at' M:Nat}(hk:kd<M)(hR:R<M):∀i,(lns kd R at' i).all (D.idsC M)=true
 |0=>by simp[lns,D.idsC,hk]
 |i+1=>by
  have:=NM (at':=at') hk hR i
  by_cases h:i=at'
  ·rw[HH h];exact this
  ·rw[HG h,lO,this];simp[D.idsC,hR]
section
variable {vs:List (Nat×List D)} {lv:List (Nat×Nat×Nat×TypeId)} {N kd R G w:Nat} {C:Nat→Nat} {d:Dic} {at' s:Nat}
theorem HW {r0:Row}(hD:DAt vs kd R G C w d)(hf:Dif d.rows.length kd R G C)(hr0:d.rows[at']? =some r0)(hs:s<w)(N9:0≤r0.b∧r0.b<w)(hw:w≤1000000)(hm:d.rows.length≤1000000)(js:0≤d.piv∧d.piv≤9223372036854775807)(c5:0≤d.most∧d.most≤9223372036854775807):
  HC prog 104 [.pt kd 0,dI .i64 at',dI .i64 s] ⟨vs,lv,N⟩ (dI .i64 (dH d at' s).1) ⟨ov kd R G C w (dH d at' s).2 vs,lv,N⟩:=by
 refine HC.of (rs:=[.tmp 6]) tok func104 rfl rfl (bc rfl) rfl (fun cx hx h0 hok=>?_)
 simp only[fj,Nat.reduceAdd,bp]
 have hat:=(fy.1 hr0).1
 have fk:d.rows≠[]:=fun e=>by rw[e] at hat;simp at hat
 have hRv:=hD.hR fk
 have FR:=hok.lt hD.hd
 have CL:=hok.lt hRv
 have SV:=hok.lt hD.hG
 obtain⟨A,B,hA,Cp,heq,_,_⟩:=mq C w d.rows at' hr0
 rw[heq] at hRv
 have hlin:=zB (B:=B) (C:=C) (w:=w) hA r0
 have hbas:=Nx (B:=B) (C:=C) (w:=w) hA r0
 obtain⟨bN,hbN⟩:∃bN:Nat,r0.b=(bN:Int):=⟨r0.b.toNat,by omega⟩
 have hbw:bN<w:=by omega
 have hcv:=hD.hC at' r0 hr0
 have hcN:=hok.lt hcv
 have t4:=hD.lC at' r0 hr0
 obtain⟨hC1,hC2,hC3⟩:=hf.C1 at' hat
 refine rs hx fun K hK=>?_
 refine sa ?_
 refine nl hK ?_
 refine AW.seq (rsd [] hx fun K hK=>?_)
 iterate 3 refine sa ?_
 refine s1 (ka og hD.hd FR tbI) ?_
 iterate 3 refine sa ?_
 refine s1 (ka Tk hD.hd FR tbI) ?_
 refine sa ?_
 refine nl hK ?_
 have hCj:∀j,j<d.rows.length→C j<N:=fun j hj=>hok.lt (hD.hC j _ (cz hj))
 refine AW.condS rfl (fun hb=>?_) (fun hb=>?_)
 ·have hpm:d.most≤d.piv:=bA hb
  have hpp:dH d at' s=(220,d):=by unfold dH;rw[ai hpm]
  rw[hpp]
  refine rs hx fun K hK=>?_
  refine sa ?_
  refine nl hK ?_
  exact AW.ret (RH h0 hok (ay _) hD hf FR CL SV hCj (fun k ds _ _ _ _ h=>h) (fun e=>absurd e fk) rfl)
 have hpm:d.piv<d.most:=by have:=de hb;omega
 refine AW.skip (rs hx fun K hK=>?_)
 iterate 3 refine sa ?_
 refine s1 (ka og hD.hd FR tbI) ?_
 iterate 3 refine sa ?_
 obtain⟨d1,CJ⟩:∃d1:Dic,d1=⟨d.rows,d.gk,d.gc,d.n,d.piv+1,d.most⟩:=⟨_,rfl⟩
 have Sx:d1.rows=d.rows:=by rw[CJ]
 have hdic1:[eU R d.rows]++aW d.gk G w++([dI .i64 d.n]++[dI .i64 (i64.wrap (d.piv+1))]++[dI .i64 d.most])=mQ R G w d1:=by
  rw[eQ (show -9223372036854775808≤d.piv+1 by omega) (by omega),CJ];rfl
 refine s0 (G1 (ys:=[dI .i64 (i64.wrap (d.piv+1))]) og hD.hd rfl tbI rfl rfl hdic1) ?_
 refine nl hK ?_
 refine rs hx fun K hK=>?_
 iterate 3 refine sa ?_
 refine s1 (ka (gi (d:=d1)) aa FR tbI) ?_
 rw[Sx,pM fk]
 refine sa ?_
 refine stG (d:=.pt R (at'*38)) tok (iaR hat) ?_
 refine sa ?_
 refine nl hK ?_
 have FP:∀p:Nu,ci ⟨(N,dC (au.f p))::(kd,mQ R G w d1)::vs,lv,N+1⟩:=fun p=>(hok.cons (ay _) FR (rB CL SV)).cons (jo _) (eo _) (ep _)
 refine sj [(0,.pt kd 0),(1,dI .i64 at'),(2,dI .i64 s),(7,.pt R (at'*38)),(8,.pt N 0),(9,dI .i64 r0.b)] ⟨(N,dC (au.f r0.c[s]!))::(kd,mQ R G w d1)::vs,lv,N+1⟩ ?_ ?_
 ·have fin:∀tm:List (Nat×D),tm.lookup 0=some (.pt kd 0)→tm.lookup 1=some (dI .i64 at')→tm.lookup 2=some (dI .i64 s)→tm.lookup 7=some (.pt R (at'*38))→tm.lookup 8=some (.pt N 0)→tm.lookup 9=some (dI .i64 r0.b)→Wk cx tm ⟨(N,dC (au.f r0.c[s]!))::(N,dC zN)::(kd,mQ R G w d1)::vs,lv,N+1⟩ [(0,.pt kd 0),(1,dI .i64 at'),(2,dI .i64 s),(7,.pt R (at'*38)),(8,.pt N 0),(9,dI .i64 r0.b)] ⟨(N,dC (au.f r0.c[s]!))::(kd,mQ R G w d1)::vs,lv,N+1⟩:=fun tm a b c e f g=>
   wkS (by rw[h0];exact jo N) (ay _) (FP _) (fun j ds h=>by rw[wj];exact h) ((((((bE.nil.cons g).cons f (aA (eo N))).cons e (aA (show R<N+1 by omega))).cons c).cons b).cons a (aA (show kd<N+1 by omega)))
  refine dw (DW.split 11 13 (by decide) ?_ ?_)
  ·refine dwg [] [0,1,2,3,4,5,6,7,8,9,10,11,12,13,14] hx (by kernel_rfl) (by kernel_rfl) (by kernel_rfl) fun K hK=>?_
   dsimp only[d8,mE,mP,List.map]
   iterate 4 refine sa ?_
   refine s1 (ka hlin.pc (ak hf.dR.symm hRv) CL tbI) ?_
   refine sa ?_
   refine s1 (iaN hs) ?_
   refine s1 (ldN (Pt.el r0.c s (by omega)) (ak hC1 hcv) hcN) ?_
   iterate 3 refine sa ?_
   refine s1 (ka hbas (ak hf.dR.symm hRv) CL tbI) ?_
   refine s1 KR ?_
   refine s0 (stZ aa) ?_
   refine sa ?_
   exact .nil (hK _ _ ⟨rfl,fin _ rfl rfl rfl rfl rfl rfl⟩)
  ·refine dwg [] [0,1,2,3,4,5,6,7,8,9,10,12,13,11,14] hx (by kernel_rfl) (by kernel_rfl) (by kernel_rfl) fun K hK=>?_
   dsimp only[d8,mE,mP,List.map]
   iterate 4 refine sa ?_
   refine s1 (ka hlin.pc (ak hf.dR.symm hRv) CL tbI) ?_
   refine sa ?_
   refine s1 (iaN hs) ?_
   refine s1 (ldN (Pt.el r0.c s (by omega)) (ak hC1 hcv) hcN) ?_
   iterate 3 refine sa ?_
   refine s1 KR ?_
   refine s0 (stZ aa) ?_
   refine s1 (ka hbas (ak (show R≠N by omega) (ak (show R≠N by omega) (ak hf.dR.symm hRv))) (show R<N+1 by omega) tbI) ?_
   refine sa ?_
   exact .nil (hK _ _ ⟨rfl,fin _ rfl rfl rfl rfl rfl rfl⟩)
 refine rs hx fun K hK=>?_
 refine s1 (ES (ks:=[N])) ?_
 refine sa ?_
 refine nl hK ?_
 -- rY constant of rY row
 obtain⟨p,hp⟩:∃p,p=r0.c[s]! :=⟨_,rfl⟩
 rw[←hp]
 refine rs hx fun K hK=>?_
 iterate 5 refine sa ?_
 have ht:=SM (vs:=(N,dC (au.f p))::(kd,mQ R G w d1)::vs) (lv:=lv) (N:=N+1) (ak (show R≠N by omega) (ak hf.dR.symm hRv)) (show R<N+1 by omega) hlin.pk aa (eo N)
 rw[row_k _ r0.c] at ht
 refine q1 (sHF ht rfl) ?_
 refine nl hK ?_
 obtain⟨k1,Ss⟩:∃k1,k1=nV (eR r0.k) p:=⟨_,rfl⟩
 rw[←Ss]
 -- its coefficients
 have J1:R<N+1:=by omega
 have hkN1:kd<N+1:=by omega
 have hcN1:C at'<N+1:=by omega
 have R5:∀(r:Row),(A++iH C w at' r++B).all (D.idsC (N+1))=true:=fun r=>by
  rw[←Cp r]
  refine wZ 0 _ fun j hj=>?_
  rw[cU] at hj
  rw[bp]
  have:=hok.lt (hD.hC j _ (cz hj))
  omega
 have hokB:∀(r:Row),ci ⟨(C at',dC ((cW au).f r.c))::(R,A++iH C w at' r++B)::(N,dC (au.f p))::(kd,mQ R G w d1)::vs,lv,N+1⟩:=fun r=>
  (ci.cons (N:=N+1) ((FP p).cons (ay _) J1 (R5 r)) (ay _) hcN1 (ep _))
 have hTm:∀(t:Nat) (tm:List (Nat×D)),tm.lookup 0=some (.pt kd 0)→tm.lookup 1=some (dI .i64 at')→tm.lookup 2=some (dI .i64 s)→tm.lookup 7=some (.pt R (at'*38))→tm.lookup 8=some (.pt N 0)→tm.lookup 9=some (dI .i64 r0.b)→tm.lookup 10=some (.fn 152 [N])→tm.lookup 64=some (dI .i64 w)→tm.lookup 65=some (dI .i64 t)→
   bE (N+1) tm [(0,.pt kd 0),(1,dI .i64 at'),(2,dI .i64 s),(7,.pt R (at'*38)),(8,.pt N 0),(9,dI .i64 r0.b),(10,.fn 152 [N]),(64,dI .i64 w),(65,dI .i64 t)]:=fun t tm a b c e f g h i j=>
  (((((((((bE.nil.cons j).cons i).cons h (a7.2 fun k hk=>aA (by rw[qk.1 hk];omega))).cons g).cons f (aA (eo N))).cons e (aA J1)).cons c).cons b).cons a (aA hkN1))
 refine AW.seq (rs hx fun K hK=>?_)
 iterate 4 refine sa ?_
 refine s1 (ka (zB hA ⟨k1,r0.c,r0.b⟩).pc aa J1 tbI) ?_
 iterate 2 refine sa ?_
 refine nl hK ?_
 refine AW.block ?_
 refine AW.loopW (fun t:Nat=>[(0,.pt kd 0),(1,dI .i64 at'),(2,dI .i64 s),(7,.pt R (at'*38)),(8,.pt N 0),(9,dI .i64 r0.b),(10,.fn 152 [N]),(64,dI .i64 w),(65,dI .i64 t)])
  (fun t=>⟨(C at',dC ((cW au).f (si p t r0.c)))::(R,A++iH C w at' ⟨k1,r0.c,r0.b⟩++B)::(N,dC (au.f p))::(kd,mQ R G w d1)::vs,lv,N+1⟩) (fun t=>t≤w) (fun t=>w - t) 0 ?_ (cl _) ?_
 ·refine wkS (by rw[h0];exact jo N) (ay _) ((ci.cons (N:=N+1) ((FP p).cons (ay _) J1 (R5 ⟨k1,r0.c,r0.b⟩)) (ay _) hcN1 (ep _))) (fun j ds h=>?_) (hTm 0 _ rfl rfl rfl rfl rfl rfl rfl rfl rfl)
  rcases bY h with⟨rfl,rfl⟩|⟨_,h⟩
  ·exact ak hC2 (ak (show C at'≠N by omega) (ak hC1 hcv))
  ·exact h
 ·intro t ht
  have LY:(si p t r0.c).length=w:=by rw[AD,t4]
  refine rs hx fun K hK=>?_
  refine sa ?_
  refine nl hK ?_
  refine AW.seq (AW.condS rfl (fun hb=>?_) (fun hb=>?_))
  ·have htn:t<w:=by have:=bA hb;omega
   refine AW.skip (AW.seq (AW.block (rs hx fun K hK=>?_)))
   iterate 2 refine sa ?_
   refine nl hK ?_
   refine rq hx fun K hK=>?_
   iterate 5 refine sa ?_
   refine s1 (ka (zB hA ⟨k1,r0.c,r0.b⟩).pc (ak hC2.symm aa) J1 tbI) ?_
   refine sa ?_
   refine s1 (iaN htn) ?_
   refine q1 (sHF (SM aa hcN1 (Pt.el (si p t r0.c) t (by omega)) (ak (show N≠C at' by omega) (ak (show N≠R by omega) aa)) (eo N)) rfl) ?_
   refine nl hK ?_
   refine rq hx fun K hK=>?_
   iterate 2 refine sa ?_
   refine nl hK ?_
   rw[bS]
   refine⟨t+1,wkS (by rw[h0];exact jo N) (ay _) ?_ (fun j ds h=>?_) (hTm (t+1) _ rfl rfl rfl rfl rfl rfl rfl rfl rfl),htn,by omega⟩
   ·exact (ci.cons (N:=N+1) ((FP p).cons (ay _) J1 (R5 ⟨k1,r0.c,r0.b⟩)) (ay _) hcN1 (ep _))
   ·rw[Pt.el_set _ _ (by omega),wj]
    exact h
  ·refine AW.exit ?_
   have htn:t=w:=by have:=de hb;omega
   subst htn
   obtain⟨c1,N7⟩:∃c1,c1=si p t r0.c:=⟨_,rfl⟩
   rw[←N7] at LY ⊢
   -- rY row's own places
   refine rsd [28,153] hx fun K hK=>?_
   iterate 4 refine sa ?_
   refine s1 (ka (zB hA ⟨k1,r0.c,r0.b⟩).pc (ak hC2.symm aa) J1 tbI) ?_
   iterate 5 refine sa ?_
   refine s1 (ka (zB hA ⟨k1,r0.c,r0.b⟩).pc (ak hC2.symm aa) J1 tbI) ?_
   iterate 2 refine sa ?_
   refine cq (FB 0 (by omega)) ?_
   refine cq (FB 1 (by omega)) ?_
   refine s1 (ldN (Pt.idN p) (ak (show N≠C at' by omega) (ak (show N≠R by omega) aa)) (eo N)) ?_
   refine cq (QH _ p) ?_
   refine sa ?_
   refine s1 (iaN hs) ?_
   refine s0 (stN (Pt.el c1 s (by omega)) aa (Pt.el_set c1 s (by omega) _)) ?_
   refine s1 (iaN (i:=bN) hbw rfl (congrArg (dI .i64) hbN)) ?_
   refine s0 (stN (Pt.el (c1.set s (nOf 0)) bN (by rw[cU];omega)) aa (Pt.el_set (c1.set s (nOf 0)) bN (by rw[cU];omega) _)) ?_
   iterate 2 refine sa ?_
   refine s0 (G1 (ys:=[dI .i64 s]) (Nx hA ⟨k1,r0.c,r0.b⟩) (ak hC2.symm (ak hC2.symm (ak hC2.symm aa))) rfl tbI rfl rfl (row_b k1 (((c1.set s (nOf 0)).set bN (nV (nOf 1) p))) s)) ?_
   refine nl hK ?_
   -- rY dictionary with rY row
   obtain⟨r1,IW⟩:∃r1:Row,r1=⟨k1,(c1.set s (nOf 0)).set bN (nV (nOf 1) p),s⟩:=⟨_,rfl⟩
   obtain⟨d2,xQ⟩:∃d2:Dic,d2=⟨d.rows.set at' r1,d.gk,d.gc,d.n,d.piv+1,d.most⟩:=⟨_,rfl⟩
   have hr1c:r1.c.length=t:=by rw[IW];show (List.set _ _ _).length=t;rw[cU,cU];exact LY
   have hrowN:(fP C t 0 (d.rows.set at' r1)).all (D.idsC N)=true:=wZ 0 _ fun j hj=>by
    rw[cU] at hj
    rw[bp];exact hCj j hj
   obtain⟨Qg,Pp⟩:∃v,v=(C at',dC ((cW au).f r1.c))::(R,fP C t 0 (d.rows.set at' r1))::(kd,mQ R G t d1)::vs:=⟨_,rfl⟩
   have zU:ci ⟨Qg,lv,N⟩:=by
    rw[Pp]
    exact ((hok.cons (ay _) FR (rB CL SV)).cons (ay _) CL hrowN).cons (ay _) hcN (ep _)
   have hfr1:∀k ds,k≠kd→k≠R→k≠C at'→vs.lookup k=some ds→Qg.lookup k=some ds:=fun k ds h1 h2 h3 h=>by
    rw[Pp];exact ak h3 (ak h2 (ak h1 h))
   have hD2:DAt Qg kd R G C t d2:=by
    have hDa:DAt ((kd,mQ R G t d1)::vs) kd R G C t d1:=hD.setDic hf d1 Sx (by rw[CJ];exact hD.lG) aa (ak hf.dG.symm (by rw[CJ];exact hD.hG)) fun k ds h1 _ h=>ak h1 h
    have:=hDa.setRow (vs2:=Qg) (by rw[Sx];exact hf) (by rw[Sx];exact hat) r1 hr1c (by rw[Pp,Sx];exact ak hC2.symm aa) (by rw[Pp];exact aa) fun k ds h1 h2 h=>by rw[Pp];exact ak h2 (ak h1 h)
    rw[xQ]
    rw[CJ] at this
    exact this
   have Fg:d2.rows.length=d.rows.length:=by rw[xQ];exact cU ..
   have Cs:Dif d2.rows.length kd R G C:=by rw[Fg];exact hf
   have Pv:d2.rows≠[]:=fun e=>by rw[e] at Fg;simp at Fg;omega
   have Qj:d2.rows[at']? =some r1:=by rw[xQ];exact KF hat
   refine AW.weak (wkS (tm':=[(0,.pt kd 0),(1,dI .i64 at'),(2,dI .i64 s),(7,.pt R (at'*38))]) (by rw[h0];exact ay N) (jo N) zU (fun j ds h=>?_) (bE.cons (t:=0) (d:=.pt kd 0) (bE.cons (t:=1) (d:=dI .i64 at') (bE.cons (t:=2) (d:=dI .i64 s) (bE.cons (t:=7) (d:=.pt R (at'*38)) bE.nil rfl (aA CL)))) rfl (aA FR))) ?_
   ·have hj:=zU.lt h
    rw[Pp] at h
    rcases bY h with⟨rfl,rfl⟩|⟨NV,h⟩
    ·refine ak hC2 ?_
     rw[IW];exact aa
    rcases bY h with⟨rfl,rfl⟩|⟨BS,h⟩
    ·rw[Cp,IW];exact aa
    exact ak BS (ak NV (ak NV (ak NV (ak BS (ak (show j≠N by omega) h)))))
   obtain⟨A2,B2,_,_,_,hlin2,_⟩:=mq C t d2.rows at' Qj
   refine rs hx fun K hK=>?_
   iterate 3 refine sa ?_
   refine s1 (Ch hlin2.pa (hD2.hR Pv) CL zt (bR _ _ _)) ?_
   refine q1 (sHC (Ma (hD2.hC at' r1 Qj) hr1c hw) rfl (.inr (Fr.refl _))) ?_
   refine sa ?_
   refine nl hK ?_
   refine rs hx fun K hK=>?_
   iterate 3 refine sa ?_
   refine q1 (litR tok AF yn rfl rfl) ?_
   refine sa ?_
   refine nl hK ?_
   -- rY lines
   obtain⟨ok0,hok0⟩:∃b,b=fS r1.k r1.c:=⟨_,rfl⟩
   rw[←hok0]
   obtain⟨m,Sq⟩:∃m,m=d2.rows.length:=⟨_,rfl⟩
   have hmm:m=d.rows.length:=Sq.trans Fg
   have HT:∀i id nx,N≤nx→id<nx→ci ⟨(id,lns kd R at' i)::Qg,lv,nx⟩:=fun i id nx h1 h2=>zU.cons h1 h2 (NM (by omega) (by omega) i)
   have hTmL:∀(i id n nx:Nat) (tm:List (Nat×D)),N≤nx→id<nx→tm.lookup 0=some (.pt kd 0)→tm.lookup 1=some (dI .i64 at')→tm.lookup 2=some (dI .i64 s)→tm.lookup 7=some (.pt R (at'*38))→tm.lookup 12=some (dB ok0)→tm.lookup 13=some (.gw id 1 n)→tm.lookup 113=some (dI .i64 m)→tm.lookup 114=some (dI .i64 i)→
     bE nx tm [(0,.pt kd 0),(1,dI .i64 at'),(2,dI .i64 s),(7,.pt R (at'*38)),(12,dB ok0),(13,.gw id 1 n),(113,dI .i64 m),(114,dI .i64 i)]:=fun i id n nx tm h1 h2 a b c e f g h j=>
    ((((((((bE.nil.cons j).cons h).cons g (aA h2)).cons f).cons e (aA (show R<nx by omega))).cons c).cons b).cons a (aA (show kd<nx by omega)))
   refine AW.seq (rs hx fun K hK=>?_)
   iterate 3 refine sa ?_
   refine s1 (ka (gi (d:=d2)) (ak (show kd≠N by omega) hD2.hd) hkN1 tbI) ?_
   rw[pM Pv]
   refine stG (d:=dI .i64 d2.rows.length) tok (BD BH tp) ?_
   refine sa ?_
   refine nl hK ?_
   rw[←Sq]
   refine AW.block ?_
   refine AW.loopW (fun st:Nat×Nat×Nat=>[(0,.pt kd 0),(1,dI .i64 at'),(2,dI .i64 s),(7,.pt R (at'*38)),(12,dB ok0),(13,.gw st.2.1 1 (lns kd R at' st.1).length),(113,dI .i64 m),(114,dI .i64 st.1)])
    (fun st=>⟨(st.2.1,lns kd R at' st.1)::Qg,lv,st.2.2⟩) (fun st=>st.1≤m∧N≤st.2.1∧st.2.1<st.2.2) (fun st=>m - st.1) (0,N,N+1) ?_ ⟨cl _,ay _,eo _⟩ ?_
   ·exact wkS (by rw[h0];exact jo N) (ay _) (HT 0 N (N+1) (jo _) (eo _)) (fun j ds h=>h) (hTmL 0 N 1 (N+1) _ (jo _) (eo _) rfl rfl rfl rfl rfl rfl rfl rfl)
   ·rintro⟨i,id,nx⟩ ⟨hi,hid,qN⟩
    dsimp only at hi hid qN ⊢
    refine rs hx fun K hK=>?_
    refine sa ?_
    refine nl hK ?_
    refine AW.seq (AW.condS rfl (fun hb=>?_) (fun hb=>?_))
    ·have FT:i<m:=by have:=bA hb;omega
     refine AW.skip (AW.seq (AW.block (rs hx fun K hK=>?_)))
     iterate 2 refine sa ?_
     refine nl hK ?_
     refine rs hx fun K hK=>?_
     iterate 3 refine sa ?_
     refine nl hK ?_
     refine AW.condS rfl (fun hb=>?_) (fun hb=>?_)
     ·have qO:i≠at':=by have:=bA hb;omega
      refine rq hx fun K hK=>?_
      iterate 4 refine sa ?_
      refine s1 (ka (gi (d:=d2)) (ak (show kd≠id by omega) hD2.hd) (show kd<nx by omega) tbI) ?_
      rw[pM Pv]
      refine sa ?_
      refine stG (d:=.pt R (i*38)) tok (iaR (i:=i) (n:=d2.rows.length) (by omega)) ?_
      refine sa ?_
      refine q1 (litR tok AF yn rfl rfl) ?_
      refine q1 (appR tok (k:=id) (ky:=nx) (ds:=lns kd R at' i) AF yn (ak (show id≠nx by omega) aa) aa rfl rfl (xZ _).symm rfl (by have:=LD (kd:=kd) (R:=R) (at':=at') i;show (_+1)*8≤_;omega)) ?_
      refine sa ?_
      refine nl hK ?_
      refine rq hx fun K hK=>?_
      iterate 2 refine sa ?_
      refine nl hK ?_
      rw[bS]
      have hlen:(lns kd R at' (i+1)).length=(lns kd R at' i).length+1:=by rw[HG qO,cu];rfl
      refine⟨(i+1,nx+1,nx+1+1),wkS (by rw[h0];show N≤nx+1+1;omega) (ay _) (HT (i+1) (nx+1) (nx+1+1) (by omega) (by omega)) (fun j ds h=>?_) (by
       dsimp only
       rw[hlen]
       exact hTmL (i+1) (nx+1) _ (nx+1+1) _ (by omega) (by omega) rfl rfl rfl rfl rfl rfl rfl rfl),⟨FT,by show N≤nx+1;omega,eo _⟩,by show m - (i+1)<m - i;omega⟩
      rcases bY h with⟨rfl,rfl⟩|⟨hj,h⟩
      ·rw[HG qO];exact aa
      ·have hjN:=zU.lt h
       exact ak hj (w6 (by simp;omega) (ak (show j≠nx by omega) (ak (show j≠id by omega) h)))
     ·have qO:i=at':=by have:=de hb;simp at this;omega
      refine AW.skip (rq hx fun K hK=>?_)
      iterate 2 refine sa ?_
      refine nl hK ?_
      rw[bS]
      refine⟨(i+1,id,nx),wkS (by rw[h0];show N≤nx;omega) (ay _) (HT (i+1) id nx (by omega) qN) (fun j ds h=>?_) (by
       dsimp only
       rw[HH qO]
       exact hTmL (i+1) id _ nx _ (by omega) qN rfl rfl rfl rfl rfl rfl rfl rfl),⟨FT,hid,qN⟩,by show m - (i+1)<m - i;omega⟩
      dsimp only at h
      rw[HH qO] at h
      exact h
    ·refine AW.exit ?_
     have pC:i=m:=by have:=de hb;omega
     subst pC
     -- rY lines,one by one
     have hiat:at'<i:=by omega
     obtain⟨P,hP⟩:∃P:Nat→Dic×Bool,P=pO r1 s at' i (d2,ok0):=⟨_,rfl⟩
     have hP0:P 0=(d2,ok0):=by rw[hP];rfl
     have hPs:∀u o,(xu at' i)[u]? =some o→P (u+1)=we r1 s (P u) o:=fun u o h=>by rw[hP];exact pO_succ h
     have hLl:(lns kd R at' i).length=(xu at' i).length:=by rw[NL,bh]
     have hLle:=LD (kd:=kd) (R:=R) (at':=at') i
     refine AW.seq (rs hx fun K hK=>?_)
     refine sa ?_
     refine stG (d:=dI .i64 (lns kd R at' i).length) tok (BD AF yn) ?_
     refine sa ?_
     refine nl hK ?_
     refine AW.block ?_
     refine AW.loopW (fun st:Nat×List (Nat×List D)=>[(2,dI .i64 s),(7,.pt R (at'*38)),(12,dB (P st.1).2),(131,.gw id 1 (lns kd R at' i).length),(132,dI .i64 (lns kd R at' i).length),(133,dI .i64 st.1)])
      (fun st=>⟨st.2,lv,nx⟩)
      (fun st=>st.1≤(lns kd R at' i).length∧DAt st.2 kd R G C t (P st.1).1∧ci ⟨st.2,lv,nx⟩∧st.2.lookup id=some (lns kd R at' i)∧(P st.1).1.rows.length=i∧(P st.1).1.rows[at']? =some r1∧
       ∀k ds,k≠kd→k≠R→k≠G→(∀j,j<i→k≠C j)→Qg.lookup k=some ds→st.2.lookup k=some ds)
      (fun st=>(lns kd R at' i).length - st.1) (0,(id,lns kd R at' i)::Qg) ?_ ?_ ?_
     ·refine wkS (by rw[h0];show N≤nx;omega) (ay _) (HT i id nx (by omega) qN) (fun j ds h=>h) ?_
      dsimp only
      rw[hP0]
      exact bE.cons (t:=2) (d:=dI .i64 s) (bE.cons (t:=7) (d:=.pt R (at'*38)) (bE.cons (t:=12) (d:=dB ok0) (bE.cons (t:=131) (d:=.gw id 1 (lns kd R at' i).length) (bE.cons (t:=132) (d:=dI .i64 (lns kd R at' i).length) (bE.cons (t:=133) (d:=dI .i64 (0:Nat)) bE.nil rfl rfl) rfl rfl) rfl (aA qN)) rfl rfl) rfl (aA (show R<nx by omega))) rfl rfl
     ·dsimp only
      rw[hP0]
      refine⟨cl _,hD2.look fun k ds hk h=>ak ?_ h,HT i id nx (by omega) qN,aa,by rw[hmm];exact Fg,Qj,fun k ds _ _ _ _ h=>ak (by have:=zU.lt h;omega) h⟩
      have:=zU.lt h
      omega
     ·rintro⟨u,v⟩ ⟨hu,hDu,Sg,hvid,GE,hru,hfru⟩
      dsimp only at hu hDu Sg hvid GE hru hfru ⊢
      obtain⟨du,hdu⟩:∃x,x=(P u).1:=⟨_,rfl⟩
      obtain⟨oku,Sf⟩:∃x,x=(P u).2:=⟨_,rfl⟩
      rw[←hdu] at hDu GE hru
      rw[←Sf]
      have hfu:Dif du.rows.length kd R G C:=by rw[GE,hmm];exact hf
      refine rs hx fun K hK=>?_
      refine sa ?_
      refine nl hK ?_
      refine AW.seq (AW.condS rfl (fun hb=>?_) (fun hb=>?_))
      ·have LQ:u<(lns kd R at' i).length:=by have:=bA hb;omega
       obtain⟨o,ho⟩:∃o,(xu at' i)[u]? =some o:=⟨_,cz (by omega)⟩
       obtain⟨hoa,hoi⟩:=Rr (dZ ho)
       have BX:(lns kd R at' i)[u]? =some (.pt (klO kd R o) (olO o)):=by rw[NL,dQ,ho];rfl
       obtain⟨F,A3,B3,hF,hLi,hcO,hlO,JT,Cr⟩:=lineO hDu hfu o (fun j hj=>by rw[GE];exact hoi j hj)
       have hklN:=Sg.lt hF
       have hkcN:=Sg.lt hcO
       refine AW.skip (AW.seq (AW.block (rs hx fun K hK=>?_)))
       refine stG (d:=.pt id u) tok (iaP LQ) ?_
       refine s1 (ka (Pt.cell BX) hvid qN yn) ?_
       refine sa ?_
       refine nl hK ?_
       refine rs hx fun K hK=>?_
       iterate 3 refine sa ?_
       refine s1 (ka hLi.pc hF hklN tbI) ?_
       refine sa ?_
       refine s1 (iaN hs) ?_
       refine s1 (ldN (Pt.el (lcO du o) s (by omega)) hcO hkcN) ?_
       refine s1 KR ?_
       refine s0 (stZ aa) ?_
       refine nl hK ?_
       obtain⟨q,hq⟩:∃q,q=(lcO du o)[s]! :=⟨_,rfl⟩
       rw[←hq]
       refine rsd [28] hx fun K hK=>?_
       iterate 3 refine sa ?_
       refine s1 (ka hLi.pc (ak (show _≠nx by omega) (ak (show _≠nx by omega) hF)) (show klO kd R o<nx+1 by omega) tbI) ?_
       refine sa ?_
       refine cq (FB 0 (by omega)) ?_
       refine s1 (iaN hs) ?_
       refine s0 (stN (Pt.el (lcO du o) s (by omega)) (ak (show _≠nx by omega) (ak (show _≠nx by omega) hcO)) (Pt.el_set (lcO du o) s (by omega) _)) ?_
       refine nl hK ?_
       have hneu:du.rows≠[]:=fun e=>by rw[e] at hru;simp at hru
       obtain⟨A4,B4,_,_,_,hlinr,_⟩:=mq C t du.rows at' hru
       have hidk:klO kd R o<N∧kcO G C o<N∧R≠kcO G C o∧C at'≠kcO G C o∧C at'≠klO kd R o:=by
        cases o with
        |none=>exact⟨FR,SV,hf.RG,hC3,hC1⟩
        |some j=>
         have hj:=hoi j rfl
         have St:j<d.rows.length:=by omega
         exact⟨CL,hCj j St,(hf.C1 j St).2.1.symm,fun e=>hoa (by rw[hf.C2 at' j hat St e]),hC2⟩
       obtain⟨hk1N,hk2N,hRkc,hakc,hakl⟩:=hidk
       refine rsd [] hx fun K hK=>?_
       refine sa ?_
       refine s1 (ldN (Pt.idN q) (ak (show nx≠kcO G C o by omega) aa) (eo nx)) ?_
       iterate 3 refine sa ?_
       refine s1 (Ch hlinr.pa (ak hRkc (ak (show R≠nx by omega) (ak (show R≠nx by omega) (hDu.hR hneu)))) (show R<nx+1 by omega) zt (bR _ _ _)) ?_
       refine sa ?_
       refine q1 (sHC (h_add (vs:=(kcO G C o,dC ((cW au).f ((lcO du o).set s (nOf 0))))::(nx,dC (au.f q))::(nx,dC zN)::v) (lv:=lv) (N:=nx+1) (kx:=C at') (xc:=r1.c) (but:=(s:Int)) (ak JT (ak (show klO kd R o≠nx by omega) (ak (show klO kd R o≠nx by omega) hF))) hLi aa (by rw[cU];exact hlO)
        (ak hakc (ak (show C at'≠nx by omega) (ak (show C at'≠nx by omega) (hDu.hC at' r1 hru)))) hr1c JT hakc hakl hw) rfl (.inl (by kernel_rfl))) ?_
       refine nl hK ?_
       obtain⟨k2,yB⟩:∃x,x=wK q r1.k (lkO du o):=⟨_,rfl⟩
       obtain⟨c2,qC⟩:∃x,x=tT q r1.c s ((lcO du o).set s (nOf 0)):=⟨_,rfl⟩
       rw[←yB,←qC]
       have hc2l:c2.length=t:=by rw[qC,tS,cU];exact hlO
       have hPn:P (u+1)=(Lp du o k2 c2,oku&&fS k2 c2):=by
        rw[hPs u o ho,yB,qC,hq,hdu,Sf];rfl
       have Cq:ci ⟨(kcO G C o,dC ((cW au).f c2))::(klO kd R o,A3++aW k2 (kcO G C o) t++B3)::v,lv,nx⟩:=
        ci.cons (N:=nx) (Sg.cons (ay _) hklN (hLi.pa.ids (by rw[bR,bR]) (Sg.var _ F hF).2 (iL hkcN))) (ay _) hkcN (ep _)
       have fin:∀tm:List (Nat×D),tm.lookup 2=some (dI .i64 s)→tm.lookup 7=some (.pt R (at'*38))→tm.lookup 12=some (dB (oku&&fS k2 c2))→tm.lookup 131=some (.gw id 1 (lns kd R at' i).length)→tm.lookup 132=some (dI .i64 (lns kd R at' i).length)→tm.lookup 133=some (dI .i64 ((u+1:Nat):Int))→
         ∃st:Nat×List (Nat×List D),Wk cx tm ⟨(kcO G C o,dC ((cW au).f c2))::(klO kd R o,A3++aW k2 (kcO G C o) t++B3)::(kcO G C o,dC ((cW au).f ((lcO du o).set s (nOf 0))))::(nx,dC (au.f q))::(nx,dC zN)::v,lv,nx+1⟩
          [(2,dI .i64 s),(7,.pt R (at'*38)),(12,dB (P st.1).2),(131,.gw id 1 (lns kd R at' i).length),(132,dI .i64 (lns kd R at' i).length),(133,dI .i64 st.1)] ⟨st.2,lv,nx⟩∧
          (st.1≤(lns kd R at' i).length∧DAt st.2 kd R G C t (P st.1).1∧ci ⟨st.2,lv,nx⟩∧st.2.lookup id=some (lns kd R at' i)∧(P st.1).1.rows.length=i∧(P st.1).1.rows[at']? =some r1∧
           ∀k ds,k≠kd→k≠R→k≠G→(∀j,j<i→k≠C j)→Qg.lookup k=some ds→st.2.lookup k=some ds)∧(lns kd R at' i).length - st.1<(lns kd R at' i).length - u:=fun tm a b c e f g=>by
        refine⟨(u+1,(kcO G C o,dC ((cW au).f c2))::(klO kd R o,A3++aW k2 (kcO G C o) t++B3)::v),wkS (by rw[h0];show N≤nx;omega) (jo nx) Cq (fun j ds h=>?_) ?_,⟨by show u+1≤_;omega,?_,Cq,?_,?_,?_,fun k ds h1 h2 h3 h4 h=>?_⟩,by show (lns kd R at' i).length - (u+1)<_;omega⟩
        ·have hj:=Cq.lt h
         rcases bY h with⟨rfl,rfl⟩|⟨NV,h⟩
         ·exact aa
         rcases bY h with⟨rfl,rfl⟩|⟨BS,h⟩
         ·exact ak JT aa
         ·exact ak NV (ak BS (ak NV (ak (show j≠nx by omega) (ak (show j≠nx by omega) h))))
        ·dsimp only
         rw[hPn]
         exact (((((bE.nil.cons g).cons f).cons e (aA qN)).cons c).cons b (aA (show R<nx by omega))).cons a
        ·dsimp only
         rw[hPn]
         exact Cr _ k2 c2 hc2l (ak JT aa) aa fun k ds h1 h2 h=>ak h2 (ak h1 h)
        ·exact ak (show id≠kcO G C o by omega) (ak (show id≠klO kd R o by omega) hvid)
        ·dsimp only
         rw[hPn,Q5];exact GE
        ·dsimp only
         rw[hPn,setO_ne hoa];exact hru
        ·have hkk:k≠klO kd R o∧k≠kcO G C o:=by
          cases o with
          |none=>exact⟨h1,h3⟩
          |some j=>exact⟨h2,h4 j (hoi j rfl)⟩
         exact ak hkk.2 (ak hkk.1 (hfru k ds h1 h2 h3 h4 h))
       refine rq hx fun K hK=>?_
       iterate 2 refine sa ?_
       rcases Bool.eq_false_or_eq_true oku with LW|LW
       ·iterate 2 refine ga LW ?_
        refine g1 (d:=.ag (aW k2 (kcO G C o) t)) LW (Ch (hLi.new k2).pa (ak JT aa) (show klO kd R o<nx+1 by omega) zt (bR _ _ _)) ?_
        refine Nq rfl rfl (by rw[LW];rfl) (sHC (Ma aa hc2l hw) rfl (.inr (Fr.refl _))) ?_
        refine s1 (oG LW) ?_
        refine sa ?_
        refine nl hK ?_
        refine rq hx fun K hK=>?_
        iterate 2 refine sa ?_
        refine nl hK ?_
        rw[bS]
        exact fin _ rfl rfl (by rw[LW];rfl) rfl rfl rfl
       ·iterate 4 refine Pe rfl rfl LW ?_
        refine s1 (lP LW) ?_
        refine sa ?_
        refine nl hK ?_
        refine rq hx fun K hK=>?_
        iterate 2 refine sa ?_
        refine nl hK ?_
        rw[bS]
        exact fin _ rfl rfl (by rw[LW];rfl) rfl rfl rfl
      ·refine AW.exit ?_
       have LQ:u=(lns kd R at' i).length:=by have:=de hb;omega
       have LT:d.rows[at']! =r0:=by rw[bJ d.rows at' hat];exact (fy.1 hr0).2
       have hr1t:r1=aY r0 s:=by
        rw[IW,Ss,N7,hp]
        unfold aY
        rw[show r0.b.toNat=bN by omega,show r0.c.length=t from t4]
       have hpp:dH d at' s=(if oku then 0 else 30,du):=by
        unfold dH
        rw[ah (by omega)]
        dsimp only
        rw[LT,←hr1t,←hmm,←hok0,←xQ,←hLl,←LQ,←show P=pO r1 s at' i (d2,ok0) from hP,←hdu,←Sf]
       rw[hpp]
       have hlen':du.rows.length=d.rows.length:=by rw[GE,hmm]
       have fin2:∀(tm:List (Nat×D)) (e:Int),tm.lookup 6=some (dI .i64 e)→∃tm',Wk cx tm ⟨v,lv,nx⟩ tm' ⟨ov kd R G C t du vs,lv,N⟩∧te tbl [.tmp 6] tm' ⟨ov kd R G C t du vs,lv,N⟩ (dI .i64 e):=fun tm e h=>
        RH h0 hok (by omega) hDu hfu FR CL SV (fun j hj=>hCj j (by omega)) (fun k ds h1 h2 h3 h4 h=>hfru k ds h1 h2 h3 (fun j hj=>h4 j (by omega)) (hfr1 k ds h1 h2 (h4 at' (by omega)) h)) (fun e=>by rw[e] at hlen';simp at hlen';omega) h
       refine AW.seq (rs hx fun K hK=>?_)
       iterate 2 refine sa ?_
       refine nl hK ?_
       rcases Bool.eq_false_or_eq_true oku with LW|LW
       ·refine AW.condF rfl (by rw[LW];rfl) (AW.skip (rs hx fun K hK=>?_))
        refine sa ?_
        refine nl hK ?_
        refine AW.ret ?_
        rw[LW]
        exact fin2 _ 0 rfl
       ·refine AW.condT rfl (by rw[LW];rfl) (rs hx fun K hK=>?_)
        refine sa ?_
        refine nl hK ?_
        refine AW.ret ?_
        rw[LW]
        exact fin2 _ 30 rfl
end
end
section
structure cH(d:Dic)(w m:Nat):Prop where
 len:d.rows.length=m
 lg:d.gc.length=w
 lc:∀i,i<m→d.rows[i]!.c.length=w
 b:∀i,i<m→0≤d.rows[i]!.b∧d.rows[i]!.b<w
 p0:0≤d.piv
 p1:d.piv≤9223372036854775807
 m0:0≤d.most
 m1:d.most≤9223372036854775807
section
variable {d:Dic} {w m at' s:Nat}
theorem cH.lC(h:cH d w m):∀(i:Nat) (r:Row),d.rows[i]? =some r→r.c.length=w:=fun i r hr=>by
 have hi:=(fy.1 hr).1
 have:=h.lc i (by rw[←h.len];exact hi)
 rwa[dP hr] at this
theorem Ro(h:d.most≤d.piv):dH d at' s=(220,d):=by unfold dH;rw[ai h]
theorem cH.pivD(h:cH d w m)(hat:at'<m)(hs:s<w)(hp:d.piv<d.most):cH (f5 d at' s) w m:=by
 have hl:=h.len
 refine⟨by rw[d7];exact hl,?_,fun i hi=>?_,fun i hi=>?_,?_,?_,h.m0,h.m1⟩
 ·show (gL d.gk d.gc _ s).c.length=w
  rw[q9];exact h.lg
 ·rw[iZ (by omega)]
  split
  ·rw[qX];exact h.lc at' hat
  ·show (gL d.rows[i]!.k d.rows[i]!.c (aY d.rows[at']! s) s).c.length=w
   rw[q9];exact h.lc i hi
 ·rw[o5 (by omega)]
  split
  ·omega
  ·exact h.b i hi
 ·have:=h.p0
  show 0≤d.piv+1;omega
 ·have:=h.m1
  show d.piv+1≤_;omega
theorem cH.pivot(h:cH d w m)(hat:at'<m)(hs:s<w):cH (dH d at' s).2 w m∧(dH d at' s).2.most=d.most∧(dH d at' s).2.n=d.n∧((dH d at' s).1=0→(dH d at' s).2.piv=d.piv+1∧d.piv<d.most):=by
 by_cases hp:d.most≤d.piv
 ·rw[Ro hp]
  exact⟨h,rfl,rfl,fun e=>by cases e⟩
 ·obtain⟨h2,_,_⟩:=AQ d at' s (by rw[h.len];exact hat) hp
  rw[h2]
  exact⟨h.pivD hat hs (by omega),rfl,rfl,fun _=>⟨rfl,by omega⟩⟩
theorem cH.enter(h:cH d w m)(he:jY d.gc=some s):s<w:=by have:=(pi he).1;rw[h.lg] at this;exact this
theorem cH.leav(h:cH d w m){z:Nu}{p:Int×Nu}(hl:i8 d.rows s z d.rows.length=some p)(hp:¬p.1<0):p.1.toNat<m∧p.1=(p.1.toNat:Int):=by
 rcases o7 hl with e|⟨i,h1,h2,_⟩
 ·omega
 ·have:=h.len;omega
theorem cH.improve(h:cH d w m):∀(f:Nat),cH (gR f d).2 w m∧(gR f d).2.most=d.most∧(gR f d).2.n=d.n∧-1≤(gR f d).1.1∧(gR f d).1.1<w:=by
 intro f
 induction f generalizing d with
 |zero=>exact⟨h,rfl,rfl,yK _,by show (-1:Int)<w;omega⟩
 |succ f ih=>
  unfold gR
  cases he:jY d.gc with
  |none=>exact⟨h,rfl,rfl,yK _,by show (-1:Int)<w;omega⟩
  |some s=>
   dsimp only
   have hs:=h.enter he
   cases hl:i8 d.rows s default d.rows.length with
   |none=>exact⟨h,rfl,rfl,yK _,by show (-1:Int)<w;omega⟩
   |some p=>
    dsimp only
    by_cases hp:p.1<0
    ·rw[ai hp];exact⟨h,rfl,rfl,by show -1≤(s:Int);omega,by show (s:Int)<w;omega⟩
    ·rw[ah hp]
     obtain⟨h1,_⟩:=h.leav hl hp
     obtain⟨h2,h3,h4,_⟩:=h.pivot h1 hs
     by_cases h0:(dH d p.1.toNat s).1=0
     ·rw[ai h0]
      obtain⟨a1,a2,a3,a4⟩:=ih h2
      exact⟨a1,a2.trans h3,a3.trans h4,a4⟩
     ·rw[ah h0]
      exact⟨h2,h3,h4,yK _,by show (-1:Int)<w;omega⟩
end
end
section
section
variable {vs vsX:List (Nat×List D)} {lv:List (Nat×Nat×Nat×TypeId)} {N kd R G w m:Nat} {C:Nat→Nat} {d d':Dic}
theorem CF(hf:Dif m kd R G C)(hS:cH d' w m)(hm:0<m)(hX:∀k ds,k≠kd→k≠R→k≠G→(∀j,j<m→k≠C j)→vs.lookup k=some ds→vsX.lookup k=some ds):∀j ds,(ov kd R G C w d' vs).lookup j=some ds→(ov kd R G C w d' vsX).lookup j=some ds:=by
 have hf':Dif d'.rows.length kd R G C:=by rw[hS.len];exact hf
 refine Dj hf' (DAt.ov hf' hS.lg hS.lC) (fun k ds h1 h2 h3 h4 h=>?_) (fun e=>?_)
 ·rw[Hw h1 h2 h3 h4]
  exact hX k ds h1 h2 h3 (fun j hj=>h4 j (by rw[hS.len];exact hj)) h
 ·have:=hS.len
  rw[e] at this
  exact absurd this (by simp only[Ij];omega)
theorem cH.dif(h:cH d w m)(hf:Dif m kd R G C):Dif d.rows.length kd R G C:=by rw[h.len];exact hf
theorem cH.at(h:cH d w m)(hf:Dif m kd R G C):DAt (ov kd R G C w d vs) kd R G C w d:=DAt.ov (h.dif hf) h.lg h.lC
theorem PV {c:List Nu}{s:Nat}(h:s<c.length)(h1:0<bI c[s]!)(h2:∀t,t<s→¬0<bI c[t]!):jY c=some s:=by
 unfold jY
 rw[ox]
 refine⟨h,?_,fun t ht=>?_⟩
 ·rw[bJ c s h] at h1;exact aA h1
 ·have:=h2 t ht
  rw[bJ c t (by omega)] at this
  simpa using this
theorem Ml {c:List Nu}(h2:∀t,t<c.length→¬0<bI c[t]!):jY c=none:=by
 unfold jY
 rw[uE]
 intro x hx
 obtain⟨t,ht,rfl⟩:=wC.1 hx
 have:=h2 t ht
 rw[bJ c t ht] at this
 exact bk this
theorem DAt.up(h:DAt vs kd R G C w d)(hX:∀k ds,vs.lookup k=some ds→vsX.lookup k=some ds):DAt vsX kd R G C w d:=h.look fun k ds _=>hX k ds
theorem GG(CL:R<N)(hD:DAt vs kd R G C w d)(hf:Dif m kd R G C)(hS:cH d w m)(hw:w≤1000000)(hm:m≤1000000):
  HC prog 46 [.pt kd 0] ⟨vs,lv,N⟩ (.tu [dI .i64 (aP d).1.1,dI .i64 (aP d).1.2]) ⟨ov kd R G C w (aP d).2 vs,lv,N⟩:=by
 refine HC.of (rs:=[.tmp 2,.tmp 3]) tok func46 rfl rfl (bc rfl) rfl (fun cx hx h0 hok=>?_)
 simp only[fj,Nat.reduceAdd,bp]
 have hl:=hS.len
 have vK:=hD.hd
 have FR:=hok.lt vK
 have SV:=hok.lt hD.hG
 have hCN:∀j,j<m→C j<N:=fun j hj=>hok.lt (hD.hC j d.rows[j]! (by rw[bJ d.rows j (by omega)];exact cz _))
 have sX:∀d2,cH d2 w m→ci ⟨ov kd R G C w d2 vs,lv,N⟩:=fun d2 h2=>BN hok FR CL SV fun j hj=>hCN j (by rw[←h2.len];exact hj)
 refine rs hx fun K hK=>?_
 iterate 2 refine sa ?_
 refine nl hK ?_
 refine AW.scope (AW.seq (AW.label (AW.block (AW.loopW (fun u:Nat×Dic=>[(0,.pt kd 0)]) (fun u=>⟨ov kd R G C w u.2 vs,lv,N⟩) (fun u=>gR u.1 u.2=aP d∧cH u.2 w m∧(u.2.most - u.2.piv).toNat+1≤u.1) (fun u=>u.1) ((d.most - d.piv).toNat+1,d) ?_ ⟨rfl,hS,ay _⟩ ?_))))
 ·exact wk1 h0 (hok:=sX d hS) (hv:=Dj (hS.dif hf) hD (fun _ _ _ _ _ _ h=>h) fun _ _ h=>h)
 ·rintro⟨f,dj⟩ ⟨he,B0,hfj⟩
  dsimp only at he B0 hfj ⊢
  obtain⟨f,rfl⟩:∃f',f=f'+1:=⟨f - 1,by omega⟩
  have hDV:=B0.at hf (vs:=vs)
  have nW:=sX dj B0
  have tF:∀k ds,k≠kd→k≠R→k≠G→(∀j,j<m→k≠C j)→vs.lookup k=some ds→(ov kd R G C w dj vs).lookup k=some ds:=fun k ds h1 h2 h3 h4 h=>by rw[Hw h1 h2 h3 fun j hj=>h4 j (by rw[←B0.len];exact hj)];exact h
  generalize hV:ov kd R G C w dj vs=V at hDV nW tF ⊢
  have hdV:=hDV.hd
  have hGV:=hDV.hG
  have NZ:=hDV.lG
  refine AW.block (AW.seq (rs hx fun K hK=>?_))
  iterate 4 refine sa ?_
  refine c1 mh.pc ?_
  iterate 2 refine sa ?_
  refine nl hK ?_
  refine AW.block (AW.loopW (fun t:Nat=>[(0,.pt kd 0),(13,.ow G 0 36 w),(14,dI .i64 w),(15,dI .i64 t)]) (fun _=>⟨V,lv,N⟩) (fun t=>t≤w∧∀t',t'<t→¬0<bI dj.gc[t']!) (fun t=>w - t) 0 ?_ ⟨cl _,fun t h=>absurd h (qn _)⟩ ?_)
  ·exact wk1 h0
  ·rintro t ⟨ht,ms⟩
   refine rs hx fun K hK=>?_
   refine sa ?_
   refine nl hK ?_
   refine AW.seq (AW.condS rfl (fun hb=>?_) (fun hb=>?_))
   ·have HP:t<w:=by have:=bA hb;omega
    refine AW.skip (AW.seq (AW.block (rs hx fun K hK=>?_)))
    refine sa ?_
    refine i1 HP ?_
    refine l1 (Pt.el dj.gc t (by omega)) ?_
    refine n1 ?_
    refine sa ?_
    refine z1 ?_
    refine nl hK ?_
    refine AW.seq (rs hx fun K hK=>?_)
    refine l1 (Pt.idN _) ?_
    refine cq (yj _) ?_
    refine sa ?_
    refine nl hK ?_
    refine AW.condS rfl (fun hb=>?_) (fun hb=>?_)
    ·have hsg:bI dj.gc[t]!≤0:=bA hb
     refine AW.exit (rq hx fun K hK=>?_)
     iterate 2 refine sa ?_
     refine nl hK ?_
     rw[bS]
     refine⟨t+1,wk1 h0,⟨HP,fun t' h=>?_⟩,by omega⟩
     rcases d6 t' t with h1|h1
     ·exact ms t' h1
     ·obtain rfl:t'=t:=by omega
      omega
    have hsg:¬bI dj.gc[t]!≤0:=de hb
    have hen:jY dj.gc=some t:=PV (by omega) (by omega) ms
    unfold gR at he
    rw[hen] at he
    dsimp only at he
    refine AW.skip ?_
    have hup:∀(k:Nat) (ds:List D),V.lookup k=some ds→((N,dC (au.f dj.gc[t]!))::(N,dC zN)::V).lookup k=some ds:=fun k ds h=>by
     have hk:=nW.lt h
     exact ak (by omega) (ak (by omega) h)
    have SW:=hDV.up hup
    have Qn:=PI (lv:=lv) (N:=N+1) SW HP (by rw[B0.len];exact hm)
    cases hlp:i8 dj.rows t default dj.rows.length with
    |none=>
     rw[hlp] at Qn he
     dsimp only[LI] at Qn he
     refine rs hx fun K hK=>?_
     iterate 2 refine sa ?_
     refine q1 (sHC Qn rfl (.inl (by kernel_rfl))) ?_
     iterate 5 refine sa ?_
     refine nl hK ?_
     refine AW.seq (rs hx fun K hK=>?_)
     iterate 2 refine sa ?_
     refine nl hK ?_
     refine AW.condT rfl (by decide) (rs hx fun K hK=>?_)
     iterate 3 refine sa ?_
     refine nl hK ?_
     refine AW.ret ?_
     rw[←he,hV]
     exact rt2 h0 (hok:=nW) (hv:=hup)
    |some p=>
     rw[hlp] at Qn he
     dsimp only[LI] at Qn he
     refine rs hx fun K hK=>?_
     iterate 2 refine sa ?_
     refine q1 (sHC Qn rfl (.inl (by kernel_rfl))) ?_
     iterate 5 refine sa ?_
     refine nl hK ?_
     refine AW.seq (rs hx fun K hK=>?_)
     iterate 2 refine sa ?_
     refine nl hK ?_
     refine AW.condF rfl (by decide) (AW.skip (AW.seq (rs hx fun K hK=>?_)))
     iterate 2 refine sa ?_
     refine nl hK ?_
     refine AW.condS rfl (fun hb=>?_) (fun hb=>?_)
     ·have hp:p.1<0:=bA hb
      rw[ai hp] at he
      refine rs hx fun K hK=>?_
      iterate 3 refine sa ?_
      refine nl hK ?_
      refine AW.ret ?_
      rw[←he,hV]
      exact rt2 h0 (hok:=nW) (hv:=hup)
     have hp:¬p.1<0:=de hb
     rw[ah hp] at he
     obtain⟨ha,hpa⟩:=B0.leav hlp hp
     generalize p.1.toNat=a at ha hpa he
     have hra:dj.rows[a]? =some dj.rows[a]! :=by
      have:=B0.len
      rw[bJ dj.rows a (by omega)];exact cz _
     have Sa:=HW (lv:=lv) (N:=N+1) SW (B0.dif hf) hra HP (B0.b a ha) hw (by rw[B0.len];exact hm) ⟨B0.p0,B0.p1⟩ ⟨B0.m0,B0.m1⟩
     obtain⟨Qq,hmq,hnq,hq0⟩:=B0.pivot ha HP
     have hov:=CF (vs:=vs) (vsX:=(N,dC (au.f dj.gc[t]!))::(N,dC zN)::V) hf Qq (by omega) fun k ds h1 h2 h3 h4 h=>hup k ds (tF k ds h1 h2 h3 h4 h)
     have Ps:=sX _ Qq
     generalize dH dj a t=q at Sa Qq hmq hnq hq0 hov Ps he
     refine AW.skip (AW.seq (rs hx fun K hK=>?_))
     iterate 3 refine sa ?_
     refine q1 (sHC Sa (by show [_,dI .i64 p.1,_]=_;rw[hpa];rfl) (.inl (by kernel_rfl))) ?_
     refine sa ?_
     refine nl hK ?_
     refine rs hx fun K hK=>?_
     iterate 2 refine sa ?_
     refine nl hK ?_
     refine AW.condS rfl (fun hb=>?_) (fun hb=>?_)
     ·have hq:¬q.1=0:=bA hb
      rw[ah hq] at he
      refine rs hx fun K hK=>?_
      iterate 3 refine sa ?_
      refine nl hK ?_
      refine AW.ret ?_
      rw[←he]
      exact rt2 h0 (hok:=Ps) (hv:=hov)
     ·have hq:q.1=0:=by have:=de hb;simpa using this
      rw[ai hq] at he
      obtain⟨hq1,hq2⟩:=hq0 hq
      exact AW.skip (AW.exit (⟨(f,q.2),wk1 h0 (hok:=Ps) (hv:=hov),⟨he,Qq,by dsimp only;omega⟩,by dsimp only;omega⟩))
   ·have HP:t=w:=by have:=de hb;omega
    subst HP
    have hen:jY dj.gc=none:=Ml fun t' h=>ms t' (by omega)
    unfold gR at he
    rw[hen] at he
    dsimp only at he
    refine AW.exit (rs hx fun K hK=>?_)
    iterate 2 refine sa ?_
    refine nl hK ?_
    refine AW.ret ?_
    rw[←he,hV]
    exact rt2 h0 (hok:=nW) (hv:=fun _ _ h=>h)
end
end
def Pk(p:Nu→Bool)(l:List Nu):Int:=match l.findIdx? p with
 |some i=>i
 |none=>-1
theorem RP {p:Nu→Bool}{l:List Nu}{i:Nat}(hi:i<l.length)(h:p l[i]! =true)(ms:∀j,j<i→p l[j]! =false):Pk p l=i:=by
 have:l.findIdx? p=some i:=by
  rw[ox]
  refine⟨hi,by rw[bJ l i hi] at h;exact h,fun j hj=>?_⟩
  have:=ms j hj
  rw[bJ l j (by omega)] at this
  simp[this]
 unfold Pk;rw[this]
theorem Pj {p:Nu→Bool}{l:List Nu}(ms:∀j,j<l.length→p l[j]! =false):Pk p l=-1:=by
 have:l.findIdx? p=none:=by
  rw[uE]
  intro x hx
  obtain⟨j,hj,rfl⟩:=wC.1 hx
  have:=ms j hj
  rwa[bJ l j hj] at this
 unfold Pk;rw[this]
theorem QG {f:FuncId}{p:Nu→Bool}(hf:∀x:Nu,ar prog f [dG au x] (dB (p x))){l:List Nu}(hl:l.length≤1000000):ar prog 106 [.e (slE au l),.e (.lit (.func (.func f) #[] #[]))] (dI .i64 (Pk p l)):=by
 refine bj (rs:=[.tmp 4]) (fun cx hx h0=>?_) func106
 refine ra hx ?_
 refine AW.seq (ra hx ?_)
 refine AW.block (AW.loopW (fun i:Nat=>[(0,.e (slE au l)),(1,.e (.lit (.func (.func f) #[] #[]))),(7,dI .i64 (l.length:Nat)),(8,dI .i64 (i:Nat))]) (fun _=>⟨[],[],0⟩) (fun i=>i≤l.length∧∀j,j<i→p l[j]! =false) (fun i=>l.length - i) 0 ?_ ⟨cl _,fun j h=>absurd h (qn _)⟩ ?_)
 ·exact wk h0 [] (wR rfl (wR rfl (wR rfl (wR rfl wTn)))) wVn wLn
 ·rintro i ⟨hi,ms⟩
  refine ra hx ?_
  refine AW.seq (AW.condS rfl (fun hb=>?_) (fun hb=>?_))
  ·have yC:i<l.length:=by have:=bA hb;omega
   refine AW.skip (AW.seq (AW.block (ra hx ?_)))
   refine rs hx fun K hK=>?_
   iterate 3 refine sa ?_
   have qC:0≤(i:Int)∧(i:Int)<((l.length:Nat):Int):=by omega
   refine sbr ?_
   refine s1 (d:=dG au l[i]!) (kA (c:=au) (l:=l) (n:=i) (o:=0) aT yC (fV _ _ rfl)) ?_
   refine sc (hf _) ?_
   refine nl hK ?_
   refine AW.condS rfl (fun hb=>?_) (fun hb=>?_)
   ·refine ra hx ?_
    refine AW.ret ?_
    rw[RP yC hb ms]
    exact rv1
   ·refine AW.skip (rbr hx ?_)
    rw[bS]
    refine⟨i+1,wk h0 [] (wR rfl (wR rfl (wR rfl (wR rfl wTn)))) wVn wLn,⟨yC,fun j hj=>?_⟩,by omega⟩
    rcases d6 j i with h1|h1
    ·exact ms j h1
    ·obtain rfl:j=i:=by omega
     exact hb
  ·refine AW.exit ?_
   have yC:i=l.length:=by have:=de hb;omega
   refine ra hx ?_
   refine AW.ret ?_
   rw[Pj fun j hj=>ms j (by omega)]
   exact rv1
theorem QF(x:Nu):ar prog 107 [dG au x] (dB (decide (bI x≠0))):=by
 refine bj (rs:=[.tmp 2]) (fun cx hx h0=>?_) func107
 refine ra hx ?_
 refine rs hx fun K hK=>?_
 refine mbr ?_
 refine sc (yj x) ?_
 refine nbr hK ?_
 exact AW.ret (rv1)
section
section
variable {vs V V2:List (Nat×List D)} {lv:List (Nat×Nat×Nat×TypeId)} {N kd R G w m:Nat} {C:Nat→Nat} {d d':Dic}
def eD(x:Nu)(i:Nat)(d:Dic):Dic:=⟨(d.rows.take i).map (tN x)++d.rows.drop i,d.gk,d.gc,d.n,d.piv,d.most⟩
theorem D7(x:Nu)(d:Dic):eD x 0 d=d:=by unfold eD;simp
theorem xg(x:Nu)(d:Dic):eD x d.rows.length d=⟨d.rows.map (tN x),d.gk,d.gc,d.n,d.piv,d.most⟩:=by unfold eD;simp
theorem GO {x:Nu}{i:Nat}(hi:i<d.rows.length):(eD x i d).rows[i]! =d.rows[i]! :=by
 apply dP
 unfold eD
 dsimp only
 rw[qm (by simp;omega),bh,ee,sJ (by omega),yL,na,iB]
 exact vG hi
theorem PZ {x:Nu}{i:Nat}(hi:i≤d.rows.length):(eD x i d).rows.length=d.rows.length:=by
 unfold eD;simp;omega
theorem D8 {x:Nu}{i:Nat}(hi:i<d.rows.length):(⟨(eD x i d).rows.set i (tN x d.rows[i]!),d.gk,d.gc,d.n,d.piv,d.most⟩:Dic)=eD x (i+1) d:=by
 unfold eD
 dsimp only
 congr 1
 have hl:((d.rows.take i).map (tN x)).length=i:=by simp;omega
 rw[List.set_append_right _ _ (by omega),hl,yL,EH hi,List.set_cons_zero,Ae,cz hi,jz,c0]
 rw[bJ d.rows i hi]
 rfl
theorem CR {x:Nu}{i j:Nat}(hi:i≤d.rows.length)(hj:j<d.rows.length):(eD x i d).rows[j]!.k=d.rows[j]!.k∧(eD x i d).rows[j]!.b=d.rows[j]!.b∧(eD x i d).rows[j]!.c.length=d.rows[j]!.c.length:=by
 have hl:((d.rows.take i).map (tN x)).length=i:=by simp;omega
 by_cases h:j<i
 ·have:(eD x i d).rows[j]! =tN x d.rows[j]! :=by
   apply dP
   unfold eD
   dsimp only
   rw[Ag (by omega),dQ,gz,ai h,vG hj]
   rfl
  rw[this]
  exact⟨rfl,rfl,cU ..⟩
 ·have:(eD x i d).rows[j]! =d.rows[j]! :=by
   apply dP
   unfold eD
   dsimp only
   rw[qm (by omega),hl,na,show i+(j - i)=j by omega]
   exact vG hj
  rw[this]
  exact⟨rfl,rfl,rfl⟩
theorem cH.colsI(h:cH d w m)(x:Nu){i:Nat}(hi:i≤m):cH (Go.Proofs.YtaedcknhkjpmlaaGreat.eD x i d) w m:=by
 have hl:=h.len
 refine⟨(PZ (by omega)).trans hl,h.lg,fun j hj=>?_,fun j hj=>?_,h.p0,h.p1,h.m0,h.m1⟩
 ·rw[(CR (by omega) (by omega)).2.2];exact h.lc j hj
 ·rw[(CR (by omega) (by omega)).2.1];exact h.b j hj
theorem HF(l:List Row):∀k,jI l k≤k
 |0=>ay _
 |k+1=>by unfold jI;have:=HF l k;split <;> omega
theorem rowsC_c {l:List Row}{j:Nat}(hj:j<l.length)(c:List Nu):fP C w 0 (l.set j ⟨l[j]!.k,c,l[j]!.b⟩)=fP C w 0 l:=by
 obtain⟨A,B,_,h2,h3,_⟩:=mq C w l j (vG hj)
 rw[h2,h3]
 rfl
theorem DAt.setC(h:DAt V kd R G C w d)(hf:Dif d.rows.length kd R G C){j:Nat}(hj:j<d.rows.length)(c:List Nu)(hl:c.length=w):DAt ((C j,dC ((cW au).f c))::V) kd R G C w ⟨d.rows.set j ⟨d.rows[j]!.k,c,d.rows[j]!.b⟩,d.gk,d.gc,d.n,d.piv,d.most⟩:=by
 obtain⟨h1,h2,h3⟩:=hf.C1 j hj
 refine h.setRow hf hj ⟨d.rows[j]!.k,c,d.rows[j]!.b⟩ hl ?_ aa fun k ds _ yB hk=>ak yB hk
 rw[rowsC_c hj]
 exact ak h2.symm (h.hR (fun e=>by rw[e] at hj;simp at hj))
theorem DAt.setG(h:DAt V kd R G C w d)(hf:Dif d.rows.length kd R G C)(c:List Nu)(hl:c.length=w):DAt ((G,dC ((cW au).f c))::V) kd R G C w ⟨d.rows,d.gk,c,d.n,d.piv,d.most⟩:=
 h.setDic hf ⟨d.rows,d.gk,c,d.n,d.piv,d.most⟩ rfl hl (ak hf.dG h.hd) aa fun k ds _ yB hk=>ak yB hk
theorem ov_in(hf:Dif m kd R G C)(hS:cH d w m)(h:DAt V2 kd R G C w d)(hm:0<m)(hr:∀k ds,k≠kd→k≠R→k≠G→(∀j,j<m→k≠C j)→vs.lookup k=some ds→V2.lookup k=some ds):∀j ds,(ov kd R G C w d vs).lookup j=some ds→V2.lookup j=some ds:=
 Dj (hS.dif hf) h (fun k ds h1 h2 h3 h4 h5=>hr k ds h1 h2 h3 (fun j hj=>h4 j (by rw[hS.len];exact hj)) h5) fun e=>by
  have:=hS.len
  rw[e] at this
  simp only[Ij] at this
  omega
theorem NG(hS:cH d w m){k:Nat}{ds:List D}(h1:k≠kd)(h2:k≠R)(h3:k≠G)(h4:∀j,j<m→k≠C j)(h:vs.lookup k=some ds):(ov kd R G C w d vs).lookup k=some ds:=by
 rw[Hw h1 h2 h3 fun j hj=>h4 j (by rw[←hS.len];exact hj)];exact h
structure RowAt(V:List (Nat×List D))(R w:Nat)(C:Nat→Nat)(d:Dic)(i:Nat):Prop where
 k:∃F F',V.lookup R=some F∧Pt F (i*38+0+0) (dC (au.f d.rows[i]!.k)) F'
 c:∃F F',V.lookup R=some F∧Pt F (i*38+0+36) [.ow (C i) 0 36 w] F'
 v:V.lookup (C i)=some (dC ((cW au).f d.rows[i]!.c))
 l:d.rows[i]!.c.length=w
 r:∃F F',V.lookup R=some F∧Pt F (i*38) (iH C w i d.rows[i]!) F'
 n:∃F F',V.lookup R=some F∧Pt F (i*38+0) (aW d.rows[i]!.k (C i) w) F'
 ne:eU R d.rows=.gw R 38 d.rows.length
theorem DAt.row(h:DAt V kd R G C w d){i:Nat}(hi:i<d.rows.length):RowAt V R w C d i:=by
 have hr:d.rows[i]? =some d.rows[i]! :=vG hi
 obtain⟨A,B,hA,h2,h3,h4,h5⟩:=mq C w d.rows i hr
 have fk:d.rows≠[]:=fun e=>by rw[e] at hi;simp at hi
 exact⟨⟨_,_,h.hR fk,h4.pk⟩,⟨_,_,h.hR fk,h4.pc⟩,h.hC i _ hr,h.lC i _ hr,⟨_,_,h.hR fk,Gn h3 hA⟩,⟨_,_,h.hR fk,h4.pa⟩,pM fk⟩
theorem Q6 {x:Cx}{tm:List (Nat×D)}{q n2:Nat}{a:Int}{r:Int×Dic}(h0:x.hp0=⟨vs,lv,N⟩)(hr:r=(a,d))(hok:ci ⟨ov kd R G C w d vs,lv,N⟩)(hN:N≤n2)(hv:∀j ds,(ov kd R G C w d vs).lookup j=some ds→V.lookup j=some ds)(hq:tm.lookup q=some (dI .i64 a):=by exact rfl):
  ∃tm',Wk x tm ⟨V,lv,n2⟩ tm' ⟨ov kd R G C w r.2 vs,lv,N⟩∧te tbl [.tmp q] tm' ⟨ov kd R G C w r.2 vs,lv,N⟩ (dI .i64 r.1):=by
 subst hr
 exact rt1 h0 hok hN hv hq rfl
theorem RO(c:List Nu):Pk (fun x=>decide (bI x≠0)) c=match xJ c with|some i=>(i:Int)|none=>-1:=rfl
theorem h_begin(CL:R<N)(hD:DAt vs kd R G C w d)(hf:Dif m kd R G C)(hS:cH d w m)(hw:w≤1000000)(hm:m≤1000000)(Ff:0<m)(hw0:0<w)
  (zT:∀q,dH (cf d) (jI d.rows d.rows.length) 0=q→q.1=0→(aP q.2).1.2=0→0≤db (aP q.2).2.rows 0→xJ (aP q.2).2.rows[(db (aP q.2).2.rows 0).toNat]!.c≠none):
  HC prog 43 [.pt kd 0] ⟨vs,lv,N⟩ (dI .i64 (jx d).1) ⟨ov kd R G C w (jx d).2 vs,lv,N⟩:=by
 refine HC.of (rs:=[.tmp 2]) tok func43 rfl rfl (bc rfl) rfl (fun cx hx h0 hok=>?_)
 simp only[fj,Nat.reduceAdd,bp]
 have hl:=hS.len
 have vK:=hD.hd
 have FR:=hok.lt vK
 have SV:=hok.lt hD.hG
 have hCN:∀j,j<m→C j<N:=fun j hj=>hok.lt (hD.hC j d.rows[j]! (vG (by omega)))
 have sX:∀d2,cH d2 w m→ci ⟨ov kd R G C w d2 vs,lv,N⟩:=fun d2 h2=>BN hok FR CL SV fun j hj=>hCN j (by rw[←h2.len];exact hj)
 refine rs hx fun K hK=>?_
 refine sa ?_
 refine nl hK ?_
 refine rs hx fun K hK=>?_
 refine sa ?_
 refine nl hK ?_
 refine AW.seq (rs hx fun K hK=>?_)
 iterate 3 refine sa ?_
 refine c1 gi ?_
 refine Nr (R:=R) (l:=d.rows) rfl ?_
 refine sa ?_
 refine nl hK ?_
 rw[hl]
 refine AW.block (AW.loopW (fun i:Nat=>[(0,.pt kd 0),(3,dI .i64 (jI d.rows i:Nat)),(14,dI .i64 m),(15,dI .i64 i)]) (fun i=>⟨ov kd R G C w (eD (nOf 1) i d) vs,lv,N⟩) (fun i=>i≤m) (fun i=>m - i) 0 ?_ (cl _) ?_)
 ·rw[D7]
  exact wk1 h0 (hok:=sX d hS) (hv:=ov_in hf hS hD Ff fun _ _ _ _ _ _ h=>h)
 ·intro i hi
  have xa:=hS.colsI (nOf 1) hi
  have CM:=xa.at hf (vs:=vs)
  have nW:=sX _ xa
  have tF:∀k ds,k≠kd→k≠R→k≠G→(∀j,j<m→k≠C j)→vs.lookup k=some ds→(ov kd R G C w (eD (nOf 1) i d) vs).lookup k=some ds:=fun k ds h1 h2 h3 h4 h=>NG xa h1 h2 h3 h4 h
  generalize hV:ov kd R G C w (eD (nOf 1) i d) vs=V at CM nW tF ⊢
  have hdi:=CM.hd
  have hli:=xa.len
  refine rs hx fun K hK=>?_
  refine sa ?_
  refine nl hK ?_
  refine AW.seq (AW.condS rfl (fun hb=>?_) (fun hb=>?_))
  ·have pC:i<m:=by have:=bA hb;omega
   have IY:(eD (nOf 1) i d).rows[i]! =d.rows[i]! :=GO (by omega)
   obtain⟨⟨F1,F1',e1,L1⟩,⟨F2,F2',e2,L2⟩,e3,t4,_,_,fk⟩:=CM.row (i:=i) (by omega)
   have Ss:=nW.lt e1
   have hk3:=nW.lt e3
   rw[IY] at e3 L1 t4
   refine AW.skip (AW.seq (AW.block (rs hx fun K hK=>?_)))
   iterate 2 refine sa ?_
   refine nl hK ?_
   refine rsd [28] hx fun K hK=>?_
   iterate 3 refine sa ?_
   refine c1 gi ?_
   refine sa ?_
   refine r1 (n:=(eD (nOf 1) i d).rows.length) (i:=i) (by omega) ?_ (by show (eU R _).toOw=_;rw[fk];rfl)
   iterate 2 refine sa ?_
   refine c1 L2 ?_
   refine cq (FB 1 (by omega)) ?_
   refine i1 (i:=0) (n:=w) hw0 ?_
   refine t1 (Pt.el d.rows[i]!.c 0 (by omega)) (Pt.el_set d.rows[i]!.c 0 (by omega) _) ?_
   refine nl hK ?_
   have hdn:(⟨(eD (nOf 1) i d).rows.set i ⟨(eD (nOf 1) i d).rows[i]!.k,d.rows[i]!.c.set 0 (nOf 1),(eD (nOf 1) i d).rows[i]!.b⟩,d.gk,d.gc,d.n,d.piv,d.most⟩:Dic)=eD (nOf 1) (i+1) d:=by
    rw[IY];exact D8 (by omega)
   have Me:=CM.setC (xa.dif hf) (j:=i) (by omega) (d.rows[i]!.c.set 0 (nOf 1)) (by rw[cU];exact t4)
   have Me:DAt ((C i,dC ((cW au).f (d.rows[i]!.c.set 0 (nOf 1))))::V) kd R G C w (eD (nOf 1) (i+1) d):=by rw[←hdn];exact Me
   have hSn:=hS.colsI (nOf 1) (show i+1≤m by omega)
   have ms:jI d.rows i<m:=by
    have:=HF d.rows i
    omega
   have La:=hSn.len
   obtain⟨⟨F3,F3',e4,L3⟩,_,_,_,_,_,Pv⟩:=Me.row (i:=i) (by omega)
   obtain⟨⟨F4,F4',e5,L4⟩,_⟩:=Me.row (i:=jI d.rows i) (by omega)
   rw[(CR (show i+1≤d.rows.length by omega) (show i<d.rows.length by omega)).1] at L3
   rw[(CR (show i+1≤d.rows.length by omega) (show jI d.rows i<d.rows.length by omega)).1] at L4
   have hdn2:=Me.hd
   have vE:∀j ds,(ov kd R G C w (eD (nOf 1) (i+1) d) vs).lookup j=some ds→((C i,dC ((cW au).f (d.rows[i]!.c.set 0 (nOf 1))))::V).lookup j=some ds:=ov_in hf hSn Me Ff fun k ds h1 h2 h3 h4 h=>ak (h4 i pC) (tF k ds h1 h2 h3 h4 h)
   have hokn:=sX _ hSn
   have hokW:ci ⟨(C i,dC ((cW au).f (d.rows[i]!.c.set 0 (nOf 1))))::V,lv,N⟩:=nW.consM hk3 (ep _)
   have hk4:=hokW.lt e4
   generalize (C i,dC ((cW au).f (d.rows[i]!.c.set 0 (nOf 1))))::V=W at Me e4 e5 hdn2 vE ⊢
   have iE:jI d.rows (i+1)=if pN d.rows[i]!.k d.rows[jI d.rows i]!.k<0 then i else jI d.rows i:=rfl
   refine rsd [32] hx fun K hK=>?_
   iterate 3 refine sa ?_
   refine c1 gi ?_
   refine sa ?_
   refine r1 (n:=(eD (nOf 1) (i+1) d).rows.length) (i:=i) (by omega) ?_ (by show (eU R _).toOw=_;rw[Pv];rfl)
   iterate 2 refine sa ?_
   refine l1 L3 ?_
   iterate 3 refine sa ?_
   refine c1 gi ?_
   refine sa ?_
   refine r1 (n:=(eD (nOf 1) (i+1) d).rows.length) (i:=jI d.rows i) (by omega) ?_ (by show (eU R _).toOw=_;rw[Pv];rfl)
   iterate 2 refine sa ?_
   refine l1 L4 ?_
   refine cq (w_Cmp _ _) ?_
   refine sa ?_
   refine nl hK ?_
   refine AW.condS rfl (fun hb=>?_) (fun hb=>?_)
   ·rw[ai (bA hb)] at iE
    refine rq hx fun K hK=>?_
    iterate 2 refine sa ?_
    refine nl hK ?_
    refine rq hx fun K hK=>?_
    iterate 2 refine sa ?_
    refine nl hK ?_
    rw[bS]
    refine⟨i+1,?_,pC,by omega⟩
    rw[iE]
    exact wk1 h0 (hok:=hokn) (hv:=vE)
   ·rw[ah (de hb)] at iE
    refine AW.skip (rq hx fun K hK=>?_)
    iterate 2 refine sa ?_
    refine nl hK ?_
    rw[bS]
    refine⟨i+1,?_,pC,by omega⟩
    rw[iE]
    exact wk1 h0 (hok:=hokn) (hv:=vE)
  ·refine AW.exit ?_
   have pC:i=m:=by have:=de hb;omega
   subst pC
   have hlowm:jI d.rows i=jI d.rows d.rows.length:=by rw[hl]
   rw[hlowm]
   have hci:eD (nOf 1) i d=⟨d.rows.map (tN (nOf 1)),d.gk,d.gc,d.n,d.piv,d.most⟩:=by rw[←hl];exact xg _ _
   rw[hci] at xa CM hdi
   have hGi:=CM.hG
   -- rY goal
   refine rsd [28] hx fun K hK=>?_
   iterate 4 refine sa ?_
   refine c1 mh.pc ?_
   refine cq (FB (-1) (by omega)) ?_
   refine i1 (i:=0) (n:=w) hw0 ?_
   refine t1 (Pt.el d.gc 0 (by rw[hS.lg];omega)) (Pt.el_set d.gc 0 (by rw[hS.lg];omega) _) ?_
   refine nl hK ?_
   have hDs:=CM.setG (xa.dif hf) (d.gc.set 0 (nOf (-1))) (by rw[cU];exact hS.lg)
   have hDs:DAt ((G,dC ((cW au).f (d.gc.set 0 (nOf (-1)))))::V) kd R G C w (cf d):=hDs
   have hSs:cH (cf d) w i:=by
    refine⟨xa.len,?_,xa.lc,xa.b,hS.p0,hS.p1,hS.m0,hS.m1⟩
    show (d.gc.set 0 (nOf (-1))).length=w
    rw[cU];exact hS.lg
   have DF:∀k ds,k≠kd→k≠R→k≠G→(∀j,j<i→k≠C j)→vs.lookup k=some ds→((G,dC ((cW au).f (d.gc.set 0 (nOf (-1)))))::V).lookup k=some ds:=fun k ds h1 h2 h3 h4 h=>ak h3 (tF k ds h1 h2 h3 h4 h)
   generalize (G,dC ((cW au).f (d.gc.set 0 (nOf (-1)))))::V=W at hDs DF ⊢
   have hdW:=hDs.hd
   have hms:0<(cf d).rows.length:=by rw[hSs.len];omega
   have ms:jI d.rows d.rows.length<i:=by
    rcases rJ i with e|e
    ·omega
    ·have:jI d.rows i<i:=by
      have h3:∀n,0<n→jI d.rows n<n:=by
       intro n hn
       obtain⟨n,rfl⟩:∃n',n=n'+1:=⟨n - 1,by omega⟩
       unfold jI
       have:=HF d.rows n
       split <;> omega
      exact h3 i e
     omega
   have hra:(cf d).rows[jI d.rows d.rows.length]? =some (cf d).rows[jI d.rows d.rows.length]! :=vG (by rw[hSs.len];exact ms)
   have Sa:=HW (lv:=lv) (N:=N) hDs (hSs.dif hf) hra hw0 (hSs.b _ ms) hw (by rw[hSs.len];exact hm) ⟨hSs.p0,hSs.p1⟩ ⟨hSs.m0,hSs.m1⟩
   obtain⟨Qq,_⟩:=hSs.pivot ms hw0
   have hov1:=CF (vs:=vs) (vsX:=W) hf Qq Ff DF
   have Ps:=sX _ Qq
   have uo:jx d=(let p:=dH (cf d) (jI d.rows d.rows.length) 0;if p.1≠0 then p else let q:=aP p.2;if q.1.2≠0∨bI q.2.gk<0 then (q.1.2,q.2) else if db q.2.rows 0<0 then (0,q.2) else match xJ q.2.rows[(db q.2.rows 0).toNat]!.c with|none=>(0,q.2)|some s=>dH q.2 (db q.2.rows 0).toNat s):=rfl
   have zT:=zT _ rfl
   generalize dH (cf d) (jI d.rows d.rows.length) 0=q at Sa Qq hov1 Ps uo zT
   dsimp only at uo
   refine AW.seq (rs hx fun K hK=>?_)
   iterate 2 refine sa ?_
   refine q1 (sHC Sa rfl (.inl (by kernel_rfl))) ?_
   refine sa ?_
   refine nl hK ?_
   refine rs hx fun K hK=>?_
   iterate 2 refine sa ?_
   refine nl hK ?_
   refine AW.condS rfl (fun hb=>?_) (fun hb=>?_)
   ·have hq:q.1≠0:=bA hb
    rw[ai hq] at uo
    refine rs hx fun K hK=>?_
    iterate 2 refine sa ?_
    refine nl hK ?_
    exact AW.ret (Q6 h0 uo Ps (ay _) hov1)
   have hq0:q.1=0:=by have:=de hb;simpa using this
   rw[ah (fun e=>e hq0)] at uo
   have zT:=zT hq0
   refine AW.skip ?_
   -- improving
   have pC:=GG (lv:=lv) (N:=N) CL (Qq.at hf (vs:=W)) hf Qq hw hm
   obtain⟨GH,hmr,hnr,IW,Qj⟩:=Qq.improve ((q.2.most - q.2.piv).toNat+1)
   change cH (aP q.2).2 w i at GH
   have hout3:∀k ds,k≠kd→k≠R→k≠G→(∀j,j<i→k≠C j)→vs.lookup k=some ds→(ov kd R G C w q.2 W).lookup k=some ds:=fun k ds h1 h2 h3 h4 h=>NG Qq h1 h2 h3 h4 (DF k ds h1 h2 h3 h4 h)
   have Sd:=CF (vs:=vs) (vsX:=ov kd R G C w q.2 W) hf GH Ff hout3
   have hokr:=sX _ GH
   generalize aP q.2=r at pC GH Sd hokr uo zT
   have hDr:=GH.at hf (vs:=ov kd R G C w q.2 W)
   have hdr:=hDr.hd
   refine AW.seq (rs hx fun K hK=>?_)
   refine sa ?_
   refine q1 (sHC pC rfl (.inl (by kernel_rfl))) ?_
   iterate 5 refine sa ?_
   refine nl hK ?_
   generalize hX:ov kd R G C w r.2 (ov kd R G C w q.2 W)=X at hDr hdr Sd ⊢
   refine rs hx fun K hK=>?_
   iterate 3 refine sa ?_
   by_cases he:r.1.2≠0
   ·have e1:decide (r.1.2≠0)=true:=aA he
    iterate 7 refine gn e1 ?_
    refine s1 (d:=dB true) (oG e1) ?_
    refine nl hK ?_
    rw[ai (.inl he)] at uo
    refine AW.condT rfl rfl (rs hx fun K hK=>?_)
    iterate 2 refine sa ?_
    refine nl hK ?_
    exact AW.ret (Q6 h0 uo hokr (ay _) Sd)
   have e1:decide (r.1.2≠0)=false:=bk he
   iterate 4 refine ga e1 ?_
   refine l1g mh.pk e1 ?_
   refine cqg (yj _) e1 ?_
   refine ga e1 ?_
   refine s1 (d:=dB (decide (bI r.2.gk<0))) (lP e1) ?_
   refine nl hK ?_
   have he0:r.1.2=0:=Bs.1 he
   refine AW.condS rfl (fun hb=>?_) (fun hb=>?_)
   ·rw[ai (.inr (bA hb))] at uo
    refine rs hx fun K hK=>?_
    iterate 2 refine sa ?_
    refine nl hK ?_
    exact AW.ret (Q6 h0 uo hokr (ay _) Sd)
   rw[ah (by rintro (e|e);exact he e;exact de hb e)] at uo
   have zT:=zT he0
   refine AW.skip ?_
   -- x(0)
   have hfd:=Mb (lv:=lv) (N:=N) (v:=0) hDr (by rw[GH.len];exact hm)
   refine AW.seq (rs hx fun K hK=>?_)
   refine sa ?_
   refine q1 (sHC hfd rfl (.inl (by kernel_rfl))) ?_
   refine sa ?_
   refine nl hK ?_
   refine rs hx fun K hK=>?_
   iterate 2 refine sa ?_
   refine nl hK ?_
   refine AW.condS rfl (fun hb=>?_) (fun hb=>?_)
   ·have vd:0≤db r.2.rows 0:=bA hb
    rw[ah (by omega)] at uo
    obtain⟨a,ha,PG⟩:∃a:Nat,a<i∧db r.2.rows 0=(a:Int):=by
     have Sr:=GH.len
     unfold db at vd ⊢
     cases Pz:r.2.rows.findIdx? fun r=>decide (r.b=0) with
     |none=>rw[Pz] at vd;exact absurd vd (by decide)
     |some a=>exact⟨a,by have:=(ox.1 Pz).1;omega,rfl⟩
    have zT:=zT vd
    rw[PG,show ((a:Int)).toNat=a by omega] at uo zT
    cases Sj:xJ r.2.rows[a]!.c with
    |none=>exact absurd Sj zT
    |some sN=>
    rw[Sj] at uo
    dsimp only at uo
    have hsw:sN<w:=by
     unfold xJ at Sj
     have:=(ox.1 Sj).1
     rw[GH.lc a ha] at this;exact this
    obtain⟨_,⟨F2,F2',e2,L2⟩,e3,t4,_,_,fk⟩:=hDr.row (i:=a) (by rw[GH.len];exact ha)
    have hix:=HC.frz (hp:=⟨X,lv,N⟩) (QG QF (l:=r.2.rows[a]!.c) (by omega)) (ds:=[.ow (C a) 0 36 w,.e (.lit (.func (.func 107) #[] #[]))]) ⟨AR.list e3 t4,AR.data rfl,trivial⟩ rfl
    rw[RO,Sj] at hix
    dsimp only at hix
    have hrb:r.2.rows[a]? =some r.2.rows[a]! :=vG (by rw[GH.len];exact ha)
    have hpv2:=HW (lv:=lv) (N:=N) hDr (GH.dif hf) hrb hsw (GH.b a ha) hw (by rw[GH.len];exact hm) ⟨GH.p0,GH.p1⟩ ⟨GH.m0,GH.m1⟩
    obtain⟨hSz,_⟩:=GH.pivot ha hsw
    have hout4:∀k ds,k≠kd→k≠R→k≠G→(∀j,j<i→k≠C j)→vs.lookup k=some ds→X.lookup k=some ds:=fun k ds h1 h2 h3 h4 h=>by rw[←hX];exact NG GH h1 h2 h3 h4 (hout3 k ds h1 h2 h3 h4 h)
    have hov3:=CF (vs:=vs) (vsX:=X) hf hSz Ff hout4
    have hokz:=sX _ hSz
    generalize dH r.2 a sN=z at hpv2 hSz hov3 hokz uo
    have yB:R<N:=CL
    have heX:X.lookup R=some F2:=e2
    refine rs hx fun K hK=>?_
    iterate 3 refine sa ?_
    refine c1 gi ?_
    refine sa ?_
    refine r1 (n:=r.2.rows.length) (i:=a) (by rw[GH.len];exact ha) ?_ (by show (eU R _).toOw=_;rw[fk];rfl) (by show D.toOw (dI .i64 _)=_;rw[PG];rfl)
    iterate 2 refine sa ?_
    refine c1 L2 ?_
    refine q1 (sHC hix rfl (.inl (by kernel_rfl))) ?_
    refine sa ?_
    refine nl hK ?_
    refine rs hx fun K hK=>?_
    iterate 3 refine sa ?_
    refine q1 (sHC hpv2 (by show [_,dI .i64 (db r.2.rows 0),_]=_;rw[PG];rfl) (.inl (by kernel_rfl))) ?_
    refine sa ?_
    refine nl hK ?_
    exact AW.ret (Q6 h0 uo hokz (ay _) hov3)
   ·have bH:db r.2.rows 0<0:=by have:=de hb;omega
    rw[ai bH] at uo
    refine AW.skip (rs hx fun K hK=>?_)
    refine sa ?_
    refine nl hK ?_
    exact AW.ret (Q6 h0 uo hokr (ay _) Sd)
end
end
section
theorem wJ(l:List Row)(w:Nat)(c:List Nu):∀k,(gt l w c k).2.length=w
 |0=>by simp[gt]
 |k+1=>by
  unfold gt
  dsimp only
  split
  ·rw[tS];exact wJ l w c k
  ·rw[cU];exact wJ l w c k
section
variable {vs V V2:List (Nat×List D)} {lv:List (Nat×Nat×Nat×TypeId)} {N kd R G w m:Nat} {C:Nat→Nat} {d d':Dic}
theorem DAt.setGK(h:DAt V kd R G C w d)(hf:Dif d.rows.length kd R G C)(k:Nu)(c:List Nu)(hl:c.length=w):DAt ((G,dC ((cW au).f c))::(kd,[eU R d.rows]++aW k G w++[dI .i64 d.n,dI .i64 d.piv,dI .i64 d.most])::V) kd R G C w ⟨d.rows,k,c,d.n,d.piv,d.most⟩:=
 h.setDic hf ⟨d.rows,k,c,d.n,d.piv,d.most⟩ rfl hl (ak hf.dG aa) aa fun j ds h1 h2 hj=>ak h2 (ak h1 hj)
theorem wh(hf:Dif m kd R G C)(hS:cH d w m)(h:DAt V2 kd R G C w d)(hr:∀k ds,k≠kd→(m≠0→k≠R)→k≠G→(∀j,j<m→k≠C j)→vs.lookup k=some ds→V2.lookup k=some ds):∀j ds,(ov kd R G C w d vs).lookup j=some ds→V2.lookup j=some ds:=
 Dj (hS.dif hf) h (fun k ds h1 h2 h3 h4 h5=>hr k ds h1 (fun _=>h2) h3 (fun j hj=>h4 j (by rw[hS.len];exact hj)) h5) fun e ds h5=>by
  have hm:=hS.len
  rw[e] at hm
  simp only[Ij] at hm
  exact hr R ds hf.dR.symm (fun hh=>absurd hm.symm hh) hf.RG (fun j hj=>by omega) h5
theorem Dk(hS:cH d w m){k:Nat}{ds:List D}(h1:k≠kd)(h2:m≠0→k≠R)(h3:k≠G)(h4:∀j,j<m→k≠C j)(h:vs.lookup k=some ds):(ov kd R G C w d vs).lookup k=some ds:=by
 by_cases hm:m=0
 ·have hl:=hS.len
  have hr:d.rows=[]:=Ik.1 (by omega)
  refine ak h1 (ak h3 ?_)
  rw[hr];exact h
 ·exact NG hS h1 (h2 hm) h3 h4 h
theorem rtN {x:Cx}{tm:List (Nat×D)}{vs0:List (Nat×List D)}{lv0:List (Nat×Nat×Nat×TypeId)}{N0 M n2 q:Nat}{a:D}(h0:x.hp0=⟨vs0,lv0,N0⟩)(hM:N0≤M)(hok:ci ⟨V,lv,M⟩)(hN:M≤n2)(hv:∀j ds,V.lookup j=some ds→V2.lookup j=some ds)(hq:tm.lookup q=some a:=by exact rfl)(hd:a.idsB M=true:=by exact rfl):
  ∃tm',Wk x tm ⟨V2,lv,n2⟩ tm' ⟨V,lv,M⟩∧te tbl [.tmp q] tm' ⟨V,lv,M⟩ a:=
 ⟨[(q,a)],wkS (by rw[h0];exact hM) hN hok hv (bE.nil.cons hq hd),⟨a,aa,rfl⟩⟩
theorem h_aim {c:List Nu}(CL:R<N)(hD:DAt vs kd R G C w d)(hf:Dif m kd R G C)(hS:cH d w m)(hw:w≤1000000)(hm:m≤1000000)(hw0:0<w)(hc:c.length+1≤w):
  HC prog 45 [.pt kd 0,.e (slE au c)] ⟨vs,lv,N⟩ (dI .i64 (mC d c).1) ⟨ov kd R (N+3) C w (mC d c).2 vs,lv,N+4⟩:=by
 refine HC.of (rs:=[.tmp 4]) tok func45 rfl rfl (bc rfl) rfl (fun cx hx h0 hok=>?_)
 simp only[fj,Nat.reduceAdd,bp]
 have hl:=hS.len
 have vK:=hD.hd
 have FR:=hok.lt vK
 have SV:=hok.lt hD.hG
 have hGV:=hD.hG
 have NZ:=hD.lG
 have hCN:∀j,j<m→C j<N:=fun j hj=>hok.lt (hD.hC j d.rows[j]! (vG (by omega)))
 have Cs:Dif m kd R (N+3) C:=⟨hf.dR,by omega,by omega,fun i hi=>⟨(hf.C1 i hi).1,(hf.C1 i hi).2.1,by have:=hCN i hi;omega⟩,hf.C2⟩
 refine rs hx fun K hK=>?_
 refine sa ?_
 refine nl hK ?_
 refine rs hx fun K hK=>?_
 iterate 5 refine sa ?_
 refine c1 mh.pc ?_
 refine sa ?_
 refine q1 (sHC (w9 hw) rfl (.inr ⟨by show N≤N+4;omega,fun j hj=>by have hj:j<N:=hj;exact (am (by omega)).trans (am (by omega))⟩)) ?_
 iterate 2 refine sa ?_
 refine v1 (ys:=aW (nOf 0) (N+3) w) (mh (R:=R) (G:=G) (w:=w) (d:=d)).pa (bR _ _ _) ((bR _ _ _).trans (bR d.gk G w).symm) rfl ?_
 refine nl hK ?_
 -- rY dictionary with rY goal 0
 obtain⟨dz,hdz⟩:∃dz:Dic,dz=⟨d.rows,nOf 0,List.replicate w (nOf 0),d.n,d.piv,d.most⟩:=⟨_,rfl⟩
 have hSz:cH dz w m:=by rw[hdz];exact⟨hl,by simp,hS.lc,hS.b,hS.p0,hS.p1,hS.m0,hS.m1⟩
 obtain⟨V0,Fm⟩:∃V0,V0=(kd,[eU R d.rows]++aW (nOf 0) (N+3) w++[dI .i64 d.n,dI .i64 d.piv,dI .i64 d.most])::(N,aW (nOf 0) (N+3) w)::(N+3,dC ((cW au).f (List.replicate w (nOf 0))))::vs:=⟨_,rfl⟩
 have hDz:DAt V0 kd R (N+3) C w dz:=by
  rw[Fm,hdz]
  refine⟨aa,fun fk=>ak hf.dR.symm (ak (by omega) (ak (by omega) (hD.hR fk))),ak (by omega) (ak (by omega) aa),fun i r hr=>?_,by simp,hS.lC⟩
  have hi:=(fy.1 hr).1
  have hi:i<m:=by rw[←hl];exact hi
  have:=hCN i hi
  exact ak (hf.C1 i hi).1 (ak (by omega) (ak (by omega) (hD.hC i r hr)))
 have hok0:ci ⟨V0,lv,N+4⟩:=by
  rw[Fm]
  refine ci.consM ?_ (by omega) ?_
  ·refine ci.consM ?_ (by omega) (iL (by omega))
   exact ci.consM (hok.up (by omega)) (by omega) (ep _)
  ·exact rB (d:=⟨d.rows,nOf 0,List.replicate w (nOf 0),d.n,d.piv,d.most⟩) (R:=R) (G:=N+3) (w:=w) (by omega) (by omega)
 have NU:∀k ds,k≠kd→(m≠0→k≠R)→k≠N+3→(∀j,j<m→k≠C j)→vs.lookup k=some ds→V0.lookup k=some ds:=fun k ds h1 h2 h3 h4 h=>by
  have:=hok.lt h
  rw[Fm];exact ak h1 (ak (by omega) (ak h3 h))
 rw[←Fm]
 have sX:∀d2,cH d2 w m→ci ⟨ov kd R (N+3) C w d2 vs,lv,N+4⟩:=fun d2 h2=>BN (hok.up (by omega)) (by omega) (by omega) (by omega) fun j hj=>by have:=hCN j (by rw[←h2.len];exact hj);omega
 -- rY rows
 refine AW.seq (rs hx fun K hK=>?_)
 have hdz0:=hDz.hd
 iterate 3 refine sa ?_
 refine c1 gi ?_
 refine Nr (R:=R) (l:=dz.rows) rfl ?_
 refine sa ?_
 refine nl hK ?_
 rw[hSz.len]
 refine AW.block (AW.loopW (fun i:Nat=>[(0,.pt kd 0),(1,.e (slE au c)),(23,dI .i64 m),(24,dI .i64 i)]) (fun i=>⟨ov kd R (N+3) C w (eD (nOf 0) i dz) vs,lv,N+4⟩) (fun i=>i≤m) (fun i=>m - i) 0 ?_ (cl _) ?_)
 ·rw[D7]
  exact wk1 h0 (hok:=sX dz hSz) (hv:=wh Cs hSz hDz NU)
 ·intro i hi
  have xa:=hSz.colsI (nOf 0) hi
  have CM:=xa.at Cs (vs:=vs)
  have nW:=sX _ xa
  have tF:∀k ds,k≠kd→(m≠0→k≠R)→k≠N+3→(∀j,j<m→k≠C j)→vs.lookup k=some ds→(ov kd R (N+3) C w (eD (nOf 0) i dz) vs).lookup k=some ds:=fun k ds h1 h2 h3 h4 h=>Dk xa h1 h2 h3 h4 h
  have hzl:=hSz.len
  generalize hV:ov kd R (N+3) C w (eD (nOf 0) i dz) vs=V at CM nW tF ⊢
  have hdi:=CM.hd
  have hli:=xa.len
  refine rs hx fun K hK=>?_
  refine sa ?_
  refine nl hK ?_
  refine AW.seq (AW.condS rfl (fun hb=>?_) (fun hb=>?_))
  ·have pC:i<m:=by have:=bA hb;omega
   have IY:(eD (nOf 0) i dz).rows[i]! =dz.rows[i]! :=GO (by omega)
   obtain⟨⟨F1,F1',e1,L1⟩,⟨F2,F2',e2,L2⟩,e3,t4,_,_,fk⟩:=CM.row (i:=i) (by omega)
   have Ss:=nW.lt e1
   have hk3:=nW.lt e3
   rw[IY] at e3 L1 t4
   refine AW.skip (AW.seq (AW.block (rs hx fun K hK=>?_)))
   iterate 2 refine sa ?_
   refine nl hK ?_
   refine rqd [28] hx fun K hK=>?_
   iterate 3 refine sa ?_
   refine c1 gi ?_
   refine sa ?_
   refine r1 (n:=(eD (nOf 0) i dz).rows.length) (i:=i) (by omega) ?_ (by show (eU R _).toOw=_;rw[fk];rfl)
   iterate 2 refine sa ?_
   refine c1 L2 ?_
   refine cq (FB 0 (by omega)) ?_
   refine i1 (i:=0) (n:=w) hw0 ?_
   refine t1 (Pt.el dz.rows[i]!.c 0 (by omega)) (Pt.el_set dz.rows[i]!.c 0 (by omega) _) ?_
   refine nl hK ?_
   have hdn:(⟨(eD (nOf 0) i dz).rows.set i ⟨(eD (nOf 0) i dz).rows[i]!.k,dz.rows[i]!.c.set 0 (nOf 0),(eD (nOf 0) i dz).rows[i]!.b⟩,dz.gk,dz.gc,dz.n,dz.piv,dz.most⟩:Dic)=eD (nOf 0) (i+1) dz:=by
    rw[IY];exact D8 (by omega)
   have Me:=CM.setC (xa.dif Cs) (j:=i) (by omega) (dz.rows[i]!.c.set 0 (nOf 0)) (by rw[cU];exact t4)
   have Me:DAt ((C i,dC ((cW au).f (dz.rows[i]!.c.set 0 (nOf 0))))::V) kd R (N+3) C w (eD (nOf 0) (i+1) dz):=by rw[←hdn];exact Me
   have hSn:=hSz.colsI (nOf 0) (show i+1≤m by omega)
   have vE:=wh (vs:=vs) Cs hSn Me fun k ds h1 h2 h3 h4 h=>ak (h4 i pC) (tF k ds h1 h2 h3 h4 h)
   have hokn:=sX _ hSn
   refine rq hx fun K hK=>?_
   iterate 2 refine sa ?_
   refine nl hK ?_
   rw[bS]
   exact⟨i+1,wk1 h0 (hok:=hokn) (hv:=vE),pC,by omega⟩
  ·refine AW.exit ?_
   have pC:i=m:=by have:=de hb;omega
   subst pC
   have hci:eD (nOf 0) i dz=⟨d.rows.map (tN (nOf 0)),nOf 0,List.replicate w (nOf 0),d.n,d.piv,d.most⟩:=by
    rw[←hzl,xg,hdz]
   rw[hci] at xa CM hdi
   -- rY numbers of rY program
   obtain⟨rz,hrz⟩:∃rz,rz=d.rows.map (tN (nOf 0)):=⟨_,rfl⟩
   rw[←hrz] at xa CM hdi
   have hSk:∀k,cH ⟨rz,(gt rz w c k).1,(gt rz w c k).2,d.n,d.piv,d.most⟩ w i:=fun k=>⟨xa.len,wJ rz w c k,xa.lc,xa.b,hS.p0,hS.p1,hS.m0,hS.m1⟩
   have haim:mC d c=(if fS (gt rz w c c.length).1 (gt rz w c c.length).2 then 0 else 30,⟨rz,(gt rz w c c.length).1,(gt rz w c c.length).2,d.n,d.piv,d.most⟩):=by
    unfold mC mD
    rw[←hrz,hS.lg]
   refine AW.seq (rs hx fun K hK=>?_)
   iterate 3 refine sa ?_
   refine nl hK ?_
   refine AW.block (AW.loopW (fun k:Nat=>[(0,.pt kd 0),(39,.e (slE au c)),(40,dI .i64 (c.length:Nat)),(41,dI .i64 k)]) (fun k=>⟨ov kd R (N+3) C w ⟨rz,(gt rz w c k).1,(gt rz w c k).2,d.n,d.piv,d.most⟩ vs,lv,N+4⟩) (fun k=>k≤c.length) (fun k=>c.length - k) 0 ?_ (cl _) ?_)
   ·exact wk1 h0 (hok:=sX _ (hSk 0)) (hv:=wh Cs (hSk 0) CM tF)
   ·intro k hk
    have B0:=hSk k
    have hDj:=B0.at Cs (vs:=vs)
    have nW:=sX _ B0
    have tF:∀k' ds,k'≠kd→(i≠0→k'≠R)→k'≠N+3→(∀j,j<i→k'≠C j)→vs.lookup k'=some ds→(ov kd R (N+3) C w ⟨rz,(gt rz w c k).1,(gt rz w c k).2,d.n,d.piv,d.most⟩ vs).lookup k'=some ds:=fun k' ds h1 h2 h3 h4 h=>Dk B0 h1 h2 h3 h4 h
    have DN:gt rz w c (k+1)=(if 0≤db rz ((k+1:Nat):Int) then (wK c[k]! rz[(db rz ((k+1:Nat):Int)).toNat]!.k (gt rz w c k).1,tT c[k]! rz[(db rz ((k+1:Nat):Int)).toNat]!.c (-1) (gt rz w c k).2) else ((gt rz w c k).1,(gt rz w c k).2.set (k+1) (jA (gt rz w c k).2[k+1]! c[k]!))):=rfl
    have Ar:=wJ rz w c k
    clear hV NU nW
    have nW:=sX _ B0
    generalize ov kd R (N+3) C w ⟨rz,(gt rz w c k).1,(gt rz w c k).2,d.n,d.piv,d.most⟩ vs=W at hDj nW tF ⊢
    have PK:=hSk (k+1)
    refine rs hx fun K hK=>?_
    refine sa ?_
    refine nl hK ?_
    refine AW.seq (AW.condS rfl (fun hb=>?_) (fun hb=>?_))
    ·have hkc:k<c.length:=by have:=bA hb;omega
     have qC:0≤(k:Int)∧(k:Int)<((c.length:Nat):Int):=by omega
     refine AW.skip (AW.seq (AW.block (rs hx fun K hK=>?_)))
     refine sa ?_
     refine s1 (OF qC ct aT) ?_
     refine s1 (d:=dG au c[k]!) (kA (c:=au) (l:=c) (n:=k) (o:=0) aT hkc (fV _ _ rfl)) ?_
     refine n1 ?_
     refine sa ?_
     refine z1 ?_
     refine nl hK ?_
     generalize c[k]! =ck at DN ⊢
     generalize gt rz w c k=g1 at DN hDj Ar B0 tF
     have hup:∀(j:Nat) (ds:List D),W.lookup j=some ds→((N+4,dC (au.f ck))::(N+4,dC zN)::W).lookup j=some ds:=fun j ds h=>by
      have:=nW.lt h
      exact ak (by omega) (ak (by omega) h)
     have SW:=hDj.up hup
     have hfd:=Mb (lv:=lv) (N:=N+4+1) (v:=((k+1:Nat):Int)) SW (by show rz.length≤_;have:=xa.len;dsimp only at this;omega)
     have hoX:ci ⟨(N+4,dC (au.f ck))::(N+4,dC zN)::W,lv,N+4+1⟩:=ci.consM (ci.consM (nW.up (by omega)) (by omega) (ep _)) (by omega) (ep _)
     have DF:∀k' ds,k'≠kd→(i≠0→k'≠R)→k'≠N+3→(∀j,j<i→k'≠C j)→vs.lookup k'=some ds→((N+4,dC (au.f ck))::(N+4,dC zN)::W).lookup k'=some ds:=fun k' ds h1 h2 h3 h4 h=>hup k' ds (tF k' ds h1 h2 h3 h4 h)
     have hcX:((N+4,dC (au.f ck))::(N+4,dC zN)::W).lookup (N+4)=some (dC (au.f ck)):=aa
     generalize (N+4,dC (au.f ck))::(N+4,dC zN)::W=X at SW hfd hoX DF hcX ⊢
     have hdX:=SW.hd
     have hGX:=SW.hG
     refine rs hx fun K hK=>?_
     iterate 3 refine sa ?_
     rw[bS]
     refine q1 (sHC hfd rfl (.inl (by kernel_rfl))) ?_
     refine sa ?_
     refine nl hK ?_
     refine rs hx fun K hK=>?_
     iterate 2 refine sa ?_
     refine nl hK ?_
     dsimp only
     refine AW.condS rfl (fun hb=>?_) (fun hb=>?_)
     ·have vd:0≤db rz ((k+1:Nat):Int):=bA hb
      rw[ai vd] at DN
      obtain⟨a,ha,PG⟩:∃a:Nat,a<i∧db rz ((k+1:Nat):Int)=(a:Int):=by
       have Sr:=xa.len
       dsimp only at Sr
       unfold db at vd ⊢
       cases Pz:rz.findIdx? fun r=>decide (r.b=((k+1:Nat):Int)) with
       |none=>rw[Pz] at vd;exact absurd vd (by decide)
       |some a=>exact⟨a,by have:=(ox.1 Pz).1;omega,rfl⟩
      rw[PG,show ((a:Int)).toNat=a by omega] at DN
      have hra:=SW.row (i:=a) (by have:=xa.len;dsimp only at this ⊢;omega)
      obtain⟨_,_,e3,t4,_,⟨F5,F5',e5,L5⟩,fk⟩:=hra
      dsimp only at e3 t4 L5 fk
      have hk5:=hoX.lt e5
      have hkX:=hoX.lt hdX
      have hkC:=Cs.C1 a ha
      have hadd:=h_add (lv:=lv) (N:=N+4+1) (q:=ck) (xk:=rz[a]!.k) (but:=-1) hdX mh hGX SW.lG e3 t4 Cs.dG hkC.2.2 hkC.1 hw
      refine rqd [] hx fun K hK=>?_
      iterate 3 refine sa ?_
      refine l1 (Pt.idN ck) ?_
      iterate 3 refine sa ?_
      refine c1 gi ?_
      refine sa ?_
      refine r1 (n:=rz.length) (i:=a) (by have:=xa.len;dsimp only at this;omega) ?_ (by show (eU R _).toOw=_;rw[fk];rfl) (by show D.toOw (dI .i64 _)=_;rw[PG];rfl)
      refine sa ?_
      refine p1 L5 (bR _ _ _) ?_
      refine q1 (sHC hadd rfl (.inl (by kernel_rfl))) ?_
      refine nl hK ?_
      have Me:=SW.setGK (B0.dif Cs) (wK ck rz[a]!.k g1.1) (tT ck rz[a]!.c (-1) g1.2) (by rw[tS];exact Ar)
      refine rq hx fun K hK=>?_
      iterate 2 refine sa ?_
      refine nl hK ?_
      rw[bS]
      rw[DN] at PK
      refine⟨k+1,?_,hkc,by omega⟩
      rw[DN]
      exact wk1 h0 (hok:=sX _ PK) (hv:=wh Cs PK Me fun k' ds h1 h2 h3 h4 h=>ak h3 (ak h1 (DF k' ds h1 h2 h3 h4 h)))
     ·have bH:¬0≤db rz ((k+1:Nat):Int):=de hb
      rw[ah bH] at DN
      refine rqd [66] hx fun K hK=>?_
      iterate 4 refine sa ?_
      refine c1 mh.pc ?_
      iterate 2 refine sa ?_
      rw[bS]
      iterate 4 refine sa ?_
      refine c1 mh.pc ?_
      iterate 2 refine sa ?_
      rw[bS]
      refine i1 (i:=k+1) (n:=w) (by omega) ?_
      refine l1 (Pt.el g1.2 (k+1) (by omega)) ?_
      refine l1 (Pt.idN ck) ?_
      refine cq (w_Add _ _) ?_
      refine i1 (i:=k+1) (n:=w) (by omega) ?_
      refine t1 (Pt.el g1.2 (k+1) (by omega)) (Pt.el_set g1.2 (k+1) (by omega) _) ?_
      refine nl hK ?_
      have Me:=SW.setG (B0.dif Cs) (g1.2.set (k+1) (jA g1.2[k+1]! ck)) (by rw[cU];exact Ar)
      refine rq hx fun K hK=>?_
      iterate 2 refine sa ?_
      refine nl hK ?_
      rw[bS]
      rw[DN] at PK
      refine⟨k+1,?_,hkc,by omega⟩
      rw[DN]
      exact wk1 h0 (hok:=sX _ PK) (hv:=wh Cs PK Me fun k' ds h1 h2 h3 h4 h=>ak h3 (DF k' ds h1 h2 h3 h4 h))
    ·refine AW.exit ?_
     have hkc:k=c.length:=by have:=de hb;omega
     subst hkc
     have hdX:=hDj.hd
     have hgd:=Ma (lv:=lv) (N:=N+4) (k:=(gt rz w c c.length).1) hDj.hG Ar hw
     have vE:=wh (vs:=vs) Cs B0 hDj tF
     refine AW.seq (rs hx fun K hK=>?_)
     iterate 3 refine sa ?_
     refine p1 mh.pa (bR _ _ _) ?_
     refine q1 (sHC hgd rfl (.inl (by kernel_rfl))) ?_
     refine sa ?_
     refine nl hK ?_
     rw[haim]
     refine AW.condS rfl (fun hb=>?_) (fun hb=>?_)
     ·rw[ah (by simpa using hb)]
      refine rs hx fun K hK=>?_
      refine sa ?_
      refine nl hK ?_
      exact AW.ret (rtN h0 (sK N 4) (sX _ B0) (ay _) vE)
     ·rw[ai (by simpa using hb)]
      refine AW.skip (rs hx fun K hK=>?_)
      refine sa ?_
      refine nl hK ?_
      exact AW.ret (rtN h0 (sK N 4) (sX _ B0) (ay _) vE)
end
end
section
theorem HC.conv {P:Program}{f:FuncId}{ds ds':List D}{hp hp':Hp}{d:D}(hl:ds'.length=ds.length)(hr:∀(g:Gh) (w:World) (j:Nat) (a b:D) (v:Value),ds[j]? =some a→ds'[j]? =some b→aE hp g w a v→aE hp g w b v)(hc:HC P f ds' hp d hp'):HC P f ds hp d hp':=by
 refine⟨hc.1,fun B g w vs pB hsz cM=>hc.2 B g w vs pB (by omega) fun j e u he hu=>?_⟩
 have hj:j<ds.length:=by rw[←hl];exact (fy.1 he).1
 exact hr g w j ds[j] e u (cz hj) he (cM j ds[j] u (cz hj) hu)
theorem NA {hp:Hp}{g:Gh}{w:World}{f:FuncId}{v:Value}(h:aE hp g w (.e (.lit (.func (.func f) #[] #[]))) v):aE hp g w (.fn f []) v:=by
 have h2:=h.lit
 subst h2
 exact .fn f [] (fun k hk=>absurd hk (ql))
section
variable {vs V V2:List (Nat×List D)} {lv:List (Nat×Nat×Nat×TypeId)} {N kd R G w m:Nat} {C:Nat→Nat} {d:Dic}
theorem JY {fo ft:FuncId}{ko kt:List Nat}{of:Row→Nu}{ot:Nat→Int}{nn:Nat}(hD:DAt vs kd R G C w d)(hS:cH d w m)(hm:m≤1000000)(Pu:d.n=(nn:Int))(FQ:nn≤1000000)
  (hko:∀k,k∈ko→k<N) (hkt:∀k,k∈kt→k<N) (hot2:∀v,-2≤ot v∧ot v≤2)
  (hof:∀(V2:List (Nat×List D)) (Fa:List (Nat×Nat×Nat×TypeId)) (M i:Nat),(∀k ds,vs.lookup k=some ds→V2.lookup k=some ds)→i<m→HC prog fo ([.ag (iH C w i d.rows[i]!)]++ko.map fun k=>.pt k 0) ⟨V2,Fa,M⟩ (dG au (of d.rows[i]!)) ⟨V2,Fa,M⟩)
  (hot:∀(V2:List (Nat×List D)) (Fa:List (Nat×Nat×Nat×TypeId)) (M v:Nat),(∀k ds,vs.lookup k=some ds→V2.lookup k=some ds)→HC prog ft ([dI .i64 v]++kt.map fun k=>.pt k 0) ⟨V2,Fa,M⟩ (dI .i64 (ot v)) ⟨V2,Fa,M⟩):
  HC prog 47 [.pt kd 0,.fn fo ko,.fn ft kt] ⟨vs,lv,N⟩ (.e (slE au (cJ d.rows nn of fun v=>nOf (ot v)))) ⟨vs,lv,N⟩:=by
 refine HC.of (rs:=[.tmp 6]) tok func47 rfl rfl (bc rfl) rfl (fun cx hx h0 hok=>?_)
 simp only[fj,Nat.reduceAdd,bp]
 have hl:=hS.len
 have vK:=hD.hd
 have FR:=hok.lt vK
 obtain⟨f,hf⟩:∃f:Nat→Nu,f=fun j=>if 0≤db d.rows ((j+1:Nat):Int) then of d.rows[(db d.rows ((j+1:Nat):Int)).toNat]! else nOf (ot (j+1)):=⟨_,rfl⟩
 have hfv:cJ d.rows nn of (fun v=>nOf (ot v))=(List.range nn).map f:=by rw[hf];rfl
 have hsk:∀M,N≤M→(D.fn fo ko).idsB M=true∧(D.fn ft kt).idsB M=true:=fun M hM=>⟨a7.2 fun k hk=>aA (by have:=hko k hk;omega),a7.2 fun k hk=>aA (by have:=hkt k hk;omega)⟩
 refine rs hx fun K hK=>?_
 refine s1 (d:=dO N au ([]:List Nu)) (gl ct aT) ?_
 refine nl hK ?_
 refine rs hx fun K hK=>?_
 refine s1 (d:=dO (N+1) au ([]:List Nu)) (gl ct aT) ?_
 refine nl hK ?_
 have Sh:∀u:Nat,ci ⟨vs,(N+1,u,36,43)::lv,N+1+1⟩:=fun u=>by
  refine⟨fun j ds h=>?_,fun id e h=>?_⟩
  ·obtain⟨h1,h2⟩:=hok.var j ds h
   have h1:j<N:=h1
   exact⟨show j<N+1+1 by omega,a7.2 fun d hd=>D.idsC_le (show N≤N+1+1 by omega) (a7.1 h2 d hd)⟩
  ·by_cases hid:id=N+1
   ·show id<N+1+1;omega
   ·have:=hok.tok id e (by rw[←h];exact (am hid).symm)
    have:id<N:=this
    show id<N+1+1;omega
 refine AW.seq (rs hx fun K hK=>?_)
 refine sa ?_
 refine nl hK ?_
 refine AW.block (AW.loopW (fun u:Nat=>[(0,.pt kd 0),(1,.fn fo ko),(2,.fn ft kt),(7,dO (N+1) au ((List.range u).map f)),(8,dI .i64 (u+1:Nat))]) (fun u=>⟨vs,(N+1,u,36,43)::lv,N+1+1⟩) (fun u=>u≤nn) (fun u=>nn - u) 0 ?_ (cl _) ?_)
 ·refine Fs (by rw[h0];show N≤N+1+1;omega) (ay _) (Sh 0) (fun j ds h=>h) (fun j y h=>?_) (bE.cons (bE.cons (bE.cons (bE.cons (bE.cons bE.nil rfl rfl) rfl (aA (show N+1<N+1+1 by omega))) rfl (hsk _ (by omega)).2) rfl (hsk _ (by omega)).1) rfl (aA (show kd<N+1+1 by omega)))
  by_cases hj:j=N+1
  ·subst hj
   rw[←h]
   exact aa.trans aa.symm
  ·have h1:lv.lookup j=some y:=by rw[←h];exact (am hj).symm
   have h2:j<N:=hok.tok j y h1
   exact (am hj).trans ((am (show j≠N by omega)).trans h1)
 ·intro u hu
  have Px:((List.range u).map f).length=u:=by simp
  refine AW.seq (rs hx fun K hK=>?_)
  iterate 4 refine sa ?_
  refine c1 dic_n ?_
  rw[Pu]
  refine sa ?_
  refine nl hK ?_
  refine AW.condS rfl (fun hb=>?_) (fun hb=>?_)
  ·have hun:u<nn:=by have:=bA hb;omega
   refine AW.skip ?_
   have hfd:=Mb (lv:=(N+1,u,36,43)::lv) (N:=N+1+1) (v:=((u+1:Nat):Int)) hD (by omega)
   have qN:(List.range (u+1)).map f=(List.range u).map f++[f u]:=by rw[wz,jz];rfl
   have hfu:f u=if 0≤db d.rows ((u+1:Nat):Int) then of d.rows[(db d.rows ((u+1:Nat):Int)).toNat]! else nOf (ot (u+1)):=by rw[hf]
   have R6:∀{tm:List (Nat×D)} {vX:List (Nat×List D)} {n2:Nat},(∀j ds,vs.lookup j=some ds→vX.lookup j=some ds)→N+1+1≤n2→tm.lookup 0=some (.pt kd 0)→tm.lookup 1=some (.fn fo ko)→tm.lookup 2=some (.fn ft kt)→tm.lookup 7=some (dO (N+1) au ((List.range u).map f++[f u]))→tm.lookup 8=some (dI .i64 ((u+1+1:Nat):Int))→
     Wk cx tm ⟨vX,(N+1,((List.range u).map f++[f u]).length,36,43)::(N+1+1,1,36,43)::(N+1,u,36,43)::lv,n2⟩ [(0,.pt kd 0),(1,.fn fo ko),(2,.fn ft kt),(7,dO (N+1) au ((List.range (u+1)).map f)),(8,dI .i64 (u+1+1:Nat))] ⟨vs,(N+1,u+1,36,43)::lv,N+1+1⟩:=fun hv hn a b c e g=>by
    rw[qN]
    refine Fs (by rw[h0];show N≤N+1+1;omega) hn (Sh (u+1)) hv (fun j y h=>?_) (bE.cons (bE.cons (bE.cons (bE.cons (bE.cons bE.nil g rfl) e (aA (show N+1<N+1+1 by omega))) c (hsk _ (by omega)).2) b (hsk _ (by omega)).1) a (aA (show kd<N+1+1 by omega)))
    by_cases hj:j=N+1
    ·subst hj
     have h1:some (u+1,36,43)=some y:=by rw[←h];exact aa.symm
     rw[←h1]
     exact aa.trans (by rw[cu,Px];rfl)
    ·have h1:lv.lookup j=some y:=by rw[←h];exact (am hj).symm
     have h2:j<N:=hok.tok j y h1
     exact (am hj).trans ((am (show j≠N+1+1 by omega)).trans ((am hj).trans h1))
   refine AW.seq (AW.block (rs hx fun K hK=>?_))
   iterate 2 refine sa ?_
   refine q1 (sHC hfd rfl (.inl (by kernel_rfl))) ?_
   refine sa ?_
   refine nl hK ?_
   refine rs hx fun K hK=>?_
   iterate 2 refine sa ?_
   refine nl hK ?_
   refine AW.condS rfl (fun hb=>?_) (fun hb=>?_)
   ·have vd:0≤db d.rows ((u+1:Nat):Int):=bA hb
    rw[ai vd] at hfu
    obtain⟨a,ha,PG⟩:∃a:Nat,a<m∧db d.rows ((u+1:Nat):Int)=(a:Int):=by
     unfold db at vd ⊢
     cases Pz:d.rows.findIdx? fun r=>decide (r.b=((u+1:Nat):Int)) with
     |none=>rw[Pz] at vd;exact absurd vd (by decide)
     |some a=>exact⟨a,by have:=(ox.1 Pz).1;omega,rfl⟩
    rw[PG,show ((a:Int)).toNat=a by omega] at hfu
    obtain⟨_,_,_,_,⟨F5,F5',e5,L5⟩,_,fk⟩:=hD.row (i:=a) (by omega)
    have hk5:=hok.lt e5
    refine rq hx fun K hK=>?_
    iterate 5 refine sa ?_
    refine c1 gi ?_
    refine sa ?_
    refine r1 (n:=d.rows.length) (i:=a) (by omega) ?_ (by show (eU R _).toOw=_;rw[fk];rfl) (by show D.toOw (dI .i64 _)=_;rw[PG];rfl)
    refine p1 L5 (tv _ _ _ _) ?_
    refine q1 (sHF (hof vs _ _ a (fun _ _ h=>h) ha) rfl) ?_
    rw[←hfu]
    refine s1 (kT [f u] au ct aT) ?_
    refine s1 (rU (id:=N+1) (l:=(List.range u).map f) (l':=[f u]) ct aT (by rw[cu,Px];show (u+1)*136≤140737488355328;omega) rfl rfl rfl rfl (by rw[Px];exact (am (show N+1≠N+1+1 by omega)).trans aa)) ?_
    refine sa ?_
    refine nl hK ?_
    refine rq hx fun K hK=>?_
    iterate 3 refine sa ?_
    refine nl hK ?_
    rw[bS]
    exact⟨u+1,R6 (fun _ _ h=>h) (by omega) rfl rfl rfl rfl rfl,hun,by omega⟩
   ·have bH:¬0≤db d.rows ((u+1:Nat):Int):=de hb
    rw[ah bH] at hfu
    refine rq hx fun K hK=>?_
    iterate 3 refine sa ?_
    refine q1 (sHF (hot vs _ _ (u+1) (fun _ _ h=>h)) rfl) ?_
    refine cq (FB (ot (u+1)) (hot2 _)) ?_
    rw[←hfu]
    refine s1 (kT [f u] au ct aT) ?_
    refine s1 (rU (id:=N+1) (l:=(List.range u).map f) (l':=[f u]) ct aT (by rw[cu,Px];show (u+1)*136≤140737488355328;omega) rfl rfl rfl rfl (by rw[Px];exact (am (show N+1≠N+1+1 by omega)).trans aa)) ?_
    refine sa ?_
    refine nl hK ?_
    refine rq hx fun K hK=>?_
    iterate 3 refine sa ?_
    refine nl hK ?_
    rw[bS]
    exact⟨u+1,R6 (fun _ _ h=>h) (by omega) rfl rfl rfl rfl rfl,hun,by omega⟩
  ·refine AW.exit ?_
   have hun:u=nn:=by have:=de hb;omega
   refine rs hx fun K hK=>?_
   iterate 2 refine sa ?_
   refine nl hK ?_
   refine AW.ret ?_
   rw[hfv,hun]
   exact⟨[(6,D.ex (dO (N+1) au ((List.range nn).map f)))],Fs (by rw[h0];exact ay N) (show N≤N+1+1 by omega) hok (fun j ds h=>h) (fun j y h=>(am (by have h2:j<N:=hok.tok j y h;omega)).trans h) (bE.consX bE.nil rfl rfl),⟨_,aa,rfl⟩⟩
end
end
section
section
variable {P:Program} {tb:TypeId→Option TyE} {dr:Bool} {ty:TypeId} {ev:Operand→D} {hp:Hp} {t:TypeId} {i:TyE} {x:Operand} {xs:List E} {off:Nat} {e:E}
theorem T_ldX(he:xs[off]? =some e)(ht:tb t=some i)(hg:i.ty.agg=false:=by exact rfl)(hx:ev x=.fp xs off:=by exact rfl):AVC P tb dr (.load t x) ty ev hp (Kq (.e e) hp):=by
 rw[qG,hx,Dw,ht]
 simp only[hg]
 refine⟨(fy.1 he).1,?_⟩
 rw[show xs.getD off .any=e by rw[uD,he];rfl]
 exact Kq.here _ _
theorem AR.ptf {k:Nat}{ds:List D}{es:List E}(hv:hp.vars.lookup k=some ds)(hl:es.length=ds.length)(ha:∀(j:Nat) (d:D) (e:E),ds[j]? =some d→es[j]? =some e→AR hp d (.e e)):AR hp (.pt k 0) (.fp es 0):=by
 intro B g w v hr hd
 obtain⟨h1,h2,h3,cs,tt,h4,h5,h6⟩:=hr.var k ds hv
 cases hd with
 |pt _ _ hk=>
  have h0:(⟨g.μ k,0,none⟩:Addr).add 0=⟨g.μ k,0,none⟩:=by rw[Addr.add_lit]
  have:=aE.fp (hp:=⟨[],[],0⟩) (g:=⟨fun _=>0,fun _=>default,Fv hp g⟩) (w:=w) es 0 ⟨g.μ k,0,none⟩ (oD.1 h4).1 fun j e he=>?_
  ·rw[h0] at this;exact this
  ·have hj:j<ds.length:=by rw[←hl];exact (fy.1 he).1
   have hjc:j<cs.size:=by omega
   obtain⟨h7,h8⟩:=h6 j cs[j] (sI hjc)
   have h9:=ha j ds[j] e (cz hj) he B g w cs[j] hr (h8 ds[j] (cz hj))
   refine⟨cs[j],?_,fun hf=>hf.2 k ds hv (by rw[f4]),?_⟩
   ·rw[Addr.add_lit]
    simp[World.cell?,h4,sI hjc]
   ·cases h9 with
    |e _ _ h=>exact h
end
def Kg(d:Dic):List E:=[.any]++(au.f d.gk++[slE au d.gc])++[.lit (.int .i64 d.n),.lit (.int .i64 d.piv),.lit (.int .i64 d.most)]
theorem H5(a:Nu):(au.f a).length=36:=by rw[au.h];rfl
theorem dicE_c(d:Dic):(Kg d)[0+1+36]? =some (slE au d.gc):=by
 have:=H5 d.gk
 unfold Kg
 rw[Ag (by simp[this]),qm (by simp),show (0+1+36 - [E.any].length)=(au.f d.gk).length by rw[this];rfl,qm (by omega),yL]
 rfl
theorem dicE_n(d:Dic):(Kg d)[0+38]? =some (.lit (.int .i64 d.n)):=by
 have:=H5 d.gk
 unfold Kg
 rw[qm (by simp[this])]
 simp[this]
theorem OU {d:Dic}{nn w:Nat}(hl:d.gc.length=w)(Pu:d.n=(nn:Int))(hw:nn+1≤w)(hw2:w≤1000000):
  ar prog 44 [.fp (Kg d) 0] (.own 43 36 (bQ d nn).length ((bQ d nn).flatMap au.f)):=by
 refine bj (rs:=[.tmp 2]) (fun cx hx h0=>?_) func44
 obtain⟨l,LY⟩:∃l:List Nu,l=d.gc.drop (nn+1):=⟨_,rfl⟩
 have hlen:l.length=w - (nn+1):=by rw[LY,eV,hl]
 have LU:bQ d nn=l.map eR:=by rw[LY];rfl
 refine rs hx fun K hK=>?_
 refine s1 (d:=dO 0 au ([]:List Nu)) (gl ct aT) ?_
 refine nl hK ?_
 refine rs hx fun K hK=>?_
 refine s1 (d:=dO 1 au ([]:List Nu)) (gl ct aT) ?_
 refine nl hK ?_
 refine AW.seq (rsd [] hx fun K hK=>?_)
 iterate 4 refine sa ?_
 refine s1 (T_ldX (dicE_c d) tbI) ?_
 iterate 3 refine sa ?_
 refine s1 (T_ldX (dicE_n d) tbI) ?_
 rw[Pu]
 refine sa ?_
 rw[bS]
 have hsub:Cm d.gc ((nn+1:Nat):Int) (d.gc.length:Int)=l:=by
  rw[LY]
  unfold Cm
  rw[show (((nn+1:Nat):Int)).toNat=nn+1 by omega,gU (by rw[eV];omega)]
 refine s1 (d:=dL au (Cm d.gc ((nn+1:Nat):Int) (d.gc.length:Int))) (T_sl (c:=au) (l:=d.gc) (a:=((nn+1:Nat):Int)) (b:=(d.gc.length:Int)) (by omega) ct aT) ?_
 rw[hsub]
 refine nbr hK ?_
 refine AW.block (AW.loopW (fun u:Nat=>[(3,dO 1 au ((l.take u).map eR)),(16,dL au l),(17,dI .i64 (l.length:Nat)),(18,dI .i64 u)]) (fun u=>⟨[],[(1,u,36,43)],2⟩) (fun u=>u≤l.length) (fun u=>l.length - u) 0 ?_ (cl _) ?_)
 ·exact Fs (by rw[h0];exact cl _) (ay _) ⟨fun _ _ h=>by simp at h,fun id e h=>by rcases qk.1 (bD h) with h2;simp at h2;show id<2;omega⟩ (fun _ _ h=>h) (fun j y h=>by
   by_cases hj:j=1
   ·subst hj;rw[←h];rfl
   ·exact absurd h (by rw[am hj];simp)) (bE.cons (bE.cons (bE.cons (bE.cons bE.nil rfl rfl) rfl rfl) rfl rfl) rfl rfl)
 ·intro u hu
  have Px:((l.take u).map eR).length=u:=by rw[bh,ee];omega
  refine rar hx ?_
  refine AW.seq (AW.condS rfl (fun hb=>?_) (fun hb=>?_))
  ·have LQ:u<l.length:=by have:=bA hb;omega
   have qC:0≤(u:Int)∧(u:Int)<((l.length:Nat):Int):=by omega
   refine AW.skip (AW.seq (AW.block (rs hx fun K hK=>?_)))
   refine sbr ?_
   refine s1 (d:=dG au l[u]!) (kA (c:=au) (l:=l) (n:=u) (o:=0) aT LQ (fV _ _ rfl)) ?_
   refine n1 ?_
   refine z1 ?_
   refine nl hK ?_
   refine rq hx fun K hK=>?_
   refine sa ?_
   refine l1 (Pt.idN _) ?_
   refine cq (Jj _) ?_
   refine s1 (kT [eR l[u]!] au ct aT) ?_
   have BR:(l.take u).map eR++[eR l[u]!]=(l.take (u+1)).map eR:=by
    rw[Ae,jz,bJ l u LQ,cz LQ]
    rfl
   refine s1 (rU (id:=1) (l:=(l.take u).map eR) (l':=[eR l[u]!]) ct aT (by rw[cu,Px];show (u+1)*136≤140737488355328;omega) rfl rfl rfl rfl (by rw[Px];rfl)) ?_
   rw[BR]
   refine nbr hK ?_
   refine rbr hx ?_
   rw[bS]
   have hlu1:((l.take (u+1)).map eR).length=u+1:=by rw[←BR,cu,Px];rfl
   refine⟨u+1,Fs (by rw[h0];exact cl _) (show 2≤_ by decide) ⟨fun _ _ h=>by simp at h,fun id e h=>by rcases qk.1 (bD h) with h2;simp at h2;show id<2;omega⟩ (fun _ _ h=>by simp at h) (fun j y h=>?_) (bE.cons (bE.cons (bE.cons (bE.cons bE.nil rfl rfl) rfl rfl) rfl rfl) rfl rfl),LQ,by omega⟩
   by_cases hj:j=1
   ·subst hj;rw[←h,hlu1];rfl
   ·exact absurd h (by rw[am hj];simp)
  ·refine AW.exit ?_
   have LQ:u=l.length:=by have:=de hb;omega
   refine rar hx ?_
   refine AW.ret ?_
   have vE:(l.take u).map eR=bQ d nn:=by rw[LQ,List.take_length,LU]
   have IX:(bQ d nn).length=u:=by rw[LU,bh,LQ]
   rw[vE]
   refine nY.own (id:=1) rfl ?_
   rw[IX];rfl
section
variable {vs:List (Nat×List D)} {lv:List (Nat×Nat×Nat×TypeId)} {N kd R G w m nn:Nat} {C:Nat→Nat} {d:Dic}
theorem o9 {α:Type}{a b:List α}{j:Nat}{x:α}(h:(a++b)[j]? =some x):(j<a.length∧a[j]? =some x)∨(a.length≤j∧b[j - a.length]? =some x):=by
 rcases d6 j a.length with h1|h1
 ·exact .inl ⟨h1,by rw[Ag h1] at h;exact h⟩
 ·exact .inr ⟨h1,by rw[qm h1] at h;exact h⟩
theorem AR.dic(hD:DAt vs kd R G C w d):AR ⟨vs,lv,N⟩ (.pt kd 0) (.fp (Kg d) 0):=by
 have hk:=H5 d.gk
 refine AR.ptf hD.hd ?_ fun j x e hx he=>?_
 ·unfold mQ Kg aW
  simp[hk,er]
 ·unfold mQ aW at hx
  unfold Kg at he
  rcases o9 hx with⟨a1,hx⟩|⟨a1,hx⟩ <;> rcases o9 he with⟨b1,he⟩|⟨b1,he⟩
  ·rcases o9 hx with⟨a2,hx⟩|⟨a2,hx⟩ <;> rcases o9 he with⟨b2,he⟩|⟨b2,he⟩
   ·obtain rfl:j=0:=by simp at a2;omega
    simp at hx he
    subst hx he
    intro B g w2 v hr hd
    refine .e _ _ (.any _ ?_)
    cases hl:d.rows with
    |nil=>rw[hl] at hd;exact (hd.lit▸rfl)
    |cons r l=>rw[hl] at hd;cases hd;rfl
   ·simp at a2 b2;omega
   ·simp at a2 b2;omega
   ·simp only[rI,Ij] at hx he a2
    rcases o9 hx with⟨a3,hx⟩|⟨a3,hx⟩ <;> rcases o9 he with⟨b3,he⟩|⟨b3,he⟩
    ·unfold dC at hx
     rw[dQ,he] at hx
     injection hx with hx
     subst hx
     exact AR.data (d:=.e e) rfl
    ·rw[er] at a3;omega
    ·rw[er] at a3;omega
    ·rw[er] at a3 hx
     have h0:j - (0+1) - (au.f d.gk).length=0:=by
      have:=(fy.1 hx).1
      simp at this;omega
     rw[h0] at hx he
     simp at hx he
     subst hx he
     exact AR.list hD.hG hD.lG
  ·simp[er] at a1 b1;omega
  ·simp[er] at a1 b1;omega
  ·have e1:(([eU R d.rows]++(dC (au.f d.gk)++[D.ow G 0 36 w])).length)=([E.any]++(au.f d.gk++[slE au d.gc])).length:=by simp[er]
   rw[e1] at hx
   generalize j - ([E.any]++(au.f d.gk++[slE au d.gc])).length=q at hx he
   have hq:q=0∨q=1∨q=2:=by
    have:=(fy.1 he).1
    simp at this;omega
   rcases hq with rfl|rfl|rfl
   all_goals
    simp at hx he
    subst hx he
    exact AR.data (d:=dI .i64 _) rfl
theorem lit_Nu(l:List Nu):(l.flatMap au.f).all E.isLit=true:=by
 rw[a7]
 intro x hx
 obtain⟨a,_,ha⟩:=List.mem_flatMap.1 hx
 have h2:∀y,y∈aq.f a.1.vN∨y∈aq.f a.1.vD→y.isLit=true:=by
  have h3:∀z:ap,∀y∈aq.f z,y.isLit=true:=fun z y hy=>by
   rcases vg.1 (show y∈[E.lit (.bool z.vBad),.lit (.bool z.vNeg)]++(cA 16 (cI .u32)).f z.vW from hy) with h|h
   ·simp at h;rcases h with rfl|rfl <;> rfl
   ·obtain⟨n,_,hn⟩:=List.mem_flatMap.1 (show y∈z.vW.toList.flatMap (cI .u32).f from h)
    rw[qk.1 hn];rfl
  rintro y (h|h)
  ·exact h3 _ y h
  ·exact h3 _ y h
 exact h2 x (vg.1 (show x∈aq.f a.1.vN++aq.f a.1.vD from ha))
theorem PH(hD:DAt vs kd R G C w d)(Pu:d.n=(nn:Int))(hw:nn+1≤w)(hw2:w≤1000000)(hm:0<(bQ d nn).length):
  HC prog 44 [.pt kd 0] ⟨vs,lv,N⟩ (.gw N 36 (bQ d nn).length) ⟨(N,dC ((cW au).f (bQ d nn)))::vs,lv,N+1⟩:=
 HC.adopt (OU hD.lG Pu hw hw2) (hp:=⟨vs,lv,N⟩) ⟨AR.dic hD,trivial⟩ hm (lit_Nu _)
end
end
section
theorem HC.weak {P:Program}{f:FuncId}{ds:List D}{hp:Hp}{d:D}{vars vars':List (Nat×List D)}{lv lv':List (Nat×Nat×Nat×TypeId)}{n n':Nat}(hc:HC P f ds hp d ⟨vars,lv,n⟩)(h0:hp.next≤n')
  (h:ci hp→ci ⟨vars',lv',n'⟩∧(∀j ds,vars'.lookup j=some ds→vars.lookup j=some ds)∧(∀j y,lv'.lookup j=some y→lv.lookup j=some y)∧d.idsB n'=true):HC P f ds hp d ⟨vars',lv',n'⟩:=by
 refine⟨hc.1,fun B g w vs hr hsz cM=>(hc.2 B g w vs hr hsz cM).mono ?_⟩
 obtain⟨hok,hv,hl,hd⟩:=h hr.ok
 rintro e w' ⟨v,g',rfl,pB,hM,hrd,hb,hF⟩
 have dv:∀id y,lv'.lookup id=some y→lv.lookup id=some y:=hl
 refine⟨v,g',rfl,⟨fun k ds hk=>?_,fun k k' a b hk vy he=>pB.inj k k' a b (hv k a hk) (hv k' b vy) he,fun id m e hi=>?_,fun id Be t t' b hi vz=>pB.tinj id Be t t' b (dv _ _ hi) (dv _ _ vz),pB.base,pB.fits⟩,
  ⟨hM.size,hM.cell,hM.forb,h0,hM.μ,fun id hid m e Py=>hM.live id hid m e (dv id _ Py),fun b hb hf=>⟨(hM.fr b hb hf).1,(hM.fr b hb hf).2.1,fun k ds hk=>(hM.fr b hb hf).2.2.1 k ds (hv k ds hk),fun id t hi=>(hM.fr b hb hf).2.2.2 id t (dv id _ hi)⟩,hM.szs⟩,DA hrd hd rfl dv,hb,hF⟩
 ·obtain⟨_,h3,h4,cs,ty,h5,h6,h7⟩:=pB.var k ds (hv k ds hk)
  obtain⟨h1,h2⟩:=hok.var k ds hk
  exact⟨h1,h3,h4,cs,ty,h5,h6,fun j u hu=>⟨(h7 j u hu).1,fun d hd=>iq ((h7 j u hu).2 d hd) (a7.1 h2 d (dZ hd)) rfl dv⟩⟩
 ·obtain⟨_,us,h2,h3,h4⟩:=pB.tok id m e (dv _ _ hi)
  exact⟨hok.tok id _ hi,us,h2,h3,fun b hb=>⟨(h4 b hb).1,fun k ds hk=>(h4 b hb).2 k ds (hv k ds hk)⟩⟩
theorem resV {q:Nat}{tt:TypeId}{ti:TyE}{k:Nat}{F:List D}{vs:List (Nat×List D)}{lv:List (Nat×Nat×Nat×TypeId)}{N:Nat}{tm:List (Nat×D)}{k2:D→Prop}(ht:tbl tt=some ti)(hl:tm.lookup q=some (.pt k 0))(hv:vs.lookup k=some F)(hk:k<N)(hz:F.length=ti.size)(hg:ti.ty.agg=true)(h:k2 (.ag F)):sR tbl tm ⟨vs,lv,N⟩ (.cell q tt) k2:=by
 refine⟨.pt k 0,hl,⟨_,ht⟩,?_⟩
 rw[n7,ht]
 simp only[hv,hg]
 refine⟨hk,by omega,?_⟩
 rw[qu,gU (by omega)]
 exact h
theorem HC.forget {P:Program}{f:FuncId}{ds:List D}{d:D}{vs vars:List (Nat×List D)}{lv:List (Nat×Nat×Nat×TypeId)}{N n:Nat}(hc:HC P f ds ⟨vs,lv,N⟩ d ⟨vars,lv,n⟩)(hv:∀j ds,j<N→vs.lookup j=some ds→vars.lookup j=some ds)(hd:d.idsB N=true):HC P f ds ⟨vs,lv,N⟩ d ⟨vs,lv,N⟩:=
 hc.weak (ay N) fun hok=>⟨hok,fun j ds h=>hv j ds (hok.lt h) h,fun _ _ h=>h,hd⟩
section
variable {vs:List (Nat×List D)} {lv:List (Nat×Nat×Nat×TypeId)} {N w i ks s:Nat} {C:Nat→Nat} {r:Row}
theorem rtN1 {x:Cx}{tm:List (Nat×D)}{oY vs2:List (Nat×List D)}{vs0:List (Nat×List D)}{lv0:List (Nat×Nat×Nat×TypeId)}{N0 M n2 q k:Nat}{a:Nu}(h0:x.hp0=⟨vs0,lv0,N0⟩)(hM:N0≤M)(hok:ci ⟨oY,lv,M⟩)(hN:M≤n2)(hv:∀j ds,oY.lookup j=some ds→vs2.lookup j=some ds)(hk:oY.lookup k=some (dC (au.f a)))(hq:tm.lookup q=some (.pt k 0)):
  ∃tm',Wk x tm ⟨vs2,lv,n2⟩ tm' ⟨oY,lv,M⟩∧te tbl [.cell q 43] tm' ⟨oY,lv,M⟩ (dG au a):=
 ⟨[(q,.pt k 0)],wkS (by rw[h0];exact hM) hN hok hv (bE.nil.cons hq (aA (hok.lt hk))),resV aT aa hk (hok.lt hk) (iI a) rfl rfl⟩
theorem ST:HC prog 48 ([.ag (iH C w i r)]++([]:List Nat).map fun k=>.pt k 0) ⟨vs,lv,N⟩ (dG au r.k) ⟨vs,lv,N⟩:=by
 refine HC.forget (vars:=(N+1,dC (au.f r.k))::vs) (n:=N+2) ?_ (fun j ds hj h=>ak (by omega) h) (ep _)
 refine HC.of (rs:=[.cell 2 43]) tok func48 rfl rfl (bc rfl) rfl (fun cx hx h0 hok=>?_)
 simp only[fj,m9,sL,Nat.reduceAdd,bp]
 refine rs hx fun K hK=>?_
 refine s1 (gF (cs:=iH C w i r)) ?_
 refine n1 ?_
 refine nl hK ?_
 refine rs hx fun K hK=>?_
 iterate 2 refine sa ?_
 refine l1 (Q8 (C:=C) (w:=w) (j:=i) (r:=r)) ?_
 refine z1 ?_
 refine nl hK ?_
 refine AW.ret ?_
 exact rtN1 h0 (by omega) (ci.consM (hok.up (by omega)) (by omega) (ep _)) (ay _) (fun j ds h=>by
  rcases bY h with⟨rfl,rfl⟩|⟨hj,h⟩
  ·exact aa
  ·have:=hok.lt h
   exact ak hj (ak hj (ak (by omega) h))) aa rfl
theorem SS(v:Nat):HC prog 49 ([dI .i64 v]++([]:List Nat).map fun k=>.pt k 0) ⟨vs,lv,N⟩ (dI .i64 0) ⟨vs,lv,N⟩:=by
 refine HC.of (rs:=[.tmp 2]) tok func49 rfl rfl (bc rfl) rfl (fun cx hx h0 hok=>?_)
 simp only[fj,m9,sL,Nat.reduceAdd,bp]
 refine rs hx fun K hK=>?_
 refine sa ?_
 refine nl hK ?_
 refine rs hx fun K hK=>?_
 refine sa ?_
 refine nl hK ?_
 exact AW.ret (rt1 h0)
theorem SR(hs:vs.lookup ks=some [dI .i64 s])(hc:vs.lookup (C i)=some (dC ((cW au).f r.c)))(hl:r.c.length=w)(hsw:s<w):HC prog 50 ([.ag (iH C w i r)]++[ks].map fun k=>.pt k 0) ⟨vs,lv,N⟩ (dG au r.c[s]!) ⟨vs,lv,N⟩:=by
 refine HC.forget (vars:=(N+1,dC (au.f r.c[s]!))::vs) (n:=N+2) ?_ (fun j ds hj h=>ak (by omega) h) (ep _)
 refine HC.of (rs:=[.cell 3 43]) tok func50 rfl rfl (bc rfl) rfl (fun cx hx h0 hok=>?_)
 simp only[fj,m9,j4,Ep,nd,Nat.reduceAdd,bp]
 have Ss:=hok.lt hs
 have yB:=hok.lt hc
 refine rs hx fun K hK=>?_
 refine s1 (gF (cs:=iH C w i r)) ?_
 refine n1 ?_
 refine nl hK ?_
 refine rs hx fun K hK=>?_
 iterate 2 refine sa ?_
 refine c1 (Lt (C:=C) (w:=w) (j:=i) (r:=r)) ?_
 refine c1 (Pt.all (F:=[dI .i64 s])) ?_
 refine i1 hsw ?_
 refine l1 (Pt.el r.c s (by omega)) ?_
 refine z1 ?_
 refine nl hK ?_
 refine AW.ret ?_
 exact rtN1 h0 (by omega) (ci.consM (hok.up (by omega)) (by omega) (ep _)) (ay _) (fun j ds h=>by
  rcases bY h with⟨rfl,rfl⟩|⟨hj,h⟩
  ·exact aa
  ·have:=hok.lt h
   exact ak hj (ak hj (ak (by omega) h))) aa rfl
theorem SQ(v:Nat)(hs:vs.lookup ks=some [dI .i64 s]):HC prog 51 ([dI .i64 v]++[ks].map fun k=>.pt k 0) ⟨vs,lv,N⟩ (dI .i64 (if (v:Int)=(s:Int) then 1 else 0)) ⟨vs,lv,N⟩:=by
 refine HC.of (rs:=[.tmp 3]) tok func51 rfl rfl (bc rfl) rfl (fun cx hx h0 hok=>?_)
 simp only[fj,m9,j4,Ep,nd,Nat.reduceAdd,bp]
 have Ss:=hok.lt hs
 refine rs hx fun K hK=>?_
 refine sa ?_
 refine nl hK ?_
 refine AW.seq (rs hx fun K hK=>?_)
 refine sa ?_
 refine c1 (Pt.all (F:=[dI .i64 s])) ?_
 refine sa ?_
 refine nl hK ?_
 refine AW.condS rfl (fun hb=>?_) (fun hb=>?_)
 ·rw[ai (bA hb)]
  refine rs hx fun K hK=>?_
  refine sa ?_
  refine nl hK ?_
  exact AW.ret (rt1 h0)
 ·rw[ah (de hb)]
  refine AW.skip (rs hx fun K hK=>?_)
  refine sa ?_
  refine nl hK ?_
  exact AW.ret (rt1 h0)
end
end
def fc(cZ:Int):Option (List ao):=if 0≤cZ∧cZ≤1000000 then some (List.replicate cZ.toNat (nv (nOf 0))) else none
theorem TJ(l:List Nu):(cW au).f l=(cW al).f (l.map nv):=by
 show l.flatMap au.f=(l.map nv).flatMap al.f
 rw[List.flatMap_map]
 rfl
theorem kF(l:List Nu):slE au l=slE al (l.map nv):=by
 unfold slE
 have:=TJ l
 rw[bh]
 show E.sl 36 l.length ((cW au).f l)=E.sl 36 l.length ((cW al).f (l.map nv))
 rw[this]
theorem nh {cZ:Int}{r:List ao}(h:fc cZ=some r):ar prog 75 [dI .i64 cZ] (dL al r):=by
 unfold fc at h
 split at h
 rotate_left
 ·cases h
 rename_i hn
 injection h with h
 obtain⟨n,rfl⟩:∃n:Nat,cZ=(n:Int):=⟨cZ.toNat,by omega⟩
 have hr:slE al r=slE au (List.replicate n (nOf 0)):=by
  rw[kF,←h,EE,show ((n:Int)).toNat=n by omega]
 show ar _ _ _ (.e (slE al r))
 rw[hr]
 refine bj (rs:=[.tmp 2]) (fun cx hx h0=>?_) func75
 refine rs hx fun K hK=>?_
 refine s1 (d:=dO 0 au ([]:List Nu)) (gl ct aT) ?_
 refine nl hK ?_
 refine rs hx fun K hK=>?_
 refine cq (FB 0 (by omega)) ?_
 refine s1 (kT [nOf 0] au ct aT) ?_
 refine sa ?_
 refine q1 (sHC (HC.args (ds:=[dO 1 au [nOf 0],dI .i64 n]) (ds':=[.e (slE au [nOf 0]),dI .i64 n]) ⟨RJ _,ax _,trivial⟩ (J0 (vs:=[]) (N:=2) (by omega))) rfl (.inr ⟨show 2≤4 by decide,fun j hj=>am (by have:j<2:=hj;omega)⟩)) ?_
 refine nbr hK ?_
 refine fzA au 3 [2] (s9 ..).symm ?_ (all1 rfl)
 exact AW.ret (rv1)
end
end Go.Proofs.YtaedcknhkjpmlaaGreat
