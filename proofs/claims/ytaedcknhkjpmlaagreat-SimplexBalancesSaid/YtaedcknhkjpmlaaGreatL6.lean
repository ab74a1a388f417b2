/-
Lemmas. Conditions: none.
-/
import Derived.Test.YtaedcknhkjpmlaaGreatL5
set_option linter.all false
set_option maxRecDepth 100000
set_option maxHeartbeats 4000000
namespace Go.Proofs.YtaedcknhkjpmlaaGreat
open Go.RowKit Go.IntKind Tryz
noncomputable section
def kF(c:List Nu):Option Nat:=c.findIdx? fun x=>decide (0<bE x)
def ie:Nat→Dic→(Int×Int)×Dic
 |0,d=>((-1,0),d)
 |f+1,d=>match kF d.gc with
  |none=>((-1,0),d)
  |some s=>match jy d.rows s default d.rows.length with
   |none=>((-1,30),d)
   |some p=>if p.1<0 then (((s:Int),0),d) else
    let q:=dX d p.1.toNat s
    if q.1=0 then ie f q.2 else ((-1,q.1),q.2)
def aV(d:Dic):(Int×Int)×Dic:=ie ((d.most - d.piv).toNat+1) d
def uC(x:Nu)(r:Row):Row:=⟨r.k,r.c.set 0 x,r.b⟩
def j7(l:List Row):Nat→Nat
 |0=>0
 |i+1=>if qH l[i]!.k l[j7 l i]!.k<0 then i else j7 l i
def cv(d:Dic):Dic:=⟨d.rows.map (uC (nOf 1)),d.gk,d.gc.set 0 (nOf (-1)),d.n,d.piv,d.most⟩
def yK(c:List Nu):Option Nat:=c.findIdx? fun x=>decide (bE x≠0)
def jU(d:Dic):Int×Dic:=
 let p:=dX (cv d) (j7 d.rows d.rows.length) 0
 if p.1≠0 then p else
 let q:=aV p.2
 if q.1.2≠0∨bE q.2.gk<0 then (q.1.2,q.2) else
 if dJ q.2.rows 0<0 then (0,q.2) else
 match yK q.2.rows[(dJ q.2.rows 0).toNat]!.c with
 |none=>(0,q.2)
 |some s=>dX q.2 (dJ q.2.rows 0).toNat s
def gQ(l:List Row)(w:Nat)(c:List Nu):Nat→Nu×List Nu
 |0=>(nOf 0,List.replicate w (nOf 0))
 |k+1=>let g:=gQ l w c k
  if 0≤dJ l ((k+1:Nat):Int) then (xG c[k]! l[(dJ l ((k+1:Nat):Int)).toNat]!.k g.1,uI c[k]! l[(dJ l ((k+1:Nat):Int)).toNat]!.c (-1) g.2)
  else (g.1,g.2.set (k+1) (jw g.2[k+1]! c[k]!))
def m4(d:Dic)(c:List Nu):Dic:=⟨d.rows.map (uC (nOf 0)),(gQ (d.rows.map (uC (nOf 0))) d.gc.length c c.length).1,(gQ (d.rows.map (uC (nOf 0))) d.gc.length c c.length).2,d.n,d.piv,d.most⟩
def mZ(d:Dic)(c:List Nu):Int×Dic:=(if gl (m4 d c).gk (m4 d c).gc then 0 else 30,m4 d c)
def cU(l:List Row)(nn:Nat)(of:Row→Nu)(other:Nat→Nu):List Nu:=(List.range nn).map fun j=>if 0≤dJ l ((j+1:Nat):Int) then of l[(dJ l ((j+1:Nat):Int)).toNat]! else other (j+1)
def aH(m nn:Nat)(A B:List Nu)(most:Int):Dic:=
 ⟨(List.range m).map fun i=>⟨B[i]!,(List.range (1+nn+m)).map (fun t=>if 1≤t∧t≤nn then eU A[i*nn+(t - 1)]! else nOf 0),((1+nn+i:Nat):Int)⟩,nOf 0,List.replicate (1+nn+m) (nOf 0),nn,0,most⟩
structure Ans where
 kind:Int
 x:List Nu
 y:List Nu
 ray:List Nu
 deriving DecidableEq
def wH(nn:Nat)(d:Dic)(c:List Nu):Ans×Int×Int:=
 let a:=mZ d c
 if a.1≠0 then (⟨0,[],[],[]⟩,0,a.1) else
 let q:=aV a.2
 if q.1.2≠0 then (⟨0,[],[],[]⟩,0,q.1.2) else
 let x:=cU q.2.rows nn Row.k fun _=>nOf 0
 if q.1.1<0 then (⟨1,x,bY q.2 nn,[]⟩,q.2.piv,0) else
 (⟨3,x,[],cU q.2.rows nn (fun r=>r.c[q.1.1.toNat]!) fun v=>if (v:Int)=q.1.1 then nOf 1 else nOf 0⟩,q.2.piv,0)
def jR(m nn:Nat)(A B C:List Nu)(most:Int):Ans×Int×Int:=
 let d:=aH m nn A B most
 if B.any (fun b=>decide (bE b<0))=true then
  let p:=jU d
  if p.1≠0 then (⟨0,[],[],[]⟩,0,p.1) else
  if bE p.2.gk<0 then (⟨2,[],bY p.2 nn,[]⟩,p.2.piv,0) else wH nn p.2 C
 else wH nn d C
section
def aT:Nat→(Nat→Rat)→Rat
 |0,_=>0
 |n+1,f=>aT n f+f n
theorem ay {f g:Nat→Rat}:∀{n:Nat},(∀t,t<n→f t=g t)→aT n f=aT n g
 |0,_=>rfl
 |n+1,h=>by unfold aT;rw[ay fun t ht=>h t (by omega),h n (by omega)]
theorem lH(f g:Nat→Rat):∀n,aT n (fun t=>f t+g t)=aT n f+aT n g
 |0=>by show (0:Rat)=0+0;grind
 |n+1=>by unfold aT;rw[lH f g n];grind
theorem fB(a:Rat)(f:Nat→Rat):∀n,aT n (fun t=>a*f t)=a*aT n f
 |0=>by simp[aT]
 |n+1=>by unfold aT;rw[fB a f n];grind
theorem fa:∀n,aT n (fun _=>0)=0
 |0=>rfl
 |n+1=>by unfold aT;rw[fa n];show (0:Rat)+0=0;grind
theorem mv(a:Nat)(x:Rat):∀n,a<n→aT n (fun t=>if t=a then x else 0)=x
 |0,h=>by omega
 |n+1,h=>by
  show aT n (fun t=>if t=a then x else 0)+(if n=a then x else 0)=x
  by_cases hn:n=a
  ·subst hn
   rw[ah rfl,ay (g:=fun _=>0) fun t ht=>ifn_,fa]
   grind
  ·rw[ai hn,mv a x n (by omega)];grind
theorem ue(f g:Nat→Rat)(n:Nat):aT n (fun t=>f t - g t)=aT n f - aT n g:=by
 have:(fun t=>f t - g t)=fun t=>f t+(-1)*g t:=by funext t;grind
 rw[this,lH f (fun t=>(-1)*g t),fB];grind
theorem G8(f:Nat→Nat→Rat)(m:Nat):∀n,aT n (fun i=>aT m (fun j=>f i j))=aT m (fun j=>aT n (fun i=>f i j))
 |0=>(fa m).symm
 |n+1=>by
  have:(fun j=>aT (n+1) fun i=>f i j)=fun j=>aT n (fun i=>f i j)+f n j:=rfl
  rw[this,lH]
  show aT n (fun i=>aT m fun j=>f i j)+aT m (fun j=>f n j)=_
  rw[G8 f m n]
theorem w5 {f:Nat→Rat}:∀{n:Nat},(∀t,t<n→0≤f t)→0≤aT n f
 |0,_=>by simp[aT]
 |n+1,h=>by
  unfold aT
  have h1:=w5 (f:=f) (n:=n) fun t ht=>h t (by omega)
  have h2:=h n (by omega)
  grind
theorem w4(f:Nat→Rat)(a:Nat)(x:Rat){n:Nat}(h:a<n):aT n (fun t=>if t=a then x else f t)=aT n f+(x - f a):=by
 rw[←mv a (x - f a) n h,←lH]
 refine ay fun t _=>?_
 by_cases ht:t=a
 ·subst ht;rw[ah rfl,ah rfl];grind
 ·rw[ai ht,ai ht];grind
def bU(w:Nat)(k:Nu)(c:List Nu)(y:Nat→Rat):Rat:=rv k+aT w (fun t=>rv c[t]! *y t)
def Sol(d:Dic)(w:Nat)(y:Nat→Rat):Prop:=∀i,i<d.rows.length→y d.rows[i]!.b.toNat=bU w d.rows[i]!.k d.rows[i]!.c y
structure Inv(d:Dic)(w:Nat):Prop where
 fine:Fine d w
 rng:∀i,i<d.rows.length→0≤d.rows[i]!.b∧d.rows[i]!.b<w
 inj:∀i j,i<d.rows.length→j<d.rows.length→d.rows[i]!.b=d.rows[j]!.b→i=j
 zg:∀j,j<d.rows.length→d.gc[d.rows[j]!.b.toNat]! =nOf 0
 zr:∀i j,i<d.rows.length→j<d.rows.length→d.rows[i]!.c[d.rows[j]!.b.toNat]! =nOf 0
theorem uX {r:Row}{s t:Nat}(hs:s<r.c.length)(ht:t<r.c.length):(bc r s).c[t]! =if t=r.b.toNat then oJ (nOf 1) r.c[s]! else if t=s then nOf 0 else oJ (eU r.c[t]!) r.c[s]! :=by
 unfold bc
 rw[Qc]
 dsimp only
 rw[eJ (by simpa using ht)]
 by_cases h1:r.b.toNat=t
 ·rw[ah h1,ah h1.symm]
 ·rw[ai h1,ai (fun e=>h1 e.symm),eJ (by simpa using ht)]
  by_cases h2:s=t
  ·rw[ah h2,ah h2.symm]
  ·rw[ai h2,ai (fun e=>h2 e.symm)]
   apply cZ
   rw[dW,uz ht];rfl
theorem Ie {r:Row}{w s:Nat}(hs:s<w)(hl:r.c.length=w)(hb:r.b.toNat<w)(hg:gl r.k r.c=true)(hz:r.c[r.b.toNat]! =nOf 0)(fS:s≠r.b.toNat)(CY:gl (bc r s).k (bc r s).c=true)(y:Nat→Rat):
  rv r.c[s]!≠0∧bU w (bc r s).k (bc r s).c y - y s=(y r.b.toNat - bU w r.k r.c y) / rv r.c[s]! :=by
 obtain⟨h1,h2⟩:=br.1 hg
 obtain⟨h3,h4⟩:=br.1 CY
 have hk:(bc r s).k=oJ (eU r.k) r.c[s]! :=rfl
 rw[hk] at h3
 obtain⟨_,h6,h7,h8⟩:=uy h3
 refine⟨h7,?_⟩
 have hc:∀t,t<w→rv (bc r s).c[t]! *y t=if t=r.b.toNat then (rv r.c[s]!)⁻¹*y r.b.toNat else if t=s then 0 else -(rv r.c[s]!)⁻¹*(rv r.c[t]! *y t):=by
  intro t ht
  have h9:=h4 t (by rw[rZ];omega)
  rw[uX (by omega) (by omega)] at h9 ⊢
  by_cases e1:t=r.b.toNat
  ·rw[ah e1] at h9 ⊢
   rw[ah e1,(uy h9).2.2.2,of1.2,←e1];grind
  ·rw[ai e1] at h9 ⊢
   rw[ai e1]
   by_cases e2:t=s
   ·rw[ah e2,ah e2,of0.2];grind
   ·rw[ai e2] at h9 ⊢
    rw[ai e2,(uy h9).2.2.2,ik];grind
 unfold bU
 rw[ay hc,w4 (fun t=>if t=s then 0 else -(rv r.c[s]!)⁻¹*(rv r.c[t]! *y t)) r.b.toNat _ hb,ai (fun e=>fS e.symm),w4 (fun t=>-(rv r.c[s]!)⁻¹*(rv r.c[t]! *y t)) s 0 hs,fB,hk,h8,ik,hz,of0.2]
 grind
theorem Eh {k:Nu}{c:List Nu}{row:Lin}{w s:Nat}(hs:s<w)(hl:c.length=w)(hg:gl k c=true)(CY:goodR (BN ⟨k,c⟩ row s)=true)(TA:row.c.length=w)(Gk:goodR row=true)(hz:row.c[s]! =nOf 0)(y:Nat→Rat):
  bU w (BN ⟨k,c⟩ row s).k (BN ⟨k,c⟩ row s).c y=bU w k c y+rv c[s]! *(bU w row.k row.c y - y s):=by
 obtain⟨h1,h2⟩:=br.1 hg
 obtain⟨h3,h4⟩:=br.1 CY
 obtain⟨h5,h6⟩:=br.1 Gk
 have hk:(BN ⟨k,c⟩ row s).k=jw k (lX c[s]! row.k):=rfl
 have EP:∀t,t<w→(BN ⟨k,c⟩ row s).c[t]! =if t=s then nOf 0 else jw c[t]! (lX c[s]! row.c[t]!):=fun t ht=>cZ (bS _ (by show t<c.length;omega))
 have hlen:(BN ⟨k,c⟩ row s).c.length=w:=by unfold BN;simp[hl]
 rw[hk] at h3
 have zK:rv (BN ⟨k,c⟩ row s).k=rv k+rv c[s]! *rv row.k:=by
  rw[hk,IB h1 (xg h3).2 h3,IA (h2 s (by omega)) h5 (xg h3).2]
 have hc:∀t,t<w→rv (BN ⟨k,c⟩ row s).c[t]! *y t=if t=s then 0 else rv c[t]! *y t+rv c[s]! *(rv row.c[t]! *y t):=by
  intro t ht
  have h9:=h4 t (by omega)
  rw[EP t ht] at h9 ⊢
  by_cases e:t=s
  ·rw[ah e,ah e,of0.2];grind
  ·rw[ai e] at h9 ⊢
   rw[ai e,IB (h2 t (by omega)) (xg h9).2 h9,IA (h2 s (by omega)) (h6 t (by omega)) (xg h9).2]
   grind
 unfold bU
 rw[zK,ay hc,w4 (fun t=>rv c[t]! *y t+rv c[s]! *(rv row.c[t]! *y t)) s 0 hs,lH (fun t=>rv c[t]! *y t) (fun t=>rv c[s]! *(rv row.c[t]! *y t)),fB,hz,of0.2]
 grind
section
variable {d:Dic} {w at' s:Nat}
theorem ej:(gF d at' s).rows.length=d.rows.length:=by unfold gF;simp
theorem jv {i:Nat}(hi:i<d.rows.length):(gF d at' s).rows[i]! =if i=at' then bc d.rows[at']! s else⟨(g5 d.rows[i]!.k d.rows[i]!.c (bc d.rows[at']! s) s).k,(g5 d.rows[i]!.k d.rows[i]!.c (bc d.rows[at']! s) s).c,d.rows[i]!.b⟩:=cZ (bS _ hi)
theorem pW {i:Nat}(hi:i<d.rows.length):(gF d at' s).rows[i]!.b=if i=at' then (s:Int) else d.rows[i]!.b:=by
 rw[jv hi]
 by_cases h:i=at'
 ·rw[ah h,ah h];rfl
 ·rw[ai h,ai h]
structure gW(d:Dic)(w at' s:Nat):Prop where
 inv:Inv d w
 hat:at'<d.rows.length
 hs:s<w
 nb:∀j,j<d.rows.length→d.rows[j]!.b≠s
 fine:Fine (gF d at' s) w
section
variable (h:gW d w at' s)
include h
theorem gW.turn(y:Nat→Rat):rv d.rows[at']!.c[s]!≠0∧bU w (bc d.rows[at']! s).k (bc d.rows[at']! s).c y - y s=(y d.rows[at']!.b.toNat - bU w d.rows[at']!.k d.rows[at']!.c y) / rv d.rows[at']!.c[s]! :=by
 have hr:=h.inv.rng at' h.hat
 refine Ie h.hs (h.inv.fine.lr at' h.hat) (by omega) (h.inv.fine.gr at' h.hat) (h.inv.zr at' at' h.hat h.hat) (fun e=>h.nb at' h.hat (by omega)) ?_ y
 have:=h.fine.gr at' (by rw[ej];exact h.hat)
 rwa[jv h.hat,ah rfl] at this
theorem gW.row:gl (bc d.rows[at']! s).k (bc d.rows[at']! s).c=true:=by
 have:=h.fine.gr at' (by rw[ej];exact h.hat)
 rwa[jv h.hat,ah rfl] at this
theorem gW.lrow:(bc d.rows[at']! s).c.length=w:=by rw[rZ];exact h.inv.fine.lr at' h.hat
theorem gW.rowS:(bc d.rows[at']! s).c[s]! =nOf 0:=by
 have hl:=h.inv.fine.lr at' h.hat
 have hs:=h.hs
 have hr:=h.inv.rng at' h.hat
 rw[uX (by omega) (by omega),ai (fun e=>h.nb at' h.hat (by omega)),ah rfl]
theorem gW.put {k:Nu}{c:List Nu}(hg:gl k c=true)(hl:c.length=w):g5 k c (bc d.rows[at']! s) s=BN ⟨k,c⟩ ⟨(bc d.rows[at']! s).k,(bc d.rows[at']! s).c⟩ s:=by
 have hs:=h.hs
 have:=h.lrow
 exact putP_eq hg h.row (by omega) (by omega)
theorem gW.goalW(y:Nat→Rat):bU w (gF d at' s).gk (gF d at' s).gc y=bU w d.gk d.gc y+rv d.gc[s]! *(bU w (bc d.rows[at']! s).k (bc d.rows[at']! s).c y - y s):=by
 have h1:=h.fine.gg
 have e:g5 d.gk d.gc (bc d.rows[at']! s) s=⟨(gF d at' s).gk,(gF d at' s).gc⟩:=rfl
 have e2:=(h.put h.inv.fine.gg h.inv.fine.lg).symm.trans e
 have:=Eh (row:=⟨(bc d.rows[at']! s).k,(bc d.rows[at']! s).c⟩) h.hs h.inv.fine.lg h.inv.fine.gg (by rw[e2];exact h1) h.lrow h.row h.rowS y
 rw[e2] at this
 exact this
theorem gW.rowW {i:Nat}(hi:i<d.rows.length)(rQ:i≠at')(y:Nat→Rat):bU w (gF d at' s).rows[i]!.k (gF d at' s).rows[i]!.c y=bU w d.rows[i]!.k d.rows[i]!.c y+rv d.rows[i]!.c[s]! *(bU w (bc d.rows[at']! s).k (bc d.rows[at']! s).c y - y s):=by
 have h1:=h.fine.gr i (by rw[ej];exact hi)
 rw[jv hi,ai rQ] at h1 ⊢
 have e2:=h.put (h.inv.fine.gr i hi) (h.inv.fine.lr i hi)
 have:=Eh (row:=⟨(bc d.rows[at']! s).k,(bc d.rows[at']! s).c⟩) h.hs (h.inv.fine.lr i hi) (h.inv.fine.gr i hi) (by rw[←e2];exact h1) h.lrow h.row h.rowS y
 rw[←e2] at this
 exact this
theorem gW.sol(y:Nat→Rat):Sol (gF d at' s) w y↔Sol d w y:=by
 obtain⟨h0,ht⟩:=h.turn y
 have hat:=h.hat
 have key:y s=bU w (bc d.rows[at']! s).k (bc d.rows[at']! s).c y↔y d.rows[at']!.b.toNat=bU w d.rows[at']!.k d.rows[at']!.c y:=by
  constructor
  ·intro e
   rw[←e] at ht
   have:(y d.rows[at']!.b.toNat - bU w d.rows[at']!.k d.rows[at']!.c y) / rv d.rows[at']!.c[s]! =0:=by grind
   rw[iS] at this
   have h2:=Ct.1 this
   rcases h2 with h2|h2
   ·grind
   ·exact absurd h2 (by grind)
  ·intro e
   rw[e] at ht
   have:bU w (bc d.rows[at']! s).k (bc d.rows[at']! s).c y - y s=0:=by rw[ht,iS];grind
   grind
 have hatS:(gF d at' s).rows[at']!.b.toNat=s∧(gF d at' s).rows[at']! =bc d.rows[at']! s:=by
  rw[jv hat,ah rfl]
  exact⟨by show ((s:Int)).toNat=s;omega,rfl⟩
 unfold Sol
 rw[ej]
 constructor
 ·intro hy i hi
  have h1:=hy at' hat
  rw[hatS.1,hatS.2] at h1
  by_cases rQ:i=at'
  ·subst rQ;exact key.1 h1
  ·have h2:=hy i hi
   rw[h.rowW hi rQ,pW hi,ai rQ] at h2
   rw[h2]
   grind
 ·intro hy i hi
  have h1:=key.2 (hy at' hat)
  by_cases rQ:i=at'
  ·subst rQ;rw[hatS.1,hatS.2];exact h1
  ·rw[h.rowW hi rQ,pW hi,ai rQ,hy i hi]
   grind
theorem gW.goal {y:Nat→Rat}(hy:Sol d w y):bU w (gF d at' s).gk (gF d at' s).gc y=bU w d.gk d.gc y:=by
 have h1:=(h.sol y).2 hy at' (by rw[ej];exact h.hat)
 rw[jv h.hat,ah rfl] at h1
 have h2:y s=bU w (bc d.rows[at']! s).k (bc d.rows[at']! s).c y:=by
  have e:((bc d.rows[at']! s).b).toNat=s:=by show ((s:Int)).toNat=s;omega
  rw[e] at h1;exact h1
 rw[h.goalW y]
 grind
end
end
end
section
theorem rv_nOf0 {x:Nu}(hg:au x=true)(h:rv x=0):x=nOf 0:=ES hg of0.1 (h.trans of0.2.symm)
section
variable {d:Dic} {w at' s:Nat}
theorem gW.toInv(h:gW d w at' s):Inv (gF d at' s) w:=by
 have hat:=h.hat
 have hs:=h.hs
 have hb:∀j,j<d.rows.length→d.rows[j]!.b.toNat<w:=fun j hj=>by have:=h.inv.rng j hj;omega
 have hrz:∀j,j<d.rows.length→j≠at'→(bc d.rows[at']! s).c[d.rows[j]!.b.toNat]! =nOf 0:=fun j hj s6=>by
  have hl:=h.inv.fine.lr at' hat
  have h1:=(br.1 h.row).2 d.rows[j]!.b.toNat (by rw[h.lrow];exact hb j hj)
  have Ge:=h.inv.rng j hj
  have O2:=h.inv.rng at' hat
  rw[uX (by omega) (by rw[hl];exact hb j hj)] at h1 ⊢
  rw[ai (fun e=>s6 (h.inv.inj j at' hj hat (by omega))),ai (fun e=>h.nb j hj (by omega))] at h1 ⊢
  refine rv_nOf0 h1 ?_
  rw[(uy h1).2.2.2,ik,h.inv.zr at' j hat hj,of0.2,iS];grind
 have hz:∀(k:Nu) (c:List Nu),gl k c=true→c.length=w→gl (g5 k c (bc d.rows[at']! s) s).k (g5 k c (bc d.rows[at']! s) s).c=true→(g5 k c (bc d.rows[at']! s) s).c[s]! =nOf 0∧
   ∀j,j<d.rows.length→j≠at'→c[d.rows[j]!.b.toNat]! =nOf 0→(g5 k c (bc d.rows[at']! s) s).c[d.rows[j]!.b.toNat]! =nOf 0:=fun k c hg hl CY=>by
  rw[h.put hg hl] at CY ⊢
  have EP:∀t,t<w→(BN ⟨k,c⟩ ⟨(bc d.rows[at']! s).k,(bc d.rows[at']! s).c⟩ s).c[t]! =if t=s then nOf 0 else jw c[t]! (lX c[s]! (bc d.rows[at']! s).c[t]!):=fun t ht=>cZ (bS _ (by show t<c.length;omega))
  refine⟨by rw[EP s hs,ah rfl],fun j hj s6 h0=>?_⟩
  have Ge:=h.inv.rng j hj
  rw[EP _ (hb j hj),ai (fun e=>h.nb j hj (by omega)),h0,hrz j hj s6]
  rw[zG ((br.1 hg).2 s (by omega)),xV of0.1]
 refine⟨h.fine,fun i hi=>?_,fun i j hi hj e=>?_,fun j hj=>?_,fun i j hi hj=>?_⟩
 ·rw[ej] at hi
  rw[pW hi]
  by_cases rQ:i=at'
  ·rw[ah rQ];omega
  ·rw[ai rQ];exact h.inv.rng i hi
 ·rw[ej] at hi hj
  rw[pW hi,pW hj] at e
  by_cases rQ:i=at' <;> by_cases s6:j=at'
  ·omega
  ·rw[ah rQ,ai s6] at e;exact absurd e.symm (h.nb j hj)
  ·rw[ai rQ,ah s6] at e;exact absurd e (h.nb i hi)
  ·rw[ai rQ,ai s6] at e;exact h.inv.inj i j hi hj e
 ·rw[ej] at hj
  rw[pW hj]
  obtain⟨h1,h2⟩:=hz d.gk d.gc h.inv.fine.gg h.inv.fine.lg h.fine.gg
  by_cases s6:j=at'
  ·rw[ah s6,show ((s:Int)).toNat=s by omega];exact h1
  ·rw[ai s6];exact h2 j hj s6 (h.inv.zg j hj)
 ·rw[ej] at hi hj
  have JY:=h.fine.gr i (by rw[ej];exact hi)
  rw[pW hj]
  rw[jv hi] at JY ⊢
  by_cases rQ:i=at'
  ·rw[ah rQ]
   by_cases s6:j=at'
   ·rw[ah s6,show ((s:Int)).toNat=s by omega];exact h.rowS
   ·rw[ai s6];exact hrz j hj s6
  ·rw[ai rQ] at JY ⊢
   obtain⟨h1,h2⟩:=hz d.rows[i]!.k d.rows[i]!.c (h.inv.fine.gr i hi) (h.inv.fine.lr i hi) JY
   by_cases s6:j=at'
   ·rw[ah s6,show ((s:Int)).toNat=s by omega];exact h1
   ·rw[ai s6];exact h2 j hj s6 (h.inv.zr i j hi hj)
theorem Inv.pick(hI:Inv d w)(v:Nat→Rat):∃y,Sol d w y∧∀t,(∀j,j<d.rows.length→d.rows[j]!.b≠(t:Nat))→y t=v t:=by
 have hex:∃y:Nat→Rat,∀t,y t=(match (d.rows.findIdx? fun r=>decide (r.b=(t:Int))) with|some i=>bU w d.rows[i]!.k d.rows[i]!.c v|none=>v t):=⟨_,fun _=>rfl⟩
 obtain⟨y,hy⟩:=hex
 have h1:∀t,(∀j,j<d.rows.length→d.rows[j]!.b≠(t:Nat))→y t=v t:=fun t ht=>by
  rw[hy t]
  have:(d.rows.findIdx? fun r=>decide (r.b=(t:Int)))=none:=by
   rw[vH]
   intro r hr
   obtain⟨j,hj,rfl⟩:=xy.1 hr
   have:=ht j hj
   rw[bT d.rows j hj] at this
   exact bm this
  rw[this]
 refine⟨y,fun i hi=>?_,h1⟩
 have hr:=hI.rng i hi
 rw[hy]
 have:(d.rows.findIdx? fun r=>decide (r.b=((d.rows[i]!.b.toNat:Nat):Int)))=some i:=by
  rw[ph]
  refine⟨hi,?_,fun j hj=>?_⟩
  ·have:d.rows[i].b=d.rows[i]!.b:=by rw[bT d.rows i hi]
   exact det_
  ·have h2:d.rows[j].b=d.rows[j]!.b:=by rw[bT d.rows j (by omega)]
   have:=hI.inj i j hi (by omega)
   simp only[sH]
   omega
 rw[this]
 dsimp only
 unfold bU
 congr 1
 refine ay fun t ht=>?_
 by_cases hb:∀j,j<d.rows.length→d.rows[j]!.b≠(t:Nat)
 ·rw[h1 t hb]
 ·obtain⟨j,hj⟩:=NQ.1 hb
  obtain⟨O5,CV⟩:=NP.1 hj
  have CV:=Cs.1 CV
  have:=hI.zr i j hi O5
  rw[CV,show ((t:Nat):Int).toNat=t by omega] at this
  rw[this,of0.2];grind
end
theorem qg {c:List Nu}{s:Nat}(h:kF c=some s):s<c.length∧0<bE c[s]!∧∀t,t<s→¬0<bE c[t]! :=by
 unfold kF at h
 obtain⟨h1,h2,h3⟩:=ph.1 h
 refine⟨h1,?_,fun t ht=>?_⟩
 ·rw[bT c s h1];exact bq h2
 ·have:=h3 t ht
  rw[bT c t (by omega)]
  simpa using this
theorem Nq {c:List Nu}(h:kF c=none){t:Nat}(ht:t<c.length):¬0<bE c[t]! :=by
 unfold kF at h
 have:=vH.1 h c[t] (n7 ht)
 rw[bT c t ht]
 simpa using this
theorem pZ {l:List Row}{s:Nat}{z:Nu}:∀{n:Nat} {p:Int×Nu},jy l s z n=some p→p.1=-1∨∃i,i<n∧p.1=(i:Int)∧bE l[i]!.c[s]! <0∧au p.2=true∧p.2=oJ l[i]!.k (eU l[i]!.c[s]!)
 |0,p,h=>by unfold jy at h;injection h with h;exact .inl (by rw[←h])
 |n+1,p,h=>by
  unfold jy at h
  cases hq:jy l s z n with
  |none=>rw[hq] at h;cases h
  |some q=>
   rw[hq] at h
   have ih:=pZ hq
   have up:q=p→p.1=-1∨∃i,i<n+1∧p.1=(i:Int)∧bE l[i]!.c[s]! <0∧au p.2=true∧p.2=oJ l[i]!.k (eU l[i]!.c[s]!):=by
    rintro rfl
    rcases ih with h1|⟨i,h1,h2⟩
    ·exact .inl h1
    ·exact .inr ⟨i,by omega,h2⟩
   unfold si at h
   dsimp only at h
   split at h
   ·injection h with h;exact up h
   ·rename_i h1
    split at h
    ·cases h
    ·rename_i h2
     split at h
     ·injection h with h
      subst h
      exact .inr ⟨n,by omega,rfl,by omega,by simpa using h2,rfl⟩
     ·injection h with h;exact up h
theorem Inv.enter {d:Dic}{w s:Nat}(hI:Inv d w)(h:bE d.gc[s]!≠0):∀j,j<d.rows.length→d.rows[j]!.b≠s:=fun j hj e=>by
 have:=hI.zg j hj
 rw[e,show ((s:Int)).toNat=s by omega] at this
 rw[this,(At of0.1).2 of0.2] at h
 exact h rfl
theorem Inv.rowNz {d:Dic}{w s i:Nat}(hI:Inv d w)(hi:i<d.rows.length)(h:bE d.rows[i]!.c[s]!≠0):∀j,j<d.rows.length→d.rows[j]!.b≠s:=fun j hj e=>by
 have:=hI.zr i j hi hj
 rw[e,show ((s:Int)).toNat=s by omega] at this
 rw[this,(At of0.1).2 of0.2] at h
 exact h rfl
structure rI(d d':Dic)(w:Nat):Prop where
 len:d'.rows.length=d.rows.length
 n:d'.n=d.n
 most:d'.most=d.most
 sol:∀y,Sol d' w y↔Sol d w y
 goal:∀y,Sol d w y→bU w d'.gk d'.gc y=bU w d.gk d.gc y
 piv:d.piv≤d'.piv
theorem rI.refl(d:Dic)(w:Nat):rI d d w:=⟨rfl,rfl,rfl,fun _=>Iff.rfl,fun _ _=>rfl,zX _⟩
theorem rI.trans {d d' Uz:Dic}{w:Nat}(h:rI d d' w)(h':rI d' Uz w):rI d Uz w:=
 ⟨h'.len.trans h.len,h'.n.trans h.n,h'.most.trans h.most,fun y=>(h'.sol y).trans (h.sol y),fun y hy=>(h'.goal y ((h.sol y).2 hy)).trans (h.goal y hy),Int.le_trans h.piv h'.piv⟩
theorem gW.same {d:Dic}{w at' s:Nat}(h:gW d w at' s):rI d (gF d at' s) w:=
 ⟨ej,rfl,rfl,h.sol,fun _ hy=>h.goal hy,by show d.piv≤d.piv+1;omega⟩
end
section
section
variable {vs:List (Nat×List D)} {lv:List (Nat×Nat×Nat×TypeId)} {N kd R G w:Nat} {C:Nat→Nat} {d:Dic}
theorem Ha {A B:List D}{j:Nat}{r:Row}{F:List D}(h:F=A++ja C w j r++B)(hA:A.length=j*38):Pt F (j*38) (ja C w j r) (fun ys=>A++ys++B):=Pt.of A B hA h fun y=>rfl
theorem MF {j:Nat}{r:Row}:Pt (ja C w j r) (0+36) [.ow (C j) 0 36 w] (fun ys=>dC (ax.f r.k)++ys++[dI .i64 r.b]):=Pt.of (dC (ax.f r.k)) [dI .i64 r.b] (jb _) (by unfold ja ba;simp only[dh]) fun y=>rfl
theorem Se {j:Nat}{r:Row}:Pt (ja C w j r) (0+0) (dC (ax.f r.k)) (fun ys=>ys++([.ow (C j) 0 36 w]++[dI .i64 r.b])):=Pt.of [] ([.ow (C j) 0 36 w]++[dI .i64 r.b]) rfl (by unfold ja ba;simp only[dh,nR]) fun y=>rfl
theorem rowD_b {j:Nat}{r:Row}:Pt (ja C w j r) (0+37) [dI .i64 r.b] (fun ys=>ba r.k (C j) w++ys++[]):=Pt.of (ba r.k (C j) w) [] (bZ _ _ _) (by unfold ja;simp) fun y=>rfl
def P1:List E:=zN++[.lit (.slice none 0 0)]++[.lit (.int .i64 0)]
theorem Pt.all {F:List D}:Pt F 0 F id:=Pt.of [] [] rfl (by simp) fun y=>by simp
def MR(o:Option (Int×Nu)):D:=match o with
 |none=>.tu [dI .i64 (-1),dI .i64 30]
 |some p=>.tu [dI .i64 p.1,dI .i64 0]
theorem MS {l:List Row}{s:Nat}{z:Nu}{i:Nat}(h:jy l s z i=none):∀n,i≤n→jy l s z n=none:=by
 intro n hn
 induction n with
 |zero=>
      obtain rfl:i=0:=by omega
      exact h
 |succ n ih=>
  rcases Nat.eq_or_lt_of_le hn with e|e
  ·subst e;exact h
  ·unfold jy;rw[ih (by omega)]
theorem QV {s:Nat}(hD:DAt vs kd R G C w d)(hs:s<w)(hm:d.rows.length≤1000000):
  HC prog 110 [.pt kd 0,dI .i64 s] ⟨vs,lv,N⟩ (MR (jy d.rows s default d.rows.length)) ⟨vs,lv,N⟩:=by
 refine HC.of (rs:=[.tmp 4,.tmp 5]) tok func110 rfl rfl (bb rfl) rfl (fun cx hx h0 hok=>?_)
 simp only[fP,Nat.reduceAdd,bw]
 have wK:=hD.hd
 have GO:=hok.lt wK
 have hRi:(fm R d.rows).idsB (N+1)=true:=by
  cases hl:d.rows with
  |nil=>rfl
  |cons r l'=>exact aB (by have:=hok.lt (hD.hR (by rw[hl];simp));omega)
 refine rs hx fun K hK=>?_
 iterate 2 refine sa ?_
 refine nl hK ?_
 refine rs hx fun K hK=>?_
 refine sa ?_
 refine nl hK ?_
 refine rs hx fun K hK=>?_
 refine n1 ?_
 refine nl hK ?_
 rw[←zNu]
 refine AW.seq (rs hx fun K hK=>?_)
 iterate 3 refine sa ?_
 refine c1 gM ?_
 refine OB (R:=R) (l:=d.rows) rfl ?_
 refine sa ?_
 refine nl hK ?_
 refine AW.block (AW.loopW (fun u:Nat×(Int×Nu)=>[(0,.pt kd 0),(1,dI .i64 s),(6,dI .i64 u.2.1),(7,.pt N 0),(15,fm R d.rows),(16,dI .i64 d.rows.length),(17,dI .i64 u.1)]) (fun u=>⟨(N,dC (ax.f u.2.2))::vs,lv,N+1⟩) (fun u=>u.1≤d.rows.length∧jy d.rows s default u.1=some u.2) (fun u=>d.rows.length - u.1) (0,(-1,default)) ?_ ⟨cy _,rfl⟩ ?_)
 ·exact wk1 h0
 ·rintro⟨i,at',q⟩ ⟨hi,hp⟩
  dsimp only at hi hp ⊢
  refine rs hx fun K hK=>?_
  refine sa ?_
  refine nl hK ?_
  refine AW.seq (AW.condS rfl (fun hb=>?_) (fun hb=>?_))
  ·have zL:i<d.rows.length:=by have:=bq hb;omega
   have fS:d.rows≠[]:=fun e=>by rw[e] at zL;simp at zL
   have hr:d.rows[i]? =some d.rows[i]! :=by rw[bT d.rows i zL];exact cP zL
   obtain⟨A,B,hA,_,h3,_,_⟩:=mQ C w d.rows i hr
   have hRv:=hD.hR fS
   have DK:=hok.lt hRv
   have Ry:=hD.hC i _ hr
   have hCN:=hok.lt Ry
   have t8:=hD.lC i _ hr
   have iY:jy d.rows s default (i+1)=si d.rows s (at',q) i:=by
    show (match jy d.rows s default i with|none=>none|some p=>si d.rows s p i)=_
    rw[hp]
   unfold si at iY
   dsimp only at iY
   generalize IN:d.rows[i]! =r at hr Ry t8 h3 iY
   refine AW.skip (AW.seq (AW.block (rs hx fun K hK=>?_)))
   refine sa ?_
   refine r1 zL ?_ (by show (fm R d.rows).toOw=_;rw[qF fS];rfl)
   refine p1 (Ha h3 hA) (ug _ _ _ _) ?_
   refine a1 (F:=P1) ud ?_
   refine sa ?_
   refine v1 (Pt.all (F:=dC P1)) rfl (ug C w i r) rfl ?_
   refine nl hK ?_
   refine AW.seq (rs hx fun K hK=>?_)
   iterate 2 refine sa ?_
   refine c1 (MF (C:=C) (w:=w) (j:=i) (r:=r)) ?_
   refine sa ?_
   refine i1 hs ?_
   refine l1 (Pt.el r.c s (by omega)) ?_
   refine cq (zo _) ?_
   refine sa ?_
   refine nl hK ?_
   refine AW.condS rfl (fun hb=>?_) (fun hb=>?_)
   ·have JW:0≤bE r.c[s]! :=bq hb
    refine AW.exit (rq hx fun K hK=>?_)
    iterate 2 refine sa ?_
    refine nl hK ?_
    rw[b7]
    exact⟨(i+1,(at',q)),wk1 h0,⟨zL,iY.trans (by rw[ah JW])⟩,by dsimp only;omega⟩
   have JW:¬0≤bE r.c[s]! :=dK hb
   rw[ai JW] at iY
   refine AW.skip (rsd [42,153] hx fun K hK=>?_)
   iterate 2 refine sa ?_
   refine l1 (Se (C:=C) (w:=w) (j:=i) (r:=r)) ?_
   iterate 2 refine sa ?_
   refine c1 (MF (C:=C) (w:=w) (j:=i) (r:=r)) ?_
   refine sa ?_
   refine i1 hs ?_
   refine l1 (Pt.el r.c s (by omega)) ?_
   refine cq (Kk _) ?_
   refine cq (RR _ _) ?_
   refine n1 ?_
   refine z1 ?_
   refine nl hK ?_
   generalize oJ r.k (eU r.c[s]!)=q' at iY ⊢
   refine AW.seq (rs hx fun K hK=>?_)
   refine l1 (Pt.idN q') ?_
   refine cq (w_Good _) ?_
   refine sa ?_
   refine nl hK ?_
   refine AW.condS rfl (fun hb=>?_) (fun hb=>?_)
   ·have hg:au q'=false:=by simpa using hb
    rw[ah hg] at iY
    refine rs hx fun K hK=>?_
    iterate 2 refine sa ?_
    refine nl hK ?_
    refine AW.ret ?_
    rw[MS iY _ zL]
    exact rt2 h0
   have hg:¬au q'=false:=by simpa using hb
   rw[ai hg] at iY
   refine AW.skip (rs hx fun K hK=>?_)
   refine l1 (Pt.idN q') ?_
   refine l1 (Pt.idN q) ?_
   refine cq (w_Cmp _ _) ?_
   refine sa ?_
   refine nl hK ?_
   refine rsd [] hx fun K hK=>?_
   iterate 3 refine sa ?_
   by_cases h1:at'<0
   ·have e1:decide (at'<0)=true:=aB h1
    iterate 2 refine gn e1 ?_
    refine s1 (d:=dB true) (pp e1) ?_
    refine sa ?_
    iterate 3 refine gn rfl ?_
    iterate 11 refine gm ?_
    refine gn rfl ?_
    refine s1 (d:=dB true) (pp rfl) ?_
    refine nl hK ?_
    rw[ah (.inl h1)] at iY
    refine AW.condS rfl (fun hb=>?_) (fun hb=>absurd hb (by simp))
    refine rqd [] hx fun K hK=>?_
    refine sa ?_
    refine l1 (Pt.idN q') ?_
    refine sa ?_
    refine t1 (Pt.idN q) rfl ?_
    refine nl hK ?_
    refine rq hx fun K hK=>?_
    iterate 2 refine sa ?_
    refine nl hK ?_
    rw[b7]
    exact⟨(i+1,((i:Int),q')),wk1 h0,⟨zL,iY.trans rfl⟩,by dsimp only;omega⟩
   have rB:decide (at'<0)=false:=bm h1
   iterate 2 refine ga rB ?_
   refine s1 (d:=dB (decide (qH q' q<0))) (mm rB) ?_
   refine sa ?_
   by_cases h2:qH q' q<0
   ·have e2:decide (qH q' q<0)=true:=aB h2
    iterate 3 refine gn e2 ?_
    iterate 11 refine gm ?_
    refine gn e2 ?_
    refine s1 (d:=dB true) (pp e2) ?_
    refine nl hK ?_
    rw[ah (.inr (.inl h2))] at iY
    refine AW.condS rfl (fun hb=>?_) (fun hb=>absurd hb (by simp))
    refine rqd [] hx fun K hK=>?_
    refine sa ?_
    refine l1 (Pt.idN q') ?_
    refine sa ?_
    refine t1 (Pt.idN q) rfl ?_
    refine nl hK ?_
    refine rq hx fun K hK=>?_
    iterate 2 refine sa ?_
    refine nl hK ?_
    rw[b7]
    exact⟨(i+1,((i:Int),q')),wk1 h0,⟨zL,iY.trans rfl⟩,by dsimp only;omega⟩
   have e2:decide (qH q' q<0)=false:=bm h2
   iterate 3 refine ga e2 ?_
   by_cases h3:qH q' q=0
   ·have e3:decide (qH q' q=0)=true:=aB h3
    obtain⟨a,ha,hai⟩:∃a:Nat,at'=(a:Int)∧a<i:=by
     rcases pZ hp with e|⟨a,b1,b2,_⟩
     ·dsimp only at e;omega
     ·exact⟨a,b2,b1⟩
    have hra:d.rows[a]? =some d.rows[a]! :=by rw[bT d.rows a (by omega)];exact cP _
    obtain⟨_,_,_,_,_,_,hPa⟩:=mQ C w d.rows a hra
    subst ha
    rw[show ((a:Int)).toNat=a by omega] at iY
    generalize d.rows[a]! =ra at hPa iY
    refine ga e3 ?_
    refine c1g rowD_b e3 ?_
    iterate 3 refine ga e3 ?_
    refine c1g gM e3 ?_
    refine ga e3 ?_
    refine r1g' (i:=a) (n:=d.rows.length) (by omega) e3 ?_ (qF fS)
    refine ga e3 ?_
    refine c1g hPa e3 ?_
    refine ga e3 ?_
    refine g1 (d:=dB (decide (r.b<ra.b))) e2 (pp e3) ?_
    refine s1 (d:=dB (decide (r.b<ra.b))) (mm e2) ?_
    refine nl hK ?_
    refine AW.condS rfl (fun hb=>?_) (fun hb=>?_)
    ·have bO:=bq hb
     rw[ah (.inr (.inr ⟨h3,bO⟩))] at iY
     refine rqd [] hx fun K hK=>?_
     refine sa ?_
     refine l1 (Pt.idN q') ?_
     refine sa ?_
     refine t1 (Pt.idN q) rfl ?_
     refine nl hK ?_
     refine rq hx fun K hK=>?_
     iterate 2 refine sa ?_
     refine nl hK ?_
     rw[b7]
     exact⟨(i+1,((i:Int),q')),wk1 h0,⟨zL,iY.trans rfl⟩,by dsimp only;omega⟩
    ·have bO:=dK hb
     rw[ai (by rintro (e|e|e);exact h1 e;exact h2 e;exact bO e.2)] at iY
     refine AW.skip (rq hx fun K hK=>?_)
     iterate 2 refine sa ?_
     refine nl hK ?_
     rw[b7]
     exact⟨(i+1,((a:Int),q)),wk1 h0,⟨zL,iY.trans rfl⟩,by dsimp only;omega⟩
   ·have e3:decide (qH q' q=0)=false:=bm h3
    iterate 11 refine gn e3 ?_
    refine g1 (d:=dB false) e2 (mm e3) ?_
    refine s1 (d:=dB false) (mm e2) ?_
    refine nl hK ?_
    rw[ai (by rintro (e|e|e);exact h1 e;exact h2 e;exact h3 e.1)] at iY
    refine AW.condS rfl (fun hb=>absurd hb (by simp)) (fun hb=>AW.skip (rq hx fun K hK=>?_))
    iterate 2 refine sa ?_
    refine nl hK ?_
    rw[b7]
    exact⟨(i+1,(at',q)),wk1 h0,⟨zL,iY.trans rfl⟩,by dsimp only;omega⟩
  ·refine AW.exit ?_
   have zL:i=d.rows.length:=by have:=dK hb;omega
   refine rs hx fun K hK=>?_
   iterate 3 refine sa ?_
   refine nl hK ?_
   refine AW.ret ?_
   rw[←zL,hp]
   exact rt2 h0
end
end
section
theorem Aw {A B:List D}{C:Nat→Nat}{w j:Nat}(h:A.length=j*38)(r:Row):pN (A++ja C w j r++B) (j*38) r.k (C j) w A ([dI .i64 r.b]++B):=⟨h,by unfold ja;simp only[dh]⟩
theorem OG {A B:List D}{C:Nat→Nat}{w j:Nat}(h:A.length=j*38)(r:Row):Pt (A++ja C w j r++B) (j*38+37) [dI .i64 r.b] (fun ys=>A++(ba r.k (C j) w++ys)++B):=
 Pt.of (A++ba r.k (C j) w) B (by rw[cJ,h,bZ]) (by unfold ja;simp only[dh]) fun y=>by simp only[dh]
theorem row_k {A B:List D}{C:Nat→Nat}{w j:Nat}(k:Nu)(c:List Nu)(b:Int):A++(dC (ax.f k)++[.ow (C j) 0 36 w])++([dI .i64 b]++B)=A++ja C w j ⟨k,c,b⟩++B:=by unfold ja ba;simp only[dh]
theorem row_b {A B:List D}{C:Nat→Nat}{w j:Nat}(k:Nu)(c:List Nu)(b:Int):A++(ba k (C j) w++[dI .i64 b])++B=A++ja C w j ⟨k,c,b⟩++B:=by unfold ja;simp only[dh]
def lns(kd R at' i:Nat):List D:=.pt kd 1::((List.range i).filter fun j=>decide (j≠at')).map fun j=>.pt R (j*38)
theorem OU(kd R at' i:Nat):lns kd R at' i=(yr at' i).map fun o=>.pt (klO kd R o) (olO o):=by
 unfold lns yr
 rw[iX,qQ]
 rfl
theorem IF {kd R at' i:Nat}(h:i=at'):lns kd R at' (i+1)=lns kd R at' i:=by
 unfold lns
 rw[wo,NH,NJ (by simp[h]),List.filter_nil,tG]
theorem IE {kd R at' i:Nat}(h:i≠at'):lns kd R at' (i+1)=lns kd R at' i++[.pt R (i*38)]:=by
 unfold lns
 rw[wo,NH,Jo (by simp[h]),List.filter_nil,iZ]
 rfl
theorem MM {kd R at':Nat}:∀i,(lns kd R at' i).length≤i+1
 |0=>by simp[lns]
 |i+1=>by
  have:=MM (kd:=kd) (R:=R) (at':=at') i
  by_cases h:i=at'
  ·rw[IF h];omega
  ·rw[IE h,cJ];simp;omega
theorem OV {kd R at' M:Nat}(hk:kd<M)(hR:R<M):∀i,(lns kd R at' i).all (D.idsC M)=true
 |0=>by simp[lns,D.idsC,hk]
 |i+1=>by
  have:=OV (at':=at') hk hR i
  by_cases h:i=at'
  ·rw[IF h];exact this
  ·rw[IE h,mi,this];simp[D.idsC,hR]
section
variable {vs:List (Nat×List D)} {lv:List (Nat×Nat×Nat×TypeId)} {N kd R G w:Nat} {C:Nat→Nat} {d:Dic} {at' s:Nat}
theorem IW {r0:Row}(hD:DAt vs kd R G C w d)(hf:Dif d.rows.length kd R G C)(hr0:d.rows[at']? =some r0)(hs:s<w)(Mo:0≤r0.b∧r0.b<w)(hw:w≤1000000)(hm:d.rows.length≤1000000)(jP:0≤d.piv∧d.piv≤9223372036854775807)(dp:0≤d.most∧d.most≤9223372036854775807):
  HC prog 104 [.pt kd 0,dI .i64 at',dI .i64 s] ⟨vs,lv,N⟩ (dI .i64 (dX d at' s).1) ⟨ov kd R G C w (dX d at' s).2 vs,lv,N⟩:=by
 refine HC.of (rs:=[.tmp 6]) tok func104 rfl rfl (bb rfl) rfl (fun cx hx h0 hok=>?_)
 simp only[fP,Nat.reduceAdd,bw]
 have hat:=(fW.1 hr0).1
 have fS:d.rows≠[]:=fun e=>by rw[e] at hat;simp at hat
 have hRv:=hD.hR fS
 have GO:=hok.lt hD.hd
 have DK:=hok.lt hRv
 have T3:=hok.lt hD.hG
 obtain⟨A,B,hA,Dm,heq,_,_⟩:=mQ C w d.rows at' hr0
 rw[heq] at hRv
 have hlin:=Aw (B:=B) (C:=C) (w:=w) hA r0
 have hbas:=OG (B:=B) (C:=C) (w:=w) hA r0
 obtain⟨bN,hbN⟩:∃bN:Nat,r0.b=(bN:Int):=⟨r0.b.toNat,by omega⟩
 have hbw:bN<w:=by omega
 have Ry:=hD.hC at' r0 hr0
 have hcN:=hok.lt Ry
 have t8:=hD.lC at' r0 hr0
 obtain⟨hC1,hC2,hC3⟩:=hf.C1 at' hat
 refine rs hx fun K hK=>?_
 refine sa ?_
 refine nl hK ?_
 refine AW.seq (rsd [] hx fun K hK=>?_)
 iterate 3 refine sa ?_
 refine s1 (kO o8 hD.hd GO tbI) ?_
 iterate 3 refine sa ?_
 refine s1 (kO Us hD.hd GO tbI) ?_
 refine sa ?_
 refine nl hK ?_
 have hCj:∀j,j<d.rows.length→C j<N:=fun j hj=>hok.lt (hD.hC j _ (cP hj))
 refine AW.condS rfl (fun hb=>?_) (fun hb=>?_)
 ·have hpm:d.most≤d.piv:=bq hb
  have hpp:dX d at' s=(220,d):=by unfold dX;rw[ah hpm]
  rw[hpp]
  refine rs hx fun K hK=>?_
  refine sa ?_
  refine nl hK ?_
  exact AW.ret (SO h0 hok (az _) hD hf GO DK T3 hCj (fun k ds _ _ _ _ h=>h) (fun e=>absurd e fS) rfl)
 have hpm:d.piv<d.most:=by have:=dK hb;omega
 refine AW.skip (rs hx fun K hK=>?_)
 iterate 3 refine sa ?_
 refine s1 (kO o8 hD.hd GO tbI) ?_
 iterate 3 refine sa ?_
 obtain⟨d1,DI⟩:∃d1:Dic,d1=⟨d.rows,d.gk,d.gc,d.n,d.piv+1,d.most⟩:=⟨_,rfl⟩
 have TH:d1.rows=d.rows:=by rw[DI]
 have hdic1:[fm R d.rows]++ba d.gk G w++([dI .i64 d.n]++[dI .i64 (i64.wrap (d.piv+1))]++[dI .i64 d.most])=nC R G w d1:=by
  rw[eh (show -9223372036854775808≤d.piv+1 by omega) (by omega),DI];rfl
 refine s0 (HW (ys:=[dI .i64 (i64.wrap (d.piv+1))]) o8 hD.hd rfl tbI rfl rfl hdic1) ?_
 refine nl hK ?_
 refine rs hx fun K hK=>?_
 iterate 3 refine sa ?_
 refine s1 (kO (gM (d:=d1)) aa GO tbI) ?_
 rw[TH,qF fS]
 refine sa ?_
 refine stG (d:=.pt R (at'*38)) tok (iaR hat) ?_
 refine sa ?_
 refine nl hK ?_
 have GN:∀p:Nu,cw ⟨(N,dC (ax.f p))::(kd,nC R G w d1)::vs,lv,N+1⟩:=fun p=>(hok.cons (az _) GO (sE DK T3)).cons (jM _) (ez _) (eG _)
 refine sj [(0,.pt kd 0),(1,dI .i64 at'),(2,dI .i64 s),(7,.pt R (at'*38)),(8,.pt N 0),(9,dI .i64 r0.b)] ⟨(N,dC (ax.f r0.c[s]!))::(kd,nC R G w d1)::vs,lv,N+1⟩ ?_ ?_
 ·have fin:∀tm:List (Nat×D),tm.lookup 0=some (.pt kd 0)→tm.lookup 1=some (dI .i64 at')→tm.lookup 2=some (dI .i64 s)→tm.lookup 7=some (.pt R (at'*38))→tm.lookup 8=some (.pt N 0)→tm.lookup 9=some (dI .i64 r0.b)→Wk cx tm ⟨(N,dC (ax.f r0.c[s]!))::(N,dC zN)::(kd,nC R G w d1)::vs,lv,N+1⟩ [(0,.pt kd 0),(1,dI .i64 at'),(2,dI .i64 s),(7,.pt R (at'*38)),(8,.pt N 0),(9,dI .i64 r0.b)] ⟨(N,dC (ax.f r0.c[s]!))::(kd,nC R G w d1)::vs,lv,N+1⟩:=fun tm a b c e f g=>
   wkS (by rw[h0];exact jM N) (az _) (GN _) (fun j ds h=>by rw[xe];exact h) ((((((bI.nil.cons g).cons f (aB (ez N))).cons e (aB (show R<N+1 by omega))).cons c).cons b).cons a (aB (show kd<N+1 by omega)))
  refine dw (DW.split 11 13 (by decide) ?_ ?_)
  ·refine dwg [] [0,1,2,3,4,5,6,7,8,9,10,11,12,13,14] hx (by kernel_rfl) (by kernel_rfl) (by kernel_rfl) fun K hK=>?_
   dsimp only[ek,m7,nA,List.map]
   iterate 4 refine sa ?_
   refine s1 (kO hlin.pc (al hf.dR.symm hRv) DK tbI) ?_
   refine sa ?_
   refine s1 (iaN hs) ?_
   refine s1 (ldN (Pt.el r0.c s (by omega)) (al hC1 Ry) hcN) ?_
   iterate 3 refine sa ?_
   refine s1 (kO hbas (al hf.dR.symm hRv) DK tbI) ?_
   refine s1 LV ?_
   refine s0 (stZ aa) ?_
   refine sa ?_
   exact .nil (hK _ _ ⟨rfl,fin _ rfl rfl rfl rfl rfl rfl⟩)
  ·refine dwg [] [0,1,2,3,4,5,6,7,8,9,10,12,13,11,14] hx (by kernel_rfl) (by kernel_rfl) (by kernel_rfl) fun K hK=>?_
   dsimp only[ek,m7,nA,List.map]
   iterate 4 refine sa ?_
   refine s1 (kO hlin.pc (al hf.dR.symm hRv) DK tbI) ?_
   refine sa ?_
   refine s1 (iaN hs) ?_
   refine s1 (ldN (Pt.el r0.c s (by omega)) (al hC1 Ry) hcN) ?_
   iterate 3 refine sa ?_
   refine s1 LV ?_
   refine s0 (stZ aa) ?_
   refine s1 (kO hbas (al (show R≠N by omega) (al (show R≠N by omega) (al hf.dR.symm hRv))) (show R<N+1 by omega) tbI) ?_
   refine sa ?_
   exact .nil (hK _ _ ⟨rfl,fin _ rfl rfl rfl rfl rfl rfl⟩)
 refine rs hx fun K hK=>?_
 refine s1 (FJ (ks:=[N])) ?_
 refine sa ?_
 refine nl hK ?_
 -- r4 constant of r4 row
 obtain⟨p,hp⟩:∃p,p=r0.c[s]! :=⟨_,rfl⟩
 rw[←hp]
 refine rs hx fun K hK=>?_
 iterate 5 refine sa ?_
 have ht:=TU (vs:=(N,dC (ax.f p))::(kd,nC R G w d1)::vs) (lv:=lv) (N:=N+1) (al (show R≠N by omega) (al hf.dR.symm hRv)) (show R<N+1 by omega) hlin.pk aa (ez N)
 rw[row_k _ r0.c] at ht
 refine q1 (sHF ht rfl) ?_
 refine nl hK ?_
 obtain⟨k1,TC⟩:∃k1,k1=oJ (eU r0.k) p:=⟨_,rfl⟩
 rw[←TC]
 -- its coefficients
 have Ld:R<N+1:=by omega
 have hkN1:kd<N+1:=by omega
 have hcN1:C at'<N+1:=by omega
 have Tb:∀(r:Row),(A++ja C w at' r++B).all (D.idsC (N+1))=true:=fun r=>by
  rw[←Dm r]
  refine xS 0 _ fun j hj=>?_
  rw[c7] at hj
  rw[bw]
  have:=hok.lt (hD.hC j _ (cP hj))
  omega
 have hokB:∀(r:Row),cw ⟨(C at',dC ((cW ax).f r.c))::(R,A++ja C w at' r++B)::(N,dC (ax.f p))::(kd,nC R G w d1)::vs,lv,N+1⟩:=fun r=>
  (cw.cons (N:=N+1) ((GN p).cons (az _) Ld (Tb r)) (az _) hcN1 (eG _))
 have hTm:∀(t:Nat) (tm:List (Nat×D)),tm.lookup 0=some (.pt kd 0)→tm.lookup 1=some (dI .i64 at')→tm.lookup 2=some (dI .i64 s)→tm.lookup 7=some (.pt R (at'*38))→tm.lookup 8=some (.pt N 0)→tm.lookup 9=some (dI .i64 r0.b)→tm.lookup 10=some (.fn 152 [N])→tm.lookup 64=some (dI .i64 w)→tm.lookup 65=some (dI .i64 t)→
   bI (N+1) tm [(0,.pt kd 0),(1,dI .i64 at'),(2,dI .i64 s),(7,.pt R (at'*38)),(8,.pt N 0),(9,dI .i64 r0.b),(10,.fn 152 [N]),(64,dI .i64 w),(65,dI .i64 t)]:=fun t tm a b c e f g h i j=>
  (((((((((bI.nil.cons j).cons i).cons h (a7.2 fun k hk=>aB (by rw[ri.1 hk];omega))).cons g).cons f (aB (ez N))).cons e (aB Ld)).cons c).cons b).cons a (aB hkN1))
 refine AW.seq (rs hx fun K hK=>?_)
 iterate 4 refine sa ?_
 refine s1 (kO (Aw hA ⟨k1,r0.c,r0.b⟩).pc aa Ld tbI) ?_
 iterate 2 refine sa ?_
 refine nl hK ?_
 refine AW.block ?_
 refine AW.loopW (fun t:Nat=>[(0,.pt kd 0),(1,dI .i64 at'),(2,dI .i64 s),(7,.pt R (at'*38)),(8,.pt N 0),(9,dI .i64 r0.b),(10,.fn 152 [N]),(64,dI .i64 w),(65,dI .i64 t)])
  (fun t=>⟨(C at',dC ((cW ax).f (tp p t r0.c)))::(R,A++ja C w at' ⟨k1,r0.c,r0.b⟩++B)::(N,dC (ax.f p))::(kd,nC R G w d1)::vs,lv,N+1⟩) (fun t=>t≤w) (fun t=>w - t) 0 ?_ (cy _) ?_
 ·refine wkS (by rw[h0];exact jM N) (az _) ((cw.cons (N:=N+1) ((GN p).cons (az _) Ld (Tb ⟨k1,r0.c,r0.b⟩)) (az _) hcN1 (eG _))) (fun j ds h=>?_) (hTm 0 _ rfl rfl rfl rfl rfl rfl rfl rfl rfl)
  rcases cm h with⟨rfl,rfl⟩|⟨_,h⟩
  ·exact al hC2 (al (show C at'≠N by omega) (al hC1 Ry))
  ·exact h
 ·intro t ht
  have M9:(tp p t r0.c).length=w:=by rw[BC,t8]
  refine rs hx fun K hK=>?_
  refine sa ?_
  refine nl hK ?_
  refine AW.seq (AW.condS rfl (fun hb=>?_) (fun hb=>?_))
  ·have htn:t<w:=by have:=bq hb;omega
   refine AW.skip (AW.seq (AW.block (rs hx fun K hK=>?_)))
   iterate 2 refine sa ?_
   refine nl hK ?_
   refine rq hx fun K hK=>?_
   iterate 5 refine sa ?_
   refine s1 (kO (Aw hA ⟨k1,r0.c,r0.b⟩).pc (al hC2.symm aa) Ld tbI) ?_
   refine sa ?_
   refine s1 (iaN htn) ?_
   refine q1 (sHF (TU aa hcN1 (Pt.el (tp p t r0.c) t (by omega)) (al (show N≠C at' by omega) (al (show N≠R by omega) aa)) (ez N)) rfl) ?_
   refine nl hK ?_
   refine rq hx fun K hK=>?_
   iterate 2 refine sa ?_
   refine nl hK ?_
   rw[b7]
   refine⟨t+1,wkS (by rw[h0];exact jM N) (az _) ?_ (fun j ds h=>?_) (hTm (t+1) _ rfl rfl rfl rfl rfl rfl rfl rfl rfl),htn,by omega⟩
   ·exact (cw.cons (N:=N+1) ((GN p).cons (az _) Ld (Tb ⟨k1,r0.c,r0.b⟩)) (az _) hcN1 (eG _))
   ·rw[Pt.el_set _ _ (by omega),xe]
    exact h
  ·refine AW.exit ?_
   have htn:t=w:=by have:=dK hb;omega
   subst htn
   obtain⟨c1,Mn⟩:∃c1,c1=tp p t r0.c:=⟨_,rfl⟩
   rw[←Mn] at M9 ⊢
   -- r4 row's own places
   refine rsd [28,153] hx fun K hK=>?_
   iterate 4 refine sa ?_
   refine s1 (kO (Aw hA ⟨k1,r0.c,r0.b⟩).pc (al hC2.symm aa) Ld tbI) ?_
   iterate 5 refine sa ?_
   refine s1 (kO (Aw hA ⟨k1,r0.c,r0.b⟩).pc (al hC2.symm aa) Ld tbI) ?_
   iterate 2 refine sa ?_
   refine cq (Gz 0 (by omega)) ?_
   refine cq (Gz 1 (by omega)) ?_
   refine s1 (ldN (Pt.idN p) (al (show N≠C at' by omega) (al (show N≠R by omega) aa)) (ez N)) ?_
   refine cq (RR _ p) ?_
   refine sa ?_
   refine s1 (iaN hs) ?_
   refine s0 (stN (Pt.el c1 s (by omega)) aa (Pt.el_set c1 s (by omega) _)) ?_
   refine s1 (iaN (i:=bN) hbw rfl (congrArg (dI .i64) hbN)) ?_
   refine s0 (stN (Pt.el (c1.set s (nOf 0)) bN (by rw[c7];omega)) aa (Pt.el_set (c1.set s (nOf 0)) bN (by rw[c7];omega) _)) ?_
   iterate 2 refine sa ?_
   refine s0 (HW (ys:=[dI .i64 s]) (OG hA ⟨k1,r0.c,r0.b⟩) (al hC2.symm (al hC2.symm (al hC2.symm aa))) rfl tbI rfl rfl (row_b k1 (((c1.set s (nOf 0)).set bN (oJ (nOf 1) p))) s)) ?_
   refine nl hK ?_
   -- r4 dictionary with r4 row
   obtain⟨r1,Ge⟩:∃r1:Row,r1=⟨k1,(c1.set s (nOf 0)).set bN (oJ (nOf 1) p),s⟩:=⟨_,rfl⟩
   obtain⟨d2,yR⟩:∃d2:Dic,d2=⟨d.rows.set at' r1,d.gk,d.gc,d.n,d.piv+1,d.most⟩:=⟨_,rfl⟩
   have hr1c:r1.c.length=t:=by rw[Ge];show (List.set _ _ _).length=t;rw[c7,c7];exact M9
   have hrowN:(gj C t 0 (d.rows.set at' r1)).all (D.idsC N)=true:=xS 0 _ fun j hj=>by
    rw[c7] at hj
    rw[bw];exact hCj j hj
   obtain⟨P8,QE⟩:∃v,v=(C at',dC ((cW ax).f r1.c))::(R,gj C t 0 (d.rows.set at' r1))::(kd,nC R G t d1)::vs:=⟨_,rfl⟩
   have AO:cw ⟨P8,lv,N⟩:=by
    rw[QE]
    exact ((hok.cons (az _) GO (sE DK T3)).cons (az _) DK hrowN).cons (az _) hcN (eG _)
   have hfr1:∀k ds,k≠kd→k≠R→k≠C at'→vs.lookup k=some ds→P8.lookup k=some ds:=fun k ds h1 h2 h3 h=>by
    rw[QE];exact al h3 (al h2 (al h1 h))
   have hD2:DAt P8 kd R G C t d2:=by
    have hDa:DAt ((kd,nC R G t d1)::vs) kd R G C t d1:=hD.setDic hf d1 TH (by rw[DI];exact hD.lG) aa (al hf.dG.symm (by rw[DI];exact hD.hG)) fun k ds h1 _ h=>al h1 h
    have:=hDa.setRow (vs2:=P8) (by rw[TH];exact hf) (by rw[TH];exact hat) r1 hr1c (by rw[QE,TH];exact al hC2.symm aa) (by rw[QE];exact aa) fun k ds h1 h2 h=>by rw[QE];exact al h2 (al h1 h)
    rw[yR]
    rw[DI] at this
    exact this
   have Gj:d2.rows.length=d.rows.length:=by rw[yR];exact c7 ..
   have Dq:Dif d2.rows.length kd R G C:=by rw[Gj];exact hf
   have QI:d2.rows≠[]:=fun e=>by rw[e] at Gj;simp at Gj;omega
   have O2:d2.rows[at']? =some r1:=by rw[yR];exact HJ hat
   refine AW.weak (wkS (tm':=[(0,.pt kd 0),(1,dI .i64 at'),(2,dI .i64 s),(7,.pt R (at'*38))]) (by rw[h0];exact az N) (jM N) AO (fun j ds h=>?_) (bI.cons (t:=0) (d:=.pt kd 0) (bI.cons (t:=1) (d:=dI .i64 at') (bI.cons (t:=2) (d:=dI .i64 s) (bI.cons (t:=7) (d:=.pt R (at'*38)) bI.nil rfl (aB DK)))) rfl (aB GO))) ?_
   ·have hj:=AO.lt h
    rw[QE] at h
    rcases cm h with⟨rfl,rfl⟩|⟨O5,h⟩
    ·refine al hC2 ?_
     rw[Ge];exact aa
    rcases cm h with⟨rfl,rfl⟩|⟨CV,h⟩
    ·rw[Dm,Ge];exact aa
    exact al CV (al O5 (al O5 (al O5 (al CV (al (show j≠N by omega) h)))))
   obtain⟨A2,B2,_,_,_,hlin2,_⟩:=mQ C t d2.rows at' O2
   refine rs hx fun K hK=>?_
   iterate 3 refine sa ?_
   refine s1 (Dg hlin2.pa (hD2.hR QI) DK Ar (bZ _ _ _)) ?_
   refine q1 (sHC (Nh (hD2.hC at' r1 O2) hr1c hw) rfl (.inr (Fr.refl _))) ?_
   refine sa ?_
   refine nl hK ?_
   refine rs hx fun K hK=>?_
   iterate 3 refine sa ?_
   refine q1 (litR tok BE zw rfl rfl) ?_
   refine sa ?_
   refine nl hK ?_
   -- r4 lines
   obtain⟨ok0,hok0⟩:∃b,b=gl r1.k r1.c:=⟨_,rfl⟩
   rw[←hok0]
   obtain⟨m,Tz⟩:∃m,m=d2.rows.length:=⟨_,rfl⟩
   have hmm:m=d.rows.length:=Tz.trans Gj
   have IQ:∀i id nx,N≤nx→id<nx→cw ⟨(id,lns kd R at' i)::P8,lv,nx⟩:=fun i id nx h1 h2=>AO.cons h1 h2 (OV (by omega) (by omega) i)
   have hTmL:∀(i id n nx:Nat) (tm:List (Nat×D)),N≤nx→id<nx→tm.lookup 0=some (.pt kd 0)→tm.lookup 1=some (dI .i64 at')→tm.lookup 2=some (dI .i64 s)→tm.lookup 7=some (.pt R (at'*38))→tm.lookup 12=some (dB ok0)→tm.lookup 13=some (.gw id 1 n)→tm.lookup 113=some (dI .i64 m)→tm.lookup 114=some (dI .i64 i)→
     bI nx tm [(0,.pt kd 0),(1,dI .i64 at'),(2,dI .i64 s),(7,.pt R (at'*38)),(12,dB ok0),(13,.gw id 1 n),(113,dI .i64 m),(114,dI .i64 i)]:=fun i id n nx tm h1 h2 a b c e f g h j=>
    ((((((((bI.nil.cons j).cons h).cons g (aB h2)).cons f).cons e (aB (show R<nx by omega))).cons c).cons b).cons a (aB (show kd<nx by omega)))
   refine AW.seq (rs hx fun K hK=>?_)
   iterate 3 refine sa ?_
   refine s1 (kO (gM (d:=d2)) (al (show kd≠N by omega) hD2.hd) hkN1 tbI) ?_
   rw[qF QI]
   refine stG (d:=dI .i64 d2.rows.length) tok (CH CM ud) ?_
   refine sa ?_
   refine nl hK ?_
   rw[←Tz]
   refine AW.block ?_
   refine AW.loopW (fun st:Nat×Nat×Nat=>[(0,.pt kd 0),(1,dI .i64 at'),(2,dI .i64 s),(7,.pt R (at'*38)),(12,dB ok0),(13,.gw st.2.1 1 (lns kd R at' st.1).length),(113,dI .i64 m),(114,dI .i64 st.1)])
    (fun st=>⟨(st.2.1,lns kd R at' st.1)::P8,lv,st.2.2⟩) (fun st=>st.1≤m∧N≤st.2.1∧st.2.1<st.2.2) (fun st=>m - st.1) (0,N,N+1) ?_ ⟨cy _,az _,ez _⟩ ?_
   ·exact wkS (by rw[h0];exact jM N) (az _) (IQ 0 N (N+1) (jM _) (ez _)) (fun j ds h=>h) (hTmL 0 N 1 (N+1) _ (jM _) (ez _) rfl rfl rfl rfl rfl rfl rfl rfl)
   ·rintro⟨i,id,nx⟩ ⟨hi,hid,rP⟩
    dsimp only at hi hid rP ⊢
    refine rs hx fun K hK=>?_
    refine sa ?_
    refine nl hK ?_
    refine AW.seq (AW.condS rfl (fun hb=>?_) (fun hb=>?_))
    ·have GP:i<m:=by have:=bq hb;omega
     refine AW.skip (AW.seq (AW.block (rs hx fun K hK=>?_)))
     iterate 2 refine sa ?_
     refine nl hK ?_
     refine rs hx fun K hK=>?_
     iterate 3 refine sa ?_
     refine nl hK ?_
     refine AW.condS rfl (fun hb=>?_) (fun hb=>?_)
     ·have rQ:i≠at':=by have:=bq hb;omega
      refine rq hx fun K hK=>?_
      iterate 4 refine sa ?_
      refine s1 (kO (gM (d:=d2)) (al (show kd≠id by omega) hD2.hd) (show kd<nx by omega) tbI) ?_
      rw[qF QI]
      refine sa ?_
      refine stG (d:=.pt R (i*38)) tok (iaR (i:=i) (n:=d2.rows.length) (by omega)) ?_
      refine sa ?_
      refine q1 (litR tok BE zw rfl rfl) ?_
      refine q1 (appR tok (k:=id) (ky:=nx) (ds:=lns kd R at' i) BE zw (al (show id≠nx by omega) aa) aa rfl rfl (zb _).symm rfl (by have:=MM (kd:=kd) (R:=R) (at':=at') i;show (_+1)*8≤_;omega)) ?_
      refine sa ?_
      refine nl hK ?_
      refine rq hx fun K hK=>?_
      iterate 2 refine sa ?_
      refine nl hK ?_
      rw[b7]
      have hlen:(lns kd R at' (i+1)).length=(lns kd R at' i).length+1:=by rw[IE rQ,cJ];rfl
      refine⟨(i+1,nx+1,nx+1+1),wkS (by rw[h0];show N≤nx+1+1;omega) (az _) (IQ (i+1) (nx+1) (nx+1+1) (by omega) (by omega)) (fun j ds h=>?_) (by
       dsimp only
       rw[hlen]
       exact hTmL (i+1) (nx+1) _ (nx+1+1) _ (by omega) (by omega) rfl rfl rfl rfl rfl rfl rfl rfl),⟨GP,by show N≤nx+1;omega,ez _⟩,by show m - (i+1)<m - i;omega⟩
      rcases cm h with⟨rfl,rfl⟩|⟨hj,h⟩
      ·rw[IE rQ];exact aa
      ·have hjN:=AO.lt h
       exact al hj (xW (by simp;omega) (al (show j≠nx by omega) (al (show j≠id by omega) h)))
     ·have rQ:i=at':=by have:=dK hb;simp at this;omega
      refine AW.skip (rq hx fun K hK=>?_)
      iterate 2 refine sa ?_
      refine nl hK ?_
      rw[b7]
      refine⟨(i+1,id,nx),wkS (by rw[h0];show N≤nx;omega) (az _) (IQ (i+1) id nx (by omega) rP) (fun j ds h=>?_) (by
       dsimp only
       rw[IF rQ]
       exact hTmL (i+1) id _ nx _ (by omega) rP rfl rfl rfl rfl rfl rfl rfl rfl),⟨GP,hid,rP⟩,by show m - (i+1)<m - i;omega⟩
      dsimp only at h
      rw[IF rQ] at h
      exact h
    ·refine AW.exit ?_
     have qv:i=m:=by have:=dK hb;omega
     subst qv
     -- r4 lines,one by one
     have hiat:at'<i:=by omega
     obtain⟨P,hP⟩:∃P:Nat→Dic×Bool,P=pO r1 s at' i (d2,ok0):=⟨_,rfl⟩
     have hP0:P 0=(d2,ok0):=by rw[hP];rfl
     have hPs:∀u o,(yr at' i)[u]? =some o→P (u+1)=w6 r1 s (P u) o:=fun u o h=>by rw[hP];exact pO_succ h
     have hLl:(lns kd R at' i).length=(yr at' i).length:=by rw[OU,bg]
     have hLle:=MM (kd:=kd) (R:=R) (at':=at') i
     refine AW.seq (rs hx fun K hK=>?_)
     refine sa ?_
     refine stG (d:=dI .i64 (lns kd R at' i).length) tok (CH BE zw) ?_
     refine sa ?_
     refine nl hK ?_
     refine AW.block ?_
     refine AW.loopW (fun st:Nat×List (Nat×List D)=>[(2,dI .i64 s),(7,.pt R (at'*38)),(12,dB (P st.1).2),(131,.gw id 1 (lns kd R at' i).length),(132,dI .i64 (lns kd R at' i).length),(133,dI .i64 st.1)])
      (fun st=>⟨st.2,lv,nx⟩)
      (fun st=>st.1≤(lns kd R at' i).length∧DAt st.2 kd R G C t (P st.1).1∧cw ⟨st.2,lv,nx⟩∧st.2.lookup id=some (lns kd R at' i)∧(P st.1).1.rows.length=i∧(P st.1).1.rows[at']? =some r1∧
       ∀k ds,k≠kd→k≠R→k≠G→(∀j,j<i→k≠C j)→P8.lookup k=some ds→st.2.lookup k=some ds)
      (fun st=>(lns kd R at' i).length - st.1) (0,(id,lns kd R at' i)::P8) ?_ ?_ ?_
     ·refine wkS (by rw[h0];show N≤nx;omega) (az _) (IQ i id nx (by omega) rP) (fun j ds h=>h) ?_
      dsimp only
      rw[hP0]
      exact bI.cons (t:=2) (d:=dI .i64 s) (bI.cons (t:=7) (d:=.pt R (at'*38)) (bI.cons (t:=12) (d:=dB ok0) (bI.cons (t:=131) (d:=.gw id 1 (lns kd R at' i).length) (bI.cons (t:=132) (d:=dI .i64 (lns kd R at' i).length) (bI.cons (t:=133) (d:=dI .i64 (0:Nat)) bI.nil rfl rfl) rfl rfl) rfl (aB rP)) rfl rfl) rfl (aB (show R<nx by omega))) rfl rfl
     ·dsimp only
      rw[hP0]
      refine⟨cy _,hD2.look fun k ds hk h=>al ?_ h,IQ i id nx (by omega) rP,aa,by rw[hmm];exact Gj,O2,fun k ds _ _ _ _ h=>al (by have:=AO.lt h;omega) h⟩
      have:=AO.lt h
      omega
     ·rintro⟨u,v⟩ ⟨hu,hDu,To,hvid,Hr,hru,hfru⟩
      dsimp only at hu hDu To hvid Hr hru hfru ⊢
      obtain⟨du,hdu⟩:∃x,x=(P u).1:=⟨_,rfl⟩
      obtain⟨oku,Tn⟩:∃x,x=(P u).2:=⟨_,rfl⟩
      rw[←hdu] at hDu Hr hru
      rw[←Tn]
      have hfu:Dif du.rows.length kd R G C:=by rw[Hr,hmm];exact hf
      refine rs hx fun K hK=>?_
      refine sa ?_
      refine nl hK ?_
      refine AW.seq (AW.condS rfl (fun hb=>?_) (fun hb=>?_))
      ·have M0:u<(lns kd R at' i).length:=by have:=bq hb;omega
       obtain⟨o,ho⟩:∃o,(yr at' i)[u]? =some o:=⟨_,cP (by omega)⟩
       obtain⟨hoa,hoi⟩:=Sx (eg ho)
       have C0:(lns kd R at' i)[u]? =some (.pt (klO kd R o) (olO o)):=by rw[OU,dW,ho];rfl
       obtain⟨F,A3,B3,hF,hLi,hcO,hlO,K5,Dp⟩:=lineO hDu hfu o (fun j hj=>by rw[Hr];exact hoi j hj)
       have hklN:=To.lt hF
       have hkcN:=To.lt hcO
       refine AW.skip (AW.seq (AW.block (rs hx fun K hK=>?_)))
       refine stG (d:=.pt id u) tok (iaP M0) ?_
       refine s1 (kO (Pt.cell C0) hvid rP zw) ?_
       refine sa ?_
       refine nl hK ?_
       refine rs hx fun K hK=>?_
       iterate 3 refine sa ?_
       refine s1 (kO hLi.pc hF hklN tbI) ?_
       refine sa ?_
       refine s1 (iaN hs) ?_
       refine s1 (ldN (Pt.el (lcO du o) s (by omega)) hcO hkcN) ?_
       refine s1 LV ?_
       refine s0 (stZ aa) ?_
       refine nl hK ?_
       obtain⟨q,hq⟩:∃q,q=(lcO du o)[s]! :=⟨_,rfl⟩
       rw[←hq]
       refine rsd [28] hx fun K hK=>?_
       iterate 3 refine sa ?_
       refine s1 (kO hLi.pc (al (show _≠nx by omega) (al (show _≠nx by omega) hF)) (show klO kd R o<nx+1 by omega) tbI) ?_
       refine sa ?_
       refine cq (Gz 0 (by omega)) ?_
       refine s1 (iaN hs) ?_
       refine s0 (stN (Pt.el (lcO du o) s (by omega)) (al (show _≠nx by omega) (al (show _≠nx by omega) hcO)) (Pt.el_set (lcO du o) s (by omega) _)) ?_
       refine nl hK ?_
       have hneu:du.rows≠[]:=fun e=>by rw[e] at hru;simp at hru
       obtain⟨A4,B4,_,_,_,hlinr,_⟩:=mQ C t du.rows at' hru
       have hidk:klO kd R o<N∧kcO G C o<N∧R≠kcO G C o∧C at'≠kcO G C o∧C at'≠klO kd R o:=by
        cases o with
        |none=>exact⟨GO,T3,hf.RG,hC3,hC1⟩
        |some j=>
         have hj:=hoi j rfl
         have TD:j<d.rows.length:=by omega
         exact⟨DK,hCj j TD,(hf.C1 j TD).2.1.symm,fun e=>hoa (by rw[hf.C2 at' j hat TD e]),hC2⟩
       obtain⟨hk1N,hk2N,hRkc,hakc,hakl⟩:=hidk
       refine rsd [] hx fun K hK=>?_
       refine sa ?_
       refine s1 (ldN (Pt.idN q) (al (show nx≠kcO G C o by omega) aa) (ez nx)) ?_
       iterate 3 refine sa ?_
       refine s1 (Dg hlinr.pa (al hRkc (al (show R≠nx by omega) (al (show R≠nx by omega) (hDu.hR hneu)))) (show R<nx+1 by omega) Ar (bZ _ _ _)) ?_
       refine sa ?_
       refine q1 (sHC (h_add (vs:=(kcO G C o,dC ((cW ax).f ((lcO du o).set s (nOf 0))))::(nx,dC (ax.f q))::(nx,dC zN)::v) (lv:=lv) (N:=nx+1) (kx:=C at') (xc:=r1.c) (but:=(s:Int)) (al K5 (al (show klO kd R o≠nx by omega) (al (show klO kd R o≠nx by omega) hF))) hLi aa (by rw[c7];exact hlO)
        (al hakc (al (show C at'≠nx by omega) (al (show C at'≠nx by omega) (hDu.hC at' r1 hru)))) hr1c K5 hakc hakl hw) rfl (.inl (by kernel_rfl))) ?_
       refine nl hK ?_
       obtain⟨k2,zK⟩:∃x,x=xG q r1.k (lkO du o):=⟨_,rfl⟩
       obtain⟨c2,rA⟩:∃x,x=uI q r1.c s ((lcO du o).set s (nOf 0)):=⟨_,rfl⟩
       rw[←zK,←rA]
       have hc2l:c2.length=t:=by rw[rA,uH,c7];exact hlO
       have hPn:P (u+1)=(MB du o k2 c2,oku&&gl k2 c2):=by
        rw[hPs u o ho,zK,rA,hq,hdu,Tn];rfl
       have Do:cw ⟨(kcO G C o,dC ((cW ax).f c2))::(klO kd R o,A3++ba k2 (kcO G C o) t++B3)::v,lv,nx⟩:=
        cw.cons (N:=nx) (To.cons (az _) hklN (hLi.pa.ids (by rw[bZ,bZ]) (To.var _ F hF).2 (jc hkcN))) (az _) hkcN (eG _)
       have fin:∀tm:List (Nat×D),tm.lookup 2=some (dI .i64 s)→tm.lookup 7=some (.pt R (at'*38))→tm.lookup 12=some (dB (oku&&gl k2 c2))→tm.lookup 131=some (.gw id 1 (lns kd R at' i).length)→tm.lookup 132=some (dI .i64 (lns kd R at' i).length)→tm.lookup 133=some (dI .i64 ((u+1:Nat):Int))→
         ∃st:Nat×List (Nat×List D),Wk cx tm ⟨(kcO G C o,dC ((cW ax).f c2))::(klO kd R o,A3++ba k2 (kcO G C o) t++B3)::(kcO G C o,dC ((cW ax).f ((lcO du o).set s (nOf 0))))::(nx,dC (ax.f q))::(nx,dC zN)::v,lv,nx+1⟩
          [(2,dI .i64 s),(7,.pt R (at'*38)),(12,dB (P st.1).2),(131,.gw id 1 (lns kd R at' i).length),(132,dI .i64 (lns kd R at' i).length),(133,dI .i64 st.1)] ⟨st.2,lv,nx⟩∧
          (st.1≤(lns kd R at' i).length∧DAt st.2 kd R G C t (P st.1).1∧cw ⟨st.2,lv,nx⟩∧st.2.lookup id=some (lns kd R at' i)∧(P st.1).1.rows.length=i∧(P st.1).1.rows[at']? =some r1∧
           ∀k ds,k≠kd→k≠R→k≠G→(∀j,j<i→k≠C j)→P8.lookup k=some ds→st.2.lookup k=some ds)∧(lns kd R at' i).length - st.1<(lns kd R at' i).length - u:=fun tm a b c e f g=>by
        refine⟨(u+1,(kcO G C o,dC ((cW ax).f c2))::(klO kd R o,A3++ba k2 (kcO G C o) t++B3)::v),wkS (by rw[h0];show N≤nx;omega) (jM nx) Do (fun j ds h=>?_) ?_,⟨by show u+1≤_;omega,?_,Do,?_,?_,?_,fun k ds h1 h2 h3 h4 h=>?_⟩,by show (lns kd R at' i).length - (u+1)<_;omega⟩
        ·have hj:=Do.lt h
         rcases cm h with⟨rfl,rfl⟩|⟨O5,h⟩
         ·exact aa
         rcases cm h with⟨rfl,rfl⟩|⟨CV,h⟩
         ·exact al K5 aa
         ·exact al O5 (al CV (al O5 (al (show j≠nx by omega) (al (show j≠nx by omega) h))))
        ·dsimp only
         rw[hPn]
         exact (((((bI.nil.cons g).cons f).cons e (aB rP)).cons c).cons b (aB (show R<nx by omega))).cons a
        ·dsimp only
         rw[hPn]
         exact Dp _ k2 c2 hc2l (al K5 aa) aa fun k ds h1 h2 h=>al h2 (al h1 h)
        ·exact al (show id≠kcO G C o by omega) (al (show id≠klO kd R o by omega) hvid)
        ·dsimp only
         rw[hPn,Sb];exact Hr
        ·dsimp only
         rw[hPn,setO_ne hoa];exact hru
        ·have hkk:k≠klO kd R o∧k≠kcO G C o:=by
          cases o with
          |none=>exact⟨h1,h3⟩
          |some j=>exact⟨h2,h4 j (hoi j rfl)⟩
         exact al hkk.2 (al hkk.1 (hfru k ds h1 h2 h3 h4 h))
       refine rq hx fun K hK=>?_
       iterate 2 refine sa ?_
       rcases Bool.eq_false_or_eq_true oku with M7|M7
       ·iterate 2 refine ga M7 ?_
        refine g1 (d:=.ag (ba k2 (kcO G C o) t)) M7 (Dg (hLi.new k2).pa (al K5 aa) (show klO kd R o<nx+1 by omega) Ar (bZ _ _ _)) ?_
        refine OA rfl rfl (by rw[M7];rfl) (sHC (Nh aa hc2l hw) rfl (.inr (Fr.refl _))) ?_
        refine s1 (pp M7) ?_
        refine sa ?_
        refine nl hK ?_
        refine rq hx fun K hK=>?_
        iterate 2 refine sa ?_
        refine nl hK ?_
        rw[b7]
        exact fin _ rfl rfl (by rw[M7];rfl) rfl rfl rfl
       ·iterate 4 refine Es rfl rfl M7 ?_
        refine s1 (mm M7) ?_
        refine sa ?_
        refine nl hK ?_
        refine rq hx fun K hK=>?_
        iterate 2 refine sa ?_
        refine nl hK ?_
        rw[b7]
        exact fin _ rfl rfl (by rw[M7];rfl) rfl rfl rfl
      ·refine AW.exit ?_
       have M0:u=(lns kd R at' i).length:=by have:=dK hb;omega
       have M4:d.rows[at']! =r0:=by rw[bT d.rows at' hat];exact (fW.1 hr0).2
       have hr1t:r1=bc r0 s:=by
        rw[Ge,TC,Mn,hp]
        unfold bc
        rw[show r0.b.toNat=bN by omega,show r0.c.length=t from t8]
       have hpp:dX d at' s=(if oku then 0 else 30,du):=by
        unfold dX
        rw[ifn_]
        dsimp only
        rw[M4,←hr1t,←hmm,←hok0,←yR,←hLl,←M0,←show P=pO r1 s at' i (d2,ok0) from hP,←hdu,←Tn]
       rw[hpp]
       have hlen':du.rows.length=d.rows.length:=by rw[Hr,hmm]
       have fin2:∀(tm:List (Nat×D)) (e:Int),tm.lookup 6=some (dI .i64 e)→∃tm',Wk cx tm ⟨v,lv,nx⟩ tm' ⟨ov kd R G C t du vs,lv,N⟩∧t5 tbl [.tmp 6] tm' ⟨ov kd R G C t du vs,lv,N⟩ (dI .i64 e):=fun tm e h=>
        SO h0 hok (by omega) hDu hfu GO DK T3 (fun j hj=>hCj j (by omega)) (fun k ds h1 h2 h3 h4 h=>hfru k ds h1 h2 h3 (fun j hj=>h4 j (by omega)) (hfr1 k ds h1 h2 (h4 at' (by omega)) h)) (fun e=>by rw[e] at hlen';simp at hlen';omega) h
       refine AW.seq (rs hx fun K hK=>?_)
       iterate 2 refine sa ?_
       refine nl hK ?_
       rcases Bool.eq_false_or_eq_true oku with M7|M7
       ·refine AW.condF rfl (by rw[M7];rfl) (AW.skip (rs hx fun K hK=>?_))
        refine sa ?_
        refine nl hK ?_
        refine AW.ret ?_
        rw[M7]
        exact fin2 _ 0 rfl
       ·refine AW.condT rfl (by rw[M7];rfl) (rs hx fun K hK=>?_)
        refine sa ?_
        refine nl hK ?_
        refine AW.ret ?_
        rw[M7]
        exact fin2 _ 30 rfl
end
end
section
structure cR(d:Dic)(w m:Nat):Prop where
 len:d.rows.length=m
 lg:d.gc.length=w
 lc:∀i,i<m→d.rows[i]!.c.length=w
 b:∀i,i<m→0≤d.rows[i]!.b∧d.rows[i]!.b<w
 p0:0≤d.piv
 p1:d.piv≤9223372036854775807
 m0:0≤d.most
 m1:d.most≤9223372036854775807
section
variable {d:Dic} {w m at' s:Nat}
theorem cR.lC(h:cR d w m):∀(i:Nat) (r:Row),d.rows[i]? =some r→r.c.length=w:=fun i r hr=>by
 have hi:=(fW.1 hr).1
 have:=h.lc i (by rw[←h.len];exact hi)
 rwa[cZ hr] at this
theorem Su(h:d.most≤d.piv):dX d at' s=(220,d):=by unfold dX;rw[ah h]
theorem cR.pivD(h:cR d w m)(hat:at'<m)(hs:s<w)(hp:d.piv<d.most):cR (gF d at' s) w m:=by
 have hl:=h.len
 refine⟨by rw[ej];exact hl,?_,fun i hi=>?_,fun i hi=>?_,?_,?_,h.m0,h.m1⟩
 ·show (g5 d.gk d.gc _ s).c.length=w
  rw[r8];exact h.lg
 ·rw[jv (by omega)]
  split
  ·rw[rZ];exact h.lc at' hat
  ·show (g5 d.rows[i]!.k d.rows[i]!.c (bc d.rows[at']! s) s).c.length=w
   rw[r8];exact h.lc i hi
 ·rw[pW (by omega)]
  split
  ·omega
  ·exact h.b i hi
 ·have:=h.p0
  show 0≤d.piv+1;omega
 ·have:=h.m1
  show d.piv+1≤_;omega
theorem cR.pivot(h:cR d w m)(hat:at'<m)(hs:s<w):cR (dX d at' s).2 w m∧(dX d at' s).2.most=d.most∧(dX d at' s).2.n=d.n∧((dX d at' s).1=0→(dX d at' s).2.piv=d.piv+1∧d.piv<d.most):=by
 by_cases hp:d.most≤d.piv
 ·rw[Su hp]
  exact⟨h,rfl,rfl,fun e=>by cases e⟩
 ·obtain⟨h2,_,_⟩:=BP d at' s (by rw[h.len];exact hat) hp
  rw[h2]
  exact⟨h.pivD hat hs (by omega),rfl,rfl,fun _=>⟨rfl,by omega⟩⟩
theorem cR.enter(h:cR d w m)(he:kF d.gc=some s):s<w:=by have:=(qg he).1;rw[h.lg] at this;exact this
theorem cR.leav(h:cR d w m){z:Nu}{p:Int×Nu}(hl:jy d.rows s z d.rows.length=some p)(hp:¬p.1<0):p.1.toNat<m∧p.1=(p.1.toNat:Int):=by
 rcases pZ hl with e|⟨i,h1,h2,_⟩
 ·omega
 ·have:=h.len;omega
theorem cR.improve(h:cR d w m):∀(f:Nat),cR (ie f d).2 w m∧(ie f d).2.most=d.most∧(ie f d).2.n=d.n∧-1≤(ie f d).1.1∧(ie f d).1.1<w:=by
 intro f
 induction f generalizing d with
 |zero=>exact⟨h,rfl,rfl,zX _,by show (-1:Int)<w;omega⟩
 |succ f ih=>
  unfold ie
  cases he:kF d.gc with
  |none=>exact⟨h,rfl,rfl,zX _,by show (-1:Int)<w;omega⟩
  |some s=>
   dsimp only
   have hs:=h.enter he
   cases hl:jy d.rows s default d.rows.length with
   |none=>exact⟨h,rfl,rfl,zX _,by show (-1:Int)<w;omega⟩
   |some p=>
    dsimp only
    by_cases hp:p.1<0
    ·rw[ah hp];exact⟨h,rfl,rfl,by show -1≤(s:Int);omega,by show (s:Int)<w;omega⟩
    ·rw[ai hp]
     obtain⟨h1,_⟩:=h.leav hl hp
     obtain⟨h2,h3,h4,_⟩:=h.pivot h1 hs
     by_cases h0:(dX d p.1.toNat s).1=0
     ·rw[ah h0]
      obtain⟨a1,a2,a3,a4⟩:=ih h2
      exact⟨a1,a2.trans h3,a3.trans h4,a4⟩
     ·rw[ai h0]
      exact⟨h2,h3,h4,zX _,by show (-1:Int)<w;omega⟩
end
end
section
section
variable {vs vsX:List (Nat×List D)} {lv:List (Nat×Nat×Nat×TypeId)} {N kd R G w m:Nat} {C:Nat→Nat} {d d':Dic}
theorem DD(hf:Dif m kd R G C)(hS:cR d' w m)(hm:0<m)(hX:∀k ds,k≠kd→k≠R→k≠G→(∀j,j<m→k≠C j)→vs.lookup k=some ds→vsX.lookup k=some ds):∀j ds,(ov kd R G C w d' vs).lookup j=some ds→(ov kd R G C w d' vsX).lookup j=some ds:=by
 have hf':Dif d'.rows.length kd R G C:=by rw[hS.len];exact hf
 refine Ek hf' (DAt.ov hf' hS.lg hS.lC) (fun k ds h1 h2 h3 h4 h=>?_) (fun e=>?_)
 ·rw[Iu h1 h2 h3 h4]
  exact hX k ds h1 h2 h3 (fun j hj=>h4 j (by rw[hS.len];exact hj)) h
 ·have:=hS.len
  rw[e] at this
  exact absurd this (by simp only[Ji];omega)
theorem cR.dif(h:cR d w m)(hf:Dif m kd R G C):Dif d.rows.length kd R G C:=by rw[h.len];exact hf
theorem cR.at(h:cR d w m)(hf:Dif m kd R G C):DAt (ov kd R G C w d vs) kd R G C w d:=DAt.ov (h.dif hf) h.lg h.lC
theorem Q8 {c:List Nu}{s:Nat}(h:s<c.length)(h1:0<bE c[s]!)(h2:∀t,t<s→¬0<bE c[t]!):kF c=some s:=by
 unfold kF
 rw[ph]
 refine⟨h,?_,fun t ht=>?_⟩
 ·rw[bT c s h] at h1;exact aB h1
 ·have:=h2 t ht
  rw[bT c t (by omega)] at this
  simpa using this
theorem Nr {c:List Nu}(h2:∀t,t<c.length→¬0<bE c[t]!):kF c=none:=by
 unfold kF
 rw[vH]
 intro x hx
 obtain⟨t,ht,rfl⟩:=xy.1 hx
 have:=h2 t ht
 rw[bT c t ht] at this
 exact bm this
theorem DAt.up(h:DAt vs kd R G C w d)(hX:∀k ds,vs.lookup k=some ds→vsX.lookup k=some ds):DAt vsX kd R G C w d:=h.look fun k ds _=>hX k ds
theorem Ht(DK:R<N)(hD:DAt vs kd R G C w d)(hf:Dif m kd R G C)(hS:cR d w m)(hw:w≤1000000)(hm:m≤1000000):
  HC prog 46 [.pt kd 0] ⟨vs,lv,N⟩ (.tu [dI .i64 (aV d).1.1,dI .i64 (aV d).1.2]) ⟨ov kd R G C w (aV d).2 vs,lv,N⟩:=by
 refine HC.of (rs:=[.tmp 2,.tmp 3]) tok func46 rfl rfl (bb rfl) rfl (fun cx hx h0 hok=>?_)
 simp only[fP,Nat.reduceAdd,bw]
 have hl:=hS.len
 have wK:=hD.hd
 have GO:=hok.lt wK
 have T3:=hok.lt hD.hG
 have hCN:∀j,j<m→C j<N:=fun j hj=>hok.lt (hD.hC j d.rows[j]! (by rw[bT d.rows j (by omega)];exact cP _))
 have tR:∀d2,cR d2 w m→cw ⟨ov kd R G C w d2 vs,lv,N⟩:=fun d2 h2=>CQ hok GO DK T3 fun j hj=>hCN j (by rw[←h2.len];exact hj)
 refine rs hx fun K hK=>?_
 iterate 2 refine sa ?_
 refine nl hK ?_
 refine AW.scope (AW.seq (AW.label (AW.block (AW.loopW (fun u:Nat×Dic=>[(0,.pt kd 0)]) (fun u=>⟨ov kd R G C w u.2 vs,lv,N⟩) (fun u=>ie u.1 u.2=aV d∧cR u.2 w m∧(u.2.most - u.2.piv).toNat+1≤u.1) (fun u=>u.1) ((d.most - d.piv).toNat+1,d) ?_ ⟨rfl,hS,az _⟩ ?_))))
 ·exact wk1 h0 (hok:=tR d hS) (hv:=Ek (hS.dif hf) hD (fun _ _ _ _ _ _ h=>h) fun _ _ h=>h)
 ·rintro⟨f,dj⟩ ⟨he,C4,hfj⟩
  dsimp only at he C4 hfj ⊢
  obtain⟨f,rfl⟩:∃f',f=f'+1:=⟨f - 1,by omega⟩
  have hDV:=C4.at hf (vs:=vs)
  have oK:=tR dj C4
  have ut:∀k ds,k≠kd→k≠R→k≠G→(∀j,j<m→k≠C j)→vs.lookup k=some ds→(ov kd R G C w dj vs).lookup k=some ds:=fun k ds h1 h2 h3 h4 h=>by rw[Iu h1 h2 h3 fun j hj=>h4 j (by rw[←C4.len];exact hj)];exact h
  generalize hV:ov kd R G C w dj vs=V at hDV oK ut ⊢
  have hdV:=hDV.hd
  have hGV:=hDV.hG
  have O9:=hDV.lG
  refine AW.block (AW.seq (rs hx fun K hK=>?_))
  iterate 4 refine sa ?_
  refine c1 mJ.pc ?_
  iterate 2 refine sa ?_
  refine nl hK ?_
  refine AW.block (AW.loopW (fun t:Nat=>[(0,.pt kd 0),(13,.ow G 0 36 w),(14,dI .i64 w),(15,dI .i64 t)]) (fun _=>⟨V,lv,N⟩) (fun t=>t≤w∧∀t',t'<t→¬0<bE dj.gc[t']!) (fun t=>w - t) 0 ?_ ⟨cy _,fun t h=>absurd h (rk _)⟩ ?_)
  ·exact wk1 h0
  ·rintro t ⟨ht,mR⟩
   refine rs hx fun K hK=>?_
   refine sa ?_
   refine nl hK ?_
   refine AW.seq (AW.condS rfl (fun hb=>?_) (fun hb=>?_))
   ·have IM:t<w:=by have:=bq hb;omega
    refine AW.skip (AW.seq (AW.block (rs hx fun K hK=>?_)))
    refine sa ?_
    refine i1 IM ?_
    refine l1 (Pt.el dj.gc t (by omega)) ?_
    refine n1 ?_
    refine sa ?_
    refine z1 ?_
    refine nl hK ?_
    refine AW.seq (rs hx fun K hK=>?_)
    refine l1 (Pt.idN _) ?_
    refine cq (zo _) ?_
    refine sa ?_
    refine nl hK ?_
    refine AW.condS rfl (fun hb=>?_) (fun hb=>?_)
    ·have JW:bE dj.gc[t]!≤0:=bq hb
     refine AW.exit (rq hx fun K hK=>?_)
     iterate 2 refine sa ?_
     refine nl hK ?_
     rw[b7]
     refine⟨t+1,wk1 h0,⟨IM,fun t' h=>?_⟩,by omega⟩
     rcases d9 t' t with h1|h1
     ·exact mR t' h1
     ·obtain rfl:t'=t:=by omega
      omega
    have JW:¬bE dj.gc[t]!≤0:=dK hb
    have hen:kF dj.gc=some t:=Q8 (by omega) (by omega) mR
    unfold ie at he
    rw[hen] at he
    dsimp only at he
    refine AW.skip ?_
    have hup:∀(k:Nat) (ds:List D),V.lookup k=some ds→((N,dC (ax.f dj.gc[t]!))::(N,dC zN)::V).lookup k=some ds:=fun k ds h=>by
     have hk:=oK.lt h
     exact al (by omega) (al (by omega) h)
    have T4:=hDV.up hup
    have Rw:=QV (lv:=lv) (N:=N+1) T4 IM (by rw[C4.len];exact hm)
    cases hlp:jy dj.rows t default dj.rows.length with
    |none=>
     rw[hlp] at Rw he
     dsimp only[MR] at Rw he
     refine rs hx fun K hK=>?_
     iterate 2 refine sa ?_
     refine q1 (sHC Rw rfl (.inl (by kernel_rfl))) ?_
     iterate 5 refine sa ?_
     refine nl hK ?_
     refine AW.seq (rs hx fun K hK=>?_)
     iterate 2 refine sa ?_
     refine nl hK ?_
     refine AW.condT rfl (by decide) (rs hx fun K hK=>?_)
     iterate 3 refine sa ?_
     refine nl hK ?_
     refine AW.ret ?_
     rw[←he,hV]
     exact rt2 h0 (hok:=oK) (hv:=hup)
    |some p=>
     rw[hlp] at Rw he
     dsimp only[MR] at Rw he
     refine rs hx fun K hK=>?_
     iterate 2 refine sa ?_
     refine q1 (sHC Rw rfl (.inl (by kernel_rfl))) ?_
     iterate 5 refine sa ?_
     refine nl hK ?_
     refine AW.seq (rs hx fun K hK=>?_)
     iterate 2 refine sa ?_
     refine nl hK ?_
     refine AW.condF rfl (by decide) (AW.skip (AW.seq (rs hx fun K hK=>?_)))
     iterate 2 refine sa ?_
     refine nl hK ?_
     refine AW.condS rfl (fun hb=>?_) (fun hb=>?_)
     ·have hp:p.1<0:=bq hb
      rw[ah hp] at he
      refine rs hx fun K hK=>?_
      iterate 3 refine sa ?_
      refine nl hK ?_
      refine AW.ret ?_
      rw[←he,hV]
      exact rt2 h0 (hok:=oK) (hv:=hup)
     have hp:¬p.1<0:=dK hb
     rw[ai hp] at he
     obtain⟨ha,hpa⟩:=C4.leav hlp hp
     generalize p.1.toNat=a at ha hpa he
     have hra:dj.rows[a]? =some dj.rows[a]! :=by
      have:=C4.len
      rw[bT dj.rows a (by omega)];exact cP _
     have Tg:=IW (lv:=lv) (N:=N+1) T4 (C4.dif hf) hra IM (C4.b a ha) hw (by rw[C4.len];exact hm) ⟨C4.p0,C4.p1⟩ ⟨C4.m0,C4.m1⟩
     obtain⟨RA,hmq,hnq,hq0⟩:=C4.pivot ha IM
     have hov:=DD (vs:=vs) (vsX:=(N,dC (ax.f dj.gc[t]!))::(N,dC zN)::V) hf RA (by omega) fun k ds h1 h2 h3 h4 h=>hup k ds (ut k ds h1 h2 h3 h4 h)
     have QG:=tR _ RA
     generalize dX dj a t=q at Tg RA hmq hnq hq0 hov QG he
     refine AW.skip (AW.seq (rs hx fun K hK=>?_))
     iterate 3 refine sa ?_
     refine q1 (sHC Tg (by show [_,dI .i64 p.1,_]=_;rw[hpa];rfl) (.inl (by kernel_rfl))) ?_
     refine sa ?_
     refine nl hK ?_
     refine rs hx fun K hK=>?_
     iterate 2 refine sa ?_
     refine nl hK ?_
     refine AW.condS rfl (fun hb=>?_) (fun hb=>?_)
     ·have hq:¬q.1=0:=bq hb
      rw[ai hq] at he
      refine rs hx fun K hK=>?_
      iterate 3 refine sa ?_
      refine nl hK ?_
      refine AW.ret ?_
      rw[←he]
      exact rt2 h0 (hok:=QG) (hv:=hov)
     ·have hq:q.1=0:=by have:=dK hb;simpa using this
      rw[ah hq] at he
      obtain⟨hq1,hq2⟩:=hq0 hq
      exact AW.skip (AW.exit (⟨(f,q.2),wk1 h0 (hok:=QG) (hv:=hov),⟨he,RA,by dsimp only;omega⟩,by dsimp only;omega⟩))
   ·have IM:t=w:=by have:=dK hb;omega
    subst IM
    have hen:kF dj.gc=none:=Nr fun t' h=>mR t' (by omega)
    unfold ie at he
    rw[hen] at he
    dsimp only at he
    refine AW.exit (rs hx fun K hK=>?_)
    iterate 2 refine sa ?_
    refine nl hK ?_
    refine AW.ret ?_
    rw[←he,hV]
    exact rt2 h0 (hok:=oK) (hv:=fun _ _ h=>h)
end
end
def Qx(p:Nu→Bool)(l:List Nu):Int:=match l.findIdx? p with
 |some i=>i
 |none=>-1
theorem SW {p:Nu→Bool}{l:List Nu}{i:Nat}(hi:i<l.length)(h:p l[i]! =true)(mR:∀j,j<i→p l[j]! =false):Qx p l=i:=by
 have:l.findIdx? p=some i:=by
  rw[ph]
  refine⟨hi,by rw[bT l i hi] at h;exact h,fun j hj=>?_⟩
  have:=mR j hj
  rw[bT l j (by omega)] at this
  simp[this]
 unfold Qx;rw[this]
theorem Qw {p:Nu→Bool}{l:List Nu}(mR:∀j,j<l.length→p l[j]! =false):Qx p l=-1:=by
 have:l.findIdx? p=none:=by
  rw[vH]
  intro x hx
  obtain⟨j,hj,rfl⟩:=xy.1 hx
  have:=mR j hj
  rwa[bT l j hj] at this
 unfold Qx;rw[this]
theorem RP {f:FuncId}{p:Nu→Bool}(hf:∀x:Nu,ar prog f [dG ax x] (dB (p x))){l:List Nu}(hl:l.length≤1000000):ar prog 106 [.e (slE ax l),.e (.lit (.func (.func f) #[] #[]))] (dI .i64 (Qx p l)):=by
 refine bk (rs:=[.tmp 4]) (fun cx hx h0=>?_) func106
 refine ra hx ?_
 refine AW.seq (ra hx ?_)
 refine AW.block (AW.loopW (fun i:Nat=>[(0,.e (slE ax l)),(1,.e (.lit (.func (.func f) #[] #[]))),(7,dI .i64 (l.length:Nat)),(8,dI .i64 (i:Nat))]) (fun _=>⟨[],[],0⟩) (fun i=>i≤l.length∧∀j,j<i→p l[j]! =false) (fun i=>l.length - i) 0 ?_ ⟨cy _,fun j h=>absurd h (rk _)⟩ ?_)
 ·exact wk h0 [] (wR rfl (wR rfl (wR rfl (wR rfl wTn)))) wVn wLn
 ·rintro i ⟨hi,mR⟩
  refine ra hx ?_
  refine AW.seq (AW.condS rfl (fun hb=>?_) (fun hb=>?_))
  ·have zL:i<l.length:=by have:=bq hb;omega
   refine AW.skip (AW.seq (AW.block (ra hx ?_)))
   refine rs hx fun K hK=>?_
   iterate 3 refine sa ?_
   have rA:0≤(i:Int)∧(i:Int)<((l.length:Nat):Int):=by omega
   refine sbr ?_
   refine s1 (d:=dG ax l[i]!) (i8 (c:=ax) (l:=l) (n:=i) (o:=0) aQ zL (eS _ _ rfl)) ?_
   refine sc (hf _) ?_
   refine nl hK ?_
   refine AW.condS rfl (fun hb=>?_) (fun hb=>?_)
   ·refine ra hx ?_
    refine AW.ret ?_
    rw[SW zL hb mR]
    exact rv1
   ·refine AW.skip (rbr hx ?_)
    rw[b7]
    refine⟨i+1,wk h0 [] (wR rfl (wR rfl (wR rfl (wR rfl wTn)))) wVn wLn,⟨zL,fun j hj=>?_⟩,by omega⟩
    rcases d9 j i with h1|h1
    ·exact mR j h1
    ·obtain rfl:j=i:=by omega
     exact hb
  ·refine AW.exit ?_
   have zL:i=l.length:=by have:=dK hb;omega
   refine ra hx ?_
   refine AW.ret ?_
   rw[Qw fun j hj=>mR j (by omega)]
   exact rv1
theorem RO(x:Nu):ar prog 107 [dG ax x] (dB (decide (bE x≠0))):=by
 refine bk (rs:=[.tmp 2]) (fun cx hx h0=>?_) func107
 refine ra hx ?_
 refine rs hx fun K hK=>?_
 refine mbr ?_
 refine sc (zo x) ?_
 refine nbr hK ?_
 exact AW.ret (rv1)
section
section
variable {vs V V2:List (Nat×List D)} {lv:List (Nat×Nat×Nat×TypeId)} {N kd R G w m:Nat} {C:Nat→Nat} {d d':Dic}
def eO(x:Nu)(i:Nat)(d:Dic):Dic:=⟨(d.rows.take i).map (uC x)++d.rows.drop i,d.gk,d.gc,d.n,d.piv,d.most⟩
theorem E2(x:Nu)(d:Dic):eO x 0 d=d:=by unfold eO;simp
theorem ye(x:Nu)(d:Dic):eO x d.rows.length d=⟨d.rows.map (uC x),d.gk,d.gc,d.n,d.piv,d.most⟩:=by unfold eO;simp
theorem HB {x:Nu}{i:Nat}(hi:i<d.rows.length):(eO x i d).rows[i]! =d.rows[i]! :=by
 apply cZ
 unfold eO
 dsimp only
 rw[qi (by simp;omega),bg,eu,tE (by omega),zV,nQ,iT]
 exact uz hi
theorem Rc {x:Nu}{i:Nat}(hi:i≤d.rows.length):(eO x i d).rows.length=d.rows.length:=by
 unfold eO;simp;omega
theorem E3 {x:Nu}{i:Nat}(hi:i<d.rows.length):(⟨(eO x i d).rows.set i (uC x d.rows[i]!),d.gk,d.gc,d.n,d.piv,d.most⟩:Dic)=eO x (i+1) d:=by
 unfold eO
 dsimp only
 congr 1
 have hl:((d.rows.take i).map (uC x)).length=i:=by simp;omega
 rw[List.set_append_right _ _ (by omega),hl,zV,FA hi,List.set_cons_zero,Bb,cP hi,iZ,dh]
 rw[bT d.rows i hi]
 rfl
theorem DQ {x:Nu}{i j:Nat}(hi:i≤d.rows.length)(hj:j<d.rows.length):(eO x i d).rows[j]!.k=d.rows[j]!.k∧(eO x i d).rows[j]!.b=d.rows[j]!.b∧(eO x i d).rows[j]!.c.length=d.rows[j]!.c.length:=by
 have hl:((d.rows.take i).map (uC x)).length=i:=by simp;omega
 by_cases h:j<i
 ·have:(eO x i d).rows[j]! =uC x d.rows[j]! :=by
   apply cZ
   unfold eO
   dsimp only
   rw[za (by omega),dW,gU,ah h,uz hj]
   rfl
  rw[this]
  exact⟨rfl,rfl,c7 ..⟩
 ·have:(eO x i d).rows[j]! =d.rows[j]! :=by
   apply cZ
   unfold eO
   dsimp only
   rw[qi (by omega),hl,nQ,show i+(j - i)=j by omega]
   exact uz hj
  rw[this]
  exact⟨rfl,rfl,rfl⟩
theorem cR.colsI(h:cR d w m)(x:Nu){i:Nat}(hi:i≤m):cR (Go.Proofs.YtaedcknhkjpmlaaGreat.eO x i d) w m:=by
 have hl:=h.len
 refine⟨(Rc (by omega)).trans hl,h.lg,fun j hj=>?_,fun j hj=>?_,h.p0,h.p1,h.m0,h.m1⟩
 ·rw[(DQ (by omega) (by omega)).2.2];exact h.lc j hj
 ·rw[(DQ (by omega) (by omega)).2.1];exact h.b j hj
theorem ID(l:List Row):∀k,j7 l k≤k
 |0=>az _
 |k+1=>by unfold j7;have:=ID l k;split <;> omega
theorem rowsC_c {l:List Row}{j:Nat}(hj:j<l.length)(c:List Nu):gj C w 0 (l.set j ⟨l[j]!.k,c,l[j]!.b⟩)=gj C w 0 l:=by
 obtain⟨A,B,_,h2,h3,_⟩:=mQ C w l j (uz hj)
 rw[h2,h3]
 rfl
theorem DAt.setC(h:DAt V kd R G C w d)(hf:Dif d.rows.length kd R G C){j:Nat}(hj:j<d.rows.length)(c:List Nu)(hl:c.length=w):DAt ((C j,dC ((cW ax).f c))::V) kd R G C w ⟨d.rows.set j ⟨d.rows[j]!.k,c,d.rows[j]!.b⟩,d.gk,d.gc,d.n,d.piv,d.most⟩:=by
 obtain⟨h1,h2,h3⟩:=hf.C1 j hj
 refine h.setRow hf hj ⟨d.rows[j]!.k,c,d.rows[j]!.b⟩ hl ?_ aa fun k ds _ zK hk=>al zK hk
 rw[rowsC_c hj]
 exact al h2.symm (h.hR (fun e=>by rw[e] at hj;simp at hj))
theorem DAt.setG(h:DAt V kd R G C w d)(hf:Dif d.rows.length kd R G C)(c:List Nu)(hl:c.length=w):DAt ((G,dC ((cW ax).f c))::V) kd R G C w ⟨d.rows,d.gk,c,d.n,d.piv,d.most⟩:=
 h.setDic hf ⟨d.rows,d.gk,c,d.n,d.piv,d.most⟩ rfl hl (al hf.dG h.hd) aa fun k ds _ zK hk=>al zK hk
theorem ov_in(hf:Dif m kd R G C)(hS:cR d w m)(h:DAt V2 kd R G C w d)(hm:0<m)(hr:∀k ds,k≠kd→k≠R→k≠G→(∀j,j<m→k≠C j)→vs.lookup k=some ds→V2.lookup k=some ds):∀j ds,(ov kd R G C w d vs).lookup j=some ds→V2.lookup j=some ds:=
 Ek (hS.dif hf) h (fun k ds h1 h2 h3 h4 h5=>hr k ds h1 h2 h3 (fun j hj=>h4 j (by rw[hS.len];exact hj)) h5) fun e=>by
  have:=hS.len
  rw[e] at this
  simp only[Ji] at this
  omega
theorem OO(hS:cR d w m){k:Nat}{ds:List D}(h1:k≠kd)(h2:k≠R)(h3:k≠G)(h4:∀j,j<m→k≠C j)(h:vs.lookup k=some ds):(ov kd R G C w d vs).lookup k=some ds:=by
 rw[Iu h1 h2 h3 fun j hj=>h4 j (by rw[←hS.len];exact hj)];exact h
structure RowAt(V:List (Nat×List D))(R w:Nat)(C:Nat→Nat)(d:Dic)(i:Nat):Prop where
 k:∃F F',V.lookup R=some F∧Pt F (i*38+0+0) (dC (ax.f d.rows[i]!.k)) F'
 c:∃F F',V.lookup R=some F∧Pt F (i*38+0+36) [.ow (C i) 0 36 w] F'
 v:V.lookup (C i)=some (dC ((cW ax).f d.rows[i]!.c))
 l:d.rows[i]!.c.length=w
 r:∃F F',V.lookup R=some F∧Pt F (i*38) (ja C w i d.rows[i]!) F'
 n:∃F F',V.lookup R=some F∧Pt F (i*38+0) (ba d.rows[i]!.k (C i) w) F'
 ne:fm R d.rows=.gw R 38 d.rows.length
theorem DAt.row(h:DAt V kd R G C w d){i:Nat}(hi:i<d.rows.length):RowAt V R w C d i:=by
 have hr:d.rows[i]? =some d.rows[i]! :=uz hi
 obtain⟨A,B,hA,h2,h3,h4,h5⟩:=mQ C w d.rows i hr
 have fS:d.rows≠[]:=fun e=>by rw[e] at hi;simp at hi
 exact⟨⟨_,_,h.hR fS,h4.pk⟩,⟨_,_,h.hR fS,h4.pc⟩,h.hC i _ hr,h.lC i _ hr,⟨_,_,h.hR fS,Ha h3 hA⟩,⟨_,_,h.hR fS,h4.pa⟩,qF fS⟩
theorem Sc {x:Cx}{tm:List (Nat×D)}{q n2:Nat}{a:Int}{r:Int×Dic}(h0:x.hp0=⟨vs,lv,N⟩)(hr:r=(a,d))(hok:cw ⟨ov kd R G C w d vs,lv,N⟩)(hN:N≤n2)(hv:∀j ds,(ov kd R G C w d vs).lookup j=some ds→V.lookup j=some ds)(hq:tm.lookup q=some (dI .i64 a):=by exact rfl):
  ∃tm',Wk x tm ⟨V,lv,n2⟩ tm' ⟨ov kd R G C w r.2 vs,lv,N⟩∧t5 tbl [.tmp q] tm' ⟨ov kd R G C w r.2 vs,lv,N⟩ (dI .i64 r.1):=by
 subst hr
 exact rt1 h0 hok hN hv hq rfl
theorem SV(c:List Nu):Qx (fun x=>decide (bE x≠0)) c=match yK c with|some i=>(i:Int)|none=>-1:=rfl
theorem h_begin(DK:R<N)(hD:DAt vs kd R G C w d)(hf:Dif m kd R G C)(hS:cR d w m)(hw:w≤1000000)(hm:m≤1000000)(Gi:0<m)(hw0:0<w)
  (AN:∀q,dX (cv d) (j7 d.rows d.rows.length) 0=q→q.1=0→(aV q.2).1.2=0→0≤dJ (aV q.2).2.rows 0→yK (aV q.2).2.rows[(dJ (aV q.2).2.rows 0).toNat]!.c≠none):
  HC prog 43 [.pt kd 0] ⟨vs,lv,N⟩ (dI .i64 (jU d).1) ⟨ov kd R G C w (jU d).2 vs,lv,N⟩:=by
 refine HC.of (rs:=[.tmp 2]) tok func43 rfl rfl (bb rfl) rfl (fun cx hx h0 hok=>?_)
 simp only[fP,Nat.reduceAdd,bw]
 have hl:=hS.len
 have wK:=hD.hd
 have GO:=hok.lt wK
 have T3:=hok.lt hD.hG
 have hCN:∀j,j<m→C j<N:=fun j hj=>hok.lt (hD.hC j d.rows[j]! (uz (by omega)))
 have tR:∀d2,cR d2 w m→cw ⟨ov kd R G C w d2 vs,lv,N⟩:=fun d2 h2=>CQ hok GO DK T3 fun j hj=>hCN j (by rw[←h2.len];exact hj)
 refine rs hx fun K hK=>?_
 refine sa ?_
 refine nl hK ?_
 refine rs hx fun K hK=>?_
 refine sa ?_
 refine nl hK ?_
 refine AW.seq (rs hx fun K hK=>?_)
 iterate 3 refine sa ?_
 refine c1 gM ?_
 refine OB (R:=R) (l:=d.rows) rfl ?_
 refine sa ?_
 refine nl hK ?_
 rw[hl]
 refine AW.block (AW.loopW (fun i:Nat=>[(0,.pt kd 0),(3,dI .i64 (j7 d.rows i:Nat)),(14,dI .i64 m),(15,dI .i64 i)]) (fun i=>⟨ov kd R G C w (eO (nOf 1) i d) vs,lv,N⟩) (fun i=>i≤m) (fun i=>m - i) 0 ?_ (cy _) ?_)
 ·rw[E2]
  exact wk1 h0 (hok:=tR d hS) (hv:=ov_in hf hS hD Gi fun _ _ _ _ _ _ h=>h)
 ·intro i hi
  have ya:=hS.colsI (nOf 1) hi
  have DL:=ya.at hf (vs:=vs)
  have oK:=tR _ ya
  have ut:∀k ds,k≠kd→k≠R→k≠G→(∀j,j<m→k≠C j)→vs.lookup k=some ds→(ov kd R G C w (eO (nOf 1) i d) vs).lookup k=some ds:=fun k ds h1 h2 h3 h4 h=>OO ya h1 h2 h3 h4 h
  generalize hV:ov kd R G C w (eO (nOf 1) i d) vs=V at DL oK ut ⊢
  have hdi:=DL.hd
  have hli:=ya.len
  refine rs hx fun K hK=>?_
  refine sa ?_
  refine nl hK ?_
  refine AW.seq (AW.condS rfl (fun hb=>?_) (fun hb=>?_))
  ·have qv:i<m:=by have:=bq hb;omega
   have JY:(eO (nOf 1) i d).rows[i]! =d.rows[i]! :=HB (by omega)
   obtain⟨⟨F1,F1',e1,L1⟩,⟨F2,F2',e2,L2⟩,e3,t8,_,_,fS⟩:=DL.row (i:=i) (by omega)
   have TC:=oK.lt e1
   have hk3:=oK.lt e3
   rw[JY] at e3 L1 t8
   refine AW.skip (AW.seq (AW.block (rs hx fun K hK=>?_)))
   iterate 2 refine sa ?_
   refine nl hK ?_
   refine rsd [28] hx fun K hK=>?_
   iterate 3 refine sa ?_
   refine c1 gM ?_
   refine sa ?_
   refine r1 (n:=(eO (nOf 1) i d).rows.length) (i:=i) (by omega) ?_ (by show (fm R _).toOw=_;rw[fS];rfl)
   iterate 2 refine sa ?_
   refine c1 L2 ?_
   refine cq (Gz 1 (by omega)) ?_
   refine i1 (i:=0) (n:=w) hw0 ?_
   refine t1 (Pt.el d.rows[i]!.c 0 (by omega)) (Pt.el_set d.rows[i]!.c 0 (by omega) _) ?_
   refine nl hK ?_
   have hdn:(⟨(eO (nOf 1) i d).rows.set i ⟨(eO (nOf 1) i d).rows[i]!.k,d.rows[i]!.c.set 0 (nOf 1),(eO (nOf 1) i d).rows[i]!.b⟩,d.gk,d.gc,d.n,d.piv,d.most⟩:Dic)=eO (nOf 1) (i+1) d:=by
    rw[JY];exact E3 (by omega)
   have Nk:=DL.setC (ya.dif hf) (j:=i) (by omega) (d.rows[i]!.c.set 0 (nOf 1)) (by rw[c7];exact t8)
   have Nk:DAt ((C i,dC ((cW ax).f (d.rows[i]!.c.set 0 (nOf 1))))::V) kd R G C w (eO (nOf 1) (i+1) d):=by rw[←hdn];exact Nk
   have hSn:=hS.colsI (nOf 1) (show i+1≤m by omega)
   have mR:j7 d.rows i<m:=by
    have:=ID d.rows i
    omega
   have Ml:=hSn.len
   obtain⟨⟨F3,F3',e4,L3⟩,_,_,_,_,_,QI⟩:=Nk.row (i:=i) (by omega)
   obtain⟨⟨F4,F4',e5,L4⟩,_⟩:=Nk.row (i:=j7 d.rows i) (by omega)
   rw[(DQ (show i+1≤d.rows.length by omega) (show i<d.rows.length by omega)).1] at L3
   rw[(DQ (show i+1≤d.rows.length by omega) (show j7 d.rows i<d.rows.length by omega)).1] at L4
   have hdn2:=Nk.hd
   have wF:∀j ds,(ov kd R G C w (eO (nOf 1) (i+1) d) vs).lookup j=some ds→((C i,dC ((cW ax).f (d.rows[i]!.c.set 0 (nOf 1))))::V).lookup j=some ds:=ov_in hf hSn Nk Gi fun k ds h1 h2 h3 h4 h=>al (h4 i qv) (ut k ds h1 h2 h3 h4 h)
   have hokn:=tR _ hSn
   have hokW:cw ⟨(C i,dC ((cW ax).f (d.rows[i]!.c.set 0 (nOf 1))))::V,lv,N⟩:=oK.consM hk3 (eG _)
   have hk4:=hokW.lt e4
   generalize (C i,dC ((cW ax).f (d.rows[i]!.c.set 0 (nOf 1))))::V=W at Nk e4 e5 hdn2 wF ⊢
   have iY:j7 d.rows (i+1)=if qH d.rows[i]!.k d.rows[j7 d.rows i]!.k<0 then i else j7 d.rows i:=rfl
   refine rsd [32] hx fun K hK=>?_
   iterate 3 refine sa ?_
   refine c1 gM ?_
   refine sa ?_
   refine r1 (n:=(eO (nOf 1) (i+1) d).rows.length) (i:=i) (by omega) ?_ (by show (fm R _).toOw=_;rw[QI];rfl)
   iterate 2 refine sa ?_
   refine l1 L3 ?_
   iterate 3 refine sa ?_
   refine c1 gM ?_
   refine sa ?_
   refine r1 (n:=(eO (nOf 1) (i+1) d).rows.length) (i:=j7 d.rows i) (by omega) ?_ (by show (fm R _).toOw=_;rw[QI];rfl)
   iterate 2 refine sa ?_
   refine l1 L4 ?_
   refine cq (w_Cmp _ _) ?_
   refine sa ?_
   refine nl hK ?_
   refine AW.condS rfl (fun hb=>?_) (fun hb=>?_)
   ·rw[ah (bq hb)] at iY
    refine rq hx fun K hK=>?_
    iterate 2 refine sa ?_
    refine nl hK ?_
    refine rq hx fun K hK=>?_
    iterate 2 refine sa ?_
    refine nl hK ?_
    rw[b7]
    refine⟨i+1,?_,qv,by omega⟩
    rw[iY]
    exact wk1 h0 (hok:=hokn) (hv:=wF)
   ·rw[ai (dK hb)] at iY
    refine AW.skip (rq hx fun K hK=>?_)
    iterate 2 refine sa ?_
    refine nl hK ?_
    rw[b7]
    refine⟨i+1,?_,qv,by omega⟩
    rw[iY]
    exact wk1 h0 (hok:=hokn) (hv:=wF)
  ·refine AW.exit ?_
   have qv:i=m:=by have:=dK hb;omega
   subst qv
   have hlowm:j7 d.rows i=j7 d.rows d.rows.length:=by rw[hl]
   rw[hlowm]
   have hci:eO (nOf 1) i d=⟨d.rows.map (uC (nOf 1)),d.gk,d.gc,d.n,d.piv,d.most⟩:=by rw[←hl];exact ye _ _
   rw[hci] at ya DL hdi
   have hGi:=DL.hG
   -- r4 goal
   refine rsd [28] hx fun K hK=>?_
   iterate 4 refine sa ?_
   refine c1 mJ.pc ?_
   refine cq (Gz (-1) (by omega)) ?_
   refine i1 (i:=0) (n:=w) hw0 ?_
   refine t1 (Pt.el d.gc 0 (by rw[hS.lg];omega)) (Pt.el_set d.gc 0 (by rw[hS.lg];omega) _) ?_
   refine nl hK ?_
   have hDs:=DL.setG (ya.dif hf) (d.gc.set 0 (nOf (-1))) (by rw[c7];exact hS.lg)
   have hDs:DAt ((G,dC ((cW ax).f (d.gc.set 0 (nOf (-1)))))::V) kd R G C w (cv d):=hDs
   have hSs:cR (cv d) w i:=by
    refine⟨ya.len,?_,ya.lc,ya.b,hS.p0,hS.p1,hS.m0,hS.m1⟩
    show (d.gc.set 0 (nOf (-1))).length=w
    rw[c7];exact hS.lg
   have EH:∀k ds,k≠kd→k≠R→k≠G→(∀j,j<i→k≠C j)→vs.lookup k=some ds→((G,dC ((cW ax).f (d.gc.set 0 (nOf (-1)))))::V).lookup k=some ds:=fun k ds h1 h2 h3 h4 h=>al h3 (ut k ds h1 h2 h3 h4 h)
   generalize (G,dC ((cW ax).f (d.gc.set 0 (nOf (-1)))))::V=W at hDs EH ⊢
   have hdW:=hDs.hd
   have hms:0<(cv d).rows.length:=by rw[hSs.len];omega
   have mR:j7 d.rows d.rows.length<i:=by
    rcases sJ i with e|e
    ·omega
    ·have:j7 d.rows i<i:=by
      have h3:∀n,0<n→j7 d.rows n<n:=by
       intro n hn
       obtain⟨n,rfl⟩:∃n',n=n'+1:=⟨n - 1,by omega⟩
       unfold j7
       have:=ID d.rows n
       split <;> omega
      exact h3 i e
     omega
   have hra:(cv d).rows[j7 d.rows d.rows.length]? =some (cv d).rows[j7 d.rows d.rows.length]! :=uz (by rw[hSs.len];exact mR)
   have Tg:=IW (lv:=lv) (N:=N) hDs (hSs.dif hf) hra hw0 (hSs.b _ mR) hw (by rw[hSs.len];exact hm) ⟨hSs.p0,hSs.p1⟩ ⟨hSs.m0,hSs.m1⟩
   obtain⟨RA,_⟩:=hSs.pivot mR hw0
   have hov1:=DD (vs:=vs) (vsX:=W) hf RA Gi EH
   have QG:=tR _ RA
   have vh:jU d=(let p:=dX (cv d) (j7 d.rows d.rows.length) 0;if p.1≠0 then p else let q:=aV p.2;if q.1.2≠0∨bE q.2.gk<0 then (q.1.2,q.2) else if dJ q.2.rows 0<0 then (0,q.2) else match yK q.2.rows[(dJ q.2.rows 0).toNat]!.c with|none=>(0,q.2)|some s=>dX q.2 (dJ q.2.rows 0).toNat s):=rfl
   have AN:=AN _ rfl
   generalize dX (cv d) (j7 d.rows d.rows.length) 0=q at Tg RA hov1 QG vh AN
   dsimp only at vh
   refine AW.seq (rs hx fun K hK=>?_)
   iterate 2 refine sa ?_
   refine q1 (sHC Tg rfl (.inl (by kernel_rfl))) ?_
   refine sa ?_
   refine nl hK ?_
   refine rs hx fun K hK=>?_
   iterate 2 refine sa ?_
   refine nl hK ?_
   refine AW.condS rfl (fun hb=>?_) (fun hb=>?_)
   ·have hq:q.1≠0:=bq hb
    rw[ah hq] at vh
    refine rs hx fun K hK=>?_
    iterate 2 refine sa ?_
    refine nl hK ?_
    exact AW.ret (Sc h0 vh QG (az _) hov1)
   have hq0:q.1=0:=by have:=dK hb;simpa using this
   rw[ai (fun e=>e hq0)] at vh
   have AN:=AN hq0
   refine AW.skip ?_
   -- improving
   have qv:=Ht (lv:=lv) (N:=N) DK (RA.at hf (vs:=W)) hf RA hw hm
   obtain⟨Hu,hmr,hnr,Ge,O2⟩:=RA.improve ((q.2.most - q.2.piv).toNat+1)
   change cR (aV q.2).2 w i at Hu
   have hout3:∀k ds,k≠kd→k≠R→k≠G→(∀j,j<i→k≠C j)→vs.lookup k=some ds→(ov kd R G C w q.2 W).lookup k=some ds:=fun k ds h1 h2 h3 h4 h=>OO RA h1 h2 h3 h4 (EH k ds h1 h2 h3 h4 h)
   have Tk:=DD (vs:=vs) (vsX:=ov kd R G C w q.2 W) hf Hu Gi hout3
   have hokr:=tR _ Hu
   generalize aV q.2=r at qv Hu Tk hokr vh AN
   have hDr:=Hu.at hf (vs:=ov kd R G C w q.2 W)
   have hdr:=hDr.hd
   refine AW.seq (rs hx fun K hK=>?_)
   refine sa ?_
   refine q1 (sHC qv rfl (.inl (by kernel_rfl))) ?_
   iterate 5 refine sa ?_
   refine nl hK ?_
   generalize hX:ov kd R G C w r.2 (ov kd R G C w q.2 W)=X at hDr hdr Tk ⊢
   refine rs hx fun K hK=>?_
   iterate 3 refine sa ?_
   by_cases he:r.1.2≠0
   ·have e1:decide (r.1.2≠0)=true:=aB he
    iterate 7 refine gn e1 ?_
    refine s1 (d:=dB true) (pp e1) ?_
    refine nl hK ?_
    rw[ah (.inl he)] at vh
    refine AW.condT rfl rfl (rs hx fun K hK=>?_)
    iterate 2 refine sa ?_
    refine nl hK ?_
    exact AW.ret (Sc h0 vh hokr (az _) Tk)
   have e1:decide (r.1.2≠0)=false:=bm he
   iterate 4 refine ga e1 ?_
   refine l1g mJ.pk e1 ?_
   refine cqg (zo _) e1 ?_
   refine ga e1 ?_
   refine s1 (d:=dB (decide (bE r.2.gk<0))) (mm e1) ?_
   refine nl hK ?_
   have he0:r.1.2=0:=Cs.1 he
   refine AW.condS rfl (fun hb=>?_) (fun hb=>?_)
   ·rw[ah (.inr (bq hb))] at vh
    refine rs hx fun K hK=>?_
    iterate 2 refine sa ?_
    refine nl hK ?_
    exact AW.ret (Sc h0 vh hokr (az _) Tk)
   rw[ai (by rintro (e|e);exact he e;exact dK hb e)] at vh
   have AN:=AN he0
   refine AW.skip ?_
   -- x(0)
   have hfd:=Ni (lv:=lv) (N:=N) (v:=0) hDr (by rw[Hu.len];exact hm)
   refine AW.seq (rs hx fun K hK=>?_)
   refine sa ?_
   refine q1 (sHC hfd rfl (.inl (by kernel_rfl))) ?_
   refine sa ?_
   refine nl hK ?_
   refine rs hx fun K hK=>?_
   iterate 2 refine sa ?_
   refine nl hK ?_
   refine AW.condS rfl (fun hb=>?_) (fun hb=>?_)
   ·have wl:0≤dJ r.2.rows 0:=bq hb
    rw[ifn_] at vh
    obtain⟨a,ha,QT⟩:∃a:Nat,a<i∧dJ r.2.rows 0=(a:Int):=by
     have TA:=Hu.len
     unfold dJ at wl ⊢
     cases QM:r.2.rows.findIdx? fun r=>decide (r.b=0) with
     |none=>rw[QM] at wl;exact absurd wl (by decide)
     |some a=>exact⟨a,by have:=(ph.1 QM).1;omega,rfl⟩
    have AN:=AN wl
    rw[QT,show ((a:Int)).toNat=a by omega] at vh AN
    cases Tr:yK r.2.rows[a]!.c with
    |none=>exact absurd Tr AN
    |some sN=>
    rw[Tr] at vh
    dsimp only at vh
    have hsw:sN<w:=by
     unfold yK at Tr
     have:=(ph.1 Tr).1
     rw[Hu.lc a ha] at this;exact this
    obtain⟨_,⟨F2,F2',e2,L2⟩,e3,t8,_,_,fS⟩:=hDr.row (i:=a) (by rw[Hu.len];exact ha)
    have hix:=HC.frz (hp:=⟨X,lv,N⟩) (RP RO (l:=r.2.rows[a]!.c) (by omega)) (ds:=[.ow (C a) 0 36 w,.e (.lit (.func (.func 107) #[] #[]))]) ⟨AR.list e3 t8,AR.data rfl,trivial⟩ rfl
    rw[SV,Tr] at hix
    dsimp only at hix
    have hrb:r.2.rows[a]? =some r.2.rows[a]! :=uz (by rw[Hu.len];exact ha)
    have hpv2:=IW (lv:=lv) (N:=N) hDr (Hu.dif hf) hrb hsw (Hu.b a ha) hw (by rw[Hu.len];exact hm) ⟨Hu.p0,Hu.p1⟩ ⟨Hu.m0,Hu.m1⟩
    obtain⟨hSz,_⟩:=Hu.pivot ha hsw
    have hout4:∀k ds,k≠kd→k≠R→k≠G→(∀j,j<i→k≠C j)→vs.lookup k=some ds→X.lookup k=some ds:=fun k ds h1 h2 h3 h4 h=>by rw[←hX];exact OO Hu h1 h2 h3 h4 (hout3 k ds h1 h2 h3 h4 h)
    have hov3:=DD (vs:=vs) (vsX:=X) hf hSz Gi hout4
    have hokz:=tR _ hSz
    generalize dX r.2 a sN=z at hpv2 hSz hov3 hokz vh
    have zK:R<N:=DK
    have heX:X.lookup R=some F2:=e2
    refine rs hx fun K hK=>?_
    iterate 3 refine sa ?_
    refine c1 gM ?_
    refine sa ?_
    refine r1 (n:=r.2.rows.length) (i:=a) (by rw[Hu.len];exact ha) ?_ (by show (fm R _).toOw=_;rw[fS];rfl) (by show D.toOw (dI .i64 _)=_;rw[QT];rfl)
    iterate 2 refine sa ?_
    refine c1 L2 ?_
    refine q1 (sHC hix rfl (.inl (by kernel_rfl))) ?_
    refine sa ?_
    refine nl hK ?_
    refine rs hx fun K hK=>?_
    iterate 3 refine sa ?_
    refine q1 (sHC hpv2 (by show [_,dI .i64 (dJ r.2.rows 0),_]=_;rw[QT];rfl) (.inl (by kernel_rfl))) ?_
    refine sa ?_
    refine nl hK ?_
    exact AW.ret (Sc h0 vh hokz (az _) hov3)
   ·have bO:dJ r.2.rows 0<0:=by have:=dK hb;omega
    rw[ah bO] at vh
    refine AW.skip (rs hx fun K hK=>?_)
    refine sa ?_
    refine nl hK ?_
    exact AW.ret (Sc h0 vh hokr (az _) Tk)
end
end
section
theorem xF(l:List Row)(w:Nat)(c:List Nu):∀k,(gQ l w c k).2.length=w
 |0=>by simp[gQ]
 |k+1=>by
  unfold gQ
  dsimp only
  split
  ·rw[uH];exact xF l w c k
  ·rw[c7];exact xF l w c k
section
variable {vs V V2:List (Nat×List D)} {lv:List (Nat×Nat×Nat×TypeId)} {N kd R G w m:Nat} {C:Nat→Nat} {d d':Dic}
theorem DAt.setGK(h:DAt V kd R G C w d)(hf:Dif d.rows.length kd R G C)(k:Nu)(c:List Nu)(hl:c.length=w):DAt ((G,dC ((cW ax).f c))::(kd,[fm R d.rows]++ba k G w++[dI .i64 d.n,dI .i64 d.piv,dI .i64 d.most])::V) kd R G C w ⟨d.rows,k,c,d.n,d.piv,d.most⟩:=
 h.setDic hf ⟨d.rows,k,c,d.n,d.piv,d.most⟩ rfl hl (al hf.dG aa) aa fun j ds h1 h2 hj=>al h2 (al h1 hj)
theorem w9(hf:Dif m kd R G C)(hS:cR d w m)(h:DAt V2 kd R G C w d)(hr:∀k ds,k≠kd→(m≠0→k≠R)→k≠G→(∀j,j<m→k≠C j)→vs.lookup k=some ds→V2.lookup k=some ds):∀j ds,(ov kd R G C w d vs).lookup j=some ds→V2.lookup j=some ds:=
 Ek (hS.dif hf) h (fun k ds h1 h2 h3 h4 h5=>hr k ds h1 (fun _=>h2) h3 (fun j hj=>h4 j (by rw[hS.len];exact hj)) h5) fun e ds h5=>by
  have hm:=hS.len
  rw[e] at hm
  simp only[Ji] at hm
  exact hr R ds hf.dR.symm (fun hh=>absurd hm.symm hh) hf.RG (fun j hj=>by omega) h5
theorem Em(hS:cR d w m){k:Nat}{ds:List D}(h1:k≠kd)(h2:m≠0→k≠R)(h3:k≠G)(h4:∀j,j<m→k≠C j)(h:vs.lookup k=some ds):(ov kd R G C w d vs).lookup k=some ds:=by
 by_cases hm:m=0
 ·have hl:=hS.len
  have hr:d.rows=[]:=Jk.1 (by omega)
  refine al h1 (al h3 ?_)
  rw[hr];exact h
 ·exact OO hS h1 (h2 hm) h3 h4 h
theorem rtN {x:Cx}{tm:List (Nat×D)}{vs0:List (Nat×List D)}{lv0:List (Nat×Nat×Nat×TypeId)}{N0 M n2 q:Nat}{a:D}(h0:x.hp0=⟨vs0,lv0,N0⟩)(hM:N0≤M)(hok:cw ⟨V,lv,M⟩)(hN:M≤n2)(hv:∀j ds,V.lookup j=some ds→V2.lookup j=some ds)(hq:tm.lookup q=some a:=by exact rfl)(hd:a.idsB M=true:=by exact rfl):
  ∃tm',Wk x tm ⟨V2,lv,n2⟩ tm' ⟨V,lv,M⟩∧t5 tbl [.tmp q] tm' ⟨V,lv,M⟩ a:=
 ⟨[(q,a)],wkS (by rw[h0];exact hM) hN hok hv (bI.nil.cons hq hd),⟨a,aa,rfl⟩⟩
theorem h_aim {c:List Nu}(DK:R<N)(hD:DAt vs kd R G C w d)(hf:Dif m kd R G C)(hS:cR d w m)(hw:w≤1000000)(hm:m≤1000000)(hw0:0<w)(hc:c.length+1≤w):
  HC prog 45 [.pt kd 0,.e (slE ax c)] ⟨vs,lv,N⟩ (dI .i64 (mZ d c).1) ⟨ov kd R (N+3) C w (mZ d c).2 vs,lv,N+4⟩:=by
 refine HC.of (rs:=[.tmp 4]) tok func45 rfl rfl (bb rfl) rfl (fun cx hx h0 hok=>?_)
 simp only[fP,Nat.reduceAdd,bw]
 have hl:=hS.len
 have wK:=hD.hd
 have GO:=hok.lt wK
 have T3:=hok.lt hD.hG
 have hGV:=hD.hG
 have O9:=hD.lG
 have hCN:∀j,j<m→C j<N:=fun j hj=>hok.lt (hD.hC j d.rows[j]! (uz (by omega)))
 have Dq:Dif m kd R (N+3) C:=⟨hf.dR,by omega,by omega,fun i hi=>⟨(hf.C1 i hi).1,(hf.C1 i hi).2.1,by have:=hCN i hi;omega⟩,hf.C2⟩
 refine rs hx fun K hK=>?_
 refine sa ?_
 refine nl hK ?_
 refine rs hx fun K hK=>?_
 iterate 5 refine sa ?_
 refine c1 mJ.pc ?_
 refine sa ?_
 refine q1 (sHC (xZ hw) rfl (.inr ⟨by show N≤N+4;omega,fun j hj=>by have hj:j<N:=hj;exact (ao (by omega)).trans (ao (by omega))⟩)) ?_
 iterate 2 refine sa ?_
 refine v1 (ys:=ba (nOf 0) (N+3) w) (mJ (R:=R) (G:=G) (w:=w) (d:=d)).pa (bZ _ _ _) ((bZ _ _ _).trans (bZ d.gk G w).symm) rfl ?_
 refine nl hK ?_
 -- r4 dictionary with r4 goal 0
 obtain⟨dz,hdz⟩:∃dz:Dic,dz=⟨d.rows,nOf 0,List.replicate w (nOf 0),d.n,d.piv,d.most⟩:=⟨_,rfl⟩
 have hSz:cR dz w m:=by rw[hdz];exact⟨hl,by simp,hS.lc,hS.b,hS.p0,hS.p1,hS.m0,hS.m1⟩
 obtain⟨V0,Gp⟩:∃V0,V0=(kd,[fm R d.rows]++ba (nOf 0) (N+3) w++[dI .i64 d.n,dI .i64 d.piv,dI .i64 d.most])::(N,ba (nOf 0) (N+3) w)::(N+3,dC ((cW ax).f (List.replicate w (nOf 0))))::vs:=⟨_,rfl⟩
 have hDz:DAt V0 kd R (N+3) C w dz:=by
  rw[Gp,hdz]
  refine⟨aa,fun fS=>al hf.dR.symm (al (by omega) (al (by omega) (hD.hR fS))),al (by omega) (al (by omega) aa),fun i r hr=>?_,by simp,hS.lC⟩
  have hi:=(fW.1 hr).1
  have hi:i<m:=by rw[←hl];exact hi
  have:=hCN i hi
  exact al (hf.C1 i hi).1 (al (by omega) (al (by omega) (hD.hC i r hr)))
 have hok0:cw ⟨V0,lv,N+4⟩:=by
  rw[Gp]
  refine cw.consM ?_ (by omega) ?_
  ·refine cw.consM ?_ (by omega) (jc (by omega))
   exact cw.consM (hok.up (by omega)) (by omega) (eG _)
  ·exact sE (d:=⟨d.rows,nOf 0,List.replicate w (nOf 0),d.n,d.piv,d.most⟩) (R:=R) (G:=N+3) (w:=w) (by omega) (by omega)
 have O4:∀k ds,k≠kd→(m≠0→k≠R)→k≠N+3→(∀j,j<m→k≠C j)→vs.lookup k=some ds→V0.lookup k=some ds:=fun k ds h1 h2 h3 h4 h=>by
  have:=hok.lt h
  rw[Gp];exact al h1 (al (by omega) (al h3 h))
 rw[←Gp]
 have tR:∀d2,cR d2 w m→cw ⟨ov kd R (N+3) C w d2 vs,lv,N+4⟩:=fun d2 h2=>CQ (hok.up (by omega)) (by omega) (by omega) (by omega) fun j hj=>by have:=hCN j (by rw[←h2.len];exact hj);omega
 -- r4 rows
 refine AW.seq (rs hx fun K hK=>?_)
 have hdz0:=hDz.hd
 iterate 3 refine sa ?_
 refine c1 gM ?_
 refine OB (R:=R) (l:=dz.rows) rfl ?_
 refine sa ?_
 refine nl hK ?_
 rw[hSz.len]
 refine AW.block (AW.loopW (fun i:Nat=>[(0,.pt kd 0),(1,.e (slE ax c)),(23,dI .i64 m),(24,dI .i64 i)]) (fun i=>⟨ov kd R (N+3) C w (eO (nOf 0) i dz) vs,lv,N+4⟩) (fun i=>i≤m) (fun i=>m - i) 0 ?_ (cy _) ?_)
 ·rw[E2]
  exact wk1 h0 (hok:=tR dz hSz) (hv:=w9 Dq hSz hDz O4)
 ·intro i hi
  have ya:=hSz.colsI (nOf 0) hi
  have DL:=ya.at Dq (vs:=vs)
  have oK:=tR _ ya
  have ut:∀k ds,k≠kd→(m≠0→k≠R)→k≠N+3→(∀j,j<m→k≠C j)→vs.lookup k=some ds→(ov kd R (N+3) C w (eO (nOf 0) i dz) vs).lookup k=some ds:=fun k ds h1 h2 h3 h4 h=>Em ya h1 h2 h3 h4 h
  have hzl:=hSz.len
  generalize hV:ov kd R (N+3) C w (eO (nOf 0) i dz) vs=V at DL oK ut ⊢
  have hdi:=DL.hd
  have hli:=ya.len
  refine rs hx fun K hK=>?_
  refine sa ?_
  refine nl hK ?_
  refine AW.seq (AW.condS rfl (fun hb=>?_) (fun hb=>?_))
  ·have qv:i<m:=by have:=bq hb;omega
   have JY:(eO (nOf 0) i dz).rows[i]! =dz.rows[i]! :=HB (by omega)
   obtain⟨⟨F1,F1',e1,L1⟩,⟨F2,F2',e2,L2⟩,e3,t8,_,_,fS⟩:=DL.row (i:=i) (by omega)
   have TC:=oK.lt e1
   have hk3:=oK.lt e3
   rw[JY] at e3 L1 t8
   refine AW.skip (AW.seq (AW.block (rs hx fun K hK=>?_)))
   iterate 2 refine sa ?_
   refine nl hK ?_
   refine rqd [28] hx fun K hK=>?_
   iterate 3 refine sa ?_
   refine c1 gM ?_
   refine sa ?_
   refine r1 (n:=(eO (nOf 0) i dz).rows.length) (i:=i) (by omega) ?_ (by show (fm R _).toOw=_;rw[fS];rfl)
   iterate 2 refine sa ?_
   refine c1 L2 ?_
   refine cq (Gz 0 (by omega)) ?_
   refine i1 (i:=0) (n:=w) hw0 ?_
   refine t1 (Pt.el dz.rows[i]!.c 0 (by omega)) (Pt.el_set dz.rows[i]!.c 0 (by omega) _) ?_
   refine nl hK ?_
   have hdn:(⟨(eO (nOf 0) i dz).rows.set i ⟨(eO (nOf 0) i dz).rows[i]!.k,dz.rows[i]!.c.set 0 (nOf 0),(eO (nOf 0) i dz).rows[i]!.b⟩,dz.gk,dz.gc,dz.n,dz.piv,dz.most⟩:Dic)=eO (nOf 0) (i+1) dz:=by
    rw[JY];exact E3 (by omega)
   have Nk:=DL.setC (ya.dif Dq) (j:=i) (by omega) (dz.rows[i]!.c.set 0 (nOf 0)) (by rw[c7];exact t8)
   have Nk:DAt ((C i,dC ((cW ax).f (dz.rows[i]!.c.set 0 (nOf 0))))::V) kd R (N+3) C w (eO (nOf 0) (i+1) dz):=by rw[←hdn];exact Nk
   have hSn:=hSz.colsI (nOf 0) (show i+1≤m by omega)
   have wF:=w9 (vs:=vs) Dq hSn Nk fun k ds h1 h2 h3 h4 h=>al (h4 i qv) (ut k ds h1 h2 h3 h4 h)
   have hokn:=tR _ hSn
   refine rq hx fun K hK=>?_
   iterate 2 refine sa ?_
   refine nl hK ?_
   rw[b7]
   exact⟨i+1,wk1 h0 (hok:=hokn) (hv:=wF),qv,by omega⟩
  ·refine AW.exit ?_
   have qv:i=m:=by have:=dK hb;omega
   subst qv
   have hci:eO (nOf 0) i dz=⟨d.rows.map (uC (nOf 0)),nOf 0,List.replicate w (nOf 0),d.n,d.piv,d.most⟩:=by
    rw[←hzl,ye,hdz]
   rw[hci] at ya DL hdi
   -- r4 numbers of r4 program
   obtain⟨rz,hrz⟩:∃rz,rz=d.rows.map (uC (nOf 0)):=⟨_,rfl⟩
   rw[←hrz] at ya DL hdi
   have hSk:∀k,cR ⟨rz,(gQ rz w c k).1,(gQ rz w c k).2,d.n,d.piv,d.most⟩ w i:=fun k=>⟨ya.len,xF rz w c k,ya.lc,ya.b,hS.p0,hS.p1,hS.m0,hS.m1⟩
   have haim:mZ d c=(if gl (gQ rz w c c.length).1 (gQ rz w c c.length).2 then 0 else 30,⟨rz,(gQ rz w c c.length).1,(gQ rz w c c.length).2,d.n,d.piv,d.most⟩):=by
    unfold mZ m4
    rw[←hrz,hS.lg]
   refine AW.seq (rs hx fun K hK=>?_)
   iterate 3 refine sa ?_
   refine nl hK ?_
   refine AW.block (AW.loopW (fun k:Nat=>[(0,.pt kd 0),(39,.e (slE ax c)),(40,dI .i64 (c.length:Nat)),(41,dI .i64 k)]) (fun k=>⟨ov kd R (N+3) C w ⟨rz,(gQ rz w c k).1,(gQ rz w c k).2,d.n,d.piv,d.most⟩ vs,lv,N+4⟩) (fun k=>k≤c.length) (fun k=>c.length - k) 0 ?_ (cy _) ?_)
   ·exact wk1 h0 (hok:=tR _ (hSk 0)) (hv:=w9 Dq (hSk 0) DL ut)
   ·intro k hk
    have C4:=hSk k
    have hDj:=C4.at Dq (vs:=vs)
    have oK:=tR _ C4
    have ut:∀k' ds,k'≠kd→(i≠0→k'≠R)→k'≠N+3→(∀j,j<i→k'≠C j)→vs.lookup k'=some ds→(ov kd R (N+3) C w ⟨rz,(gQ rz w c k).1,(gQ rz w c k).2,d.n,d.piv,d.most⟩ vs).lookup k'=some ds:=fun k' ds h1 h2 h3 h4 h=>Em C4 h1 h2 h3 h4 h
    have EN:gQ rz w c (k+1)=(if 0≤dJ rz ((k+1:Nat):Int) then (xG c[k]! rz[(dJ rz ((k+1:Nat):Int)).toNat]!.k (gQ rz w c k).1,uI c[k]! rz[(dJ rz ((k+1:Nat):Int)).toNat]!.c (-1) (gQ rz w c k).2) else ((gQ rz w c k).1,(gQ rz w c k).2.set (k+1) (jw (gQ rz w c k).2[k+1]! c[k]!))):=rfl
    have Bp:=xF rz w c k
    clear hV O4 oK
    have oK:=tR _ C4
    generalize ov kd R (N+3) C w ⟨rz,(gQ rz w c k).1,(gQ rz w c k).2,d.n,d.piv,d.most⟩ vs=W at hDj oK ut ⊢
    have QY:=hSk (k+1)
    refine rs hx fun K hK=>?_
    refine sa ?_
    refine nl hK ?_
    refine AW.seq (AW.condS rfl (fun hb=>?_) (fun hb=>?_))
    ·have hkc:k<c.length:=by have:=bq hb;omega
     have rA:0≤(k:Int)∧(k:Int)<((c.length:Nat):Int):=by omega
     refine AW.skip (AW.seq (AW.block (rs hx fun K hK=>?_)))
     refine sa ?_
     refine s1 (PN rA cg aQ) ?_
     refine s1 (d:=dG ax c[k]!) (i8 (c:=ax) (l:=c) (n:=k) (o:=0) aQ hkc (eS _ _ rfl)) ?_
     refine n1 ?_
     refine sa ?_
     refine z1 ?_
     refine nl hK ?_
     generalize c[k]! =ck at EN ⊢
     generalize gQ rz w c k=g1 at EN hDj Bp C4 ut
     have hup:∀(j:Nat) (ds:List D),W.lookup j=some ds→((N+4,dC (ax.f ck))::(N+4,dC zN)::W).lookup j=some ds:=fun j ds h=>by
      have:=oK.lt h
      exact al (by omega) (al (by omega) h)
     have T4:=hDj.up hup
     have hfd:=Ni (lv:=lv) (N:=N+4+1) (v:=((k+1:Nat):Int)) T4 (by show rz.length≤_;have:=ya.len;dsimp only at this;omega)
     have hoX:cw ⟨(N+4,dC (ax.f ck))::(N+4,dC zN)::W,lv,N+4+1⟩:=cw.consM (cw.consM (oK.up (by omega)) (by omega) (eG _)) (by omega) (eG _)
     have EH:∀k' ds,k'≠kd→(i≠0→k'≠R)→k'≠N+3→(∀j,j<i→k'≠C j)→vs.lookup k'=some ds→((N+4,dC (ax.f ck))::(N+4,dC zN)::W).lookup k'=some ds:=fun k' ds h1 h2 h3 h4 h=>hup k' ds (ut k' ds h1 h2 h3 h4 h)
     have hcX:((N+4,dC (ax.f ck))::(N+4,dC zN)::W).lookup (N+4)=some (dC (ax.f ck)):=aa
     generalize (N+4,dC (ax.f ck))::(N+4,dC zN)::W=X at T4 hfd hoX EH hcX ⊢
     have hdX:=T4.hd
     have hGX:=T4.hG
     refine rs hx fun K hK=>?_
     iterate 3 refine sa ?_
     rw[b7]
     refine q1 (sHC hfd rfl (.inl (by kernel_rfl))) ?_
     refine sa ?_
     refine nl hK ?_
     refine rs hx fun K hK=>?_
     iterate 2 refine sa ?_
     refine nl hK ?_
     dsimp only
     refine AW.condS rfl (fun hb=>?_) (fun hb=>?_)
     ·have wl:0≤dJ rz ((k+1:Nat):Int):=bq hb
      rw[ah wl] at EN
      obtain⟨a,ha,QT⟩:∃a:Nat,a<i∧dJ rz ((k+1:Nat):Int)=(a:Int):=by
       have TA:=ya.len
       dsimp only at TA
       unfold dJ at wl ⊢
       cases QM:rz.findIdx? fun r=>decide (r.b=((k+1:Nat):Int)) with
       |none=>rw[QM] at wl;exact absurd wl (by decide)
       |some a=>exact⟨a,by have:=(ph.1 QM).1;omega,rfl⟩
      rw[QT,show ((a:Int)).toNat=a by omega] at EN
      have hra:=T4.row (i:=a) (by have:=ya.len;dsimp only at this ⊢;omega)
      obtain⟨_,_,e3,t8,_,⟨F5,F5',e5,L5⟩,fS⟩:=hra
      dsimp only at e3 t8 L5 fS
      have hk5:=hoX.lt e5
      have hkX:=hoX.lt hdX
      have hkC:=Dq.C1 a ha
      have hadd:=h_add (lv:=lv) (N:=N+4+1) (q:=ck) (xk:=rz[a]!.k) (but:=-1) hdX mJ hGX T4.lG e3 t8 Dq.dG hkC.2.2 hkC.1 hw
      refine rqd [] hx fun K hK=>?_
      iterate 3 refine sa ?_
      refine l1 (Pt.idN ck) ?_
      iterate 3 refine sa ?_
      refine c1 gM ?_
      refine sa ?_
      refine r1 (n:=rz.length) (i:=a) (by have:=ya.len;dsimp only at this;omega) ?_ (by show (fm R _).toOw=_;rw[fS];rfl) (by show D.toOw (dI .i64 _)=_;rw[QT];rfl)
      refine sa ?_
      refine p1 L5 (bZ _ _ _) ?_
      refine q1 (sHC hadd rfl (.inl (by kernel_rfl))) ?_
      refine nl hK ?_
      have Nk:=T4.setGK (C4.dif Dq) (xG ck rz[a]!.k g1.1) (uI ck rz[a]!.c (-1) g1.2) (by rw[uH];exact Bp)
      refine rq hx fun K hK=>?_
      iterate 2 refine sa ?_
      refine nl hK ?_
      rw[b7]
      rw[EN] at QY
      refine⟨k+1,?_,hkc,by omega⟩
      rw[EN]
      exact wk1 h0 (hok:=tR _ QY) (hv:=w9 Dq QY Nk fun k' ds h1 h2 h3 h4 h=>al h3 (al h1 (EH k' ds h1 h2 h3 h4 h)))
     ·have bO:¬0≤dJ rz ((k+1:Nat):Int):=dK hb
      rw[ai bO] at EN
      refine rqd [66] hx fun K hK=>?_
      iterate 4 refine sa ?_
      refine c1 mJ.pc ?_
      iterate 2 refine sa ?_
      rw[b7]
      iterate 4 refine sa ?_
      refine c1 mJ.pc ?_
      iterate 2 refine sa ?_
      rw[b7]
      refine i1 (i:=k+1) (n:=w) (by omega) ?_
      refine l1 (Pt.el g1.2 (k+1) (by omega)) ?_
      refine l1 (Pt.idN ck) ?_
      refine cq (w_Add _ _) ?_
      refine i1 (i:=k+1) (n:=w) (by omega) ?_
      refine t1 (Pt.el g1.2 (k+1) (by omega)) (Pt.el_set g1.2 (k+1) (by omega) _) ?_
      refine nl hK ?_
      have Nk:=T4.setG (C4.dif Dq) (g1.2.set (k+1) (jw g1.2[k+1]! ck)) (by rw[c7];exact Bp)
      refine rq hx fun K hK=>?_
      iterate 2 refine sa ?_
      refine nl hK ?_
      rw[b7]
      rw[EN] at QY
      refine⟨k+1,?_,hkc,by omega⟩
      rw[EN]
      exact wk1 h0 (hok:=tR _ QY) (hv:=w9 Dq QY Nk fun k' ds h1 h2 h3 h4 h=>al h3 (EH k' ds h1 h2 h3 h4 h))
    ·refine AW.exit ?_
     have hkc:k=c.length:=by have:=dK hb;omega
     subst hkc
     have hdX:=hDj.hd
     have hgd:=Nh (lv:=lv) (N:=N+4) (k:=(gQ rz w c c.length).1) hDj.hG Bp hw
     have wF:=w9 (vs:=vs) Dq C4 hDj ut
     refine AW.seq (rs hx fun K hK=>?_)
     iterate 3 refine sa ?_
     refine p1 mJ.pa (bZ _ _ _) ?_
     refine q1 (sHC hgd rfl (.inl (by kernel_rfl))) ?_
     refine sa ?_
     refine nl hK ?_
     rw[haim]
     refine AW.condS rfl (fun hb=>?_) (fun hb=>?_)
     ·rw[ai (by simpa using hb)]
      refine rs hx fun K hK=>?_
      refine sa ?_
      refine nl hK ?_
      exact AW.ret (rtN h0 (tF N 4) (tR _ C4) (az _) wF)
     ·rw[ah (by simpa using hb)]
      refine AW.skip (rs hx fun K hK=>?_)
      refine sa ?_
      refine nl hK ?_
      exact AW.ret (rtN h0 (tF N 4) (tR _ C4) (az _) wF)
end
end
section
theorem HC.conv {P:Program}{f:FuncId}{ds ds':List D}{hp hp':Hp}{d:D}(hl:ds'.length=ds.length)(hr:∀(g:Gh) (w:World) (j:Nat) (a b:D) (v:Value),ds[j]? =some a→ds'[j]? =some b→aF hp g w a v→aF hp g w b v)(hc:HC P f ds' hp d hp'):HC P f ds hp d hp':=by
 refine⟨hc.1,fun B g w vs qu hsz cY=>hc.2 B g w vs qu (by omega) fun j e u he hu=>?_⟩
 have hj:j<ds.length:=by rw[←hl];exact (fW.1 he).1
 exact hr g w j ds[j] e u (cP hj) he (cY j ds[j] u (cP hj) hu)
theorem OI {hp:Hp}{g:Gh}{w:World}{f:FuncId}{v:Value}(h:aF hp g w (.e (.lit (.func (.func f) #[] #[]))) v):aF hp g w (.fn f []) v:=by
 have h2:=h.lit
 subst h2
 exact .fn f [] (fun k hk=>absurd hk (rj))
section
variable {vs V V2:List (Nat×List D)} {lv:List (Nat×Nat×Nat×TypeId)} {N kd R G w m:Nat} {C:Nat→Nat} {d:Dic}
theorem La {fo ft:FuncId}{ko kt:List Nat}{of:Row→Nu}{ot:Nat→Int}{nn:Nat}(hD:DAt vs kd R G C w d)(hS:cR d w m)(hm:m≤1000000)(QH:d.n=(nn:Int))(Gg:nn≤1000000)
  (hko:∀k,k∈ko→k<N) (hkt:∀k,k∈kt→k<N) (hot2:∀v,-2≤ot v∧ot v≤2)
  (hof:∀(V2:List (Nat×List D)) (F9:List (Nat×Nat×Nat×TypeId)) (M i:Nat),(∀k ds,vs.lookup k=some ds→V2.lookup k=some ds)→i<m→HC prog fo ([.ag (ja C w i d.rows[i]!)]++ko.map fun k=>.pt k 0) ⟨V2,F9,M⟩ (dG ax (of d.rows[i]!)) ⟨V2,F9,M⟩)
  (hot:∀(V2:List (Nat×List D)) (F9:List (Nat×Nat×Nat×TypeId)) (M v:Nat),(∀k ds,vs.lookup k=some ds→V2.lookup k=some ds)→HC prog ft ([dI .i64 v]++kt.map fun k=>.pt k 0) ⟨V2,F9,M⟩ (dI .i64 (ot v)) ⟨V2,F9,M⟩):
  HC prog 47 [.pt kd 0,.fn fo ko,.fn ft kt] ⟨vs,lv,N⟩ (.e (slE ax (cU d.rows nn of fun v=>nOf (ot v)))) ⟨vs,lv,N⟩:=by
 refine HC.of (rs:=[.tmp 6]) tok func47 rfl rfl (bb rfl) rfl (fun cx hx h0 hok=>?_)
 simp only[fP,Nat.reduceAdd,bw]
 have hl:=hS.len
 have wK:=hD.hd
 have GO:=hok.lt wK
 obtain⟨f,hf⟩:∃f:Nat→Nu,f=fun j=>if 0≤dJ d.rows ((j+1:Nat):Int) then of d.rows[(dJ d.rows ((j+1:Nat):Int)).toNat]! else nOf (ot (j+1)):=⟨_,rfl⟩
 have hfv:cU d.rows nn of (fun v=>nOf (ot v))=(List.range nn).map f:=by rw[hf];rfl
 have hsk:∀M,N≤M→(D.fn fo ko).idsB M=true∧(D.fn ft kt).idsB M=true:=fun M hM=>⟨a7.2 fun k hk=>aB (by have:=hko k hk;omega),a7.2 fun k hk=>aB (by have:=hkt k hk;omega)⟩
 refine rs hx fun K hK=>?_
 refine s1 (d:=dO N ax ([]:List Nu)) (gi cg aQ) ?_
 refine nl hK ?_
 refine rs hx fun K hK=>?_
 refine s1 (d:=dO (N+1) ax ([]:List Nu)) (gi cg aQ) ?_
 refine nl hK ?_
 have Tp:∀u:Nat,cw ⟨vs,(N+1,u,36,43)::lv,N+1+1⟩:=fun u=>by
  refine⟨fun j ds h=>?_,fun id e h=>?_⟩
  ·obtain⟨h1,h2⟩:=hok.var j ds h
   have h1:j<N:=h1
   exact⟨show j<N+1+1 by omega,a7.2 fun d hd=>D.idsC_le (show N≤N+1+1 by omega) (a7.1 h2 d hd)⟩
  ·by_cases hid:id=N+1
   ·show id<N+1+1;omega
   ·have:=hok.tok id e (by rw[←h];exact (ao hid).symm)
    have:id<N:=this
    show id<N+1+1;omega
 refine AW.seq (rs hx fun K hK=>?_)
 refine sa ?_
 refine nl hK ?_
 refine AW.block (AW.loopW (fun u:Nat=>[(0,.pt kd 0),(1,.fn fo ko),(2,.fn ft kt),(7,dO (N+1) ax ((List.range u).map f)),(8,dI .i64 (u+1:Nat))]) (fun u=>⟨vs,(N+1,u,36,43)::lv,N+1+1⟩) (fun u=>u≤nn) (fun u=>nn - u) 0 ?_ (cy _) ?_)
 ·refine Gs (by rw[h0];show N≤N+1+1;omega) (az _) (Tp 0) (fun j ds h=>h) (fun j y h=>?_) (bI.cons (bI.cons (bI.cons (bI.cons (bI.cons bI.nil rfl rfl) rfl (aB (show N+1<N+1+1 by omega))) rfl (hsk _ (by omega)).2) rfl (hsk _ (by omega)).1) rfl (aB (show kd<N+1+1 by omega)))
  by_cases hj:j=N+1
  ·subst hj
   rw[←h]
   exact aa.trans aa.symm
  ·have h1:lv.lookup j=some y:=by rw[←h];exact (ao hj).symm
   have h2:j<N:=hok.tok j y h1
   exact (ao hj).trans ((ao (show j≠N by omega)).trans h1)
 ·intro u hu
  have QJ:((List.range u).map f).length=u:=by simp
  refine AW.seq (rs hx fun K hK=>?_)
  iterate 4 refine sa ?_
  refine c1 dic_n ?_
  rw[QH]
  refine sa ?_
  refine nl hK ?_
  refine AW.condS rfl (fun hb=>?_) (fun hb=>?_)
  ·have hun:u<nn:=by have:=bq hb;omega
   refine AW.skip ?_
   have hfd:=Ni (lv:=(N+1,u,36,43)::lv) (N:=N+1+1) (v:=((u+1:Nat):Int)) hD (by omega)
   have rP:(List.range (u+1)).map f=(List.range u).map f++[f u]:=by rw[wo,iZ];rfl
   have hfu:f u=if 0≤dJ d.rows ((u+1:Nat):Int) then of d.rows[(dJ d.rows ((u+1:Nat):Int)).toNat]! else nOf (ot (u+1)):=by rw[hf]
   have Tc:∀{tm:List (Nat×D)} {vX:List (Nat×List D)} {n2:Nat},(∀j ds,vs.lookup j=some ds→vX.lookup j=some ds)→N+1+1≤n2→tm.lookup 0=some (.pt kd 0)→tm.lookup 1=some (.fn fo ko)→tm.lookup 2=some (.fn ft kt)→tm.lookup 7=some (dO (N+1) ax ((List.range u).map f++[f u]))→tm.lookup 8=some (dI .i64 ((u+1+1:Nat):Int))→
     Wk cx tm ⟨vX,(N+1,((List.range u).map f++[f u]).length,36,43)::(N+1+1,1,36,43)::(N+1,u,36,43)::lv,n2⟩ [(0,.pt kd 0),(1,.fn fo ko),(2,.fn ft kt),(7,dO (N+1) ax ((List.range (u+1)).map f)),(8,dI .i64 (u+1+1:Nat))] ⟨vs,(N+1,u+1,36,43)::lv,N+1+1⟩:=fun hv hn a b c e g=>by
    rw[rP]
    refine Gs (by rw[h0];show N≤N+1+1;omega) hn (Tp (u+1)) hv (fun j y h=>?_) (bI.cons (bI.cons (bI.cons (bI.cons (bI.cons bI.nil g rfl) e (aB (show N+1<N+1+1 by omega))) c (hsk _ (by omega)).2) b (hsk _ (by omega)).1) a (aB (show kd<N+1+1 by omega)))
    by_cases hj:j=N+1
    ·subst hj
     have h1:some (u+1,36,43)=some y:=by rw[←h];exact aa.symm
     rw[←h1]
     exact aa.trans (by rw[cJ,QJ];rfl)
    ·have h1:lv.lookup j=some y:=by rw[←h];exact (ao hj).symm
     have h2:j<N:=hok.tok j y h1
     exact (ao hj).trans ((ao (show j≠N+1+1 by omega)).trans ((ao hj).trans h1))
   refine AW.seq (AW.block (rs hx fun K hK=>?_))
   iterate 2 refine sa ?_
   refine q1 (sHC hfd rfl (.inl (by kernel_rfl))) ?_
   refine sa ?_
   refine nl hK ?_
   refine rs hx fun K hK=>?_
   iterate 2 refine sa ?_
   refine nl hK ?_
   refine AW.condS rfl (fun hb=>?_) (fun hb=>?_)
   ·have wl:0≤dJ d.rows ((u+1:Nat):Int):=bq hb
    rw[ah wl] at hfu
    obtain⟨a,ha,QT⟩:∃a:Nat,a<m∧dJ d.rows ((u+1:Nat):Int)=(a:Int):=by
     unfold dJ at wl ⊢
     cases QM:d.rows.findIdx? fun r=>decide (r.b=((u+1:Nat):Int)) with
     |none=>rw[QM] at wl;exact absurd wl (by decide)
     |some a=>exact⟨a,by have:=(ph.1 QM).1;omega,rfl⟩
    rw[QT,show ((a:Int)).toNat=a by omega] at hfu
    obtain⟨_,_,_,_,⟨F5,F5',e5,L5⟩,_,fS⟩:=hD.row (i:=a) (by omega)
    have hk5:=hok.lt e5
    refine rq hx fun K hK=>?_
    iterate 5 refine sa ?_
    refine c1 gM ?_
    refine sa ?_
    refine r1 (n:=d.rows.length) (i:=a) (by omega) ?_ (by show (fm R _).toOw=_;rw[fS];rfl) (by show D.toOw (dI .i64 _)=_;rw[QT];rfl)
    refine p1 L5 (ug _ _ _ _) ?_
    refine q1 (sHF (hof vs _ _ a (fun _ _ h=>h) ha) rfl) ?_
    rw[←hfu]
    refine s1 (kP [f u] ax cg aQ) ?_
    refine s1 (qn (id:=N+1) (l:=(List.range u).map f) (l':=[f u]) cg aQ (by rw[cJ,QJ];show (u+1)*136≤140737488355328;omega) rfl rfl rfl rfl (by rw[QJ];exact (ao (show N+1≠N+1+1 by omega)).trans aa)) ?_
    refine sa ?_
    refine nl hK ?_
    refine rq hx fun K hK=>?_
    iterate 3 refine sa ?_
    refine nl hK ?_
    rw[b7]
    exact⟨u+1,Tc (fun _ _ h=>h) (by omega) rfl rfl rfl rfl rfl,hun,by omega⟩
   ·have bO:¬0≤dJ d.rows ((u+1:Nat):Int):=dK hb
    rw[ai bO] at hfu
    refine rq hx fun K hK=>?_
    iterate 3 refine sa ?_
    refine q1 (sHF (hot vs _ _ (u+1) (fun _ _ h=>h)) rfl) ?_
    refine cq (Gz (ot (u+1)) (hot2 _)) ?_
    rw[←hfu]
    refine s1 (kP [f u] ax cg aQ) ?_
    refine s1 (qn (id:=N+1) (l:=(List.range u).map f) (l':=[f u]) cg aQ (by rw[cJ,QJ];show (u+1)*136≤140737488355328;omega) rfl rfl rfl rfl (by rw[QJ];exact (ao (show N+1≠N+1+1 by omega)).trans aa)) ?_
    refine sa ?_
    refine nl hK ?_
    refine rq hx fun K hK=>?_
    iterate 3 refine sa ?_
    refine nl hK ?_
    rw[b7]
    exact⟨u+1,Tc (fun _ _ h=>h) (by omega) rfl rfl rfl rfl rfl,hun,by omega⟩
  ·refine AW.exit ?_
   have hun:u=nn:=by have:=dK hb;omega
   refine rs hx fun K hK=>?_
   iterate 2 refine sa ?_
   refine nl hK ?_
   refine AW.ret ?_
   rw[hfv,hun]
   exact⟨[(6,D.ex (dO (N+1) ax ((List.range nn).map f)))],Gs (by rw[h0];exact az N) (show N≤N+1+1 by omega) hok (fun j ds h=>h) (fun j y h=>(ao (by have h2:j<N:=hok.tok j y h;omega)).trans h) (bI.consX bI.nil rfl rfl),⟨_,aa,rfl⟩⟩
end
end
section
section
variable {P:Program} {tb:TypeId→Option TyE} {dr:Bool} {ty:TypeId} {ev:Operand→D} {hp:Hp} {t:TypeId} {i:TyE} {x:Operand} {xs:List E} {off:Nat} {e:E}
theorem T_ldX(he:xs[off]? =some e)(ht:tb t=some i)(hg:i.ty.agg=false:=by exact rfl)(hx:ev x=.fp xs off:=by exact rfl):AVC P tb dr (.load t x) ty ev hp (Kq (.e e) hp):=by
 rw[rF,hx,Ey,ht]
 simp only[hg]
 refine⟨(fW.1 he).1,?_⟩
 rw[show xs.getD off .any=e by rw[vG,he];rfl]
 exact Kq.here _ _
theorem AR.ptf {k:Nat}{ds:List D}{es:List E}(hv:hp.vars.lookup k=some ds)(hl:es.length=ds.length)(ha:∀(j:Nat) (d:D) (e:E),ds[j]? =some d→es[j]? =some e→AR hp d (.e e)):AR hp (.pt k 0) (.fp es 0):=by
 intro B g w v hr hd
 obtain⟨h1,h2,h3,cs,tt,h4,h5,h6⟩:=hr.var k ds hv
 cases hd with
 |pt _ _ hk=>
  have h0:(⟨g.μ k,0,none⟩:Addr).add 0=⟨g.μ k,0,none⟩:=by rw[Addr.add_lit]
  have:=aF.fp (hp:=⟨[],[],0⟩) (g:=⟨fun _=>0,fun _=>default,Fv hp g⟩) (w:=w) es 0 ⟨g.μ k,0,none⟩ (pl.1 h4).1 fun j e he=>?_
  ·rw[h0] at this;exact this
  ·have hj:j<ds.length:=by rw[←hl];exact (fW.1 he).1
   have hjc:j<cs.size:=by omega
   obtain⟨h7,h8⟩:=h6 j cs[j] (tD hjc)
   have h9:=ha j ds[j] e (cP hj) he B g w cs[j] hr (h8 ds[j] (cP hj))
   refine⟨cs[j],?_,fun hf=>hf.2 k ds hv (by rw[gD]),?_⟩
   ·rw[Addr.add_lit]
    simp[World.cell?,h4,tD hjc]
   ·cases h9 with
    |e _ _ h=>exact h
end
def Lr(d:Dic):List E:=[.any]++(ax.f d.gk++[slE ax d.gc])++[.lit (.int .i64 d.n),.lit (.int .i64 d.piv),.lit (.int .i64 d.most)]
theorem I4(a:Nu):(ax.f a).length=36:=by rw[ax.h];rfl
theorem dicE_c(d:Dic):(Lr d)[0+1+36]? =some (slE ax d.gc):=by
 have:=I4 d.gk
 unfold Lr
 rw[za (by simp[this]),qi (by simp),show (0+1+36 - [E.any].length)=(ax.f d.gk).length by rw[this];rfl,qi (by omega),zV]
 rfl
theorem dicE_n(d:Dic):(Lr d)[0+38]? =some (.lit (.int .i64 d.n)):=by
 have:=I4 d.gk
 unfold Lr
 rw[qi (by simp[this])]
 simp[this]
theorem P6 {d:Dic}{nn w:Nat}(hl:d.gc.length=w)(QH:d.n=(nn:Int))(hw:nn+1≤w)(hw2:w≤1000000):
  ar prog 44 [.fp (Lr d) 0] (.own 43 36 (bY d nn).length ((bY d nn).flatMap ax.f)):=by
 refine bk (rs:=[.tmp 2]) (fun cx hx h0=>?_) func44
 obtain⟨l,M9⟩:∃l:List Nu,l=d.gc.drop (nn+1):=⟨_,rfl⟩
 have hlen:l.length=w - (nn+1):=by rw[M9,fh,hl]
 have M5:bY d nn=l.map eU:=by rw[M9];rfl
 refine rs hx fun K hK=>?_
 refine s1 (d:=dO 0 ax ([]:List Nu)) (gi cg aQ) ?_
 refine nl hK ?_
 refine rs hx fun K hK=>?_
 refine s1 (d:=dO 1 ax ([]:List Nu)) (gi cg aQ) ?_
 refine nl hK ?_
 refine AW.seq (rsd [] hx fun K hK=>?_)
 iterate 4 refine sa ?_
 refine s1 (T_ldX (dicE_c d) tbI) ?_
 iterate 3 refine sa ?_
 refine s1 (T_ldX (dicE_n d) tbI) ?_
 rw[QH]
 refine sa ?_
 rw[b7]
 have hsub:zy d.gc ((nn+1:Nat):Int) (d.gc.length:Int)=l:=by
  rw[M9]
  unfold zy
  rw[show (((nn+1:Nat):Int)).toNat=nn+1 by omega,ii (by rw[fh];omega)]
 refine s1 (d:=dL ax (zy d.gc ((nn+1:Nat):Int) (d.gc.length:Int))) (T_sl (c:=ax) (l:=d.gc) (a:=((nn+1:Nat):Int)) (b:=(d.gc.length:Int)) (by omega) cg aQ) ?_
 rw[hsub]
 refine nbr hK ?_
 refine AW.block (AW.loopW (fun u:Nat=>[(3,dO 1 ax ((l.take u).map eU)),(16,dL ax l),(17,dI .i64 (l.length:Nat)),(18,dI .i64 u)]) (fun u=>⟨[],[(1,u,36,43)],2⟩) (fun u=>u≤l.length) (fun u=>l.length - u) 0 ?_ (cy _) ?_)
 ·exact Gs (by rw[h0];exact cy _) (az _) ⟨fun _ _ h=>by simp at h,fun id e h=>by rcases ri.1 (bG h) with h2;simp at h2;show id<2;omega⟩ (fun _ _ h=>h) (fun j y h=>by
   by_cases hj:j=1
   ·subst hj;rw[←h];rfl
   ·exact absurd h (by rw[ao hj];simp)) (bI.cons (bI.cons (bI.cons (bI.cons bI.nil rfl rfl) rfl rfl) rfl rfl) rfl rfl)
 ·intro u hu
  have QJ:((l.take u).map eU).length=u:=by rw[bg,eu];omega
  refine rar hx ?_
  refine AW.seq (AW.condS rfl (fun hb=>?_) (fun hb=>?_))
  ·have M0:u<l.length:=by have:=bq hb;omega
   have rA:0≤(u:Int)∧(u:Int)<((l.length:Nat):Int):=by omega
   refine AW.skip (AW.seq (AW.block (rs hx fun K hK=>?_)))
   refine sbr ?_
   refine s1 (d:=dG ax l[u]!) (i8 (c:=ax) (l:=l) (n:=u) (o:=0) aQ M0 (eS _ _ rfl)) ?_
   refine n1 ?_
   refine z1 ?_
   refine nl hK ?_
   refine rq hx fun K hK=>?_
   refine sa ?_
   refine l1 (Pt.idN _) ?_
   refine cq (Kk _) ?_
   refine s1 (kP [eU l[u]!] ax cg aQ) ?_
   have CU:(l.take u).map eU++[eU l[u]!]=(l.take (u+1)).map eU:=by
    rw[Bb,iZ,bT l u M0,cP M0]
    rfl
   refine s1 (qn (id:=1) (l:=(l.take u).map eU) (l':=[eU l[u]!]) cg aQ (by rw[cJ,QJ];show (u+1)*136≤140737488355328;omega) rfl rfl rfl rfl (by rw[QJ];rfl)) ?_
   rw[CU]
   refine nbr hK ?_
   refine rbr hx ?_
   rw[b7]
   have hlu1:((l.take (u+1)).map eU).length=u+1:=by rw[←CU,cJ,QJ];rfl
   refine⟨u+1,Gs (by rw[h0];exact cy _) (show 2≤_ by decide) ⟨fun _ _ h=>by simp at h,fun id e h=>by rcases ri.1 (bG h) with h2;simp at h2;show id<2;omega⟩ (fun _ _ h=>by simp at h) (fun j y h=>?_) (bI.cons (bI.cons (bI.cons (bI.cons bI.nil rfl rfl) rfl rfl) rfl rfl) rfl rfl),M0,by omega⟩
   by_cases hj:j=1
   ·subst hj;rw[←h,hlu1];rfl
   ·exact absurd h (by rw[ao hj];simp)
  ·refine AW.exit ?_
   have M0:u=l.length:=by have:=dK hb;omega
   refine rar hx ?_
   refine AW.ret ?_
   have wF:(l.take u).map eU=bY d nn:=by rw[M0,List.take_length,M5]
   have JX:(bY d nn).length=u:=by rw[M5,bg,M0]
   rw[wF]
   refine oL.own (id:=1) rfl ?_
   rw[JX];rfl
section
variable {vs:List (Nat×List D)} {lv:List (Nat×Nat×Nat×TypeId)} {N kd R G w m nn:Nat} {C:Nat→Nat} {d:Dic}
theorem p7 {α:Type}{a b:List α}{j:Nat}{x:α}(h:(a++b)[j]? =some x):(j<a.length∧a[j]? =some x)∨(a.length≤j∧b[j - a.length]? =some x):=by
 rcases d9 j a.length with h1|h1
 ·exact .inl ⟨h1,by rw[za h1] at h;exact h⟩
 ·exact .inr ⟨h1,by rw[qi h1] at h;exact h⟩
theorem AR.dic(hD:DAt vs kd R G C w d):AR ⟨vs,lv,N⟩ (.pt kd 0) (.fp (Lr d) 0):=by
 have hk:=I4 d.gk
 refine AR.ptf hD.hd ?_ fun j x e hx he=>?_
 ·unfold nC Lr ba
  simp[hk,eH]
 ·unfold nC ba at hx
  unfold Lr at he
  rcases p7 hx with⟨a1,hx⟩|⟨a1,hx⟩ <;> rcases p7 he with⟨b1,he⟩|⟨b1,he⟩
  ·rcases p7 hx with⟨a2,hx⟩|⟨a2,hx⟩ <;> rcases p7 he with⟨b2,he⟩|⟨b2,he⟩
   ·obtain rfl:j=0:=by simp at a2;omega
    simp at hx he
    subst hx he
    intro B g w2 v hr hd
    refine .e _ _ (.any _ ?_)
    cases hl:d.rows with
    |nil=>rw[hl] at hd;exact (hd.lit▸rfl)
    |cons r l=>rw[hl] at hd;cases hd;rfl
   ·simp at a2 b2;omega
   ·simp at a2 b2;omega
   ·simp only[sI,Ji] at hx he a2
    rcases p7 hx with⟨a3,hx⟩|⟨a3,hx⟩ <;> rcases p7 he with⟨b3,he⟩|⟨b3,he⟩
    ·unfold dC at hx
     rw[dW,he] at hx
     injection hx with hx
     subst hx
     exact AR.data (d:=.e e) rfl
    ·rw[eH] at a3;omega
    ·rw[eH] at a3;omega
    ·rw[eH] at a3 hx
     have h0:j - (0+1) - (ax.f d.gk).length=0:=by
      have:=(fW.1 hx).1
      simp at this;omega
     rw[h0] at hx he
     simp at hx he
     subst hx he
     exact AR.list hD.hG hD.lG
  ·simp[eH] at a1 b1;omega
  ·simp[eH] at a1 b1;omega
  ·have e1:(([fm R d.rows]++(dC (ax.f d.gk)++[D.ow G 0 36 w])).length)=([E.any]++(ax.f d.gk++[slE ax d.gc])).length:=by simp[eH]
   rw[e1] at hx
   generalize j - ([E.any]++(ax.f d.gk++[slE ax d.gc])).length=q at hx he
   have hq:q=0∨q=1∨q=2:=by
    have:=(fW.1 he).1
    simp at this;omega
   rcases hq with rfl|rfl|rfl
   all_goals
    simp at hx he
    subst hx he
    exact AR.data (d:=dI .i64 _) rfl
theorem lit_Nu(l:List Nu):(l.flatMap ax.f).all E.isLit=true:=by
 rw[a7]
 intro x hx
 obtain⟨a,_,ha⟩:=List.mem_flatMap.1 hx
 have h2:∀y,y∈aq.f a.1.vN∨y∈aq.f a.1.vD→y.isLit=true:=by
  have h3:∀z:ap,∀y∈aq.f z,y.isLit=true:=fun z y hy=>by
   rcases wq.1 (show y∈[E.lit (.bool z.vBad),.lit (.bool z.vNeg)]++al_cV.f z.vW from hy) with h|h
   ·simp at h;rcases h with rfl|rfl <;> rfl
   ·obtain⟨n,_,hn⟩:=List.mem_flatMap.1 (show y∈z.vW.toList.flatMap (cI .u32).f from h)
    rw[ri.1 hn];rfl
  rintro y (h|h)
  ·exact h3 _ y h
  ·exact h3 _ y h
 exact h2 x (wq.1 (show x∈aq.f a.1.vN++aq.f a.1.vD from ha))
theorem QU(hD:DAt vs kd R G C w d)(QH:d.n=(nn:Int))(hw:nn+1≤w)(hw2:w≤1000000)(hm:0<(bY d nn).length):
  HC prog 44 [.pt kd 0] ⟨vs,lv,N⟩ (.gw N 36 (bY d nn).length) ⟨(N,dC ((cW ax).f (bY d nn)))::vs,lv,N+1⟩:=
 HC.adopt (P6 hD.lG QH hw hw2) (hp:=⟨vs,lv,N⟩) ⟨AR.dic hD,trivial⟩ hm (lit_Nu _)
end
end
section
theorem HC.weak {P:Program}{f:FuncId}{ds:List D}{hp:Hp}{d:D}{vars vars':List (Nat×List D)}{lv lv':List (Nat×Nat×Nat×TypeId)}{n n':Nat}(hc:HC P f ds hp d ⟨vars,lv,n⟩)(h0:hp.next≤n')
  (h:cw hp→cw ⟨vars',lv',n'⟩∧(∀j ds,vars'.lookup j=some ds→vars.lookup j=some ds)∧(∀j y,lv'.lookup j=some y→lv.lookup j=some y)∧d.idsB n'=true):HC P f ds hp d ⟨vars',lv',n'⟩:=by
 refine⟨hc.1,fun B g w vs hr hsz cY=>(hc.2 B g w vs hr hsz cY).mono ?_⟩
 obtain⟨hok,hv,hl,hd⟩:=h hr.ok
 rintro e w' ⟨v,g',rfl,qu,hM,hrd,hb,hF⟩
 have dV:∀id y,lv'.lookup id=some y→lv.lookup id=some y:=hl
 refine⟨v,g',rfl,⟨fun k ds hk=>?_,fun k k' a b hk wD he=>qu.inj k k' a b (hv k a hk) (hv k' b wD) he,fun id m e hi=>?_,fun id Cb t t' b hi wE=>qu.tinj id Cb t t' b (dV _ _ hi) (dV _ _ wE),qu.base,qu.fits⟩,
  ⟨hM.size,hM.cell,hM.forb,h0,hM.μ,fun id hid m e QK=>hM.live id hid m e (dV id _ QK),fun b hb hf=>⟨(hM.fr b hb hf).1,(hM.fr b hb hf).2.1,fun k ds hk=>(hM.fr b hb hf).2.2.1 k ds (hv k ds hk),fun id t hi=>(hM.fr b hb hf).2.2.2 id t (dV id _ hi)⟩,hM.szs⟩,EC hrd hd rfl dV,hb,hF⟩
 ·obtain⟨_,h3,h4,cs,ty,h5,h6,h7⟩:=qu.var k ds (hv k ds hk)
  obtain⟨h1,h2⟩:=hok.var k ds hk
  exact⟨h1,h3,h4,cs,ty,h5,h6,fun j u hu=>⟨(h7 j u hu).1,fun d hd=>iK ((h7 j u hu).2 d hd) (a7.1 h2 d (eg hd)) rfl dV⟩⟩
 ·obtain⟨_,us,h2,h3,h4⟩:=qu.tok id m e (dV _ _ hi)
  exact⟨hok.tok id _ hi,us,h2,h3,fun b hb=>⟨(h4 b hb).1,fun k ds hk=>(h4 b hb).2 k ds (hv k ds hk)⟩⟩
theorem resV {q:Nat}{tt:TypeId}{ti:TyE}{k:Nat}{F:List D}{vs:List (Nat×List D)}{lv:List (Nat×Nat×Nat×TypeId)}{N:Nat}{tm:List (Nat×D)}{k2:D→Prop}(ht:tbl tt=some ti)(hl:tm.lookup q=some (.pt k 0))(hv:vs.lookup k=some F)(hk:k<N)(hz:F.length=ti.size)(hg:ti.ty.agg=true)(h:k2 (.ag F)):tM tbl tm ⟨vs,lv,N⟩ (.cell q tt) k2:=by
 refine⟨.pt k 0,hl,⟨_,ht⟩,?_⟩
 rw[oX,ht]
 simp only[hv,hg]
 refine⟨hk,by omega,?_⟩
 rw[rp,ii (by omega)]
 exact h
theorem HC.forget {P:Program}{f:FuncId}{ds:List D}{d:D}{vs vars:List (Nat×List D)}{lv:List (Nat×Nat×Nat×TypeId)}{N n:Nat}(hc:HC P f ds ⟨vs,lv,N⟩ d ⟨vars,lv,n⟩)(hv:∀j ds,j<N→vs.lookup j=some ds→vars.lookup j=some ds)(hd:d.idsB N=true):HC P f ds ⟨vs,lv,N⟩ d ⟨vs,lv,N⟩:=
 hc.weak (az N) fun hok=>⟨hok,fun j ds h=>hv j ds (hok.lt h) h,fun _ _ h=>h,hd⟩
section
variable {vs:List (Nat×List D)} {lv:List (Nat×Nat×Nat×TypeId)} {N w i ks s:Nat} {C:Nat→Nat} {r:Row}
theorem rtN1 {x:Cx}{tm:List (Nat×D)}{pR vs2:List (Nat×List D)}{vs0:List (Nat×List D)}{lv0:List (Nat×Nat×Nat×TypeId)}{N0 M n2 q k:Nat}{a:Nu}(h0:x.hp0=⟨vs0,lv0,N0⟩)(hM:N0≤M)(hok:cw ⟨pR,lv,M⟩)(hN:M≤n2)(hv:∀j ds,pR.lookup j=some ds→vs2.lookup j=some ds)(hk:pR.lookup k=some (dC (ax.f a)))(hq:tm.lookup q=some (.pt k 0)):
  ∃tm',Wk x tm ⟨vs2,lv,n2⟩ tm' ⟨pR,lv,M⟩∧t5 tbl [.cell q 43] tm' ⟨pR,lv,M⟩ (dG ax a):=
 ⟨[(q,.pt k 0)],wkS (by rw[h0];exact hM) hN hok hv (bI.nil.cons hq (aB (hok.lt hk))),resV aQ aa hk (hok.lt hk) (jb a) rfl rfl⟩
theorem T1:HC prog 48 ([.ag (ja C w i r)]++([]:List Nat).map fun k=>.pt k 0) ⟨vs,lv,N⟩ (dG ax r.k) ⟨vs,lv,N⟩:=by
 refine HC.forget (vars:=(N+1,dC (ax.f r.k))::vs) (n:=N+2) ?_ (fun j ds hj h=>al (by omega) h) (eG _)
 refine HC.of (rs:=[.cell 2 43]) tok func48 rfl rfl (bb rfl) rfl (fun cx hx h0 hok=>?_)
 simp only[fP,l6,tG,Nat.reduceAdd,bw]
 refine rs hx fun K hK=>?_
 refine s1 (fQ (cs:=ja C w i r)) ?_
 refine n1 ?_
 refine nl hK ?_
 refine rs hx fun K hK=>?_
 iterate 2 refine sa ?_
 refine l1 (Se (C:=C) (w:=w) (j:=i) (r:=r)) ?_
 refine z1 ?_
 refine nl hK ?_
 refine AW.ret ?_
 exact rtN1 h0 (by omega) (cw.consM (hok.up (by omega)) (by omega) (eG _)) (az _) (fun j ds h=>by
  rcases cm h with⟨rfl,rfl⟩|⟨hj,h⟩
  ·exact aa
  ·have:=hok.lt h
   exact al hj (al hj (al (by omega) h))) aa rfl
theorem T0(v:Nat):HC prog 49 ([dI .i64 v]++([]:List Nat).map fun k=>.pt k 0) ⟨vs,lv,N⟩ (dI .i64 0) ⟨vs,lv,N⟩:=by
 refine HC.of (rs:=[.tmp 2]) tok func49 rfl rfl (bb rfl) rfl (fun cx hx h0 hok=>?_)
 simp only[fP,l6,tG,Nat.reduceAdd,bw]
 refine rs hx fun K hK=>?_
 refine sa ?_
 refine nl hK ?_
 refine rs hx fun K hK=>?_
 refine sa ?_
 refine nl hK ?_
 exact AW.ret (rt1 h0)
theorem TZ(hs:vs.lookup ks=some [dI .i64 s])(hc:vs.lookup (C i)=some (dC ((cW ax).f r.c)))(hl:r.c.length=w)(hsw:s<w):HC prog 50 ([.ag (ja C w i r)]++[ks].map fun k=>.pt k 0) ⟨vs,lv,N⟩ (dG ax r.c[s]!) ⟨vs,lv,N⟩:=by
 refine HC.forget (vars:=(N+1,dC (ax.f r.c[s]!))::vs) (n:=N+2) ?_ (fun j ds hj h=>al (by omega) h) (eG _)
 refine HC.of (rs:=[.cell 3 43]) tok func50 rfl rfl (bb rfl) rfl (fun cx hx h0 hok=>?_)
 simp only[fP,l6,iX,Fh,nR,Nat.reduceAdd,bw]
 have TC:=hok.lt hs
 have zK:=hok.lt hc
 refine rs hx fun K hK=>?_
 refine s1 (fQ (cs:=ja C w i r)) ?_
 refine n1 ?_
 refine nl hK ?_
 refine rs hx fun K hK=>?_
 iterate 2 refine sa ?_
 refine c1 (MF (C:=C) (w:=w) (j:=i) (r:=r)) ?_
 refine c1 (Pt.all (F:=[dI .i64 s])) ?_
 refine i1 hsw ?_
 refine l1 (Pt.el r.c s (by omega)) ?_
 refine z1 ?_
 refine nl hK ?_
 refine AW.ret ?_
 exact rtN1 h0 (by omega) (cw.consM (hok.up (by omega)) (by omega) (eG _)) (az _) (fun j ds h=>by
  rcases cm h with⟨rfl,rfl⟩|⟨hj,h⟩
  ·exact aa
  ·have:=hok.lt h
   exact al hj (al hj (al (by omega) h))) aa rfl
theorem TY(v:Nat)(hs:vs.lookup ks=some [dI .i64 s]):HC prog 51 ([dI .i64 v]++[ks].map fun k=>.pt k 0) ⟨vs,lv,N⟩ (dI .i64 (if (v:Int)=(s:Int) then 1 else 0)) ⟨vs,lv,N⟩:=by
 refine HC.of (rs:=[.tmp 3]) tok func51 rfl rfl (bb rfl) rfl (fun cx hx h0 hok=>?_)
 simp only[fP,l6,iX,Fh,nR,Nat.reduceAdd,bw]
 have TC:=hok.lt hs
 refine rs hx fun K hK=>?_
 refine sa ?_
 refine nl hK ?_
 refine AW.seq (rs hx fun K hK=>?_)
 refine sa ?_
 refine c1 (Pt.all (F:=[dI .i64 s])) ?_
 refine sa ?_
 refine nl hK ?_
 refine AW.condS rfl (fun hb=>?_) (fun hb=>?_)
 ·rw[ah (bq hb)]
  refine rs hx fun K hK=>?_
  refine sa ?_
  refine nl hK ?_
  exact AW.ret (rt1 h0)
 ·rw[ai (dK hb)]
  refine AW.skip (rs hx fun K hK=>?_)
  refine sa ?_
  refine nl hK ?_
  exact AW.ret (rt1 h0)
end
end
def fJ(db:Int):Option (List am):=if 0≤db∧db≤1000000 then some (List.replicate db.toNat (nv (nOf 0))) else none
theorem UO(l:List Nu):(cW ax).f l=(cW aj).f (l.map nv):=by
 show l.flatMap ax.f=(l.map nv).flatMap aj.f
 rw[List.flatMap_map]
 rfl
theorem lm(l:List Nu):slE ax l=slE aj (l.map nv):=by
 unfold slE
 have:=UO l
 rw[bg]
 show E.sl 36 l.length ((cW ax).f l)=E.sl 36 l.length ((cW aj).f (l.map nv))
 rw[this]
theorem nS {db:Int}{r:List am}(h:fJ db=some r):ar prog 75 [dI .i64 db] (dL aj r):=by
 unfold fJ at h
 split at h
 rotate_left
 ·cases h
 rename_i hn
 injection h with h
 obtain⟨n,rfl⟩:∃n:Nat,db=(n:Int):=⟨db.toNat,by omega⟩
 have hr:slE aj r=slE ax (List.replicate n (nOf 0)):=by
  rw[lm,←h,Fx,show ((n:Int)).toNat=n by omega]
 show ar _ _ _ (.e (slE aj r))
 rw[hr]
 refine bk (rs:=[.tmp 2]) (fun cx hx h0=>?_) func75
 refine rs hx fun K hK=>?_
 refine s1 (d:=dO 0 ax ([]:List Nu)) (gi cg aQ) ?_
 refine nl hK ?_
 refine rs hx fun K hK=>?_
 refine cq (Gz 0 (by omega)) ?_
 refine s1 (kP [nOf 0] ax cg aQ) ?_
 refine sa ?_
 refine q1 (sHC (HC.args (ds:=[dO 1 ax [nOf 0],dI .i64 n]) (ds':=[.e (slE ax [nOf 0]),dI .i64 n]) ⟨SQ _,aw _,trivial⟩ (Lc (vs:=[]) (N:=2) (by omega))) rfl (.inr ⟨show 2≤4 by decide,fun j hj=>ao (by have:j<2:=hj;omega)⟩)) ?_
 refine nbr hK ?_
 refine fzA ax 3 [2] (sS ..).symm ?_ (all1 rfl)
 exact AW.ret (rv1)
end
end Go.Proofs.YtaedcknhkjpmlaaGreat
