/-
  Lemmas, part 6. Conditions: none.
-/
import Derived.Test.YtaedcknhkjpmlaaGreatA5
set_option linter.all false
set_option maxRecDepth 100000
namespace Go.Proofs.YtaedcknhkjpmlaaGreat
open Go.RowKit Go.IntKind
noncomputable section
def pG(c:List Nu):Option Nat:=c.findIdx? fun x=>decide (0<dv x)
def iv:Nat→Dic→(Int×Int)×Dic
 |0,d=>((-1,0),d)
 |f+1,d=>match pG d.gc with
  |none=>((-1,0),d)
  |some s=>match pf d.rows s default d.rows.length with
   |none=>((-1,30),d)
   |some p=>if p.1<0 then (((s:Int),0),d) else
    let q:=eg d p.1.toNat s
    if q.1=0 then iv f q.2 else ((-1,q.1),q.2)
def bh(d:Dic):(Int×Int)×Dic:=iv ((d.most - d.piv).toNat+1) d
def u1(x:Nu)(r:Row):Row:=⟨r.k,r.c.set 0 x,r.b⟩
def mL(l:List Row):Nat→Nat
 |0=>0
 |i+1=>if pD l[i]!.k l[mL l i]!.k<0 then i else mL l i
def jH(d:Dic):Dic:=⟨d.rows.map (u1 (nOf 1)),d.gk,d.gc.set 0 (nOf (-1)),d.n,d.piv,d.most⟩
def Aa(c:List Nu):Option Nat:=c.findIdx? fun x=>decide (dv x≠0)
def kK(d:Dic):Int×Dic:=
 let p:=eg (jH d) (mL d.rows d.rows.length) 0
 if p.1≠0 then p else
 let q:=bh p.2
 if q.1.2≠0∨dv q.2.gk<0 then (q.1.2,q.2) else
 if ew q.2.rows 0<0 then (0,q.2) else
 match Aa q.2.rows[(ew q.2.rows 0).toNat]!.c with
 |none=>(0,q.2)
 |some s=>eg q.2 (ew q.2.rows 0).toNat s
def py(l:List Row)(w:Nat)(c:List Nu):Nat→Nu×List Nu
 |0=>(nOf 0,List.replicate w (nOf 0))
 |k+1=>let g:=py l w c k
  if 0≤ew l ((k+1:Nat):Int) then (CK c[k]! l[(ew l ((k+1:Nat):Int)).toNat]!.k g.1,zT c[k]! l[(ew l ((k+1:Nat):Int)).toNat]!.c (-1) g.2)
  else (g.1,g.2.set (k+1) (od g.2[k+1]! c[k]!))
def aimD(d:Dic)(c:List Nu):Dic:=⟨d.rows.map (u1 (nOf 0)),(py (d.rows.map (u1 (nOf 0))) d.gc.length c c.length).1,(py (d.rows.map (u1 (nOf 0))) d.gc.length c c.length).2,d.n,d.piv,d.most⟩
def mV(d:Dic)(c:List Nu):Int×Dic:=(if iM (aimD d c).gk (aimD d c).gc then 0 else 30,aimD d c)
def mp(l:List Row)(nn:Nat)(of:Row→Nu)(other:Nat→Nu):List Nu:=(List.range nn).map fun j=>if 0≤ew l ((j+1:Nat):Int) then of l[(ew l ((j+1:Nat):Int)).toNat]! else other (j+1)
def fy(m nn:Nat)(A B:List Nu)(most:Int):Dic:=
 ⟨(List.range m).map fun i=>⟨B[i]!,(List.range (1+nn+m)).map (fun t=>if 1≤t∧t≤nn then gX A[i*nn+(t - 1)]! else nOf 0),((1+nn+i:Nat):Int)⟩,nOf 0,List.replicate (1+nn+m) (nOf 0),nn,0,most⟩
structure Ans where
 kind:Int
 x:List Nu
 y:List Nu
 ray:List Nu
 deriving DecidableEq
def wa(nn:Nat)(d:Dic)(c:List Nu):Ans×Int×Int:=
 let a:=mV d c
 if a.1≠0 then (⟨0,[],[],[]⟩,0,a.1) else
 let q:=bh a.2
 if q.1.2≠0 then (⟨0,[],[],[]⟩,0,q.1.2) else
 let x:=mp q.2.rows nn Row.k fun _=>nOf 0
 if q.1.1<0 then (⟨1,x,fj q.2 nn,[]⟩,q.2.piv,0) else
 (⟨3,x,[],mp q.2.rows nn (fun r=>r.c[q.1.1.toNat]!) fun v=>if (v:Int)=q.1.1 then nOf 1 else nOf 0⟩,q.2.piv,0)
def lm(m nn:Nat)(A B C:List Nu)(most:Int):Ans×Int×Int:=
 let d:=fy m nn A B most
 if B.any (fun b=>decide (dv b<0))=true then
  let p:=kK d
  if p.1≠0 then (⟨0,[],[],[]⟩,0,p.1) else
  if dv p.2.gk<0 then (⟨2,[],fj p.2 nn,[]⟩,p.2.piv,0) else wa nn p.2 C
 else wa nn d C
section
def er:Nat→(Nat→Rat)→Rat
 |0,_=>0
 |n+1,f=>er n f+f n
theorem fh {f g:Nat→Rat}:∀{n:Nat},(∀t,t<n→f t=g t)→er n f=er n g
 |0,_=>rfl
 |n+1,h=>by unfold er;rw[fh fun t ht=>h t (by omega),h n (by omega)]
theorem uE(f g:Nat→Rat):∀n,er n (fun t=>f t+g t)=er n f+er n g
 |0=>by show (0:Rat)=0+0;grind
 |n+1=>by unfold er;rw[uE f g n];grind
theorem sh(a:Rat)(f:Nat→Rat):∀n,er n (fun t=>a*f t)=a*er n f
 |0=>by simp[er]
 |n+1=>by unfold er;rw[sh a f n];grind
theorem qk:∀n,er n (fun _=>0)=0
 |0=>rfl
 |n+1=>by unfold er;rw[qk n];show (0:Rat)+0=0;grind
theorem GR(a:Nat)(x:Rat):∀n,a<n→er n (fun t=>if t=a then x else 0)=x
 |0,h=>by omega
 |n+1,h=>by
  show er n (fun t=>if t=a then x else 0)+(if n=a then x else 0)=x
  by_cases hn:n=a
  ·subst hn
   rw[if_pos rfl,fh (g:=fun _=>0) fun t ht=>if_neg (by omega),qk]
   grind
  ·rw[if_neg hn,GR a x n (by omega)];grind
theorem MH(f g:Nat→Rat)(n:Nat):er n (fun t=>f t - g t)=er n f - er n g:=by
 have:(fun t=>f t - g t)=fun t=>f t+(-1)*g t:=by funext t;grind
 rw[this,uE f (fun t=>(-1)*g t),sh];grind
theorem D8(f:Nat→Nat→Rat)(m:Nat):∀n,er n (fun i=>er m (fun j=>f i j))=er m (fun j=>er n (fun i=>f i j))
 |0=>(qk m).symm
 |n+1=>by
  have:(fun j=>er (n+1) fun i=>f i j)=fun j=>er n (fun i=>f i j)+f n j:=rfl
  rw[this,uE]
  show er n (fun i=>er m fun j=>f i j)+er m (fun j=>f n j)=_
  rw[D8 f m n]
theorem z6 {f:Nat→Rat}:∀{n:Nat},(∀t,t<n→0≤f t)→0≤er n f
 |0,_=>by simp[er]
 |n+1,h=>by
  unfold er
  have h1:=z6 (f:=f) (n:=n) fun t ht=>h t (by omega)
  have h2:=h n (by omega)
  grind
theorem Br(f:Nat→Rat)(a:Nat)(x:Rat){n:Nat}(h:a<n):er n (fun t=>if t=a then x else f t)=er n f+(x - f a):=by
 rw[←GR a (x - f a) n h,←uE]
 refine fh fun t _=>?_
 by_cases ht:t=a
 ·subst ht;rw[if_pos rfl,if_pos rfl];grind
 ·rw[if_neg ht,if_neg ht];grind
def ja(w:Nat)(k:Nu)(c:List Nu)(y:Nat→Rat):Rat:=rv k+er w (fun t=>rv c[t]! *y t)
def Sol(d:Dic)(w:Nat)(y:Nat→Rat):Prop:=∀i,i<d.rows.length→y d.rows[i]!.b.toNat=ja w d.rows[i]!.k d.rows[i]!.c y
structure Inv(d:Dic)(w:Nat):Prop where
 fine:Fine d w
 rng:∀i,i<d.rows.length→0≤d.rows[i]!.b∧d.rows[i]!.b<w
 inj:∀i j,i<d.rows.length→j<d.rows.length→d.rows[i]!.b=d.rows[j]!.b→i=j
 zg:∀j,j<d.rows.length→d.gc[d.rows[j]!.b.toNat]! =nOf 0
 zr:∀i j,i<d.rows.length→j<d.rows.length→d.rows[i]!.c[d.rows[j]!.b.toNat]! =nOf 0
theorem wS {r:Row}{s t:Nat}(hs:s<r.c.length)(ht:t<r.c.length):(bZ r s).c[t]! =if t=r.b.toNat then ri (nOf 1) r.c[s]! else if t=s then nOf 0 else ri (gX r.c[t]!) r.c[s]! :=by
 unfold bZ
 rw[KY]
 dsimp only
 rw[m4 (by simpa using ht)]
 by_cases h1:r.b.toNat=t
 ·rw[if_pos h1,if_pos h1.symm]
 ·rw[if_neg h1,if_neg (fun e=>h1 e.symm),m4 (by simpa using ht)]
  by_cases h2:s=t
  ·rw[if_pos h2,if_pos h2.symm]
  ·rw[if_neg h2,if_neg (fun e=>h2 e.symm)]
   apply gf
   rw[ek,uV ht];rfl
theorem E3 {r:Row}{w s:Nat}(hs:s<w)(hl:r.c.length=w)(hb:r.b.toNat<w)(hg:iM r.k r.c=true)(hz:r.c[r.b.toNat]! =nOf 0)(ge:s≠r.b.toNat)(Ag:iM (bZ r s).k (bZ r s).c=true)(y:Nat→Rat):
  rv r.c[s]!≠0∧ja w (bZ r s).k (bZ r s).c y - y s=(y r.b.toNat - ja w r.k r.c y) / rv r.c[s]! :=by
 obtain⟨h1,h2⟩:=gI.1 hg
 obtain⟨h3,h4⟩:=gI.1 Ag
 have hk:(bZ r s).k=ri (gX r.k) r.c[s]! :=rfl
 rw[hk] at h3
 obtain⟨_,h6,h7,h8⟩:=yd h3
 refine⟨h7,?_⟩
 have hc:∀t,t<w→rv (bZ r s).c[t]! *y t=if t=r.b.toNat then (rv r.c[s]!)⁻¹*y r.b.toNat else if t=s then 0 else -(rv r.c[s]!)⁻¹*(rv r.c[t]! *y t):=by
  intro t ht
  have h9:=h4 t (by rw[s8];omega)
  rw[wS (by omega) (by omega)] at h9 ⊢
  by_cases e1:t=r.b.toNat
  ·rw[if_pos e1] at h9 ⊢
   rw[if_pos e1,(yd h9).2.2.2,of1.2,←e1];grind
  ·rw[if_neg e1] at h9 ⊢
   rw[if_neg e1]
   by_cases e2:t=s
   ·rw[if_pos e2,if_pos e2,of0.2];grind
   ·rw[if_neg e2] at h9 ⊢
    rw[if_neg e2,(yd h9).2.2.2,Fh];grind
 unfold ja
 rw[fh hc,Br (fun t=>if t=s then 0 else -(rv r.c[s]!)⁻¹*(rv r.c[t]! *y t)) r.b.toNat _ hb,if_neg (fun e=>ge e.symm),Br (fun t=>-(rv r.c[s]!)⁻¹*(rv r.c[t]! *y t)) s 0 hs,sh,hk,h8,Fh,hz,of0.2]
 grind
theorem By {k:Nu}{c:List Nu}{row:Lin}{w s:Nat}(hs:s<w)(hl:c.length=w)(hg:iM k c=true)(Ag:goodR (yY ⟨k,c⟩ row s)=true)(hlr:row.c.length=w)(Dl:goodR row=true)(hz:row.c[s]! =nOf 0)(y:Nat→Rat):
  ja w (yY ⟨k,c⟩ row s).k (yY ⟨k,c⟩ row s).c y=ja w k c y+rv c[s]! *(ja w row.k row.c y - y s):=by
 obtain⟨h1,h2⟩:=gI.1 hg
 obtain⟨h3,h4⟩:=gI.1 Ag
 obtain⟨h5,h6⟩:=gI.1 Dl
 have hk:(yY ⟨k,c⟩ row s).k=od k (pd c[s]! row.k):=rfl
 have B7:∀t,t<w→(yY ⟨k,c⟩ row s).c[t]! =if t=s then nOf 0 else od c[t]! (pd c[s]! row.c[t]!):=fun t ht=>gf (dW _ (by show t<c.length;omega))
 have hlen:(yY ⟨k,c⟩ row s).c.length=w:=by unfold yY;simp[hl]
 rw[hk] at h3
 have zw:rv (yY ⟨k,c⟩ row s).k=rv k+rv c[s]! *rv row.k:=by
  rw[hk,Fj h1 (uU h3).2 h3,Fi (h2 s (by omega)) h5 (uU h3).2]
 have hc:∀t,t<w→rv (yY ⟨k,c⟩ row s).c[t]! *y t=if t=s then 0 else rv c[t]! *y t+rv c[s]! *(rv row.c[t]! *y t):=by
  intro t ht
  have h9:=h4 t (by omega)
  rw[B7 t ht] at h9 ⊢
  by_cases e:t=s
  ·rw[if_pos e,if_pos e,of0.2];grind
  ·rw[if_neg e] at h9 ⊢
   rw[if_neg e,Fj (h2 t (by omega)) (uU h9).2 h9,Fi (h2 s (by omega)) (h6 t (by omega)) (uU h9).2]
   grind
 unfold ja
 rw[zw,fh hc,Br (fun t=>rv c[t]! *y t+rv c[s]! *(rv row.c[t]! *y t)) s 0 hs,uE (fun t=>rv c[t]! *y t) (fun t=>rv c[s]! *(rv row.c[t]! *y t)),sh,hz,of0.2]
 grind
section
variable {d:Dic} {w at' s:Nat}
theorem jd:(m8 d at' s).rows.length=d.rows.length:=by unfold m8;simp
theorem nQ {i:Nat}(hi:i<d.rows.length):(m8 d at' s).rows[i]! =if i=at' then bZ d.rows[at']! s else⟨(lO d.rows[i]!.k d.rows[i]!.c (bZ d.rows[at']! s) s).k,(lO d.rows[i]!.k d.rows[i]!.c (bZ d.rows[at']! s) s).c,d.rows[i]!.b⟩:=gf (dW _ hi)
theorem uH {i:Nat}(hi:i<d.rows.length):(m8 d at' s).rows[i]!.b=if i=at' then (s:Int) else d.rows[i]!.b:=by
 rw[nQ hi]
 by_cases h:i=at'
 ·rw[if_pos h,if_pos h];rfl
 ·rw[if_neg h,if_neg h]
structure kQ(d:Dic)(w at' s:Nat):Prop where
 inv:Inv d w
 hat:at'<d.rows.length
 hs:s<w
 nb:∀j,j<d.rows.length→d.rows[j]!.b≠s
 fine:Fine (m8 d at' s) w
section
variable (h:kQ d w at' s)
include h
theorem kQ.turn(y:Nat→Rat):rv d.rows[at']!.c[s]!≠0∧ja w (bZ d.rows[at']! s).k (bZ d.rows[at']! s).c y - y s=(y d.rows[at']!.b.toNat - ja w d.rows[at']!.k d.rows[at']!.c y) / rv d.rows[at']!.c[s]! :=by
 have hr:=h.inv.rng at' h.hat
 refine E3 h.hs (h.inv.fine.lr at' h.hat) (by omega) (h.inv.fine.gr at' h.hat) (h.inv.zr at' at' h.hat h.hat) (fun e=>h.nb at' h.hat (by omega)) ?_ y
 have:=h.fine.gr at' (by rw[jd];exact h.hat)
 rwa[nQ h.hat,if_pos rfl] at this
theorem kQ.row:iM (bZ d.rows[at']! s).k (bZ d.rows[at']! s).c=true:=by
 have:=h.fine.gr at' (by rw[jd];exact h.hat)
 rwa[nQ h.hat,if_pos rfl] at this
theorem kQ.lrow:(bZ d.rows[at']! s).c.length=w:=by rw[s8];exact h.inv.fine.lr at' h.hat
theorem kQ.rowS:(bZ d.rows[at']! s).c[s]! =nOf 0:=by
 have hl:=h.inv.fine.lr at' h.hat
 have hs:=h.hs
 have hr:=h.inv.rng at' h.hat
 rw[wS (by omega) (by omega),if_neg (fun e=>h.nb at' h.hat (by omega)),if_pos rfl]
theorem kQ.put {k:Nu}{c:List Nu}(hg:iM k c=true)(hl:c.length=w):lO k c (bZ d.rows[at']! s) s=yY ⟨k,c⟩ ⟨(bZ d.rows[at']! s).k,(bZ d.rows[at']! s).c⟩ s:=by
 have hs:=h.hs
 have:=h.lrow
 exact putP_eq hg h.row (by omega) (by omega)
theorem kQ.goalW(y:Nat→Rat):ja w (m8 d at' s).gk (m8 d at' s).gc y=ja w d.gk d.gc y+rv d.gc[s]! *(ja w (bZ d.rows[at']! s).k (bZ d.rows[at']! s).c y - y s):=by
 have h1:=h.fine.gg
 have e:lO d.gk d.gc (bZ d.rows[at']! s) s=⟨(m8 d at' s).gk,(m8 d at' s).gc⟩:=rfl
 have e2:=(h.put h.inv.fine.gg h.inv.fine.lg).symm.trans e
 have:=By (row:=⟨(bZ d.rows[at']! s).k,(bZ d.rows[at']! s).c⟩) h.hs h.inv.fine.lg h.inv.fine.gg (by rw[e2];exact h1) h.lrow h.row h.rowS y
 rw[e2] at this
 exact this
theorem kQ.rowW {i:Nat}(hi:i<d.rows.length)(rE:i≠at')(y:Nat→Rat):ja w (m8 d at' s).rows[i]!.k (m8 d at' s).rows[i]!.c y=ja w d.rows[i]!.k d.rows[i]!.c y+rv d.rows[i]!.c[s]! *(ja w (bZ d.rows[at']! s).k (bZ d.rows[at']! s).c y - y s):=by
 have h1:=h.fine.gr i (by rw[jd];exact hi)
 rw[nQ hi,if_neg rE] at h1 ⊢
 have e2:=h.put (h.inv.fine.gr i hi) (h.inv.fine.lr i hi)
 have:=By (row:=⟨(bZ d.rows[at']! s).k,(bZ d.rows[at']! s).c⟩) h.hs (h.inv.fine.lr i hi) (h.inv.fine.gr i hi) (by rw[←e2];exact h1) h.lrow h.row h.rowS y
 rw[←e2] at this
 exact this
theorem kQ.sol(y:Nat→Rat):Sol (m8 d at' s) w y↔Sol d w y:=by
 obtain⟨h0,ht⟩:=h.turn y
 have hat:=h.hat
 have key:y s=ja w (bZ d.rows[at']! s).k (bZ d.rows[at']! s).c y↔y d.rows[at']!.b.toNat=ja w d.rows[at']!.k d.rows[at']!.c y:=by
  constructor
  ·intro e
   rw[←e] at ht
   have:(y d.rows[at']!.b.toNat - ja w d.rows[at']!.k d.rows[at']!.c y) / rv d.rows[at']!.c[s]! =0:=by grind
   rw[Rat.div_def] at this
   have h2:=Rat.mul_eq_zero.1 this
   rcases h2 with h2|h2
   ·grind
   ·exact absurd h2 (by grind)
  ·intro e
   rw[e] at ht
   have:ja w (bZ d.rows[at']! s).k (bZ d.rows[at']! s).c y - y s=0:=by rw[ht,Rat.div_def];grind
   grind
 have hatS:(m8 d at' s).rows[at']!.b.toNat=s∧(m8 d at' s).rows[at']! =bZ d.rows[at']! s:=by
  rw[nQ hat,if_pos rfl]
  exact⟨by show ((s:Int)).toNat=s;omega,rfl⟩
 unfold Sol
 rw[jd]
 constructor
 ·intro hy i hi
  have h1:=hy at' hat
  rw[hatS.1,hatS.2] at h1
  by_cases rE:i=at'
  ·subst rE;exact key.1 h1
  ·have h2:=hy i hi
   rw[h.rowW hi rE,uH hi,if_neg rE] at h2
   rw[h2]
   grind
 ·intro hy i hi
  have h1:=key.2 (hy at' hat)
  by_cases rE:i=at'
  ·subst rE;rw[hatS.1,hatS.2];exact h1
  ·rw[h.rowW hi rE,uH hi,if_neg rE,hy i hi]
   grind
theorem kQ.goal {y:Nat→Rat}(hy:Sol d w y):ja w (m8 d at' s).gk (m8 d at' s).gc y=ja w d.gk d.gc y:=by
 have h1:=(h.sol y).2 hy at' (by rw[jd];exact h.hat)
 rw[nQ h.hat,if_pos rfl] at h1
 have h2:y s=ja w (bZ d.rows[at']! s).k (bZ d.rows[at']! s).c y:=by
  have e:((bZ d.rows[at']! s).b).toNat=s:=by show ((s:Int)).toNat=s;omega
  rw[e] at h1;exact h1
 rw[h.goalW y]
 grind
end
end
end
section
theorem rv_nOf0 {x:Nu}(hg:aK x=true)(h:rv x=0):x=nOf 0:=Cb hg of0.1 (h.trans of0.2.symm)
section
variable {d:Dic} {w at' s:Nat}
theorem kQ.toInv(h:kQ d w at' s):Inv (m8 d at' s) w:=by
 have hat:=h.hat
 have hs:=h.hs
 have hb:∀j,j<d.rows.length→d.rows[j]!.b.toNat<w:=fun j hj=>by have:=h.inv.rng j hj;omega
 have hrz:∀j,j<d.rows.length→j≠at'→(bZ d.rows[at']! s).c[d.rows[j]!.b.toNat]! =nOf 0:=fun j hj A7=>by
  have hl:=h.inv.fine.lr at' hat
  have h1:=(gI.1 h.row).2 d.rows[j]!.b.toNat (by rw[h.lrow];exact hb j hj)
  have Gn:=h.inv.rng j hj
  have hr2:=h.inv.rng at' hat
  rw[wS (by omega) (by rw[hl];exact hb j hj)] at h1 ⊢
  rw[if_neg (fun e=>A7 (h.inv.inj j at' hj hat (by omega))),if_neg (fun e=>h.nb j hj (by omega))] at h1 ⊢
  refine rv_nOf0 h1 ?_
  rw[(yd h1).2.2.2,Fh,h.inv.zr at' j hat hj,of0.2,Rat.div_def];grind
 have hz:∀(k:Nu) (c:List Nu),iM k c=true→c.length=w→iM (lO k c (bZ d.rows[at']! s) s).k (lO k c (bZ d.rows[at']! s) s).c=true→(lO k c (bZ d.rows[at']! s) s).c[s]! =nOf 0∧
   ∀j,j<d.rows.length→j≠at'→c[d.rows[j]!.b.toNat]! =nOf 0→(lO k c (bZ d.rows[at']! s) s).c[d.rows[j]!.b.toNat]! =nOf 0:=fun k c hg hl Ag=>by
  rw[h.put hg hl] at Ag ⊢
  have B7:∀t,t<w→(yY ⟨k,c⟩ ⟨(bZ d.rows[at']! s).k,(bZ d.rows[at']! s).c⟩ s).c[t]! =if t=s then nOf 0 else od c[t]! (pd c[s]! (bZ d.rows[at']! s).c[t]!):=fun t ht=>gf (dW _ (by show t<c.length;omega))
  refine⟨by rw[B7 s hs,if_pos rfl],fun j hj A7 h0=>?_⟩
  have Gn:=h.inv.rng j hj
  rw[B7 _ (hb j hj),if_neg (fun e=>h.nb j hj (by omega)),h0,hrz j hj A7]
  rw[IC ((gI.1 hg).2 s (by omega)),Eg of0.1]
 refine⟨h.fine,fun i hi=>?_,fun i j hi hj e=>?_,fun j hj=>?_,fun i j hi hj=>?_⟩
 ·rw[jd] at hi
  rw[uH hi]
  by_cases rE:i=at'
  ·rw[if_pos rE];omega
  ·rw[if_neg rE];exact h.inv.rng i hi
 ·rw[jd] at hi hj
  rw[uH hi,uH hj] at e
  by_cases rE:i=at' <;> by_cases A7:j=at'
  ·omega
  ·rw[if_pos rE,if_neg A7] at e;exact absurd e.symm (h.nb j hj)
  ·rw[if_neg rE,if_pos A7] at e;exact absurd e (h.nb i hi)
  ·rw[if_neg rE,if_neg A7] at e;exact h.inv.inj i j hi hj e
 ·rw[jd] at hj
  rw[uH hj]
  obtain⟨h1,h2⟩:=hz d.gk d.gc h.inv.fine.gg h.inv.fine.lg h.fine.gg
  by_cases A7:j=at'
  ·rw[if_pos A7,show ((s:Int)).toNat=s by omega];exact h1
  ·rw[if_neg A7];exact h2 j hj A7 (h.inv.zg j hj)
 ·rw[jd] at hi hj
  have I1:=h.fine.gr i (by rw[jd];exact hi)
  rw[uH hj]
  rw[nQ hi] at I1 ⊢
  by_cases rE:i=at'
  ·rw[if_pos rE]
   by_cases A7:j=at'
   ·rw[if_pos A7,show ((s:Int)).toNat=s by omega];exact h.rowS
   ·rw[if_neg A7];exact hrz j hj A7
  ·rw[if_neg rE] at I1 ⊢
   obtain⟨h1,h2⟩:=hz d.rows[i]!.k d.rows[i]!.c (h.inv.fine.gr i hi) (h.inv.fine.lr i hi) I1
   by_cases A7:j=at'
   ·rw[if_pos A7,show ((s:Int)).toNat=s by omega];exact h1
   ·rw[if_neg A7];exact h2 j hj A7 (h.inv.zr i j hi hj)
theorem Inv.pick(hI:Inv d w)(v:Nat→Rat):∃y,Sol d w y∧∀t,(∀j,j<d.rows.length→d.rows[j]!.b≠(t:Nat))→y t=v t:=by
 have hex:∃y:Nat→Rat,∀t,y t=(match (d.rows.findIdx? fun r=>decide (r.b=(t:Int))) with|some i=>ja w d.rows[i]!.k d.rows[i]!.c v|none=>v t):=⟨_,fun _=>rfl⟩
 obtain⟨y,hy⟩:=hex
 have h1:∀t,(∀j,j<d.rows.length→d.rows[j]!.b≠(t:Nat))→y t=v t:=fun t ht=>by
  rw[hy t]
  have:(d.rows.findIdx? fun r=>decide (r.b=(t:Int)))=none:=by
   rw[zK]
   intro r hr
   obtain⟨j,hj,rfl⟩:=CE.1 hr
   have:=ht j hj
   rw[cz d.rows j hj] at this
   exact bH this
  rw[this]
 refine⟨y,fun i hi=>?_,h1⟩
 have hr:=hI.rng i hi
 rw[hy]
 have:(d.rows.findIdx? fun r=>decide (r.b=((d.rows[i]!.b.toNat:Nat):Int)))=some i:=by
  rw[pK]
  refine⟨hi,?_,fun j hj=>?_⟩
  ·have:d.rows[i].b=d.rows[i]!.b:=by rw[cz d.rows i hi]
   exact aF (by omega)
  ·have h2:d.rows[j].b=d.rows[j]!.b:=by rw[cz d.rows j (by omega)]
   have:=hI.inj i j hi (by omega)
   simp only[rl]
   omega
 rw[this]
 dsimp only
 unfold ja
 congr 1
 refine fh fun t ht=>?_
 by_cases hb:∀j,j<d.rows.length→d.rows[j]!.b≠(t:Nat)
 ·rw[h1 t hb]
 ·obtain⟨j,hj⟩:=Classical.not_forall.1 hb
  obtain⟨Mj,Dk⟩:=Classical.not_imp.1 hj
  have Dk:=Classical.not_not.1 Dk
  have:=hI.zr i j hi Mj
  rw[Dk,show ((t:Nat):Int).toNat=t by omega] at this
  rw[this,of0.2];grind
end
theorem Cj {c:List Nu}{s:Nat}(h:pG c=some s):s<c.length∧0<dv c[s]!∧∀t,t<s→¬0<dv c[t]! :=by
 unfold pG at h
 obtain⟨h1,h2,h3⟩:=pK.1 h
 refine⟨h1,?_,fun t ht=>?_⟩
 ·rw[cz c s h1];exact cj h2
 ·have:=h3 t ht
  rw[cz c t (by omega)]
  simpa using this
theorem vt {l:List Row}{s:Nat}{z:Nu}:∀{n:Nat} {p:Int×Nu},pf l s z n=some p→p.1=-1∨∃i,i<n∧p.1=(i:Int)∧dv l[i]!.c[s]! <0∧aK p.2=true∧p.2=ri l[i]!.k (gX l[i]!.c[s]!)
 |0,p,h=>by unfold pf at h;injection h with h;exact .inl (by rw[←h])
 |n+1,p,h=>by
  unfold pf at h
  cases hq:pf l s z n with
  |none=>rw[hq] at h;cases h
  |some q=>
   rw[hq] at h
   have ih:=vt hq
   have up:q=p→p.1=-1∨∃i,i<n+1∧p.1=(i:Int)∧dv l[i]!.c[s]! <0∧aK p.2=true∧p.2=ri l[i]!.k (gX l[i]!.c[s]!):=by
    rintro rfl
    rcases ih with h1|⟨i,h1,h2⟩
    ·exact .inl h1
    ·exact .inr ⟨i,by omega,h2⟩
   unfold uO at h
   dsimp only at h
   split at h
   ·injection h with h;exact up h
   ·rename_i h1
    split at h
    ·cases h
    ·rename_i h2
     split at h
     ·injection h with h
      subst h
      exact .inr ⟨n,by omega,rfl,by omega,by simpa using h2,rfl⟩
     ·injection h with h;exact up h
theorem Inv.enter {d:Dic}{w s:Nat}(hI:Inv d w)(h:dv d.gc[s]!≠0):∀j,j<d.rows.length→d.rows[j]!.b≠s:=fun j hj e=>by
 have:=hI.zg j hj
 rw[e,show ((s:Int)).toNat=s by omega] at this
 rw[this,(MN of0.1).2 of0.2] at h
 exact h rfl
structure wd(d d':Dic)(w:Nat):Prop where
 len:d'.rows.length=d.rows.length
 n:d'.n=d.n
 most:d'.most=d.most
 sol:∀y,Sol d' w y↔Sol d w y
 goal:∀y,Sol d w y→ja w d'.gk d'.gc y=ja w d.gk d.gc y
 piv:d.piv≤d'.piv
theorem wd.refl(d:Dic)(w:Nat):wd d d w:=⟨rfl,rfl,rfl,fun _=>Iff.rfl,fun _ _=>rfl,Int.le_refl _⟩
theorem wd.trans {d d' O7:Dic}{w:Nat}(h:wd d d' w)(h':wd d' O7 w):wd d O7 w:=
 ⟨h'.len.trans h.len,h'.n.trans h.n,h'.most.trans h.most,fun y=>(h'.sol y).trans (h.sol y),fun y hy=>(h'.goal y ((h.sol y).2 hy)).trans (h.goal y hy),Int.le_trans h.piv h'.piv⟩
theorem kQ.same {d:Dic}{w at' s:Nat}(h:kQ d w at' s):wd d (m8 d at' s) w:=
 ⟨jd,rfl,rfl,h.sol,fun _ hy=>h.goal hy,by show d.piv≤d.piv+1;omega⟩
end
section
section
variable {vs:List (Nat×List D)} {lv:List (Nat×Nat×Nat×TypeId)} {N kd R G w:Nat} {C:Nat→Nat} {d:Dic}
theorem D9 {A B:List D}{j:Nat}{r:Row}{F:List D}(h:F=A++iP C w j r++B)(hA:A.length=j*38):Pt F (j*38) (iP C w j r) (fun ys=>A++ys++B):=Pt.of A B hA h fun y=>rfl
theorem Iv {j:Nat}{r:Row}:Pt (iP C w j r) (0+36) [.ow (C j) 0 36 w] (fun ys=>dC (az.f r.k)++ys++[dI .i64 r.b]):=Pt.of (dC (az.f r.k)) [dI .i64 r.b] (iR _) (by unfold iP bp;simp only[dy]) fun y=>rfl
theorem MU {j:Nat}{r:Row}:Pt (iP C w j r) (0+0) (dC (az.f r.k)) (fun ys=>ys++([.ow (C j) 0 36 w]++[dI .i64 r.b])):=Pt.of [] ([.ow (C j) 0 36 w]++[dI .i64 r.b]) rfl (by unfold iP bp;simp only[dy,mU]) fun y=>rfl
theorem rowD_b {j:Nat}{r:Row}:Pt (iP C w j r) (0+37) [dI .i64 r.b] (fun ys=>bp r.k (C j) w++ys++[]):=Pt.of (bp r.k (C j) w) [] (cf _ _ _) (by unfold iP;simp) fun y=>rfl
def KQ:List E:=zN++[.lit (.slice none 0 0)]++[.lit (.int .i64 0)]
theorem Pt.all {F:List D}:Pt F 0 F id:=Pt.of [] [] rfl (by simp) fun y=>by simp
def IJ(o:Option (Int×Nu)):D:=match o with
 |none=>.tu [dI .i64 (-1),dI .i64 30]
 |some p=>.tu [dI .i64 p.1,dI .i64 0]
theorem IK {l:List Row}{s:Nat}{z:Nu}{i:Nat}(h:pf l s z i=none):∀n,i≤n→pf l s z n=none:=by
 intro n hn
 induction n with
 |zero=>
      obtain rfl:i=0:=by omega
      exact h
 |succ n ih=>
  rcases Nat.eq_or_lt_of_le hn with e|e
  ·subst e;exact h
  ·unfold pf;rw[ih (by omega)]
theorem LD {s:Nat}(hD:DAt vs kd R G C w d)(hs:s<w)(hm:d.rows.length≤1000000):
  HC Tryz.prog 110 [.pt kd 0,dI .i64 s] ⟨vs,lv,N⟩ (IJ (pf d.rows s default d.rows.length)) ⟨vs,lv,N⟩:=by
 refine HC.of (rs:=[.tmp 4,.tmp 5]) tok Tryz.func110 rfl rfl (dq rfl) rfl (fun cx hx h0 hok=>?_)
 simp only[fL,Nat.reduceAdd,bJ]
 have ws:=hD.hd
 have DM:=hok.lt ws
 have hRi:(fc R d.rows).idsB (N+1)=true:=by
  cases hl:d.rows with
  |nil=>rfl
  |cons r l'=>exact aF (by have:=hok.lt (hD.hR (by rw[hl];simp));omega)
 refine rs hx fun K hK=>?_
 iterate 2 refine sa ?_
 refine .nil (hK _ _ (rs hx fun K hK=>?_))
 refine sa ?_
 refine .nil (hK _ _ (rs hx fun K hK=>?_))
 refine n1 ?_
 refine .nil (hK _ _ ?_)
 rw[←zNu]
 refine AW.seq (rs hx fun K hK=>?_)
 iterate 3 refine sa ?_
 refine c1 gy ?_
 refine JM (R:=R) (l:=d.rows) rfl ?_
 refine sa ?_
 refine .nil (hK _ _ (AW.block (AW.loopW (fun u:Nat×(Int×Nu)=>[(0,.pt kd 0),(1,dI .i64 s),(6,dI .i64 u.2.1),(7,.pt N 0),(15,fc R d.rows),(16,dI .i64 d.rows.length),(17,dI .i64 u.1)]) (fun u=>⟨(N,dC (az.f u.2.2))::vs,lv,N+1⟩) (fun u=>u.1≤d.rows.length∧pf d.rows s default u.1=some u.2) (fun u=>d.rows.length - u.1) (0,(-1,default)) ?_ ⟨cQ _,rfl⟩ ?_)))
 ·exact wk1 h0
 ·rintro⟨i,at',q⟩ ⟨hi,hp⟩
  dsimp only at hi hp ⊢
  refine rs hx fun K hK=>?_
  refine sa ?_
  refine .nil (hK _ _ (AW.seq (AW.condS rfl (fun hb=>?_) (fun hb=>?_))))
  ·have xa:i<d.rows.length:=by have:=cj hb;omega
   have ge:d.rows≠[]:=fun e=>by rw[e] at xa;simp at xa
   have hr:d.rows[i]? =some d.rows[i]! :=by rw[cz d.rows i xa];exact c0 xa
   obtain⟨A,B,hA,_,h3,_,_⟩:=mq C w d.rows i hr
   have hRv:=hD.hR ge
   have A8:=hok.lt hRv
   have hcv:=hD.hC i _ hr
   have hCN:=hok.lt hcv
   have sU:=hD.lC i _ hr
   have iL:pf d.rows s default (i+1)=uO d.rows s (at',q) i:=by
    show (match pf d.rows s default i with|none=>none|some p=>uO d.rows s p i)=_
    rw[hp]
   unfold uO at iL
   dsimp only at iL
   generalize hrow:d.rows[i]! =r at hr hcv sU h3 iL
   refine AW.skip (AW.seq (AW.block (rs hx fun K hK=>?_)))
   refine sa ?_
   refine r1 xa ?_ (by show (fc R d.rows).toOw=_;rw[pb ge];rfl)
   refine p1 (D9 h3 hA) (si _ _ _ _) ?_
   refine a1 (F:=KQ) sf ?_
   refine sa ?_
   refine v1 (Pt.all (F:=dC KQ)) rfl (si C w i r) rfl ?_
   refine .nil (hK _ _ (AW.seq (rs hx fun K hK=>?_)))
   iterate 2 refine sa ?_
   refine c1 (Iv (C:=C) (w:=w) (j:=i) (r:=r)) ?_
   refine sa ?_
   refine i1 hs ?_
   refine l1 (Pt.el r.c s (by omega)) ?_
   refine cq (wN _) ?_
   refine sa ?_
   refine .nil (hK _ _ (AW.condS rfl (fun hb=>?_) (fun hb=>?_)))
   ·have hsg:0≤dv r.c[s]! :=cj hb
    refine AW.exit (rq hx fun K hK=>?_)
    iterate 2 refine sa ?_
    refine .nil (hK _ _ ?_)
    rw[cg (by omega)]
    exact⟨(i+1,(at',q)),wk1 h0,⟨xa,iL.trans (by rw[if_pos hsg])⟩,by dsimp only;omega⟩
   have hsg:¬0≤dv r.c[s]! :=dV hb
   rw[if_neg hsg] at iL
   refine AW.skip (rsd [42,153] hx fun K hK=>?_)
   iterate 2 refine sa ?_
   refine l1 (MU (C:=C) (w:=w) (j:=i) (r:=r)) ?_
   iterate 2 refine sa ?_
   refine c1 (Iv (C:=C) (w:=w) (j:=i) (r:=r)) ?_
   refine sa ?_
   refine i1 hs ?_
   refine l1 (Pt.el r.c s (by omega)) ?_
   refine cq (GI _) ?_
   refine cq (MA _ _) ?_
   refine n1 ?_
   refine z1 ?_
   refine .nil (hK _ _ ?_)
   generalize ri r.k (gX r.c[s]!)=q' at iL ⊢
   refine AW.seq (rs hx fun K hK=>?_)
   refine l1 (Pt.idN q') ?_
   refine cq (w_Good _) ?_
   refine sa ?_
   refine .nil (hK _ _ (AW.condS rfl (fun hb=>?_) (fun hb=>?_)))
   ·have hg:aK q'=false:=by simpa using hb
    rw[if_pos hg] at iL
    refine rs hx fun K hK=>?_
    iterate 2 refine sa ?_
    refine .nil (hK _ _ (AW.ret ?_))
    rw[IK iL _ xa]
    exact rt2 h0
   have hg:¬aK q'=false:=by simpa using hb
   rw[if_neg hg] at iL
   refine AW.skip (rs hx fun K hK=>?_)
   refine l1 (Pt.idN q') ?_
   refine l1 (Pt.idN q) ?_
   refine cq (w_Cmp _ _) ?_
   refine sa ?_
   refine .nil (hK _ _ (rsd [] hx fun K hK=>?_))
   iterate 3 refine sa ?_
   by_cases h1:at'<0
   ·have e1:decide (at'<0)=true:=aF h1
    iterate 2 refine gn e1 ?_
    refine s1 (d:=dB true) (aw e1) ?_
    refine sa ?_
    iterate 3 refine gn rfl ?_
    iterate 11 refine gm ?_
    refine gn rfl ?_
    refine s1 (d:=dB true) (aw rfl) ?_
    refine .nil (hK _ _ ?_)
    rw[if_pos (.inl h1)] at iL
    refine AW.condS rfl (fun hb=>?_) (fun hb=>absurd hb (by simp))
    refine rqd [] hx fun K hK=>?_
    refine sa ?_
    refine l1 (Pt.idN q') ?_
    refine sa ?_
    refine t1 (Pt.idN q) rfl ?_
    refine .nil (hK _ _ (rq hx fun K hK=>?_))
    iterate 2 refine sa ?_
    refine .nil (hK _ _ ?_)
    rw[cg (by omega)]
    exact⟨(i+1,((i:Int),q')),wk1 h0,⟨xa,iL.trans rfl⟩,by dsimp only;omega⟩
   have qa:decide (at'<0)=false:=bH h1
   iterate 2 refine ga qa ?_
   refine s1 (d:=dB (decide (pD q' q<0))) (al qa) ?_
   refine sa ?_
   by_cases h2:pD q' q<0
   ·have e2:decide (pD q' q<0)=true:=aF h2
    iterate 3 refine gn e2 ?_
    iterate 11 refine gm ?_
    refine gn e2 ?_
    refine s1 (d:=dB true) (aw e2) ?_
    refine .nil (hK _ _ ?_)
    rw[if_pos (.inr (.inl h2))] at iL
    refine AW.condS rfl (fun hb=>?_) (fun hb=>absurd hb (by simp))
    refine rqd [] hx fun K hK=>?_
    refine sa ?_
    refine l1 (Pt.idN q') ?_
    refine sa ?_
    refine t1 (Pt.idN q) rfl ?_
    refine .nil (hK _ _ (rq hx fun K hK=>?_))
    iterate 2 refine sa ?_
    refine .nil (hK _ _ ?_)
    rw[cg (by omega)]
    exact⟨(i+1,((i:Int),q')),wk1 h0,⟨xa,iL.trans rfl⟩,by dsimp only;omega⟩
   have e2:decide (pD q' q<0)=false:=bH h2
   iterate 3 refine ga e2 ?_
   by_cases h3:pD q' q=0
   ·have e3:decide (pD q' q=0)=true:=aF h3
    obtain⟨a,ha,hai⟩:∃a:Nat,at'=(a:Int)∧a<i:=by
     rcases vt hp with e|⟨a,b1,b2,_⟩
     ·dsimp only at e;omega
     ·exact⟨a,b2,b1⟩
    have hra:d.rows[a]? =some d.rows[a]! :=by rw[cz d.rows a (by omega)];exact c0 _
    obtain⟨_,_,_,_,_,_,hPa⟩:=mq C w d.rows a hra
    subst ha
    rw[show ((a:Int)).toNat=a by omega] at iL
    generalize d.rows[a]! =ra at hPa iL
    refine ga e3 ?_
    refine c1g rowD_b e3 ?_
    iterate 3 refine ga e3 ?_
    refine c1g gy e3 ?_
    refine ga e3 ?_
    refine r1g' (i:=a) (n:=d.rows.length) (by omega) e3 ?_ (pb ge)
    refine ga e3 ?_
    refine c1g hPa e3 ?_
    refine ga e3 ?_
    refine g1 (d:=dB (decide (r.b<ra.b))) e2 (aw e3) ?_
    refine s1 (d:=dB (decide (r.b<ra.b))) (al e2) ?_
    refine .nil (hK _ _ (AW.condS rfl (fun hb=>?_) (fun hb=>?_)))
    ·have bX:=cj hb
     rw[if_pos (.inr (.inr ⟨h3,bX⟩))] at iL
     refine rqd [] hx fun K hK=>?_
     refine sa ?_
     refine l1 (Pt.idN q') ?_
     refine sa ?_
     refine t1 (Pt.idN q) rfl ?_
     refine .nil (hK _ _ (rq hx fun K hK=>?_))
     iterate 2 refine sa ?_
     refine .nil (hK _ _ ?_)
     rw[cg (by omega)]
     exact⟨(i+1,((i:Int),q')),wk1 h0,⟨xa,iL.trans rfl⟩,by dsimp only;omega⟩
    ·have bX:=dV hb
     rw[if_neg (by rintro (e|e|e);exact h1 e;exact h2 e;exact bX e.2)] at iL
     refine AW.skip (rq hx fun K hK=>?_)
     iterate 2 refine sa ?_
     refine .nil (hK _ _ ?_)
     rw[cg (by omega)]
     exact⟨(i+1,((a:Int),q)),wk1 h0,⟨xa,iL.trans rfl⟩,by dsimp only;omega⟩
   ·have e3:decide (pD q' q=0)=false:=bH h3
    iterate 11 refine gn e3 ?_
    refine g1 (d:=dB false) e2 (al e3) ?_
    refine s1 (d:=dB false) (al e2) ?_
    refine .nil (hK _ _ ?_)
    rw[if_neg (by rintro (e|e|e);exact h1 e;exact h2 e;exact h3 e.1)] at iL
    refine AW.condS rfl (fun hb=>absurd hb (by simp)) (fun hb=>AW.skip (rq hx fun K hK=>?_))
    iterate 2 refine sa ?_
    refine .nil (hK _ _ ?_)
    rw[cg (by omega)]
    exact⟨(i+1,(at',q)),wk1 h0,⟨xa,iL.trans rfl⟩,by dsimp only;omega⟩
  ·refine AW.exit ?_
   have xa:i=d.rows.length:=by have:=dV hb;omega
   refine rs hx fun K hK=>?_
   iterate 3 refine sa ?_
   refine .nil (hK _ _ (AW.ret ?_))
   rw[←xa,hp]
   exact rt2 h0
end
end
section
theorem xO {A B:List D}{C:Nat→Nat}{w j:Nat}(h:A.length=j*38)(r:Row):oD (A++iP C w j r++B) (j*38) r.k (C j) w A ([dI .i64 r.b]++B):=⟨h,by unfold iP;simp only[dy]⟩
theorem JP {A B:List D}{C:Nat→Nat}{w j:Nat}(h:A.length=j*38)(r:Row):Pt (A++iP C w j r++B) (j*38+37) [dI .i64 r.b] (fun ys=>A++(bp r.k (C j) w++ys)++B):=
 Pt.of (A++bp r.k (C j) w) B (by rw[cR,h,cf]) (by unfold iP;simp only[dy]) fun y=>by simp only[dy]
theorem row_k {A B:List D}{C:Nat→Nat}{w j:Nat}(k:Nu)(c:List Nu)(b:Int):A++(dC (az.f k)++[.ow (C j) 0 36 w])++([dI .i64 b]++B)=A++iP C w j ⟨k,c,b⟩++B:=by unfold iP bp;simp only[dy]
theorem row_b {A B:List D}{C:Nat→Nat}{w j:Nat}(k:Nu)(c:List Nu)(b:Int):A++(bp k (C j) w++[dI .i64 b])++B=A++iP C w j ⟨k,c,b⟩++B:=by unfold iP;simp only[dy]
def lns(kd R at' i:Nat):List D:=.pt kd 1::((List.range i).filter fun j=>decide (j≠at')).map fun j=>.pt R (j*38)
theorem J3(kd R at' i:Nat):lns kd R at' i=(vZ at' i).map fun o=>.pt (klO kd R o) (olO o):=by
 unfold lns vZ
 rw[dJ,px]
 rfl
theorem Fq {kd R at' i:Nat}(h:i=at'):lns kd R at' (i+1)=lns kd R at' i:=by
 unfold lns
 rw[u6,List.filter_append,List.filter_cons_of_neg (by simp[h]),List.filter_nil,rM]
theorem Fp {kd R at' i:Nat}(h:i≠at'):lns kd R at' (i+1)=lns kd R at' i++[.pt R (i*38)]:=by
 unfold lns
 rw[u6,List.filter_append,List.filter_cons_of_pos (by simp[h]),List.filter_nil,jz]
 rfl
theorem IE {kd R at':Nat}:∀i,(lns kd R at' i).length≤i+1
 |0=>by simp[lns]
 |i+1=>by
  have:=IE (kd:=kd) (R:=R) (at':=at') i
  by_cases h:i=at'
  ·rw[Fq h];omega
  ·rw[Fp h,cR];simp;omega
theorem J4 {kd R at' M:Nat}(hk:kd<M)(hR:R<M):∀i,(lns kd R at' i).all (D.idsC M)=true
 |0=>by simp[lns,D.idsC,hk]
 |i+1=>by
  have:=J4 (at':=at') hk hR i
  by_cases h:i=at'
  ·rw[Fq h];exact this
  ·rw[Fp h,lN,this];simp[D.idsC,hR]
section
variable {vs:List (Nat×List D)} {lv:List (Nat×Nat×Nat×TypeId)} {N kd R G w:Nat} {C:Nat→Nat} {d:Dic} {at' s:Nat}
set_option maxHeartbeats 4000000 in
theorem FF {r0:Row}(hD:DAt vs kd R G C w d)(hf:Dif d.rows.length kd R G C)(hr0:d.rows[at']? =some r0)(hs:s<w)(hb0:0≤r0.b∧r0.b<w)(hw:w≤1000000)(hm:d.rows.length≤1000000)(ka:0≤d.piv∧d.piv≤9223372036854775807)(dA:0≤d.most∧d.most≤9223372036854775807):
  HC Tryz.prog 104 [.pt kd 0,dI .i64 at',dI .i64 s] ⟨vs,lv,N⟩ (dI .i64 (eg d at' s).1) ⟨ov kd R G C w (eg d at' s).2 vs,lv,N⟩:=by
 refine HC.of (rs:=[.tmp 6]) tok Tryz.func104 rfl rfl (dq rfl) rfl (fun cx hx h0 hok=>?_)
 simp only[fL,Nat.reduceAdd,bJ]
 have hat:=(fP.1 hr0).1
 have ge:d.rows≠[]:=fun e=>by rw[e] at hat;simp at hat
 have hRv:=hD.hR ge
 have DM:=hok.lt hD.hd
 have A8:=hok.lt hRv
 have OJ:=hok.lt hD.hG
 obtain⟨A,B,hA,AE,heq,_,_⟩:=mq C w d.rows at' hr0
 rw[heq] at hRv
 have hlin:=xO (B:=B) (C:=C) (w:=w) hA r0
 have hbas:=JP (B:=B) (C:=C) (w:=w) hA r0
 obtain⟨bN,hbN⟩:∃bN:Nat,r0.b=(bN:Int):=⟨r0.b.toNat,by omega⟩
 have hbw:bN<w:=by omega
 have hcv:=hD.hC at' r0 hr0
 have hcN:=hok.lt hcv
 have sU:=hD.lC at' r0 hr0
 obtain⟨hC1,hC2,hC3⟩:=hf.C1 at' hat
 refine rs hx fun K hK=>?_
 refine sa ?_
 refine .nil (hK _ _ (AW.seq (rsd [] hx fun K hK=>?_)))
 iterate 3 refine sa ?_
 refine s1 (j8 n0 hD.hd DM tbI) ?_
 iterate 3 refine sa ?_
 refine s1 (j8 O3 hD.hd DM tbI) ?_
 refine sa ?_
 refine .nil (hK _ _ ?_)
 have hCj:∀j,j<d.rows.length→C j<N:=fun j hj=>hok.lt (hD.hC j _ (c0 hj))
 refine AW.condS rfl (fun hb=>?_) (fun hb=>?_)
 ·have hpm:d.most≤d.piv:=cj hb
  have hpp:eg d at' s=(220,d):=by unfold eg;rw[if_pos hpm]
  rw[hpp]
  refine rs hx fun K hK=>?_
  refine sa ?_
  exact .nil (hK _ _ (AW.ret (Ns h0 hok (aB _) hD hf DM A8 OJ hCj (fun k ds _ _ _ _ h=>h) (fun e=>absurd e ge) rfl)))
 have hpm:d.piv<d.most:=by have:=dV hb;omega
 refine AW.skip (rs hx fun K hK=>?_)
 iterate 3 refine sa ?_
 refine s1 (j8 n0 hD.hd DM tbI) ?_
 iterate 3 refine sa ?_
 obtain⟨d1,B5⟩:∃d1:Dic,d1=⟨d.rows,d.gk,d.gc,d.n,d.piv+1,d.most⟩:=⟨_,rfl⟩
 have Oo:d1.rows=d.rows:=by rw[B5]
 have hdic1:[fc R d.rows]++bp d.gk G w++([dI .i64 d.n]++[dI .i64 (i64.wrap (d.piv+1))]++[dI .i64 d.most])=mM R G w d1:=by
  rw[fb (show -9223372036854775808≤d.piv+1 by omega) (by omega),B5];rfl
 refine s0 (EN (ys:=[dI .i64 (i64.wrap (d.piv+1))]) n0 hD.hd rfl tbI rfl rfl hdic1) ?_
 refine .nil (hK _ _ (rs hx fun K hK=>?_))
 iterate 3 refine sa ?_
 refine s1 (j8 (gy (d:=d1)) aa DM tbI) ?_
 rw[Oo,pb ge]
 refine sa ?_
 refine stG (d:=.pt R (at'*38)) tok (iaR hat) ?_
 refine sa ?_
 refine .nil (hK _ _ ?_)
 have DJ:∀p:Nu,cE ⟨(N,dC (az.f p))::(kd,mM R G w d1)::vs,lv,N+1⟩:=fun p=>(hok.cons (aB _) DM (qF A8 OJ)).cons (jt _) (eT _) (eJ _)
 refine sj [(0,.pt kd 0),(1,dI .i64 at'),(2,dI .i64 s),(7,.pt R (at'*38)),(8,.pt N 0),(9,dI .i64 r0.b)] ⟨(N,dC (az.f r0.c[s]!))::(kd,mM R G w d1)::vs,lv,N+1⟩ ?_ ?_
 ·have fin:∀tm:List (Nat×D),tm.lookup 0=some (.pt kd 0)→tm.lookup 1=some (dI .i64 at')→tm.lookup 2=some (dI .i64 s)→tm.lookup 7=some (.pt R (at'*38))→tm.lookup 8=some (.pt N 0)→tm.lookup 9=some (dI .i64 r0.b)→Wk cx tm ⟨(N,dC (az.f r0.c[s]!))::(N,dC zN)::(kd,mM R G w d1)::vs,lv,N+1⟩ [(0,.pt kd 0),(1,dI .i64 at'),(2,dI .i64 s),(7,.pt R (at'*38)),(8,.pt N 0),(9,dI .i64 r0.b)] ⟨(N,dC (az.f r0.c[s]!))::(kd,mM R G w d1)::vs,lv,N+1⟩:=fun tm a b c e f g=>
   wkS (by rw[h0];exact jt N) (aB _) (DJ _) (fun j ds h=>by rw[uN];exact h) ((((((bU.nil.cons g).cons f (aF (eT N))).cons e (aF (show R<N+1 by omega))).cons c).cons b).cons a (aF (show kd<N+1 by omega)))
  refine dw (DW.split 11 13 (by decide) ?_ ?_)
  ·refine dwg [] [0,1,2,3,4,5,6,7,8,9,10,11,12,13,14] hx (by kernel_rfl) (by kernel_rfl) (by kernel_rfl) fun K hK=>?_
   dsimp only[et,mA,mK,List.map]
   iterate 4 refine sa ?_
   refine s1 (j8 hlin.pc (ak hf.dR.symm hRv) A8 tbI) ?_
   refine sa ?_
   refine s1 (iaN hs) ?_
   refine s1 (ldN (Pt.el r0.c s (by omega)) (ak hC1 hcv) hcN) ?_
   iterate 3 refine sa ?_
   refine s1 (j8 hbas (ak hf.dR.symm hRv) A8 tbI) ?_
   refine s1 H2 ?_
   refine s0 (stZ aa) ?_
   refine sa ?_
   exact .nil (hK _ _ ⟨rfl,fin _ rfl rfl rfl rfl rfl rfl⟩)
  ·refine dwg [] [0,1,2,3,4,5,6,7,8,9,10,12,13,11,14] hx (by kernel_rfl) (by kernel_rfl) (by kernel_rfl) fun K hK=>?_
   dsimp only[et,mA,mK,List.map]
   iterate 4 refine sa ?_
   refine s1 (j8 hlin.pc (ak hf.dR.symm hRv) A8 tbI) ?_
   refine sa ?_
   refine s1 (iaN hs) ?_
   refine s1 (ldN (Pt.el r0.c s (by omega)) (ak hC1 hcv) hcN) ?_
   iterate 3 refine sa ?_
   refine s1 H2 ?_
   refine s0 (stZ aa) ?_
   refine s1 (j8 hbas (ak (show R≠N by omega) (ak (show R≠N by omega) (ak hf.dR.symm hRv))) (show R<N+1 by omega) tbI) ?_
   refine sa ?_
   exact .nil (hK _ _ ⟨rfl,fin _ rfl rfl rfl rfl rfl rfl⟩)
 refine rs hx fun K hK=>?_
 refine s1 (CU (ks:=[N])) ?_
 refine sa ?_
 refine .nil (hK _ _ ?_)
 -- the constant of the row
 obtain⟨p,hp⟩:∃p,p=r0.c[s]! :=⟨_,rfl⟩
 rw[←hp]
 refine rs hx fun K hK=>?_
 iterate 5 refine sa ?_
 have ht:=OA (vs:=(N,dC (az.f p))::(kd,mM R G w d1)::vs) (lv:=lv) (N:=N+1) (ak (show R≠N by omega) (ak hf.dR.symm hRv)) (show R<N+1 by omega) hlin.pk aa (eT N)
 rw[row_k _ r0.c] at ht
 refine q1 (sHF ht rfl) ?_
 refine .nil (hK _ _ ?_)
 obtain⟨k1,hk1⟩:∃k1,k1=ri (gX r0.k) p:=⟨_,rfl⟩
 rw[←hk1]
 -- its coefficients
 have Hq:R<N+1:=by omega
 have hkN1:kd<N+1:=by omega
 have hcN1:C at'<N+1:=by omega
 have NR:∀(r:Row),(A++iP C w at' r++B).all (D.idsC (N+1))=true:=fun r=>by
  rw[←AE r]
  refine vn 0 _ fun j hj=>?_
  rw[eL] at hj
  rw[bJ]
  have:=hok.lt (hD.hC j _ (c0 hj))
  omega
 have hokB:∀(r:Row),cE ⟨(C at',dC ((cW az).f r.c))::(R,A++iP C w at' r++B)::(N,dC (az.f p))::(kd,mM R G w d1)::vs,lv,N+1⟩:=fun r=>
  (cE.cons (N:=N+1) ((DJ p).cons (aB _) Hq (NR r)) (aB _) hcN1 (eJ _))
 have hTm:∀(t:Nat) (tm:List (Nat×D)),tm.lookup 0=some (.pt kd 0)→tm.lookup 1=some (dI .i64 at')→tm.lookup 2=some (dI .i64 s)→tm.lookup 7=some (.pt R (at'*38))→tm.lookup 8=some (.pt N 0)→tm.lookup 9=some (dI .i64 r0.b)→tm.lookup 10=some (.fn 152 [N])→tm.lookup 64=some (dI .i64 w)→tm.lookup 65=some (dI .i64 t)→
   bU (N+1) tm [(0,.pt kd 0),(1,dI .i64 at'),(2,dI .i64 s),(7,.pt R (at'*38)),(8,.pt N 0),(9,dI .i64 r0.b),(10,.fn 152 [N]),(64,dI .i64 w),(65,dI .i64 t)]:=fun t tm a b c e f g h i j=>
  (((((((((bU.nil.cons j).cons i).cons h (cX.2 fun k hk=>aF (by rw[pI.1 hk];omega))).cons g).cons f (aF (eT N))).cons e (aF Hq)).cons c).cons b).cons a (aF hkN1))
 refine AW.seq (rs hx fun K hK=>?_)
 iterate 4 refine sa ?_
 refine s1 (j8 (xO hA ⟨k1,r0.c,r0.b⟩).pc aa Hq tbI) ?_
 iterate 2 refine sa ?_
 refine .nil (hK _ _ (AW.block ?_))
 refine AW.loopW (fun t:Nat=>[(0,.pt kd 0),(1,dI .i64 at'),(2,dI .i64 s),(7,.pt R (at'*38)),(8,.pt N 0),(9,dI .i64 r0.b),(10,.fn 152 [N]),(64,dI .i64 w),(65,dI .i64 t)])
  (fun t=>⟨(C at',dC ((cW az).f (rA p t r0.c)))::(R,A++iP C w at' ⟨k1,r0.c,r0.b⟩++B)::(N,dC (az.f p))::(kd,mM R G w d1)::vs,lv,N+1⟩) (fun t=>t≤w) (fun t=>w - t) 0 ?_ (cQ _) ?_
 ·refine wkS (by rw[h0];exact jt N) (aB _) ((cE.cons (N:=N+1) ((DJ p).cons (aB _) Hq (NR ⟨k1,r0.c,r0.b⟩)) (aB _) hcN1 (eJ _))) (fun j ds h=>?_) (hTm 0 _ rfl rfl rfl rfl rfl rfl rfl rfl rfl)
  rcases cu h with⟨rfl,rfl⟩|⟨_,h⟩
  ·exact ak hC2 (ak (show C at'≠N by omega) (ak hC1 hcv))
  ·exact h
 ·intro t ht
  have Oj:(rA p t r0.c).length=w:=by rw[yO,sU]
  refine rs hx fun K hK=>?_
  refine sa ?_
  refine .nil (hK _ _ (AW.seq (AW.condS rfl (fun hb=>?_) (fun hb=>?_))))
  ·have htn:t<w:=by have:=cj hb;omega
   refine AW.skip (AW.seq (AW.block (rs hx fun K hK=>?_)))
   iterate 2 refine sa ?_
   refine .nil (hK _ _ (rq hx fun K hK=>?_))
   iterate 5 refine sa ?_
   refine s1 (j8 (xO hA ⟨k1,r0.c,r0.b⟩).pc (ak hC2.symm aa) Hq tbI) ?_
   refine sa ?_
   refine s1 (iaN htn) ?_
   refine q1 (sHF (OA aa hcN1 (Pt.el (rA p t r0.c) t (by omega)) (ak (show N≠C at' by omega) (ak (show N≠R by omega) aa)) (eT N)) rfl) ?_
   refine .nil (hK _ _ (rq hx fun K hK=>?_))
   iterate 2 refine sa ?_
   refine .nil (hK _ _ ?_)
   rw[cg (by omega)]
   refine⟨t+1,wkS (by rw[h0];exact jt N) (aB _) ?_ (fun j ds h=>?_) (hTm (t+1) _ rfl rfl rfl rfl rfl rfl rfl rfl rfl),htn,by omega⟩
   ·exact (cE.cons (N:=N+1) ((DJ p).cons (aB _) Hq (NR ⟨k1,r0.c,r0.b⟩)) (aB _) hcN1 (eJ _))
   ·rw[Pt.el_set _ _ (by omega),uN]
    exact h
  ·refine AW.exit ?_
   have htn:t=w:=by have:=dV hb;omega
   subst htn
   obtain⟨c1,I9⟩:∃c1,c1=rA p t r0.c:=⟨_,rfl⟩
   rw[←I9] at Oj ⊢
   -- the row's own places
   refine rsd [28,153] hx fun K hK=>?_
   iterate 4 refine sa ?_
   refine s1 (j8 (xO hA ⟨k1,r0.c,r0.b⟩).pc (ak hC2.symm aa) Hq tbI) ?_
   iterate 5 refine sa ?_
   refine s1 (j8 (xO hA ⟨k1,r0.c,r0.b⟩).pc (ak hC2.symm aa) Hq tbI) ?_
   iterate 2 refine sa ?_
   refine cq (Dy 0 (by omega)) ?_
   refine cq (Dy 1 (by omega)) ?_
   refine s1 (ldN (Pt.idN p) (ak (show N≠C at' by omega) (ak (show N≠R by omega) aa)) (eT N)) ?_
   refine cq (MA _ p) ?_
   refine sa ?_
   refine s1 (iaN hs) ?_
   refine s0 (stN (Pt.el c1 s (by omega)) aa (Pt.el_set c1 s (by omega) _)) ?_
   refine s1 (iaN (i:=bN) hbw rfl (congrArg (dI .i64) hbN)) ?_
   refine s0 (stN (Pt.el (c1.set s (nOf 0)) bN (by rw[eL];omega)) aa (Pt.el_set (c1.set s (nOf 0)) bN (by rw[eL];omega) _)) ?_
   iterate 2 refine sa ?_
   refine s0 (EN (ys:=[dI .i64 s]) (JP hA ⟨k1,r0.c,r0.b⟩) (ak hC2.symm (ak hC2.symm (ak hC2.symm aa))) rfl tbI rfl rfl (row_b k1 (((c1.set s (nOf 0)).set bN (ri (nOf 1) p))) s)) ?_
   refine .nil (hK _ _ ?_)
   -- the dictionary with the row
   obtain⟨r1,Gn⟩:∃r1:Row,r1=⟨k1,(c1.set s (nOf 0)).set bN (ri (nOf 1) p),s⟩:=⟨_,rfl⟩
   obtain⟨d2,B1⟩:∃d2:Dic,d2=⟨d.rows.set at' r1,d.gk,d.gc,d.n,d.piv+1,d.most⟩:=⟨_,rfl⟩
   have hr1c:r1.c.length=t:=by rw[Gn];show (List.set _ _ _).length=t;rw[eL,eL];exact Oj
   have hrowN:(f4 C t 0 (d.rows.set at' r1)).all (D.idsC N)=true:=vn 0 _ fun j hj=>by
    rw[eL] at hj
    rw[bJ];exact hCj j hj
   obtain⟨KU,Lp⟩:∃v,v=(C at',dC ((cW az).f r1.c))::(R,f4 C t 0 (d.rows.set at' r1))::(kd,mM R G t d1)::vs:=⟨_,rfl⟩
   have BW:cE ⟨KU,lv,N⟩:=by
    rw[Lp]
    exact ((hok.cons (aB _) DM (qF A8 OJ)).cons (aB _) A8 hrowN).cons (aB _) hcN (eJ _)
   have hfr1:∀k ds,k≠kd→k≠R→k≠C at'→vs.lookup k=some ds→KU.lookup k=some ds:=fun k ds h1 h2 h3 h=>by
    rw[Lp];exact ak h3 (ak h2 (ak h1 h))
   have hD2:DAt KU kd R G C t d2:=by
    have hDa:DAt ((kd,mM R G t d1)::vs) kd R G C t d1:=hD.setDic hf d1 Oo (by rw[B5];exact hD.lG) aa (ak hf.dG.symm (by rw[B5];exact hD.hG)) fun k ds h1 _ h=>ak h1 h
    have:=hDa.setRow (vs2:=KU) (by rw[Oo];exact hf) (by rw[Oo];exact hat) r1 hr1c (by rw[Lp,Oo];exact ak hC2.symm aa) (by rw[Lp];exact aa) fun k ds h1 h2 h=>by rw[Lp];exact ak h2 (ak h1 h)
    rw[B1]
    rw[B5] at this
    exact this
   have FC:d2.rows.length=d.rows.length:=by rw[B1];exact eL ..
   have B0:Dif d2.rows.length kd R G C:=by rw[FC];exact hf
   have Ls:d2.rows≠[]:=fun e=>by rw[e] at FC;simp at FC;omega
   have hr2:d2.rows[at']? =some r1:=by rw[B1];exact HV hat
   refine AW.weak (wkS (tm':=[(0,.pt kd 0),(1,dI .i64 at'),(2,dI .i64 s),(7,.pt R (at'*38))]) (by rw[h0];exact aB N) (jt N) BW (fun j ds h=>?_) (bU.cons (t:=0) (d:=.pt kd 0) (bU.cons (t:=1) (d:=dI .i64 at') (bU.cons (t:=2) (d:=dI .i64 s) (bU.cons (t:=7) (d:=.pt R (at'*38)) bU.nil rfl (aF A8)))) rfl (aF DM))) ?_
   ·have hj:=BW.lt h
    rw[Lp] at h
    rcases cu h with⟨rfl,rfl⟩|⟨Mj,h⟩
    ·refine ak hC2 ?_
     rw[Gn];exact aa
    rcases cu h with⟨rfl,rfl⟩|⟨Dk,h⟩
    ·rw[AE,Gn];exact aa
    exact ak Dk (ak Mj (ak Mj (ak Mj (ak Dk (ak (show j≠N by omega) h)))))
   obtain⟨A2,B2,_,_,_,hlin2,_⟩:=mq C t d2.rows at' hr2
   refine rs hx fun K hK=>?_
   iterate 3 refine sa ?_
   refine s1 (Aw hlin2.pa (hD2.hR Ls) A8 xL (cf _ _ _)) ?_
   refine q1 (sHC (Jf (hD2.hC at' r1 hr2) hr1c hw) rfl (.inr (Fr.refl _))) ?_
   refine sa ?_
   refine .nil (hK _ _ (rs hx fun K hK=>?_))
   iterate 3 refine sa ?_
   refine q1 (litR tok yQ wU rfl rfl) ?_
   refine sa ?_
   refine .nil (hK _ _ ?_)
   -- the lines
   obtain⟨ok0,hok0⟩:∃b,b=iM r1.k r1.c:=⟨_,rfl⟩
   rw[←hok0]
   obtain⟨m,Oi⟩:∃m,m=d2.rows.length:=⟨_,rfl⟩
   have hmm:m=d.rows.length:=Oi.trans FC
   have Fz:∀i id nx,N≤nx→id<nx→cE ⟨(id,lns kd R at' i)::KU,lv,nx⟩:=fun i id nx h1 h2=>BW.cons h1 h2 (J4 (by omega) (by omega) i)
   have hTmL:∀(i id n nx:Nat) (tm:List (Nat×D)),N≤nx→id<nx→tm.lookup 0=some (.pt kd 0)→tm.lookup 1=some (dI .i64 at')→tm.lookup 2=some (dI .i64 s)→tm.lookup 7=some (.pt R (at'*38))→tm.lookup 12=some (dB ok0)→tm.lookup 13=some (.gw id 1 n)→tm.lookup 113=some (dI .i64 m)→tm.lookup 114=some (dI .i64 i)→
     bU nx tm [(0,.pt kd 0),(1,dI .i64 at'),(2,dI .i64 s),(7,.pt R (at'*38)),(12,dB ok0),(13,.gw id 1 n),(113,dI .i64 m),(114,dI .i64 i)]:=fun i id n nx tm h1 h2 a b c e f g h j=>
    ((((((((bU.nil.cons j).cons h).cons g (aF h2)).cons f).cons e (aF (show R<nx by omega))).cons c).cons b).cons a (aF (show kd<nx by omega)))
   refine AW.seq (rs hx fun K hK=>?_)
   iterate 3 refine sa ?_
   refine s1 (j8 (gy (d:=d2)) (ak (show kd≠N by omega) hD2.hd) hkN1 tbI) ?_
   rw[pb Ls]
   refine stG (d:=dI .i64 d2.rows.length) tok (zU z4 sf) ?_
   refine sa ?_
   refine .nil (hK _ _ ?_)
   rw[←Oi]
   refine AW.block ?_
   refine AW.loopW (fun st:Nat×Nat×Nat=>[(0,.pt kd 0),(1,dI .i64 at'),(2,dI .i64 s),(7,.pt R (at'*38)),(12,dB ok0),(13,.gw st.2.1 1 (lns kd R at' st.1).length),(113,dI .i64 m),(114,dI .i64 st.1)])
    (fun st=>⟨(st.2.1,lns kd R at' st.1)::KU,lv,st.2.2⟩) (fun st=>st.1≤m∧N≤st.2.1∧st.2.1<st.2.2) (fun st=>m - st.1) (0,N,N+1) ?_ ⟨cQ _,aB _,eT _⟩ ?_
   ·exact wkS (by rw[h0];exact jt N) (aB _) (Fz 0 N (N+1) (jt _) (eT _)) (fun j ds h=>h) (hTmL 0 N 1 (N+1) _ (jt _) (eT _) rfl rfl rfl rfl rfl rfl rfl rfl)
   ·rintro⟨i,id,nx⟩ ⟨hi,hid,rk⟩
    dsimp only at hi hid rk ⊢
    refine rs hx fun K hK=>?_
    refine sa ?_
    refine .nil (hK _ _ (AW.seq (AW.condS rfl (fun hb=>?_) (fun hb=>?_))))
    ·have DN:i<m:=by have:=cj hb;omega
     refine AW.skip (AW.seq (AW.block (rs hx fun K hK=>?_)))
     iterate 2 refine sa ?_
     refine .nil (hK _ _ (rs hx fun K hK=>?_))
     iterate 3 refine sa ?_
     refine .nil (hK _ _ (AW.condS rfl (fun hb=>?_) (fun hb=>?_)))
     ·have rE:i≠at':=by have:=cj hb;omega
      refine rq hx fun K hK=>?_
      iterate 4 refine sa ?_
      refine s1 (j8 (gy (d:=d2)) (ak (show kd≠id by omega) hD2.hd) (show kd<nx by omega) tbI) ?_
      rw[pb Ls]
      refine sa ?_
      refine stG (d:=.pt R (i*38)) tok (iaR (i:=i) (n:=d2.rows.length) (by omega)) ?_
      refine sa ?_
      refine q1 (litR tok yQ wU rfl rfl) ?_
      refine q1 (appR tok (k:=id) (ky:=nx) (ds:=lns kd R at' i) yQ wU (ak (show id≠nx by omega) aa) aa rfl rfl (wD _).symm rfl (by have:=IE (kd:=kd) (R:=R) (at':=at') i;show (_+1)*8≤_;omega)) ?_
      refine sa ?_
      refine .nil (hK _ _ (rq hx fun K hK=>?_))
      iterate 2 refine sa ?_
      refine .nil (hK _ _ ?_)
      rw[cg (by omega)]
      have hlen:(lns kd R at' (i+1)).length=(lns kd R at' i).length+1:=by rw[Fp rE,cR];rfl
      refine⟨(i+1,nx+1,nx+1+1),wkS (by rw[h0];show N≤nx+1+1;omega) (aB _) (Fz (i+1) (nx+1) (nx+1+1) (by omega) (by omega)) (fun j ds h=>?_) (by
       dsimp only
       rw[hlen]
       exact hTmL (i+1) (nx+1) _ (nx+1+1) _ (by omega) (by omega) rfl rfl rfl rfl rfl rfl rfl rfl),⟨DN,by show N≤nx+1;omega,eT _⟩,by show m - (i+1)<m - i;omega⟩
      rcases cu h with⟨rfl,rfl⟩|⟨hj,h⟩
      ·rw[Fp rE];exact aa
      ·have hjN:=BW.lt h
       exact ak hj (vr (by simp;omega) (ak (show j≠nx by omega) (ak (show j≠id by omega) h)))
     ·have rE:i=at':=by have:=dV hb;simp at this;omega
      refine AW.skip (rq hx fun K hK=>?_)
      iterate 2 refine sa ?_
      refine .nil (hK _ _ ?_)
      rw[cg (by omega)]
      refine⟨(i+1,id,nx),wkS (by rw[h0];show N≤nx;omega) (aB _) (Fz (i+1) id nx (by omega) rk) (fun j ds h=>?_) (by
       dsimp only
       rw[Fq rE]
       exact hTmL (i+1) id _ nx _ (by omega) rk rfl rfl rfl rfl rfl rfl rfl rfl),⟨DN,hid,rk⟩,by show m - (i+1)<m - i;omega⟩
      dsimp only at h
      rw[Fq rE] at h
      exact h
    ·refine AW.exit ?_
     have yG:i=m:=by have:=dV hb;omega
     subst yG
     -- the lines,one by one
     have hiat:at'<i:=by omega
     obtain⟨P,hP⟩:∃P:Nat→Dic×Bool,P=pO r1 s at' i (d2,ok0):=⟨_,rfl⟩
     have hP0:P 0=(d2,ok0):=by rw[hP];rfl
     have hPs:∀u o,(vZ at' i)[u]? =some o→P (u+1)=uF r1 s (P u) o:=fun u o h=>by rw[hP];exact pO_succ h
     have hLl:(lns kd R at' i).length=(vZ at' i).length:=by rw[J3,bT]
     have hLle:=IE (kd:=kd) (R:=R) (at':=at') i
     refine AW.seq (rs hx fun K hK=>?_)
     refine sa ?_
     refine stG (d:=dI .i64 (lns kd R at' i).length) tok (zU yQ wU) ?_
     refine sa ?_
     refine .nil (hK _ _ (AW.block ?_))
     refine AW.loopW (fun st:Nat×List (Nat×List D)=>[(2,dI .i64 s),(7,.pt R (at'*38)),(12,dB (P st.1).2),(131,.gw id 1 (lns kd R at' i).length),(132,dI .i64 (lns kd R at' i).length),(133,dI .i64 st.1)])
      (fun st=>⟨st.2,lv,nx⟩)
      (fun st=>st.1≤(lns kd R at' i).length∧DAt st.2 kd R G C t (P st.1).1∧cE ⟨st.2,lv,nx⟩∧st.2.lookup id=some (lns kd R at' i)∧(P st.1).1.rows.length=i∧(P st.1).1.rows[at']? =some r1∧
       ∀k ds,k≠kd→k≠R→k≠G→(∀j,j<i→k≠C j)→KU.lookup k=some ds→st.2.lookup k=some ds)
      (fun st=>(lns kd R at' i).length - st.1) (0,(id,lns kd R at' i)::KU) ?_ ?_ ?_
     ·refine wkS (by rw[h0];show N≤nx;omega) (aB _) (Fz i id nx (by omega) rk) (fun j ds h=>h) ?_
      dsimp only
      rw[hP0]
      exact bU.cons (t:=2) (d:=dI .i64 s) (bU.cons (t:=7) (d:=.pt R (at'*38)) (bU.cons (t:=12) (d:=dB ok0) (bU.cons (t:=131) (d:=.gw id 1 (lns kd R at' i).length) (bU.cons (t:=132) (d:=dI .i64 (lns kd R at' i).length) (bU.cons (t:=133) (d:=dI .i64 (0:Nat)) bU.nil rfl rfl) rfl rfl) rfl (aF rk)) rfl rfl) rfl (aF (show R<nx by omega))) rfl rfl
     ·dsimp only
      rw[hP0]
      refine⟨cQ _,hD2.look fun k ds hk h=>ak ?_ h,Fz i id nx (by omega) rk,aa,by rw[hmm];exact FC,hr2,fun k ds _ _ _ _ h=>ak (by have:=BW.lt h;omega) h⟩
      have:=BW.lt h
      omega
     ·rintro⟨u,v⟩ ⟨hu,hDu,N4,hvid,Es,hru,hfru⟩
      dsimp only at hu hDu N4 hvid Es hru hfru ⊢
      obtain⟨du,hdu⟩:∃x,x=(P u).1:=⟨_,rfl⟩
      obtain⟨oku,N3⟩:∃x,x=(P u).2:=⟨_,rfl⟩
      rw[←hdu] at hDu Es hru
      rw[←N3]
      have hfu:Dif du.rows.length kd R G C:=by rw[Es,hmm];exact hf
      refine rs hx fun K hK=>?_
      refine sa ?_
      refine .nil (hK _ _ (AW.seq (AW.condS rfl (fun hb=>?_) (fun hb=>?_))))
      ·have IS:u<(lns kd R at' i).length:=by have:=cj hb;omega
       obtain⟨o,ho⟩:∃o,(vZ at' i)[u]? =some o:=⟨_,c0 (by omega)⟩
       obtain⟨hoa,hoi⟩:=Na (eo ho)
       have Ai:(lns kd R at' i)[u]? =some (.pt (klO kd R o) (olO o)):=by rw[J3,ek,ho];rfl
       obtain⟨F,A3,B3,hF,hLi,hcO,hlO,Hg,AG⟩:=lineO hDu hfu o (fun j hj=>by rw[Es];exact hoi j hj)
       have hklN:=N4.lt hF
       have hkcN:=N4.lt hcO
       refine AW.skip (AW.seq (AW.block (rs hx fun K hK=>?_)))
       refine stG (d:=.pt id u) tok (iaP IS) ?_
       refine s1 (j8 (Pt.cell Ai) hvid rk wU) ?_
       refine sa ?_
       refine .nil (hK _ _ (rs hx fun K hK=>?_))
       iterate 3 refine sa ?_
       refine s1 (j8 hLi.pc hF hklN tbI) ?_
       refine sa ?_
       refine s1 (iaN hs) ?_
       refine s1 (ldN (Pt.el (lcO du o) s (by omega)) hcO hkcN) ?_
       refine s1 H2 ?_
       refine s0 (stZ aa) ?_
       refine .nil (hK _ _ ?_)
       obtain⟨q,hq⟩:∃q,q=(lcO du o)[s]! :=⟨_,rfl⟩
       rw[←hq]
       refine rsd [28] hx fun K hK=>?_
       iterate 3 refine sa ?_
       refine s1 (j8 hLi.pc (ak (show _≠nx by omega) (ak (show _≠nx by omega) hF)) (show klO kd R o<nx+1 by omega) tbI) ?_
       refine sa ?_
       refine cq (Dy 0 (by omega)) ?_
       refine s1 (iaN hs) ?_
       refine s0 (stN (Pt.el (lcO du o) s (by omega)) (ak (show _≠nx by omega) (ak (show _≠nx by omega) hcO)) (Pt.el_set (lcO du o) s (by omega) _)) ?_
       refine .nil (hK _ _ ?_)
       have hneu:du.rows≠[]:=fun e=>by rw[e] at hru;simp at hru
       obtain⟨A4,B4,_,_,_,hlinr,_⟩:=mq C t du.rows at' hru
       have hidk:klO kd R o<N∧kcO G C o<N∧R≠kcO G C o∧C at'≠kcO G C o∧C at'≠klO kd R o:=by
        cases o with
        |none=>exact⟨DM,OJ,hf.RG,hC3,hC1⟩
        |some j=>
         have hj:=hoi j rfl
         have Ok:j<d.rows.length:=by omega
         exact⟨A8,hCj j Ok,(hf.C1 j Ok).2.1.symm,fun e=>hoa (by rw[hf.C2 at' j hat Ok e]),hC2⟩
       obtain⟨hk1N,hk2N,hRkc,hakc,hakl⟩:=hidk
       refine rsd [] hx fun K hK=>?_
       refine sa ?_
       refine s1 (ldN (Pt.idN q) (ak (show nx≠kcO G C o by omega) aa) (eT nx)) ?_
       iterate 3 refine sa ?_
       refine s1 (Aw hlinr.pa (ak hRkc (ak (show R≠nx by omega) (ak (show R≠nx by omega) (hDu.hR hneu)))) (show R<nx+1 by omega) xL (cf _ _ _)) ?_
       refine sa ?_
       refine q1 (sHC (h_add (vs:=(kcO G C o,dC ((cW az).f ((lcO du o).set s (nOf 0))))::(nx,dC (az.f q))::(nx,dC zN)::v) (lv:=lv) (N:=nx+1) (kx:=C at') (xc:=r1.c) (but:=(s:Int)) (ak Hg (ak (show klO kd R o≠nx by omega) (ak (show klO kd R o≠nx by omega) hF))) hLi aa (by rw[eL];exact hlO)
        (ak hakc (ak (show C at'≠nx by omega) (ak (show C at'≠nx by omega) (hDu.hC at' r1 hru)))) hr1c Hg hakc hakl hw) rfl (.inl (by kernel_rfl))) ?_
       refine .nil (hK _ _ ?_)
       obtain⟨k2,zw⟩:∃x,x=CK q r1.k (lkO du o):=⟨_,rfl⟩
       obtain⟨c2,ml⟩:∃x,x=zT q r1.c s ((lcO du o).set s (nOf 0)):=⟨_,rfl⟩
       rw[←zw,←ml]
       have hc2l:c2.length=t:=by rw[ml,yq,eL];exact hlO
       have hPn:P (u+1)=(Ir du o k2 c2,oku&&iM k2 c2):=by
        rw[hPs u o ho,zw,ml,hq,hdu,N3];rfl
       have AF:cE ⟨(kcO G C o,dC ((cW az).f c2))::(klO kd R o,A3++bp k2 (kcO G C o) t++B3)::v,lv,nx⟩:=
        cE.cons (N:=nx) (N4.cons (aB _) hklN (hLi.pa.ids (by rw[cf,cf]) (N4.var _ F hF).2 (iT hkcN))) (aB _) hkcN (eJ _)
       have fin:∀tm:List (Nat×D),tm.lookup 2=some (dI .i64 s)→tm.lookup 7=some (.pt R (at'*38))→tm.lookup 12=some (dB (oku&&iM k2 c2))→tm.lookup 131=some (.gw id 1 (lns kd R at' i).length)→tm.lookup 132=some (dI .i64 (lns kd R at' i).length)→tm.lookup 133=some (dI .i64 ((u+1:Nat):Int))→
         ∃st:Nat×List (Nat×List D),Wk cx tm ⟨(kcO G C o,dC ((cW az).f c2))::(klO kd R o,A3++bp k2 (kcO G C o) t++B3)::(kcO G C o,dC ((cW az).f ((lcO du o).set s (nOf 0))))::(nx,dC (az.f q))::(nx,dC zN)::v,lv,nx+1⟩
          [(2,dI .i64 s),(7,.pt R (at'*38)),(12,dB (P st.1).2),(131,.gw id 1 (lns kd R at' i).length),(132,dI .i64 (lns kd R at' i).length),(133,dI .i64 st.1)] ⟨st.2,lv,nx⟩∧
          (st.1≤(lns kd R at' i).length∧DAt st.2 kd R G C t (P st.1).1∧cE ⟨st.2,lv,nx⟩∧st.2.lookup id=some (lns kd R at' i)∧(P st.1).1.rows.length=i∧(P st.1).1.rows[at']? =some r1∧
           ∀k ds,k≠kd→k≠R→k≠G→(∀j,j<i→k≠C j)→KU.lookup k=some ds→st.2.lookup k=some ds)∧(lns kd R at' i).length - st.1<(lns kd R at' i).length - u:=fun tm a b c e f g=>by
        refine⟨(u+1,(kcO G C o,dC ((cW az).f c2))::(klO kd R o,A3++bp k2 (kcO G C o) t++B3)::v),wkS (by rw[h0];show N≤nx;omega) (jt nx) AF (fun j ds h=>?_) ?_,⟨by show u+1≤_;omega,?_,AF,?_,?_,?_,fun k ds h1 h2 h3 h4 h=>?_⟩,by show (lns kd R at' i).length - (u+1)<_;omega⟩
        ·have hj:=AF.lt h
         rcases cu h with⟨rfl,rfl⟩|⟨Mj,h⟩
         ·exact aa
         rcases cu h with⟨rfl,rfl⟩|⟨Dk,h⟩
         ·exact ak Hg aa
         ·exact ak Mj (ak Dk (ak Mj (ak (show j≠nx by omega) (ak (show j≠nx by omega) h))))
        ·dsimp only
         rw[hPn]
         exact (((((bU.nil.cons g).cons f).cons e (aF rk)).cons c).cons b (aF (show R<nx by omega))).cons a
        ·dsimp only
         rw[hPn]
         exact AG _ k2 c2 hc2l (ak Hg aa) aa fun k ds h1 h2 h=>ak h2 (ak h1 h)
        ·exact ak (show id≠kcO G C o by omega) (ak (show id≠klO kd R o by omega) hvid)
        ·dsimp only
         rw[hPn,MR];exact Es
        ·dsimp only
         rw[hPn,setO_ne hoa];exact hru
        ·have hkk:k≠klO kd R o∧k≠kcO G C o:=by
          cases o with
          |none=>exact⟨h1,h3⟩
          |some j=>exact⟨h2,h4 j (hoi j rfl)⟩
         exact ak hkk.2 (ak hkk.1 (hfru k ds h1 h2 h3 h4 h))
       refine rq hx fun K hK=>?_
       iterate 2 refine sa ?_
       rcases aD oku with IY|IY
       ·iterate 2 refine ga IY ?_
        refine g1 (d:=.ag (bp k2 (kcO G C o) t)) IY (Aw (hLi.new k2).pa (ak Hg aa) (show klO kd R o<nx+1 by omega) xL (cf _ _ _)) ?_
        refine JL rfl rfl (by rw[IY];rfl) (sHC (Jf aa hc2l hw) rfl (.inr (Fr.refl _))) ?_
        refine s1 (aw IY) ?_
        refine sa ?_
        refine .nil (hK _ _ (rq hx fun K hK=>?_))
        iterate 2 refine sa ?_
        refine .nil (hK _ _ ?_)
        rw[cg (by omega)]
        exact fin _ rfl rfl (by rw[IY];rfl) rfl rfl rfl
       ·iterate 4 refine aH rfl rfl IY ?_
        refine s1 (al IY) ?_
        refine sa ?_
        refine .nil (hK _ _ (rq hx fun K hK=>?_))
        iterate 2 refine sa ?_
        refine .nil (hK _ _ ?_)
        rw[cg (by omega)]
        exact fin _ rfl rfl (by rw[IY];rfl) rfl rfl rfl
      ·refine AW.exit ?_
       have IS:u=(lns kd R at' i).length:=by have:=dV hb;omega
       have IW:d.rows[at']! =r0:=by rw[cz d.rows at' hat];exact (fP.1 hr0).2
       have hr1t:r1=bZ r0 s:=by
        rw[Gn,hk1,I9,hp]
        unfold bZ
        rw[show r0.b.toNat=bN by omega,show r0.c.length=t from sU]
       have hpp:eg d at' s=(if oku then 0 else 30,du):=by
        unfold eg
        rw[if_neg (by omega)]
        dsimp only
        rw[IW,←hr1t,←hmm,←hok0,←B1,←hLl,←IS,←show P=pO r1 s at' i (d2,ok0) from hP,←hdu,←N3]
       rw[hpp]
       have hlen':du.rows.length=d.rows.length:=by rw[Es,hmm]
       have fin2:∀(tm:List (Nat×D)) (e:Int),tm.lookup 6=some (dI .i64 e)→∃tm',Wk cx tm ⟨v,lv,nx⟩ tm' ⟨ov kd R G C t du vs,lv,N⟩∧r9 tbl [.tmp 6] tm' ⟨ov kd R G C t du vs,lv,N⟩ (dI .i64 e):=fun tm e h=>
        Ns h0 hok (by omega) hDu hfu DM A8 OJ (fun j hj=>hCj j (by omega)) (fun k ds h1 h2 h3 h4 h=>hfru k ds h1 h2 h3 (fun j hj=>h4 j (by omega)) (hfr1 k ds h1 h2 (h4 at' (by omega)) h)) (fun e=>by rw[e] at hlen';simp at hlen';omega) h
       refine AW.seq (rs hx fun K hK=>?_)
       iterate 2 refine sa ?_
       refine .nil (hK _ _ ?_)
       rcases aD oku with IY|IY
       ·refine AW.condF rfl (by rw[IY];rfl) (AW.skip (rs hx fun K hK=>?_))
        refine sa ?_
        refine .nil (hK _ _ (AW.ret ?_))
        rw[IY]
        exact fin2 _ 0 rfl
       ·refine AW.condT rfl (by rw[IY];rfl) (rs hx fun K hK=>?_)
        refine sa ?_
        refine .nil (hK _ _ (AW.ret ?_))
        rw[IY]
        exact fin2 _ 30 rfl
end
end
section
structure da(d:Dic)(w m:Nat):Prop where
 len:d.rows.length=m
 lg:d.gc.length=w
 lc:∀i,i<m→d.rows[i]!.c.length=w
 b:∀i,i<m→0≤d.rows[i]!.b∧d.rows[i]!.b<w
 p0:0≤d.piv
 p1:d.piv≤9223372036854775807
 m0:0≤d.most
 m1:d.most≤9223372036854775807
section
variable {d:Dic} {w m at' s:Nat}
theorem da.lC(h:da d w m):∀(i:Nat) (r:Row),d.rows[i]? =some r→r.c.length=w:=fun i r hr=>by
 have hi:=(fP.1 hr).1
 have:=h.lc i (by rw[←h.len];exact hi)
 rwa[gf hr] at this
theorem M6(h:d.most≤d.piv):eg d at' s=(220,d):=by unfold eg;rw[if_pos h]
theorem da.pivD(h:da d w m)(hat:at'<m)(hs:s<w)(hp:d.piv<d.most):da (m8 d at' s) w m:=by
 have hl:=h.len
 refine⟨by rw[jd];exact hl,?_,fun i hi=>?_,fun i hi=>?_,?_,?_,h.m0,h.m1⟩
 ·show (lO d.gk d.gc _ s).c.length=w
  rw[xQ];exact h.lg
 ·rw[nQ (by omega)]
  split
  ·rw[s8];exact h.lc at' hat
  ·show (lO d.rows[i]!.k d.rows[i]!.c (bZ d.rows[at']! s) s).c.length=w
   rw[xQ];exact h.lc i hi
 ·rw[uH (by omega)]
  split
  ·omega
  ·exact h.b i hi
 ·have:=h.p0
  show 0≤d.piv+1;omega
 ·have:=h.m1
  show d.piv+1≤_;omega
theorem da.pivot(h:da d w m)(hat:at'<m)(hs:s<w):da (eg d at' s).2 w m∧(eg d at' s).2.most=d.most∧(eg d at' s).2.n=d.n∧((eg d at' s).1=0→(eg d at' s).2.piv=d.piv+1∧d.piv<d.most):=by
 by_cases hp:d.most≤d.piv
 ·rw[M6 hp]
  exact⟨h,rfl,rfl,fun e=>by cases e⟩
 ·obtain⟨h2,_,_⟩:=Ec d at' s (by rw[h.len];exact hat) hp
  rw[h2]
  exact⟨h.pivD hat hs (by omega),rfl,rfl,fun _=>⟨rfl,by omega⟩⟩
theorem da.enter(h:da d w m)(he:pG d.gc=some s):s<w:=by have:=(Cj he).1;rw[h.lg] at this;exact this
theorem da.leav(h:da d w m){z:Nu}{p:Int×Nu}(hl:pf d.rows s z d.rows.length=some p)(hp:¬p.1<0):p.1.toNat<m∧p.1=(p.1.toNat:Int):=by
 rcases vt hl with e|⟨i,h1,h2,_⟩
 ·omega
 ·have:=h.len;omega
theorem da.improve(h:da d w m):∀(f:Nat),da (iv f d).2 w m∧(iv f d).2.most=d.most∧(iv f d).2.n=d.n∧-1≤(iv f d).1.1∧(iv f d).1.1<w:=by
 intro f
 induction f generalizing d with
 |zero=>exact⟨h,rfl,rfl,Int.le_refl _,by show (-1:Int)<w;omega⟩
 |succ f ih=>
  unfold iv
  cases he:pG d.gc with
  |none=>exact⟨h,rfl,rfl,Int.le_refl _,by show (-1:Int)<w;omega⟩
  |some s=>
   dsimp only
   have hs:=h.enter he
   cases hl:pf d.rows s default d.rows.length with
   |none=>exact⟨h,rfl,rfl,Int.le_refl _,by show (-1:Int)<w;omega⟩
   |some p=>
    dsimp only
    by_cases hp:p.1<0
    ·rw[if_pos hp];exact⟨h,rfl,rfl,by show -1≤(s:Int);omega,by show (s:Int)<w;omega⟩
    ·rw[if_neg hp]
     obtain⟨h1,_⟩:=h.leav hl hp
     obtain⟨h2,h3,h4,_⟩:=h.pivot h1 hs
     by_cases h0:(eg d p.1.toNat s).1=0
     ·rw[if_pos h0]
      obtain⟨a1,a2,a3,a4⟩:=ih h2
      exact⟨a1,a2.trans h3,a3.trans h4,a4⟩
     ·rw[if_neg h0]
      exact⟨h2,h3,h4,Int.le_refl _,by show (-1:Int)<w;omega⟩
end
end
section
section
variable {vs vsX:List (Nat×List D)} {lv:List (Nat×Nat×Nat×TypeId)} {N kd R G w m:Nat} {C:Nat→Nat} {d d':Dic}
theorem AZ(hf:Dif m kd R G C)(hS:da d' w m)(hm:0<m)(hX:∀k ds,k≠kd→k≠R→k≠G→(∀j,j<m→k≠C j)→vs.lookup k=some ds→vsX.lookup k=some ds):∀j ds,(ov kd R G C w d' vs).lookup j=some ds→(ov kd R G C w d' vsX).lookup j=some ds:=by
 have hf':Dif d'.rows.length kd R G C:=by rw[hS.len];exact hf
 refine BB hf' (DAt.ov hf' hS.lg hS.lC) (fun k ds h1 h2 h3 h4 h=>?_) (fun e=>?_)
 ·rw[Fd h1 h2 h3 h4]
  exact hX k ds h1 h2 h3 (fun j hj=>h4 j (by rw[hS.len];exact hj)) h
 ·have:=hS.len
  rw[e] at this
  exact absurd this (by simp only[List.length_nil];omega)
theorem da.dif(h:da d w m)(hf:Dif m kd R G C):Dif d.rows.length kd R G C:=by rw[h.len];exact hf
theorem da.at(h:da d w m)(hf:Dif m kd R G C):DAt (ov kd R G C w d vs) kd R G C w d:=DAt.ov (h.dif hf) h.lg h.lC
theorem LN {c:List Nu}{s:Nat}(h:s<c.length)(h1:0<dv c[s]!)(h2:∀t,t<s→¬0<dv c[t]!):pG c=some s:=by
 unfold pG
 rw[pK]
 refine⟨h,?_,fun t ht=>?_⟩
 ·rw[cz c s h] at h1;exact aF h1
 ·have:=h2 t ht
  rw[cz c t (by omega)] at this
  simpa using this
theorem Jm {c:List Nu}(h2:∀t,t<c.length→¬0<dv c[t]!):pG c=none:=by
 unfold pG
 rw[zK]
 intro x hx
 obtain⟨t,ht,rfl⟩:=CE.1 hx
 have:=h2 t ht
 rw[cz c t ht] at this
 exact bH this
theorem DAt.up(h:DAt vs kd R G C w d)(hX:∀k ds,vs.lookup k=some ds→vsX.lookup k=some ds):DAt vsX kd R G C w d:=h.look fun k ds _=>hX k ds
theorem Ev(A8:R<N)(hD:DAt vs kd R G C w d)(hf:Dif m kd R G C)(hS:da d w m)(hw:w≤1000000)(hm:m≤1000000):
  HC Tryz.prog 46 [.pt kd 0] ⟨vs,lv,N⟩ (.tu [dI .i64 (bh d).1.1,dI .i64 (bh d).1.2]) ⟨ov kd R G C w (bh d).2 vs,lv,N⟩:=by
 refine HC.of (rs:=[.tmp 2,.tmp 3]) tok Tryz.func46 rfl rfl (dq rfl) rfl (fun cx hx h0 hok=>?_)
 simp only[fL,Nat.reduceAdd,bJ]
 have hl:=hS.len
 have ws:=hD.hd
 have DM:=hok.lt ws
 have OJ:=hok.lt hD.hG
 have hCN:∀j,j<m→C j<N:=fun j hj=>hok.lt (hD.hC j d.rows[j]! (by rw[cz d.rows j (by omega)];exact c0 _))
 have rX:∀d2,da d2 w m→cE ⟨ov kd R G C w d2 vs,lv,N⟩:=fun d2 h2=>z9 hok DM A8 OJ fun j hj=>hCN j (by rw[←h2.len];exact hj)
 refine rs hx fun K hK=>?_
 iterate 2 refine sa ?_
 refine .nil (hK _ _ (AW.scope (AW.seq (AW.label (AW.block (AW.loopW (fun u:Nat×Dic=>[(0,.pt kd 0)]) (fun u=>⟨ov kd R G C w u.2 vs,lv,N⟩) (fun u=>iv u.1 u.2=bh d∧da u.2 w m∧(u.2.most - u.2.piv).toNat+1≤u.1) (fun u=>u.1) ((d.most - d.piv).toNat+1,d) ?_ ⟨rfl,hS,aB _⟩ ?_))))))
 ·exact wk1 h0 (hok:=rX d hS) (hv:=BB (hS.dif hf) hD (fun _ _ _ _ _ _ h=>h) fun _ _ h=>h)
 ·rintro⟨f,dj⟩ ⟨he,Ak,hfj⟩
  dsimp only at he Ak hfj ⊢
  obtain⟨f,rfl⟩:∃f',f=f'+1:=⟨f - 1,by omega⟩
  have hDV:=Ak.at hf (vs:=vs)
  have nG:=rX dj Ak
  have sx:∀k ds,k≠kd→k≠R→k≠G→(∀j,j<m→k≠C j)→vs.lookup k=some ds→(ov kd R G C w dj vs).lookup k=some ds:=fun k ds h1 h2 h3 h4 h=>by rw[Fd h1 h2 h3 fun j hj=>h4 j (by rw[←Ak.len];exact hj)];exact h
  generalize hV:ov kd R G C w dj vs=V at hDV nG sx ⊢
  have hdV:=hDV.hd
  have hGV:=hDV.hG
  have Kf:=hDV.lG
  refine AW.block (AW.seq (rs hx fun K hK=>?_))
  iterate 4 refine sa ?_
  refine c1 me.pc ?_
  iterate 2 refine sa ?_
  refine .nil (hK _ _ (AW.block (AW.loopW (fun t:Nat=>[(0,.pt kd 0),(13,.ow G 0 36 w),(14,dI .i64 w),(15,dI .i64 t)]) (fun _=>⟨V,lv,N⟩) (fun t=>t≤w∧∀t',t'<t→¬0<dv dj.gc[t']!) (fun t=>w - t) 0 ?_ ⟨cQ _,fun t h=>absurd h (qP _)⟩ ?_)))
  ·exact wk1 h0
  ·rintro t ⟨ht,nH⟩
   refine rs hx fun K hK=>?_
   refine sa ?_
   refine .nil (hK _ _ (AW.seq (AW.condS rfl (fun hb=>?_) (fun hb=>?_))))
   ·have htw:t<w:=by have:=cj hb;omega
    refine AW.skip (AW.seq (AW.block (rs hx fun K hK=>?_)))
    refine sa ?_
    refine i1 htw ?_
    refine l1 (Pt.el dj.gc t (by omega)) ?_
    refine n1 ?_
    refine sa ?_
    refine z1 ?_
    refine .nil (hK _ _ (AW.seq (rs hx fun K hK=>?_)))
    refine l1 (Pt.idN _) ?_
    refine cq (wN _) ?_
    refine sa ?_
    refine .nil (hK _ _ (AW.condS rfl (fun hb=>?_) (fun hb=>?_)))
    ·have hsg:dv dj.gc[t]!≤0:=cj hb
     refine AW.exit (rq hx fun K hK=>?_)
     iterate 2 refine sa ?_
     refine .nil (hK _ _ ?_)
     rw[cg (by omega)]
     refine⟨t+1,wk1 h0,⟨htw,fun t' h=>?_⟩,by omega⟩
     rcases gW t' t with h1|h1
     ·exact nH t' h1
     ·obtain rfl:t'=t:=by omega
      omega
    have hsg:¬dv dj.gc[t]!≤0:=dV hb
    have hen:pG dj.gc=some t:=LN (by omega) (by omega) nH
    unfold iv at he
    rw[hen] at he
    dsimp only at he
    refine AW.skip ?_
    have hup:∀(k:Nat) (ds:List D),V.lookup k=some ds→((N,dC (az.f dj.gc[t]!))::(N,dC zN)::V).lookup k=some ds:=fun k ds h=>by
     have hk:=nG.lt h
     exact ak (by omega) (ak (by omega) h)
    have OK:=hDV.up hup
    have Mi:=LD (lv:=lv) (N:=N+1) OK htw (by rw[Ak.len];exact hm)
    cases hlp:pf dj.rows t default dj.rows.length with
    |none=>
     rw[hlp] at Mi he
     dsimp only[IJ] at Mi he
     refine rs hx fun K hK=>?_
     iterate 2 refine sa ?_
     refine q1 (sHC Mi rfl (.inl (by kernel_rfl))) ?_
     iterate 5 refine sa ?_
     refine .nil (hK _ _ (AW.seq (rs hx fun K hK=>?_)))
     iterate 2 refine sa ?_
     refine .nil (hK _ _ (AW.condT rfl (by decide) (rs hx fun K hK=>?_)))
     iterate 3 refine sa ?_
     refine .nil (hK _ _ (AW.ret ?_))
     rw[←he,hV]
     exact rt2 h0 (hok:=nG) (hv:=hup)
    |some p=>
     rw[hlp] at Mi he
     dsimp only[IJ] at Mi he
     refine rs hx fun K hK=>?_
     iterate 2 refine sa ?_
     refine q1 (sHC Mi rfl (.inl (by kernel_rfl))) ?_
     iterate 5 refine sa ?_
     refine .nil (hK _ _ (AW.seq (rs hx fun K hK=>?_)))
     iterate 2 refine sa ?_
     refine .nil (hK _ _ (AW.condF rfl (by decide) (AW.skip (AW.seq (rs hx fun K hK=>?_)))))
     iterate 2 refine sa ?_
     refine .nil (hK _ _ (AW.condS rfl (fun hb=>?_) (fun hb=>?_)))
     ·have hp:p.1<0:=cj hb
      rw[if_pos hp] at he
      refine rs hx fun K hK=>?_
      iterate 3 refine sa ?_
      refine .nil (hK _ _ (AW.ret ?_))
      rw[←he,hV]
      exact rt2 h0 (hok:=nG) (hv:=hup)
     have hp:¬p.1<0:=dV hb
     rw[if_neg hp] at he
     obtain⟨ha,hpa⟩:=Ak.leav hlp hp
     generalize p.1.toNat=a at ha hpa he
     have hra:dj.rows[a]? =some dj.rows[a]! :=by
      have:=Ak.len
      rw[cz dj.rows a (by omega)];exact c0 _
     have hpv:=FF (lv:=lv) (N:=N+1) OK (Ak.dif hf) hra htw (Ak.b a ha) hw (by rw[Ak.len];exact hm) ⟨Ak.p0,Ak.p1⟩ ⟨Ak.m0,Ak.m1⟩
     obtain⟨Mn,hmq,hnq,hq0⟩:=Ak.pivot ha htw
     have hov:=AZ (vs:=vs) (vsX:=(N,dC (az.f dj.gc[t]!))::(N,dC zN)::V) hf Mn (by omega) fun k ds h1 h2 h3 h4 h=>hup k ds (sx k ds h1 h2 h3 h4 h)
     have Lr:=rX _ Mn
     generalize eg dj a t=q at hpv Mn hmq hnq hq0 hov Lr he
     refine AW.skip (AW.seq (rs hx fun K hK=>?_))
     iterate 3 refine sa ?_
     refine q1 (sHC hpv (by show [_,dI .i64 p.1,_]=_;rw[hpa];rfl) (.inl (by kernel_rfl))) ?_
     refine sa ?_
     refine .nil (hK _ _ (rs hx fun K hK=>?_))
     iterate 2 refine sa ?_
     refine .nil (hK _ _ (AW.condS rfl (fun hb=>?_) (fun hb=>?_)))
     ·have hq:¬q.1=0:=cj hb
      rw[if_neg hq] at he
      refine rs hx fun K hK=>?_
      iterate 3 refine sa ?_
      refine .nil (hK _ _ (AW.ret ?_))
      rw[←he]
      exact rt2 h0 (hok:=Lr) (hv:=hov)
     ·have hq:q.1=0:=by have:=dV hb;simpa using this
      rw[if_pos hq] at he
      obtain⟨hq1,hq2⟩:=hq0 hq
      exact AW.skip (AW.exit (⟨(f,q.2),wk1 h0 (hok:=Lr) (hv:=hov),⟨he,Mn,by dsimp only;omega⟩,by dsimp only;omega⟩))
   ·have htw:t=w:=by have:=dV hb;omega
    subst htw
    have hen:pG dj.gc=none:=Jm fun t' h=>nH t' (by omega)
    unfold iv at he
    rw[hen] at he
    dsimp only at he
    refine AW.exit (rs hx fun K hK=>?_)
    iterate 2 refine sa ?_
    refine .nil (hK _ _ (AW.ret ?_))
    rw[←he,hV]
    exact rt2 h0 (hok:=nG) (hv:=fun _ _ h=>h)
end
end
def Lm(p:Nu→Bool)(l:List Nu):Int:=match l.findIdx? p with
 |some i=>i
 |none=>-1
theorem NB {p:Nu→Bool}{l:List Nu}{i:Nat}(hi:i<l.length)(h:p l[i]! =true)(nH:∀j,j<i→p l[j]! =false):Lm p l=i:=by
 have:l.findIdx? p=some i:=by
  rw[pK]
  refine⟨hi,by rw[cz l i hi] at h;exact h,fun j hj=>?_⟩
  have:=nH j hj
  rw[cz l j (by omega)] at this
  simp[this]
 unfold Lm;rw[this]
theorem Ll {p:Nu→Bool}{l:List Nu}(nH:∀j,j<l.length→p l[j]! =false):Lm p l=-1:=by
 have:l.findIdx? p=none:=by
  rw[zK]
  intro x hx
  obtain⟨j,hj,rfl⟩:=CE.1 hx
  have:=nH j hj
  rwa[cz l j hj] at this
 unfold Lm;rw[this]
theorem Mz {f:FuncId}{p:Nu→Bool}(hf:∀x:Nu,ax Tryz.prog f [dG az x] (dB (p x))){l:List Nu}(hl:l.length≤1000000):ax Tryz.prog 106 [.e (slE az l),.e (.lit (.func (.func f) #[] #[]))] (dI .i64 (Lm p l)):=by
 refine bE (rs:=[.tmp 4]) (fun cx hx h0=>?_) Tryz.func106
 refine ra hx ?_
 refine AW.seq (ra hx ?_)
 refine AW.block (AW.loopW (fun i:Nat=>[(0,.e (slE az l)),(1,.e (.lit (.func (.func f) #[] #[]))),(7,dI .i64 (l.length:Nat)),(8,dI .i64 (i:Nat))]) (fun _=>⟨[],[],0⟩) (fun i=>i≤l.length∧∀j,j<i→p l[j]! =false) (fun i=>l.length - i) 0 ?_ ⟨cQ _,fun j h=>absurd h (qP _)⟩ ?_)
 ·exact wk h0 [] (wR rfl (wR rfl (wR rfl (wR rfl wTn)))) wVn wLn
 ·rintro i ⟨hi,nH⟩
  refine ra hx ?_
  refine AW.seq (AW.condS rfl (fun hb=>?_) (fun hb=>?_))
  ·have xa:i<l.length:=by have:=cj hb;omega
   refine AW.skip (AW.seq (AW.block (ra hx ?_)))
   refine rs hx fun K hK=>?_
   iterate 3 refine sa ?_
   have ml:0≤(i:Int)∧(i:Int)<((l.length:Nat):Int):=by omega
   refine s1 (g7 ml aM ay) ?_
   refine s1 (d:=dG az l[i]!) (mi (c:=az) (l:=l) (n:=i) (o:=0) ay xa (f8 _ _ rfl)) ?_
   refine sc (hf _) ?_
   refine .nil (hK _ _ (AW.condS rfl (fun hb=>?_) (fun hb=>?_)))
   ·refine ra hx ?_
    refine AW.ret ?_
    rw[NB xa hb nH]
    exact rv1
   ·refine AW.skip (rq hx fun K hK=>?_)
    iterate 2 refine sa ?_
    refine .nil (hK _ _ ?_)
    rw[cg (by omega)]
    refine⟨i+1,wk h0 [] (wR rfl (wR rfl (wR rfl (wR rfl wTn)))) wVn wLn,⟨xa,fun j hj=>?_⟩,by omega⟩
    rcases gW j i with h1|h1
    ·exact nH j h1
    ·obtain rfl:j=i:=by omega
     exact hb
  ·refine AW.exit ?_
   have xa:i=l.length:=by have:=dV hb;omega
   refine ra hx ?_
   refine AW.ret ?_
   rw[Ll fun j hj=>nH j (by omega)]
   exact rv1
theorem My(x:Nu):ax Tryz.prog 107 [dG az x] (dB (decide (dv x≠0))):=by
 refine bE (rs:=[.tmp 2]) (fun cx hx h0=>?_) Tryz.func107
 refine ra hx ?_
 refine rs hx fun K hK=>?_
 refine s1 (d:=dG az x) (au (am.id _ _) ay) ?_
 refine sc (wN x) ?_
 iterate 2 refine sa ?_
 exact .nil (hK _ _ (AW.ret (rv1)))
section
section
variable {vs V V2:List (Nat×List D)} {lv:List (Nat×Nat×Nat×TypeId)} {N kd R G w m:Nat} {C:Nat→Nat} {d d':Dic}
def eS(x:Nu)(i:Nat)(d:Dic):Dic:=⟨(d.rows.take i).map (u1 x)++d.rows.drop i,d.gk,d.gc,d.n,d.piv,d.most⟩
theorem Cq(x:Nu)(d:Dic):eS x 0 d=d:=by unfold eS;simp
theorem vG(x:Nu)(d:Dic):eS x d.rows.length d=⟨d.rows.map (u1 x),d.gk,d.gc,d.n,d.piv,d.most⟩:=by unfold eS;simp
theorem EB {x:Nu}{i:Nat}(hi:i<d.rows.length):(eS x i d).rows[i]! =d.rows[i]! :=by
 apply gf
 unfold eS
 dsimp only
 rw[pL (by simp;omega),bT,ey,rL (by omega),Nat.sub_self,nA,mf]
 exact uV hi
theorem LR {x:Nu}{i:Nat}(hi:i≤d.rows.length):(eS x i d).rows.length=d.rows.length:=by
 unfold eS;simp;omega
theorem Cr {x:Nu}{i:Nat}(hi:i<d.rows.length):(⟨(eS x i d).rows.set i (u1 x d.rows[i]!),d.gk,d.gc,d.n,d.piv,d.most⟩:Dic)=eS x (i+1) d:=by
 unfold eS
 dsimp only
 congr 1
 have hl:((d.rows.take i).map (u1 x)).length=i:=by simp;omega
 rw[List.set_append_right _ _ (by omega),hl,Nat.sub_self,HU hi,List.set_cons_zero,ym,c0 hi,jz,dy]
 rw[cz d.rows i hi]
 rfl
theorem Bc {x:Nu}{i j:Nat}(hi:i≤d.rows.length)(hj:j<d.rows.length):(eS x i d).rows[j]!.k=d.rows[j]!.k∧(eS x i d).rows[j]!.b=d.rows[j]!.b∧(eS x i d).rows[j]!.c.length=d.rows[j]!.c.length:=by
 have hl:((d.rows.take i).map (u1 x)).length=i:=by simp;omega
 by_cases h:j<i
 ·have:(eS x i d).rows[j]! =u1 x d.rows[j]! :=by
   apply gf
   unfold eS
   dsimp only
   rw[yo (by omega),ek,gM,if_pos h,uV hj]
   rfl
  rw[this]
  exact⟨rfl,rfl,eL ..⟩
 ·have:(eS x i d).rows[j]! =d.rows[j]! :=by
   apply gf
   unfold eS
   dsimp only
   rw[pL (by omega),hl,nA,show i+(j - i)=j by omega]
   exact uV hj
  rw[this]
  exact⟨rfl,rfl,rfl⟩
theorem da.colsI(h:da d w m)(x:Nu){i:Nat}(hi:i≤m):da (Go.Proofs.YtaedcknhkjpmlaaGreat.eS x i d) w m:=by
 have hl:=h.len
 refine⟨(LR (by omega)).trans hl,h.lg,fun j hj=>?_,fun j hj=>?_,h.p0,h.p1,h.m0,h.m1⟩
 ·rw[(Bc (by omega) (by omega)).2.2];exact h.lc j hj
 ·rw[(Bc (by omega) (by omega)).2.1];exact h.b j hj
theorem Fo(l:List Row):∀k,mL l k≤k
 |0=>aB _
 |k+1=>by unfold mL;have:=Fo l k;split <;> omega
theorem rowsC_c {l:List Row}{j:Nat}(hj:j<l.length)(c:List Nu):f4 C w 0 (l.set j ⟨l[j]!.k,c,l[j]!.b⟩)=f4 C w 0 l:=by
 obtain⟨A,B,_,h2,h3,_⟩:=mq C w l j (uV hj)
 rw[h2,h3]
 rfl
theorem DAt.setC(h:DAt V kd R G C w d)(hf:Dif d.rows.length kd R G C){j:Nat}(hj:j<d.rows.length)(c:List Nu)(hl:c.length=w):DAt ((C j,dC ((cW az).f c))::V) kd R G C w ⟨d.rows.set j ⟨d.rows[j]!.k,c,d.rows[j]!.b⟩,d.gk,d.gc,d.n,d.piv,d.most⟩:=by
 obtain⟨h1,h2,h3⟩:=hf.C1 j hj
 refine h.setRow hf hj ⟨d.rows[j]!.k,c,d.rows[j]!.b⟩ hl ?_ aa fun k ds _ zw hk=>ak zw hk
 rw[rowsC_c hj]
 exact ak h2.symm (h.hR (fun e=>by rw[e] at hj;simp at hj))
theorem DAt.setG(h:DAt V kd R G C w d)(hf:Dif d.rows.length kd R G C)(c:List Nu)(hl:c.length=w):DAt ((G,dC ((cW az).f c))::V) kd R G C w ⟨d.rows,d.gk,c,d.n,d.piv,d.most⟩:=
 h.setDic hf ⟨d.rows,d.gk,c,d.n,d.piv,d.most⟩ rfl hl (ak hf.dG h.hd) aa fun k ds _ zw hk=>ak zw hk
theorem ov_in(hf:Dif m kd R G C)(hS:da d w m)(h:DAt V2 kd R G C w d)(hm:0<m)(hr:∀k ds,k≠kd→k≠R→k≠G→(∀j,j<m→k≠C j)→vs.lookup k=some ds→V2.lookup k=some ds):∀j ds,(ov kd R G C w d vs).lookup j=some ds→V2.lookup j=some ds:=
 BB (hS.dif hf) h (fun k ds h1 h2 h3 h4 h5=>hr k ds h1 h2 h3 (fun j hj=>h4 j (by rw[hS.len];exact hj)) h5) fun e=>by
  have:=hS.len
  rw[e] at this
  simp only[List.length_nil] at this
  omega
theorem JY(hS:da d w m){k:Nat}{ds:List D}(h1:k≠kd)(h2:k≠R)(h3:k≠G)(h4:∀j,j<m→k≠C j)(h:vs.lookup k=some ds):(ov kd R G C w d vs).lookup k=some ds:=by
 rw[Fd h1 h2 h3 fun j hj=>h4 j (by rw[←hS.len];exact hj)];exact h
structure RowAt(V:List (Nat×List D))(R w:Nat)(C:Nat→Nat)(d:Dic)(i:Nat):Prop where
 k:∃F F',V.lookup R=some F∧Pt F (i*38+0+0) (dC (az.f d.rows[i]!.k)) F'
 c:∃F F',V.lookup R=some F∧Pt F (i*38+0+36) [.ow (C i) 0 36 w] F'
 v:V.lookup (C i)=some (dC ((cW az).f d.rows[i]!.c))
 l:d.rows[i]!.c.length=w
 r:∃F F',V.lookup R=some F∧Pt F (i*38) (iP C w i d.rows[i]!) F'
 n:∃F F',V.lookup R=some F∧Pt F (i*38+0) (bp d.rows[i]!.k (C i) w) F'
 ne:fc R d.rows=.gw R 38 d.rows.length
theorem DAt.row(h:DAt V kd R G C w d){i:Nat}(hi:i<d.rows.length):RowAt V R w C d i:=by
 have hr:d.rows[i]? =some d.rows[i]! :=uV hi
 obtain⟨A,B,hA,h2,h3,h4,h5⟩:=mq C w d.rows i hr
 have ge:d.rows≠[]:=fun e=>by rw[e] at hi;simp at hi
 exact⟨⟨_,_,h.hR ge,h4.pk⟩,⟨_,_,h.hR ge,h4.pc⟩,h.hC i _ hr,h.lC i _ hr,⟨_,_,h.hR ge,D9 h3 hA⟩,⟨_,_,h.hR ge,h4.pa⟩,pb ge⟩
theorem MS {x:Cx}{tm:List (Nat×D)}{q n2:Nat}{a:Int}{r:Int×Dic}(h0:x.hp0=⟨vs,lv,N⟩)(hr:r=(a,d))(hok:cE ⟨ov kd R G C w d vs,lv,N⟩)(hN:N≤n2)(hv:∀j ds,(ov kd R G C w d vs).lookup j=some ds→V.lookup j=some ds)(hq:tm.lookup q=some (dI .i64 a):=by exact rfl):
  ∃tm',Wk x tm ⟨V,lv,n2⟩ tm' ⟨ov kd R G C w r.2 vs,lv,N⟩∧r9 tbl [.tmp q] tm' ⟨ov kd R G C w r.2 vs,lv,N⟩ (dI .i64 r.1):=by
 subst hr
 exact rt1 h0 hok hN hv hq rfl
theorem NA(c:List Nu):Lm (fun x=>decide (dv x≠0)) c=match Aa c with|some i=>(i:Int)|none=>-1:=rfl
theorem h_begin(A8:R<N)(hD:DAt vs kd R G C w d)(hf:Dif m kd R G C)(hS:da d w m)(hw:w≤1000000)(hm:m≤1000000)(Dj:0<m)(hw0:0<w)
  (ya:∀q,eg (jH d) (mL d.rows d.rows.length) 0=q→q.1=0→(bh q.2).1.2=0→0≤ew (bh q.2).2.rows 0→Aa (bh q.2).2.rows[(ew (bh q.2).2.rows 0).toNat]!.c≠none):
  HC Tryz.prog 43 [.pt kd 0] ⟨vs,lv,N⟩ (dI .i64 (kK d).1) ⟨ov kd R G C w (kK d).2 vs,lv,N⟩:=by
 refine HC.of (rs:=[.tmp 2]) tok Tryz.func43 rfl rfl (dq rfl) rfl (fun cx hx h0 hok=>?_)
 simp only[fL,Nat.reduceAdd,bJ]
 have hl:=hS.len
 have ws:=hD.hd
 have DM:=hok.lt ws
 have OJ:=hok.lt hD.hG
 have hCN:∀j,j<m→C j<N:=fun j hj=>hok.lt (hD.hC j d.rows[j]! (uV (by omega)))
 have rX:∀d2,da d2 w m→cE ⟨ov kd R G C w d2 vs,lv,N⟩:=fun d2 h2=>z9 hok DM A8 OJ fun j hj=>hCN j (by rw[←h2.len];exact hj)
 refine rs hx fun K hK=>?_
 refine sa ?_
 refine .nil (hK _ _ (rs hx fun K hK=>?_))
 refine sa ?_
 refine .nil (hK _ _ (AW.seq (rs hx fun K hK=>?_)))
 iterate 3 refine sa ?_
 refine c1 gy ?_
 refine JM (R:=R) (l:=d.rows) rfl ?_
 refine sa ?_
 refine .nil (hK _ _ ?_)
 rw[hl]
 refine AW.block (AW.loopW (fun i:Nat=>[(0,.pt kd 0),(3,dI .i64 (mL d.rows i:Nat)),(14,dI .i64 m),(15,dI .i64 i)]) (fun i=>⟨ov kd R G C w (eS (nOf 1) i d) vs,lv,N⟩) (fun i=>i≤m) (fun i=>m - i) 0 ?_ (cQ _) ?_)
 ·rw[Cq]
  exact wk1 h0 (hok:=rX d hS) (hv:=ov_in hf hS hD Dj fun _ _ _ _ _ _ h=>h)
 ·intro i hi
  have vy:=hS.colsI (nOf 1) hi
  have A9:=vy.at hf (vs:=vs)
  have nG:=rX _ vy
  have sx:∀k ds,k≠kd→k≠R→k≠G→(∀j,j<m→k≠C j)→vs.lookup k=some ds→(ov kd R G C w (eS (nOf 1) i d) vs).lookup k=some ds:=fun k ds h1 h2 h3 h4 h=>JY vy h1 h2 h3 h4 h
  generalize hV:ov kd R G C w (eS (nOf 1) i d) vs=V at A9 nG sx ⊢
  have hdi:=A9.hd
  have hli:=vy.len
  refine rs hx fun K hK=>?_
  refine sa ?_
  refine .nil (hK _ _ (AW.seq (AW.condS rfl (fun hb=>?_) (fun hb=>?_))))
  ·have yG:i<m:=by have:=cj hb;omega
   have I1:(eS (nOf 1) i d).rows[i]! =d.rows[i]! :=EB (by omega)
   obtain⟨⟨F1,F1',e1,L1⟩,⟨F2,F2',e2,L2⟩,e3,sU,_,_,ge⟩:=A9.row (i:=i) (by omega)
   have hk1:=nG.lt e1
   have hk3:=nG.lt e3
   rw[I1] at e3 L1 sU
   refine AW.skip (AW.seq (AW.block (rs hx fun K hK=>?_)))
   iterate 2 refine sa ?_
   refine .nil (hK _ _ (rsd [28] hx fun K hK=>?_))
   iterate 3 refine sa ?_
   refine c1 gy ?_
   refine sa ?_
   refine r1 (n:=(eS (nOf 1) i d).rows.length) (i:=i) (by omega) ?_ (by show (fc R _).toOw=_;rw[ge];rfl)
   iterate 2 refine sa ?_
   refine c1 L2 ?_
   refine cq (Dy 1 (by omega)) ?_
   refine i1 (i:=0) (n:=w) hw0 ?_
   refine t1 (Pt.el d.rows[i]!.c 0 (by omega)) (Pt.el_set d.rows[i]!.c 0 (by omega) _) ?_
   refine .nil (hK _ _ ?_)
   have hdn:(⟨(eS (nOf 1) i d).rows.set i ⟨(eS (nOf 1) i d).rows[i]!.k,d.rows[i]!.c.set 0 (nOf 1),(eS (nOf 1) i d).rows[i]!.b⟩,d.gk,d.gc,d.n,d.piv,d.most⟩:Dic)=eS (nOf 1) (i+1) d:=by
    rw[I1];exact Cr (by omega)
   have Jh:=A9.setC (vy.dif hf) (j:=i) (by omega) (d.rows[i]!.c.set 0 (nOf 1)) (by rw[eL];exact sU)
   have Jh:DAt ((C i,dC ((cW az).f (d.rows[i]!.c.set 0 (nOf 1))))::V) kd R G C w (eS (nOf 1) (i+1) d):=by rw[←hdn];exact Jh
   have hSn:=hS.colsI (nOf 1) (show i+1≤m by omega)
   have nH:mL d.rows i<m:=by
    have:=Fo d.rows i
    omega
   have Ig:=hSn.len
   obtain⟨⟨F3,F3',e4,L3⟩,_,_,_,_,_,Ls⟩:=Jh.row (i:=i) (by omega)
   obtain⟨⟨F4,F4',e5,L4⟩,_⟩:=Jh.row (i:=mL d.rows i) (by omega)
   rw[(Bc (show i+1≤d.rows.length by omega) (show i<d.rows.length by omega)).1] at L3
   rw[(Bc (show i+1≤d.rows.length by omega) (show mL d.rows i<d.rows.length by omega)).1] at L4
   have hdn2:=Jh.hd
   have ui:∀j ds,(ov kd R G C w (eS (nOf 1) (i+1) d) vs).lookup j=some ds→((C i,dC ((cW az).f (d.rows[i]!.c.set 0 (nOf 1))))::V).lookup j=some ds:=ov_in hf hSn Jh Dj fun k ds h1 h2 h3 h4 h=>ak (h4 i yG) (sx k ds h1 h2 h3 h4 h)
   have hokn:=rX _ hSn
   have hokW:cE ⟨(C i,dC ((cW az).f (d.rows[i]!.c.set 0 (nOf 1))))::V,lv,N⟩:=nG.consM hk3 (eJ _)
   have hk4:=hokW.lt e4
   generalize (C i,dC ((cW az).f (d.rows[i]!.c.set 0 (nOf 1))))::V=W at Jh e4 e5 hdn2 ui ⊢
   have iL:mL d.rows (i+1)=if pD d.rows[i]!.k d.rows[mL d.rows i]!.k<0 then i else mL d.rows i:=rfl
   refine rsd [32] hx fun K hK=>?_
   iterate 3 refine sa ?_
   refine c1 gy ?_
   refine sa ?_
   refine r1 (n:=(eS (nOf 1) (i+1) d).rows.length) (i:=i) (by omega) ?_ (by show (fc R _).toOw=_;rw[Ls];rfl)
   iterate 2 refine sa ?_
   refine l1 L3 ?_
   iterate 3 refine sa ?_
   refine c1 gy ?_
   refine sa ?_
   refine r1 (n:=(eS (nOf 1) (i+1) d).rows.length) (i:=mL d.rows i) (by omega) ?_ (by show (fc R _).toOw=_;rw[Ls];rfl)
   iterate 2 refine sa ?_
   refine l1 L4 ?_
   refine cq (w_Cmp _ _) ?_
   refine sa ?_
   refine .nil (hK _ _ (AW.condS rfl (fun hb=>?_) (fun hb=>?_)))
   ·rw[if_pos (cj hb)] at iL
    refine rq hx fun K hK=>?_
    iterate 2 refine sa ?_
    refine .nil (hK _ _ (rq hx fun K hK=>?_))
    iterate 2 refine sa ?_
    refine .nil (hK _ _ ?_)
    rw[cg (by omega)]
    refine⟨i+1,?_,yG,by omega⟩
    rw[iL]
    exact wk1 h0 (hok:=hokn) (hv:=ui)
   ·rw[if_neg (dV hb)] at iL
    refine AW.skip (rq hx fun K hK=>?_)
    iterate 2 refine sa ?_
    refine .nil (hK _ _ ?_)
    rw[cg (by omega)]
    refine⟨i+1,?_,yG,by omega⟩
    rw[iL]
    exact wk1 h0 (hok:=hokn) (hv:=ui)
  ·refine AW.exit ?_
   have yG:i=m:=by have:=dV hb;omega
   subst yG
   have hlowm:mL d.rows i=mL d.rows d.rows.length:=by rw[hl]
   rw[hlowm]
   have hci:eS (nOf 1) i d=⟨d.rows.map (u1 (nOf 1)),d.gk,d.gc,d.n,d.piv,d.most⟩:=by rw[←hl];exact vG _ _
   rw[hci] at vy A9 hdi
   have hGi:=A9.hG
   -- the goal
   refine rsd [28] hx fun K hK=>?_
   iterate 4 refine sa ?_
   refine c1 me.pc ?_
   refine cq (Dy (-1) (by omega)) ?_
   refine i1 (i:=0) (n:=w) hw0 ?_
   refine t1 (Pt.el d.gc 0 (by rw[hS.lg];omega)) (Pt.el_set d.gc 0 (by rw[hS.lg];omega) _) ?_
   refine .nil (hK _ _ ?_)
   have hDs:=A9.setG (vy.dif hf) (d.gc.set 0 (nOf (-1))) (by rw[eL];exact hS.lg)
   have hDs:DAt ((G,dC ((cW az).f (d.gc.set 0 (nOf (-1)))))::V) kd R G C w (jH d):=hDs
   have hSs:da (jH d) w i:=by
    refine⟨vy.len,?_,vy.lc,vy.b,hS.p0,hS.p1,hS.m0,hS.m1⟩
    show (d.gc.set 0 (nOf (-1))).length=w
    rw[eL];exact hS.lg
   have BV:∀k ds,k≠kd→k≠R→k≠G→(∀j,j<i→k≠C j)→vs.lookup k=some ds→((G,dC ((cW az).f (d.gc.set 0 (nOf (-1)))))::V).lookup k=some ds:=fun k ds h1 h2 h3 h4 h=>ak h3 (sx k ds h1 h2 h3 h4 h)
   generalize (G,dC ((cW az).f (d.gc.set 0 (nOf (-1)))))::V=W at hDs BV ⊢
   have hdW:=hDs.hd
   have hms:0<(jH d).rows.length:=by rw[hSs.len];omega
   have nH:mL d.rows d.rows.length<i:=by
    rcases qO i with e|e
    ·omega
    ·have:mL d.rows i<i:=by
      have h3:∀n,0<n→mL d.rows n<n:=by
       intro n hn
       obtain⟨n,rfl⟩:∃n',n=n'+1:=⟨n - 1,by omega⟩
       unfold mL
       have:=Fo d.rows n
       split <;> omega
      exact h3 i e
     omega
   have hra:(jH d).rows[mL d.rows d.rows.length]? =some (jH d).rows[mL d.rows d.rows.length]! :=uV (by rw[hSs.len];exact nH)
   have hpv:=FF (lv:=lv) (N:=N) hDs (hSs.dif hf) hra hw0 (hSs.b _ nH) hw (by rw[hSs.len];exact hm) ⟨hSs.p0,hSs.p1⟩ ⟨hSs.m0,hSs.m1⟩
   obtain⟨Mn,_⟩:=hSs.pivot nH hw0
   have hov1:=AZ (vs:=vs) (vsX:=W) hf Mn Dj BV
   have Lr:=rX _ Mn
   have tq:kK d=(let p:=eg (jH d) (mL d.rows d.rows.length) 0;if p.1≠0 then p else let q:=bh p.2;if q.1.2≠0∨dv q.2.gk<0 then (q.1.2,q.2) else if ew q.2.rows 0<0 then (0,q.2) else match Aa q.2.rows[(ew q.2.rows 0).toNat]!.c with|none=>(0,q.2)|some s=>eg q.2 (ew q.2.rows 0).toNat s):=rfl
   have ya:=ya _ rfl
   generalize eg (jH d) (mL d.rows d.rows.length) 0=q at hpv Mn hov1 Lr tq ya
   dsimp only at tq
   refine AW.seq (rs hx fun K hK=>?_)
   iterate 2 refine sa ?_
   refine q1 (sHC hpv rfl (.inl (by kernel_rfl))) ?_
   refine sa ?_
   refine .nil (hK _ _ (rs hx fun K hK=>?_))
   iterate 2 refine sa ?_
   refine .nil (hK _ _ (AW.condS rfl (fun hb=>?_) (fun hb=>?_)))
   ·have hq:q.1≠0:=cj hb
    rw[if_pos hq] at tq
    refine rs hx fun K hK=>?_
    iterate 2 refine sa ?_
    exact .nil (hK _ _ (AW.ret (MS h0 tq Lr (aB _) hov1)))
   have hq0:q.1=0:=by have:=dV hb;simpa using this
   rw[if_neg (fun e=>e hq0)] at tq
   have ya:=ya hq0
   refine AW.skip ?_
   -- improving
   have yG:=Ev (lv:=lv) (N:=N) A8 (Mn.at hf (vs:=W)) hf Mn hw hm
   obtain⟨Ew,hmr,hnr,Gn,hr2⟩:=Mn.improve ((q.2.most - q.2.piv).toNat+1)
   change da (bh q.2).2 w i at Ew
   have hout3:∀k ds,k≠kd→k≠R→k≠G→(∀j,j<i→k≠C j)→vs.lookup k=some ds→(ov kd R G C w q.2 W).lookup k=some ds:=fun k ds h1 h2 h3 h4 h=>JY Mn h1 h2 h3 h4 (BV k ds h1 h2 h3 h4 h)
   have NZ:=AZ (vs:=vs) (vsX:=ov kd R G C w q.2 W) hf Ew Dj hout3
   have hokr:=rX _ Ew
   generalize bh q.2=r at yG Ew NZ hokr tq ya
   have hDr:=Ew.at hf (vs:=ov kd R G C w q.2 W)
   have hdr:=hDr.hd
   refine AW.seq (rs hx fun K hK=>?_)
   refine sa ?_
   refine q1 (sHC yG rfl (.inl (by kernel_rfl))) ?_
   iterate 5 refine sa ?_
   refine .nil (hK _ _ ?_)
   generalize hX:ov kd R G C w r.2 (ov kd R G C w q.2 W)=X at hDr hdr NZ ⊢
   refine rs hx fun K hK=>?_
   iterate 3 refine sa ?_
   by_cases he:r.1.2≠0
   ·have e1:decide (r.1.2≠0)=true:=aF he
    iterate 7 refine gn e1 ?_
    refine s1 (d:=dB true) (aw e1) ?_
    refine .nil (hK _ _ ?_)
    rw[if_pos (.inl he)] at tq
    refine AW.condT rfl rfl (rs hx fun K hK=>?_)
    iterate 2 refine sa ?_
    exact .nil (hK _ _ (AW.ret (MS h0 tq hokr (aB _) NZ)))
   have e1:decide (r.1.2≠0)=false:=bH he
   iterate 4 refine ga e1 ?_
   refine l1g me.pk e1 ?_
   refine cqg (wN _) e1 ?_
   refine ga e1 ?_
   refine s1 (d:=dB (decide (dv r.2.gk<0))) (al e1) ?_
   refine .nil (hK _ _ ?_)
   have he0:r.1.2=0:=Classical.not_not.1 he
   refine AW.condS rfl (fun hb=>?_) (fun hb=>?_)
   ·rw[if_pos (.inr (cj hb))] at tq
    refine rs hx fun K hK=>?_
    iterate 2 refine sa ?_
    exact .nil (hK _ _ (AW.ret (MS h0 tq hokr (aB _) NZ)))
   rw[if_neg (by rintro (e|e);exact he e;exact dV hb e)] at tq
   have ya:=ya he0
   refine AW.skip ?_
   -- x(0)
   have hfd:=Jg (lv:=lv) (N:=N) (v:=0) hDr (by rw[Ew.len];exact hm)
   refine AW.seq (rs hx fun K hK=>?_)
   refine sa ?_
   refine q1 (sHC hfd rfl (.inl (by kernel_rfl))) ?_
   refine sa ?_
   refine .nil (hK _ _ (rs hx fun K hK=>?_))
   iterate 2 refine sa ?_
   refine .nil (hK _ _ (AW.condS rfl (fun hb=>?_) (fun hb=>?_)))
   ·have t4:0≤ew r.2.rows 0:=cj hb
    rw[if_neg (by omega)] at tq
    obtain⟨a,ha,LB⟩:∃a:Nat,a<i∧ew r.2.rows 0=(a:Int):=by
     have hlr:=Ew.len
     unfold ew at t4 ⊢
     cases Lw:r.2.rows.findIdx? fun r=>decide (r.b=0) with
     |none=>rw[Lw] at t4;exact absurd t4 (by decide)
     |some a=>exact⟨a,by have:=(pK.1 Lw).1;omega,rfl⟩
    have ya:=ya t4
    rw[LB,show ((a:Int)).toNat=a by omega] at tq ya
    cases N7:Aa r.2.rows[a]!.c with
    |none=>exact absurd N7 ya
    |some sN=>
    rw[N7] at tq
    dsimp only at tq
    have hsw:sN<w:=by
     unfold Aa at N7
     have:=(pK.1 N7).1
     rw[Ew.lc a ha] at this;exact this
    obtain⟨_,⟨F2,F2',e2,L2⟩,e3,sU,_,_,ge⟩:=hDr.row (i:=a) (by rw[Ew.len];exact ha)
    have hix:=HC.frz (hp:=⟨X,lv,N⟩) (Mz My (l:=r.2.rows[a]!.c) (by omega)) (ds:=[.ow (C a) 0 36 w,.e (.lit (.func (.func 107) #[] #[]))]) ⟨AR.list e3 sU,AR.data rfl,trivial⟩ rfl
    rw[NA,N7] at hix
    dsimp only at hix
    have hrb:r.2.rows[a]? =some r.2.rows[a]! :=uV (by rw[Ew.len];exact ha)
    have hpv2:=FF (lv:=lv) (N:=N) hDr (Ew.dif hf) hrb hsw (Ew.b a ha) hw (by rw[Ew.len];exact hm) ⟨Ew.p0,Ew.p1⟩ ⟨Ew.m0,Ew.m1⟩
    obtain⟨hSz,_⟩:=Ew.pivot ha hsw
    have hout4:∀k ds,k≠kd→k≠R→k≠G→(∀j,j<i→k≠C j)→vs.lookup k=some ds→X.lookup k=some ds:=fun k ds h1 h2 h3 h4 h=>by rw[←hX];exact JY Ew h1 h2 h3 h4 (hout3 k ds h1 h2 h3 h4 h)
    have hov3:=AZ (vs:=vs) (vsX:=X) hf hSz Dj hout4
    have hokz:=rX _ hSz
    generalize eg r.2 a sN=z at hpv2 hSz hov3 hokz tq
    have zw:R<N:=A8
    have heX:X.lookup R=some F2:=e2
    refine rs hx fun K hK=>?_
    iterate 3 refine sa ?_
    refine c1 gy ?_
    refine sa ?_
    refine r1 (n:=r.2.rows.length) (i:=a) (by rw[Ew.len];exact ha) ?_ (by show (fc R _).toOw=_;rw[ge];rfl) (by show D.toOw (dI .i64 _)=_;rw[LB];rfl)
    iterate 2 refine sa ?_
    refine c1 L2 ?_
    refine q1 (sHC hix rfl (.inl (by kernel_rfl))) ?_
    refine sa ?_
    refine .nil (hK _ _ (rs hx fun K hK=>?_))
    iterate 3 refine sa ?_
    refine q1 (sHC hpv2 (by show [_,dI .i64 (ew r.2.rows 0),_]=_;rw[LB];rfl) (.inl (by kernel_rfl))) ?_
    refine sa ?_
    exact .nil (hK _ _ (AW.ret (MS h0 tq hokz (aB _) hov3)))
   ·have bX:ew r.2.rows 0<0:=by have:=dV hb;omega
    rw[if_pos bX] at tq
    refine AW.skip (rs hx fun K hK=>?_)
    refine sa ?_
    exact .nil (hK _ _ (AW.ret (MS h0 tq hokr (aB _) NZ)))
end
end
section
theorem vb(l:List Row)(w:Nat)(c:List Nu):∀k,(py l w c k).2.length=w
 |0=>by simp[py]
 |k+1=>by
  unfold py
  dsimp only
  split
  ·rw[yq];exact vb l w c k
  ·rw[eL];exact vb l w c k
section
variable {vs V V2:List (Nat×List D)} {lv:List (Nat×Nat×Nat×TypeId)} {N kd R G w m:Nat} {C:Nat→Nat} {d d':Dic}
theorem DAt.setGK(h:DAt V kd R G C w d)(hf:Dif d.rows.length kd R G C)(k:Nu)(c:List Nu)(hl:c.length=w):DAt ((G,dC ((cW az).f c))::(kd,[fc R d.rows]++bp k G w++[dI .i64 d.n,dI .i64 d.piv,dI .i64 d.most])::V) kd R G C w ⟨d.rows,k,c,d.n,d.piv,d.most⟩:=
 h.setDic hf ⟨d.rows,k,c,d.n,d.piv,d.most⟩ rfl hl (ak hf.dG aa) aa fun j ds h1 h2 hj=>ak h2 (ak h1 hj)
theorem uJ(hf:Dif m kd R G C)(hS:da d w m)(h:DAt V2 kd R G C w d)(hr:∀k ds,k≠kd→(m≠0→k≠R)→k≠G→(∀j,j<m→k≠C j)→vs.lookup k=some ds→V2.lookup k=some ds):∀j ds,(ov kd R G C w d vs).lookup j=some ds→V2.lookup j=some ds:=
 BB (hS.dif hf) h (fun k ds h1 h2 h3 h4 h5=>hr k ds h1 (fun _=>h2) h3 (fun j hj=>h4 j (by rw[hS.len];exact hj)) h5) fun e ds h5=>by
  have hm:=hS.len
  rw[e] at hm
  simp only[List.length_nil] at hm
  exact hr R ds hf.dR.symm (fun hh=>absurd hm.symm hh) hf.RG (fun j hj=>by omega) h5
theorem BC(hS:da d w m){k:Nat}{ds:List D}(h1:k≠kd)(h2:m≠0→k≠R)(h3:k≠G)(h4:∀j,j<m→k≠C j)(h:vs.lookup k=some ds):(ov kd R G C w d vs).lookup k=some ds:=by
 by_cases hm:m=0
 ·have hl:=hS.len
  have hr:d.rows=[]:=List.length_eq_zero_iff.1 (by omega)
  refine ak h1 (ak h3 ?_)
  rw[hr];exact h
 ·exact JY hS h1 (h2 hm) h3 h4 h
theorem rtN {x:Cx}{tm:List (Nat×D)}{vs0:List (Nat×List D)}{lv0:List (Nat×Nat×Nat×TypeId)}{N0 M n2 q:Nat}{a:D}(h0:x.hp0=⟨vs0,lv0,N0⟩)(hM:N0≤M)(hok:cE ⟨V,lv,M⟩)(hN:M≤n2)(hv:∀j ds,V.lookup j=some ds→V2.lookup j=some ds)(hq:tm.lookup q=some a:=by exact rfl)(hd:a.idsB M=true:=by exact rfl):
  ∃tm',Wk x tm ⟨V2,lv,n2⟩ tm' ⟨V,lv,M⟩∧r9 tbl [.tmp q] tm' ⟨V,lv,M⟩ a:=
 ⟨[(q,a)],wkS (by rw[h0];exact hM) hN hok hv (bU.nil.cons hq hd),⟨a,aa,rfl⟩⟩
theorem h_aim {c:List Nu}(A8:R<N)(hD:DAt vs kd R G C w d)(hf:Dif m kd R G C)(hS:da d w m)(hw:w≤1000000)(hm:m≤1000000)(hw0:0<w)(hc:c.length+1≤w):
  HC Tryz.prog 45 [.pt kd 0,.e (slE az c)] ⟨vs,lv,N⟩ (dI .i64 (mV d c).1) ⟨ov kd R (N+3) C w (mV d c).2 vs,lv,N+4⟩:=by
 refine HC.of (rs:=[.tmp 4]) tok Tryz.func45 rfl rfl (dq rfl) rfl (fun cx hx h0 hok=>?_)
 simp only[fL,Nat.reduceAdd,bJ]
 have hl:=hS.len
 have ws:=hD.hd
 have DM:=hok.lt ws
 have OJ:=hok.lt hD.hG
 have hGV:=hD.hG
 have Kf:=hD.lG
 have hCN:∀j,j<m→C j<N:=fun j hj=>hok.lt (hD.hC j d.rows[j]! (uV (by omega)))
 have B0:Dif m kd R (N+3) C:=⟨hf.dR,by omega,by omega,fun i hi=>⟨(hf.C1 i hi).1,(hf.C1 i hi).2.1,by have:=hCN i hi;omega⟩,hf.C2⟩
 refine rs hx fun K hK=>?_
 refine sa ?_
 refine .nil (hK _ _ (rs hx fun K hK=>?_))
 iterate 5 refine sa ?_
 refine c1 me.pc ?_
 refine sa ?_
 refine q1 (sHC (vw hw) rfl (.inr ⟨by show N≤N+4;omega,fun j hj=>by have hj:j<N:=hj;exact (ar (by omega)).trans (ar (by omega))⟩)) ?_
 iterate 2 refine sa ?_
 refine v1 (ys:=bp (nOf 0) (N+3) w) (me (R:=R) (G:=G) (w:=w) (d:=d)).pa (cf _ _ _) ((cf _ _ _).trans (cf d.gk G w).symm) rfl ?_
 refine .nil (hK _ _ ?_)
 -- the dictionary with the goal 0
 obtain⟨dz,hdz⟩:∃dz:Dic,dz=⟨d.rows,nOf 0,List.replicate w (nOf 0),d.n,d.piv,d.most⟩:=⟨_,rfl⟩
 have hSz:da dz w m:=by rw[hdz];exact⟨hl,by simp,hS.lc,hS.b,hS.p0,hS.p1,hS.m0,hS.m1⟩
 obtain⟨V0,Do⟩:∃V0,V0=(kd,[fc R d.rows]++bp (nOf 0) (N+3) w++[dI .i64 d.n,dI .i64 d.piv,dI .i64 d.most])::(N,bp (nOf 0) (N+3) w)::(N+3,dC ((cW az).f (List.replicate w (nOf 0))))::vs:=⟨_,rfl⟩
 have hDz:DAt V0 kd R (N+3) C w dz:=by
  rw[Do,hdz]
  refine⟨aa,fun ge=>ak hf.dR.symm (ak (by omega) (ak (by omega) (hD.hR ge))),ak (by omega) (ak (by omega) aa),fun i r hr=>?_,by simp,hS.lC⟩
  have hi:=(fP.1 hr).1
  have hi:i<m:=by rw[←hl];exact hi
  have:=hCN i hi
  exact ak (hf.C1 i hi).1 (ak (by omega) (ak (by omega) (hD.hC i r hr)))
 have hok0:cE ⟨V0,lv,N+4⟩:=by
  rw[Do]
  refine cE.consM ?_ (by omega) ?_
  ·refine cE.consM ?_ (by omega) (iT (by omega))
   exact cE.consM (hok.up (by omega)) (by omega) (eJ _)
  ·exact qF (d:=⟨d.rows,nOf 0,List.replicate w (nOf 0),d.n,d.piv,d.most⟩) (R:=R) (G:=N+3) (w:=w) (by omega) (by omega)
 have Kc:∀k ds,k≠kd→(m≠0→k≠R)→k≠N+3→(∀j,j<m→k≠C j)→vs.lookup k=some ds→V0.lookup k=some ds:=fun k ds h1 h2 h3 h4 h=>by
  have:=hok.lt h
  rw[Do];exact ak h1 (ak (by omega) (ak h3 h))
 rw[←Do]
 have rX:∀d2,da d2 w m→cE ⟨ov kd R (N+3) C w d2 vs,lv,N+4⟩:=fun d2 h2=>z9 (hok.up (by omega)) (by omega) (by omega) (by omega) fun j hj=>by have:=hCN j (by rw[←h2.len];exact hj);omega
 -- the rows
 refine AW.seq (rs hx fun K hK=>?_)
 have hdz0:=hDz.hd
 iterate 3 refine sa ?_
 refine c1 gy ?_
 refine JM (R:=R) (l:=dz.rows) rfl ?_
 refine sa ?_
 refine .nil (hK _ _ ?_)
 rw[hSz.len]
 refine AW.block (AW.loopW (fun i:Nat=>[(0,.pt kd 0),(1,.e (slE az c)),(23,dI .i64 m),(24,dI .i64 i)]) (fun i=>⟨ov kd R (N+3) C w (eS (nOf 0) i dz) vs,lv,N+4⟩) (fun i=>i≤m) (fun i=>m - i) 0 ?_ (cQ _) ?_)
 ·rw[Cq]
  exact wk1 h0 (hok:=rX dz hSz) (hv:=uJ B0 hSz hDz Kc)
 ·intro i hi
  have vy:=hSz.colsI (nOf 0) hi
  have A9:=vy.at B0 (vs:=vs)
  have nG:=rX _ vy
  have sx:∀k ds,k≠kd→(m≠0→k≠R)→k≠N+3→(∀j,j<m→k≠C j)→vs.lookup k=some ds→(ov kd R (N+3) C w (eS (nOf 0) i dz) vs).lookup k=some ds:=fun k ds h1 h2 h3 h4 h=>BC vy h1 h2 h3 h4 h
  have hzl:=hSz.len
  generalize hV:ov kd R (N+3) C w (eS (nOf 0) i dz) vs=V at A9 nG sx ⊢
  have hdi:=A9.hd
  have hli:=vy.len
  refine rs hx fun K hK=>?_
  refine sa ?_
  refine .nil (hK _ _ (AW.seq (AW.condS rfl (fun hb=>?_) (fun hb=>?_))))
  ·have yG:i<m:=by have:=cj hb;omega
   have I1:(eS (nOf 0) i dz).rows[i]! =dz.rows[i]! :=EB (by omega)
   obtain⟨⟨F1,F1',e1,L1⟩,⟨F2,F2',e2,L2⟩,e3,sU,_,_,ge⟩:=A9.row (i:=i) (by omega)
   have hk1:=nG.lt e1
   have hk3:=nG.lt e3
   rw[I1] at e3 L1 sU
   refine AW.skip (AW.seq (AW.block (rs hx fun K hK=>?_)))
   iterate 2 refine sa ?_
   refine .nil (hK _ _ (rqd [28] hx fun K hK=>?_))
   iterate 3 refine sa ?_
   refine c1 gy ?_
   refine sa ?_
   refine r1 (n:=(eS (nOf 0) i dz).rows.length) (i:=i) (by omega) ?_ (by show (fc R _).toOw=_;rw[ge];rfl)
   iterate 2 refine sa ?_
   refine c1 L2 ?_
   refine cq (Dy 0 (by omega)) ?_
   refine i1 (i:=0) (n:=w) hw0 ?_
   refine t1 (Pt.el dz.rows[i]!.c 0 (by omega)) (Pt.el_set dz.rows[i]!.c 0 (by omega) _) ?_
   refine .nil (hK _ _ ?_)
   have hdn:(⟨(eS (nOf 0) i dz).rows.set i ⟨(eS (nOf 0) i dz).rows[i]!.k,dz.rows[i]!.c.set 0 (nOf 0),(eS (nOf 0) i dz).rows[i]!.b⟩,dz.gk,dz.gc,dz.n,dz.piv,dz.most⟩:Dic)=eS (nOf 0) (i+1) dz:=by
    rw[I1];exact Cr (by omega)
   have Jh:=A9.setC (vy.dif B0) (j:=i) (by omega) (dz.rows[i]!.c.set 0 (nOf 0)) (by rw[eL];exact sU)
   have Jh:DAt ((C i,dC ((cW az).f (dz.rows[i]!.c.set 0 (nOf 0))))::V) kd R (N+3) C w (eS (nOf 0) (i+1) dz):=by rw[←hdn];exact Jh
   have hSn:=hSz.colsI (nOf 0) (show i+1≤m by omega)
   have ui:=uJ (vs:=vs) B0 hSn Jh fun k ds h1 h2 h3 h4 h=>ak (h4 i yG) (sx k ds h1 h2 h3 h4 h)
   have hokn:=rX _ hSn
   refine rq hx fun K hK=>?_
   iterate 2 refine sa ?_
   refine .nil (hK _ _ ?_)
   rw[cg (by omega)]
   exact⟨i+1,wk1 h0 (hok:=hokn) (hv:=ui),yG,by omega⟩
  ·refine AW.exit ?_
   have yG:i=m:=by have:=dV hb;omega
   subst yG
   have hci:eS (nOf 0) i dz=⟨d.rows.map (u1 (nOf 0)),nOf 0,List.replicate w (nOf 0),d.n,d.piv,d.most⟩:=by
    rw[←hzl,vG,hdz]
   rw[hci] at vy A9 hdi
   -- the numbers of the program
   obtain⟨rz,hrz⟩:∃rz,rz=d.rows.map (u1 (nOf 0)):=⟨_,rfl⟩
   rw[←hrz] at vy A9 hdi
   have hSk:∀k,da ⟨rz,(py rz w c k).1,(py rz w c k).2,d.n,d.piv,d.most⟩ w i:=fun k=>⟨vy.len,vb rz w c k,vy.lc,vy.b,hS.p0,hS.p1,hS.m0,hS.m1⟩
   have haim:mV d c=(if iM (py rz w c c.length).1 (py rz w c c.length).2 then 0 else 30,⟨rz,(py rz w c c.length).1,(py rz w c c.length).2,d.n,d.piv,d.most⟩):=by
    unfold mV aimD
    rw[←hrz,hS.lg]
   refine AW.seq (rs hx fun K hK=>?_)
   iterate 3 refine sa ?_
   refine .nil (hK _ _ (AW.block (AW.loopW (fun k:Nat=>[(0,.pt kd 0),(39,.e (slE az c)),(40,dI .i64 (c.length:Nat)),(41,dI .i64 k)]) (fun k=>⟨ov kd R (N+3) C w ⟨rz,(py rz w c k).1,(py rz w c k).2,d.n,d.piv,d.most⟩ vs,lv,N+4⟩) (fun k=>k≤c.length) (fun k=>c.length - k) 0 ?_ (cQ _) ?_)))
   ·exact wk1 h0 (hok:=rX _ (hSk 0)) (hv:=uJ B0 (hSk 0) A9 sx)
   ·intro k hk
    have Ak:=hSk k
    have hDj:=Ak.at B0 (vs:=vs)
    have nG:=rX _ Ak
    have sx:∀k' ds,k'≠kd→(i≠0→k'≠R)→k'≠N+3→(∀j,j<i→k'≠C j)→vs.lookup k'=some ds→(ov kd R (N+3) C w ⟨rz,(py rz w c k).1,(py rz w c k).2,d.n,d.piv,d.most⟩ vs).lookup k'=some ds:=fun k' ds h1 h2 h3 h4 h=>BC Ak h1 h2 h3 h4 h
    have DO:py rz w c (k+1)=(if 0≤ew rz ((k+1:Nat):Int) then (CK c[k]! rz[(ew rz ((k+1:Nat):Int)).toNat]!.k (py rz w c k).1,zT c[k]! rz[(ew rz ((k+1:Nat):Int)).toNat]!.c (-1) (py rz w c k).2) else ((py rz w c k).1,(py rz w c k).2.set (k+1) (od (py rz w c k).2[k+1]! c[k]!))):=rfl
    have yF:=vb rz w c k
    clear hV Kc nG
    have nG:=rX _ Ak
    generalize ov kd R (N+3) C w ⟨rz,(py rz w c k).1,(py rz w c k).2,d.n,d.piv,d.most⟩ vs=W at hDj nG sx ⊢
    have LF:=hSk (k+1)
    refine rs hx fun K hK=>?_
    refine sa ?_
    refine .nil (hK _ _ (AW.seq (AW.condS rfl (fun hb=>?_) (fun hb=>?_))))
    ·have hkc:k<c.length:=by have:=cj hb;omega
     have ml:0≤(k:Int)∧(k:Int)<((c.length:Nat):Int):=by omega
     refine AW.skip (AW.seq (AW.block (rs hx fun K hK=>?_)))
     refine sa ?_
     refine s1 (g7 ml aM ay) ?_
     refine s1 (d:=dG az c[k]!) (mi (c:=az) (l:=c) (n:=k) (o:=0) ay hkc (f8 _ _ rfl)) ?_
     refine n1 ?_
     refine sa ?_
     refine z1 ?_
     refine .nil (hK _ _ ?_)
     generalize c[k]! =ck at DO ⊢
     generalize py rz w c k=g1 at DO hDj yF Ak sx
     have hup:∀(j:Nat) (ds:List D),W.lookup j=some ds→((N+4,dC (az.f ck))::(N+4,dC zN)::W).lookup j=some ds:=fun j ds h=>by
      have:=nG.lt h
      exact ak (by omega) (ak (by omega) h)
     have OK:=hDj.up hup
     have hfd:=Jg (lv:=lv) (N:=N+4+1) (v:=((k+1:Nat):Int)) OK (by show rz.length≤_;have:=vy.len;dsimp only at this;omega)
     have hoX:cE ⟨(N+4,dC (az.f ck))::(N+4,dC zN)::W,lv,N+4+1⟩:=cE.consM (cE.consM (nG.up (by omega)) (by omega) (eJ _)) (by omega) (eJ _)
     have BV:∀k' ds,k'≠kd→(i≠0→k'≠R)→k'≠N+3→(∀j,j<i→k'≠C j)→vs.lookup k'=some ds→((N+4,dC (az.f ck))::(N+4,dC zN)::W).lookup k'=some ds:=fun k' ds h1 h2 h3 h4 h=>hup k' ds (sx k' ds h1 h2 h3 h4 h)
     have hcX:((N+4,dC (az.f ck))::(N+4,dC zN)::W).lookup (N+4)=some (dC (az.f ck)):=aa
     generalize (N+4,dC (az.f ck))::(N+4,dC zN)::W=X at OK hfd hoX BV hcX ⊢
     have hdX:=OK.hd
     have hGX:=OK.hG
     refine rs hx fun K hK=>?_
     iterate 3 refine sa ?_
     rw[cg (by omega)]
     refine q1 (sHC hfd rfl (.inl (by kernel_rfl))) ?_
     refine sa ?_
     refine .nil (hK _ _ (rs hx fun K hK=>?_))
     iterate 2 refine sa ?_
     refine .nil (hK _ _ ?_)
     dsimp only
     refine AW.condS rfl (fun hb=>?_) (fun hb=>?_)
     ·have t4:0≤ew rz ((k+1:Nat):Int):=cj hb
      rw[if_pos t4] at DO
      obtain⟨a,ha,LB⟩:∃a:Nat,a<i∧ew rz ((k+1:Nat):Int)=(a:Int):=by
       have hlr:=vy.len
       dsimp only at hlr
       unfold ew at t4 ⊢
       cases Lw:rz.findIdx? fun r=>decide (r.b=((k+1:Nat):Int)) with
       |none=>rw[Lw] at t4;exact absurd t4 (by decide)
       |some a=>exact⟨a,by have:=(pK.1 Lw).1;omega,rfl⟩
      rw[LB,show ((a:Int)).toNat=a by omega] at DO
      have hra:=OK.row (i:=a) (by have:=vy.len;dsimp only at this ⊢;omega)
      obtain⟨_,_,e3,sU,_,⟨F5,F5',e5,L5⟩,ge⟩:=hra
      dsimp only at e3 sU L5 ge
      have hk5:=hoX.lt e5
      have hkX:=hoX.lt hdX
      have hkC:=B0.C1 a ha
      have hadd:=h_add (lv:=lv) (N:=N+4+1) (q:=ck) (xk:=rz[a]!.k) (but:=-1) hdX me hGX OK.lG e3 sU B0.dG hkC.2.2 hkC.1 hw
      refine rqd [] hx fun K hK=>?_
      iterate 3 refine sa ?_
      refine l1 (Pt.idN ck) ?_
      iterate 3 refine sa ?_
      refine c1 gy ?_
      refine sa ?_
      refine r1 (n:=rz.length) (i:=a) (by have:=vy.len;dsimp only at this;omega) ?_ (by show (fc R _).toOw=_;rw[ge];rfl) (by show D.toOw (dI .i64 _)=_;rw[LB];rfl)
      refine sa ?_
      refine p1 L5 (cf _ _ _) ?_
      refine q1 (sHC hadd rfl (.inl (by kernel_rfl))) ?_
      refine .nil (hK _ _ ?_)
      have Jh:=OK.setGK (Ak.dif B0) (CK ck rz[a]!.k g1.1) (zT ck rz[a]!.c (-1) g1.2) (by rw[yq];exact yF)
      refine rq hx fun K hK=>?_
      iterate 2 refine sa ?_
      refine .nil (hK _ _ ?_)
      rw[cg (by omega)]
      rw[DO] at LF
      refine⟨k+1,?_,hkc,by omega⟩
      rw[DO]
      exact wk1 h0 (hok:=rX _ LF) (hv:=uJ B0 LF Jh fun k' ds h1 h2 h3 h4 h=>ak h3 (ak h1 (BV k' ds h1 h2 h3 h4 h)))
     ·have bX:¬0≤ew rz ((k+1:Nat):Int):=dV hb
      rw[if_neg bX] at DO
      refine rqd [66] hx fun K hK=>?_
      iterate 4 refine sa ?_
      refine c1 me.pc ?_
      iterate 2 refine sa ?_
      rw[cg (by omega)]
      iterate 4 refine sa ?_
      refine c1 me.pc ?_
      iterate 2 refine sa ?_
      rw[cg (by omega)]
      refine i1 (i:=k+1) (n:=w) (by omega) ?_
      refine l1 (Pt.el g1.2 (k+1) (by omega)) ?_
      refine l1 (Pt.idN ck) ?_
      refine cq (w_Add _ _) ?_
      refine i1 (i:=k+1) (n:=w) (by omega) ?_
      refine t1 (Pt.el g1.2 (k+1) (by omega)) (Pt.el_set g1.2 (k+1) (by omega) _) ?_
      refine .nil (hK _ _ ?_)
      have Jh:=OK.setG (Ak.dif B0) (g1.2.set (k+1) (od g1.2[k+1]! ck)) (by rw[eL];exact yF)
      refine rq hx fun K hK=>?_
      iterate 2 refine sa ?_
      refine .nil (hK _ _ ?_)
      rw[cg (by omega)]
      rw[DO] at LF
      refine⟨k+1,?_,hkc,by omega⟩
      rw[DO]
      exact wk1 h0 (hok:=rX _ LF) (hv:=uJ B0 LF Jh fun k' ds h1 h2 h3 h4 h=>ak h3 (BV k' ds h1 h2 h3 h4 h))
    ·refine AW.exit ?_
     have hkc:k=c.length:=by have:=dV hb;omega
     subst hkc
     have hdX:=hDj.hd
     have hgd:=Jf (lv:=lv) (N:=N+4) (k:=(py rz w c c.length).1) hDj.hG yF hw
     have ui:=uJ (vs:=vs) B0 Ak hDj sx
     refine AW.seq (rs hx fun K hK=>?_)
     iterate 3 refine sa ?_
     refine p1 me.pa (cf _ _ _) ?_
     refine q1 (sHC hgd rfl (.inl (by kernel_rfl))) ?_
     refine sa ?_
     refine .nil (hK _ _ ?_)
     rw[haim]
     refine AW.condS rfl (fun hb=>?_) (fun hb=>?_)
     ·rw[if_neg (by simpa using hb)]
      refine rs hx fun K hK=>?_
      refine sa ?_
      exact .nil (hK _ _ (AW.ret (rtN h0 (sI N 4) (rX _ Ak) (aB _) ui)))
     ·rw[if_pos (by simpa using hb)]
      refine AW.skip (rs hx fun K hK=>?_)
      refine sa ?_
      exact .nil (hK _ _ (AW.ret (rtN h0 (sI N 4) (rX _ Ak) (aB _) ui)))
end
end
section
theorem HC.conv {P:Program}{f:FuncId}{ds ds':List D}{hp hp':Hp}{d:D}(hl:ds'.length=ds.length)(hr:∀(g:Gh) (w:World) (j:Nat) (a b:D) (v:Value),ds[j]? =some a→ds'[j]? =some b→aO hp g w a v→aO hp g w b v)(hc:HC P f ds' hp d hp'):HC P f ds hp d hp':=by
 refine⟨hc.1,fun B g w vs o4 hsz dc=>hc.2 B g w vs o4 (by omega) fun j e u he hu=>?_⟩
 have hj:j<ds.length:=by rw[←hl];exact (fP.1 he).1
 exact hr g w j ds[j] e u (c0 hj) he (dc j ds[j] u (c0 hj) hu)
theorem JS {hp:Hp}{g:Gh}{w:World}{f:FuncId}{v:Value}(h:aO hp g w (.e (.lit (.func (.func f) #[] #[]))) v):aO hp g w (.fn f []) v:=by
 have h2:=h.lit
 subst h2
 exact .fn f [] (fun k hk=>absurd hk (pJ))
section
variable {vs V V2:List (Nat×List D)} {lv:List (Nat×Nat×Nat×TypeId)} {N kd R G w m:Nat} {C:Nat→Nat} {d:Dic}
theorem Hm {fo ft:FuncId}{ko kt:List Nat}{of:Row→Nu}{ot:Nat→Int}{nn:Nat}(hD:DAt vs kd R G C w d)(hS:da d w m)(hm:m≤1000000)(hnn:d.n=(nn:Int))(Er:nn≤1000000)
  (hko:∀k,k∈ko→k<N) (hkt:∀k,k∈kt→k<N) (hot2:∀v,-2≤ot v∧ot v≤2)
  (hof:∀(V2:List (Nat×List D)) (De:List (Nat×Nat×Nat×TypeId)) (M i:Nat),(∀k ds,vs.lookup k=some ds→V2.lookup k=some ds)→i<m→HC Tryz.prog fo ([.ag (iP C w i d.rows[i]!)]++ko.map fun k=>.pt k 0) ⟨V2,De,M⟩ (dG az (of d.rows[i]!)) ⟨V2,De,M⟩)
  (hot:∀(V2:List (Nat×List D)) (De:List (Nat×Nat×Nat×TypeId)) (M v:Nat),(∀k ds,vs.lookup k=some ds→V2.lookup k=some ds)→HC Tryz.prog ft ([dI .i64 v]++kt.map fun k=>.pt k 0) ⟨V2,De,M⟩ (dI .i64 (ot v)) ⟨V2,De,M⟩):
  HC Tryz.prog 47 [.pt kd 0,.fn fo ko,.fn ft kt] ⟨vs,lv,N⟩ (.e (slE az (mp d.rows nn of fun v=>nOf (ot v)))) ⟨vs,lv,N⟩:=by
 refine HC.of (rs:=[.tmp 6]) tok Tryz.func47 rfl rfl (dq rfl) rfl (fun cx hx h0 hok=>?_)
 simp only[fL,Nat.reduceAdd,bJ]
 have hl:=hS.len
 have ws:=hD.hd
 have DM:=hok.lt ws
 obtain⟨f,hf⟩:∃f:Nat→Nu,f=fun j=>if 0≤ew d.rows ((j+1:Nat):Int) then of d.rows[(ew d.rows ((j+1:Nat):Int)).toNat]! else nOf (ot (j+1)):=⟨_,rfl⟩
 have hfv:mp d.rows nn of (fun v=>nOf (ot v))=(List.range nn).map f:=by rw[hf];rfl
 have hsk:∀M,N≤M→(D.fn fo ko).idsB M=true∧(D.fn ft kt).idsB M=true:=fun M hM=>⟨cX.2 fun k hk=>aF (by have:=hko k hk;omega),cX.2 fun k hk=>aF (by have:=hkt k hk;omega)⟩
 refine rs hx fun K hK=>?_
 refine s1 (d:=dO N az ([]:List Nu)) (gE aM ay) ?_
 refine .nil (hK _ _ (rs hx fun K hK=>?_))
 refine s1 (d:=dO (N+1) az ([]:List Nu)) (gE aM ay) ?_
 refine .nil (hK _ _ ?_)
 have N5:∀u:Nat,cE ⟨vs,(N+1,u,36,43)::lv,N+1+1⟩:=fun u=>by
  refine⟨fun j ds h=>?_,fun id e h=>?_⟩
  ·obtain⟨h1,h2⟩:=hok.var j ds h
   have h1:j<N:=h1
   exact⟨show j<N+1+1 by omega,cX.2 fun d hd=>D.idsC_le (show N≤N+1+1 by omega) (cX.1 h2 d hd)⟩
  ·by_cases hid:id=N+1
   ·show id<N+1+1;omega
   ·have:=hok.tok id e (by rw[←h];exact (ar hid).symm)
    have:id<N:=this
    show id<N+1+1;omega
 refine AW.seq (rs hx fun K hK=>?_)
 refine sa ?_
 refine .nil (hK _ _ (AW.block (AW.loopW (fun u:Nat=>[(0,.pt kd 0),(1,.fn fo ko),(2,.fn ft kt),(7,dO (N+1) az ((List.range u).map f)),(8,dI .i64 (u+1:Nat))]) (fun u=>⟨vs,(N+1,u,36,43)::lv,N+1+1⟩) (fun u=>u≤nn) (fun u=>nn - u) 0 ?_ (cQ _) ?_)))
 ·refine Dr (by rw[h0];show N≤N+1+1;omega) (aB _) (N5 0) (fun j ds h=>h) (fun j y h=>?_) (bU.cons (bU.cons (bU.cons (bU.cons (bU.cons bU.nil rfl rfl) rfl (aF (show N+1<N+1+1 by omega))) rfl (hsk _ (by omega)).2) rfl (hsk _ (by omega)).1) rfl (aF (show kd<N+1+1 by omega)))
  by_cases hj:j=N+1
  ·subst hj
   rw[←h]
   exact aa.trans aa.symm
  ·have h1:lv.lookup j=some y:=by rw[←h];exact (ar hj).symm
   have h2:j<N:=hok.tok j y h1
   exact (ar hj).trans ((ar (show j≠N by omega)).trans h1)
 ·intro u hu
  have Lu:((List.range u).map f).length=u:=by simp
  refine AW.seq (rs hx fun K hK=>?_)
  iterate 4 refine sa ?_
  refine c1 dic_n ?_
  rw[hnn]
  refine sa ?_
  refine .nil (hK _ _ (AW.condS rfl (fun hb=>?_) (fun hb=>?_)))
  ·have hun:u<nn:=by have:=cj hb;omega
   refine AW.skip ?_
   have hfd:=Jg (lv:=(N+1,u,36,43)::lv) (N:=N+1+1) (v:=((u+1:Nat):Int)) hD (by omega)
   have rk:(List.range (u+1)).map f=(List.range u).map f++[f u]:=by rw[u6,jz];rfl
   have hfu:f u=if 0≤ew d.rows ((u+1:Nat):Int) then of d.rows[(ew d.rows ((u+1:Nat):Int)).toNat]! else nOf (ot (u+1)):=by rw[hf]
   have NS:∀{tm:List (Nat×D)} {vX:List (Nat×List D)} {n2:Nat},(∀j ds,vs.lookup j=some ds→vX.lookup j=some ds)→N+1+1≤n2→tm.lookup 0=some (.pt kd 0)→tm.lookup 1=some (.fn fo ko)→tm.lookup 2=some (.fn ft kt)→tm.lookup 7=some (dO (N+1) az ((List.range u).map f++[f u]))→tm.lookup 8=some (dI .i64 ((u+1+1:Nat):Int))→
     Wk cx tm ⟨vX,(N+1,((List.range u).map f++[f u]).length,36,43)::(N+1+1,1,36,43)::(N+1,u,36,43)::lv,n2⟩ [(0,.pt kd 0),(1,.fn fo ko),(2,.fn ft kt),(7,dO (N+1) az ((List.range (u+1)).map f)),(8,dI .i64 (u+1+1:Nat))] ⟨vs,(N+1,u+1,36,43)::lv,N+1+1⟩:=fun hv hn a b c e g=>by
    rw[rk]
    refine Dr (by rw[h0];show N≤N+1+1;omega) hn (N5 (u+1)) hv (fun j y h=>?_) (bU.cons (bU.cons (bU.cons (bU.cons (bU.cons bU.nil g rfl) e (aF (show N+1<N+1+1 by omega))) c (hsk _ (by omega)).2) b (hsk _ (by omega)).1) a (aF (show kd<N+1+1 by omega)))
    by_cases hj:j=N+1
    ·subst hj
     have h1:some (u+1,36,43)=some y:=by rw[←h];exact aa.symm
     rw[←h1]
     exact aa.trans (by rw[cR,Lu];rfl)
    ·have h1:lv.lookup j=some y:=by rw[←h];exact (ar hj).symm
     have h2:j<N:=hok.tok j y h1
     exact (ar hj).trans ((ar (show j≠N+1+1 by omega)).trans ((ar hj).trans h1))
   refine AW.seq (AW.block (rs hx fun K hK=>?_))
   iterate 2 refine sa ?_
   refine q1 (sHC hfd rfl (.inl (by kernel_rfl))) ?_
   refine sa ?_
   refine .nil (hK _ _ (rs hx fun K hK=>?_))
   iterate 2 refine sa ?_
   refine .nil (hK _ _ (AW.condS rfl (fun hb=>?_) (fun hb=>?_)))
   ·have t4:0≤ew d.rows ((u+1:Nat):Int):=cj hb
    rw[if_pos t4] at hfu
    obtain⟨a,ha,LB⟩:∃a:Nat,a<m∧ew d.rows ((u+1:Nat):Int)=(a:Int):=by
     unfold ew at t4 ⊢
     cases Lw:d.rows.findIdx? fun r=>decide (r.b=((u+1:Nat):Int)) with
     |none=>rw[Lw] at t4;exact absurd t4 (by decide)
     |some a=>exact⟨a,by have:=(pK.1 Lw).1;omega,rfl⟩
    rw[LB,show ((a:Int)).toNat=a by omega] at hfu
    obtain⟨_,_,_,_,⟨F5,F5',e5,L5⟩,_,ge⟩:=hD.row (i:=a) (by omega)
    have hk5:=hok.lt e5
    refine rq hx fun K hK=>?_
    iterate 5 refine sa ?_
    refine c1 gy ?_
    refine sa ?_
    refine r1 (n:=d.rows.length) (i:=a) (by omega) ?_ (by show (fc R _).toOw=_;rw[ge];rfl) (by show D.toOw (dI .i64 _)=_;rw[LB];rfl)
    refine p1 L5 (si _ _ _ _) ?_
    refine q1 (sHF (hof vs _ _ a (fun _ _ h=>h) ha) rfl) ?_
    rw[←hfu]
    refine s1 (kP [f u] az aM ay) ?_
    refine s1 (qZ (id:=N+1) (l:=(List.range u).map f) (l':=[f u]) aM ay (by rw[cR,Lu];show (u+1)*136≤140737488355328;omega) rfl rfl rfl rfl (by rw[Lu];exact (ar (show N+1≠N+1+1 by omega)).trans aa)) ?_
    refine sa ?_
    refine .nil (hK _ _ (rq hx fun K hK=>?_))
    iterate 3 refine sa ?_
    refine .nil (hK _ _ ?_)
    rw[cg (by omega)]
    exact⟨u+1,NS (fun _ _ h=>h) (by omega) rfl rfl rfl rfl rfl,hun,by omega⟩
   ·have bX:¬0≤ew d.rows ((u+1:Nat):Int):=dV hb
    rw[if_neg bX] at hfu
    refine rq hx fun K hK=>?_
    iterate 3 refine sa ?_
    refine q1 (sHF (hot vs _ _ (u+1) (fun _ _ h=>h)) rfl) ?_
    refine cq (Dy (ot (u+1)) (hot2 _)) ?_
    rw[←hfu]
    refine s1 (kP [f u] az aM ay) ?_
    refine s1 (qZ (id:=N+1) (l:=(List.range u).map f) (l':=[f u]) aM ay (by rw[cR,Lu];show (u+1)*136≤140737488355328;omega) rfl rfl rfl rfl (by rw[Lu];exact (ar (show N+1≠N+1+1 by omega)).trans aa)) ?_
    refine sa ?_
    refine .nil (hK _ _ (rq hx fun K hK=>?_))
    iterate 3 refine sa ?_
    refine .nil (hK _ _ ?_)
    rw[cg (by omega)]
    exact⟨u+1,NS (fun _ _ h=>h) (by omega) rfl rfl rfl rfl rfl,hun,by omega⟩
  ·refine AW.exit ?_
   have hun:u=nn:=by have:=dV hb;omega
   refine rs hx fun K hK=>?_
   iterate 2 refine sa ?_
   refine .nil (hK _ _ (AW.ret ?_))
   rw[hfv,hun]
   exact⟨[(6,D.ex (dO (N+1) az ((List.range nn).map f)))],Dr (by rw[h0];exact aB N) (show N≤N+1+1 by omega) hok (fun j ds h=>h) (fun j y h=>(ar (by have h2:j<N:=hok.tok j y h;omega)).trans h) (bU.consX bU.nil rfl rfl),⟨_,aa,rfl⟩⟩
end
end
section
section
variable {P:Program} {tb:TypeId→Option TyE} {dr:Bool} {ty:TypeId} {ev:Operand→D} {hp:Hp} {t:TypeId} {i:TyE} {x:Operand} {xs:List E} {off:Nat} {e:E}
theorem T_ldX(he:xs[off]? =some e)(ht:tb t=some i)(hg:i.ty.agg=false:=by exact rfl)(hx:ev x=.fp xs off:=by exact rfl):AVC P tb dr (.load t x) ty ev hp (Kq (.e e) hp):=by
 rw[qe,hx,BN,ht]
 simp only[hg]
 refine⟨(fP.1 he).1,?_⟩
 rw[show xs.getD off .any=e by rw[tG,he];rfl]
 exact Kq.here _ _
theorem AR.ptf {k:Nat}{ds:List D}{es:List E}(hv:hp.vars.lookup k=some ds)(hl:es.length=ds.length)(ha:∀(j:Nat) (d:D) (e:E),ds[j]? =some d→es[j]? =some e→AR hp d (.e e)):AR hp (.pt k 0) (.fp es 0):=by
 intro B g w v hr hd
 obtain⟨h1,h2,h3,cs,tt,h4,h5,h6⟩:=hr.var k ds hv
 cases hd with
 |pt _ _ hk=>
  have h0:(⟨g.μ k,0,none⟩:Addr).add 0=⟨g.μ k,0,none⟩:=by rw[Addr.add_lit]
  have:=aO.fp (hp:=⟨[],[],0⟩) (g:=⟨fun _=>0,fun _=>default,Fv hp g⟩) (w:=w) es 0 ⟨g.μ k,0,none⟩ (n8.1 h4).1 fun j e he=>?_
  ·rw[h0] at this;exact this
  ·have hj:j<ds.length:=by rw[←hl];exact (fP.1 he).1
   have hjc:j<cs.size:=by omega
   obtain⟨h7,h8⟩:=h6 j cs[j] (rK hjc)
   have h9:=ha j ds[j] e (c0 hj) he B g w cs[j] hr (h8 ds[j] (c0 hj))
   refine⟨cs[j],?_,fun hf=>hf.2 k ds hv (by rw[gl]),?_⟩
   ·rw[Addr.add_lit]
    simp[World.cell?,h4,rK hjc]
   ·cases h9 with
    |e _ _ h=>exact h
end
def HD(d:Dic):List E:=[.any]++(az.f d.gk++[slE az d.gc])++[.lit (.int .i64 d.n),.lit (.int .i64 d.piv),.lit (.int .i64 d.most)]
theorem FO(a:Nu):(az.f a).length=36:=by rw[az.h];rfl
theorem dicE_c(d:Dic):(HD d)[0+1+36]? =some (slE az d.gc):=by
 have:=FO d.gk
 unfold HD
 rw[yo (by simp[this]),pL (by simp),show (0+1+36 - [E.any].length)=(az.f d.gk).length by rw[this];rfl,pL (by omega),Nat.sub_self]
 rfl
theorem dicE_n(d:Dic):(HD d)[0+38]? =some (.lit (.int .i64 d.n)):=by
 have:=FO d.gk
 unfold HD
 rw[pL (by simp[this])]
 simp[this]
theorem KS {d:Dic}{nn w:Nat}(hl:d.gc.length=w)(hnn:d.n=(nn:Int))(hw:nn+1≤w)(hw2:w≤1000000):
  ax Tryz.prog 44 [.fp (HD d) 0] (.own 43 36 (fj d nn).length ((fj d nn).flatMap az.f)):=by
 refine bE (rs:=[.tmp 2]) (fun cx hx h0=>?_) Tryz.func44
 obtain⟨l,Oj⟩:∃l:List Nu,l=d.gc.drop (nn+1):=⟨_,rfl⟩
 have hlen:l.length=w - (nn+1):=by rw[Oj,fB,hl]
 have NX:fj d nn=l.map gX:=by rw[Oj];rfl
 refine rs hx fun K hK=>?_
 refine s1 (d:=dO 0 az ([]:List Nu)) (gE aM ay) ?_
 refine .nil (hK _ _ (rs hx fun K hK=>?_))
 refine s1 (d:=dO 1 az ([]:List Nu)) (gE aM ay) ?_
 refine .nil (hK _ _ (AW.seq (rsd [] hx fun K hK=>?_)))
 iterate 4 refine sa ?_
 refine s1 (T_ldX (dicE_c d) tbI) ?_
 iterate 3 refine sa ?_
 refine s1 (T_ldX (dicE_n d) tbI) ?_
 rw[hnn]
 refine sa ?_
 rw[cg (by omega)]
 have hsub:AB d.gc ((nn+1:Nat):Int) (d.gc.length:Int)=l:=by
  rw[Oj]
  unfold AB
  rw[show (((nn+1:Nat):Int)).toNat=nn+1 by omega,g6 (by rw[fB];omega)]
 refine s1 (d:=dL az (AB d.gc ((nn+1:Nat):Int) (d.gc.length:Int))) (T_sl (c:=az) (l:=d.gc) (a:=((nn+1:Nat):Int)) (b:=(d.gc.length:Int)) (by omega) aM ay) ?_
 rw[hsub]
 iterate 2 refine sa ?_
 refine .nil (hK _ _ (AW.block (AW.loopW (fun u:Nat=>[(3,dO 1 az ((l.take u).map gX)),(16,dL az l),(17,dI .i64 (l.length:Nat)),(18,dI .i64 u)]) (fun u=>⟨[],[(1,u,36,43)],2⟩) (fun u=>u≤l.length) (fun u=>l.length - u) 0 ?_ (cQ _) ?_)))
 ·exact Dr (by rw[h0];exact cQ _) (aB _) ⟨fun _ _ h=>by simp at h,fun id e h=>by rcases pI.1 (bR h) with h2;simp at h2;show id<2;omega⟩ (fun _ _ h=>h) (fun j y h=>by
   by_cases hj:j=1
   ·subst hj;rw[←h];rfl
   ·exact absurd h (by rw[ar hj];simp)) (bU.cons (bU.cons (bU.cons (bU.cons bU.nil rfl rfl) rfl rfl) rfl rfl) rfl rfl)
 ·intro u hu
  have Lu:((l.take u).map gX).length=u:=by rw[bT,ey];omega
  refine rs hx fun K hK=>?_
  refine sa ?_
  refine .nil (hK _ _ (AW.seq (AW.condS rfl (fun hb=>?_) (fun hb=>?_))))
  ·have IS:u<l.length:=by have:=cj hb;omega
   have ml:0≤(u:Int)∧(u:Int)<((l.length:Nat):Int):=by omega
   refine AW.skip (AW.seq (AW.block (rs hx fun K hK=>?_)))
   refine s1 (g7 ml aM ay) ?_
   refine s1 (d:=dG az l[u]!) (mi (c:=az) (l:=l) (n:=u) (o:=0) ay IS (f8 _ _ rfl)) ?_
   refine n1 ?_
   refine z1 ?_
   refine .nil (hK _ _ (rq hx fun K hK=>?_))
   refine sa ?_
   refine l1 (Pt.idN _) ?_
   refine cq (GI _) ?_
   refine s1 (kP [gX l[u]!] az aM ay) ?_
   have Af:(l.take u).map gX++[gX l[u]!]=(l.take (u+1)).map gX:=by
    rw[ym,jz,cz l u IS,c0 IS]
    rfl
   refine s1 (qZ (id:=1) (l:=(l.take u).map gX) (l':=[gX l[u]!]) aM ay (by rw[cR,Lu];show (u+1)*136≤140737488355328;omega) rfl rfl rfl rfl (by rw[Lu];rfl)) ?_
   rw[Af]
   refine sa ?_
   refine .nil (hK _ _ (rq hx fun K hK=>?_))
   iterate 2 refine sa ?_
   refine .nil (hK _ _ ?_)
   rw[cg (by omega)]
   have hlu1:((l.take (u+1)).map gX).length=u+1:=by rw[←Af,cR,Lu];rfl
   refine⟨u+1,Dr (by rw[h0];exact cQ _) (show 2≤_ by decide) ⟨fun _ _ h=>by simp at h,fun id e h=>by rcases pI.1 (bR h) with h2;simp at h2;show id<2;omega⟩ (fun _ _ h=>by simp at h) (fun j y h=>?_) (bU.cons (bU.cons (bU.cons (bU.cons bU.nil rfl rfl) rfl rfl) rfl rfl) rfl rfl),IS,by omega⟩
   by_cases hj:j=1
   ·subst hj;rw[←h,hlu1];rfl
   ·exact absurd h (by rw[ar hj];simp)
  ·refine AW.exit ?_
   have IS:u=l.length:=by have:=dV hb;omega
   refine rs hx fun K hK=>?_
   iterate 2 refine sa ?_
   refine .nil (hK _ _ (AW.ret ?_))
   have ui:(l.take u).map gX=fj d nn:=by rw[IS,List.take_length,NX]
   have hpl:(fj d nn).length=u:=by rw[NX,bT,IS]
   rw[ui]
   refine og.own (id:=1) rfl ?_
   rw[hpl];rfl
section
variable {vs:List (Nat×List D)} {lv:List (Nat×Nat×Nat×TypeId)} {N kd R G w m nn:Nat} {C:Nat→Nat} {d:Dic}
theorem oO {α:Type}{a b:List α}{j:Nat}{x:α}(h:(a++b)[j]? =some x):(j<a.length∧a[j]? =some x)∨(a.length≤j∧b[j - a.length]? =some x):=by
 rcases gW j a.length with h1|h1
 ·exact .inl ⟨h1,by rw[yo h1] at h;exact h⟩
 ·exact .inr ⟨h1,by rw[pL h1] at h;exact h⟩
theorem AR.dic(hD:DAt vs kd R G C w d):AR ⟨vs,lv,N⟩ (.pt kd 0) (.fp (HD d) 0):=by
 have hk:=FO d.gk
 refine AR.ptf hD.hd ?_ fun j x e hx he=>?_
 ·unfold mM HD bp
  simp[hk,eK]
 ·unfold mM bp at hx
  unfold HD at he
  rcases oO hx with⟨a1,hx⟩|⟨a1,hx⟩ <;> rcases oO he with⟨b1,he⟩|⟨b1,he⟩
  ·rcases oO hx with⟨a2,hx⟩|⟨a2,hx⟩ <;> rcases oO he with⟨b2,he⟩|⟨b2,he⟩
   ·obtain rfl:j=0:=by simp at a2;omega
    simp at hx he
    subst hx he
    intro B g w2 v hr hd
    refine .e _ _ (.any _ ?_)
    cases hl:d.rows with
    |nil=>rw[hl] at hd;exact (hd.lit▸rfl)
    |cons r l=>rw[hl] at hd;cases hd;rfl
   ·simp at a2 b2;omega
   ·simp at a2 b2;omega
   ·simp only[qM,List.length_nil] at hx he a2
    rcases oO hx with⟨a3,hx⟩|⟨a3,hx⟩ <;> rcases oO he with⟨b3,he⟩|⟨b3,he⟩
    ·unfold dC at hx
     rw[ek,he] at hx
     injection hx with hx
     subst hx
     exact AR.data (d:=.e e) rfl
    ·rw[eK] at a3;omega
    ·rw[eK] at a3;omega
    ·rw[eK] at a3 hx
     have h0:j - (0+1) - (az.f d.gk).length=0:=by
      have:=(fP.1 hx).1
      simp at this;omega
     rw[h0] at hx he
     simp at hx he
     subst hx he
     exact AR.list hD.hG hD.lG
  ·simp[eK] at a1 b1;omega
  ·simp[eK] at a1 b1;omega
  ·have e1:(([fc R d.rows]++(dC (az.f d.gk)++[D.ow G 0 36 w])).length)=([E.any]++(az.f d.gk++[slE az d.gc])).length:=by simp[eK]
   rw[e1] at hx
   generalize j - ([E.any]++(az.f d.gk++[slE az d.gc])).length=q at hx he
   have hq:q=0∨q=1∨q=2:=by
    have:=(fP.1 he).1
    simp at this;omega
   rcases hq with rfl|rfl|rfl
   all_goals
    simp at hx he
    subst hx he
    exact AR.data (d:=dI .i64 _) rfl
theorem lit_Nu(l:List Nu):(l.flatMap az.f).all E.isLit=true:=by
 rw[cX]
 intro x hx
 obtain⟨a,_,ha⟩:=List.mem_flatMap.1 hx
 have h2:∀y,y∈aj.f a.1.vN∨y∈aj.f a.1.vD→y.isLit=true:=by
  have h3:∀z:av,∀y∈aj.f z,y.isLit=true:=fun z y hy=>by
   rcases t8.1 (show y∈[E.lit (.bool z.vBad),.lit (.bool z.vNeg)]++(cA 16 (cI .u32)).f z.vW from hy) with h|h
   ·simp at h;rcases h with rfl|rfl <;> rfl
   ·obtain⟨n,_,hn⟩:=List.mem_flatMap.1 (show y∈z.vW.toList.flatMap (cI .u32).f from h)
    rw[pI.1 hn];rfl
  rintro y (h|h)
  ·exact h3 _ y h
  ·exact h3 _ y h
 exact h2 x (t8.1 (show x∈aj.f a.1.vN++aj.f a.1.vD from ha))
theorem LC(hD:DAt vs kd R G C w d)(hnn:d.n=(nn:Int))(hw:nn+1≤w)(hw2:w≤1000000)(hm:0<(fj d nn).length):
  HC Tryz.prog 44 [.pt kd 0] ⟨vs,lv,N⟩ (.gw N 36 (fj d nn).length) ⟨(N,dC ((cW az).f (fj d nn)))::vs,lv,N+1⟩:=
 HC.adopt (KS hD.lG hnn hw hw2) (hp:=⟨vs,lv,N⟩) ⟨AR.dic hD,trivial⟩ hm (lit_Nu _)
end
end
section
theorem HC.weak {P:Program}{f:FuncId}{ds:List D}{hp:Hp}{d:D}{vars vars':List (Nat×List D)}{lv lv':List (Nat×Nat×Nat×TypeId)}{n n':Nat}(hc:HC P f ds hp d ⟨vars,lv,n⟩)(h0:hp.next≤n')
  (h:cE hp→cE ⟨vars',lv',n'⟩∧(∀j ds,vars'.lookup j=some ds→vars.lookup j=some ds)∧(∀j y,lv'.lookup j=some y→lv.lookup j=some y)∧d.idsB n'=true):HC P f ds hp d ⟨vars',lv',n'⟩:=by
 refine⟨hc.1,fun B g w vs hr hsz dc=>(hc.2 B g w vs hr hsz dc).mono ?_⟩
 obtain⟨hok,hv,hl,hd⟩:=h hr.ok
 rintro e w' ⟨v,g',rfl,o4,hM,hrd,hb,hF⟩
 have dZ:∀id y,lv'.lookup id=some y→lv.lookup id=some y:=hl
 refine⟨v,g',rfl,⟨fun k ds hk=>?_,fun k k' a b hk uh he=>o4.inj k k' a b (hv k a hk) (hv k' b uh) he,fun id m e hi=>?_,fun id zt t t' b hi wr=>o4.tinj id zt t t' b (dZ _ _ hi) (dZ _ _ wr),o4.base,o4.fits⟩,
  ⟨hM.size,hM.cell,hM.forb,h0,hM.μ,fun id hid m e Lv=>hM.live id hid m e (dZ id _ Lv),fun b hb hf=>⟨(hM.fr b hb hf).1,(hM.fr b hb hf).2.1,fun k ds hk=>(hM.fr b hb hf).2.2.1 k ds (hv k ds hk),fun id t hi=>(hM.fr b hb hf).2.2.2 id t (dZ id _ hi)⟩,hM.szs⟩,BQ hrd hd rfl dZ,hb,hF⟩
 ·obtain⟨_,h3,h4,cs,ty,h5,h6,h7⟩:=o4.var k ds (hv k ds hk)
  obtain⟨h1,h2⟩:=hok.var k ds hk
  exact⟨h1,h3,h4,cs,ty,h5,h6,fun j u hu=>⟨(h7 j u hu).1,fun d hd=>iw ((h7 j u hu).2 d hd) (cX.1 h2 d (eo hd)) rfl dZ⟩⟩
 ·obtain⟨_,us,h2,h3,h4⟩:=o4.tok id m e (dZ _ _ hi)
  exact⟨hok.tok id _ hi,us,h2,h3,fun b hb=>⟨(h4 b hb).1,fun k ds hk=>(h4 b hb).2 k ds (hv k ds hk)⟩⟩
theorem resV {q:Nat}{tt:TypeId}{ti:TyE}{k:Nat}{F:List D}{vs:List (Nat×List D)}{lv:List (Nat×Nat×Nat×TypeId)}{N:Nat}{tm:List (Nat×D)}{k2:D→Prop}(ht:tbl tt=some ti)(hl:tm.lookup q=some (.pt k 0))(hv:vs.lookup k=some F)(hk:k<N)(hz:F.length=ti.size)(hg:ti.ty.agg=true)(h:k2 (.ag F)):rQ tbl tm ⟨vs,lv,N⟩ (.cell q tt) k2:=by
 refine⟨.pt k 0,hl,⟨_,ht⟩,?_⟩
 rw[nR,ht]
 simp only[hv,hg]
 refine⟨hk,by omega,?_⟩
 rw[pR,g6 (by omega)]
 exact h
theorem HC.forget {P:Program}{f:FuncId}{ds:List D}{d:D}{vs vars:List (Nat×List D)}{lv:List (Nat×Nat×Nat×TypeId)}{N n:Nat}(hc:HC P f ds ⟨vs,lv,N⟩ d ⟨vars,lv,n⟩)(hv:∀j ds,j<N→vs.lookup j=some ds→vars.lookup j=some ds)(hd:d.idsB N=true):HC P f ds ⟨vs,lv,N⟩ d ⟨vs,lv,N⟩:=
 hc.weak (aB N) fun hok=>⟨hok,fun j ds h=>hv j ds (hok.lt h) h,fun _ _ h=>h,hd⟩
section
variable {vs:List (Nat×List D)} {lv:List (Nat×Nat×Nat×TypeId)} {N w i ks s:Nat} {C:Nat→Nat} {r:Row}
theorem rtN1 {x:Cx}{tm:List (Nat×D)}{oG vs2:List (Nat×List D)}{vs0:List (Nat×List D)}{lv0:List (Nat×Nat×Nat×TypeId)}{N0 M n2 q k:Nat}{a:Nu}(h0:x.hp0=⟨vs0,lv0,N0⟩)(hM:N0≤M)(hok:cE ⟨oG,lv,M⟩)(hN:M≤n2)(hv:∀j ds,oG.lookup j=some ds→vs2.lookup j=some ds)(hk:oG.lookup k=some (dC (az.f a)))(hq:tm.lookup q=some (.pt k 0)):
  ∃tm',Wk x tm ⟨vs2,lv,n2⟩ tm' ⟨oG,lv,M⟩∧r9 tbl [.cell q 43] tm' ⟨oG,lv,M⟩ (dG az a):=
 ⟨[(q,.pt k 0)],wkS (by rw[h0];exact hM) hN hok hv (bU.nil.cons hq (aF (hok.lt hk))),resV ay aa hk (hok.lt hk) (iR a) rfl rfl⟩
theorem OH:HC Tryz.prog 48 ([.ag (iP C w i r)]++([]:List Nat).map fun k=>.pt k 0) ⟨vs,lv,N⟩ (dG az r.k) ⟨vs,lv,N⟩:=by
 refine HC.forget (vars:=(N+1,dC (az.f r.k))::vs) (n:=N+2) ?_ (fun j ds hj h=>ak (by omega) h) (eJ _)
 refine HC.of (rs:=[.cell 2 43]) tok Tryz.func48 rfl rfl (dq rfl) rfl (fun cx hx h0 hok=>?_)
 simp only[fL,eD,rM,Nat.reduceAdd,bJ]
 refine rs hx fun K hK=>?_
 refine s1 (gD (cs:=iP C w i r)) ?_
 refine n1 ?_
 refine .nil (hK _ _ (rs hx fun K hK=>?_))
 iterate 2 refine sa ?_
 refine l1 (MU (C:=C) (w:=w) (j:=i) (r:=r)) ?_
 refine z1 ?_
 refine .nil (hK _ _ (AW.ret ?_))
 exact rtN1 h0 (by omega) (cE.consM (hok.up (by omega)) (by omega) (eJ _)) (aB _) (fun j ds h=>by
  rcases cu h with⟨rfl,rfl⟩|⟨hj,h⟩
  ·exact aa
  ·have:=hok.lt h
   exact ak hj (ak hj (ak (by omega) h))) aa rfl
theorem OG(v:Nat):HC Tryz.prog 49 ([dI .i64 v]++([]:List Nat).map fun k=>.pt k 0) ⟨vs,lv,N⟩ (dI .i64 0) ⟨vs,lv,N⟩:=by
 refine HC.of (rs:=[.tmp 2]) tok Tryz.func49 rfl rfl (dq rfl) rfl (fun cx hx h0 hok=>?_)
 simp only[fL,eD,rM,Nat.reduceAdd,bJ]
 refine rs hx fun K hK=>?_
 refine sa ?_
 refine .nil (hK _ _ (rs hx fun K hK=>?_))
 refine sa ?_
 exact .nil (hK _ _ (AW.ret (rt1 h0)))
theorem OF(hs:vs.lookup ks=some [dI .i64 s])(hc:vs.lookup (C i)=some (dC ((cW az).f r.c)))(hl:r.c.length=w)(hsw:s<w):HC Tryz.prog 50 ([.ag (iP C w i r)]++[ks].map fun k=>.pt k 0) ⟨vs,lv,N⟩ (dG az r.c[s]!) ⟨vs,lv,N⟩:=by
 refine HC.forget (vars:=(N+1,dC (az.f r.c[s]!))::vs) (n:=N+2) ?_ (fun j ds hj h=>ak (by omega) h) (eJ _)
 refine HC.of (rs:=[.cell 3 43]) tok Tryz.func50 rfl rfl (dq rfl) rfl (fun cx hx h0 hok=>?_)
 simp only[fL,eD,dJ,List.cons_append,mU,Nat.reduceAdd,bJ]
 have hk1:=hok.lt hs
 have zw:=hok.lt hc
 refine rs hx fun K hK=>?_
 refine s1 (gD (cs:=iP C w i r)) ?_
 refine n1 ?_
 refine .nil (hK _ _ (rs hx fun K hK=>?_))
 iterate 2 refine sa ?_
 refine c1 (Iv (C:=C) (w:=w) (j:=i) (r:=r)) ?_
 refine c1 (Pt.all (F:=[dI .i64 s])) ?_
 refine i1 hsw ?_
 refine l1 (Pt.el r.c s (by omega)) ?_
 refine z1 ?_
 refine .nil (hK _ _ (AW.ret ?_))
 exact rtN1 h0 (by omega) (cE.consM (hok.up (by omega)) (by omega) (eJ _)) (aB _) (fun j ds h=>by
  rcases cu h with⟨rfl,rfl⟩|⟨hj,h⟩
  ·exact aa
  ·have:=hok.lt h
   exact ak hj (ak hj (ak (by omega) h))) aa rfl
theorem OE(v:Nat)(hs:vs.lookup ks=some [dI .i64 s]):HC Tryz.prog 51 ([dI .i64 v]++[ks].map fun k=>.pt k 0) ⟨vs,lv,N⟩ (dI .i64 (if (v:Int)=(s:Int) then 1 else 0)) ⟨vs,lv,N⟩:=by
 refine HC.of (rs:=[.tmp 3]) tok Tryz.func51 rfl rfl (dq rfl) rfl (fun cx hx h0 hok=>?_)
 simp only[fL,eD,dJ,List.cons_append,mU,Nat.reduceAdd,bJ]
 have hk1:=hok.lt hs
 refine rs hx fun K hK=>?_
 refine sa ?_
 refine .nil (hK _ _ (AW.seq (rs hx fun K hK=>?_)))
 refine sa ?_
 refine c1 (Pt.all (F:=[dI .i64 s])) ?_
 refine sa ?_
 refine .nil (hK _ _ (AW.condS rfl (fun hb=>?_) (fun hb=>?_)))
 ·rw[if_pos (cj hb)]
  refine rs hx fun K hK=>?_
  refine sa ?_
  exact .nil (hK _ _ (AW.ret (rt1 h0)))
 ·rw[if_neg (dV hb)]
  refine AW.skip (rs hx fun K hK=>?_)
  refine sa ?_
  exact .nil (hK _ _ (AW.ret (rt1 h0)))
end
end
def fF(cG:Int):Option (List aq):=if 0≤cG∧cG≤1000000 then some (List.replicate cG.toNat (nv (nOf 0))) else none
theorem Po(l:List Nu):(cW az).f l=(cW ai).f (l.map nv):=by
 show l.flatMap az.f=(l.map nv).flatMap ai.f
 rw[List.flatMap_map]
 rfl
theorem kA(l:List Nu):slE az l=slE ai (l.map nv):=by
 unfold slE
 have:=Po l
 rw[bT]
 show E.sl 36 l.length ((cW az).f l)=E.sl 36 l.length ((cW ai).f (l.map nv))
 rw[this]
theorem mY {cG:Int}{r:List aq}(h:fF cG=some r):ax Tryz.prog 75 [dI .i64 cG] (dL ai r):=by
 unfold fF at h
 split at h
 rotate_left
 ·cases h
 rename_i hn
 injection h with h
 obtain⟨n,rfl⟩:∃n:Nat,cG=(n:Int):=⟨cG.toNat,by omega⟩
 have hr:slE ai r=slE az (List.replicate n (nOf 0)):=by
  rw[kA,←h,List.map_replicate,show ((n:Int)).toNat=n by omega]
 show ax _ _ _ (.e (slE ai r))
 rw[hr]
 refine bE (rs:=[.tmp 2]) (fun cx hx h0=>?_) Tryz.func75
 refine rs hx fun K hK=>?_
 refine s1 (d:=dO 0 az ([]:List Nu)) (gE aM ay) ?_
 refine .nil (hK _ _ (rs hx fun K hK=>?_))
 refine cq (Dy 0 (by omega)) ?_
 refine s1 (kP [nOf 0] az aM ay) ?_
 refine sa ?_
 refine q1 (sHC (HC.args (ds:=[dO 1 az [nOf 0],dI .i64 n]) (ds':=[.e (slE az [nOf 0]),dI .i64 n]) ⟨Nv _,ao _,trivial⟩ (Ho (vs:=[]) (N:=2) (by omega))) rfl (.inr ⟨show 2≤4 by decide,fun j hj=>ar (by have:j<2:=hj;omega)⟩)) ?_
 refine sa ?_
 refine .nil (hK _ _ (fzA az 3 [2] (Ap ..).symm ?_ (all1 rfl)))
 exact AW.ret (rv1)
end
end Go.Proofs.YtaedcknhkjpmlaaGreat
