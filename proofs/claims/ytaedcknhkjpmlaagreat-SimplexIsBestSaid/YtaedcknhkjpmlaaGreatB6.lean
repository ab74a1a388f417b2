/-
  Lemmas, part 6. Conditions: none.
-/
import Derived.Test.YtaedcknhkjpmlaaGreatB5
set_option linter.all false
set_option maxRecDepth 100000
set_option maxHeartbeats 4000000
namespace Go.Proofs.YtaedcknhkjpmlaaGreat
open Go.RowKit Go.IntKind Tryz
noncomputable section
structure Lin where
 k:Nu
 c:List Nu
instance:Inhabited Lin:=⟨⟨default,[]⟩⟩
def goodR(l:Lin):Bool:=f7 l.k l.c
def Bn(l row:Lin)(s:Nat):Lin:=⟨jK l.k (lM l.c[s]! row.k),(List.range l.c.length).map fun t=>if t=s then nOf 0 else jK l.c[t]! (lM l.c[s]! row.c[t]!)⟩
theorem Kb(p:Nu)(l:List Nu):∀t,t≤l.length→sS p t l=(l.take t).map (fun x=>oa (eZ x) p)++l.drop t
 |0,_=>by simp[sS]
 |t+1,h=>by
  have ih:=Kb p l t (by omega)
  unfold sS
  have hl:((l.take t).map fun x=>oa (eZ x) p).length=t:=by simp;omega
  have hg:(sS p t l)[t]! =l[t]:=by
   rw[ih,zp,qJ (by omega),hl,zq,nA,iM,cH (by omega)]
   rfl
  rw[hg,ih,List.set_append_right _ _ (by omega),hl,zq,Fd (by omega),List.set_cons_zero,AE,cH (by omega)]
  simp only[iP,c5,iW,l8,EV,nB,Option.toList]
theorem PP(p:Nu)(l:List Nu):sS p l.length l=l.map fun x=>oa (eZ x) p:=by
 rw[Kb p l _ (ax _)];simp
theorem wi {α:Type}[Inhabited α]{l:List α}{i:Nat}(h:i<l.length):l[i]? =some l[i]! :=by rw[bL l i h];exact cH h
theorem c8 {α:Type}[Inhabited α]{l:List α}{i:Nat}{x:α}(h:l[i]? =some x):l[i]! =x:=by rw[zp,h];rfl
theorem PY {n i:Nat}(h:i<n):(List.range n)[i]? =some i:=by rw[cH (by simpa using h),NK]
theorem bK {α:Type}{n i:Nat}(f:Nat→α)(h:i<n):((List.range n).map f)[i]? =some (f i):=by rw[dV,PY h];rfl
theorem ni {α:Type}[Inhabited α]{l:List α}{n:Nat}{f:Nat→α}(hl:l.length=n)(h:∀i,i<n→l[i]! =f i):l=(List.range n).map f:=by
 apply Lo
 intro i
 by_cases hi:i<n
 ·rw[wi (by omega),bK f hi,h i hi]
 ·rw[rj (by omega),rj (by simp;omega)]
theorem eD {α:Type}[Inhabited α]{l:List α}{i j:Nat}{x:α}(hj:j<l.length):(l.set i x)[j]! =if i=j then x else l[j]! :=by
 apply c8
 rw[List.getElem?_set]
 by_cases h:i=j
 ·subst h;simp[hj]
 ·rw[ah h,ah h,wi hj]
theorem Jp(q:Nu)(xc:List Nu)(s:Nat)(l:List Nu):∀t i,i<l.length→(xX q xc s t l)[i]! =if i<t∧i≠s then jK l[i]! (lM q xc[i]!) else l[i]!
 |0,i,_=>by rw[ah (by omega)];rfl
 |t+1,i,h=>by
  have ih:=Jp q xc s l t
  unfold xX
  by_cases rt:(t:Int)=(s:Int)
  ·rw[ai rt,ih i h]
   by_cases hi:i<t∧i≠s
   ·rw[ai hi,ai (by omega)]
   ·rw[ah hi,ah (by omega)]
  ·rw[ah rt,eD (by rw[qx];exact h)]
   by_cases yl:t=i
   ·subst yl
    rw[ai rfl,ai (by omega),ih t h,ah (by omega)]
   ·rw[ah yl,ih i h]
    by_cases hi:i<t∧i≠s
    ·rw[ai hi,ai (by omega)]
    ·rw[ah hi,ah (by omega)]
theorem Dt(q:Nu)(xc:List Nu)(l:List Nu):∀t i,i<l.length→(xX q xc (-1) t l)[i]! =if i<t then jK l[i]! (lM q xc[i]!) else l[i]!
 |0,i,_=>by rw[ah (by omega)];rfl
 |t+1,i,h=>by
  have ih:=Dt q xc l t
  unfold xX
  rw[ah (by omega),eD (by rw[qx];exact h)]
  by_cases yl:t=i
  ·subst yl
   rw[ai rfl,ai (by omega),ih t h,ah (by omega)]
  ·rw[ah yl,ih i h]
   by_cases hi:i<t
   ·rw[ai hi,ai (by omega)]
   ·rw[ah hi,ah (by omega)]
theorem all_get {l:List Nu}(h:l.all ar=true){i:Nat}(hi:i<l.length):ar l[i]! =true:=by
 rw[bL l i hi];exact ba.1 h _ (nO hi)
theorem I2 {l:List Nu}(h:∀i,i<l.length→ar l[i]! =true):l.all ar=true:=by
 rw[ba]
 intro x hx
 obtain⟨i,hi,rfl⟩:=w5.1 hx
 have:=h i hi
 rwa[bL l i hi] at this
theorem bm {k:Nu}{c:List Nu}:f7 k c=true↔ar k=true∧∀i,i<c.length→ar c[i]! =true:=by
 unfold f7
 rw[b8]
 exact⟨fun h=>⟨h.1,fun i hi=>all_get h.2 hi⟩,fun h=>⟨h.1,I2 h.2⟩⟩
def gS(k:Nu)(c:List Nu)(r1:Row)(s:Nat):Lin:=⟨xf c[s]! r1.k k,uk c[s]! r1.c s (c.set s (nOf 0))⟩
theorem rM(k:Nu)(c:List Nu)(r1:Row)(s:Nat):(gS k c r1 s).c.length=c.length:=by unfold gS;rw[uj,cY]
theorem putP_eq {k:Nu}{c:List Nu}{r1:Row}{s:Nat}(hg:f7 k c=true)(hr:f7 r1.k r1.c=true)(hs:s<c.length)(hl:r1.c.length=c.length):gS k c r1 s=Bn ⟨k,c⟩ ⟨r1.k,r1.c⟩ s:=by
 obtain⟨h1,h2⟩:=bm.1 hg
 obtain⟨h3,h4⟩:=bm.1 hr
 have hq:=h2 s hs
 unfold gS Bn xf uk
 by_cases h0:bD c[s]! =0
 ·rw[ai h0,ai h0]
  congr 1
  ·exact (G5 h1 hq h3 h0).symm
  ·refine ni (by rw[cY]) fun i hi=>?_
   have hi:i<c.length:=hi
   rw[eD hi]
   by_cases his:s=i
   ·rw[ai his,ai his.symm]
   ·rw[ah his,ah (fun e=>his e.symm)]
    exact (G5 (h2 i hi) hq (h4 i (by omega)) h0).symm
 ·rw[ah h0,ah h0]
  congr 1
  refine ni (by rw[qx,cY]) fun i hi=>?_
  have hi:i<c.length:=hi
  rw[Jp _ _ _ _ _ i (by rw[cY];exact hi),cY,eD hi]
  by_cases his:s=i
  ·subst his;simp
  ·rw[ai ⟨hi,fun e=>his e.symm⟩,ah his,ah (fun e=>his e.symm)]
theorem rH(r:Row)(s:Nat):(aZ r s).c.length=r.c.length:=by unfold aZ;simp[Bb]
def pl(rows:List Row)(r1:Row)(s at' i:Nat):List Row:=(List.range rows.length).map fun j=>if j≠at'∧j<i then⟨(gS rows[j]!.k rows[j]!.c r1 s).k,(gS rows[j]!.k rows[j]!.c r1 s).c,rows[j]!.b⟩ else rows[j]!
theorem P4(at' i:Nat):xR at' (i+1)=if i=at' then xR at' i else xR at' i++[some i]:=by
 unfold xR
 rw[vL,Ni,iP]
 by_cases h:i=at'
 ·rw[ai h];simp[h]
 ·rw[ah h];simp[h]
theorem O2(d:Dic)(r1:Row)(s at':Nat)(g:Bool):∀i,i≤d.rows.length→(xR at' i).foldl (wD r1 s) (d,g)=
  (⟨pl d.rows r1 s at' i,(gS d.gk d.gc r1 s).k,(gS d.gk d.gc r1 s).c,d.n,d.piv,d.most⟩,g&&(f7 (gS d.gk d.gc r1 s).k (gS d.gk d.gc r1 s).c&&(List.range i).all fun j=>decide (j=at')||f7 (gS d.rows[j]!.k d.rows[j]!.c r1 s).k (gS d.rows[j]!.k d.rows[j]!.c r1 s).c))
 |0,_=>by
  have h0:pl d.rows r1 s at' 0=d.rows:=by
   unfold pl
   exact (ni rfl fun i hi=>by rw[ah (by omega)]).symm
  rw[h0]
  show wD r1 s (d,g) none=_
  simp[wD,RI,Mh,lkO,lcO,gS]
 |i+1,h=>by
  have ih:=O2 d r1 s at' g i (by omega)
  rw[P4]
  by_cases hi:i=at'
  ·rw[ai hi,ih]
   congr 1
   ·congr 1
    unfold pl
    refine sr fun j hj=>?_
    by_cases Cv:j≠at'∧j<i
    ·rw[ai Cv,ai (by omega)]
    ·rw[ah Cv,ah (by omega)]
   ·rw[vL,lE]
    simp[hi]
  ·rw[ah hi,List.foldl_append,ih]
   have fF:(pl d.rows r1 s at' i)[i]! =d.rows[i]! :=by
    apply c8
    unfold pl
    rw[bK _ (by omega),ah (by omega)]
   have CV:∀x:Row,(pl d.rows r1 s at' i).set i x=(List.range d.rows.length).map fun j=>if j=i then x else (pl d.rows r1 s at' i)[j]! :=fun x=>by
    refine ni (by simp[pl]) fun j hj=>?_
    rw[eD (by simpa[pl] using hj)]
    by_cases Cy:i=j
    ·rw[ai Cy,ai Cy.symm]
    ·rw[ah Cy,ah (fun e=>Cy e.symm)]
   simp only[List.foldl_cons,List.foldl_nil,wD,RI,Mh,lkO,lcO,fF]
   congr 1
   ·congr 1
    rw[CV]
    unfold pl
    refine sr fun j hj=>?_
    have hj:=kC.1 hj
    by_cases zF:j=i
    ·subst zF
     rw[ai rfl,ai ⟨hi,by omega⟩]
     rfl
    ·rw[ah zF]
     have:((List.range d.rows.length).map fun j=>if j≠at'∧j<i then (⟨(gS d.rows[j]!.k d.rows[j]!.c r1 s).k,(gS d.rows[j]!.k d.rows[j]!.c r1 s).c,d.rows[j]!.b⟩:Row) else d.rows[j]!)[j]! =_:=c8 (bK _ hj)
     rw[this]
     by_cases Cv:j≠at'∧j<i
     ·rw[ai Cv,ai (by omega)]
     ·rw[ah Cv,ah (by omega)]
   ·rw[vL,lE]
    simp[hi,gS,Jd]
structure Fine(d:Dic)(w:Nat):Prop where
 lg:d.gc.length=w
 lr:∀i,i<d.rows.length→d.rows[i]!.c.length=w
 gg:f7 d.gk d.gc=true
 gr:∀i,i<d.rows.length→f7 d.rows[i]!.k d.rows[i]!.c=true
def gp(d:Dic)(at' s:Nat):Dic:=
 let r1:=aZ d.rows[at']! s
 ⟨(List.range d.rows.length).map fun j=>if j=at' then r1 else⟨(gS d.rows[j]!.k d.rows[j]!.c r1 s).k,(gS d.rows[j]!.k d.rows[j]!.c r1 s).c,d.rows[j]!.b⟩,(gS d.gk d.gc r1 s).k,(gS d.gk d.gc r1 s).c,d.n,d.piv+1,d.most⟩
theorem Bp(d:Dic)(at' s:Nat)(hat:at'<d.rows.length)(hp:¬d.most≤d.piv):(dP d at' s).2=gp d at' s∧
  ((dP d at' s).1=0∨(dP d at' s).1=30)∧((dP d at' s).1=0↔f7 (gp d at' s).gk (gp d at' s).gc=true∧∀i,i<d.rows.length→f7 (gp d at' s).rows[i]!.k (gp d at' s).rows[i]!.c=true):=by
 have iV:∀(p:Dic×Bool) (r1:Row),pO r1 s at' d.rows.length p (xR at' d.rows.length).length=(xR at' d.rows.length).foldl (wD r1 s) p:=fun p r1=>by unfold pO;rw[List.take_length]
 unfold dP
 rw[ah hp]
 simp only[iV]
 obtain⟨r1,FN⟩:∃r1,r1=aZ d.rows[at']! s:=⟨_,rfl⟩
 have hr1':=FN
 rw[←FN]
 obtain⟨d1,Di⟩:∃d1:Dic,d1=⟨d.rows.set at' r1,d.gk,d.gc,d.n,d.piv+1,d.most⟩:=⟨_,rfl⟩
 have hdl:d1.rows.length=d.rows.length:=by rw[Di];exact cY ..
 rw[←Di]
 have hf:=O2 d1 r1 s at' (f7 r1.k r1.c) d.rows.length (by omega)
 rw[hf]
 have Iz:∀j,j<d.rows.length→d1.rows[j]! =if at'=j then r1 else d.rows[j]! :=fun j hj=>by rw[Di];exact eD hj
 have hpD:gp d at' s=⟨pl d1.rows r1 s at' d.rows.length,(gS d1.gk d1.gc r1 s).k,(gS d1.gk d1.gc r1 s).c,d1.n,d1.piv,d1.most⟩:=by
  unfold gp
  rw[←FN,Di]
  dsimp only
  congr 1
  unfold pl
  rw[cY]
  refine sr fun j hj=>?_
  have hj:=kC.1 hj
  rw[eD hj]
  by_cases sF:j=at'
  ·subst sF;simp
  ·rw[ah sF,ai ⟨sF,hj⟩,ah (fun e=>sF e.symm)]
 refine⟨hpD.symm,?_,?_⟩
 ·dsimp only
  split <;> simp
 ·dsimp only
  have fF:∀i,i<d.rows.length→(gp d at' s).rows[i]! =if i=at' then r1 else⟨(gS d.rows[i]!.k d.rows[i]!.c r1 s).k,(gS d.rows[i]!.k d.rows[i]!.c r1 s).c,d.rows[i]!.b⟩:=fun i hi=>by
   apply c8
   unfold gp
   rw[←FN]
   exact bK _ hi
  constructor
  ·intro h
   split at h
   ·rename_i hb
    simp only[b8,ba] at hb
    obtain⟨h1,h2,h3⟩:=hb
    refine⟨by rw[hpD];exact h2,fun i hi=>?_⟩
    rw[fF i hi]
    by_cases rx:i=at'
    ·rw[ai rx];exact h1
    ·rw[ah rx]
     have:=h3 i (kC.2 hi)
     rw[Iz i hi,ah (fun e=>rx e.symm)] at this
     simpa[rx] using this
   ·cases h
  ·rintro⟨h1,h2⟩
   rw[ai]
   simp only[b8,ba]
   refine⟨?_,by rw[hpD] at h1;exact h1,fun i hi=>?_⟩
   ·have:=h2 at' hat
    rw[fF at' hat,ai rfl] at this
    exact this
   ·have hi:=kC.1 hi
    have:=h2 i hi
    rw[fF i hi] at this
    by_cases rx:i=at'
    ·simp[rx]
    ·rw[ah rx] at this
     rw[Iz i hi,ah (fun e=>rx e.symm)]
     simp only[Jm]
     exact .inr this
def ku(c:List Nu):Option Nat:=c.findIdx? fun x=>decide (0<bD x)
def g7:Nat→Dic→(Int×Int)×Dic
 |0,d=>((-1,0),d)
 |f+1,d=>match ku d.gc with
  |none=>((-1,0),d)
  |some s=>match jm d.rows s default d.rows.length with
   |none=>((-1,30),d)
   |some p=>if p.1<0 then (((s:Int),0),d) else
    let q:=dP d p.1.toNat s
    if q.1=0 then g7 f q.2 else ((-1,q.1),q.2)
def aS(d:Dic):(Int×Int)×Dic:=g7 ((d.most - d.piv).toNat+1) d
def ue(x:Nu)(r:Row):Row:=⟨r.k,r.c.set 0 x,r.b⟩
def jX(l:List Row):Nat→Nat
 |0=>0
 |i+1=>if nh l[i]!.k l[jX l i]!.k<0 then i else jX l i
def co(d:Dic):Dic:=⟨d.rows.map (ue (nOf 1)),d.gk,d.gc.set 0 (nOf (-1)),d.n,d.piv,d.most⟩
def yh(c:List Nu):Option Nat:=c.findIdx? fun x=>decide (bD x≠0)
def jO(d:Dic):Int×Dic:=
 let p:=dP (co d) (jX d.rows d.rows.length) 0
 if p.1≠0 then p else
 let q:=aS p.2
 if q.1.2≠0∨bD q.2.gk<0 then (q.1.2,q.2) else
 if dm q.2.rows 0<0 then (0,q.2) else
 match yh q.2.rows[(dm q.2.rows 0).toNat]!.c with
 |none=>(0,q.2)
 |some s=>dP q.2 (dm q.2.rows 0).toNat s
def gJ(l:List Row)(w:Nat)(c:List Nu):Nat→Nu×List Nu
 |0=>(nOf 0,List.replicate w (nOf 0))
 |k+1=>let g:=gJ l w c k
  if 0≤dm l ((k+1:Nat):Int) then (xf c[k]! l[(dm l ((k+1:Nat):Int)).toNat]!.k g.1,uk c[k]! l[(dm l ((k+1:Nat):Int)).toNat]!.c (-1) g.2)
  else (g.1,g.2.set (k+1) (jK g.2[k+1]! c[k]!))
def mO(d:Dic)(c:List Nu):Dic:=⟨d.rows.map (ue (nOf 0)),(gJ (d.rows.map (ue (nOf 0))) d.gc.length c c.length).1,(gJ (d.rows.map (ue (nOf 0))) d.gc.length c c.length).2,d.n,d.piv,d.most⟩
def mN(d:Dic)(c:List Nu):Int×Dic:=(if f7 (mO d c).gk (mO d c).gc then 0 else 30,mO d c)
def cO(l:List Row)(nn:Nat)(of:Row→Nu)(other:Nat→Nu):List Nu:=(List.range nn).map fun j=>if 0≤dm l ((j+1:Nat):Int) then of l[(dm l ((j+1:Nat):Int)).toNat]! else other (j+1)
def aG(m nn:Nat)(A B:List Nu)(most:Int):Dic:=
 ⟨(List.range m).map fun i=>⟨B[i]!,(List.range (1+nn+m)).map (fun t=>if 1≤t∧t≤nn then eZ A[i*nn+(t - 1)]! else nOf 0),((1+nn+i:Nat):Int)⟩,nOf 0,List.replicate (1+nn+m) (nOf 0),nn,0,most⟩
structure Ans where
 kind:Int
 x:List Nu
 y:List Nu
 ray:List Nu
 deriving DecidableEq
def wj(nn:Nat)(d:Dic)(c:List Nu):Ans×Int×Int:=
 let a:=mN d c
 if a.1≠0 then (⟨0,[],[],[]⟩,0,a.1) else
 let q:=aS a.2
 if q.1.2≠0 then (⟨0,[],[],[]⟩,0,q.1.2) else
 let x:=cO q.2.rows nn Row.k fun _=>nOf 0
 if q.1.1<0 then (⟨1,x,bR q.2 nn,[]⟩,q.2.piv,0) else
 (⟨3,x,[],cO q.2.rows nn (fun r=>r.c[q.1.1.toNat]!) fun v=>if (v:Int)=q.1.1 then nOf 1 else nOf 0⟩,q.2.piv,0)
def iz(m nn:Nat)(A B C:List Nu)(most:Int):Ans×Int×Int:=
 let d:=aG m nn A B most
 if B.any (fun b=>decide (bD b<0))=true then
  let p:=jO d
  if p.1≠0 then (⟨0,[],[],[]⟩,0,p.1) else
  if bD p.2.gk<0 then (⟨2,[],bR p.2 nn,[]⟩,p.2.piv,0) else wj nn p.2 C
 else wj nn d C
section
def aN:Nat→(Nat→Rat)→Rat
 |0,_=>0
 |n+1,f=>aN n f+f n
theorem az {f g:Nat→Rat}:∀{n:Nat},(∀t,t<n→f t=g t)→aN n f=aN n g
 |0,_=>rfl
 |n+1,h=>by unfold aN;rw[az fun t ht=>h t (by omega),h n (by omega)]
theorem lm(f g:Nat→Rat):∀n,aN n (fun t=>f t+g t)=aN n f+aN n g
 |0=>by show (0:Rat)=0+0;grind
 |n+1=>by unfold aN;rw[lm f g n];grind
theorem g5(a:Rat)(f:Nat→Rat):∀n,aN n (fun t=>a*f t)=a*aN n f
 |0=>by simp[aN]
 |n+1=>by unfold aN;rw[g5 a f n];grind
theorem eR:∀n,aN n (fun _=>0)=0
 |0=>rfl
 |n+1=>by unfold aN;rw[eR n];show (0:Rat)+0=0;grind
theorem mc(a:Nat)(x:Rat):∀n,a<n→aN n (fun t=>if t=a then x else 0)=x
 |0,h=>by omega
 |n+1,h=>by
  show aN n (fun t=>if t=a then x else 0)+(if n=a then x else 0)=x
  by_cases hn:n=a
  ·subst hn
   rw[ai rfl,az (g:=fun _=>0) fun t ht=>ah (by omega),eR]
   grind
  ·rw[ah hn,mc a x n (by omega)];grind
theorem zY(f g:Nat→Rat)(n:Nat):aN n (fun t=>f t - g t)=aN n f - aN n g:=by
 have:(fun t=>f t - g t)=fun t=>f t+(-1)*g t:=by funext t;grind
 rw[this,lm f (fun t=>(-1)*g t),g5];grind
theorem GU(f:Nat→Nat→Rat)(m:Nat):∀n,aN n (fun i=>aN m (fun j=>f i j))=aN m (fun j=>aN n (fun i=>f i j))
 |0=>(eR m).symm
 |n+1=>by
  have:(fun j=>aN (n+1) fun i=>f i j)=fun j=>aN n (fun i=>f i j)+f n j:=rfl
  rw[this,lm]
  show aN n (fun i=>aN m fun j=>f i j)+aN m (fun j=>f n j)=_
  rw[GU f m n]
theorem Cm {f:Nat→Rat}:∀{n:Nat},(∀t,t<n→0≤f t)→0≤aN n f
 |0,_=>by simp[aN]
 |n+1,h=>by
  unfold aN
  have h1:=Cm (f:=f) (n:=n) fun t ht=>h t (by omega)
  have h2:=h n (by omega)
  grind
theorem wC(f:Nat→Rat)(a:Nat)(x:Rat){n:Nat}(h:a<n):aN n (fun t=>if t=a then x else f t)=aN n f+(x - f a):=by
 rw[←mc a (x - f a) n h,←lm]
 refine az fun t _=>?_
 by_cases ht:t=a
 ·subst ht;rw[ai rfl,ai rfl];grind
 ·rw[ah ht,ah ht];grind
def bM(w:Nat)(k:Nu)(c:List Nu)(y:Nat→Rat):Rat:=rv k+aN w (fun t=>rv c[t]! *y t)
def Sol(d:Dic)(w:Nat)(y:Nat→Rat):Prop:=∀i,i<d.rows.length→y d.rows[i]!.b.toNat=bM w d.rows[i]!.k d.rows[i]!.c y
structure Inv(d:Dic)(w:Nat):Prop where
 fine:Fine d w
 rng:∀i,i<d.rows.length→0≤d.rows[i]!.b∧d.rows[i]!.b<w
 inj:∀i j,i<d.rows.length→j<d.rows.length→d.rows[i]!.b=d.rows[j]!.b→i=j
 zg:∀j,j<d.rows.length→d.gc[d.rows[j]!.b.toNat]! =nOf 0
 zr:∀i j,i<d.rows.length→j<d.rows.length→d.rows[i]!.c[d.rows[j]!.b.toNat]! =nOf 0
theorem uE {r:Row}{s t:Nat}(hs:s<r.c.length)(ht:t<r.c.length):(aZ r s).c[t]! =if t=r.b.toNat then oa (nOf 1) r.c[s]! else if t=s then nOf 0 else oa (eZ r.c[t]!) r.c[s]! :=by
 unfold aZ
 rw[PP]
 dsimp only
 rw[eD (by simpa using ht)]
 by_cases h1:r.b.toNat=t
 ·rw[ai h1,ai h1.symm]
 ·rw[ah h1,ah (fun e=>h1 e.symm),eD (by simpa using ht)]
  by_cases h2:s=t
  ·rw[ai h2,ai h2.symm]
  ·rw[ah h2,ah (fun e=>h2 e.symm)]
   apply c8
   rw[dV,wi ht];rfl
theorem HZ {r:Row}{w s:Nat}(hs:s<w)(hl:r.c.length=w)(hb:r.b.toNat<w)(hg:f7 r.k r.c=true)(hz:r.c[r.b.toNat]! =nOf 0)(fI:s≠r.b.toNat)(Cz:f7 (aZ r s).k (aZ r s).c=true)(y:Nat→Rat):
  rv r.c[s]!≠0∧bM w (aZ r s).k (aZ r s).c y - y s=(y r.b.toNat - bM w r.k r.c y) / rv r.c[s]! :=by
 obtain⟨h1,h2⟩:=bm.1 hg
 obtain⟨h3,h4⟩:=bm.1 Cz
 have hk:(aZ r s).k=oa (eZ r.k) r.c[s]! :=rfl
 rw[hk] at h3
 obtain⟨_,h6,h7,h8⟩:=ub h3
 refine⟨h7,?_⟩
 have hc:∀t,t<w→rv (aZ r s).c[t]! *y t=if t=r.b.toNat then (rv r.c[s]!)⁻¹*y r.b.toNat else if t=s then 0 else -(rv r.c[s]!)⁻¹*(rv r.c[t]! *y t):=by
  intro t ht
  have h9:=h4 t (by rw[rH];omega)
  rw[uE (by omega) (by omega)] at h9 ⊢
  by_cases e1:t=r.b.toNat
  ·rw[ai e1] at h9 ⊢
   rw[ai e1,(ub h9).2.2.2,of1.2,←e1];grind
  ·rw[ah e1] at h9 ⊢
   rw[ah e1]
   by_cases e2:t=s
   ·rw[ai e2,ai e2,of0.2];grind
   ·rw[ah e2] at h9 ⊢
    rw[ah e2,(ub h9).2.2.2,lW];grind
 unfold bM
 rw[az hc,wC (fun t=>if t=s then 0 else -(rv r.c[s]!)⁻¹*(rv r.c[t]! *y t)) r.b.toNat _ hb,ah (fun e=>fI e.symm),wC (fun t=>-(rv r.c[s]!)⁻¹*(rv r.c[t]! *y t)) s 0 hs,g5,hk,h8,lW,hz,of0.2]
 grind
theorem DQ {k:Nu}{c:List Nu}{row:Lin}{w s:Nat}(hs:s<w)(hl:c.length=w)(hg:f7 k c=true)(Cz:goodR (Bn ⟨k,c⟩ row s)=true)(Th:row.c.length=w)(FT:goodR row=true)(hz:row.c[s]! =nOf 0)(y:Nat→Rat):
  bM w (Bn ⟨k,c⟩ row s).k (Bn ⟨k,c⟩ row s).c y=bM w k c y+rv c[s]! *(bM w row.k row.c y - y s):=by
 obtain⟨h1,h2⟩:=bm.1 hg
 obtain⟨h3,h4⟩:=bm.1 Cz
 obtain⟨h5,h6⟩:=bm.1 FT
 have hk:(Bn ⟨k,c⟩ row s).k=jK k (lM c[s]! row.k):=rfl
 have Ep:∀t,t<w→(Bn ⟨k,c⟩ row s).c[t]! =if t=s then nOf 0 else jK c[t]! (lM c[s]! row.c[t]!):=fun t ht=>c8 (bK _ (by show t<c.length;omega))
 have hlen:(Bn ⟨k,c⟩ row s).c.length=w:=by unfold Bn;simp[hl]
 rw[hk] at h3
 have zc:rv (Bn ⟨k,c⟩ row s).k=rv k+rv c[s]! *rv row.k:=by
  rw[hk,In h1 (wJ h3).2 h3,Im (h2 s (by omega)) h5 (wJ h3).2]
 have hc:∀t,t<w→rv (Bn ⟨k,c⟩ row s).c[t]! *y t=if t=s then 0 else rv c[t]! *y t+rv c[s]! *(rv row.c[t]! *y t):=by
  intro t ht
  have h9:=h4 t (by omega)
  rw[Ep t ht] at h9 ⊢
  by_cases e:t=s
  ·rw[ai e,ai e,of0.2];grind
  ·rw[ah e] at h9 ⊢
   rw[ah e,In (h2 t (by omega)) (wJ h9).2 h9,Im (h2 s (by omega)) (h6 t (by omega)) (wJ h9).2]
   grind
 unfold bM
 rw[zc,az hc,wC (fun t=>rv c[t]! *y t+rv c[s]! *(rv row.c[t]! *y t)) s 0 hs,lm (fun t=>rv c[t]! *y t) (fun t=>rv c[s]! *(rv row.c[t]! *y t)),g5,hz,of0.2]
 grind
section
variable {d:Dic} {w at' s:Nat}
theorem d7:(gp d at' s).rows.length=d.rows.length:=by unfold gp;simp
theorem jj {i:Nat}(hi:i<d.rows.length):(gp d at' s).rows[i]! =if i=at' then aZ d.rows[at']! s else⟨(gS d.rows[i]!.k d.rows[i]!.c (aZ d.rows[at']! s) s).k,(gS d.rows[i]!.k d.rows[i]!.c (aZ d.rows[at']! s) s).c,d.rows[i]!.b⟩:=c8 (bK _ hi)
theorem pp {i:Nat}(hi:i<d.rows.length):(gp d at' s).rows[i]!.b=if i=at' then (s:Int) else d.rows[i]!.b:=by
 rw[jj hi]
 by_cases h:i=at'
 ·rw[ai h,ai h];rfl
 ·rw[ah h,ah h]
structure gO(d:Dic)(w at' s:Nat):Prop where
 inv:Inv d w
 hat:at'<d.rows.length
 hs:s<w
 nb:∀j,j<d.rows.length→d.rows[j]!.b≠s
 fine:Fine (gp d at' s) w
section
variable (h:gO d w at' s)
include h
theorem gO.turn(y:Nat→Rat):rv d.rows[at']!.c[s]!≠0∧bM w (aZ d.rows[at']! s).k (aZ d.rows[at']! s).c y - y s=(y d.rows[at']!.b.toNat - bM w d.rows[at']!.k d.rows[at']!.c y) / rv d.rows[at']!.c[s]! :=by
 have hr:=h.inv.rng at' h.hat
 refine HZ h.hs (h.inv.fine.lr at' h.hat) (by omega) (h.inv.fine.gr at' h.hat) (h.inv.zr at' at' h.hat h.hat) (fun e=>h.nb at' h.hat (by omega)) ?_ y
 have:=h.fine.gr at' (by rw[d7];exact h.hat)
 rwa[jj h.hat,ai rfl] at this
theorem gO.row:f7 (aZ d.rows[at']! s).k (aZ d.rows[at']! s).c=true:=by
 have:=h.fine.gr at' (by rw[d7];exact h.hat)
 rwa[jj h.hat,ai rfl] at this
theorem gO.lrow:(aZ d.rows[at']! s).c.length=w:=by rw[rH];exact h.inv.fine.lr at' h.hat
theorem gO.rowS:(aZ d.rows[at']! s).c[s]! =nOf 0:=by
 have hl:=h.inv.fine.lr at' h.hat
 have hs:=h.hs
 have hr:=h.inv.rng at' h.hat
 rw[uE (by omega) (by omega),ah (fun e=>h.nb at' h.hat (by omega)),ai rfl]
theorem gO.put {k:Nu}{c:List Nu}(hg:f7 k c=true)(hl:c.length=w):gS k c (aZ d.rows[at']! s) s=Bn ⟨k,c⟩ ⟨(aZ d.rows[at']! s).k,(aZ d.rows[at']! s).c⟩ s:=by
 have hs:=h.hs
 have:=h.lrow
 exact putP_eq hg h.row (by omega) (by omega)
theorem gO.goalW(y:Nat→Rat):bM w (gp d at' s).gk (gp d at' s).gc y=bM w d.gk d.gc y+rv d.gc[s]! *(bM w (aZ d.rows[at']! s).k (aZ d.rows[at']! s).c y - y s):=by
 have h1:=h.fine.gg
 have e:gS d.gk d.gc (aZ d.rows[at']! s) s=⟨(gp d at' s).gk,(gp d at' s).gc⟩:=rfl
 have e2:=(h.put h.inv.fine.gg h.inv.fine.lg).symm.trans e
 have:=DQ (row:=⟨(aZ d.rows[at']! s).k,(aZ d.rows[at']! s).c⟩) h.hs h.inv.fine.lg h.inv.fine.gg (by rw[e2];exact h1) h.lrow h.row h.rowS y
 rw[e2] at this
 exact this
theorem gO.rowW {i:Nat}(hi:i<d.rows.length)(rx:i≠at')(y:Nat→Rat):bM w (gp d at' s).rows[i]!.k (gp d at' s).rows[i]!.c y=bM w d.rows[i]!.k d.rows[i]!.c y+rv d.rows[i]!.c[s]! *(bM w (aZ d.rows[at']! s).k (aZ d.rows[at']! s).c y - y s):=by
 have h1:=h.fine.gr i (by rw[d7];exact hi)
 rw[jj hi,ah rx] at h1 ⊢
 have e2:=h.put (h.inv.fine.gr i hi) (h.inv.fine.lr i hi)
 have:=DQ (row:=⟨(aZ d.rows[at']! s).k,(aZ d.rows[at']! s).c⟩) h.hs (h.inv.fine.lr i hi) (h.inv.fine.gr i hi) (by rw[←e2];exact h1) h.lrow h.row h.rowS y
 rw[←e2] at this
 exact this
theorem gO.sol(y:Nat→Rat):Sol (gp d at' s) w y↔Sol d w y:=by
 obtain⟨h0,ht⟩:=h.turn y
 have hat:=h.hat
 have key:y s=bM w (aZ d.rows[at']! s).k (aZ d.rows[at']! s).c y↔y d.rows[at']!.b.toNat=bM w d.rows[at']!.k d.rows[at']!.c y:=by
  constructor
  ·intro e
   rw[←e] at ht
   have:(y d.rows[at']!.b.toNat - bM w d.rows[at']!.k d.rows[at']!.c y) / rv d.rows[at']!.c[s]! =0:=by grind
   rw[iL] at this
   have h2:=BY.1 this
   rcases h2 with h2|h2
   ·grind
   ·exact absurd h2 (by grind)
  ·intro e
   rw[e] at ht
   have:bM w (aZ d.rows[at']! s).k (aZ d.rows[at']! s).c y - y s=0:=by rw[ht,iL];grind
   grind
 have hatS:(gp d at' s).rows[at']!.b.toNat=s∧(gp d at' s).rows[at']! =aZ d.rows[at']! s:=by
  rw[jj hat,ai rfl]
  exact⟨by show ((s:Int)).toNat=s;omega,rfl⟩
 unfold Sol
 rw[d7]
 constructor
 ·intro hy i hi
  have h1:=hy at' hat
  rw[hatS.1,hatS.2] at h1
  by_cases rx:i=at'
  ·subst rx;exact key.1 h1
  ·have h2:=hy i hi
   rw[h.rowW hi rx,pp hi,ah rx] at h2
   rw[h2]
   grind
 ·intro hy i hi
  have h1:=key.2 (hy at' hat)
  by_cases rx:i=at'
  ·subst rx;rw[hatS.1,hatS.2];exact h1
  ·rw[h.rowW hi rx,pp hi,ah rx,hy i hi]
   grind
theorem gO.goal {y:Nat→Rat}(hy:Sol d w y):bM w (gp d at' s).gk (gp d at' s).gc y=bM w d.gk d.gc y:=by
 have h1:=(h.sol y).2 hy at' (by rw[d7];exact h.hat)
 rw[jj h.hat,ai rfl] at h1
 have h2:y s=bM w (aZ d.rows[at']! s).k (aZ d.rows[at']! s).c y:=by
  have e:((aZ d.rows[at']! s).b).toNat=s:=by show ((s:Int)).toNat=s;omega
  rw[e] at h1;exact h1
 rw[h.goalW y]
 grind
end
end
end
section
theorem rv_nOf0 {x:Nu}(hg:ar x=true)(h:rv x=0):x=nOf 0:=Et hg of0.1 (h.trans of0.2.symm)
section
variable {d:Dic} {w at' s:Nat}
theorem gO.toInv(h:gO d w at' s):Inv (gp d at' s) w:=by
 have hat:=h.hat
 have hs:=h.hs
 have hb:∀j,j<d.rows.length→d.rows[j]!.b.toNat<w:=fun j hj=>by have:=h.inv.rng j hj;omega
 have hrz:∀j,j<d.rows.length→j≠at'→(aZ d.rows[at']! s).c[d.rows[j]!.b.toNat]! =nOf 0:=fun j hj sF=>by
  have hl:=h.inv.fine.lr at' hat
  have h1:=(bm.1 h.row).2 d.rows[j]!.b.toNat (by rw[h.lrow];exact hb j hj)
  have FN:=h.inv.rng j hj
  have OI:=h.inv.rng at' hat
  rw[uE (by omega) (by rw[hl];exact hb j hj)] at h1 ⊢
  rw[ah (fun e=>sF (h.inv.inj j at' hj hat (by omega))),ah (fun e=>h.nb j hj (by omega))] at h1 ⊢
  refine rv_nOf0 h1 ?_
  rw[(ub h1).2.2.2,lW,h.inv.zr at' j hat hj,of0.2,iL];grind
 have hz:∀(k:Nu) (c:List Nu),f7 k c=true→c.length=w→f7 (gS k c (aZ d.rows[at']! s) s).k (gS k c (aZ d.rows[at']! s) s).c=true→(gS k c (aZ d.rows[at']! s) s).c[s]! =nOf 0∧
   ∀j,j<d.rows.length→j≠at'→c[d.rows[j]!.b.toNat]! =nOf 0→(gS k c (aZ d.rows[at']! s) s).c[d.rows[j]!.b.toNat]! =nOf 0:=fun k c hg hl Cz=>by
  rw[h.put hg hl] at Cz ⊢
  have Ep:∀t,t<w→(Bn ⟨k,c⟩ ⟨(aZ d.rows[at']! s).k,(aZ d.rows[at']! s).c⟩ s).c[t]! =if t=s then nOf 0 else jK c[t]! (lM c[s]! (aZ d.rows[at']! s).c[t]!):=fun t ht=>c8 (bK _ (by show t<c.length;omega))
  refine⟨by rw[Ep s hs,ai rfl],fun j hj sF h0=>?_⟩
  have FN:=h.inv.rng j hj
  rw[Ep _ (hb j hj),ah (fun e=>h.nb j hj (by omega)),h0,hrz j hj sF]
  rw[yY ((bm.1 hg).2 s (by omega)),xw of0.1]
 refine⟨h.fine,fun i hi=>?_,fun i j hi hj e=>?_,fun j hj=>?_,fun i j hi hj=>?_⟩
 ·rw[d7] at hi
  rw[pp hi]
  by_cases rx:i=at'
  ·rw[ai rx];omega
  ·rw[ah rx];exact h.inv.rng i hi
 ·rw[d7] at hi hj
  rw[pp hi,pp hj] at e
  by_cases rx:i=at' <;> by_cases sF:j=at'
  ·omega
  ·rw[ai rx,ah sF] at e;exact absurd e.symm (h.nb j hj)
  ·rw[ah rx,ai sF] at e;exact absurd e (h.nb i hi)
  ·rw[ah rx,ah sF] at e;exact h.inv.inj i j hi hj e
 ·rw[d7] at hj
  rw[pp hj]
  obtain⟨h1,h2⟩:=hz d.gk d.gc h.inv.fine.gg h.inv.fine.lg h.fine.gg
  by_cases sF:j=at'
  ·rw[ai sF,show ((s:Int)).toNat=s by omega];exact h1
  ·rw[ah sF];exact h2 j hj sF (h.inv.zg j hj)
 ·rw[d7] at hi hj
  have JI:=h.fine.gr i (by rw[d7];exact hi)
  rw[pp hj]
  rw[jj hi] at JI ⊢
  by_cases rx:i=at'
  ·rw[ai rx]
   by_cases sF:j=at'
   ·rw[ai sF,show ((s:Int)).toNat=s by omega];exact h.rowS
   ·rw[ah sF];exact hrz j hj sF
  ·rw[ah rx] at JI ⊢
   obtain⟨h1,h2⟩:=hz d.rows[i]!.k d.rows[i]!.c (h.inv.fine.gr i hi) (h.inv.fine.lr i hi) JI
   by_cases sF:j=at'
   ·rw[ai sF,show ((s:Int)).toNat=s by omega];exact h1
   ·rw[ah sF];exact h2 j hj sF (h.inv.zr i j hi hj)
theorem Inv.pick(hI:Inv d w)(v:Nat→Rat):∃y,Sol d w y∧∀t,(∀j,j<d.rows.length→d.rows[j]!.b≠(t:Nat))→y t=v t:=by
 have hex:∃y:Nat→Rat,∀t,y t=(match (d.rows.findIdx? fun r=>decide (r.b=(t:Int))) with|some i=>bM w d.rows[i]!.k d.rows[i]!.c v|none=>v t):=⟨_,fun _=>rfl⟩
 obtain⟨y,hy⟩:=hex
 have h1:∀t,(∀j,j<d.rows.length→d.rows[j]!.b≠(t:Nat))→y t=v t:=fun t ht=>by
  rw[hy t]
  have:(d.rows.findIdx? fun r=>decide (r.b=(t:Int)))=none:=by
   rw[u7]
   intro r hr
   obtain⟨j,hj,rfl⟩:=w5.1 hr
   have:=ht j hj
   rw[bL d.rows j hj] at this
   exact a8 this
  rw[this]
 refine⟨y,fun i hi=>?_,h1⟩
 have hr:=hI.rng i hi
 rw[hy]
 have:(d.rows.findIdx? fun r=>decide (r.b=((d.rows[i]!.b.toNat:Nat):Int)))=some i:=by
  rw[oO]
  refine⟨hi,?_,fun j hj=>?_⟩
  ·have:d.rows[i].b=d.rows[i]!.b:=by rw[bL d.rows i hi]
   exact aA (by omega)
  ·have h2:d.rows[j].b=d.rows[j]!.b:=by rw[bL d.rows j (by omega)]
   have:=hI.inj i j hi (by omega)
   simp only[r9]
   omega
 rw[this]
 dsimp only
 unfold bM
 congr 1
 refine az fun t ht=>?_
 by_cases hb:∀j,j<d.rows.length→d.rows[j]!.b≠(t:Nat)
 ·rw[h1 t hb]
 ·obtain⟨j,hj⟩:=Ny.1 hb
  obtain⟨OL,Cv⟩:=Nx.1 hj
  have Cv:=BX.1 Cv
  have:=hI.zr i j hi OL
  rw[Cv,show ((t:Nat):Int).toNat=t by omega] at this
  rw[this,of0.2];grind
end
theorem pJ {c:List Nu}{s:Nat}(h:ku c=some s):s<c.length∧0<bD c[s]!∧∀t,t<s→¬0<bD c[t]! :=by
 unfold ku at h
 obtain⟨h1,h2,h3⟩:=oO.1 h
 refine⟨h1,?_,fun t ht=>?_⟩
 ·rw[bL c s h1];exact bw h2
 ·have:=h3 t ht
  rw[bL c t (by omega)]
  simpa using this
theorem M8 {c:List Nu}(h:ku c=none){t:Nat}(ht:t<c.length):¬0<bD c[t]! :=by
 unfold ku at h
 have:=u7.1 h c[t] (nO ht)
 rw[bL c t ht]
 simpa using this
theorem px {l:List Row}{s:Nat}{z:Nu}:∀{n:Nat} {p:Int×Nu},jm l s z n=some p→p.1=-1∨∃i,i<n∧p.1=(i:Int)∧bD l[i]!.c[s]! <0∧ar p.2=true∧p.2=oa l[i]!.k (eZ l[i]!.c[s]!)
 |0,p,h=>by unfold jm at h;injection h with h;exact .inl (by rw[←h])
 |n+1,p,h=>by
  unfold jm at h
  cases hq:jm l s z n with
  |none=>rw[hq] at h;cases h
  |some q=>
   rw[hq] at h
   have ih:=px hq
   have up:q=p→p.1=-1∨∃i,i<n+1∧p.1=(i:Int)∧bD l[i]!.c[s]! <0∧ar p.2=true∧p.2=oa l[i]!.k (eZ l[i]!.c[s]!):=by
    rintro rfl
    rcases ih with h1|⟨i,h1,h2⟩
    ·exact .inl h1
    ·exact .inr ⟨i,by omega,h2⟩
   unfold rT at h
   dsimp only at h
   split at h
   ·injection h with h;exact up h
   ·rename_i h1
    split at h
    ·cases h
    ·rename_i h2
     split at h
     ·injection h with h
      subst h
      exact .inr ⟨n,by omega,rfl,by omega,by simpa using h2,rfl⟩
     ·injection h with h;exact up h
theorem Inv.enter {d:Dic}{w s:Nat}(hI:Inv d w)(h:bD d.gc[s]!≠0):∀j,j<d.rows.length→d.rows[j]!.b≠s:=fun j hj e=>by
 have:=hI.zg j hj
 rw[e,show ((s:Int)).toNat=s by omega] at this
 rw[this,(zZ of0.1).2 of0.2] at h
 exact h rfl
theorem Inv.rowNz {d:Dic}{w s i:Nat}(hI:Inv d w)(hi:i<d.rows.length)(h:bD d.rows[i]!.c[s]!≠0):∀j,j<d.rows.length→d.rows[j]!.b≠s:=fun j hj e=>by
 have:=hI.zr i j hi hj
 rw[e,show ((s:Int)).toNat=s by omega] at this
 rw[this,(zZ of0.1).2 of0.2] at h
 exact h rfl
structure rk(d d':Dic)(w:Nat):Prop where
 len:d'.rows.length=d.rows.length
 n:d'.n=d.n
 most:d'.most=d.most
 sol:∀y,Sol d' w y↔Sol d w y
 goal:∀y,Sol d w y→bM w d'.gk d'.gc y=bM w d.gk d.gc y
 piv:d.piv≤d'.piv
theorem rk.refl(d:Dic)(w:Nat):rk d d w:=⟨rfl,rfl,rfl,fun _=>Iff.rfl,fun _ _=>rfl,zt _⟩
theorem rk.trans {d d' Ug:Dic}{w:Nat}(h:rk d d' w)(h':rk d' Ug w):rk d Ug w:=
 ⟨h'.len.trans h.len,h'.n.trans h.n,h'.most.trans h.most,fun y=>(h'.sol y).trans (h.sol y),fun y hy=>(h'.goal y ((h.sol y).2 hy)).trans (h.goal y hy),Int.le_trans h.piv h'.piv⟩
theorem gO.same {d:Dic}{w at' s:Nat}(h:gO d w at' s):rk d (gp d at' s) w:=
 ⟨d7,rfl,rfl,h.sol,fun _ hy=>h.goal hy,by show d.piv≤d.piv+1;omega⟩
end
section
section
variable {vs:List (Nat×List D)} {lv:List (Nat×Nat×Nat×TypeId)} {N kd R G w:Nat} {C:Nat→Nat} {d:Dic}
theorem GX {A B:List D}{j:Nat}{r:Row}{F:List D}(h:F=A++iS C w j r++B)(hA:A.length=j*38):Pt F (j*38) (iS C w j r) (fun ys=>A++ys++B):=Pt.of A B hA h fun y=>rfl
theorem Ml {j:Nat}{r:Row}:Pt (iS C w j r) (0+36) [.ow (C j) 0 36 w] (fun ys=>dC (aw.f r.k)++ys++[dI .i64 r.b]):=Pt.of (dC (aw.f r.k)) [dI .i64 r.b] (iU _) (by unfold iS aY;simp only[c5]) fun y=>rfl
theorem RX {j:Nat}{r:Row}:Pt (iS C w j r) (0+0) (dC (aw.f r.k)) (fun ys=>ys++([.ow (C j) 0 36 w]++[dI .i64 r.b])):=Pt.of [] ([.ow (C j) 0 36 w]++[dI .i64 r.b]) rfl (by unfold iS aY;simp only[c5,nB]) fun y=>rfl
theorem rowD_b {j:Nat}{r:Row}:Pt (iS C w j r) (0+37) [dI .i64 r.b] (fun ys=>aY r.k (C j) w++ys++[]):=Pt.of (aY r.k (C j) w) [] (bS _ _ _) (by unfold iS;simp) fun y=>rfl
def PG:List E:=zN++[.lit (.slice none 0 0)]++[.lit (.int .i64 0)]
theorem Pt.all {F:List D}:Pt F 0 F id:=Pt.of [] [] rfl (by simp) fun y=>by simp
def Mz(o:Option (Int×Nu)):D:=match o with
 |none=>.tu [dI .i64 (-1),dI .i64 30]
 |some p=>.tu [dI .i64 p.1,dI .i64 0]
theorem MA {l:List Row}{s:Nat}{z:Nu}{i:Nat}(h:jm l s z i=none):∀n,i≤n→jm l s z n=none:=by
 intro n hn
 induction n with
 |zero=>
      obtain rfl:i=0:=by omega
      exact h
 |succ n ih=>
  rcases Nat.eq_or_lt_of_le hn with e|e
  ·subst e;exact h
  ·unfold jm;rw[ih (by omega)]
theorem Qw {s:Nat}(hD:DAt vs kd R G C w d)(hs:s<w)(hm:d.rows.length≤1000000):
  HC prog 110 [.pt kd 0,dI .i64 s] ⟨vs,lv,N⟩ (Mz (jm d.rows s default d.rows.length)) ⟨vs,lv,N⟩:=by
 refine HC.of (rs:=[.tmp 4,.tmp 5]) tok func110 rfl rfl (a9 rfl) rfl (fun cx hx h0 hok=>?_)
 simp only[fC,Nat.reduceAdd,br]
 have wn:=hD.hd
 have Gy:=hok.lt wn
 have hRi:(e9 R d.rows).idsB (N+1)=true:=by
  cases hl:d.rows with
  |nil=>rfl
  |cons r l'=>exact aA (by have:=hok.lt (hD.hR (by rw[hl];simp));omega)
 refine rs hx fun K hK=>?_
 iterate 2 refine sa ?_
 refine nl hK ?_
 refine rs hx fun K hK=>?_
 refine sa ?_
 refine nl hK ?_
 refine rs hx fun K hK=>?_
 refine n1 ?_
 refine nl hK ?_
 rw[←zNu]
 refine AW.seq (rs hx fun K hK=>?_)
 iterate 3 refine sa ?_
 refine c1 gE ?_
 refine Og (R:=R) (l:=d.rows) rfl ?_
 refine sa ?_
 refine nl hK ?_
 refine AW.block (AW.loopW (fun u:Nat×(Int×Nu)=>[(0,.pt kd 0),(1,dI .i64 s),(6,dI .i64 u.2.1),(7,.pt N 0),(15,e9 R d.rows),(16,dI .i64 d.rows.length),(17,dI .i64 u.1)]) (fun u=>⟨(N,dC (aw.f u.2.2))::vs,lv,N+1⟩) (fun u=>u.1≤d.rows.length∧jm d.rows s default u.1=some u.2) (fun u=>d.rows.length - u.1) (0,(-1,default)) ?_ ⟨cr _,rfl⟩ ?_)
 ·exact wk1 h0
 ·rintro⟨i,at',q⟩ ⟨hi,hp⟩
  dsimp only at hi hp ⊢
  refine rs hx fun K hK=>?_
  refine sa ?_
  refine nl hK ?_
  refine AW.seq (AW.condS rfl (fun hb=>?_) (fun hb=>?_))
  ·have zd:i<d.rows.length:=by have:=bw hb;omega
   have fI:d.rows≠[]:=fun e=>by rw[e] at zd;simp at zd
   have hr:d.rows[i]? =some d.rows[i]! :=by rw[bL d.rows i zd];exact cH zd
   obtain⟨A,B,hA,_,h3,_,_⟩:=mD C w d.rows i hr
   have hRv:=hD.hR fI
   have Dk:=hok.lt hRv
   have hcv:=hD.hC i _ hr
   have hCN:=hok.lt hcv
   have ux:=hD.lC i _ hr
   have iO:jm d.rows s default (i+1)=rT d.rows s (at',q) i:=by
    show (match jm d.rows s default i with|none=>none|some p=>rT d.rows s p i)=_
    rw[hp]
   unfold rT at iO
   dsimp only at iO
   generalize Iz:d.rows[i]! =r at hr hcv ux h3 iO
   refine AW.skip (AW.seq (AW.block (rs hx fun K hK=>?_)))
   refine sa ?_
   refine r1 zd ?_ (by show (e9 R d.rows).toOw=_;rw[qg fI];rfl)
   refine p1 (GX h3 hA) (tY _ _ _ _) ?_
   refine a1 (F:=PG) tV ?_
   refine sa ?_
   refine v1 (Pt.all (F:=dC PG)) rfl (tY C w i r) rfl ?_
   refine nl hK ?_
   refine AW.seq (rs hx fun K hK=>?_)
   iterate 2 refine sa ?_
   refine c1 (Ml (C:=C) (w:=w) (j:=i) (r:=r)) ?_
   refine sa ?_
   refine i1 hs ?_
   refine l1 (Pt.el r.c s (by omega)) ?_
   refine cq (yJ _) ?_
   refine sa ?_
   refine nl hK ?_
   refine AW.condS rfl (fun hb=>?_) (fun hb=>?_)
   ·have hsg:0≤bD r.c[s]! :=bw hb
    refine AW.exit (rq hx fun K hK=>?_)
    iterate 2 refine sa ?_
    refine nl hK ?_
    rw[bT]
    exact⟨(i+1,(at',q)),wk1 h0,⟨zd,iO.trans (by rw[ai hsg])⟩,by dsimp only;omega⟩
   have hsg:¬0≤bD r.c[s]! :=dp hb
   rw[ah hsg] at iO
   refine AW.skip (rsd [42,153] hx fun K hK=>?_)
   iterate 2 refine sa ?_
   refine l1 (RX (C:=C) (w:=w) (j:=i) (r:=r)) ?_
   iterate 2 refine sa ?_
   refine c1 (Ml (C:=C) (w:=w) (j:=i) (r:=r)) ?_
   refine sa ?_
   refine i1 hs ?_
   refine l1 (Pt.el r.c s (by omega)) ?_
   refine cq (J4 _) ?_
   refine cq (Rw _ _) ?_
   refine n1 ?_
   refine z1 ?_
   refine nl hK ?_
   generalize oa r.k (eZ r.c[s]!)=q' at iO ⊢
   refine AW.seq (rs hx fun K hK=>?_)
   refine l1 (Pt.idN q') ?_
   refine cq (w_Good _) ?_
   refine sa ?_
   refine nl hK ?_
   refine AW.condS rfl (fun hb=>?_) (fun hb=>?_)
   ·have hg:ar q'=false:=by simpa using hb
    rw[ai hg] at iO
    refine rs hx fun K hK=>?_
    iterate 2 refine sa ?_
    refine nl hK ?_
    refine AW.ret ?_
    rw[MA iO _ zd]
    exact rt2 h0
   have hg:¬ar q'=false:=by simpa using hb
   rw[ah hg] at iO
   refine AW.skip (rs hx fun K hK=>?_)
   refine l1 (Pt.idN q') ?_
   refine l1 (Pt.idN q) ?_
   refine cq (w_Cmp _ _) ?_
   refine sa ?_
   refine nl hK ?_
   refine rsd [] hx fun K hK=>?_
   iterate 3 refine sa ?_
   by_cases h1:at'<0
   ·have e1:decide (at'<0)=true:=aA h1
    iterate 2 refine gn e1 ?_
    refine s1 (d:=dB true) (oU e1) ?_
    refine sa ?_
    iterate 3 refine gn rfl ?_
    iterate 11 refine gm ?_
    refine gn rfl ?_
    refine s1 (d:=dB true) (oU rfl) ?_
    refine nl hK ?_
    rw[ai (.inl h1)] at iO
    refine AW.condS rfl (fun hb=>?_) (fun hb=>absurd hb (by simp))
    refine rqd [] hx fun K hK=>?_
    refine sa ?_
    refine l1 (Pt.idN q') ?_
    refine sa ?_
    refine t1 (Pt.idN q) rfl ?_
    refine nl hK ?_
    refine rq hx fun K hK=>?_
    iterate 2 refine sa ?_
    refine nl hK ?_
    rw[bT]
    exact⟨(i+1,((i:Int),q')),wk1 h0,⟨zd,iO.trans rfl⟩,by dsimp only;omega⟩
   have q9:decide (at'<0)=false:=a8 h1
   iterate 2 refine ga q9 ?_
   refine s1 (d:=dB (decide (nh q' q<0))) (l6 q9) ?_
   refine sa ?_
   by_cases h2:nh q' q<0
   ·have e2:decide (nh q' q<0)=true:=aA h2
    iterate 3 refine gn e2 ?_
    iterate 11 refine gm ?_
    refine gn e2 ?_
    refine s1 (d:=dB true) (oU e2) ?_
    refine nl hK ?_
    rw[ai (.inr (.inl h2))] at iO
    refine AW.condS rfl (fun hb=>?_) (fun hb=>absurd hb (by simp))
    refine rqd [] hx fun K hK=>?_
    refine sa ?_
    refine l1 (Pt.idN q') ?_
    refine sa ?_
    refine t1 (Pt.idN q) rfl ?_
    refine nl hK ?_
    refine rq hx fun K hK=>?_
    iterate 2 refine sa ?_
    refine nl hK ?_
    rw[bT]
    exact⟨(i+1,((i:Int),q')),wk1 h0,⟨zd,iO.trans rfl⟩,by dsimp only;omega⟩
   have e2:decide (nh q' q<0)=false:=a8 h2
   iterate 3 refine ga e2 ?_
   by_cases h3:nh q' q=0
   ·have e3:decide (nh q' q=0)=true:=aA h3
    obtain⟨a,ha,hai⟩:∃a:Nat,at'=(a:Int)∧a<i:=by
     rcases px hp with e|⟨a,b1,b2,_⟩
     ·dsimp only at e;omega
     ·exact⟨a,b2,b1⟩
    have hra:d.rows[a]? =some d.rows[a]! :=by rw[bL d.rows a (by omega)];exact cH _
    obtain⟨_,_,_,_,_,_,hPa⟩:=mD C w d.rows a hra
    subst ha
    rw[show ((a:Int)).toNat=a by omega] at iO
    generalize d.rows[a]! =ra at hPa iO
    refine ga e3 ?_
    refine c1g rowD_b e3 ?_
    iterate 3 refine ga e3 ?_
    refine c1g gE e3 ?_
    refine ga e3 ?_
    refine r1g' (i:=a) (n:=d.rows.length) (by omega) e3 ?_ (qg fI)
    refine ga e3 ?_
    refine c1g hPa e3 ?_
    refine ga e3 ?_
    refine g1 (d:=dB (decide (r.b<ra.b))) e2 (oU e3) ?_
    refine s1 (d:=dB (decide (r.b<ra.b))) (l6 e2) ?_
    refine nl hK ?_
    refine AW.condS rfl (fun hb=>?_) (fun hb=>?_)
    ·have bI:=bw hb
     rw[ai (.inr (.inr ⟨h3,bI⟩))] at iO
     refine rqd [] hx fun K hK=>?_
     refine sa ?_
     refine l1 (Pt.idN q') ?_
     refine sa ?_
     refine t1 (Pt.idN q) rfl ?_
     refine nl hK ?_
     refine rq hx fun K hK=>?_
     iterate 2 refine sa ?_
     refine nl hK ?_
     rw[bT]
     exact⟨(i+1,((i:Int),q')),wk1 h0,⟨zd,iO.trans rfl⟩,by dsimp only;omega⟩
    ·have bI:=dp hb
     rw[ah (by rintro (e|e|e);exact h1 e;exact h2 e;exact bI e.2)] at iO
     refine AW.skip (rq hx fun K hK=>?_)
     iterate 2 refine sa ?_
     refine nl hK ?_
     rw[bT]
     exact⟨(i+1,((a:Int),q)),wk1 h0,⟨zd,iO.trans rfl⟩,by dsimp only;omega⟩
   ·have e3:decide (nh q' q=0)=false:=a8 h3
    iterate 11 refine gn e3 ?_
    refine g1 (d:=dB false) e2 (l6 e3) ?_
    refine s1 (d:=dB false) (l6 e2) ?_
    refine nl hK ?_
    rw[ah (by rintro (e|e|e);exact h1 e;exact h2 e;exact h3 e.1)] at iO
    refine AW.condS rfl (fun hb=>absurd hb (by simp)) (fun hb=>AW.skip (rq hx fun K hK=>?_))
    iterate 2 refine sa ?_
    refine nl hK ?_
    rw[bT]
    exact⟨(i+1,(at',q)),wk1 h0,⟨zd,iO.trans rfl⟩,by dsimp only;omega⟩
  ·refine AW.exit ?_
   have zd:i=d.rows.length:=by have:=dp hb;omega
   refine rs hx fun K hK=>?_
   iterate 3 refine sa ?_
   refine nl hK ?_
   refine AW.ret ?_
   rw[←zd,hp]
   exact rt2 h0
end
end
section
theorem z6 {A B:List D}{C:Nat→Nat}{w j:Nat}(h:A.length=j*38)(r:Row):pf (A++iS C w j r++B) (j*38) r.k (C j) w A ([dI .i64 r.b]++B):=⟨h,by unfold iS;simp only[c5]⟩
theorem Om {A B:List D}{C:Nat→Nat}{w j:Nat}(h:A.length=j*38)(r:Row):Pt (A++iS C w j r++B) (j*38+37) [dI .i64 r.b] (fun ys=>A++(aY r.k (C j) w++ys)++B):=
 Pt.of (A++aY r.k (C j) w) B (by rw[cD,h,bS]) (by unfold iS;simp only[c5]) fun y=>by simp only[c5]
theorem row_k {A B:List D}{C:Nat→Nat}{w j:Nat}(k:Nu)(c:List Nu)(b:Int):A++(dC (aw.f k)++[.ow (C j) 0 36 w])++([dI .i64 b]++B)=A++iS C w j ⟨k,c,b⟩++B:=by unfold iS aY;simp only[c5]
theorem row_b {A B:List D}{C:Nat→Nat}{w j:Nat}(k:Nu)(c:List Nu)(b:Int):A++(aY k (C j) w++[dI .i64 b])++B=A++iS C w j ⟨k,c,b⟩++B:=by unfold iS;simp only[c5]
def lns(kd R at' i:Nat):List D:=.pt kd 1::((List.range i).filter fun j=>decide (j≠at')).map fun j=>.pt R (j*38)
theorem OC(kd R at' i:Nat):lns kd R at' i=(xR at' i).map fun o=>.pt (klO kd R o) (olO o):=by
 unfold lns xR
 rw[iW,qv]
 rfl
theorem Ir {kd R at' i:Nat}(h:i=at'):lns kd R at' (i+1)=lns kd R at' i:=by
 unfold lns
 rw[vL,Ni,Nr (by simp[h]),List.filter_nil,th]
theorem Iq {kd R at' i:Nat}(h:i≠at'):lns kd R at' (i+1)=lns kd R at' i++[.pt R (i*38)]:=by
 unfold lns
 rw[vL,Ni,I8 (by simp[h]),List.filter_nil,iP]
 rfl
theorem Mu {kd R at':Nat}:∀i,(lns kd R at' i).length≤i+1
 |0=>by simp[lns]
 |i+1=>by
  have:=Mu (kd:=kd) (R:=R) (at':=at') i
  by_cases h:i=at'
  ·rw[Ir h];omega
  ·rw[Iq h,cD];simp;omega
theorem OD {kd R at' M:Nat}(hk:kd<M)(hR:R<M):∀i,(lns kd R at' i).all (D.idsC M)=true
 |0=>by simp[lns,D.idsC,hk]
 |i+1=>by
  have:=OD (at':=at') hk hR i
  by_cases h:i=at'
  ·rw[Ir h];exact this
  ·rw[Iq h,lE,this];simp[D.idsC,hR]
section
variable {vs:List (Nat×List D)} {lv:List (Nat×Nat×Nat×TypeId)} {N kd R G w:Nat} {C:Nat→Nat} {d:Dic} {at' s:Nat}
theorem IG {r0:Row}(hD:DAt vs kd R G C w d)(hf:Dif d.rows.length kd R G C)(hr0:d.rows[at']? =some r0)(hs:s<w)(OW:0≤r0.b∧r0.b<w)(hw:w≤1000000)(hm:d.rows.length≤1000000)(jH:0≤d.piv∧d.piv≤9223372036854775807)(c7:0≤d.most∧d.most≤9223372036854775807):
  HC prog 104 [.pt kd 0,dI .i64 at',dI .i64 s] ⟨vs,lv,N⟩ (dI .i64 (dP d at' s).1) ⟨ov kd R G C w (dP d at' s).2 vs,lv,N⟩:=by
 refine HC.of (rs:=[.tmp 6]) tok func104 rfl rfl (a9 rfl) rfl (fun cx hx h0 hok=>?_)
 simp only[fC,Nat.reduceAdd,br]
 have hat:=(fP.1 hr0).1
 have fI:d.rows≠[]:=fun e=>by rw[e] at hat;simp at hat
 have hRv:=hD.hR fI
 have Gy:=hok.lt hD.hd
 have Dk:=hok.lt hRv
 have TL:=hok.lt hD.hG
 obtain⟨A,B,hA,CV,heq,_,_⟩:=mD C w d.rows at' hr0
 rw[heq] at hRv
 have hlin:=z6 (B:=B) (C:=C) (w:=w) hA r0
 have hbas:=Om (B:=B) (C:=C) (w:=w) hA r0
 obtain⟨bN,hbN⟩:∃bN:Nat,r0.b=(bN:Int):=⟨r0.b.toNat,by omega⟩
 have hbw:bN<w:=by omega
 have hcv:=hD.hC at' r0 hr0
 have hcN:=hok.lt hcv
 have ux:=hD.lC at' r0 hr0
 obtain⟨hC1,hC2,hC3⟩:=hf.C1 at' hat
 refine rs hx fun K hK=>?_
 refine sa ?_
 refine nl hK ?_
 refine AW.seq (rsd [] hx fun K hK=>?_)
 iterate 3 refine sa ?_
 refine s1 (kG oH hD.hd Gy tbI) ?_
 iterate 3 refine sa ?_
 refine s1 (kG T9 hD.hd Gy tbI) ?_
 refine sa ?_
 refine nl hK ?_
 have hCj:∀j,j<d.rows.length→C j<N:=fun j hj=>hok.lt (hD.hC j _ (cH hj))
 refine AW.condS rfl (fun hb=>?_) (fun hb=>?_)
 ·have hpm:d.most≤d.piv:=bw hb
  have hpp:dP d at' s=(220,d):=by unfold dP;rw[ai hpm]
  rw[hpp]
  refine rs hx fun K hK=>?_
  refine sa ?_
  refine nl hK ?_
  exact AW.ret (Sw h0 hok (ax _) hD hf Gy Dk TL hCj (fun k ds _ _ _ _ h=>h) (fun e=>absurd e fI) rfl)
 have hpm:d.piv<d.most:=by have:=dp hb;omega
 refine AW.skip (rs hx fun K hK=>?_)
 iterate 3 refine sa ?_
 refine s1 (kG oH hD.hd Gy tbI) ?_
 iterate 3 refine sa ?_
 obtain⟨d1,Di⟩:∃d1:Dic,d1=⟨d.rows,d.gk,d.gc,d.n,d.piv+1,d.most⟩:=⟨_,rfl⟩
 have To:d1.rows=d.rows:=by rw[Di]
 have hdic1:[e9 R d.rows]++aY d.gk G w++([dI .i64 d.n]++[dI .i64 (i64.wrap (d.piv+1))]++[dI .i64 d.most])=m4 R G w d1:=by
  rw[d6 (show -9223372036854775808≤d.piv+1 by omega) (by omega),Di];rfl
 refine s0 (HF (ys:=[dI .i64 (i64.wrap (d.piv+1))]) oH hD.hd rfl tbI rfl rfl hdic1) ?_
 refine nl hK ?_
 refine rs hx fun K hK=>?_
 iterate 3 refine sa ?_
 refine s1 (kG (gE (d:=d1)) aa Gy tbI) ?_
 rw[To,qg fI]
 refine sa ?_
 refine stG (d:=.pt R (at'*38)) tok (iaR hat) ?_
 refine sa ?_
 refine nl hK ?_
 have Gx:∀p:Nu,cp ⟨(N,dC (aw.f p))::(kd,m4 R G w d1)::vs,lv,N+1⟩:=fun p=>(hok.cons (ax _) Gy (r5 Dk TL)).cons (jD _) (ek _) (ez _)
 refine sj [(0,.pt kd 0),(1,dI .i64 at'),(2,dI .i64 s),(7,.pt R (at'*38)),(8,.pt N 0),(9,dI .i64 r0.b)] ⟨(N,dC (aw.f r0.c[s]!))::(kd,m4 R G w d1)::vs,lv,N+1⟩ ?_ ?_
 ·have fin:∀tm:List (Nat×D),tm.lookup 0=some (.pt kd 0)→tm.lookup 1=some (dI .i64 at')→tm.lookup 2=some (dI .i64 s)→tm.lookup 7=some (.pt R (at'*38))→tm.lookup 8=some (.pt N 0)→tm.lookup 9=some (dI .i64 r0.b)→Wk cx tm ⟨(N,dC (aw.f r0.c[s]!))::(N,dC zN)::(kd,m4 R G w d1)::vs,lv,N+1⟩ [(0,.pt kd 0),(1,dI .i64 at'),(2,dI .i64 s),(7,.pt R (at'*38)),(8,.pt N 0),(9,dI .i64 r0.b)] ⟨(N,dC (aw.f r0.c[s]!))::(kd,m4 R G w d1)::vs,lv,N+1⟩:=fun tm a b c e f g=>
   wkS (by rw[h0];exact jD N) (ax _) (Gx _) (fun j ds h=>by rw[wH];exact h) ((((((bF.nil.cons g).cons f (aA (ek N))).cons e (aA (show R<N+1 by omega))).cons c).cons b).cons a (aA (show kd<N+1 by omega)))
  refine dw (DW.split 11 13 (by decide) ?_ ?_)
  ·refine dwg [] [0,1,2,3,4,5,6,7,8,9,10,11,12,13,14] hx (by kernel_rfl) (by kernel_rfl) (by kernel_rfl) fun K hK=>?_
   dsimp only[d8,mP,mZ,List.map]
   iterate 4 refine sa ?_
   refine s1 (kG hlin.pc (al hf.dR.symm hRv) Dk tbI) ?_
   refine sa ?_
   refine s1 (iaN hs) ?_
   refine s1 (ldN (Pt.el r0.c s (by omega)) (al hC1 hcv) hcN) ?_
   iterate 3 refine sa ?_
   refine s1 (kG hbas (al hf.dR.symm hRv) Dk tbI) ?_
   refine s1 LB ?_
   refine s0 (stZ aa) ?_
   refine sa ?_
   exact .nil (hK _ _ ⟨rfl,fin _ rfl rfl rfl rfl rfl rfl⟩)
  ·refine dwg [] [0,1,2,3,4,5,6,7,8,9,10,12,13,11,14] hx (by kernel_rfl) (by kernel_rfl) (by kernel_rfl) fun K hK=>?_
   dsimp only[d8,mP,mZ,List.map]
   iterate 4 refine sa ?_
   refine s1 (kG hlin.pc (al hf.dR.symm hRv) Dk tbI) ?_
   refine sa ?_
   refine s1 (iaN hs) ?_
   refine s1 (ldN (Pt.el r0.c s (by omega)) (al hC1 hcv) hcN) ?_
   iterate 3 refine sa ?_
   refine s1 LB ?_
   refine s0 (stZ aa) ?_
   refine s1 (kG hbas (al (show R≠N by omega) (al (show R≠N by omega) (al hf.dR.symm hRv))) (show R<N+1 by omega) tbI) ?_
   refine sa ?_
   exact .nil (hK _ _ ⟨rfl,fin _ rfl rfl rfl rfl rfl rfl⟩)
 refine rs hx fun K hK=>?_
 refine s1 (Fm (ks:=[N])) ?_
 refine sa ?_
 refine nl hK ?_
 -- rI constant of rI row
 obtain⟨p,hp⟩:∃p,p=r0.c[s]! :=⟨_,rfl⟩
 rw[←hp]
 refine rs hx fun K hK=>?_
 iterate 5 refine sa ?_
 have ht:=TC (vs:=(N,dC (aw.f p))::(kd,m4 R G w d1)::vs) (lv:=lv) (N:=N+1) (al (show R≠N by omega) (al hf.dR.symm hRv)) (show R<N+1 by omega) hlin.pk aa (ek N)
 rw[row_k _ r0.c] at ht
 refine q1 (sHF ht rfl) ?_
 refine nl hK ?_
 obtain⟨k1,Ti⟩:∃k1,k1=oa (eZ r0.k) p:=⟨_,rfl⟩
 rw[←Ti]
 -- its coefficients
 have KS:R<N+1:=by omega
 have hkN1:kd<N+1:=by omega
 have hcN1:C at'<N+1:=by omega
 have SU:∀(r:Row),(A++iS C w at' r++B).all (D.idsC (N+1))=true:=fun r=>by
  rw[←CV r]
  refine xt 0 _ fun j hj=>?_
  rw[cY] at hj
  rw[br]
  have:=hok.lt (hD.hC j _ (cH hj))
  omega
 have hokB:∀(r:Row),cp ⟨(C at',dC ((cW aw).f r.c))::(R,A++iS C w at' r++B)::(N,dC (aw.f p))::(kd,m4 R G w d1)::vs,lv,N+1⟩:=fun r=>
  (cp.cons (N:=N+1) ((Gx p).cons (ax _) KS (SU r)) (ax _) hcN1 (ez _))
 have hTm:∀(t:Nat) (tm:List (Nat×D)),tm.lookup 0=some (.pt kd 0)→tm.lookup 1=some (dI .i64 at')→tm.lookup 2=some (dI .i64 s)→tm.lookup 7=some (.pt R (at'*38))→tm.lookup 8=some (.pt N 0)→tm.lookup 9=some (dI .i64 r0.b)→tm.lookup 10=some (.fn 152 [N])→tm.lookup 64=some (dI .i64 w)→tm.lookup 65=some (dI .i64 t)→
   bF (N+1) tm [(0,.pt kd 0),(1,dI .i64 at'),(2,dI .i64 s),(7,.pt R (at'*38)),(8,.pt N 0),(9,dI .i64 r0.b),(10,.fn 152 [N]),(64,dI .i64 w),(65,dI .i64 t)]:=fun t tm a b c e f g h i j=>
  (((((((((bF.nil.cons j).cons i).cons h (ba.2 fun k hk=>aA (by rw[qH.1 hk];omega))).cons g).cons f (aA (ek N))).cons e (aA KS)).cons c).cons b).cons a (aA hkN1))
 refine AW.seq (rs hx fun K hK=>?_)
 iterate 4 refine sa ?_
 refine s1 (kG (z6 hA ⟨k1,r0.c,r0.b⟩).pc aa KS tbI) ?_
 iterate 2 refine sa ?_
 refine nl hK ?_
 refine AW.block ?_
 refine AW.loopW (fun t:Nat=>[(0,.pt kd 0),(1,dI .i64 at'),(2,dI .i64 s),(7,.pt R (at'*38)),(8,.pt N 0),(9,dI .i64 r0.b),(10,.fn 152 [N]),(64,dI .i64 w),(65,dI .i64 t)])
  (fun t=>⟨(C at',dC ((cW aw).f (sS p t r0.c)))::(R,A++iS C w at' ⟨k1,r0.c,r0.b⟩++B)::(N,dC (aw.f p))::(kd,m4 R G w d1)::vs,lv,N+1⟩) (fun t=>t≤w) (fun t=>w - t) 0 ?_ (cr _) ?_
 ·refine wkS (by rw[h0];exact jD N) (ax _) ((cp.cons (N:=N+1) ((Gx p).cons (ax _) KS (SU ⟨k1,r0.c,r0.b⟩)) (ax _) hcN1 (ez _))) (fun j ds h=>?_) (hTm 0 _ rfl rfl rfl rfl rfl rfl rfl rfl rfl)
  rcases ce h with⟨rfl,rfl⟩|⟨_,h⟩
  ·exact al hC2 (al (show C at'≠N by omega) (al hC1 hcv))
  ·exact h
 ·intro t ht
  have MQ:(sS p t r0.c).length=w:=by rw[Bb,ux]
  refine rs hx fun K hK=>?_
  refine sa ?_
  refine nl hK ?_
  refine AW.seq (AW.condS rfl (fun hb=>?_) (fun hb=>?_))
  ·have htn:t<w:=by have:=bw hb;omega
   refine AW.skip (AW.seq (AW.block (rs hx fun K hK=>?_)))
   iterate 2 refine sa ?_
   refine nl hK ?_
   refine rq hx fun K hK=>?_
   iterate 5 refine sa ?_
   refine s1 (kG (z6 hA ⟨k1,r0.c,r0.b⟩).pc (al hC2.symm aa) KS tbI) ?_
   refine sa ?_
   refine s1 (iaN htn) ?_
   refine q1 (sHF (TC aa hcN1 (Pt.el (sS p t r0.c) t (by omega)) (al (show N≠C at' by omega) (al (show N≠R by omega) aa)) (ek N)) rfl) ?_
   refine nl hK ?_
   refine rq hx fun K hK=>?_
   iterate 2 refine sa ?_
   refine nl hK ?_
   rw[bT]
   refine⟨t+1,wkS (by rw[h0];exact jD N) (ax _) ?_ (fun j ds h=>?_) (hTm (t+1) _ rfl rfl rfl rfl rfl rfl rfl rfl rfl),htn,by omega⟩
   ·exact (cp.cons (N:=N+1) ((Gx p).cons (ax _) KS (SU ⟨k1,r0.c,r0.b⟩)) (ax _) hcN1 (ez _))
   ·rw[Pt.el_set _ _ (by omega),wH]
    exact h
  ·refine AW.exit ?_
   have htn:t=w:=by have:=dp hb;omega
   subst htn
   obtain⟨c1,LW⟩:∃c1,c1=sS p t r0.c:=⟨_,rfl⟩
   rw[←LW] at MQ ⊢
   -- rI row's own places
   refine rsd [28,153] hx fun K hK=>?_
   iterate 4 refine sa ?_
   refine s1 (kG (z6 hA ⟨k1,r0.c,r0.b⟩).pc (al hC2.symm aa) KS tbI) ?_
   iterate 5 refine sa ?_
   refine s1 (kG (z6 hA ⟨k1,r0.c,r0.b⟩).pc (al hC2.symm aa) KS tbI) ?_
   iterate 2 refine sa ?_
   refine cq (Gi 0 (by omega)) ?_
   refine cq (Gi 1 (by omega)) ?_
   refine s1 (ldN (Pt.idN p) (al (show N≠C at' by omega) (al (show N≠R by omega) aa)) (ek N)) ?_
   refine cq (Rw _ p) ?_
   refine sa ?_
   refine s1 (iaN hs) ?_
   refine s0 (stN (Pt.el c1 s (by omega)) aa (Pt.el_set c1 s (by omega) _)) ?_
   refine s1 (iaN (i:=bN) hbw rfl (congrArg (dI .i64) hbN)) ?_
   refine s0 (stN (Pt.el (c1.set s (nOf 0)) bN (by rw[cY];omega)) aa (Pt.el_set (c1.set s (nOf 0)) bN (by rw[cY];omega) _)) ?_
   iterate 2 refine sa ?_
   refine s0 (HF (ys:=[dI .i64 s]) (Om hA ⟨k1,r0.c,r0.b⟩) (al hC2.symm (al hC2.symm (al hC2.symm aa))) rfl tbI rfl rfl (row_b k1 (((c1.set s (nOf 0)).set bN (oa (nOf 1) p))) s)) ?_
   refine nl hK ?_
   -- rI dictionary with rI row
   obtain⟨r1,FN⟩:∃r1:Row,r1=⟨k1,(c1.set s (nOf 0)).set bN (oa (nOf 1) p),s⟩:=⟨_,rfl⟩
   obtain⟨d2,yo⟩:∃d2:Dic,d2=⟨d.rows.set at' r1,d.gk,d.gc,d.n,d.piv+1,d.most⟩:=⟨_,rfl⟩
   have hr1c:r1.c.length=t:=by rw[FN];show (List.set _ _ _).length=t;rw[cY,cY];exact MQ
   have hrowN:(f6 C t 0 (d.rows.set at' r1)).all (D.idsC N)=true:=xt 0 _ fun j hj=>by
    rw[cY] at hj
    rw[br];exact hCj j hj
   obtain⟨PL,Qh⟩:∃v,v=(C at',dC ((cW aw).f r1.c))::(R,f6 C t 0 (d.rows.set at' r1))::(kd,m4 R G t d1)::vs:=⟨_,rfl⟩
   have Ao:cp ⟨PL,lv,N⟩:=by
    rw[Qh]
    exact ((hok.cons (ax _) Gy (r5 Dk TL)).cons (ax _) Dk hrowN).cons (ax _) hcN (ez _)
   have hfr1:∀k ds,k≠kd→k≠R→k≠C at'→vs.lookup k=some ds→PL.lookup k=some ds:=fun k ds h1 h2 h3 h=>by
    rw[Qh];exact al h3 (al h2 (al h1 h))
   have hD2:DAt PL kd R G C t d2:=by
    have hDa:DAt ((kd,m4 R G t d1)::vs) kd R G C t d1:=hD.setDic hf d1 To (by rw[Di];exact hD.lG) aa (al hf.dG.symm (by rw[Di];exact hD.hG)) fun k ds h1 _ h=>al h1 h
    have:=hDa.setRow (vs2:=PL) (by rw[To];exact hf) (by rw[To];exact hat) r1 hr1c (by rw[Qh,To];exact al hC2.symm aa) (by rw[Qh];exact aa) fun k ds h1 h2 h=>by rw[Qh];exact al h2 (al h1 h)
    rw[yo]
    rw[Di] at this
    exact this
   have FR:d2.rows.length=d.rows.length:=by rw[yo];exact cY ..
   have CY:Dif d2.rows.length kd R G C:=by rw[FR];exact hf
   have Qk:d2.rows≠[]:=fun e=>by rw[e] at FR;simp at FR;omega
   have OI:d2.rows[at']? =some r1:=by rw[yo];exact Hv hat
   refine AW.weak (wkS (tm':=[(0,.pt kd 0),(1,dI .i64 at'),(2,dI .i64 s),(7,.pt R (at'*38))]) (by rw[h0];exact ax N) (jD N) Ao (fun j ds h=>?_) (bF.cons (t:=0) (d:=.pt kd 0) (bF.cons (t:=1) (d:=dI .i64 at') (bF.cons (t:=2) (d:=dI .i64 s) (bF.cons (t:=7) (d:=.pt R (at'*38)) bF.nil rfl (aA Dk)))) rfl (aA Gy))) ?_
   ·have hj:=Ao.lt h
    rw[Qh] at h
    rcases ce h with⟨rfl,rfl⟩|⟨OL,h⟩
    ·refine al hC2 ?_
     rw[FN];exact aa
    rcases ce h with⟨rfl,rfl⟩|⟨Cv,h⟩
    ·rw[CV,FN];exact aa
    exact al Cv (al OL (al OL (al OL (al Cv (al (show j≠N by omega) h)))))
   obtain⟨A2,B2,_,_,_,hlin2,_⟩:=mD C t d2.rows at' OI
   refine rs hx fun K hK=>?_
   iterate 3 refine sa ?_
   refine s1 (CP hlin2.pa (hD2.hR Qk) Dk zW (bS _ _ _)) ?_
   refine q1 (sHC (MY (hD2.hC at' r1 OI) hr1c hw) rfl (.inr (Fr.refl _))) ?_
   refine sa ?_
   refine nl hK ?_
   refine rs hx fun K hK=>?_
   iterate 3 refine sa ?_
   refine q1 (litR tok Be yO rfl rfl) ?_
   refine sa ?_
   refine nl hK ?_
   -- rI lines
   obtain⟨ok0,hok0⟩:∃b,b=f7 r1.k r1.c:=⟨_,rfl⟩
   rw[←hok0]
   obtain⟨m,Tg⟩:∃m,m=d2.rows.length:=⟨_,rfl⟩
   have hmm:m=d.rows.length:=Tg.trans FR
   have IB:∀i id nx,N≤nx→id<nx→cp ⟨(id,lns kd R at' i)::PL,lv,nx⟩:=fun i id nx h1 h2=>Ao.cons h1 h2 (OD (by omega) (by omega) i)
   have hTmL:∀(i id n nx:Nat) (tm:List (Nat×D)),N≤nx→id<nx→tm.lookup 0=some (.pt kd 0)→tm.lookup 1=some (dI .i64 at')→tm.lookup 2=some (dI .i64 s)→tm.lookup 7=some (.pt R (at'*38))→tm.lookup 12=some (dB ok0)→tm.lookup 13=some (.gw id 1 n)→tm.lookup 113=some (dI .i64 m)→tm.lookup 114=some (dI .i64 i)→
     bF nx tm [(0,.pt kd 0),(1,dI .i64 at'),(2,dI .i64 s),(7,.pt R (at'*38)),(12,dB ok0),(13,.gw id 1 n),(113,dI .i64 m),(114,dI .i64 i)]:=fun i id n nx tm h1 h2 a b c e f g h j=>
    ((((((((bF.nil.cons j).cons h).cons g (aA h2)).cons f).cons e (aA (show R<nx by omega))).cons c).cons b).cons a (aA (show kd<nx by omega)))
   refine AW.seq (rs hx fun K hK=>?_)
   iterate 3 refine sa ?_
   refine s1 (kG (gE (d:=d2)) (al (show kd≠N by omega) hD2.hd) hkN1 tbI) ?_
   rw[qg Qk]
   refine stG (d:=dI .i64 d2.rows.length) tok (Cf Ck tV) ?_
   refine sa ?_
   refine nl hK ?_
   rw[←Tg]
   refine AW.block ?_
   refine AW.loopW (fun st:Nat×Nat×Nat=>[(0,.pt kd 0),(1,dI .i64 at'),(2,dI .i64 s),(7,.pt R (at'*38)),(12,dB ok0),(13,.gw st.2.1 1 (lns kd R at' st.1).length),(113,dI .i64 m),(114,dI .i64 st.1)])
    (fun st=>⟨(st.2.1,lns kd R at' st.1)::PL,lv,st.2.2⟩) (fun st=>st.1≤m∧N≤st.2.1∧st.2.1<st.2.2) (fun st=>m - st.1) (0,N,N+1) ?_ ⟨cr _,ax _,ek _⟩ ?_
   ·exact wkS (by rw[h0];exact jD N) (ax _) (IB 0 N (N+1) (jD _) (ek _)) (fun j ds h=>h) (hTmL 0 N 1 (N+1) _ (jD _) (ek _) rfl rfl rfl rfl rfl rfl rfl rfl)
   ·rintro⟨i,id,nx⟩ ⟨hi,hid,ru⟩
    dsimp only at hi hid ru ⊢
    refine rs hx fun K hK=>?_
    refine sa ?_
    refine nl hK ?_
    refine AW.seq (AW.condS rfl (fun hb=>?_) (fun hb=>?_))
    ·have Gz:i<m:=by have:=bw hb;omega
     refine AW.skip (AW.seq (AW.block (rs hx fun K hK=>?_)))
     iterate 2 refine sa ?_
     refine nl hK ?_
     refine rs hx fun K hK=>?_
     iterate 3 refine sa ?_
     refine nl hK ?_
     refine AW.condS rfl (fun hb=>?_) (fun hb=>?_)
     ·have rx:i≠at':=by have:=bw hb;omega
      refine rq hx fun K hK=>?_
      iterate 4 refine sa ?_
      refine s1 (kG (gE (d:=d2)) (al (show kd≠id by omega) hD2.hd) (show kd<nx by omega) tbI) ?_
      rw[qg Qk]
      refine sa ?_
      refine stG (d:=.pt R (i*38)) tok (iaR (i:=i) (n:=d2.rows.length) (by omega)) ?_
      refine sa ?_
      refine q1 (litR tok Be yO rfl rfl) ?_
      refine q1 (appR tok (k:=id) (ky:=nx) (ds:=lns kd R at' i) Be yO (al (show id≠nx by omega) aa) aa rfl rfl (yz _).symm rfl (by have:=Mu (kd:=kd) (R:=R) (at':=at') i;show (_+1)*8≤_;omega)) ?_
      refine sa ?_
      refine nl hK ?_
      refine rq hx fun K hK=>?_
      iterate 2 refine sa ?_
      refine nl hK ?_
      rw[bT]
      have hlen:(lns kd R at' (i+1)).length=(lns kd R at' i).length+1:=by rw[Iq rx,cD];rfl
      refine⟨(i+1,nx+1,nx+1+1),wkS (by rw[h0];show N≤nx+1+1;omega) (ax _) (IB (i+1) (nx+1) (nx+1+1) (by omega) (by omega)) (fun j ds h=>?_) (by
       dsimp only
       rw[hlen]
       exact hTmL (i+1) (nx+1) _ (nx+1+1) _ (by omega) (by omega) rfl rfl rfl rfl rfl rfl rfl rfl),⟨Gz,by show N≤nx+1;omega,ek _⟩,by show m - (i+1)<m - i;omega⟩
      rcases ce h with⟨rfl,rfl⟩|⟨hj,h⟩
      ·rw[Iq rx];exact aa
      ·have hjN:=Ao.lt h
       exact al hj (xx (by simp;omega) (al (show j≠nx by omega) (al (show j≠id by omega) h)))
     ·have rx:i=at':=by have:=dp hb;simp at this;omega
      refine AW.skip (rq hx fun K hK=>?_)
      iterate 2 refine sa ?_
      refine nl hK ?_
      rw[bT]
      refine⟨(i+1,id,nx),wkS (by rw[h0];show N≤nx;omega) (ax _) (IB (i+1) id nx (by omega) ru) (fun j ds h=>?_) (by
       dsimp only
       rw[Ir rx]
       exact hTmL (i+1) id _ nx _ (by omega) ru rfl rfl rfl rfl rfl rfl rfl rfl),⟨Gz,hid,ru⟩,by show m - (i+1)<m - i;omega⟩
      dsimp only at h
      rw[Ir rx] at h
      exact h
    ·refine AW.exit ?_
     have pX:i=m:=by have:=dp hb;omega
     subst pX
     -- rI lines,one by one
     have hiat:at'<i:=by omega
     obtain⟨P,hP⟩:∃P:Nat→Dic×Bool,P=pO r1 s at' i (d2,ok0):=⟨_,rfl⟩
     have hP0:P 0=(d2,ok0):=by rw[hP];rfl
     have hPs:∀u o,(xR at' i)[u]? =some o→P (u+1)=wD r1 s (P u) o:=fun u o h=>by rw[hP];exact pO_succ h
     have hLl:(lns kd R at' i).length=(xR at' i).length:=by rw[OC,bb]
     have hLle:=Mu (kd:=kd) (R:=R) (at':=at') i
     refine AW.seq (rs hx fun K hK=>?_)
     refine sa ?_
     refine stG (d:=dI .i64 (lns kd R at' i).length) tok (Cf Be yO) ?_
     refine sa ?_
     refine nl hK ?_
     refine AW.block ?_
     refine AW.loopW (fun st:Nat×List (Nat×List D)=>[(2,dI .i64 s),(7,.pt R (at'*38)),(12,dB (P st.1).2),(131,.gw id 1 (lns kd R at' i).length),(132,dI .i64 (lns kd R at' i).length),(133,dI .i64 st.1)])
      (fun st=>⟨st.2,lv,nx⟩)
      (fun st=>st.1≤(lns kd R at' i).length∧DAt st.2 kd R G C t (P st.1).1∧cp ⟨st.2,lv,nx⟩∧st.2.lookup id=some (lns kd R at' i)∧(P st.1).1.rows.length=i∧(P st.1).1.rows[at']? =some r1∧
       ∀k ds,k≠kd→k≠R→k≠G→(∀j,j<i→k≠C j)→PL.lookup k=some ds→st.2.lookup k=some ds)
      (fun st=>(lns kd R at' i).length - st.1) (0,(id,lns kd R at' i)::PL) ?_ ?_ ?_
     ·refine wkS (by rw[h0];show N≤nx;omega) (ax _) (IB i id nx (by omega) ru) (fun j ds h=>h) ?_
      dsimp only
      rw[hP0]
      exact bF.cons (t:=2) (d:=dI .i64 s) (bF.cons (t:=7) (d:=.pt R (at'*38)) (bF.cons (t:=12) (d:=dB ok0) (bF.cons (t:=131) (d:=.gw id 1 (lns kd R at' i).length) (bF.cons (t:=132) (d:=dI .i64 (lns kd R at' i).length) (bF.cons (t:=133) (d:=dI .i64 (0:Nat)) bF.nil rfl rfl) rfl rfl) rfl (aA ru)) rfl rfl) rfl (aA (show R<nx by omega))) rfl rfl
     ·dsimp only
      rw[hP0]
      refine⟨cr _,hD2.look fun k ds hk h=>al ?_ h,IB i id nx (by omega) ru,aa,by rw[hmm];exact FR,OI,fun k ds _ _ _ _ h=>al (by have:=Ao.lt h;omega) h⟩
      have:=Ao.lt h
      omega
     ·rintro⟨u,v⟩ ⟨hu,hDu,S6,hvid,He,hru,hfru⟩
      dsimp only at hu hDu S6 hvid He hru hfru ⊢
      obtain⟨du,hdu⟩:∃x,x=(P u).1:=⟨_,rfl⟩
      obtain⟨oku,S5⟩:∃x,x=(P u).2:=⟨_,rfl⟩
      rw[←hdu] at hDu He hru
      rw[←S5]
      have hfu:Dif du.rows.length kd R G C:=by rw[He,hmm];exact hf
      refine rs hx fun K hK=>?_
      refine sa ?_
      refine nl hK ?_
      refine AW.seq (AW.condS rfl (fun hb=>?_) (fun hb=>?_))
      ·have MI:u<(lns kd R at' i).length:=by have:=bw hb;omega
       obtain⟨o,ho⟩:∃o,(xR at' i)[u]? =some o:=⟨_,cH (by omega)⟩
       obtain⟨hoa,hoi⟩:=Sf (dZ ho)
       have CB:(lns kd R at' i)[u]? =some (.pt (klO kd R o) (olO o)):=by rw[OC,dV,ho];rfl
       obtain⟨F,A3,B3,hF,hLi,hcO,hlO,KJ,CX⟩:=lineO hDu hfu o (fun j hj=>by rw[He];exact hoi j hj)
       have hklN:=S6.lt hF
       have hkcN:=S6.lt hcO
       refine AW.skip (AW.seq (AW.block (rs hx fun K hK=>?_)))
       refine stG (d:=.pt id u) tok (iaP MI) ?_
       refine s1 (kG (Pt.cell CB) hvid ru yO) ?_
       refine sa ?_
       refine nl hK ?_
       refine rs hx fun K hK=>?_
       iterate 3 refine sa ?_
       refine s1 (kG hLi.pc hF hklN tbI) ?_
       refine sa ?_
       refine s1 (iaN hs) ?_
       refine s1 (ldN (Pt.el (lcO du o) s (by omega)) hcO hkcN) ?_
       refine s1 LB ?_
       refine s0 (stZ aa) ?_
       refine nl hK ?_
       obtain⟨q,hq⟩:∃q,q=(lcO du o)[s]! :=⟨_,rfl⟩
       rw[←hq]
       refine rsd [28] hx fun K hK=>?_
       iterate 3 refine sa ?_
       refine s1 (kG hLi.pc (al (show _≠nx by omega) (al (show _≠nx by omega) hF)) (show klO kd R o<nx+1 by omega) tbI) ?_
       refine sa ?_
       refine cq (Gi 0 (by omega)) ?_
       refine s1 (iaN hs) ?_
       refine s0 (stN (Pt.el (lcO du o) s (by omega)) (al (show _≠nx by omega) (al (show _≠nx by omega) hcO)) (Pt.el_set (lcO du o) s (by omega) _)) ?_
       refine nl hK ?_
       have hneu:du.rows≠[]:=fun e=>by rw[e] at hru;simp at hru
       obtain⟨A4,B4,_,_,_,hlinr,_⟩:=mD C t du.rows at' hru
       have hidk:klO kd R o<N∧kcO G C o<N∧R≠kcO G C o∧C at'≠kcO G C o∧C at'≠klO kd R o:=by
        cases o with
        |none=>exact⟨Gy,TL,hf.RG,hC3,hC1⟩
        |some j=>
         have hj:=hoi j rfl
         have Tj:j<d.rows.length:=by omega
         exact⟨Dk,hCj j Tj,(hf.C1 j Tj).2.1.symm,fun e=>hoa (by rw[hf.C2 at' j hat Tj e]),hC2⟩
       obtain⟨hk1N,hk2N,hRkc,hakc,hakl⟩:=hidk
       refine rsd [] hx fun K hK=>?_
       refine sa ?_
       refine s1 (ldN (Pt.idN q) (al (show nx≠kcO G C o by omega) aa) (ek nx)) ?_
       iterate 3 refine sa ?_
       refine s1 (CP hlinr.pa (al hRkc (al (show R≠nx by omega) (al (show R≠nx by omega) (hDu.hR hneu)))) (show R<nx+1 by omega) zW (bS _ _ _)) ?_
       refine sa ?_
       refine q1 (sHC (h_add (vs:=(kcO G C o,dC ((cW aw).f ((lcO du o).set s (nOf 0))))::(nx,dC (aw.f q))::(nx,dC zN)::v) (lv:=lv) (N:=nx+1) (kx:=C at') (xc:=r1.c) (but:=(s:Int)) (al KJ (al (show klO kd R o≠nx by omega) (al (show klO kd R o≠nx by omega) hF))) hLi aa (by rw[cY];exact hlO)
        (al hakc (al (show C at'≠nx by omega) (al (show C at'≠nx by omega) (hDu.hC at' r1 hru)))) hr1c KJ hakc hakl hw) rfl (.inl (by kernel_rfl))) ?_
       refine nl hK ?_
       obtain⟨k2,zc⟩:∃x,x=xf q r1.k (lkO du o):=⟨_,rfl⟩
       obtain⟨c2,q8⟩:∃x,x=uk q r1.c s ((lcO du o).set s (nOf 0)):=⟨_,rfl⟩
       rw[←zc,←q8]
       have hc2l:c2.length=t:=by rw[q8,uj,cY];exact hlO
       have hPn:P (u+1)=(Mh du o k2 c2,oku&&f7 k2 c2):=by
        rw[hPs u o ho,zc,q8,hq,hdu,S5];rfl
       have CW:cp ⟨(kcO G C o,dC ((cW aw).f c2))::(klO kd R o,A3++aY k2 (kcO G C o) t++B3)::v,lv,nx⟩:=
        cp.cons (N:=nx) (S6.cons (ax _) hklN (hLi.pa.ids (by rw[bS,bS]) (S6.var _ F hF).2 (iX hkcN))) (ax _) hkcN (ez _)
       have fin:∀tm:List (Nat×D),tm.lookup 2=some (dI .i64 s)→tm.lookup 7=some (.pt R (at'*38))→tm.lookup 12=some (dB (oku&&f7 k2 c2))→tm.lookup 131=some (.gw id 1 (lns kd R at' i).length)→tm.lookup 132=some (dI .i64 (lns kd R at' i).length)→tm.lookup 133=some (dI .i64 ((u+1:Nat):Int))→
         ∃st:Nat×List (Nat×List D),Wk cx tm ⟨(kcO G C o,dC ((cW aw).f c2))::(klO kd R o,A3++aY k2 (kcO G C o) t++B3)::(kcO G C o,dC ((cW aw).f ((lcO du o).set s (nOf 0))))::(nx,dC (aw.f q))::(nx,dC zN)::v,lv,nx+1⟩
          [(2,dI .i64 s),(7,.pt R (at'*38)),(12,dB (P st.1).2),(131,.gw id 1 (lns kd R at' i).length),(132,dI .i64 (lns kd R at' i).length),(133,dI .i64 st.1)] ⟨st.2,lv,nx⟩∧
          (st.1≤(lns kd R at' i).length∧DAt st.2 kd R G C t (P st.1).1∧cp ⟨st.2,lv,nx⟩∧st.2.lookup id=some (lns kd R at' i)∧(P st.1).1.rows.length=i∧(P st.1).1.rows[at']? =some r1∧
           ∀k ds,k≠kd→k≠R→k≠G→(∀j,j<i→k≠C j)→PL.lookup k=some ds→st.2.lookup k=some ds)∧(lns kd R at' i).length - st.1<(lns kd R at' i).length - u:=fun tm a b c e f g=>by
        refine⟨(u+1,(kcO G C o,dC ((cW aw).f c2))::(klO kd R o,A3++aY k2 (kcO G C o) t++B3)::v),wkS (by rw[h0];show N≤nx;omega) (jD nx) CW (fun j ds h=>?_) ?_,⟨by show u+1≤_;omega,?_,CW,?_,?_,?_,fun k ds h1 h2 h3 h4 h=>?_⟩,by show (lns kd R at' i).length - (u+1)<_;omega⟩
        ·have hj:=CW.lt h
         rcases ce h with⟨rfl,rfl⟩|⟨OL,h⟩
         ·exact aa
         rcases ce h with⟨rfl,rfl⟩|⟨Cv,h⟩
         ·exact al KJ aa
         ·exact al OL (al Cv (al OL (al (show j≠nx by omega) (al (show j≠nx by omega) h))))
        ·dsimp only
         rw[hPn]
         exact (((((bF.nil.cons g).cons f).cons e (aA ru)).cons c).cons b (aA (show R<nx by omega))).cons a
        ·dsimp only
         rw[hPn]
         exact CX _ k2 c2 hc2l (al KJ aa) aa fun k ds h1 h2 h=>al h2 (al h1 h)
        ·exact al (show id≠kcO G C o by omega) (al (show id≠klO kd R o by omega) hvid)
        ·dsimp only
         rw[hPn,RU];exact He
        ·dsimp only
         rw[hPn,setO_ne hoa];exact hru
        ·have hkk:k≠klO kd R o∧k≠kcO G C o:=by
          cases o with
          |none=>exact⟨h1,h3⟩
          |some j=>exact⟨h2,h4 j (hoi j rfl)⟩
         exact al hkk.2 (al hkk.1 (hfru k ds h1 h2 h3 h4 h))
       refine rq hx fun K hK=>?_
       iterate 2 refine sa ?_
       rcases Bool.eq_false_or_eq_true oku with MO|MO
       ·iterate 2 refine ga MO ?_
        refine g1 (d:=.ag (aY k2 (kcO G C o) t)) MO (CP (hLi.new k2).pa (al KJ aa) (show klO kd R o<nx+1 by omega) zW (bS _ _ _)) ?_
        refine Of rfl rfl (by rw[MO];rfl) (sHC (MY aa hc2l hw) rfl (.inr (Fr.refl _))) ?_
        refine s1 (oU MO) ?_
        refine sa ?_
        refine nl hK ?_
        refine rq hx fun K hK=>?_
        iterate 2 refine sa ?_
        refine nl hK ?_
        rw[bT]
        exact fin _ rfl rfl (by rw[MO];rfl) rfl rfl rfl
       ·iterate 4 refine D0 rfl rfl MO ?_
        refine s1 (l6 MO) ?_
        refine sa ?_
        refine nl hK ?_
        refine rq hx fun K hK=>?_
        iterate 2 refine sa ?_
        refine nl hK ?_
        rw[bT]
        exact fin _ rfl rfl (by rw[MO];rfl) rfl rfl rfl
      ·refine AW.exit ?_
       have MI:u=(lns kd R at' i).length:=by have:=dp hb;omega
       have ML:d.rows[at']! =r0:=by rw[bL d.rows at' hat];exact (fP.1 hr0).2
       have hr1t:r1=aZ r0 s:=by
        rw[FN,Ti,LW,hp]
        unfold aZ
        rw[show r0.b.toNat=bN by omega,show r0.c.length=t from ux]
       have hpp:dP d at' s=(if oku then 0 else 30,du):=by
        unfold dP
        rw[ah (by omega)]
        dsimp only
        rw[ML,←hr1t,←hmm,←hok0,←yo,←hLl,←MI,←show P=pO r1 s at' i (d2,ok0) from hP,←hdu,←S5]
       rw[hpp]
       have hlen':du.rows.length=d.rows.length:=by rw[He,hmm]
       have fin2:∀(tm:List (Nat×D)) (e:Int),tm.lookup 6=some (dI .i64 e)→∃tm',Wk cx tm ⟨v,lv,nx⟩ tm' ⟨ov kd R G C t du vs,lv,N⟩∧tN tbl [.tmp 6] tm' ⟨ov kd R G C t du vs,lv,N⟩ (dI .i64 e):=fun tm e h=>
        Sw h0 hok (by omega) hDu hfu Gy Dk TL (fun j hj=>hCj j (by omega)) (fun k ds h1 h2 h3 h4 h=>hfru k ds h1 h2 h3 (fun j hj=>h4 j (by omega)) (hfr1 k ds h1 h2 (h4 at' (by omega)) h)) (fun e=>by rw[e] at hlen';simp at hlen';omega) h
       refine AW.seq (rs hx fun K hK=>?_)
       iterate 2 refine sa ?_
       refine nl hK ?_
       rcases Bool.eq_false_or_eq_true oku with MO|MO
       ·refine AW.condF rfl (by rw[MO];rfl) (AW.skip (rs hx fun K hK=>?_))
        refine sa ?_
        refine nl hK ?_
        refine AW.ret ?_
        rw[MO]
        exact fin2 _ 0 rfl
       ·refine AW.condT rfl (by rw[MO];rfl) (rs hx fun K hK=>?_)
        refine sa ?_
        refine nl hK ?_
        refine AW.ret ?_
        rw[MO]
        exact fin2 _ 30 rfl
end
end
section
structure cM(d:Dic)(w m:Nat):Prop where
 len:d.rows.length=m
 lg:d.gc.length=w
 lc:∀i,i<m→d.rows[i]!.c.length=w
 b:∀i,i<m→0≤d.rows[i]!.b∧d.rows[i]!.b<w
 p0:0≤d.piv
 p1:d.piv≤9223372036854775807
 m0:0≤d.most
 m1:d.most≤9223372036854775807
section
variable {d:Dic} {w m at' s:Nat}
theorem cM.lC(h:cM d w m):∀(i:Nat) (r:Row),d.rows[i]? =some r→r.c.length=w:=fun i r hr=>by
 have hi:=(fP.1 hr).1
 have:=h.lc i (by rw[←h.len];exact hi)
 rwa[c8 hr] at this
theorem Sc(h:d.most≤d.piv):dP d at' s=(220,d):=by unfold dP;rw[ai h]
theorem cM.pivD(h:cM d w m)(hat:at'<m)(hs:s<w)(hp:d.piv<d.most):cM (gp d at' s) w m:=by
 have hl:=h.len
 refine⟨by rw[d7];exact hl,?_,fun i hi=>?_,fun i hi=>?_,?_,?_,h.m0,h.m1⟩
 ·show (gS d.gk d.gc _ s).c.length=w
  rw[rM];exact h.lg
 ·rw[jj (by omega)]
  split
  ·rw[rH];exact h.lc at' hat
  ·show (gS d.rows[i]!.k d.rows[i]!.c (aZ d.rows[at']! s) s).c.length=w
   rw[rM];exact h.lc i hi
 ·rw[pp (by omega)]
  split
  ·omega
  ·exact h.b i hi
 ·have:=h.p0
  show 0≤d.piv+1;omega
 ·have:=h.m1
  show d.piv+1≤_;omega
theorem cM.pivot(h:cM d w m)(hat:at'<m)(hs:s<w):cM (dP d at' s).2 w m∧(dP d at' s).2.most=d.most∧(dP d at' s).2.n=d.n∧((dP d at' s).1=0→(dP d at' s).2.piv=d.piv+1∧d.piv<d.most):=by
 by_cases hp:d.most≤d.piv
 ·rw[Sc hp]
  exact⟨h,rfl,rfl,fun e=>by cases e⟩
 ·obtain⟨h2,_,_⟩:=Bp d at' s (by rw[h.len];exact hat) hp
  rw[h2]
  exact⟨h.pivD hat hs (by omega),rfl,rfl,fun _=>⟨rfl,by omega⟩⟩
theorem cM.enter(h:cM d w m)(he:ku d.gc=some s):s<w:=by have:=(pJ he).1;rw[h.lg] at this;exact this
theorem cM.leav(h:cM d w m){z:Nu}{p:Int×Nu}(hl:jm d.rows s z d.rows.length=some p)(hp:¬p.1<0):p.1.toNat<m∧p.1=(p.1.toNat:Int):=by
 rcases px hl with e|⟨i,h1,h2,_⟩
 ·omega
 ·have:=h.len;omega
theorem cM.improve(h:cM d w m):∀(f:Nat),cM (g7 f d).2 w m∧(g7 f d).2.most=d.most∧(g7 f d).2.n=d.n∧-1≤(g7 f d).1.1∧(g7 f d).1.1<w:=by
 intro f
 induction f generalizing d with
 |zero=>exact⟨h,rfl,rfl,zt _,by show (-1:Int)<w;omega⟩
 |succ f ih=>
  unfold g7
  cases he:ku d.gc with
  |none=>exact⟨h,rfl,rfl,zt _,by show (-1:Int)<w;omega⟩
  |some s=>
   dsimp only
   have hs:=h.enter he
   cases hl:jm d.rows s default d.rows.length with
   |none=>exact⟨h,rfl,rfl,zt _,by show (-1:Int)<w;omega⟩
   |some p=>
    dsimp only
    by_cases hp:p.1<0
    ·rw[ai hp];exact⟨h,rfl,rfl,by show -1≤(s:Int);omega,by show (s:Int)<w;omega⟩
    ·rw[ah hp]
     obtain⟨h1,_⟩:=h.leav hl hp
     obtain⟨h2,h3,h4,_⟩:=h.pivot h1 hs
     by_cases h0:(dP d p.1.toNat s).1=0
     ·rw[ai h0]
      obtain⟨a1,a2,a3,a4⟩:=ih h2
      exact⟨a1,a2.trans h3,a3.trans h4,a4⟩
     ·rw[ah h0]
      exact⟨h2,h3,h4,zt _,by show (-1:Int)<w;omega⟩
end
end
section
section
variable {vs vsX:List (Nat×List D)} {lv:List (Nat×Nat×Nat×TypeId)} {N kd R G w m:Nat} {C:Nat→Nat} {d d':Dic}
theorem Dd(hf:Dif m kd R G C)(hS:cM d' w m)(hm:0<m)(hX:∀k ds,k≠kd→k≠R→k≠G→(∀j,j<m→k≠C j)→vs.lookup k=some ds→vsX.lookup k=some ds):∀j ds,(ov kd R G C w d' vs).lookup j=some ds→(ov kd R G C w d' vsX).lookup j=some ds:=by
 have hf':Dif d'.rows.length kd R G C:=by rw[hS.len];exact hf
 refine DT hf' (DAt.ov hf' hS.lg hS.lC) (fun k ds h1 h2 h3 h4 h=>?_) (fun e=>?_)
 ·rw[Ih h1 h2 h3 h4]
  exact hX k ds h1 h2 h3 (fun j hj=>h4 j (by rw[hS.len];exact hj)) h
 ·have:=hS.len
  rw[e] at this
  exact absurd this (by simp only[I3];omega)
theorem cM.dif(h:cM d w m)(hf:Dif m kd R G C):Dif d.rows.length kd R G C:=by rw[h.len];exact hf
theorem cM.at(h:cM d w m)(hf:Dif m kd R G C):DAt (ov kd R G C w d vs) kd R G C w d:=DAt.ov (h.dif hf) h.lg h.lC
theorem QJ {c:List Nu}{s:Nat}(h:s<c.length)(h1:0<bD c[s]!)(h2:∀t,t<s→¬0<bD c[t]!):ku c=some s:=by
 unfold ku
 rw[oO]
 refine⟨h,?_,fun t ht=>?_⟩
 ·rw[bL c s h] at h1;exact aA h1
 ·have:=h2 t ht
  rw[bL c t (by omega)] at this
  simpa using this
theorem M9 {c:List Nu}(h2:∀t,t<c.length→¬0<bD c[t]!):ku c=none:=by
 unfold ku
 rw[u7]
 intro x hx
 obtain⟨t,ht,rfl⟩:=w5.1 hx
 have:=h2 t ht
 rw[bL c t ht] at this
 exact a8 this
theorem DAt.up(h:DAt vs kd R G C w d)(hX:∀k ds,vs.lookup k=some ds→vsX.lookup k=some ds):DAt vsX kd R G C w d:=h.look fun k ds _=>hX k ds
theorem Hg(Dk:R<N)(hD:DAt vs kd R G C w d)(hf:Dif m kd R G C)(hS:cM d w m)(hw:w≤1000000)(hm:m≤1000000):
  HC prog 46 [.pt kd 0] ⟨vs,lv,N⟩ (.tu [dI .i64 (aS d).1.1,dI .i64 (aS d).1.2]) ⟨ov kd R G C w (aS d).2 vs,lv,N⟩:=by
 refine HC.of (rs:=[.tmp 2,.tmp 3]) tok func46 rfl rfl (a9 rfl) rfl (fun cx hx h0 hok=>?_)
 simp only[fC,Nat.reduceAdd,br]
 have hl:=hS.len
 have wn:=hD.hd
 have Gy:=hok.lt wn
 have TL:=hok.lt hD.hG
 have hCN:∀j,j<m→C j<N:=fun j hj=>hok.lt (hD.hC j d.rows[j]! (by rw[bL d.rows j (by omega)];exact cH _))
 have tC:∀d2,cM d2 w m→cp ⟨ov kd R G C w d2 vs,lv,N⟩:=fun d2 h2=>Cq hok Gy Dk TL fun j hj=>hCN j (by rw[←h2.len];exact hj)
 refine rs hx fun K hK=>?_
 iterate 2 refine sa ?_
 refine nl hK ?_
 refine AW.scope (AW.seq (AW.label (AW.block (AW.loopW (fun u:Nat×Dic=>[(0,.pt kd 0)]) (fun u=>⟨ov kd R G C w u.2 vs,lv,N⟩) (fun u=>g7 u.1 u.2=aS d∧cM u.2 w m∧(u.2.most - u.2.piv).toNat+1≤u.1) (fun u=>u.1) ((d.most - d.piv).toNat+1,d) ?_ ⟨rfl,hS,ax _⟩ ?_))))
 ·exact wk1 h0 (hok:=tC d hS) (hv:=DT (hS.dif hf) hD (fun _ _ _ _ _ _ h=>h) fun _ _ h=>h)
 ·rintro⟨f,dj⟩ ⟨he,CD,hfj⟩
  dsimp only at he CD hfj ⊢
  obtain⟨f,rfl⟩:∃f',f=f'+1:=⟨f - 1,by omega⟩
  have hDV:=CD.at hf (vs:=vs)
  have ob:=tC dj CD
  have t8:∀k ds,k≠kd→k≠R→k≠G→(∀j,j<m→k≠C j)→vs.lookup k=some ds→(ov kd R G C w dj vs).lookup k=some ds:=fun k ds h1 h2 h3 h4 h=>by rw[Ih h1 h2 h3 fun j hj=>h4 j (by rw[←CD.len];exact hj)];exact h
  generalize hV:ov kd R G C w dj vs=V at hDV ob t8 ⊢
  have hdV:=hDV.hd
  have hGV:=hDV.hG
  have OP:=hDV.lG
  refine AW.block (AW.seq (rs hx fun K hK=>?_))
  iterate 4 refine sa ?_
  refine c1 ms.pc ?_
  iterate 2 refine sa ?_
  refine nl hK ?_
  refine AW.block (AW.loopW (fun t:Nat=>[(0,.pt kd 0),(13,.ow G 0 36 w),(14,dI .i64 w),(15,dI .i64 t)]) (fun _=>⟨V,lv,N⟩) (fun t=>t≤w∧∀t',t'<t→¬0<bD dj.gc[t']!) (fun t=>w - t) 0 ?_ ⟨cr _,fun t h=>absurd h (qK _)⟩ ?_)
  ·exact wk1 h0
  ·rintro t ⟨ht,mF⟩
   refine rs hx fun K hK=>?_
   refine sa ?_
   refine nl hK ?_
   refine AW.seq (AW.condS rfl (fun hb=>?_) (fun hb=>?_))
   ·have Iy:t<w:=by have:=bw hb;omega
    refine AW.skip (AW.seq (AW.block (rs hx fun K hK=>?_)))
    refine sa ?_
    refine i1 Iy ?_
    refine l1 (Pt.el dj.gc t (by omega)) ?_
    refine n1 ?_
    refine sa ?_
    refine z1 ?_
    refine nl hK ?_
    refine AW.seq (rs hx fun K hK=>?_)
    refine l1 (Pt.idN _) ?_
    refine cq (yJ _) ?_
    refine sa ?_
    refine nl hK ?_
    refine AW.condS rfl (fun hb=>?_) (fun hb=>?_)
    ·have hsg:bD dj.gc[t]!≤0:=bw hb
     refine AW.exit (rq hx fun K hK=>?_)
     iterate 2 refine sa ?_
     refine nl hK ?_
     rw[bT]
     refine⟨t+1,wk1 h0,⟨Iy,fun t' h=>?_⟩,by omega⟩
     rcases dX t' t with h1|h1
     ·exact mF t' h1
     ·obtain rfl:t'=t:=by omega
      omega
    have hsg:¬bD dj.gc[t]!≤0:=dp hb
    have hen:ku dj.gc=some t:=QJ (by omega) (by omega) mF
    unfold g7 at he
    rw[hen] at he
    dsimp only at he
    refine AW.skip ?_
    have hup:∀(k:Nat) (ds:List D),V.lookup k=some ds→((N,dC (aw.f dj.gc[t]!))::(N,dC zN)::V).lookup k=some ds:=fun k ds h=>by
     have hk:=ob.lt h
     exact al (by omega) (al (by omega) h)
    have TM:=hDV.up hup
    have Rc:=Qw (lv:=lv) (N:=N+1) TM Iy (by rw[CD.len];exact hm)
    cases hlp:jm dj.rows t default dj.rows.length with
    |none=>
     rw[hlp] at Rc he
     dsimp only[Mz] at Rc he
     refine rs hx fun K hK=>?_
     iterate 2 refine sa ?_
     refine q1 (sHC Rc rfl (.inl (by kernel_rfl))) ?_
     iterate 5 refine sa ?_
     refine nl hK ?_
     refine AW.seq (rs hx fun K hK=>?_)
     iterate 2 refine sa ?_
     refine nl hK ?_
     refine AW.condT rfl (by decide) (rs hx fun K hK=>?_)
     iterate 3 refine sa ?_
     refine nl hK ?_
     refine AW.ret ?_
     rw[←he,hV]
     exact rt2 h0 (hok:=ob) (hv:=hup)
    |some p=>
     rw[hlp] at Rc he
     dsimp only[Mz] at Rc he
     refine rs hx fun K hK=>?_
     iterate 2 refine sa ?_
     refine q1 (sHC Rc rfl (.inl (by kernel_rfl))) ?_
     iterate 5 refine sa ?_
     refine nl hK ?_
     refine AW.seq (rs hx fun K hK=>?_)
     iterate 2 refine sa ?_
     refine nl hK ?_
     refine AW.condF rfl (by decide) (AW.skip (AW.seq (rs hx fun K hK=>?_)))
     iterate 2 refine sa ?_
     refine nl hK ?_
     refine AW.condS rfl (fun hb=>?_) (fun hb=>?_)
     ·have hp:p.1<0:=bw hb
      rw[ai hp] at he
      refine rs hx fun K hK=>?_
      iterate 3 refine sa ?_
      refine nl hK ?_
      refine AW.ret ?_
      rw[←he,hV]
      exact rt2 h0 (hok:=ob) (hv:=hup)
     have hp:¬p.1<0:=dp hb
     rw[ah hp] at he
     obtain⟨ha,hpa⟩:=CD.leav hlp hp
     generalize p.1.toNat=a at ha hpa he
     have hra:dj.rows[a]? =some dj.rows[a]! :=by
      have:=CD.len
      rw[bL dj.rows a (by omega)];exact cH _
     have SZ:=IG (lv:=lv) (N:=N+1) TM (CD.dif hf) hra Iy (CD.b a ha) hw (by rw[CD.len];exact hm) ⟨CD.p0,CD.p1⟩ ⟨CD.m0,CD.m1⟩
     obtain⟨Rg,hmq,hnq,hq0⟩:=CD.pivot ha Iy
     have hov:=Dd (vs:=vs) (vsX:=(N,dC (aw.f dj.gc[t]!))::(N,dC zN)::V) hf Rg (by omega) fun k ds h1 h2 h3 h4 h=>hup k ds (t8 k ds h1 h2 h3 h4 h)
     have Qi:=tC _ Rg
     generalize dP dj a t=q at SZ Rg hmq hnq hq0 hov Qi he
     refine AW.skip (AW.seq (rs hx fun K hK=>?_))
     iterate 3 refine sa ?_
     refine q1 (sHC SZ (by show [_,dI .i64 p.1,_]=_;rw[hpa];rfl) (.inl (by kernel_rfl))) ?_
     refine sa ?_
     refine nl hK ?_
     refine rs hx fun K hK=>?_
     iterate 2 refine sa ?_
     refine nl hK ?_
     refine AW.condS rfl (fun hb=>?_) (fun hb=>?_)
     ·have hq:¬q.1=0:=bw hb
      rw[ah hq] at he
      refine rs hx fun K hK=>?_
      iterate 3 refine sa ?_
      refine nl hK ?_
      refine AW.ret ?_
      rw[←he]
      exact rt2 h0 (hok:=Qi) (hv:=hov)
     ·have hq:q.1=0:=by have:=dp hb;simpa using this
      rw[ai hq] at he
      obtain⟨hq1,hq2⟩:=hq0 hq
      exact AW.skip (AW.exit (⟨(f,q.2),wk1 h0 (hok:=Qi) (hv:=hov),⟨he,Rg,by dsimp only;omega⟩,by dsimp only;omega⟩))
   ·have Iy:t=w:=by have:=dp hb;omega
    subst Iy
    have hen:ku dj.gc=none:=M9 fun t' h=>mF t' (by omega)
    unfold g7 at he
    rw[hen] at he
    dsimp only at he
    refine AW.exit (rs hx fun K hK=>?_)
    iterate 2 refine sa ?_
    refine nl hK ?_
    refine AW.ret ?_
    rw[←he,hV]
    exact rt2 h0 (hok:=ob) (hv:=fun _ _ h=>h)
end
end
def Qd(p:Nu→Bool)(l:List Nu):Int:=match l.findIdx? p with
 |some i=>i
 |none=>-1
theorem SF {p:Nu→Bool}{l:List Nu}{i:Nat}(hi:i<l.length)(h:p l[i]! =true)(mF:∀j,j<i→p l[j]! =false):Qd p l=i:=by
 have:l.findIdx? p=some i:=by
  rw[oO]
  refine⟨hi,by rw[bL l i hi] at h;exact h,fun j hj=>?_⟩
  have:=mF j hj
  rw[bL l j (by omega)] at this
  simp[this]
 unfold Qd;rw[this]
theorem Qc {p:Nu→Bool}{l:List Nu}(mF:∀j,j<l.length→p l[j]! =false):Qd p l=-1:=by
 have:l.findIdx? p=none:=by
  rw[u7]
  intro x hx
  obtain⟨j,hj,rfl⟩:=w5.1 hx
  have:=mF j hj
  rwa[bL l j hj] at this
 unfold Qd;rw[this]
theorem Rv {f:FuncId}{p:Nu→Bool}(hf:∀x:Nu,aq prog f [dG aw x] (dB (p x))){l:List Nu}(hl:l.length≤1000000):aq prog 106 [.e (slE aw l),.e (.lit (.func (.func f) #[] #[]))] (dI .i64 (Qd p l)):=by
 refine bh (rs:=[.tmp 4]) (fun cx hx h0=>?_) func106
 refine ra hx ?_
 refine AW.seq (ra hx ?_)
 refine AW.block (AW.loopW (fun i:Nat=>[(0,.e (slE aw l)),(1,.e (.lit (.func (.func f) #[] #[]))),(7,dI .i64 (l.length:Nat)),(8,dI .i64 (i:Nat))]) (fun _=>⟨[],[],0⟩) (fun i=>i≤l.length∧∀j,j<i→p l[j]! =false) (fun i=>l.length - i) 0 ?_ ⟨cr _,fun j h=>absurd h (qK _)⟩ ?_)
 ·exact wk h0 [] (wR rfl (wR rfl (wR rfl (wR rfl wTn)))) wVn wLn
 ·rintro i ⟨hi,mF⟩
  refine ra hx ?_
  refine AW.seq (AW.condS rfl (fun hb=>?_) (fun hb=>?_))
  ·have zd:i<l.length:=by have:=bw hb;omega
   refine AW.skip (AW.seq (AW.block (ra hx ?_)))
   refine rs hx fun K hK=>?_
   iterate 3 refine sa ?_
   have q8:0≤(i:Int)∧(i:Int)<((l.length:Nat):Int):=by omega
   refine sbr ?_
   refine s1 (d:=dG aw l[i]!) (jF (c:=aw) (l:=l) (n:=i) (o:=0) aR zd (eY _ _ rfl)) ?_
   refine sc (hf _) ?_
   refine nl hK ?_
   refine AW.condS rfl (fun hb=>?_) (fun hb=>?_)
   ·refine ra hx ?_
    refine AW.ret ?_
    rw[SF zd hb mF]
    exact rv1
   ·refine AW.skip (rbr hx ?_)
    rw[bT]
    refine⟨i+1,wk h0 [] (wR rfl (wR rfl (wR rfl (wR rfl wTn)))) wVn wLn,⟨zd,fun j hj=>?_⟩,by omega⟩
    rcases dX j i with h1|h1
    ·exact mF j h1
    ·obtain rfl:j=i:=by omega
     exact hb
  ·refine AW.exit ?_
   have zd:i=l.length:=by have:=dp hb;omega
   refine ra hx ?_
   refine AW.ret ?_
   rw[Qc fun j hj=>mF j (by omega)]
   exact rv1
theorem Ru(x:Nu):aq prog 107 [dG aw x] (dB (decide (bD x≠0))):=by
 refine bh (rs:=[.tmp 2]) (fun cx hx h0=>?_) func107
 refine ra hx ?_
 refine rs hx fun K hK=>?_
 refine mbr ?_
 refine sc (yJ x) ?_
 refine nbr hK ?_
 exact AW.ret (rv1)
section
section
variable {vs V V2:List (Nat×List D)} {lv:List (Nat×Nat×Nat×TypeId)} {N kd R G w m:Nat} {C:Nat→Nat} {d d':Dic}
def eH(x:Nu)(i:Nat)(d:Dic):Dic:=⟨(d.rows.take i).map (ue x)++d.rows.drop i,d.gk,d.gc,d.n,d.piv,d.most⟩
theorem EF(x:Nu)(d:Dic):eH x 0 d=d:=by unfold eH;simp
theorem xF(x:Nu)(d:Dic):eH x d.rows.length d=⟨d.rows.map (ue x),d.gk,d.gc,d.n,d.piv,d.most⟩:=by unfold eH;simp
theorem Hn {x:Nu}{i:Nat}(hi:i<d.rows.length):(eH x i d).rows[i]! =d.rows[i]! :=by
 apply c8
 unfold eH
 dsimp only
 rw[qJ (by simp;omega),bb,eg,tf (by omega),zq,nA,iM]
 exact wi hi
theorem QO {x:Nu}{i:Nat}(hi:i≤d.rows.length):(eH x i d).rows.length=d.rows.length:=by
 unfold eH;simp;omega
theorem EG {x:Nu}{i:Nat}(hi:i<d.rows.length):(⟨(eH x i d).rows.set i (ue x d.rows[i]!),d.gk,d.gc,d.n,d.piv,d.most⟩:Dic)=eH x (i+1) d:=by
 unfold eH
 dsimp only
 congr 1
 have hl:((d.rows.take i).map (ue x)).length=i:=by simp;omega
 rw[List.set_append_right _ _ (by omega),hl,zq,Fd hi,List.set_cons_zero,AE,cH hi,iP,c5]
 rw[bL d.rows i hi]
 rfl
theorem Dr {x:Nu}{i j:Nat}(hi:i≤d.rows.length)(hj:j<d.rows.length):(eH x i d).rows[j]!.k=d.rows[j]!.k∧(eH x i d).rows[j]!.b=d.rows[j]!.b∧(eH x i d).rows[j]!.c.length=d.rows[j]!.c.length:=by
 have hl:((d.rows.take i).map (ue x)).length=i:=by simp;omega
 by_cases h:j<i
 ·have:(eH x i d).rows[j]! =ue x d.rows[j]! :=by
   apply c8
   unfold eH
   dsimp only
   rw[AG (by omega),dV,gM,ai h,wi hj]
   rfl
  rw[this]
  exact⟨rfl,rfl,cY ..⟩
 ·have:(eH x i d).rows[j]! =d.rows[j]! :=by
   apply c8
   unfold eH
   dsimp only
   rw[qJ (by omega),hl,nA,show i+(j - i)=j by omega]
   exact wi hj
  rw[this]
  exact⟨rfl,rfl,rfl⟩
theorem cM.colsI(h:cM d w m)(x:Nu){i:Nat}(hi:i≤m):cM (Go.Proofs.YtaedcknhkjpmlaaGreat.eH x i d) w m:=by
 have hl:=h.len
 refine⟨(QO (by omega)).trans hl,h.lg,fun j hj=>?_,fun j hj=>?_,h.p0,h.p1,h.m0,h.m1⟩
 ·rw[(Dr (by omega) (by omega)).2.2];exact h.lc j hj
 ·rw[(Dr (by omega) (by omega)).2.1];exact h.b j hj
theorem Ip(l:List Row):∀k,jX l k≤k
 |0=>ax _
 |k+1=>by unfold jX;have:=Ip l k;split <;> omega
theorem rowsC_c {l:List Row}{j:Nat}(hj:j<l.length)(c:List Nu):f6 C w 0 (l.set j ⟨l[j]!.k,c,l[j]!.b⟩)=f6 C w 0 l:=by
 obtain⟨A,B,_,h2,h3,_⟩:=mD C w l j (wi hj)
 rw[h2,h3]
 rfl
theorem DAt.setC(h:DAt V kd R G C w d)(hf:Dif d.rows.length kd R G C){j:Nat}(hj:j<d.rows.length)(c:List Nu)(hl:c.length=w):DAt ((C j,dC ((cW aw).f c))::V) kd R G C w ⟨d.rows.set j ⟨d.rows[j]!.k,c,d.rows[j]!.b⟩,d.gk,d.gc,d.n,d.piv,d.most⟩:=by
 obtain⟨h1,h2,h3⟩:=hf.C1 j hj
 refine h.setRow hf hj ⟨d.rows[j]!.k,c,d.rows[j]!.b⟩ hl ?_ aa fun k ds _ zc hk=>al zc hk
 rw[rowsC_c hj]
 exact al h2.symm (h.hR (fun e=>by rw[e] at hj;simp at hj))
theorem DAt.setG(h:DAt V kd R G C w d)(hf:Dif d.rows.length kd R G C)(c:List Nu)(hl:c.length=w):DAt ((G,dC ((cW aw).f c))::V) kd R G C w ⟨d.rows,d.gk,c,d.n,d.piv,d.most⟩:=
 h.setDic hf ⟨d.rows,d.gk,c,d.n,d.piv,d.most⟩ rfl hl (al hf.dG h.hd) aa fun k ds _ zc hk=>al zc hk
theorem ov_in(hf:Dif m kd R G C)(hS:cM d w m)(h:DAt V2 kd R G C w d)(hm:0<m)(hr:∀k ds,k≠kd→k≠R→k≠G→(∀j,j<m→k≠C j)→vs.lookup k=some ds→V2.lookup k=some ds):∀j ds,(ov kd R G C w d vs).lookup j=some ds→V2.lookup j=some ds:=
 DT (hS.dif hf) h (fun k ds h1 h2 h3 h4 h5=>hr k ds h1 h2 h3 (fun j hj=>h4 j (by rw[hS.len];exact hj)) h5) fun e=>by
  have:=hS.len
  rw[e] at this
  simp only[I3] at this
  omega
theorem Ox(hS:cM d w m){k:Nat}{ds:List D}(h1:k≠kd)(h2:k≠R)(h3:k≠G)(h4:∀j,j<m→k≠C j)(h:vs.lookup k=some ds):(ov kd R G C w d vs).lookup k=some ds:=by
 rw[Ih h1 h2 h3 fun j hj=>h4 j (by rw[←hS.len];exact hj)];exact h
structure RowAt(V:List (Nat×List D))(R w:Nat)(C:Nat→Nat)(d:Dic)(i:Nat):Prop where
 k:∃F F',V.lookup R=some F∧Pt F (i*38+0+0) (dC (aw.f d.rows[i]!.k)) F'
 c:∃F F',V.lookup R=some F∧Pt F (i*38+0+36) [.ow (C i) 0 36 w] F'
 v:V.lookup (C i)=some (dC ((cW aw).f d.rows[i]!.c))
 l:d.rows[i]!.c.length=w
 r:∃F F',V.lookup R=some F∧Pt F (i*38) (iS C w i d.rows[i]!) F'
 n:∃F F',V.lookup R=some F∧Pt F (i*38+0) (aY d.rows[i]!.k (C i) w) F'
 ne:e9 R d.rows=.gw R 38 d.rows.length
theorem DAt.row(h:DAt V kd R G C w d){i:Nat}(hi:i<d.rows.length):RowAt V R w C d i:=by
 have hr:d.rows[i]? =some d.rows[i]! :=wi hi
 obtain⟨A,B,hA,h2,h3,h4,h5⟩:=mD C w d.rows i hr
 have fI:d.rows≠[]:=fun e=>by rw[e] at hi;simp at hi
 exact⟨⟨_,_,h.hR fI,h4.pk⟩,⟨_,_,h.hR fI,h4.pc⟩,h.hC i _ hr,h.lC i _ hr,⟨_,_,h.hR fI,GX h3 hA⟩,⟨_,_,h.hR fI,h4.pa⟩,qg fI⟩
theorem RV {x:Cx}{tm:List (Nat×D)}{q n2:Nat}{a:Int}{r:Int×Dic}(h0:x.hp0=⟨vs,lv,N⟩)(hr:r=(a,d))(hok:cp ⟨ov kd R G C w d vs,lv,N⟩)(hN:N≤n2)(hv:∀j ds,(ov kd R G C w d vs).lookup j=some ds→V.lookup j=some ds)(hq:tm.lookup q=some (dI .i64 a):=by exact rfl):
  ∃tm',Wk x tm ⟨V,lv,n2⟩ tm' ⟨ov kd R G C w r.2 vs,lv,N⟩∧tN tbl [.tmp q] tm' ⟨ov kd R G C w r.2 vs,lv,N⟩ (dI .i64 r.1):=by
 subst hr
 exact rt1 h0 hok hN hv hq rfl
theorem SE(c:List Nu):Qd (fun x=>decide (bD x≠0)) c=match yh c with|some i=>(i:Int)|none=>-1:=rfl
theorem h_begin(Dk:R<N)(hD:DAt vs kd R G C w d)(hf:Dif m kd R G C)(hS:cM d w m)(hw:w≤1000000)(hm:m≤1000000)(FQ:0<m)(hw0:0<w)
  (An:∀q,dP (co d) (jX d.rows d.rows.length) 0=q→q.1=0→(aS q.2).1.2=0→0≤dm (aS q.2).2.rows 0→yh (aS q.2).2.rows[(dm (aS q.2).2.rows 0).toNat]!.c≠none):
  HC prog 43 [.pt kd 0] ⟨vs,lv,N⟩ (dI .i64 (jO d).1) ⟨ov kd R G C w (jO d).2 vs,lv,N⟩:=by
 refine HC.of (rs:=[.tmp 2]) tok func43 rfl rfl (a9 rfl) rfl (fun cx hx h0 hok=>?_)
 simp only[fC,Nat.reduceAdd,br]
 have hl:=hS.len
 have wn:=hD.hd
 have Gy:=hok.lt wn
 have TL:=hok.lt hD.hG
 have hCN:∀j,j<m→C j<N:=fun j hj=>hok.lt (hD.hC j d.rows[j]! (wi (by omega)))
 have tC:∀d2,cM d2 w m→cp ⟨ov kd R G C w d2 vs,lv,N⟩:=fun d2 h2=>Cq hok Gy Dk TL fun j hj=>hCN j (by rw[←h2.len];exact hj)
 refine rs hx fun K hK=>?_
 refine sa ?_
 refine nl hK ?_
 refine rs hx fun K hK=>?_
 refine sa ?_
 refine nl hK ?_
 refine AW.seq (rs hx fun K hK=>?_)
 iterate 3 refine sa ?_
 refine c1 gE ?_
 refine Og (R:=R) (l:=d.rows) rfl ?_
 refine sa ?_
 refine nl hK ?_
 rw[hl]
 refine AW.block (AW.loopW (fun i:Nat=>[(0,.pt kd 0),(3,dI .i64 (jX d.rows i:Nat)),(14,dI .i64 m),(15,dI .i64 i)]) (fun i=>⟨ov kd R G C w (eH (nOf 1) i d) vs,lv,N⟩) (fun i=>i≤m) (fun i=>m - i) 0 ?_ (cr _) ?_)
 ·rw[EF]
  exact wk1 h0 (hok:=tC d hS) (hv:=ov_in hf hS hD FQ fun _ _ _ _ _ _ h=>h)
 ·intro i hi
  have xB:=hS.colsI (nOf 1) hi
  have Dl:=xB.at hf (vs:=vs)
  have ob:=tC _ xB
  have t8:∀k ds,k≠kd→k≠R→k≠G→(∀j,j<m→k≠C j)→vs.lookup k=some ds→(ov kd R G C w (eH (nOf 1) i d) vs).lookup k=some ds:=fun k ds h1 h2 h3 h4 h=>Ox xB h1 h2 h3 h4 h
  generalize hV:ov kd R G C w (eH (nOf 1) i d) vs=V at Dl ob t8 ⊢
  have hdi:=Dl.hd
  have hli:=xB.len
  refine rs hx fun K hK=>?_
  refine sa ?_
  refine nl hK ?_
  refine AW.seq (AW.condS rfl (fun hb=>?_) (fun hb=>?_))
  ·have pX:i<m:=by have:=bw hb;omega
   have JI:(eH (nOf 1) i d).rows[i]! =d.rows[i]! :=Hn (by omega)
   obtain⟨⟨F1,F1',e1,L1⟩,⟨F2,F2',e2,L2⟩,e3,ux,_,_,fI⟩:=Dl.row (i:=i) (by omega)
   have Ti:=ob.lt e1
   have hk3:=ob.lt e3
   rw[JI] at e3 L1 ux
   refine AW.skip (AW.seq (AW.block (rs hx fun K hK=>?_)))
   iterate 2 refine sa ?_
   refine nl hK ?_
   refine rsd [28] hx fun K hK=>?_
   iterate 3 refine sa ?_
   refine c1 gE ?_
   refine sa ?_
   refine r1 (n:=(eH (nOf 1) i d).rows.length) (i:=i) (by omega) ?_ (by show (e9 R _).toOw=_;rw[fI];rfl)
   iterate 2 refine sa ?_
   refine c1 L2 ?_
   refine cq (Gi 1 (by omega)) ?_
   refine i1 (i:=0) (n:=w) hw0 ?_
   refine t1 (Pt.el d.rows[i]!.c 0 (by omega)) (Pt.el_set d.rows[i]!.c 0 (by omega) _) ?_
   refine nl hK ?_
   have hdn:(⟨(eH (nOf 1) i d).rows.set i ⟨(eH (nOf 1) i d).rows[i]!.k,d.rows[i]!.c.set 0 (nOf 1),(eH (nOf 1) i d).rows[i]!.b⟩,d.gk,d.gc,d.n,d.piv,d.most⟩:Dic)=eH (nOf 1) (i+1) d:=by
    rw[JI];exact EG (by omega)
   have M1:=Dl.setC (xB.dif hf) (j:=i) (by omega) (d.rows[i]!.c.set 0 (nOf 1)) (by rw[cY];exact ux)
   have M1:DAt ((C i,dC ((cW aw).f (d.rows[i]!.c.set 0 (nOf 1))))::V) kd R G C w (eH (nOf 1) (i+1) d):=by rw[←hdn];exact M1
   have hSn:=hS.colsI (nOf 1) (show i+1≤m by omega)
   have mF:jX d.rows i<m:=by
    have:=Ip d.rows i
    omega
   have LU:=hSn.len
   obtain⟨⟨F3,F3',e4,L3⟩,_,_,_,_,_,Qk⟩:=M1.row (i:=i) (by omega)
   obtain⟨⟨F4,F4',e5,L4⟩,_⟩:=M1.row (i:=jX d.rows i) (by omega)
   rw[(Dr (show i+1≤d.rows.length by omega) (show i<d.rows.length by omega)).1] at L3
   rw[(Dr (show i+1≤d.rows.length by omega) (show jX d.rows i<d.rows.length by omega)).1] at L4
   have hdn2:=M1.hd
   have wg:∀j ds,(ov kd R G C w (eH (nOf 1) (i+1) d) vs).lookup j=some ds→((C i,dC ((cW aw).f (d.rows[i]!.c.set 0 (nOf 1))))::V).lookup j=some ds:=ov_in hf hSn M1 FQ fun k ds h1 h2 h3 h4 h=>al (h4 i pX) (t8 k ds h1 h2 h3 h4 h)
   have hokn:=tC _ hSn
   have hokW:cp ⟨(C i,dC ((cW aw).f (d.rows[i]!.c.set 0 (nOf 1))))::V,lv,N⟩:=ob.consM hk3 (ez _)
   have hk4:=hokW.lt e4
   generalize (C i,dC ((cW aw).f (d.rows[i]!.c.set 0 (nOf 1))))::V=W at M1 e4 e5 hdn2 wg ⊢
   have iO:jX d.rows (i+1)=if nh d.rows[i]!.k d.rows[jX d.rows i]!.k<0 then i else jX d.rows i:=rfl
   refine rsd [32] hx fun K hK=>?_
   iterate 3 refine sa ?_
   refine c1 gE ?_
   refine sa ?_
   refine r1 (n:=(eH (nOf 1) (i+1) d).rows.length) (i:=i) (by omega) ?_ (by show (e9 R _).toOw=_;rw[Qk];rfl)
   iterate 2 refine sa ?_
   refine l1 L3 ?_
   iterate 3 refine sa ?_
   refine c1 gE ?_
   refine sa ?_
   refine r1 (n:=(eH (nOf 1) (i+1) d).rows.length) (i:=jX d.rows i) (by omega) ?_ (by show (e9 R _).toOw=_;rw[Qk];rfl)
   iterate 2 refine sa ?_
   refine l1 L4 ?_
   refine cq (w_Cmp _ _) ?_
   refine sa ?_
   refine nl hK ?_
   refine AW.condS rfl (fun hb=>?_) (fun hb=>?_)
   ·rw[ai (bw hb)] at iO
    refine rq hx fun K hK=>?_
    iterate 2 refine sa ?_
    refine nl hK ?_
    refine rq hx fun K hK=>?_
    iterate 2 refine sa ?_
    refine nl hK ?_
    rw[bT]
    refine⟨i+1,?_,pX,by omega⟩
    rw[iO]
    exact wk1 h0 (hok:=hokn) (hv:=wg)
   ·rw[ah (dp hb)] at iO
    refine AW.skip (rq hx fun K hK=>?_)
    iterate 2 refine sa ?_
    refine nl hK ?_
    rw[bT]
    refine⟨i+1,?_,pX,by omega⟩
    rw[iO]
    exact wk1 h0 (hok:=hokn) (hv:=wg)
  ·refine AW.exit ?_
   have pX:i=m:=by have:=dp hb;omega
   subst pX
   have hlowm:jX d.rows i=jX d.rows d.rows.length:=by rw[hl]
   rw[hlowm]
   have hci:eH (nOf 1) i d=⟨d.rows.map (ue (nOf 1)),d.gk,d.gc,d.n,d.piv,d.most⟩:=by rw[←hl];exact xF _ _
   rw[hci] at xB Dl hdi
   have hGi:=Dl.hG
   -- rI goal
   refine rsd [28] hx fun K hK=>?_
   iterate 4 refine sa ?_
   refine c1 ms.pc ?_
   refine cq (Gi (-1) (by omega)) ?_
   refine i1 (i:=0) (n:=w) hw0 ?_
   refine t1 (Pt.el d.gc 0 (by rw[hS.lg];omega)) (Pt.el_set d.gc 0 (by rw[hS.lg];omega) _) ?_
   refine nl hK ?_
   have hDs:=Dl.setG (xB.dif hf) (d.gc.set 0 (nOf (-1))) (by rw[cY];exact hS.lg)
   have hDs:DAt ((G,dC ((cW aw).f (d.gc.set 0 (nOf (-1)))))::V) kd R G C w (co d):=hDs
   have hSs:cM (co d) w i:=by
    refine⟨xB.len,?_,xB.lc,xB.b,hS.p0,hS.p1,hS.m0,hS.m1⟩
    show (d.gc.set 0 (nOf (-1))).length=w
    rw[cY];exact hS.lg
   have Ef:∀k ds,k≠kd→k≠R→k≠G→(∀j,j<i→k≠C j)→vs.lookup k=some ds→((G,dC ((cW aw).f (d.gc.set 0 (nOf (-1)))))::V).lookup k=some ds:=fun k ds h1 h2 h3 h4 h=>al h3 (t8 k ds h1 h2 h3 h4 h)
   generalize (G,dC ((cW aw).f (d.gc.set 0 (nOf (-1)))))::V=W at hDs Ef ⊢
   have hdW:=hDs.hd
   have hms:0<(co d).rows.length:=by rw[hSs.len];omega
   have mF:jX d.rows d.rows.length<i:=by
    rcases sd i with e|e
    ·omega
    ·have:jX d.rows i<i:=by
      have h3:∀n,0<n→jX d.rows n<n:=by
       intro n hn
       obtain⟨n,rfl⟩:∃n',n=n'+1:=⟨n - 1,by omega⟩
       unfold jX
       have:=Ip d.rows n
       split <;> omega
      exact h3 i e
     omega
   have hra:(co d).rows[jX d.rows d.rows.length]? =some (co d).rows[jX d.rows d.rows.length]! :=wi (by rw[hSs.len];exact mF)
   have SZ:=IG (lv:=lv) (N:=N) hDs (hSs.dif hf) hra hw0 (hSs.b _ mF) hw (by rw[hSs.len];exact hm) ⟨hSs.p0,hSs.p1⟩ ⟨hSs.m0,hSs.m1⟩
   obtain⟨Rg,_⟩:=hSs.pivot mF hw0
   have hov1:=Dd (vs:=vs) (vsX:=W) hf Rg FQ Ef
   have Qi:=tC _ Rg
   have uN:jO d=(let p:=dP (co d) (jX d.rows d.rows.length) 0;if p.1≠0 then p else let q:=aS p.2;if q.1.2≠0∨bD q.2.gk<0 then (q.1.2,q.2) else if dm q.2.rows 0<0 then (0,q.2) else match yh q.2.rows[(dm q.2.rows 0).toNat]!.c with|none=>(0,q.2)|some s=>dP q.2 (dm q.2.rows 0).toNat s):=rfl
   have An:=An _ rfl
   generalize dP (co d) (jX d.rows d.rows.length) 0=q at SZ Rg hov1 Qi uN An
   dsimp only at uN
   refine AW.seq (rs hx fun K hK=>?_)
   iterate 2 refine sa ?_
   refine q1 (sHC SZ rfl (.inl (by kernel_rfl))) ?_
   refine sa ?_
   refine nl hK ?_
   refine rs hx fun K hK=>?_
   iterate 2 refine sa ?_
   refine nl hK ?_
   refine AW.condS rfl (fun hb=>?_) (fun hb=>?_)
   ·have hq:q.1≠0:=bw hb
    rw[ai hq] at uN
    refine rs hx fun K hK=>?_
    iterate 2 refine sa ?_
    refine nl hK ?_
    exact AW.ret (RV h0 uN Qi (ax _) hov1)
   have hq0:q.1=0:=by have:=dp hb;simpa using this
   rw[ah (fun e=>e hq0)] at uN
   have An:=An hq0
   refine AW.skip ?_
   -- improving
   have pX:=Hg (lv:=lv) (N:=N) Dk (Rg.at hf (vs:=W)) hf Rg hw hm
   obtain⟨Hh,hmr,hnr,FN,OI⟩:=Rg.improve ((q.2.most - q.2.piv).toNat+1)
   change cM (aS q.2).2 w i at Hh
   have hout3:∀k ds,k≠kd→k≠R→k≠G→(∀j,j<i→k≠C j)→vs.lookup k=some ds→(ov kd R G C w q.2 W).lookup k=some ds:=fun k ds h1 h2 h3 h4 h=>Ox Rg h1 h2 h3 h4 (Ef k ds h1 h2 h3 h4 h)
   have S3:=Dd (vs:=vs) (vsX:=ov kd R G C w q.2 W) hf Hh FQ hout3
   have hokr:=tC _ Hh
   generalize aS q.2=r at pX Hh S3 hokr uN An
   have hDr:=Hh.at hf (vs:=ov kd R G C w q.2 W)
   have hdr:=hDr.hd
   refine AW.seq (rs hx fun K hK=>?_)
   refine sa ?_
   refine q1 (sHC pX rfl (.inl (by kernel_rfl))) ?_
   iterate 5 refine sa ?_
   refine nl hK ?_
   generalize hX:ov kd R G C w r.2 (ov kd R G C w q.2 W)=X at hDr hdr S3 ⊢
   refine rs hx fun K hK=>?_
   iterate 3 refine sa ?_
   by_cases he:r.1.2≠0
   ·have e1:decide (r.1.2≠0)=true:=aA he
    iterate 7 refine gn e1 ?_
    refine s1 (d:=dB true) (oU e1) ?_
    refine nl hK ?_
    rw[ai (.inl he)] at uN
    refine AW.condT rfl rfl (rs hx fun K hK=>?_)
    iterate 2 refine sa ?_
    refine nl hK ?_
    exact AW.ret (RV h0 uN hokr (ax _) S3)
   have e1:decide (r.1.2≠0)=false:=a8 he
   iterate 4 refine ga e1 ?_
   refine l1g ms.pk e1 ?_
   refine cqg (yJ _) e1 ?_
   refine ga e1 ?_
   refine s1 (d:=dB (decide (bD r.2.gk<0))) (l6 e1) ?_
   refine nl hK ?_
   have he0:r.1.2=0:=BX.1 he
   refine AW.condS rfl (fun hb=>?_) (fun hb=>?_)
   ·rw[ai (.inr (bw hb))] at uN
    refine rs hx fun K hK=>?_
    iterate 2 refine sa ?_
    refine nl hK ?_
    exact AW.ret (RV h0 uN hokr (ax _) S3)
   rw[ah (by rintro (e|e);exact he e;exact dp hb e)] at uN
   have An:=An he0
   refine AW.skip ?_
   -- x(0)
   have hfd:=MZ (lv:=lv) (N:=N) (v:=0) hDr (by rw[Hh.len];exact hm)
   refine AW.seq (rs hx fun K hK=>?_)
   refine sa ?_
   refine q1 (sHC hfd rfl (.inl (by kernel_rfl))) ?_
   refine sa ?_
   refine nl hK ?_
   refine rs hx fun K hK=>?_
   iterate 2 refine sa ?_
   refine nl hK ?_
   refine AW.condS rfl (fun hb=>?_) (fun hb=>?_)
   ·have vI:0≤dm r.2.rows 0:=bw hb
    rw[ah (by omega)] at uN
    obtain⟨a,ha,Qu⟩:∃a:Nat,a<i∧dm r.2.rows 0=(a:Int):=by
     have Th:=Hh.len
     unfold dm at vI ⊢
     cases Qo:r.2.rows.findIdx? fun r=>decide (r.b=0) with
     |none=>rw[Qo] at vI;exact absurd vI (by decide)
     |some a=>exact⟨a,by have:=(oO.1 Qo).1;omega,rfl⟩
    have An:=An vI
    rw[Qu,show ((a:Int)).toNat=a by omega] at uN An
    cases S9:yh r.2.rows[a]!.c with
    |none=>exact absurd S9 An
    |some sN=>
    rw[S9] at uN
    dsimp only at uN
    have hsw:sN<w:=by
     unfold yh at S9
     have:=(oO.1 S9).1
     rw[Hh.lc a ha] at this;exact this
    obtain⟨_,⟨F2,F2',e2,L2⟩,e3,ux,_,_,fI⟩:=hDr.row (i:=a) (by rw[Hh.len];exact ha)
    have hix:=HC.frz (hp:=⟨X,lv,N⟩) (Rv Ru (l:=r.2.rows[a]!.c) (by omega)) (ds:=[.ow (C a) 0 36 w,.e (.lit (.func (.func 107) #[] #[]))]) ⟨AR.list e3 ux,AR.data rfl,trivial⟩ rfl
    rw[SE,S9] at hix
    dsimp only at hix
    have hrb:r.2.rows[a]? =some r.2.rows[a]! :=wi (by rw[Hh.len];exact ha)
    have hpv2:=IG (lv:=lv) (N:=N) hDr (Hh.dif hf) hrb hsw (Hh.b a ha) hw (by rw[Hh.len];exact hm) ⟨Hh.p0,Hh.p1⟩ ⟨Hh.m0,Hh.m1⟩
    obtain⟨hSz,_⟩:=Hh.pivot ha hsw
    have hout4:∀k ds,k≠kd→k≠R→k≠G→(∀j,j<i→k≠C j)→vs.lookup k=some ds→X.lookup k=some ds:=fun k ds h1 h2 h3 h4 h=>by rw[←hX];exact Ox Hh h1 h2 h3 h4 (hout3 k ds h1 h2 h3 h4 h)
    have hov3:=Dd (vs:=vs) (vsX:=X) hf hSz FQ hout4
    have hokz:=tC _ hSz
    generalize dP r.2 a sN=z at hpv2 hSz hov3 hokz uN
    have zc:R<N:=Dk
    have heX:X.lookup R=some F2:=e2
    refine rs hx fun K hK=>?_
    iterate 3 refine sa ?_
    refine c1 gE ?_
    refine sa ?_
    refine r1 (n:=r.2.rows.length) (i:=a) (by rw[Hh.len];exact ha) ?_ (by show (e9 R _).toOw=_;rw[fI];rfl) (by show D.toOw (dI .i64 _)=_;rw[Qu];rfl)
    iterate 2 refine sa ?_
    refine c1 L2 ?_
    refine q1 (sHC hix rfl (.inl (by kernel_rfl))) ?_
    refine sa ?_
    refine nl hK ?_
    refine rs hx fun K hK=>?_
    iterate 3 refine sa ?_
    refine q1 (sHC hpv2 (by show [_,dI .i64 (dm r.2.rows 0),_]=_;rw[Qu];rfl) (.inl (by kernel_rfl))) ?_
    refine sa ?_
    refine nl hK ?_
    exact AW.ret (RV h0 uN hokz (ax _) hov3)
   ·have bI:dm r.2.rows 0<0:=by have:=dp hb;omega
    rw[ai bI] at uN
    refine AW.skip (rs hx fun K hK=>?_)
    refine sa ?_
    refine nl hK ?_
    exact AW.ret (RV h0 uN hokr (ax _) S3)
end
end
section
theorem xe(l:List Row)(w:Nat)(c:List Nu):∀k,(gJ l w c k).2.length=w
 |0=>by simp[gJ]
 |k+1=>by
  unfold gJ
  dsimp only
  split
  ·rw[uj];exact xe l w c k
  ·rw[cY];exact xe l w c k
section
variable {vs V V2:List (Nat×List D)} {lv:List (Nat×Nat×Nat×TypeId)} {N kd R G w m:Nat} {C:Nat→Nat} {d d':Dic}
theorem DAt.setGK(h:DAt V kd R G C w d)(hf:Dif d.rows.length kd R G C)(k:Nu)(c:List Nu)(hl:c.length=w):DAt ((G,dC ((cW aw).f c))::(kd,[e9 R d.rows]++aY k G w++[dI .i64 d.n,dI .i64 d.piv,dI .i64 d.most])::V) kd R G C w ⟨d.rows,k,c,d.n,d.piv,d.most⟩:=
 h.setDic hf ⟨d.rows,k,c,d.n,d.piv,d.most⟩ rfl hl (al hf.dG aa) aa fun j ds h1 h2 hj=>al h2 (al h1 hj)
theorem wF(hf:Dif m kd R G C)(hS:cM d w m)(h:DAt V2 kd R G C w d)(hr:∀k ds,k≠kd→(m≠0→k≠R)→k≠G→(∀j,j<m→k≠C j)→vs.lookup k=some ds→V2.lookup k=some ds):∀j ds,(ov kd R G C w d vs).lookup j=some ds→V2.lookup j=some ds:=
 DT (hS.dif hf) h (fun k ds h1 h2 h3 h4 h5=>hr k ds h1 (fun _=>h2) h3 (fun j hj=>h4 j (by rw[hS.len];exact hj)) h5) fun e ds h5=>by
  have hm:=hS.len
  rw[e] at hm
  simp only[I3] at hm
  exact hr R ds hf.dR.symm (fun hh=>absurd hm.symm hh) hf.RG (fun j hj=>by omega) h5
theorem DU(hS:cM d w m){k:Nat}{ds:List D}(h1:k≠kd)(h2:m≠0→k≠R)(h3:k≠G)(h4:∀j,j<m→k≠C j)(h:vs.lookup k=some ds):(ov kd R G C w d vs).lookup k=some ds:=by
 by_cases hm:m=0
 ·have hl:=hS.len
  have hr:d.rows=[]:=I4.1 (by omega)
  refine al h1 (al h3 ?_)
  rw[hr];exact h
 ·exact Ox hS h1 (h2 hm) h3 h4 h
theorem rtN {x:Cx}{tm:List (Nat×D)}{vs0:List (Nat×List D)}{lv0:List (Nat×Nat×Nat×TypeId)}{N0 M n2 q:Nat}{a:D}(h0:x.hp0=⟨vs0,lv0,N0⟩)(hM:N0≤M)(hok:cp ⟨V,lv,M⟩)(hN:M≤n2)(hv:∀j ds,V.lookup j=some ds→V2.lookup j=some ds)(hq:tm.lookup q=some a:=by exact rfl)(hd:a.idsB M=true:=by exact rfl):
  ∃tm',Wk x tm ⟨V2,lv,n2⟩ tm' ⟨V,lv,M⟩∧tN tbl [.tmp q] tm' ⟨V,lv,M⟩ a:=
 ⟨[(q,a)],wkS (by rw[h0];exact hM) hN hok hv (bF.nil.cons hq hd),⟨a,aa,rfl⟩⟩
theorem h_aim {c:List Nu}(Dk:R<N)(hD:DAt vs kd R G C w d)(hf:Dif m kd R G C)(hS:cM d w m)(hw:w≤1000000)(hm:m≤1000000)(hw0:0<w)(hc:c.length+1≤w):
  HC prog 45 [.pt kd 0,.e (slE aw c)] ⟨vs,lv,N⟩ (dI .i64 (mN d c).1) ⟨ov kd R (N+3) C w (mN d c).2 vs,lv,N+4⟩:=by
 refine HC.of (rs:=[.tmp 4]) tok func45 rfl rfl (a9 rfl) rfl (fun cx hx h0 hok=>?_)
 simp only[fC,Nat.reduceAdd,br]
 have hl:=hS.len
 have wn:=hD.hd
 have Gy:=hok.lt wn
 have TL:=hok.lt hD.hG
 have hGV:=hD.hG
 have OP:=hD.lG
 have hCN:∀j,j<m→C j<N:=fun j hj=>hok.lt (hD.hC j d.rows[j]! (wi (by omega)))
 have CY:Dif m kd R (N+3) C:=⟨hf.dR,by omega,by omega,fun i hi=>⟨(hf.C1 i hi).1,(hf.C1 i hi).2.1,by have:=hCN i hi;omega⟩,hf.C2⟩
 refine rs hx fun K hK=>?_
 refine sa ?_
 refine nl hK ?_
 refine rs hx fun K hK=>?_
 iterate 5 refine sa ?_
 refine c1 ms.pc ?_
 refine sa ?_
 refine q1 (sHC (xA hw) rfl (.inr ⟨by show N≤N+4;omega,fun j hj=>by have hj:j<N:=hj;exact (an (by omega)).trans (an (by omega))⟩)) ?_
 iterate 2 refine sa ?_
 refine v1 (ys:=aY (nOf 0) (N+3) w) (ms (R:=R) (G:=G) (w:=w) (d:=d)).pa (bS _ _ _) ((bS _ _ _).trans (bS d.gk G w).symm) rfl ?_
 refine nl hK ?_
 -- rI dictionary with rI goal 0
 obtain⟨dz,hdz⟩:∃dz:Dic,dz=⟨d.rows,nOf 0,List.replicate w (nOf 0),d.n,d.piv,d.most⟩:=⟨_,rfl⟩
 have hSz:cM dz w m:=by rw[hdz];exact⟨hl,by simp,hS.lc,hS.b,hS.p0,hS.p1,hS.m0,hS.m1⟩
 obtain⟨V0,FY⟩:∃V0,V0=(kd,[e9 R d.rows]++aY (nOf 0) (N+3) w++[dI .i64 d.n,dI .i64 d.piv,dI .i64 d.most])::(N,aY (nOf 0) (N+3) w)::(N+3,dC ((cW aw).f (List.replicate w (nOf 0))))::vs:=⟨_,rfl⟩
 have hDz:DAt V0 kd R (N+3) C w dz:=by
  rw[FY,hdz]
  refine⟨aa,fun fI=>al hf.dR.symm (al (by omega) (al (by omega) (hD.hR fI))),al (by omega) (al (by omega) aa),fun i r hr=>?_,by simp,hS.lC⟩
  have hi:=(fP.1 hr).1
  have hi:i<m:=by rw[←hl];exact hi
  have:=hCN i hi
  exact al (hf.C1 i hi).1 (al (by omega) (al (by omega) (hD.hC i r hr)))
 have hok0:cp ⟨V0,lv,N+4⟩:=by
  rw[FY]
  refine cp.consM ?_ (by omega) ?_
  ·refine cp.consM ?_ (by omega) (iX (by omega))
   exact cp.consM (hok.up (by omega)) (by omega) (ez _)
  ·exact r5 (d:=⟨d.rows,nOf 0,List.replicate w (nOf 0),d.n,d.piv,d.most⟩) (R:=R) (G:=N+3) (w:=w) (by omega) (by omega)
 have OK:∀k ds,k≠kd→(m≠0→k≠R)→k≠N+3→(∀j,j<m→k≠C j)→vs.lookup k=some ds→V0.lookup k=some ds:=fun k ds h1 h2 h3 h4 h=>by
  have:=hok.lt h
  rw[FY];exact al h1 (al (by omega) (al h3 h))
 rw[←FY]
 have tC:∀d2,cM d2 w m→cp ⟨ov kd R (N+3) C w d2 vs,lv,N+4⟩:=fun d2 h2=>Cq (hok.up (by omega)) (by omega) (by omega) (by omega) fun j hj=>by have:=hCN j (by rw[←h2.len];exact hj);omega
 -- rI rows
 refine AW.seq (rs hx fun K hK=>?_)
 have hdz0:=hDz.hd
 iterate 3 refine sa ?_
 refine c1 gE ?_
 refine Og (R:=R) (l:=dz.rows) rfl ?_
 refine sa ?_
 refine nl hK ?_
 rw[hSz.len]
 refine AW.block (AW.loopW (fun i:Nat=>[(0,.pt kd 0),(1,.e (slE aw c)),(23,dI .i64 m),(24,dI .i64 i)]) (fun i=>⟨ov kd R (N+3) C w (eH (nOf 0) i dz) vs,lv,N+4⟩) (fun i=>i≤m) (fun i=>m - i) 0 ?_ (cr _) ?_)
 ·rw[EF]
  exact wk1 h0 (hok:=tC dz hSz) (hv:=wF CY hSz hDz OK)
 ·intro i hi
  have xB:=hSz.colsI (nOf 0) hi
  have Dl:=xB.at CY (vs:=vs)
  have ob:=tC _ xB
  have t8:∀k ds,k≠kd→(m≠0→k≠R)→k≠N+3→(∀j,j<m→k≠C j)→vs.lookup k=some ds→(ov kd R (N+3) C w (eH (nOf 0) i dz) vs).lookup k=some ds:=fun k ds h1 h2 h3 h4 h=>DU xB h1 h2 h3 h4 h
  have hzl:=hSz.len
  generalize hV:ov kd R (N+3) C w (eH (nOf 0) i dz) vs=V at Dl ob t8 ⊢
  have hdi:=Dl.hd
  have hli:=xB.len
  refine rs hx fun K hK=>?_
  refine sa ?_
  refine nl hK ?_
  refine AW.seq (AW.condS rfl (fun hb=>?_) (fun hb=>?_))
  ·have pX:i<m:=by have:=bw hb;omega
   have JI:(eH (nOf 0) i dz).rows[i]! =dz.rows[i]! :=Hn (by omega)
   obtain⟨⟨F1,F1',e1,L1⟩,⟨F2,F2',e2,L2⟩,e3,ux,_,_,fI⟩:=Dl.row (i:=i) (by omega)
   have Ti:=ob.lt e1
   have hk3:=ob.lt e3
   rw[JI] at e3 L1 ux
   refine AW.skip (AW.seq (AW.block (rs hx fun K hK=>?_)))
   iterate 2 refine sa ?_
   refine nl hK ?_
   refine rqd [28] hx fun K hK=>?_
   iterate 3 refine sa ?_
   refine c1 gE ?_
   refine sa ?_
   refine r1 (n:=(eH (nOf 0) i dz).rows.length) (i:=i) (by omega) ?_ (by show (e9 R _).toOw=_;rw[fI];rfl)
   iterate 2 refine sa ?_
   refine c1 L2 ?_
   refine cq (Gi 0 (by omega)) ?_
   refine i1 (i:=0) (n:=w) hw0 ?_
   refine t1 (Pt.el dz.rows[i]!.c 0 (by omega)) (Pt.el_set dz.rows[i]!.c 0 (by omega) _) ?_
   refine nl hK ?_
   have hdn:(⟨(eH (nOf 0) i dz).rows.set i ⟨(eH (nOf 0) i dz).rows[i]!.k,dz.rows[i]!.c.set 0 (nOf 0),(eH (nOf 0) i dz).rows[i]!.b⟩,dz.gk,dz.gc,dz.n,dz.piv,dz.most⟩:Dic)=eH (nOf 0) (i+1) dz:=by
    rw[JI];exact EG (by omega)
   have M1:=Dl.setC (xB.dif CY) (j:=i) (by omega) (dz.rows[i]!.c.set 0 (nOf 0)) (by rw[cY];exact ux)
   have M1:DAt ((C i,dC ((cW aw).f (dz.rows[i]!.c.set 0 (nOf 0))))::V) kd R (N+3) C w (eH (nOf 0) (i+1) dz):=by rw[←hdn];exact M1
   have hSn:=hSz.colsI (nOf 0) (show i+1≤m by omega)
   have wg:=wF (vs:=vs) CY hSn M1 fun k ds h1 h2 h3 h4 h=>al (h4 i pX) (t8 k ds h1 h2 h3 h4 h)
   have hokn:=tC _ hSn
   refine rq hx fun K hK=>?_
   iterate 2 refine sa ?_
   refine nl hK ?_
   rw[bT]
   exact⟨i+1,wk1 h0 (hok:=hokn) (hv:=wg),pX,by omega⟩
  ·refine AW.exit ?_
   have pX:i=m:=by have:=dp hb;omega
   subst pX
   have hci:eH (nOf 0) i dz=⟨d.rows.map (ue (nOf 0)),nOf 0,List.replicate w (nOf 0),d.n,d.piv,d.most⟩:=by
    rw[←hzl,xF,hdz]
   rw[hci] at xB Dl hdi
   -- rI numbers of rI program
   obtain⟨rz,hrz⟩:∃rz,rz=d.rows.map (ue (nOf 0)):=⟨_,rfl⟩
   rw[←hrz] at xB Dl hdi
   have hSk:∀k,cM ⟨rz,(gJ rz w c k).1,(gJ rz w c k).2,d.n,d.piv,d.most⟩ w i:=fun k=>⟨xB.len,xe rz w c k,xB.lc,xB.b,hS.p0,hS.p1,hS.m0,hS.m1⟩
   have haim:mN d c=(if f7 (gJ rz w c c.length).1 (gJ rz w c c.length).2 then 0 else 30,⟨rz,(gJ rz w c c.length).1,(gJ rz w c c.length).2,d.n,d.piv,d.most⟩):=by
    unfold mN mO
    rw[←hrz,hS.lg]
   refine AW.seq (rs hx fun K hK=>?_)
   iterate 3 refine sa ?_
   refine nl hK ?_
   refine AW.block (AW.loopW (fun k:Nat=>[(0,.pt kd 0),(39,.e (slE aw c)),(40,dI .i64 (c.length:Nat)),(41,dI .i64 k)]) (fun k=>⟨ov kd R (N+3) C w ⟨rz,(gJ rz w c k).1,(gJ rz w c k).2,d.n,d.piv,d.most⟩ vs,lv,N+4⟩) (fun k=>k≤c.length) (fun k=>c.length - k) 0 ?_ (cr _) ?_)
   ·exact wk1 h0 (hok:=tC _ (hSk 0)) (hv:=wF CY (hSk 0) Dl t8)
   ·intro k hk
    have CD:=hSk k
    have hDj:=CD.at CY (vs:=vs)
    have ob:=tC _ CD
    have t8:∀k' ds,k'≠kd→(i≠0→k'≠R)→k'≠N+3→(∀j,j<i→k'≠C j)→vs.lookup k'=some ds→(ov kd R (N+3) C w ⟨rz,(gJ rz w c k).1,(gJ rz w c k).2,d.n,d.piv,d.most⟩ vs).lookup k'=some ds:=fun k' ds h1 h2 h3 h4 h=>DU CD h1 h2 h3 h4 h
    have En:gJ rz w c (k+1)=(if 0≤dm rz ((k+1:Nat):Int) then (xf c[k]! rz[(dm rz ((k+1:Nat):Int)).toNat]!.k (gJ rz w c k).1,uk c[k]! rz[(dm rz ((k+1:Nat):Int)).toNat]!.c (-1) (gJ rz w c k).2) else ((gJ rz w c k).1,(gJ rz w c k).2.set (k+1) (jK (gJ rz w c k).2[k+1]! c[k]!))):=rfl
    have AU:=xe rz w c k
    clear hV OK ob
    have ob:=tC _ CD
    generalize ov kd R (N+3) C w ⟨rz,(gJ rz w c k).1,(gJ rz w c k).2,d.n,d.piv,d.most⟩ vs=W at hDj ob t8 ⊢
    have Qy:=hSk (k+1)
    refine rs hx fun K hK=>?_
    refine sa ?_
    refine nl hK ?_
    refine AW.seq (AW.condS rfl (fun hb=>?_) (fun hb=>?_))
    ·have hkc:k<c.length:=by have:=bw hb;omega
     have q8:0≤(k:Int)∧(k:Int)<((c.length:Nat):Int):=by omega
     refine AW.skip (AW.seq (AW.block (rs hx fun K hK=>?_)))
     refine sa ?_
     refine s1 (Pp q8 b9 aR) ?_
     refine s1 (d:=dG aw c[k]!) (jF (c:=aw) (l:=c) (n:=k) (o:=0) aR hkc (eY _ _ rfl)) ?_
     refine n1 ?_
     refine sa ?_
     refine z1 ?_
     refine nl hK ?_
     generalize c[k]! =ck at En ⊢
     generalize gJ rz w c k=g1 at En hDj AU CD t8
     have hup:∀(j:Nat) (ds:List D),W.lookup j=some ds→((N+4,dC (aw.f ck))::(N+4,dC zN)::W).lookup j=some ds:=fun j ds h=>by
      have:=ob.lt h
      exact al (by omega) (al (by omega) h)
     have TM:=hDj.up hup
     have hfd:=MZ (lv:=lv) (N:=N+4+1) (v:=((k+1:Nat):Int)) TM (by show rz.length≤_;have:=xB.len;dsimp only at this;omega)
     have hoX:cp ⟨(N+4,dC (aw.f ck))::(N+4,dC zN)::W,lv,N+4+1⟩:=cp.consM (cp.consM (ob.up (by omega)) (by omega) (ez _)) (by omega) (ez _)
     have Ef:∀k' ds,k'≠kd→(i≠0→k'≠R)→k'≠N+3→(∀j,j<i→k'≠C j)→vs.lookup k'=some ds→((N+4,dC (aw.f ck))::(N+4,dC zN)::W).lookup k'=some ds:=fun k' ds h1 h2 h3 h4 h=>hup k' ds (t8 k' ds h1 h2 h3 h4 h)
     have hcX:((N+4,dC (aw.f ck))::(N+4,dC zN)::W).lookup (N+4)=some (dC (aw.f ck)):=aa
     generalize (N+4,dC (aw.f ck))::(N+4,dC zN)::W=X at TM hfd hoX Ef hcX ⊢
     have hdX:=TM.hd
     have hGX:=TM.hG
     refine rs hx fun K hK=>?_
     iterate 3 refine sa ?_
     rw[bT]
     refine q1 (sHC hfd rfl (.inl (by kernel_rfl))) ?_
     refine sa ?_
     refine nl hK ?_
     refine rs hx fun K hK=>?_
     iterate 2 refine sa ?_
     refine nl hK ?_
     dsimp only
     refine AW.condS rfl (fun hb=>?_) (fun hb=>?_)
     ·have vI:0≤dm rz ((k+1:Nat):Int):=bw hb
      rw[ai vI] at En
      obtain⟨a,ha,Qu⟩:∃a:Nat,a<i∧dm rz ((k+1:Nat):Int)=(a:Int):=by
       have Th:=xB.len
       dsimp only at Th
       unfold dm at vI ⊢
       cases Qo:rz.findIdx? fun r=>decide (r.b=((k+1:Nat):Int)) with
       |none=>rw[Qo] at vI;exact absurd vI (by decide)
       |some a=>exact⟨a,by have:=(oO.1 Qo).1;omega,rfl⟩
      rw[Qu,show ((a:Int)).toNat=a by omega] at En
      have hra:=TM.row (i:=a) (by have:=xB.len;dsimp only at this ⊢;omega)
      obtain⟨_,_,e3,ux,_,⟨F5,F5',e5,L5⟩,fI⟩:=hra
      dsimp only at e3 ux L5 fI
      have hk5:=hoX.lt e5
      have hkX:=hoX.lt hdX
      have hkC:=CY.C1 a ha
      have hadd:=h_add (lv:=lv) (N:=N+4+1) (q:=ck) (xk:=rz[a]!.k) (but:=-1) hdX ms hGX TM.lG e3 ux CY.dG hkC.2.2 hkC.1 hw
      refine rqd [] hx fun K hK=>?_
      iterate 3 refine sa ?_
      refine l1 (Pt.idN ck) ?_
      iterate 3 refine sa ?_
      refine c1 gE ?_
      refine sa ?_
      refine r1 (n:=rz.length) (i:=a) (by have:=xB.len;dsimp only at this;omega) ?_ (by show (e9 R _).toOw=_;rw[fI];rfl) (by show D.toOw (dI .i64 _)=_;rw[Qu];rfl)
      refine sa ?_
      refine p1 L5 (bS _ _ _) ?_
      refine q1 (sHC hadd rfl (.inl (by kernel_rfl))) ?_
      refine nl hK ?_
      have M1:=TM.setGK (CD.dif CY) (xf ck rz[a]!.k g1.1) (uk ck rz[a]!.c (-1) g1.2) (by rw[uj];exact AU)
      refine rq hx fun K hK=>?_
      iterate 2 refine sa ?_
      refine nl hK ?_
      rw[bT]
      rw[En] at Qy
      refine⟨k+1,?_,hkc,by omega⟩
      rw[En]
      exact wk1 h0 (hok:=tC _ Qy) (hv:=wF CY Qy M1 fun k' ds h1 h2 h3 h4 h=>al h3 (al h1 (Ef k' ds h1 h2 h3 h4 h)))
     ·have bI:¬0≤dm rz ((k+1:Nat):Int):=dp hb
      rw[ah bI] at En
      refine rqd [66] hx fun K hK=>?_
      iterate 4 refine sa ?_
      refine c1 ms.pc ?_
      iterate 2 refine sa ?_
      rw[bT]
      iterate 4 refine sa ?_
      refine c1 ms.pc ?_
      iterate 2 refine sa ?_
      rw[bT]
      refine i1 (i:=k+1) (n:=w) (by omega) ?_
      refine l1 (Pt.el g1.2 (k+1) (by omega)) ?_
      refine l1 (Pt.idN ck) ?_
      refine cq (w_Add _ _) ?_
      refine i1 (i:=k+1) (n:=w) (by omega) ?_
      refine t1 (Pt.el g1.2 (k+1) (by omega)) (Pt.el_set g1.2 (k+1) (by omega) _) ?_
      refine nl hK ?_
      have M1:=TM.setG (CD.dif CY) (g1.2.set (k+1) (jK g1.2[k+1]! ck)) (by rw[cY];exact AU)
      refine rq hx fun K hK=>?_
      iterate 2 refine sa ?_
      refine nl hK ?_
      rw[bT]
      rw[En] at Qy
      refine⟨k+1,?_,hkc,by omega⟩
      rw[En]
      exact wk1 h0 (hok:=tC _ Qy) (hv:=wF CY Qy M1 fun k' ds h1 h2 h3 h4 h=>al h3 (Ef k' ds h1 h2 h3 h4 h))
    ·refine AW.exit ?_
     have hkc:k=c.length:=by have:=dp hb;omega
     subst hkc
     have hdX:=hDj.hd
     have hgd:=MY (lv:=lv) (N:=N+4) (k:=(gJ rz w c c.length).1) hDj.hG AU hw
     have wg:=wF (vs:=vs) CY CD hDj t8
     refine AW.seq (rs hx fun K hK=>?_)
     iterate 3 refine sa ?_
     refine p1 ms.pa (bS _ _ _) ?_
     refine q1 (sHC hgd rfl (.inl (by kernel_rfl))) ?_
     refine sa ?_
     refine nl hK ?_
     rw[haim]
     refine AW.condS rfl (fun hb=>?_) (fun hb=>?_)
     ·rw[ah (by simpa using hb)]
      refine rs hx fun K hK=>?_
      refine sa ?_
      refine nl hK ?_
      exact AW.ret (rtN h0 (tg N 4) (tC _ CD) (ax _) wg)
     ·rw[ai (by simpa using hb)]
      refine AW.skip (rs hx fun K hK=>?_)
      refine sa ?_
      refine nl hK ?_
      exact AW.ret (rtN h0 (tg N 4) (tC _ CD) (ax _) wg)
end
end
section
theorem HC.conv {P:Program}{f:FuncId}{ds ds':List D}{hp hp':Hp}{d:D}(hl:ds'.length=ds.length)(hr:∀(g:Gh) (w:World) (j:Nat) (a b:D) (v:Value),ds[j]? =some a→ds'[j]? =some b→aD hp g w a v→aD hp g w b v)(hc:HC P f ds' hp d hp'):HC P f ds hp d hp':=by
 refine⟨hc.1,fun B g w vs pW hsz cQ=>hc.2 B g w vs pW (by omega) fun j e u he hu=>?_⟩
 have hj:j<ds.length:=by rw[←hl];exact (fP.1 he).1
 exact hr g w j ds[j] e u (cH hj) he (cQ j ds[j] u (cH hj) hu)
theorem Oo {hp:Hp}{g:Gh}{w:World}{f:FuncId}{v:Value}(h:aD hp g w (.e (.lit (.func (.func f) #[] #[]))) v):aD hp g w (.fn f []) v:=by
 have h2:=h.lit
 subst h2
 exact .fn f [] (fun k hk=>absurd hk (qI))
section
variable {vs V V2:List (Nat×List D)} {lv:List (Nat×Nat×Nat×TypeId)} {N kd R G w m:Nat} {C:Nat→Nat} {d:Dic}
theorem KP {fo ft:FuncId}{ko kt:List Nat}{of:Row→Nu}{ot:Nat→Int}{nn:Nat}(hD:DAt vs kd R G C w d)(hS:cM d w m)(hm:m≤1000000)(Qj:d.n=(nn:Int))(FP:nn≤1000000)
  (hko:∀k,k∈ko→k<N) (hkt:∀k,k∈kt→k<N) (hot2:∀v,-2≤ot v∧ot v≤2)
  (hof:∀(V2:List (Nat×List D)) (FI:List (Nat×Nat×Nat×TypeId)) (M i:Nat),(∀k ds,vs.lookup k=some ds→V2.lookup k=some ds)→i<m→HC prog fo ([.ag (iS C w i d.rows[i]!)]++ko.map fun k=>.pt k 0) ⟨V2,FI,M⟩ (dG aw (of d.rows[i]!)) ⟨V2,FI,M⟩)
  (hot:∀(V2:List (Nat×List D)) (FI:List (Nat×Nat×Nat×TypeId)) (M v:Nat),(∀k ds,vs.lookup k=some ds→V2.lookup k=some ds)→HC prog ft ([dI .i64 v]++kt.map fun k=>.pt k 0) ⟨V2,FI,M⟩ (dI .i64 (ot v)) ⟨V2,FI,M⟩):
  HC prog 47 [.pt kd 0,.fn fo ko,.fn ft kt] ⟨vs,lv,N⟩ (.e (slE aw (cO d.rows nn of fun v=>nOf (ot v)))) ⟨vs,lv,N⟩:=by
 refine HC.of (rs:=[.tmp 6]) tok func47 rfl rfl (a9 rfl) rfl (fun cx hx h0 hok=>?_)
 simp only[fC,Nat.reduceAdd,br]
 have hl:=hS.len
 have wn:=hD.hd
 have Gy:=hok.lt wn
 obtain⟨f,hf⟩:∃f:Nat→Nu,f=fun j=>if 0≤dm d.rows ((j+1:Nat):Int) then of d.rows[(dm d.rows ((j+1:Nat):Int)).toNat]! else nOf (ot (j+1)):=⟨_,rfl⟩
 have hfv:cO d.rows nn of (fun v=>nOf (ot v))=(List.range nn).map f:=by rw[hf];rfl
 have hsk:∀M,N≤M→(D.fn fo ko).idsB M=true∧(D.fn ft kt).idsB M=true:=fun M hM=>⟨ba.2 fun k hk=>aA (by have:=hko k hk;omega),ba.2 fun k hk=>aA (by have:=hkt k hk;omega)⟩
 refine rs hx fun K hK=>?_
 refine s1 (d:=dO N aw ([]:List Nu)) (gF b9 aR) ?_
 refine nl hK ?_
 refine rs hx fun K hK=>?_
 refine s1 (d:=dO (N+1) aw ([]:List Nu)) (gF b9 aR) ?_
 refine nl hK ?_
 have S7:∀u:Nat,cp ⟨vs,(N+1,u,36,43)::lv,N+1+1⟩:=fun u=>by
  refine⟨fun j ds h=>?_,fun id e h=>?_⟩
  ·obtain⟨h1,h2⟩:=hok.var j ds h
   have h1:j<N:=h1
   exact⟨show j<N+1+1 by omega,ba.2 fun d hd=>D.idsC_le (show N≤N+1+1 by omega) (ba.1 h2 d hd)⟩
  ·by_cases hid:id=N+1
   ·show id<N+1+1;omega
   ·have:=hok.tok id e (by rw[←h];exact (an hid).symm)
    have:id<N:=this
    show id<N+1+1;omega
 refine AW.seq (rs hx fun K hK=>?_)
 refine sa ?_
 refine nl hK ?_
 refine AW.block (AW.loopW (fun u:Nat=>[(0,.pt kd 0),(1,.fn fo ko),(2,.fn ft kt),(7,dO (N+1) aw ((List.range u).map f)),(8,dI .i64 (u+1:Nat))]) (fun u=>⟨vs,(N+1,u,36,43)::lv,N+1+1⟩) (fun u=>u≤nn) (fun u=>nn - u) 0 ?_ (cr _) ?_)
 ·refine F7 (by rw[h0];show N≤N+1+1;omega) (ax _) (S7 0) (fun j ds h=>h) (fun j y h=>?_) (bF.cons (bF.cons (bF.cons (bF.cons (bF.cons bF.nil rfl rfl) rfl (aA (show N+1<N+1+1 by omega))) rfl (hsk _ (by omega)).2) rfl (hsk _ (by omega)).1) rfl (aA (show kd<N+1+1 by omega)))
  by_cases hj:j=N+1
  ·subst hj
   rw[←h]
   exact aa.trans aa.symm
  ·have h1:lv.lookup j=some y:=by rw[←h];exact (an hj).symm
   have h2:j<N:=hok.tok j y h1
   exact (an hj).trans ((an (show j≠N by omega)).trans h1)
 ·intro u hu
  have Qm:((List.range u).map f).length=u:=by simp
  refine AW.seq (rs hx fun K hK=>?_)
  iterate 4 refine sa ?_
  refine c1 dic_n ?_
  rw[Qj]
  refine sa ?_
  refine nl hK ?_
  refine AW.condS rfl (fun hb=>?_) (fun hb=>?_)
  ·have hun:u<nn:=by have:=bw hb;omega
   refine AW.skip ?_
   have hfd:=MZ (lv:=(N+1,u,36,43)::lv) (N:=N+1+1) (v:=((u+1:Nat):Int)) hD (by omega)
   have ru:(List.range (u+1)).map f=(List.range u).map f++[f u]:=by rw[vL,iP];rfl
   have hfu:f u=if 0≤dm d.rows ((u+1:Nat):Int) then of d.rows[(dm d.rows ((u+1:Nat):Int)).toNat]! else nOf (ot (u+1)):=by rw[hf]
   have SV:∀{tm:List (Nat×D)} {vX:List (Nat×List D)} {n2:Nat},(∀j ds,vs.lookup j=some ds→vX.lookup j=some ds)→N+1+1≤n2→tm.lookup 0=some (.pt kd 0)→tm.lookup 1=some (.fn fo ko)→tm.lookup 2=some (.fn ft kt)→tm.lookup 7=some (dO (N+1) aw ((List.range u).map f++[f u]))→tm.lookup 8=some (dI .i64 ((u+1+1:Nat):Int))→
     Wk cx tm ⟨vX,(N+1,((List.range u).map f++[f u]).length,36,43)::(N+1+1,1,36,43)::(N+1,u,36,43)::lv,n2⟩ [(0,.pt kd 0),(1,.fn fo ko),(2,.fn ft kt),(7,dO (N+1) aw ((List.range (u+1)).map f)),(8,dI .i64 (u+1+1:Nat))] ⟨vs,(N+1,u+1,36,43)::lv,N+1+1⟩:=fun hv hn a b c e g=>by
    rw[ru]
    refine F7 (by rw[h0];show N≤N+1+1;omega) hn (S7 (u+1)) hv (fun j y h=>?_) (bF.cons (bF.cons (bF.cons (bF.cons (bF.cons bF.nil g rfl) e (aA (show N+1<N+1+1 by omega))) c (hsk _ (by omega)).2) b (hsk _ (by omega)).1) a (aA (show kd<N+1+1 by omega)))
    by_cases hj:j=N+1
    ·subst hj
     have h1:some (u+1,36,43)=some y:=by rw[←h];exact aa.symm
     rw[←h1]
     exact aa.trans (by rw[cD,Qm];rfl)
    ·have h1:lv.lookup j=some y:=by rw[←h];exact (an hj).symm
     have h2:j<N:=hok.tok j y h1
     exact (an hj).trans ((an (show j≠N+1+1 by omega)).trans ((an hj).trans h1))
   refine AW.seq (AW.block (rs hx fun K hK=>?_))
   iterate 2 refine sa ?_
   refine q1 (sHC hfd rfl (.inl (by kernel_rfl))) ?_
   refine sa ?_
   refine nl hK ?_
   refine rs hx fun K hK=>?_
   iterate 2 refine sa ?_
   refine nl hK ?_
   refine AW.condS rfl (fun hb=>?_) (fun hb=>?_)
   ·have vI:0≤dm d.rows ((u+1:Nat):Int):=bw hb
    rw[ai vI] at hfu
    obtain⟨a,ha,Qu⟩:∃a:Nat,a<m∧dm d.rows ((u+1:Nat):Int)=(a:Int):=by
     unfold dm at vI ⊢
     cases Qo:d.rows.findIdx? fun r=>decide (r.b=((u+1:Nat):Int)) with
     |none=>rw[Qo] at vI;exact absurd vI (by decide)
     |some a=>exact⟨a,by have:=(oO.1 Qo).1;omega,rfl⟩
    rw[Qu,show ((a:Int)).toNat=a by omega] at hfu
    obtain⟨_,_,_,_,⟨F5,F5',e5,L5⟩,_,fI⟩:=hD.row (i:=a) (by omega)
    have hk5:=hok.lt e5
    refine rq hx fun K hK=>?_
    iterate 5 refine sa ?_
    refine c1 gE ?_
    refine sa ?_
    refine r1 (n:=d.rows.length) (i:=a) (by omega) ?_ (by show (e9 R _).toOw=_;rw[fI];rfl) (by show D.toOw (dI .i64 _)=_;rw[Qu];rfl)
    refine p1 L5 (tY _ _ _ _) ?_
    refine q1 (sHF (hof vs _ _ a (fun _ _ h=>h) ha) rfl) ?_
    rw[←hfu]
    refine s1 (lj [f u] aw b9 aR) ?_
    refine s1 (qN (id:=N+1) (l:=(List.range u).map f) (l':=[f u]) b9 aR (by rw[cD,Qm];show (u+1)*136≤140737488355328;omega) rfl rfl rfl rfl (by rw[Qm];exact (an (show N+1≠N+1+1 by omega)).trans aa)) ?_
    refine sa ?_
    refine nl hK ?_
    refine rq hx fun K hK=>?_
    iterate 3 refine sa ?_
    refine nl hK ?_
    rw[bT]
    exact⟨u+1,SV (fun _ _ h=>h) (by omega) rfl rfl rfl rfl rfl,hun,by omega⟩
   ·have bI:¬0≤dm d.rows ((u+1:Nat):Int):=dp hb
    rw[ah bI] at hfu
    refine rq hx fun K hK=>?_
    iterate 3 refine sa ?_
    refine q1 (sHF (hot vs _ _ (u+1) (fun _ _ h=>h)) rfl) ?_
    refine cq (Gi (ot (u+1)) (hot2 _)) ?_
    rw[←hfu]
    refine s1 (lj [f u] aw b9 aR) ?_
    refine s1 (qN (id:=N+1) (l:=(List.range u).map f) (l':=[f u]) b9 aR (by rw[cD,Qm];show (u+1)*136≤140737488355328;omega) rfl rfl rfl rfl (by rw[Qm];exact (an (show N+1≠N+1+1 by omega)).trans aa)) ?_
    refine sa ?_
    refine nl hK ?_
    refine rq hx fun K hK=>?_
    iterate 3 refine sa ?_
    refine nl hK ?_
    rw[bT]
    exact⟨u+1,SV (fun _ _ h=>h) (by omega) rfl rfl rfl rfl rfl,hun,by omega⟩
  ·refine AW.exit ?_
   have hun:u=nn:=by have:=dp hb;omega
   refine rs hx fun K hK=>?_
   iterate 2 refine sa ?_
   refine nl hK ?_
   refine AW.ret ?_
   rw[hfv,hun]
   exact⟨[(6,D.ex (dO (N+1) aw ((List.range nn).map f)))],F7 (by rw[h0];exact ax N) (show N≤N+1+1 by omega) hok (fun j ds h=>h) (fun j y h=>(an (by have h2:j<N:=hok.tok j y h;omega)).trans h) (bF.consX bF.nil rfl rfl),⟨_,aa,rfl⟩⟩
end
end
section
section
variable {P:Program} {tb:TypeId→Option TyE} {dr:Bool} {ty:TypeId} {ev:Operand→D} {hp:Hp} {t:TypeId} {i:TyE} {x:Operand} {xs:List E} {off:Nat} {e:E}
theorem T_ldX(he:xs[off]? =some e)(ht:tb t=some i)(hg:i.ty.agg=false:=by exact rfl)(hx:ev x=.fp xs off:=by exact rfl):AVC P tb dr (.load t x) ty ev hp (Kq (.e e) hp):=by
 rw[ri,hx,D6,ht]
 simp only[hg]
 refine⟨(fP.1 he).1,?_⟩
 rw[show xs.getD off .any=e by rw[u6,he];rfl]
 exact Kq.here _ _
theorem AR.ptf {k:Nat}{ds:List D}{es:List E}(hv:hp.vars.lookup k=some ds)(hl:es.length=ds.length)(ha:∀(j:Nat) (d:D) (e:E),ds[j]? =some d→es[j]? =some e→AR hp d (.e e)):AR hp (.pt k 0) (.fp es 0):=by
 intro B g w v hr hd
 obtain⟨h1,h2,h3,cs,tt,h4,h5,h6⟩:=hr.var k ds hv
 cases hd with
 |pt _ _ hk=>
  have h0:(⟨g.μ k,0,none⟩:Addr).add 0=⟨g.μ k,0,none⟩:=by rw[Addr.add_lit]
  have:=aD.fp (hp:=⟨[],[],0⟩) (g:=⟨fun _=>0,fun _=>default,Fv hp g⟩) (w:=w) es 0 ⟨g.μ k,0,none⟩ (oR.1 h4).1 fun j e he=>?_
  ·rw[h0] at this;exact this
  ·have hj:j<ds.length:=by rw[←hl];exact (fP.1 he).1
   have hjc:j<cs.size:=by omega
   obtain⟨h7,h8⟩:=h6 j cs[j] (te hjc)
   have h9:=ha j ds[j] e (cH hj) he B g w cs[j] hr (h8 ds[j] (cH hj))
   refine⟨cs[j],?_,fun hf=>hf.2 k ds hv (by rw[gi]),?_⟩
   ·rw[Addr.add_lit]
    simp[World.cell?,h4,te hjc]
   ·cases h9 with
    |e _ _ h=>exact h
end
def K6(d:Dic):List E:=[.any]++(aw.f d.gk++[slE aw d.gc])++[.lit (.int .i64 d.n),.lit (.int .i64 d.piv),.lit (.int .i64 d.most)]
theorem IP(a:Nu):(aw.f a).length=36:=by rw[aw.h];rfl
theorem dicE_c(d:Dic):(K6 d)[0+1+36]? =some (slE aw d.gc):=by
 have:=IP d.gk
 unfold K6
 rw[AG (by simp[this]),qJ (by simp),show (0+1+36 - [E.any].length)=(aw.f d.gk).length by rw[this];rfl,qJ (by omega),zq]
 rfl
theorem dicE_n(d:Dic):(K6 d)[0+38]? =some (.lit (.int .i64 d.n)):=by
 have:=IP d.gk
 unfold K6
 rw[qJ (by simp[this])]
 simp[this]
theorem PJ {d:Dic}{nn w:Nat}(hl:d.gc.length=w)(Qj:d.n=(nn:Int))(hw:nn+1≤w)(hw2:w≤1000000):
  aq prog 44 [.fp (K6 d) 0] (.own 43 36 (bR d nn).length ((bR d nn).flatMap aw.f)):=by
 refine bh (rs:=[.tmp 2]) (fun cx hx h0=>?_) func44
 obtain⟨l,MQ⟩:∃l:List Nu,l=d.gc.drop (nn+1):=⟨_,rfl⟩
 have hlen:l.length=w - (nn+1):=by rw[MQ,fa,hl]
 have MM:bR d nn=l.map eZ:=by rw[MQ];rfl
 refine rs hx fun K hK=>?_
 refine s1 (d:=dO 0 aw ([]:List Nu)) (gF b9 aR) ?_
 refine nl hK ?_
 refine rs hx fun K hK=>?_
 refine s1 (d:=dO 1 aw ([]:List Nu)) (gF b9 aR) ?_
 refine nl hK ?_
 refine AW.seq (rsd [] hx fun K hK=>?_)
 iterate 4 refine sa ?_
 refine s1 (T_ldX (dicE_c d) tbI) ?_
 iterate 3 refine sa ?_
 refine s1 (T_ldX (dicE_n d) tbI) ?_
 rw[Qj]
 refine sa ?_
 rw[bT]
 have hsub:yR d.gc ((nn+1:Nat):Int) (d.gc.length:Int)=l:=by
  rw[MQ]
  unfold yR
  rw[show (((nn+1:Nat):Int)).toNat=nn+1 by omega,g9 (by rw[fa];omega)]
 refine s1 (d:=dL aw (yR d.gc ((nn+1:Nat):Int) (d.gc.length:Int))) (T_sl (c:=aw) (l:=d.gc) (a:=((nn+1:Nat):Int)) (b:=(d.gc.length:Int)) (by omega) b9 aR) ?_
 rw[hsub]
 refine nbr hK ?_
 refine AW.block (AW.loopW (fun u:Nat=>[(3,dO 1 aw ((l.take u).map eZ)),(16,dL aw l),(17,dI .i64 (l.length:Nat)),(18,dI .i64 u)]) (fun u=>⟨[],[(1,u,36,43)],2⟩) (fun u=>u≤l.length) (fun u=>l.length - u) 0 ?_ (cr _) ?_)
 ·exact F7 (by rw[h0];exact cr _) (ax _) ⟨fun _ _ h=>by simp at h,fun id e h=>by rcases qH.1 (bE h) with h2;simp at h2;show id<2;omega⟩ (fun _ _ h=>h) (fun j y h=>by
   by_cases hj:j=1
   ·subst hj;rw[←h];rfl
   ·exact absurd h (by rw[an hj];simp)) (bF.cons (bF.cons (bF.cons (bF.cons bF.nil rfl rfl) rfl rfl) rfl rfl) rfl rfl)
 ·intro u hu
  have Qm:((l.take u).map eZ).length=u:=by rw[bb,eg];omega
  refine rar hx ?_
  refine AW.seq (AW.condS rfl (fun hb=>?_) (fun hb=>?_))
  ·have MI:u<l.length:=by have:=bw hb;omega
   have q8:0≤(u:Int)∧(u:Int)<((l.length:Nat):Int):=by omega
   refine AW.skip (AW.seq (AW.block (rs hx fun K hK=>?_)))
   refine sbr ?_
   refine s1 (d:=dG aw l[u]!) (jF (c:=aw) (l:=l) (n:=u) (o:=0) aR MI (eY _ _ rfl)) ?_
   refine n1 ?_
   refine z1 ?_
   refine nl hK ?_
   refine rq hx fun K hK=>?_
   refine sa ?_
   refine l1 (Pt.idN _) ?_
   refine cq (J4 _) ?_
   refine s1 (lj [eZ l[u]!] aw b9 aR) ?_
   have Cu:(l.take u).map eZ++[eZ l[u]!]=(l.take (u+1)).map eZ:=by
    rw[AE,iP,bL l u MI,cH MI]
    rfl
   refine s1 (qN (id:=1) (l:=(l.take u).map eZ) (l':=[eZ l[u]!]) b9 aR (by rw[cD,Qm];show (u+1)*136≤140737488355328;omega) rfl rfl rfl rfl (by rw[Qm];rfl)) ?_
   rw[Cu]
   refine nbr hK ?_
   refine rbr hx ?_
   rw[bT]
   have hlu1:((l.take (u+1)).map eZ).length=u+1:=by rw[←Cu,cD,Qm];rfl
   refine⟨u+1,F7 (by rw[h0];exact cr _) (show 2≤_ by decide) ⟨fun _ _ h=>by simp at h,fun id e h=>by rcases qH.1 (bE h) with h2;simp at h2;show id<2;omega⟩ (fun _ _ h=>by simp at h) (fun j y h=>?_) (bF.cons (bF.cons (bF.cons (bF.cons bF.nil rfl rfl) rfl rfl) rfl rfl) rfl rfl),MI,by omega⟩
   by_cases hj:j=1
   ·subst hj;rw[←h,hlu1];rfl
   ·exact absurd h (by rw[an hj];simp)
  ·refine AW.exit ?_
   have MI:u=l.length:=by have:=dp hb;omega
   refine rar hx ?_
   refine AW.ret ?_
   have wg:(l.take u).map eZ=bR d nn:=by rw[MI,List.take_length,MM]
   have JH:(bR d nn).length=u:=by rw[MM,bb,MI]
   rw[wg]
   refine od.own (id:=1) rfl ?_
   rw[JH];rfl
section
variable {vs:List (Nat×List D)} {lv:List (Nat×Nat×Nat×TypeId)} {N kd R G w m nn:Nat} {C:Nat→Nat} {d:Dic}
theorem pC {α:Type}{a b:List α}{j:Nat}{x:α}(h:(a++b)[j]? =some x):(j<a.length∧a[j]? =some x)∨(a.length≤j∧b[j - a.length]? =some x):=by
 rcases dX j a.length with h1|h1
 ·exact .inl ⟨h1,by rw[AG h1] at h;exact h⟩
 ·exact .inr ⟨h1,by rw[qJ h1] at h;exact h⟩
theorem AR.dic(hD:DAt vs kd R G C w d):AR ⟨vs,lv,N⟩ (.pt kd 0) (.fp (K6 d) 0):=by
 have hk:=IP d.gk
 refine AR.ptf hD.hd ?_ fun j x e hx he=>?_
 ·unfold m4 K6 aY
  simp[hk,eA]
 ·unfold m4 aY at hx
  unfold K6 at he
  rcases pC hx with⟨a1,hx⟩|⟨a1,hx⟩ <;> rcases pC he with⟨b1,he⟩|⟨b1,he⟩
  ·rcases pC hx with⟨a2,hx⟩|⟨a2,hx⟩ <;> rcases pC he with⟨b2,he⟩|⟨b2,he⟩
   ·obtain rfl:j=0:=by simp at a2;omega
    simp at hx he
    subst hx he
    intro B g w2 v hr hd
    refine .e _ _ (.any _ ?_)
    cases hl:d.rows with
    |nil=>rw[hl] at hd;exact (hd.lit▸rfl)
    |cons r l=>rw[hl] at hd;cases hd;rfl
   ·simp at a2 b2;omega
   ·simp at a2 b2;omega
   ·simp only[sb,I3] at hx he a2
    rcases pC hx with⟨a3,hx⟩|⟨a3,hx⟩ <;> rcases pC he with⟨b3,he⟩|⟨b3,he⟩
    ·unfold dC at hx
     rw[dV,he] at hx
     injection hx with hx
     subst hx
     exact AR.data (d:=.e e) rfl
    ·rw[eA] at a3;omega
    ·rw[eA] at a3;omega
    ·rw[eA] at a3 hx
     have h0:j - (0+1) - (aw.f d.gk).length=0:=by
      have:=(fP.1 hx).1
      simp at this;omega
     rw[h0] at hx he
     simp at hx he
     subst hx he
     exact AR.list hD.hG hD.lG
  ·simp[eA] at a1 b1;omega
  ·simp[eA] at a1 b1;omega
  ·have e1:(([e9 R d.rows]++(dC (aw.f d.gk)++[D.ow G 0 36 w])).length)=([E.any]++(aw.f d.gk++[slE aw d.gc])).length:=by simp[eA]
   rw[e1] at hx
   generalize j - ([E.any]++(aw.f d.gk++[slE aw d.gc])).length=q at hx he
   have hq:q=0∨q=1∨q=2:=by
    have:=(fP.1 he).1
    simp at this;omega
   rcases hq with rfl|rfl|rfl
   all_goals
    simp at hx he
    subst hx he
    exact AR.data (d:=dI .i64 _) rfl
theorem lit_Nu(l:List Nu):(l.flatMap aw.f).all E.isLit=true:=by
 rw[ba]
 intro x hx
 obtain⟨a,_,ha⟩:=List.mem_flatMap.1 hx
 have h2:∀y,y∈ap.f a.1.vN∨y∈ap.f a.1.vD→y.isLit=true:=by
  have h3:∀z:ao,∀y∈ap.f z,y.isLit=true:=fun z y hy=>by
   rcases vM.1 (show y∈[E.lit (.bool z.vBad),.lit (.bool z.vNeg)]++(cA 16 (cI .u32)).f z.vW from hy) with h|h
   ·simp at h;rcases h with rfl|rfl <;> rfl
   ·obtain⟨n,_,hn⟩:=List.mem_flatMap.1 (show y∈z.vW.toList.flatMap (cI .u32).f from h)
    rw[qH.1 hn];rfl
  rintro y (h|h)
  ·exact h3 _ y h
  ·exact h3 _ y h
 exact h2 x (vM.1 (show x∈ap.f a.1.vN++ap.f a.1.vD from ha))
theorem Qv(hD:DAt vs kd R G C w d)(Qj:d.n=(nn:Int))(hw:nn+1≤w)(hw2:w≤1000000)(hm:0<(bR d nn).length):
  HC prog 44 [.pt kd 0] ⟨vs,lv,N⟩ (.gw N 36 (bR d nn).length) ⟨(N,dC ((cW aw).f (bR d nn)))::vs,lv,N+1⟩:=
 HC.adopt (PJ hD.lG Qj hw hw2) (hp:=⟨vs,lv,N⟩) ⟨AR.dic hD,trivial⟩ hm (lit_Nu _)
end
end
section
theorem HC.weak {P:Program}{f:FuncId}{ds:List D}{hp:Hp}{d:D}{vars vars':List (Nat×List D)}{lv lv':List (Nat×Nat×Nat×TypeId)}{n n':Nat}(hc:HC P f ds hp d ⟨vars,lv,n⟩)(h0:hp.next≤n')
  (h:cp hp→cp ⟨vars',lv',n'⟩∧(∀j ds,vars'.lookup j=some ds→vars.lookup j=some ds)∧(∀j y,lv'.lookup j=some y→lv.lookup j=some y)∧d.idsB n'=true):HC P f ds hp d ⟨vars',lv',n'⟩:=by
 refine⟨hc.1,fun B g w vs hr hsz cQ=>(hc.2 B g w vs hr hsz cQ).mono ?_⟩
 obtain⟨hok,hv,hl,hd⟩:=h hr.ok
 rintro e w' ⟨v,g',rfl,pW,hM,hrd,hb,hF⟩
 have dM:∀id y,lv'.lookup id=some y→lv.lookup id=some y:=hl
 refine⟨v,g',rfl,⟨fun k ds hk=>?_,fun k k' a b hk wd he=>pW.inj k k' a b (hv k a hk) (hv k' b wd) he,fun id m e hi=>?_,fun id BH t t' b hi we=>pW.tinj id BH t t' b (dM _ _ hi) (dM _ _ we),pW.base,pW.fits⟩,
  ⟨hM.size,hM.cell,hM.forb,h0,hM.μ,fun id hid m e Qn=>hM.live id hid m e (dM id _ Qn),fun b hb hf=>⟨(hM.fr b hb hf).1,(hM.fr b hb hf).2.1,fun k ds hk=>(hM.fr b hb hf).2.2.1 k ds (hv k ds hk),fun id t hi=>(hM.fr b hb hf).2.2.2 id t (dM id _ hi)⟩,hM.szs⟩,Ea hrd hd rfl dM,hb,hF⟩
 ·obtain⟨_,h3,h4,cs,ty,h5,h6,h7⟩:=pW.var k ds (hv k ds hk)
  obtain⟨h1,h2⟩:=hok.var k ds hk
  exact⟨h1,h3,h4,cs,ty,h5,h6,fun j u hu=>⟨(h7 j u hu).1,fun d hd=>iC ((h7 j u hu).2 d hd) (ba.1 h2 d (dZ hd)) rfl dM⟩⟩
 ·obtain⟨_,us,h2,h3,h4⟩:=pW.tok id m e (dM _ _ hi)
  exact⟨hok.tok id _ hi,us,h2,h3,fun b hb=>⟨(h4 b hb).1,fun k ds hk=>(h4 b hb).2 k ds (hv k ds hk)⟩⟩
theorem resV {q:Nat}{tt:TypeId}{ti:TyE}{k:Nat}{F:List D}{vs:List (Nat×List D)}{lv:List (Nat×Nat×Nat×TypeId)}{N:Nat}{tm:List (Nat×D)}{k2:D→Prop}(ht:tbl tt=some ti)(hl:tm.lookup q=some (.pt k 0))(hv:vs.lookup k=some F)(hk:k<N)(hz:F.length=ti.size)(hg:ti.ty.agg=true)(h:k2 (.ag F)):tw tbl tm ⟨vs,lv,N⟩ (.cell q tt) k2:=by
 refine⟨.pt k 0,hl,⟨_,ht⟩,?_⟩
 rw[oq,ht]
 simp only[hv,hg]
 refine⟨hk,by omega,?_⟩
 rw[qS,g9 (by omega)]
 exact h
theorem HC.forget {P:Program}{f:FuncId}{ds:List D}{d:D}{vs vars:List (Nat×List D)}{lv:List (Nat×Nat×Nat×TypeId)}{N n:Nat}(hc:HC P f ds ⟨vs,lv,N⟩ d ⟨vars,lv,n⟩)(hv:∀j ds,j<N→vs.lookup j=some ds→vars.lookup j=some ds)(hd:d.idsB N=true):HC P f ds ⟨vs,lv,N⟩ d ⟨vs,lv,N⟩:=
 hc.weak (ax N) fun hok=>⟨hok,fun j ds h=>hv j ds (hok.lt h) h,fun _ _ h=>h,hd⟩
section
variable {vs:List (Nat×List D)} {lv:List (Nat×Nat×Nat×TypeId)} {N w i ks s:Nat} {C:Nat→Nat} {r:Row}
theorem rtN1 {x:Cx}{tm:List (Nat×D)}{pi vs2:List (Nat×List D)}{vs0:List (Nat×List D)}{lv0:List (Nat×Nat×Nat×TypeId)}{N0 M n2 q k:Nat}{a:Nu}(h0:x.hp0=⟨vs0,lv0,N0⟩)(hM:N0≤M)(hok:cp ⟨pi,lv,M⟩)(hN:M≤n2)(hv:∀j ds,pi.lookup j=some ds→vs2.lookup j=some ds)(hk:pi.lookup k=some (dC (aw.f a)))(hq:tm.lookup q=some (.pt k 0)):
  ∃tm',Wk x tm ⟨vs2,lv,n2⟩ tm' ⟨pi,lv,M⟩∧tN tbl [.cell q 43] tm' ⟨pi,lv,M⟩ (dG aw a):=
 ⟨[(q,.pt k 0)],wkS (by rw[h0];exact hM) hN hok hv (bF.nil.cons hq (aA (hok.lt hk))),resV aR aa hk (hok.lt hk) (iU a) rfl rfl⟩
theorem TJ:HC prog 48 ([.ag (iS C w i r)]++([]:List Nat).map fun k=>.pt k 0) ⟨vs,lv,N⟩ (dG aw r.k) ⟨vs,lv,N⟩:=by
 refine HC.forget (vars:=(N+1,dC (aw.f r.k))::vs) (n:=N+2) ?_ (fun j ds hj h=>al (by omega) h) (ez _)
 refine HC.of (rs:=[.cell 2 43]) tok func48 rfl rfl (a9 rfl) rfl (fun cx hx h0 hok=>?_)
 simp only[fC,l8,th,Nat.reduceAdd,br]
 refine rs hx fun K hK=>?_
 refine s1 (fQ (cs:=iS C w i r)) ?_
 refine n1 ?_
 refine nl hK ?_
 refine rs hx fun K hK=>?_
 iterate 2 refine sa ?_
 refine l1 (RX (C:=C) (w:=w) (j:=i) (r:=r)) ?_
 refine z1 ?_
 refine nl hK ?_
 refine AW.ret ?_
 exact rtN1 h0 (by omega) (cp.consM (hok.up (by omega)) (by omega) (ez _)) (ax _) (fun j ds h=>by
  rcases ce h with⟨rfl,rfl⟩|⟨hj,h⟩
  ·exact aa
  ·have:=hok.lt h
   exact al hj (al hj (al (by omega) h))) aa rfl
theorem TI(v:Nat):HC prog 49 ([dI .i64 v]++([]:List Nat).map fun k=>.pt k 0) ⟨vs,lv,N⟩ (dI .i64 0) ⟨vs,lv,N⟩:=by
 refine HC.of (rs:=[.tmp 2]) tok func49 rfl rfl (a9 rfl) rfl (fun cx hx h0 hok=>?_)
 simp only[fC,l8,th,Nat.reduceAdd,br]
 refine rs hx fun K hK=>?_
 refine sa ?_
 refine nl hK ?_
 refine rs hx fun K hK=>?_
 refine sa ?_
 refine nl hK ?_
 exact AW.ret (rt1 h0)
theorem TH(hs:vs.lookup ks=some [dI .i64 s])(hc:vs.lookup (C i)=some (dC ((cW aw).f r.c)))(hl:r.c.length=w)(hsw:s<w):HC prog 50 ([.ag (iS C w i r)]++[ks].map fun k=>.pt k 0) ⟨vs,lv,N⟩ (dG aw r.c[s]!) ⟨vs,lv,N⟩:=by
 refine HC.forget (vars:=(N+1,dC (aw.f r.c[s]!))::vs) (n:=N+2) ?_ (fun j ds hj h=>al (by omega) h) (ez _)
 refine HC.of (rs:=[.cell 3 43]) tok func50 rfl rfl (a9 rfl) rfl (fun cx hx h0 hok=>?_)
 simp only[fC,l8,iW,EV,nB,Nat.reduceAdd,br]
 have Ti:=hok.lt hs
 have zc:=hok.lt hc
 refine rs hx fun K hK=>?_
 refine s1 (fQ (cs:=iS C w i r)) ?_
 refine n1 ?_
 refine nl hK ?_
 refine rs hx fun K hK=>?_
 iterate 2 refine sa ?_
 refine c1 (Ml (C:=C) (w:=w) (j:=i) (r:=r)) ?_
 refine c1 (Pt.all (F:=[dI .i64 s])) ?_
 refine i1 hsw ?_
 refine l1 (Pt.el r.c s (by omega)) ?_
 refine z1 ?_
 refine nl hK ?_
 refine AW.ret ?_
 exact rtN1 h0 (by omega) (cp.consM (hok.up (by omega)) (by omega) (ez _)) (ax _) (fun j ds h=>by
  rcases ce h with⟨rfl,rfl⟩|⟨hj,h⟩
  ·exact aa
  ·have:=hok.lt h
   exact al hj (al hj (al (by omega) h))) aa rfl
theorem TG(v:Nat)(hs:vs.lookup ks=some [dI .i64 s]):HC prog 51 ([dI .i64 v]++[ks].map fun k=>.pt k 0) ⟨vs,lv,N⟩ (dI .i64 (if (v:Int)=(s:Int) then 1 else 0)) ⟨vs,lv,N⟩:=by
 refine HC.of (rs:=[.tmp 3]) tok func51 rfl rfl (a9 rfl) rfl (fun cx hx h0 hok=>?_)
 simp only[fC,l8,iW,EV,nB,Nat.reduceAdd,br]
 have Ti:=hok.lt hs
 refine rs hx fun K hK=>?_
 refine sa ?_
 refine nl hK ?_
 refine AW.seq (rs hx fun K hK=>?_)
 refine sa ?_
 refine c1 (Pt.all (F:=[dI .i64 s])) ?_
 refine sa ?_
 refine nl hK ?_
 refine AW.condS rfl (fun hb=>?_) (fun hb=>?_)
 ·rw[ai (bw hb)]
  refine rs hx fun K hK=>?_
  refine sa ?_
  refine nl hK ?_
  exact AW.ret (rt1 h0)
 ·rw[ah (dp hb)]
  refine AW.skip (rs hx fun K hK=>?_)
  refine sa ?_
  refine nl hK ?_
  exact AW.ret (rt1 h0)
end
end
def fm(c0:Int):Option (List am):=if 0≤c0∧c0≤1000000 then some (List.replicate c0.toNat (nv (nOf 0))) else none
theorem Uv(l:List Nu):(cW aw).f l=(cW ak).f (l.map nv):=by
 show l.flatMap aw.f=(l.map nv).flatMap ak.f
 rw[List.flatMap_map]
 rfl
theorem kU(l:List Nu):slE aw l=slE ak (l.map nv):=by
 unfold slE
 have:=Uv l
 rw[bb]
 show E.sl 36 l.length ((cW aw).f l)=E.sl 36 l.length ((cW ak).f (l.map nv))
 rw[this]
theorem nD {c0:Int}{r:List am}(h:fm c0=some r):aq prog 75 [dI .i64 c0] (dL ak r):=by
 unfold fm at h
 split at h
 rotate_left
 ·cases h
 rename_i hn
 injection h with h
 obtain⟨n,rfl⟩:∃n:Nat,c0=(n:Int):=⟨c0.toNat,by omega⟩
 have hr:slE ak r=slE aw (List.replicate n (nOf 0)):=by
  rw[kU,←h,Fa,show ((n:Int)).toNat=n by omega]
 show aq _ _ _ (.e (slE ak r))
 rw[hr]
 refine bh (rs:=[.tmp 2]) (fun cx hx h0=>?_) func75
 refine rs hx fun K hK=>?_
 refine s1 (d:=dO 0 aw ([]:List Nu)) (gF b9 aR) ?_
 refine nl hK ?_
 refine rs hx fun K hK=>?_
 refine cq (Gi 0 (by omega)) ?_
 refine s1 (lj [nOf 0] aw b9 aR) ?_
 refine sa ?_
 refine q1 (sHC (HC.args (ds:=[dO 1 aw [nOf 0],dI .i64 n]) (ds':=[.e (slE aw [nOf 0]),dI .i64 n]) ⟨Sy _,au _,trivial⟩ (KR (vs:=[]) (N:=2) (by omega))) rfl (.inr ⟨show 2≤4 by decide,fun j hj=>an (by have:j<2:=hj;omega)⟩)) ?_
 refine nbr hK ?_
 refine fzA aw 3 [2] (tJ ..).symm ?_ (all1 rfl)
 exact AW.ret (rv1)
end
end Go.Proofs.YtaedcknhkjpmlaaGreat
