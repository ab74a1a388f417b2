/-
  Lemmas, part 2. Conditions: none.
-/
import Derived.Test.YtgfcnncojhkcoaaGreatV1
import Derived.Laws.MakeOwn
import Derived.Laws.CopyRow
import Derived.Test.YtgfcnncojhkcoaaGreatProg
set_option linter.all false
set_option maxRecDepth 100000
set_option maxHeartbeats 4000000
namespace Go.Proofs.YtgfcnncojhkcoaaGreat
open Go.RowKit Go.IntKind Tryz
noncomputable section
section
def dC(es:List E):List D:=es.map D.e
theorem Oj(σ:Nat→Nat)(es:List E):(dC es).map (D.renC σ)=dC es:=by
 unfold dC;rw[ol];exact oE fun _ _=>rfl
theorem fH(es:List E):(dC es).length=es.length:=bS _
theorem AC {p:D→Bool}(h:∀e,p (.e e)=true)(es:List E):(dC es).all p=true:=by
 unfold dC;rw[A4];exact b7.2 fun e _=>h e
structure an {β:Type}(F:List E)(c':Cd β)(o:Nat)(b:β)(F':β→List E):Prop where
 le:o+c'.sz≤F.length
 g:(F.drop o).take c'.sz=c'.f b
 p:∀y,F.take o++c'.f y++F.drop (o+c'.sz)=F' y
section
variable {α β γ:Type} {F:List E}
theorem an.id(c:Cd α)(x:α):an (c.f x) c 0 x c.f:=
 ⟨by rw[c.h];omega,by rw[pQ,jc (by rw[c.h];exact aI _)],fun y=>by rw[EG,bE,AO (by rw[c.h];exact aI _),oN,tp]⟩
theorem an.comp {c1:Cd α}{c2:Cd β}{o1 o2:Nat}{b1:α}{b2:β}{F1:α→List E}{P2:β→List E}{P:β→α}(h1:an F c1 o1 b1 F1)(h2:an (c1.f b1) c2 o2 b2 P2)(hp:∀y,P2 y=c1.f (P y)):an F c2 (o1+o2) b2 (fun y=>F1 (P y)):=by
 have l1:=h1.le
 have l2:=h2.le
 rw[c1.h] at l2
 refine⟨by omega,?_,fun y=>?_⟩
 ·rw[←h2.g,←h1.g,←oi,GR,CY,tj (by omega)]
 ·rw[←h1.p (P y),←hp y,←h2.p y,←h1.g,CY,tj (by omega),List.take_add]
  have e:((F.drop o1).take c1.sz).drop (o2+c2.sz)++F.drop (o1+c1.sz)=F.drop (o1+o2+c2.sz):=by
   have e1:F.drop (o1+c1.sz)=(F.drop o1).drop c1.sz:=(oi ..).symm
   rw[e1,←OJ (by rw[eA,f8];omega),th,oi,oL]
  rw[←e]
  simp only[dQ]
theorem an.of {c':Cd β}{o:Nat}{b:β}{F':β→List E}(A C:List E)(hA:A.length=o)(hF:F=A++(c'.f b++C))(hp:∀y,F' y=A++(c'.f y++C)):an F c' o b F':=by
 subst hA hF
 refine⟨by simp[c'.h],?_,fun y=>?_⟩
 ·rw[qC,yA (by rw[c'.h];exact aI _),jc (by rw[c'.h];exact aI _)]
 ·rw[hp,oC,←oi,qC,←c'.h b,qC,dQ]
theorem an.seq [Inhabited α](c:Cd α)(l:List α)(i:Nat)(h:i<l.length):an (l.flatMap c.f) c (i*c.sz) l[i]! (fun y=>(l.set i y).flatMap c.f):=by
 have hl:(l.flatMap c.f).length=l.length*c.sz:=iu c.f c.h l
 have hm:(i+1)*c.sz≤l.length*c.sz:=cc _ h
 rw[bN,dc] at hm
 refine⟨by rw[hl];exact hm,?_,fun y=>?_⟩
 ·have:=jU c.f c.h (l.drop i) 1
  rw[dc] at this
  rw[mw c.f c.h,this,IG h,eI l i h,List.take_succ_cons,EG,pP,List.flatMap_nil,tp]
 ·rw[jU c.f c.h,show i*c.sz+c.sz=(i+1)*c.sz by rw[bN,dc],mw c.f c.h,List.set_eq_take_append_cons_drop,ao h,AU,pP,dQ]
theorem vB [Inhabited α]{n:Nat}(v:Vector α n){i:Nat}(h:i<n):v.toList[i]! =v[i]! :=by
 rw[eI v.toList i (by rw[pO];exact h),eI v i h,Vector.getElem_toList]
theorem vec_set {n:Nat}(v:Vector α n)(i:Nat)(y:α):(v.set! i y).toList=v.toList.set i y:=by
 show (v.setIfInBounds i y).toList=_
 exact Vector.toList_setIfInBounds ..
theorem an.vec [Inhabited α]{n:Nat}(c:Cd α)(v:Vector α n)(i:Nat)(h:i<n):an ((cA n c).f v) c (i*c.sz) v[i]! (fun y=>(cA n c).f (v.set! i y)):=by
 have:=an.seq c v.toList i (by rw[pO];exact h)
 rw[vB v h] at this
 refine⟨this.le,this.g,fun y=>?_⟩
 rw[show (cA n c).f (v.set! i y)=(v.set! i y).toList.flatMap c.f from rfl,vec_set]
 exact this.p y
end
section
variable {P:Program} {tb:TypeId→Option TyE} {dr:Bool} {ty:TypeId} {ev:Operand→D} {x y:Operand} {vs:List (Nat×List D)} {lv:List (Nat×Nat×Nat×TypeId)} {N k o:Nat} {F:List E} {β:Type} {c':Cd β} {b:β} {F':β→List E} {t:TypeId} {i:TyE}
theorem aD(L:an F c' o b F')(ht:tb t=some i)(hg:i.ty.agg=true:=by exact rfl)(hz:c'.sz=i.size:=by exact rfl)(hx:ev x=.pt k o:=by exact rfl)(hv:vs.lookup k=some (dC F):=by exact rfl)(hk:Nat.ble (k+1) N=true:=by exact rfl):AVC P tb dr (.load t x) ty ev ⟨vs,lv,N⟩ (Kq (dG c' b) ⟨vs,lv,N⟩):=by
 rw[qi,hx,mO,ht,hv]
 simp only[hg]
 refine⟨cg hk,by rw[fH,←hz];exact L.le,?_⟩
 have:((dC F).drop o).take i.size=(c'.f b).map D.e:=by
  unfold dC
  rw[←xO,←u9,←hz,L.g]
 rw[this]
 exact Kq.here _ _
theorem a6 {e:E}(L:an F c' o b F')(ht:tb t=some i)(he:c'.f b=[e]:=by exact rfl)(hg:i.ty.agg=false:=by exact rfl)(hx:ev x=.pt k o:=by exact rfl)(hv:vs.lookup k=some (dC F):=by exact rfl)(hk:Nat.ble (k+1) N=true:=by exact rfl):AVC P tb dr (.load t x) ty ev ⟨vs,lv,N⟩ (Kq (.e e) ⟨vs,lv,N⟩):=by
 have hs:c'.sz=1:=by rw[←c'.h b,he];rfl
 have H3:=L.g
 have hle:=L.le
 rw[hs] at H3 hle
 rw[he] at H3
 rw[qi,hx,mO,ht,hv]
 simp only[hg]
 refine⟨cg hk,.e e,?_,Kq.here _ _⟩
 unfold dC
 rw[cF]
 have:F[o]? =some e:=by
  have h0:(F.drop o)[0]? =F[o]? :=by rw[oM,i6]
  have h1:((F.drop o).take 1)[0]? =(F.drop o)[0]? :=by rw[gG];rfl
  rw[←h0,←h1,H3]
  rfl
 rw[this];rfl
theorem aO {b':β}(L:an F c' o b F')(ht:tb t=some i)(hy:(ev y).cells=some (dC (c'.f b')):=by exact rfl)(hz:c'.sz=i.size:=by exact rfl)(hx:ev x=.pt k o:=by exact rfl)(hv:vs.lookup k=some (dC F):=by exact rfl):AVC P tb dr (.store t x y) ty ev ⟨vs,lv,N⟩ (Kq .top ⟨(k,dC (F' b'))::vs,lv,N⟩):=by
 rw[AL,hx,wY,ht,hv,hy]
 have hl:(dC (c'.f b')).length=i.size:=by rw[fH,c'.h,hz]
 refine⟨hl,by rw[fH,←hz];exact L.le,?_⟩
 have:(dC F).take o++dC (c'.f b')++(dC F).drop (o+(dC (c'.f b')).length)=dC (F' b'):=by
  rw[hl,←hz,←L.p b']
  unfold dC
  simp only[lY,u9,xO]
 rw[this]
 exact Kq.here _ _
theorem jx {b':β}{γ:Type}{c:Cd γ}{nw nm:γ}(L:an F c' o b F')(ht:tb t=some i)(K0:nw=nm)(hF:F' b'=c.f nw:=by exact rfl)(hy:(ev y).cells=some (dC (c'.f b')):=by exact rfl)(hz:c'.sz=i.size:=by exact rfl)(hx:ev x=.pt k o:=by exact rfl)(hv:vs.lookup k=some (dC F):=by exact rfl):AVC P tb dr (.store t x y) ty ev ⟨vs,lv,N⟩ (Kq .top ⟨(k,dC (c.f nm))::vs,lv,N⟩):=by
 have:=aO (P:=P) (dr:=dr) (ty:=ty) (lv:=lv) (N:=N) L ht hy hz hx hv
 rw[hF,K0] at this
 exact this
theorem bq(ht:tb t=some i)(hz:i.zero.map E.lit=F:=by kernel_rfl):AVC P tb dr (.alloc t) ty ev ⟨vs,lv,N⟩ (Kq (.pt N 0) ⟨(N,dC F)::vs,lv,N+1⟩):=by
 subst hz
 have:=cr (P:=P) (dr:=dr) (ty:=ty) (ev:=ev) (vs:=vs) (lv:=lv) (N0:=N) ht
 unfold dC
 rw[ol]
 exact this
theorem T_boxV(h:(ev x).cells=some (dC F):=by exact rfl):AVC P tb dr (.box t x) ty ev ⟨vs,lv,N⟩ (Kq (.pt N 0) ⟨(N,dC F)::vs,lv,N+1⟩):=ka h
variable {hp:Hp} {j:TyE} {e:TypeId} {n:Nat} {kn:IntKind} {v:Int}
variable {s tt:TypeId} {fi:Nat} {fs:List (Nat×TypeId)}
inductive FL (tb:TypeId→Option TyE) (fs:List (Nat×TypeId)):List E→List (Nat×List D)→List E→Prop
 |nil (F:List E):FL tb fs F [] F
 |cons {γ:Type} {c:Cd γ} {F F2:List E} {o i:Nat} {b y:γ} {F':γ→List E} {rest:List (Nat×List D)} {cs:List D} (L:an F c o b F') (hp:ot tb fs i=some (o,c.sz)) (hc:cs=dC (c.f y)) (h:FL tb fs (F' y) rest F2):FL tb fs F ((i,cs)::rest) F2
theorem FL.fill {F F2:List E}{qs:List (Nat×List D)}(h:FL tb fs F qs F2):fP (ot tb fs) (dC F) qs=some (dC F2):=by
 induction h with
 |nil F=>rfl
 |cons L hp hc h ih=>
  rename_i c F F2 o i b y F' rest cs
  subst hc
  unfold fP
  rw[hp]
  dsimp only
  have hl:(dC (c.f y)).length=c.sz:=by rw[fH,c.h]
  rw[aq (by rw[hl,fH];have:=L.le;omega),hl,←ih]
  congr 1
  rw[←L.p y]
  unfold dC
  simp only[lY,u9,xO]
theorem i8 {ps:List (Nat×Operand)}{qs:List (Nat×List D)}{F2:List E}(h:FL tb fs F qs F2)(ht:tb t=some i)(h0:i.zero.map E.lit=F:=by kernel_rfl)(hi:i.ty=.struct fs:=by exact rfl)(ha:(fs.all fun f=>(tb f.2).isSome)=true:=by exact rfl)(hp1:jo (ps.map fun p=>(p.1,ev p.2))=some qs:=by exact rfl):AVC P tb dr (.build t ps.toArray) ty ev hp (Kq (.ag (dC F2)) hp):=by
 subst h0
 rw[wh,tS,ht,hp1]
 simp only[hi]
 have:(i.zero.map fun v=>D.e (.lit v))=dC (i.zero.map E.lit):=by unfold dC;rw[ol];rfl
 rw[this,h.fill]
 exact⟨fun f hf=>(b7.1 ha) f hf,Kq.here _ _⟩
theorem vC {σ:Nat→Nat}{m:Nat}{l:List (Nat×List D)}{F:List E}(h1:vs.lookup (σ k)=some (dC F))(hl:wkV σ m vs l)(h0:Nat.ble (k+1) m=true:=by exact rfl):wkV σ m vs ((k,dC F)::l):=
 ⟨⟨ltb h0,⟨_,h1,by rw[Oj];exact qJ _⟩,AC (fun _=>rfl) _,AC (fun _=>rfl) _⟩,hl⟩
def rnV(ρ:Nat→Nat):List (Nat×List D)→List (Nat×List D)→Prop
 |[],[]=>True
 |p::l,q::l'=>(ρ p.1=q.1∧p.2.map (D.renC ρ)=q.2∧p.2.all D.okC=true)∧rnV ρ l l'
 |_,_=>False
theorem rnV.map {ρ:Nat→Nat}:∀{l l':List (Nat×List D)},rnV ρ l l'→l.map (fun p=>(ρ p.1,p.2.map (D.renC ρ)))=l'∧(l.all fun p=>p.2.all D.okC)=true
 |[],[],_=>⟨rfl,rfl⟩
 |p::l,q::l',h=>by
  obtain⟨h1,h2⟩:=rnV.map h.2
  obtain⟨a,b,c⟩:=h.1
  refine⟨?_,by rw[js,c,h2];rfl⟩
  rw[e8,h1,a,b]
 |[],_::_,h=>h.elim
 |_::_,[],h=>h.elim
theorem rvN {ρ:Nat→Nat}:rnV ρ [] []:=trivial
theorem rvC {ρ:Nat→Nat}{k k2:Nat}{F:List E}{l l':List (Nat×List D)}(h:rnV ρ l l')(hk:ρ k=k2:=by exact rfl):rnV ρ ((k,dC F)::l) ((k2,dC F)::l'):=⟨⟨hk,Oj _ _,AC (fun _=>rfl) _⟩,h⟩
theorem rvE {ρ:Nat→Nat}{k k2:Nat}{ds ds2:List D}{l l':List (Nat×List D)}(h:rnV ρ l l')(hk:ρ k=k2:=by exact rfl)(hd:ds.map (D.renC ρ)=ds2:=by exact rfl)(ho:ds.all D.okC=true:=by exact rfl):rnV ρ ((k,ds)::l) ((k2,ds2)::l'):=⟨⟨hk,hd,ho⟩,h⟩
theorem EN {x:Operand}{f:FuncId}{aS:List Operand}{ts:Array TypeId}{JW:List D}{r r':D}{EV nj vs vs1 sD:List (Nat×List D)}{EW sE lv BF:List (Nat×Nat×Nat×TypeId)}{m n' N N2:Nat}(os:List Nat)
  (uS:ev x=.e (.lit (.func (.func f) #[] #[]))) (hc:HC P f JW ⟨EV,EW,m⟩ r ⟨nj,sE,n'⟩) (ha:frA (fun i=>os.getD i 0) m (aS.map ev) JW) (hv:wkV (fun i=>os.getD i 0) m vs EV) (hl:wkL (fun i=>os.getD i 0) m lv EW) (hrn:rnV (rn os m N) nj vs1)
  (oo:r.ren (rn os m N)=r') (hr:r.okF=true) (hos:os.length=m:=by exact rfl) (vn:os.Nodup:=by decide) (bz:(os.all fun o=>Nat.ble (o+1) N)=true:=by exact rfl)
  (tN:vs1++vs.filter (fun p=>!os.contains p.1)=sD:=by exact rfl) (Ny:frL (rn os m N) os sE lv=BF:=by exact rfl) (hN:N+(n' - m)=N2:=by exact rfl)
  (hh:hvB tb ⟨.value x,aS.toArray,ts⟩=true:=by kernel_rfl):AVC P tb dr (.call ⟨.value x,aS.toArray,ts⟩) ty ev ⟨vs,lv,N⟩ (Kq r' ⟨sD,BF,N2⟩):=
 Kg uS (HC.fr os hc ha hv hl hos vn bz hr hrn.map.2 oo (by unfold frV;rw[hrn.map.1,tN]) Ny hN) rfl hh
theorem wx {x:Operand}{f:FuncId}{ks:List Nat}{aS:List Operand}{ts:Array TypeId}{JW:List D}{r r':D}{EV nj vs vs1 sD:List (Nat×List D)}{EW sE lv BF:List (Nat×Nat×Nat×TypeId)}{m n' N N2:Nat}(os:List Nat)
  (uS:ev x=.fn f ks) (hc:HC P f JW ⟨EV,EW,m⟩ r ⟨nj,sE,n'⟩) (ha:frA (fun i=>os.getD i 0) m (aS.map ev++ks.map fun k=>.pt k 0) JW) (hv:wkV (fun i=>os.getD i 0) m vs EV) (hl:wkL (fun i=>os.getD i 0) m lv EW) (hrn:rnV (rn os m N) nj vs1)
  (oo:r.ren (rn os m N)=r') (hr:r.okF=true) (hos:os.length=m:=by exact rfl) (vn:os.Nodup:=by decide) (bz:(os.all fun o=>Nat.ble (o+1) N)=true:=by exact rfl)
  (tN:vs1++vs.filter (fun p=>!os.contains p.1)=sD:=by exact rfl) (Ny:frL (rn os m N) os sE lv=BF:=by exact rfl) (hN:N+(n' - m)=N2:=by exact rfl)
  (hh:hvB tb ⟨.value x,aS.toArray,ts⟩=true:=by kernel_rfl):AVC P tb dr (.call ⟨.value x,aS.toArray,ts⟩) ty ev ⟨vs,lv,N⟩ (Kq r' ⟨sD,BF,N2⟩):=
 T_callF uS (HC.fr os hc ha hv hl hos vn bz hr hrn.map.2 oo (by unfold frV;rw[hrn.map.1,tN]) Ny hN) rfl hh
theorem ex_G {α:Type}(c:Cd α)(a:α):D.ex (dG c a)=dG c a:=by
 show D.ag (((c.f a).map D.e).map D.exC)=_
 rw[ol];rfl
theorem fb {α:Type}(c:Cd α)(a:α):(D.ex (dG c a)).le (dG c a):=by rw[ex_G];exact av _
theorem Js {α:Type}(c:Cd α)(a:α):(dG c a).okF=true:=AC (p:=D.okC) (fun _=>rfl) (c.f a)
theorem om {off z m:Nat}(hb:0≤v∧v<(n:Int))(ht:tb t=some i)(he:tb e=some j)(hi:i.ty=.slice e:=by exact rfl)(hx:ev x=.ow m off z n:=by exact rfl)(hz:z=j.size:=by exact rfl)(hy:ev y=dI kn v:=by exact rfl):AVC P tb dr (.indexAddr t x y) ty ev hp (Kq (.pt m (off+v.toNat*j.size)) hp):=by
 rw[rS,hx,hy,qw,ht]
 simp only[hi,he]
 exact⟨hz,hb,Kq.here _ _⟩
end
section
variable {P:Program} {tb:TypeId→Option TyE}
structure EqC(tb:TypeId→Option TyE)(d:Nat)(t:TypeId){α:Type}(c:Cd α)(us:α→List Value):Prop where
 hf:∀x,c.f x=(us x).map E.lit
 ft:∀x,mh tb d t (us x)
 inj:∀x y,us x=us y↔x=y
theorem EqC.int {d:Nat}{t:TypeId}{k:IntKind}{i:TyE}(ht:tb t=some i)(hi:i.ty=.int k:=by exact rfl):EqC tb (d+1) t (cI k) (fun n=>[.int k n]):=
 ⟨fun _=>rfl,fun n=>by unfold mh;rw[ht];simp only[hi];exact⟨n,rfl⟩,fun x y=>by simp⟩
theorem EqC.bool {d:Nat}{t:TypeId}{i:TyE}(ht:tb t=some i)(hi:i.ty=.bool:=by exact rfl):EqC tb (d+1) t cB (fun n=>[.bool n]):=
 ⟨fun _=>rfl,fun n=>by unfold mh;rw[ht];simp only[hi];exact⟨n,rfl⟩,fun x y=>by simp⟩
theorem EqC.len {d:Nat}{t:TypeId}{α:Type}{c:Cd α}{us:α→List Value}(h:EqC tb d t c us)(x:α):(us x).length=c.sz:=by
 rw[←c.h x,h.hf,bS]
theorem Cq {α:Type}{f:α→List Value}{z:Nat}(hz:∀a,(f a).length=z):∀l:List α,(l.flatMap f).length=l.length*z
 |[]=>by simp
 |a::l=>by rw[pP,eH,hz,Cq hz l,lH,bN,dc,oh]
theorem Fh {α:Type}{f:α→List Value}{z:Nat}(hz:∀a,(f a).length=z):∀(l:List α) (i:Nat) (h:i<l.length),((l.flatMap f).drop (i*z)).take z=f l[i]
 |a::l,0,_=>by rw[e7,pQ,pP,yA (by rw[hz];exact aI _),jc (by rw[hz];exact aI _)];rfl
 |a::l,i+1,h=>by
  rw[pP,bN,dc,oh,←hz a,←oi,qC,hz a]
  exact Fh hz l i (by simpa using h)
theorem Cr {α:Type}{f:α→List Value}{z:Nat}(hz:∀a,(f a).length=z)(hi:∀x y,f x=f y→x=y):∀l m:List α,l.length=m.length→l.flatMap f=m.flatMap f→l=m
 |[],[],_,_=>rfl
 |a::l,b::m,hl,h=>by
  rw[pP,pP] at h
  obtain⟨h1,h2⟩:=xL h (by rw[hz,hz])
  rw[hi a b h1,Cr hz hi l m (by simpa using hl) h2]
 |[],_::_,hl,_=>by simp at hl
 |_::_,[],hl,_=>by simp at hl
theorem EqC.arr {d n:Nat}{t e:TypeId}{α:Type}{c:Cd α}{us:α→List Value}{i j:TyE}(h:EqC tb d e c us)(ht:tb t=some i)(he:tb e=some j)(hi:i.ty=.arr n e:=by exact rfl)(hz:c.sz=j.size:=by exact rfl):EqC tb (d+1) t (cA n c) (fun v=>v.toList.flatMap us):=by
 refine⟨fun v=>?_,fun v=>?_,fun v w=>⟨fun hh=>?_,fun hh=>by rw[hh]⟩⟩
 ·show v.toList.flatMap c.f=_
  rw[List.map_flatMap]
  congr 1
  exact funext h.hf
 ·unfold mh
  rw[ht]
  simp only[hi,he]
  have hl:=h.len
  refine⟨by rw[Cq hl,pO,hz],fun q hq=>?_⟩
  rw[←hz,Fh hl _ _ (by rw[pO];exact hq)]
  exact h.ft _
 ·have:=Cr h.len (fun x y hxy=>(h.inj x y).1 hxy) v.toList w.toList (by rw[pO,pO]) hh
  exact Vector.toList_inj.1 this
theorem pK {d o off:Nat}{t:TypeId}{fs:List (Nat×TypeId)}{α:Type}{c:Cd α}{us:α→List Value}{j:TyE}{x:α}{rest:List Value}(h:EqC tb d t c us)(ht:tb t=some j)(ho:o=off)(hr:q7 tb (mh tb d) fs (off+j.size) rest)(hz:c.sz=j.size:=by exact rfl):q7 tb (mh tb d) ((o,t)::fs) off (us x++rest):=by
 unfold q7
 have hl:=h.len x
 rw[ht]
 refine⟨ho,?_,by rw[eH];omega,?_⟩
 ·rw[←hz,←hl,oC];exact h.ft x
 ·rw[←hz,←hl,qC,hl,hz];exact hr
theorem EqC.struct {d:Nat}{t:TypeId}{α:Type}{c:Cd α}{us:α→List Value}{i:TyE}{fs:List (Nat×TypeId)}(ht:tb t=some i)(hf:∀x,c.f x=(us x).map E.lit)(E0:∀x,q7 tb (mh tb d) fs 0 (us x))(DS:∀x y,us x=us y→x=y)(hi:i.ty=.struct fs:=by exact rfl):EqC tb (d+1) t c us:=
 ⟨hf,fun x=>by unfold mh;rw[ht];simp only[hi];exact E0 x,fun x y=>⟨DS x y,fun h=>by rw[h]⟩⟩
theorem n7:∀us:List Value,jW (dC (us.map E.lit))=some us
 |[]=>rfl
 |u::us=>by
  show (jW (dC (us.map E.lit))).map (u::·)=_
  rw[n7 us];rfl
variable {dr:Bool} {ty:TypeId} {ev:Operand→D} {x y:Operand} {hp:Hp} {α:Type} {c:Cd α} {us:α→List Value} {a b:α} {t t':TypeId} {i:TyE}
theorem sh(tok:TOk P tb)(n:Nat)(hd:n≤10000)(h:EqC tb n t c us)(ht:tb t=some i)[DecidableEq α](hg:i.ty.agg=true:=by exact rfl)(hm:P.eqGuardType P.depth t=false:=by kernel_rfl)(hn:j7 P n t=true:=by kernel_rfl)(hx:ev x=dG c a:=by exact rfl)(hy:ev y=dG c b:=by exact rfl):AVC P tb dr (.binOp .eql t x y t') ty ev hp (Kq (dB (decide (a=b))) hp):=by
 have e:∀z,(c.f z).map D.e=dC ((us z).map E.lit):=fun z=>by rw[h.hf];rfl
 exact T_geql tok n hd ht hg hm hn hx hy (by rw[e,n7]) (by rw[e,n7]) (h.ft a) (h.ft b) (h.inj a b)
theorem xY(tok:TOk P tb)(n:Nat)(hd:n≤10000)(h:EqC tb n t c us)(ht:tb t=some i)[DecidableEq α](hg:i.ty.agg=true:=by exact rfl)(hm:P.eqGuardType P.depth t=false:=by kernel_rfl)(hn:j7 P n t=true:=by kernel_rfl)(hx:ev x=dG c a:=by exact rfl)(hy:ev y=dG c b:=by exact rfl):AVC P tb dr (.binOp .neq t x y t') ty ev hp (Kq (dB (decide (¬a=b))) hp):=by
 have e:∀z,(c.f z).map D.e=dC ((us z).map E.lit):=fun z=>by rw[h.hf];rfl
 exact T_gneq tok n hd ht hg hm hn hx hy (by rw[e,n7]) (by rw[e,n7]) (h.ft a) (h.ft b) (h.inj a b)
theorem xC(c:Cd α){z:Nat}(hz:c.sz=z):∀(l:List α) (m:Nat) (pre rest:List D),pre.length=m*z→rest.length=l.length*z→fP (fun n=>some (n*z,z)) (pre++rest) ((l.zipIdx m).map fun p=>(p.2,dC (c.f p.1)))=some (pre++dC (l.flatMap c.f))
 |[],m,pre,rest,_,hr=>by
  have:rest=[]:=jJ (by simpa using hr)
  subst this;rfl
 |a::l,m,pre,rest,hp,hr=>by
  have hl:(dC (c.f a)).length=z:=by rw[fH,c.h,hz]
  rw[lH,bN,dc] at hr
  show fP (fun n=>some (n*z,z)) (pre++rest) ((m,dC (c.f a))::(l.zipIdx (m+1)).map _)=_
  unfold fP
  dsimp only
  rw[aq (by rw[hl,eH];omega),←hp,oC,hl,←oi,qC]
  have:=xC c hz l (m+1) (pre++dC (c.f a)) (rest.drop z) (by rw[eH,hl,hp,bN,dc]) (by rw[f8];omega)
  rw[this,dQ]
  unfold dC
  rw[pP,lY]
theorem xH:∀es:List E,rP (dC es)=some es
 |[]=>rfl
 |e::es=>by
  show (match D.cellE (.e e),rP (dC es) with|some x,some xs=>some (x::xs)|_,_=>none)=_
  rw[xH es];rfl
theorem pX {vs:List (Nat×List D)}{lv:List (Nat×Nat×Nat×TypeId)}{N0:Nat}{e:TypeId}{j:TyE}{n:Nat}{ps:List (Nat×Operand)}(l:List α)(c:Cd α)(ht:tb t=some i)(he:tb e=some j)(hi:i.ty=.slice e:=by exact rfl)(hz:c.sz=j.size:=by exact rfl)(HK:Nat.ble (0+1) (j.size)=true:=by exact rfl)(HY:l.length=n+1:=by exact rfl)(hn:Nat.ble ((n+1)*j.size) (16777216)=true:=by exact rfl)(hp1:jo (ps.map fun p=>(p.1,ev p.2))=some ((l.zipIdx 0).map fun p=>(p.2,dC (c.f p.1))):=by exact rfl)(hd:dr=false:=by exact rfl):
  AVC P tb dr (.buildSlice t (n+1) ps.toArray) ty ev ⟨vs,lv,N0⟩ (Kq (dO N0 c l) ⟨vs,(N0,l.length,j.size,e)::lv,N0+1⟩):=by
 have hf:=xC c hz l 0 [] (List.replicate ((n+1)*j.size) (D.e .any)) (by simp) (by rw[qB,HY])
 rw[oN,oN] at hf
 have:=jL (P:=P) (dr:=dr) (ty:=ty) (ev:=ev) (vs:=vs) (lv:=lv) (N0:=N0) ht he hi HK hn hp1 hf (xH _) hd
 show AVC _ _ _ _ _ _ _ (Kq (.own N0 c.sz l.length (l.flatMap c.f)) _)
 rw[hz,HY]
 exact this
theorem uL {tm:List (Nat×D)}{p:Tmp}{ty:TypeId}{j:Nat}{i:TyE}{F:List E}{k:D→Prop}(h:tm.lookup p=some (.pt j 0))(ht:tb ty=some i)(hg:i.ty.agg=true)(hv:hp.vars.lookup j=some (dC F))(hn:j<hp.next)(hl:F.length=i.size)(hk:k (.ag (dC F))):oq tb tm hp (.cell p ty) k:=
 lw h ht hg hv hn (by rw[fH,hl];omega) (by rw[pQ,jc (by rw[fH,hl];exact aI _)]) hk
end
end
section
structure FW(α:Type) where
 f:α→List E
def cW {α:Type}(c:Cd α):FW (List α):=⟨fun l=>l.flatMap c.f⟩
theorem an.seqW {α:Type}[Inhabited α](c:Cd α)(l:List α)(i:Nat)(h:i<l.length):an ((cW c).f l) c (0+i*c.sz) l[i]! (fun y=>(cW c).f (l.set i y)):=by
 rw[bE];exact an.seq c l i h
def vOf {α:Type}[Inhabited α](n:Nat)(l:List α):Vector α n:=Vector.ofFn fun i=>l[i.val]!
theorem uF {α:Type}[Inhabited α]{n:Nat}{l:List α}(h:l.length=n):(vOf n l).toList=l:=by
 unfold vOf
 apply Ke
 ·rw[pO,h]
 ·intro i h1 h2
  rw[Vector.getElem_toList,IV,eI l i h2]
theorem vOf_f {α:Type}[Inhabited α](c:Cd α){n:Nat}{l:List α}(h:l.length=n):(cA n c).f (vOf n l)=l.flatMap c.f:=by
 show (vOf n l).toList.flatMap c.f=_
 rw[uF h]
theorem an.sub {α:Type}[Inhabited α]{n:Nat}(m:Nat)(c:Cd α)(v:Vector α n)(i:Nat)(h:i+m≤n){o:Nat}(ho:i*c.sz=o):an ((cA n c).f v) (cA m c) o (vOf m ((v.toList.drop i).take m)) (fun y=>((cA n c).f v).take o++(cA m c).f y++((cA n c).f v).drop (o+m*c.sz)):=by
 subst ho
 have hl:((v.toList.drop i).take m).length=m:=by rw[eA,f8,pO];omega
 refine⟨?_,?_,fun y=>rfl⟩
 ·rw[(cA n c).h]
  show i*c.sz+m*c.sz≤n*c.sz
  rw[←bN];exact cc _ h
 ·rw[vOf_f c hl]
  show ((v.toList.flatMap c.f).drop (i*c.sz)).take (m*c.sz)=_
  rw[mw c.f c.h,jU c.f c.h]
section
variable {P:Program} {tb:TypeId→Option TyE} {md:Md} {ev:Operand→D} {hp:Hp} {dst:Option Tmp} {ty2:TypeId} {pos:String} {af:Array Edge} {gd:Option (Nat×Bool)} {x y:Operand} {lo hi:Option Operand} {t t2 e:TypeId} {ti j:TyE} {k k' off o o' z n m:Nat} {l h:Int}
def Lk(ev:Operand→D)(b:Option Operand)(Cj l:Int):Prop:=
 match b with
 |none=>l=Cj
 |some y=>∃k,ev y=dI k l
theorem Lk.val {b:Option Operand}{Cj l:Int}(h:Lk ev b Cj l){L:Nat}(hL:l=L){N:Nat}(hN:Cj=N){g:Gh}{w:World}{ρ:Operand→Value}(hr:∀y,b=some y→aM hp g w (ev y) (ρ y)):(b.map ρ=none∧L=N)∨∃kd,b.map ρ=some (.int kd (L:Int)):=by
 cases b with
 |none=>exact .inl ⟨rfl,by have:l=Cj:=h;omega⟩
 |some y=>
  obtain⟨kd,hy⟩:=h
  have:=hr y rfl
  rw[hy] at this
  exact .inr ⟨kd,by rw[←hL,mz,this.lit]⟩
theorem slA(tok:TOk P tb)(hb:0≤l∧l≤h∧h≤(n:Int)∧l<(n:Int))(ht:tb t=some ti)(he:tb e=some j)(Ah:Lk ev lo 0 l)(G7:Lk ev hi (n:Int) h)(uq:ti.ty=.arr n e:=by exact rfl)(hx:ev x=.pt k off:=by exact rfl)(hn:Nat.ble n 1000000=true:=by exact rfl):
  lh P tb md ⟨dst,.slice t x lo hi none,ty2,pos,af,gd⟩ ev hp (.ow k (off+l.toNat*j.size) j.size (h - l).toNat) hp:=by
 refine (Snd.calm (dr:=md.dr) fun bF _=>.pure fun B g w a hr tM=>?_).q (by cases md <;> rfl)
 have h1:=tM x (by simp[Op.operands])
 rw[hx] at h1
 obtain⟨L,rfl⟩:∃L:Nat,l=L:=⟨l.toNat,by omega⟩
 obtain⟨H,rfl⟩:∃H:Nat,h=H:=⟨h.toNat,by omega⟩
 have e1:((H:Int) - L).toNat=H - L:=by omega
 have hn':n≤1000000:=cg hn
 have hbd:=jj (P:=P) (w:=w) false n n (lo.map a.eval) (hi.map a.eval) L H (Ah.val rfl rfl fun y hy=>tM y (by subst hy;simp[Op.operands])) (G7.val rfl rfl fun y hy=>tM y (by subst hy;simp[Op.operands])) (by omega) (by omega)
 have hs:=tok.run_sizeOf he w
 generalize hv:a.eval x=v at h1
 cases h1 with
 |pt _ _ hk=>
  refine⟨.slice (some ⟨g.μ k,off+L*j.size,none⟩) (H - L) (n - L),?_,?_⟩
  ·have lK:¬n=L:=by omega
   have K9:(⟨g.μ k,off,none⟩:Addr).add (L*j.size)=⟨g.μ k,off+L*j.size,none⟩:=by unfold Addr.add;split <;> simp_all
   simp[execOp,Instr.sliceAt,Instr.sureAddr,hv,run_underlying (tok.arr ht uq),hbd,hs,lK,K9]
  ·rw[e1,aW]
   exact .ow _ _ _ _ _ hk (by omega) (by unfold maxLen;omega)
theorem slW(tok:TOk P tb)(hb:0≤l∧l≤h∧h≤(n:Int)∧l<(n:Int))(ht:tb t=some ti)(he:tb e=some j)(Ah:Lk ev lo 0 l)(G7:Lk ev hi (n:Int) h)(uq:ti.ty=.slice e:=by exact rfl)(hx:ev x=.ow k off z n:=by exact rfl)(hz:z=j.size:=by exact rfl):
  lh P tb md ⟨dst,.slice t x lo hi none,ty2,pos,af,gd⟩ ev hp (.ow k (off+l.toNat*z) z (h - l).toNat) hp:=by
 subst hz
 refine (Snd.calm (dr:=md.dr) fun bF _=>.pure fun B g w a hr tM=>?_).q (by cases md <;> rfl)
 have h1:=tM x (by simp[Op.operands])
 rw[hx] at h1
 obtain⟨L,rfl⟩:∃L:Nat,l=L:=⟨l.toNat,by omega⟩
 obtain⟨H,rfl⟩:∃H:Nat,h=H:=⟨h.toNat,by omega⟩
 have e1:((H:Int) - L).toNat=H - L:=by omega
 have hs:=tok.run_sizeOf he w
 generalize hv:a.eval x=v at h1
 cases h1 with
 |ow _ _ _ _ c hk nJ mQ=>
  have hbd:=jj (P:=P) (w:=w) true n c (lo.map a.eval) (hi.map a.eval) L H (Ah.val rfl rfl fun y hy=>tM y (by subst hy;simp[Op.operands])) (G7.val rfl rfl fun y hy=>tM y (by subst hy;simp[Op.operands])) (by omega) (by omega)
  refine⟨.slice (some ⟨g.μ k,off+L*j.size,none⟩) (H - L) (c - L),?_,?_⟩
  ·have lK:¬c=L:=by omega
   have K9:(⟨g.μ k,off,none⟩:Addr).add (L*j.size)=⟨g.μ k,off+L*j.size,none⟩:=by unfold Addr.add;split <;> simp_all
   simp[execOp,Instr.sliceAt,Instr.slice,hv,run_underlying (tok.slice ht uq),hbd,hs,lK,K9]
  ·rw[e1,aW]
   exact .ow _ _ _ _ _ hk (by omega) (by omega)
theorem sPtr(tok:TOk P tb)(hm:Nat.ble m n=true)(ht:tb t=some ti)(uq:ti.ty=.arr m e:=by exact rfl)(hx:ev x=.ow k off z n:=by exact rfl):
  lh P tb md ⟨dst,.sliceToArrayPointer t x,ty2,pos,af,gd⟩ ev hp (.pt k off) hp:=by
 refine (Snd.calm (dr:=md.dr) fun bF _=>.pure fun B g w a hr tM=>?_).q (by cases md <;> rfl)
 have h1:=tM x (by simp[Op.operands])
 rw[hx] at h1
 have zp:=cg hm
 generalize hv:a.eval x=v at h1
 cases h1 with
 |ow _ _ _ _ c hk nJ mQ=>
  refine⟨.pointer (some ⟨g.μ k,off,none⟩),?_,.pt _ _ hk⟩
  have lK:¬n<m:=by omega
  simp[execOp,Instr.arrayAt,hv,run_underlying (tok.arr ht uq),lK]
theorem xX {dr:Bool}{ty:TypeId}(ht:tb t=some ti)(he:tb e=some j)(hi:ti.ty=.slice e:=by exact rfl)(hx:ev x=.ow k off z n:=by exact rfl):AVC P tb dr (.call ⟨.builtin .len,#[x],#[t]⟩) ty ev hp (Kq (dI .i64 n) hp):=by
 show i4 tb .len [t] [ev x] hp _
 rw[yx,JC,ht]
 simp only[hi,he,hx,D.asSl]
 exact Kq.here _ _
theorem sf {dr:Bool}{ty:TypeId}{vs:List (Nat×List D)}{lv:List (Nat×Nat×Nat×TypeId)}{N:Nat}{F:List E}{β γ:Type}{c':Cd β}{b b':β}{F':β→List E}{c:Cd γ}{nw nm:List γ}(L:an F c' o b F')(ht:tb t=some ti)(K0:nw=nm)(hF:F' b'=(cW c).f nw:=by exact rfl)(hy:(ev y).cells=some (dC (c'.f b')):=by exact rfl)(hz:c'.sz=ti.size:=by exact rfl)(hx:ev x=.pt k o:=by exact rfl)(hv:vs.lookup k=some (dC F):=by exact rfl):AVC P tb dr (.store t x y) ty ev ⟨vs,lv,N⟩ (Kq .top ⟨(k,dC ((cW c).f nm))::vs,lv,N⟩):=by
 have:=aO (P:=P) (dr:=dr) (ty:=ty) (lv:=lv) (N:=N) L ht hy hz hx hv
 rw[hF,K0] at this
 exact this
theorem CG(z:Array Value)(s:Nat)(hs:z.size=s):∀n:Nat,(madeCells z (n*s)).toList=(List.replicate n z.toList).flatten
 |0=>by simp[madeCells]
 |n+1=>by
  have ih:=CG z s hs n
  unfold madeCells at ih ⊢
  rw[Array.toList_map,Array.toList_range] at ih ⊢
  rw[bN,dc,List.range_add,lY,ih,List.replicate_succ',List.flatten_append]
  congr 1
  rw[ol,List.flatten_cons,List.flatten_nil,tp]
  apply Ke
  ·simp[hs]
  ·intro i h1 h2
   have hi:i<s:=by simpa using h1
   simp only[List.getElem_map,List.getElem_range,Function.comp]
   rw[hs,ci,Nat.mul_add_mod,dM hi,eI z i (by omega),Array.getElem_toList]
theorem sMk {α:Type}{c:Cd α}{z0:α}{kl kc:IntKind}{v:Int}{hp':Hp}(tok:TOk P tb)(hb:0≤v∧v≤1000000)(ht:tb t=some ti)(he:tb e=some j)(hz:j.zero.map E.lit=c.f z0)(uq:ti.ty=.slice e:=by exact rfl)(hx:ev x=dI kl v:=by exact rfl)(hy:ev y=dI kc v:=by exact rfl)(hbt:Nat.ble j.bytes 100000000=true:=by exact rfl)(hp1:hp.var (dC ((cW c).f (List.replicate v.toNat z0)))=hp':=by exact rfl):
  lh P tb md ⟨dst,.makeSlice t x y,ty2,pos,af,gd⟩ ev hp (.ow hp.next 0 j.size v.toNat) hp':=by
 subst hp1
 refine (Snd.loud (dr:=md.dr) (.step fun B g w a hr tM=>?_) (fun _=>rfl) fun _=>⟨dx _,fun j hj=>au (by omega)⟩).q (by cases md <;> rfl)
 have h1:=tM x (by simp[Op.operands])
 have h2:=tM y (by simp[Op.operands])
 rw[hx] at h1;rw[hy] at h2
 obtain⟨f,zz,H2,Ga,NF,hf3,hf4,_⟩:=tok.inf he
 have hbt':f.bytes≤100000000:=by rw[NF];exact cg hbt
 obtain⟨m,rfl⟩:∃m:Nat,v=m:=⟨v.toNat,by omega⟩
 have hm:m≤1000000:=by omega
 have JF:f.bytes*m≤281474976710656:=cG (lW hbt' hm) (by decide)
 have bD:=run_make (P:=P) w t e f zz (tok.slice ht uq) H2 hf3 kl kc m m (by omega) (by omega) (by rw[←nW];exact Int.ofNat_le.2 JF) (by omega)
 rw[aW] at bD
 have hsz:zz.cells.size=f.size:=by
  have h4:=(tok e j he).2.2.1
  rw[←dT,hf4,h4,Ga]
 have hlist:=CG zz.cells f.size hsz m
 have hcont:(cW c).f (List.replicate m z0)=(madeCells zz.cells (m*f.size)).toList.map E.lit:=by
  rw[hlist,hf4,List.map_flatten,En,hz]
  show (List.replicate m z0).flatMap c.f=_
  rw[List.flatMap_def,En]
 have h1c:∀u∈(madeCells zz.cells (m*f.size)).toList,u.oneCell'=true:=by
  intro u hu
  rw[hlist,hf4] at hu
  obtain⟨l,hl,JE⟩:=List.mem_flatten.1 hu
  obtain rfl:=(List.mem_replicate.1 hl).2
  exact b7.1 (tok e j he).2.2.2 u JE
 refine⟨.slice (some ⟨w.heap.size,0,none⟩) m m,_,w.alloc (.cells (madeCells zz.cells (m*f.size)) e),?_,hr.newVar _ _ e ?_ (fun i u hu=>?_),bB.var hp g w _ _,?_,(Below.refl _ _).alloc hr.base _,fun p _ h=>.inl h⟩
 ·have e1:=h1.lit
  have e2:=h2.lit
  simp only[execOp,e1,e2,Sem.run_bind,bD,Result.andThen_ok]
  rfl
 ·rw[aW,hcont,fH,bS,dT];exact aI _
 ·have sx:(madeCells zz.cells (m*f.size)).toList[i]? =some u:=by simpa using hu
  refine⟨fun _=>h1c u (bO sx),fun d hd=>?_⟩
  rw[aW,hcont] at hd
  unfold dC at hd
  rw[cF,cF,sx] at hd
  injection hd with hd
  subst hd
  exact .e _ _ (.lit u (h1c u (bO sx)))
 ·rw[aW]
  have:=aM.ow (hp:=hp.var (dC ((cW c).f (List.replicate ((m:Int).toNat) z0)))) (g:=g.var hp.next w.heap.size) (w:=w.alloc (.cells (madeCells zz.cells (m*f.size)) e)) hp.next 0 j.size m m (cl _) (aI _) (by unfold maxLen;omega)
  rwa[show (g.var hp.next w.heap.size).μ hp.next=w.heap.size from ao rfl] at this
theorem KH(w:World)(t t2 ty e:TypeId)(i:TypeInfo)(hu:P.underlying t=some (.slice e))(hi:P.info? e=some i)(b o n c:Nat)(A:Option Addr)(m c':Nat)(cur:Array Value)(tt:TypeId)(cs:List Value)(hA:0<m→∃ad,A=some ad)(hl:cs.length=min m n*i.size)
  (M7:∀ad,A=some ad→∀j v,cs[j]? =some v→w.cell? (ad.add j)=some v) (hg:w.heap[b]? =some (.cells cur tt (0,0))) (Ca:o+cs.length≤cur.size) (h1:∀v∈cs,v.oneCell'=true):
  (Builtin.copy_ #[t,t2] ty #[.slice (some ⟨b,o,none⟩) n c,.slice A m c']).run P w=   .ok (goInt ((min m n:Nat):Int)) (w.setRow b (cur.toList.take o++cs++cur.toList.drop (o+cs.length)).toArray):=by
 have v3:=run_storeCells_at P b o tt cs 0 cur w hg (by simpa using Ca) h1
 have e0:Nat.min m n=min m n:=rfl
 cases A with
 |none=>
  have hm:m=0:=by
   rcases ln m with h|h
   ·exact h
   ·obtain⟨_,h⟩:=hA h;cases h
  subst hm
  have:cs=[]:=jJ (by rw[hl];simp)
  subst this
  simp at v3
  simp[Builtin.copy_,run_underlying hu,Builtin.lenOf,Builtin.firstCells,sizeOf,typeInfo,hi,v3]
 |some a=>
  have vo:=run_loadCells_list (P:=P) w a cs (M7 a rfl)
  rw[hl] at vo
  simp[Builtin.copy_,run_underlying hu,Builtin.lenOf,Builtin.firstCells,sizeOf,typeInfo,hi,e0,vo,v3]
def tC(hp:Hp)(d:D)(z m:Nat)(xs:List E):Prop:=xs.length=m*z∧∀(B:Nat) (g:Gh) (w:World) (v:Value),HR B hp g w→aM hp g w d v→
 ∃A c us,v=.slice A m c∧(0<m→∃ad,A=some ad)∧(∀ad,A=some ad→∀j u,us[j]? =some u→w.cell? (ad.add j)=some u)∧Pw (cC w g.F) xs us
theorem tC.own {vs:List (Nat×List D)}{lv:List (Nat×Nat×Nat×TypeId)}{N:Nat}{F:List E}{xs:List E}(hv:vs.lookup k=some (dC F))(hle:off+m*z≤F.length)(hF:(F.drop off).take (m*z)=xs):tC ⟨vs,lv,N⟩ (.ow k off z m) z m xs:=by
 subst hF
 refine⟨by rw[eA,f8];omega,fun B g w v hr hd=>?_⟩
 cases hd with
 |ow _ _ _ _ c hk nJ mQ=>
  obtain⟨h1,h2,h3,cs,ty,h4,h5,h6⟩:=hr.var k _ hv
  rw[fH] at h5
  refine⟨_,c,(cs.toList.drop off).take (m*z),rfl,fun _=>⟨_,rfl⟩,fun ad ha j u hu=>?_,?_,fun j x u hx hu=>?_⟩
  ·injection ha with ha
   subst ha
   rw[gG] at hu
   split at hu
   ·rw[oM,u7] at hu
    have K9:(⟨g.μ k,off,none⟩:Addr).add j=⟨g.μ k,off+j,none⟩:=by unfold Addr.add;split <;> simp_all
    rw[K9]
    simpa[World.cell?,h4] using hu
   ·cases hu
  ·simp only[eA,f8,dT];omega
  ·rw[gG] at hx hu
   split at hx
   ·rename_i hj
    rw[ao hj,oM,u7] at hu
    rw[oM] at hx
    have:=(h6 (off+j) u hu).2 (.e x) (by unfold dC;rw[cF,hx];rfl)
    cases this
    assumption
   ·cases hx
theorem tC.dat {hp:Hp}{d:D}{z m:Nat}{xs:List E}(h:d.asSl z=some (m,xs))(hl:xs.length=m*z):tC hp d z m xs:=by
 refine⟨hl,fun B g w v hr hd=>?_⟩
 obtain⟨A,c,rfl,cE⟩:=og hd h
 obtain⟨_,_,_,_,hA,us,JE,hc,hp⟩:=cE.reads
 exact⟨A,c,us,rfl,fun hm=>(hA hm).imp fun ad h=>h.1,fun ad ha j u hu=>(hc ad ha j u hu).1,hp⟩
theorem cC.oneL {w:World}{F:Addr→Prop}{xs:List E}{us:List Value}(h:Pw (cC w F) xs us):∀u∈us,u.oneCell'=true:=by
 intro u hu
 obtain⟨i,hi⟩:=List.mem_iff_getElem?.1 hu
 have:i<xs.length:=by rw[h.1];exact (lX.1 hi).1
 exact (h.2 i xs[i] u (eg this) hi).one
theorem sCp {vs:List (Nat×List D)}{lv:List (Nat×Nat×Nat×TypeId)}{N:Nat}{F xs:List E}(tok:TOk P tb)(ht:tb t=some ti)(he:tb e=some j)(hs:tC ⟨vs,lv,N⟩ (ev y) z m xs)(hv:vs.lookup k=some (dC F))(Ca:off+n*z≤F.length)(uq:ti.ty=.slice e:=by exact rfl)(hx:ev x=.ow k off z n:=by exact rfl)(hz:z=j.size:=by exact rfl):
  lh P tb md ⟨dst,.call ⟨.builtin .copy,#[x,y],#[t,t2]⟩,ty2,pos,af,gd⟩ ev ⟨vs,lv,N⟩ (dI .i64 (min m n:Nat)) ⟨(k,dC (F.take off++xs.take (min m n*z)++F.drop (off+min m n*z)))::vs,lv,N⟩:=by
 subst hz
 refine (Snd.loud (dr:=md.dr) (.step fun B g w a hr tM=>?_) (fun _=>rfl) fun h=>by simp[Fi,cpB] at h).q (by cases md <;> rfl)
 have h1:=tM x (cd (by simp))
 have h2:=tM y (cd (by simp))
 rw[hx] at h1
 obtain⟨zo,hs⟩:=hs
 obtain⟨A,c',us,hy,hA,M7,t8⟩:=hs B g w _ hr h2
 obtain⟨q1,q2,q3,cs,ty,q4,q5,q6⟩:=hr.var k _ hv
 rw[fH] at q5
 obtain⟨f,zz,H2,Ga,_⟩:=tok.inf he
 have Nw:min m n*j.size≤n*j.size:=cc _ (Nat.min_le_right _ _)
 have hmin2:min m n*j.size≤m*j.size:=cc _ (Nat.min_le_left _ _)
 have JE:us.length=m*j.size:=by rw[←t8.1,zo]
 have htl:(us.take (min m n*j.size)).length=min m n*j.size:=by rw[eA];omega
 have hxt:(xs.take (min m n*j.size)).length=min m n*j.size:=by rw[eA];omega
 generalize M4:a.eval x=v1 at h1
 cases h1 with
 |ow _ _ _ _ c hk nJ mQ=>
  have KX:∀u∈us.take (min m n*j.size),u.oneCell'=true:=fun u hu=>cC.oneL t8 u (Iy hu)
  have bD:=KH (P:=P) w t t2 ty2 e f (tok.slice ht uq) H2 (g.μ k) off n c A m c' cs ty (us.take (min m n*j.size)) hA (by rw[htl,Ga]) (fun ad ha i v hi=>M7 ad ha i v (by
   rw[gG] at hi
   split at hi
   ·exact hi
   ·cases hi)) q4 (by omega) KX
  have NB:=setRow_heap w (g.μ k) cs (cs.toList.take off++us.take (min m n*j.size)++cs.toList.drop (off+(us.take (min m n*j.size)).length)).toArray ty (0,0) q4
  have NG:ew ⟨vs,lv,N⟩ g w (dC F) (cs.toList.take F.length):=⟨⟨by simp only[fH,eA,dT];omega,fun i d u hd hu=>(q6 i u (by
   rw[gG] at hu
   split at hu
   ·simpa using hu
   ·cases hu)).2 d hd⟩,fun u hu=>by
   obtain⟨i,hi⟩:=List.mem_iff_getElem?.1 hu
   rw[gG] at hi
   split at hi
   ·rename_i bz
    exact (q6 i u (by simpa using hi)).1 (by rw[fH];exact bz)
   ·cases hi⟩
  have hmid:ew ⟨vs,lv,N⟩ g w (dC (xs.take (min m n*j.size))) (us.take (min m n*j.size)):=by
   refine⟨⟨by rw[fH,hxt,htl],fun i d u hd hu=>?_⟩,KX⟩
   unfold dC at hd
   rw[cF] at hd
   cases hx':(xs.take (min m n*j.size))[i]? with
   |none=>rw[hx'] at hd;cases hd
   |some x'=>
    rw[hx'] at hd
    injection hd with hd
    subst hd
    exact .e _ _ ((t8.take _).2 i x' u hx' hu)
  have qx:ew ⟨vs,lv,N⟩ g w (dC (F.take off++xs.take (min m n*j.size)++F.drop (off+min m n*j.size))) ((cs.toList.take off++us.take (min m n*j.size)++cs.toList.drop (off+(us.take (min m n*j.size)).length)).take F.length):=by
   have:=((NG.take off).append hmid).append (NG.drop (off+min m n*j.size))
   rw[htl]
   have e1:(cs.toList.take off++us.take (min m n*j.size)++cs.toList.drop (off+min m n*j.size)).take F.length=((cs.toList.take F.length).take off++us.take (min m n*j.size))++(cs.toList.take F.length).drop (off+min m n*j.size):=by
    have hlA:(cs.toList.take off++us.take (min m n*j.size)).length=off+min m n*j.size:=by rw[eH,htl,eA,dT];omega
    rw[ID,hlA,jc (by rw[hlA];omega),GR,CY,tj (show off≤F.length by omega)]
   rw[e1]
   unfold dC at this ⊢
   simpa only[lY,u9,xO] using this
  have HY:(F.take off++xs.take (min m n*j.size)++F.drop (off+min m n*j.size)).length=F.length:=by
   simp only[eH,eA,f8];omega
  have F5:=SzB.row (new:=(cs.toList.take off++us.take (min m n*j.size)++cs.toList.drop (off+(us.take (min m n*j.size)).length)).toArray) q4 (by simp only[jY,eH,eA,f8,dT];omega)
  refine⟨goInt ((min m n:Nat):Int),g,_,?_,hr.setVar hv _ _ ty (by simp[World.setRow]) (fun b hb=>setRow_other w _ b _ hb) NB (by rw[fH,HY];simp only[jY,eH,eA,f8,dT];omega) F5 (fun i u hu=>?_),bB.setVar hr hv _ (by simp[World.setRow]) (fun b hb=>setRow_other w _ b _ hb) F5,.e _ _ (.lit _ rfl),uy w q2 _,fun _ _ h=>h⟩
  ·simp only[execOp,EB,A5,e8,gL,resolve,invoke,builtin,M4,hy,Sem.run_bind]
   simp[resolve,invoke,builtin,M4,hy,bD]
  ·have sx:(cs.toList.take off++us.take (min m n*j.size)++cs.toList.drop (off+(us.take (min m n*j.size)).length))[i]? =some u:=by simpa using hu
   have hw:i<F.length→((cs.toList.take off++us.take (min m n*j.size)++cs.toList.drop (off+(us.take (min m n*j.size)).length)).take F.length)[i]? =some u:=fun hi=>by
    rw[gG,ao hi];exact sx
   exact⟨fun hi=>qx.2 u (bO (hw (by rw[fH,HY] at hi;exact hi))),fun d hd=>qx.1.2 i d u hd (hw (by rw[←HY,←fH];exact (lX.1 hd).1))⟩
def lCp {α:Type}(l:List α)(o:Nat)(s:List α):List α:=l.take o++s++l.drop (o+s.length)
theorem lCp_len {α:Type}{l s:List α}{o:Nat}(h:o+s.length≤l.length):(lCp l o s).length=l.length:=by
 unfold lCp;simp only[eH,eA,f8];omega
theorem FV {α:Type}(c:Cd α)(l s:List α)(o:Nat):(lCp l o s).flatMap c.f=(l.flatMap c.f).take (o*c.sz)++s.flatMap c.f++(l.flatMap c.f).drop (o*c.sz+s.length*c.sz):=by
 unfold lCp
 rw[AU,AU,jU c.f c.h,←bN,mw c.f c.h]
section
variable {α:Type} [Inhabited α] {c:Cd α} {vs:List (Nat×List D)} {lv:List (Nat×Nat×Nat×TypeId)} {N N0:Nat}
theorem tC.arr {v:Vector α N0}(hv:vs.lookup k=some (dC ((cA N0 c).f v)))(o:Nat)(hm:o+m≤N0)(ho:off=o*c.sz:=by exact rfl)(hz:z=c.sz:=by exact rfl):tC ⟨vs,lv,N⟩ (.ow k off z m) z m (((v.toList.drop o).take m).flatMap c.f):=by
 subst ho hz
 refine tC.own hv ?_ ?_
 ·rw[(cA N0 c).h]
  show o*c.sz+m*c.sz≤N0*c.sz
  rw[←bN];exact cc _ hm
 ·show ((v.toList.flatMap c.f).drop (o*c.sz)).take (m*c.sz)=_
  rw[mw c.f c.h,jU c.f c.h]
theorem tC.lst {l:List α}(hv:vs.lookup k=some (dC ((cW c).f l)))(o:Nat)(hm:o+m≤l.length)(ho:off=o*c.sz:=by exact rfl)(hz:z=c.sz:=by exact rfl):tC ⟨vs,lv,N⟩ (.ow k off z m) z m (((l.drop o).take m).flatMap c.f):=by
 subst ho hz
 refine tC.own hv ?_ ?_
 ·show _≤(l.flatMap c.f).length
  rw[iu c.f c.h,←bN];exact cc _ hm
 ·show ((l.flatMap c.f).drop (o*c.sz)).take (m*c.sz)=_
  rw[mw c.f c.h,jU c.f c.h]
theorem sCpA {v:Vector α N0}{s:List α}{r:List (Nat×List D)}(tok:TOk P tb)(ht:tb t=some ti)(he:tb e=some j)(hs:tC ⟨vs,lv,N⟩ (ev y) z m (s.flatMap c.f))(LD:s.length=m)(hv:vs.lookup k=some (dC ((cA N0 c).f v)))(o:Nat)(Ca:o+n≤N0)(hr:(k,dC ((cA N0 c).f (vOf N0 (lCp v.toList o (s.take n)))))::vs=r)(ho:off=o*c.sz:=by exact rfl)(CL:z=c.sz:=by exact rfl)(uq:ti.ty=.slice e:=by exact rfl)(hx:ev x=.ow k off z n:=by exact rfl)(hz:z=j.size:=by exact rfl):
  lh P tb md ⟨dst,.call ⟨.builtin .copy,#[x,y],#[t,t2]⟩,ty2,pos,af,gd⟩ ev ⟨vs,lv,N⟩ (dI .i64 (min m n:Nat)) ⟨r,lv,N⟩:=by
 subst ho CL hr
 have:=sCp (P:=P) (md:=md) (dst:=dst) (ty2:=ty2) (pos:=pos) (af:=af) (gd:=gd) (t2:=t2) (lv:=lv) tok ht he hs hv (by
  rw[(cA N0 c).h]
  show _≤N0*c.sz
  rw[←bN];exact cc _ Ca) uq hx hz
 have e1:(s.take n).length=min m n:=by rw[eA,LD,Nat.min_comm]
 have e2:(cA N0 c).f (vOf N0 (lCp v.toList o (s.take n)))=((cA N0 c).f v).take (o*c.sz)++(s.flatMap c.f).take (min m n*c.sz)++((cA N0 c).f v).drop (o*c.sz+min m n*c.sz):=by
  rw[vOf_f c (by rw[lCp_len (by rw[e1,pO];have:=Nat.min_le_right m n;omega),pO]),FV,e1]
  have e3:(s.flatMap c.f).take (min m n*c.sz)=(s.take n).flatMap c.f:=by
   rw[jU c.f c.h]
   congr 1
   rcases Nat.le_total m n with h|h
   ·rw[tj h,jc (by omega),jc (by omega)]
   ·rw[Nat.min_eq_right h]
  rw[e3];rfl
 rw[e2];exact this
theorem sCpW {l s:List α}{r:List (Nat×List D)}(tok:TOk P tb)(ht:tb t=some ti)(he:tb e=some j)(hs:tC ⟨vs,lv,N⟩ (ev y) z m (s.flatMap c.f))(LD:s.length=m)(hv:vs.lookup k=some (dC ((cW c).f l)))(o:Nat)(Ca:o+n≤l.length)(hr:(k,dC ((cW c).f (lCp l o (s.take n))))::vs=r)(ho:off=o*c.sz:=by exact rfl)(CL:z=c.sz:=by exact rfl)(uq:ti.ty=.slice e:=by exact rfl)(hx:ev x=.ow k off z n:=by exact rfl)(hz:z=j.size:=by exact rfl):
  lh P tb md ⟨dst,.call ⟨.builtin .copy,#[x,y],#[t,t2]⟩,ty2,pos,af,gd⟩ ev ⟨vs,lv,N⟩ (dI .i64 (min m n:Nat)) ⟨r,lv,N⟩:=by
 subst ho CL hr
 have:=sCp (P:=P) (md:=md) (dst:=dst) (ty2:=ty2) (pos:=pos) (af:=af) (gd:=gd) (t2:=t2) (lv:=lv) tok ht he hs hv (by
  show _≤(l.flatMap c.f).length
  rw[iu c.f c.h,←bN];exact cc _ Ca) uq hx hz
 have e1:(s.take n).length=min m n:=by rw[eA,LD,Nat.min_comm]
 have e2:(cW c).f (lCp l o (s.take n))=((cW c).f l).take (o*c.sz)++(s.flatMap c.f).take (min m n*c.sz)++((cW c).f l).drop (o*c.sz+min m n*c.sz):=by
  show (lCp l o (s.take n)).flatMap c.f=_
  rw[FV,e1]
  have e3:(s.flatMap c.f).take (min m n*c.sz)=(s.take n).flatMap c.f:=by
   rw[jU c.f c.h]
   congr 1
   rcases Nat.le_total m n with h|h
   ·rw[tj h,jc (by omega),jc (by omega)]
   ·rw[Nat.min_eq_right h]
  rw[e3];rfl
 rw[e2];exact this
end
theorem WkS.free {tm:List (Nat×D)}{vs:List (Nat×List D)}{lv:List (Nat×Nat×Nat×TypeId)}{N k:Nat}{ds:List D}(hv:vs.lookup k=some ds):∀(B:Nat) (g:Gh) (w:World) (ρ:Nat→Value),HR B ⟨vs,lv,N⟩ g w→(∀t d,tm.lookup t=some d→aM ⟨vs,lv,N⟩ g w d (ρ t))→
  ∃g':Gh,g'=⟨g.μ,g.τ,fun p=>g.F p∧p.block≠g.μ k⟩∧HR B ⟨vs.filter fun p=>!([k]:List Nat).contains p.1,lv,N⟩ g' w∧bB ⟨vs,lv,N⟩ g w ⟨vs.filter fun p=>!([k]:List Nat).contains p.1,lv,N⟩ g' w∧(∀t d,tm.lookup t=some d→aM ⟨vs.filter fun p=>!([k]:List Nat).contains p.1,lv,N⟩ g' w d (ρ t))∧∀p:Addr,p.block<B→g.F p→g'.F p:=by
 intro B g w ρ hr gJ
 obtain⟨h1,h2,h3,cs,ty,h4,h5,h6⟩:=hr.var k _ hv
 have look:∀{j:Nat} {ds:List D},(vs.filter fun p=>!([k]:List Nat).contains p.1).lookup j=some ds→j≠k∧vs.lookup j=some ds:=by
  intro j ds h
  obtain⟨a,b⟩:=ja h
  exact⟨by simpa using a,b⟩
 have lK:∀{j:Nat} {ds:List D},j≠k→vs.lookup j=some ds→g.μ j≠g.μ k:=fun hj hl e=>hj (hr.inj _ _ _ _ hl hv e)
 have mo:bB ⟨vs,lv,N⟩ g w ⟨vs.filter fun p=>!([k]:List Nat).contains p.1,lv,N⟩ ⟨g.μ,g.τ,fun p=>g.F p∧p.block≠g.μ k⟩ w:=by
  refine⟨aI _,fun _ _ _=>rfl,fun _ _ h=>h.1,aI _,fun _ _=>rfl,fun _ _ m _ h=>⟨m,h,aI _,fun _=>rfl⟩,fun b hb hf=>⟨rfl,fun p hp hq=>⟨hq,?_⟩,fun j ds hj=>hf.1 j ds (look hj).2,hf.2⟩,fun _=>.same fun _=>rfl⟩
  rw[hp];exact fun e=>hf.1 k _ hv e.symm
 refine⟨_,rfl,⟨fun j ds hj=>?_,fun j j' ds ds' hj EZ he=>hr.inj j j' ds ds' (look hj).2 (look EZ).2 he,fun id m e hi=>?_,hr.tinj,hr.base,fun p hp=>hr.fits p hp.1⟩,mo,fun t' d hd=>(gJ t' d hd).mono mo,fun p hp hq=>⟨hq,?_⟩⟩
 ·obtain⟨a1,a2⟩:=look hj
  obtain⟨b1,b2,b3,rM,G6,b4,b5,b6⟩:=hr.var j ds a2
  exact⟨b1,b2,fun p hp=>⟨b3 p hp,by rw[hp];exact lK a1 a2⟩,rM,G6,b4,b5,fun i u hu=>⟨(b6 i u hu).1,fun d hd=>((b6 i u hu).2 d hd).mono mo⟩⟩
 ·obtain⟨b1,us,b2,b3,b4⟩:=hr.tok id m e hi
  exact⟨b1,us,b2,b3,fun b hb=>⟨fun p hp hq=>⟨(b4 b hb).1 p hp hq,by rw[hp];exact fun e=>(b4 b hb).2 k _ hv e.symm⟩,fun j ds hj=>(b4 b hb).2 j ds (look hj).2⟩⟩
 ·intro e
  omega
theorem z5 {tm:List (Nat×D)}{d0:D}:∀{ts:List Nat} {t:Nat} {d:D},(ts.map (fun t=>(t,d0))++tm).lookup t=some d→(t∈ts∧d=d0)∨tm.lookup t=some d
 |[],t,d,h=>.inr h
 |s::ts,t,d,h=>by
  by_cases v3:t=s
  ·subst v3
   have:some d0=some d:=by rw[←h];exact ai.symm
   injection this with this
   exact .inl ⟨lq ..,this.symm⟩
  ·rcases z5 (ts:=ts) (t:=t) (d:=d) (by rw[←h];exact (au v3).symm) with⟨h1,h2⟩|h1
   ·exact .inl ⟨mA _ h1,h2⟩
   ·exact .inr h1
theorem WkS.frzs {tm:List (Nat×D)}{vs:List (Nat×List D)}{lv:List (Nat×Nat×Nat×TypeId)}{N k z n:Nat}{F:List E}(ts:List Nat)(hz:0<z)(ht:∀t∈ts,tm.lookup t=some (.ow k 0 z n))(hv:vs.lookup k=some (dC F))(hF:F.length=n*z):
  WkS tm ⟨vs,lv,N⟩ (ts.map (fun t=>(t,.e (.sl z n F)))++tm) ⟨vs.filter fun p=>!([k]:List Nat).contains p.1,lv,N⟩:=by
 intro B g w ρ hr gJ
 have one:∀t∈ts,∃g',(g':Gh)=⟨g.μ,g.τ,fun p=>g.F p∧p.block≠g.μ k⟩∧aM ⟨vs.filter fun p=>!([k]:List Nat).contains p.1,lv,N⟩ g' w (.e (.sl z n F)) (ρ t):=by
  intro t LC
  refine⟨_,rfl,?_⟩
  obtain⟨h1,h2,h3,cs,ty,h4,h5,h6⟩:=hr.var k _ hv
  have cE:=gJ t _ (ht t LC)
  generalize ρ t=u at cE
  cases cE with
  |ow _ _ _ _ c hk nJ mQ=>
   have oW:F.length≤cs.size:=by rw[fH] at h5;exact h5
   refine .e _ _ (.sl z n F (some ⟨g.μ k,0,none⟩) c (fun i=>cs.getD i undef) hF hz nJ mQ (fun _=>⟨_,rfl,(f7.1 h4).1⟩) (fun ad ha i e hi=>?_) (fun i e hi=>?_))
   ·injection ha with ha
    subst ha
    have bz:i<cs.size:=bG (lX.1 hi).1 oW
    refine⟨?_,fun hf=>hf.2 (by rw[gk])⟩
    have e0:w.cell? (({block:=g.μ k,off:=0,spot:=none}:Addr).add i)=cs[0+i]? :=by
     by_cases h0:i=0
     ·subst h0;simp[World.cell?,Addr.add,h4]
     ·simp[World.cell?,Addr.add,h4,h0]
    rw[e0,bE]
    simp[cz,bz]
   ·have bz:i<cs.size:=bG (lX.1 hi).1 oW
    have hu:=h6 i (cs.getD i undef) (by simp[cz,bz])
    have:=hu.2 (.e e) (by unfold dC;rw[cF,hi];rfl)
    cases this with
    |e _ _ h7=>exact cC.less h7 fun p hp=>hp.1
 obtain⟨g',hg',q1,q2,q3,q4⟩:=WkS.free (lv:=lv) (N:=N) (tm:=tm) (k:=k) hv B g w ρ hr gJ
 subst hg'
 refine⟨_,q1,q2,fun t d hd=>?_,q4⟩
 rcases z5 hd with⟨h1,rfl⟩|h1
 ·obtain⟨g',hg',h2⟩:=one t h1
  subst hg'
  exact h2
 ·exact q3 t d h1
theorem WkS.frzG {α:Type}(c:Cd α){l:List α}{tm:List (Nat×D)}{vs:List (Nat×List D)}{lv:List (Nat×Nat×Nat×TypeId)}{N k n:Nat}(ts:List Nat)(hn:n=l.length)(ht:∀t∈ts,tm.lookup t=some (.ow k 0 c.sz n))(hv:vs.lookup k=some (dC ((cW c).f l)))(hz:Nat.ble 1 c.sz=true:=by exact rfl):
  WkS tm ⟨vs,lv,N⟩ (ts.map (fun t=>(t,.e (slE c l)))++tm) ⟨vs.filter fun p=>!([k]:List Nat).contains p.1,lv,N⟩:=by
 subst hn
 exact WkS.frzs ts (cg hz) ht hv (iu c.f c.h l)
end
end
section
section
variable {P:Program} {tb:TypeId→Option TyE} {dr:Bool} {ev:Operand→D} {hp:Hp} {ty:TypeId} {α:Type}
theorem qp {t e:TypeId}{i j:TyE}{n:Nat}{ps:List (Nat×Operand)}(l:List α)(c:Cd α)(ht:tb t=some i)(he:tb e=some j)(hi:i.ty=.slice e:=by exact rfl)(hz:c.sz=j.size:=by exact rfl)(HK:Nat.ble (0+1) (j.size)=true:=by exact rfl)(HY:l.length=n+1:=by exact rfl)(hn:Nat.ble ((n+1)*j.size) (16777216)=true:=by exact rfl)(hp1:jo (ps.map fun p=>(p.1,ev p.2))=some ((l.zipIdx 0).map fun p=>(p.2,dC (c.f p.1))):=by exact rfl)(hd:dr=true:=by exact rfl):
  AVC P tb dr (.buildSlice t (n+1) ps.toArray) ty ev hp (Kq (dF c l) hp):=by
 have hf:=xC c hz l 0 [] (List.replicate ((n+1)*j.size) (D.e .any)) (by simp) (by rw[qB,HY])
 rw[oN,oN] at hf
 have:=xZ (P:=P) (dr:=dr) (ty:=ty) (ev:=ev) (hp:=hp) ht he hi HK hn hp1 hf (xH _) hd
 show AVC _ _ _ _ _ _ _ (Kq (.fu c.sz l.length (l.flatMap c.f)) _)
 rw[hz,HY]
 exact this
end
end
section
def Way(ops:Array Oper):List Nat→Array Bool→Prop
 |[],s=>Region.ready .any ops s=[]
 |i::l,s=>i∈Region.ready .any ops s∧Way ops l (s.setIfInBounds i true)
def Bfr(a b:Nat):List Nat→Array Bool→Prop
 |[],_=>True
 |i::l,s=>(i=b→s.getD a false=true)∧Bfr a b l (s.setIfInBounds i true)
theorem ku {ops:Array Oper}{s:Array Bool}{i:Nat}:i∈Region.ready .any ops s↔i<ops.size∧s.getD i true=false∧∃o,ops[i]? =some o∧∀e∈o.after,Region.binds .any e=true→s.getD e.on false=true:=by
 unfold Region.ready
 rw[List.mem_filter,AP]
 refine and_congr_right fun h=>?_
 rw[iB,u4]
 refine and_congr_right fun _=>?_
 cases ho:ops[i]? with
 |none=>simp
 |some o=>
  simp only[mz,wj,II,Bool.or_eq_true,u4,my,exists_eq_left']
  refine forall_congr' fun e=>forall_congr' fun _=>?_
  cases Region.binds .any e <;> simp
theorem NV {s:Array Bool}{i j:Nat}(h:s.getD j false=true):(s.setIfInBounds i true).getD j false=true:=by
 simp only[cz] at h ⊢
 rw[Em]
 split
 ·rename_i e
  subst e
  split
  ·rfl
  ·rename_i hs
   rw[Ev (by omega)] at h
   simp at h
 ·exact h
theorem CP {s:Array Bool}{i:Nat}(h:i<s.size):(s.setIfInBounds i true).getD i false=true:=by
 simp[cz,Em,h]
theorem Bfr.of {a b:Nat}:∀(l:List Nat) (s:Array Bool),s.getD a false=true→Bfr a b l s
 |[],_,_=>trivial
 |_::l,_,h=>⟨fun _=>h,Bfr.of l _ (NV h)⟩
theorem OB {ops:Array Oper}{a b:Nat}(As:a≠b):∀(l:List Nat) (s:Array Bool),s.size=ops.size→Way ops l s→Bfr a b l s∨Bfr b a l s
 |[],_,_,_=>.inl trivial
 |i::l,s,hs,⟨h1,h2⟩=>by
  have hi:=(ku.1 h1).1
  by_cases ha:i=a
  ·subst ha
   exact .inl ⟨fun h=>absurd h As,Bfr.of l _ (CP (by omega))⟩
  ·by_cases hb:i=b
   ·subst hb
    exact .inr ⟨fun h=>absurd h.symm As,Bfr.of l _ (CP (by omega))⟩
   ·rcases OB As l (s.setIfInBounds i true) (by simpa using hs) h2 with h|h
    ·exact .inl ⟨fun h=>absurd h hb,h⟩
    ·exact .inr ⟨fun h=>absurd h ha,h⟩
theorem LS {ops:Array Oper}:∀(fuel t:Nat) (s:Array Bool),s.size=ops.size→unl s ops.size≤fuel→Way ops (Region.linearise.go .any ops fuel t s []) s
 |0,t,s,hs,hu=>by
  show Region.ready .any ops s=[]
  rw[OL]
  intro i hi
  obtain⟨h1,h2,_⟩:=ku.1 hi
  have:i∈(List.range ops.size).filter fun j=>!s.getD j false:=by
   rw[List.mem_filter,AP]
   refine⟨h1,?_⟩
   have bz:i<s.size:=by omega
   have e1:s[i]?.getD true=false:=by rw[←cz];exact h2
   rw[cz]
   rw[lI bz] at e1 ⊢
   simp at e1 ⊢
   exact e1
  have hlen:=List.length_pos_of_mem this
  unfold unl at hu
  omega
 |fuel+1,t,s,hs,hu=>by
  simp only[Region.linearise.go]
  change Way ops (match (Region.ready .any ops s)[t % (Region.ready .any ops s).length]? with
   |some i=>Region.linearise.go .any ops fuel (t / (Region.ready .any ops s).length) (s.setIfInBounds i true) [i]
   |none=>[].reverse) s
  cases hi:(Region.ready .any ops s)[t % (Region.ready .any ops s).length]? with
  |none=>
   show Region.ready .any ops s=[]
   cases hr:Region.ready .any ops s with
   |nil=>rfl
   |cons x xs=>
    rw[hr] at hi
    have bz:t % (x::xs).length<(x::xs).length:=c6 _ (by simp)
    rw[eg bz] at hi
    cases hi
  |some i=>
   simp only[]
   rw[linearise_go_acc,List.reverse_singleton,List.singleton_append]
   have hm:=bO hi
   obtain⟨h1,h2,_⟩:=ku.1 hm
   have bz:i<s.size:=by omega
   have hf:s.getD i false=false:=by
    have e1:s[i]?.getD true=false:=by rw[←cz];exact h2
    rw[cz]
    rw[lI bz] at e1 ⊢
    simpa using e1
   exact⟨hm,LS fuel _ _ (by simpa using hs) (by have:=Dp (n:=ops.size) h1 bz hf;omega)⟩
theorem Cp {P:Program}{ops:Array Oper}{Q:Exit→Act→World→Prop}:∀(l:List Nat) (fuel:Nat) (s:Array Bool) (a:Act) (w:World),wpAny P .any ops Q fuel s a w→Way ops l s→wpOps P ops Q l a w
 |[],0,_,_,_,h,_=>by simpa[wpOps] using h.2
 |[],_+1,_,_,_,h,hw=>by simpa[wpOps] using h.1 hw
 |i::l,0,_,_,_,h,hw=>by
  have:=hw.1
  rw[h.1] at this
  cases this
 |i::l,fuel+1,s,a,w,h,hw=>by
  rw[wpOps_cons]
  exact wpOp_mono (fun a w h=>Cp l fuel _ a w h hw.2) (h.2 i hw.1)
def lx:List Oper→Nat→Oper
 |[],_=>default
 |o::_,0=>o
 |_::l,n+1=>lx l n
def j6:List Nat→Nat→Nat
 |[],_=>0
 |j::l,i=>match Nat.beq j i with
  |true=>0
  |false=>j6 l i+1
def FK(p:List Nat)(i:Nat):List (Nat×Nat)→List Edge
 |[]=>[]
 |(a,b)::C=>match Nat.beq b i with
  |true=>⟨j6 p a,.data⟩::FK p i C
  |false=>FK p i C
def lg(p:List Nat)(C:List (Nat×Nat))(i:Nat)(o:Oper):Oper:=⟨o.dst,o.op,o.type,o.pos,((o.after.toList.map fun e=>(⟨j6 p e.on,e.ground⟩:Edge))++FK p i C).toArray,none⟩
def dq(p:List Nat)(C:List (Nat×Nat))(l:List Oper):List Oper:=p.map fun i=>lg p C i (lx l i)
def Jq(p:List Nat)(l:List Oper):Bool:=Nat.beq p.length l.length&&(List.range l.length).all (fun i=>p.elem i)&&(l.all fun o=>o.guard.isNone)&&p.all (fun i=>Nat.blt i l.length)&&(List.range l.length).all fun k=>(List.range l.length).any fun i=>Nat.beq (j6 p i) k
theorem me:∀{p:List Nat} {i:Nat},i∈p→j6 p i<p.length∧p[j6 p i]? =some i
 |j::p,i,h=>by
  unfold j6
  cases hb:Nat.beq j i with
  |true=>exact⟨by simp,by simpa using u5 hb⟩
  |false=>
   have lK:¬i=j:=by
    intro e;subst e
    have:Nat.beq i i=true:=Ew i
    rw[this] at hb;cases hb
   rcases jI.1 h with h|h
   ·exact absurd h lK
   ·obtain⟨h1,h2⟩:=me h
    exact⟨by simpa using h1,by simpa using h2⟩
theorem KL {p:List Nat}{i j:Nat}(hi:i∈p)(hj:j∈p)(h:j6 p i=j6 p j):i=j:=by
 have h1:=(me hi).2
 rw[h,(me hj).2] at h1
 injection h1 with h1
 exact h1.symm
theorem MC {l:List Oper}{o:Oper}:∀{i:Nat},l[i]? =some o→lx l i=o:=by
 induction l with
 |nil=>intro i h;simp at h
 |cons o' l ih=>
  intro i h
  cases i with
  |zero=>rw[Iz] at h;injection h
  |succ i=>rw[IH] at h;exact ih h
theorem xe {p:List Nat}{i:Nat}{e:Edge}:∀{C:List (Nat×Nat)},e∈FK p i C→∃a,(a,i)∈C∧e=⟨j6 p a,.data⟩
 |(a,b)::C,h=>by
  unfold FK at h
  cases hb:Nat.beq b i with
  |true=>
   rw[hb] at h
   obtain rfl:=u5 hb
   rcases jI.1 h with rfl|h
   ·exact⟨a,lq ..,rfl⟩
   ·obtain⟨a',h1,h2⟩:=xe h
    exact⟨a',mA _ h1,h2⟩
  |false=>
   rw[hb] at h
   obtain⟨a',h1,h2⟩:=xe h
   exact⟨a',mA _ h1,h2⟩
structure GY(p:List Nat)(l:List Oper):Prop where
 len:p.length=l.length
 mem:∀i,i<l.length→i∈p
 gd:∀o∈l,o.guard=none
 bd:∀i∈p,i<l.length
 inv:∀k,k<l.length→∃i,i<l.length∧j6 p i=k
theorem Ht {p:List Nat}{l:List Oper}(h:Jq p l=true):GY p l:=by
 unfold Jq at h
 simp only[iB,b7,AP] at h
 obtain⟨⟨⟨⟨h1,h2⟩,h3⟩,h4⟩,h5⟩:=h
 refine⟨u5 h1,fun i hi=>by simpa using h2 i hi,fun o ho=>by simpa using h3 o ho,fun i hi=>?_,fun k hk=>?_⟩
 ·exact cg (h4 i hi)
 ·obtain⟨i,hi,hb⟩:=List.any_eq_true.1 (h5 k hk)
  exact⟨i,AP.1 hi,u5 hb⟩
section
variable {P:Program} {p:List Nat} {C:List (Nat×Nat)} {l:List Oper}
theorem GY.get(h:GY p l){i:Nat}{o:Oper}(ho:l[i]? =some o):(dq p C l).toArray[j6 p i]? =some (lg p C i o):=by
 have hi:i<l.length:=(lX.1 ho).1
 obtain⟨_,h2⟩:=me (h.mem i hi)
 unfold dq
 rw[xP,cF,h2,mz,MC ho]
theorem Kw(h:GY p l){Q:Exit→Act→World→Prop}{K:Act→World→Prop}{i:Nat}(hi:i<l.length){a:Act}{w:World}(hw:wpOp P (dq p C l).toArray Q (j6 p i) K a w):wpOp P l.toArray Q i K a w:=by
 have ho:l[i]? =some l[i]:=eg hi
 unfold wpOp at hw ⊢
 rw[h.get ho] at hw
 rw[xP,ho]
 generalize hoo:l[i]=o at hw ho ⊢
 have hg:=h.gd o (bO ho)
 obtain⟨dst,op,ty,pos,af,gd⟩:=o
 simp only at hg
 subst hg
 exact hw
theorem zu(h:GY p l){Q:Exit→Act→World→Prop}:∀(is:List Nat) (a:Act) (w:World),(∀i∈is,i<l.length)→wpOps P (dq p C l).toArray Q (is.map (j6 p)) a w→wpOps P l.toArray Q is a w
 |[],a,w,_,hw=>hw
 |i::is,a,w,hi,hw=>by
  rw[e8,wpOps_cons] at hw
  rw[wpOps_cons]
  exact Kw h (hi i (lq ..)) (wpOp_mono (fun a w h'=>zu h is a w (fun i wH=>hi i (mA _ wH)) h') hw)
structure Bo(p:List Nat)(n:Nat)(s s':Array Bool):Prop where
 s1:s.size=n
 s2:s'.size=n
 eq:∀i,i<n→s'[j6 p i]? =s[i]?
theorem Bo.set(h:GY p l){s s':Array Bool}(hs:Bo p l.length s s'){i:Nat}(hi:i<l.length):Bo p l.length (s.setIfInBounds i true) (s'.setIfInBounds (j6 p i) true):=by
 refine⟨by simpa using hs.s1,by simpa using hs.s2,fun j hj=>?_⟩
 rw[Em,Em]
 have hpi:j6 p i<s'.size:=by rw[hs.s2,←h.len];exact (me (h.mem i hi)).1
 by_cases LI:i=j
 ·subst LI
  rw[ao rfl,ao rfl,ao hpi,ao (by rw[hs.s1];exact hi)]
 ·rw[aq LI,aq (fun e=>LI (KL (h.mem i hi) (h.mem j hj) e))]
  exact hs.eq j hj
theorem Bo.getD(h:GY p l){s s':Array Bool}(hs:Bo p l.length s s'){j:Nat}(d:Bool)(hj:j<l.length):s'.getD (j6 p j) d=s.getD j d:=by
 rw[cz,cz,hs.eq j hj]
theorem xl {s:Array Bool}{j:Nat}(h:s.getD j false=true):j<s.size:=by
 rcases bZ j s.size with h1|h1
 ·exact h1
 ·rw[cz,Ev h1] at h;cases h
theorem E6(h:GY p l):∀(is:List Nat) (s s':Array Bool),Bo p l.length s s'→Way l.toArray is s→(∀c∈C,Bfr c.1 c.2 is s)→Way (dq p C l).toArray (is.map (j6 p)) s'
 |[],s,s',hs,hw,_=>by
  show Region.ready _ _ _=[]
  rw[OL]
  intro k hk
  obtain⟨h1,h2,o',h3,h4⟩:=ku.1 hk
  have hkp:k<p.length:=by
   have:(dq p C l).length=p.length:=bS _
   simpa[this] using h1
  -- the operation at k is the one that stood at i
  have hik:=h.inv k (by rw[←h.len];exact hkp)
  obtain⟨i,hi,rfl⟩:=hik
  have ho:l[i]? =some l[i]:=eg hi
  rw[h.get ho] at h3
  injection h3 with h3
  subst h3
  have:i∈Region.ready .any l.toArray s:=by
   refine ku.2 ⟨by simpa using hi,by rw[←hs.getD h true hi];exact h2,l[i],by rw[xP];exact ho,fun e he hb=>?_⟩
   have h5:=h4 ⟨j6 p e.on,e.ground⟩ (by
    unfold lg
    rw[Ek]
    exact List.mem_append_left _ (mm.2 ⟨e,by simpa using he,rfl⟩)) hb
   have bz:j6 p e.on<l.length:=by rw[←hs.s2];exact xl h5
   by_cases Nx:e.on∈p
   ·-- it is one of the operations
    have hon:e.on<l.length:=h.bd _ Nx
    rwa[hs.getD h false hon] at h5
   ·exfalso
    have:j6 p e.on=p.length:=by
     have gen:∀(q:List Nat),e.on∉q→j6 q e.on=q.length:=by
      intro q
      induction q with
      |nil=>intro _;rfl
      |cons j q ih=>
       intro hq
       have lK:Nat.beq j e.on=false:=by
        cases hb:Nat.beq j e.on with
        |true=>exact absurd (jI.2 (.inl (u5 hb).symm)) hq
        |false=>rfl
       unfold j6
       rw[lK]
       simp only[lH]
       rw[ih fun hh=>hq (mA _ hh)]
     exact gen p Nx
    rw[this,h.len] at bz
    omega
  rw[show Region.ready .any l.toArray s=[] from hw] at this
  cases this
 |i::is,s,s',hs,⟨h1,h2⟩,hC=>by
  obtain⟨hi0,H2,o,ho,he⟩:=ku.1 h1
  have hi:i<l.length:=by simpa using hi0
  rw[xP] at ho
  refine⟨ku.2 ⟨?_,by rw[hs.getD h true hi];exact H2,_,h.get ho,fun e hm hb=>?_⟩,E6 h is _ _ (hs.set h hi) h2 fun c hc=>(hC c hc).2⟩
  ·have:(dq p C l).length=p.length:=bS _
   simp only[jY,this]
   exact (me (h.mem i hi)).1
  ·unfold lg at hm
   rw[Ek] at hm
   rcases tq.1 hm with hm|hm
   ·obtain⟨e0,he0,rfl⟩:=mm.1 hm
    have h6:=he e0 (by simpa using he0) hb
    have bz:e0.on<l.length:=by rw[←hs.s1];exact xl h6
    rw[hs.getD h false bz];exact h6
   ·obtain⟨a,G8,rfl⟩:=xe hm
    have h6:=(hC _ G8).1 rfl
    have bz:a<l.length:=by rw[←hs.s1];exact xl h6
    rw[hs.getD h false bz];exact h6
end
section
variable {P:Program} {tb:TypeId→Option TyE} {x:Cx} {tm:List (Nat×D)} {hp:Hp} {Q:Exit→List (Nat×D)→Hp→Prop} {L:List FuncId} {C:List (Nat×Nat)} {l:List Oper}
def DW(P:Program)(x:Cx)(l:List Oper)(C:List (Nat×Nat))(tm:List (Nat×D))(hp:Hp)(Q:Exit→List (Nat×D)→Hp→Prop):Prop:=
 ∀(a:Act) (w:World) (is:List Nat),RS x tm hp a w→(∀i∈is,i<l.length)→Way l.toArray is (Array.replicate l.length false)→(∀c∈C,Bfr c.1 c.2 is (Array.replicate l.length false))→wpOps P l.toArray (fun ex a' w'=>∃tm' hp',RS x tm' hp' a' w'∧Q ex tm' hp') is a w
theorem RS.drew {a:Act}{w:World}(h:RS x tm hp a w):RS x tm hp a {w with drawn:=w.drawn+1}:=by
 obtain⟨g,hr,gJ,hsz,qI,hB,hF,hM⟩:=h
 exact⟨g,hr.keep (aI _) (fun _ _=>rfl),fun t d hl=>(gJ t d hl).mono (bB.keep hp g (aI _) (fun _ _=>rfl)),hsz,qI,hB.drew,hF,hM.trans (bB.keep hp g (aI _) (fun _ _=>rfl))⟩
theorem LR {ops:Array Oper}:∀(is:List Nat) (s:Array Bool),Way ops is s→∀i∈is,i<ops.size
 |[],_,_,_,h=>by cases h
 |j::is,s,hw,i,h=>by
  rcases jI.1 h with rfl|h
  ·exact (ku.1 hw.1).1
  ·exact LR is _ hw.2 i h
theorem AW.dw {id:Nat}(hm:P.follows .mixedOrders=true)(h:DW P x l [] tm hp Q):AW P x (.region id l.toArray true) tm hp Q:=by
 intro a w hr
 refine wp_region_draw fun t=>?_
 simp only[Region.schedule,hm,Bool.true_or,bk]
 have hway:=LS (ops:=l.toArray) l.toArray.size t (Array.replicate l.toArray.size false) (by simp) (by unfold unl;exact cG (Et _ _) (by simp))
 have bz:=LR _ _ hway
 simp only[jY] at hway bz
 exact h a _ _ hr.drew bz hway (fun c hc=>by cases hc)
theorem DW.split(a b:Nat)(As:a≠b)(h1:DW P x l ((a,b)::C) tm hp Q)(h2:DW P x l ((b,a)::C) tm hp Q):DW P x l C tm hp Q:=by
 intro ac w is hr bz hw hC
 rcases OB As is _ (by simp) hw with h|h
 ·exact h1 ac w is hr bz hw fun c hc=>by
   rcases jI.1 hc with rfl|hc
   ·exact h
   ·exact hC c hc
 ·exact h2 ac w is hr bz hw fun c hc=>by
   rcases jI.1 hc with rfl|hc
   ·exact h
   ·exact hC c hc
theorem Hb {ops:Array Oper}(hN:i3 x.N ops=true)(oz:ui tb L ops=true)
  (h:∀K:List (Nat×D)→Hp→Prop,(∀tm hp,Q .normal tm hp→K tm hp)→bt P tb (.any L) ops K ops.toList tm hp) {a:Act} {w:World} (hr:RS x tm hp a w):wpAny P .any ops (fun ex a' w'=>∃tm' hp',RS x tm' hp' a' w'∧Q ex tm' hp') ops.size (Array.replicate ops.size false) a w:=by
 obtain⟨dd,hh,ac,tms,bD,hK,h1,h2⟩:=Hn (ops:=ops) ops.toList 0 (fun _=>.top) (fun _=>hp) (fun _=>false) (fun _=>tm) ⟨fun _ _ h=>absurd h (by omega),fun _ _ h=>absurd h (by omega),fun _ _ h=>absurd h (by omega)⟩ rfl (h _ fun _ _ h=>h)
 simp only[bE,dT] at bD hK h1 h2
 obtain⟨g,Nb,gJ,hsz,qI,hB,hF,hM⟩:=hr
 refine E5 hN (zS oz) bD (fun a w hr=>⟨_,_,hr,hK⟩) ops.size _ a _ 0 g ?_ ?_
 ·have wF:∀j,¬(Array.replicate ops.size false).getD j false=true:=by
   intro j
   simp[cz,Eu]
   split <;> simp
  refine⟨by simp,fun i _ _ _ hl=>absurd hl (wF i),de _,fun j _ _ _=>⟨fun hl=>absurd hl (wF j),fun h=>absurd h (by omega)⟩,?_,fun t d hl=>?_,hsz,qI,hB,hF,?_⟩
  rotate_right
  ·rw[h2];exact hM
  ·rw[h2];exact Nb
  ·rw[h2]
   rcases hl with⟨i,_,_,hl,_⟩|⟨_,hl⟩
   ·exact absurd hl (wF i)
   ·rw[h1] at hl
    exact gJ t d hl
 ·unfold unl
  exact cG (Et _ _) (by simp)
theorem DW.go(p:List Nat)(hp1:Jq p l=true)(hN:i3 x.N (dq p C l).toArray=true)(oz:ui tb L (dq p C l).toArray=true)
  (h:∀K:List (Nat×D)→Hp→Prop,(∀tm hp,Q .normal tm hp→K tm hp)→bt P tb (.any L) (dq p C l).toArray K (dq p C l) tm hp):DW P x l C tm hp Q:=by
 intro a w is hr bz hw hC
 have hP:=Ht hp1
 have h1:=Hb hN oz h hr
 have hlen:(dq p C l).toArray.size=l.length:=by simp[dq,hP.len]
 rw[hlen] at h1
 have hs0:Bo p l.length (Array.replicate l.length false) (Array.replicate l.length false):=by
  refine⟨by simp,by simp,fun i hi=>?_⟩
  have:=(me (hP.mem i hi)).1
  rw[Eu,Eu,ao hi,ao (by rw[←hP.len];exact this)]
 exact zu hP is a w bz (Cp _ _ _ a w h1 (E6 hP is _ _ hs0 hw hC))
end
end
def tblL:List (Nat×TyE):=[
 (2,⟨.int .i64,1,8,[.int .i64 (0)]⟩),
 (3,⟨.int .i64,1,8,[.int .i64 (0)]⟩),
 (4,⟨.bool,1,1,[.bool false]⟩),
 (5,⟨.int .u8,1,1,[.int .u8 (0)]⟩),
 (9,⟨.str,1,16,[.string ⟨#[]⟩]⟩),
 (12,⟨.int .u64,1,8,[.int .u64 (0)]⟩),
 (13,⟨.struct [(0,9),(1,12)],2,24,[.string ⟨#[]⟩,.int .u64 (0)]⟩),
 (21,⟨.int .i32,1,4,[.int .i32 (0)]⟩),
 (22,⟨.slice 34,1,24,[.slice none 0 0]⟩),
 (23,⟨.struct [(0,3),(1,3),(2,22)],3,40,[.int .i64 (0),.int .i64 (0),.slice none 0 0]⟩),
 (24,⟨.struct [(0,3),(1,3),(2,22)],3,40,[.int .i64 (0),.int .i64 (0),.slice none 0 0]⟩),
 (26,⟨.int .i64,1,8,[.int .i64 (0)]⟩),
 (29,⟨.int .u32,1,4,[ae]⟩),
 (30,⟨.arr 16 29,16,64,[ae,ae,ae,ae,ae,ae,ae,ae,ae,ae,ae,ae,ae,ae,ae,ae]⟩),
 (31,⟨.struct [(0,4),(1,4),(2,30)],18,68,[.bool false,.bool false,ae,ae,ae,ae,ae,ae,ae,ae,ae,ae,ae,ae,ae,ae,ae,ae]⟩),
 (32,⟨.struct [(0,4),(1,4),(2,30)],18,68,[.bool false,.bool false,ae,ae,ae,ae,ae,ae,ae,ae,ae,ae,ae,ae,ae,ae,ae,ae]⟩),
 (33,⟨.struct [(0,32),(18,32)],36,136,[.bool false,.bool false,ae,ae,ae,ae,ae,ae,ae,ae,ae,ae,ae,ae,ae,ae,ae,ae,.bool false,.bool false,ae,ae,ae,ae,ae,ae,ae,ae,ae,ae,ae,ae,ae,ae,ae,ae]⟩),
 (34,⟨.struct [(0,32),(18,32)],36,136,[.bool false,.bool false,ae,ae,ae,ae,ae,ae,ae,ae,ae,ae,ae,ae,ae,ae,ae,ae,.bool false,.bool false,ae,ae,ae,ae,ae,ae,ae,ae,ae,ae,ae,ae,ae,ae,ae,ae]⟩),
 (35,⟨.slice 3,1,24,[.slice none 0 0]⟩),
 (44,⟨.struct [(0,24),(3,35),(4,22),(5,4),(6,26),(7,3)],8,112,[.int .i64 (0),.int .i64 (0),.slice none 0 0,.slice none 0 0,.slice none 0 0,.bool false,.int .i64 (0),.int .i64 (0)]⟩),
 (45,⟨.struct [(0,24),(3,35),(4,22),(5,4),(6,26),(7,3)],8,112,[.int .i64 (0),.int .i64 (0),.slice none 0 0,.slice none 0 0,.slice none 0 0,.bool false,.int .i64 (0),.int .i64 (0)]⟩),
 (47,⟨.struct [(0,34),(36,26)],37,144,[.bool false,.bool false,ae,ae,ae,ae,ae,ae,ae,ae,ae,ae,ae,ae,ae,ae,ae,ae,.bool false,.bool false,ae,ae,ae,ae,ae,ae,ae,ae,ae,ae,ae,ae,ae,ae,ae,ae,.int .i64 (0)]⟩),
 (48,⟨.struct [(0,34),(36,26)],37,144,[.bool false,.bool false,ae,ae,ae,ae,ae,ae,ae,ae,ae,ae,ae,ae,ae,ae,ae,ae,.bool false,.bool false,ae,ae,ae,ae,ae,ae,ae,ae,ae,ae,ae,ae,ae,ae,ae,ae,.int .i64 (0)]⟩),
 (52,⟨.slice 22,1,24,[.slice none 0 0]⟩),
 (55,⟨.struct [(0,52),(1,26)],2,32,[.slice none 0 0,.int .i64 (0)]⟩),
 (56,⟨.struct [(0,52),(1,26)],2,32,[.slice none 0 0,.int .i64 (0)]⟩),
 (60,⟨.struct [(0,4),(1,26)],2,16,[.bool false,.int .i64 (0)]⟩),
 (61,⟨.struct [(0,4),(1,26)],2,16,[.bool false,.int .i64 (0)]⟩),
 (64,⟨.struct [(0,24),(3,26)],4,48,[.int .i64 (0),.int .i64 (0),.slice none 0 0,.int .i64 (0)]⟩),
 (65,⟨.struct [(0,24),(3,26)],4,48,[.int .i64 (0),.int .i64 (0),.slice none 0 0,.int .i64 (0)]⟩),
 (71,⟨.struct [(0,22),(1,26)],2,32,[.slice none 0 0,.int .i64 (0)]⟩),
 (72,⟨.struct [(0,22),(1,26)],2,32,[.slice none 0 0,.int .i64 (0)]⟩),
 (95,⟨.slice 102,1,24,[.slice none 0 0]⟩),
 (96,⟨.struct [(0,24),(3,95)],4,64,[.int .i64 (0),.int .i64 (0),.slice none 0 0,.slice none 0 0]⟩),
 (97,⟨.struct [(0,24),(3,95)],4,64,[.int .i64 (0),.int .i64 (0),.slice none 0 0,.slice none 0 0]⟩),
 (101,⟨.struct [(0,3),(1,34),(37,4)],38,152,[.int .i64 (0),.bool false,.bool false,ae,ae,ae,ae,ae,ae,ae,ae,ae,ae,ae,ae,ae,ae,ae,ae,.bool false,.bool false,ae,ae,ae,ae,ae,ae,ae,ae,ae,ae,ae,ae,ae,ae,ae,ae,.bool false]⟩),
 (102,⟨.struct [(0,3),(1,34),(37,4)],38,152,[.int .i64 (0),.bool false,.bool false,ae,ae,ae,ae,ae,ae,ae,ae,ae,ae,ae,ae,ae,ae,ae,ae,.bool false,.bool false,ae,ae,ae,ae,ae,ae,ae,ae,ae,ae,ae,ae,ae,ae,ae,ae,.bool false]⟩),
 (122,⟨.slice 24,1,24,[.slice none 0 0]⟩),
 (130,⟨.int .u64,1,8,[.int .u64 (0)]⟩),
 (134,⟨.arr 32 29,32,128,[ae,ae,ae,ae,ae,ae,ae,ae,ae,ae,ae,ae,ae,ae,ae,ae,ae,ae,ae,ae,ae,ae,ae,ae,ae,ae,ae,ae,ae,ae,ae,ae]⟩),
 (136,⟨.int .u64,1,8,[.int .u64 (0)]⟩),
 (137,⟨.slice 29,1,24,[.slice none 0 0]⟩),
 (149,⟨.slice 32,1,24,[.slice none 0 0]⟩),
 (172,⟨.arr 17 29,17,68,[ae,ae,ae,ae,ae,ae,ae,ae,ae,ae,ae,ae,ae,ae,ae,ae,ae]⟩)
]
def tbl(t:TypeId):Option TyE:=tblL.lookup t
theorem tb_2:tbl 2=some ⟨.int .i64,1,8,[.int .i64 (0)]⟩:=rfl
theorem aR:tbl 3=some ⟨.int .i64,1,8,[.int .i64 (0)]⟩:=rfl
theorem ge:tbl 4=some ⟨.bool,1,1,[.bool false]⟩:=rfl
theorem L1:tbl 5=some ⟨.int .u8,1,1,[.int .u8 (0)]⟩:=rfl
theorem tb_9:tbl 9=some ⟨.str,1,16,[.string ⟨#[]⟩]⟩:=rfl
theorem tb_12:tbl 12=some ⟨.int .u64,1,8,[.int .u64 (0)]⟩:=rfl
theorem tb_13:tbl 13=some ⟨.struct [(0,9),(1,12)],2,24,[.string ⟨#[]⟩,.int .u64 (0)]⟩:=rfl
theorem tb_21:tbl 21=some ⟨.int .i32,1,4,[.int .i32 (0)]⟩:=rfl
theorem aJ:tbl 22=some ⟨.slice 34,1,24,[.slice none 0 0]⟩:=rfl
theorem tb_23:tbl 23=some ⟨.struct [(0,3),(1,3),(2,22)],3,40,[.int .i64 (0),.int .i64 (0),.slice none 0 0]⟩:=rfl
theorem aG:tbl 24=some ⟨.struct [(0,3),(1,3),(2,22)],3,40,[.int .i64 (0),.int .i64 (0),.slice none 0 0]⟩:=rfl
theorem Jh:tbl 26=some ⟨.int .i64,1,8,[.int .i64 (0)]⟩:=rfl
theorem aH:tbl 29=some ⟨.int .u32,1,4,[ae]⟩:=rfl
theorem aC:tbl 30=some ⟨.arr 16 29,16,64,[ae,ae,ae,ae,ae,ae,ae,ae,ae,ae,ae,ae,ae,ae,ae,ae]⟩:=rfl
theorem tb_31:tbl 31=some ⟨.struct [(0,4),(1,4),(2,30)],18,68,[.bool false,.bool false,ae,ae,ae,ae,ae,ae,ae,ae,ae,ae,ae,ae,ae,ae,ae,ae]⟩:=rfl
theorem aA:tbl 32=some ⟨.struct [(0,4),(1,4),(2,30)],18,68,[.bool false,.bool false,ae,ae,ae,ae,ae,ae,ae,ae,ae,ae,ae,ae,ae,ae,ae,ae]⟩:=rfl
theorem tb_33:tbl 33=some ⟨.struct [(0,32),(18,32)],36,136,[.bool false,.bool false,ae,ae,ae,ae,ae,ae,ae,ae,ae,ae,ae,ae,ae,ae,ae,ae,.bool false,.bool false,ae,ae,ae,ae,ae,ae,ae,ae,ae,ae,ae,ae,ae,ae,ae,ae]⟩:=rfl
theorem ay:tbl 34=some ⟨.struct [(0,32),(18,32)],36,136,[.bool false,.bool false,ae,ae,ae,ae,ae,ae,ae,ae,ae,ae,ae,ae,ae,ae,ae,ae,.bool false,.bool false,ae,ae,ae,ae,ae,ae,ae,ae,ae,ae,ae,ae,ae,ae,ae,ae]⟩:=rfl
theorem bK:tbl 35=some ⟨.slice 3,1,24,[.slice none 0 0]⟩:=rfl
theorem tb_44:tbl 44=some ⟨.struct [(0,24),(3,35),(4,22),(5,4),(6,26),(7,3)],8,112,[.int .i64 (0),.int .i64 (0),.slice none 0 0,.slice none 0 0,.slice none 0 0,.bool false,.int .i64 (0),.int .i64 (0)]⟩:=rfl
theorem tb_45:tbl 45=some ⟨.struct [(0,24),(3,35),(4,22),(5,4),(6,26),(7,3)],8,112,[.int .i64 (0),.int .i64 (0),.slice none 0 0,.slice none 0 0,.slice none 0 0,.bool false,.int .i64 (0),.int .i64 (0)]⟩:=rfl
theorem tb_47:tbl 47=some ⟨.struct [(0,34),(36,26)],37,144,[.bool false,.bool false,ae,ae,ae,ae,ae,ae,ae,ae,ae,ae,ae,ae,ae,ae,ae,ae,.bool false,.bool false,ae,ae,ae,ae,ae,ae,ae,ae,ae,ae,ae,ae,ae,ae,ae,ae,.int .i64 (0)]⟩:=rfl
theorem tb_48:tbl 48=some ⟨.struct [(0,34),(36,26)],37,144,[.bool false,.bool false,ae,ae,ae,ae,ae,ae,ae,ae,ae,ae,ae,ae,ae,ae,ae,ae,.bool false,.bool false,ae,ae,ae,ae,ae,ae,ae,ae,ae,ae,ae,ae,ae,ae,ae,ae,.int .i64 (0)]⟩:=rfl
theorem lN:tbl 52=some ⟨.slice 22,1,24,[.slice none 0 0]⟩:=rfl
theorem tb_55:tbl 55=some ⟨.struct [(0,52),(1,26)],2,32,[.slice none 0 0,.int .i64 (0)]⟩:=rfl
theorem tb_56:tbl 56=some ⟨.struct [(0,52),(1,26)],2,32,[.slice none 0 0,.int .i64 (0)]⟩:=rfl
theorem tb_60:tbl 60=some ⟨.struct [(0,4),(1,26)],2,16,[.bool false,.int .i64 (0)]⟩:=rfl
theorem tb_61:tbl 61=some ⟨.struct [(0,4),(1,26)],2,16,[.bool false,.int .i64 (0)]⟩:=rfl
theorem tb_64:tbl 64=some ⟨.struct [(0,24),(3,26)],4,48,[.int .i64 (0),.int .i64 (0),.slice none 0 0,.int .i64 (0)]⟩:=rfl
theorem tb_65:tbl 65=some ⟨.struct [(0,24),(3,26)],4,48,[.int .i64 (0),.int .i64 (0),.slice none 0 0,.int .i64 (0)]⟩:=rfl
theorem tb_71:tbl 71=some ⟨.struct [(0,22),(1,26)],2,32,[.slice none 0 0,.int .i64 (0)]⟩:=rfl
theorem tb_72:tbl 72=some ⟨.struct [(0,22),(1,26)],2,32,[.slice none 0 0,.int .i64 (0)]⟩:=rfl
theorem ss:tbl 95=some ⟨.slice 102,1,24,[.slice none 0 0]⟩:=rfl
theorem tb_96:tbl 96=some ⟨.struct [(0,24),(3,95)],4,64,[.int .i64 (0),.int .i64 (0),.slice none 0 0,.slice none 0 0]⟩:=rfl
theorem jy:tbl 97=some ⟨.struct [(0,24),(3,95)],4,64,[.int .i64 (0),.int .i64 (0),.slice none 0 0,.slice none 0 0]⟩:=rfl
theorem tb_101:tbl 101=some ⟨.struct [(0,3),(1,34),(37,4)],38,152,[.int .i64 (0),.bool false,.bool false,ae,ae,ae,ae,ae,ae,ae,ae,ae,ae,ae,ae,ae,ae,ae,ae,.bool false,.bool false,ae,ae,ae,ae,ae,ae,ae,ae,ae,ae,ae,ae,ae,ae,ae,ae,.bool false]⟩:=rfl
theorem iI:tbl 102=some ⟨.struct [(0,3),(1,34),(37,4)],38,152,[.int .i64 (0),.bool false,.bool false,ae,ae,ae,ae,ae,ae,ae,ae,ae,ae,ae,ae,ae,ae,ae,ae,.bool false,.bool false,ae,ae,ae,ae,ae,ae,ae,ae,ae,ae,ae,ae,ae,ae,ae,ae,.bool false]⟩:=rfl
theorem sS:tbl 122=some ⟨.slice 24,1,24,[.slice none 0 0]⟩:=rfl
theorem tb_130:tbl 130=some ⟨.int .u64,1,8,[.int .u64 (0)]⟩:=rfl
theorem uG:tbl 134=some ⟨.arr 32 29,32,128,[ae,ae,ae,ae,ae,ae,ae,ae,ae,ae,ae,ae,ae,ae,ae,ae,ae,ae,ae,ae,ae,ae,ae,ae,ae,ae,ae,ae,ae,ae,ae,ae]⟩:=rfl
theorem tb_136:tbl 136=some ⟨.int .u64,1,8,[.int .u64 (0)]⟩:=rfl
theorem L2:tbl 137=some ⟨.slice 29,1,24,[.slice none 0 0]⟩:=rfl
theorem px:tbl 149=some ⟨.slice 32,1,24,[.slice none 0 0]⟩:=rfl
theorem ls:tbl 172=some ⟨.arr 17 29,17,68,[ae,ae,ae,ae,ae,ae,ae,ae,ae,ae,ae,ae,ae,ae,ae,ae,ae]⟩:=rfl
class TB (t:TypeId) (i:outParam TyE):Prop where
 h:tbl t=some i
theorem tbI {t:TypeId}{i:TyE}[h:TB t i]:tbl t=some i:=h.h
@[reducible,instance] def itb_2:=TB.mk tb_2
@[reducible,instance] def itb_3:=TB.mk aR
@[reducible,instance] def itb_4:=TB.mk ge
@[reducible,instance] def itb_5:=TB.mk L1
@[reducible,instance] def itb_9:=TB.mk tb_9
@[reducible,instance] def itb_12:=TB.mk tb_12
@[reducible,instance] def itb_13:=TB.mk tb_13
@[reducible,instance] def itb_21:=TB.mk tb_21
@[reducible,instance] def itb_22:=TB.mk aJ
@[reducible,instance] def itb_23:=TB.mk tb_23
@[reducible,instance] def itb_24:=TB.mk aG
@[reducible,instance] def itb_26:=TB.mk Jh
@[reducible,instance] def itb_29:=TB.mk aH
@[reducible,instance] def itb_30:=TB.mk aC
@[reducible,instance] def itb_31:=TB.mk tb_31
@[reducible,instance] def itb_32:=TB.mk aA
@[reducible,instance] def itb_33:=TB.mk tb_33
@[reducible,instance] def itb_34:=TB.mk ay
@[reducible,instance] def itb_35:=TB.mk bK
@[reducible,instance] def itb_44:=TB.mk tb_44
@[reducible,instance] def itb_45:=TB.mk tb_45
@[reducible,instance] def itb_47:=TB.mk tb_47
@[reducible,instance] def itb_48:=TB.mk tb_48
@[reducible,instance] def itb_52:=TB.mk lN
@[reducible,instance] def itb_55:=TB.mk tb_55
@[reducible,instance] def itb_56:=TB.mk tb_56
@[reducible,instance] def itb_60:=TB.mk tb_60
@[reducible,instance] def itb_61:=TB.mk tb_61
@[reducible,instance] def itb_64:=TB.mk tb_64
@[reducible,instance] def itb_65:=TB.mk tb_65
@[reducible,instance] def itb_71:=TB.mk tb_71
@[reducible,instance] def itb_72:=TB.mk tb_72
@[reducible,instance] def itb_95:=TB.mk ss
@[reducible,instance] def itb_96:=TB.mk tb_96
@[reducible,instance] def itb_97:=TB.mk jy
@[reducible,instance] def itb_101:=TB.mk tb_101
@[reducible,instance] def itb_102:=TB.mk iI
@[reducible,instance] def itb_122:=TB.mk sS
@[reducible,instance] def itb_130:=TB.mk tb_130
@[reducible,instance] def itb_134:=TB.mk uG
@[reducible,instance] def itb_136:=TB.mk tb_136
@[reducible,instance] def itb_137:=TB.mk L2
@[reducible,instance] def itb_149:=TB.mk px
@[reducible,instance] def itb_172:=TB.mk ls
def OY(P:Program):List (Nat×TyE)→Prop
 |[]=>True
 |(t,i)::l=>((P.underlying t).map Ty.of=some i.ty∧(P.info? t).map (fun f=>(f.size,f.bytes,f.zero.map fun v=>(v.cells.toList,v.isAggV)))=some (i.size,i.bytes,some (i.zero,i.ty.agg))∧i.zero.length=i.size∧i.zero.all Value.oneCell'=true)∧OY P l
theorem OY.get {P:Program}:∀{l:List (Nat×TyE)} {t:Nat} {i:TyE},OY P l→l.lookup t=some i→(P.underlying t).map Ty.of=some i.ty∧(P.info? t).map (fun f=>(f.size,f.bytes,f.zero.map fun v=>(v.cells.toList,v.isAggV)))=some (i.size,i.bytes,some (i.zero,i.ty.agg))∧i.zero.length=i.size∧i.zero.all Value.oneCell'=true
 |[],t,i,_,h=>by simp at h
 |(s,j)::l,t,i,h,hl=>by
  by_cases LC:t=s
  ·subst LC
   have:some j=some i:=by rw[←hl];exact ai.symm
   injection this with this
   subst this
   exact h.1
  ·exact OY.get h.2 (by rw[←hl];exact (au LC).symm)
theorem tokL:OY prog tblL:=by
 iterate 44 refine⟨⟨by kernel_rfl,by kernel_rfl,by kernel_rfl,by kernel_rfl⟩,?_⟩
 exact trivial
theorem tok:TOk prog tbl:=fun _ _ h=>tokL.get h
theorem vE:prog.underlying 4=some .bool:=by kernel_rfl
section
section
variable {md:Md} {ops:Array Oper} {K:List (Nat×D)→Hp→Prop} {os:List Oper} {tm:List (Nat×D)} {hp hp':Hp} {t s:Tmp} {op:Op} {ty:TypeId} {pos:String} {af:Array Edge} {d d2:D} {j:Nat} {want c:Bool}
theorem s1(h:AVC prog tbl md.dr op ty (evD tm) hp (Kq d hp'))(h2:bt prog tbl md ops K os ((t,d)::tm) hp')(hn:md.nc tbl op=true:=by exact rfl):bt prog tbl md ops K (⟨some t,op,ty,pos,af,none⟩::os) tm hp:=st tok hn h h2
theorem s0(h:AVC prog tbl md.dr op ty (evD tm) hp (Kq d hp'))(h2:bt prog tbl md ops K os tm hp')(hn:md.nc tbl op=true:=by exact rfl):bt prog tbl md ops K (⟨none,op,ty,pos,af,none⟩::os) tm hp:=st_n tok hn h h2
theorem s2(h:AVC prog tbl md.dr op ty (evD tm) hp (Kq d hp'))(hl:d.le d2)(h2:bt prog tbl md ops K os ((t,d2)::tm) hp')(hn:md.nc tbl op=true:=by exact rfl):bt prog tbl md ops K (⟨some t,op,ty,pos,af,none⟩::os) tm hp:=st_le tok hn h hl h2
theorem g1(hw:c=want)(h:AVC prog tbl md.dr op ty (evD tm) hp (Kq d hp'))(h2:bt prog tbl md ops K os ((t,d)::tm) hp')(hj:(ops[j]?).bind (·.dst)=some s:=by exact rfl)(hc:tm.lookup s=some (.e (.lit (.bool c))):=by exact rfl)(hn:md.nc tbl op=true:=by exact rfl):bt prog tbl md ops K (⟨some t,op,ty,pos,af,some (j,want)⟩::os) tm hp:=go_t tok hn hj hc hw h h2
theorem q1(h:lh prog tbl md ⟨some t,op,ty,pos,af,none⟩ (evD tm) hp d hp')(h2:bt prog tbl md ops K os ((t,d)::tm) hp'):bt prog tbl md ops K (⟨some t,op,ty,pos,af,none⟩::os) tm hp:=Ft rfl h h2
theorem fzO {α:Type}(c:Cd α){l:List α}{vs sD:List (Nat×List D)}{lv:List (Nat×Nat×Nat×TypeId)}{N n:Nat}(k:Nat)(ts:List Nat)(hn:n=l.length)(h2:bt prog tbl .seq ops K os (ts.map (fun t=>(t,.e (slE c l)))++tm) ⟨sD,lv,N⟩)(ht:∀t∈ts,tm.lookup t=some (.ow k 0 c.sz n))(hv:vs.lookup k=some (dC ((cW c).f l)):=by exact rfl)(hz:Nat.ble 1 c.sz=true:=by exact rfl)(tN:(vs.filter fun p=>!([k]:List Nat).contains p.1)=sD:=by exact rfl):bt prog tbl .seq ops K os tm ⟨vs,lv,N⟩:=by
 subst tN
 exact .wk rfl (WkS.frzG c ts hn ht hv hz) h2
theorem all1 {p:Nat→Prop}{a:Nat}(h:p a):∀t∈[a],p t:=by simpa using h
theorem all2 {p:Nat→Prop}{a:Nat}{l:List Nat}(h:p a)(hl:∀t∈l,p t):∀t∈a::l,p t:=by simpa using⟨h,hl⟩
variable {x:Cx} {Q:Exit→List (Nat×D)→Hp→Prop}
theorem rg {n id:Nat}{l:List Oper}(hx:x.N=n)(hN:i3 n l.toArray=true)(h:∀K:List (Nat×D)→Hp→Prop,(∀tm hp,Q .normal tm hp→K tm hp)→bt prog tbl .seq l.toArray K l tm hp):AW prog x (.region id l.toArray false) tm hp Q:=AW.regS tbl (by rw[hx];exact hN) h
theorem rd {n id:Nat}{l:List Oper}(L:List FuncId)(hx:x.N=n)(hN:i3 n l.toArray=true)(oz:ui tbl L l.toArray=true)(h:∀K:List (Nat×D)→Hp→Prop,(∀tm hp,Q .normal tm hp→K tm hp)→bt prog tbl (.any L) l.toArray K l tm hp):AW prog x (.region id l.toArray true) tm hp Q:=AW.drwS tbl L (by kernel_rfl) (by rw[hx];exact hN) oz h
theorem dw {id:Nat}{l:List Oper}(h:DW prog x l [] tm hp Q):AW prog x (.region id l.toArray true) tm hp Q:=AW.dw (by kernel_rfl) h
theorem dwg {n:Nat}{l:List Oper}{C:List (Nat×Nat)}(L:List FuncId)(p:List Nat)(hx:x.N=n)(hp1:Jq p l=true)(hN:i3 n (dq p C l).toArray=true)(oz:ui tbl L (dq p C l).toArray=true)(h:∀K:List (Nat×D)→Hp→Prop,(∀tm hp,Q .normal tm hp→K tm hp)→bt prog tbl (.any L) (dq p C l).toArray K (dq p C l) tm hp):DW prog x l C tm hp Q:=DW.go p hp1 (by rw[hx];exact hN) oz h
def PE(x:Cx){S:Type}(e:Exit)(T:S→List (Nat×D))(H:S→Hp)(y:S)(ex:Exit)(tm:List (Nat×D))(hp:Hp):Prop:=ex=e∧Wk x tm hp (T y) (H y)
def PR(rs:List ResultVar){R:Type}(dR:R→D)(y:R)(ex:Exit)(tm:List (Nat×D))(hp:Hp):Prop:=ex=.ret∧gQ tbl rs tm hp (dR y)
def PS {A B:Type}(p:A→Exit→List (Nat×D)→Hp→Prop)(q:B→Exit→List (Nat×D)→Hp→Prop)(y:A⊕B)(ex:Exit)(tm:List (Nat×D))(hp:Hp):Prop:=match y with| .inl a=>p a ex tm hp| .inr b=>q b ex tm hp
theorem PS.l {A B:Type}{p:A→Exit→List (Nat×D)→Hp→Prop}{q:B→Exit→List (Nat×D)→Hp→Prop}{a:A}{ex:Exit}(h:p a ex tm hp):PS p q (.inl a) ex tm hp:=h
theorem PS.r {A B:Type}{p:A→Exit→List (Nat×D)→Hp→Prop}{q:B→Exit→List (Nat×D)→Hp→Prop}{b:B}{ex:Exit}(h:q b ex tm hp):PS p q (.inr b) ex tm hp:=h
theorem PE.i {S:Type}{e:Exit}{T:S→List (Nat×D)}{H:S→Hp}{y:S}(hw:Wk x tm hp (T y) (H y)):PE x e T H y e tm hp:=⟨rfl,hw⟩
theorem PR.i {rs:List ResultVar}{R:Type}{dR:R→D}{y:R}(hw:gQ tbl rs tm hp (dR y)):PR rs dR y .ret tm hp:=⟨rfl,hw⟩
theorem jn {c:Code}{Q':Exit→List (Nat×D)→Hp→Prop}(Q:Exit→List (Nat×D)→Hp→Prop)(h:AW prog x c tm hp Q)(hq:∀ex tm hp,Q ex tm hp→Q' ex tm hp):AW prog x c tm hp Q':=AW.mono h hq
theorem lp {c:Code}{S X:Type}{b:S→Option (S⊕X)}{Q:Exit→List (Nat×D)→Hp→Prop}{s:S}{e:X}(T:S→List (Nat×D))(H:S→Hp)(QX:X→Exit→List (Nat×D)→Hp→Prop)(h:a7 b s=some e)(hw:Wk x tm hp (T s) (H s))
  (round:∀s y,b s=some y→AW prog x c (T s) (H s) (PS (PE x .normal T H) (fun e ex tm hp=>ex≠.normal∧QX e ex tm hp) y)) (hq:∀ex tm hp,QX e ex tm hp→Q ex tm hp):AW prog x (.loop c) tm hp Q:=
 AW.mono (AW.loopO T H QX (fun s y hy=>AW.mono (round s y hy) fun ex tm' hp' h=>by cases y <;> exact h) h hw) hq
end
end
section
section
variable {md:Md} {ops:Array Oper} {K:List (Nat×D)→Hp→Prop} {os:List Oper} {tm:List (Nat×D)} {hp hp':Hp} {t s:Tmp} {op:Op} {ty:TypeId} {pos:String} {af:Array Edge} {d d2:D} {j:Nat} {want c:Bool}
variable {dr:Bool} {ev:List (Nat×D)}
theorem A_int {k:IntKind}{n:Int}:AVC prog tbl dr (.assign (.const (.int k n))) ty (evD ev) hp (Kq (dI k n) hp):=GX
theorem Pk {b:Bool}:AVC prog tbl dr (.assign (.const (.bool b))) ty (evD ev) hp (Kq (dB b) hp):=GX
theorem M_int {k:IntKind}{n:Int}:AVC prog tbl dr (.move (.const (.int k n))) ty (evD ev) hp (Kq (dI k n) hp):=EM
theorem K_faP {s tt:TypeId}{x:Operand}{i j:TyE}{f o k off:Nat}{fs:List (Nat×TypeId)}{ev:Operand→D}(hs:tbl s=some i:=by exact tbI)(hi:i.ty=.struct fs:=by exact rfl)(hf:fs[f]? =some (o,tt):=by exact rfl)(hx:ev x=.pt k off:=by exact rfl)(ht:tbl tt=some j:=by exact tbI)(hz:Nat.ble 1 j.size=true:=by exact rfl):AVC prog tbl dr (.fieldAddr s x f) ty ev hp (Kq (.pt k (off+o)) hp):=T_faP hs ht hi hf hz hx
theorem K_faF {s tt:TypeId}{x:Operand}{i j:TyE}{f o off:Nat}{xs:List E}{fs:List (Nat×TypeId)}{ev:Operand→D}(hs:tbl s=some i:=by exact tbI)(hi:i.ty=.struct fs:=by exact rfl)(hf:fs[f]? =some (o,tt):=by exact rfl)(hx:ev x=.fp xs off:=by exact rfl)(ht:tbl tt=some j:=by exact tbI)(hz:Nat.ble 1 j.size=true:=by exact rfl):AVC prog tbl dr (.fieldAddr s x f) ty ev hp (Kq (.fp xs (off+o)) hp):=T_faF hs ht hi hf hz hx
theorem K_len {t e:TypeId}{x:Operand}{i j:TyE}{n:Nat}{xs:List E}{ev:Operand→D}(ht:tbl t=some i:=by exact tbI)(hi:i.ty=.slice e:=by exact rfl)(he:tbl e=some j:=by exact tbI)(hx:(ev x).asSl j.size=some (n,xs):=by exact rfl):AVC prog tbl dr (.call ⟨.builtin .len,#[x],#[t]⟩) ty ev hp (Kq (dI .i64 n) hp):=T_len ht he hi hx
theorem K_lenW {t e:TypeId}{x:Operand}{i j:TyE}{k off z n:Nat}{ev:Operand→D}(ht:tbl t=some i:=by exact tbI)(hi:i.ty=.slice e:=by exact rfl)(he:tbl e=some j:=by exact tbI)(hx:ev x=.ow k off z n:=by exact rfl):AVC prog tbl dr (.call ⟨.builtin .len,#[x],#[t]⟩) ty ev hp (Kq (dI .i64 n) hp):=xX ht he hi hx
theorem K_shl {t t':TypeId}{x y:Operand}{k k':IntKind}{a b:Int}{ev:Operand→D}(hx:ev x=dI k a:=by exact rfl)(hy:ev y=dI k' b:=by exact rfl)(hb:0≤b:=by decide):AVC prog tbl dr (.binOp .shl t x y t') ty ev hp (Kq (dI k (uP k a b)) hp):=OU hb hx hy
theorem K_shr {t t':TypeId}{x y:Operand}{k k':IntKind}{a b:Int}{ev:Operand→D}(hx:ev x=dI k a:=by exact rfl)(hy:ev y=dI k' b:=by exact rfl)(hb:0≤b:=by decide):AVC prog tbl dr (.binOp .shr t x y t') ty ev hp (Kq (dI k (kA k a b)) hp):=OT hb hx hy
theorem K_quo {t t':TypeId}{x y:Operand}{k:IntKind}{a b:Int}{ev:Operand→D}(hx:ev x=dI k a:=by exact rfl)(hy:ev y=dI k b:=by exact rfl)(hb:b≠0:=by decide):AVC prog tbl dr (.binOp .quo t x y t') ty ev hp (Kq (dI k (k.wrap (a.tdiv b))) hp):=GW hb hx hy
theorem K_rem {t t':TypeId}{x y:Operand}{k:IntKind}{a b:Int}{ev:Operand→D}(hx:ev x=dI k a:=by exact rfl)(hy:ev y=dI k b:=by exact rfl)(hb:b≠0:=by decide):AVC prog tbl dr (.binOp .rem t x y t') ty ev hp (Kq (dI k (a.tmod b)) hp):=uB hb hx hy
theorem sa(h2:bt prog tbl md ops K os ((t,d)::tm) hp')(h:AVC prog tbl md.dr op ty (evD tm) hp (Kq d hp'):=by (first|exact T_mv|exact ke|exact A_int|exact Pk|exact A_str|exact M_int|exact M_bool|exact M_str|exact GX|exact EM|exact T_not|exact OV|exact T_nilF|exact T_ext|exact T_add|exact T_sub|exact T_mul|exact T_eql|exact T_neq|exact T_lss|exact T_leq|exact T_gtr|exact T_geq|exact T_seql|exact T_sneq|exact OX vE|exact OW vE|exact T_and|exact T_or|exact T_xor|exact T_neg|exact K_shl|exact K_shr|exact K_quo|exact K_rem|exact K_faP|exact K_faF|exact T_cvI tbI tbI|exact T_cvS tbI tbI|exact K_len|exact T_lenS tbI|exact T_lenA tbI|exact K_lenW|exact T_min|exact T_max|exact T_boxV))(hn:md.nc tbl op=true:=by exact rfl):bt prog tbl md ops K (⟨some t,op,ty,pos,af,none⟩::os) tm hp:=st tok hn h h2
theorem ga(hw:c=want)(h2:bt prog tbl md ops K os ((t,d)::tm) hp')(hj:(ops[j]?).bind (·.dst)=some s:=by exact rfl)(hc:tm.lookup s=some (.e (.lit (.bool c))):=by exact rfl)(h:AVC prog tbl md.dr op ty (evD tm) hp (Kq d hp'):=by (first|exact T_mv|exact ke|exact A_int|exact Pk|exact A_str|exact M_int|exact M_bool|exact M_str|exact GX|exact EM|exact T_not|exact OV|exact T_nilF|exact T_ext|exact T_add|exact T_sub|exact T_mul|exact T_eql|exact T_neq|exact T_lss|exact T_leq|exact T_gtr|exact T_geq|exact T_seql|exact T_sneq|exact OX vE|exact OW vE|exact K_faP|exact K_faF|exact T_cvI tbI tbI|exact K_len|exact T_lenS tbI))(hn:md.nc tbl op=true:=by exact rfl):bt prog tbl md ops K (⟨some t,op,ty,pos,af,some (j,want)⟩::os) tm hp:=go_t tok hn hj hc hw h h2
theorem pn {ev:Operand→D}:((([]:List Operand).map ev).map D.ex).all D.pure=true:=rfl
theorem pA {ev:Operand→D}{a:Operand}{la:List Operand}(h:(ev a).ex.pure=true)(hl:((la.map ev).map D.ex).all D.pure=true):(((a::la).map ev).map D.ex).all D.pure=true:=by
 rw[e8,e8,js,h,hl];rfl
theorem lC {ev:Operand→D}{a:Operand}{la:List Operand}{d':D}{ds':List D}(h:(ev a).ex.le d')(hl:leL ((la.map ev).map D.ex) ds'):leL (((a::la).map ev).map D.ex) (d'::ds'):=⟨h,hl⟩
theorem cq {f:FuncId}{la:List Operand}{ts:Array TypeId}{ds:List D}{r:D}(hc:aB prog f ds r)(h2:bt prog tbl md ops K os ((t,r)::tm) hp)(hp1:((la.map (evD tm)).map D.ex).all D.pure=true:=by repeat (first|exact pn|refine pA (bh _ _) ?_|refine pA rfl ?_))(hl:leL ((la.map (evD tm)).map D.ex) ds:=by repeat (first|exact lAn|refine lC (fb _ _) ?_|refine lC (av _) ?_))(hr:r.pure=true∨∃ds,r=.tu ds:=by (first|exact .inl (iK _ _)|exact .inl rfl|exact .inr ⟨_,rfl⟩)):
  bt prog tbl md ops K (⟨some t,.call ⟨.value (.func f),la.toArray,ts⟩,ty,pos,af,none⟩::os) tm hp:=sq tok hc hp1 hl hr h2
theorem sc {x:Operand}{f:FuncId}{la:List Operand}{ts:Array TypeId}{ds:List D}{r:D}(hc:aB prog f ds r)(h2:bt prog tbl md ops K os ((t,r)::tm) hp)(uS:evD tm x=.e (.lit (.func (.func f) #[] #[])):=by exact rfl)(hp1:((la.map (evD tm)).map D.ex).all D.pure=true:=by repeat (first|exact pn|refine pA (bh _ _) ?_|refine pA rfl ?_))(hl:leL ((la.map (evD tm)).map D.ex) ds:=by repeat (first|exact lAn|refine lC (fb _ _) ?_|refine lC (av _) ?_))(hr:r.pure=true∨∃ds,r=.tu ds:=by (first|exact .inl (iK _ _)|exact .inl rfl|exact .inr ⟨_,rfl⟩))(hn:md.nc tbl (.call ⟨.value x,la.toArray,ts⟩)=true:=by exact rfl):
  bt prog tbl md ops K (⟨some t,.call ⟨.value x,la.toArray,ts⟩,ty,pos,af,none⟩::os) tm hp:=st tok hn (c9 uS hc hp1 hl hr) h2
variable {x:Cx} {Q:Exit→List (Nat×D)→Hp→Prop}
theorem rq {n id:Nat}{l:List Oper}(hx:x.N=n)(h:∀K:List (Nat×D)→Hp→Prop,(∀tm hp,Q .normal tm hp→K tm hp)→bt prog tbl .seq l.toArray K l tm hp)(hN:i3 n l.toArray=true:=by kernel_rfl):AW prog x (.region id l.toArray false) tm hp Q:=rg hx hN h
theorem rqd {n id:Nat}{l:List Oper}(L:List FuncId)(hx:x.N=n)(h:∀K:List (Nat×D)→Hp→Prop,(∀tm hp,Q .normal tm hp→K tm hp)→bt prog tbl (.any L) l.toArray K l tm hp)(hN:i3 n l.toArray=true:=by kernel_rfl)(oz:ui tbl L l.toArray=true:=by kernel_rfl):AW prog x (.region id l.toArray true) tm hp Q:=rd L hx hN oz h
theorem rv1 {q:ResultVar}{r:D}(h:gQ tbl [q] tm hp r:=by (first|exact gQ.mk1 (c7 rfl (.inr (.inr ⟨_,(av _),rfl,rfl⟩)))|exact gQ.mk1 (uL rfl tbI rfl rfl (ltb rfl) (Cd.h _ _) (.inr (.inr ⟨_,(av _),iK _ _,rfl⟩))))):gQ tbl [q] tm hp r:=h
theorem rv2 {q q':ResultVar}{r:D}(h:gQ tbl [q,q'] tm hp r:=by (first|exact gQ.mk2 (c7 rfl (c7 rfl (.inr ⟨_,_,(av _),(av _),⟨rfl,rfl⟩,rfl⟩)))|exact gQ.mk2 (uL rfl tbI rfl rfl (ltb rfl) (Cd.h _ _) (c7 rfl (.inr ⟨_,_,(av _),(av _),⟨iK _ _,rfl⟩,rfl⟩)))|exact gQ.mk2 (uL rfl tbI rfl rfl (ltb rfl) (Cd.h _ _) (uL rfl tbI rfl rfl (ltb rfl) (Cd.h _ _) (.inr ⟨_,_,(av _),(av _),⟨iK _ _,iK _ _⟩,rfl⟩))))):gQ tbl [q,q'] tm hp r:=h
theorem pe0 {S:Type}{e:Exit}{T:S→List (Nat×D)}{H:S→Hp}{y:S}{vars':List (Nat×List D)}{oI:List (Nat×Nat×Nat×TypeId)}{m:Nat}{tm':List (Nat×D)}(h0:x.hp0=⟨[],[],0⟩)(os:List Nat)(hT:T y=tm':=by exact rfl)(hH:H y=⟨vars',oI,m⟩:=by exact rfl)(ht:wkT (sg 0 os) m tm tm':=by repeat (first|exact wTn|refine wR rfl ?_|refine wG rfl (av _) ?_))(hv:wkV (sg 0 os) m hp.vars vars':=by repeat (first|exact wVn|refine vC rfl ?_|refine vR rfl ?_))(hl:wkL (sg 0 os) m hp.live oI:=by repeat (first|exact wLn|refine wL rfl rfl ?_))(vn:os.Nodup:=by decide)(hm:m=0+os.length:=by exact rfl):PE x e T H y e tm hp:=PE.i (by rw[hT,hH];exact wk h0 os ht hv hl vn hm)
theorem rs {n id:Nat}{l:List Oper}{b:Code}(hx:x.N=n)(h:∀K:List (Nat×D)→Hp→Prop,(∀tm hp,AW prog x b tm hp Q→K tm hp)→bt prog tbl .seq l.toArray K l tm hp)(hN:i3 n l.toArray=true:=by kernel_rfl):AW prog x (.seq (.region id l.toArray false) b) tm hp Q:=AW.seq (rg hx hN fun K hK=>h K hK)
theorem rsd {n id:Nat}{l:List Oper}{b:Code}(L:List FuncId)(hx:x.N=n)(h:∀K:List (Nat×D)→Hp→Prop,(∀tm hp,AW prog x b tm hp Q→K tm hp)→bt prog tbl (.any L) l.toArray K l tm hp)(hN:i3 n l.toArray=true:=by kernel_rfl)(oz:ui tbl L l.toArray=true:=by kernel_rfl):AW prog x (.seq (.region id l.toArray true) b) tm hp Q:=AW.seq (rd L hx hN oz fun K hK=>h K hK)
theorem ra {n id:Nat}{l:List Oper}{b:Code}{tm':List (Nat×D)}(hx:x.N=n)(h2:AW prog x b tm' hp' Q)(h:∀K:List (Nat×D)→Hp→Prop,K tm' hp'→bt prog tbl .seq l.toArray K l tm hp:=by (intro K hK;(repeat (refine sa ?_));exact .nil hK))(hN:i3 n l.toArray=true:=by kernel_rfl):AW prog x (.seq (.region id l.toArray false) b) tm hp Q:=rs hx (fun K hK=>h K (hK _ _ h2)) hN
theorem rb {n id:Nat}{l:List Oper}{tm':List (Nat×D)}(hx:x.N=n)(h2:Q .normal tm' hp')(h:∀K:List (Nat×D)→Hp→Prop,K tm' hp'→bt prog tbl .seq l.toArray K l tm hp:=by (intro K hK;(repeat (refine sa ?_));exact .nil hK))(hN:i3 n l.toArray=true:=by kernel_rfl):AW prog x (.region id l.toArray false) tm hp Q:=rq hx (fun K hK=>h K (hK _ _ h2)) hN
theorem cdh {R:Type}{y z:Option R}{r:R}{c:Operand}{c1 c2:Code}{b:Bool}(h:cnd b y z=some r)(hc:evD tm c=.e (.lit (.bool b)))(ht:b=true→y=some r→AW prog x c1 tm hp Q)(hf:b=false→z=some r→AW prog x c2 tm hp Q):AW prog x (.cond c c1 c2) tm hp Q:=AW.condS hc (fun hb=>ht hb (ba hb h)) fun hb=>hf hb (bb hb h)
theorem scb {R S:Type}{g:Option S}{k:S→Option R}{z:R}{x:Operand}{f:FuncId}{la:List Operand}{ts:Array TypeId}{ds:List D}{dr:S→D}(h:bnd g k=some z)(w:∀{y:S},g=some y→aB prog f ds (dr y))(h2:∀y,k y=some z→bt prog tbl md ops K os ((t,dr y)::tm) hp)(uS:evD tm x=.e (.lit (.func (.func f) #[] #[])):=by exact rfl)(hp1:((la.map (evD tm)).map D.ex).all D.pure=true:=by repeat (first|exact pn|refine pA (bh _ _) ?_|refine pA rfl ?_))(hl:leL ((la.map (evD tm)).map D.ex) ds:=by repeat (first|exact lAn|refine lC (fb _ _) ?_|refine lC (av _) ?_))(hr:∀y,(dr y).pure=true∨∃ds,dr y=.tu ds:=by (intro y;first|exact .inl (iK _ _)|exact .inl rfl|exact .inr ⟨_,rfl⟩))(hn:md.nc tbl (.call ⟨.value x,la.toArray,ts⟩)=true:=by exact rfl):
  bt prog tbl md ops K (⟨some t,.call ⟨.value x,la.toArray,ts⟩,ty,pos,af,none⟩::os) tm hp:=by
 obtain⟨y,h3,h4⟩:=ah h
 exact st tok hn (c9 uS (w h3) hp1 hl (hr y)) (h2 y h4)
theorem cqb {R S:Type}{g:Option S}{k:S→Option R}{z:R}{f:FuncId}{la:List Operand}{ts:Array TypeId}{ds:List D}{dr:S→D}(h:bnd g k=some z)(w:∀{y:S},g=some y→aB prog f ds (dr y))(h2:∀y,k y=some z→bt prog tbl md ops K os ((t,dr y)::tm) hp)(hp1:((la.map (evD tm)).map D.ex).all D.pure=true:=by repeat (first|exact pn|refine pA (bh _ _) ?_|refine pA rfl ?_))(hl:leL ((la.map (evD tm)).map D.ex) ds:=by repeat (first|exact lAn|refine lC (fb _ _) ?_|refine lC (av _) ?_))(hr:∀y,(dr y).pure=true∨∃ds,dr y=.tu ds:=by (intro y;first|exact .inl (iK _ _)|exact .inl rfl|exact .inr ⟨_,rfl⟩)):
  bt prog tbl md ops K (⟨some t,.call ⟨.value (.func f),la.toArray,ts⟩,ty,pos,af,none⟩::os) tm hp:=by
 obtain⟨y,h3,h4⟩:=ah h
 exact sq tok (w h3) hp1 hl (hr y) (h2 y h4)
theorem bJ {f : FuncId} {fn : Func} {c : Code} {ds : List D} {r : D} {rs : List ResultVar} {tm0 : List (Nat × D)} (h : ∀ x : Cx, x.N = fn.ntmps → x.hp0 = ⟨[], [], 0⟩ → AW prog x c tm0 ⟨[], [], 0⟩ fun ex tm hp => match ex with | .normal | .ret => gQ tbl rs tm hp r | _ => False) (hf : prog.funcs[f]? = some fn) (hb : fn.body = some c := by exact rfl) (qW : (fn.name == "runtime.NumGoroutine") = false := by exact rfl) (hN : Nat.ble ds.length fn.ntmps = true := by exact rfl) (hrs : fn.results.toList = rs := by exact rfl) (gJ : eZ 0 ds = tm0 := by (simp only [eZ, Nat.reduceAdd, bE]; rfl)) : aB prog f ds r := aB.of tok hf hb qW (cg hN) hrs (by rw [gJ]; exact h)
end
end
abbrev al_cV:Cd (Vector Int 16):=cA 16 (cI .u32)
structure ar where
 vBad:Bool
 vNeg:Bool
 vW:Vector Int 16
 deriving Inhabited,DecidableEq
abbrev br:ar:=⟨false,false,bM⟩
def ap:Cd ar:=⟨18,fun x=>[.lit (.bool x.vBad),.lit (.bool x.vNeg)]++al_cV.f x.vW,fun x=>by simp[al_cV.h,show al_cV.sz=16 from rfl]⟩
theorem g5(x:ar):an (ap.f x) cB 0 x.vBad (fun y=>ap.f (⟨y,x.vNeg,x.vW⟩:ar)):=
 an.of ([]) ((cB).f x.vNeg++(al_cV).f x.vW) (by first|rfl|(simp[al_cV.h,cB.h];first|rfl|done)) (by first|rfl|simp[ap,cI,cB,cS,cL,dQ]) (fun y=>by first|rfl|simp[ap,cI,cB,cS,cL,dQ])
theorem bp(x:ar):an (ap.f x) cB 1 x.vNeg (fun y=>ap.f (⟨x.vBad,y,x.vW⟩:ar)):=
 an.of ((cB).f x.vBad) ((al_cV).f x.vW) (by first|rfl|(simp[al_cV.h,cB.h];first|rfl|done)) (by first|rfl|simp[ap,cI,cB,cS,cL,dQ]) (fun y=>by first|rfl|simp[ap,cI,cB,cS,cL,dQ])
theorem aS(x:ar):an (ap.f x) al_cV 2 x.vW (fun y=>ap.f (⟨x.vBad,x.vNeg,y⟩:ar)):=
 an.of ((cB).f x.vBad++(cB).f x.vNeg) ([]) (by first|rfl|(simp[al_cV.h,cB.h];first|rfl|done)) (by first|rfl|simp[ap,cI,cB,cS,cL,dQ]) (fun y=>by first|rfl|simp[ap,cI,cB,cS,cL,dQ])
def jP(bj:ar):Option Bool:=bnd (some (decide (bj.vW=#v[(0:Int),0,0,0,0,0,0,0,0,0,0,0,0,0,0,0]))) fun x1=>cnd bj.vBad (bnd (S:=Bool) (cnd x1 (some (!bj.vNeg)) (some (false))) fun mD=>some mD) (bnd (S:=Bool) (cnd (!x1) (some (true)) (some (!bj.vNeg))) fun gN=>some gN)
theorem uc {bj:ar}{r:Bool}(h:jP bj=some r):aB prog 129 [dG ap bj] (dB r):=by
 refine bJ (rs:=[.tmp 2]) (fun cx hx h0=>?_) func129
 unfold jP at h
 refine ra hx ?_
 refine rs hx fun K hK=>?_
 refine sa ?_
 refine s1 (aD (aS bj) aC) ?_
 refine s1 (d:=dG al_cV (#v[(0:Int),0,0,0,0,0,0,0,0,0,0,0,0,0,0,0])) (kO aC aH) ?_
 refine s1 (sh tok 2 (by decide) (EqC.arr (EqC.int (d:=0) aH) aC aH) aC) ?_
 obtain⟨x1,yP,h⟩:=ah h
 replace yP:=eG yP
 refine s2 (d2:=dB x1) ke (fK (congrArg dB yP)) ?_
 refine .nil (hK _ _ (AW.seq (rs hx fun K hK=>?_)))
 refine sa ?_
 refine s1 (a6 (g5 bj) ge) ?_
 refine .nil (hK _ _ (cdh h rfl (fun bn h=>?_) (fun bn h=>?_)))
 refine AW.seq ?_
 obtain⟨mD,hy,h⟩:=ah h
 refine jn ((PE cx .normal (fun mD=>[(2,dB mD)]) fun mD=>⟨[],[],0⟩) mD) ?_ ?_
 replace h:=hy
 refine rq hx fun K hK=>?_
 iterate 2 refine sa ?_
 rcases bP x1 with qy|qy
 replace h:=ba qy h
 refine ga qy ?_
 refine g1 qy (a6 (bp bj) ge) ?_
 refine ga qy ?_
 refine s1 (am qy) ?_
 refine sa ?_
 refine .nil (hK _ _ ?_)
 cases h
 exact pe0 h0 []
 replace h:=bb qy h
 iterate 3 refine aK rfl rfl qy ?_
 refine s1 (ax qy) ?_
 refine sa ?_
 refine .nil (hK _ _ ?_)
 cases h
 exact pe0 h0 []
 rintro ex tm' hp' ⟨rfl,hw⟩
 refine AW.weak hw (AW.ret ?_)
 cases h
 exact rv1
 refine AW.skip (AW.seq ?_)
 obtain⟨gN,hy,h⟩:=ah h
 refine jn ((PE cx .normal (fun gN=>[(2,dB gN)]) fun gN=>⟨[],[],0⟩) gN) ?_ ?_
 replace h:=hy
 refine rq hx fun K hK=>?_
 iterate 3 refine sa ?_
 rcases bP (!x1) with ej|ej
 replace h:=ba ej h
 iterate 3 refine aK rfl rfl ej ?_
 refine s1 (am ej) ?_
 refine sa ?_
 refine .nil (hK _ _ ?_)
 cases h
 exact pe0 h0 []
 replace h:=bb ej h
 refine ga ej ?_
 refine g1 ej (a6 (bp bj) ge) ?_
 refine ga ej ?_
 refine s1 (ax ej) ?_
 refine sa ?_
 refine .nil (hK _ _ ?_)
 cases h
 exact pe0 h0 []
 rintro ex tm' hp' ⟨rfl,hw⟩
 refine AW.weak hw (AW.ret ?_)
 cases h
 exact rv1
def dU :Option ar:=some (⟨true,false,(bM)⟩:ar)
theorem gl  {r:ar}(h:dU=some r):aB prog 109 [] (dG ap r):=by
 refine bJ (rs:=[.cell 0 32]) (fun cx hx h0=>?_) func109
 unfold dU at h
 refine rs hx fun K hK=>?_
 refine s1 (bq (F:=ap.f br) aA) ?_
 refine .nil (hK _ _ (rs hx fun K hK=>?_))
 refine s1 (d:=dG ap (⟨true,false,(bM)⟩:ar)) (i8 (FL.cons (y:=true) (g5 br) rfl rfl (FL.nil _)) aA) ?_
 refine s0 (aO (b':=(⟨true,false,(bM)⟩:ar)) (an.id _ _) aA) ?_
 refine .nil (hK _ _ (AW.ret ?_))
 cases h
 exact rv1
def l6(fV:List ar):Int→Option (Int⊕(Bool⊕Unit)):=fun aV=>cnd (decide (aV<((fV).length:Int))) (gd (0≤aV∧aV<((fV).length:Int)) (bnd (S:=Bool) (cnd (((fV)[(aV).toNat]!).vBad) (some (true)) (bnd (jP ((fV)[(aV).toNat]!)) fun x5=>some (!x5))) fun aL=>cnd aL (some (.inr (.inl false))) (some (.inl (i64.wrap (aV+(1:Int))))))) (some (.inr (.inr ())))
def cK(fV:List ar):Option Bool:=bnd (a7 (l6 fV) (0:Int)) fun y9=>match y9 with| .inl r=>some r| .inr ()=>some true
theorem gb {fV:List ar}{r:Bool}(h:cK fV=some r):aB prog 110 [dL ap fV] (dB r):=by
 refine bJ (rs:=[.tmp 2]) (fun cx hx h0=>?_) func110
 unfold cK at h
 refine ra hx ?_
 refine AW.seq (ra hx ?_)
 refine AW.block ?_
 obtain⟨y,hy,h⟩:=ah h
 refine lp (S:=Int) (X:=Bool⊕Unit) (fun aV=>[(5,dL ap fV),(6,dI .i64 ((fV).length:Int)),(7,dI .i64 aV)]) (fun aV=>⟨[],[],0⟩) (PS (PR [.tmp 2] fun r=>dB r) (PE cx (.exit 0) (fun ()=>[]) fun ()=>⟨[],[],0⟩)) hy ?_ ?_ ?_
 exact wk h0 [] (wR rfl (wR rfl (wR rfl wTn))) wVn wLn
 clear hy h
 rintro aV y h
 dsimp only[l6] at h
 refine ra hx ?_
 refine AW.seq (cdh h rfl (fun cQ h=>?_) (fun cQ h=>?_))
 refine AW.skip (AW.seq (AW.block (rs hx fun K hK=>?_)))
 obtain⟨mR,h⟩:=az h
 have pH:(aV).toNat<(fV).length:=by omega
 refine s1 (eh mR px aA) ?_
 refine s1 (d:=dG ap ((fV)[(aV).toNat]!)) (kN (c:=ap) (l:=fV) (n:=(aV).toNat) (o:=0) aA pH (fm _ _ rfl)) ?_
 refine s1 (bq (F:=ap.f br) aA) ?_
 refine s0 (aO (b':=(fV)[(aV).toNat]!) (an.id _ _) aA) ?_
 refine .nil (hK _ _ (AW.seq ?_))
 obtain⟨aL,hy,h⟩:=ah h
 refine jn ((PE cx .normal (fun aL=>[(5,dL ap fV),(6,dI .i64 ((fV).length:Int)),(7,dI .i64 aV),(17,dB aL)]) fun aL=>⟨[],[],0⟩) aL) ?_ ?_
 replace h:=hy
 refine rq hx fun K hK=>?_
 refine sa ?_
 refine s1 (a6 (g5 ((fV)[(aV).toNat]!)) ge) ?_
 refine sa ?_
 rcases bP (((fV)[(aV).toNat]!).vBad) with qy|qy
 replace h:=ba qy h
 iterate 3 refine aK rfl rfl qy ?_
 refine s1 (am qy) ?_
 refine .nil (hK _ _ ?_)
 cases h
 exact pe0 h0 []
 replace h:=bb qy h
 refine g1 (d:=dG ap ((fV)[(aV).toNat]!)) qy (aD (an.id _ _) aA) ?_
 obtain⟨x5,DO,h⟩:=ah h
 refine g1 qy (c9 rfl (uc DO) (by simp only[e8,gL,js,lE,iC,iB];exact bh _ _) (lA (fb _ _) lAn) (.inl rfl)) ?_
 refine ga qy ?_
 refine s1 (ax qy) ?_
 refine .nil (hK _ _ ?_)
 cases h
 exact pe0 h0 []
 rintro ex tm' hp' ⟨rfl,hw⟩
 refine AW.weak hw (cdh h rfl (fun pg h=>?_) (fun pg h=>?_))
 refine ra hx ?_
 refine AW.ret ?_
 cases h
 refine PS.r ⟨by nofun,PS.l (PR.i ?_)⟩
 exact rv1
 refine AW.skip (rb hx ?_)
 cases h
 exact PS.l (pe0 h0 [])
 refine AW.exit ?_
 try dsimp only
 try simp only[bk,reduceIte,Nat.reduceEqDiff,reduceCtorEq]
 cases h
 exact PS.r ⟨by nofun,PS.r (PE.i (wk h0 [] wTn wVn wLn))⟩
 rcases y with r|⟨⟩
 rintro ex tm' hp' ⟨rfl,hw⟩
 cases h
 exact hw
 rintro ex tm' hp' ⟨rfl,hw⟩
 try dsimp only
 try simp only[bk,reduceIte,Nat.reduceEqDiff,reduceCtorEq]
 refine AW.weak hw (ra hx ?_)
 refine AW.ret ?_
 cases h
 exact rv1
def bC(sW:Bool)(ox:Vector Int 16):Option ar:=bnd (S:=ar) (cnd sW (bnd (some ((⟨false,decide (¬(ox=#v[(0:Int),0,0,0,0,0,0,0,0,0,0,0,0,0,0,0])),ox⟩:ar))) fun x2=>some (x2)) (some ((⟨false,false,ox⟩:ar)))) fun jv=>some jv
theorem cR {sW:Bool}{ox:Vector Int 16}{r:ar}(h:bC sW ox=some r):aB prog 111 [dB sW,dG al_cV ox] (dG ap r):=by
 refine bJ (rs:=[.cell 4 32]) (fun cx hx h0=>?_) func111
 unfold bC at h
 refine rs hx fun K hK=>?_
 refine sa ?_
 refine s1 (bq (F:=ap.f br) aA) ?_
 refine .nil (hK _ _ (AW.seq ?_))
 obtain⟨jv,hy,h⟩:=ah h
 refine jn ((PE cx .normal (fun jv=>[(4,.pt 0 0)]) fun jv=>⟨[(0,dC (ap.f jv))],[],1⟩) jv) ?_ ?_
 replace h:=hy
 refine rqd [] hx fun K hK=>?_
 iterate 2 refine sa ?_
 rcases bP sW with cQ|cQ
 replace h:=ba cQ h
 refine g1 (d:=dG al_cV ox) cQ (aD (an.id _ _) aC) ?_
 refine g1 (d:=dG al_cV (#v[(0:Int),0,0,0,0,0,0,0,0,0,0,0,0,0,0,0])) cQ (kO aC aH) ?_
 refine g1 cQ (xY tok 2 (by decide) (EqC.arr (EqC.int (d:=0) aH) aC aH) aC) ?_
 refine s1 (am cQ) ?_
 refine s1 (d:=dG al_cV ox) (aD (an.id _ _) aC) ?_
 refine s1 (d:=dG ap (⟨false,decide (¬(ox=#v[(0:Int),0,0,0,0,0,0,0,0,0,0,0,0,0,0,0])),ox⟩:ar)) (i8 (FL.cons (y:=decide (¬(ox=#v[(0:Int),0,0,0,0,0,0,0,0,0,0,0,0,0,0,0]))) (bp br) rfl rfl (FL.cons (y:=ox) (aS (⟨false,decide (¬(ox=#v[(0:Int),0,0,0,0,0,0,0,0,0,0,0,0,0,0,0])),(bM)⟩:ar)) rfl rfl (FL.nil _))) aA) ?_
 obtain⟨x2,MY,h⟩:=ah h
 replace MY:=eG MY
 refine s0 (jx (b':=(⟨false,decide (¬(ox=#v[(0:Int),0,0,0,0,0,0,0,0,0,0,0,0,0,0,0])),ox⟩:ar)) (an.id _ _) aA MY) ?_
 refine .nil (hK _ _ ?_)
 cases h
 exact pe0 h0 [1]
 replace h:=bb cQ h
 iterate 3 refine aK rfl rfl cQ ?_
 refine s1 (ax cQ) ?_
 refine s1 (d:=dG al_cV ox) (aD (an.id _ _) aC) ?_
 refine s1 (d:=dG ap (⟨false,false,ox⟩:ar)) (i8 (FL.cons (y:=false) (bp br) rfl rfl (FL.cons (y:=ox) (aS br) rfl rfl (FL.nil _))) aA) ?_
 refine s0 (aO (b':=(⟨false,false,ox⟩:ar)) (an.id _ _) aA) ?_
 refine .nil (hK _ _ ?_)
 cases h
 exact pe0 h0 [1]
 rintro ex tm' hp' ⟨rfl,hw⟩
 refine AW.weak hw (AW.ret ?_)
 cases h
 exact rv1
def eD(da:Int):Option ar:=bnd (S:=Int) (cnd (decide (da<(0:Int))) (some (u64.wrap (0 - (u64.wrap (da))))) (some (u64.wrap (da)))) fun j3=>bnd (bC (decide (da<(0:Int))) (#v[u32.wrap (j3),u32.wrap (kA .u64 j3 (32:Int)),0,0,0,0,0,0,0,0,0,0,0,0,0,0])) fun x3=>some x3
theorem l9 {da:Int}{r:ar}(h:eD da=some r):aB prog 105 [dI .i64 da] (dG ap r):=by
 refine bJ (rs:=[.cell 2 32]) (fun cx hx h0=>?_) func105
 unfold eD at h
 refine rs hx fun K hK=>?_
 refine s1 (bq (F:=ap.f br) aA) ?_
 refine .nil (hK _ _ (ra hx ?_))
 refine AW.seq ?_
 obtain⟨j3,hy,h⟩:=ah h
 refine jn ((PE cx .normal (fun j3=>[(0,dI .i64 da),(2,.pt 0 0),(3,dI .u64 j3)]) fun j3=>⟨[(0,dC (ap.f br))],[],1⟩) j3) ?_ ?_
 replace h:=hy
 refine ra hx ?_
 refine cdh h rfl (fun cQ h=>?_) (fun cQ h=>?_)
 refine rb hx ?_
 cases h
 exact pe0 h0 [0]
 refine AW.skip ?_
 cases h
 exact pe0 h0 [0]
 rintro ex tm' hp' ⟨rfl,hw⟩
 refine AW.weak hw (rs hx fun K hK=>?_)
 iterate 7 refine sa ?_
 refine s1 (d:=dG al_cV (#v[u32.wrap (j3),u32.wrap (kA .u64 j3 (32:Int)),0,0,0,0,0,0,0,0,0,0,0,0,0,0])) (kO aC aH) ?_
 refine scb h cR fun x3 h=>?_
 refine s0 (aO (b':=x3) (an.id _ _) aA) ?_
 refine .nil (hK _ _ (AW.ret ?_))
 cases h
 exact rv1
def jB(ox:Vector Int 16):Int→Option (Int⊕Int):=fun aV=>bnd (S:=Bool) (cnd (decide ((0:Int)<aV)) (gd (0≤i64.wrap (aV - (1:Int))∧i64.wrap (aV - (1:Int))<16) (some (decide (((ox)[(i64.wrap (aV - (1:Int))).toNat]!)=(0:Int))))) (some (false))) fun mD=>cnd mD (some (.inl (i64.wrap (aV - (1:Int))))) (some (.inr aV))
def d9(ox:Vector Int 16):Option Int:=bnd (a7 (jB ox) (16:Int)) fun na=>some na
theorem jd {ox:Vector Int 16}{r:Int}(h:d9 ox=some r):aB prog 128 [dG al_cV ox] (dI .i64 r):=by
 refine bJ (rs:=[.tmp 2]) (fun cx hx h0=>?_) func128
 unfold d9 at h
 iterate 2 refine ra hx ?_
 refine AW.seq (AW.block ?_)
 obtain⟨na,hy,h⟩:=ah h
 refine lp (S:=Int) (X:=Int) (fun aV=>[(1,.pt 0 0),(3,dI .i64 aV)]) (fun aV=>⟨[(0,dC (al_cV.f ox))],[],1⟩) (PE cx (.exit 0) (fun na=>[(3,dI .i64 na)]) fun na=>⟨[],[],0⟩) hy ?_ ?_ ?_
 exact wk h0 [0] (wR rfl (wR rfl wTn)) (vC rfl wVn) wLn
 clear hy h
 rintro aV y h
 dsimp only[jB] at h
 iterate 2 refine AW.seq ?_
 obtain⟨mD,hy,h⟩:=ah h
 refine jn ((PE cx .normal (fun mD=>[(1,.pt 0 0),(3,dI .i64 aV),(12,dB mD)]) fun mD=>⟨[(0,dC (al_cV.f ox))],[],1⟩) mD) ?_ ?_
 replace h:=hy
 refine rq hx fun K hK=>?_
 iterate 3 refine sa ?_
 rcases bP (decide ((0:Int)<aV)) with cQ|cQ
 replace h:=ba cQ h
 iterate 2 refine ga cQ ?_
 obtain⟨mR,h⟩:=az h
 have pH:(i64.wrap (aV - (1:Int))).toNat<16:=by omega
 refine g1 cQ (cj mR aC aH) ?_
 refine g1 cQ (a6 (an.comp (an.id _ _) (an.vec (cI .u32) ox (i64.wrap (aV - (1:Int))).toNat pH) (fun _=>rfl)) aH) ?_
 refine ga cQ ?_
 refine s1 (am cQ) ?_
 refine .nil (hK _ _ ?_)
 cases h
 exact pe0 h0 [0]
 replace h:=bb cQ h
 iterate 5 refine aK rfl rfl cQ ?_
 refine s1 (ax cQ) ?_
 refine .nil (hK _ _ ?_)
 cases h
 exact pe0 h0 [0]
 rintro ex tm' hp' ⟨rfl,hw⟩
 refine AW.weak hw (cdh h rfl (fun pI h=>?_) (fun pI h=>?_))
 refine AW.skip (AW.block (rb hx ?_))
 cases h
 exact PS.l (pe0 h0 [0])
 refine AW.exit ?_
 try dsimp only
 try simp only[bk,reduceIte,Nat.reduceEqDiff,reduceCtorEq]
 cases h
 exact PS.r ⟨by nofun,PE.i (wk h0 [] (wR rfl wTn) wVn wLn)⟩
 rintro ex tm' hp' ⟨rfl,hw⟩
 try dsimp only
 try simp only[bk,reduceIte,Nat.reduceEqDiff,reduceCtorEq]
 refine AW.weak hw (ra hx ?_)
 refine AW.ret ?_
 cases h
 exact rv1
def lc(bj:Int):Option Int:=bnd (S:=Int×Int) (cnd (decide ((65536:Int)≤bj)) (some ((kA .u32 bj (16:Int),(16:Int)))) (some ((bj,(0:Int))))) fun (jv,EL)=>bnd (S:=Int×Int) (cnd (decide ((256:Int)≤jv)) (some ((kA .u32 jv (8:Int),i64.wrap (EL+(8:Int))))) (some ((jv,EL)))) fun (jK,Bl)=>gd (0≤u8.wrap (jK)∧u8.wrap (jK)<((⟨#[0,1,2,2,3,3,3,3,4,4,4,4,4,4,4,4,5,5,5,5,5,5,5,5,5,5,5,5,5,5,5,5,6,6,6,6,6,6,6,6,6,6,6,6,6,6,6,6,6,6,6,6,6,6,6,6,6,6,6,6,6,6,6,6,7,7,7,7,7,7,7,7,7,7,7,7,7,7,7,7,7,7,7,7,7,7,7,7,7,7,7,7,7,7,7,7,7,7,7,7,7,7,7,7,7,7,7,7,7,7,7,7,7,7,7,7,7,7,7,7,7,7,7,7,7,7,7,7,8,8,8,8,8,8,8,8,8,8,8,8,8,8,8,8,8,8,8,8,8,8,8,8,8,8,8,8,8,8,8,8,8,8,8,8,8,8,8,8,8,8,8,8,8,8,8,8,8,8,8,8,8,8,8,8,8,8,8,8,8,8,8,8,8,8,8,8,8,8,8,8,8,8,8,8,8,8,8,8,8,8,8,8,8,8,8,8,8,8,8,8,8,8,8,8,8,8,8,8,8,8,8,8,8,8,8,8,8,8,8,8,8,8,8,8,8,8,8,8,8,8,8,8,8,8,8,8]⟩:ByteArray).size:Int)) (bnd (some (i64.wrap (Bl+(i64.wrap (sAt (⟨#[0,1,2,2,3,3,3,3,4,4,4,4,4,4,4,4,5,5,5,5,5,5,5,5,5,5,5,5,5,5,5,5,6,6,6,6,6,6,6,6,6,6,6,6,6,6,6,6,6,6,6,6,6,6,6,6,6,6,6,6,6,6,6,6,7,7,7,7,7,7,7,7,7,7,7,7,7,7,7,7,7,7,7,7,7,7,7,7,7,7,7,7,7,7,7,7,7,7,7,7,7,7,7,7,7,7,7,7,7,7,7,7,7,7,7,7,7,7,7,7,7,7,7,7,7,7,7,7,8,8,8,8,8,8,8,8,8,8,8,8,8,8,8,8,8,8,8,8,8,8,8,8,8,8,8,8,8,8,8,8,8,8,8,8,8,8,8,8,8,8,8,8,8,8,8,8,8,8,8,8,8,8,8,8,8,8,8,8,8,8,8,8,8,8,8,8,8,8,8,8,8,8,8,8,8,8,8,8,8,8,8,8,8,8,8,8,8,8,8,8,8,8,8,8,8,8,8,8,8,8,8,8,8,8,8,8,8,8,8,8,8,8,8,8,8,8,8,8,8,8,8,8,8,8,8,8]⟩:ByteArray) (u8.wrap (jK)).toNat))))) fun x6=>some x6)
theorem vA {bj:Int}{r:Int}(h:lc bj=some r):aB prog 179 [dI .u32 bj] (dI .i64 r):=by
 refine bJ (rs:=[.tmp 2]) (fun cx hx h0=>?_) func179
 unfold lc at h
 refine ra hx ?_
 refine AW.seq ?_
 obtain⟨y,hy,h⟩:=ah h
 refine jn ((PE cx .normal (fun (jv,EL)=>[(0,dI .u32 jv),(2,dI .i64 EL)]) fun (jv,EL)=>⟨[],[],0⟩) y) ?_ ?_
 replace h:=hy
 refine ra hx ?_
 refine cdh h rfl (fun cQ h=>?_) (fun cQ h=>?_)
 refine ra hx ?_
 refine rb hx ?_
 cases h
 exact pe0 h0 []
 refine AW.skip ?_
 cases h
 exact pe0 h0 []
 obtain⟨jv,EL⟩:=y
 rintro ex tm' hp' ⟨rfl,hw⟩
 refine AW.weak hw (AW.seq ?_)
 obtain⟨y,hy,h⟩:=ah h
 refine jn ((PE cx .normal (fun (jK,Bl)=>[(0,dI .u32 jK),(2,dI .i64 Bl)]) fun (jK,Bl)=>⟨[],[],0⟩) y) ?_ ?_
 replace h:=hy
 refine ra hx ?_
 refine cdh h rfl (fun bn h=>?_) (fun bn h=>?_)
 refine ra hx ?_
 refine rb hx ?_
 cases h
 exact pe0 h0 []
 refine AW.skip ?_
 cases h
 exact pe0 h0 []
 obtain⟨jK,Bl⟩:=y
 rintro ex tm' hp' ⟨rfl,hw⟩
 refine AW.weak hw (rs hx fun K hK=>?_)
 iterate 3 refine sa ?_
 obtain⟨JI,h⟩:=az h
 refine s1 (T_ixS JI tb_9) ?_
 iterate 2 refine sa ?_
 obtain⟨x6,sZ,h⟩:=ah h
 replace sZ:=eG sZ
 refine s2 (d2:=dI .i64 x6) ke (fK (congrArg (dI .i64) sZ)) ?_
 refine .nil (hK _ _ (AW.ret ?_))
 cases h
 exact rv1
def mV(bj:ar):Option Int:=bnd (d9 bj.vW) fun x1=>bnd (S:=Bool) (bnd (cK [bj]) fun x3=>cnd (!x3) (some (true)) (some (decide (x1=(0:Int))))) fun aV=>cnd aV (some (0:Int)) (gd (0≤i64.wrap (x1 - (1:Int))∧i64.wrap (x1 - (1:Int))<16) (bnd (lc ((bj.vW)[(i64.wrap (x1 - (1:Int))).toNat]!)) fun nr=>some (i64.wrap ((i64.wrap ((32:Int)*(i64.wrap (x1 - (1:Int)))))+nr))))
theorem Dg {bj:ar}{r:Int}(h:mV bj=some r):aB prog 180 [dG ap bj] (dI .i64 r):=by
 refine bJ (rs:=[.tmp 2]) (fun cx hx h0=>?_) func180
 unfold mV at h
 refine ra hx ?_
 refine rs hx fun K hK=>?_
 refine sa ?_
 refine s1 (aD (aS bj) aC) ?_
 refine scb h jd fun x1 h=>?_
 refine sa ?_
 refine .nil (hK _ _ ?_)
 iterate 2 refine AW.seq ?_
 obtain⟨aV,hy,h⟩:=ah h
 refine jn ((PE cx .normal (fun aV=>[(1,.pt 0 0),(3,dI .i64 x1),(14,dB aV)]) fun aV=>⟨[(0,dC (ap.f bj))],[],1⟩) aV) ?_ ?_
 replace h:=hy
 refine rq hx fun K hK=>?_
 refine s1 (d:=dG ap bj) (aD (an.id _ _) aA) ?_
 refine s1 (pX ([bj]:List ar) ap px aA) ?_
 refine scb h gb fun x3 h=>?_
 iterate 2 refine sa ?_
 rcases bP (!x3) with pI|pI
 replace h:=ba pI h
 iterate 2 refine aK rfl rfl pI ?_
 refine s1 (am pI) ?_
 refine .nil (hK _ _ ?_)
 cases h
 exact pe0 h0 [0]
 replace h:=bb pI h
 iterate 2 refine ga pI ?_
 refine s1 (ax pI) ?_
 refine .nil (hK _ _ ?_)
 cases h
 exact pe0 h0 [0]
 rintro ex tm' hp' ⟨rfl,hw⟩
 refine AW.weak hw (cdh h rfl (fun v6 h=>?_) (fun v6 h=>?_))
 refine ra hx ?_
 refine AW.ret ?_
 cases h
 exact rv1
 refine AW.skip (rs hx fun K hK=>?_)
 iterate 6 refine sa ?_
 obtain⟨H5,h⟩:=az h
 have HW:(i64.wrap (x1 - (1:Int))).toNat<16:=by omega
 refine s1 (cj H5 aC aH) ?_
 refine s1 (a6 (an.comp (aS bj) (an.vec (cI .u32) bj.vW (i64.wrap (x1 - (1:Int))).toNat HW) (fun _=>rfl)) aH) ?_
 refine scb h vA fun nr h=>?_
 iterate 2 refine sa ?_
 refine .nil (hK _ _ (AW.ret ?_))
 cases h
 exact rv1
def jQ(bj:ar):Option (Int×Bool):=bnd (S:=Bool) (bnd (cK [bj]) fun x1=>cnd (!x1) (some (true)) (bnd (mV bj) fun x4=>some (decide ((64:Int)<x4)))) fun bQ=>cnd bQ (some ((0:Int),false)) (bnd (some (ior .u64 (uP .u64 (u64.wrap ((bj.vW)[((1:Int)).toNat]!)) (32:Int)) (u64.wrap ((bj.vW)[((0:Int)).toNat]!)))) fun nr=>bnd (S:=Bool) (cnd bj.vNeg (some (decide (nr≤(9223372036854775808:Int)))) (some (false))) fun C9=>cnd C9 (some (i64.wrap (u64.wrap (0 - nr)),true)) (bnd (S:=Bool) (cnd (!bj.vNeg) (some (decide (nr<(9223372036854775808:Int)))) (some (false))) fun gr=>cnd gr (some (i64.wrap (nr),true)) (some ((0:Int),false))))
theorem ud {bj:ar}{r:Int×Bool}(h:jQ bj=some r):aB prog 176 [dG ap bj] (.tu [dI .i64 r.1,dB r.2]):=by
 refine bJ (rs:=[.tmp 2,.tmp 3]) (fun cx hx h0=>?_) func176
 unfold jQ at h
 refine ra hx ?_
 iterate 2 refine AW.seq ?_
 obtain⟨bQ,hy,h⟩:=ah h
 refine jn ((PE cx .normal (fun bQ=>[(1,.pt 0 0),(13,dB bQ)]) fun bQ=>⟨[(0,dC (ap.f bj))],[],1⟩) bQ) ?_ ?_
 replace h:=hy
 refine rq hx fun K hK=>?_
 refine s1 (d:=dG ap bj) (aD (an.id _ _) aA) ?_
 refine s1 (pX ([bj]:List ar) ap px aA) ?_
 refine scb h gb fun x1 h=>?_
 iterate 2 refine sa ?_
 rcases bP (!x1) with bn|bn
 replace h:=ba bn h
 iterate 3 refine aK rfl rfl bn ?_
 refine s1 (am bn) ?_
 refine .nil (hK _ _ ?_)
 cases h
 exact pe0 h0 [0]
 replace h:=bb bn h
 refine g1 (d:=dG ap bj) bn (aD (an.id _ _) aA) ?_
 obtain⟨x4,uQ,h⟩:=ah h
 refine g1 bn (c9 rfl (Dg uQ) (by simp only[e8,gL,js,lE,iC,iB];exact bh _ _) (lA (fb _ _) lAn) (.inl rfl)) ?_
 refine ga bn ?_
 refine s1 (ax bn) ?_
 refine .nil (hK _ _ ?_)
 cases h
 exact pe0 h0 [0]
 rintro ex tm' hp' ⟨rfl,hw⟩
 refine AW.weak hw (cdh h rfl (fun v6 h=>?_) (fun v6 h=>?_))
 refine ra hx ?_
 refine AW.ret ?_
 cases h
 exact rv2
 refine AW.skip (rs hx fun K hK=>?_)
 refine sa ?_
 have Nn:((1:Int)).toNat<16:=by omega
 refine s1 (cj (by decide:0≤(1:Int)∧(1:Int)<((16:Nat):Int)) aC aH) ?_
 refine s1 (a6 (an.comp (aS bj) (an.vec (cI .u32) bj.vW ((1:Int)).toNat Nn) (fun _=>rfl)) aH) ?_
 iterate 3 refine sa ?_
 have HW:((0:Int)).toNat<16:=by omega
 refine s1 (cj (by decide:0≤(0:Int)∧(0:Int)<((16:Nat):Int)) aC aH) ?_
 refine s1 (a6 (an.comp (aS bj) (an.vec (cI .u32) bj.vW ((0:Int)).toNat HW) (fun _=>rfl)) aH) ?_
 iterate 2 refine sa ?_
 obtain⟨nr,yQ,h⟩:=ah h
 replace yQ:=eG yQ
 refine s2 (d2:=dI .u64 nr) ke (fK (congrArg (dI .u64) yQ)) ?_
 refine .nil (hK _ _ (AW.seq (AW.block (AW.seq ?_))))
 obtain⟨C9,hy,h⟩:=ah h
 refine jn ((PE cx .normal (fun C9=>[(1,.pt 0 0),(4,dI .u64 nr),(24,dB C9)]) fun C9=>⟨[(0,dC (ap.f bj))],[],1⟩) C9) ?_ ?_
 replace h:=hy
 refine rq hx fun K hK=>?_
 refine sa ?_
 refine s1 (a6 (bp bj) ge) ?_
 refine sa ?_
 rcases bP bj.vNeg with td|td
 replace h:=ba td h
 iterate 2 refine ga td ?_
 refine s1 (am td) ?_
 refine sa ?_
 refine .nil (hK _ _ ?_)
 cases h
 exact pe0 h0 [0]
 replace h:=bb td h
 iterate 2 refine aK rfl rfl td ?_
 refine s1 (ax td) ?_
 refine sa ?_
 refine .nil (hK _ _ ?_)
 cases h
 exact pe0 h0 [0]
 rintro ex tm' hp' ⟨rfl,hw⟩
 refine AW.weak hw (cdh h rfl (fun mf h=>?_) (fun mf h=>?_))
 refine ra hx ?_
 refine AW.ret ?_
 cases h
 exact rv2
 refine AW.seq ?_
 obtain⟨gr,hy,h⟩:=ah h
 refine jn ((PE cx .normal (fun gr=>[(4,dI .u64 nr),(34,dB gr)]) fun gr=>⟨[],[],0⟩) gr) ?_ ?_
 replace h:=hy
 refine rq hx fun K hK=>?_
 refine sa ?_
 refine s1 (a6 (bp bj) ge) ?_
 iterate 2 refine sa ?_
 rcases bP (!bj.vNeg) with xz|xz
 replace h:=ba xz h
 iterate 2 refine ga xz ?_
 refine s1 (am xz) ?_
 refine sa ?_
 refine .nil (hK _ _ ?_)
 cases h
 exact pe0 h0 []
 replace h:=bb xz h
 iterate 2 refine aK rfl rfl xz ?_
 refine s1 (ax xz) ?_
 refine sa ?_
 refine .nil (hK _ _ ?_)
 cases h
 exact pe0 h0 []
 rintro ex tm' hp' ⟨rfl,hw⟩
 refine AW.weak hw (cdh h rfl (fun xy h=>?_) (fun xy h=>?_))
 refine ra hx ?_
 refine AW.ret ?_
 cases h
 exact rv2
 refine AW.skip (ra hx ?_)
 refine AW.ret ?_
 cases h
 exact rv2
def fh(bj:Int):Option Bool:=some (decide (bj≠bj))
theorem pq {bj:Int}{r:Bool}(h:fh bj=some r):aB prog 181 [dI .u32 bj] (dB r):=by
 refine bJ (rs:=[.tmp 2]) (fun cx hx h0=>?_) func181
 unfold fh at h
 iterate 2 refine ra hx ?_
 refine AW.ret ?_
 cases h
 exact rv1
def fG(bj:Int)(ng:Int):Option Int:=bnd (fh bj) fun x1=>bnd (fh ng) fun x3=>cnd x1 (cnd x3 (some (0:Int)) (some (-1:Int))) (cnd x3 (some (1:Int)) (cnd (decide (bj<ng)) (some (-1:Int)) (cnd (decide (ng<bj)) (some (1:Int)) (some (0:Int)))))
theorem sP {bj:Int}{ng:Int}{r:Int}(h:fG bj ng=some r):aB prog 178 [dI .u32 bj,dI .u32 ng] (dI .i64 r):=by
 refine bJ (rs:=[.tmp 4]) (fun cx hx h0=>?_) func178
 unfold fG at h
 refine ra hx ?_
 refine rs hx fun K hK=>?_
 refine sa ?_
 refine scb h pq fun x1 h=>?_
 refine sa ?_
 refine .nil (hK _ _ (rs hx fun K hK=>?_))
 refine sa ?_
 refine scb h pq fun x3 h=>?_
 refine sa ?_
 refine .nil (hK _ _ (AW.seq (ra hx ?_)))
 refine cdh h rfl (fun pI h=>?_) (fun pI h=>?_)
 refine AW.seq (ra hx ?_)
 refine cdh h rfl (fun ej h=>?_) (fun ej h=>?_)
 refine ra hx ?_
 refine AW.ret ?_
 cases h
 exact rv1
 refine AW.skip (ra hx ?_)
 refine AW.ret ?_
 cases h
 exact rv1
 refine AW.skip (AW.seq (ra hx ?_))
 refine cdh h rfl (fun v6 h=>?_) (fun v6 h=>?_)
 refine ra hx ?_
 refine AW.ret ?_
 cases h
 exact rv1
 refine AW.skip (AW.seq (ra hx ?_))
 refine cdh h rfl (fun pg h=>?_) (fun pg h=>?_)
 refine ra hx ?_
 refine AW.ret ?_
 cases h
 exact rv1
 refine AW.skip (AW.seq (ra hx ?_))
 refine cdh h rfl (fun DY h=>?_) (fun DY h=>?_)
 refine ra hx ?_
 refine AW.ret ?_
 cases h
 exact rv1
 refine AW.skip (ra hx ?_)
 refine AW.ret ?_
 cases h
 exact rv1
def iP(aY:Vector Int 16)(a8:Vector Int 16):Int→Option (Int⊕(Int⊕Unit)):=fun aV=>cnd (decide ((0:Int)≤aV)) (gd (0≤aV∧aV<16) (gd (0≤aV∧aV<16) (cnd (decide (((aY)[(aV).toNat]!)≠((a8)[(aV).toNat]!))) (gd (0≤aV∧aV<16) (gd (0≤aV∧aV<16) (bnd (fG ((aY)[(aV).toNat]!) ((a8)[(aV).toNat]!)) fun t9=>some (.inr (.inl t9))))) (some (.inl (i64.wrap (aV - (1:Int)))))))) (some (.inr (.inr ())))
def jO(aY:Vector Int 16)(a8:Vector Int 16):Option Int:=bnd (a7 (iP aY a8) (15:Int)) fun y13=>match y13 with| .inl r=>some r| .inr ()=>some (0:Int)
theorem ub {aY:Vector Int 16}{a8:Vector Int 16}{r:Int}(h:jO aY a8=some r):aB prog 161 [dG al_cV aY,dG al_cV a8] (dI .i64 r):=by
 refine bJ (rs:=[.tmp 4]) (fun cx hx h0=>?_) func161
 unfold jO at h
 refine ra hx ?_
 refine AW.seq (ra hx ?_)
 refine AW.block ?_
 obtain⟨y,hy,h⟩:=ah h
 refine lp (S:=Int) (X:=Int⊕Unit) (fun aV=>[(2,.pt 0 0),(3,.pt 1 0),(5,dI .i64 aV)]) (fun aV=>⟨[(0,dC (al_cV.f aY)),(1,dC (al_cV.f a8))],[],2⟩) (PS (PR [.tmp 4] fun r=>dI .i64 r) (PE cx (.exit 0) (fun ()=>[]) fun ()=>⟨[],[],0⟩)) hy ?_ ?_ ?_
 exact wk h0 [0,1] (wR rfl (wR rfl (wR rfl wTn))) (vC rfl (vC rfl wVn)) wLn
 clear hy h
 rintro aV y h
 dsimp only[iP] at h
 refine AW.seq (ra hx ?_)
 refine cdh h rfl (fun cQ h=>?_) (fun cQ h=>?_)
 refine AW.skip (AW.seq (AW.block (rsd [] hx fun K hK=>?_)))
 refine sa ?_
 obtain⟨mR,h⟩:=az h
 have pH:(aV).toNat<16:=by omega
 refine s1 (cj mR aC aH) ?_
 refine s1 (a6 (an.comp (an.id _ _) (an.vec (cI .u32) aY (aV).toNat pH) (fun _=>rfl)) aH) ?_
 refine sa ?_
 obtain⟨E2,h⟩:=az h
 have No:(aV).toNat<16:=by omega
 refine s1 (cj E2 aC aH) ?_
 refine s1 (a6 (an.comp (an.id _ _) (an.vec (cI .u32) a8 (aV).toNat No) (fun _=>rfl)) aH) ?_
 refine sa ?_
 refine .nil (hK _ _ (cdh h rfl (fun ej h=>?_) (fun ej h=>?_)))
 refine rsd [178] hx fun K hK=>?_
 refine sa ?_
 obtain⟨NK,h⟩:=az h
 have Nn:(aV).toNat<16:=by omega
 refine s1 (cj NK aC aH) ?_
 refine s1 (a6 (an.comp (an.id _ _) (an.vec (cI .u32) aY (aV).toNat Nn) (fun _=>rfl)) aH) ?_
 refine sa ?_
 obtain⟨hc9,h⟩:=az h
 have hn10:(aV).toNat<16:=by omega
 refine s1 (cj hc9 aC aH) ?_
 refine s1 (a6 (an.comp (an.id _ _) (an.vec (cI .u32) a8 (aV).toNat hn10) (fun _=>rfl)) aH) ?_
 refine cqb h sP fun t9 h=>?_
 refine sa ?_
 refine .nil (hK _ _ (AW.ret ?_))
 cases h
 refine PS.r ⟨by nofun,PS.l (PR.i ?_)⟩
 exact rv1
 refine AW.skip (rb hx ?_)
 cases h
 exact PS.l (pe0 h0 [0,1])
 refine AW.exit ?_
 try dsimp only
 try simp only[bk,reduceIte,Nat.reduceEqDiff,reduceCtorEq]
 cases h
 exact PS.r ⟨by nofun,PS.r (PE.i (wk h0 [] wTn wVn wLn))⟩
 rcases y with r|⟨⟩
 rintro ex tm' hp' ⟨rfl,hw⟩
 cases h
 exact hw
 rintro ex tm' hp' ⟨rfl,hw⟩
 try dsimp only
 try simp only[bk,reduceIte,Nat.reduceEqDiff,reduceCtorEq]
 refine AW.weak hw (ra hx ?_)
 refine AW.ret ?_
 cases h
 exact rv1
def iO(aY:Vector Int 16)(a8:Vector Int 16):Int×Int×(Vector Int 16)→Option ((Int×Int×(Vector Int 16))⊕(Int×(Vector Int 16))):=fun (cO,bm,dH)=>cnd (decide (bm<(16:Int))) (gd (0≤bm∧bm<16) (gd (0≤bm∧bm<16) (bnd (some (u64.wrap (cO+(u64.wrap ((u64.wrap ((aY)[(bm).toNat]!))+(u64.wrap ((a8)[(bm).toNat]!))))))) fun x6=>gd (0≤bm∧bm<16) (some (.inl (kA .u64 x6 (32:Int),i64.wrap (bm+(1:Int)),(dH).set! (bm).toNat (u32.wrap (x6)))))))) (some (.inr (cO,dH)))
def mT(aY:Vector Int 16)(a8:Vector Int 16):Option ((Vector Int 16)×Bool):=bnd (a7 (iO aY a8) ((0:Int),(0:Int),(bM))) fun (bW,jw)=>some (jw,decide (bW=(0:Int)))
theorem De {aY:Vector Int 16}{a8:Vector Int 16}{r:(Vector Int 16)×Bool}(h:mT aY a8=some r):aB prog 160 [dG al_cV aY,dG al_cV a8] (.tu [dG al_cV r.1,dB r.2]):=by
 refine bJ (rs:=[.cell 4 30,.tmp 5]) (fun cx hx h0=>?_) func160
 unfold mT at h
 refine rs hx fun K hK=>?_
 iterate 2 refine sa ?_
 refine s1 (bq (F:=al_cV.f (bM)) aC) ?_
 refine sa ?_
 refine .nil (hK _ _ (rs hx fun K hK=>?_))
 refine s1 (bq (F:=al_cV.f (bM)) aC) ?_
 refine .nil (hK _ _ (ra hx ?_))
 refine AW.seq (ra hx ?_)
 refine AW.block ?_
 obtain⟨y,hy,h⟩:=ah h
 refine lp (S:=Int×Int×(Vector Int 16)) (X:=Int×(Vector Int 16)) (fun (cO,bm,dH)=>[(2,.pt 0 0),(3,.pt 1 0),(4,.pt 2 0),(6,.pt 3 0),(7,dI .u64 cO),(9,dI .i64 bm)]) (fun (cO,bm,dH)=>⟨[(0,dC (al_cV.f aY)),(1,dC (al_cV.f a8)),(2,dC (al_cV.f (bM))),(3,dC (al_cV.f dH))],[],4⟩) (PE cx (.exit 0) (fun (bW,jw)=>[(4,.pt 0 0),(6,.pt 1 0),(7,dI .u64 bW)]) fun (bW,jw)=>⟨[(0,dC (al_cV.f (bM))),(1,dC (al_cV.f jw))],[],2⟩) hy ?_ ?_ ?_
 exact wk h0 [0,1,2,3] (wR rfl (wR rfl (wR rfl (wR rfl (wR rfl (wR rfl wTn)))))) (vC rfl (vC rfl (vC rfl (vC rfl wVn)))) wLn
 clear hy h
 rintro⟨cO,bm,dH⟩ y h
 dsimp only[iO] at h
 refine ra hx ?_
 refine AW.seq (cdh h rfl (fun cQ h=>?_) (fun cQ h=>?_))
 refine AW.skip (AW.seq (AW.block (ra hx ?_)))
 refine rsd [] hx fun K hK=>?_
 iterate 2 refine sa ?_
 obtain⟨mR,h⟩:=az h
 have pH:(bm).toNat<16:=by omega
 refine s1 (cj mR aC aH) ?_
 refine s1 (a6 (an.comp (an.id _ _) (an.vec (cI .u32) aY (bm).toNat pH) (fun _=>rfl)) aH) ?_
 iterate 2 refine sa ?_
 obtain⟨E2,h⟩:=az h
 have No:(bm).toNat<16:=by omega
 refine s1 (cj E2 aC aH) ?_
 refine s1 (a6 (an.comp (an.id _ _) (an.vec (cI .u32) a8 (bm).toNat No) (fun _=>rfl)) aH) ?_
 iterate 3 refine sa ?_
 obtain⟨x6,sZ,h⟩:=ah h
 replace sZ:=eG sZ
 refine s2 (d2:=dI .u64 x6) ke (fK (congrArg (dI .u64) sZ)) ?_
 refine .nil (hK _ _ (rs hx fun K hK=>?_))
 iterate 3 refine sa ?_
 obtain⟨H5,h⟩:=az h
 have HW:(bm).toNat<16:=by omega
 refine s1 (cj H5 aC aH) ?_
 refine s0 (aO (b':=u32.wrap (x6)) (an.comp (an.id _ _) (an.vec (cI .u32) dH (bm).toNat HW) (fun _=>rfl)) aH) ?_
 refine .nil (hK _ _ ?_)
 iterate 2 refine rb hx ?_
 cases h
 exact PS.l (pe0 h0 [0,1,2,3])
 refine AW.exit ?_
 try dsimp only
 try simp only[bk,reduceIte,Nat.reduceEqDiff,reduceCtorEq]
 cases h
 exact PS.r ⟨by nofun,PE.i (wk h0 [2,3] (wR rfl (wR rfl (wR rfl wTn))) (vC rfl (vC rfl wVn)) wLn)⟩
 obtain⟨bW,jw⟩:=y
 rintro ex tm' hp' ⟨rfl,hw⟩
 try dsimp only
 try simp only[bk,reduceIte,Nat.reduceEqDiff,reduceCtorEq]
 refine AW.weak hw (rs hx fun K hK=>?_)
 refine s1 (d:=dG al_cV jw) (aD (an.id _ _) aC) ?_
 iterate 2 refine sa ?_
 refine s0 (aO (b':=jw) (an.id _ _) aC) ?_
 refine sa ?_
 refine .nil (hK _ _ (AW.ret ?_))
 cases h
 exact rv2
def g8(aY:Vector Int 16)(a8:Vector Int 16):Int×Int×(Vector Int 16)→Option ((Int×Int×(Vector Int 16))⊕((Vector Int 16))):=fun (cO,bm,dH)=>cnd (decide (bm<(16:Int))) (gd (0≤bm∧bm<16) (gd (0≤bm∧bm<16) (bnd (some (u64.wrap ((u64.wrap ((u64.wrap ((aY)[(bm).toNat]!)) - (u64.wrap ((a8)[(bm).toNat]!)))) - cO))) fun x6=>gd (0≤bm∧bm<16) (some (.inl (kA .u64 x6 (63:Int),i64.wrap (bm+(1:Int)),(dH).set! (bm).toNat (u32.wrap (x6)))))))) (some (.inr dH))
def gm(aY:Vector Int 16)(a8:Vector Int 16):Option (Vector Int 16):=bnd (a7 (g8 aY a8) ((0:Int),(0:Int),(bM))) fun bW=>some bW
theorem qr {aY:Vector Int 16}{a8:Vector Int 16}{r:Vector Int 16}(h:gm aY a8=some r):aB prog 162 [dG al_cV aY,dG al_cV a8] (dG al_cV r):=by
 refine bJ (rs:=[.cell 4 30]) (fun cx hx h0=>?_) func162
 unfold gm at h
 refine rs hx fun K hK=>?_
 iterate 2 refine sa ?_
 refine s1 (bq (F:=al_cV.f (bM)) aC) ?_
 refine .nil (hK _ _ (rs hx fun K hK=>?_))
 refine s1 (bq (F:=al_cV.f (bM)) aC) ?_
 refine .nil (hK _ _ (ra hx ?_))
 refine AW.seq (ra hx ?_)
 refine AW.block ?_
 obtain⟨bW,hy,h⟩:=ah h
 refine lp (S:=Int×Int×(Vector Int 16)) (X:=(Vector Int 16)) (fun (cO,bm,dH)=>[(2,.pt 0 0),(3,.pt 1 0),(4,.pt 2 0),(5,.pt 3 0),(6,dI .u64 cO),(9,dI .i64 bm)]) (fun (cO,bm,dH)=>⟨[(0,dC (al_cV.f aY)),(1,dC (al_cV.f a8)),(2,dC (al_cV.f (bM))),(3,dC (al_cV.f dH))],[],4⟩) (PE cx (.exit 0) (fun bW=>[(4,.pt 0 0),(5,.pt 1 0)]) fun bW=>⟨[(0,dC (al_cV.f (bM))),(1,dC (al_cV.f bW))],[],2⟩) hy ?_ ?_ ?_
 exact wk h0 [0,1,2,3] (wR rfl (wR rfl (wR rfl (wR rfl (wR rfl (wR rfl wTn)))))) (vC rfl (vC rfl (vC rfl (vC rfl wVn)))) wLn
 clear hy h
 rintro⟨cO,bm,dH⟩ y h
 dsimp only[g8] at h
 refine ra hx ?_
 refine AW.seq (cdh h rfl (fun cQ h=>?_) (fun cQ h=>?_))
 refine AW.skip (AW.seq (AW.block (ra hx ?_)))
 refine rsd [] hx fun K hK=>?_
 refine sa ?_
 obtain⟨mR,h⟩:=az h
 have pH:(bm).toNat<16:=by omega
 refine s1 (cj mR aC aH) ?_
 refine s1 (a6 (an.comp (an.id _ _) (an.vec (cI .u32) aY (bm).toNat pH) (fun _=>rfl)) aH) ?_
 iterate 2 refine sa ?_
 obtain⟨E2,h⟩:=az h
 have No:(bm).toNat<16:=by omega
 refine s1 (cj E2 aC aH) ?_
 refine s1 (a6 (an.comp (an.id _ _) (an.vec (cI .u32) a8 (bm).toNat No) (fun _=>rfl)) aH) ?_
 iterate 4 refine sa ?_
 obtain⟨x6,sZ,h⟩:=ah h
 replace sZ:=eG sZ
 refine s2 (d2:=dI .u64 x6) ke (fK (congrArg (dI .u64) sZ)) ?_
 refine .nil (hK _ _ (rs hx fun K hK=>?_))
 iterate 3 refine sa ?_
 obtain⟨H5,h⟩:=az h
 have HW:(bm).toNat<16:=by omega
 refine s1 (cj H5 aC aH) ?_
 refine s0 (aO (b':=u32.wrap (x6)) (an.comp (an.id _ _) (an.vec (cI .u32) dH (bm).toNat HW) (fun _=>rfl)) aH) ?_
 refine .nil (hK _ _ ?_)
 iterate 2 refine rb hx ?_
 cases h
 exact PS.l (pe0 h0 [0,1,2,3])
 refine AW.exit ?_
 try dsimp only
 try simp only[bk,reduceIte,Nat.reduceEqDiff,reduceCtorEq]
 cases h
 exact PS.r ⟨by nofun,PE.i (wk h0 [2,3] (wR rfl (wR rfl wTn)) (vC rfl (vC rfl wVn)) wLn)⟩
 rintro ex tm' hp' ⟨rfl,hw⟩
 try dsimp only
 try simp only[bk,reduceIte,Nat.reduceEqDiff,reduceCtorEq]
 refine AW.weak hw (rs hx fun K hK=>?_)
 refine s1 (d:=dG al_cV bW) (aD (an.id _ _) aC) ?_
 refine s0 (aO (b':=bW) (an.id _ _) aC) ?_
 refine .nil (hK _ _ (AW.ret ?_))
 cases h
 exact rv1
def ib(aY:ar)(a8:ar):Option ar:=bnd (cK [aY,a8]) fun x1=>cnd (!x1) (bnd (dU) fun x4=>some x4) (cnd (aY.vNeg == a8.vNeg) (bnd (mT aY.vW a8.vW) fun x7=>cnd (!x7.2) (bnd (dU) fun nr=>some nr) (bnd (bC aY.vNeg x7.1) fun i9=>some i9)) (bnd (jO aY.vW a8.vW) fun pm=>cnd (decide ((0:Int)≤pm)) (bnd (gm aY.vW a8.vW) fun pl=>bnd (bC aY.vNeg pl) fun I8=>some I8) (bnd (gm a8.vW aY.vW) fun BE=>bnd (bC a8.vNeg BE) fun EU=>some EU)))
theorem yg {aY:ar}{a8:ar}{r:ar}(h:ib aY a8=some r):aB prog 127 [dG ap aY,dG ap a8] (dG ap r):=by
 refine bJ (rs:=[.cell 4 32]) (fun cx hx h0=>?_) func127
 unfold ib at h
 refine rs hx fun K hK=>?_
 iterate 2 refine sa ?_
 refine s1 (bq (F:=ap.f br) aA) ?_
 refine .nil (hK _ _ (AW.seq (rs hx fun K hK=>?_)))
 refine s1 (d:=dG ap aY) (aD (an.id _ _) aA) ?_
 refine s1 (d:=dG ap a8) (aD (an.id _ _) aA) ?_
 refine s1 (pX ([aY,a8]:List ar) ap px aA) ?_
 refine scb h gb fun x1 h=>?_
 refine sa ?_
 refine .nil (hK _ _ (cdh h rfl (fun bn h=>?_) (fun bn h=>?_)))
 refine rs hx fun K hK=>?_
 refine scb h gl fun x4 h=>?_
 refine s0 (aO (b':=x4) (an.id _ _) aA) ?_
 refine .nil (hK _ _ (AW.ret ?_))
 cases h
 exact rv1
 refine AW.skip (AW.seq (rs hx fun K hK=>?_))
 refine sa ?_
 refine s1 (a6 (bp aY) ge) ?_
 refine sa ?_
 refine s1 (a6 (bp a8) ge) ?_
 refine sa ?_
 refine .nil (hK _ _ (cdh h rfl (fun ej h=>?_) (fun ej h=>?_)))
 refine rs hx fun K hK=>?_
 refine sa ?_
 refine s1 (aD (aS aY) aC) ?_
 refine sa ?_
 refine s1 (aD (aS a8) aC) ?_
 refine scb h De fun x7 h=>?_
 iterate 3 refine sa ?_
 refine s1 (bq (F:=al_cV.f (bM)) aC) ?_
 refine s0 (aO (b':=x7.1) (an.id _ _) aC) ?_
 refine sa ?_
 refine .nil (hK _ _ (AW.seq (ra hx ?_)))
 refine cdh h rfl (fun DY h=>?_) (fun DY h=>?_)
 refine rs hx fun K hK=>?_
 refine scb h gl fun nr h=>?_
 refine s0 (aO (b':=nr) (an.id _ _) aA) ?_
 refine .nil (hK _ _ (AW.ret ?_))
 cases h
 exact rv1
 refine AW.skip (rs hx fun K hK=>?_)
 refine sa ?_
 refine s1 (a6 (bp aY) ge) ?_
 refine s1 (d:=dG al_cV x7.1) (aD (an.id _ _) aC) ?_
 refine scb h cR fun i9 h=>?_
 refine s0 (aO (b':=i9) (an.id _ _) aA) ?_
 refine .nil (hK _ _ (AW.ret ?_))
 cases h
 exact rv1
 refine AW.skip (AW.seq (rs hx fun K hK=>?_))
 refine sa ?_
 refine s1 (aD (aS aY) aC) ?_
 refine sa ?_
 refine s1 (aD (aS a8) aC) ?_
 refine scb h ub fun pm h=>?_
 refine sa ?_
 refine .nil (hK _ _ (cdh h rfl (fun If h=>?_) (fun If h=>?_)))
 refine rsd [162,111] hx fun K hK=>?_
 refine sa ?_
 refine s1 (a6 (bp aY) ge) ?_
 refine sa ?_
 refine s1 (aD (aS aY) aC) ?_
 refine sa ?_
 refine s1 (aD (aS a8) aC) ?_
 refine cqb h qr fun pl h=>?_
 refine cqb h cR fun I8 h=>?_
 refine s0 (aO (b':=I8) (an.id _ _) aA) ?_
 refine .nil (hK _ _ (AW.ret ?_))
 cases h
 exact rv1
 refine AW.skip (rsd [162,111] hx fun K hK=>?_)
 refine sa ?_
 refine s1 (a6 (bp a8) ge) ?_
 refine sa ?_
 refine s1 (aD (aS a8) aC) ?_
 refine sa ?_
 refine s1 (aD (aS aY) aC) ?_
 refine cqb h qr fun BE h=>?_
 refine cqb h cR fun EU h=>?_
 refine s0 (aO (b':=EU) (an.id _ _) aA) ?_
 refine .nil (hK _ _ (AW.ret ?_))
 cases h
 exact rv1
def kC(bj:ar):Option ar:=bnd (cK [bj]) fun x1=>cnd (!x1) (bnd (dU) fun x4=>some x4) (bnd (bC (!bj.vNeg) bj.vW) fun x6=>some x6)
theorem sK {bj:ar}{r:ar}(h:kC bj=some r):aB prog 66 [dG ap bj] (dG ap r):=by
 refine bJ (rs:=[.cell 2 32]) (fun cx hx h0=>?_) func66
 unfold kC at h
 refine rs hx fun K hK=>?_
 refine sa ?_
 refine s1 (bq (F:=ap.f br) aA) ?_
 refine .nil (hK _ _ (AW.seq (rs hx fun K hK=>?_)))
 refine s1 (d:=dG ap bj) (aD (an.id _ _) aA) ?_
 refine s1 (pX ([bj]:List ar) ap px aA) ?_
 refine scb h gb fun x1 h=>?_
 refine sa ?_
 refine .nil (hK _ _ (cdh h rfl (fun bn h=>?_) (fun bn h=>?_)))
 refine rs hx fun K hK=>?_
 refine scb h gl fun x4 h=>?_
 refine s0 (aO (b':=x4) (an.id _ _) aA) ?_
 refine .nil (hK _ _ (AW.ret ?_))
 cases h
 exact rv1
 refine AW.skip (rs hx fun K hK=>?_)
 refine sa ?_
 refine s1 (a6 (bp bj) ge) ?_
 iterate 2 refine sa ?_
 refine s1 (aD (aS bj) aC) ?_
 refine scb h cR fun x6 h=>?_
 refine s0 (aO (b':=x6) (an.id _ _) aA) ?_
 refine .nil (hK _ _ (AW.ret ?_))
 cases h
 exact rv1
def mu(aY:ar)(a8:ar):Option ar:=bnd (kC a8) fun x1=>bnd (ib aY x1) fun x3=>some x3
theorem E7 {aY:ar}{a8:ar}{r:ar}(h:mu aY a8=some r):aB prog 177 [dG ap aY,dG ap a8] (dG ap r):=by
 refine bJ (rs:=[.cell 4 32]) (fun cx hx h0=>?_) func177
 unfold mu at h
 refine rs hx fun K hK=>?_
 iterate 2 refine sa ?_
 refine s1 (bq (F:=ap.f br) aA) ?_
 refine .nil (hK _ _ (rsd [66,127] hx fun K hK=>?_))
 refine s1 (d:=dG ap aY) (aD (an.id _ _) aA) ?_
 refine s1 (d:=dG ap a8) (aD (an.id _ _) aA) ?_
 refine cqb h sK fun x1 h=>?_
 refine cqb h yg fun x3 h=>?_
 refine s0 (aO (b':=x3) (an.id _ _) aA) ?_
 refine .nil (hK _ _ (AW.ret ?_))
 cases h
 exact rv1
def gh(bj:ar):Option Int:=bnd (S:=Bool) (bnd (cK [bj]) fun x1=>cnd (!x1) (some (true)) (some (decide (bj.vW=#v[(0:Int),0,0,0,0,0,0,0,0,0,0,0,0,0,0,0])))) fun j3=>cnd j3 (some (0:Int)) (cnd bj.vNeg (some (-1:Int)) (some (1:Int)))
theorem mG {bj:ar}{r:Int}(h:gh bj=some r):aB prog 92 [dG ap bj] (dI .i64 r):=by
 refine bJ (rs:=[.tmp 2]) (fun cx hx h0=>?_) func92
 unfold gh at h
 refine ra hx ?_
 refine AW.seq (AW.block (AW.seq ?_))
 obtain⟨j3,hy,h⟩:=ah h
 refine jn ((PE cx .normal (fun j3=>[(1,.pt 0 0),(3,dB j3)]) fun j3=>⟨[(0,dC (ap.f bj))],[],1⟩) j3) ?_ ?_
 replace h:=hy
 refine rq hx fun K hK=>?_
 refine s1 (d:=dG ap bj) (aD (an.id _ _) aA) ?_
 refine s1 (pX ([bj]:List ar) ap px aA) ?_
 refine scb h gb fun x1 h=>?_
 iterate 2 refine sa ?_
 rcases bP (!x1) with bn|bn
 replace h:=ba bn h
 iterate 4 refine aK rfl rfl bn ?_
 refine s1 (am bn) ?_
 refine sa ?_
 refine .nil (hK _ _ ?_)
 cases h
 exact pe0 h0 [0]
 replace h:=bb bn h
 refine ga bn ?_
 refine g1 bn (aD (aS bj) aC) ?_
 refine g1 (d:=dG al_cV (#v[(0:Int),0,0,0,0,0,0,0,0,0,0,0,0,0,0,0])) bn (kO aC aH) ?_
 refine g1 bn (sh tok 2 (by decide) (EqC.arr (EqC.int (d:=0) aH) aC aH) aC) ?_
 refine s1 (ax bn) ?_
 refine sa ?_
 refine .nil (hK _ _ ?_)
 cases h
 exact pe0 h0 [0]
 rintro ex tm' hp' ⟨rfl,hw⟩
 refine AW.weak hw (cdh h rfl (fun pI h=>?_) (fun pI h=>?_))
 refine ra hx ?_
 refine AW.ret ?_
 cases h
 exact rv1
 refine rs hx fun K hK=>?_
 refine sa ?_
 refine s1 (a6 (bp bj) ge) ?_
 refine sa ?_
 refine .nil (hK _ _ (cdh h rfl (fun ej h=>?_) (fun ej h=>?_)))
 refine ra hx ?_
 refine AW.ret ?_
 cases h
 exact rv1
 refine AW.skip (ra hx ?_)
 refine AW.ret ?_
 cases h
 exact rv1
def kB(ox:Vector Int 16)(da:Int):Int×Int×(Vector Int 16)→Option ((Int×Int×(Vector Int 16))⊕(Int×(Vector Int 16))):=fun (cO,bm,dH)=>cnd (decide (bm<(16:Int))) (gd (0≤bm∧bm<16) (gd (0≤da) (bnd (some (ior .u64 cO (uP .u64 (u64.wrap ((ox)[(bm).toNat]!)) da))) fun x5=>gd (0≤bm∧bm<16) (some (.inl (kA .u64 x5 (32:Int),i64.wrap (bm+(1:Int)),(dH).set! (bm).toNat (u32.wrap (x5)))))))) (some (.inr (cO,dH)))
def nK(ox:Vector Int 16)(da:Int):Option ((Vector Int 16)×Int):=bnd (a7 (kB ox da) ((0:Int),(0:Int),(bM))) fun (bW,jw)=>some (jw,u32.wrap (bW))
theorem zy {ox:Vector Int 16}{da:Int}{r:(Vector Int 16)×Int}(h:nK ox da=some r):aB prog 165 [dG al_cV ox,dI .i64 da] (.tu [dG al_cV r.1,dI .u32 r.2]):=by
 refine bJ (rs:=[.cell 4 30,.tmp 5]) (fun cx hx h0=>?_) func165
 unfold nK at h
 refine rs hx fun K hK=>?_
 refine sa ?_
 refine s1 (bq (F:=al_cV.f (bM)) aC) ?_
 refine sa ?_
 refine .nil (hK _ _ (rs hx fun K hK=>?_))
 refine s1 (bq (F:=al_cV.f (bM)) aC) ?_
 refine .nil (hK _ _ (ra hx ?_))
 refine AW.seq (ra hx ?_)
 refine AW.block ?_
 obtain⟨y,hy,h⟩:=ah h
 refine lp (S:=Int×Int×(Vector Int 16)) (X:=Int×(Vector Int 16)) (fun (cO,bm,dH)=>[(1,dI .i64 da),(2,.pt 0 0),(4,.pt 1 0),(6,.pt 2 0),(7,dI .u64 cO),(9,dI .i64 bm)]) (fun (cO,bm,dH)=>⟨[(0,dC (al_cV.f ox)),(1,dC (al_cV.f (bM))),(2,dC (al_cV.f dH))],[],3⟩) (PE cx (.exit 0) (fun (bW,jw)=>[(4,.pt 0 0),(6,.pt 1 0),(7,dI .u64 bW)]) fun (bW,jw)=>⟨[(0,dC (al_cV.f (bM))),(1,dC (al_cV.f jw))],[],2⟩) hy ?_ ?_ ?_
 exact wk h0 [0,1,2] (wR rfl (wR rfl (wR rfl (wR rfl (wR rfl (wR rfl wTn)))))) (vC rfl (vC rfl (vC rfl wVn))) wLn
 clear hy h
 rintro⟨cO,bm,dH⟩ y h
 dsimp only[kB] at h
 refine ra hx ?_
 refine AW.seq (cdh h rfl (fun cQ h=>?_) (fun cQ h=>?_))
 refine AW.skip (AW.seq (AW.block (ra hx ?_)))
 refine rs hx fun K hK=>?_
 iterate 2 refine sa ?_
 obtain⟨mR,h⟩:=az h
 have pH:(bm).toNat<16:=by omega
 refine s1 (cj mR aC aH) ?_
 refine s1 (a6 (an.comp (an.id _ _) (an.vec (cI .u32) ox (bm).toNat pH) (fun _=>rfl)) aH) ?_
 iterate 2 refine sa ?_
 obtain⟨E2,h⟩:=az h
 refine s1 (OU E2) ?_
 refine sa ?_
 obtain⟨x5,DO,h⟩:=ah h
 replace DO:=eG DO
 refine s2 (d2:=dI .u64 x5) ke (fK (congrArg (dI .u64) DO)) ?_
 refine .nil (hK _ _ (rs hx fun K hK=>?_))
 iterate 3 refine sa ?_
 obtain⟨NK,h⟩:=az h
 have Nn:(bm).toNat<16:=by omega
 refine s1 (cj NK aC aH) ?_
 refine s0 (aO (b':=u32.wrap (x5)) (an.comp (an.id _ _) (an.vec (cI .u32) dH (bm).toNat Nn) (fun _=>rfl)) aH) ?_
 refine .nil (hK _ _ ?_)
 iterate 2 refine rb hx ?_
 cases h
 exact PS.l (pe0 h0 [0,1,2])
 refine AW.exit ?_
 try dsimp only
 try simp only[bk,reduceIte,Nat.reduceEqDiff,reduceCtorEq]
 cases h
 exact PS.r ⟨by nofun,PE.i (wk h0 [1,2] (wR rfl (wR rfl (wR rfl wTn))) (vC rfl (vC rfl wVn)) wLn)⟩
 obtain⟨bW,jw⟩:=y
 rintro ex tm' hp' ⟨rfl,hw⟩
 try dsimp only
 try simp only[bk,reduceIte,Nat.reduceEqDiff,reduceCtorEq]
 refine AW.weak hw (rs hx fun K hK=>?_)
 refine s1 (d:=dG al_cV jw) (aD (an.id _ _) aC) ?_
 iterate 2 refine sa ?_
 refine s0 (aO (b':=jw) (an.id _ _) aC) ?_
 refine sa ?_
 refine .nil (hK _ _ (AW.ret ?_))
 cases h
 exact rv2
def jC(ox:Vector Int 16)(da:Int):Int×(Vector Int 16)→Option ((Int×(Vector Int 16))⊕((Vector Int 16))):=fun (aQ,aZ)=>cnd (decide (aQ<(16:Int))) (bnd (S:=Int) (cnd (decide ((i64.wrap (aQ+(1:Int)))<(16:Int))) (gd (0≤i64.wrap (aQ+(1:Int))∧i64.wrap (aQ+(1:Int))<16) (bnd (some (u64.wrap ((ox)[(i64.wrap (aQ+(1:Int))).toNat]!))) fun x5=>some (x5))) (some ((0:Int)))) fun dE=>gd (0≤aQ∧aQ<16) (gd (0≤da) (gd (0≤aQ∧aQ<16) (bnd (some ((aZ).set! (aQ).toNat (u32.wrap (kA .u64 (ior .u64 (uP .u64 dE (32:Int)) (u64.wrap ((ox)[(aQ).toNat]!))) da)))) fun qq=>some (.inl (i64.wrap (aQ+(1:Int)),qq)))))) (some (.inr aZ))
def mU(ox:Vector Int 16)(da:Int):Option (Vector Int 16):=bnd (a7 (jC ox da) ((0:Int),(bM))) fun aN=>some aN
theorem Df {ox:Vector Int 16}{da:Int}{r:Vector Int 16}(h:mU ox da=some r):aB prog 169 [dG al_cV ox,dI .i64 da] (dG al_cV r):=by
 refine bJ (rs:=[.cell 4 30]) (fun cx hx h0=>?_) func169
 unfold mU at h
 refine rs hx fun K hK=>?_
 refine sa ?_
 refine s1 (bq (F:=al_cV.f (bM)) aC) ?_
 refine .nil (hK _ _ (rs hx fun K hK=>?_))
 refine s1 (bq (F:=al_cV.f (bM)) aC) ?_
 refine .nil (hK _ _ (AW.seq (ra hx ?_)))
 refine AW.block ?_
 obtain⟨aN,hy,h⟩:=ah h
 refine lp (S:=Int×(Vector Int 16)) (X:=(Vector Int 16)) (fun (aQ,aZ)=>[(1,dI .i64 da),(2,.pt 0 0),(4,.pt 1 0),(5,.pt 2 0),(8,dI .i64 aQ)]) (fun (aQ,aZ)=>⟨[(0,dC (al_cV.f ox)),(1,dC (al_cV.f (bM))),(2,dC (al_cV.f aZ))],[],3⟩) (PE cx (.exit 0) (fun aN=>[(4,.pt 0 0),(5,.pt 1 0)]) fun aN=>⟨[(0,dC (al_cV.f (bM))),(1,dC (al_cV.f aN))],[],2⟩) hy ?_ ?_ ?_
 exact wk h0 [0,1,2] (wR rfl (wR rfl (wR rfl (wR rfl (wR rfl wTn))))) (vC rfl (vC rfl (vC rfl wVn))) wLn
 clear hy h
 rintro⟨aQ,aZ⟩ y h
 dsimp only[jC] at h
 refine ra hx ?_
 refine AW.seq (cdh h rfl (fun cQ h=>?_) (fun cQ h=>?_))
 refine AW.skip (AW.seq (AW.block ?_))
 iterate 2 refine ra hx ?_
 refine AW.seq ?_
 obtain⟨dE,hy,h⟩:=ah h
 refine jn ((PE cx .normal (fun dE=>[(1,dI .i64 da),(2,.pt 0 0),(4,.pt 1 0),(5,.pt 2 0),(6,dI .i64 aQ),(7,dI .u64 dE),(8,dI .i64 aQ)]) fun dE=>⟨[(0,dC (al_cV.f ox)),(1,dC (al_cV.f (bM))),(2,dC (al_cV.f aZ))],[],3⟩) dE) ?_ ?_
 replace h:=hy
 refine ra hx ?_
 refine cdh h rfl (fun lL h=>?_) (fun lL h=>?_)
 refine rq hx fun K hK=>?_
 iterate 2 refine sa ?_
 obtain⟨K6,h⟩:=az h
 have Np:(i64.wrap (aQ+(1:Int))).toNat<16:=by omega
 refine s1 (cj K6 aC aH) ?_
 refine s1 (a6 (an.comp (an.id _ _) (an.vec (cI .u32) ox (i64.wrap (aQ+(1:Int))).toNat Np) (fun _=>rfl)) aH) ?_
 refine sa ?_
 obtain⟨x5,DO,h⟩:=ah h
 replace DO:=eG DO
 refine s2 (d2:=dI .u64 x5) ke (fK (congrArg (dI .u64) DO)) ?_
 refine .nil (hK _ _ ?_)
 cases h
 exact pe0 h0 [0,1,2]
 refine AW.skip ?_
 cases h
 exact pe0 h0 [0,1,2]
 rintro ex tm' hp' ⟨rfl,hw⟩
 refine AW.weak hw (rq hx fun K hK=>?_)
 iterate 4 refine sa ?_
 obtain⟨H5,h⟩:=az h
 have HW:(aQ).toNat<16:=by omega
 refine s1 (cj H5 aC aH) ?_
 refine s1 (a6 (an.comp (an.id _ _) (an.vec (cI .u32) ox (aQ).toNat HW) (fun _=>rfl)) aH) ?_
 iterate 3 refine sa ?_
 obtain⟨Gc,h⟩:=az h
 refine s1 (OT Gc) ?_
 refine sa ?_
 obtain⟨Al,h⟩:=az h
 have Ns:(aQ).toNat<16:=by omega
 refine s1 (cj Al aC aH) ?_
 obtain⟨qq,M0,h⟩:=ah h
 replace M0:=eG M0
 refine s0 (jx (b':=u32.wrap (kA .u64 (ior .u64 (uP .u64 dE (32:Int)) (u64.wrap ((ox)[(aQ).toNat]!))) da)) (an.comp (an.id _ _) (an.vec (cI .u32) aZ (aQ).toNat Ns) (fun _=>rfl)) aH M0) ?_
 refine .nil (hK _ _ (rb hx ?_))
 cases h
 exact PS.l (pe0 h0 [0,1,2])
 refine AW.exit ?_
 try dsimp only
 try simp only[bk,reduceIte,Nat.reduceEqDiff,reduceCtorEq]
 cases h
 exact PS.r ⟨by nofun,PE.i (wk h0 [1,2] (wR rfl (wR rfl wTn)) (vC rfl (vC rfl wVn)) wLn)⟩
 rintro ex tm' hp' ⟨rfl,hw⟩
 try dsimp only
 try simp only[bk,reduceIte,Nat.reduceEqDiff,reduceCtorEq]
 refine AW.weak hw (rs hx fun K hK=>?_)
 refine s1 (d:=dG al_cV aN) (aD (an.id _ _) aC) ?_
 refine s0 (aO (b':=aN) (an.id _ _) aC) ?_
 refine .nil (hK _ _ (AW.ret ?_))
 cases h
 exact rv1
def iN(aY:Vector Int 16)(a8:Int):Int×Int×(Vector Int 16)→Option ((Int×Int×(Vector Int 16))⊕(Int×(Vector Int 16))):=fun (aQ,aZ,ju)=>cnd (decide ((0:Int)≤aZ)) (gd (0≤aZ∧aZ<16) (bnd (some (ior .u64 (uP .u64 aQ (32:Int)) (u64.wrap ((aY)[(aZ).toNat]!)))) fun x4=>gd (u64.wrap (a8)≠0) (gd (0≤aZ∧aZ<16) (bnd (some ((ju).set! (aZ).toNat (u32.wrap (u64.wrap (Int.tdiv x4 (u64.wrap (a8))))))) fun x9=>gd (u64.wrap (a8)≠0) (some (.inl (Int.tmod x4 (u64.wrap (a8)),i64.wrap (aZ - (1:Int)),x9))))))) (some (.inr (aQ,ju)))
def lO(aY:Vector Int 16)(a8:Int):Option ((Vector Int 16)×Int):=bnd (a7 (iN aY a8) ((0:Int),(15:Int),(bM))) fun (aN,gH)=>some (gH,u32.wrap (aN))
theorem BL {aY:Vector Int 16}{a8:Int}{r:(Vector Int 16)×Int}(h:lO aY a8=some r):aB prog 163 [dG al_cV aY,dI .u32 a8] (.tu [dG al_cV r.1,dI .u32 r.2]):=by
 refine bJ (rs:=[.cell 4 30,.tmp 5]) (fun cx hx h0=>?_) func163
 unfold lO at h
 refine rs hx fun K hK=>?_
 refine sa ?_
 refine s1 (bq (F:=al_cV.f (bM)) aC) ?_
 refine sa ?_
 refine .nil (hK _ _ (ra hx ?_))
 refine AW.seq (ra hx ?_)
 refine AW.block ?_
 obtain⟨y,hy,h⟩:=ah h
 refine lp (S:=Int×Int×(Vector Int 16)) (X:=Int×(Vector Int 16)) (fun (aQ,aZ,ju)=>[(1,dI .u32 a8),(2,.pt 0 0),(4,.pt 1 0),(6,dI .u64 aQ),(7,dI .i64 aZ)]) (fun (aQ,aZ,ju)=>⟨[(0,dC (al_cV.f aY)),(1,dC (al_cV.f ju))],[],2⟩) (PE cx (.exit 0) (fun (aN,gH)=>[(4,.pt 0 0),(6,dI .u64 aN)]) fun (aN,gH)=>⟨[(0,dC (al_cV.f gH))],[],1⟩) hy ?_ ?_ ?_
 exact wk h0 [0,1] (wR rfl (wR rfl (wR rfl (wR rfl (wR rfl wTn))))) (vC rfl (vC rfl wVn)) wLn
 clear hy h
 rintro⟨aQ,aZ,ju⟩ y h
 dsimp only[iN] at h
 refine AW.seq (ra hx ?_)
 refine cdh h rfl (fun cQ h=>?_) (fun cQ h=>?_)
 refine AW.skip (AW.seq (AW.block (rs hx fun K hK=>?_)))
 iterate 3 refine sa ?_
 obtain⟨mR,h⟩:=az h
 have pH:(aZ).toNat<16:=by omega
 refine s1 (cj mR aC aH) ?_
 refine s1 (a6 (an.comp (an.id _ _) (an.vec (cI .u32) aY (aZ).toNat pH) (fun _=>rfl)) aH) ?_
 iterate 2 refine sa ?_
 obtain⟨x4,uQ,h⟩:=ah h
 replace uQ:=eG uQ
 refine s2 (d2:=dI .u64 x4) ke (fK (congrArg (dI .u64) uQ)) ?_
 refine .nil (hK _ _ (rs hx fun K hK=>?_))
 iterate 4 refine sa ?_
 obtain⟨hc6,h⟩:=az h
 refine s1 (GW hc6) ?_
 refine sa ?_
 obtain⟨NK,h⟩:=az h
 have Nn:(aZ).toNat<16:=by omega
 refine s1 (cj NK aC aH) ?_
 obtain⟨x9,xr,h⟩:=ah h
 replace xr:=eG xr
 refine s0 (jx (b':=u32.wrap (u64.wrap (Int.tdiv x4 (u64.wrap (a8))))) (an.comp (an.id _ _) (an.vec (cI .u32) ju (aZ).toNat Nn) (fun _=>rfl)) aH xr) ?_
 refine .nil (hK _ _ (rq hx fun K hK=>?_))
 iterate 3 refine sa ?_
 obtain⟨Al,h⟩:=az h
 refine s1 (uB Al) ?_
 refine sa ?_
 refine .nil (hK _ _ (rb hx ?_))
 cases h
 exact PS.l (pe0 h0 [0,1])
 refine AW.exit ?_
 try dsimp only
 try simp only[bk,reduceIte,Nat.reduceEqDiff,reduceCtorEq]
 cases h
 exact PS.r ⟨by nofun,PE.i (wk h0 [1] (wR rfl (wR rfl wTn)) (vC rfl wVn) wLn)⟩
 obtain⟨aN,gH⟩:=y
 rintro ex tm' hp' ⟨rfl,hw⟩
 try dsimp only
 try simp only[bk,reduceIte,Nat.reduceEqDiff,reduceCtorEq]
 refine AW.weak hw (rs hx fun K hK=>?_)
 refine s1 (d:=dG al_cV gH) (aD (an.id _ _) aC) ?_
 iterate 2 refine sa ?_
 refine s0 (aO (b':=gH) (an.id _ _) aC) ?_
 refine sa ?_
 refine .nil (hK _ _ (AW.ret ?_))
 cases h
 exact rv2
section
section
variable {b A B k m d:Nat}
theorem nY(hb:0<b):((A % b ^ k+B % b ^ k) / b ^ k+dg b A k+dg b B k) % b=dg b (A+B) k∧((A % b ^ k+B % b ^ k) / b ^ k+dg b A k+dg b B k) / b=(A % b ^ (k+1)+B % b ^ (k+1)) / b ^ (k+1):=by
 have hp:0<b ^ k:=cH hb
 have hs:A % b ^ (k+1)+B % b ^ (k+1)=(A % b ^ k+B % b ^ k)+b ^ k*(dg b A k+dg b B k):=by
  rw[fW,fW,wi];omega
 have h1:(A % b ^ (k+1)+B % b ^ (k+1)) / b ^ k=(A % b ^ k+B % b ^ k) / b ^ k+dg b A k+dg b B k:=by
  rw[hs,ve _ _ hp];omega
 refine⟨?_,?_⟩
 ·have e:A+B=(A % b ^ (k+1)+B % b ^ (k+1))+b ^ k*(b*(A / b ^ (k+1)+B / b ^ (k+1))):=by
   have e1:=nB A (b ^ (k+1))
   have e2:=nB B (b ^ (k+1))
   have e3:b ^ k*(b*(A / b ^ (k+1)+B / b ^ (k+1)))=b ^ (k+1)*(A / b ^ (k+1))+b ^ (k+1)*(B / b ^ (k+1)):=by
    rw[←iw,←eu,wi]
   omega
  unfold dg
  rw[e,ve _ _ hp,h1]
  unfold dg
  rw[xW]
 ·rw[eu,←jH,←eu,h1]
theorem m6(hb:0<b):(A % b ^ k+B % b ^ k) / b ^ k≤1:=by
 have hp:0<b ^ k:=cH hb
 have h1:=c6 A hp
 have h2:=c6 B hp
 have:(A % b ^ k+B % b ^ k) / b ^ k<2:=(nC hp).2 (by omega)
 omega
theorem CF(hb:0<b):(A % b ^ k*m / b ^ k+dg b A k*m) % b=dg b (A*m) k∧(A % b ^ k*m / b ^ k+dg b A k*m) / b=A % b ^ (k+1)*m / b ^ (k+1):=by
 have hp:0<b ^ k:=cH hb
 have hs:A % b ^ (k+1)*m=A % b ^ k*m+b ^ k*(dg b A k*m):=by
  rw[fW,bN,iw]
 have h1:A % b ^ (k+1)*m / b ^ k=A % b ^ k*m / b ^ k+dg b A k*m:=by
  rw[hs,ve _ _ hp]
 refine⟨?_,?_⟩
 ·have e:A*m=A % b ^ (k+1)*m+b ^ k*(b*(A / b ^ (k+1)*m)):=by
   have e1:=nB A (b ^ (k+1))
   have e3:b ^ k*(b*(A / b ^ (k+1)*m))=b ^ (k+1)*(A / b ^ (k+1))*m:=by
    rw[←iw,←eu,←iw]
   rw[e3,←bN]
   congr 1
   omega
  have h2:dg b (A*m) k=A*m / b ^ k % b:=rfl
  rw[h2,e,ve _ _ hp,h1,xW]
 ·rw[eu,←jH,←eu,h1]
theorem xf(hb:0<b)(hm:0<m):A % b ^ k*m / b ^ k<m:=by
 have hp:0<b ^ k:=cH hb
 rw[nC hp,ci]
 exact Nat.mul_lt_mul_of_pos_left (c6 A hp) hm
theorem uI(hb:0<b)(hd:0<d):(A / b ^ (k+1) % d*b+dg b A k) / d=dg b (A / d) k∧(A / b ^ (k+1) % d*b+dg b A k) % d=A / b ^ k % d:=by
 have e:=ck (b:=b) (A:=A) (k:=k)
 have hR:=nB (A / b ^ (k+1)) d
 generalize hr:A / b ^ (k+1) % d=r at hR ⊢
 generalize ht:A / b ^ (k+1) / d=t at hR
 have hrd:r<d:=by rw[←hr];exact c6 _ hd
 have ha:dg b A k<b:=Oe hb
 generalize dg b A k=a at e ha ⊢
 have e2:A / b ^ k=r*b+a+d*(t*b):=by
  rw[e,←hR,bN,iw];omega
 have bz:(r*b+a) / d<b:=by
  rw[nC hd]
  have:(r+1)*b≤d*b:=cc _ hrd
  rw[bN,dc,ci d b] at this
  omega
 refine⟨?_,?_⟩
 ·have:dg b (A / d) k=A / b ^ k / d % b:=by unfold dg;rw[jH,ci,←jH]
  rw[this,e2,ve _ _ hd,IB,dM bz]
 ·rw[e2,xW]
end
abbrev W(A:Nat):Vector Int 16:=vN 4294967296 16 A
theorem fR {A k:Nat}(h:k<16):(W A)[k]! =(dg 4294967296 A k:Int):=iy h
theorem dgl {A k:Nat}:dg 4294967296 A k<4294967296:=Oe (by decide)
theorem G_plus {A B:Nat}(hA:A<4294967296 ^ 16)(hB:B<4294967296 ^ 16):mT (W A) (W B)=some (W (A+B),decide (A+B<4294967296 ^ 16)):=by
 have hl:=pC (b:=iO (W A) (W B)) (s0:=((0:Int),(0:Int),bM)) (fun k=>(((A % 4294967296 ^ k+B % 4294967296 ^ k) / 4294967296 ^ k:Nat),(k:Int),vN 4294967296 16 ((A+B) % 4294967296 ^ k))) 16 (((A % 4294967296 ^ 16+B % 4294967296 ^ 16) / 4294967296 ^ 16:Nat),vN 4294967296 16 ((A+B) % 4294967296 ^ 16))
  (by simp only[fj,lJ,qb];rfl)
  (fun k hk=>by
   have hc:=m6 (b:=4294967296) (A:=A) (B:=B) (k:=k) (by decide)
   obtain⟨h1,h2⟩:=nY (b:=4294967296) (A:=A) (B:=B) (k:=k) (by decide)
   have ha:=@dgl A k
   have hb:=@dgl B k
   dsimp only[iO]
   rw[bu _ _,aF,aF,ab,aF,aW,fR hk,fR hk,gu,gu,←jZ,gu,←jZ,gu,uh,wW,←oL,h1,h2,zc (by decide) hk,b8,jZ]
   rfl)
  (by
   dsimp only[iO]
   rw[bw _ _])
 unfold mT
 rw[hl,ab,dM hA,dM hB,Do (by decide)]
 dsimp only
 congr 2
 have:((((A+B) / 4294967296 ^ 16:Nat):Int)=0)↔A+B<4294967296 ^ 16:=by
  rw[Int.natCast_eq_zero,EI (by decide)]
 exact mn.2 this
theorem ER {A B:Nat}(hBA:B≤A):gm (W A) (W B)=some (W (A - B)):=by
 obtain⟨D,rfl⟩:∃D,A=D+B:=⟨A - B,by omega⟩
 rw[xT]
 have hl:=pC (b:=g8 (W (D+B)) (W B)) (s0:=((0:Int),(0:Int),bM)) (fun k=>(((D % 4294967296 ^ k+B % 4294967296 ^ k) / 4294967296 ^ k:Nat),(k:Int),vN 4294967296 16 (D % 4294967296 ^ k))) 16 (vN 4294967296 16 (D % 4294967296 ^ 16))
  (by simp only[fj,lJ,qb];rfl)
  (fun k hk=>by
   have hc:=m6 (b:=4294967296) (A:=D) (B:=B) (k:=k) (by decide)
   obtain⟨h1,h2⟩:=nY (b:=4294967296) (A:=D) (B:=B) (k:=k) (by decide)
   have ha:=@dgl D k
   have hb:=@dgl B k
   have hd:=@dgl (D+B) k
   generalize (D % 4294967296 ^ k+B % 4294967296 ^ k) / 4294967296 ^ k=c at h1 h2 hc ⊢
   generalize (D % 4294967296 ^ (k+1)+B % 4294967296 ^ (k+1)) / 4294967296 ^ (k+1)=c' at h2 ⊢
   dsimp only[g8]
   rw[bu _ _,aF,aF,ab,aF,aW,fR hk,fR hk,gu,gu,b8]
   have hx:∃x:Nat,u64.wrap (u64.wrap ((dg 4294967296 (D+B) k:Int) - (dg 4294967296 B k:Int)) - (c:Int))=(x:Int)∧x / 9223372036854775808=c'∧x % 4294967296=dg 4294967296 D k:=by
    rw[IntKind.wrap_u64,IntKind.wrap_u64]
    refine⟨((((dg 4294967296 (D+B) k:Int) - (dg 4294967296 B k:Int)) % 18446744073709551616 - (c:Int)) % 18446744073709551616).toNat,by omega,by omega,by omega⟩
   obtain⟨x,B3,yP,MY⟩:=hx
   rw[B3,Me,wW,yP,MY,zc (by decide) hk]
   rfl)
  (by
   dsimp only[g8]
   rw[bw _ _])
 unfold gm
 rw[hl,ab,Do (by decide)]
theorem G_up {A s:Nat}(hs:s<32):nK (W A) (s:Int)=some (W (A*2 ^ s),((A % 4294967296 ^ 16*2 ^ s / 4294967296 ^ 16:Nat):Int)):=by
 have LE:2 ^ s≤2 ^ 31:=gP (by decide) (by omega)
 have hs3:0<2 ^ s:=cH (by decide)
 have hl:=pC (b:=kB (W A) (s:Int)) (s0:=((0:Int),(0:Int),bM)) (fun k=>((A % 4294967296 ^ k*2 ^ s / 4294967296 ^ k:Nat),(k:Int),vN 4294967296 16 (A*2 ^ s % 4294967296 ^ k))) 16 ((A % 4294967296 ^ 16*2 ^ s / 4294967296 ^ 16:Nat),vN 4294967296 16 (A*2 ^ s % 4294967296 ^ 16))
  (by simp only[fj,lJ,qb,e7,Nat.zero_div];rfl)
  (fun k hk=>by
   have hc:=xf (b:=4294967296) (A:=A) (k:=k) (m:=2 ^ s) (by decide) hs3
   obtain⟨h1,h2⟩:=CF (b:=4294967296) (A:=A) (k:=k) (m:=2 ^ s) (by decide)
   have ha:=@dgl A k
   have hm:dg 4294967296 A k*2 ^ s≤4294967295*2 ^ s:=cc _ (by omega)
   generalize A % 4294967296 ^ k*2 ^ s / 4294967296 ^ k=c at h1 h2 hc ⊢
   generalize A % 4294967296 ^ (k+1)*2 ^ s / 4294967296 ^ (k+1)=c' at h2 ⊢
   dsimp only[kB]
   rw[bu _ _,aF,aF,ab,aF,aW,fR hk,gu,MS _ _ (by omega) (by omega),MT,ior_n hc (by omega),uh,wW,b8,oh _ c,h1,h2,zc (by decide) hk]
   rfl)
  (by
   dsimp only[kB]
   rw[bw _ _])
 have hc:A % 4294967296 ^ 16*2 ^ s / 4294967296 ^ 16<2 ^ s:=xf (by decide) hs3
 unfold nK
 rw[hl,ab,Do (by decide)]
 dsimp only
 rw[wV]
theorem G_down {A s:Nat}(hA:A<4294967296 ^ 16)(hs:s<32):mU (W A) (s:Int)=some (W (A / 2 ^ s)):=by
 have LE:2 ^ s≤2 ^ 31:=gP (by decide) (by omega)
 have hs3:0<2 ^ s:=cH (by decide)
 have hl:=pC (b:=jC (W A) (s:Int)) (s0:=((0:Int),bM)) (fun k=>((k:Int),vN 4294967296 16 (A / 2 ^ s % 4294967296 ^ k))) 16 (vN 4294967296 16 (A / 2 ^ s % 4294967296 ^ 16))
  (by simp only[fj,lJ,qb];rfl)
  (fun k hk=>by
   have ha:=@dgl A k
   have ha1:=@dgl A (k+1)
   have hd:(dg 4294967296 A (k+1)*4294967296+dg 4294967296 A k) / 2 ^ s % 4294967296=dg 4294967296 (A / 2 ^ s) k:=by
    have e1:dg 4294967296 (A / 2 ^ s) k=A / 4294967296 ^ k / 2 ^ s % 4294967296:=by
     unfold dg;rw[jH,ci,←jH]
    have e2:A / 4294967296 ^ k=(dg 4294967296 A (k+1)*4294967296+dg 4294967296 A k)+2 ^ s*(4294967296*(2 ^ (32 - s)*(A / 4294967296 ^ (k+2)))):=by
     have e3:=ck (b:=4294967296) (A:=A) (k:=k)
     have e4:=ck (b:=4294967296) (A:=A) (k:=k+1)
     have e5:2 ^ s*(4294967296*(2 ^ (32 - s)*(A / 4294967296 ^ (k+2))))=2 ^ s*2 ^ (32 - s)*4294967296*(A / 4294967296 ^ (k+2)):=by
      simp only[iw,CX]
     rw[e5,←j9,show s+(32 - s)=32 from by omega,e3,e4,show k+1+1=k+2 from rfl,show (2:Nat) ^ 32=4294967296 from rfl]
     generalize A / 4294967296 ^ (k+2)=q
     generalize dg 4294967296 A (k+1)=d1
     generalize dg 4294967296 A k=d0
     omega
    rw[e1,e2,ve _ _ hs3,xW]
   dsimp only[jC]
   rw[bu _ _]
   have hnext:(bnd (S:=Int) (cnd (decide ((i64.wrap ((k:Int)+(1:Int)))<(16:Int))) (gd (0≤i64.wrap ((k:Int)+(1:Int))∧i64.wrap ((k:Int)+(1:Int))<16) (bnd (some (u64.wrap ((W A)[(i64.wrap ((k:Int)+(1:Int))).toNat]!))) fun x5=>some (x5))) (some ((0:Int)))) (fun a=>some a))=some ((dg 4294967296 A (k+1):Nat):Int):=by
    rw[b8]
    by_cases hk1:k+1<16
    ·rw[bu _ _,aF,ab,show ((k:Int)+1).toNat=k+1 from by omega,fR hk1,gu,ab]
    ·rw[bw _ _,ab,j8 (bG hA (gP (by decide) (by omega)))]
     rfl
   rw[uY] at hnext
   rw[hnext,ab,aF,aF,aF,ab,aW,fR hk,gu,Fx ha1,FX ha ha1,xm .u64 _ _ (by show s≤64;omega),wW,hd,zc (by decide) hk,b8]
   rfl)
  (by
   dsimp only[jC]
   rw[bw _ _])
 unfold mU
 rw[hl,ab,Do (by decide)]
theorem G_short {A d:Nat}(hA:A<4294967296 ^ 16)(hd:0<d)(Gb:d<4294967296):lO (W A) (d:Int)=some (W (A / d),((A % d:Nat):Int)):=by
 have hl:=ML (b:=iN (W A) (d:Int)) (s0:=((0:Int),(15:Int),bM)) (fun k=>((A / 4294967296 ^ k % d:Nat),(k:Int) - 1,vN 4294967296 16 (A / d / 4294967296 ^ k*4294967296 ^ k))) 16 ((A / 4294967296 ^ 0 % d:Nat),vN 4294967296 16 (A / d / 4294967296 ^ 0*4294967296 ^ 0))
  (by
   have h1:A / d<4294967296 ^ 16:=eS (tv _ _) hA
   simp only[fI hA,fI h1,e7,qb,Nat.zero_mod];rfl)
  (fun k hk=>by
   have ha:=@dgl A k
   have hq:=@dgl (A / d) k
   obtain⟨h1,h2⟩:=uI (b:=4294967296) (A:=A) (k:=k) (d:=d) (by decide) hd
   have hr:A / 4294967296 ^ (k+1) % d<d:=c6 _ hd
   generalize A / 4294967296 ^ (k+1) % d=r at h1 h2 hr ⊢
   generalize A / 4294967296 ^ k % d=r' at h2 ⊢
   have ed:u64.wrap (d:Int)=(d:Int):=gu
   dsimp only[iN]
   rw[bu _ _,aF,ab,ed,aF,aF,ab,aF,show (((k+1:Nat):Int) - 1).toNat=k from by omega,fR hk,gu,Fx (by omega),FX ha (by omega),←qE,←qD,h1,h2,gu,wV hq,Jc (by decide) hk,b8]
   congr 4
   omega)
  (by
   dsimp only[iN]
   rw[bw _ _])
 rw[fj,mp,mp,rX] at hl
 have hr:A % d<d:=c6 _ hd
 unfold lO
 rw[hl,ab]
 dsimp only
 rw[wV]
end
def LIM:Nat:=4294967296 ^ 16
theorem Bw:LIM=4294967296 ^ 16:=rfl
theorem t3:0<LIM:=by decide
theorem W_zero:W 0=bM:=qb
theorem z16:(#v[(0:Int),0,0,0,0,0,0,0,0,0,0,0,0,0,0,0]:Vector Int 16)=W 0:=by
 rw[W_zero];rfl
theorem r16:bM=W 0:=qb.symm
theorem Bm {A B:Nat}(hA:A<LIM)(hB:B<LIM):W A=W B↔A=B:=⟨vN_inj hA hB,fun h=>by rw[h]⟩
def FF(A B:Nat):Int:=if A<B then -1 else if B<A then 1 else 0
theorem G_cmp(x y:Int):fG x y=some (if x<y then -1 else if y<x then 1 else 0):=by
 have hn:∀z:Int,fh z=some false:=fun z=>by unfold fh;simp
 unfold fG
 rw[hn,hn,ab,ab,bc,bc,iG,iG]
 split
 ·rfl
 ·split <;> rfl
theorem yl {A B k:Nat}(he:A / 4294967296 ^ (k+1)=B / 4294967296 ^ (k+1))(h:dg 4294967296 A k<dg 4294967296 B k):A<B:=by
 have e1:=ck (b:=4294967296) (A:=A) (k:=k)
 have e2:=ck (b:=4294967296) (A:=B) (k:=k)
 have h1:A / 4294967296 ^ k<B / 4294967296 ^ k:=by
  rw[e1,e2,he];exact tw h _
 rcases bZ A B with h2|h2
 ·exact h2
 ·exact absurd (IS h2) (Nat.not_le.2 h1)
theorem Kl {A B:Nat}(hA:A<LIM)(hB:B<LIM):jO (W A) (W B)=some (FF A B):=by
 rw[Bw] at hA hB
 obtain⟨x,hl,hx⟩:=ul (b:=iP (W A) (W B)) (fun s=>∃k:Nat,s=(k:Int) - 1∧k≤16∧A / 4294967296 ^ k=B / 4294967296 ^ k) (fun s=>(s+1).toNat) (fun x=>match x with| .inl r=>r=FF A B| .inr _=>A=B)
  (by
   rintro s ⟨k,rfl,hk,he⟩
   cases k with
   |zero=>
    right
    refine⟨(Sum.inr ():Int⊕Unit),?_,?_⟩
    ·dsimp only[iP]
     rw[bw _ _]
    ·simpa using he
   |succ k=>
    have s5:k<16:=by omega
    have e:((k+1:Nat):Int) - 1=(k:Int):=by omega
    rw[e]
    dsimp only[iP]
    rw[bu _ _,aF,aF,aW,fR s5,fR s5]
    by_cases hd:dg 4294967296 A k=dg 4294967296 B k
    ·left
     refine⟨(k:Int) - 1,?_,⟨k,rfl,by omega,?_⟩,by omega⟩
     ·rw[bw _ _ (by rw[hd];simp),b8]
     ·rw[ck (b:=4294967296) (A:=A) (k:=k),ck (b:=4294967296) (A:=B) (k:=k),he,hd]
    ·right
     refine⟨(Sum.inl (FF A B):Int⊕Unit),?_,rfl⟩
     rw[bu _ _,aF,aF,G_cmp,ab]
     congr 3
     unfold FF
     rcases Nat.lt_or_gt_of_ne hd with h|h
     ·have:=yl he h
      rw[ifp_,ao this]
     ·have:=yl he.symm h
      rw[ifn_,ifp_,ifn_,ao this]) (15:Int) ⟨16,rfl,aI _,by rw[fI hA,fI hB]⟩
 unfold jO
 rw[hl,ab]
 cases x with
 |inl r=>obtain rfl:r=_:=hx;rfl
 |inr u=>
  obtain rfl:A=B:=hx
  unfold FF
  simp
def szp(b A n:Nat):Prop:=A<b ^ n∧(0<n→b ^ (n - 1)≤A)
theorem L3 {b A n m:Nat}(hb:0<b)(h:szp b A n)(h':szp b A m):n=m:=by
 have key:∀{n m:Nat},szp b A n→szp b A m→m≤n:=by
  intro n m h h'
  rcases bZ n m with h1|h1
  ·have h2:=h'.2 (by omega)
   have h3:b ^ n≤b ^ (m - 1):=gP hb (by omega)
   have:=h.1
   omega
  ·exact h1
 have:=key h h'
 have:=key h' h
 omega
theorem Hh {b A n k:Nat}(hb:0<b)(h:szp b A n)(hA:A<b ^ k):n≤k:=by
 rcases bZ k n with h1|h1
 ·have h2:=h.2 (by omega)
  have h3:b ^ k≤b ^ (n - 1):=gP hb (by omega)
  omega
 ·exact h1
theorem ya {A:Nat}(hA:A<LIM):∃n:Nat,n≤16∧d9 (W A)=some (n:Int)∧szp 4294967296 A n:=by
 rw[Bw] at hA
 obtain⟨x,hl,n,rfl,hn,hs⟩:=ul (b:=jB (W A)) (fun s=>∃n:Nat,s=(n:Int)∧n≤16∧A<4294967296 ^ n) (fun s=>s.toNat) (fun x=>∃n:Nat,x=(n:Int)∧n≤16∧szp 4294967296 A n)
  (by
   rintro s ⟨n,rfl,hn,bz⟩
   cases n with
   |zero=>
    right
    refine⟨_,?_,0,rfl,by omega,bz,fun h=>by omega⟩
    dsimp only[jB]
    rw[bw _ _,ab,bc]
   |succ k=>
    have hk:k<16:=by omega
    have e:i64.wrap (((k+1:Nat):Int) - 1)=(k:Int):=by rw[b8];omega
    dsimp only[jB]
    rw[bu _ _,e,aF,ab,aW,fR hk,iG]
    by_cases hd:dg 4294967296 A k=0
    ·left
     refine⟨(k:Int),by rw[ifp_],⟨k,rfl,by omega,?_⟩,by omega⟩
     unfold dg at hd
     have h1:A / 4294967296 ^ k<4294967296:=by
      rw[nC (cH (by decide)),ci,←eu];exact bz
     rw[dM h1] at hd
     exact (EI (cH (by decide))).1 hd
    ·right
     refine⟨_,by rw[ifn_],k+1,rfl,hn,bz,fun _=>?_⟩
     rcases bZ A (4294967296 ^ k) with h|h
     ·exact absurd (j8 h) hd
     ·exact h) (16:Int) ⟨16,rfl,aI _,hA⟩
 refine⟨n,hn,?_,hs⟩
 unfold d9
 rw[hl,ab]
def GK:ar:=⟨true,false,W 0⟩
def enc(z:Int):ar:=if z.natAbs<LIM then⟨false,decide (z<0),W z.natAbs⟩ else GK
theorem pL {z:Int}(h:z.natAbs<LIM):enc z=⟨false,decide (z<0),W z.natAbs⟩:=ao h
theorem Ay {z:Int}(h:¬z.natAbs<LIM):enc z=GK:=aq h
def dt(x:ar):Bool:=!x.vBad&&(!decide (x.vW=W 0)||!x.vNeg)
def okI(x:ar):Prop:=∀j:Nat,j<16→0≤x.vW[j]!∧x.vW[j]! <4294967296
theorem DE(z:Int):okI (enc z):=by
 have key:∀(A j:Nat),j<16→0≤(W A)[j]!∧(W A)[j]! <4294967296:=fun A j hj=>by
  rw[fR hj];have:=@dgl A j;omega
 unfold enc
 split
 ·exact key _
 ·exact key 0
theorem bI {z:Int}(h:z.natAbs<LIM):dt (enc z)=true:=by
 rw[pL h]
 unfold dt
 dsimp only
 by_cases hz:z=0
 ·subst hz;simp
 ·have:¬W z.natAbs=W 0:=fun e=>hz (by have:=(Bm h t3).1 e;omega)
  simp[this]
theorem te {x:ar}(h:okI x)(hg:dt x=true):∃z:Int,z.natAbs<LIM∧x=enc z:=by
 obtain⟨A,hA,hv⟩:=vN_of (b:=4294967296) (n:=16) (by decide) x.vW (fun j hj=>h j hj)
 obtain⟨bad,neg,w⟩:=x
 dsimp only at hv
 subst hv
 unfold dt at hg
 simp only[iB,Bool.or_eq_true,u4,decide_eq_false_iff_not] at hg
 obtain⟨rfl,hg⟩:=hg
 have JL:A<LIM:=hA
 cases neg with
 |false=>
  refine⟨(A:Int),JL,?_⟩
  rw[pL (by simpa using JL)]
  simp
 |true=>
  refine⟨-(A:Int),by simpa using JL,?_⟩
  have h0:A≠0:=by
   rintro rfl
   rcases hg with h|h
   ·exact h rfl
   ·cases h
  rw[pL (by simpa using JL)]
  have:-(A:Int)<0:=by omega
  simp[this,rW h0]
theorem CO:dt GK=false:=rfl
theorem wd {z y:Int}(hz:z.natAbs<LIM)(hy:y.natAbs<LIM)(h:enc z=enc y):z=y:=by
 rw[pL hz,pL hy] at h
 simp only[ar.mk.injEq,true_and] at h
 obtain⟨h1,h2⟩:=h
 have h3:=(Bm hz hy).1 h2
 have h4:=mn.1 h1
 omega
theorem N6 {A:Nat}(hA:A<LIM)(neg:Bool):(⟨false,neg&&!decide (A=0),W A⟩:ar)=enc (bif neg then -(A:Int) else A):=by
 cases neg with
 |false=>rw[pL (by simpa using hA)];simp
 |true=>
  rw[pL (by simpa using hA)]
  simp only[GT,kK,Int.natAbs_neg,d6,ar.mk.injEq,true_and,and_true]
  by_cases h:A=0
  ·subst h;simp
  ·have:-(A:Int)<0:=by omega
   simp[h,this,rW h]
theorem Ko(x:ar):jP x=some (if x.vBad then decide (x.vW=W 0)&&!x.vNeg else !decide (x.vW=W 0)||!x.vNeg):=by
 unfold jP
 rw[ab,z16]
 cases x.vBad <;> cases decide (x.vW=W 0) <;> rfl
theorem Pe {l:List ar}(hl:l.length<1000000):cK l=some (l.all dt):=by
 obtain⟨x,h1,hx⟩:=ul (b:=l6 l) (fun s=>∃n:Nat,s=(n:Int)∧n≤l.length∧(l.take n).all dt=true) (fun s=>l.length - s.toNat) (fun x=>match x with| .inl r=>r=false∧l.all dt=false| .inr _=>l.all dt=true)
  (by
   rintro s ⟨n,rfl,hn,ha⟩
   dsimp only[l6]
   by_cases bz:n<l.length
   ·rw[bu _ _,aF,aW,Ko,ab]
    have hg:cnd (l[n]!.vBad) (some true) (some (!(if l[n]!.vBad then decide (l[n]!.vW=W 0)&&!l[n]!.vNeg else !decide (l[n]!.vW=W 0)||!l[n]!.vNeg)))=some (!dt l[n]!):=by
     unfold dt
     cases l[n]!.vBad <;> rfl
    rw[hg,ab]
    have Ac:(l.take (n+1)).all dt=((l.take n).all dt&&dt l[n]!):=by
     rw[eI l n bz,List.take_succ_eq_append_getElem bz,rU]
     simp
    cases hgb:dt l[n]! with
    |true=>
     left
     refine⟨((n+1:Nat):Int),?_,⟨n+1,rfl,bz,by rw[Ac,ha,hgb];rfl⟩,by omega⟩
     rw[d7,bc,b8]
     rfl
    |false=>
     right
     refine⟨_,rfl,rfl,?_⟩
     rw[←th (n+1) l,rU,Ac,hgb]
     simp
   ·right
    refine⟨_,by rw[bw _ _],?_⟩
    rw[jc (by omega)] at ha
    exact ha) (0:Int) ⟨0,rfl,de _,by simp⟩
 unfold cK
 rw[h1,ab]
 cases x with
 |inl r=>obtain⟨rfl,h2⟩:=hx;rw[h2]
 |inr u=>rw[show l.all dt=true from hx]
theorem ix {A:Nat}(hA:A<LIM)(neg:Bool):bC neg (W A)=some (enc (bif neg then -(A:Int) else A)):=by
 unfold bC
 rw[z16,←N6 hA]
 cases neg with
 |true=>
  rw[gF,ab]
  simp only[ab,Bm hA t3,GT,decide_not]
 |false=>rfl
theorem Ku:dU=some GK:=by unfold dU;rw[r16];rfl
theorem all2g(x y:ar):([x,y].all dt)=(dt x&&dt y):=by simp
theorem all1g(x:ar):([x].all dt)=dt x:=by simp
theorem sm(x y:ar):cK [x,y]=some (dt x&&dt y):=by rw[Pe (by simp),all2g]
theorem wz(x:ar):cK [x]=some (dt x):=by rw[Pe (by simp),all1g]
theorem lm {z:Int}(h:z.natAbs<LIM):(enc z).vW=W z.natAbs:=by rw[pL h]
theorem m5 {z:Int}(h:z.natAbs<LIM):(enc z).vNeg=decide (z<0):=by rw[pL h]
theorem G_Add {a c:Int}(ha:a.natAbs<LIM)(hc:c.natAbs<LIM):ib (enc a) (enc c)=some (enc (a+c)):=by
 unfold ib
 rw[sm,bI ha,bI hc,ab]
 simp only[iC,d7,bc,lm ha,lm hc,m5 ha,m5 hc]
 rw[G_plus (by rw[←Bw];exact ha) (by rw[←Bw];exact hc),ab,Kl ha hc,ab,←Bw]
 dsimp only
 by_cases hs:decide (a<0)=decide (c<0)
 ·have LF:=mn.1 hs
  rw[hs,Bd,gF]
  by_cases bz:a.natAbs+c.natAbs<LIM
  ·rw[dy bz,d7,bc,ix bz,ab]
   congr 2
   by_cases h:c<0
   ·simp only[h,qG,kK];omega
   ·simp only[h,qF,cond_false];omega
  ·rw[gM bz,tz,gF,Ku,ab,Ay (by omega)]
 ·have LF:¬((a<0)↔(c<0)):=fun h=>hs (mn.2 h)
  have hb:(decide (a<0) == decide (c<0))=false:=EC.2 hs
  rw[hb,bc]
  unfold FF
  by_cases h1:a.natAbs<c.natAbs
  ·rw[ao h1,bw _ _,ER (nA h1),ab,ix (by omega),ab]
   congr 2
   by_cases h:c<0
   ·simp only[h,qG,kK];omega
   ·simp only[h,qF,cond_false];omega
  ·have h2:(0:Int)≤(if a.natAbs<c.natAbs then -1 else if c.natAbs<a.natAbs then 1 else 0):=by
    rw[aq h1];split <;> omega
   rw[bu _ _ h2,ER (by omega),ab,ix (by omega),ab]
   congr 2
   by_cases h:a<0
   ·simp only[h,qG,kK];omega
   ·simp only[h,qF,cond_false];omega
theorem Lv {x y:ar}(h:(dt x&&dt y)=false):ib x y=some GK:=by
 unfold ib
 rw[sm,h,ab,tz,gF,Ku,ab]
theorem Pj {a:Int}(ha:a.natAbs<LIM):kC (enc a)=some (enc (-a)):=by
 unfold kC
 rw[wz,bI ha,ab,d7,bc,lm ha,m5 ha,ix ha,ab]
 congr 2
 by_cases h:a<0
 ·simp only[h,qG,d7,cond_false];omega
 ·simp only[h,qF,tz,kK];omega
theorem G_Sub {a c:Int}(ha:a.natAbs<LIM)(hc:c.natAbs<LIM):mu (enc a) (enc c)=some (enc (a - c)):=by
 unfold mu
 rw[Pj hc,ab,G_Add ha (by omega),ab]
 rfl
theorem yb {a:Int}(ha:a.natAbs<LIM):gh (enc a)=some a.sign:=by
 unfold gh
 rw[wz,bI ha,ab,d7,bc,ab,lm ha,m5 ha,z16]
 simp only[Bm ha t3]
 rcases IM a 0 with h|h|h
 ·rw[bw _ _,bu _ _ h,Ix h]
 ·subst h;rfl
 ·rw[bw _ _,bw _ _,AT h]
end
end Go.Proofs.YtgfcnncojhkcoaaGreat
