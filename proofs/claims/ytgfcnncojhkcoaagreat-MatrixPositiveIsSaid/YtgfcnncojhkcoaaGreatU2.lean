/-
  Lemmas, part 2. Conditions: none.
-/
import Derived.Test.YtgfcnncojhkcoaaGreatU1
import Derived.Laws.MakeOwn
import Derived.Laws.CopyRow
import Derived.Test.YtgfcnncojhkcoaaGreatProg
set_option linter.all false
set_option maxRecDepth 100000
set_option maxHeartbeats 4000000
namespace Go.Proofs.YtgfcnncojhkcoaaGreat
open Go.RowKit Go.IntKind Tryz
noncomputable section
section
def dC(es:List E):List D:=es.map D.e
theorem ON(σ:Nat→Nat)(es:List E):(dC es).map (D.renC σ)=dC es:=by
 unfold dC;rw[mV];exact pD fun _ _=>rfl
theorem gT(es:List E):(dC es).length=es.length:=eG _
theorem Bh {p:D→Bool}(h:∀e,p (.e e)=true)(es:List E):(dC es).all p=true:=by
 unfold dC;rw[BF];exact bV.2 fun e _=>h e
structure an {β:Type}(F:List E)(c':Cd β)(o:Nat)(b:β)(F':β→List E):Prop where
 le:o+c'.sz≤F.length
 g:(F.drop o).take c'.sz=c'.f b
 p:∀y,F.take o++c'.f y++F.drop (o+c'.sz)=F' y
section
variable {α β γ:Type} {F:List E}
theorem an.id(c:Cd α)(x:α):an (c.f x) c 0 x c.f:=
 ⟨by rw[c.h];omega,by rw[qA,jL (by rw[c.h];exact aL _)],fun y=>by rw[E9,bq,Bt (by rw[c.h];exact aL _),pN,tX]⟩
theorem an.comp {c1:Cd α}{c2:Cd β}{o1 o2:Nat}{b1:α}{b2:β}{F1:α→List E}{P2:β→List E}{P:β→α}(h1:an F c1 o1 b1 F1)(h2:an (c1.f b1) c2 o2 b2 P2)(hp:∀y,P2 y=c1.f (P y)):an F c2 (o1+o2) b2 (fun y=>F1 (P y)):=by
 have l1:=h1.le
 have l2:=h2.le
 rw[c1.h] at l2
 refine⟨by omega,?_,fun y=>?_⟩
 ·rw[←h2.g,←h1.g,←pj,Hk,Du,tT (by omega)]
 ·rw[←h1.p (P y),←hp y,←h2.p y,←h1.g,Du,tT (by omega),List.take_add]
  have e:((F.drop o1).take c1.sz).drop (o2+c2.sz)++F.drop (o1+c1.sz)=F.drop (o1+o2+c2.sz):=by
   have e1:F.drop (o1+c1.sz)=(F.drop o1).drop c1.sz:=(pj ..).symm
   rw[e1,←Pc (by rw[eL,gi];omega),tS,pj,pK]
  rw[←e]
  simp only[dW]
theorem an.of {c':Cd β}{o:Nat}{b:β}{F':β→List E}(A C:List E)(hA:A.length=o)(hF:F=A++(c'.f b++C))(hp:∀y,F' y=A++(c'.f y++C)):an F c' o b F':=by
 subst hA hF
 refine⟨by simp[c'.h],?_,fun y=>?_⟩
 ·rw[rm,zt (by rw[c'.h];exact aL _),jL (by rw[c'.h];exact aL _)]
 ·rw[hp,pB,←pj,rm,←c'.h b,rm,dW]
theorem an.seq [Inhabited α](c:Cd α)(l:List α)(i:Nat)(h:i<l.length):an (l.flatMap c.f) c (i*c.sz) l[i]! (fun y=>(l.set i y).flatMap c.f):=by
 have hl:(l.flatMap c.f).length=l.length*c.sz:=jK c.f c.h l
 have hm:(i+1)*c.sz≤l.length*c.sz:=ci _ h
 rw[bk,dh] at hm
 refine⟨by rw[hl];exact hm,?_,fun y=>?_⟩
 ·have:=kJ c.f c.h (l.drop i) 1
  rw[dh] at this
  rw[m8 c.f c.h,this,Ja h,gF l i h,List.take_succ_cons,E9,qz,List.flatMap_nil,tX]
 ·rw[kJ c.f c.h,show i*c.sz+c.sz=(i+1)*c.sz by rw[bk,dh],m8 c.f c.h,List.set_eq_take_append_cons_drop,ay h,BA,qz,dW]
theorem wo [Inhabited α]{n:Nat}(v:Vector α n){i:Nat}(h:i<n):v.toList[i]! =v[i]! :=by
 rw[gF v.toList i (by rw[mY];exact h),gF v i h,Vector.getElem_toList]
theorem vec_set {n:Nat}(v:Vector α n)(i:Nat)(y:α):(v.set! i y).toList=v.toList.set i y:=by
 show (v.setIfInBounds i y).toList=_
 exact Vector.toList_setIfInBounds ..
theorem an.vec [Inhabited α]{n:Nat}(c:Cd α)(v:Vector α n)(i:Nat)(h:i<n):an ((cA n c).f v) c (i*c.sz) v[i]! (fun y=>(cA n c).f (v.set! i y)):=by
 have:=an.seq c v.toList i (by rw[mY];exact h)
 rw[wo v h] at this
 refine⟨this.le,this.g,fun y=>?_⟩
 rw[show (cA n c).f (v.set! i y)=(v.set! i y).toList.flatMap c.f from rfl,vec_set]
 exact this.p y
end
section
variable {P:Program} {tb:TypeId→Option TyE} {dr:Bool} {ty:TypeId} {ev:Operand→D} {x y:Operand} {vs:List (Nat×List D)} {lv:List (Nat×Nat×Nat×TypeId)} {N k o:Nat} {F:List E} {β:Type} {c':Cd β} {b:β} {F':β→List E} {t:TypeId} {i:TyE}
theorem aF(L:an F c' o b F')(ht:tb t=some i)(hg:i.ty.agg=true:=by exact rfl)(hz:c'.sz=i.size:=by exact rfl)(hx:ev x=.pt k o:=by exact rfl)(hv:vs.lookup k=some (dC F):=by exact rfl)(hk:Nat.ble (k+1) N=true:=by exact rfl):AVC P tb dr (.load t x) ty ev ⟨vs,lv,N⟩ (Kq (dG c' b) ⟨vs,lv,N⟩):=by
 rw[qX,hx,nC,ht,hv]
 simp only[hg]
 refine⟨bg hk,by rw[gT,←hz];exact L.le,?_⟩
 have:((dC F).drop o).take i.size=(c'.f b).map D.e:=by
  unfold dC
  rw[←yA,←vU,←hz,L.g]
 rw[this]
 exact Kq.here _ _
theorem a8 {e:E}(L:an F c' o b F')(ht:tb t=some i)(he:c'.f b=[e]:=by exact rfl)(hg:i.ty.agg=false:=by exact rfl)(hx:ev x=.pt k o:=by exact rfl)(hv:vs.lookup k=some (dC F):=by exact rfl)(hk:Nat.ble (k+1) N=true:=by exact rfl):AVC P tb dr (.load t x) ty ev ⟨vs,lv,N⟩ (Kq (.e e) ⟨vs,lv,N⟩):=by
 have hs:c'.sz=1:=by rw[←c'.h b,he];rfl
 have Ix:=L.g
 have hle:=L.le
 rw[hs] at Ix hle
 rw[he] at Ix
 rw[qX,hx,nC,ht,hv]
 simp only[hg]
 refine⟨bg hk,.e e,?_,Kq.here _ _⟩
 unfold dC
 rw[de]
 have:F[o]? =some e:=by
  have h0:(F.drop o)[0]? =F[o]? :=by rw[pM,lc]
  have h1:((F.drop o).take 1)[0]? =(F.drop o)[0]? :=by rw[gV];rfl
  rw[←h0,←h1,Ix]
  rfl
 rw[this];rfl
theorem aO {b':β}(L:an F c' o b F')(ht:tb t=some i)(hy:(ev y).cells=some (dC (c'.f b')):=by exact rfl)(hz:c'.sz=i.size:=by exact rfl)(hx:ev x=.pt k o:=by exact rfl)(hv:vs.lookup k=some (dC F):=by exact rfl):AVC P tb dr (.store t x y) ty ev ⟨vs,lv,N⟩ (Kq .top ⟨(k,dC (F' b'))::vs,lv,N⟩):=by
 rw[Bq,hx,xG,ht,hv,hy]
 have hl:(dC (c'.f b')).length=i.size:=by rw[gT,c'.h,hz]
 refine⟨hl,by rw[gT,←hz];exact L.le,?_⟩
 have:(dC F).take o++dC (c'.f b')++(dC F).drop (o+(dC (c'.f b')).length)=dC (F' b'):=by
  rw[hl,←hz,←L.p b']
  unfold dC
  simp only[nd,vU,yA]
 rw[this]
 exact Kq.here _ _
theorem j6 {b':β}{γ:Type}{c:Cd γ}{nw nm:γ}(L:an F c' o b F')(ht:tb t=some i)(Ma:nw=nm)(hF:F' b'=c.f nw:=by exact rfl)(hy:(ev y).cells=some (dC (c'.f b')):=by exact rfl)(hz:c'.sz=i.size:=by exact rfl)(hx:ev x=.pt k o:=by exact rfl)(hv:vs.lookup k=some (dC F):=by exact rfl):AVC P tb dr (.store t x y) ty ev ⟨vs,lv,N⟩ (Kq .top ⟨(k,dC (c.f nm))::vs,lv,N⟩):=by
 have:=aO (P:=P) (dr:=dr) (ty:=ty) (lv:=lv) (N:=N) L ht hy hz hx hv
 rw[hF,Ma] at this
 exact this
theorem bo(ht:tb t=some i)(hz:i.zero.map E.lit=F:=by kernel_rfl):AVC P tb dr (.alloc t) ty ev ⟨vs,lv,N⟩ (Kq (.pt N 0) ⟨(N,dC F)::vs,lv,N+1⟩):=by
 subst hz
 have:=bZ (P:=P) (dr:=dr) (ty:=ty) (ev:=ev) (vs:=vs) (lv:=lv) (N0:=N) ht
 unfold dC
 rw[mV]
 exact this
theorem T_boxV(h:(ev x).cells=some (dC F):=by exact rfl):AVC P tb dr (.box t x) ty ev ⟨vs,lv,N⟩ (Kq (.pt N 0) ⟨(N,dC F)::vs,lv,N+1⟩):=iN h
variable {hp:Hp} {j:TyE} {e:TypeId} {n:Nat} {kn:IntKind} {v:Int}
variable {s tt:TypeId} {fi:Nat} {fs:List (Nat×TypeId)}
inductive FL (tb:TypeId→Option TyE) (fs:List (Nat×TypeId)):List E→List (Nat×List D)→List E→Prop
 |nil (F:List E):FL tb fs F [] F
 |cons {γ:Type} {c:Cd γ} {F F2:List E} {o i:Nat} {b y:γ} {F':γ→List E} {rest:List (Nat×List D)} {cs:List D} (L:an F c o b F') (hp:pw tb fs i=some (o,c.sz)) (hc:cs=dC (c.f y)) (h:FL tb fs (F' y) rest F2):FL tb fs F ((i,cs)::rest) F2
theorem FL.fill {F F2:List E}{qs:List (Nat×List D)}(h:FL tb fs F qs F2):fW (pw tb fs) (dC F) qs=some (dC F2):=by
 induction h with
 |nil F=>rfl
 |cons L hp hc h ih=>
  rename_i c F F2 o i b y F' rest cs
  subst hc
  unfold fW
  rw[hp]
  dsimp only
  have hl:(dC (c.f y)).length=c.sz:=by rw[gT,c.h]
  rw[aA (by rw[hl,gT];have:=L.le;omega),hl,←ih]
  congr 1
  rw[←L.p y]
  unfold dC
  simp only[nd,vU,yA]
theorem jF {ps:List (Nat×Operand)}{qs:List (Nat×List D)}{F2:List E}(h:FL tb fs F qs F2)(ht:tb t=some i)(h0:i.zero.map E.lit=F:=by kernel_rfl)(hi:i.ty=.struct fs:=by exact rfl)(ha:(fs.all fun f=>(tb f.2).isSome)=true:=by exact rfl)(hp1:kL (ps.map fun p=>(p.1,ev p.2))=some qs:=by exact rfl):AVC P tb dr (.build t ps.toArray) ty ev hp (Kq (.ag (dC F2)) hp):=by
 subst h0
 rw[w4,uq,ht,hp1]
 simp only[hi]
 have:(i.zero.map fun v=>D.e (.lit v))=dC (i.zero.map E.lit):=by unfold dC;rw[mV];rfl
 rw[this,h.fill]
 exact⟨fun f hf=>(bV.1 ha) f hf,Kq.here _ _⟩
theorem vC {σ:Nat→Nat}{m:Nat}{l:List (Nat×List D)}{F:List E}(h1:vs.lookup (σ k)=some (dC F))(hl:wkV σ m vs l)(h0:Nat.ble (k+1) m=true:=by exact rfl):wkV σ m vs ((k,dC F)::l):=
 ⟨⟨ltb h0,⟨_,h1,by rw[ON];exact rz _⟩,Bh (fun _=>rfl) _,Bh (fun _=>rfl) _⟩,hl⟩
def rnV(ρ:Nat→Nat):List (Nat×List D)→List (Nat×List D)→Prop
 |[],[]=>True
 |p::l,q::l'=>(ρ p.1=q.1∧p.2.map (D.renC ρ)=q.2∧p.2.all D.okC=true)∧rnV ρ l l'
 |_,_=>False
theorem rnV.map {ρ:Nat→Nat}:∀{l l':List (Nat×List D)},rnV ρ l l'→l.map (fun p=>(ρ p.1,p.2.map (D.renC ρ)))=l'∧(l.all fun p=>p.2.all D.okC)=true
 |[],[],_=>⟨rfl,rfl⟩
 |p::l,q::l',h=>by
  obtain⟨h1,h2⟩:=rnV.map h.2
  obtain⟨a,b,c⟩:=h.1
  refine⟨?_,by rw[jZ,c,h2];rfl⟩
  rw[cD,h1,a,b]
 |[],_::_,h=>h.elim
 |_::_,[],h=>h.elim
theorem rvN {ρ:Nat→Nat}:rnV ρ [] []:=trivial
theorem rvC {ρ:Nat→Nat}{k k2:Nat}{F:List E}{l l':List (Nat×List D)}(h:rnV ρ l l')(hk:ρ k=k2:=by exact rfl):rnV ρ ((k,dC F)::l) ((k2,dC F)::l'):=⟨⟨hk,ON _ _,Bh (fun _=>rfl) _⟩,h⟩
theorem rvE {ρ:Nat→Nat}{k k2:Nat}{ds ds2:List D}{l l':List (Nat×List D)}(h:rnV ρ l l')(hk:ρ k=k2:=by exact rfl)(hd:ds.map (D.renC ρ)=ds2:=by exact rfl)(ho:ds.all D.okC=true:=by exact rfl):rnV ρ ((k,ds)::l) ((k2,ds2)::l'):=⟨⟨hk,hd,ho⟩,h⟩
theorem Fh {x:Operand}{f:FuncId}{aS:List Operand}{ts:Array TypeId}{Kw:List D}{r r':D}{Fq n5 vs vs1 tq:List (Nat×List D)}{Fs td lv Ca:List (Nat×Nat×Nat×TypeId)}{m n' N N2:Nat}(os:List Nat)
  (vy:ev x=.e (.lit (.func (.func f) #[] #[]))) (hc:HC P f Kw ⟨Fq,Fs,m⟩ r ⟨n5,td,n'⟩) (ha:frA (fun i=>os.getD i 0) m (aS.map ev) Kw) (hv:wkV (fun i=>os.getD i 0) m vs Fq) (hl:wkL (fun i=>os.getD i 0) m lv Fs) (hrn:rnV (rn os m N) n5 vs1)
  (po:r.ren (rn os m N)=r') (hr:r.okF=true) (hos:os.length=m:=by exact rfl) (wb:os.Nodup:=by decide) (bI:(os.all fun o=>Nat.ble (o+1) N)=true:=by exact rfl)
  (uj:vs1++vs.filter (fun p=>!os.contains p.1)=tq:=by exact rfl) (NZ:frL (rn os m N) os td lv=Ca:=by exact rfl) (hN:N+(n' - m)=N2:=by exact rfl)
  (hh:hvB tb ⟨.value x,aS.toArray,ts⟩=true:=by kernel_rfl):AVC P tb dr (.call ⟨.value x,aS.toArray,ts⟩) ty ev ⟨vs,lv,N⟩ (Kq r' ⟨tq,Ca,N2⟩):=
 KR vy (HC.fr os hc ha hv hl hos wb bI hr hrn.map.2 po (by unfold frV;rw[hrn.map.1,uj]) NZ hN) rfl hh
theorem mG {x:Operand}{f:FuncId}{ks:List Nat}{aS:List Operand}{ts:Array TypeId}{Kw:List D}{r r':D}{Fq n5 vs vs1 tq:List (Nat×List D)}{Fs td lv Ca:List (Nat×Nat×Nat×TypeId)}{m n' N N2:Nat}(os:List Nat)
  (vy:ev x=.fn f ks) (hc:HC P f Kw ⟨Fq,Fs,m⟩ r ⟨n5,td,n'⟩) (ha:frA (fun i=>os.getD i 0) m (aS.map ev++ks.map fun k=>.pt k 0) Kw) (hv:wkV (fun i=>os.getD i 0) m vs Fq) (hl:wkL (fun i=>os.getD i 0) m lv Fs) (hrn:rnV (rn os m N) n5 vs1)
  (po:r.ren (rn os m N)=r') (hr:r.okF=true) (hos:os.length=m:=by exact rfl) (wb:os.Nodup:=by decide) (bI:(os.all fun o=>Nat.ble (o+1) N)=true:=by exact rfl)
  (uj:vs1++vs.filter (fun p=>!os.contains p.1)=tq:=by exact rfl) (NZ:frL (rn os m N) os td lv=Ca:=by exact rfl) (hN:N+(n' - m)=N2:=by exact rfl)
  (hh:hvB tb ⟨.value x,aS.toArray,ts⟩=true:=by kernel_rfl):AVC P tb dr (.call ⟨.value x,aS.toArray,ts⟩) ty ev ⟨vs,lv,N⟩ (Kq r' ⟨tq,Ca,N2⟩):=
 T_callF vy (HC.fr os hc ha hv hl hos wb bI hr hrn.map.2 po (by unfold frV;rw[hrn.map.1,uj]) NZ hN) rfl hh
theorem ex_G {α:Type}(c:Cd α)(a:α):D.ex (dG c a)=dG c a:=by
 show D.ag (((c.f a).map D.e).map D.exC)=_
 rw[mV];rfl
theorem eK {α:Type}(c:Cd α)(a:α):(D.ex (dG c a)).le (dG c a):=by rw[ex_G];exact ao _
theorem uR {α:Type}(c:Cd α)(a:α):(dG c a).okF=true:=Bh (p:=D.okC) (fun _=>rfl) (c.f a)
theorem xj {off z m:Nat}(hb:0≤v∧v<(n:Int))(ht:tb t=some i)(he:tb e=some j)(hi:i.ty=.slice e:=by exact rfl)(hx:ev x=.ow m off z n:=by exact rfl)(hz:z=j.size:=by exact rfl)(hy:ev y=dI kn v:=by exact rfl):AVC P tb dr (.indexAddr t x y) ty ev hp (Kq (.pt m (off+v.toNat*j.size)) hp):=by
 rw[sK,hx,hy,rj,ht]
 simp only[hi,he]
 exact⟨hz,hb,Kq.here _ _⟩
end
section
variable {P:Program} {tb:TypeId→Option TyE}
structure EqC(tb:TypeId→Option TyE)(d:Nat)(t:TypeId){α:Type}(c:Cd α)(us:α→List Value):Prop where
 hf:∀x,c.f x=(us x).map E.lit
 ft:∀x,mQ tb d t (us x)
 inj:∀x y,us x=us y↔x=y
theorem EqC.int {d:Nat}{t:TypeId}{k:IntKind}{i:TyE}(ht:tb t=some i)(hi:i.ty=.int k:=by exact rfl):EqC tb (d+1) t (cI k) (fun n=>[.int k n]):=
 ⟨fun _=>rfl,fun n=>by unfold mQ;rw[ht];simp only[hi];exact⟨n,rfl⟩,fun x y=>by simp⟩
theorem EqC.bool {d:Nat}{t:TypeId}{i:TyE}(ht:tb t=some i)(hi:i.ty=.bool:=by exact rfl):EqC tb (d+1) t cB (fun n=>[.bool n]):=
 ⟨fun _=>rfl,fun n=>by unfold mQ;rw[ht];simp only[hi];exact⟨n,rfl⟩,fun x y=>by simp⟩
theorem EqC.len {d:Nat}{t:TypeId}{α:Type}{c:Cd α}{us:α→List Value}(h:EqC tb d t c us)(x:α):(us x).length=c.sz:=by
 rw[←c.h x,h.hf,eG]
theorem CV {α:Type}{f:α→List Value}{z:Nat}(hz:∀a,(f a).length=z):∀l:List α,(l.flatMap f).length=l.length*z
 |[]=>by simp
 |a::l=>by rw[qz,eU,hz,CV hz l,mj,bk,dh,pi]
theorem FO {α:Type}{f:α→List Value}{z:Nat}(hz:∀a,(f a).length=z):∀(l:List α) (i:Nat) (h:i<l.length),((l.flatMap f).drop (i*z)).take z=f l[i]
 |a::l,0,_=>by rw[fe,qA,qz,zt (by rw[hz];exact aL _),jL (by rw[hz];exact aL _)];rfl
 |a::l,i+1,h=>by
  rw[qz,bk,dh,pi,←hz a,←pj,rm,hz a]
  exact FO hz l i (by simpa using h)
theorem CW {α:Type}{f:α→List Value}{z:Nat}(hz:∀a,(f a).length=z)(hi:∀x y,f x=f y→x=y):∀l m:List α,l.length=m.length→l.flatMap f=m.flatMap f→l=m
 |[],[],_,_=>rfl
 |a::l,b::m,hl,h=>by
  rw[qz,qz] at h
  obtain⟨h1,h2⟩:=yy h (by rw[hz,hz])
  rw[hi a b h1,CW hz hi l m (by simpa using hl) h2]
 |[],_::_,hl,_=>by simp at hl
 |_::_,[],hl,_=>by simp at hl
theorem EqC.arr {d n:Nat}{t e:TypeId}{α:Type}{c:Cd α}{us:α→List Value}{i j:TyE}(h:EqC tb d e c us)(ht:tb t=some i)(he:tb e=some j)(hi:i.ty=.arr n e:=by exact rfl)(hz:c.sz=j.size:=by exact rfl):EqC tb (d+1) t (cA n c) (fun v=>v.toList.flatMap us):=by
 refine⟨fun v=>?_,fun v=>?_,fun v w=>⟨fun hh=>?_,fun hh=>by rw[hh]⟩⟩
 ·show v.toList.flatMap c.f=_
  rw[List.map_flatMap]
  congr 1
  exact funext h.hf
 ·unfold mQ
  rw[ht]
  simp only[hi,he]
  have hl:=h.len
  refine⟨by rw[CV hl,mY,hz],fun q hq=>?_⟩
  rw[←hz,FO hl _ _ (by rw[mY];exact hq)]
  exact h.ft _
 ·have:=CW h.len (fun x y hxy=>(h.inj x y).1 hxy) v.toList w.toList (by rw[mY,mY]) hh
  exact Vector.toList_inj.1 this
theorem qu {d o off:Nat}{t:TypeId}{fs:List (Nat×TypeId)}{α:Type}{c:Cd α}{us:α→List Value}{j:TyE}{x:α}{rest:List Value}(h:EqC tb d t c us)(ht:tb t=some j)(ho:o=off)(hr:rQ tb (mQ tb d) fs (off+j.size) rest)(hz:c.sz=j.size:=by exact rfl):rQ tb (mQ tb d) ((o,t)::fs) off (us x++rest):=by
 unfold rQ
 have hl:=h.len x
 rw[ht]
 refine⟨ho,?_,by rw[eU];omega,?_⟩
 ·rw[←hz,←hl,pB];exact h.ft x
 ·rw[←hz,←hl,rm,hl,hz];exact hr
theorem EqC.struct {d:Nat}{t:TypeId}{α:Type}{c:Cd α}{us:α→List Value}{i:TyE}{fs:List (Nat×TypeId)}(ht:tb t=some i)(hf:∀x,c.f x=(us x).map E.lit)(Fw:∀x,rQ tb (mQ tb d) fs 0 (us x))(CC:∀x y,us x=us y→x=y)(hi:i.ty=.struct fs:=by exact rfl):EqC tb (d+1) t c us:=
 ⟨hf,fun x=>by unfold mQ;rw[ht];simp only[hi];exact Fw x,fun x y=>⟨CC x y,fun h=>by rw[h]⟩⟩
theorem oX:∀us:List Value,kN (dC (us.map E.lit))=some us
 |[]=>rfl
 |u::us=>by
  show (kN (dC (us.map E.lit))).map (u::·)=_
  rw[oX us];rfl
variable {dr:Bool} {ty:TypeId} {ev:Operand→D} {x y:Operand} {hp:Hp} {α:Type} {c:Cd α} {us:α→List Value} {a b:α} {t t':TypeId} {i:TyE}
theorem v3(tok:TOk P tb)(n:Nat)(hd:n≤10000)(h:EqC tb n t c us)(ht:tb t=some i)[DecidableEq α](hg:i.ty.agg=true:=by exact rfl)(hm:P.eqGuardType P.depth t=false:=by kernel_rfl)(hn:kX P n t=true:=by kernel_rfl)(hx:ev x=dG c a:=by exact rfl)(hy:ev y=dG c b:=by exact rfl):AVC P tb dr (.binOp .eql t x y t') ty ev hp (Kq (dB (decide (a=b))) hp):=by
 have e:∀z,(c.f z).map D.e=dC ((us z).map E.lit):=fun z=>by rw[h.hf];rfl
 exact T_geql tok n hd ht hg hm hn hx hy (by rw[e,oX]) (by rw[e,oX]) (h.ft a) (h.ft b) (h.inj a b)
theorem yM(tok:TOk P tb)(n:Nat)(hd:n≤10000)(h:EqC tb n t c us)(ht:tb t=some i)[DecidableEq α](hg:i.ty.agg=true:=by exact rfl)(hm:P.eqGuardType P.depth t=false:=by kernel_rfl)(hn:kX P n t=true:=by kernel_rfl)(hx:ev x=dG c a:=by exact rfl)(hy:ev y=dG c b:=by exact rfl):AVC P tb dr (.binOp .neq t x y t') ty ev hp (Kq (dB (decide (¬a=b))) hp):=by
 have e:∀z,(c.f z).map D.e=dC ((us z).map E.lit):=fun z=>by rw[h.hf];rfl
 exact T_gneq tok n hd ht hg hm hn hx hy (by rw[e,oX]) (by rw[e,oX]) (h.ft a) (h.ft b) (h.inj a b)
theorem ym(c:Cd α){z:Nat}(hz:c.sz=z):∀(l:List α) (m:Nat) (pre rest:List D),pre.length=m*z→rest.length=l.length*z→fW (fun n=>some (n*z,z)) (pre++rest) ((l.zipIdx m).map fun p=>(p.2,dC (c.f p.1)))=some (pre++dC (l.flatMap c.f))
 |[],m,pre,rest,_,hr=>by
  have:rest=[]:=lb (by simpa using hr)
  subst this;rfl
 |a::l,m,pre,rest,hp,hr=>by
  have hl:(dC (c.f a)).length=z:=by rw[gT,c.h,hz]
  rw[mj,bk,dh] at hr
  show fW (fun n=>some (n*z,z)) (pre++rest) ((m,dC (c.f a))::(l.zipIdx (m+1)).map _)=_
  unfold fW
  dsimp only
  rw[aA (by rw[hl,eU];omega),←hp,pB,hl,←pj,rm]
  have:=ym c hz l (m+1) (pre++dC (c.f a)) (rest.drop z) (by rw[eU,hl,hp,bk,dh]) (by rw[gi];omega)
  rw[this,dW]
  unfold dC
  rw[qz,nd]
theorem yu:∀es:List E,sH (dC es)=some es
 |[]=>rfl
 |e::es=>by
  show (match D.cellE (.e e),sH (dC es) with|some x,some xs=>some (x::xs)|_,_=>none)=_
  rw[yu es];rfl
theorem qG {vs:List (Nat×List D)}{lv:List (Nat×Nat×Nat×TypeId)}{N0:Nat}{e:TypeId}{j:TyE}{n:Nat}{ps:List (Nat×Operand)}(l:List α)(c:Cd α)(ht:tb t=some i)(he:tb e=some j)(hi:i.ty=.slice e:=by exact rfl)(hz:c.sz=j.size:=by exact rfl)(Ii:Nat.ble (0+1) (j.size)=true:=by exact rfl)(Iu:l.length=n+1:=by exact rfl)(hn:Nat.ble ((n+1)*j.size) (16777216)=true:=by exact rfl)(hp1:kL (ps.map fun p=>(p.1,ev p.2))=some ((l.zipIdx 0).map fun p=>(p.2,dC (c.f p.1))):=by exact rfl)(hd:dr=false:=by exact rfl):
  AVC P tb dr (.buildSlice t (n+1) ps.toArray) ty ev ⟨vs,lv,N0⟩ (Kq (dO N0 c l) ⟨vs,(N0,l.length,j.size,e)::lv,N0+1⟩):=by
 have hf:=ym c hz l 0 [] (List.replicate ((n+1)*j.size) (D.e .any)) (by simp) (by rw[u6,Iu])
 rw[pN,pN] at hf
 have:=iM (P:=P) (dr:=dr) (ty:=ty) (ev:=ev) (vs:=vs) (lv:=lv) (N0:=N0) ht he hi Ii hn hp1 hf (yu _) hd
 show AVC _ _ _ _ _ _ _ (Kq (.own N0 c.sz l.length (l.flatMap c.f)) _)
 rw[hz,Iu]
 exact this
theorem qh {tm:List (Nat×D)}{p:Tmp}{ty:TypeId}{j:Nat}{i:TyE}{F:List E}{k:D→Prop}(h:tm.lookup p=some (.pt j 0))(ht:tb ty=some i)(hg:i.ty.agg=true)(hv:hp.vars.lookup j=some (dC F))(hn:j<hp.next)(hl:F.length=i.size)(hk:k (.ag (dC F))):pq tb tm hp (.cell p ty) k:=
 eD h ht hg hv hn (by rw[gT,hl];omega) (by rw[qA,jL (by rw[gT,hl];exact aL _)]) hk
end
end
section
structure FW(α:Type) where
 f:α→List E
def cW {α:Type}(c:Cd α):FW (List α):=⟨fun l=>l.flatMap c.f⟩
theorem an.seqW {α:Type}[Inhabited α](c:Cd α)(l:List α)(i:Nat)(h:i<l.length):an ((cW c).f l) c (0+i*c.sz) l[i]! (fun y=>(cW c).f (l.set i y)):=by
 rw[bq];exact an.seq c l i h
def vOf {α:Type}[Inhabited α](n:Nat)(l:List α):Vector α n:=Vector.ofFn fun i=>l[i.val]!
theorem vf {α:Type}[Inhabited α]{n:Nat}{l:List α}(h:l.length=n):(vOf n l).toList=l:=by
 unfold vOf
 apply KN
 ·rw[mY,h]
 ·intro i h1 h2
  rw[Vector.getElem_toList,Jp,gF l i h2]
theorem vOf_f {α:Type}[Inhabited α](c:Cd α){n:Nat}{l:List α}(h:l.length=n):(cA n c).f (vOf n l)=l.flatMap c.f:=by
 show (vOf n l).toList.flatMap c.f=_
 rw[vf h]
theorem an.sub {α:Type}[Inhabited α]{n:Nat}(m:Nat)(c:Cd α)(v:Vector α n)(i:Nat)(h:i+m≤n){o:Nat}(ho:i*c.sz=o):an ((cA n c).f v) (cA m c) o (vOf m ((v.toList.drop i).take m)) (fun y=>((cA n c).f v).take o++(cA m c).f y++((cA n c).f v).drop (o+m*c.sz)):=by
 subst ho
 have hl:((v.toList.drop i).take m).length=m:=by rw[eL,gi,mY];omega
 refine⟨?_,?_,fun y=>rfl⟩
 ·rw[(cA n c).h]
  show i*c.sz+m*c.sz≤n*c.sz
  rw[←bk];exact ci _ h
 ·rw[vOf_f c hl]
  show ((v.toList.flatMap c.f).drop (i*c.sz)).take (m*c.sz)=_
  rw[m8 c.f c.h,kJ c.f c.h]
section
variable {P:Program} {tb:TypeId→Option TyE} {md:Md} {ev:Operand→D} {hp:Hp} {dst:Option Tmp} {ty2:TypeId} {pos:String} {af:Array Edge} {gd:Option (Nat×Bool)} {x y:Operand} {lo hi:Option Operand} {t t2 e:TypeId} {ti j:TyE} {k k' off o o' z n m:Nat} {l h:Int}
def LO(ev:Operand→D)(b:Option Operand)(CO l:Int):Prop:=
 match b with
 |none=>l=CO
 |some y=>∃k,ev y=dI k l
theorem LO.val {b:Option Operand}{CO l:Int}(h:LO ev b CO l){L:Nat}(hL:l=L){N:Nat}(hN:CO=N){g:Gh}{w:World}{ρ:Operand→Value}(hr:∀y,b=some y→aN hp g w (ev y) (ρ y)):(b.map ρ=none∧L=N)∨∃kd,b.map ρ=some (.int kd (L:Int)):=by
 cases b with
 |none=>exact .inl ⟨rfl,by have:l=CO:=h;omega⟩
 |some y=>
  obtain⟨kd,hy⟩:=h
  have:=hr y rfl
  rw[hy] at this
  exact .inr ⟨kd,by rw[←hL,nb,this.lit]⟩
theorem slA(tok:TOk P tb)(hb:0≤l∧l≤h∧h≤(n:Int)∧l<(n:Int))(ht:tb t=some ti)(he:tb e=some j)(A0:LO ev lo 0 l)(HH:LO ev hi (n:Int) h)(zc:ti.ty=.arr n e:=by exact rfl)(hx:ev x=.pt k off:=by exact rfl)(hn:Nat.ble n 1000000=true:=by exact rfl):
  m3 P tb md ⟨dst,.slice t x lo hi none,ty2,pos,af,gd⟩ ev hp (.ow k (off+l.toNat*j.size) j.size (h - l).toNat) hp:=by
 refine (Snd.calm (dr:=md.dr) fun bK _=>.pure fun B g w a hr wa=>?_).q (by cases md <;> rfl)
 have h1:=wa x (by simp[Op.operands])
 rw[hx] at h1
 obtain⟨L,rfl⟩:∃L:Nat,l=L:=⟨l.toNat,by omega⟩
 obtain⟨H,rfl⟩:∃H:Nat,h=H:=⟨h.toNat,by omega⟩
 have e1:((H:Int) - L).toNat=H - L:=by omega
 have hn':n≤1000000:=bg hn
 have hbd:=jS (P:=P) (w:=w) false n n (lo.map a.eval) (hi.map a.eval) L H (A0.val rfl rfl fun y hy=>wa y (by subst hy;simp[Op.operands])) (HH.val rfl rfl fun y hy=>wa y (by subst hy;simp[Op.operands])) (by omega) (by omega)
 have hs:=tok.run_sizeOf he w
 generalize hv:a.eval x=v at h1
 cases h1 with
 |pt _ _ hk=>
  refine⟨.slice (some ⟨g.μ k,off+L*j.size,none⟩) (H - L) (n - L),?_,?_⟩
  ·have lh:¬n=L:=by omega
   have LE:(⟨g.μ k,off,none⟩:Addr).add (L*j.size)=⟨g.μ k,off+L*j.size,none⟩:=by unfold Addr.add;split <;> simp_all
   simp[execOp,Instr.sliceAt,Instr.sureAddr,hv,run_underlying (tok.arr ht zc),hbd,hs,lh,LE]
  ·rw[e1,bH]
   exact .ow _ _ _ _ _ hk (by omega) (by unfold maxLen;omega)
theorem slW(tok:TOk P tb)(hb:0≤l∧l≤h∧h≤(n:Int)∧l<(n:Int))(ht:tb t=some ti)(he:tb e=some j)(A0:LO ev lo 0 l)(HH:LO ev hi (n:Int) h)(zc:ti.ty=.slice e:=by exact rfl)(hx:ev x=.ow k off z n:=by exact rfl)(hz:z=j.size:=by exact rfl):
  m3 P tb md ⟨dst,.slice t x lo hi none,ty2,pos,af,gd⟩ ev hp (.ow k (off+l.toNat*z) z (h - l).toNat) hp:=by
 subst hz
 refine (Snd.calm (dr:=md.dr) fun bK _=>.pure fun B g w a hr wa=>?_).q (by cases md <;> rfl)
 have h1:=wa x (by simp[Op.operands])
 rw[hx] at h1
 obtain⟨L,rfl⟩:∃L:Nat,l=L:=⟨l.toNat,by omega⟩
 obtain⟨H,rfl⟩:∃H:Nat,h=H:=⟨h.toNat,by omega⟩
 have e1:((H:Int) - L).toNat=H - L:=by omega
 have hs:=tok.run_sizeOf he w
 generalize hv:a.eval x=v at h1
 cases h1 with
 |ow _ _ _ _ c hk oY n7=>
  have hbd:=jS (P:=P) (w:=w) true n c (lo.map a.eval) (hi.map a.eval) L H (A0.val rfl rfl fun y hy=>wa y (by subst hy;simp[Op.operands])) (HH.val rfl rfl fun y hy=>wa y (by subst hy;simp[Op.operands])) (by omega) (by omega)
  refine⟨.slice (some ⟨g.μ k,off+L*j.size,none⟩) (H - L) (c - L),?_,?_⟩
  ·have lh:¬c=L:=by omega
   have LE:(⟨g.μ k,off,none⟩:Addr).add (L*j.size)=⟨g.μ k,off+L*j.size,none⟩:=by unfold Addr.add;split <;> simp_all
   simp[execOp,Instr.sliceAt,Instr.slice,hv,run_underlying (tok.slice ht zc),hbd,hs,lh,LE]
  ·rw[e1,bH]
   exact .ow _ _ _ _ _ hk (by omega) (by omega)
theorem sPtr(tok:TOk P tb)(hm:Nat.ble m n=true)(ht:tb t=some ti)(zc:ti.ty=.arr m e:=by exact rfl)(hx:ev x=.ow k off z n:=by exact rfl):
  m3 P tb md ⟨dst,.sliceToArrayPointer t x,ty2,pos,af,gd⟩ ev hp (.pt k off) hp:=by
 refine (Snd.calm (dr:=md.dr) fun bK _=>.pure fun B g w a hr wa=>?_).q (by cases md <;> rfl)
 have h1:=wa x (by simp[Op.operands])
 rw[hx] at h1
 have ze:=bg hm
 generalize hv:a.eval x=v at h1
 cases h1 with
 |ow _ _ _ _ c hk oY n7=>
  refine⟨.pointer (some ⟨g.μ k,off,none⟩),?_,.pt _ _ hk⟩
  have lh:¬n<m:=by omega
  simp[execOp,Instr.arrayAt,hv,run_underlying (tok.arr ht zc),lh]
theorem yL {dr:Bool}{ty:TypeId}(ht:tb t=some ti)(he:tb e=some j)(hi:ti.ty=.slice e:=by exact rfl)(hx:ev x=.ow k off z n:=by exact rfl):AVC P tb dr (.call ⟨.builtin .len,#[x],#[t]⟩) ty ev hp (Kq (dI .i64 n) hp):=by
 show jD tb .len [t] [ev x] hp _
 rw[zp,J5,ht]
 simp only[hi,he,hx,D.asSl]
 exact Kq.here _ _
theorem T_stVw {dr:Bool}{ty:TypeId}{vs:List (Nat×List D)}{lv:List (Nat×Nat×Nat×TypeId)}{N:Nat}{F:List E}{β γ:Type}{c':Cd β}{b b':β}{F':β→List E}{c:Cd γ}{nw nm:List γ}(L:an F c' o b F')(ht:tb t=some ti)(Ma:nw=nm)(hF:F' b'=(cW c).f nw:=by exact rfl)(hy:(ev y).cells=some (dC (c'.f b')):=by exact rfl)(hz:c'.sz=ti.size:=by exact rfl)(hx:ev x=.pt k o:=by exact rfl)(hv:vs.lookup k=some (dC F):=by exact rfl):AVC P tb dr (.store t x y) ty ev ⟨vs,lv,N⟩ (Kq .top ⟨(k,dC ((cW c).f nm))::vs,lv,N⟩):=by
 have:=aO (P:=P) (dr:=dr) (ty:=ty) (lv:=lv) (N:=N) L ht hy hz hx hv
 rw[hF,Ma] at this
 exact this
theorem Dc(z:Array Value)(s:Nat)(hs:z.size=s):∀n:Nat,(madeCells z (n*s)).toList=(List.replicate n z.toList).flatten
 |0=>by simp[madeCells]
 |n+1=>by
  have ih:=Dc z s hs n
  unfold madeCells at ih ⊢
  rw[Array.toList_map,Array.toList_range] at ih ⊢
  rw[bk,dh,List.range_add,nd,ih,List.replicate_succ',List.flatten_append]
  congr 1
  rw[mV,List.flatten_cons,List.flatten_nil,tX]
  apply KN
  ·simp[hs]
  ·intro i h1 h2
   have hi:i<s:=by simpa using h1
   simp only[List.getElem_map,List.getElem_range,Function.comp]
   rw[hs,cj,Nat.mul_add_mod,dK hi,gF z i (by omega),Array.getElem_toList]
theorem sMk {α:Type}{c:Cd α}{z0:α}{kl kc:IntKind}{v:Int}{hp':Hp}(tok:TOk P tb)(hb:0≤v∧v≤1000000)(ht:tb t=some ti)(he:tb e=some j)(hz:j.zero.map E.lit=c.f z0)(zc:ti.ty=.slice e:=by exact rfl)(hx:ev x=dI kl v:=by exact rfl)(hy:ev y=dI kc v:=by exact rfl)(hbt:Nat.ble j.bytes 100000000=true:=by exact rfl)(hp1:hp.var (dC ((cW c).f (List.replicate v.toNat z0)))=hp':=by exact rfl):
  m3 P tb md ⟨dst,.makeSlice t x y,ty2,pos,af,gd⟩ ev hp (.ow hp.next 0 j.size v.toNat) hp':=by
 subst hp1
 refine (Snd.loud (dr:=md.dr) (.step fun B g w a hr wa=>?_) (fun _=>rfl) fun _=>⟨dJ _,fun j hj=>ar (by omega)⟩).q (by cases md <;> rfl)
 have h1:=wa x (by simp[Op.operands])
 have h2:=wa y (by simp[Op.operands])
 rw[hx] at h1;rw[hy] at h2
 obtain⟨f,zz,Mb,Kf,hf2,hf3,hf4,_⟩:=tok.inf he
 have hbt':f.bytes≤100000000:=by rw[hf2];exact bg hbt
 obtain⟨m,rfl⟩:∃m:Nat,v=m:=⟨v.toNat,by omega⟩
 have hm:m≤1000000:=by omega
 have Kb:f.bytes*m≤281474976710656:=cX (pY hbt' hm) (by decide)
 have bP:=run_make (P:=P) w t e f zz (tok.slice ht zc) Mb hf3 kl kc m m (by omega) (by omega) (by rw[←oH];exact Int.ofNat_le.2 Kb) (by omega)
 rw[bH] at bP
 have hsz:zz.cells.size=f.size:=by
  have h4:=(tok e j he).2.2.1
  rw[←ej,hf4,h4,Kf]
 have hlist:=Dc zz.cells f.size hsz m
 have hcont:(cW c).f (List.replicate m z0)=(madeCells zz.cells (m*f.size)).toList.map E.lit:=by
  rw[hlist,hf4,List.map_flatten,KP,hz]
  show (List.replicate m z0).flatMap c.f=_
  rw[List.flatMap_def,KP]
 have h1c:∀u∈(madeCells zz.cells (m*f.size)).toList,u.oneCell'=true:=by
  intro u hu
  rw[hlist,hf4] at hu
  obtain⟨l,hl,Ka⟩:=List.mem_flatten.1 hu
  obtain rfl:=(List.mem_replicate.1 hl).2
  exact bV.1 (tok e j he).2.2.2 u Ka
 refine⟨.slice (some ⟨w.heap.size,0,none⟩) m m,_,w.alloc (.cells (madeCells zz.cells (m*f.size)) e),?_,hr.newVar _ _ e ?_ (fun i u hu=>?_),bO.var hp g w _ _,?_,(Below.refl _ _).alloc hr.base _,fun p _ h=>.inl h⟩
 ·have e1:=h1.lit
  have e2:=h2.lit
  simp only[execOp,e1,e2,Sem.run_bind,bP,Result.andThen_ok]
  rfl
 ·rw[bH,hcont,gT,eG,ej];exact aL _
 ·have sZ:(madeCells zz.cells (m*f.size)).toList[i]? =some u:=by simpa using hu
  refine⟨fun _=>h1c u (cc sZ),fun d hd=>?_⟩
  rw[bH,hcont] at hd
  unfold dC at hd
  rw[de,de,sZ] at hd
  injection hd with hd
  subst hd
  exact .e _ _ (.lit u (h1c u (cc sZ)))
 ·rw[bH]
  have:=aN.ow (hp:=hp.var (dC ((cW c).f (List.replicate ((m:Int).toNat) z0)))) (g:=g.var hp.next w.heap.size) (w:=w.alloc (.cells (madeCells zz.cells (m*f.size)) e)) hp.next 0 j.size m m (cr _) (aL _) (by unfold maxLen;omega)
  rwa[show (g.var hp.next w.heap.size).μ hp.next=w.heap.size from ay rfl] at this
theorem Lf(w:World)(t t2 ty e:TypeId)(i:TypeInfo)(hu:P.underlying t=some (.slice e))(hi:P.info? e=some i)(b o n c:Nat)(A:Option Addr)(m c':Nat)(cur:Array Value)(tt:TypeId)(cs:List Value)(hA:0<m→∃ad,A=some ad)(hl:cs.length=min m n*i.size)
  (NB:∀ad,A=some ad→∀j v,cs[j]? =some v→w.cell? (ad.add j)=some v) (hg:w.heap[b]? =some (.cells cur tt (0,0))) (CF:o+cs.length≤cur.size) (h1:∀v∈cs,v.oneCell'=true):
  (Builtin.copy_ #[t,t2] ty #[.slice (some ⟨b,o,none⟩) n c,.slice A m c']).run P w=   .ok (goInt ((min m n:Nat):Int)) (w.setRow b (cur.toList.take o++cs++cur.toList.drop (o+cs.length)).toArray):=by
 have yf:=run_storeCells_at P b o tt cs 0 cur w hg (by simpa using CF) h1
 have e0:Nat.min m n=min m n:=rfl
 cases A with
 |none=>
  have hm:m=0:=by
   rcases ma m with h|h
   ·exact h
   ·obtain⟨_,h⟩:=hA h;cases h
  subst hm
  have:cs=[]:=lb (by rw[hl];simp)
  subst this
  simp at yf
  simp[Builtin.copy_,run_underlying hu,Builtin.lenOf,Builtin.firstCells,sizeOf,typeInfo,hi,yf]
 |some a=>
  have wd:=run_loadCells_list (P:=P) w a cs (NB a rfl)
  rw[hl] at wd
  simp[Builtin.copy_,run_underlying hu,Builtin.lenOf,Builtin.firstCells,sizeOf,typeInfo,hi,e0,wd,yf]
def t8(hp:Hp)(d:D)(z m:Nat)(xs:List E):Prop:=xs.length=m*z∧∀(B:Nat) (g:Gh) (w:World) (v:Value),HR B hp g w→aN hp g w d v→
 ∃A c us,v=.slice A m c∧(0<m→∃ad,A=some ad)∧(∀ad,A=some ad→∀j u,us[j]? =some u→w.cell? (ad.add j)=some u)∧Pw (cH w g.F) xs us
theorem t8.own {vs:List (Nat×List D)}{lv:List (Nat×Nat×Nat×TypeId)}{N:Nat}{F:List E}{xs:List E}(hv:vs.lookup k=some (dC F))(hle:off+m*z≤F.length)(hF:(F.drop off).take (m*z)=xs):t8 ⟨vs,lv,N⟩ (.ow k off z m) z m xs:=by
 subst hF
 refine⟨by rw[eL,gi];omega,fun B g w v hr hd=>?_⟩
 cases hd with
 |ow _ _ _ _ c hk oY n7=>
  obtain⟨h1,h2,h3,cs,ty,h4,h5,h6⟩:=hr.var k _ hv
  rw[gT] at h5
  refine⟨_,c,(cs.toList.drop off).take (m*z),rfl,fun _=>⟨_,rfl⟩,fun ad ha j u hu=>?_,?_,fun j x u hx hu=>?_⟩
  ·injection ha with ha
   subst ha
   rw[gV] at hu
   split at hu
   ·rw[pM,vT] at hu
    have LE:(⟨g.μ k,off,none⟩:Addr).add j=⟨g.μ k,off+j,none⟩:=by unfold Addr.add;split <;> simp_all
    rw[LE]
    simpa[World.cell?,h4] using hu
   ·cases hu
  ·simp only[eL,gi,ej];omega
  ·rw[gV] at hx hu
   split at hx
   ·rename_i hj
    rw[ay hj,pM,vT] at hu
    rw[pM] at hx
    have:=(h6 (off+j) u hu).2 (.e x) (by unfold dC;rw[de,hx];rfl)
    cases this
    assumption
   ·cases hx
theorem t8.dat {hp:Hp}{d:D}{z m:Nat}{xs:List E}(h:d.asSl z=some (m,xs))(hl:xs.length=m*z):t8 hp d z m xs:=by
 refine⟨hl,fun B g w v hr hd=>?_⟩
 obtain⟨A,c,rfl,cM⟩:=qy hd h
 obtain⟨_,_,_,_,hA,us,Ka,hc,hp⟩:=cM.reads
 exact⟨A,c,us,rfl,fun hm=>(hA hm).imp fun ad h=>h.1,fun ad ha j u hu=>(hc ad ha j u hu).1,hp⟩
theorem cH.oneL {w:World}{F:Addr→Prop}{xs:List E}{us:List Value}(h:Pw (cH w F) xs us):∀u∈us,u.oneCell'=true:=by
 intro u hu
 obtain⟨i,hi⟩:=List.mem_iff_getElem?.1 hu
 have:i<xs.length:=by rw[h.1];exact (pL.1 hi).1
 exact (h.2 i xs[i] u (ff this) hi).one
theorem sCp {vs:List (Nat×List D)}{lv:List (Nat×Nat×Nat×TypeId)}{N:Nat}{F xs:List E}(tok:TOk P tb)(ht:tb t=some ti)(he:tb e=some j)(hs:t8 ⟨vs,lv,N⟩ (ev y) z m xs)(hv:vs.lookup k=some (dC F))(CF:off+n*z≤F.length)(zc:ti.ty=.slice e:=by exact rfl)(hx:ev x=.ow k off z n:=by exact rfl)(hz:z=j.size:=by exact rfl):
  m3 P tb md ⟨dst,.call ⟨.builtin .copy,#[x,y],#[t,t2]⟩,ty2,pos,af,gd⟩ ev ⟨vs,lv,N⟩ (dI .i64 (min m n:Nat)) ⟨(k,dC (F.take off++xs.take (min m n*z)++F.drop (off+min m n*z)))::vs,lv,N⟩:=by
 subst hz
 refine (Snd.loud (dr:=md.dr) (.step fun B g w a hr wa=>?_) (fun _=>rfl) fun h=>by simp[FP,cpB] at h).q (by cases md <;> rfl)
 have h1:=wa x (cy (by simp))
 have h2:=wa y (cy (by simp))
 rw[hx] at h1
 obtain⟨z7,hs⟩:=hs
 obtain⟨A,c',us,hy,hA,NB,uD⟩:=hs B g w _ hr h2
 obtain⟨q1,q2,q3,cs,ty,q4,q5,q6⟩:=hr.var k _ hv
 rw[gT] at q5
 obtain⟨f,zz,Mb,Kf,_⟩:=tok.inf he
 have NX:min m n*j.size≤n*j.size:=ci _ (Nat.min_le_right _ _)
 have hmin2:min m n*j.size≤m*j.size:=ci _ (Nat.min_le_left _ _)
 have Ka:us.length=m*j.size:=by rw[←uD.1,z7]
 have htl:(us.take (min m n*j.size)).length=min m n*j.size:=by rw[eL];omega
 have hxt:(xs.take (min m n*j.size)).length=min m n*j.size:=by rw[eL];omega
 generalize hv1:a.eval x=v1 at h1
 cases h1 with
 |ow _ _ _ _ c hk oY n7=>
  have Lt:∀u∈us.take (min m n*j.size),u.oneCell'=true:=fun u hu=>cH.oneL uD u (I3 hu)
  have bP:=Lf (P:=P) w t t2 ty2 e f (tok.slice ht zc) Mb (g.μ k) off n c A m c' cs ty (us.take (min m n*j.size)) hA (by rw[htl,Kf]) (fun ad ha i v hi=>NB ad ha i v (by
   rw[gV] at hi
   split at hi
   ·exact hi
   ·cases hi)) q4 (by omega) Lt
  have N6:=setRow_heap w (g.μ k) cs (cs.toList.take off++us.take (min m n*j.size)++cs.toList.drop (off+(us.take (min m n*j.size)).length)).toArray ty (0,0) q4
  have Oa:eI ⟨vs,lv,N⟩ g w (dC F) (cs.toList.take F.length):=⟨⟨by simp only[gT,eL,ej];omega,fun i d u hd hu=>(q6 i u (by
   rw[gV] at hu
   split at hu
   ·simpa using hu
   ·cases hu)).2 d hd⟩,fun u hu=>by
   obtain⟨i,hi⟩:=List.mem_iff_getElem?.1 hu
   rw[gV] at hi
   split at hi
   ·rename_i bI
    exact (q6 i u (by simpa using hi)).1 (by rw[gT];exact bI)
   ·cases hi⟩
  have hmid:eI ⟨vs,lv,N⟩ g w (dC (xs.take (min m n*j.size))) (us.take (min m n*j.size)):=by
   refine⟨⟨by rw[gT,hxt,htl],fun i d u hd hu=>?_⟩,Lt⟩
   unfold dC at hd
   rw[de] at hd
   cases hx':(xs.take (min m n*j.size))[i]? with
   |none=>rw[hx'] at hd;cases hd
   |some x'=>
    rw[hx'] at hd
    injection hd with hd
    subst hd
    exact .e _ _ ((uD.take _).2 i x' u hx' hu)
  have tf:eI ⟨vs,lv,N⟩ g w (dC (F.take off++xs.take (min m n*j.size)++F.drop (off+min m n*j.size))) ((cs.toList.take off++us.take (min m n*j.size)++cs.toList.drop (off+(us.take (min m n*j.size)).length)).take F.length):=by
   have:=((Oa.take off).append hmid).append (Oa.drop (off+min m n*j.size))
   rw[htl]
   have e1:(cs.toList.take off++us.take (min m n*j.size)++cs.toList.drop (off+min m n*j.size)).take F.length=((cs.toList.take F.length).take off++us.take (min m n*j.size))++(cs.toList.take F.length).drop (off+min m n*j.size):=by
    have hlA:(cs.toList.take off++us.take (min m n*j.size)).length=off+min m n*j.size:=by rw[eU,htl,eL,ej];omega
    rw[I8,hlA,jL (by rw[hlA];omega),Hk,Du,tT (show off≤F.length by omega)]
   rw[e1]
   unfold dC at this ⊢
   simpa only[nd,vU,yA] using this
  have Iu:(F.take off++xs.take (min m n*j.size)++F.drop (off+min m n*j.size)).length=F.length:=by
   simp only[eU,eL,gi];omega
  have GH:=SzB.row (new:=(cs.toList.take off++us.take (min m n*j.size)++cs.toList.drop (off+(us.take (min m n*j.size)).length)).toArray) q4 (by simp only[mi,eU,eL,gi,ej];omega)
  refine⟨goInt ((min m n:Nat):Int),g,_,?_,hr.setVar hv _ _ ty (by simp[World.setRow]) (fun b hb=>setRow_other w _ b _ hb) N6 (by rw[gT,Iu];simp only[mi,eU,eL,gi,ej];omega) GH (fun i u hu=>?_),bO.setVar hr hv _ (by simp[World.setRow]) (fun b hb=>setRow_other w _ b _ hb) GH,.e _ _ (.lit _ rfl),u3 w q2 _,fun _ _ h=>h⟩
  ·simp only[execOp,Array.map_map,EU,cD,dT,resolve,invoke,builtin,hv1,hy,Sem.run_bind]
   simp[resolve,invoke,builtin,hv1,hy,bP]
  ·have sZ:(cs.toList.take off++us.take (min m n*j.size)++cs.toList.drop (off+(us.take (min m n*j.size)).length))[i]? =some u:=by simpa using hu
   have hw:i<F.length→((cs.toList.take off++us.take (min m n*j.size)++cs.toList.drop (off+(us.take (min m n*j.size)).length)).take F.length)[i]? =some u:=fun hi=>by
    rw[gV,ay hi];exact sZ
   exact⟨fun hi=>tf.2 u (cc (hw (by rw[gT,Iu] at hi;exact hi))),fun d hd=>tf.1.2 i d u hd (hw (by rw[←Iu,←gT];exact (pL.1 hd).1))⟩
def lCp {α:Type}(l:List α)(o:Nat)(s:List α):List α:=l.take o++s++l.drop (o+s.length)
theorem lCp_len {α:Type}{l s:List α}{o:Nat}(h:o+s.length≤l.length):(lCp l o s).length=l.length:=by
 unfold lCp;simp only[eU,eL,gi];omega
theorem GB {α:Type}(c:Cd α)(l s:List α)(o:Nat):(lCp l o s).flatMap c.f=(l.flatMap c.f).take (o*c.sz)++s.flatMap c.f++(l.flatMap c.f).drop (o*c.sz+s.length*c.sz):=by
 unfold lCp
 rw[BA,BA,kJ c.f c.h,←bk,m8 c.f c.h]
section
variable {α:Type} [Inhabited α] {c:Cd α} {vs:List (Nat×List D)} {lv:List (Nat×Nat×Nat×TypeId)} {N N0:Nat}
theorem t8.arr {v:Vector α N0}(hv:vs.lookup k=some (dC ((cA N0 c).f v)))(o:Nat)(hm:o+m≤N0)(ho:off=o*c.sz:=by exact rfl)(hz:z=c.sz:=by exact rfl):t8 ⟨vs,lv,N⟩ (.ow k off z m) z m (((v.toList.drop o).take m).flatMap c.f):=by
 subst ho hz
 refine t8.own hv ?_ ?_
 ·rw[(cA N0 c).h]
  show o*c.sz+m*c.sz≤N0*c.sz
  rw[←bk];exact ci _ hm
 ·show ((v.toList.flatMap c.f).drop (o*c.sz)).take (m*c.sz)=_
  rw[m8 c.f c.h,kJ c.f c.h]
theorem t8.lst {l:List α}(hv:vs.lookup k=some (dC ((cW c).f l)))(o:Nat)(hm:o+m≤l.length)(ho:off=o*c.sz:=by exact rfl)(hz:z=c.sz:=by exact rfl):t8 ⟨vs,lv,N⟩ (.ow k off z m) z m (((l.drop o).take m).flatMap c.f):=by
 subst ho hz
 refine t8.own hv ?_ ?_
 ·show _≤(l.flatMap c.f).length
  rw[jK c.f c.h,←bk];exact ci _ hm
 ·show ((l.flatMap c.f).drop (o*c.sz)).take (m*c.sz)=_
  rw[m8 c.f c.h,kJ c.f c.h]
theorem sCpA {v:Vector α N0}{s:List α}{r:List (Nat×List D)}(tok:TOk P tb)(ht:tb t=some ti)(he:tb e=some j)(hs:t8 ⟨vs,lv,N⟩ (ev y) z m (s.flatMap c.f))(L6:s.length=m)(hv:vs.lookup k=some (dC ((cA N0 c).f v)))(o:Nat)(CF:o+n≤N0)(hr:(k,dC ((cA N0 c).f (vOf N0 (lCp v.toList o (s.take n)))))::vs=r)(ho:off=o*c.sz:=by exact rfl)(Dh:z=c.sz:=by exact rfl)(zc:ti.ty=.slice e:=by exact rfl)(hx:ev x=.ow k off z n:=by exact rfl)(hz:z=j.size:=by exact rfl):
  m3 P tb md ⟨dst,.call ⟨.builtin .copy,#[x,y],#[t,t2]⟩,ty2,pos,af,gd⟩ ev ⟨vs,lv,N⟩ (dI .i64 (min m n:Nat)) ⟨r,lv,N⟩:=by
 subst ho Dh hr
 have:=sCp (P:=P) (md:=md) (dst:=dst) (ty2:=ty2) (pos:=pos) (af:=af) (gd:=gd) (t2:=t2) (lv:=lv) tok ht he hs hv (by
  rw[(cA N0 c).h]
  show _≤N0*c.sz
  rw[←bk];exact ci _ CF) zc hx hz
 have e1:(s.take n).length=min m n:=by rw[eL,L6,Nat.min_comm]
 have e2:(cA N0 c).f (vOf N0 (lCp v.toList o (s.take n)))=((cA N0 c).f v).take (o*c.sz)++(s.flatMap c.f).take (min m n*c.sz)++((cA N0 c).f v).drop (o*c.sz+min m n*c.sz):=by
  rw[vOf_f c (by rw[lCp_len (by rw[e1,mY];have:=Nat.min_le_right m n;omega),mY]),GB,e1]
  have e3:(s.flatMap c.f).take (min m n*c.sz)=(s.take n).flatMap c.f:=by
   rw[kJ c.f c.h]
   congr 1
   rcases Nat.le_total m n with h|h
   ·rw[tT h,jL (by omega),jL (by omega)]
   ·rw[Nat.min_eq_right h]
  rw[e3];rfl
 rw[e2];exact this
theorem sCpW {l s:List α}{r:List (Nat×List D)}(tok:TOk P tb)(ht:tb t=some ti)(he:tb e=some j)(hs:t8 ⟨vs,lv,N⟩ (ev y) z m (s.flatMap c.f))(L6:s.length=m)(hv:vs.lookup k=some (dC ((cW c).f l)))(o:Nat)(CF:o+n≤l.length)(hr:(k,dC ((cW c).f (lCp l o (s.take n))))::vs=r)(ho:off=o*c.sz:=by exact rfl)(Dh:z=c.sz:=by exact rfl)(zc:ti.ty=.slice e:=by exact rfl)(hx:ev x=.ow k off z n:=by exact rfl)(hz:z=j.size:=by exact rfl):
  m3 P tb md ⟨dst,.call ⟨.builtin .copy,#[x,y],#[t,t2]⟩,ty2,pos,af,gd⟩ ev ⟨vs,lv,N⟩ (dI .i64 (min m n:Nat)) ⟨r,lv,N⟩:=by
 subst ho Dh hr
 have:=sCp (P:=P) (md:=md) (dst:=dst) (ty2:=ty2) (pos:=pos) (af:=af) (gd:=gd) (t2:=t2) (lv:=lv) tok ht he hs hv (by
  show _≤(l.flatMap c.f).length
  rw[jK c.f c.h,←bk];exact ci _ CF) zc hx hz
 have e1:(s.take n).length=min m n:=by rw[eL,L6,Nat.min_comm]
 have e2:(cW c).f (lCp l o (s.take n))=((cW c).f l).take (o*c.sz)++(s.flatMap c.f).take (min m n*c.sz)++((cW c).f l).drop (o*c.sz+min m n*c.sz):=by
  show (lCp l o (s.take n)).flatMap c.f=_
  rw[GB,e1]
  have e3:(s.flatMap c.f).take (min m n*c.sz)=(s.take n).flatMap c.f:=by
   rw[kJ c.f c.h]
   congr 1
   rcases Nat.le_total m n with h|h
   ·rw[tT h,jL (by omega),jL (by omega)]
   ·rw[Nat.min_eq_right h]
  rw[e3];rfl
 rw[e2];exact this
end
theorem WkS.free {tm:List (Nat×D)}{vs:List (Nat×List D)}{lv:List (Nat×Nat×Nat×TypeId)}{N k:Nat}{ds:List D}(hv:vs.lookup k=some ds):∀(B:Nat) (g:Gh) (w:World) (ρ:Nat→Value),HR B ⟨vs,lv,N⟩ g w→(∀t d,tm.lookup t=some d→aN ⟨vs,lv,N⟩ g w d (ρ t))→
  ∃g':Gh,g'=⟨g.μ,g.τ,fun p=>g.F p∧p.block≠g.μ k⟩∧HR B ⟨vs.filter fun p=>!([k]:List Nat).contains p.1,lv,N⟩ g' w∧bO ⟨vs,lv,N⟩ g w ⟨vs.filter fun p=>!([k]:List Nat).contains p.1,lv,N⟩ g' w∧(∀t d,tm.lookup t=some d→aN ⟨vs.filter fun p=>!([k]:List Nat).contains p.1,lv,N⟩ g' w d (ρ t))∧∀p:Addr,p.block<B→g.F p→g'.F p:=by
 intro B g w ρ hr g8
 obtain⟨h1,h2,h3,cs,ty,h4,h5,h6⟩:=hr.var k _ hv
 have look:∀{j:Nat} {ds:List D},(vs.filter fun p=>!([k]:List Nat).contains p.1).lookup j=some ds→j≠k∧vs.lookup j=some ds:=by
  intro j ds h
  obtain⟨a,b⟩:=lB h
  exact⟨by simpa using a,b⟩
 have lh:∀{j:Nat} {ds:List D},j≠k→vs.lookup j=some ds→g.μ j≠g.μ k:=fun hj hl e=>hj (hr.inj _ _ _ _ hl hv e)
 have mo:bO ⟨vs,lv,N⟩ g w ⟨vs.filter fun p=>!([k]:List Nat).contains p.1,lv,N⟩ ⟨g.μ,g.τ,fun p=>g.F p∧p.block≠g.μ k⟩ w:=by
  refine⟨aL _,fun _ _ _=>rfl,fun _ _ h=>h.1,aL _,fun _ _=>rfl,fun _ _ m _ h=>⟨m,h,aL _,fun _=>rfl⟩,fun b hb hf=>⟨rfl,fun p hp hq=>⟨hq,?_⟩,fun j ds hj=>hf.1 j ds (look hj).2,hf.2⟩,fun _=>.same fun _=>rfl⟩
  rw[hp];exact fun e=>hf.1 k _ hv e.symm
 refine⟨_,rfl,⟨fun j ds hj=>?_,fun j j' ds ds' hj HG he=>hr.inj j j' ds ds' (look hj).2 (look HG).2 he,fun id m e hi=>?_,hr.tinj,hr.base,fun p hp=>hr.fits p hp.1⟩,mo,fun t' d hd=>(g8 t' d hd).mono mo,fun p hp hq=>⟨hq,?_⟩⟩
 ·obtain⟨a1,a2⟩:=look hj
  obtain⟨b1,b2,b3,th,JK,b4,b5,b6⟩:=hr.var j ds a2
  exact⟨b1,b2,fun p hp=>⟨b3 p hp,by rw[hp];exact lh a1 a2⟩,th,JK,b4,b5,fun i u hu=>⟨(b6 i u hu).1,fun d hd=>((b6 i u hu).2 d hd).mono mo⟩⟩
 ·obtain⟨b1,us,b2,b3,b4⟩:=hr.tok id m e hi
  exact⟨b1,us,b2,b3,fun b hb=>⟨fun p hp hq=>⟨(b4 b hb).1 p hp hq,by rw[hp];exact fun e=>(b4 b hb).2 k _ hv e.symm⟩,fun j ds hj=>(b4 b hb).2 j ds (look hj).2⟩⟩
 ·intro e
  omega
theorem AK {tm:List (Nat×D)}{d0:D}:∀{ts:List Nat} {t:Nat} {d:D},(ts.map (fun t=>(t,d0))++tm).lookup t=some d→(t∈ts∧d=d0)∨tm.lookup t=some d
 |[],t,d,h=>.inr h
 |s::ts,t,d,h=>by
  by_cases yf:t=s
  ·subst yf
   have:some d0=some d:=by rw[←h];exact ai.symm
   injection this with this
   exact .inl ⟨pk ..,this.symm⟩
  ·rcases AK (ts:=ts) (t:=t) (d:=d) (by rw[←h];exact (ar yf).symm) with⟨h1,h2⟩|h1
   ·exact .inl ⟨nV _ h1,h2⟩
   ·exact .inr h1
theorem WkS.frzs {tm:List (Nat×D)}{vs:List (Nat×List D)}{lv:List (Nat×Nat×Nat×TypeId)}{N k z n:Nat}{F:List E}(ts:List Nat)(hz:0<z)(ht:∀t∈ts,tm.lookup t=some (.ow k 0 z n))(hv:vs.lookup k=some (dC F))(hF:F.length=n*z):
  WkS tm ⟨vs,lv,N⟩ (ts.map (fun t=>(t,.e (.sl z n F)))++tm) ⟨vs.filter fun p=>!([k]:List Nat).contains p.1,lv,N⟩:=by
 intro B g w ρ hr g8
 have one:∀t∈ts,∃g',(g':Gh)=⟨g.μ,g.τ,fun p=>g.F p∧p.block≠g.μ k⟩∧aN ⟨vs.filter fun p=>!([k]:List Nat).contains p.1,lv,N⟩ g' w (.e (.sl z n F)) (ρ t):=by
  intro t hts
  refine⟨_,rfl,?_⟩
  obtain⟨h1,h2,h3,cs,ty,h4,h5,h6⟩:=hr.var k _ hv
  have cM:=g8 t _ (ht t hts)
  generalize ρ t=u at cM
  cases cM with
  |ow _ _ _ _ c hk oY n7=>
   have qL:F.length≤cs.size:=by rw[gT] at h5;exact h5
   refine .e _ _ (.sl z n F (some ⟨g.μ k,0,none⟩) c (fun i=>cs.getD i undef) hF hz oY n7 (fun _=>⟨_,rfl,(gD.1 h4).1⟩) (fun ad ha i e hi=>?_) (fun i e hi=>?_))
   ·injection ha with ha
    subst ha
    have bI:i<cs.size:=bW (pL.1 hi).1 qL
    refine⟨?_,fun hf=>hf.2 (by rw[iL])⟩
    have e0:w.cell? (({block:=g.μ k,off:=0,spot:=none}:Addr).add i)=cs[0+i]? :=by
     by_cases h0:i=0
     ·subst h0;simp[World.cell?,Addr.add,h4]
     ·simp[World.cell?,Addr.add,h4,h0]
    rw[e0,bq]
    simp[cP,bI]
   ·have bI:i<cs.size:=bW (pL.1 hi).1 qL
    have hu:=h6 i (cs.getD i undef) (by simp[cP,bI])
    have:=hu.2 (.e e) (by unfold dC;rw[de,hi];rfl)
    cases this with
    |e _ _ h7=>exact cH.less h7 fun p hp=>hp.1
 obtain⟨g',hg',q1,q2,q3,q4⟩:=WkS.free (lv:=lv) (N:=N) (tm:=tm) (k:=k) hv B g w ρ hr g8
 subst hg'
 refine⟨_,q1,q2,fun t d hd=>?_,q4⟩
 rcases AK hd with⟨h1,rfl⟩|h1
 ·obtain⟨g',hg',h2⟩:=one t h1
  subst hg'
  exact h2
 ·exact q3 t d h1
theorem WkS.frzG {α:Type}(c:Cd α){l:List α}{tm:List (Nat×D)}{vs:List (Nat×List D)}{lv:List (Nat×Nat×Nat×TypeId)}{N k n:Nat}(ts:List Nat)(hn:n=l.length)(ht:∀t∈ts,tm.lookup t=some (.ow k 0 c.sz n))(hv:vs.lookup k=some (dC ((cW c).f l)))(hz:Nat.ble 1 c.sz=true:=by exact rfl):
  WkS tm ⟨vs,lv,N⟩ (ts.map (fun t=>(t,.e (slE c l)))++tm) ⟨vs.filter fun p=>!([k]:List Nat).contains p.1,lv,N⟩:=by
 subst hn
 exact WkS.frzs ts (bg hz) ht hv (jK c.f c.h l)
end
end
section
section
variable {P:Program} {tb:TypeId→Option TyE} {dr:Bool} {ev:Operand→D} {hp:Hp} {ty:TypeId} {α:Type}
theorem lf {t e:TypeId}{i j:TyE}{n:Nat}{ps:List (Nat×Operand)}(l:List α)(c:Cd α)(ht:tb t=some i)(he:tb e=some j)(hi:i.ty=.slice e:=by exact rfl)(hz:c.sz=j.size:=by exact rfl)(Ii:Nat.ble (0+1) (j.size)=true:=by exact rfl)(Iu:l.length=n+1:=by exact rfl)(hn:Nat.ble ((n+1)*j.size) (16777216)=true:=by exact rfl)(hp1:kL (ps.map fun p=>(p.1,ev p.2))=some ((l.zipIdx 0).map fun p=>(p.2,dC (c.f p.1))):=by exact rfl)(hd:dr=true:=by exact rfl):
  AVC P tb dr (.buildSlice t (n+1) ps.toArray) ty ev hp (Kq (dF c l) hp):=by
 have hf:=ym c hz l 0 [] (List.replicate ((n+1)*j.size) (D.e .any)) (by simp) (by rw[u6,Iu])
 rw[pN,pN] at hf
 have:=yN (P:=P) (dr:=dr) (ty:=ty) (ev:=ev) (hp:=hp) ht he hi Ii hn hp1 hf (yu _) hd
 show AVC _ _ _ _ _ _ _ (Kq (.fu c.sz l.length (l.flatMap c.f)) _)
 rw[hz,Iu]
 exact this
end
end
section
def Way(ops:Array Oper):List Nat→Array Bool→Prop
 |[],s=>Region.ready .any ops s=[]
 |i::l,s=>i∈Region.ready .any ops s∧Way ops l (s.setIfInBounds i true)
def Bfr(a b:Nat):List Nat→Array Bool→Prop
 |[],_=>True
 |i::l,s=>(i=b→s.getD a false=true)∧Bfr a b l (s.setIfInBounds i true)
theorem lx {ops:Array Oper}{s:Array Bool}{i:Nat}:i∈Region.ready .any ops s↔i<ops.size∧s.getD i true=false∧∃o,ops[i]? =some o∧∀e∈o.after,Region.binds .any e=true→s.getD e.on false=true:=by
 unfold Region.ready
 rw[List.mem_filter,s7]
 refine and_congr_right fun h=>?_
 rw[eC,vQ]
 refine and_congr_right fun _=>?_
 cases ho:ops[i]? with
 |none=>simp
 |some o=>
  simp only[nb,w5,Jd,Bool.or_eq_true,vQ,na,exists_eq_left']
  refine forall_congr' fun e=>forall_congr' fun _=>?_
  cases Region.binds .any e <;> simp
theorem Ou {s:Array Bool}{i j:Nat}(h:s.getD j false=true):(s.setIfInBounds i true).getD j false=true:=by
 simp only[cP] at h ⊢
 rw[ET]
 split
 ·rename_i e
  subst e
  split
  ·rfl
  ·rename_i hs
   rw[EZ (by omega)] at h
   simp at h
 ·exact h
theorem Dm {s:Array Bool}{i:Nat}(h:i<s.size):(s.setIfInBounds i true).getD i false=true:=by
 simp[cP,ET,h]
theorem Bfr.of {a b:Nat}:∀(l:List Nat) (s:Array Bool),s.getD a false=true→Bfr a b l s
 |[],_,_=>trivial
 |_::l,_,h=>⟨fun _=>h,Bfr.of l _ (Ou h)⟩
theorem O3 {ops:Array Oper}{a b:Nat}(yk:a≠b):∀(l:List Nat) (s:Array Bool),s.size=ops.size→Way ops l s→Bfr a b l s∨Bfr b a l s
 |[],_,_,_=>.inl trivial
 |i::l,s,hs,⟨h1,h2⟩=>by
  have hi:=(lx.1 h1).1
  by_cases ha:i=a
  ·subst ha
   exact .inl ⟨fun h=>absurd h yk,Bfr.of l _ (Dm (by omega))⟩
  ·by_cases hb:i=b
   ·subst hb
    exact .inr ⟨fun h=>absurd h.symm yk,Bfr.of l _ (Dm (by omega))⟩
   ·rcases O3 yk l (s.setIfInBounds i true) (by simpa using hs) h2 with h|h
    ·exact .inl ⟨fun h=>absurd h hb,h⟩
    ·exact .inr ⟨fun h=>absurd h ha,h⟩
theorem Ml {ops:Array Oper}:∀(fuel t:Nat) (s:Array Bool),s.size=ops.size→unl s ops.size≤fuel→Way ops (Region.linearise.go .any ops fuel t s []) s
 |0,t,s,hs,hu=>by
  show Region.ready .any ops s=[]
  rw[Pd]
  intro i hi
  obtain⟨h1,h2,_⟩:=lx.1 hi
  have:i∈(List.range ops.size).filter fun j=>!s.getD j false:=by
   rw[List.mem_filter,s7]
   refine⟨h1,?_⟩
   have bI:i<s.size:=by omega
   have e1:s[i]?.getD true=false:=by rw[←cP];exact h2
   rw[cP]
   rw[ml bI] at e1 ⊢
   simp at e1 ⊢
   exact e1
  have hlen:=List.length_pos_of_mem this
  unfold unl at hu
  omega
 |fuel+1,t,s,hs,hu=>by
  simp only[Region.linearise.go]
  change Way ops (match (Region.ready .any ops s)[t % (Region.ready .any ops s).length]? with
   |some i=>Region.linearise.go .any ops fuel (t / (Region.ready .any ops s).length) (s.setIfInBounds i true) [i]
   |none=>[].reverse) s
  cases hi:(Region.ready .any ops s)[t % (Region.ready .any ops s).length]? with
  |none=>
   show Region.ready .any ops s=[]
   cases hr:Region.ready .any ops s with
   |nil=>rfl
   |cons x xs=>
    rw[hr] at hi
    have bI:t % (x::xs).length<(x::xs).length:=dA _ (by simp)
    rw[ff bI] at hi
    cases hi
  |some i=>
   simp only[]
   rw[linearise_go_acc,List.reverse_singleton,List.singleton_append]
   have hm:=cc hi
   obtain⟨h1,h2,_⟩:=lx.1 hm
   have bI:i<s.size:=by omega
   have hf:s.getD i false=false:=by
    have e1:s[i]?.getD true=false:=by rw[←cP];exact h2
    rw[cP]
    rw[ml bI] at e1 ⊢
    simpa using e1
   exact⟨hm,Ml fuel _ _ (by simpa using hs) (by have:=DX (n:=ops.size) h1 bI hf;omega)⟩
theorem CU {P:Program}{ops:Array Oper}{Q:Exit→Act→World→Prop}:∀(l:List Nat) (fuel:Nat) (s:Array Bool) (a:Act) (w:World),wpAny P .any ops Q fuel s a w→Way ops l s→wpOps P ops Q l a w
 |[],0,_,_,_,h,_=>by simpa[wpOps] using h.2
 |[],_+1,_,_,_,h,hw=>by simpa[wpOps] using h.1 hw
 |i::l,0,_,_,_,h,hw=>by
  have:=hw.1
  rw[h.1] at this
  cases this
 |i::l,fuel+1,s,a,w,h,hw=>by
  rw[wpOps_cons]
  exact wpOp_mono (fun a w h=>CU l fuel _ a w h hw.2) (h.2 i hw.1)
def nA:List Oper→Nat→Oper
 |[],_=>default
 |o::_,0=>o
 |_::l,n+1=>nA l n
def kW:List Nat→Nat→Nat
 |[],_=>0
 |j::l,i=>match Nat.beq j i with
  |true=>0
  |false=>kW l i+1
def Gr(p:List Nat)(i:Nat):List (Nat×Nat)→List Edge
 |[]=>[]
 |(a,b)::C=>match Nat.beq b i with
  |true=>⟨kW p a,.data⟩::Gr p i C
  |false=>Gr p i C
def nj(p:List Nat)(C:List (Nat×Nat))(i:Nat)(o:Oper):Oper:=⟨o.dst,o.op,o.type,o.pos,((o.after.toList.map fun e=>(⟨kW p e.on,e.ground⟩:Edge))++Gr p i C).toArray,none⟩
def d8(p:List Nat)(C:List (Nat×Nat))(l:List Oper):List Oper:=p.map fun i=>nj p C i (nA l i)
def JV(p:List Nat)(l:List Oper):Bool:=Nat.beq p.length l.length&&(List.range l.length).all (fun i=>p.elem i)&&(l.all fun o=>o.guard.isNone)&&p.all (fun i=>Nat.blt i l.length)&&(List.range l.length).all fun k=>(List.range l.length).any fun i=>Nat.beq (kW p i) k
theorem mO:∀{p:List Nat} {i:Nat},i∈p→kW p i<p.length∧p[kW p i]? =some i
 |j::p,i,h=>by
  unfold kW
  cases hb:Nat.beq j i with
  |true=>exact⟨by simp,by simpa using vS hb⟩
  |false=>
   have lh:¬i=j:=by
    intro e;subst e
    have:Nat.beq i i=true:=E0 i
    rw[this] at hb;cases hb
   rcases m9.1 h with h|h
   ·exact absurd h lh
   ·obtain⟨h1,h2⟩:=mO h
    exact⟨by simpa using h1,by simpa using h2⟩
theorem Lj {p:List Nat}{i j:Nat}(hi:i∈p)(hj:j∈p)(h:kW p i=kW p j):i=j:=by
 have h1:=(mO hi).2
 rw[h,(mO hj).2] at h1
 injection h1 with h1
 exact h1.symm
theorem M5 {l:List Oper}{o:Oper}:∀{i:Nat},l[i]? =some o→nA l i=o:=by
 induction l with
 |nil=>intro i h;simp at h
 |cons o' l ih=>
  intro i h
  cases i with
  |zero=>rw[I4] at h;injection h
  |succ i=>rw[Jc] at h;exact ih h
theorem xO {p:List Nat}{i:Nat}{e:Edge}:∀{C:List (Nat×Nat)},e∈Gr p i C→∃a,(a,i)∈C∧e=⟨kW p a,.data⟩
 |(a,b)::C,h=>by
  unfold Gr at h
  cases hb:Nat.beq b i with
  |true=>
   rw[hb] at h
   obtain rfl:=vS hb
   rcases m9.1 h with rfl|h
   ·exact⟨a,pk ..,rfl⟩
   ·obtain⟨a',h1,h2⟩:=xO h
    exact⟨a',nV _ h1,h2⟩
  |false=>
   rw[hb] at h
   obtain⟨a',h1,h2⟩:=xO h
   exact⟨a',nV _ h1,h2⟩
structure Ht(p:List Nat)(l:List Oper):Prop where
 len:p.length=l.length
 mem:∀i,i<l.length→i∈p
 gd:∀o∈l,o.guard=none
 bd:∀i∈p,i<l.length
 inv:∀k,k<l.length→∃i,i<l.length∧kW p i=k
theorem H8 {p:List Nat}{l:List Oper}(h:JV p l=true):Ht p l:=by
 unfold JV at h
 simp only[eC,bV,s7] at h
 obtain⟨⟨⟨⟨h1,h2⟩,h3⟩,h4⟩,h5⟩:=h
 refine⟨vS h1,fun i hi=>by simpa using h2 i hi,fun o ho=>by simpa using h3 o ho,fun i hi=>?_,fun k hk=>?_⟩
 ·exact bg (h4 i hi)
 ·obtain⟨i,hi,hb⟩:=List.any_eq_true.1 (h5 k hk)
  exact⟨i,s7.1 hi,vS hb⟩
section
variable {P:Program} {p:List Nat} {C:List (Nat×Nat)} {l:List Oper}
theorem Ht.get(h:Ht p l){i:Nat}{o:Oper}(ho:l[i]? =some o):(d8 p C l).toArray[kW p i]? =some (nj p C i o):=by
 have hi:i<l.length:=(pL.1 ho).1
 obtain⟨_,h2⟩:=mO (h.mem i hi)
 unfold d8
 rw[Bz,de,h2,nb,M5 ho]
theorem K5(h:Ht p l){Q:Exit→Act→World→Prop}{K:Act→World→Prop}{i:Nat}(hi:i<l.length){a:Act}{w:World}(hw:wpOp P (d8 p C l).toArray Q (kW p i) K a w):wpOp P l.toArray Q i K a w:=by
 have ho:l[i]? =some l[i]:=ff hi
 unfold wpOp at hw ⊢
 rw[h.get ho] at hw
 rw[Bz,ho]
 generalize hoo:l[i]=o at hw ho ⊢
 have hg:=h.gd o (cc ho)
 obtain⟨dst,op,ty,pos,af,gd⟩:=o
 simp only at hg
 subst hg
 exact hw
theorem Ad(h:Ht p l){Q:Exit→Act→World→Prop}:∀(is:List Nat) (a:Act) (w:World),(∀i∈is,i<l.length)→wpOps P (d8 p C l).toArray Q (is.map (kW p)) a w→wpOps P l.toArray Q is a w
 |[],a,w,_,hw=>hw
 |i::is,a,w,hi,hw=>by
  rw[cD,wpOps_cons] at hw
  rw[wpOps_cons]
  exact K5 h (hi i (pk ..)) (wpOp_mono (fun a w h'=>Ad h is a w (fun i zf=>hi i (nV _ zf)) h') hw)
structure BW(p:List Nat)(n:Nat)(s s':Array Bool):Prop where
 s1:s.size=n
 s2:s'.size=n
 eq:∀i,i<n→s'[kW p i]? =s[i]?
theorem BW.set(h:Ht p l){s s':Array Bool}(hs:BW p l.length s s'){i:Nat}(hi:i<l.length):BW p l.length (s.setIfInBounds i true) (s'.setIfInBounds (kW p i) true):=by
 refine⟨by simpa using hs.s1,by simpa using hs.s2,fun j hj=>?_⟩
 rw[ET,ET]
 have hpi:kW p i<s'.size:=by rw[hs.s2,←h.len];exact (mO (h.mem i hi)).1
 by_cases Lz:i=j
 ·subst Lz
  rw[ay rfl,ay rfl,ay hpi,ay (by rw[hs.s1];exact hi)]
 ·rw[aA Lz,aA (fun e=>Lz (Lj (h.mem i hi) (h.mem j hj) e))]
  exact hs.eq j hj
theorem BW.getD(h:Ht p l){s s':Array Bool}(hs:BW p l.length s s'){j:Nat}(d:Bool)(hj:j<l.length):s'.getD (kW p j) d=s.getD j d:=by
 rw[cP,cP,hs.eq j hj]
theorem xV {s:Array Bool}{j:Nat}(h:s.getD j false=true):j<s.size:=by
 rcases ck j s.size with h1|h1
 ·exact h1
 ·rw[cP,EZ h1] at h;cases h
theorem FC(h:Ht p l):∀(is:List Nat) (s s':Array Bool),BW p l.length s s'→Way l.toArray is s→(∀c∈C,Bfr c.1 c.2 is s)→Way (d8 p C l).toArray (is.map (kW p)) s'
 |[],s,s',hs,hw,_=>by
  show Region.ready _ _ _=[]
  rw[Pd]
  intro k hk
  obtain⟨h1,h2,o',h3,h4⟩:=lx.1 hk
  have hkp:k<p.length:=by
   have:(d8 p C l).length=p.length:=eG _
   simpa[this] using h1
  -- the operation at k is the one that stood at i
  have hik:=h.inv k (by rw[←h.len];exact hkp)
  obtain⟨i,hi,rfl⟩:=hik
  have ho:l[i]? =some l[i]:=ff hi
  rw[h.get ho] at h3
  injection h3 with h3
  subst h3
  have:i∈Region.ready .any l.toArray s:=by
   refine lx.2 ⟨by simpa using hi,by rw[←hs.getD h true hi];exact h2,l[i],by rw[Bz];exact ho,fun e he hb=>?_⟩
   have h5:=h4 ⟨kW p e.on,e.ground⟩ (by
    unfold nj
    rw[ES]
    exact List.mem_append_left _ (nW.2 ⟨e,by simpa using he,rfl⟩)) hb
   have bI:kW p e.on<l.length:=by rw[←hs.s2];exact xV h5
   by_cases NY:e.on∈p
   ·-- it is one of the operations
    have hon:e.on<l.length:=h.bd _ NY
    rwa[hs.getD h false hon] at h5
   ·exfalso
    have:kW p e.on=p.length:=by
     have gen:∀(q:List Nat),e.on∉q→kW q e.on=q.length:=by
      intro q
      induction q with
      |nil=>intro _;rfl
      |cons j q ih=>
       intro hq
       have lh:Nat.beq j e.on=false:=by
        cases hb:Nat.beq j e.on with
        |true=>exact absurd (m9.2 (.inl (vS hb).symm)) hq
        |false=>rfl
       unfold kW
       rw[lh]
       simp only[mj]
       rw[ih fun hh=>hq (nV _ hh)]
     exact gen p NY
    rw[this,h.len] at bI
    omega
  rw[show Region.ready .any l.toArray s=[] from hw] at this
  cases this
 |i::is,s,s',hs,⟨h1,h2⟩,hC=>by
  obtain⟨hi0,Mb,o,ho,he⟩:=lx.1 h1
  have hi:i<l.length:=by simpa using hi0
  rw[Bz] at ho
  refine⟨lx.2 ⟨?_,by rw[hs.getD h true hi];exact Mb,_,h.get ho,fun e hm hb=>?_⟩,FC h is _ _ (hs.set h hi) h2 fun c hc=>(hC c hc).2⟩
  ·have:(d8 p C l).length=p.length:=eG _
   simp only[mi,this]
   exact (mO (h.mem i hi)).1
  ·unfold nj at hm
   rw[ES] at hm
   rcases tU.1 hm with hm|hm
   ·obtain⟨e0,he0,rfl⟩:=nW.1 hm
    have h6:=he e0 (by simpa using he0) hb
    have bI:e0.on<l.length:=by rw[←hs.s1];exact xV h6
    rw[hs.getD h false bI];exact h6
   ·obtain⟨a,HI,rfl⟩:=xO hm
    have h6:=(hC _ HI).1 rfl
    have bI:a<l.length:=by rw[←hs.s1];exact xV h6
    rw[hs.getD h false bI];exact h6
end
section
variable {P:Program} {tb:TypeId→Option TyE} {x:Cx} {tm:List (Nat×D)} {hp:Hp} {Q:Exit→List (Nat×D)→Hp→Prop} {L:List FuncId} {C:List (Nat×Nat)} {l:List Oper}
def DW(P:Program)(x:Cx)(l:List Oper)(C:List (Nat×Nat))(tm:List (Nat×D))(hp:Hp)(Q:Exit→List (Nat×D)→Hp→Prop):Prop:=
 ∀(a:Act) (w:World) (is:List Nat),RS x tm hp a w→(∀i∈is,i<l.length)→Way l.toArray is (Array.replicate l.length false)→(∀c∈C,Bfr c.1 c.2 is (Array.replicate l.length false))→wpOps P l.toArray (fun ex a' w'=>∃tm' hp',RS x tm' hp' a' w'∧Q ex tm' hp') is a w
theorem RS.drew {a:Act}{w:World}(h:RS x tm hp a w):RS x tm hp a {w with drawn:=w.drawn+1}:=by
 obtain⟨g,hr,g8,hsz,ry,hB,hF,hM⟩:=h
 exact⟨g,hr.keep (aL _) (fun _ _=>rfl),fun t d hl=>(g8 t d hl).mono (bO.keep hp g (aL _) (fun _ _=>rfl)),hsz,ry,hB.drew,hF,hM.trans (bO.keep hp g (aL _) (fun _ _=>rfl))⟩
theorem Mk {ops:Array Oper}:∀(is:List Nat) (s:Array Bool),Way ops is s→∀i∈is,i<ops.size
 |[],_,_,_,h=>by cases h
 |j::is,s,hw,i,h=>by
  rcases m9.1 h with rfl|h
  ·exact (lx.1 hw.1).1
  ·exact Mk is _ hw.2 i h
theorem AW.dw {id:Nat}(hm:P.follows .mixedOrders=true)(h:DW P x l [] tm hp Q):AW P x (.region id l.toArray true) tm hp Q:=by
 intro a w hr
 refine wp_region_draw fun t=>?_
 simp only[Region.schedule,hm,Bool.true_or,aM]
 have hway:=Ml (ops:=l.toArray) l.toArray.size t (Array.replicate l.toArray.size false) (by simp) (by unfold unl;exact cX (KQ _ _) (by simp))
 have bI:=Mk _ _ hway
 simp only[mi] at hway bI
 exact h a _ _ hr.drew bI hway (fun c hc=>by cases hc)
theorem DW.split(a b:Nat)(yk:a≠b)(h1:DW P x l ((a,b)::C) tm hp Q)(h2:DW P x l ((b,a)::C) tm hp Q):DW P x l C tm hp Q:=by
 intro ac w is hr bI hw hC
 rcases O3 yk is _ (by simp) hw with h|h
 ·exact h1 ac w is hr bI hw fun c hc=>by
   rcases m9.1 hc with rfl|hc
   ·exact h
   ·exact hC c hc
 ·exact h2 ac w is hr bI hw fun c hc=>by
   rcases m9.1 hc with rfl|hc
   ·exact h
   ·exact hC c hc
theorem HO {ops:Array Oper}(hN:jC x.N ops=true)(pz:uP tb L ops=true)
  (h:∀K:List (Nat×D)→Hp→Prop,(∀tm hp,Q .normal tm hp→K tm hp)→bC P tb (.any L) ops K ops.toList tm hp) {a:Act} {w:World} (hr:RS x tm hp a w):wpAny P .any ops (fun ex a' w'=>∃tm' hp',RS x tm' hp' a' w'∧Q ex tm' hp') ops.size (Array.replicate ops.size false) a w:=by
 obtain⟨dd,hh,ac,tms,bP,hK,h1,h2⟩:=H2 (ops:=ops) ops.toList 0 (fun _=>.top) (fun _=>hp) (fun _=>false) (fun _=>tm) ⟨fun _ _ h=>absurd h (by omega),fun _ _ h=>absurd h (by omega),fun _ _ h=>absurd h (by omega)⟩ rfl (h _ fun _ _ h=>h)
 simp only[bq,ej] at bP hK h1 h2
 obtain⟨g,NF,g8,hsz,ry,hB,hF,hM⟩:=hr
 refine FB hN (Az pz) bP (fun a w hr=>⟨_,_,hr,hK⟩) ops.size _ a _ 0 g ?_ ?_
 ·have AU:∀j,¬(Array.replicate ops.size false).getD j false=true:=by
   intro j
   simp[cP,EY]
   split <;> simp
  refine⟨by simp,fun i _ _ _ hl=>absurd hl (AU i),dU _,fun j _ _ _=>⟨fun hl=>absurd hl (AU j),fun h=>absurd h (by omega)⟩,?_,fun t d hl=>?_,hsz,ry,hB,hF,?_⟩
  rotate_right
  ·rw[h2];exact hM
  ·rw[h2];exact NF
  ·rw[h2]
   rcases hl with⟨i,_,_,hl,_⟩|⟨_,hl⟩
   ·exact absurd hl (AU i)
   ·rw[h1] at hl
    exact g8 t d hl
 ·unfold unl
  exact cX (KQ _ _) (by simp)
theorem DW.go(p:List Nat)(hp1:JV p l=true)(hN:jC x.N (d8 p C l).toArray=true)(pz:uP tb L (d8 p C l).toArray=true)
  (h:∀K:List (Nat×D)→Hp→Prop,(∀tm hp,Q .normal tm hp→K tm hp)→bC P tb (.any L) (d8 p C l).toArray K (d8 p C l) tm hp):DW P x l C tm hp Q:=by
 intro a w is hr bI hw hC
 have hP:=H8 hp1
 have h1:=HO hN pz h hr
 have hlen:(d8 p C l).toArray.size=l.length:=by simp[d8,hP.len]
 rw[hlen] at h1
 have hs0:BW p l.length (Array.replicate l.length false) (Array.replicate l.length false):=by
  refine⟨by simp,by simp,fun i hi=>?_⟩
  have:=(mO (hP.mem i hi)).1
  rw[EY,EY,ay hi,ay (by rw[←hP.len];exact this)]
 exact Ad hP is a w bI (CU _ _ _ a w h1 (FC hP is _ _ hs0 hw hC))
end
end
def tblL:List (Nat×TyE):=[
 (2,⟨.int .i64,1,8,[.int .i64 (0)]⟩),
 (3,⟨.int .i64,1,8,[.int .i64 (0)]⟩),
 (4,⟨.bool,1,1,[.bool false]⟩),
 (5,⟨.int .u8,1,1,[.int .u8 (0)]⟩),
 (9,⟨.str,1,16,[.string ⟨#[]⟩]⟩),
 (12,⟨.int .u64,1,8,[.int .u64 (0)]⟩),
 (13,⟨.struct [(0,9),(1,12)],2,24,[.string ⟨#[]⟩,.int .u64 (0)]⟩),
 (21,⟨.int .i32,1,4,[.int .i32 (0)]⟩),
 (22,⟨.slice 34,1,24,[.slice none 0 0]⟩),
 (23,⟨.struct [(0,3),(1,3),(2,22)],3,40,[.int .i64 (0),.int .i64 (0),.slice none 0 0]⟩),
 (24,⟨.struct [(0,3),(1,3),(2,22)],3,40,[.int .i64 (0),.int .i64 (0),.slice none 0 0]⟩),
 (26,⟨.int .i64,1,8,[.int .i64 (0)]⟩),
 (29,⟨.int .u32,1,4,[ae]⟩),
 (30,⟨.arr 16 29,16,64,[ae,ae,ae,ae,ae,ae,ae,ae,ae,ae,ae,ae,ae,ae,ae,ae]⟩),
 (31,⟨.struct [(0,4),(1,4),(2,30)],18,68,[.bool false,.bool false,ae,ae,ae,ae,ae,ae,ae,ae,ae,ae,ae,ae,ae,ae,ae,ae]⟩),
 (32,⟨.struct [(0,4),(1,4),(2,30)],18,68,[.bool false,.bool false,ae,ae,ae,ae,ae,ae,ae,ae,ae,ae,ae,ae,ae,ae,ae,ae]⟩),
 (33,⟨.struct [(0,32),(18,32)],36,136,[.bool false,.bool false,ae,ae,ae,ae,ae,ae,ae,ae,ae,ae,ae,ae,ae,ae,ae,ae,.bool false,.bool false,ae,ae,ae,ae,ae,ae,ae,ae,ae,ae,ae,ae,ae,ae,ae,ae]⟩),
 (34,⟨.struct [(0,32),(18,32)],36,136,[.bool false,.bool false,ae,ae,ae,ae,ae,ae,ae,ae,ae,ae,ae,ae,ae,ae,ae,ae,.bool false,.bool false,ae,ae,ae,ae,ae,ae,ae,ae,ae,ae,ae,ae,ae,ae,ae,ae]⟩),
 (35,⟨.slice 3,1,24,[.slice none 0 0]⟩),
 (44,⟨.struct [(0,24),(3,35),(4,22),(5,4),(6,26),(7,3)],8,112,[.int .i64 (0),.int .i64 (0),.slice none 0 0,.slice none 0 0,.slice none 0 0,.bool false,.int .i64 (0),.int .i64 (0)]⟩),
 (45,⟨.struct [(0,24),(3,35),(4,22),(5,4),(6,26),(7,3)],8,112,[.int .i64 (0),.int .i64 (0),.slice none 0 0,.slice none 0 0,.slice none 0 0,.bool false,.int .i64 (0),.int .i64 (0)]⟩),
 (47,⟨.struct [(0,34),(36,26)],37,144,[.bool false,.bool false,ae,ae,ae,ae,ae,ae,ae,ae,ae,ae,ae,ae,ae,ae,ae,ae,.bool false,.bool false,ae,ae,ae,ae,ae,ae,ae,ae,ae,ae,ae,ae,ae,ae,ae,ae,.int .i64 (0)]⟩),
 (48,⟨.struct [(0,34),(36,26)],37,144,[.bool false,.bool false,ae,ae,ae,ae,ae,ae,ae,ae,ae,ae,ae,ae,ae,ae,ae,ae,.bool false,.bool false,ae,ae,ae,ae,ae,ae,ae,ae,ae,ae,ae,ae,ae,ae,ae,ae,.int .i64 (0)]⟩),
 (52,⟨.slice 22,1,24,[.slice none 0 0]⟩),
 (55,⟨.struct [(0,52),(1,26)],2,32,[.slice none 0 0,.int .i64 (0)]⟩),
 (56,⟨.struct [(0,52),(1,26)],2,32,[.slice none 0 0,.int .i64 (0)]⟩),
 (60,⟨.struct [(0,4),(1,26)],2,16,[.bool false,.int .i64 (0)]⟩),
 (61,⟨.struct [(0,4),(1,26)],2,16,[.bool false,.int .i64 (0)]⟩),
 (64,⟨.struct [(0,24),(3,26)],4,48,[.int .i64 (0),.int .i64 (0),.slice none 0 0,.int .i64 (0)]⟩),
 (65,⟨.struct [(0,24),(3,26)],4,48,[.int .i64 (0),.int .i64 (0),.slice none 0 0,.int .i64 (0)]⟩),
 (71,⟨.struct [(0,22),(1,26)],2,32,[.slice none 0 0,.int .i64 (0)]⟩),
 (72,⟨.struct [(0,22),(1,26)],2,32,[.slice none 0 0,.int .i64 (0)]⟩),
 (95,⟨.slice 102,1,24,[.slice none 0 0]⟩),
 (96,⟨.struct [(0,24),(3,95)],4,64,[.int .i64 (0),.int .i64 (0),.slice none 0 0,.slice none 0 0]⟩),
 (97,⟨.struct [(0,24),(3,95)],4,64,[.int .i64 (0),.int .i64 (0),.slice none 0 0,.slice none 0 0]⟩),
 (101,⟨.struct [(0,3),(1,34),(37,4)],38,152,[.int .i64 (0),.bool false,.bool false,ae,ae,ae,ae,ae,ae,ae,ae,ae,ae,ae,ae,ae,ae,ae,ae,.bool false,.bool false,ae,ae,ae,ae,ae,ae,ae,ae,ae,ae,ae,ae,ae,ae,ae,ae,.bool false]⟩),
 (102,⟨.struct [(0,3),(1,34),(37,4)],38,152,[.int .i64 (0),.bool false,.bool false,ae,ae,ae,ae,ae,ae,ae,ae,ae,ae,ae,ae,ae,ae,ae,ae,.bool false,.bool false,ae,ae,ae,ae,ae,ae,ae,ae,ae,ae,ae,ae,ae,ae,ae,ae,.bool false]⟩),
 (122,⟨.slice 24,1,24,[.slice none 0 0]⟩),
 (130,⟨.int .u64,1,8,[.int .u64 (0)]⟩),
 (134,⟨.arr 32 29,32,128,[ae,ae,ae,ae,ae,ae,ae,ae,ae,ae,ae,ae,ae,ae,ae,ae,ae,ae,ae,ae,ae,ae,ae,ae,ae,ae,ae,ae,ae,ae,ae,ae]⟩),
 (136,⟨.int .u64,1,8,[.int .u64 (0)]⟩),
 (137,⟨.slice 29,1,24,[.slice none 0 0]⟩),
 (149,⟨.slice 32,1,24,[.slice none 0 0]⟩),
 (172,⟨.arr 17 29,17,68,[ae,ae,ae,ae,ae,ae,ae,ae,ae,ae,ae,ae,ae,ae,ae,ae,ae]⟩)
]
def tbl(t:TypeId):Option TyE:=tblL.lookup t
theorem tb_2:tbl 2=some ⟨.int .i64,1,8,[.int .i64 (0)]⟩:=rfl
theorem a6:tbl 3=some ⟨.int .i64,1,8,[.int .i64 (0)]⟩:=rfl
theorem gp:tbl 4=some ⟨.bool,1,1,[.bool false]⟩:=rfl
theorem tb_5:tbl 5=some ⟨.int .u8,1,1,[.int .u8 (0)]⟩:=rfl
theorem tb_9:tbl 9=some ⟨.str,1,16,[.string ⟨#[]⟩]⟩:=rfl
theorem tb_12:tbl 12=some ⟨.int .u64,1,8,[.int .u64 (0)]⟩:=rfl
theorem tb_13:tbl 13=some ⟨.struct [(0,9),(1,12)],2,24,[.string ⟨#[]⟩,.int .u64 (0)]⟩:=rfl
theorem tb_21:tbl 21=some ⟨.int .i32,1,4,[.int .i32 (0)]⟩:=rfl
theorem aP:tbl 22=some ⟨.slice 34,1,24,[.slice none 0 0]⟩:=rfl
theorem tb_23:tbl 23=some ⟨.struct [(0,3),(1,3),(2,22)],3,40,[.int .i64 (0),.int .i64 (0),.slice none 0 0]⟩:=rfl
theorem ax:tbl 24=some ⟨.struct [(0,3),(1,3),(2,22)],3,40,[.int .i64 (0),.int .i64 (0),.slice none 0 0]⟩:=rfl
theorem JN:tbl 26=some ⟨.int .i64,1,8,[.int .i64 (0)]⟩:=rfl
theorem aH:tbl 29=some ⟨.int .u32,1,4,[ae]⟩:=rfl
theorem aE:tbl 30=some ⟨.arr 16 29,16,64,[ae,ae,ae,ae,ae,ae,ae,ae,ae,ae,ae,ae,ae,ae,ae,ae]⟩:=rfl
theorem tb_31:tbl 31=some ⟨.struct [(0,4),(1,4),(2,30)],18,68,[.bool false,.bool false,ae,ae,ae,ae,ae,ae,ae,ae,ae,ae,ae,ae,ae,ae,ae,ae]⟩:=rfl
theorem az:tbl 32=some ⟨.struct [(0,4),(1,4),(2,30)],18,68,[.bool false,.bool false,ae,ae,ae,ae,ae,ae,ae,ae,ae,ae,ae,ae,ae,ae,ae,ae]⟩:=rfl
theorem tb_33:tbl 33=some ⟨.struct [(0,32),(18,32)],36,136,[.bool false,.bool false,ae,ae,ae,ae,ae,ae,ae,ae,ae,ae,ae,ae,ae,ae,ae,ae,.bool false,.bool false,ae,ae,ae,ae,ae,ae,ae,ae,ae,ae,ae,ae,ae,ae,ae,ae]⟩:=rfl
theorem aD:tbl 34=some ⟨.struct [(0,32),(18,32)],36,136,[.bool false,.bool false,ae,ae,ae,ae,ae,ae,ae,ae,ae,ae,ae,ae,ae,ae,ae,ae,.bool false,.bool false,ae,ae,ae,ae,ae,ae,ae,ae,ae,ae,ae,ae,ae,ae,ae,ae]⟩:=rfl
theorem b7:tbl 35=some ⟨.slice 3,1,24,[.slice none 0 0]⟩:=rfl
theorem tb_44:tbl 44=some ⟨.struct [(0,24),(3,35),(4,22),(5,4),(6,26),(7,3)],8,112,[.int .i64 (0),.int .i64 (0),.slice none 0 0,.slice none 0 0,.slice none 0 0,.bool false,.int .i64 (0),.int .i64 (0)]⟩:=rfl
theorem tb_45:tbl 45=some ⟨.struct [(0,24),(3,35),(4,22),(5,4),(6,26),(7,3)],8,112,[.int .i64 (0),.int .i64 (0),.slice none 0 0,.slice none 0 0,.slice none 0 0,.bool false,.int .i64 (0),.int .i64 (0)]⟩:=rfl
theorem tb_47:tbl 47=some ⟨.struct [(0,34),(36,26)],37,144,[.bool false,.bool false,ae,ae,ae,ae,ae,ae,ae,ae,ae,ae,ae,ae,ae,ae,ae,ae,.bool false,.bool false,ae,ae,ae,ae,ae,ae,ae,ae,ae,ae,ae,ae,ae,ae,ae,ae,.int .i64 (0)]⟩:=rfl
theorem tb_48:tbl 48=some ⟨.struct [(0,34),(36,26)],37,144,[.bool false,.bool false,ae,ae,ae,ae,ae,ae,ae,ae,ae,ae,ae,ae,ae,ae,ae,ae,.bool false,.bool false,ae,ae,ae,ae,ae,ae,ae,ae,ae,ae,ae,ae,ae,ae,ae,ae,.int .i64 (0)]⟩:=rfl
theorem mp:tbl 52=some ⟨.slice 22,1,24,[.slice none 0 0]⟩:=rfl
theorem tb_55:tbl 55=some ⟨.struct [(0,52),(1,26)],2,32,[.slice none 0 0,.int .i64 (0)]⟩:=rfl
theorem tb_56:tbl 56=some ⟨.struct [(0,52),(1,26)],2,32,[.slice none 0 0,.int .i64 (0)]⟩:=rfl
theorem tb_60:tbl 60=some ⟨.struct [(0,4),(1,26)],2,16,[.bool false,.int .i64 (0)]⟩:=rfl
theorem tb_61:tbl 61=some ⟨.struct [(0,4),(1,26)],2,16,[.bool false,.int .i64 (0)]⟩:=rfl
theorem tb_64:tbl 64=some ⟨.struct [(0,24),(3,26)],4,48,[.int .i64 (0),.int .i64 (0),.slice none 0 0,.int .i64 (0)]⟩:=rfl
theorem tb_65:tbl 65=some ⟨.struct [(0,24),(3,26)],4,48,[.int .i64 (0),.int .i64 (0),.slice none 0 0,.int .i64 (0)]⟩:=rfl
theorem tb_71:tbl 71=some ⟨.struct [(0,22),(1,26)],2,32,[.slice none 0 0,.int .i64 (0)]⟩:=rfl
theorem tb_72:tbl 72=some ⟨.struct [(0,22),(1,26)],2,32,[.slice none 0 0,.int .i64 (0)]⟩:=rfl
theorem sW:tbl 95=some ⟨.slice 102,1,24,[.slice none 0 0]⟩:=rfl
theorem tb_96:tbl 96=some ⟨.struct [(0,24),(3,95)],4,64,[.int .i64 (0),.int .i64 (0),.slice none 0 0,.slice none 0 0]⟩:=rfl
theorem j7:tbl 97=some ⟨.struct [(0,24),(3,95)],4,64,[.int .i64 (0),.int .i64 (0),.slice none 0 0,.slice none 0 0]⟩:=rfl
theorem tb_101:tbl 101=some ⟨.struct [(0,3),(1,34),(37,4)],38,152,[.int .i64 (0),.bool false,.bool false,ae,ae,ae,ae,ae,ae,ae,ae,ae,ae,ae,ae,ae,ae,ae,ae,.bool false,.bool false,ae,ae,ae,ae,ae,ae,ae,ae,ae,ae,ae,ae,ae,ae,ae,ae,.bool false]⟩:=rfl
theorem jd:tbl 102=some ⟨.struct [(0,3),(1,34),(37,4)],38,152,[.int .i64 (0),.bool false,.bool false,ae,ae,ae,ae,ae,ae,ae,ae,ae,ae,ae,ae,ae,ae,ae,ae,.bool false,.bool false,ae,ae,ae,ae,ae,ae,ae,ae,ae,ae,ae,ae,ae,ae,ae,ae,.bool false]⟩:=rfl
theorem pp:tbl 122=some ⟨.slice 24,1,24,[.slice none 0 0]⟩:=rfl
theorem tb_130:tbl 130=some ⟨.int .u64,1,8,[.int .u64 (0)]⟩:=rfl
theorem vg:tbl 134=some ⟨.arr 32 29,32,128,[ae,ae,ae,ae,ae,ae,ae,ae,ae,ae,ae,ae,ae,ae,ae,ae,ae,ae,ae,ae,ae,ae,ae,ae,ae,ae,ae,ae,ae,ae,ae,ae]⟩:=rfl
theorem tb_136:tbl 136=some ⟨.int .u64,1,8,[.int .u64 (0)]⟩:=rfl
theorem Mu:tbl 137=some ⟨.slice 29,1,24,[.slice none 0 0]⟩:=rfl
theorem qg:tbl 149=some ⟨.slice 32,1,24,[.slice none 0 0]⟩:=rfl
theorem me:tbl 172=some ⟨.arr 17 29,17,68,[ae,ae,ae,ae,ae,ae,ae,ae,ae,ae,ae,ae,ae,ae,ae,ae,ae]⟩:=rfl
class TB (t:TypeId) (i:outParam TyE):Prop where
 h:tbl t=some i
theorem tbI {t:TypeId}{i:TyE}[h:TB t i]:tbl t=some i:=h.h
@[reducible,instance] def itb_2:=TB.mk tb_2
@[reducible,instance] def itb_3:=TB.mk a6
@[reducible,instance] def itb_4:=TB.mk gp
@[reducible,instance] def itb_5:=TB.mk tb_5
@[reducible,instance] def itb_9:=TB.mk tb_9
@[reducible,instance] def itb_12:=TB.mk tb_12
@[reducible,instance] def itb_13:=TB.mk tb_13
@[reducible,instance] def itb_21:=TB.mk tb_21
@[reducible,instance] def itb_22:=TB.mk aP
@[reducible,instance] def itb_23:=TB.mk tb_23
@[reducible,instance] def itb_24:=TB.mk ax
@[reducible,instance] def itb_26:=TB.mk JN
@[reducible,instance] def itb_29:=TB.mk aH
@[reducible,instance] def itb_30:=TB.mk aE
@[reducible,instance] def itb_31:=TB.mk tb_31
@[reducible,instance] def itb_32:=TB.mk az
@[reducible,instance] def itb_33:=TB.mk tb_33
@[reducible,instance] def itb_34:=TB.mk aD
@[reducible,instance] def itb_35:=TB.mk b7
@[reducible,instance] def itb_44:=TB.mk tb_44
@[reducible,instance] def itb_45:=TB.mk tb_45
@[reducible,instance] def itb_47:=TB.mk tb_47
@[reducible,instance] def itb_48:=TB.mk tb_48
@[reducible,instance] def itb_52:=TB.mk mp
@[reducible,instance] def itb_55:=TB.mk tb_55
@[reducible,instance] def itb_56:=TB.mk tb_56
@[reducible,instance] def itb_60:=TB.mk tb_60
@[reducible,instance] def itb_61:=TB.mk tb_61
@[reducible,instance] def itb_64:=TB.mk tb_64
@[reducible,instance] def itb_65:=TB.mk tb_65
@[reducible,instance] def itb_71:=TB.mk tb_71
@[reducible,instance] def itb_72:=TB.mk tb_72
@[reducible,instance] def itb_95:=TB.mk sW
@[reducible,instance] def itb_96:=TB.mk tb_96
@[reducible,instance] def itb_97:=TB.mk j7
@[reducible,instance] def itb_101:=TB.mk tb_101
@[reducible,instance] def itb_102:=TB.mk jd
@[reducible,instance] def itb_122:=TB.mk pp
@[reducible,instance] def itb_130:=TB.mk tb_130
@[reducible,instance] def itb_134:=TB.mk vg
@[reducible,instance] def itb_136:=TB.mk tb_136
@[reducible,instance] def itb_137:=TB.mk Mu
@[reducible,instance] def itb_149:=TB.mk qg
@[reducible,instance] def itb_172:=TB.mk me
def Pr(P:Program):List (Nat×TyE)→Prop
 |[]=>True
 |(t,i)::l=>((P.underlying t).map Ty.of=some i.ty∧(P.info? t).map (fun f=>(f.size,f.bytes,f.zero.map fun v=>(v.cells.toList,v.isAggV)))=some (i.size,i.bytes,some (i.zero,i.ty.agg))∧i.zero.length=i.size∧i.zero.all Value.oneCell'=true)∧Pr P l
theorem Pr.get {P:Program}:∀{l:List (Nat×TyE)} {t:Nat} {i:TyE},Pr P l→l.lookup t=some i→(P.underlying t).map Ty.of=some i.ty∧(P.info? t).map (fun f=>(f.size,f.bytes,f.zero.map fun v=>(v.cells.toList,v.isAggV)))=some (i.size,i.bytes,some (i.zero,i.ty.agg))∧i.zero.length=i.size∧i.zero.all Value.oneCell'=true
 |[],t,i,_,h=>by simp at h
 |(s,j)::l,t,i,h,hl=>by
  by_cases hts:t=s
  ·subst hts
   have:some j=some i:=by rw[←hl];exact ai.symm
   injection this with this
   subst this
   exact h.1
  ·exact Pr.get h.2 (by rw[←hl];exact (ar hts).symm)
theorem tokL:Pr prog tblL:=by
 iterate 44 refine⟨⟨by kernel_rfl,by kernel_rfl,by kernel_rfl,by kernel_rfl⟩,?_⟩
 exact trivial
theorem tok:TOk prog tbl:=fun _ _ h=>tokL.get h
theorem wq:prog.underlying 4=some .bool:=by kernel_rfl
section
section
variable {md:Md} {ops:Array Oper} {K:List (Nat×D)→Hp→Prop} {os:List Oper} {tm:List (Nat×D)} {hp hp':Hp} {t s:Tmp} {op:Op} {ty:TypeId} {pos:String} {af:Array Edge} {d d2:D} {j:Nat} {want c:Bool}
theorem s1(h:AVC prog tbl md.dr op ty (evD tm) hp (Kq d hp'))(h2:bC prog tbl md ops K os ((t,d)::tm) hp')(hn:md.nc tbl op=true:=by exact rfl):bC prog tbl md ops K (⟨some t,op,ty,pos,af,none⟩::os) tm hp:=st tok hn h h2
theorem s0(h:AVC prog tbl md.dr op ty (evD tm) hp (Kq d hp'))(h2:bC prog tbl md ops K os tm hp')(hn:md.nc tbl op=true:=by exact rfl):bC prog tbl md ops K (⟨none,op,ty,pos,af,none⟩::os) tm hp:=st_n tok hn h h2
theorem s2(h:AVC prog tbl md.dr op ty (evD tm) hp (Kq d hp'))(hl:d.le d2)(h2:bC prog tbl md ops K os ((t,d2)::tm) hp')(hn:md.nc tbl op=true:=by exact rfl):bC prog tbl md ops K (⟨some t,op,ty,pos,af,none⟩::os) tm hp:=st_le tok hn h hl h2
theorem g1(hw:c=want)(h:AVC prog tbl md.dr op ty (evD tm) hp (Kq d hp'))(h2:bC prog tbl md ops K os ((t,d)::tm) hp')(hj:(ops[j]?).bind (·.dst)=some s:=by exact rfl)(hc:tm.lookup s=some (.e (.lit (.bool c))):=by exact rfl)(hn:md.nc tbl op=true:=by exact rfl):bC prog tbl md ops K (⟨some t,op,ty,pos,af,some (j,want)⟩::os) tm hp:=go_t tok hn hj hc hw h h2
theorem q1(h:m3 prog tbl md ⟨some t,op,ty,pos,af,none⟩ (evD tm) hp d hp')(h2:bC prog tbl md ops K os ((t,d)::tm) hp'):bC prog tbl md ops K (⟨some t,op,ty,pos,af,none⟩::os) tm hp:=F3 rfl h h2
theorem fzO {α:Type}(c:Cd α){l:List α}{vs tq:List (Nat×List D)}{lv:List (Nat×Nat×Nat×TypeId)}{N n:Nat}(k:Nat)(ts:List Nat)(hn:n=l.length)(h2:bC prog tbl .seq ops K os (ts.map (fun t=>(t,.e (slE c l)))++tm) ⟨tq,lv,N⟩)(ht:∀t∈ts,tm.lookup t=some (.ow k 0 c.sz n))(hv:vs.lookup k=some (dC ((cW c).f l)):=by exact rfl)(hz:Nat.ble 1 c.sz=true:=by exact rfl)(uj:(vs.filter fun p=>!([k]:List Nat).contains p.1)=tq:=by exact rfl):bC prog tbl .seq ops K os tm ⟨vs,lv,N⟩:=by
 subst uj
 exact .wk rfl (WkS.frzG c ts hn ht hv hz) h2
theorem all1 {p:Nat→Prop}{a:Nat}(h:p a):∀t∈[a],p t:=by simpa using h
theorem all2 {p:Nat→Prop}{a:Nat}{l:List Nat}(h:p a)(hl:∀t∈l,p t):∀t∈a::l,p t:=by simpa using⟨h,hl⟩
variable {x:Cx} {Q:Exit→List (Nat×D)→Hp→Prop}
theorem rg {n id:Nat}{l:List Oper}(hx:x.N=n)(hN:jC n l.toArray=true)(h:∀K:List (Nat×D)→Hp→Prop,(∀tm hp,Q .normal tm hp→K tm hp)→bC prog tbl .seq l.toArray K l tm hp):AW prog x (.region id l.toArray false) tm hp Q:=AW.regS tbl (by rw[hx];exact hN) h
theorem rd {n id:Nat}{l:List Oper}(L:List FuncId)(hx:x.N=n)(hN:jC n l.toArray=true)(pz:uP tbl L l.toArray=true)(h:∀K:List (Nat×D)→Hp→Prop,(∀tm hp,Q .normal tm hp→K tm hp)→bC prog tbl (.any L) l.toArray K l tm hp):AW prog x (.region id l.toArray true) tm hp Q:=AW.drwS tbl L (by kernel_rfl) (by rw[hx];exact hN) pz h
theorem dw {id:Nat}{l:List Oper}(h:DW prog x l [] tm hp Q):AW prog x (.region id l.toArray true) tm hp Q:=AW.dw (by kernel_rfl) h
theorem dwg {n:Nat}{l:List Oper}{C:List (Nat×Nat)}(L:List FuncId)(p:List Nat)(hx:x.N=n)(hp1:JV p l=true)(hN:jC n (d8 p C l).toArray=true)(pz:uP tbl L (d8 p C l).toArray=true)(h:∀K:List (Nat×D)→Hp→Prop,(∀tm hp,Q .normal tm hp→K tm hp)→bC prog tbl (.any L) (d8 p C l).toArray K (d8 p C l) tm hp):DW prog x l C tm hp Q:=DW.go p hp1 (by rw[hx];exact hN) pz h
def PE(x:Cx){S:Type}(e:Exit)(T:S→List (Nat×D))(H:S→Hp)(y:S)(ex:Exit)(tm:List (Nat×D))(hp:Hp):Prop:=ex=e∧Wk x tm hp (T y) (H y)
def PR(rs:List ResultVar){R:Type}(dR:R→D)(y:R)(ex:Exit)(tm:List (Nat×D))(hp:Hp):Prop:=ex=.ret∧fK tbl rs tm hp (dR y)
def PS {A B:Type}(p:A→Exit→List (Nat×D)→Hp→Prop)(q:B→Exit→List (Nat×D)→Hp→Prop)(y:A⊕B)(ex:Exit)(tm:List (Nat×D))(hp:Hp):Prop:=match y with| .inl a=>p a ex tm hp| .inr b=>q b ex tm hp
theorem PS.l {A B:Type}{p:A→Exit→List (Nat×D)→Hp→Prop}{q:B→Exit→List (Nat×D)→Hp→Prop}{a:A}{ex:Exit}(h:p a ex tm hp):PS p q (.inl a) ex tm hp:=h
theorem PS.r {A B:Type}{p:A→Exit→List (Nat×D)→Hp→Prop}{q:B→Exit→List (Nat×D)→Hp→Prop}{b:B}{ex:Exit}(h:q b ex tm hp):PS p q (.inr b) ex tm hp:=h
theorem PE.i {S:Type}{e:Exit}{T:S→List (Nat×D)}{H:S→Hp}{y:S}(hw:Wk x tm hp (T y) (H y)):PE x e T H y e tm hp:=⟨rfl,hw⟩
theorem PR.i {rs:List ResultVar}{R:Type}{dR:R→D}{y:R}(hw:fK tbl rs tm hp (dR y)):PR rs dR y .ret tm hp:=⟨rfl,hw⟩
theorem jn {c:Code}{Q':Exit→List (Nat×D)→Hp→Prop}(Q:Exit→List (Nat×D)→Hp→Prop)(h:AW prog x c tm hp Q)(hq:∀ex tm hp,Q ex tm hp→Q' ex tm hp):AW prog x c tm hp Q':=AW.mono h hq
theorem lp {c:Code}{S X:Type}{b:S→Option (S⊕X)}{Q:Exit→List (Nat×D)→Hp→Prop}{s:S}{e:X}(T:S→List (Nat×D))(H:S→Hp)(QX:X→Exit→List (Nat×D)→Hp→Prop)(h:a5 b s=some e)(hw:Wk x tm hp (T s) (H s))
  (round:∀s y,b s=some y→AW prog x c (T s) (H s) (PS (PE x .normal T H) (fun e ex tm hp=>ex≠.normal∧QX e ex tm hp) y)) (hq:∀ex tm hp,QX e ex tm hp→Q ex tm hp):AW prog x (.loop c) tm hp Q:=
 AW.mono (AW.loopO T H QX (fun s y hy=>AW.mono (round s y hy) fun ex tm' hp' h=>by cases y <;> exact h) h hw) hq
end
end
section
section
variable {md:Md} {ops:Array Oper} {K:List (Nat×D)→Hp→Prop} {os:List Oper} {tm:List (Nat×D)} {hp hp':Hp} {t s:Tmp} {op:Op} {ty:TypeId} {pos:String} {af:Array Edge} {d d2:D} {j:Nat} {want c:Bool}
variable {dr:Bool} {ev:List (Nat×D)}
theorem A_int {k:IntKind}{n:Int}:AVC prog tbl dr (.assign (.const (.int k n))) ty (evD ev) hp (Kq (dI k n) hp):=Hs
theorem PW {b:Bool}:AVC prog tbl dr (.assign (.const (.bool b))) ty (evD ev) hp (Kq (dB b) hp):=Hs
theorem M_int {k:IntKind}{n:Int}:AVC prog tbl dr (.move (.const (.int k n))) ty (evD ev) hp (Kq (dI k n) hp):=Fg
theorem K_faP {s tt:TypeId}{x:Operand}{i j:TyE}{f o k off:Nat}{fs:List (Nat×TypeId)}{ev:Operand→D}(hs:tbl s=some i:=by exact tbI)(hi:i.ty=.struct fs:=by exact rfl)(hf:fs[f]? =some (o,tt):=by exact rfl)(hx:ev x=.pt k off:=by exact rfl)(ht:tbl tt=some j:=by exact tbI)(hz:Nat.ble 1 j.size=true:=by exact rfl):AVC prog tbl dr (.fieldAddr s x f) ty ev hp (Kq (.pt k (off+o)) hp):=T_faP hs ht hi hf hz hx
theorem K_faF {s tt:TypeId}{x:Operand}{i j:TyE}{f o off:Nat}{xs:List E}{fs:List (Nat×TypeId)}{ev:Operand→D}(hs:tbl s=some i:=by exact tbI)(hi:i.ty=.struct fs:=by exact rfl)(hf:fs[f]? =some (o,tt):=by exact rfl)(hx:ev x=.fp xs off:=by exact rfl)(ht:tbl tt=some j:=by exact tbI)(hz:Nat.ble 1 j.size=true:=by exact rfl):AVC prog tbl dr (.fieldAddr s x f) ty ev hp (Kq (.fp xs (off+o)) hp):=T_faF hs ht hi hf hz hx
theorem K_len {t e:TypeId}{x:Operand}{i j:TyE}{n:Nat}{xs:List E}{ev:Operand→D}(ht:tbl t=some i:=by exact tbI)(hi:i.ty=.slice e:=by exact rfl)(he:tbl e=some j:=by exact tbI)(hx:(ev x).asSl j.size=some (n,xs):=by exact rfl):AVC prog tbl dr (.call ⟨.builtin .len,#[x],#[t]⟩) ty ev hp (Kq (dI .i64 n) hp):=T_len ht he hi hx
theorem K_lenW {t e:TypeId}{x:Operand}{i j:TyE}{k off z n:Nat}{ev:Operand→D}(ht:tbl t=some i:=by exact tbI)(hi:i.ty=.slice e:=by exact rfl)(he:tbl e=some j:=by exact tbI)(hx:ev x=.ow k off z n:=by exact rfl):AVC prog tbl dr (.call ⟨.builtin .len,#[x],#[t]⟩) ty ev hp (Kq (dI .i64 n) hp):=yL ht he hi hx
theorem K_shl {t t':TypeId}{x y:Operand}{k k':IntKind}{a b:Int}{ev:Operand→D}(hx:ev x=dI k a:=by exact rfl)(hy:ev y=dI k' b:=by exact rfl)(hb:0≤b:=by decide):AVC prog tbl dr (.binOp .shl t x y t') ty ev hp (Kq (dI k (vt k a b)) hp):=Pn hb hx hy
theorem K_shr {t t':TypeId}{x y:Operand}{k k':IntKind}{a b:Int}{ev:Operand→D}(hx:ev x=dI k a:=by exact rfl)(hy:ev y=dI k' b:=by exact rfl)(hb:0≤b:=by decide):AVC prog tbl dr (.binOp .shr t x y t') ty ev hp (Kq (dI k (lE k a b)) hp):=Pm hb hx hy
theorem K_quo {t t':TypeId}{x y:Operand}{k:IntKind}{a b:Int}{ev:Operand→D}(hx:ev x=dI k a:=by exact rfl)(hy:ev y=dI k b:=by exact rfl)(hb:b≠0:=by decide):AVC prog tbl dr (.binOp .quo t x y t') ty ev hp (Kq (dI k (k.wrap (a.tdiv b))) hp):=Hr hb hx hy
theorem K_rem {t t':TypeId}{x y:Operand}{k:IntKind}{a b:Int}{ev:Operand→D}(hx:ev x=dI k a:=by exact rfl)(hy:ev y=dI k b:=by exact rfl)(hb:b≠0:=by decide):AVC prog tbl dr (.binOp .rem t x y t') ty ev hp (Kq (dI k (a.tmod b)) hp):=DI hb hx hy
theorem sa(h2:bC prog tbl md ops K os ((t,d)::tm) hp')(h:AVC prog tbl md.dr op ty (evD tm) hp (Kq d hp'):=by (first|exact T_mv|exact li|exact A_int|exact PW|exact A_str|exact M_int|exact M_bool|exact M_str|exact Hs|exact Fg|exact T_not|exact Po|exact T_nilF|exact T_ext|exact T_add|exact T_sub|exact T_mul|exact T_eql|exact T_neq|exact T_lss|exact T_leq|exact T_gtr|exact T_geq|exact T_seql|exact T_sneq|exact Pq wq|exact Pp wq|exact T_and|exact T_or|exact T_xor|exact T_neg|exact K_shl|exact K_shr|exact K_quo|exact K_rem|exact K_faP|exact K_faF|exact T_cvI tbI tbI|exact T_cvS tbI tbI|exact K_len|exact T_lenS tbI|exact T_lenA tbI|exact K_lenW|exact T_min|exact T_max|exact T_boxV))(hn:md.nc tbl op=true:=by exact rfl):bC prog tbl md ops K (⟨some t,op,ty,pos,af,none⟩::os) tm hp:=st tok hn h h2
theorem ga(hw:c=want)(h2:bC prog tbl md ops K os ((t,d)::tm) hp')(hj:(ops[j]?).bind (·.dst)=some s:=by exact rfl)(hc:tm.lookup s=some (.e (.lit (.bool c))):=by exact rfl)(h:AVC prog tbl md.dr op ty (evD tm) hp (Kq d hp'):=by (first|exact T_mv|exact li|exact A_int|exact PW|exact A_str|exact M_int|exact M_bool|exact M_str|exact Hs|exact Fg|exact T_not|exact Po|exact T_nilF|exact T_ext|exact T_add|exact T_sub|exact T_mul|exact T_eql|exact T_neq|exact T_lss|exact T_leq|exact T_gtr|exact T_geq|exact T_seql|exact T_sneq|exact Pq wq|exact Pp wq|exact K_faP|exact K_faF|exact T_cvI tbI tbI|exact K_len|exact T_lenS tbI))(hn:md.nc tbl op=true:=by exact rfl):bC prog tbl md ops K (⟨some t,op,ty,pos,af,some (j,want)⟩::os) tm hp:=go_t tok hn hj hc hw h h2
theorem pn {ev:Operand→D}:((([]:List Operand).map ev).map D.ex).all D.pure=true:=rfl
theorem pA {ev:Operand→D}{a:Operand}{la:List Operand}(h:(ev a).ex.pure=true)(hl:((la.map ev).map D.ex).all D.pure=true):(((a::la).map ev).map D.ex).all D.pure=true:=by
 rw[cD,cD,jZ,h,hl];rfl
theorem lC {ev:Operand→D}{a:Operand}{la:List Operand}{d':D}{ds':List D}(h:(ev a).ex.le d')(hl:leL ((la.map ev).map D.ex) ds'):leL (((a::la).map ev).map D.ex) (d'::ds'):=⟨h,hl⟩
theorem cq {f:FuncId}{la:List Operand}{ts:Array TypeId}{ds:List D}{r:D}(hc:aB prog f ds r)(h2:bC prog tbl md ops K os ((t,r)::tm) hp)(hp1:((la.map (evD tm)).map D.ex).all D.pure=true:=by repeat (first|exact pn|refine pA (bn _ _) ?_|refine pA rfl ?_))(hl:leL ((la.map (evD tm)).map D.ex) ds:=by repeat (first|exact lAn|refine lC (eK _ _) ?_|refine lC (ao _) ?_))(hr:r.pure=true∨∃ds,r=.tu ds:=by (first|exact .inl (jf _ _)|exact .inl rfl|exact .inr ⟨_,rfl⟩)):
  bC prog tbl md ops K (⟨some t,.call ⟨.value (.func f),la.toArray,ts⟩,ty,pos,af,none⟩::os) tm hp:=sq tok hc hp1 hl hr h2
theorem sc {x:Operand}{f:FuncId}{la:List Operand}{ts:Array TypeId}{ds:List D}{r:D}(hc:aB prog f ds r)(h2:bC prog tbl md ops K os ((t,r)::tm) hp)(vy:evD tm x=.e (.lit (.func (.func f) #[] #[])):=by exact rfl)(hp1:((la.map (evD tm)).map D.ex).all D.pure=true:=by repeat (first|exact pn|refine pA (bn _ _) ?_|refine pA rfl ?_))(hl:leL ((la.map (evD tm)).map D.ex) ds:=by repeat (first|exact lAn|refine lC (eK _ _) ?_|refine lC (ao _) ?_))(hr:r.pure=true∨∃ds,r=.tu ds:=by (first|exact .inl (jf _ _)|exact .inl rfl|exact .inr ⟨_,rfl⟩))(hn:md.nc tbl (.call ⟨.value x,la.toArray,ts⟩)=true:=by exact rfl):
  bC prog tbl md ops K (⟨some t,.call ⟨.value x,la.toArray,ts⟩,ty,pos,af,none⟩::os) tm hp:=st tok hn (dP vy hc hp1 hl hr) h2
variable {x:Cx} {Q:Exit→List (Nat×D)→Hp→Prop}
theorem rq {n id:Nat}{l:List Oper}(hx:x.N=n)(h:∀K:List (Nat×D)→Hp→Prop,(∀tm hp,Q .normal tm hp→K tm hp)→bC prog tbl .seq l.toArray K l tm hp)(hN:jC n l.toArray=true:=by kernel_rfl):AW prog x (.region id l.toArray false) tm hp Q:=rg hx hN h
theorem rqd {n id:Nat}{l:List Oper}(L:List FuncId)(hx:x.N=n)(h:∀K:List (Nat×D)→Hp→Prop,(∀tm hp,Q .normal tm hp→K tm hp)→bC prog tbl (.any L) l.toArray K l tm hp)(hN:jC n l.toArray=true:=by kernel_rfl)(pz:uP tbl L l.toArray=true:=by kernel_rfl):AW prog x (.region id l.toArray true) tm hp Q:=rd L hx hN pz h
theorem rv1 {q:ResultVar}{r:D}(h:fK tbl [q] tm hp r:=by (first|exact fK.mk1 (bY rfl (.inr (.inr ⟨_,(ao _),rfl,rfl⟩)))|exact fK.mk1 (qh rfl tbI rfl rfl (ltb rfl) (Cd.h _ _) (.inr (.inr ⟨_,(ao _),jf _ _,rfl⟩))))):fK tbl [q] tm hp r:=h
theorem rv2 {q q':ResultVar}{r:D}(h:fK tbl [q,q'] tm hp r:=by (first|exact fK.mk2 (bY rfl (bY rfl (.inr ⟨_,_,(ao _),(ao _),⟨rfl,rfl⟩,rfl⟩)))|exact fK.mk2 (qh rfl tbI rfl rfl (ltb rfl) (Cd.h _ _) (bY rfl (.inr ⟨_,_,(ao _),(ao _),⟨jf _ _,rfl⟩,rfl⟩)))|exact fK.mk2 (qh rfl tbI rfl rfl (ltb rfl) (Cd.h _ _) (qh rfl tbI rfl rfl (ltb rfl) (Cd.h _ _) (.inr ⟨_,_,(ao _),(ao _),⟨jf _ _,jf _ _⟩,rfl⟩))))):fK tbl [q,q'] tm hp r:=h
theorem pe0 {S:Type}{e:Exit}{T:S→List (Nat×D)}{H:S→Hp}{y:S}{vars':List (Nat×List D)}{pJ:List (Nat×Nat×Nat×TypeId)}{m:Nat}{tm':List (Nat×D)}(h0:x.hp0=⟨[],[],0⟩)(os:List Nat)(hT:T y=tm':=by exact rfl)(hH:H y=⟨vars',pJ,m⟩:=by exact rfl)(ht:wkT (sg 0 os) m tm tm':=by repeat (first|exact wTn|refine wR rfl ?_|refine wG rfl (ao _) ?_))(hv:wkV (sg 0 os) m hp.vars vars':=by repeat (first|exact wVn|refine vC rfl ?_|refine vR rfl ?_))(hl:wkL (sg 0 os) m hp.live pJ:=by repeat (first|exact wLn|refine wL rfl rfl ?_))(wb:os.Nodup:=by decide)(hm:m=0+os.length:=by exact rfl):PE x e T H y e tm hp:=PE.i (by rw[hT,hH];exact wk h0 os ht hv hl wb hm)
theorem rs {n id:Nat}{l:List Oper}{b:Code}(hx:x.N=n)(h:∀K:List (Nat×D)→Hp→Prop,(∀tm hp,AW prog x b tm hp Q→K tm hp)→bC prog tbl .seq l.toArray K l tm hp)(hN:jC n l.toArray=true:=by kernel_rfl):AW prog x (.seq (.region id l.toArray false) b) tm hp Q:=AW.seq (rg hx hN fun K hK=>h K hK)
theorem rsd {n id:Nat}{l:List Oper}{b:Code}(L:List FuncId)(hx:x.N=n)(h:∀K:List (Nat×D)→Hp→Prop,(∀tm hp,AW prog x b tm hp Q→K tm hp)→bC prog tbl (.any L) l.toArray K l tm hp)(hN:jC n l.toArray=true:=by kernel_rfl)(pz:uP tbl L l.toArray=true:=by kernel_rfl):AW prog x (.seq (.region id l.toArray true) b) tm hp Q:=AW.seq (rd L hx hN pz fun K hK=>h K hK)
theorem ra {n id:Nat}{l:List Oper}{b:Code}{tm':List (Nat×D)}(hx:x.N=n)(h2:AW prog x b tm' hp' Q)(h:∀K:List (Nat×D)→Hp→Prop,K tm' hp'→bC prog tbl .seq l.toArray K l tm hp:=by (intro K hK;(repeat (refine sa ?_));exact .nil hK))(hN:jC n l.toArray=true:=by kernel_rfl):AW prog x (.seq (.region id l.toArray false) b) tm hp Q:=rs hx (fun K hK=>h K (hK _ _ h2)) hN
theorem rb {n id:Nat}{l:List Oper}{tm':List (Nat×D)}(hx:x.N=n)(h2:Q .normal tm' hp')(h:∀K:List (Nat×D)→Hp→Prop,K tm' hp'→bC prog tbl .seq l.toArray K l tm hp:=by (intro K hK;(repeat (refine sa ?_));exact .nil hK))(hN:jC n l.toArray=true:=by kernel_rfl):AW prog x (.region id l.toArray false) tm hp Q:=rq hx (fun K hK=>h K (hK _ _ h2)) hN
theorem cdh {R:Type}{y z:Option R}{r:R}{c:Operand}{c1 c2:Code}{b:Bool}(h:cnd b y z=some r)(hc:evD tm c=.e (.lit (.bool b)))(ht:b=true→y=some r→AW prog x c1 tm hp Q)(hf:b=false→z=some r→AW prog x c2 tm hp Q):AW prog x (.cond c c1 c2) tm hp Q:=AW.condS hc (fun hb=>ht hb (a3 hb h)) fun hb=>hf hb (a4 hb h)
theorem scb {R S:Type}{g:Option S}{k:S→Option R}{z:R}{x:Operand}{f:FuncId}{la:List Operand}{ts:Array TypeId}{ds:List D}{dr:S→D}(h:bnd g k=some z)(w:∀{y:S},g=some y→aB prog f ds (dr y))(h2:∀y,k y=some z→bC prog tbl md ops K os ((t,dr y)::tm) hp)(vy:evD tm x=.e (.lit (.func (.func f) #[] #[])):=by exact rfl)(hp1:((la.map (evD tm)).map D.ex).all D.pure=true:=by repeat (first|exact pn|refine pA (bn _ _) ?_|refine pA rfl ?_))(hl:leL ((la.map (evD tm)).map D.ex) ds:=by repeat (first|exact lAn|refine lC (eK _ _) ?_|refine lC (ao _) ?_))(hr:∀y,(dr y).pure=true∨∃ds,dr y=.tu ds:=by (intro y;first|exact .inl (jf _ _)|exact .inl rfl|exact .inr ⟨_,rfl⟩))(hn:md.nc tbl (.call ⟨.value x,la.toArray,ts⟩)=true:=by exact rfl):
  bC prog tbl md ops K (⟨some t,.call ⟨.value x,la.toArray,ts⟩,ty,pos,af,none⟩::os) tm hp:=by
 obtain⟨y,h3,h4⟩:=ah h
 exact st tok hn (dP vy (w h3) hp1 hl (hr y)) (h2 y h4)
theorem cqb {R S:Type}{g:Option S}{k:S→Option R}{z:R}{f:FuncId}{la:List Operand}{ts:Array TypeId}{ds:List D}{dr:S→D}(h:bnd g k=some z)(w:∀{y:S},g=some y→aB prog f ds (dr y))(h2:∀y,k y=some z→bC prog tbl md ops K os ((t,dr y)::tm) hp)(hp1:((la.map (evD tm)).map D.ex).all D.pure=true:=by repeat (first|exact pn|refine pA (bn _ _) ?_|refine pA rfl ?_))(hl:leL ((la.map (evD tm)).map D.ex) ds:=by repeat (first|exact lAn|refine lC (eK _ _) ?_|refine lC (ao _) ?_))(hr:∀y,(dr y).pure=true∨∃ds,dr y=.tu ds:=by (intro y;first|exact .inl (jf _ _)|exact .inl rfl|exact .inr ⟨_,rfl⟩)):
  bC prog tbl md ops K (⟨some t,.call ⟨.value (.func f),la.toArray,ts⟩,ty,pos,af,none⟩::os) tm hp:=by
 obtain⟨y,h3,h4⟩:=ah h
 exact sq tok (w h3) hp1 hl (hr y) (h2 y h4)
theorem bL {f : FuncId} {fn : Func} {c : Code} {ds : List D} {r : D} {rs : List ResultVar} {tm0 : List (Nat × D)} (h : ∀ x : Cx, x.N = fn.ntmps → x.hp0 = ⟨[], [], 0⟩ → AW prog x c tm0 ⟨[], [], 0⟩ fun ex tm hp => match ex with | .normal | .ret => fK tbl rs tm hp r | _ => False) (hf : prog.funcs[f]? = some fn) (hb : fn.body = some c := by exact rfl) (rO : (fn.name == "runtime.NumGoroutine") = false := by exact rfl) (hN : Nat.ble ds.length fn.ntmps = true := by exact rfl) (hrs : fn.results.toList = rs := by exact rfl) (g8 : eg 0 ds = tm0 := by (simp only [eg, Nat.reduceAdd, bq]; rfl)) : aB prog f ds r := aB.of tok hf hb rO (bg hN) hrs (by rw [g8]; exact h)
end
end
abbrev al_cV:Cd (Vector Int 16):=cA 16 (cI .u32)
structure aq where
 vBad:Bool
 vNeg:Bool
 vW:Vector Int 16
 deriving Inhabited,DecidableEq
abbrev bx:aq:=⟨false,false,bU⟩
def ap:Cd aq:=⟨18,fun x=>[.lit (.bool x.vBad),.lit (.bool x.vNeg)]++al_cV.f x.vW,fun x=>by simp[al_cV.h,show al_cV.sz=16 from rfl]⟩
theorem iq(x:aq):an (ap.f x) cB 0 x.vBad (fun y=>ap.f (⟨y,x.vNeg,x.vW⟩:aq)):=
 an.of ([]) ((cB).f x.vNeg++(al_cV).f x.vW) (by first|rfl|(simp[al_cV.h,cB.h];first|rfl|done)) (by first|rfl|simp[ap,cI,cB,cS,cL,dW]) (fun y=>by first|rfl|simp[ap,cI,cB,cS,cL,dW])
theorem bw(x:aq):an (ap.f x) cB 1 x.vNeg (fun y=>ap.f (⟨x.vBad,y,x.vW⟩:aq)):=
 an.of ((cB).f x.vBad) ((al_cV).f x.vW) (by first|rfl|(simp[al_cV.h,cB.h];first|rfl|done)) (by first|rfl|simp[ap,cI,cB,cS,cL,dW]) (fun y=>by first|rfl|simp[ap,cI,cB,cS,cL,dW])
theorem aU(x:aq):an (ap.f x) al_cV 2 x.vW (fun y=>ap.f (⟨x.vBad,x.vNeg,y⟩:aq)):=
 an.of ((cB).f x.vBad++(cB).f x.vNeg) ([]) (by first|rfl|(simp[al_cV.h,cB.h];first|rfl|done)) (by first|rfl|simp[ap,cI,cB,cS,cL,dW]) (fun y=>by first|rfl|simp[ap,cI,cB,cS,cL,dW])
def kD(bj:aq):Option Bool:=bnd (some (decide (bj.vW=#v[(0:Int),0,0,0,0,0,0,0,0,0,0,0,0,0,0,0]))) fun x1=>cnd bj.vBad (bnd (S:=Bool) (cnd x1 (some (!bj.vNeg)) (some (false))) fun nh=>some nh) (bnd (S:=Bool) (cnd (!x1) (some (true)) (some (!bj.vNeg))) fun gZ=>some gZ)
theorem uJ {bj:aq}{r:Bool}(h:kD bj=some r):aB prog 129 [dG ap bj] (dB r):=by
 refine bL (rs:=[.tmp 2]) (fun cx hx h0=>?_) func129
 unfold kD at h
 refine ra hx ?_
 refine rs hx fun K hK=>?_
 refine sa ?_
 refine s1 (aF (aU bj) aE) ?_
 refine s1 (d:=dG al_cV (#v[(0:Int),0,0,0,0,0,0,0,0,0,0,0,0,0,0,0])) (lQ aE aH) ?_
 refine s1 (v3 tok 2 (by decide) (EqC.arr (EqC.int (d:=0) aH) aE aH) aE) ?_
 obtain⟨x1,yb,h⟩:=ah h
 replace yb:=co yb
 refine s2 (d2:=dB x1) li (fT (congrArg dB yb)) ?_
 refine .nil (hK _ _ (AW.seq (rs hx fun K hK=>?_)))
 refine sa ?_
 refine s1 (a8 (iq bj) gp) ?_
 refine .nil (hK _ _ (cdh h rfl (fun bm h=>?_) (fun bm h=>?_)))
 refine AW.seq ?_
 obtain⟨nh,hy,h⟩:=ah h
 refine jn ((PE cx .normal (fun nh=>[(2,dB nh)]) fun nh=>⟨[],[],0⟩) nh) ?_ ?_
 replace h:=hy
 refine rq hx fun K hK=>?_
 iterate 2 refine sa ?_
 rcases aZ x1 with mr|mr
 replace h:=a3 mr h
 refine ga mr ?_
 refine g1 mr (a8 (bw bj) gp) ?_
 refine ga mr ?_
 refine s1 (al mr) ?_
 refine sa ?_
 refine .nil (hK _ _ ?_)
 cases h
 exact pe0 h0 []
 replace h:=a4 mr h
 iterate 3 refine aI rfl rfl mr ?_
 refine s1 (au mr) ?_
 refine sa ?_
 refine .nil (hK _ _ ?_)
 cases h
 exact pe0 h0 []
 rintro ex tm' hp' ⟨rfl,hw⟩
 refine AW.weak hw (AW.ret ?_)
 cases h
 exact rv1
 refine AW.skip (AW.seq ?_)
 obtain⟨gZ,hy,h⟩:=ah h
 refine jn ((PE cx .normal (fun gZ=>[(2,dB gZ)]) fun gZ=>⟨[],[],0⟩) gZ) ?_ ?_
 replace h:=hy
 refine rq hx fun K hK=>?_
 iterate 3 refine sa ?_
 rcases aZ (!x1) with dy|dy
 replace h:=a3 dy h
 iterate 3 refine aI rfl rfl dy ?_
 refine s1 (al dy) ?_
 refine sa ?_
 refine .nil (hK _ _ ?_)
 cases h
 exact pe0 h0 []
 replace h:=a4 dy h
 refine ga dy ?_
 refine g1 dy (a8 (bw bj) gp) ?_
 refine ga dy ?_
 refine s1 (au dy) ?_
 refine sa ?_
 refine .nil (hK _ _ ?_)
 cases h
 exact pe0 h0 []
 rintro ex tm' hp' ⟨rfl,hw⟩
 refine AW.weak hw (AW.ret ?_)
 cases h
 exact rv1
def dY :Option aq:=some (⟨true,false,(bU)⟩:aq)
theorem gz  {r:aq}(h:dY=some r):aB prog 109 [] (dG ap r):=by
 refine bL (rs:=[.cell 0 32]) (fun cx hx h0=>?_) func109
 unfold dY at h
 refine rs hx fun K hK=>?_
 refine s1 (bo (F:=ap.f bx) az) ?_
 refine .nil (hK _ _ (rs hx fun K hK=>?_))
 refine s1 (d:=dG ap (⟨true,false,(bU)⟩:aq)) (jF (FL.cons (y:=true) (iq bx) rfl rfl (FL.nil _)) az) ?_
 refine s0 (aO (b':=(⟨true,false,(bU)⟩:aq)) (an.id _ _) az) ?_
 refine .nil (hK _ _ (AW.ret ?_))
 cases h
 exact rv1
def mI(eJ:List aq):Int→Option (Int⊕(Bool⊕Unit)):=fun aS=>cnd (decide (aS<((eJ).length:Int))) (gd (0≤aS∧aS<((eJ).length:Int)) (bnd (S:=Bool) (cnd (((eJ)[(aS).toNat]!).vBad) (some (true)) (bnd (kD ((eJ)[(aS).toNat]!)) fun x5=>some (!x5))) fun bh=>cnd bh (some (.inr (.inl false))) (some (.inl (i64.wrap (aS+(1:Int))))))) (some (.inr (.inr ())))
def cN(eJ:List aq):Option Bool:=bnd (a5 (mI eJ) (0:Int)) fun y9=>match y9 with| .inl r=>some r| .inr ()=>some true
theorem gl {eJ:List aq}{r:Bool}(h:cN eJ=some r):aB prog 110 [dL ap eJ] (dB r):=by
 refine bL (rs:=[.tmp 2]) (fun cx hx h0=>?_) func110
 unfold cN at h
 refine ra hx ?_
 refine AW.seq (ra hx ?_)
 refine AW.block ?_
 obtain⟨y,hy,h⟩:=ah h
 refine lp (S:=Int) (X:=Bool⊕Unit) (fun aS=>[(5,dL ap eJ),(6,dI .i64 ((eJ).length:Int)),(7,dI .i64 aS)]) (fun aS=>⟨[],[],0⟩) (PS (PR [.tmp 2] fun r=>dB r) (PE cx (.exit 0) (fun ()=>[]) fun ()=>⟨[],[],0⟩)) hy ?_ ?_ ?_
 exact wk h0 [] (wR rfl (wR rfl (wR rfl wTn))) wVn wLn
 clear hy h
 rintro aS y h
 dsimp only[mI] at h
 refine ra hx ?_
 refine AW.seq (cdh h rfl (fun cE h=>?_) (fun cE h=>?_))
 refine AW.skip (AW.seq (AW.block (rs hx fun K hK=>?_)))
 obtain⟨ni,h⟩:=aC h
 have pU:(aS).toNat<(eJ).length:=by omega
 refine s1 (fZ ni qg az) ?_
 refine s1 (d:=dG ap ((eJ)[(aS).toNat]!)) (pl (c:=ap) (l:=eJ) (n:=(aS).toNat) (o:=0) az pU (jM _ _ rfl)) ?_
 refine s1 (bo (F:=ap.f bx) az) ?_
 refine s0 (aO (b':=(eJ)[(aS).toNat]!) (an.id _ _) az) ?_
 refine .nil (hK _ _ (AW.seq ?_))
 obtain⟨bh,hy,h⟩:=ah h
 refine jn ((PE cx .normal (fun bh=>[(5,dL ap eJ),(6,dI .i64 ((eJ).length:Int)),(7,dI .i64 aS),(17,dB bh)]) fun bh=>⟨[],[],0⟩) bh) ?_ ?_
 replace h:=hy
 refine rq hx fun K hK=>?_
 refine sa ?_
 refine s1 (a8 (iq ((eJ)[(aS).toNat]!)) gp) ?_
 refine sa ?_
 rcases aZ (((eJ)[(aS).toNat]!).vBad) with mr|mr
 replace h:=a3 mr h
 iterate 3 refine aI rfl rfl mr ?_
 refine s1 (al mr) ?_
 refine .nil (hK _ _ ?_)
 cases h
 exact pe0 h0 []
 replace h:=a4 mr h
 refine g1 (d:=dG ap ((eJ)[(aS).toNat]!)) mr (aF (an.id _ _) az) ?_
 obtain⟨x5,Em,h⟩:=ah h
 refine g1 mr (dP rfl (uJ Em) (by simp only[cD,dT,jZ,gj,eh,eC];exact bn _ _) (lA (eK _ _) lAn) (.inl rfl)) ?_
 refine ga mr ?_
 refine s1 (au mr) ?_
 refine .nil (hK _ _ ?_)
 cases h
 exact pe0 h0 []
 rintro ex tm' hp' ⟨rfl,hw⟩
 refine AW.weak hw (cdh h rfl (fun oe h=>?_) (fun oe h=>?_))
 refine ra hx ?_
 refine AW.ret ?_
 cases h
 refine PS.r ⟨by nofun,PS.l (PR.i ?_)⟩
 exact rv1
 refine AW.skip (rb hx ?_)
 cases h
 exact PS.l (pe0 h0 [])
 refine AW.exit ?_
 try dsimp only
 try simp only[aM,reduceIte,Nat.reduceEqDiff,reduceCtorEq]
 cases h
 exact PS.r ⟨by nofun,PS.r (PE.i (wk h0 [] wTn wVn wLn))⟩
 rcases y with r|⟨⟩
 rintro ex tm' hp' ⟨rfl,hw⟩
 cases h
 exact hw
 rintro ex tm' hp' ⟨rfl,hw⟩
 try dsimp only
 try simp only[aM,reduceIte,Nat.reduceEqDiff,reduceCtorEq]
 refine AW.weak hw (ra hx ?_)
 refine AW.ret ?_
 cases h
 exact rv1
def bF(tH:Bool)(px:Vector Int 16):Option aq:=bnd (S:=aq) (cnd tH (bnd (some ((⟨false,decide (¬(px=#v[(0:Int),0,0,0,0,0,0,0,0,0,0,0,0,0,0,0])),px⟩:aq))) fun x2=>some (x2)) (some ((⟨false,false,px⟩:aq)))) fun j4=>some j4
theorem cT {tH:Bool}{px:Vector Int 16}{r:aq}(h:bF tH px=some r):aB prog 111 [dB tH,dG al_cV px] (dG ap r):=by
 refine bL (rs:=[.cell 4 32]) (fun cx hx h0=>?_) func111
 unfold bF at h
 refine rs hx fun K hK=>?_
 refine sa ?_
 refine s1 (bo (F:=ap.f bx) az) ?_
 refine .nil (hK _ _ (AW.seq ?_))
 obtain⟨j4,hy,h⟩:=ah h
 refine jn ((PE cx .normal (fun j4=>[(4,.pt 0 0)]) fun j4=>⟨[(0,dC (ap.f j4))],[],1⟩) j4) ?_ ?_
 replace h:=hy
 refine rqd [] hx fun K hK=>?_
 iterate 2 refine sa ?_
 rcases aZ tH with cE|cE
 replace h:=a3 cE h
 refine g1 (d:=dG al_cV px) cE (aF (an.id _ _) aE) ?_
 refine g1 (d:=dG al_cV (#v[(0:Int),0,0,0,0,0,0,0,0,0,0,0,0,0,0,0])) cE (lQ aE aH) ?_
 refine g1 cE (yM tok 2 (by decide) (EqC.arr (EqC.int (d:=0) aH) aE aH) aE) ?_
 refine s1 (al cE) ?_
 refine s1 (d:=dG al_cV px) (aF (an.id _ _) aE) ?_
 refine s1 (d:=dG ap (⟨false,decide (¬(px=#v[(0:Int),0,0,0,0,0,0,0,0,0,0,0,0,0,0,0])),px⟩:aq)) (jF (FL.cons (y:=decide (¬(px=#v[(0:Int),0,0,0,0,0,0,0,0,0,0,0,0,0,0,0]))) (bw bx) rfl rfl (FL.cons (y:=px) (aU (⟨false,decide (¬(px=#v[(0:Int),0,0,0,0,0,0,0,0,0,0,0,0,0,0,0])),(bU)⟩:aq)) rfl rfl (FL.nil _))) az) ?_
 obtain⟨x2,Nv,h⟩:=ah h
 replace Nv:=co Nv
 refine s0 (j6 (b':=(⟨false,decide (¬(px=#v[(0:Int),0,0,0,0,0,0,0,0,0,0,0,0,0,0,0])),px⟩:aq)) (an.id _ _) az Nv) ?_
 refine .nil (hK _ _ ?_)
 cases h
 exact pe0 h0 [1]
 replace h:=a4 cE h
 iterate 3 refine aI rfl rfl cE ?_
 refine s1 (au cE) ?_
 refine s1 (d:=dG al_cV px) (aF (an.id _ _) aE) ?_
 refine s1 (d:=dG ap (⟨false,false,px⟩:aq)) (jF (FL.cons (y:=false) (bw bx) rfl rfl (FL.cons (y:=px) (aU bx) rfl rfl (FL.nil _))) az) ?_
 refine s0 (aO (b':=(⟨false,false,px⟩:aq)) (an.id _ _) az) ?_
 refine .nil (hK _ _ ?_)
 cases h
 exact pe0 h0 [1]
 rintro ex tm' hp' ⟨rfl,hw⟩
 refine AW.weak hw (AW.ret ?_)
 cases h
 exact rv1
def eN(db:Int):Option aq:=bnd (S:=Int) (cnd (decide (db<(0:Int))) (some (u64.wrap (0 - (u64.wrap (db))))) (some (u64.wrap (db)))) fun kS=>bnd (bF (decide (db<(0:Int))) (#v[u32.wrap (kS),u32.wrap (lE .u64 kS (32:Int)),0,0,0,0,0,0,0,0,0,0,0,0,0,0])) fun x3=>some x3
theorem mL {db:Int}{r:aq}(h:eN db=some r):aB prog 105 [dI .i64 db] (dG ap r):=by
 refine bL (rs:=[.cell 2 32]) (fun cx hx h0=>?_) func105
 unfold eN at h
 refine rs hx fun K hK=>?_
 refine s1 (bo (F:=ap.f bx) az) ?_
 refine .nil (hK _ _ (ra hx ?_))
 refine AW.seq ?_
 obtain⟨kS,hy,h⟩:=ah h
 refine jn ((PE cx .normal (fun kS=>[(0,dI .i64 db),(2,.pt 0 0),(3,dI .u64 kS)]) fun kS=>⟨[(0,dC (ap.f bx))],[],1⟩) kS) ?_ ?_
 replace h:=hy
 refine ra hx ?_
 refine cdh h rfl (fun cE h=>?_) (fun cE h=>?_)
 refine rb hx ?_
 cases h
 exact pe0 h0 [0]
 refine AW.skip ?_
 cases h
 exact pe0 h0 [0]
 rintro ex tm' hp' ⟨rfl,hw⟩
 refine AW.weak hw (rs hx fun K hK=>?_)
 iterate 7 refine sa ?_
 refine s1 (d:=dG al_cV (#v[u32.wrap (kS),u32.wrap (lE .u64 kS (32:Int)),0,0,0,0,0,0,0,0,0,0,0,0,0,0])) (lQ aE aH) ?_
 refine scb h cT fun x3 h=>?_
 refine s0 (aO (b':=x3) (an.id _ _) az) ?_
 refine .nil (hK _ _ (AW.ret ?_))
 cases h
 exact rv1
def j9(px:Vector Int 16):Int→Option (Int⊕Int):=fun aS=>bnd (S:=Bool) (cnd (decide ((0:Int)<aS)) (gd (0≤i64.wrap (aS - (1:Int))∧i64.wrap (aS - (1:Int))<16) (some (decide (((px)[(i64.wrap (aS - (1:Int))).toNat]!)=(0:Int))))) (some (false))) fun nh=>cnd nh (some (.inl (i64.wrap (aS - (1:Int))))) (some (.inr aS))
def eu(px:Vector Int 16):Option Int:=bnd (a5 (j9 px) (16:Int)) fun nX=>some nX
theorem jN {px:Vector Int 16}{r:Int}(h:eu px=some r):aB prog 128 [dG al_cV px] (dI .i64 r):=by
 refine bL (rs:=[.tmp 2]) (fun cx hx h0=>?_) func128
 unfold eu at h
 iterate 2 refine ra hx ?_
 refine AW.seq (AW.block ?_)
 obtain⟨nX,hy,h⟩:=ah h
 refine lp (S:=Int) (X:=Int) (fun aS=>[(1,.pt 0 0),(3,dI .i64 aS)]) (fun aS=>⟨[(0,dC (al_cV.f px))],[],1⟩) (PE cx (.exit 0) (fun nX=>[(3,dI .i64 nX)]) fun nX=>⟨[],[],0⟩) hy ?_ ?_ ?_
 exact wk h0 [0] (wR rfl (wR rfl wTn)) (vC rfl wVn) wLn
 clear hy h
 rintro aS y h
 dsimp only[j9] at h
 iterate 2 refine AW.seq ?_
 obtain⟨nh,hy,h⟩:=ah h
 refine jn ((PE cx .normal (fun nh=>[(1,.pt 0 0),(3,dI .i64 aS),(12,dB nh)]) fun nh=>⟨[(0,dC (al_cV.f px))],[],1⟩) nh) ?_ ?_
 replace h:=hy
 refine rq hx fun K hK=>?_
 iterate 3 refine sa ?_
 rcases aZ (decide ((0:Int)<aS)) with cE|cE
 replace h:=a3 cE h
 iterate 2 refine ga cE ?_
 obtain⟨ni,h⟩:=aC h
 have pU:(i64.wrap (aS - (1:Int))).toNat<16:=by omega
 refine g1 cE (cl ni aE aH) ?_
 refine g1 cE (a8 (an.comp (an.id _ _) (an.vec (cI .u32) px (i64.wrap (aS - (1:Int))).toNat pU) (fun _=>rfl)) aH) ?_
 refine ga cE ?_
 refine s1 (al cE) ?_
 refine .nil (hK _ _ ?_)
 cases h
 exact pe0 h0 [0]
 replace h:=a4 cE h
 iterate 5 refine aI rfl rfl cE ?_
 refine s1 (au cE) ?_
 refine .nil (hK _ _ ?_)
 cases h
 exact pe0 h0 [0]
 rintro ex tm' hp' ⟨rfl,hw⟩
 refine AW.weak hw (cdh h rfl (fun nE h=>?_) (fun nE h=>?_))
 refine AW.skip (AW.block (rb hx ?_))
 cases h
 exact PS.l (pe0 h0 [0])
 refine AW.exit ?_
 try dsimp only
 try simp only[aM,reduceIte,Nat.reduceEqDiff,reduceCtorEq]
 cases h
 exact PS.r ⟨by nofun,PE.i (wk h0 [] (wR rfl wTn) wVn wLn)⟩
 rintro ex tm' hp' ⟨rfl,hw⟩
 try dsimp only
 try simp only[aM,reduceIte,Nat.reduceEqDiff,reduceCtorEq]
 refine AW.weak hw (ra hx ?_)
 refine AW.ret ?_
 cases h
 exact rv1
def lZ(bj:Int):Option Int:=bnd (S:=Int×Int) (cnd (decide ((65536:Int)≤bj)) (some ((lE .u32 bj (16:Int),(16:Int)))) (some ((bj,(0:Int))))) fun (j4,Ff)=>bnd (S:=Int×Int) (cnd (decide ((256:Int)≤j4)) (some ((lE .u32 j4 (8:Int),i64.wrap (Ff+(8:Int))))) (some ((j4,Ff)))) fun (kA,BT)=>gd (0≤u8.wrap (kA)∧u8.wrap (kA)<((⟨#[0,1,2,2,3,3,3,3,4,4,4,4,4,4,4,4,5,5,5,5,5,5,5,5,5,5,5,5,5,5,5,5,6,6,6,6,6,6,6,6,6,6,6,6,6,6,6,6,6,6,6,6,6,6,6,6,6,6,6,6,6,6,6,6,7,7,7,7,7,7,7,7,7,7,7,7,7,7,7,7,7,7,7,7,7,7,7,7,7,7,7,7,7,7,7,7,7,7,7,7,7,7,7,7,7,7,7,7,7,7,7,7,7,7,7,7,7,7,7,7,7,7,7,7,7,7,7,7,8,8,8,8,8,8,8,8,8,8,8,8,8,8,8,8,8,8,8,8,8,8,8,8,8,8,8,8,8,8,8,8,8,8,8,8,8,8,8,8,8,8,8,8,8,8,8,8,8,8,8,8,8,8,8,8,8,8,8,8,8,8,8,8,8,8,8,8,8,8,8,8,8,8,8,8,8,8,8,8,8,8,8,8,8,8,8,8,8,8,8,8,8,8,8,8,8,8,8,8,8,8,8,8,8,8,8,8,8,8,8,8,8,8,8,8,8,8,8,8,8,8,8,8,8,8,8,8]⟩:ByteArray).size:Int)) (bnd (some (i64.wrap (BT+(i64.wrap (sAt (⟨#[0,1,2,2,3,3,3,3,4,4,4,4,4,4,4,4,5,5,5,5,5,5,5,5,5,5,5,5,5,5,5,5,6,6,6,6,6,6,6,6,6,6,6,6,6,6,6,6,6,6,6,6,6,6,6,6,6,6,6,6,6,6,6,6,7,7,7,7,7,7,7,7,7,7,7,7,7,7,7,7,7,7,7,7,7,7,7,7,7,7,7,7,7,7,7,7,7,7,7,7,7,7,7,7,7,7,7,7,7,7,7,7,7,7,7,7,7,7,7,7,7,7,7,7,7,7,7,7,8,8,8,8,8,8,8,8,8,8,8,8,8,8,8,8,8,8,8,8,8,8,8,8,8,8,8,8,8,8,8,8,8,8,8,8,8,8,8,8,8,8,8,8,8,8,8,8,8,8,8,8,8,8,8,8,8,8,8,8,8,8,8,8,8,8,8,8,8,8,8,8,8,8,8,8,8,8,8,8,8,8,8,8,8,8,8,8,8,8,8,8,8,8,8,8,8,8,8,8,8,8,8,8,8,8,8,8,8,8,8,8,8,8,8,8,8,8,8,8,8,8,8,8,8,8,8,8]⟩:ByteArray) (u8.wrap (kA)).toNat))))) fun x6=>some x6)
theorem wn {bj:Int}{r:Int}(h:lZ bj=some r):aB prog 179 [dI .u32 bj] (dI .i64 r):=by
 refine bL (rs:=[.tmp 2]) (fun cx hx h0=>?_) func179
 unfold lZ at h
 refine ra hx ?_
 refine AW.seq ?_
 obtain⟨y,hy,h⟩:=ah h
 refine jn ((PE cx .normal (fun (j4,Ff)=>[(0,dI .u32 j4),(2,dI .i64 Ff)]) fun (j4,Ff)=>⟨[],[],0⟩) y) ?_ ?_
 replace h:=hy
 refine ra hx ?_
 refine cdh h rfl (fun cE h=>?_) (fun cE h=>?_)
 refine ra hx ?_
 refine rb hx ?_
 cases h
 exact pe0 h0 []
 refine AW.skip ?_
 cases h
 exact pe0 h0 []
 obtain⟨j4,Ff⟩:=y
 rintro ex tm' hp' ⟨rfl,hw⟩
 refine AW.weak hw (AW.seq ?_)
 obtain⟨y,hy,h⟩:=ah h
 refine jn ((PE cx .normal (fun (kA,BT)=>[(0,dI .u32 kA),(2,dI .i64 BT)]) fun (kA,BT)=>⟨[],[],0⟩) y) ?_ ?_
 replace h:=hy
 refine ra hx ?_
 refine cdh h rfl (fun bm h=>?_) (fun bm h=>?_)
 refine ra hx ?_
 refine rb hx ?_
 cases h
 exact pe0 h0 []
 refine AW.skip ?_
 cases h
 exact pe0 h0 []
 obtain⟨kA,BT⟩:=y
 rintro ex tm' hp' ⟨rfl,hw⟩
 refine AW.weak hw (rs hx fun K hK=>?_)
 iterate 3 refine sa ?_
 obtain⟨CG,h⟩:=aC h
 refine s1 (T_ixS CG tb_9) ?_
 iterate 2 refine sa ?_
 obtain⟨x6,te,h⟩:=ah h
 replace te:=co te
 refine s2 (d2:=dI .i64 x6) li (fT (congrArg (dI .i64) te)) ?_
 refine .nil (hK _ _ (AW.ret ?_))
 cases h
 exact rv1
def nI(bj:aq):Option Int:=bnd (eu bj.vW) fun x1=>bnd (S:=Bool) (bnd (cN [bj]) fun x3=>cnd (!x3) (some (true)) (some (decide (x1=(0:Int))))) fun aS=>cnd aS (some (0:Int)) (gd (0≤i64.wrap (x1 - (1:Int))∧i64.wrap (x1 - (1:Int))<16) (bnd (lZ ((bj.vW)[(i64.wrap (x1 - (1:Int))).toNat]!)) fun nl=>some (i64.wrap ((i64.wrap ((32:Int)*(i64.wrap (x1 - (1:Int)))))+nl))))
theorem DM {bj:aq}{r:Int}(h:nI bj=some r):aB prog 180 [dG ap bj] (dI .i64 r):=by
 refine bL (rs:=[.tmp 2]) (fun cx hx h0=>?_) func180
 unfold nI at h
 refine ra hx ?_
 refine rs hx fun K hK=>?_
 refine sa ?_
 refine s1 (aF (aU bj) aE) ?_
 refine scb h jN fun x1 h=>?_
 refine sa ?_
 refine .nil (hK _ _ ?_)
 iterate 2 refine AW.seq ?_
 obtain⟨aS,hy,h⟩:=ah h
 refine jn ((PE cx .normal (fun aS=>[(1,.pt 0 0),(3,dI .i64 x1),(14,dB aS)]) fun aS=>⟨[(0,dC (ap.f bj))],[],1⟩) aS) ?_ ?_
 replace h:=hy
 refine rq hx fun K hK=>?_
 refine s1 (d:=dG ap bj) (aF (an.id _ _) az) ?_
 refine s1 (qG ([bj]:List aq) ap qg az) ?_
 refine scb h gl fun x3 h=>?_
 iterate 2 refine sa ?_
 rcases aZ (!x3) with nE|nE
 replace h:=a3 nE h
 iterate 2 refine aI rfl rfl nE ?_
 refine s1 (al nE) ?_
 refine .nil (hK _ _ ?_)
 cases h
 exact pe0 h0 [0]
 replace h:=a4 nE h
 iterate 2 refine ga nE ?_
 refine s1 (au nE) ?_
 refine .nil (hK _ _ ?_)
 cases h
 exact pe0 h0 [0]
 rintro ex tm' hp' ⟨rfl,hw⟩
 refine AW.weak hw (cdh h rfl (fun tg h=>?_) (fun tg h=>?_))
 refine ra hx ?_
 refine AW.ret ?_
 cases h
 exact rv1
 refine AW.skip (rs hx fun K hK=>?_)
 iterate 6 refine sa ?_
 obtain⟨Iz,h⟩:=aC h
 have Ir:(i64.wrap (x1 - (1:Int))).toNat<16:=by omega
 refine s1 (cl Iz aE aH) ?_
 refine s1 (a8 (an.comp (aU bj) (an.vec (cI .u32) bj.vW (i64.wrap (x1 - (1:Int))).toNat Ir) (fun _=>rfl)) aH) ?_
 refine scb h wn fun nl h=>?_
 iterate 2 refine sa ?_
 refine .nil (hK _ _ (AW.ret ?_))
 cases h
 exact rv1
def kE(bj:aq):Option (Int×Bool):=bnd (S:=Bool) (bnd (cN [bj]) fun x1=>cnd (!x1) (some (true)) (bnd (nI bj) fun x4=>some (decide ((64:Int)<x4)))) fun bB=>cnd bB (some ((0:Int),false)) (bnd (some (ior .u64 (vt .u64 (u64.wrap ((bj.vW)[((1:Int)).toNat]!)) (32:Int)) (u64.wrap ((bj.vW)[((0:Int)).toNat]!)))) fun nl=>bnd (S:=Bool) (cnd bj.vNeg (some (decide (nl≤(9223372036854775808:Int)))) (some (false))) fun DH=>cnd DH (some (i64.wrap (u64.wrap (0 - nl)),true)) (bnd (S:=Bool) (cnd (!bj.vNeg) (some (decide (nl<(9223372036854775808:Int)))) (some (false))) fun gH=>cnd gH (some (i64.wrap (nl),true)) (some ((0:Int),false))))
theorem uK {bj:aq}{r:Int×Bool}(h:kE bj=some r):aB prog 176 [dG ap bj] (.tu [dI .i64 r.1,dB r.2]):=by
 refine bL (rs:=[.tmp 2,.tmp 3]) (fun cx hx h0=>?_) func176
 unfold kE at h
 refine ra hx ?_
 iterate 2 refine AW.seq ?_
 obtain⟨bB,hy,h⟩:=ah h
 refine jn ((PE cx .normal (fun bB=>[(1,.pt 0 0),(13,dB bB)]) fun bB=>⟨[(0,dC (ap.f bj))],[],1⟩) bB) ?_ ?_
 replace h:=hy
 refine rq hx fun K hK=>?_
 refine s1 (d:=dG ap bj) (aF (an.id _ _) az) ?_
 refine s1 (qG ([bj]:List aq) ap qg az) ?_
 refine scb h gl fun x1 h=>?_
 iterate 2 refine sa ?_
 rcases aZ (!x1) with bm|bm
 replace h:=a3 bm h
 iterate 3 refine aI rfl rfl bm ?_
 refine s1 (al bm) ?_
 refine .nil (hK _ _ ?_)
 cases h
 exact pe0 h0 [0]
 replace h:=a4 bm h
 refine g1 (d:=dG ap bj) bm (aF (an.id _ _) az) ?_
 obtain⟨x4,vu,h⟩:=ah h
 refine g1 bm (dP rfl (DM vu) (by simp only[cD,dT,jZ,gj,eh,eC];exact bn _ _) (lA (eK _ _) lAn) (.inl rfl)) ?_
 refine ga bm ?_
 refine s1 (au bm) ?_
 refine .nil (hK _ _ ?_)
 cases h
 exact pe0 h0 [0]
 rintro ex tm' hp' ⟨rfl,hw⟩
 refine AW.weak hw (cdh h rfl (fun tg h=>?_) (fun tg h=>?_))
 refine ra hx ?_
 refine AW.ret ?_
 cases h
 exact rv2
 refine AW.skip (rs hx fun K hK=>?_)
 refine sa ?_
 have NQ:((1:Int)).toNat<16:=by omega
 refine s1 (cl (by decide:0≤(1:Int)∧(1:Int)<((16:Nat):Int)) aE aH) ?_
 refine s1 (a8 (an.comp (aU bj) (an.vec (cI .u32) bj.vW ((1:Int)).toNat NQ) (fun _=>rfl)) aH) ?_
 iterate 3 refine sa ?_
 have Ir:((0:Int)).toNat<16:=by omega
 refine s1 (cl (by decide:0≤(0:Int)∧(0:Int)<((16:Nat):Int)) aE aH) ?_
 refine s1 (a8 (an.comp (aU bj) (an.vec (cI .u32) bj.vW ((0:Int)).toNat Ir) (fun _=>rfl)) aH) ?_
 iterate 2 refine sa ?_
 obtain⟨nl,wK,h⟩:=ah h
 replace wK:=co wK
 refine s2 (d2:=dI .u64 nl) li (fT (congrArg (dI .u64) wK)) ?_
 refine .nil (hK _ _ (AW.seq (AW.block (AW.seq ?_))))
 obtain⟨DH,hy,h⟩:=ah h
 refine jn ((PE cx .normal (fun DH=>[(1,.pt 0 0),(4,dI .u64 nl),(24,dB DH)]) fun DH=>⟨[(0,dC (ap.f bj))],[],1⟩) DH) ?_ ?_
 replace h:=hy
 refine rq hx fun K hK=>?_
 refine sa ?_
 refine s1 (a8 (bw bj) gp) ?_
 refine sa ?_
 rcases aZ bj.vNeg with tL|tL
 replace h:=a3 tL h
 iterate 2 refine ga tL ?_
 refine s1 (al tL) ?_
 refine sa ?_
 refine .nil (hK _ _ ?_)
 cases h
 exact pe0 h0 [0]
 replace h:=a4 tL h
 iterate 2 refine aI rfl rfl tL ?_
 refine s1 (au tL) ?_
 refine sa ?_
 refine .nil (hK _ _ ?_)
 cases h
 exact pe0 h0 [0]
 rintro ex tm' hp' ⟨rfl,hw⟩
 refine AW.weak hw (cdh h rfl (fun nF h=>?_) (fun nF h=>?_))
 refine ra hx ?_
 refine AW.ret ?_
 cases h
 exact rv2
 refine AW.seq ?_
 obtain⟨gH,hy,h⟩:=ah h
 refine jn ((PE cx .normal (fun gH=>[(4,dI .u64 nl),(34,dB gH)]) fun gH=>⟨[],[],0⟩) gH) ?_ ?_
 replace h:=hy
 refine rq hx fun K hK=>?_
 refine sa ?_
 refine s1 (a8 (bw bj) gp) ?_
 iterate 2 refine sa ?_
 rcases aZ (!bj.vNeg) with A6|A6
 replace h:=a3 A6 h
 iterate 2 refine ga A6 ?_
 refine s1 (al A6) ?_
 refine sa ?_
 refine .nil (hK _ _ ?_)
 cases h
 exact pe0 h0 []
 replace h:=a4 A6 h
 iterate 2 refine aI rfl rfl A6 ?_
 refine s1 (au A6) ?_
 refine sa ?_
 refine .nil (hK _ _ ?_)
 cases h
 exact pe0 h0 []
 rintro ex tm' hp' ⟨rfl,hw⟩
 refine AW.weak hw (cdh h rfl (fun yj h=>?_) (fun yj h=>?_))
 refine ra hx ?_
 refine AW.ret ?_
 cases h
 exact rv2
 refine AW.skip (ra hx ?_)
 refine AW.ret ?_
 cases h
 exact rv2
def fH(bj:Int):Option Bool:=some (decide (bj≠bj))
theorem qe {bj:Int}{r:Bool}(h:fH bj=some r):aB prog 181 [dI .u32 bj] (dB r):=by
 refine bL (rs:=[.tmp 2]) (fun cx hx h0=>?_) func181
 unfold fH at h
 iterate 2 refine ra hx ?_
 refine AW.ret ?_
 cases h
 exact rv1
def fP(bj:Int)(n0:Int):Option Int:=bnd (fH bj) fun x1=>bnd (fH n0) fun x3=>cnd x1 (cnd x3 (some (0:Int)) (some (-1:Int))) (cnd x3 (some (1:Int)) (cnd (decide (bj<n0)) (some (-1:Int)) (cnd (decide (n0<bj)) (some (1:Int)) (some (0:Int)))))
theorem tB {bj:Int}{n0:Int}{r:Int}(h:fP bj n0=some r):aB prog 178 [dI .u32 bj,dI .u32 n0] (dI .i64 r):=by
 refine bL (rs:=[.tmp 4]) (fun cx hx h0=>?_) func178
 unfold fP at h
 refine ra hx ?_
 refine rs hx fun K hK=>?_
 refine sa ?_
 refine scb h qe fun x1 h=>?_
 refine sa ?_
 refine .nil (hK _ _ (rs hx fun K hK=>?_))
 refine sa ?_
 refine scb h qe fun x3 h=>?_
 refine sa ?_
 refine .nil (hK _ _ (AW.seq (ra hx ?_)))
 refine cdh h rfl (fun nE h=>?_) (fun nE h=>?_)
 refine AW.seq (ra hx ?_)
 refine cdh h rfl (fun dy h=>?_) (fun dy h=>?_)
 refine ra hx ?_
 refine AW.ret ?_
 cases h
 exact rv1
 refine AW.skip (ra hx ?_)
 refine AW.ret ?_
 cases h
 exact rv1
 refine AW.skip (AW.seq (ra hx ?_))
 refine cdh h rfl (fun tg h=>?_) (fun tg h=>?_)
 refine ra hx ?_
 refine AW.ret ?_
 cases h
 exact rv1
 refine AW.skip (AW.seq (ra hx ?_))
 refine cdh h rfl (fun oe h=>?_) (fun oe h=>?_)
 refine ra hx ?_
 refine AW.ret ?_
 cases h
 exact rv1
 refine AW.skip (AW.seq (ra hx ?_))
 refine cdh h rfl (fun wP h=>?_) (fun wP h=>?_)
 refine ra hx ?_
 refine AW.ret ?_
 cases h
 exact rv1
 refine AW.skip (ra hx ?_)
 refine AW.ret ?_
 cases h
 exact rv1
def jl(aY:Vector Int 16)(a9:Vector Int 16):Int→Option (Int⊕(Int⊕Unit)):=fun aS=>cnd (decide ((0:Int)≤aS)) (gd (0≤aS∧aS<16) (gd (0≤aS∧aS<16) (cnd (decide (((aY)[(aS).toNat]!)≠((a9)[(aS).toNat]!))) (gd (0≤aS∧aS<16) (gd (0≤aS∧aS<16) (bnd (fP ((aY)[(aS).toNat]!) ((a9)[(aS).toNat]!)) fun s8=>some (.inr (.inl s8))))) (some (.inl (i64.wrap (aS - (1:Int)))))))) (some (.inr (.inr ())))
def kC(aY:Vector Int 16)(a9:Vector Int 16):Option Int:=bnd (a5 (jl aY a9) (15:Int)) fun y13=>match y13 with| .inl r=>some r| .inr ()=>some (0:Int)
theorem uI {aY:Vector Int 16}{a9:Vector Int 16}{r:Int}(h:kC aY a9=some r):aB prog 161 [dG al_cV aY,dG al_cV a9] (dI .i64 r):=by
 refine bL (rs:=[.tmp 4]) (fun cx hx h0=>?_) func161
 unfold kC at h
 refine ra hx ?_
 refine AW.seq (ra hx ?_)
 refine AW.block ?_
 obtain⟨y,hy,h⟩:=ah h
 refine lp (S:=Int) (X:=Int⊕Unit) (fun aS=>[(2,.pt 0 0),(3,.pt 1 0),(5,dI .i64 aS)]) (fun aS=>⟨[(0,dC (al_cV.f aY)),(1,dC (al_cV.f a9))],[],2⟩) (PS (PR [.tmp 4] fun r=>dI .i64 r) (PE cx (.exit 0) (fun ()=>[]) fun ()=>⟨[],[],0⟩)) hy ?_ ?_ ?_
 exact wk h0 [0,1] (wR rfl (wR rfl (wR rfl wTn))) (vC rfl (vC rfl wVn)) wLn
 clear hy h
 rintro aS y h
 dsimp only[jl] at h
 refine AW.seq (ra hx ?_)
 refine cdh h rfl (fun cE h=>?_) (fun cE h=>?_)
 refine AW.skip (AW.seq (AW.block (rsd [] hx fun K hK=>?_)))
 refine sa ?_
 obtain⟨ni,h⟩:=aC h
 have pU:(aS).toNat<16:=by omega
 refine s1 (cl ni aE aH) ?_
 refine s1 (a8 (an.comp (an.id _ _) (an.vec (cI .u32) aY (aS).toNat pU) (fun _=>rfl)) aH) ?_
 refine sa ?_
 obtain⟨Fy,h⟩:=aC h
 have NR:(aS).toNat<16:=by omega
 refine s1 (cl Fy aE aH) ?_
 refine s1 (a8 (an.comp (an.id _ _) (an.vec (cI .u32) a9 (aS).toNat NR) (fun _=>rfl)) aH) ?_
 refine sa ?_
 refine .nil (hK _ _ (cdh h rfl (fun dy h=>?_) (fun dy h=>?_)))
 refine rsd [178] hx fun K hK=>?_
 refine sa ?_
 obtain⟨Oe,h⟩:=aC h
 have NQ:(aS).toNat<16:=by omega
 refine s1 (cl Oe aE aH) ?_
 refine s1 (a8 (an.comp (an.id _ _) (an.vec (cI .u32) aY (aS).toNat NQ) (fun _=>rfl)) aH) ?_
 refine sa ?_
 obtain⟨hc9,h⟩:=aC h
 have hn10:(aS).toNat<16:=by omega
 refine s1 (cl hc9 aE aH) ?_
 refine s1 (a8 (an.comp (an.id _ _) (an.vec (cI .u32) a9 (aS).toNat hn10) (fun _=>rfl)) aH) ?_
 refine cqb h tB fun s8 h=>?_
 refine sa ?_
 refine .nil (hK _ _ (AW.ret ?_))
 cases h
 refine PS.r ⟨by nofun,PS.l (PR.i ?_)⟩
 exact rv1
 refine AW.skip (rb hx ?_)
 cases h
 exact PS.l (pe0 h0 [0,1])
 refine AW.exit ?_
 try dsimp only
 try simp only[aM,reduceIte,Nat.reduceEqDiff,reduceCtorEq]
 cases h
 exact PS.r ⟨by nofun,PS.r (PE.i (wk h0 [] wTn wVn wLn))⟩
 rcases y with r|⟨⟩
 rintro ex tm' hp' ⟨rfl,hw⟩
 cases h
 exact hw
 rintro ex tm' hp' ⟨rfl,hw⟩
 try dsimp only
 try simp only[aM,reduceIte,Nat.reduceEqDiff,reduceCtorEq]
 refine AW.weak hw (ra hx ?_)
 refine AW.ret ?_
 cases h
 exact rv1
def jj(aY:Vector Int 16)(a9:Vector Int 16):Int×Int×(Vector Int 16)→Option ((Int×Int×(Vector Int 16))⊕(Int×(Vector Int 16))):=fun (cR,bp,dE)=>cnd (decide (bp<(16:Int))) (gd (0≤bp∧bp<16) (gd (0≤bp∧bp<16) (bnd (some (u64.wrap (cR+(u64.wrap ((u64.wrap ((aY)[(bp).toNat]!))+(u64.wrap ((a9)[(bp).toNat]!))))))) fun x6=>gd (0≤bp∧bp<16) (some (.inl (lE .u64 x6 (32:Int),i64.wrap (bp+(1:Int)),(dE).set! (bp).toNat (u32.wrap (x6)))))))) (some (.inr (cR,dE)))
def nG(aY:Vector Int 16)(a9:Vector Int 16):Option ((Vector Int 16)×Bool):=bnd (a5 (jj aY a9) ((0:Int),(0:Int),(bU))) fun (b8,j5)=>some (j5,decide (b8=(0:Int)))
theorem DK {aY:Vector Int 16}{a9:Vector Int 16}{r:(Vector Int 16)×Bool}(h:nG aY a9=some r):aB prog 160 [dG al_cV aY,dG al_cV a9] (.tu [dG al_cV r.1,dB r.2]):=by
 refine bL (rs:=[.cell 4 30,.tmp 5]) (fun cx hx h0=>?_) func160
 unfold nG at h
 refine rs hx fun K hK=>?_
 iterate 2 refine sa ?_
 refine s1 (bo (F:=al_cV.f (bU)) aE) ?_
 refine sa ?_
 refine .nil (hK _ _ (rs hx fun K hK=>?_))
 refine s1 (bo (F:=al_cV.f (bU)) aE) ?_
 refine .nil (hK _ _ (ra hx ?_))
 refine AW.seq (ra hx ?_)
 refine AW.block ?_
 obtain⟨y,hy,h⟩:=ah h
 refine lp (S:=Int×Int×(Vector Int 16)) (X:=Int×(Vector Int 16)) (fun (cR,bp,dE)=>[(2,.pt 0 0),(3,.pt 1 0),(4,.pt 2 0),(6,.pt 3 0),(7,dI .u64 cR),(9,dI .i64 bp)]) (fun (cR,bp,dE)=>⟨[(0,dC (al_cV.f aY)),(1,dC (al_cV.f a9)),(2,dC (al_cV.f (bU))),(3,dC (al_cV.f dE))],[],4⟩) (PE cx (.exit 0) (fun (b8,j5)=>[(4,.pt 0 0),(6,.pt 1 0),(7,dI .u64 b8)]) fun (b8,j5)=>⟨[(0,dC (al_cV.f (bU))),(1,dC (al_cV.f j5))],[],2⟩) hy ?_ ?_ ?_
 exact wk h0 [0,1,2,3] (wR rfl (wR rfl (wR rfl (wR rfl (wR rfl (wR rfl wTn)))))) (vC rfl (vC rfl (vC rfl (vC rfl wVn)))) wLn
 clear hy h
 rintro⟨cR,bp,dE⟩ y h
 dsimp only[jj] at h
 refine ra hx ?_
 refine AW.seq (cdh h rfl (fun cE h=>?_) (fun cE h=>?_))
 refine AW.skip (AW.seq (AW.block (ra hx ?_)))
 refine rsd [] hx fun K hK=>?_
 iterate 2 refine sa ?_
 obtain⟨ni,h⟩:=aC h
 have pU:(bp).toNat<16:=by omega
 refine s1 (cl ni aE aH) ?_
 refine s1 (a8 (an.comp (an.id _ _) (an.vec (cI .u32) aY (bp).toNat pU) (fun _=>rfl)) aH) ?_
 iterate 2 refine sa ?_
 obtain⟨Fy,h⟩:=aC h
 have NR:(bp).toNat<16:=by omega
 refine s1 (cl Fy aE aH) ?_
 refine s1 (a8 (an.comp (an.id _ _) (an.vec (cI .u32) a9 (bp).toNat NR) (fun _=>rfl)) aH) ?_
 iterate 3 refine sa ?_
 obtain⟨x6,te,h⟩:=ah h
 replace te:=co te
 refine s2 (d2:=dI .u64 x6) li (fT (congrArg (dI .u64) te)) ?_
 refine .nil (hK _ _ (rs hx fun K hK=>?_))
 iterate 3 refine sa ?_
 obtain⟨Iz,h⟩:=aC h
 have Ir:(bp).toNat<16:=by omega
 refine s1 (cl Iz aE aH) ?_
 refine s0 (aO (b':=u32.wrap (x6)) (an.comp (an.id _ _) (an.vec (cI .u32) dE (bp).toNat Ir) (fun _=>rfl)) aH) ?_
 refine .nil (hK _ _ ?_)
 iterate 2 refine rb hx ?_
 cases h
 exact PS.l (pe0 h0 [0,1,2,3])
 refine AW.exit ?_
 try dsimp only
 try simp only[aM,reduceIte,Nat.reduceEqDiff,reduceCtorEq]
 cases h
 exact PS.r ⟨by nofun,PE.i (wk h0 [2,3] (wR rfl (wR rfl (wR rfl wTn))) (vC rfl (vC rfl wVn)) wLn)⟩
 obtain⟨b8,j5⟩:=y
 rintro ex tm' hp' ⟨rfl,hw⟩
 try dsimp only
 try simp only[aM,reduceIte,Nat.reduceEqDiff,reduceCtorEq]
 refine AW.weak hw (rs hx fun K hK=>?_)
 refine s1 (d:=dG al_cV j5) (aF (an.id _ _) aE) ?_
 iterate 2 refine sa ?_
 refine s0 (aO (b':=j5) (an.id _ _) aE) ?_
 refine sa ?_
 refine .nil (hK _ _ (AW.ret ?_))
 cases h
 exact rv2
def iv(aY:Vector Int 16)(a9:Vector Int 16):Int×Int×(Vector Int 16)→Option ((Int×Int×(Vector Int 16))⊕((Vector Int 16))):=fun (cR,bp,dE)=>cnd (decide (bp<(16:Int))) (gd (0≤bp∧bp<16) (gd (0≤bp∧bp<16) (bnd (some (u64.wrap ((u64.wrap ((u64.wrap ((aY)[(bp).toNat]!)) - (u64.wrap ((a9)[(bp).toNat]!)))) - cR))) fun x6=>gd (0≤bp∧bp<16) (some (.inl (lE .u64 x6 (63:Int),i64.wrap (bp+(1:Int)),(dE).set! (bp).toNat (u32.wrap (x6)))))))) (some (.inr dE))
def gB(aY:Vector Int 16)(a9:Vector Int 16):Option (Vector Int 16):=bnd (a5 (iv aY a9) ((0:Int),(0:Int),(bU))) fun b8=>some b8
theorem rf {aY:Vector Int 16}{a9:Vector Int 16}{r:Vector Int 16}(h:gB aY a9=some r):aB prog 162 [dG al_cV aY,dG al_cV a9] (dG al_cV r):=by
 refine bL (rs:=[.cell 4 30]) (fun cx hx h0=>?_) func162
 unfold gB at h
 refine rs hx fun K hK=>?_
 iterate 2 refine sa ?_
 refine s1 (bo (F:=al_cV.f (bU)) aE) ?_
 refine .nil (hK _ _ (rs hx fun K hK=>?_))
 refine s1 (bo (F:=al_cV.f (bU)) aE) ?_
 refine .nil (hK _ _ (ra hx ?_))
 refine AW.seq (ra hx ?_)
 refine AW.block ?_
 obtain⟨b8,hy,h⟩:=ah h
 refine lp (S:=Int×Int×(Vector Int 16)) (X:=(Vector Int 16)) (fun (cR,bp,dE)=>[(2,.pt 0 0),(3,.pt 1 0),(4,.pt 2 0),(5,.pt 3 0),(6,dI .u64 cR),(9,dI .i64 bp)]) (fun (cR,bp,dE)=>⟨[(0,dC (al_cV.f aY)),(1,dC (al_cV.f a9)),(2,dC (al_cV.f (bU))),(3,dC (al_cV.f dE))],[],4⟩) (PE cx (.exit 0) (fun b8=>[(4,.pt 0 0),(5,.pt 1 0)]) fun b8=>⟨[(0,dC (al_cV.f (bU))),(1,dC (al_cV.f b8))],[],2⟩) hy ?_ ?_ ?_
 exact wk h0 [0,1,2,3] (wR rfl (wR rfl (wR rfl (wR rfl (wR rfl (wR rfl wTn)))))) (vC rfl (vC rfl (vC rfl (vC rfl wVn)))) wLn
 clear hy h
 rintro⟨cR,bp,dE⟩ y h
 dsimp only[iv] at h
 refine ra hx ?_
 refine AW.seq (cdh h rfl (fun cE h=>?_) (fun cE h=>?_))
 refine AW.skip (AW.seq (AW.block (ra hx ?_)))
 refine rsd [] hx fun K hK=>?_
 refine sa ?_
 obtain⟨ni,h⟩:=aC h
 have pU:(bp).toNat<16:=by omega
 refine s1 (cl ni aE aH) ?_
 refine s1 (a8 (an.comp (an.id _ _) (an.vec (cI .u32) aY (bp).toNat pU) (fun _=>rfl)) aH) ?_
 iterate 2 refine sa ?_
 obtain⟨Fy,h⟩:=aC h
 have NR:(bp).toNat<16:=by omega
 refine s1 (cl Fy aE aH) ?_
 refine s1 (a8 (an.comp (an.id _ _) (an.vec (cI .u32) a9 (bp).toNat NR) (fun _=>rfl)) aH) ?_
 iterate 4 refine sa ?_
 obtain⟨x6,te,h⟩:=ah h
 replace te:=co te
 refine s2 (d2:=dI .u64 x6) li (fT (congrArg (dI .u64) te)) ?_
 refine .nil (hK _ _ (rs hx fun K hK=>?_))
 iterate 3 refine sa ?_
 obtain⟨Iz,h⟩:=aC h
 have Ir:(bp).toNat<16:=by omega
 refine s1 (cl Iz aE aH) ?_
 refine s0 (aO (b':=u32.wrap (x6)) (an.comp (an.id _ _) (an.vec (cI .u32) dE (bp).toNat Ir) (fun _=>rfl)) aH) ?_
 refine .nil (hK _ _ ?_)
 iterate 2 refine rb hx ?_
 cases h
 exact PS.l (pe0 h0 [0,1,2,3])
 refine AW.exit ?_
 try dsimp only
 try simp only[aM,reduceIte,Nat.reduceEqDiff,reduceCtorEq]
 cases h
 exact PS.r ⟨by nofun,PE.i (wk h0 [2,3] (wR rfl (wR rfl wTn)) (vC rfl (vC rfl wVn)) wLn)⟩
 rintro ex tm' hp' ⟨rfl,hw⟩
 try dsimp only
 try simp only[aM,reduceIte,Nat.reduceEqDiff,reduceCtorEq]
 refine AW.weak hw (rs hx fun K hK=>?_)
 refine s1 (d:=dG al_cV b8) (aF (an.id _ _) aE) ?_
 refine s0 (aO (b':=b8) (an.id _ _) aE) ?_
 refine .nil (hK _ _ (AW.ret ?_))
 cases h
 exact rv1
def iy(aY:aq)(a9:aq):Option aq:=bnd (cN [aY,a9]) fun x1=>cnd (!x1) (bnd (dY) fun x4=>some x4) (cnd (aY.vNeg == a9.vNeg) (bnd (nG aY.vW a9.vW) fun x7=>cnd (!x7.2) (bnd (dY) fun nl=>some nl) (bnd (bF aY.vNeg x7.1) fun jG=>some jG)) (bnd (kC aY.vW a9.vW) fun pF=>cnd (decide ((0:Int)≤pF)) (bnd (gB aY.vW a9.vW) fun pQ=>bnd (bF aY.vNeg pQ) fun JC=>some JC) (bnd (gB a9.vW aY.vW) fun B9=>bnd (bF a9.vNeg B9) fun Fp=>some Fp)))
theorem yV {aY:aq}{a9:aq}{r:aq}(h:iy aY a9=some r):aB prog 127 [dG ap aY,dG ap a9] (dG ap r):=by
 refine bL (rs:=[.cell 4 32]) (fun cx hx h0=>?_) func127
 unfold iy at h
 refine rs hx fun K hK=>?_
 iterate 2 refine sa ?_
 refine s1 (bo (F:=ap.f bx) az) ?_
 refine .nil (hK _ _ (AW.seq (rs hx fun K hK=>?_)))
 refine s1 (d:=dG ap aY) (aF (an.id _ _) az) ?_
 refine s1 (d:=dG ap a9) (aF (an.id _ _) az) ?_
 refine s1 (qG ([aY,a9]:List aq) ap qg az) ?_
 refine scb h gl fun x1 h=>?_
 refine sa ?_
 refine .nil (hK _ _ (cdh h rfl (fun bm h=>?_) (fun bm h=>?_)))
 refine rs hx fun K hK=>?_
 refine scb h gz fun x4 h=>?_
 refine s0 (aO (b':=x4) (an.id _ _) az) ?_
 refine .nil (hK _ _ (AW.ret ?_))
 cases h
 exact rv1
 refine AW.skip (AW.seq (rs hx fun K hK=>?_))
 refine sa ?_
 refine s1 (a8 (bw aY) gp) ?_
 refine sa ?_
 refine s1 (a8 (bw a9) gp) ?_
 refine sa ?_
 refine .nil (hK _ _ (cdh h rfl (fun dy h=>?_) (fun dy h=>?_)))
 refine rs hx fun K hK=>?_
 refine sa ?_
 refine s1 (aF (aU aY) aE) ?_
 refine sa ?_
 refine s1 (aF (aU a9) aE) ?_
 refine scb h DK fun x7 h=>?_
 iterate 3 refine sa ?_
 refine s1 (bo (F:=al_cV.f (bU)) aE) ?_
 refine s0 (aO (b':=x7.1) (an.id _ _) aE) ?_
 refine sa ?_
 refine .nil (hK _ _ (AW.seq (ra hx ?_)))
 refine cdh h rfl (fun wP h=>?_) (fun wP h=>?_)
 refine rs hx fun K hK=>?_
 refine scb h gz fun nl h=>?_
 refine s0 (aO (b':=nl) (an.id _ _) az) ?_
 refine .nil (hK _ _ (AW.ret ?_))
 cases h
 exact rv1
 refine AW.skip (rs hx fun K hK=>?_)
 refine sa ?_
 refine s1 (a8 (bw aY) gp) ?_
 refine s1 (d:=dG al_cV x7.1) (aF (an.id _ _) aE) ?_
 refine scb h cT fun jG h=>?_
 refine s0 (aO (b':=jG) (an.id _ _) az) ?_
 refine .nil (hK _ _ (AW.ret ?_))
 cases h
 exact rv1
 refine AW.skip (AW.seq (rs hx fun K hK=>?_))
 refine sa ?_
 refine s1 (aF (aU aY) aE) ?_
 refine sa ?_
 refine s1 (aF (aU a9) aE) ?_
 refine scb h uI fun pF h=>?_
 refine sa ?_
 refine .nil (hK _ _ (cdh h rfl (fun IJ h=>?_) (fun IJ h=>?_)))
 refine rsd [162,111] hx fun K hK=>?_
 refine sa ?_
 refine s1 (a8 (bw aY) gp) ?_
 refine sa ?_
 refine s1 (aF (aU aY) aE) ?_
 refine sa ?_
 refine s1 (aF (aU a9) aE) ?_
 refine cqb h rf fun pQ h=>?_
 refine cqb h cT fun JC h=>?_
 refine s0 (aO (b':=JC) (an.id _ _) az) ?_
 refine .nil (hK _ _ (AW.ret ?_))
 cases h
 exact rv1
 refine AW.skip (rsd [162,111] hx fun K hK=>?_)
 refine sa ?_
 refine s1 (a8 (bw a9) gp) ?_
 refine sa ?_
 refine s1 (aF (aU a9) aE) ?_
 refine sa ?_
 refine s1 (aF (aU aY) aE) ?_
 refine cqb h rf fun B9 h=>?_
 refine cqb h cT fun Fp h=>?_
 refine s0 (aO (b':=Fp) (an.id _ _) az) ?_
 refine .nil (hK _ _ (AW.ret ?_))
 cases h
 exact rv1
def lH(bj:aq):Option aq:=bnd (cN [bj]) fun x1=>cnd (!x1) (bnd (dY) fun x4=>some x4) (bnd (bF (!bj.vNeg) bj.vW) fun x6=>some x6)
theorem tv {bj:aq}{r:aq}(h:lH bj=some r):aB prog 66 [dG ap bj] (dG ap r):=by
 refine bL (rs:=[.cell 2 32]) (fun cx hx h0=>?_) func66
 unfold lH at h
 refine rs hx fun K hK=>?_
 refine sa ?_
 refine s1 (bo (F:=ap.f bx) az) ?_
 refine .nil (hK _ _ (AW.seq (rs hx fun K hK=>?_)))
 refine s1 (d:=dG ap bj) (aF (an.id _ _) az) ?_
 refine s1 (qG ([bj]:List aq) ap qg az) ?_
 refine scb h gl fun x1 h=>?_
 refine sa ?_
 refine .nil (hK _ _ (cdh h rfl (fun bm h=>?_) (fun bm h=>?_)))
 refine rs hx fun K hK=>?_
 refine scb h gz fun x4 h=>?_
 refine s0 (aO (b':=x4) (an.id _ _) az) ?_
 refine .nil (hK _ _ (AW.ret ?_))
 cases h
 exact rv1
 refine AW.skip (rs hx fun K hK=>?_)
 refine sa ?_
 refine s1 (a8 (bw bj) gp) ?_
 iterate 2 refine sa ?_
 refine s1 (aF (aU bj) aE) ?_
 refine scb h cT fun x6 h=>?_
 refine s0 (aO (b':=x6) (an.id _ _) az) ?_
 refine .nil (hK _ _ (AW.ret ?_))
 cases h
 exact rv1
def m6(aY:aq)(a9:aq):Option aq:=bnd (lH a9) fun x1=>bnd (iy aY x1) fun x3=>some x3
theorem FD {aY:aq}{a9:aq}{r:aq}(h:m6 aY a9=some r):aB prog 177 [dG ap aY,dG ap a9] (dG ap r):=by
 refine bL (rs:=[.cell 4 32]) (fun cx hx h0=>?_) func177
 unfold m6 at h
 refine rs hx fun K hK=>?_
 iterate 2 refine sa ?_
 refine s1 (bo (F:=ap.f bx) az) ?_
 refine .nil (hK _ _ (rsd [66,127] hx fun K hK=>?_))
 refine s1 (d:=dG ap aY) (aF (an.id _ _) az) ?_
 refine s1 (d:=dG ap a9) (aF (an.id _ _) az) ?_
 refine cqb h tv fun x1 h=>?_
 refine cqb h yV fun x3 h=>?_
 refine s0 (aO (b':=x3) (an.id _ _) az) ?_
 refine .nil (hK _ _ (AW.ret ?_))
 cases h
 exact rv1
def gr(bj:aq):Option Int:=bnd (S:=Bool) (bnd (cN [bj]) fun x1=>cnd (!x1) (some (true)) (some (decide (bj.vW=#v[(0:Int),0,0,0,0,0,0,0,0,0,0,0,0,0,0,0])))) fun kS=>cnd kS (some (0:Int)) (cnd bj.vNeg (some (-1:Int)) (some (1:Int)))
theorem np {bj:aq}{r:Int}(h:gr bj=some r):aB prog 92 [dG ap bj] (dI .i64 r):=by
 refine bL (rs:=[.tmp 2]) (fun cx hx h0=>?_) func92
 unfold gr at h
 refine ra hx ?_
 refine AW.seq (AW.block (AW.seq ?_))
 obtain⟨kS,hy,h⟩:=ah h
 refine jn ((PE cx .normal (fun kS=>[(1,.pt 0 0),(3,dB kS)]) fun kS=>⟨[(0,dC (ap.f bj))],[],1⟩) kS) ?_ ?_
 replace h:=hy
 refine rq hx fun K hK=>?_
 refine s1 (d:=dG ap bj) (aF (an.id _ _) az) ?_
 refine s1 (qG ([bj]:List aq) ap qg az) ?_
 refine scb h gl fun x1 h=>?_
 iterate 2 refine sa ?_
 rcases aZ (!x1) with bm|bm
 replace h:=a3 bm h
 iterate 4 refine aI rfl rfl bm ?_
 refine s1 (al bm) ?_
 refine sa ?_
 refine .nil (hK _ _ ?_)
 cases h
 exact pe0 h0 [0]
 replace h:=a4 bm h
 refine ga bm ?_
 refine g1 bm (aF (aU bj) aE) ?_
 refine g1 (d:=dG al_cV (#v[(0:Int),0,0,0,0,0,0,0,0,0,0,0,0,0,0,0])) bm (lQ aE aH) ?_
 refine g1 bm (v3 tok 2 (by decide) (EqC.arr (EqC.int (d:=0) aH) aE aH) aE) ?_
 refine s1 (au bm) ?_
 refine sa ?_
 refine .nil (hK _ _ ?_)
 cases h
 exact pe0 h0 [0]
 rintro ex tm' hp' ⟨rfl,hw⟩
 refine AW.weak hw (cdh h rfl (fun nE h=>?_) (fun nE h=>?_))
 refine ra hx ?_
 refine AW.ret ?_
 cases h
 exact rv1
 refine rs hx fun K hK=>?_
 refine sa ?_
 refine s1 (a8 (bw bj) gp) ?_
 refine sa ?_
 refine .nil (hK _ _ (cdh h rfl (fun dy h=>?_) (fun dy h=>?_)))
 refine ra hx ?_
 refine AW.ret ?_
 cases h
 exact rv1
 refine AW.skip (ra hx ?_)
 refine AW.ret ?_
 cases h
 exact rv1
def lG(px:Vector Int 16)(db:Int):Int×Int×(Vector Int 16)→Option ((Int×Int×(Vector Int 16))⊕(Int×(Vector Int 16))):=fun (cR,bp,dE)=>cnd (decide (bp<(16:Int))) (gd (0≤bp∧bp<16) (gd (0≤db) (bnd (some (ior .u64 cR (vt .u64 (u64.wrap ((px)[(bp).toNat]!)) db))) fun x5=>gd (0≤bp∧bp<16) (some (.inl (lE .u64 x5 (32:Int),i64.wrap (bp+(1:Int)),(dE).set! (bp).toNat (u32.wrap (x5)))))))) (some (.inr (cR,dE)))
def oz(px:Vector Int 16)(db:Int):Option ((Vector Int 16)×Int):=bnd (a5 (lG px db) ((0:Int),(0:Int),(bU))) fun (b8,j5)=>some (j5,u32.wrap (b8))
theorem Ag {px:Vector Int 16}{db:Int}{r:(Vector Int 16)×Int}(h:oz px db=some r):aB prog 165 [dG al_cV px,dI .i64 db] (.tu [dG al_cV r.1,dI .u32 r.2]):=by
 refine bL (rs:=[.cell 4 30,.tmp 5]) (fun cx hx h0=>?_) func165
 unfold oz at h
 refine rs hx fun K hK=>?_
 refine sa ?_
 refine s1 (bo (F:=al_cV.f (bU)) aE) ?_
 refine sa ?_
 refine .nil (hK _ _ (rs hx fun K hK=>?_))
 refine s1 (bo (F:=al_cV.f (bU)) aE) ?_
 refine .nil (hK _ _ (ra hx ?_))
 refine AW.seq (ra hx ?_)
 refine AW.block ?_
 obtain⟨y,hy,h⟩:=ah h
 refine lp (S:=Int×Int×(Vector Int 16)) (X:=Int×(Vector Int 16)) (fun (cR,bp,dE)=>[(1,dI .i64 db),(2,.pt 0 0),(4,.pt 1 0),(6,.pt 2 0),(7,dI .u64 cR),(9,dI .i64 bp)]) (fun (cR,bp,dE)=>⟨[(0,dC (al_cV.f px)),(1,dC (al_cV.f (bU))),(2,dC (al_cV.f dE))],[],3⟩) (PE cx (.exit 0) (fun (b8,j5)=>[(4,.pt 0 0),(6,.pt 1 0),(7,dI .u64 b8)]) fun (b8,j5)=>⟨[(0,dC (al_cV.f (bU))),(1,dC (al_cV.f j5))],[],2⟩) hy ?_ ?_ ?_
 exact wk h0 [0,1,2] (wR rfl (wR rfl (wR rfl (wR rfl (wR rfl (wR rfl wTn)))))) (vC rfl (vC rfl (vC rfl wVn))) wLn
 clear hy h
 rintro⟨cR,bp,dE⟩ y h
 dsimp only[lG] at h
 refine ra hx ?_
 refine AW.seq (cdh h rfl (fun cE h=>?_) (fun cE h=>?_))
 refine AW.skip (AW.seq (AW.block (ra hx ?_)))
 refine rs hx fun K hK=>?_
 iterate 2 refine sa ?_
 obtain⟨ni,h⟩:=aC h
 have pU:(bp).toNat<16:=by omega
 refine s1 (cl ni aE aH) ?_
 refine s1 (a8 (an.comp (an.id _ _) (an.vec (cI .u32) px (bp).toNat pU) (fun _=>rfl)) aH) ?_
 iterate 2 refine sa ?_
 obtain⟨Fy,h⟩:=aC h
 refine s1 (Pn Fy) ?_
 refine sa ?_
 obtain⟨x5,Em,h⟩:=ah h
 replace Em:=co Em
 refine s2 (d2:=dI .u64 x5) li (fT (congrArg (dI .u64) Em)) ?_
 refine .nil (hK _ _ (rs hx fun K hK=>?_))
 iterate 3 refine sa ?_
 obtain⟨Oe,h⟩:=aC h
 have NQ:(bp).toNat<16:=by omega
 refine s1 (cl Oe aE aH) ?_
 refine s0 (aO (b':=u32.wrap (x5)) (an.comp (an.id _ _) (an.vec (cI .u32) dE (bp).toNat NQ) (fun _=>rfl)) aH) ?_
 refine .nil (hK _ _ ?_)
 iterate 2 refine rb hx ?_
 cases h
 exact PS.l (pe0 h0 [0,1,2])
 refine AW.exit ?_
 try dsimp only
 try simp only[aM,reduceIte,Nat.reduceEqDiff,reduceCtorEq]
 cases h
 exact PS.r ⟨by nofun,PE.i (wk h0 [1,2] (wR rfl (wR rfl (wR rfl wTn))) (vC rfl (vC rfl wVn)) wLn)⟩
 obtain⟨b8,j5⟩:=y
 rintro ex tm' hp' ⟨rfl,hw⟩
 try dsimp only
 try simp only[aM,reduceIte,Nat.reduceEqDiff,reduceCtorEq]
 refine AW.weak hw (rs hx fun K hK=>?_)
 refine s1 (d:=dG al_cV j5) (aF (an.id _ _) aE) ?_
 iterate 2 refine sa ?_
 refine s0 (aO (b':=j5) (an.id _ _) aE) ?_
 refine sa ?_
 refine .nil (hK _ _ (AW.ret ?_))
 cases h
 exact rv2
def ka(px:Vector Int 16)(db:Int):Int×(Vector Int 16)→Option ((Int×(Vector Int 16))⊕((Vector Int 16))):=fun (aK,aT)=>cnd (decide (aK<(16:Int))) (bnd (S:=Int) (cnd (decide ((i64.wrap (aK+(1:Int)))<(16:Int))) (gd (0≤i64.wrap (aK+(1:Int))∧i64.wrap (aK+(1:Int))<16) (bnd (some (u64.wrap ((px)[(i64.wrap (aK+(1:Int))).toNat]!))) fun x5=>some (x5))) (some ((0:Int)))) fun bX=>gd (0≤aK∧aK<16) (gd (0≤db) (gd (0≤aK∧aK<16) (bnd (some ((aT).set! (aK).toNat (u32.wrap (lE .u64 (ior .u64 (vt .u64 bX (32:Int)) (u64.wrap ((px)[(aK).toNat]!))) db)))) fun qN=>some (.inl (i64.wrap (aK+(1:Int)),qN)))))) (some (.inr aT))
def nH(px:Vector Int 16)(db:Int):Option (Vector Int 16):=bnd (a5 (ka px db) ((0:Int),(bU))) fun aG=>some aG
theorem DL {px:Vector Int 16}{db:Int}{r:Vector Int 16}(h:nH px db=some r):aB prog 169 [dG al_cV px,dI .i64 db] (dG al_cV r):=by
 refine bL (rs:=[.cell 4 30]) (fun cx hx h0=>?_) func169
 unfold nH at h
 refine rs hx fun K hK=>?_
 refine sa ?_
 refine s1 (bo (F:=al_cV.f (bU)) aE) ?_
 refine .nil (hK _ _ (rs hx fun K hK=>?_))
 refine s1 (bo (F:=al_cV.f (bU)) aE) ?_
 refine .nil (hK _ _ (AW.seq (ra hx ?_)))
 refine AW.block ?_
 obtain⟨aG,hy,h⟩:=ah h
 refine lp (S:=Int×(Vector Int 16)) (X:=(Vector Int 16)) (fun (aK,aT)=>[(1,dI .i64 db),(2,.pt 0 0),(4,.pt 1 0),(5,.pt 2 0),(8,dI .i64 aK)]) (fun (aK,aT)=>⟨[(0,dC (al_cV.f px)),(1,dC (al_cV.f (bU))),(2,dC (al_cV.f aT))],[],3⟩) (PE cx (.exit 0) (fun aG=>[(4,.pt 0 0),(5,.pt 1 0)]) fun aG=>⟨[(0,dC (al_cV.f (bU))),(1,dC (al_cV.f aG))],[],2⟩) hy ?_ ?_ ?_
 exact wk h0 [0,1,2] (wR rfl (wR rfl (wR rfl (wR rfl (wR rfl wTn))))) (vC rfl (vC rfl (vC rfl wVn))) wLn
 clear hy h
 rintro⟨aK,aT⟩ y h
 dsimp only[ka] at h
 refine ra hx ?_
 refine AW.seq (cdh h rfl (fun cE h=>?_) (fun cE h=>?_))
 refine AW.skip (AW.seq (AW.block ?_))
 iterate 2 refine ra hx ?_
 refine AW.seq ?_
 obtain⟨bX,hy,h⟩:=ah h
 refine jn ((PE cx .normal (fun bX=>[(1,dI .i64 db),(2,.pt 0 0),(4,.pt 1 0),(5,.pt 2 0),(6,dI .i64 aK),(7,dI .u64 bX),(8,dI .i64 aK)]) fun bX=>⟨[(0,dC (al_cV.f px)),(1,dC (al_cV.f (bU))),(2,dC (al_cV.f aT))],[],3⟩) bX) ?_ ?_
 replace h:=hy
 refine ra hx ?_
 refine cdh h rfl (fun lR h=>?_) (fun lR h=>?_)
 refine rq hx fun K hK=>?_
 iterate 2 refine sa ?_
 obtain⟨Of,h⟩:=aC h
 have hn4:(i64.wrap (aK+(1:Int))).toNat<16:=by omega
 refine s1 (cl Of aE aH) ?_
 refine s1 (a8 (an.comp (an.id _ _) (an.vec (cI .u32) px (i64.wrap (aK+(1:Int))).toNat hn4) (fun _=>rfl)) aH) ?_
 refine sa ?_
 obtain⟨x5,Em,h⟩:=ah h
 replace Em:=co Em
 refine s2 (d2:=dI .u64 x5) li (fT (congrArg (dI .u64) Em)) ?_
 refine .nil (hK _ _ ?_)
 cases h
 exact pe0 h0 [0,1,2]
 refine AW.skip ?_
 cases h
 exact pe0 h0 [0,1,2]
 rintro ex tm' hp' ⟨rfl,hw⟩
 refine AW.weak hw (rq hx fun K hK=>?_)
 iterate 4 refine sa ?_
 obtain⟨Iz,h⟩:=aC h
 have Ir:(aK).toNat<16:=by omega
 refine s1 (cl Iz aE aH) ?_
 refine s1 (a8 (an.comp (an.id _ _) (an.vec (cI .u32) px (aK).toNat Ir) (fun _=>rfl)) aH) ?_
 iterate 3 refine sa ?_
 obtain⟨GM,h⟩:=aC h
 refine s1 (Pm GM) ?_
 refine sa ?_
 obtain⟨IA,h⟩:=aC h
 have NV:(aK).toNat<16:=by omega
 refine s1 (cl IA aE aH) ?_
 obtain⟨qN,Nx,h⟩:=ah h
 replace Nx:=co Nx
 refine s0 (j6 (b':=u32.wrap (lE .u64 (ior .u64 (vt .u64 bX (32:Int)) (u64.wrap ((px)[(aK).toNat]!))) db)) (an.comp (an.id _ _) (an.vec (cI .u32) aT (aK).toNat NV) (fun _=>rfl)) aH Nx) ?_
 refine .nil (hK _ _ (rb hx ?_))
 cases h
 exact PS.l (pe0 h0 [0,1,2])
 refine AW.exit ?_
 try dsimp only
 try simp only[aM,reduceIte,Nat.reduceEqDiff,reduceCtorEq]
 cases h
 exact PS.r ⟨by nofun,PE.i (wk h0 [1,2] (wR rfl (wR rfl wTn)) (vC rfl (vC rfl wVn)) wLn)⟩
 rintro ex tm' hp' ⟨rfl,hw⟩
 try dsimp only
 try simp only[aM,reduceIte,Nat.reduceEqDiff,reduceCtorEq]
 refine AW.weak hw (rs hx fun K hK=>?_)
 refine s1 (d:=dG al_cV aG) (aF (an.id _ _) aE) ?_
 refine s0 (aO (b':=aG) (an.id _ _) aE) ?_
 refine .nil (hK _ _ (AW.ret ?_))
 cases h
 exact rv1
def ji(aY:Vector Int 16)(a9:Int):Int×Int×(Vector Int 16)→Option ((Int×Int×(Vector Int 16))⊕(Int×(Vector Int 16))):=fun (aK,aT,j3)=>cnd (decide ((0:Int)≤aT)) (gd (0≤aT∧aT<16) (bnd (some (ior .u64 (vt .u64 aK (32:Int)) (u64.wrap ((aY)[(aT).toNat]!)))) fun x4=>gd (u64.wrap (a9)≠0) (gd (0≤aT∧aT<16) (bnd (some ((j3).set! (aT).toNat (u32.wrap (u64.wrap (Int.tdiv x4 (u64.wrap (a9))))))) fun x9=>gd (u64.wrap (a9)≠0) (some (.inl (Int.tmod x4 (u64.wrap (a9)),i64.wrap (aT - (1:Int)),x9))))))) (some (.inr (aK,j3)))
def ms(aY:Vector Int 16)(a9:Int):Option ((Vector Int 16)×Int):=bnd (a5 (ji aY a9) ((0:Int),(15:Int),(bU))) fun (aG,gW)=>some (gW,u32.wrap (aG))
theorem Cf {aY:Vector Int 16}{a9:Int}{r:(Vector Int 16)×Int}(h:ms aY a9=some r):aB prog 163 [dG al_cV aY,dI .u32 a9] (.tu [dG al_cV r.1,dI .u32 r.2]):=by
 refine bL (rs:=[.cell 4 30,.tmp 5]) (fun cx hx h0=>?_) func163
 unfold ms at h
 refine rs hx fun K hK=>?_
 refine sa ?_
 refine s1 (bo (F:=al_cV.f (bU)) aE) ?_
 refine sa ?_
 refine .nil (hK _ _ (ra hx ?_))
 refine AW.seq (ra hx ?_)
 refine AW.block ?_
 obtain⟨y,hy,h⟩:=ah h
 refine lp (S:=Int×Int×(Vector Int 16)) (X:=Int×(Vector Int 16)) (fun (aK,aT,j3)=>[(1,dI .u32 a9),(2,.pt 0 0),(4,.pt 1 0),(6,dI .u64 aK),(7,dI .i64 aT)]) (fun (aK,aT,j3)=>⟨[(0,dC (al_cV.f aY)),(1,dC (al_cV.f j3))],[],2⟩) (PE cx (.exit 0) (fun (aG,gW)=>[(4,.pt 0 0),(6,dI .u64 aG)]) fun (aG,gW)=>⟨[(0,dC (al_cV.f gW))],[],1⟩) hy ?_ ?_ ?_
 exact wk h0 [0,1] (wR rfl (wR rfl (wR rfl (wR rfl (wR rfl wTn))))) (vC rfl (vC rfl wVn)) wLn
 clear hy h
 rintro⟨aK,aT,j3⟩ y h
 dsimp only[ji] at h
 refine AW.seq (ra hx ?_)
 refine cdh h rfl (fun cE h=>?_) (fun cE h=>?_)
 refine AW.skip (AW.seq (AW.block (rs hx fun K hK=>?_)))
 iterate 3 refine sa ?_
 obtain⟨ni,h⟩:=aC h
 have pU:(aT).toNat<16:=by omega
 refine s1 (cl ni aE aH) ?_
 refine s1 (a8 (an.comp (an.id _ _) (an.vec (cI .u32) aY (aT).toNat pU) (fun _=>rfl)) aH) ?_
 iterate 2 refine sa ?_
 obtain⟨x4,vu,h⟩:=ah h
 replace vu:=co vu
 refine s2 (d2:=dI .u64 x4) li (fT (congrArg (dI .u64) vu)) ?_
 refine .nil (hK _ _ (rs hx fun K hK=>?_))
 iterate 4 refine sa ?_
 obtain⟨hc6,h⟩:=aC h
 refine s1 (Hr hc6) ?_
 refine sa ?_
 obtain⟨Oe,h⟩:=aC h
 have NQ:(aT).toNat<16:=by omega
 refine s1 (cl Oe aE aH) ?_
 obtain⟨x9,ye,h⟩:=ah h
 replace ye:=co ye
 refine s0 (j6 (b':=u32.wrap (u64.wrap (Int.tdiv x4 (u64.wrap (a9))))) (an.comp (an.id _ _) (an.vec (cI .u32) j3 (aT).toNat NQ) (fun _=>rfl)) aH ye) ?_
 refine .nil (hK _ _ (rq hx fun K hK=>?_))
 iterate 3 refine sa ?_
 obtain⟨IA,h⟩:=aC h
 refine s1 (DI IA) ?_
 refine sa ?_
 refine .nil (hK _ _ (rb hx ?_))
 cases h
 exact PS.l (pe0 h0 [0,1])
 refine AW.exit ?_
 try dsimp only
 try simp only[aM,reduceIte,Nat.reduceEqDiff,reduceCtorEq]
 cases h
 exact PS.r ⟨by nofun,PE.i (wk h0 [1] (wR rfl (wR rfl wTn)) (vC rfl wVn) wLn)⟩
 obtain⟨aG,gW⟩:=y
 rintro ex tm' hp' ⟨rfl,hw⟩
 try dsimp only
 try simp only[aM,reduceIte,Nat.reduceEqDiff,reduceCtorEq]
 refine AW.weak hw (rs hx fun K hK=>?_)
 refine s1 (d:=dG al_cV gW) (aF (an.id _ _) aE) ?_
 iterate 2 refine sa ?_
 refine s0 (aO (b':=gW) (an.id _ _) aE) ?_
 refine sa ?_
 refine .nil (hK _ _ (AW.ret ?_))
 cases h
 exact rv2
section
section
variable {b A B k m d:Nat}
theorem oJ(hb:0<b):((A % b ^ k+B % b ^ k) / b ^ k+dg b A k+dg b B k) % b=dg b (A+B) k∧((A % b ^ k+B % b ^ k) / b ^ k+dg b A k+dg b B k) / b=(A % b ^ (k+1)+B % b ^ (k+1)) / b ^ (k+1):=by
 have hp:0<b ^ k:=cJ hb
 have hs:A % b ^ (k+1)+B % b ^ (k+1)=(A % b ^ k+B % b ^ k)+b ^ k*(dg b A k+dg b B k):=by
  rw[ge,ge,sO];omega
 have h1:(A % b ^ (k+1)+B % b ^ (k+1)) / b ^ k=(A % b ^ k+B % b ^ k) / b ^ k+dg b A k+dg b B k:=by
  rw[hs,vY _ _ hp];omega
 refine⟨?_,?_⟩
 ·have e:A+B=(A % b ^ (k+1)+B % b ^ (k+1))+b ^ k*(b*(A / b ^ (k+1)+B / b ^ (k+1))):=by
   have e1:=og A (b ^ (k+1))
   have e2:=og B (b ^ (k+1))
   have e3:b ^ k*(b*(A / b ^ (k+1)+B / b ^ (k+1)))=b ^ (k+1)*(A / b ^ (k+1))+b ^ (k+1)*(B / b ^ (k+1)):=by
    rw[←eV,←eH,sO]
   omega
  unfold dg
  rw[e,vY _ _ hp,h1]
  unfold dg
  rw[yI]
 ·rw[eH,←gb,←eH,h1]
theorem nR(hb:0<b):(A % b ^ k+B % b ^ k) / b ^ k≤1:=by
 have hp:0<b ^ k:=cJ hb
 have h1:=dA A hp
 have h2:=dA B hp
 have:(A % b ^ k+B % b ^ k) / b ^ k<2:=(oh hp).2 (by omega)
 omega
theorem Da(hb:0<b):(A % b ^ k*m / b ^ k+dg b A k*m) % b=dg b (A*m) k∧(A % b ^ k*m / b ^ k+dg b A k*m) / b=A % b ^ (k+1)*m / b ^ (k+1):=by
 have hp:0<b ^ k:=cJ hb
 have hs:A % b ^ (k+1)*m=A % b ^ k*m+b ^ k*(dg b A k*m):=by
  rw[ge,bk,eV]
 have h1:A % b ^ (k+1)*m / b ^ k=A % b ^ k*m / b ^ k+dg b A k*m:=by
  rw[hs,vY _ _ hp]
 refine⟨?_,?_⟩
 ·have e:A*m=A % b ^ (k+1)*m+b ^ k*(b*(A / b ^ (k+1)*m)):=by
   have e1:=og A (b ^ (k+1))
   have e3:b ^ k*(b*(A / b ^ (k+1)*m))=b ^ (k+1)*(A / b ^ (k+1))*m:=by
    rw[←eV,←eH,←eV]
   rw[e3,←bk]
   congr 1
   omega
  have h2:dg b (A*m) k=A*m / b ^ k % b:=rfl
  rw[h2,e,vY _ _ hp,h1,yI]
 ·rw[eH,←gb,←eH,h1]
theorem xP(hb:0<b)(hm:0<m):A % b ^ k*m / b ^ k<m:=by
 have hp:0<b ^ k:=cJ hb
 rw[oh hp,cj]
 exact Nat.mul_lt_mul_of_pos_left (dA A hp) hm
theorem vi(hb:0<b)(hd:0<d):(A / b ^ (k+1) % d*b+dg b A k) / d=dg b (A / d) k∧(A / b ^ (k+1) % d*b+dg b A k) % d=A / b ^ k % d:=by
 have e:=cm (b:=b) (A:=A) (k:=k)
 have hR:=og (A / b ^ (k+1)) d
 generalize hr:A / b ^ (k+1) % d=r at hR ⊢
 generalize ht:A / b ^ (k+1) / d=t at hR
 have hrd:r<d:=by rw[←hr];exact dA _ hd
 have ha:dg b A k<b:=OJ hb
 generalize dg b A k=a at e ha ⊢
 have e2:A / b ^ k=r*b+a+d*(t*b):=by
  rw[e,←hR,bk,eV];omega
 have bI:(r*b+a) / d<b:=by
  rw[oh hd]
  have:(r+1)*b≤d*b:=ci _ hrd
  rw[bk,dh,cj d b] at this
  omega
 refine⟨?_,?_⟩
 ·have:dg b (A / d) k=A / b ^ k / d % b:=by unfold dg;rw[gb,cj,←gb]
  rw[this,e2,vY _ _ hd,I6,dK bI]
 ·rw[e2,yI]
end
abbrev W(A:Nat):Vector Int 16:=vN 4294967296 16 A
theorem fY {A k:Nat}(h:k<16):(W A)[k]! =(dg 4294967296 A k:Int):=iQ h
theorem dgl {A k:Nat}:dg 4294967296 A k<4294967296:=OJ (by decide)
theorem G_plus {A B:Nat}(hA:A<4294967296 ^ 16)(hB:B<4294967296 ^ 16):nG (W A) (W B)=some (W (A+B),decide (A+B<4294967296 ^ 16)):=by
 have hl:=qm (b:=jj (W A) (W B)) (s0:=((0:Int),(0:Int),bU)) (fun k=>(((A % 4294967296 ^ k+B % 4294967296 ^ k) / 4294967296 ^ k:Nat),(k:Int),vN 4294967296 16 ((A+B) % 4294967296 ^ k))) 16 (((A % 4294967296 ^ 16+B % 4294967296 ^ 16) / 4294967296 ^ 16:Nat),vN 4294967296 16 ((A+B) % 4294967296 ^ 16))
  (by simp only[fI,mm,qP];rfl)
  (fun k hk=>by
   have hc:=nR (b:=4294967296) (A:=A) (B:=B) (k:=k) (by decide)
   obtain⟨h1,h2⟩:=oJ (b:=4294967296) (A:=A) (B:=B) (k:=k) (by decide)
   have ha:=@dgl A k
   have hb:=@dgl B k
   dsimp only[jj]
   rw[bt _ _,aJ,aJ,ab,aJ,bH,fY hk,fY hk,gJ,gJ,←kP,gJ,←kP,gJ,uO,xD,←pK,h1,h2,zV (by decide) hk,cd,kP]
   rfl)
  (by
   dsimp only[jj]
   rw[bu _ _])
 unfold nG
 rw[hl,ab,dK hA,dK hB,DV (by decide)]
 dsimp only
 congr 2
 have:((((A+B) / 4294967296 ^ 16:Nat):Int)=0)↔A+B<4294967296 ^ 16:=by
  rw[Int.natCast_eq_zero,Fb (by decide)]
 exact mW.2 this
theorem Fl {A B:Nat}(hBA:B≤A):gB (W A) (W B)=some (W (A - B)):=by
 obtain⟨D,rfl⟩:∃D,A=D+B:=⟨A - B,by omega⟩
 rw[Bu]
 have hl:=qm (b:=iv (W (D+B)) (W B)) (s0:=((0:Int),(0:Int),bU)) (fun k=>(((D % 4294967296 ^ k+B % 4294967296 ^ k) / 4294967296 ^ k:Nat),(k:Int),vN 4294967296 16 (D % 4294967296 ^ k))) 16 (vN 4294967296 16 (D % 4294967296 ^ 16))
  (by simp only[fI,mm,qP];rfl)
  (fun k hk=>by
   have hc:=nR (b:=4294967296) (A:=D) (B:=B) (k:=k) (by decide)
   obtain⟨h1,h2⟩:=oJ (b:=4294967296) (A:=D) (B:=B) (k:=k) (by decide)
   have ha:=@dgl D k
   have hb:=@dgl B k
   have hd:=@dgl (D+B) k
   generalize (D % 4294967296 ^ k+B % 4294967296 ^ k) / 4294967296 ^ k=c at h1 h2 hc ⊢
   generalize (D % 4294967296 ^ (k+1)+B % 4294967296 ^ (k+1)) / 4294967296 ^ (k+1)=c' at h2 ⊢
   dsimp only[iv]
   rw[bt _ _,aJ,aJ,ab,aJ,bH,fY hk,fY hk,gJ,gJ,cd]
   have hx:∃x:Nat,u64.wrap (u64.wrap ((dg 4294967296 (D+B) k:Int) - (dg 4294967296 B k:Int)) - (c:Int))=(x:Int)∧x / 9223372036854775808=c'∧x % 4294967296=dg 4294967296 D k:=by
    rw[IntKind.wrap_u64,IntKind.wrap_u64]
    refine⟨((((dg 4294967296 (D+B) k:Int) - (dg 4294967296 B k:Int)) % 18446744073709551616 - (c:Int)) % 18446744073709551616).toNat,by omega,by omega,by omega⟩
   obtain⟨x,Cy,yb,Nv⟩:=hx
   rw[Cy,ME,xD,yb,Nv,zV (by decide) hk]
   rfl)
  (by
   dsimp only[iv]
   rw[bu _ _])
 unfold gB
 rw[hl,ab,DV (by decide)]
theorem G_up {A s:Nat}(hs:s<32):oz (W A) (s:Int)=some (W (A*2 ^ s),((A % 4294967296 ^ 16*2 ^ s / 4294967296 ^ 16:Nat):Int)):=by
 have L7:2 ^ s≤2 ^ 31:=g9 (by decide) (by omega)
 have hs3:0<2 ^ s:=cJ (by decide)
 have hl:=qm (b:=lG (W A) (s:Int)) (s0:=((0:Int),(0:Int),bU)) (fun k=>((A % 4294967296 ^ k*2 ^ s / 4294967296 ^ k:Nat),(k:Int),vN 4294967296 16 (A*2 ^ s % 4294967296 ^ k))) 16 ((A % 4294967296 ^ 16*2 ^ s / 4294967296 ^ 16:Nat),vN 4294967296 16 (A*2 ^ s % 4294967296 ^ 16))
  (by simp only[fI,mm,qP,fe,Nat.zero_div];rfl)
  (fun k hk=>by
   have hc:=xP (b:=4294967296) (A:=A) (k:=k) (m:=2 ^ s) (by decide) hs3
   obtain⟨h1,h2⟩:=Da (b:=4294967296) (A:=A) (k:=k) (m:=2 ^ s) (by decide)
   have ha:=@dgl A k
   have hm:dg 4294967296 A k*2 ^ s≤4294967295*2 ^ s:=ci _ (by omega)
   generalize A % 4294967296 ^ k*2 ^ s / 4294967296 ^ k=c at h1 h2 hc ⊢
   generalize A % 4294967296 ^ (k+1)*2 ^ s / 4294967296 ^ (k+1)=c' at h2 ⊢
   dsimp only[lG]
   rw[bt _ _,aJ,aJ,ab,aJ,bH,fY hk,gJ,Np _ _ (by omega) (by omega),Nq,ior_n hc (by omega),uO,xD,cd,pi _ c,h1,h2,zV (by decide) hk]
   rfl)
  (by
   dsimp only[lG]
   rw[bu _ _])
 have hc:A % 4294967296 ^ 16*2 ^ s / 4294967296 ^ 16<2 ^ s:=xP (by decide) hs3
 unfold oz
 rw[hl,ab,DV (by decide)]
 dsimp only
 rw[xC]
theorem G_down {A s:Nat}(hA:A<4294967296 ^ 16)(hs:s<32):nH (W A) (s:Int)=some (W (A / 2 ^ s)):=by
 have L7:2 ^ s≤2 ^ 31:=g9 (by decide) (by omega)
 have hs3:0<2 ^ s:=cJ (by decide)
 have hl:=qm (b:=ka (W A) (s:Int)) (s0:=((0:Int),bU)) (fun k=>((k:Int),vN 4294967296 16 (A / 2 ^ s % 4294967296 ^ k))) 16 (vN 4294967296 16 (A / 2 ^ s % 4294967296 ^ 16))
  (by simp only[fI,mm,qP];rfl)
  (fun k hk=>by
   have ha:=@dgl A k
   have ha1:=@dgl A (k+1)
   have hd:(dg 4294967296 A (k+1)*4294967296+dg 4294967296 A k) / 2 ^ s % 4294967296=dg 4294967296 (A / 2 ^ s) k:=by
    have e1:dg 4294967296 (A / 2 ^ s) k=A / 4294967296 ^ k / 2 ^ s % 4294967296:=by
     unfold dg;rw[gb,cj,←gb]
    have e2:A / 4294967296 ^ k=(dg 4294967296 A (k+1)*4294967296+dg 4294967296 A k)+2 ^ s*(4294967296*(2 ^ (32 - s)*(A / 4294967296 ^ (k+2)))):=by
     have e3:=cm (b:=4294967296) (A:=A) (k:=k)
     have e4:=cm (b:=4294967296) (A:=A) (k:=k+1)
     have e5:2 ^ s*(4294967296*(2 ^ (32 - s)*(A / 4294967296 ^ (k+2))))=2 ^ s*2 ^ (32 - s)*4294967296*(A / 4294967296 ^ (k+2)):=by
      simp only[eV,yJ]
     rw[e5,←gy,show s+(32 - s)=32 from by omega,e3,e4,show k+1+1=k+2 from rfl,show (2:Nat) ^ 32=4294967296 from rfl]
     generalize A / 4294967296 ^ (k+2)=q
     generalize dg 4294967296 A (k+1)=d1
     generalize dg 4294967296 A k=d0
     omega
    rw[e1,e2,vY _ _ hs3,yI]
   dsimp only[ka]
   rw[bt _ _]
   have hnext:(bnd (S:=Int) (cnd (decide ((i64.wrap ((k:Int)+(1:Int)))<(16:Int))) (gd (0≤i64.wrap ((k:Int)+(1:Int))∧i64.wrap ((k:Int)+(1:Int))<16) (bnd (some (u64.wrap ((W A)[(i64.wrap ((k:Int)+(1:Int))).toNat]!))) fun x5=>some (x5))) (some ((0:Int)))) (fun a=>some a))=some ((dg 4294967296 A (k+1):Nat):Int):=by
    rw[cd]
    by_cases hk1:k+1<16
    ·rw[bt _ _,aJ,ab,show ((k:Int)+1).toNat=k+1 from by omega,fY hk1,gJ,ab]
    ·rw[bu _ _,ab,kZ (bW hA (g9 (by decide) (by omega)))]
     rfl
   rw[vM] at hnext
   rw[hnext,ab,aJ,aJ,aJ,ab,bH,fY hk,gJ,F5 ha1,GC ha ha1,xW .u64 _ _ (by show s≤64;omega),xD,hd,zV (by decide) hk,cd]
   rfl)
  (by
   dsimp only[ka]
   rw[bu _ _])
 unfold nH
 rw[hl,ab,DV (by decide)]
theorem G_short {A d:Nat}(hA:A<4294967296 ^ 16)(hd:0<d)(GK:d<4294967296):ms (W A) (d:Int)=some (W (A / d),((A % d:Nat):Int)):=by
 have hl:=Ni (b:=ji (W A) (d:Int)) (s0:=((0:Int),(15:Int),bU)) (fun k=>((A / 4294967296 ^ k % d:Nat),(k:Int) - 1,vN 4294967296 16 (A / d / 4294967296 ^ k*4294967296 ^ k))) 16 ((A / 4294967296 ^ 0 % d:Nat),vN 4294967296 16 (A / d / 4294967296 ^ 0*4294967296 ^ 0))
  (by
   have h1:A / d<4294967296 ^ 16:=fj (tY _ _) hA
   simp only[dv hA,dv h1,fe,qP,Nat.zero_mod];rfl)
  (fun k hk=>by
   have ha:=@dgl A k
   have hq:=@dgl (A / d) k
   obtain⟨h1,h2⟩:=vi (b:=4294967296) (A:=A) (k:=k) (d:=d) (by decide) hd
   have hr:A / 4294967296 ^ (k+1) % d<d:=dA _ hd
   generalize A / 4294967296 ^ (k+1) % d=r at h1 h2 hr ⊢
   generalize A / 4294967296 ^ k % d=r' at h2 ⊢
   have ed:u64.wrap (d:Int)=(d:Int):=gJ
   dsimp only[ji]
   rw[bt _ _,aJ,ab,ed,aJ,aJ,ab,aJ,show (((k+1:Nat):Int) - 1).toNat=k from by omega,fY hk,gJ,F5 (by omega),GC ha (by omega),←rr,←rp,h1,h2,gJ,xC hq,JG (by decide) hk,cd]
   congr 4
   omega)
  (by
   dsimp only[ji]
   rw[bu _ _])
 rw[fI,mX,mX,pE] at hl
 have hr:A % d<d:=dA _ hd
 unfold ms
 rw[hl,ab]
 dsimp only
 rw[xC]
end
def LIM:Nat:=4294967296 ^ 16
theorem B3:LIM=4294967296 ^ 16:=rfl
theorem uA:0<LIM:=by decide
theorem W_zero:W 0=bU:=qP
theorem z16:(#v[(0:Int),0,0,0,0,0,0,0,0,0,0,0,0,0,0,0]:Vector Int 16)=W 0:=by
 rw[W_zero];rfl
theorem r16:bU=W 0:=qP.symm
theorem BU {A B:Nat}(hA:A<LIM)(hB:B<LIM):W A=W B↔A=B:=⟨vN_inj hA hB,fun h=>by rw[h]⟩
def Gf(A B:Nat):Int:=if A<B then -1 else if B<A then 1 else 0
theorem G_cmp(x y:Int):fP x y=some (if x<y then -1 else if y<x then 1 else 0):=by
 have hn:∀z:Int,fH z=some false:=fun z=>by unfold fH;simp
 unfold fP
 rw[hn,hn,ab,ab,ba,ba,jb,jb]
 split
 ·rfl
 ·split <;> rfl
theorem y0 {A B k:Nat}(he:A / 4294967296 ^ (k+1)=B / 4294967296 ^ (k+1))(h:dg 4294967296 A k<dg 4294967296 B k):A<B:=by
 have e1:=cm (b:=4294967296) (A:=A) (k:=k)
 have e2:=cm (b:=4294967296) (A:=B) (k:=k)
 have h1:A / 4294967296 ^ k<B / 4294967296 ^ k:=by
  rw[e1,e2,he];exact t3 h _
 rcases ck A B with h2|h2
 ·exact h2
 ·exact absurd (Jm h2) (Nat.not_le.2 h1)
theorem KW {A B:Nat}(hA:A<LIM)(hB:B<LIM):kC (W A) (W B)=some (Gf A B):=by
 rw[B3] at hA hB
 obtain⟨x,hl,hx⟩:=uT (b:=jl (W A) (W B)) (fun s=>∃k:Nat,s=(k:Int) - 1∧k≤16∧A / 4294967296 ^ k=B / 4294967296 ^ k) (fun s=>(s+1).toNat) (fun x=>match x with| .inl r=>r=Gf A B| .inr _=>A=B)
  (by
   rintro s ⟨k,rfl,hk,he⟩
   cases k with
   |zero=>
    right
    refine⟨(Sum.inr ():Int⊕Unit),?_,?_⟩
    ·dsimp only[jl]
     rw[bu _ _]
    ·simpa using he
   |succ k=>
    have tJ:k<16:=by omega
    have e:((k+1:Nat):Int) - 1=(k:Int):=by omega
    rw[e]
    dsimp only[jl]
    rw[bt _ _,aJ,aJ,bH,fY tJ,fY tJ]
    by_cases hd:dg 4294967296 A k=dg 4294967296 B k
    ·left
     refine⟨(k:Int) - 1,?_,⟨k,rfl,by omega,?_⟩,by omega⟩
     ·rw[bu _ _ (by rw[hd];simp),cd]
     ·rw[cm (b:=4294967296) (A:=A) (k:=k),cm (b:=4294967296) (A:=B) (k:=k),he,hd]
    ·right
     refine⟨(Sum.inl (Gf A B):Int⊕Unit),?_,rfl⟩
     rw[bt _ _,aJ,aJ,G_cmp,ab]
     congr 3
     unfold Gf
     rcases Nat.lt_or_gt_of_ne hd with h|h
     ·have:=y0 he h
      rw[ifp_,ay this]
     ·have:=y0 he.symm h
      rw[ifn_,ifp_,ifn_,ay this]) (15:Int) ⟨16,rfl,aL _,by rw[dv hA,dv hB]⟩
 unfold kC
 rw[hl,ab]
 cases x with
 |inl r=>obtain rfl:r=_:=hx;rfl
 |inr u=>
  obtain rfl:A=B:=hx
  unfold Gf
  simp
def szp(b A n:Nat):Prop:=A<b ^ n∧(0<n→b ^ (n - 1)≤A)
theorem Mv {b A n m:Nat}(hb:0<b)(h:szp b A n)(h':szp b A m):n=m:=by
 have key:∀{n m:Nat},szp b A n→szp b A m→m≤n:=by
  intro n m h h'
  rcases ck n m with h1|h1
  ·have h2:=h'.2 (by omega)
   have h3:b ^ n≤b ^ (m - 1):=g9 hb (by omega)
   have:=h.1
   omega
  ·exact h1
 have:=key h h'
 have:=key h' h
 omega
theorem HV {b A n k:Nat}(hb:0<b)(h:szp b A n)(hA:A<b ^ k):n≤k:=by
 rcases ck k n with h1|h1
 ·have h2:=h.2 (by omega)
  have h3:b ^ k≤b ^ (n - 1):=g9 hb (by omega)
  omega
 ·exact h1
theorem yR {A:Nat}(hA:A<LIM):∃n:Nat,n≤16∧eu (W A)=some (n:Int)∧szp 4294967296 A n:=by
 rw[B3] at hA
 obtain⟨x,hl,n,rfl,hn,hs⟩:=uT (b:=j9 (W A)) (fun s=>∃n:Nat,s=(n:Int)∧n≤16∧A<4294967296 ^ n) (fun s=>s.toNat) (fun x=>∃n:Nat,x=(n:Int)∧n≤16∧szp 4294967296 A n)
  (by
   rintro s ⟨n,rfl,hn,bI⟩
   cases n with
   |zero=>
    right
    refine⟨_,?_,0,rfl,by omega,bI,fun h=>by omega⟩
    dsimp only[j9]
    rw[bu _ _,ab,ba]
   |succ k=>
    have hk:k<16:=by omega
    have e:i64.wrap (((k+1:Nat):Int) - 1)=(k:Int):=by rw[cd];omega
    dsimp only[j9]
    rw[bt _ _,e,aJ,ab,bH,fY hk,jb]
    by_cases hd:dg 4294967296 A k=0
    ·left
     refine⟨(k:Int),by rw[ifp_],⟨k,rfl,by omega,?_⟩,by omega⟩
     unfold dg at hd
     have h1:A / 4294967296 ^ k<4294967296:=by
      rw[oh (cJ (by decide)),cj,←eH];exact bI
     rw[dK h1] at hd
     exact (Fb (cJ (by decide))).1 hd
    ·right
     refine⟨_,by rw[ifn_],k+1,rfl,hn,bI,fun _=>?_⟩
     rcases ck A (4294967296 ^ k) with h|h
     ·exact absurd (kZ h) hd
     ·exact h) (16:Int) ⟨16,rfl,aL _,hA⟩
 refine⟨n,hn,?_,hs⟩
 unfold eu
 rw[hl,ab]
def He:aq:=⟨true,false,W 0⟩
def enc(z:Int):aq:=if z.natAbs<LIM then⟨false,decide (z<0),W z.natAbs⟩ else He
theorem qv {z:Int}(h:z.natAbs<LIM):enc z=⟨false,decide (z<0),W z.natAbs⟩:=ay h
theorem Bd {z:Int}(h:¬z.natAbs<LIM):enc z=He:=aA h
def dq(x:aq):Bool:=!x.vBad&&(!decide (x.vW=W 0)||!x.vNeg)
def okI(x:aq):Prop:=∀j:Nat,j<16→0≤x.vW[j]!∧x.vW[j]! <4294967296
theorem Ee(z:Int):okI (enc z):=by
 have key:∀(A j:Nat),j<16→0≤(W A)[j]!∧(W A)[j]! <4294967296:=fun A j hj=>by
  rw[fY hj];have:=@dgl A j;omega
 unfold enc
 split
 ·exact key _
 ·exact key 0
theorem bQ {z:Int}(h:z.natAbs<LIM):dq (enc z)=true:=by
 rw[qv h]
 unfold dq
 dsimp only
 by_cases hz:z=0
 ·subst hz;simp
 ·have:¬W z.natAbs=W 0:=fun e=>hz (by have:=(BU h uA).1 e;omega)
  simp[this]
theorem tM {x:aq}(h:okI x)(hg:dq x=true):∃z:Int,z.natAbs<LIM∧x=enc z:=by
 obtain⟨A,hA,hv⟩:=vN_of (b:=4294967296) (n:=16) (by decide) x.vW (fun j hj=>h j hj)
 obtain⟨bad,neg,w⟩:=x
 dsimp only at hv
 subst hv
 unfold dq at hg
 simp only[eC,Bool.or_eq_true,vQ,decide_eq_false_iff_not] at hg
 obtain⟨rfl,hg⟩:=hg
 have Ki:A<LIM:=hA
 cases neg with
 |false=>
  refine⟨(A:Int),Ki,?_⟩
  rw[qv (by simpa using Ki)]
  simp
 |true=>
  refine⟨-(A:Int),by simpa using Ki,?_⟩
  have h0:A≠0:=by
   rintro rfl
   rcases hg with h|h
   ·exact h rfl
   ·cases h
  rw[qv (by simpa using Ki)]
  have:-(A:Int)<0:=by omega
  simp[this,sN h0]
theorem Dl:dq He=false:=rfl
theorem wX {z y:Int}(hz:z.natAbs<LIM)(hy:y.natAbs<LIM)(h:enc z=enc y):z=y:=by
 rw[qv hz,qv hy] at h
 simp only[aq.mk.injEq,true_and] at h
 obtain⟨h1,h2⟩:=h
 have h3:=(BU hz hy).1 h2
 have h4:=mW.1 h1
 omega
theorem OC {A:Nat}(hA:A<LIM)(neg:Bool):(⟨false,neg&&!decide (A=0),W A⟩:aq)=enc (bif neg then -(A:Int) else A):=by
 cases neg with
 |false=>rw[qv (by simpa using hA)];simp
 |true=>
  rw[qv (by simpa using hA)]
  simp only[Hl,lO,Int.natAbs_neg,ek,aq.mk.injEq,true_and,and_true]
  by_cases h:A=0
  ·subst h;simp
  ·have:-(A:Int)<0:=by omega
   simp[h,this,sN h]
theorem KY(x:aq):kD x=some (if x.vBad then decide (x.vW=W 0)&&!x.vNeg else !decide (x.vW=W 0)||!x.vNeg):=by
 unfold kD
 rw[ab,z16]
 cases x.vBad <;> cases decide (x.vW=W 0) <;> rfl
theorem PO {l:List aq}(hl:l.length<1000000):cN l=some (l.all dq):=by
 obtain⟨x,h1,hx⟩:=uT (b:=mI l) (fun s=>∃n:Nat,s=(n:Int)∧n≤l.length∧(l.take n).all dq=true) (fun s=>l.length - s.toNat) (fun x=>match x with| .inl r=>r=false∧l.all dq=false| .inr _=>l.all dq=true)
  (by
   rintro s ⟨n,rfl,hn,ha⟩
   dsimp only[mI]
   by_cases bI:n<l.length
   ·rw[bt _ _,aJ,bH,KY,ab]
    have hg:cnd (l[n]!.vBad) (some true) (some (!(if l[n]!.vBad then decide (l[n]!.vW=W 0)&&!l[n]!.vNeg else !decide (l[n]!.vW=W 0)||!l[n]!.vNeg)))=some (!dq l[n]!):=by
     unfold dq
     cases l[n]!.vBad <;> rfl
    rw[hg,ab]
    have AQ:(l.take (n+1)).all dq=((l.take n).all dq&&dq l[n]!):=by
     rw[gF l n bI,List.take_succ_eq_append_getElem bI,sL]
     simp
    cases hgb:dq l[n]! with
    |true=>
     left
     refine⟨((n+1:Nat):Int),?_,⟨n+1,rfl,bI,by rw[AQ,ha,hgb];rfl⟩,by omega⟩
     rw[eo,ba,cd]
     rfl
    |false=>
     right
     refine⟨_,rfl,rfl,?_⟩
     rw[←tS (n+1) l,sL,AQ,hgb]
     simp
   ·right
    refine⟨_,by rw[bu _ _],?_⟩
    rw[jL (by omega)] at ha
    exact ha) (0:Int) ⟨0,rfl,dU _,by simp⟩
 unfold cN
 rw[h1,ab]
 cases x with
 |inl r=>obtain⟨rfl,h2⟩:=hx;rw[h2]
 |inr u=>rw[show l.all dq=true from hx]
theorem iO {A:Nat}(hA:A<LIM)(neg:Bool):bF neg (W A)=some (enc (bif neg then -(A:Int) else A)):=by
 unfold bF
 rw[z16,←OC hA]
 cases neg with
 |true=>
  rw[gU,ab]
  simp only[ab,BU hA uA,Hl,decide_not]
 |false=>rfl
theorem K3:dY=some He:=by unfold dY;rw[r16];rfl
theorem all2g(x y:aq):([x,y].all dq)=(dq x&&dq y):=by simp
theorem all1g(x:aq):([x].all dq)=dq x:=by simp
theorem sT(x y:aq):cN [x,y]=some (dq x&&dq y):=by rw[PO (by simp),all2g]
theorem xn(x:aq):cN [x]=some (dq x):=by rw[PO (by simp),all1g]
theorem l9 {z:Int}(h:z.natAbs<LIM):(enc z).vW=W z.natAbs:=by rw[qv h]
theorem nQ {z:Int}(h:z.natAbs<LIM):(enc z).vNeg=decide (z<0):=by rw[qv h]
theorem G_Add {a c:Int}(ha:a.natAbs<LIM)(hc:c.natAbs<LIM):iy (enc a) (enc c)=some (enc (a+c)):=by
 unfold iy
 rw[sT,bQ ha,bQ hc,ab]
 simp only[eh,eo,ba,l9 ha,l9 hc,nQ ha,nQ hc]
 rw[G_plus (by rw[←B3];exact ha) (by rw[←B3];exact hc),ab,KW ha hc,ab,←B3]
 dsimp only
 by_cases hs:decide (a<0)=decide (c<0)
 ·have L8:=mW.1 hs
  rw[hs,BL,gU]
  by_cases bI:a.natAbs+c.natAbs<LIM
  ·rw[cV bI,eo,ba,iO bI,ab]
   congr 2
   by_cases h:c<0
   ·simp only[h,ru,lO];omega
   ·simp only[h,rt,cond_false];omega
  ·rw[gG bI,t5,gU,K3,ab,Bd (by omega)]
 ·have L8:¬((a<0)↔(c<0)):=fun h=>hs (mW.2 h)
  have hb:(decide (a<0) == decide (c<0))=false:=E5.2 hs
  rw[hb,ba]
  unfold Gf
  by_cases h1:a.natAbs<c.natAbs
  ·rw[ay h1,bu _ _,Fl (kQ h1),ab,iO (by omega),ab]
   congr 2
   by_cases h:c<0
   ·simp only[h,ru,lO];omega
   ·simp only[h,rt,cond_false];omega
  ·have h2:(0:Int)≤(if a.natAbs<c.natAbs then -1 else if c.natAbs<a.natAbs then 1 else 0):=by
    rw[aA h1];split <;> omega
   rw[bt _ _ h2,Fl (by omega),ab,iO (by omega),ab]
   congr 2
   by_cases h:a<0
   ·simp only[h,ru,lO];omega
   ·simp only[h,rt,cond_false];omega
theorem L0 {x y:aq}(h:(dq x&&dq y)=false):iy x y=some He:=by
 unfold iy
 rw[sT,h,ab,t5,gU,K3,ab]
theorem PV {a:Int}(ha:a.natAbs<LIM):lH (enc a)=some (enc (-a)):=by
 unfold lH
 rw[xn,bQ ha,ab,eo,ba,l9 ha,nQ ha,iO ha,ab]
 congr 2
 by_cases h:a<0
 ·simp only[h,ru,eo,cond_false];omega
 ·simp only[h,rt,t5,lO];omega
theorem G_Sub {a c:Int}(ha:a.natAbs<LIM)(hc:c.natAbs<LIM):m6 (enc a) (enc c)=some (enc (a - c)):=by
 unfold m6
 rw[PV hc,ab,G_Add ha (by omega),ab]
 rfl
theorem yS {a:Int}(ha:a.natAbs<LIM):gr (enc a)=some a.sign:=by
 unfold gr
 rw[xn,bQ ha,ab,eo,ba,ab,l9 ha,nQ ha,z16]
 simp only[BU ha uA]
 rcases Jh a 0 with h|h|h
 ·rw[bu _ _,bt _ _ h,I2 h]
 ·subst h;rfl
 ·rw[bu _ _,bu _ _,By h]
end
end Go.Proofs.YtgfcnncojhkcoaaGreat
