/-
  Lemmas, part 2. Conditions: none.
-/
import Derived.Test.YtgfcnncojhkcoaaGreatX1
import Derived.Laws.MakeOwn
import Derived.Laws.CopyRow
import Derived.Test.YtgfcnncojhkcoaaGreatProg
set_option linter.all false
set_option maxRecDepth 100000
set_option maxHeartbeats 4000000
namespace Go.Proofs.YtgfcnncojhkcoaaGreat
open Go.RowKit Go.IntKind Tryz
noncomputable section
section
def dC(es:List E):List D:=es.map D.e
theorem PI(σ:Nat→Nat)(es:List E):(dC es).map (D.renC σ)=dC es:=by
 unfold dC;rw[qza3];exact oY fun _ _=>rfl
theorem gC(es:List E):(dC es).length=es.length:=bH _
theorem Cw {p:D→Bool}(h:∀e,p (.e e)=true)(es:List E):(dC es).all p=true:=by
 unfold dC;rw[CP];exact eS.2 fun e _=>h e
structure ao {β:Type}(F:List E)(c':Cd β)(o:Nat)(b:β)(F':β→List E):Prop where
 le:o+c'.sz≤F.length
 g:(F.drop o).take c'.sz=c'.f b
 p:∀y,F.take o++c'.f y++F.drop (o+c'.sz)=F' y
section
variable {α β γ:Type} {F:List E}
theorem ao.id(c:Cd α)(x:α):ao (c.f x) c 0 x c.f:=
 ⟨by rw[c.h];omega,by rw[nZ,kO (by rw[c.h];exact bI _)],fun y=>by rw[GB,dA,CV (by rw[c.h];exact bI _),pB,vo]⟩
theorem ao.comp {c1:Cd α}{c2:Cd β}{o1 o2:Nat}{b1:α}{b2:β}{F1:α→List E}{P2:β→List E}{P:β→α}(h1:ao F c1 o1 b1 F1)(h2:ao (c1.f b1) c2 o2 b2 P2)(hp:∀y,P2 y=c1.f (P y)):ao F c2 (o1+o2) b2 (fun y=>F1 (P y)):=by
 have l1:=h1.le
 have l2:=h2.le
 rw[c1.h] at l2
 refine⟨by omega,?_,fun y=>?_⟩
 ·rw[←h2.g,←h1.g,←mM,CL,Ag,rH (by omega)]
 ·rw[←h1.p (P y),←hp y,←h2.p y,←h1.g,Ag,rH (by omega),List.take_add]
  have e:((F.drop o1).take c1.sz).drop (o2+c2.sz)++F.drop (o1+c1.sz)=F.drop (o1+o2+c2.sz):=by
   have e1:F.drop (o1+c1.sz)=(F.drop o1).drop c1.sz:=(mM ..).symm
   rw[e1,←Kd (by rw[ff,gY];omega),rI,mM,nq]
  rw[←e]
  simp only[gr]
theorem ao.of {c':Cd β}{o:Nat}{b:β}{F':β→List E}(A C:List E)(hA:A.length=o)(hF:F=A++(c'.f b++C))(hp:∀y,F' y=A++(c'.f y++C)):ao F c' o b F':=by
 subst hA hF
 refine⟨by simp[c'.h],?_,fun y=>?_⟩
 ·rw[sK,AP (by rw[c'.h];exact bI _),kO (by rw[c'.h];exact bI _)]
 ·rw[hp,qH,←mM,sK,←c'.h b,sK,gr]
theorem ao.seq [Inhabited α](c:Cd α)(l:List α)(i:Nat)(h:i<l.length):ao (l.flatMap c.f) c (i*c.sz) l[i]! (fun y=>(l.set i y).flatMap c.f):=by
 have hl:(l.flatMap c.f).length=l.length*c.sz:=io c.f c.h l
 have hm:(i+1)*c.sz≤l.length*c.sz:=c6 _ h
 rw[cO,fm] at hm
 refine⟨by rw[hl];exact hm,?_,fun y=>?_⟩
 ·have:=l5 c.f c.h (l.drop i) 1
  rw[fm] at this
  rw[ob c.f c.h,this,Kl h,iR l i h,List.take_succ_cons,GB,nX,List.flatMap_nil,vo]
 ·rw[l5 c.f c.h,show i*c.sz+c.sz=(i+1)*c.sz by rw[cO,fm],ob c.f c.h,List.set_eq_take_append_cons_drop,aQ h,CW,nX,gr]
theorem ye [Inhabited α]{n:Nat}(v:Vector α n){i:Nat}(h:i<n):v.toList[i]! =v[i]! :=by
 rw[iR v.toList i (by rw[rG];exact h),iR v i h,Vector.getElem_toList]
theorem vec_set {n:Nat}(v:Vector α n)(i:Nat)(y:α):(v.set! i y).toList=v.toList.set i y:=by
 show (v.setIfInBounds i y).toList=_
 exact Vector.toList_setIfInBounds ..
theorem ao.vec [Inhabited α]{n:Nat}(c:Cd α)(v:Vector α n)(i:Nat)(h:i<n):ao ((cA n c).f v) c (i*c.sz) v[i]! (fun y=>(cA n c).f (v.set! i y)):=by
 have:=ao.seq c v.toList i (by rw[rG];exact h)
 rw[ye v h] at this
 refine⟨this.le,this.g,fun y=>?_⟩
 rw[show (cA n c).f (v.set! i y)=(v.set! i y).toList.flatMap c.f from rfl,vec_set]
 exact this.p y
end
section
variable {P:Program} {tb:TypeId→Option TyE} {dr:Bool} {ty:TypeId} {ev:Operand→D} {x y:Operand} {vs:List (Nat×List D)} {lv:List (Nat×Nat×Nat×TypeId)} {N k o:Nat} {F:List E} {β:Type} {c':Cd β} {b:β} {F':β→List E} {t:TypeId} {i:TyE}
theorem aA(L:ao F c' o b F')(ht:tb t=some i)(hg:i.ty.agg=true:=by exact rfl)(hz:c'.sz=i.size:=by exact rfl)(hx:ev x=.pt k o:=by exact rfl)(hv:vs.lookup k=some (dC F):=by exact rfl)(hk:Nat.ble (k+1) N=true:=by exact rfl):AVC P tb dr (.load t x) ty ev ⟨vs,lv,N⟩ (Kq (dG c' b) ⟨vs,lv,N⟩):=by
 rw[sk,hx,oE,ht,hv]
 simp only[hg]
 refine⟨dM hk,by rw[gC,←hz];exact L.le,?_⟩
 have:((dC F).drop o).take i.size=(c'.f b).map D.e:=by
  unfold dC
  rw[←vn,←ub,←hz,L.g]
 rw[this]
 exact Kq.here _ _
theorem bg {e:E}(L:ao F c' o b F')(ht:tb t=some i)(he:c'.f b=[e]:=by exact rfl)(hg:i.ty.agg=false:=by exact rfl)(hx:ev x=.pt k o:=by exact rfl)(hv:vs.lookup k=some (dC F):=by exact rfl)(hk:Nat.ble (k+1) N=true:=by exact rfl):AVC P tb dr (.load t x) ty ev ⟨vs,lv,N⟩ (Kq (.e e) ⟨vs,lv,N⟩):=by
 have hs:c'.sz=1:=by rw[←c'.h b,he];rfl
 have Lh:=L.g
 have hle:=L.le
 rw[hs] at Lh hle
 rw[he] at Lh
 rw[sk,hx,oE,ht,hv]
 simp only[hg]
 refine⟨dM hk,.e e,?_,Kq.here _ _⟩
 unfold dC
 rw[dZ]
 have:F[o]? =some e:=by
  have h0:(F.drop o)[0]? =F[o]? :=by rw[mN,mi]
  have h1:((F.drop o).take 1)[0]? =(F.drop o)[0]? :=by rw[eY];rfl
  rw[←h0,←h1,Lh]
  rfl
 rw[this];rfl
theorem aN {b':β}(L:ao F c' o b F')(ht:tb t=some i)(hy:(ev y).cells=some (dC (c'.f b')):=by exact rfl)(hz:c'.sz=i.size:=by exact rfl)(hx:ev x=.pt k o:=by exact rfl)(hv:vs.lookup k=some (dC F):=by exact rfl):AVC P tb dr (.store t x y) ty ev ⟨vs,lv,N⟩ (Kq .top ⟨(k,dC (F' b'))::vs,lv,N⟩):=by
 rw[CF,hx,zB,ht,hv,hy]
 have hl:(dC (c'.f b')).length=i.size:=by rw[gC,c'.h,hz]
 refine⟨hl,by rw[gC,←hz];exact L.le,?_⟩
 have:(dC F).take o++dC (c'.f b')++(dC F).drop (o+(dC (c'.f b')).length)=dC (F' b'):=by
  rw[hl,←hz,←L.p b']
  unfold dC
  simp only[nd,ub,vn]
 rw[this]
 exact Kq.here _ _
theorem kD {b':β}{γ:Type}{c:Cd γ}{nw nm:γ}(L:ao F c' o b F')(ht:tb t=some i)(M4:nw=nm)(hF:F' b'=c.f nw:=by exact rfl)(hy:(ev y).cells=some (dC (c'.f b')):=by exact rfl)(hz:c'.sz=i.size:=by exact rfl)(hx:ev x=.pt k o:=by exact rfl)(hv:vs.lookup k=some (dC F):=by exact rfl):AVC P tb dr (.store t x y) ty ev ⟨vs,lv,N⟩ (Kq .top ⟨(k,dC (c.f nm))::vs,lv,N⟩):=by
 have:=aN (P:=P) (dr:=dr) (ty:=ty) (lv:=lv) (N:=N) L ht hy hz hx hv
 rw[hF,M4] at this
 exact this
theorem bq(ht:tb t=some i)(hz:i.zero.map E.lit=F:=by kernel_rfl):AVC P tb dr (.alloc t) ty ev ⟨vs,lv,N⟩ (Kq (.pt N 0) ⟨(N,dC F)::vs,lv,N+1⟩):=by
 subst hz
 have:=bc (P:=P) (dr:=dr) (ty:=ty) (ev:=ev) (vs:=vs) (lv:=lv) (N0:=N) ht
 unfold dC
 rw[qza3]
 exact this
theorem T_boxV(h:(ev x).cells=some (dC F):=by exact rfl):AVC P tb dr (.box t x) ty ev ⟨vs,lv,N⟩ (Kq (.pt N 0) ⟨(N,dC F)::vs,lv,N+1⟩):=d8 h
variable {hp:Hp} {j:TyE} {e:TypeId} {n:Nat} {kn:IntKind} {v:Int}
variable {s tt:TypeId} {fi:Nat} {fs:List (Nat×TypeId)}
inductive FL (tb:TypeId→Option TyE) (fs:List (Nat×TypeId)):List E→List (Nat×List D)→List E→Prop
 |nil (F:List E):FL tb fs F [] F
 |cons {γ:Type} {c:Cd γ} {F F2:List E} {o i:Nat} {b y:γ} {F':γ→List E} {rest:List (Nat×List D)} {cs:List D} (L:ao F c o b F') (hp:qB tb fs i=some (o,c.sz)) (hc:cs=dC (c.f y)) (h:FL tb fs (F' y) rest F2):FL tb fs F ((i,cs)::rest) F2
theorem FL.fill {F F2:List E}{qs:List (Nat×List D)}(h:FL tb fs F qs F2):gJ (qB tb fs) (dC F) qs=some (dC F2):=by
 induction h with
 |nil F=>rfl
 |cons L hp hc h ih=>
  rename_i c F F2 o i b y F' rest cs
  subst hc
  unfold gJ
  rw[hp]
  dsimp only
  have hl:(dC (c.f y)).length=c.sz:=by rw[gC,c.h]
  rw[aV (by rw[hl,gC];have:=L.le;omega),hl,←ih]
  congr 1
  rw[←L.p y]
  unfold dC
  simp only[nd,ub,vn]
theorem iH {ps:List (Nat×Operand)}{qs:List (Nat×List D)}{F2:List E}(h:FL tb fs F qs F2)(ht:tb t=some i)(h0:i.zero.map E.lit=F:=by kernel_rfl)(hi:i.ty=.struct fs:=by exact rfl)(ha:(fs.all fun f=>(tb f.2).isSome)=true:=by exact rfl)(hp1:kX (ps.map fun p=>(p.1,ev p.2))=some qs:=by exact rfl):AVC P tb dr (.build t ps.toArray) ty ev hp (Kq (.ag (dC F2)) hp):=by
 subst h0
 rw[yD,we,ht,hp1]
 simp only[hi]
 have:(i.zero.map fun v=>D.e (.lit v))=dC (i.zero.map E.lit):=by unfold dC;rw[qza3];rfl
 rw[this,h.fill]
 exact⟨fun f hf=>(eS.1 ha) f hf,Kq.here _ _⟩
theorem vC {σ:Nat→Nat}{m:Nat}{l:List (Nat×List D)}{F:List E}(h1:vs.lookup (σ k)=some (dC F))(hl:wkV σ m vs l)(h0:Nat.ble (k+1) m=true:=by exact rfl):wkV σ m vs ((k,dC F)::l):=
 ⟨⟨ltb h0,⟨_,h1,by rw[PI];exact sT _⟩,Cw (fun _=>rfl) _,Cw (fun _=>rfl) _⟩,hl⟩
def rnV(ρ:Nat→Nat):List (Nat×List D)→List (Nat×List D)→Prop
 |[],[]=>True
 |p::l,q::l'=>(ρ p.1=q.1∧p.2.map (D.renC ρ)=q.2∧p.2.all D.okC=true)∧rnV ρ l l'
 |_,_=>False
theorem rnV.map {ρ:Nat→Nat}:∀{l l':List (Nat×List D)},rnV ρ l l'→l.map (fun p=>(ρ p.1,p.2.map (D.renC ρ)))=l'∧(l.all fun p=>p.2.all D.okC)=true
 |[],[],_=>⟨rfl,rfl⟩
 |p::l,q::l',h=>by
  obtain⟨h1,h2⟩:=rnV.map h.2
  obtain⟨a,b,c⟩:=h.1
  refine⟨?_,by rw[cF,c,h2];rfl⟩
  rw[bN,h1,a,b]
 |[],_::_,h=>h.elim
 |_::_,[],h=>h.elim
theorem rvN {ρ:Nat→Nat}:rnV ρ [] []:=trivial
theorem rvC {ρ:Nat→Nat}{k k2:Nat}{F:List E}{l l':List (Nat×List D)}(h:rnV ρ l l')(hk:ρ k=k2:=by exact rfl):rnV ρ ((k,dC F)::l) ((k2,dC F)::l'):=⟨⟨hk,PI _ _,Cw (fun _=>rfl) _⟩,h⟩
theorem rvE {ρ:Nat→Nat}{k k2:Nat}{ds ds2:List D}{l l':List (Nat×List D)}(h:rnV ρ l l')(hk:ρ k=k2:=by exact rfl)(hd:ds.map (D.renC ρ)=ds2:=by exact rfl)(ho:ds.all D.okC=true:=by exact rfl):rnV ρ ((k,ds)::l) ((k2,ds2)::l'):=⟨⟨hk,hd,ho⟩,h⟩
theorem Bz {x:Operand}{f:FuncId}{aS:List Operand}{ts:Array TypeId}{Lt:List D}{r r':D}{GT pj vs vs1 uE:List (Nat×List D)}{GU uH lv DA:List (Nat×Nat×Nat×TypeId)}{m n' N N2:Nat}(os:List Nat)
  (xr:ev x=.e (.lit (.func (.func f) #[] #[]))) (hc:HC P f Lt ⟨GT,GU,m⟩ r ⟨pj,uH,n'⟩) (ha:frA (fun i=>os.getD i 0) m (aS.map ev) Lt) (hv:wkV (fun i=>os.getD i 0) m vs GT) (hl:wkL (fun i=>os.getD i 0) m lv GU) (hrn:rnV (rn os m N) pj vs1)
  (qw:r.ren (rn os m N)=r') (hr:r.okF=true) (hos:os.length=m:=by exact rfl) (xR:os.Nodup:=by decide) (cg:(os.all fun o=>Nat.ble (o+1) N)=true:=by exact rfl)
  (v7:vs1++vs.filter (fun p=>!os.contains p.1)=uE:=by exact rfl) (OX:frL (rn os m N) os uH lv=DA:=by exact rfl) (hN:N+(n' - m)=N2:=by exact rfl)
  (hh:hvB tb ⟨.value x,aS.toArray,ts⟩=true:=by kernel_rfl):AVC P tb dr (.call ⟨.value x,aS.toArray,ts⟩) ty ev ⟨vs,lv,N⟩ (Kq r' ⟨uE,DA,N2⟩):=
 LJ xr (HC.fr os hc ha hv hl hos xR cg hr hrn.map.2 qw (by unfold frV;rw[hrn.map.1,v7]) OX hN) rfl hh
theorem lQ {x:Operand}{f:FuncId}{ks:List Nat}{aS:List Operand}{ts:Array TypeId}{Lt:List D}{r r':D}{GT pj vs vs1 uE:List (Nat×List D)}{GU uH lv DA:List (Nat×Nat×Nat×TypeId)}{m n' N N2:Nat}(os:List Nat)
  (xr:ev x=.fn f ks) (hc:HC P f Lt ⟨GT,GU,m⟩ r ⟨pj,uH,n'⟩) (ha:frA (fun i=>os.getD i 0) m (aS.map ev++ks.map fun k=>.pt k 0) Lt) (hv:wkV (fun i=>os.getD i 0) m vs GT) (hl:wkL (fun i=>os.getD i 0) m lv GU) (hrn:rnV (rn os m N) pj vs1)
  (qw:r.ren (rn os m N)=r') (hr:r.okF=true) (hos:os.length=m:=by exact rfl) (xR:os.Nodup:=by decide) (cg:(os.all fun o=>Nat.ble (o+1) N)=true:=by exact rfl)
  (v7:vs1++vs.filter (fun p=>!os.contains p.1)=uE:=by exact rfl) (OX:frL (rn os m N) os uH lv=DA:=by exact rfl) (hN:N+(n' - m)=N2:=by exact rfl)
  (hh:hvB tb ⟨.value x,aS.toArray,ts⟩=true:=by kernel_rfl):AVC P tb dr (.call ⟨.value x,aS.toArray,ts⟩) ty ev ⟨vs,lv,N⟩ (Kq r' ⟨uE,DA,N2⟩):=
 T_callF xr (HC.fr os hc ha hv hl hos xR cg hr hrn.map.2 qw (by unfold frV;rw[hrn.map.1,v7]) OX hN) rfl hh
theorem ex_G {α:Type}(c:Cd α)(a:α):D.ex (dG c a)=dG c a:=by
 show D.ag (((c.f a).map D.e).map D.exC)=_
 rw[qza3];rfl
theorem dT {α:Type}(c:Cd α)(a:α):(D.ex (dG c a)).le (dG c a):=by rw[ex_G];exact al _
theorem uu {α:Type}(c:Cd α)(a:α):(dG c a).okF=true:=Cw (p:=D.okC) (fun _=>rfl) (c.f a)
theorem sx {off z m:Nat}(hb:0≤v∧v<(n:Int))(ht:tb t=some i)(he:tb e=some j)(hi:i.ty=.slice e:=by exact rfl)(hx:ev x=.ow m off z n:=by exact rfl)(hz:z=j.size:=by exact rfl)(hy:ev y=dI kn v:=by exact rfl):AVC P tb dr (.indexAddr t x y) ty ev hp (Kq (.pt m (off+v.toNat*j.size)) hp):=by
 rw[t9,hx,hy,qza4,ht]
 simp only[hi,he]
 exact⟨hz,hb,Kq.here _ _⟩
end
section
variable {P:Program} {tb:TypeId→Option TyE}
structure EqC(tb:TypeId→Option TyE)(d:Nat)(t:TypeId){α:Type}(c:Cd α)(us:α→List Value):Prop where
 hf:∀x,c.f x=(us x).map E.lit
 ft:∀x,nU tb d t (us x)
 inj:∀x y,us x=us y↔x=y
theorem EqC.int {d:Nat}{t:TypeId}{k:IntKind}{i:TyE}(ht:tb t=some i)(hi:i.ty=.int k:=by exact rfl):EqC tb (d+1) t (cI k) (fun n=>[.int k n]):=
 ⟨fun _=>rfl,fun n=>by unfold nU;rw[ht];simp only[hi];exact⟨n,rfl⟩,fun x y=>by simp⟩
theorem EqC.bool {d:Nat}{t:TypeId}{i:TyE}(ht:tb t=some i)(hi:i.ty=.bool:=by exact rfl):EqC tb (d+1) t cB (fun n=>[.bool n]):=
 ⟨fun _=>rfl,fun n=>by unfold nU;rw[ht];simp only[hi];exact⟨n,rfl⟩,fun x y=>by simp⟩
theorem EqC.len {d:Nat}{t:TypeId}{α:Type}{c:Cd α}{us:α→List Value}(h:EqC tb d t c us)(x:α):(us x).length=c.sz:=by
 rw[←c.h x,h.hf,bH]
theorem Em {α:Type}{f:α→List Value}{z:Nat}(hz:∀a,(f a).length=z):∀l:List α,(l.flatMap f).length=l.length*z
 |[]=>by simp
 |a::l=>by rw[nX,fg,hz,Em hz l,nk,cO,fm,qr]
theorem Hj {α:Type}{f:α→List Value}{z:Nat}(hz:∀a,(f a).length=z):∀(l:List α) (i:Nat) (h:i<l.length),((l.flatMap f).drop (i*z)).take z=f l[i]
 |a::l,0,_=>by rw[gb,nZ,nX,AP (by rw[hz];exact bI _),kO (by rw[hz];exact bI _)];rfl
 |a::l,i+1,h=>by
  rw[nX,cO,fm,qr,←hz a,←mM,sK,hz a]
  exact Hj hz l i (by simpa using h)
theorem En {α:Type}{f:α→List Value}{z:Nat}(hz:∀a,(f a).length=z)(hi:∀x y,f x=f y→x=y):∀l m:List α,l.length=m.length→l.flatMap f=m.flatMap f→l=m
 |[],[],_,_=>rfl
 |a::l,b::m,hl,h=>by
  rw[nX,nX] at h
  obtain⟨h1,h2⟩:=Af h (by rw[hz,hz])
  rw[hi a b h1,En hz hi l m (by simpa using hl) h2]
 |[],_::_,hl,_=>by simp at hl
 |_::_,[],hl,_=>by simp at hl
theorem EqC.arr {d n:Nat}{t e:TypeId}{α:Type}{c:Cd α}{us:α→List Value}{i j:TyE}(h:EqC tb d e c us)(ht:tb t=some i)(he:tb e=some j)(hi:i.ty=.arr n e:=by exact rfl)(hz:c.sz=j.size:=by exact rfl):EqC tb (d+1) t (cA n c) (fun v=>v.toList.flatMap us):=by
 refine⟨fun v=>?_,fun v=>?_,fun v w=>⟨fun hh=>?_,fun hh=>by rw[hh]⟩⟩
 ·show v.toList.flatMap c.f=_
  rw[List.map_flatMap]
  congr 1
  exact funext h.hf
 ·unfold nU
  rw[ht]
  simp only[hi,he]
  have hl:=h.len
  refine⟨by rw[Em hl,rG,hz],fun q hq=>?_⟩
  rw[←hz,Hj hl _ _ (by rw[rG];exact hq)]
  exact h.ft _
 ·have:=En h.len (fun x y hxy=>(h.inj x y).1 hxy) v.toList w.toList (by rw[rG,rG]) hh
  exact Vector.toList_inj.1 this
theorem rC {d o off:Nat}{t:TypeId}{fs:List (Nat×TypeId)}{α:Type}{c:Cd α}{us:α→List Value}{j:TyE}{x:α}{rest:List Value}(h:EqC tb d t c us)(ht:tb t=some j)(ho:o=off)(hr:tj tb (nU tb d) fs (off+j.size) rest)(hz:c.sz=j.size:=by exact rfl):tj tb (nU tb d) ((o,t)::fs) off (us x++rest):=by
 unfold tj
 have hl:=h.len x
 rw[ht]
 refine⟨ho,?_,by rw[fg];omega,?_⟩
 ·rw[←hz,←hl,qH];exact h.ft x
 ·rw[←hz,←hl,sK,hl,hz];exact hr
theorem EqC.struct {d:Nat}{t:TypeId}{α:Type}{c:Cd α}{us:α→List Value}{i:TyE}{fs:List (Nat×TypeId)}(ht:tb t=some i)(hf:∀x,c.f x=(us x).map E.lit)(GY:∀x,tj tb (nU tb d) fs 0 (us x))(JL:∀x y,us x=us y→x=y)(hi:i.ty=.struct fs:=by exact rfl):EqC tb (d+1) t c us:=
 ⟨hf,fun x=>by unfold nU;rw[ht];simp only[hi];exact GY x,fun x y=>⟨JL x y,fun h=>by rw[h]⟩⟩
theorem qj:∀us:List Value,l7 (dC (us.map E.lit))=some us
 |[]=>rfl
 |u::us=>by
  show (l7 (dC (us.map E.lit))).map (u::·)=_
  rw[qj us];rfl
variable {dr:Bool} {ty:TypeId} {ev:Operand→D} {x y:Operand} {hp:Hp} {α:Type} {c:Cd α} {us:α→List Value} {a b:α} {t t':TypeId} {i:TyE}
theorem xH(tok:TOk P tb)(n:Nat)(hd:n≤10000)(h:EqC tb n t c us)(ht:tb t=some i)[DecidableEq α](hg:i.ty.agg=true:=by exact rfl)(hm:P.eqGuardType P.depth t=false:=by kernel_rfl)(hn:me P n t=true:=by kernel_rfl)(hx:ev x=dG c a:=by exact rfl)(hy:ev y=dG c b:=by exact rfl):AVC P tb dr (.binOp .eql t x y t') ty ev hp (Kq (dB (decide (a=b))) hp):=by
 have e:∀z,(c.f z).map D.e=dC ((us z).map E.lit):=fun z=>by rw[h.hf];rfl
 exact T_geql tok n hd ht hg hm hn hx hy (by rw[e,qj]) (by rw[e,qj]) (h.ft a) (h.ft b) (h.inj a b)
theorem xG(tok:TOk P tb)(n:Nat)(hd:n≤10000)(h:EqC tb n t c us)(ht:tb t=some i)[DecidableEq α](hg:i.ty.agg=true:=by exact rfl)(hm:P.eqGuardType P.depth t=false:=by kernel_rfl)(hn:me P n t=true:=by kernel_rfl)(hx:ev x=dG c a:=by exact rfl)(hy:ev y=dG c b:=by exact rfl):AVC P tb dr (.binOp .neq t x y t') ty ev hp (Kq (dB (decide (¬a=b))) hp):=by
 have e:∀z,(c.f z).map D.e=dC ((us z).map E.lit):=fun z=>by rw[h.hf];rfl
 exact T_gneq tok n hd ht hg hm hn hx hy (by rw[e,qj]) (by rw[e,qj]) (h.ft a) (h.ft b) (h.inj a b)
theorem z7(c:Cd α){z:Nat}(hz:c.sz=z):∀(l:List α) (m:Nat) (pre rest:List D),pre.length=m*z→rest.length=l.length*z→gJ (fun n=>some (n*z,z)) (pre++rest) ((l.zipIdx m).map fun p=>(p.2,dC (c.f p.1)))=some (pre++dC (l.flatMap c.f))
 |[],m,pre,rest,_,hr=>by
  have:rest=[]:=kL (by simpa using hr)
  subst this;rfl
 |a::l,m,pre,rest,hp,hr=>by
  have hl:(dC (c.f a)).length=z:=by rw[gC,c.h,hz]
  rw[nk,cO,fm] at hr
  show gJ (fun n=>some (n*z,z)) (pre++rest) ((m,dC (c.f a))::(l.zipIdx (m+1)).map _)=_
  unfold gJ
  dsimp only
  rw[aV (by rw[hl,fg];omega),←hp,qH,hl,←mM,sK]
  have:=z7 c hz l (m+1) (pre++dC (c.f a)) (rest.drop z) (by rw[fg,hl,hp,cO,fm]) (by rw[gY];omega)
  rw[this,gr]
  unfold dC
  rw[nX,nd]
theorem Ab:∀es:List E,t6 (dC es)=some es
 |[]=>rfl
 |e::es=>by
  show (match D.cellE (.e e),t6 (dC es) with|some x,some xs=>some (x::xs)|_,_=>none)=_
  rw[Ab es];rfl
theorem qI {vs:List (Nat×List D)}{lv:List (Nat×Nat×Nat×TypeId)}{N0:Nat}{e:TypeId}{j:TyE}{n:Nat}{ps:List (Nat×Operand)}(l:List α)(c:Cd α)(ht:tb t=some i)(he:tb e=some j)(hi:i.ty=.slice e:=by exact rfl)(hz:c.sz=j.size:=by exact rfl)(Jw:Nat.ble (0+1) (j.size)=true:=by exact rfl)(JJ:l.length=n+1:=by exact rfl)(hn:Nat.ble ((n+1)*j.size) (16777216)=true:=by exact rfl)(hp1:kX (ps.map fun p=>(p.1,ev p.2))=some ((l.zipIdx 0).map fun p=>(p.2,dC (c.f p.1))):=by exact rfl)(hd:dr=false:=by exact rfl):
  AVC P tb dr (.buildSlice t (n+1) ps.toArray) ty ev ⟨vs,lv,N0⟩ (Kq (dO N0 c l) ⟨vs,(N0,l.length,j.size,e)::lv,N0+1⟩):=by
 have hf:=z7 c hz l 0 [] (List.replicate ((n+1)*j.size) (D.e .any)) (by simp) (by rw[vh,JJ])
 rw[pB,pB] at hf
 have:=iI (P:=P) (dr:=dr) (ty:=ty) (ev:=ev) (vs:=vs) (lv:=lv) (N0:=N0) ht he hi Jw hn hp1 hf (Ab _) hd
 show AVC _ _ _ _ _ _ _ (Kq (.own N0 c.sz l.length (l.flatMap c.f)) _)
 rw[hz,JJ]
 exact this
theorem qz {tm:List (Nat×D)}{p:Tmp}{ty:TypeId}{j:Nat}{i:TyE}{F:List E}{k:D→Prop}(h:tm.lookup p=some (.pt j 0))(ht:tb ty=some i)(hg:i.ty.agg=true)(hv:hp.vars.lookup j=some (dC F))(hn:j<hp.next)(hl:F.length=i.size)(hk:k (.ag (dC F))):qA tb tm hp (.cell p ty) k:=
 bJ h ht hg hv hn (by rw[gC,hl];omega) (by rw[nZ,kO (by rw[gC,hl];exact bI _)]) hk
end
end
section
structure FW(α:Type) where
 f:α→List E
def cW {α:Type}(c:Cd α):FW (List α):=⟨fun l=>l.flatMap c.f⟩
theorem ao.seqW {α:Type}[Inhabited α](c:Cd α)(l:List α)(i:Nat)(h:i<l.length):ao ((cW c).f l) c (0+i*c.sz) l[i]! (fun y=>(cW c).f (l.set i y)):=by
 rw[dA];exact ao.seq c l i h
def vOf {α:Type}[Inhabited α](n:Nat)(l:List α):Vector α n:=Vector.ofFn fun i=>l[i.val]!
theorem xf {α:Type}[Inhabited α]{n:Nat}{l:List α}(h:l.length=n):(vOf n l).toList=l:=by
 unfold vOf
 apply Gg
 ·rw[rG,h]
 ·intro i h1 h2
  rw[Vector.getElem_toList,KF,iR l i h2]
theorem vOf_f {α:Type}[Inhabited α](c:Cd α){n:Nat}{l:List α}(h:l.length=n):(cA n c).f (vOf n l)=l.flatMap c.f:=by
 show (vOf n l).toList.flatMap c.f=_
 rw[xf h]
theorem ao.sub {α:Type}[Inhabited α]{n:Nat}(m:Nat)(c:Cd α)(v:Vector α n)(i:Nat)(h:i+m≤n){o:Nat}(ho:i*c.sz=o):ao ((cA n c).f v) (cA m c) o (vOf m ((v.toList.drop i).take m)) (fun y=>((cA n c).f v).take o++(cA m c).f y++((cA n c).f v).drop (o+m*c.sz)):=by
 subst ho
 have hl:((v.toList.drop i).take m).length=m:=by rw[ff,gY,rG];omega
 refine⟨?_,?_,fun y=>rfl⟩
 ·rw[(cA n c).h]
  show i*c.sz+m*c.sz≤n*c.sz
  rw[←cO];exact c6 _ h
 ·rw[vOf_f c hl]
  show ((v.toList.flatMap c.f).drop (i*c.sz)).take (m*c.sz)=_
  rw[ob c.f c.h,l5 c.f c.h]
section
variable {P:Program} {tb:TypeId→Option TyE} {md:Md} {ev:Operand→D} {hp:Hp} {dst:Option Tmp} {ty2:TypeId} {pos:String} {af:Array Edge} {gd:Option (Nat×Bool)} {x y:Operand} {lo hi:Option Operand} {t t2 e:TypeId} {ti j:TyE} {k k' off o o' z n m:Nat} {l h:Int}
def ML(ev:Operand→D)(b:Option Operand)(Ed l:Int):Prop:=
 match b with
 |none=>l=Ed
 |some y=>∃k,ev y=dI k l
theorem ML.val {b:Option Operand}{Ed l:Int}(h:ML ev b Ed l){L:Nat}(hL:l=L){N:Nat}(hN:Ed=N){g:Gh}{w:World}{ρ:Operand→Value}(hr:∀y,b=some y→aR hp g w (ev y) (ρ y)):(b.map ρ=none∧L=N)∨∃kd,b.map ρ=some (.int kd (L:Int)):=by
 cases b with
 |none=>exact .inl ⟨rfl,by have:l=Ed:=h;omega⟩
 |some y=>
  obtain⟨kd,hy⟩:=h
  have:=hr y rfl
  rw[hy] at this
  exact .inr ⟨kd,by rw[←hL,kB,this.lit]⟩
theorem slA(tok:TOk P tb)(hb:0≤l∧l≤h∧h≤(n:Int)∧l<(n:Int))(ht:tb t=some ti)(he:tb e=some j)(Cg:ML ev lo 0 l)(IY:ML ev hi (n:Int) h)(AD:ti.ty=.arr n e:=by exact rfl)(hx:ev x=.pt k off:=by exact rfl)(hn:Nat.ble n 1000000=true:=by exact rfl):
  n0 P tb md ⟨dst,.slice t x lo hi none,ty2,pos,af,gd⟩ ev hp (.ow k (off+l.toNat*j.size) j.size (h - l).toNat) hp:=by
 refine (Snd.calm (dr:=md.dr) fun cf _=>.pure fun B g w a hr xP=>?_).q (by cases md <;> rfl)
 have h1:=xP x (by simp[Op.operands])
 rw[hx] at h1
 obtain⟨L,rfl⟩:∃L:Nat,l=L:=⟨l.toNat,by omega⟩
 obtain⟨H,rfl⟩:∃H:Nat,h=H:=⟨h.toNat,by omega⟩
 have e1:((H:Int) - L).toNat=H - L:=by omega
 have hn':n≤1000000:=dM hn
 have hbd:=kW (P:=P) (w:=w) false n n (lo.map a.eval) (hi.map a.eval) L H (Cg.val rfl rfl fun y hy=>xP y (by subst hy;simp[Op.operands])) (IY.val rfl rfl fun y hy=>xP y (by subst hy;simp[Op.operands])) (by omega) (by omega)
 have hs:=tok.run_sizeOf he w
 generalize hv:a.eval x=v at h1
 cases h1 with
 |pt _ _ hk=>
  refine⟨.slice (some ⟨g.μ k,off+L*j.size,none⟩) (H - L) (n - L),?_,?_⟩
  ·have px:¬n=L:=by omega
   have MC:(⟨g.μ k,off,none⟩:Addr).add (L*j.size)=⟨g.μ k,off+L*j.size,none⟩:=by unfold Addr.add;split <;> simp_all
   simp[execOp,Instr.sliceAt,Instr.sureAddr,hv,run_underlying (tok.arr ht AD),hbd,hs,px,MC]
  ·rw[e1,bh]
   exact .ow _ _ _ _ _ hk (by omega) (by unfold maxLen;omega)
theorem slW(tok:TOk P tb)(hb:0≤l∧l≤h∧h≤(n:Int)∧l<(n:Int))(ht:tb t=some ti)(he:tb e=some j)(Cg:ML ev lo 0 l)(IY:ML ev hi (n:Int) h)(AD:ti.ty=.slice e:=by exact rfl)(hx:ev x=.ow k off z n:=by exact rfl)(hz:z=j.size:=by exact rfl):
  n0 P tb md ⟨dst,.slice t x lo hi none,ty2,pos,af,gd⟩ ev hp (.ow k (off+l.toNat*z) z (h - l).toNat) hp:=by
 subst hz
 refine (Snd.calm (dr:=md.dr) fun cf _=>.pure fun B g w a hr xP=>?_).q (by cases md <;> rfl)
 have h1:=xP x (by simp[Op.operands])
 rw[hx] at h1
 obtain⟨L,rfl⟩:∃L:Nat,l=L:=⟨l.toNat,by omega⟩
 obtain⟨H,rfl⟩:∃H:Nat,h=H:=⟨h.toNat,by omega⟩
 have e1:((H:Int) - L).toNat=H - L:=by omega
 have hs:=tok.run_sizeOf he w
 generalize hv:a.eval x=v at h1
 cases h1 with
 |ow _ _ _ _ c hk pf oh=>
  have hbd:=kW (P:=P) (w:=w) true n c (lo.map a.eval) (hi.map a.eval) L H (Cg.val rfl rfl fun y hy=>xP y (by subst hy;simp[Op.operands])) (IY.val rfl rfl fun y hy=>xP y (by subst hy;simp[Op.operands])) (by omega) (by omega)
  refine⟨.slice (some ⟨g.μ k,off+L*j.size,none⟩) (H - L) (c - L),?_,?_⟩
  ·have px:¬c=L:=by omega
   have MC:(⟨g.μ k,off,none⟩:Addr).add (L*j.size)=⟨g.μ k,off+L*j.size,none⟩:=by unfold Addr.add;split <;> simp_all
   simp[execOp,Instr.sliceAt,Instr.slice,hv,run_underlying (tok.slice ht AD),hbd,hs,px,MC]
  ·rw[e1,bh]
   exact .ow _ _ _ _ _ hk (by omega) (by omega)
theorem sPtr(tok:TOk P tb)(hm:Nat.ble m n=true)(ht:tb t=some ti)(AD:ti.ty=.arr m e:=by exact rfl)(hx:ev x=.ow k off z n:=by exact rfl):
  n0 P tb md ⟨dst,.sliceToArrayPointer t x,ty2,pos,af,gd⟩ ev hp (.pt k off) hp:=by
 refine (Snd.calm (dr:=md.dr) fun cf _=>.pure fun B g w a hr xP=>?_).q (by cases md <;> rfl)
 have h1:=xP x (by simp[Op.operands])
 rw[hx] at h1
 have tU:=dM hm
 generalize hv:a.eval x=v at h1
 cases h1 with
 |ow _ _ _ _ c hk pf oh=>
  refine⟨.pointer (some ⟨g.μ k,off,none⟩),?_,.pt _ _ hk⟩
  have px:¬n<m:=by omega
  simp[execOp,Instr.arrayAt,hv,run_underlying (tok.arr ht AD),px]
theorem vI {dr:Bool}{ty:TypeId}(ht:tb t=some ti)(he:tb e=some j)(hi:ti.ty=.slice e:=by exact rfl)(hx:ev x=.ow k off z n:=by exact rfl):AVC P tb dr (.call ⟨.builtin .len,#[x],#[t]⟩) ty ev hp (Kq (dI .i64 n) hp):=by
 show kw tb .len [t] [ev x] hp _
 rw[AN,La,ht]
 simp only[hi,he,hx,D.asSl]
 exact Kq.here _ _
theorem GH {dr:Bool}{ty:TypeId}{vs:List (Nat×List D)}{lv:List (Nat×Nat×Nat×TypeId)}{N:Nat}{F:List E}{β γ:Type}{c':Cd β}{b b':β}{F':β→List E}{c:Cd γ}{nw nm:List γ}(L:ao F c' o b F')(ht:tb t=some ti)(M4:nw=nm)(hF:F' b'=(cW c).f nw:=by exact rfl)(hy:(ev y).cells=some (dC (c'.f b')):=by exact rfl)(hz:c'.sz=ti.size:=by exact rfl)(hx:ev x=.pt k o:=by exact rfl)(hv:vs.lookup k=some (dC F):=by exact rfl):AVC P tb dr (.store t x y) ty ev ⟨vs,lv,N⟩ (Kq .top ⟨(k,dC ((cW c).f nm))::vs,lv,N⟩):=by
 have:=aN (P:=P) (dr:=dr) (ty:=ty) (lv:=lv) (N:=N) L ht hy hz hx hv
 rw[hF,M4] at this
 exact this
theorem EC(z:Array Value)(s:Nat)(hs:z.size=s):∀n:Nat,(madeCells z (n*s)).toList=(List.replicate n z.toList).flatten
 |0=>by simp[madeCells]
 |n+1=>by
  have ih:=EC z s hs n
  unfold madeCells at ih ⊢
  rw[Array.toList_map,Array.toList_range] at ih ⊢
  rw[cO,fm,List.range_add,nd,ih,List.replicate_succ',List.flatten_append]
  congr 1
  rw[qza3,List.flatten_cons,List.flatten_nil,vo]
  apply Gg
  ·simp[hs]
  ·intro i h1 h2
   have hi:i<s:=by simpa using h1
   simp only[List.getElem_map,List.getElem_range,Function.comp]
   rw[hs,cY,Nat.mul_add_mod,gL hi,iR z i (by omega),Array.getElem_toList]
theorem sMk {α:Type}{c:Cd α}{z0:α}{kl kc:IntKind}{v:Int}{hp':Hp}(tok:TOk P tb)(hb:0≤v∧v≤1000000)(ht:tb t=some ti)(he:tb e=some j)(hz:j.zero.map E.lit=c.f z0)(AD:ti.ty=.slice e:=by exact rfl)(hx:ev x=dI kl v:=by exact rfl)(hy:ev y=dI kc v:=by exact rfl)(hbt:Nat.ble j.bytes 100000000=true:=by exact rfl)(hp1:hp.var (dC ((cW c).f (List.replicate v.toNat z0)))=hp':=by exact rfl):
  n0 P tb md ⟨dst,.makeSlice t x y,ty2,pos,af,gd⟩ ev hp (.ow hp.next 0 j.size v.toNat) hp':=by
 subst hp1
 refine (Snd.loud (dr:=md.dr) (.step fun B g w a hr xP=>?_) (fun _=>rfl) fun _=>⟨gM _,fun j hj=>aC (by omega)⟩).q (by cases md <;> rfl)
 have h1:=xP x (by simp[Op.operands])
 have h2:=xP y (by simp[Op.operands])
 rw[hx] at h1;rw[hy] at h2
 obtain⟨f,zz,M5,Li,hf2,hf3,hf4,_⟩:=tok.inf he
 have hbt':f.bytes≤100000000:=by rw[hf2];exact dM hbt
 obtain⟨m,rfl⟩:∃m:Nat,v=m:=⟨v.toNat,by omega⟩
 have hm:m≤1000000:=by omega
 have Lf:f.bytes*m≤281474976710656:=da (iS hbt' hm) (by decide)
 have cp:=run_make (P:=P) w t e f zz (tok.slice ht AD) M5 hf3 kl kc m m (by omega) (by omega) (by rw[←qq];exact Int.ofNat_le.2 Lf) (by omega)
 rw[bh] at cp
 have hsz:zz.cells.size=f.size:=by
  have h4:=(tok e j he).2.2.1
  rw[←eW,hf4,h4,Li]
 have hlist:=EC zz.cells f.size hsz m
 have hcont:(cW c).f (List.replicate m z0)=(madeCells zz.cells (m*f.size)).toList.map E.lit:=by
  rw[hlist,hf4,List.map_flatten,LG,hz]
  show (List.replicate m z0).flatMap c.f=_
  rw[List.flatMap_def,LG]
 have h1c:∀u∈(madeCells zz.cells (m*f.size)).toList,u.oneCell'=true:=by
  intro u hu
  rw[hlist,hf4] at hu
  obtain⟨l,hl,Ld⟩:=List.mem_flatten.1 hu
  obtain rfl:=(List.mem_replicate.1 hl).2
  exact eS.1 (tok e j he).2.2.2 u Ld
 refine⟨.slice (some ⟨w.heap.size,0,none⟩) m m,_,w.alloc (.cells (madeCells zz.cells (m*f.size)) e),?_,hr.newVar _ _ e ?_ (fun i u hu=>?_),bX.var hp g w _ _,?_,(Below.refl _ _).alloc hr.base _,fun p _ h=>.inl h⟩
 ·have e1:=h1.lit
  have e2:=h2.lit
  simp only[execOp,e1,e2,Sem.run_bind,cp,Result.andThen_ok]
  rfl
 ·rw[bh,hcont,gC,bH,eW];exact bI _
 ·have uy:(madeCells zz.cells (m*f.size)).toList[i]? =some u:=by simpa using hu
  refine⟨fun _=>h1c u (cy uy),fun d hd=>?_⟩
  rw[bh,hcont] at hd
  unfold dC at hd
  rw[dZ,dZ,uy] at hd
  injection hd with hd
  subst hd
  exact .e _ _ (.lit u (h1c u (cy uy)))
 ·rw[bh]
  have:=aR.ow (hp:=hp.var (dC ((cW c).f (List.replicate ((m:Int).toNat) z0)))) (g:=g.var hp.next w.heap.size) (w:=w.alloc (.cells (madeCells zz.cells (m*f.size)) e)) hp.next 0 j.size m m (eR _) (bI _) (by unfold maxLen;omega)
  rwa[show (g.var hp.next w.heap.size).μ hp.next=w.heap.size from aQ rfl] at this
theorem L7(w:World)(t t2 ty e:TypeId)(i:TypeInfo)(hu:P.underlying t=some (.slice e))(hi:P.info? e=some i)(b o n c:Nat)(A:Option Addr)(m c':Nat)(cur:Array Value)(tt:TypeId)(cs:List Value)(hA:0<m→∃ad,A=some ad)(hl:cs.length=min m n*i.size)
  (OB:∀ad,A=some ad→∀j v,cs[j]? =some v→w.cell? (ad.add j)=some v) (hg:w.heap[b]? =some (.cells cur tt (0,0))) (D4:o+cs.length≤cur.size) (h1:∀v∈cs,v.oneCell'=true):
  (Builtin.copy_ #[t,t2] ty #[.slice (some ⟨b,o,none⟩) n c,.slice A m c']).run P w=   .ok (goInt ((min m n:Nat):Int)) (w.setRow b (cur.toList.take o++cs++cur.toList.drop (o+cs.length)).toArray):=by
 have D0:=run_storeCells_at P b o tt cs 0 cur w hg (by simpa using D4) h1
 have e0:Nat.min m n=min m n:=rfl
 cases A with
 |none=>
  have hm:m=0:=by
   rcases kN m with h|h
   ·exact h
   ·obtain⟨_,h⟩:=hA h;cases h
  subst hm
  have:cs=[]:=kL (by rw[hl];simp)
  subst this
  simp at D0
  simp[Builtin.copy_,run_underlying hu,Builtin.lenOf,Builtin.firstCells,sizeOf,typeInfo,hi,D0]
 |some a=>
  have A7:=run_loadCells_list (P:=P) w a cs (OB a rfl)
  rw[hl] at A7
  simp[Builtin.copy_,run_underlying hu,Builtin.lenOf,Builtin.firstCells,sizeOf,typeInfo,hi,e0,A7,D0]
def vJ(hp:Hp)(d:D)(z m:Nat)(xs:List E):Prop:=xs.length=m*z∧∀(B:Nat) (g:Gh) (w:World) (v:Value),HR B hp g w→aR hp g w d v→
 ∃A c us,v=.slice A m c∧(0<m→∃ad,A=some ad)∧(∀ad,A=some ad→∀j u,us[j]? =some u→w.cell? (ad.add j)=some u)∧Pw (dE w g.F) xs us
theorem vJ.own {vs:List (Nat×List D)}{lv:List (Nat×Nat×Nat×TypeId)}{N:Nat}{F:List E}{xs:List E}(hv:vs.lookup k=some (dC F))(hle:off+m*z≤F.length)(hF:(F.drop off).take (m*z)=xs):vJ ⟨vs,lv,N⟩ (.ow k off z m) z m xs:=by
 subst hF
 refine⟨by rw[ff,gY];omega,fun B g w v hr hd=>?_⟩
 cases hd with
 |ow _ _ _ _ c hk pf oh=>
  obtain⟨h1,h2,h3,cs,ty,h4,h5,h6⟩:=hr.var k _ hv
  rw[gC] at h5
  refine⟨_,c,(cs.toList.drop off).take (m*z),rfl,fun _=>⟨_,rfl⟩,fun ad ha j u hu=>?_,?_,fun j x u hx hu=>?_⟩
  ·injection ha with ha
   subst ha
   rw[eY] at hu
   split at hu
   ·rw[mN,xA] at hu
    have MC:(⟨g.μ k,off,none⟩:Addr).add j=⟨g.μ k,off+j,none⟩:=by unfold Addr.add;split <;> simp_all
    rw[MC]
    simpa[World.cell?,h4] using hu
   ·cases hu
  ·simp only[ff,gY,eW];omega
  ·rw[eY] at hx hu
   split at hx
   ·rename_i hj
    rw[aQ hj,mN,xA] at hu
    rw[mN] at hx
    have:=(h6 (off+j) u hu).2 (.e x) (by unfold dC;rw[dZ,hx];rfl)
    cases this
    assumption
   ·cases hx
theorem vJ.dat {hp:Hp}{d:D}{z m:Nat}{xs:List E}(h:d.asSl z=some (m,xs))(hl:xs.length=m*z):vJ hp d z m xs:=by
 refine⟨hl,fun B g w v hr hd=>?_⟩
 obtain⟨A,c,rfl,dK⟩:=rE hd h
 obtain⟨_,_,_,_,hA,us,Ld,hc,hp⟩:=dK.reads
 exact⟨A,c,us,rfl,fun hm=>(hA hm).imp fun ad h=>h.1,fun ad ha j u hu=>(hc ad ha j u hu).1,hp⟩
theorem dE.oneL {w:World}{F:Addr→Prop}{xs:List E}{us:List Value}(h:Pw (dE w F) xs us):∀u∈us,u.oneCell'=true:=by
 intro u hu
 obtain⟨i,hi⟩:=List.mem_iff_getElem?.1 hu
 have:i<xs.length:=by rw[h.1];exact (l8.1 hi).1
 exact (h.2 i xs[i] u (fI this) hi).one
theorem sCp {vs:List (Nat×List D)}{lv:List (Nat×Nat×Nat×TypeId)}{N:Nat}{F xs:List E}(tok:TOk P tb)(ht:tb t=some ti)(he:tb e=some j)(hs:vJ ⟨vs,lv,N⟩ (ev y) z m xs)(hv:vs.lookup k=some (dC F))(D4:off+n*z≤F.length)(AD:ti.ty=.slice e:=by exact rfl)(hx:ev x=.ow k off z n:=by exact rfl)(hz:z=j.size:=by exact rfl):
  n0 P tb md ⟨dst,.call ⟨.builtin .copy,#[x,y],#[t,t2]⟩,ty2,pos,af,gd⟩ ev ⟨vs,lv,N⟩ (dI .i64 (min m n:Nat)) ⟨(k,dC (F.take off++xs.take (min m n*z)++F.drop (off+min m n*z)))::vs,lv,N⟩:=by
 subst hz
 refine (Snd.loud (dr:=md.dr) (.step fun B g w a hr xP=>?_) (fun _=>rfl) fun h=>by simp[Hk,cpB] at h).q (by cases md <;> rfl)
 have h1:=xP x (dm (by simp))
 have h2:=xP y (dm (by simp))
 rw[hx] at h1
 obtain⟨zb,hs⟩:=hs
 obtain⟨A,c',us,hy,hA,OB,wx⟩:=hs B g w _ hr h2
 obtain⟨q1,q2,q3,cs,ty,q4,q5,q6⟩:=hr.var k _ hv
 rw[gC] at q5
 obtain⟨f,zz,M5,Li,_⟩:=tok.inf he
 have OU:min m n*j.size≤n*j.size:=c6 _ (Nat.min_le_right _ _)
 have hmin2:min m n*j.size≤m*j.size:=c6 _ (Nat.min_le_left _ _)
 have Ld:us.length=m*j.size:=by rw[←wx.1,zb]
 have htl:(us.take (min m n*j.size)).length=min m n*j.size:=by rw[ff];omega
 have hxt:(xs.take (min m n*j.size)).length=min m n*j.size:=by rw[ff];omega
 generalize hv1:a.eval x=v1 at h1
 cases h1 with
 |ow _ _ _ _ c hk pf oh=>
  have hone:∀u∈us.take (min m n*j.size),u.oneCell'=true:=fun u hu=>dE.oneL wx u (Kc hu)
  have cp:=L7 (P:=P) w t t2 ty2 e f (tok.slice ht AD) M5 (g.μ k) off n c A m c' cs ty (us.take (min m n*j.size)) hA (by rw[htl,Li]) (fun ad ha i v hi=>OB ad ha i v (by
   rw[eY] at hi
   split at hi
   ·exact hi
   ·cases hi)) q4 (by omega) hone
  have O1:=setRow_heap w (g.μ k) cs (cs.toList.take off++us.take (min m n*j.size)++cs.toList.drop (off+(us.take (min m n*j.size)).length)).toArray ty (0,0) q4
  have O6:fE ⟨vs,lv,N⟩ g w (dC F) (cs.toList.take F.length):=⟨⟨by simp only[gC,ff,eW];omega,fun i d u hd hu=>(q6 i u (by
   rw[eY] at hu
   split at hu
   ·simpa using hu
   ·cases hu)).2 d hd⟩,fun u hu=>by
   obtain⟨i,hi⟩:=List.mem_iff_getElem?.1 hu
   rw[eY] at hi
   split at hi
   ·rename_i cg
    exact (q6 i u (by simpa using hi)).1 (by rw[gC];exact cg)
   ·cases hi⟩
  have hmid:fE ⟨vs,lv,N⟩ g w (dC (xs.take (min m n*j.size))) (us.take (min m n*j.size)):=by
   refine⟨⟨by rw[gC,hxt,htl],fun i d u hd hu=>?_⟩,hone⟩
   unfold dC at hd
   rw[dZ] at hd
   cases hx':(xs.take (min m n*j.size))[i]? with
   |none=>rw[hx'] at hd;cases hd
   |some x'=>
    rw[hx'] at hd
    injection hd with hd
    subst hd
    exact .e _ _ ((wx.take _).2 i x' u hx' hu)
  have uI:fE ⟨vs,lv,N⟩ g w (dC (F.take off++xs.take (min m n*j.size)++F.drop (off+min m n*j.size))) ((cs.toList.take off++us.take (min m n*j.size)++cs.toList.drop (off+(us.take (min m n*j.size)).length)).take F.length):=by
   have:=((O6.take off).append hmid).append (O6.drop (off+min m n*j.size))
   rw[htl]
   have e1:(cs.toList.take off++us.take (min m n*j.size)++cs.toList.drop (off+min m n*j.size)).take F.length=((cs.toList.take F.length).take off++us.take (min m n*j.size))++(cs.toList.take F.length).drop (off+min m n*j.size):=by
    have hlA:(cs.toList.take off++us.take (min m n*j.size)).length=off+min m n*j.size:=by rw[fg,htl,ff,eW];omega
    rw[Kk,hlA,kO (by rw[hlA];omega),CL,Ag,rH (show off≤F.length by omega)]
   rw[e1]
   unfold dC at this ⊢
   simpa only[nd,ub,vn] using this
  have JJ:(F.take off++xs.take (min m n*j.size)++F.drop (off+min m n*j.size)).length=F.length:=by
   simp only[fg,ff,gY];omega
  have H2:=SzB.row (new:=(cs.toList.take off++us.take (min m n*j.size)++cs.toList.drop (off+(us.take (min m n*j.size)).length)).toArray) q4 (by simp only[np,fg,ff,gY,eW];omega)
  refine⟨goInt ((min m n:Nat):Int),g,_,?_,hr.setVar hv _ _ ty (by simp[World.setRow]) (fun b hb=>setRow_other w _ b _ hb) O1 (by rw[gC,JJ];simp only[np,fg,ff,gY,eW];omega) H2 (fun i u hu=>?_),bX.setVar hr hv _ (by simp[World.setRow]) (fun b hb=>setRow_other w _ b _ hb) H2,.e _ _ (.lit _ rfl),w5 w q2 _,fun _ _ h=>h⟩
  ·simp only[execOp,Array.map_map,Gs,bN,cl,resolve,invoke,builtin,hv1,hy,Sem.run_bind]
   simp[resolve,invoke,builtin,hv1,hy,cp]
  ·have uy:(cs.toList.take off++us.take (min m n*j.size)++cs.toList.drop (off+(us.take (min m n*j.size)).length))[i]? =some u:=by simpa using hu
   have hw:i<F.length→((cs.toList.take off++us.take (min m n*j.size)++cs.toList.drop (off+(us.take (min m n*j.size)).length)).take F.length)[i]? =some u:=fun hi=>by
    rw[eY,aQ hi];exact uy
   exact⟨fun hi=>uI.2 u (cy (hw (by rw[gC,JJ] at hi;exact hi))),fun d hd=>uI.1.2 i d u hd (hw (by rw[←JJ,←gC];exact (l8.1 hd).1))⟩
def lCp {α:Type}(l:List α)(o:Nat)(s:List α):List α:=l.take o++s++l.drop (o+s.length)
theorem lCp_len {α:Type}{l s:List α}{o:Nat}(h:o+s.length≤l.length):(lCp l o s).length=l.length:=by
 unfold lCp;simp only[fg,ff,gY];omega
theorem HT {α:Type}(c:Cd α)(l s:List α)(o:Nat):(lCp l o s).flatMap c.f=(l.flatMap c.f).take (o*c.sz)++s.flatMap c.f++(l.flatMap c.f).drop (o*c.sz+s.length*c.sz):=by
 unfold lCp
 rw[CW,CW,l5 c.f c.h,←cO,ob c.f c.h]
section
variable {α:Type} [Inhabited α] {c:Cd α} {vs:List (Nat×List D)} {lv:List (Nat×Nat×Nat×TypeId)} {N N0:Nat}
theorem vJ.arr {v:Vector α N0}(hv:vs.lookup k=some (dC ((cA N0 c).f v)))(o:Nat)(hm:o+m≤N0)(ho:off=o*c.sz:=by exact rfl)(hz:z=c.sz:=by exact rfl):vJ ⟨vs,lv,N⟩ (.ow k off z m) z m (((v.toList.drop o).take m).flatMap c.f):=by
 subst ho hz
 refine vJ.own hv ?_ ?_
 ·rw[(cA N0 c).h]
  show o*c.sz+m*c.sz≤N0*c.sz
  rw[←cO];exact c6 _ hm
 ·show ((v.toList.flatMap c.f).drop (o*c.sz)).take (m*c.sz)=_
  rw[ob c.f c.h,l5 c.f c.h]
theorem vJ.lst {l:List α}(hv:vs.lookup k=some (dC ((cW c).f l)))(o:Nat)(hm:o+m≤l.length)(ho:off=o*c.sz:=by exact rfl)(hz:z=c.sz:=by exact rfl):vJ ⟨vs,lv,N⟩ (.ow k off z m) z m (((l.drop o).take m).flatMap c.f):=by
 subst ho hz
 refine vJ.own hv ?_ ?_
 ·show _≤(l.flatMap c.f).length
  rw[io c.f c.h,←cO];exact c6 _ hm
 ·show ((l.flatMap c.f).drop (o*c.sz)).take (m*c.sz)=_
  rw[ob c.f c.h,l5 c.f c.h]
theorem sCpA {v:Vector α N0}{s:List α}{r:List (Nat×List D)}(tok:TOk P tb)(ht:tb t=some ti)(he:tb e=some j)(hs:vJ ⟨vs,lv,N⟩ (ev y) z m (s.flatMap c.f))(H0:s.length=m)(hv:vs.lookup k=some (dC ((cA N0 c).f v)))(o:Nat)(D4:o+n≤N0)(hr:(k,dC ((cA N0 c).f (vOf N0 (lCp v.toList o (s.take n)))))::vs=r)(ho:off=o*c.sz:=by exact rfl)(EH:z=c.sz:=by exact rfl)(AD:ti.ty=.slice e:=by exact rfl)(hx:ev x=.ow k off z n:=by exact rfl)(hz:z=j.size:=by exact rfl):
  n0 P tb md ⟨dst,.call ⟨.builtin .copy,#[x,y],#[t,t2]⟩,ty2,pos,af,gd⟩ ev ⟨vs,lv,N⟩ (dI .i64 (min m n:Nat)) ⟨r,lv,N⟩:=by
 subst ho EH hr
 have:=sCp (P:=P) (md:=md) (dst:=dst) (ty2:=ty2) (pos:=pos) (af:=af) (gd:=gd) (t2:=t2) (lv:=lv) tok ht he hs hv (by
  rw[(cA N0 c).h]
  show _≤N0*c.sz
  rw[←cO];exact c6 _ D4) AD hx hz
 have e1:(s.take n).length=min m n:=by rw[ff,H0,Nat.min_comm]
 have e2:(cA N0 c).f (vOf N0 (lCp v.toList o (s.take n)))=((cA N0 c).f v).take (o*c.sz)++(s.flatMap c.f).take (min m n*c.sz)++((cA N0 c).f v).drop (o*c.sz+min m n*c.sz):=by
  rw[vOf_f c (by rw[lCp_len (by rw[e1,rG];have:=Nat.min_le_right m n;omega),rG]),HT,e1]
  have e3:(s.flatMap c.f).take (min m n*c.sz)=(s.take n).flatMap c.f:=by
   rw[l5 c.f c.h]
   congr 1
   rcases Nat.le_total m n with h|h
   ·rw[rH h,kO (by omega),kO (by omega)]
   ·rw[Nat.min_eq_right h]
  rw[e3];rfl
 rw[e2];exact this
theorem sCpW {l s:List α}{r:List (Nat×List D)}(tok:TOk P tb)(ht:tb t=some ti)(he:tb e=some j)(hs:vJ ⟨vs,lv,N⟩ (ev y) z m (s.flatMap c.f))(H0:s.length=m)(hv:vs.lookup k=some (dC ((cW c).f l)))(o:Nat)(D4:o+n≤l.length)(hr:(k,dC ((cW c).f (lCp l o (s.take n))))::vs=r)(ho:off=o*c.sz:=by exact rfl)(EH:z=c.sz:=by exact rfl)(AD:ti.ty=.slice e:=by exact rfl)(hx:ev x=.ow k off z n:=by exact rfl)(hz:z=j.size:=by exact rfl):
  n0 P tb md ⟨dst,.call ⟨.builtin .copy,#[x,y],#[t,t2]⟩,ty2,pos,af,gd⟩ ev ⟨vs,lv,N⟩ (dI .i64 (min m n:Nat)) ⟨r,lv,N⟩:=by
 subst ho EH hr
 have:=sCp (P:=P) (md:=md) (dst:=dst) (ty2:=ty2) (pos:=pos) (af:=af) (gd:=gd) (t2:=t2) (lv:=lv) tok ht he hs hv (by
  show _≤(l.flatMap c.f).length
  rw[io c.f c.h,←cO];exact c6 _ D4) AD hx hz
 have e1:(s.take n).length=min m n:=by rw[ff,H0,Nat.min_comm]
 have e2:(cW c).f (lCp l o (s.take n))=((cW c).f l).take (o*c.sz)++(s.flatMap c.f).take (min m n*c.sz)++((cW c).f l).drop (o*c.sz+min m n*c.sz):=by
  show (lCp l o (s.take n)).flatMap c.f=_
  rw[HT,e1]
  have e3:(s.flatMap c.f).take (min m n*c.sz)=(s.take n).flatMap c.f:=by
   rw[l5 c.f c.h]
   congr 1
   rcases Nat.le_total m n with h|h
   ·rw[rH h,kO (by omega),kO (by omega)]
   ·rw[Nat.min_eq_right h]
  rw[e3];rfl
 rw[e2];exact this
end
theorem WkS.free {tm:List (Nat×D)}{vs:List (Nat×List D)}{lv:List (Nat×Nat×Nat×TypeId)}{N k:Nat}{ds:List D}(hv:vs.lookup k=some ds):∀(B:Nat) (g:Gh) (w:World) (ρ:Nat→Value),HR B ⟨vs,lv,N⟩ g w→(∀t d,tm.lookup t=some d→aR ⟨vs,lv,N⟩ g w d (ρ t))→
  ∃g':Gh,g'=⟨g.μ,g.τ,fun p=>g.F p∧p.block≠g.μ k⟩∧HR B ⟨vs.filter fun p=>!([k]:List Nat).contains p.1,lv,N⟩ g' w∧bX ⟨vs,lv,N⟩ g w ⟨vs.filter fun p=>!([k]:List Nat).contains p.1,lv,N⟩ g' w∧(∀t d,tm.lookup t=some d→aR ⟨vs.filter fun p=>!([k]:List Nat).contains p.1,lv,N⟩ g' w d (ρ t))∧∀p:Addr,p.block<B→g.F p→g'.F p:=by
 intro B g w ρ hr iK
 obtain⟨h1,h2,h3,cs,ty,h4,h5,h6⟩:=hr.var k _ hv
 have look:∀{j:Nat} {ds:List D},(vs.filter fun p=>!([k]:List Nat).contains p.1).lookup j=some ds→j≠k∧vs.lookup j=some ds:=by
  intro j ds h
  obtain⟨a,b⟩:=kH h
  exact⟨by simpa using a,b⟩
 have px:∀{j:Nat} {ds:List D},j≠k→vs.lookup j=some ds→g.μ j≠g.μ k:=fun hj hl e=>hj (hr.inj _ _ _ _ hl hv e)
 have mo:bX ⟨vs,lv,N⟩ g w ⟨vs.filter fun p=>!([k]:List Nat).contains p.1,lv,N⟩ ⟨g.μ,g.τ,fun p=>g.F p∧p.block≠g.μ k⟩ w:=by
  refine⟨bI _,fun _ _ _=>rfl,fun _ _ h=>h.1,bI _,fun _ _=>rfl,fun _ _ m _ h=>⟨m,h,bI _,fun _=>rfl⟩,fun b hb hf=>⟨rfl,fun p hp hq=>⟨hq,?_⟩,fun j ds hj=>hf.1 j ds (look hj).2,hf.2⟩,fun _=>.same fun _=>rfl⟩
  rw[hp];exact fun e=>hf.1 k _ hv e.symm
 refine⟨_,rfl,⟨fun j ds hj=>?_,fun j j' ds ds' hj GX he=>hr.inj j j' ds ds' (look hj).2 (look GX).2 he,fun id m e hi=>?_,hr.tinj,hr.base,fun p hp=>hr.fits p hp.1⟩,mo,fun t' d hd=>(iK t' d hd).mono mo,fun p hp hq=>⟨hq,?_⟩⟩
 ·obtain⟨a1,a2⟩:=look hj
  obtain⟨b1,b2,b3,t4,IV,b4,b5,b6⟩:=hr.var j ds a2
  exact⟨b1,b2,fun p hp=>⟨b3 p hp,by rw[hp];exact px a1 a2⟩,t4,IV,b4,b5,fun i u hu=>⟨(b6 i u hu).1,fun d hd=>((b6 i u hu).2 d hd).mono mo⟩⟩
 ·obtain⟨b1,us,b2,b3,b4⟩:=hr.tok id m e hi
  exact⟨b1,us,b2,b3,fun b hb=>⟨fun p hp hq=>⟨(b4 b hb).1 p hp hq,by rw[hp];exact fun e=>(b4 b hb).2 k _ hv e.symm⟩,fun j ds hj=>(b4 b hb).2 j ds (look hj).2⟩⟩
 ·intro e
  omega
theorem B2 {tm:List (Nat×D)}{d0:D}:∀{ts:List Nat} {t:Nat} {d:D},(ts.map (fun t=>(t,d0))++tm).lookup t=some d→(t∈ts∧d=d0)∨tm.lookup t=some d
 |[],t,d,h=>.inr h
 |s::ts,t,d,h=>by
  by_cases D0:t=s
  ·subst D0
   have:some d0=some d:=by rw[←h];exact ak.symm
   injection this with this
   exact .inl ⟨mL ..,this.symm⟩
  ·rcases B2 (ts:=ts) (t:=t) (d:=d) (by rw[←h];exact (aC D0).symm) with⟨h1,h2⟩|h1
   ·exact .inl ⟨ln _ h1,h2⟩
   ·exact .inr h1
theorem WkS.frzs {tm:List (Nat×D)}{vs:List (Nat×List D)}{lv:List (Nat×Nat×Nat×TypeId)}{N k z n:Nat}{F:List E}(ts:List Nat)(hz:0<z)(ht:∀t∈ts,tm.lookup t=some (.ow k 0 z n))(hv:vs.lookup k=some (dC F))(hF:F.length=n*z):
  WkS tm ⟨vs,lv,N⟩ (ts.map (fun t=>(t,.e (.sl z n F)))++tm) ⟨vs.filter fun p=>!([k]:List Nat).contains p.1,lv,N⟩:=by
 intro B g w ρ hr iK
 have one:∀t∈ts,∃g',(g':Gh)=⟨g.μ,g.τ,fun p=>g.F p∧p.block≠g.μ k⟩∧aR ⟨vs.filter fun p=>!([k]:List Nat).contains p.1,lv,N⟩ g' w (.e (.sl z n F)) (ρ t):=by
  intro t Le
  refine⟨_,rfl,?_⟩
  obtain⟨h1,h2,h3,cs,ty,h4,h5,h6⟩:=hr.var k _ hv
  have dK:=iK t _ (ht t Le)
  generalize ρ t=u at dK
  cases dK with
  |ow _ _ _ _ c hk pf oh=>
   have qF:F.length≤cs.size:=by rw[gC] at h5;exact h5
   refine .e _ _ (.sl z n F (some ⟨g.μ k,0,none⟩) c (fun i=>cs.getD i undef) hF hz pf oh (fun _=>⟨_,rfl,(eI.1 h4).1⟩) (fun ad ha i e hi=>?_) (fun i e hi=>?_))
   ·injection ha with ha
    subst ha
    have cg:i<cs.size:=cm (l8.1 hi).1 qF
    refine⟨?_,fun hf=>hf.2 (by rw[ie])⟩
    have e0:w.cell? (({block:=g.μ k,off:=0,spot:=none}:Addr).add i)=cs[0+i]? :=by
     by_cases h0:i=0
     ·subst h0;simp[World.cell?,Addr.add,h4]
     ·simp[World.cell?,Addr.add,h4,h0]
    rw[e0,dA]
    simp[dy,cg]
   ·have cg:i<cs.size:=cm (l8.1 hi).1 qF
    have hu:=h6 i (cs.getD i undef) (by simp[dy,cg])
    have:=hu.2 (.e e) (by unfold dC;rw[dZ,hi];rfl)
    cases this with
    |e _ _ h7=>exact dE.less h7 fun p hp=>hp.1
 obtain⟨g',hg',q1,q2,q3,q4⟩:=WkS.free (lv:=lv) (N:=N) (tm:=tm) (k:=k) hv B g w ρ hr iK
 subst hg'
 refine⟨_,q1,q2,fun t d hd=>?_,q4⟩
 rcases B2 hd with⟨h1,rfl⟩|h1
 ·obtain⟨g',hg',h2⟩:=one t h1
  subst hg'
  exact h2
 ·exact q3 t d h1
theorem WkS.frzG {α:Type}(c:Cd α){l:List α}{tm:List (Nat×D)}{vs:List (Nat×List D)}{lv:List (Nat×Nat×Nat×TypeId)}{N k n:Nat}(ts:List Nat)(hn:n=l.length)(ht:∀t∈ts,tm.lookup t=some (.ow k 0 c.sz n))(hv:vs.lookup k=some (dC ((cW c).f l)))(hz:Nat.ble 1 c.sz=true:=by exact rfl):
  WkS tm ⟨vs,lv,N⟩ (ts.map (fun t=>(t,.e (slE c l)))++tm) ⟨vs.filter fun p=>!([k]:List Nat).contains p.1,lv,N⟩:=by
 subst hn
 exact WkS.frzs ts (dM hz) ht hv (io c.f c.h l)
end
end
section
section
variable {P:Program} {tb:TypeId→Option TyE} {dr:Bool} {ev:Operand→D} {hp:Hp} {ty:TypeId} {α:Type}
theorem iM {t e:TypeId}{i j:TyE}{n:Nat}{ps:List (Nat×Operand)}(l:List α)(c:Cd α)(ht:tb t=some i)(he:tb e=some j)(hi:i.ty=.slice e:=by exact rfl)(hz:c.sz=j.size:=by exact rfl)(Jw:Nat.ble (0+1) (j.size)=true:=by exact rfl)(JJ:l.length=n+1:=by exact rfl)(hn:Nat.ble ((n+1)*j.size) (16777216)=true:=by exact rfl)(hp1:kX (ps.map fun p=>(p.1,ev p.2))=some ((l.zipIdx 0).map fun p=>(p.2,dC (c.f p.1))):=by exact rfl)(hd:dr=true:=by exact rfl):
  AVC P tb dr (.buildSlice t (n+1) ps.toArray) ty ev hp (Kq (dF c l) hp):=by
 have hf:=z7 c hz l 0 [] (List.replicate ((n+1)*j.size) (D.e .any)) (by simp) (by rw[vh,JJ])
 rw[pB,pB] at hf
 have:=Ao (P:=P) (dr:=dr) (ty:=ty) (ev:=ev) (hp:=hp) ht he hi Jw hn hp1 hf (Ab _) hd
 show AVC _ _ _ _ _ _ _ (Kq (.fu c.sz l.length (l.flatMap c.f)) _)
 rw[hz,JJ]
 exact this
end
end
section
def Way(ops:Array Oper):List Nat→Array Bool→Prop
 |[],s=>Region.ready .any ops s=[]
 |i::l,s=>i∈Region.ready .any ops s∧Way ops l (s.setIfInBounds i true)
def Bfr(a b:Nat):List Nat→Array Bool→Prop
 |[],_=>True
 |i::l,s=>(i=b→s.getD a false=true)∧Bfr a b l (s.setIfInBounds i true)
theorem ms {ops:Array Oper}{s:Array Bool}{i:Nat}:i∈Region.ready .any ops s↔i<ops.size∧s.getD i true=false∧∃o,ops[i]? =some o∧∀e∈o.after,Region.binds .any e=true→s.getD e.on false=true:=by
 unfold Region.ready
 rw[List.mem_filter,AO]
 refine and_congr_right fun h=>?_
 rw[cr,xC]
 refine and_congr_right fun _=>?_
 cases ho:ops[i]? with
 |none=>simp
 |some o=>
  simp only[kB,ua,Ko,Bool.or_eq_true,xC,kA,exists_eq_left']
  refine forall_congr' fun e=>forall_congr' fun _=>?_
  cases Region.binds .any e <;> simp
theorem Pk {s:Array Bool}{i j:Nat}(h:s.getD j false=true):(s.setIfInBounds i true).getD j false=true:=by
 simp only[dy] at h ⊢
 rw[Gf]
 split
 ·rename_i e
  subst e
  split
  ·rfl
  ·rename_i hs
   rw[Gm (by omega)] at h
   simp at h
 ·exact h
theorem EL {s:Array Bool}{i:Nat}(h:i<s.size):(s.setIfInBounds i true).getD i false=true:=by
 simp[dy,Gf,h]
theorem Bfr.of {a b:Nat}:∀(l:List Nat) (s:Array Bool),s.getD a false=true→Bfr a b l s
 |[],_,_=>trivial
 |_::l,_,h=>⟨fun _=>h,Bfr.of l _ (Pk h)⟩
theorem P1 {ops:Array Oper}{a b:Nat}(M7:a≠b):∀(l:List Nat) (s:Array Bool),s.size=ops.size→Way ops l s→Bfr a b l s∨Bfr b a l s
 |[],_,_,_=>.inl trivial
 |i::l,s,hs,⟨h1,h2⟩=>by
  have hi:=(ms.1 h1).1
  by_cases ha:i=a
  ·subst ha
   exact .inl ⟨fun h=>absurd h M7,Bfr.of l _ (EL (by omega))⟩
  ·by_cases hb:i=b
   ·subst hb
    exact .inr ⟨fun h=>absurd h.symm M7,Bfr.of l _ (EL (by omega))⟩
   ·rcases P1 M7 l (s.setIfInBounds i true) (by simpa using hs) h2 with h|h
    ·exact .inl ⟨fun h=>absurd h hb,h⟩
    ·exact .inr ⟨fun h=>absurd h ha,h⟩
theorem Nj {ops:Array Oper}:∀(fuel t:Nat) (s:Array Bool),s.size=ops.size→unl s ops.size≤fuel→Way ops (Region.linearise.go .any ops fuel t s []) s
 |0,t,s,hs,hu=>by
  show Region.ready .any ops s=[]
  rw[Qd]
  intro i hi
  obtain⟨h1,h2,_⟩:=ms.1 hi
  have:i∈(List.range ops.size).filter fun j=>!s.getD j false:=by
   rw[List.mem_filter,AO]
   refine⟨h1,?_⟩
   have cg:i<s.size:=by omega
   have e1:s[i]?.getD true=false:=by rw[←dy];exact h2
   rw[dy]
   rw[mK cg] at e1 ⊢
   simp at e1 ⊢
   exact e1
  have hlen:=List.length_pos_of_mem this
  unfold unl at hu
  omega
 |fuel+1,t,s,hs,hu=>by
  simp only[Region.linearise.go]
  change Way ops (match (Region.ready .any ops s)[t % (Region.ready .any ops s).length]? with
   |some i=>Region.linearise.go .any ops fuel (t / (Region.ready .any ops s).length) (s.setIfInBounds i true) [i]
   |none=>[].reverse) s
  cases hi:(Region.ready .any ops s)[t % (Region.ready .any ops s).length]? with
  |none=>
   show Region.ready .any ops s=[]
   cases hr:Region.ready .any ops s with
   |nil=>rfl
   |cons x xs=>
    rw[hr] at hi
    have cg:t % (x::xs).length<(x::xs).length:=ey _ (by simp)
    rw[fI cg] at hi
    cases hi
  |some i=>
   simp only[]
   rw[linearise_go_acc,List.reverse_singleton,List.singleton_append]
   have hm:=cy hi
   obtain⟨h1,h2,_⟩:=ms.1 hm
   have cg:i<s.size:=by omega
   have hf:s.getD i false=false:=by
    have e1:s[i]?.getD true=false:=by rw[←dy];exact h2
    rw[dy]
    rw[mK cg] at e1 ⊢
    simpa using e1
   exact⟨hm,Nj fuel _ _ (by simpa using hs) (by have:=Fg (n:=ops.size) h1 cg hf;omega)⟩
theorem Ek {P:Program}{ops:Array Oper}{Q:Exit→Act→World→Prop}:∀(l:List Nat) (fuel:Nat) (s:Array Bool) (a:Act) (w:World),wpAny P .any ops Q fuel s a w→Way ops l s→wpOps P ops Q l a w
 |[],0,_,_,_,h,_=>by simpa[wpOps] using h.2
 |[],_+1,_,_,_,h,hw=>by simpa[wpOps] using h.1 hw
 |i::l,0,_,_,_,h,hw=>by
  have:=hw.1
  rw[h.1] at this
  cases this
 |i::l,fuel+1,s,a,w,h,hw=>by
  rw[wpOps_cons]
  exact wpOp_mono (fun a w h=>Ek l fuel _ a w h hw.2) (h.2 i hw.1)
def nS:List Oper→Nat→Oper
 |[],_=>default
 |o::_,0=>o
 |_::l,n+1=>nS l n
def mc:List Nat→Nat→Nat
 |[],_=>0
 |j::l,i=>match Nat.beq j i with
  |true=>0
  |false=>mc l i+1
def HI(p:List Nat)(i:Nat):List (Nat×Nat)→List Edge
 |[]=>[]
 |(a,b)::C=>match Nat.beq b i with
  |true=>⟨mc p a,.data⟩::HI p i C
  |false=>HI p i C
def nE(p:List Nat)(C:List (Nat×Nat))(i:Nat)(o:Oper):Oper:=⟨o.dst,o.op,o.type,o.pos,((o.after.toList.map fun e=>(⟨mc p e.on,e.ground⟩:Edge))++HI p i C).toArray,none⟩
def eJ(p:List Nat)(C:List (Nat×Nat))(l:List Oper):List Oper:=p.map fun i=>nE p C i (nS l i)
def K2(p:List Nat)(l:List Oper):Bool:=Nat.beq p.length l.length&&(List.range l.length).all (fun i=>p.elem i)&&(l.all fun o=>o.guard.isNone)&&p.all (fun i=>Nat.blt i l.length)&&(List.range l.length).all fun k=>(List.range l.length).any fun i=>Nat.beq (mc p i) k
theorem nR:∀{p:List Nat} {i:Nat},i∈p→mc p i<p.length∧p[mc p i]? =some i
 |j::p,i,h=>by
  unfold mc
  cases hb:Nat.beq j i with
  |true=>exact⟨by simp,by simpa using xB hb⟩
  |false=>
   have px:¬i=j:=by
    intro e;subst e
    have:Nat.beq i i=true:=Gn i
    rw[this] at hb;cases hb
   rcases nb.1 h with h|h
   ·exact absurd h px
   ·obtain⟨h1,h2⟩:=nR h
    exact⟨by simpa using h1,by simpa using h2⟩
theorem Mb {p:List Nat}{i j:Nat}(hi:i∈p)(hj:j∈p)(h:mc p i=mc p j):i=j:=by
 have h1:=(nR hi).2
 rw[h,(nR hj).2] at h1
 injection h1 with h1
 exact h1.symm
theorem N4 {l:List Oper}{o:Oper}:∀{i:Nat},l[i]? =some o→nS l i=o:=by
 induction l with
 |nil=>intro i h;simp at h
 |cons o' l ih=>
  intro i h
  cases i with
  |zero=>rw[Kg] at h;injection h
  |succ i=>rw[Kf] at h;exact ih h
theorem zI {p:List Nat}{i:Nat}{e:Edge}:∀{C:List (Nat×Nat)},e∈HI p i C→∃a,(a,i)∈C∧e=⟨mc p a,.data⟩
 |(a,b)::C,h=>by
  unfold HI at h
  cases hb:Nat.beq b i with
  |true=>
   rw[hb] at h
   obtain rfl:=xB hb
   rcases nb.1 h with rfl|h
   ·exact⟨a,mL ..,rfl⟩
   ·obtain⟨a',h1,h2⟩:=zI h
    exact⟨a',ln _ h1,h2⟩
  |false=>
   rw[hb] at h
   obtain⟨a',h1,h2⟩:=zI h
   exact⟨a',ln _ h1,h2⟩
structure IH(p:List Nat)(l:List Oper):Prop where
 len:p.length=l.length
 mem:∀i,i<l.length→i∈p
 gd:∀o∈l,o.guard=none
 bd:∀i∈p,i<l.length
 inv:∀k,k<l.length→∃i,i<l.length∧mc p i=k
theorem Ji {p:List Nat}{l:List Oper}(h:K2 p l=true):IH p l:=by
 unfold K2 at h
 simp only[cr,eS,AO] at h
 obtain⟨⟨⟨⟨h1,h2⟩,h3⟩,h4⟩,h5⟩:=h
 refine⟨xB h1,fun i hi=>by simpa using h2 i hi,fun o ho=>by simpa using h3 o ho,fun i hi=>?_,fun k hk=>?_⟩
 ·exact dM (h4 i hi)
 ·obtain⟨i,hi,hb⟩:=List.any_eq_true.1 (h5 k hk)
  exact⟨i,AO.1 hi,xB hb⟩
section
variable {P:Program} {p:List Nat} {C:List (Nat×Nat)} {l:List Oper}
theorem IH.get(h:IH p l){i:Nat}{o:Oper}(ho:l[i]? =some o):(eJ p C l).toArray[mc p i]? =some (nE p C i o):=by
 have hi:i<l.length:=(l8.1 ho).1
 obtain⟨_,h2⟩:=nR (h.mem i hi)
 unfold eJ
 rw[CT,dZ,h2,kB,N4 ho]
theorem LY(h:IH p l){Q:Exit→Act→World→Prop}{K:Act→World→Prop}{i:Nat}(hi:i<l.length){a:Act}{w:World}(hw:wpOp P (eJ p C l).toArray Q (mc p i) K a w):wpOp P l.toArray Q i K a w:=by
 have ho:l[i]? =some l[i]:=fI hi
 unfold wpOp at hw ⊢
 rw[h.get ho] at hw
 rw[CT,ho]
 generalize hoo:l[i]=o at hw ho ⊢
 have hg:=h.gd o (cy ho)
 obtain⟨dst,op,ty,pos,af,gd⟩:=o
 simp only at hg
 subst hg
 exact hw
theorem BB(h:IH p l){Q:Exit→Act→World→Prop}:∀(is:List Nat) (a:Act) (w:World),(∀i∈is,i<l.length)→wpOps P (eJ p C l).toArray Q (is.map (mc p)) a w→wpOps P l.toArray Q is a w
 |[],a,w,_,hw=>hw
 |i::is,a,w,hi,hw=>by
  rw[bN,wpOps_cons] at hw
  rw[wpOps_cons]
  exact LY h (hi i (mL ..)) (wpOp_mono (fun a w h'=>BB h is a w (fun i AG=>hi i (ln _ AG)) h') hw)
structure Dh(p:List Nat)(n:Nat)(s s':Array Bool):Prop where
 s1:s.size=n
 s2:s'.size=n
 eq:∀i,i<n→s'[mc p i]? =s[i]?
theorem Dh.set(h:IH p l){s s':Array Bool}(hs:Dh p l.length s s'){i:Nat}(hi:i<l.length):Dh p l.length (s.setIfInBounds i true) (s'.setIfInBounds (mc p i) true):=by
 refine⟨by simpa using hs.s1,by simpa using hs.s2,fun j hj=>?_⟩
 rw[Gf,Gf]
 have hpi:mc p i<s'.size:=by rw[hs.s2,←h.len];exact (nR (h.mem i hi)).1
 by_cases hij:i=j
 ·subst hij
  rw[aQ rfl,aQ rfl,aQ hpi,aQ (by rw[hs.s1];exact hi)]
 ·rw[aV hij,aV (fun e=>hij (Mb (h.mem i hi) (h.mem j hj) e))]
  exact hs.eq j hj
theorem Dh.getD(h:IH p l){s s':Array Bool}(hs:Dh p l.length s s'){j:Nat}(d:Bool)(hj:j<l.length):s'.getD (mc p j) d=s.getD j d:=by
 rw[dy,dy,hs.eq j hj]
theorem zQ {s:Array Bool}{j:Nat}(h:s.getD j false=true):j<s.size:=by
 rcases cc j s.size with h1|h1
 ·exact h1
 ·rw[dy,Gm h1] at h;cases h
theorem G6(h:IH p l):∀(is:List Nat) (s s':Array Bool),Dh p l.length s s'→Way l.toArray is s→(∀c∈C,Bfr c.1 c.2 is s)→Way (eJ p C l).toArray (is.map (mc p)) s'
 |[],s,s',hs,hw,_=>by
  show Region.ready _ _ _=[]
  rw[Qd]
  intro k hk
  obtain⟨h1,h2,o',h3,h4⟩:=ms.1 hk
  have hkp:k<p.length:=by
   have:(eJ p C l).length=p.length:=bH _
   simpa[this] using h1
  -- the operation at k is the one that stood at i
  have hik:=h.inv k (by rw[←h.len];exact hkp)
  obtain⟨i,hi,rfl⟩:=hik
  have ho:l[i]? =some l[i]:=fI hi
  rw[h.get ho] at h3
  injection h3 with h3
  subst h3
  have:i∈Region.ready .any l.toArray s:=by
   refine ms.2 ⟨by simpa using hi,by rw[←hs.getD h true hi];exact h2,l[i],by rw[CT];exact ho,fun e he hb=>?_⟩
   have h5:=h4 ⟨mc p e.on,e.ground⟩ (by
    unfold nE
    rw[Ge]
    exact List.mem_append_left _ (sn.2 ⟨e,by simpa using he,rfl⟩)) hb
   have cg:mc p e.on<l.length:=by rw[←hs.s2];exact zQ h5
   by_cases OV:e.on∈p
   ·-- it is one of the operations
    have hon:e.on<l.length:=h.bd _ OV
    rwa[hs.getD h false hon] at h5
   ·exfalso
    have:mc p e.on=p.length:=by
     have gen:∀(q:List Nat),e.on∉q→mc q e.on=q.length:=by
      intro q
      induction q with
      |nil=>intro _;rfl
      |cons j q ih=>
       intro hq
       have px:Nat.beq j e.on=false:=by
        cases hb:Nat.beq j e.on with
        |true=>exact absurd (nb.2 (.inl (xB hb).symm)) hq
        |false=>rfl
       unfold mc
       rw[px]
       simp only[nk]
       rw[ih fun hh=>hq (ln _ hh)]
     exact gen p OV
    rw[this,h.len] at cg
    omega
  rw[show Region.ready .any l.toArray s=[] from hw] at this
  cases this
 |i::is,s,s',hs,⟨h1,h2⟩,hC=>by
  obtain⟨hi0,M5,o,ho,he⟩:=ms.1 h1
  have hi:i<l.length:=by simpa using hi0
  rw[CT] at ho
  refine⟨ms.2 ⟨?_,by rw[hs.getD h true hi];exact M5,_,h.get ho,fun e hm hb=>?_⟩,G6 h is _ _ (hs.set h hi) h2 fun c hc=>(hC c hc).2⟩
  ·have:(eJ p C l).length=p.length:=bH _
   simp only[np,this]
   exact (nR (h.mem i hi)).1
  ·unfold nE at hm
   rw[Ge] at hm
   rcases sJ.1 hm with hm|hm
   ·obtain⟨e0,he0,rfl⟩:=sn.1 hm
    have h6:=he e0 (by simpa using he0) hb
    have cg:e0.on<l.length:=by rw[←hs.s1];exact zQ h6
    rw[hs.getD h false cg];exact h6
   ·obtain⟨a,IZ,rfl⟩:=zI hm
    have h6:=(hC _ IZ).1 rfl
    have cg:a<l.length:=by rw[←hs.s1];exact zQ h6
    rw[hs.getD h false cg];exact h6
end
section
variable {P:Program} {tb:TypeId→Option TyE} {x:Cx} {tm:List (Nat×D)} {hp:Hp} {Q:Exit→List (Nat×D)→Hp→Prop} {L:List FuncId} {C:List (Nat×Nat)} {l:List Oper}
def DW(P:Program)(x:Cx)(l:List Oper)(C:List (Nat×Nat))(tm:List (Nat×D))(hp:Hp)(Q:Exit→List (Nat×D)→Hp→Prop):Prop:=
 ∀(a:Act) (w:World) (is:List Nat),RS x tm hp a w→(∀i∈is,i<l.length)→Way l.toArray is (Array.replicate l.length false)→(∀c∈C,Bfr c.1 c.2 is (Array.replicate l.length false))→wpOps P l.toArray (fun ex a' w'=>∃tm' hp',RS x tm' hp' a' w'∧Q ex tm' hp') is a w
theorem RS.drew {a:Act}{w:World}(h:RS x tm hp a w):RS x tm hp a {w with drawn:=w.drawn+1}:=by
 obtain⟨g,hr,iK,hsz,sS,hB,hF,hM⟩:=h
 exact⟨g,hr.keep (bI _) (fun _ _=>rfl),fun t d hl=>(iK t d hl).mono (bX.keep hp g (bI _) (fun _ _=>rfl)),hsz,sS,hB.drew,hF,hM.trans (bX.keep hp g (bI _) (fun _ _=>rfl))⟩
theorem Ni {ops:Array Oper}:∀(is:List Nat) (s:Array Bool),Way ops is s→∀i∈is,i<ops.size
 |[],_,_,_,h=>by cases h
 |j::is,s,hw,i,h=>by
  rcases nb.1 h with rfl|h
  ·exact (ms.1 hw.1).1
  ·exact Ni is _ hw.2 i h
theorem AW.dw {id:Nat}(hm:P.follows .mixedOrders=true)(h:DW P x l [] tm hp Q):AW P x (.region id l.toArray true) tm hp Q:=by
 intro a w hr
 refine wp_region_draw fun t=>?_
 simp only[Region.schedule,hm,Bool.true_or,aO]
 have hway:=Nj (ops:=l.toArray) l.toArray.size t (Array.replicate l.toArray.size false) (by simp) (by unfold unl;exact da (Gk _ _) (by simp))
 have cg:=Ni _ _ hway
 simp only[np] at hway cg
 exact h a _ _ hr.drew cg hway (fun c hc=>by cases hc)
theorem DW.split(a b:Nat)(M7:a≠b)(h1:DW P x l ((a,b)::C) tm hp Q)(h2:DW P x l ((b,a)::C) tm hp Q):DW P x l C tm hp Q:=by
 intro ac w is hr cg hw hC
 rcases P1 M7 is _ (by simp) hw with h|h
 ·exact h1 ac w is hr cg hw fun c hc=>by
   rcases nb.1 hc with rfl|hc
   ·exact h
   ·exact hC c hc
 ·exact h2 ac w is hr cg hw fun c hc=>by
   rcases nb.1 hc with rfl|hc
   ·exact h
   ·exact hC c hc
theorem I2 {ops:Array Oper}(hN:ku x.N ops=true)(qE:wO tb L ops=true)
  (h:∀K:List (Nat×D)→Hp→Prop,(∀tm hp,Q .normal tm hp→K tm hp)→bT P tb (.any L) ops K ops.toList tm hp) {a:Act} {w:World} (hr:RS x tm hp a w):wpAny P .any ops (fun ex a' w'=>∃tm' hp',RS x tm' hp' a' w'∧Q ex tm' hp') ops.size (Array.replicate ops.size false) a w:=by
 obtain⟨dd,hh,ac,tms,cp,hK,h1,h2⟩:=Je (ops:=ops) ops.toList 0 (fun _=>.top) (fun _=>hp) (fun _=>false) (fun _=>tm) ⟨fun _ _ h=>absurd h (by omega),fun _ _ h=>absurd h (by omega),fun _ _ h=>absurd h (by omega)⟩ rfl (h _ fun _ _ h=>h)
 simp only[dA,eW] at cp hK h1 h2
 obtain⟨g,OF,iK,hsz,sS,hB,hF,hM⟩:=hr
 refine G5 hN (BV qE) cp (fun a w hr=>⟨_,_,hr,hK⟩) ops.size _ a _ 0 g ?_ ?_
 ·have Cb:∀j,¬(Array.replicate ops.size false).getD j false=true:=by
   intro j
   simp[dy,Gl]
   split <;> simp
  refine⟨by simp,fun i _ _ _ hl=>absurd hl (Cb i),fH _,fun j _ _ _=>⟨fun hl=>absurd hl (Cb j),fun h=>absurd h (by omega)⟩,?_,fun t d hl=>?_,hsz,sS,hB,hF,?_⟩
  rotate_right
  ·rw[h2];exact hM
  ·rw[h2];exact OF
  ·rw[h2]
   rcases hl with⟨i,_,_,hl,_⟩|⟨_,hl⟩
   ·exact absurd hl (Cb i)
   ·rw[h1] at hl
    exact iK t d hl
 ·unfold unl
  exact da (Gk _ _) (by simp)
theorem DW.go(p:List Nat)(hp1:K2 p l=true)(hN:ku x.N (eJ p C l).toArray=true)(qE:wO tb L (eJ p C l).toArray=true)
  (h:∀K:List (Nat×D)→Hp→Prop,(∀tm hp,Q .normal tm hp→K tm hp)→bT P tb (.any L) (eJ p C l).toArray K (eJ p C l) tm hp):DW P x l C tm hp Q:=by
 intro a w is hr cg hw hC
 have hP:=Ji hp1
 have h1:=I2 hN qE h hr
 have hlen:(eJ p C l).toArray.size=l.length:=by simp[eJ,hP.len]
 rw[hlen] at h1
 have hs0:Dh p l.length (Array.replicate l.length false) (Array.replicate l.length false):=by
  refine⟨by simp,by simp,fun i hi=>?_⟩
  have:=(nR (hP.mem i hi)).1
  rw[Gl,Gl,aQ hi,aQ (by rw[←hP.len];exact this)]
 exact BB hP is a w cg (Ek _ _ _ a w h1 (G6 hP is _ _ hs0 hw hC))
end
end
def tblL:List (Nat×TyE):=[
 (2,⟨.int .i64,1,8,[.int .i64 (0)]⟩),
 (3,⟨.int .i64,1,8,[.int .i64 (0)]⟩),
 (4,⟨.bool,1,1,[.bool false]⟩),
 (5,⟨.int .u8,1,1,[.int .u8 (0)]⟩),
 (9,⟨.str,1,16,[.string ⟨#[]⟩]⟩),
 (12,⟨.int .u64,1,8,[.int .u64 (0)]⟩),
 (13,⟨.struct [(0,9),(1,12)],2,24,[.string ⟨#[]⟩,.int .u64 (0)]⟩),
 (21,⟨.int .i32,1,4,[.int .i32 (0)]⟩),
 (22,⟨.slice 34,1,24,[.slice none 0 0]⟩),
 (23,⟨.struct [(0,3),(1,3),(2,22)],3,40,[.int .i64 (0),.int .i64 (0),.slice none 0 0]⟩),
 (24,⟨.struct [(0,3),(1,3),(2,22)],3,40,[.int .i64 (0),.int .i64 (0),.slice none 0 0]⟩),
 (26,⟨.int .i64,1,8,[.int .i64 (0)]⟩),
 (29,⟨.int .u32,1,4,[ai]⟩),
 (30,⟨.arr 16 29,16,64,[ai,ai,ai,ai,ai,ai,ai,ai,ai,ai,ai,ai,ai,ai,ai,ai]⟩),
 (31,⟨.struct [(0,4),(1,4),(2,30)],18,68,[.bool false,.bool false,ai,ai,ai,ai,ai,ai,ai,ai,ai,ai,ai,ai,ai,ai,ai,ai]⟩),
 (32,⟨.struct [(0,4),(1,4),(2,30)],18,68,[.bool false,.bool false,ai,ai,ai,ai,ai,ai,ai,ai,ai,ai,ai,ai,ai,ai,ai,ai]⟩),
 (33,⟨.struct [(0,32),(18,32)],36,136,[.bool false,.bool false,ai,ai,ai,ai,ai,ai,ai,ai,ai,ai,ai,ai,ai,ai,ai,ai,.bool false,.bool false,ai,ai,ai,ai,ai,ai,ai,ai,ai,ai,ai,ai,ai,ai,ai,ai]⟩),
 (34,⟨.struct [(0,32),(18,32)],36,136,[.bool false,.bool false,ai,ai,ai,ai,ai,ai,ai,ai,ai,ai,ai,ai,ai,ai,ai,ai,.bool false,.bool false,ai,ai,ai,ai,ai,ai,ai,ai,ai,ai,ai,ai,ai,ai,ai,ai]⟩),
 (35,⟨.slice 3,1,24,[.slice none 0 0]⟩),
 (44,⟨.struct [(0,24),(3,35),(4,22),(5,4),(6,26),(7,3)],8,112,[.int .i64 (0),.int .i64 (0),.slice none 0 0,.slice none 0 0,.slice none 0 0,.bool false,.int .i64 (0),.int .i64 (0)]⟩),
 (45,⟨.struct [(0,24),(3,35),(4,22),(5,4),(6,26),(7,3)],8,112,[.int .i64 (0),.int .i64 (0),.slice none 0 0,.slice none 0 0,.slice none 0 0,.bool false,.int .i64 (0),.int .i64 (0)]⟩),
 (47,⟨.struct [(0,34),(36,26)],37,144,[.bool false,.bool false,ai,ai,ai,ai,ai,ai,ai,ai,ai,ai,ai,ai,ai,ai,ai,ai,.bool false,.bool false,ai,ai,ai,ai,ai,ai,ai,ai,ai,ai,ai,ai,ai,ai,ai,ai,.int .i64 (0)]⟩),
 (48,⟨.struct [(0,34),(36,26)],37,144,[.bool false,.bool false,ai,ai,ai,ai,ai,ai,ai,ai,ai,ai,ai,ai,ai,ai,ai,ai,.bool false,.bool false,ai,ai,ai,ai,ai,ai,ai,ai,ai,ai,ai,ai,ai,ai,ai,ai,.int .i64 (0)]⟩),
 (52,⟨.slice 22,1,24,[.slice none 0 0]⟩),
 (55,⟨.struct [(0,52),(1,26)],2,32,[.slice none 0 0,.int .i64 (0)]⟩),
 (56,⟨.struct [(0,52),(1,26)],2,32,[.slice none 0 0,.int .i64 (0)]⟩),
 (60,⟨.struct [(0,4),(1,26)],2,16,[.bool false,.int .i64 (0)]⟩),
 (61,⟨.struct [(0,4),(1,26)],2,16,[.bool false,.int .i64 (0)]⟩),
 (64,⟨.struct [(0,24),(3,26)],4,48,[.int .i64 (0),.int .i64 (0),.slice none 0 0,.int .i64 (0)]⟩),
 (65,⟨.struct [(0,24),(3,26)],4,48,[.int .i64 (0),.int .i64 (0),.slice none 0 0,.int .i64 (0)]⟩),
 (71,⟨.struct [(0,22),(1,26)],2,32,[.slice none 0 0,.int .i64 (0)]⟩),
 (72,⟨.struct [(0,22),(1,26)],2,32,[.slice none 0 0,.int .i64 (0)]⟩),
 (95,⟨.slice 102,1,24,[.slice none 0 0]⟩),
 (96,⟨.struct [(0,24),(3,95)],4,64,[.int .i64 (0),.int .i64 (0),.slice none 0 0,.slice none 0 0]⟩),
 (97,⟨.struct [(0,24),(3,95)],4,64,[.int .i64 (0),.int .i64 (0),.slice none 0 0,.slice none 0 0]⟩),
 (101,⟨.struct [(0,3),(1,34),(37,4)],38,152,[.int .i64 (0),.bool false,.bool false,ai,ai,ai,ai,ai,ai,ai,ai,ai,ai,ai,ai,ai,ai,ai,ai,.bool false,.bool false,ai,ai,ai,ai,ai,ai,ai,ai,ai,ai,ai,ai,ai,ai,ai,ai,.bool false]⟩),
 (102,⟨.struct [(0,3),(1,34),(37,4)],38,152,[.int .i64 (0),.bool false,.bool false,ai,ai,ai,ai,ai,ai,ai,ai,ai,ai,ai,ai,ai,ai,ai,ai,.bool false,.bool false,ai,ai,ai,ai,ai,ai,ai,ai,ai,ai,ai,ai,ai,ai,ai,ai,.bool false]⟩),
 (122,⟨.slice 24,1,24,[.slice none 0 0]⟩),
 (130,⟨.int .u64,1,8,[.int .u64 (0)]⟩),
 (134,⟨.arr 32 29,32,128,[ai,ai,ai,ai,ai,ai,ai,ai,ai,ai,ai,ai,ai,ai,ai,ai,ai,ai,ai,ai,ai,ai,ai,ai,ai,ai,ai,ai,ai,ai,ai,ai]⟩),
 (136,⟨.int .u64,1,8,[.int .u64 (0)]⟩),
 (137,⟨.slice 29,1,24,[.slice none 0 0]⟩),
 (149,⟨.slice 32,1,24,[.slice none 0 0]⟩),
 (172,⟨.arr 17 29,17,68,[ai,ai,ai,ai,ai,ai,ai,ai,ai,ai,ai,ai,ai,ai,ai,ai,ai]⟩)
]
def tbl(t:TypeId):Option TyE:=tblL.lookup t
theorem tb_2:tbl 2=some ⟨.int .i64,1,8,[.int .i64 (0)]⟩:=rfl
theorem aT:tbl 3=some ⟨.int .i64,1,8,[.int .i64 (0)]⟩:=rfl
theorem fF:tbl 4=some ⟨.bool,1,1,[.bool false]⟩:=rfl
theorem tb_5:tbl 5=some ⟨.int .u8,1,1,[.int .u8 (0)]⟩:=rfl
theorem tb_9:tbl 9=some ⟨.str,1,16,[.string ⟨#[]⟩]⟩:=rfl
theorem tb_12:tbl 12=some ⟨.int .u64,1,8,[.int .u64 (0)]⟩:=rfl
theorem tb_13:tbl 13=some ⟨.struct [(0,9),(1,12)],2,24,[.string ⟨#[]⟩,.int .u64 (0)]⟩:=rfl
theorem tb_21:tbl 21=some ⟨.int .i32,1,4,[.int .i32 (0)]⟩:=rfl
theorem aF:tbl 22=some ⟨.slice 34,1,24,[.slice none 0 0]⟩:=rfl
theorem tb_23:tbl 23=some ⟨.struct [(0,3),(1,3),(2,22)],3,40,[.int .i64 (0),.int .i64 (0),.slice none 0 0]⟩:=rfl
theorem aq:tbl 24=some ⟨.struct [(0,3),(1,3),(2,22)],3,40,[.int .i64 (0),.int .i64 (0),.slice none 0 0]⟩:=rfl
theorem Hs:tbl 26=some ⟨.int .i64,1,8,[.int .i64 (0)]⟩:=rfl
theorem aP:tbl 29=some ⟨.int .u32,1,4,[ai]⟩:=rfl
theorem aH:tbl 30=some ⟨.arr 16 29,16,64,[ai,ai,ai,ai,ai,ai,ai,ai,ai,ai,ai,ai,ai,ai,ai,ai]⟩:=rfl
theorem tb_31:tbl 31=some ⟨.struct [(0,4),(1,4),(2,30)],18,68,[.bool false,.bool false,ai,ai,ai,ai,ai,ai,ai,ai,ai,ai,ai,ai,ai,ai,ai,ai]⟩:=rfl
theorem qza0:tbl 32=some ⟨.struct [(0,4),(1,4),(2,30)],18,68,[.bool false,.bool false,ai,ai,ai,ai,ai,ai,ai,ai,ai,ai,ai,ai,ai,ai,ai,ai]⟩:=rfl
theorem tb_33:tbl 33=some ⟨.struct [(0,32),(18,32)],36,136,[.bool false,.bool false,ai,ai,ai,ai,ai,ai,ai,ai,ai,ai,ai,ai,ai,ai,ai,ai,.bool false,.bool false,ai,ai,ai,ai,ai,ai,ai,ai,ai,ai,ai,ai,ai,ai,ai,ai]⟩:=rfl
theorem ax:tbl 34=some ⟨.struct [(0,32),(18,32)],36,136,[.bool false,.bool false,ai,ai,ai,ai,ai,ai,ai,ai,ai,ai,ai,ai,ai,ai,ai,ai,.bool false,.bool false,ai,ai,ai,ai,ai,ai,ai,ai,ai,ai,ai,ai,ai,ai,ai,ai]⟩:=rfl
theorem cz:tbl 35=some ⟨.slice 3,1,24,[.slice none 0 0]⟩:=rfl
theorem tb_44:tbl 44=some ⟨.struct [(0,24),(3,35),(4,22),(5,4),(6,26),(7,3)],8,112,[.int .i64 (0),.int .i64 (0),.slice none 0 0,.slice none 0 0,.slice none 0 0,.bool false,.int .i64 (0),.int .i64 (0)]⟩:=rfl
theorem tb_45:tbl 45=some ⟨.struct [(0,24),(3,35),(4,22),(5,4),(6,26),(7,3)],8,112,[.int .i64 (0),.int .i64 (0),.slice none 0 0,.slice none 0 0,.slice none 0 0,.bool false,.int .i64 (0),.int .i64 (0)]⟩:=rfl
theorem tb_47:tbl 47=some ⟨.struct [(0,34),(36,26)],37,144,[.bool false,.bool false,ai,ai,ai,ai,ai,ai,ai,ai,ai,ai,ai,ai,ai,ai,ai,ai,.bool false,.bool false,ai,ai,ai,ai,ai,ai,ai,ai,ai,ai,ai,ai,ai,ai,ai,ai,.int .i64 (0)]⟩:=rfl
theorem tb_48:tbl 48=some ⟨.struct [(0,34),(36,26)],37,144,[.bool false,.bool false,ai,ai,ai,ai,ai,ai,ai,ai,ai,ai,ai,ai,ai,ai,ai,ai,.bool false,.bool false,ai,ai,ai,ai,ai,ai,ai,ai,ai,ai,ai,ai,ai,ai,ai,ai,.int .i64 (0)]⟩:=rfl
theorem nz:tbl 52=some ⟨.slice 22,1,24,[.slice none 0 0]⟩:=rfl
theorem tb_55:tbl 55=some ⟨.struct [(0,52),(1,26)],2,32,[.slice none 0 0,.int .i64 (0)]⟩:=rfl
theorem tb_56:tbl 56=some ⟨.struct [(0,52),(1,26)],2,32,[.slice none 0 0,.int .i64 (0)]⟩:=rfl
theorem tb_60:tbl 60=some ⟨.struct [(0,4),(1,26)],2,16,[.bool false,.int .i64 (0)]⟩:=rfl
theorem tb_61:tbl 61=some ⟨.struct [(0,4),(1,26)],2,16,[.bool false,.int .i64 (0)]⟩:=rfl
theorem tb_64:tbl 64=some ⟨.struct [(0,24),(3,26)],4,48,[.int .i64 (0),.int .i64 (0),.slice none 0 0,.int .i64 (0)]⟩:=rfl
theorem bW:tbl 65=some ⟨.struct [(0,24),(3,26)],4,48,[.int .i64 (0),.int .i64 (0),.slice none 0 0,.int .i64 (0)]⟩:=rfl
theorem tb_71:tbl 71=some ⟨.struct [(0,22),(1,26)],2,32,[.slice none 0 0,.int .i64 (0)]⟩:=rfl
theorem tb_72:tbl 72=some ⟨.struct [(0,22),(1,26)],2,32,[.slice none 0 0,.int .i64 (0)]⟩:=rfl
theorem um:tbl 95=some ⟨.slice 102,1,24,[.slice none 0 0]⟩:=rfl
theorem tb_96:tbl 96=some ⟨.struct [(0,24),(3,95)],4,64,[.int .i64 (0),.int .i64 (0),.slice none 0 0,.slice none 0 0]⟩:=rfl
theorem ly:tbl 97=some ⟨.struct [(0,24),(3,95)],4,64,[.int .i64 (0),.int .i64 (0),.slice none 0 0,.slice none 0 0]⟩:=rfl
theorem tb_101:tbl 101=some ⟨.struct [(0,3),(1,34),(37,4)],38,152,[.int .i64 (0),.bool false,.bool false,ai,ai,ai,ai,ai,ai,ai,ai,ai,ai,ai,ai,ai,ai,ai,ai,.bool false,.bool false,ai,ai,ai,ai,ai,ai,ai,ai,ai,ai,ai,ai,ai,ai,ai,ai,.bool false]⟩:=rfl
theorem jS:tbl 102=some ⟨.struct [(0,3),(1,34),(37,4)],38,152,[.int .i64 (0),.bool false,.bool false,ai,ai,ai,ai,ai,ai,ai,ai,ai,ai,ai,ai,ai,ai,ai,ai,.bool false,.bool false,ai,ai,ai,ai,ai,ai,ai,ai,ai,ai,ai,ai,ai,ai,ai,ai,.bool false]⟩:=rfl
theorem pH:tbl 122=some ⟨.slice 24,1,24,[.slice none 0 0]⟩:=rfl
theorem tb_130:tbl 130=some ⟨.int .u64,1,8,[.int .u64 (0)]⟩:=rfl
theorem xg:tbl 134=some ⟨.arr 32 29,32,128,[ai,ai,ai,ai,ai,ai,ai,ai,ai,ai,ai,ai,ai,ai,ai,ai,ai,ai,ai,ai,ai,ai,ai,ai,ai,ai,ai,ai,ai,ai,ai,ai]⟩:=rfl
theorem tb_136:tbl 136=some ⟨.int .u64,1,8,[.int .u64 (0)]⟩:=rfl
theorem Ns:tbl 137=some ⟨.slice 29,1,24,[.slice none 0 0]⟩:=rfl
theorem rj:tbl 149=some ⟨.slice 32,1,24,[.slice none 0 0]⟩:=rfl
theorem ng:tbl 172=some ⟨.arr 17 29,17,68,[ai,ai,ai,ai,ai,ai,ai,ai,ai,ai,ai,ai,ai,ai,ai,ai,ai]⟩:=rfl
class TB (t:TypeId) (i:outParam TyE):Prop where
 h:tbl t=some i
theorem tbI {t:TypeId}{i:TyE}[h:TB t i]:tbl t=some i:=h.h
@[reducible,instance] def itb_2:=TB.mk tb_2
@[reducible,instance] def itb_3:=TB.mk aT
@[reducible,instance] def itb_4:=TB.mk fF
@[reducible,instance] def itb_5:=TB.mk tb_5
@[reducible,instance] def itb_9:=TB.mk tb_9
@[reducible,instance] def itb_12:=TB.mk tb_12
@[reducible,instance] def itb_13:=TB.mk tb_13
@[reducible,instance] def itb_21:=TB.mk tb_21
@[reducible,instance] def itb_22:=TB.mk aF
@[reducible,instance] def itb_23:=TB.mk tb_23
@[reducible,instance] def itb_24:=TB.mk aq
@[reducible,instance] def itb_26:=TB.mk Hs
@[reducible,instance] def itb_29:=TB.mk aP
@[reducible,instance] def itb_30:=TB.mk aH
@[reducible,instance] def itb_31:=TB.mk tb_31
@[reducible,instance] def itb_32:=TB.mk qza0
@[reducible,instance] def itb_33:=TB.mk tb_33
@[reducible,instance] def itb_34:=TB.mk ax
@[reducible,instance] def itb_35:=TB.mk cz
@[reducible,instance] def itb_44:=TB.mk tb_44
@[reducible,instance] def itb_45:=TB.mk tb_45
@[reducible,instance] def itb_47:=TB.mk tb_47
@[reducible,instance] def itb_48:=TB.mk tb_48
@[reducible,instance] def itb_52:=TB.mk nz
@[reducible,instance] def itb_55:=TB.mk tb_55
@[reducible,instance] def itb_56:=TB.mk tb_56
@[reducible,instance] def itb_60:=TB.mk tb_60
@[reducible,instance] def itb_61:=TB.mk tb_61
@[reducible,instance] def itb_64:=TB.mk tb_64
@[reducible,instance] def itb_65:=TB.mk bW
@[reducible,instance] def itb_71:=TB.mk tb_71
@[reducible,instance] def itb_72:=TB.mk tb_72
@[reducible,instance] def itb_95:=TB.mk um
@[reducible,instance] def itb_96:=TB.mk tb_96
@[reducible,instance] def itb_97:=TB.mk ly
@[reducible,instance] def itb_101:=TB.mk tb_101
@[reducible,instance] def itb_102:=TB.mk jS
@[reducible,instance] def itb_122:=TB.mk pH
@[reducible,instance] def itb_130:=TB.mk tb_130
@[reducible,instance] def itb_134:=TB.mk xg
@[reducible,instance] def itb_136:=TB.mk tb_136
@[reducible,instance] def itb_137:=TB.mk Ns
@[reducible,instance] def itb_149:=TB.mk rj
@[reducible,instance] def itb_172:=TB.mk ng
def Qq(P:Program):List (Nat×TyE)→Prop
 |[]=>True
 |(t,i)::l=>((P.underlying t).map Ty.of=some i.ty∧(P.info? t).map (fun f=>(f.size,f.bytes,f.zero.map fun v=>(v.cells.toList,v.isAggV)))=some (i.size,i.bytes,some (i.zero,i.ty.agg))∧i.zero.length=i.size∧i.zero.all Value.oneCell'=true)∧Qq P l
theorem Qq.get {P:Program}:∀{l:List (Nat×TyE)} {t:Nat} {i:TyE},Qq P l→l.lookup t=some i→(P.underlying t).map Ty.of=some i.ty∧(P.info? t).map (fun f=>(f.size,f.bytes,f.zero.map fun v=>(v.cells.toList,v.isAggV)))=some (i.size,i.bytes,some (i.zero,i.ty.agg))∧i.zero.length=i.size∧i.zero.all Value.oneCell'=true
 |[],t,i,_,h=>by simp at h
 |(s,j)::l,t,i,h,hl=>by
  by_cases Le:t=s
  ·subst Le
   have:some j=some i:=by rw[←hl];exact ak.symm
   injection this with this
   subst this
   exact h.1
  ·exact Qq.get h.2 (by rw[←hl];exact (aC Le).symm)
theorem tokL:Qq prog tblL:=by
 iterate 44 refine⟨⟨by kernel_rfl,by kernel_rfl,by kernel_rfl,by kernel_rfl⟩,?_⟩
 exact trivial
theorem tok:TOk prog tbl:=fun _ _ h=>tokL.get h
theorem yf:prog.underlying 4=some .bool:=by kernel_rfl
section
section
variable {md:Md} {ops:Array Oper} {K:List (Nat×D)→Hp→Prop} {os:List Oper} {tm:List (Nat×D)} {hp hp':Hp} {t s:Tmp} {op:Op} {ty:TypeId} {pos:String} {af:Array Edge} {d d2:D} {j:Nat} {want c:Bool}
theorem s1(h:AVC prog tbl md.dr op ty (evD tm) hp (Kq d hp'))(h2:bT prog tbl md ops K os ((t,d)::tm) hp')(hn:md.nc tbl op=true:=by exact rfl):bT prog tbl md ops K (⟨some t,op,ty,pos,af,none⟩::os) tm hp:=st tok hn h h2
theorem s0(h:AVC prog tbl md.dr op ty (evD tm) hp (Kq d hp'))(h2:bT prog tbl md ops K os tm hp')(hn:md.nc tbl op=true:=by exact rfl):bT prog tbl md ops K (⟨none,op,ty,pos,af,none⟩::os) tm hp:=st_n tok hn h h2
theorem s2(h:AVC prog tbl md.dr op ty (evD tm) hp (Kq d hp'))(hl:d.le d2)(h2:bT prog tbl md ops K os ((t,d2)::tm) hp')(hn:md.nc tbl op=true:=by exact rfl):bT prog tbl md ops K (⟨some t,op,ty,pos,af,none⟩::os) tm hp:=st_le tok hn h hl h2
theorem g1(hw:c=want)(h:AVC prog tbl md.dr op ty (evD tm) hp (Kq d hp'))(h2:bT prog tbl md ops K os ((t,d)::tm) hp')(hj:(ops[j]?).bind (·.dst)=some s:=by exact rfl)(hc:tm.lookup s=some (.e (.lit (.bool c))):=by exact rfl)(hn:md.nc tbl op=true:=by exact rfl):bT prog tbl md ops K (⟨some t,op,ty,pos,af,some (j,want)⟩::os) tm hp:=go_t tok hn hj hc hw h h2
theorem q1(h:n0 prog tbl md ⟨some t,op,ty,pos,af,none⟩ (evD tm) hp d hp')(h2:bT prog tbl md ops K os ((t,d)::tm) hp'):bT prog tbl md ops K (⟨some t,op,ty,pos,af,none⟩::os) tm hp:=Hu rfl h h2
theorem fzO {α:Type}(c:Cd α){l:List α}{vs uE:List (Nat×List D)}{lv:List (Nat×Nat×Nat×TypeId)}{N n:Nat}(k:Nat)(ts:List Nat)(hn:n=l.length)(h2:bT prog tbl .seq ops K os (ts.map (fun t=>(t,.e (slE c l)))++tm) ⟨uE,lv,N⟩)(ht:∀t∈ts,tm.lookup t=some (.ow k 0 c.sz n))(hv:vs.lookup k=some (dC ((cW c).f l)):=by exact rfl)(hz:Nat.ble 1 c.sz=true:=by exact rfl)(v7:(vs.filter fun p=>!([k]:List Nat).contains p.1)=uE:=by exact rfl):bT prog tbl .seq ops K os tm ⟨vs,lv,N⟩:=by
 subst v7
 exact .wk rfl (WkS.frzG c ts hn ht hv hz) h2
theorem all1 {p:Nat→Prop}{a:Nat}(h:p a):∀t∈[a],p t:=by simpa using h
theorem all2 {p:Nat→Prop}{a:Nat}{l:List Nat}(h:p a)(hl:∀t∈l,p t):∀t∈a::l,p t:=by simpa using⟨h,hl⟩
variable {x:Cx} {Q:Exit→List (Nat×D)→Hp→Prop}
theorem rg {n id:Nat}{l:List Oper}(hx:x.N=n)(hN:ku n l.toArray=true)(h:∀K:List (Nat×D)→Hp→Prop,(∀tm hp,Q .normal tm hp→K tm hp)→bT prog tbl .seq l.toArray K l tm hp):AW prog x (.region id l.toArray false) tm hp Q:=AW.regS tbl (by rw[hx];exact hN) h
theorem rd {n id:Nat}{l:List Oper}(L:List FuncId)(hx:x.N=n)(hN:ku n l.toArray=true)(qE:wO tbl L l.toArray=true)(h:∀K:List (Nat×D)→Hp→Prop,(∀tm hp,Q .normal tm hp→K tm hp)→bT prog tbl (.any L) l.toArray K l tm hp):AW prog x (.region id l.toArray true) tm hp Q:=AW.drwS tbl L (by kernel_rfl) (by rw[hx];exact hN) qE h
theorem dw {id:Nat}{l:List Oper}(h:DW prog x l [] tm hp Q):AW prog x (.region id l.toArray true) tm hp Q:=AW.dw (by kernel_rfl) h
theorem dwg {n:Nat}{l:List Oper}{C:List (Nat×Nat)}(L:List FuncId)(p:List Nat)(hx:x.N=n)(hp1:K2 p l=true)(hN:ku n (eJ p C l).toArray=true)(qE:wO tbl L (eJ p C l).toArray=true)(h:∀K:List (Nat×D)→Hp→Prop,(∀tm hp,Q .normal tm hp→K tm hp)→bT prog tbl (.any L) (eJ p C l).toArray K (eJ p C l) tm hp):DW prog x l C tm hp Q:=DW.go p hp1 (by rw[hx];exact hN) qE h
def PE(x:Cx){S:Type}(e:Exit)(T:S→List (Nat×D))(H:S→Hp)(y:S)(ex:Exit)(tm:List (Nat×D))(hp:Hp):Prop:=ex=e∧Wk x tm hp (T y) (H y)
def PR(rs:List ResultVar){R:Type}(dR:R→D)(y:R)(ex:Exit)(tm:List (Nat×D))(hp:Hp):Prop:=ex=.ret∧dh tbl rs tm hp (dR y)
def PS {A B:Type}(p:A→Exit→List (Nat×D)→Hp→Prop)(q:B→Exit→List (Nat×D)→Hp→Prop)(y:A⊕B)(ex:Exit)(tm:List (Nat×D))(hp:Hp):Prop:=match y with| .inl a=>p a ex tm hp| .inr b=>q b ex tm hp
theorem PS.l {A B:Type}{p:A→Exit→List (Nat×D)→Hp→Prop}{q:B→Exit→List (Nat×D)→Hp→Prop}{a:A}{ex:Exit}(h:p a ex tm hp):PS p q (.inl a) ex tm hp:=h
theorem PS.r {A B:Type}{p:A→Exit→List (Nat×D)→Hp→Prop}{q:B→Exit→List (Nat×D)→Hp→Prop}{b:B}{ex:Exit}(h:q b ex tm hp):PS p q (.inr b) ex tm hp:=h
theorem PE.i {S:Type}{e:Exit}{T:S→List (Nat×D)}{H:S→Hp}{y:S}(hw:Wk x tm hp (T y) (H y)):PE x e T H y e tm hp:=⟨rfl,hw⟩
theorem PR.i {rs:List ResultVar}{R:Type}{dR:R→D}{y:R}(hw:dh tbl rs tm hp (dR y)):PR rs dR y .ret tm hp:=⟨rfl,hw⟩
theorem jn {c:Code}{Q':Exit→List (Nat×D)→Hp→Prop}(Q:Exit→List (Nat×D)→Hp→Prop)(h:AW prog x c tm hp Q)(hq:∀ex tm hp,Q ex tm hp→Q' ex tm hp):AW prog x c tm hp Q':=AW.mono h hq
theorem lp {c:Code}{S X:Type}{b:S→Option (S⊕X)}{Q:Exit→List (Nat×D)→Hp→Prop}{s:S}{e:X}(T:S→List (Nat×D))(H:S→Hp)(QX:X→Exit→List (Nat×D)→Hp→Prop)(h:bf b s=some e)(hw:Wk x tm hp (T s) (H s))
  (round:∀s y,b s=some y→AW prog x c (T s) (H s) (PS (PE x .normal T H) (fun e ex tm hp=>ex≠.normal∧QX e ex tm hp) y)) (hq:∀ex tm hp,QX e ex tm hp→Q ex tm hp):AW prog x (.loop c) tm hp Q:=
 AW.mono (AW.loopO T H QX (fun s y hy=>AW.mono (round s y hy) fun ex tm' hp' h=>by cases y <;> exact h) h hw) hq
end
end
section
section
variable {md:Md} {ops:Array Oper} {K:List (Nat×D)→Hp→Prop} {os:List Oper} {tm:List (Nat×D)} {hp hp':Hp} {t s:Tmp} {op:Op} {ty:TypeId} {pos:String} {af:Array Edge} {d d2:D} {j:Nat} {want c:Bool}
variable {dr:Bool} {ev:List (Nat×D)}
theorem A_int {k:IntKind}{n:Int}:AVC prog tbl dr (.assign (.const (.int k n))) ty (evD ev) hp (Kq (dI k n) hp):=IF
theorem QU {b:Bool}:AVC prog tbl dr (.assign (.const (.bool b))) ty (evD ev) hp (Kq (dB b) hp):=IF
theorem M_int {k:IntKind}{n:Int}:AVC prog tbl dr (.move (.const (.int k n))) ty (evD ev) hp (Kq (dI k n) hp):=GI
theorem K_faP {s tt:TypeId}{x:Operand}{i j:TyE}{f o k off:Nat}{fs:List (Nat×TypeId)}{ev:Operand→D}(hs:tbl s=some i:=by exact tbI)(hi:i.ty=.struct fs:=by exact rfl)(hf:fs[f]? =some (o,tt):=by exact rfl)(hx:ev x=.pt k off:=by exact rfl)(ht:tbl tt=some j:=by exact tbI)(hz:Nat.ble 1 j.size=true:=by exact rfl):AVC prog tbl dr (.fieldAddr s x f) ty ev hp (Kq (.pt k (off+o)) hp):=T_faP hs ht hi hf hz hx
theorem K_faF {s tt:TypeId}{x:Operand}{i j:TyE}{f o off:Nat}{xs:List E}{fs:List (Nat×TypeId)}{ev:Operand→D}(hs:tbl s=some i:=by exact tbI)(hi:i.ty=.struct fs:=by exact rfl)(hf:fs[f]? =some (o,tt):=by exact rfl)(hx:ev x=.fp xs off:=by exact rfl)(ht:tbl tt=some j:=by exact tbI)(hz:Nat.ble 1 j.size=true:=by exact rfl):AVC prog tbl dr (.fieldAddr s x f) ty ev hp (Kq (.fp xs (off+o)) hp):=T_faF hs ht hi hf hz hx
theorem K_len {t e:TypeId}{x:Operand}{i j:TyE}{n:Nat}{xs:List E}{ev:Operand→D}(ht:tbl t=some i:=by exact tbI)(hi:i.ty=.slice e:=by exact rfl)(he:tbl e=some j:=by exact tbI)(hx:(ev x).asSl j.size=some (n,xs):=by exact rfl):AVC prog tbl dr (.call ⟨.builtin .len,#[x],#[t]⟩) ty ev hp (Kq (dI .i64 n) hp):=T_len ht he hi hx
theorem K_lenW {t e:TypeId}{x:Operand}{i j:TyE}{k off z n:Nat}{ev:Operand→D}(ht:tbl t=some i:=by exact tbI)(hi:i.ty=.slice e:=by exact rfl)(he:tbl e=some j:=by exact tbI)(hx:ev x=.ow k off z n:=by exact rfl):AVC prog tbl dr (.call ⟨.builtin .len,#[x],#[t]⟩) ty ev hp (Kq (dI .i64 n) hp):=vI ht he hi hx
theorem K_shl {t t':TypeId}{x y:Operand}{k k':IntKind}{a b:Int}{ev:Operand→D}(hx:ev x=dI k a:=by exact rfl)(hy:ev y=dI k' b:=by exact rfl)(hb:0≤b:=by decide):AVC prog tbl dr (.binOp .shl t x y t') ty ev hp (Kq (dI k (xm k a b)) hp):=Qm hb hx hy
theorem K_shr {t t':TypeId}{x y:Operand}{k k':IntKind}{a b:Int}{ev:Operand→D}(hx:ev x=dI k a:=by exact rfl)(hy:ev y=dI k' b:=by exact rfl)(hb:0≤b:=by decide):AVC prog tbl dr (.binOp .shr t x y t') ty ev hp (Kq (dI k (mv k a b)) hp):=Ql hb hx hy
theorem K_quo {t t':TypeId}{x y:Operand}{k:IntKind}{a b:Int}{ev:Operand→D}(hx:ev x=dI k a:=by exact rfl)(hy:ev y=dI k b:=by exact rfl)(hb:b≠0:=by decide):AVC prog tbl dr (.binOp .quo t x y t') ty ev hp (Kq (dI k (k.wrap (a.tdiv b))) hp):=E4 hb hx hy
theorem K_rem {t t':TypeId}{x y:Operand}{k:IntKind}{a b:Int}{ev:Operand→D}(hx:ev x=dI k a:=by exact rfl)(hy:ev y=dI k b:=by exact rfl)(hb:b≠0:=by decide):AVC prog tbl dr (.binOp .rem t x y t') ty ev hp (Kq (dI k (a.tmod b)) hp):=Dg hb hx hy
theorem sa(h2:bT prog tbl md ops K os ((t,d)::tm) hp')(h:AVC prog tbl md.dr op ty (evD tm) hp (Kq d hp'):=by (first|exact T_mv|exact l9|exact A_int|exact QU|exact A_str|exact M_int|exact M_bool|exact M_str|exact IF|exact GI|exact T_not|exact Qn|exact T_nilF|exact T_ext|exact T_add|exact T_sub|exact T_mul|exact T_eql|exact T_neq|exact T_lss|exact T_leq|exact T_gtr|exact T_geq|exact T_seql|exact T_sneq|exact Qp yf|exact Qo yf|exact T_and|exact T_or|exact T_xor|exact T_neg|exact K_shl|exact K_shr|exact K_quo|exact K_rem|exact K_faP|exact K_faF|exact T_cvI tbI tbI|exact T_cvS tbI tbI|exact K_len|exact T_lenS tbI|exact T_lenA tbI|exact K_lenW|exact T_min|exact T_max|exact T_boxV))(hn:md.nc tbl op=true:=by exact rfl):bT prog tbl md ops K (⟨some t,op,ty,pos,af,none⟩::os) tm hp:=st tok hn h h2
theorem ga(hw:c=want)(h2:bT prog tbl md ops K os ((t,d)::tm) hp')(hj:(ops[j]?).bind (·.dst)=some s:=by exact rfl)(hc:tm.lookup s=some (.e (.lit (.bool c))):=by exact rfl)(h:AVC prog tbl md.dr op ty (evD tm) hp (Kq d hp'):=by (first|exact T_mv|exact l9|exact A_int|exact QU|exact A_str|exact M_int|exact M_bool|exact M_str|exact IF|exact GI|exact T_not|exact Qn|exact T_nilF|exact T_ext|exact T_add|exact T_sub|exact T_mul|exact T_eql|exact T_neq|exact T_lss|exact T_leq|exact T_gtr|exact T_geq|exact T_seql|exact T_sneq|exact Qp yf|exact Qo yf|exact K_faP|exact K_faF|exact T_cvI tbI tbI|exact K_len|exact T_lenS tbI))(hn:md.nc tbl op=true:=by exact rfl):bT prog tbl md ops K (⟨some t,op,ty,pos,af,some (j,want)⟩::os) tm hp:=go_t tok hn hj hc hw h h2
theorem pn {ev:Operand→D}:((([]:List Operand).map ev).map D.ex).all D.pure=true:=rfl
theorem pA {ev:Operand→D}{a:Operand}{la:List Operand}(h:(ev a).ex.pure=true)(hl:((la.map ev).map D.ex).all D.pure=true):(((a::la).map ev).map D.ex).all D.pure=true:=by
 rw[bN,bN,cF,h,hl];rfl
theorem lC {ev:Operand→D}{a:Operand}{la:List Operand}{d':D}{ds':List D}(h:(ev a).ex.le d')(hl:leL ((la.map ev).map D.ex) ds'):leL (((a::la).map ev).map D.ex) (d'::ds'):=⟨h,hl⟩
theorem cq {f:FuncId}{la:List Operand}{ts:Array TypeId}{ds:List D}{r:D}(hc:aB prog f ds r)(h2:bT prog tbl md ops K os ((t,r)::tm) hp)(hp1:((la.map (evD tm)).map D.ex).all D.pure=true:=by repeat (first|exact pn|refine pA (aM _ _) ?_|refine pA rfl ?_))(hl:leL ((la.map (evD tm)).map D.ex) ds:=by repeat (first|exact lAn|refine lC (dT _ _) ?_|refine lC (al _) ?_))(hr:r.pure=true∨∃ds,r=.tu ds:=by (first|exact .inl (eE _ _)|exact .inl rfl|exact .inr ⟨_,rfl⟩)):
  bT prog tbl md ops K (⟨some t,.call ⟨.value (.func f),la.toArray,ts⟩,ty,pos,af,none⟩::os) tm hp:=sq tok hc hp1 hl hr h2
theorem sc {x:Operand}{f:FuncId}{la:List Operand}{ts:Array TypeId}{ds:List D}{r:D}(hc:aB prog f ds r)(h2:bT prog tbl md ops K os ((t,r)::tm) hp)(xr:evD tm x=.e (.lit (.func (.func f) #[] #[])):=by exact rfl)(hp1:((la.map (evD tm)).map D.ex).all D.pure=true:=by repeat (first|exact pn|refine pA (aM _ _) ?_|refine pA rfl ?_))(hl:leL ((la.map (evD tm)).map D.ex) ds:=by repeat (first|exact lAn|refine lC (dT _ _) ?_|refine lC (al _) ?_))(hr:r.pure=true∨∃ds,r=.tu ds:=by (first|exact .inl (eE _ _)|exact .inl rfl|exact .inr ⟨_,rfl⟩))(hn:md.nc tbl (.call ⟨.value x,la.toArray,ts⟩)=true:=by exact rfl):
  bT prog tbl md ops K (⟨some t,.call ⟨.value x,la.toArray,ts⟩,ty,pos,af,none⟩::os) tm hp:=st tok hn (cj xr hc hp1 hl hr) h2
variable {x:Cx} {Q:Exit→List (Nat×D)→Hp→Prop}
theorem rq {n id:Nat}{l:List Oper}(hx:x.N=n)(h:∀K:List (Nat×D)→Hp→Prop,(∀tm hp,Q .normal tm hp→K tm hp)→bT prog tbl .seq l.toArray K l tm hp)(hN:ku n l.toArray=true:=by kernel_rfl):AW prog x (.region id l.toArray false) tm hp Q:=rg hx hN h
theorem rqd {n id:Nat}{l:List Oper}(L:List FuncId)(hx:x.N=n)(h:∀K:List (Nat×D)→Hp→Prop,(∀tm hp,Q .normal tm hp→K tm hp)→bT prog tbl (.any L) l.toArray K l tm hp)(hN:ku n l.toArray=true:=by kernel_rfl)(qE:wO tbl L l.toArray=true:=by kernel_rfl):AW prog x (.region id l.toArray true) tm hp Q:=rd L hx hN qE h
theorem rv1 {q:ResultVar}{r:D}(h:dh tbl [q] tm hp r:=by (first|exact dh.mk1 (ci rfl (.inr (.inr ⟨_,(al _),rfl,rfl⟩)))|exact dh.mk1 (qz rfl tbI rfl rfl (ltb rfl) (Cd.h _ _) (.inr (.inr ⟨_,(al _),eE _ _,rfl⟩))))):dh tbl [q] tm hp r:=h
theorem rv2 {q q':ResultVar}{r:D}(h:dh tbl [q,q'] tm hp r:=by (first|exact dh.mk2 (ci rfl (ci rfl (.inr ⟨_,_,(al _),(al _),⟨rfl,rfl⟩,rfl⟩)))|exact dh.mk2 (qz rfl tbI rfl rfl (ltb rfl) (Cd.h _ _) (ci rfl (.inr ⟨_,_,(al _),(al _),⟨eE _ _,rfl⟩,rfl⟩)))|exact dh.mk2 (qz rfl tbI rfl rfl (ltb rfl) (Cd.h _ _) (qz rfl tbI rfl rfl (ltb rfl) (Cd.h _ _) (.inr ⟨_,_,(al _),(al _),⟨eE _ _,eE _ _⟩,rfl⟩))))):dh tbl [q,q'] tm hp r:=h
theorem pe0 {S:Type}{e:Exit}{T:S→List (Nat×D)}{H:S→Hp}{y:S}{vars':List (Nat×List D)}{qM:List (Nat×Nat×Nat×TypeId)}{m:Nat}{tm':List (Nat×D)}(h0:x.hp0=⟨[],[],0⟩)(os:List Nat)(hT:T y=tm':=by exact rfl)(hH:H y=⟨vars',qM,m⟩:=by exact rfl)(ht:wkT (sg 0 os) m tm tm':=by repeat (first|exact wTn|refine wR rfl ?_|refine wG rfl (al _) ?_))(hv:wkV (sg 0 os) m hp.vars vars':=by repeat (first|exact wVn|refine vC rfl ?_|refine vR rfl ?_))(hl:wkL (sg 0 os) m hp.live qM:=by repeat (first|exact wLn|refine wL rfl rfl ?_))(xR:os.Nodup:=by decide)(hm:m=0+os.length:=by exact rfl):PE x e T H y e tm hp:=PE.i (by rw[hT,hH];exact wk h0 os ht hv hl xR hm)
theorem rs {n id:Nat}{l:List Oper}{b:Code}(hx:x.N=n)(h:∀K:List (Nat×D)→Hp→Prop,(∀tm hp,AW prog x b tm hp Q→K tm hp)→bT prog tbl .seq l.toArray K l tm hp)(hN:ku n l.toArray=true:=by kernel_rfl):AW prog x (.seq (.region id l.toArray false) b) tm hp Q:=AW.seq (rg hx hN fun K hK=>h K hK)
theorem rsd {n id:Nat}{l:List Oper}{b:Code}(L:List FuncId)(hx:x.N=n)(h:∀K:List (Nat×D)→Hp→Prop,(∀tm hp,AW prog x b tm hp Q→K tm hp)→bT prog tbl (.any L) l.toArray K l tm hp)(hN:ku n l.toArray=true:=by kernel_rfl)(qE:wO tbl L l.toArray=true:=by kernel_rfl):AW prog x (.seq (.region id l.toArray true) b) tm hp Q:=AW.seq (rd L hx hN qE fun K hK=>h K hK)
theorem ra {n id:Nat}{l:List Oper}{b:Code}{tm':List (Nat×D)}(hx:x.N=n)(h2:AW prog x b tm' hp' Q)(h:∀K:List (Nat×D)→Hp→Prop,K tm' hp'→bT prog tbl .seq l.toArray K l tm hp:=by (intro K hK;(repeat (refine sa ?_));exact .nil hK))(hN:ku n l.toArray=true:=by kernel_rfl):AW prog x (.seq (.region id l.toArray false) b) tm hp Q:=rs hx (fun K hK=>h K (hK _ _ h2)) hN
theorem rb {n id:Nat}{l:List Oper}{tm':List (Nat×D)}(hx:x.N=n)(h2:Q .normal tm' hp')(h:∀K:List (Nat×D)→Hp→Prop,K tm' hp'→bT prog tbl .seq l.toArray K l tm hp:=by (intro K hK;(repeat (refine sa ?_));exact .nil hK))(hN:ku n l.toArray=true:=by kernel_rfl):AW prog x (.region id l.toArray false) tm hp Q:=rq hx (fun K hK=>h K (hK _ _ h2)) hN
theorem cdh {R:Type}{y z:Option R}{r:R}{c:Operand}{c1 c2:Code}{b:Bool}(h:cnd b y z=some r)(hc:evD tm c=.e (.lit (.bool b)))(ht:b=true→y=some r→AW prog x c1 tm hp Q)(hf:b=false→z=some r→AW prog x c2 tm hp Q):AW prog x (.cond c c1 c2) tm hp Q:=AW.condS hc (fun hb=>ht hb (aY hb h)) fun hb=>hf hb (aZ hb h)
theorem scb {R S:Type}{g:Option S}{k:S→Option R}{z:R}{x:Operand}{f:FuncId}{la:List Operand}{ts:Array TypeId}{ds:List D}{dr:S→D}(h:bnd g k=some z)(w:∀{y:S},g=some y→aB prog f ds (dr y))(h2:∀y,k y=some z→bT prog tbl md ops K os ((t,dr y)::tm) hp)(xr:evD tm x=.e (.lit (.func (.func f) #[] #[])):=by exact rfl)(hp1:((la.map (evD tm)).map D.ex).all D.pure=true:=by repeat (first|exact pn|refine pA (aM _ _) ?_|refine pA rfl ?_))(hl:leL ((la.map (evD tm)).map D.ex) ds:=by repeat (first|exact lAn|refine lC (dT _ _) ?_|refine lC (al _) ?_))(hr:∀y,(dr y).pure=true∨∃ds,dr y=.tu ds:=by (intro y;first|exact .inl (eE _ _)|exact .inl rfl|exact .inr ⟨_,rfl⟩))(hn:md.nc tbl (.call ⟨.value x,la.toArray,ts⟩)=true:=by exact rfl):
  bT prog tbl md ops K (⟨some t,.call ⟨.value x,la.toArray,ts⟩,ty,pos,af,none⟩::os) tm hp:=by
 obtain⟨y,h3,h4⟩:=ah h
 exact st tok hn (cj xr (w h3) hp1 hl (hr y)) (h2 y h4)
theorem cqb {R S:Type}{g:Option S}{k:S→Option R}{z:R}{f:FuncId}{la:List Operand}{ts:Array TypeId}{ds:List D}{dr:S→D}(h:bnd g k=some z)(w:∀{y:S},g=some y→aB prog f ds (dr y))(h2:∀y,k y=some z→bT prog tbl md ops K os ((t,dr y)::tm) hp)(hp1:((la.map (evD tm)).map D.ex).all D.pure=true:=by repeat (first|exact pn|refine pA (aM _ _) ?_|refine pA rfl ?_))(hl:leL ((la.map (evD tm)).map D.ex) ds:=by repeat (first|exact lAn|refine lC (dT _ _) ?_|refine lC (al _) ?_))(hr:∀y,(dr y).pure=true∨∃ds,dr y=.tu ds:=by (intro y;first|exact .inl (eE _ _)|exact .inl rfl|exact .inr ⟨_,rfl⟩)):
  bT prog tbl md ops K (⟨some t,.call ⟨.value (.func f),la.toArray,ts⟩,ty,pos,af,none⟩::os) tm hp:=by
 obtain⟨y,h3,h4⟩:=ah h
 exact sq tok (w h3) hp1 hl (hr y) (h2 y h4)
theorem bC {f : FuncId} {fn : Func} {c : Code} {ds : List D} {r : D} {rs : List ResultVar} {tm0 : List (Nat × D)} (h : ∀ x : Cx, x.N = fn.ntmps → x.hp0 = ⟨[], [], 0⟩ → AW prog x c tm0 ⟨[], [], 0⟩ fun ex tm hp => match ex with | .normal | .ret => dh tbl rs tm hp r | _ => False) (hf : prog.funcs[f]? = some fn) (hb : fn.body = some c := by exact rfl) (te : (fn.name == "runtime.NumGoroutine") = false := by exact rfl) (hN : Nat.ble ds.length fn.ntmps = true := by exact rfl) (hrs : fn.results.toList = rs := by exact rfl) (iK : eC 0 ds = tm0 := by (simp only [eC, Nat.reduceAdd, dA]; rfl)) : aB prog f ds r := aB.of tok hf hb te (dM hN) hrs (by rw [iK]; exact h)
end
end
section
variable {md:Md} {ops:Array Oper} {K:List (Nat×D)→Hp→Prop} {os:List Oper} {tm:List (Nat×D)} {hp hp':Hp} {t s:Tmp} {op:Op} {ty:TypeId} {pos:String} {af:Array Edge} {d d2:D} {j:Nat} {want c:Bool}
variable {dr:Bool} {ev:Operand→D}
theorem KT_T {cn x y:Operand}{b:Bool}(hc:ev cn=dB b:=by exact rfl)(h:ev x=d:=by exact rfl)(hb:b=true:=by (with_reducible first|rfl|assumption)):AVC prog tbl dr (.pick cn x y) ty ev hp (Kq d hp):=am hb hc h
theorem KT_F {cn x y:Operand}{b:Bool}(hc:ev cn=dB b:=by exact rfl)(h:ev y=d:=by exact rfl)(hb:b=false:=by (with_reducible first|rfl|assumption)):AVC prog tbl dr (.pick cn x y) ty ev hp (Kq d hp):=au hb hc h
theorem KT_S {x y:Operand}{t e:TypeId}{i j:TyE}{n:Nat}{xs:List E}{k:IntKind}{v:Int}(ht:tbl t=some i:=by exact tbI)(hi:i.ty=.slice e:=by exact rfl)(he:tbl e=some j:=by exact tbI)(hx:(ev x).asSl j.size=some (n,xs):=by exact rfl)(hy:ev y=dI k v:=by exact rfl)(hb:0≤v∧v<(n:Int):=by assumption):AVC prog tbl dr (.indexAddr t x y) ty ev hp (Kq (.fp xs (v.toNat*j.size)) hp):=ej hb ht he hi hx hy
theorem KT_A {x y:Operand}{t e:TypeId}{i j:TyE}{n m off:Nat}{k:IntKind}{v:Int}(ht:tbl t=some i:=by exact tbI)(hi:i.ty=.arr n e:=by exact rfl)(he:tbl e=some j:=by exact tbI)(hx:ev x=.pt m off:=by exact rfl)(hy:ev y=dI k v:=by exact rfl)(hb:0≤v∧v<(n:Int):=by (first|assumption|decide)):AVC prog tbl dr (.indexAddr t x y) ty ev hp (Kq (.pt m (off+v.toNat*j.size)) hp):=c7 hb ht he hi hx hy
theorem no_a(h2:bT prog tbl md ops K os ((t,.tu [])::tm) hp)(hj:(ops[j]?).bind (·.dst)=some s:=by exact rfl)(hc:tm.lookup s=some (.e (.lit (.bool c))):=by exact rfl)(hw:c= !want:=by (first|(show _=false;with_reducible first|rfl|assumption)|(show _=true;with_reducible first|rfl|assumption))):bT prog tbl md ops K (⟨some t,op,ty,pos,af,some (j,want)⟩::os) tm hp:=aJ hj hc hw h2
theorem KV_i {α:Type}{x:Operand}{c1:Cd α}{k N:Nat}{b:α}{vs:List (Nat×List D)}{lv:List (Nat×Nat×Nat×TypeId)}{t:TypeId}{i:TyE}(hx:ev x=.pt k 0:=by exact rfl)(hv:vs.lookup k=some (dC (c1.f b)):=by exact rfl)(ht:tbl t=some i:=by exact tbI)(hg:i.ty.agg=true:=by exact rfl)(hz:c1.sz=i.size:=by exact rfl)(hk:Nat.ble (k+1) N=true:=by exact rfl):AVC prog tbl dr (.load t x) ty ev ⟨vs,lv,N⟩ (Kq (dG c1 b) ⟨vs,lv,N⟩):=aA (ao.id _ _) ht hg hz hx hv hk
theorem KV_s {α:Type}{x y:Operand}{c1:Cd α}{k N:Nat}{b b':α}{vs:List (Nat×List D)}{lv:List (Nat×Nat×Nat×TypeId)}{t:TypeId}{i:TyE}(hx:ev x=.pt k 0:=by exact rfl)(hv:vs.lookup k=some (dC (c1.f b)):=by exact rfl)(ht:tbl t=some i:=by exact tbI)(hz:c1.sz=i.size:=by exact rfl)(hy:(ev y).cells=some (dC (c1.f b')):=by exact rfl):AVC prog tbl dr (.store t x y) ty ev ⟨vs,lv,N⟩ (Kq .top ⟨(k,dC (c1.f b'))::vs,lv,N⟩):=aN (ao.id _ _) ht hy hz hx hv
theorem KV_l {α:Type}[Inhabited α]{x:Operand}{F:List E}{c1:Cd α}{m o n k N off:Nat}{b:Vector α m}{F':Vector α m→List E}{vs:List (Nat×List D)}{lv:List (Nat×Nat×Nat×TypeId)}{t:TypeId}{i:TyE}{e:E}(L:ao F (cA m c1) o b F')(ht:tbl t=some i:=by exact tbI)(hg:i.ty.agg=false:=by exact rfl)(hx:ev x=.pt k off:=by exact rfl)(hv:vs.lookup k=some (dC F):=by exact rfl)(ho:off=o+n*c1.sz:=by exact rfl)(he:c1.f b[n]! =[e]:=by exact rfl)(hk:Nat.ble (k+1) N=true:=by exact rfl)(hn:n<m:=by (first|assumption|omega)):AVC prog tbl dr (.load t x) ty ev ⟨vs,lv,N⟩ (Kq (.e e) ⟨vs,lv,N⟩):=bg (ao.comp L (ao.vec c1 b n hn) (fun _=>rfl)) ht he hg (ho▸hx) hv hk
theorem nl {R:List (Nat×D)→Hp→Prop}(hK:∀tm hp,R tm hp→K tm hp)(h2:R tm hp):bT prog tbl md ops K [] tm hp:=.nil (hK _ _ h2)
theorem gcl {x:Operand}{f:FuncId}{la:List Operand}{ts:Array TypeId}{ds:List D}{r:D}(hc:aB prog f ds r)(h2:bT prog tbl md ops K os ((t,r)::tm) hp)(xr:evD tm x=.e (.lit (.func (.func f) #[] #[])):=by exact rfl)(hp1:((la.map (evD tm)).map D.ex).all D.pure=true:=by repeat (first|exact pn|refine pA (aM _ _) ?_|refine pA rfl ?_))(hl:leL ((la.map (evD tm)).map D.ex) ds:=by repeat (first|exact lAn|refine lC (dT _ _) ?_|refine lC (al _) ?_))(hr:r.pure=true∨∃ds,r=.tu ds:=by (first|exact .inl (eE _ _)|exact .inl rfl|exact .inr ⟨_,rfl⟩))(hj:(ops[j]?).bind (·.dst)=some s:=by exact rfl)(hg:tm.lookup s=some (.e (.lit (.bool c))):=by exact rfl)(hw:c=want:=by (with_reducible first|rfl|assumption))(hn:md.nc tbl (.call ⟨.value x,la.toArray,ts⟩)=true:=by exact rfl):bT prog tbl md ops K (⟨some t,.call ⟨.value x,la.toArray,ts⟩,ty,pos,af,some (j,want)⟩::os) tm hp:=go_t tok hn hj hg hw (cj xr hc hp1 hl hr) h2
theorem gcb {R S:Type}{g:Option S}{k:S→Option R}{z:R}{x:Operand}{f:FuncId}{la:List Operand}{ts:Array TypeId}{ds:List D}{dr:S→D}(h:bnd g k=some z)(w:∀{y:S},g=some y→aB prog f ds (dr y))(h2:∀y,k y=some z→bT prog tbl md ops K os ((t,dr y)::tm) hp)(xr:evD tm x=.e (.lit (.func (.func f) #[] #[])):=by exact rfl)(hp1:((la.map (evD tm)).map D.ex).all D.pure=true:=by repeat (first|exact pn|refine pA (aM _ _) ?_|refine pA rfl ?_))(hl:leL ((la.map (evD tm)).map D.ex) ds:=by repeat (first|exact lAn|refine lC (dT _ _) ?_|refine lC (al _) ?_))(hr:∀y,(dr y).pure=true∨∃ds,dr y=.tu ds:=by (intro y;first|exact .inl (eE _ _)|exact .inl rfl|exact .inr ⟨_,rfl⟩))(hj:(ops[j]?).bind (·.dst)=some s:=by exact rfl)(hg:tm.lookup s=some (.e (.lit (.bool c))):=by exact rfl)(hw:c=want:=by (with_reducible first|rfl|assumption))(hn:md.nc tbl (.call ⟨.value x,la.toArray,ts⟩)=true:=by exact rfl):bT prog tbl md ops K (⟨some t,.call ⟨.value x,la.toArray,ts⟩,ty,pos,af,some (j,want)⟩::os) tm hp:=by
 obtain⟨y,h3,h4⟩:=ah h
 exact go_t tok hn hj hg hw (cj xr (w h3) hp1 hl (hr y)) (h2 y h4)
end
section
variable {x:Cx} {tm:List (Nat×D)} {hp hp':Hp} {Q:Exit→List (Nat×D)→Hp→Prop}
theorem cnd_s {R:Type}{b:Bool}{y z:Option R}{r:R}(h:cnd b y z=some r):(b=true∧y=some r)∨(b=false∧z=some r):=by cases b <;> simpa[cnd] using h
theorem wk0 {tm':List (Nat×D)}{vars':List (Nat×List D)}{qM:List (Nat×Nat×Nat×TypeId)}{m:Nat}(h0:x.hp0=⟨[],[],0⟩)(os:List Nat)(ht:wkT (sg 0 os) m tm tm':=by repeat (first|exact wTn|refine wR rfl ?_))(hv:wkV (sg 0 os) m hp.vars vars':=by repeat (first|exact wVn|refine vC rfl ?_|refine vR rfl ?_))(hl:wkL (sg 0 os) m hp.live qM:=by repeat (first|exact wLn|refine wL rfl rfl ?_))(xR:os.Nodup:=by decide)(hm:m=0+os.length:=by exact rfl):Wk x tm hp tm' ⟨vars',qM,m⟩:=wk h0 os ht hv hl xR hm
theorem pe1 {S:Type}{e:Exit}{T:S→List (Nat×D)}{H:S→Hp}{a:S}{vars':List (Nat×List D)}{qM:List (Nat×Nat×Nat×TypeId)}{m:Nat}{tm':List (Nat×D)}{y:S}(h:some a=some y)(h0:x.hp0=⟨[],[],0⟩)(os:List Nat)(hT:T a=tm':=by exact rfl)(hH:H a=⟨vars',qM,m⟩:=by exact rfl)(ht:wkT (sg 0 os) m tm tm':=by repeat (first|exact wTn|refine wR rfl ?_|refine wG rfl (al _) ?_))(hv:wkV (sg 0 os) m hp.vars vars':=by repeat (first|exact wVn|refine vC rfl ?_|refine vR rfl ?_))(hl:wkL (sg 0 os) m hp.live qM:=by repeat (first|exact wLn|refine wL rfl rfl ?_))(xR:os.Nodup:=by decide)(hm:m=0+os.length:=by exact rfl):PE x e T H y e tm hp:=by cases h;exact pe0 h0 os hT hH ht hv hl xR hm
theorem pel {S:Type}{e:Exit}{T:S→List (Nat×D)}{H:S→Hp}{a:S}{vars':List (Nat×List D)}{qM:List (Nat×Nat×Nat×TypeId)}{m:Nat}{tm':List (Nat×D)}{B:Type}{q:B→Exit→List (Nat×D)→Hp→Prop}{y:S⊕B}(h:some (.inl a)=some y)(h0:x.hp0=⟨[],[],0⟩)(os:List Nat)(hT:T a=tm':=by exact rfl)(hH:H a=⟨vars',qM,m⟩:=by exact rfl)(ht:wkT (sg 0 os) m tm tm':=by repeat (first|exact wTn|refine wR rfl ?_|refine wG rfl (al _) ?_))(hv:wkV (sg 0 os) m hp.vars vars':=by repeat (first|exact wVn|refine vC rfl ?_|refine vR rfl ?_))(hl:wkL (sg 0 os) m hp.live qM:=by repeat (first|exact wLn|refine wL rfl rfl ?_))(xR:os.Nodup:=by decide)(hm:m=0+os.length:=by exact rfl):PS (PE x e T H) q y e tm hp:=by cases h;exact pe0 h0 os hT hH ht hv hl xR hm
theorem per {S:Type}{T:S→List (Nat×D)}{H:S→Hp}{a:S}{vars':List (Nat×List D)}{qM:List (Nat×Nat×Nat×TypeId)}{m:Nat}{tm':List (Nat×D)}{A:Type}{p:A→Exit→List (Nat×D)→Hp→Prop}{y:A⊕S}{id:Nat}(h:some (.inr a)=some y)(h0:x.hp0=⟨[],[],0⟩)(os:List Nat)(hT:T a=tm':=by exact rfl)(hH:H a=⟨vars',qM,m⟩:=by exact rfl)(ht:wkT (sg 0 os) m tm tm':=by repeat (first|exact wTn|refine wR rfl ?_|refine wG rfl (al _) ?_))(hv:wkV (sg 0 os) m hp.vars vars':=by repeat (first|exact wVn|refine vC rfl ?_|refine vR rfl ?_))(hl:wkL (sg 0 os) m hp.live qM:=by repeat (first|exact wLn|refine wL rfl rfl ?_))(xR:os.Nodup:=by decide)(hm:m=0+os.length:=by exact rfl):PS p (fun z ex tm hp=>ex≠Exit.normal∧PE x (.exit id) T H z ex tm hp) y (.exit id) tm hp:=by cases h;exact⟨by nofun,pe0 h0 os hT hH ht hv hl xR hm⟩
theorem peq {S:Type}{T:S→List (Nat×D)}{H:S→Hp}{a:S}{vars':List (Nat×List D)}{qM:List (Nat×Nat×Nat×TypeId)}{m:Nat}{tm':List (Nat×D)}{A B:Type}{p:A→Exit→List (Nat×D)→Hp→Prop}{q:B→Exit→List (Nat×D)→Hp→Prop}{y:A⊕(B⊕S)}{id:Nat}(h:some (.inr (.inr a))=some y)(h0:x.hp0=⟨[],[],0⟩)(os:List Nat)(hT:T a=tm':=by exact rfl)(hH:H a=⟨vars',qM,m⟩:=by exact rfl)(ht:wkT (sg 0 os) m tm tm':=by repeat (first|exact wTn|refine wR rfl ?_|refine wG rfl (al _) ?_))(hv:wkV (sg 0 os) m hp.vars vars':=by repeat (first|exact wVn|refine vC rfl ?_|refine vR rfl ?_))(hl:wkL (sg 0 os) m hp.live qM:=by repeat (first|exact wLn|refine wL rfl rfl ?_))(xR:os.Nodup:=by decide)(hm:m=0+os.length:=by exact rfl):PS p (fun z ex tm hp=>ex≠Exit.normal∧PS q (PE x (.exit id) T H) z ex tm hp) y (.exit id) tm hp:=by cases h;exact⟨by nofun,pe0 h0 os hT hH ht hv hl xR hm⟩
theorem lw0 {S:Type}{e:Exit}{T:S→List (Nat×D)}{H:S→Hp}{y:S}{c:Code}{Q0:Exit→List (Nat×D)→Hp→Prop}(h2:AW prog x c (T y) (H y) Q)(hQ:∀tm hp,AW prog x c tm hp Q→Q0 e tm hp:=by (intro _ _ hq;(try dsimp only);(try simp only[aO,reduceIte,Nat.reduceEqDiff,reduceCtorEq]);exact hq)):∀ex tm hp,PE x e T H y ex tm hp→Q0 ex tm hp:=by
 rintro ex tm hp ⟨rfl,hw⟩
 exact hQ _ _ (AW.weak hw h2)
theorem rtv {R:Type}{a r:R}{q:ResultVar}{f:R→D}(h:some a=some r)(hq:dh tbl [q] tm hp (f a):=by exact rv1):dh tbl [q] tm hp (f r):=by cases h;exact hq
theorem lwr {S:Type}{e:Exit}{T:S→List (Nat×D)}{H:S→Hp}{y:S}{A:Type}{p:A→Exit→List (Nat×D)→Hp→Prop}{c:Code}{Q0:Exit→List (Nat×D)→Hp→Prop}(h2:AW prog x c (T y) (H y) Q)(hQ:∀tm hp,AW prog x c tm hp Q→Q0 e tm hp:=by (intro _ _ hq;(try dsimp only);(try simp only[aO,reduceIte,Nat.reduceEqDiff,reduceCtorEq]);exact hq)):∀ex tm hp,PS p (PE x e T H) (.inr y) ex tm hp→Q0 ex tm hp:=lw0 h2 hQ
end
abbrev al_cV:Cd (Vector Int 16):=cA 16 (cI .u32)
structure ay where
 vBad:Bool
 vNeg:Bool
 vW:Vector Int 16
 deriving Inhabited,DecidableEq
abbrev bu:ay:=⟨false,false,cw⟩
def an:Cd ay:=⟨18,fun x=>[.lit (.bool x.vBad),.lit (.bool x.vNeg)]++al_cV.f x.vW,fun x=>by simp[al_cV.h,show al_cV.sz=16 from rfl]⟩
theorem i5(x:ay):ao (an.f x) cB 0 x.vBad (fun y=>an.f (⟨y,x.vNeg,x.vW⟩:ay)):=
 ao.of ([]) ((cB).f x.vNeg++(al_cV).f x.vW) (by first|rfl|(simp[al_cV.h,cB.h];first|rfl|done)) (by first|rfl|simp[an,cI,cB,cS,cL,gr]) (fun y=>by first|rfl|simp[an,cI,cB,cS,cL,gr])
theorem bj(x:ay):ao (an.f x) cB 1 x.vNeg (fun y=>an.f (⟨x.vBad,y,x.vW⟩:ay)):=
 ao.of ((cB).f x.vBad) ((al_cV).f x.vW) (by first|rfl|(simp[al_cV.h,cB.h];first|rfl|done)) (by first|rfl|simp[an,cI,cB,cS,cL,gr]) (fun y=>by first|rfl|simp[an,cI,cB,cS,cL,gr])
theorem bi(x:ay):ao (an.f x) al_cV 2 x.vW (fun y=>an.f (⟨x.vBad,x.vNeg,y⟩:ay)):=
 ao.of ((cB).f x.vBad++(cB).f x.vNeg) ([]) (by first|rfl|(simp[al_cV.h,cB.h];first|rfl|done)) (by first|rfl|simp[an,cI,cB,cS,cL,gr]) (fun y=>by first|rfl|simp[an,cI,cB,cS,cL,gr])
section
variable {md:Md} {ops:Array Oper} {K:List (Nat×D)→Hp→Prop} {os:List Oper} {tm:List (Nat×D)} {hp hp':Hp} {t s:Tmp} {op:Op} {ty:TypeId} {pos:String} {af:Array Edge} {d d2:D} {j:Nat} {want c:Bool}
variable {dr:Bool} {ev:Operand→D}
theorem av(h:AVC prog tbl dr op ty ev hp (Kq d hp'):=by (first|exact T_mv|exact l9|exact A_int|exact QU|exact A_str|exact M_int|exact M_bool|exact M_str|exact IF|exact GI|exact T_not|exact Qn|exact T_nilF|exact T_ext|exact T_add|exact T_sub|exact T_mul|exact T_eql|exact T_neq|exact T_lss|exact T_leq|exact T_gtr|exact T_geq|exact T_seql|exact T_sneq|exact Qp yf|exact Qo yf|exact T_and|exact T_or|exact T_xor|exact T_neg|exact K_shl|exact K_shr|exact K_quo|exact K_rem|exact K_faP|exact K_faF|exact T_cvI tbI tbI|exact T_cvS tbI tbI|exact K_len|exact T_lenS tbI|exact T_lenA tbI|exact K_lenW|exact T_min|exact T_max|exact T_boxV|exact KT_T|exact KT_F|exact KT_A|exact KT_S|exact KV_i)):AVC prog tbl dr op ty ev hp (Kq d hp'):=h
theorem avi(h:AVC prog tbl dr op ty ev hp (Kq d hp'):=by (first|exact av|exact KV_l (ao.id _ _)|exact bq (F:=al_cV.f (cw)) aH|exact bg (bj _) tbI|exact bg (i5 _) tbI|exact aA (bi _) tbI|exact KV_l (bi _)|exact bq (F:=an.f (⟨false,false,(cw)⟩:ay)) qza0|exact aG tbI|exact bb tbI)):AVC prog tbl dr op ty ev hp (Kq d hp'):=h
theorem sbi(h2:bT prog tbl md ops K os ((t,d)::tm) hp')(h:AVC prog tbl md.dr op ty (evD tm) hp (Kq d hp'):=by exact avi)(hn:md.nc tbl op=true:=by exact rfl):bT prog tbl md ops K (⟨some t,op,ty,pos,af,none⟩::os) tm hp:=st tok hn h h2
theorem tzi(h2:bT prog tbl md ops K os tm hp')(h:AVC prog tbl md.dr op ty (evD tm) hp (Kq .top hp'):=by (first|exact KV_s))(hn:md.nc tbl op=true:=by exact rfl):bT prog tbl md ops K (⟨none,op,ty,pos,af,none⟩::os) tm hp:=st_n tok hn h h2
theorem gbi(h2:bT prog tbl md ops K os ((t,d)::tm) hp')(hj:(ops[j]?).bind (·.dst)=some s:=by exact rfl)(hc:tm.lookup s=some (.e (.lit (.bool c))):=by exact rfl)(hw:c=want:=by (with_reducible first|rfl|assumption))(h:AVC prog tbl md.dr op ty (evD tm) hp (Kq d hp'):=by exact avi)(hn:md.nc tbl op=true:=by exact rfl):bT prog tbl md ops K (⟨some t,op,ty,pos,af,some (j,want)⟩::os) tm hp:=go_t tok hn hj hc hw h h2
theorem mbi {os':List Oper}{tm':List (Nat×D)}(h2:bT prog tbl md ops K os' tm' hp')(h:bT prog tbl md ops K os' tm' hp'→bT prog tbl md ops K os tm hp:=by (intro h;(repeat (first|refine sbi ?_|refine tzi ?_|refine gbi ?_|refine no_a ?_));exact h)):bT prog tbl md ops K os tm hp:=h h2
theorem nbi {R:List (Nat×D)→Hp→Prop}{tm':List (Nat×D)}(hK:∀tm hp,R tm hp→K tm hp)(h2:R tm' hp')(h:K tm' hp'→bT prog tbl md ops K os tm hp:=by (intro h;(repeat (first|refine sbi ?_|refine tzi ?_|refine gbi ?_|refine no_a ?_));exact .nil h)):bT prog tbl md ops K os tm hp:=h (hK _ _ h2)
end
section
variable {x:Cx} {tm:List (Nat×D)} {hp hp':Hp} {Q:Exit→List (Nat×D)→Hp→Prop}
theorem rai {n id:Nat}{l:List Oper}{b:Code}{tm':List (Nat×D)}(hx:x.N=n)(h2:AW prog x b tm' hp' Q)(h:∀K:List (Nat×D)→Hp→Prop,K tm' hp'→bT prog tbl .seq l.toArray K l tm hp:=by (intro K h;(repeat (first|refine sbi ?_|refine tzi ?_|refine gbi ?_|refine no_a ?_));exact .nil h))(hN:ku n l.toArray=true:=by kernel_rfl):AW prog x (.seq (.region id l.toArray false) b) tm hp Q:=rs hx (fun K hK=>h K (hK _ _ h2)) hN
theorem rbi {n id:Nat}{l:List Oper}{tm':List (Nat×D)}(hx:x.N=n)(h2:Q .normal tm' hp')(h:∀K:List (Nat×D)→Hp→Prop,K tm' hp'→bT prog tbl .seq l.toArray K l tm hp:=by (intro K h;(repeat (first|refine sbi ?_|refine tzi ?_|refine gbi ?_|refine no_a ?_));exact .nil h))(hN:ku n l.toArray=true:=by kernel_rfl):AW prog x (.region id l.toArray false) tm hp Q:=rq hx (fun K hK=>h K (hK _ _ h2)) hN
end
def lU(bm:ay):Option Bool:=bnd (some (decide (bm.vW=#v[(0:Int),0,0,0,0,0,0,0,0,0,0,0,0,0,0,0]))) fun x1=>cnd bm.vBad (bnd (S:=Bool) (cnd x1 (some (!bm.vNeg)) (some (false))) fun oe=>some oe) (bnd (S:=Bool) (cnd (!x1) (some (true)) (some (!bm.vNeg))) fun fJ=>some fJ)
theorem wC {bm:ay}{r:Bool}(h:lU bm=some r):aB prog 129 [dG an bm] (dB r):=by
 refine bC (rs:=[.tmp 2]) (fun cx hx h0=>?_) func129
 unfold lU at h
 refine ra hx ?_
 refine rs hx fun K hK=>?_
 refine sa ?_
 refine s1 (aA (bi bm) aH) ?_
 refine s1 (d:=dG al_cV (#v[(0:Int),0,0,0,0,0,0,0,0,0,0,0,0,0,0,0])) (mO aH aP) ?_
 refine s1 (xH tok 2 (by decide) (EqC.arr (EqC.int (d:=0) aP) aH aP) aH) ?_
 obtain⟨x1,zV,h⟩:=ah h
 replace zV:=cP zV
 refine s2 (d2:=dB x1) l9 (gv (congrArg dB zV)) ?_
 refine .nil (hK _ _ (AW.seq (rs hx fun K hK=>?_)))
 refine sa ?_
 refine s1 (bg (i5 bm) fF) ?_
 refine .nil (hK _ _ (cdh h rfl (fun a8 h=>?_) (fun a8 h=>?_)))
 refine AW.seq ?_
 obtain⟨oe,hy,h⟩:=ah h
 refine jn ((PE cx .normal (fun oe=>[(2,dB oe)]) fun oe=>⟨[],[],0⟩) oe) ?_ ?_
 replace h:=hy
 refine rq hx fun K hK=>?_
 iterate 2 refine sa ?_
 rcases aW x1 with lz|lz
 replace h:=aY lz h
 refine ga lz ?_
 refine g1 lz (bg (bj bm) fF) ?_
 refine ga lz ?_
 refine s1 (am lz) ?_
 refine sa ?_
 refine .nil (hK _ _ ?_)
 cases h
 exact pe0 h0 []
 replace h:=aZ lz h
 iterate 3 refine aJ rfl rfl lz ?_
 refine s1 (au lz) ?_
 refine sa ?_
 refine .nil (hK _ _ ?_)
 cases h
 exact pe0 h0 []
 rintro ex tm' hp' ⟨rfl,hw⟩
 refine AW.weak hw (AW.ret ?_)
 cases h
 exact rv1
 refine AW.skip (AW.seq ?_)
 obtain⟨fJ,hy,h⟩:=ah h
 refine jn ((PE cx .normal (fun fJ=>[(2,dB fJ)]) fun fJ=>⟨[],[],0⟩) fJ) ?_ ?_
 replace h:=hy
 refine rq hx fun K hK=>?_
 iterate 3 refine sa ?_
 rcases aW (!x1) with bU|bU
 replace h:=aY bU h
 iterate 3 refine aJ rfl rfl bU ?_
 refine s1 (am bU) ?_
 refine sa ?_
 refine .nil (hK _ _ ?_)
 cases h
 exact pe0 h0 []
 replace h:=aZ bU h
 refine ga bU ?_
 refine g1 bU (bg (bj bm) fF) ?_
 refine ga bU ?_
 refine s1 (au bU) ?_
 refine sa ?_
 refine .nil (hK _ _ ?_)
 cases h
 exact pe0 h0 []
 rintro ex tm' hp' ⟨rfl,hw⟩
 refine AW.weak hw (AW.ret ?_)
 cases h
 exact rv1
def eN :Option ay:=some (⟨true,false,(cw)⟩:ay)
theorem ij  {r:ay}(h:eN=some r):aB prog 109 [] (dG an r):=by
 refine bC (rs:=[.cell 0 32]) (fun cx hx h0=>?_) func109
 unfold eN at h
 refine rs hx fun K hK=>?_
 refine s1 (bq (F:=an.f bu) qza0) ?_
 refine .nil (hK _ _ (rs hx fun K hK=>?_))
 refine s1 (d:=dG an (⟨true,false,(cw)⟩:ay)) (iH (FL.cons (y:=true) (i5 bu) rfl rfl (FL.nil _)) qza0) ?_
 refine s0 (aN (b':=(⟨true,false,(cw)⟩:ay)) (ao.id _ _) qza0) ?_
 refine .nil (hK _ _ (AW.ret ?_))
 cases h
 exact rv1
def nJ(gQ:List ay):Int→Option (Int⊕(Bool⊕Unit)):=fun be=>cnd (decide (be<((gQ).length:Int))) (gd (0≤be∧be<((gQ).length:Int)) (bnd (S:=Bool) (cnd (((gQ)[(be).toNat]!).vBad) (some (true)) (bnd (lU ((gQ)[(be).toNat]!)) fun x5=>some (!x5))) fun ba=>cnd ba (some (.inr (.inl false))) (some (.inl (i64.wrap (be+(1:Int))))))) (some (.inr (.inr ())))
def dU(gQ:List ay):Option Bool:=bnd (bf (nJ gQ) (0:Int)) fun y9=>match y9 with| .inl r=>some r| .inr ()=>some true
theorem g6 {gQ:List ay}{r:Bool}(h:dU gQ=some r):aB prog 110 [dL an gQ] (dB r):=by
 refine bC (rs:=[.tmp 2]) (fun cx hx h0=>?_) func110
 unfold dU at h
 refine ra hx ?_
 refine AW.seq (ra hx ?_)
 refine AW.block ?_
 obtain⟨y,hy,h⟩:=ah h
 refine lp (S:=Int) (X:=Bool⊕Unit) (fun be=>[(5,dL an gQ),(6,dI .i64 ((gQ).length:Int)),(7,dI .i64 be)]) (fun be=>⟨[],[],0⟩) (PS (PR [.tmp 2] fun r=>dB r) (PE cx (.exit 0) (fun ()=>[]) fun ()=>⟨[],[],0⟩)) hy ?_ ?_ ?_
 exact wk h0 [] (wR rfl (wR rfl (wR rfl wTn))) wVn wLn
 clear hy h
 rintro be y h
 dsimp only[nJ] at h
 refine ra hx ?_
 refine AW.seq (cdh h rfl (fun cE h=>?_) (fun cE h=>?_))
 refine AW.skip (AW.seq (AW.block (rs hx fun K hK=>?_)))
 obtain⟨pg,h⟩:=az h
 have rz:(be).toNat<(gQ).length:=by omega
 refine s1 (ej pg rj qza0) ?_
 refine s1 (d:=dG an ((gQ)[(be).toNat]!)) (jI (c:=an) (l:=gQ) (n:=(be).toNat) (o:=0) qza0 rz (eM _ _ rfl)) ?_
 refine s1 (bq (F:=an.f bu) qza0) ?_
 refine s0 (aN (b':=(gQ)[(be).toNat]!) (ao.id _ _) qza0) ?_
 refine .nil (hK _ _ (AW.seq ?_))
 obtain⟨ba,hy,h⟩:=ah h
 refine jn ((PE cx .normal (fun ba=>[(5,dL an gQ),(6,dI .i64 ((gQ).length:Int)),(7,dI .i64 be),(17,dB ba)]) fun ba=>⟨[],[],0⟩) ba) ?_ ?_
 replace h:=hy
 refine rq hx fun K hK=>?_
 refine sa ?_
 refine s1 (bg (i5 ((gQ)[(be).toNat]!)) fF) ?_
 refine sa ?_
 rcases aW (((gQ)[(be).toNat]!).vBad) with lz|lz
 replace h:=aY lz h
 iterate 3 refine aJ rfl rfl lz ?_
 refine s1 (am lz) ?_
 refine .nil (hK _ _ ?_)
 cases h
 exact pe0 h0 []
 replace h:=aZ lz h
 refine g1 (d:=dG an ((gQ)[(be).toNat]!)) lz (aA (ao.id _ _) qza0) ?_
 obtain⟨x5,FB,h⟩:=ah h
 refine g1 lz (cj rfl (wC FB) (by simp only[bN,cl,cF,cZ,ck,cr];exact aM _ _) (lA (dT _ _) lAn) (.inl rfl)) ?_
 refine ga lz ?_
 refine s1 (au lz) ?_
 refine .nil (hK _ _ ?_)
 cases h
 exact pe0 h0 []
 rintro ex tm' hp' ⟨rfl,hw⟩
 refine AW.weak hw (cdh h rfl (fun py h=>?_) (fun py h=>?_))
 refine ra hx ?_
 refine AW.ret ?_
 cases h
 refine PS.r ⟨by nofun,PS.l (PR.i ?_)⟩
 exact rv1
 refine AW.skip (rb hx ?_)
 cases h
 exact PS.l (pe0 h0 [])
 refine AW.exit ?_
 try dsimp only
 try simp only[aO,reduceIte,Nat.reduceEqDiff,reduceCtorEq]
 cases h
 exact PS.r ⟨by nofun,PS.r (PE.i (wk h0 [] wTn wVn wLn))⟩
 rcases y with r|⟨⟩
 rintro ex tm' hp' ⟨rfl,hw⟩
 cases h
 exact hw
 rintro ex tm' hp' ⟨rfl,hw⟩
 try dsimp only
 try simp only[aO,reduceIte,Nat.reduceEqDiff,reduceCtorEq]
 refine AW.weak hw (ra hx ?_)
 refine AW.ret ?_
 cases h
 exact rv1
def b8(u7:Bool)(qC:Vector Int 16):Option ay:=bnd (S:=ay) (cnd u7 (bnd (some ((⟨false,decide (¬(qC=#v[(0:Int),0,0,0,0,0,0,0,0,0,0,0,0,0,0,0])),qC⟩:ay))) fun x2=>some (x2)) (some ((⟨false,false,qC⟩:ay)))) fun gF=>some gF
theorem d7 {u7:Bool}{qC:Vector Int 16}{r:ay}(h:b8 u7 qC=some r):aB prog 111 [dB u7,dG al_cV qC] (dG an r):=by
 refine bC (rs:=[.cell 4 32]) (fun cx hx h0=>?_) func111
 unfold b8 at h
 refine rs hx fun K hK=>?_
 refine sa ?_
 refine s1 (bq (F:=an.f bu) qza0) ?_
 refine .nil (hK _ _ (AW.seq ?_))
 obtain⟨gF,hy,h⟩:=ah h
 refine jn ((PE cx .normal (fun gF=>[(4,.pt 0 0)]) fun gF=>⟨[(0,dC (an.f gF))],[],1⟩) gF) ?_ ?_
 replace h:=hy
 refine rqd [] hx fun K hK=>?_
 iterate 2 refine sa ?_
 rcases aW u7 with cE|cE
 replace h:=aY cE h
 refine g1 (d:=dG al_cV qC) cE (aA (ao.id _ _) aH) ?_
 refine g1 (d:=dG al_cV (#v[(0:Int),0,0,0,0,0,0,0,0,0,0,0,0,0,0,0])) cE (mO aH aP) ?_
 refine g1 cE (xG tok 2 (by decide) (EqC.arr (EqC.int (d:=0) aP) aH aP) aH) ?_
 refine s1 (am cE) ?_
 refine s1 (d:=dG al_cV qC) (aA (ao.id _ _) aH) ?_
 refine s1 (d:=dG an (⟨false,decide (¬(qC=#v[(0:Int),0,0,0,0,0,0,0,0,0,0,0,0,0,0,0])),qC⟩:ay)) (iH (FL.cons (y:=decide (¬(qC=#v[(0:Int),0,0,0,0,0,0,0,0,0,0,0,0,0,0,0]))) (bj bu) rfl rfl (FL.cons (y:=qC) (bi (⟨false,decide (¬(qC=#v[(0:Int),0,0,0,0,0,0,0,0,0,0,0,0,0,0,0])),(cw)⟩:ay)) rfl rfl (FL.nil _))) qza0) ?_
 obtain⟨x2,Mm,h⟩:=ah h
 replace Mm:=cP Mm
 refine s0 (kD (b':=(⟨false,decide (¬(qC=#v[(0:Int),0,0,0,0,0,0,0,0,0,0,0,0,0,0,0])),qC⟩:ay)) (ao.id _ _) qza0 Mm) ?_
 refine .nil (hK _ _ ?_)
 cases h
 exact pe0 h0 [1]
 replace h:=aZ cE h
 iterate 3 refine aJ rfl rfl cE ?_
 refine s1 (au cE) ?_
 refine s1 (d:=dG al_cV qC) (aA (ao.id _ _) aH) ?_
 refine s1 (d:=dG an (⟨false,false,qC⟩:ay)) (iH (FL.cons (y:=false) (bj bu) rfl rfl (FL.cons (y:=qC) (bi bu) rfl rfl (FL.nil _))) qza0) ?_
 refine s0 (aN (b':=(⟨false,false,qC⟩:ay)) (ao.id _ _) qza0) ?_
 refine .nil (hK _ _ ?_)
 cases h
 exact pe0 h0 [1]
 rintro ex tm' hp' ⟨rfl,hw⟩
 refine AW.weak hw (AW.ret ?_)
 cases h
 exact rv1
def fM(ce:Int):Option ay:=bnd (S:=Int) (cnd (decide (ce<(0:Int))) (some (u64.wrap (0 - (u64.wrap (ce))))) (some (u64.wrap (ce)))) fun jy=>bnd (b8 (decide (ce<(0:Int))) (#v[u32.wrap (jy),u32.wrap (mv .u64 jy (32:Int)),0,0,0,0,0,0,0,0,0,0,0,0,0,0])) fun x3=>some x3
theorem nO {ce:Int}{r:ay}(h:fM ce=some r):aB prog 105 [dI .i64 ce] (dG an r):=by
 refine bC (rs:=[.cell 2 32]) (fun cx hx h0=>?_) func105
 unfold fM at h
 refine rs hx fun K hK=>?_
 refine s1 (bq (F:=an.f bu) qza0) ?_
 refine .nil (hK _ _ (ra hx ?_))
 refine AW.seq ?_
 obtain⟨jy,hy,h⟩:=ah h
 refine jn ((PE cx .normal (fun jy=>[(0,dI .i64 ce),(2,.pt 0 0),(3,dI .u64 jy)]) fun jy=>⟨[(0,dC (an.f bu))],[],1⟩) jy) ?_ ?_
 replace h:=hy
 refine ra hx ?_
 refine cdh h rfl (fun cE h=>?_) (fun cE h=>?_)
 refine rb hx ?_
 cases h
 exact pe0 h0 [0]
 refine AW.skip ?_
 cases h
 exact pe0 h0 [0]
 rintro ex tm' hp' ⟨rfl,hw⟩
 refine AW.weak hw (rs hx fun K hK=>?_)
 iterate 7 refine sa ?_
 refine s1 (d:=dG al_cV (#v[u32.wrap (jy),u32.wrap (mv .u64 jy (32:Int)),0,0,0,0,0,0,0,0,0,0,0,0,0,0])) (mO aH aP) ?_
 refine scb h d7 fun x3 h=>?_
 refine s0 (aN (b':=x3) (ao.id _ _) qza0) ?_
 refine .nil (hK _ _ (AW.ret ?_))
 cases h
 exact rv1
def lB(qC:Vector Int 16):Int→Option (Int⊕Int):=fun be=>bnd (S:=Bool) (cnd (decide ((0:Int)<be)) (gd (0≤i64.wrap (be - (1:Int))∧i64.wrap (be - (1:Int))<16) (some (decide (((qC)[(i64.wrap (be - (1:Int))).toNat]!)=(0:Int))))) (some (false))) fun oe=>cnd oe (some (.inl (i64.wrap (be - (1:Int))))) (some (.inr be))
def e6(qC:Vector Int 16):Option Int:=bnd (bf (lB qC) (16:Int)) fun pb=>some pb
theorem kP {qC:Vector Int 16}{r:Int}(h:e6 qC=some r):aB prog 128 [dG al_cV qC] (dI .i64 r):=by
 refine bC (rs:=[.tmp 2]) (fun cx hx h0=>?_) func128
 unfold e6 at h
 iterate 2 refine ra hx ?_
 refine AW.seq (AW.block ?_)
 obtain⟨pb,hy,h⟩:=ah h
 refine lp (S:=Int) (X:=Int) (fun be=>[(1,.pt 0 0),(3,dI .i64 be)]) (fun be=>⟨[(0,dC (al_cV.f qC))],[],1⟩) (PE cx (.exit 0) (fun pb=>[(3,dI .i64 pb)]) fun pb=>⟨[],[],0⟩) hy ?_ ?_ ?_
 exact wk h0 [0] (wR rfl (wR rfl wTn)) (vC rfl wVn) wLn
 clear hy h
 rintro be y h
 dsimp only[lB] at h
 iterate 2 refine AW.seq ?_
 obtain⟨oe,hy,h⟩:=ah h
 refine jn ((PE cx .normal (fun oe=>[(1,.pt 0 0),(3,dI .i64 be),(12,dB oe)]) fun oe=>⟨[(0,dC (al_cV.f qC))],[],1⟩) oe) ?_ ?_
 replace h:=hy
 refine rq hx fun K hK=>?_
 iterate 3 refine sa ?_
 rcases aW (decide ((0:Int)<be)) with cE|cE
 replace h:=aY cE h
 iterate 2 refine ga cE ?_
 obtain⟨pg,h⟩:=az h
 have rz:(i64.wrap (be - (1:Int))).toNat<16:=by omega
 refine g1 cE (c7 pg aH aP) ?_
 refine g1 cE (bg (ao.comp (ao.id _ _) (ao.vec (cI .u32) qC (i64.wrap (be - (1:Int))).toNat rz) (fun _=>rfl)) aP) ?_
 refine ga cE ?_
 refine s1 (am cE) ?_
 refine .nil (hK _ _ ?_)
 cases h
 exact pe0 h0 [0]
 replace h:=aZ cE h
 iterate 5 refine aJ rfl rfl cE ?_
 refine s1 (au cE) ?_
 refine .nil (hK _ _ ?_)
 cases h
 exact pe0 h0 [0]
 rintro ex tm' hp' ⟨rfl,hw⟩
 refine AW.weak hw (cdh h rfl (fun iO h=>?_) (fun iO h=>?_))
 refine AW.skip (AW.block (rb hx ?_))
 cases h
 exact PS.l (pe0 h0 [0])
 refine AW.exit ?_
 try dsimp only
 try simp only[aO,reduceIte,Nat.reduceEqDiff,reduceCtorEq]
 cases h
 exact PS.r ⟨by nofun,PE.i (wk h0 [] (wR rfl wTn) wVn wLn)⟩
 rintro ex tm' hp' ⟨rfl,hw⟩
 try dsimp only
 try simp only[aO,reduceIte,Nat.reduceEqDiff,reduceCtorEq]
 refine AW.weak hw (ra hx ?_)
 refine AW.ret ?_
 cases h
 exact rv1
def m5(bm:Int):Option Int:=bnd (S:=Int×Int) (cnd (decide ((65536:Int)≤bm)) (some ((mv .u32 bm (16:Int),(16:Int)))) (some ((bm,(0:Int))))) fun (gF,GG)=>bnd (S:=Int×Int) (cnd (decide ((256:Int)≤gF)) (some ((mv .u32 gF (8:Int),i64.wrap (GG+(8:Int))))) (some ((gF,GG)))) fun (lP,De)=>gd (0≤u8.wrap (lP)∧u8.wrap (lP)<((⟨#[0,1,2,2,3,3,3,3,4,4,4,4,4,4,4,4,5,5,5,5,5,5,5,5,5,5,5,5,5,5,5,5,6,6,6,6,6,6,6,6,6,6,6,6,6,6,6,6,6,6,6,6,6,6,6,6,6,6,6,6,6,6,6,6,7,7,7,7,7,7,7,7,7,7,7,7,7,7,7,7,7,7,7,7,7,7,7,7,7,7,7,7,7,7,7,7,7,7,7,7,7,7,7,7,7,7,7,7,7,7,7,7,7,7,7,7,7,7,7,7,7,7,7,7,7,7,7,7,8,8,8,8,8,8,8,8,8,8,8,8,8,8,8,8,8,8,8,8,8,8,8,8,8,8,8,8,8,8,8,8,8,8,8,8,8,8,8,8,8,8,8,8,8,8,8,8,8,8,8,8,8,8,8,8,8,8,8,8,8,8,8,8,8,8,8,8,8,8,8,8,8,8,8,8,8,8,8,8,8,8,8,8,8,8,8,8,8,8,8,8,8,8,8,8,8,8,8,8,8,8,8,8,8,8,8,8,8,8,8,8,8,8,8,8,8,8,8,8,8,8,8,8,8,8,8,8]⟩:ByteArray).size:Int)) (bnd (some (i64.wrap (De+(i64.wrap (sAt (⟨#[0,1,2,2,3,3,3,3,4,4,4,4,4,4,4,4,5,5,5,5,5,5,5,5,5,5,5,5,5,5,5,5,6,6,6,6,6,6,6,6,6,6,6,6,6,6,6,6,6,6,6,6,6,6,6,6,6,6,6,6,6,6,6,6,7,7,7,7,7,7,7,7,7,7,7,7,7,7,7,7,7,7,7,7,7,7,7,7,7,7,7,7,7,7,7,7,7,7,7,7,7,7,7,7,7,7,7,7,7,7,7,7,7,7,7,7,7,7,7,7,7,7,7,7,7,7,7,7,8,8,8,8,8,8,8,8,8,8,8,8,8,8,8,8,8,8,8,8,8,8,8,8,8,8,8,8,8,8,8,8,8,8,8,8,8,8,8,8,8,8,8,8,8,8,8,8,8,8,8,8,8,8,8,8,8,8,8,8,8,8,8,8,8,8,8,8,8,8,8,8,8,8,8,8,8,8,8,8,8,8,8,8,8,8,8,8,8,8,8,8,8,8,8,8,8,8,8,8,8,8,8,8,8,8,8,8,8,8,8,8,8,8,8,8,8,8,8,8,8,8,8,8,8,8,8,8]⟩:ByteArray) (u8.wrap (lP)).toNat))))) fun x6=>some x6)
theorem yd {bm:Int}{r:Int}(h:m5 bm=some r):aB prog 179 [dI .u32 bm] (dI .i64 r):=by
 refine bC (rs:=[.tmp 2]) (fun cx hx h0=>?_) func179
 unfold m5 at h
 refine ra hx ?_
 refine AW.seq ?_
 obtain⟨y,hy,h⟩:=ah h
 refine jn ((PE cx .normal (fun (gF,GG)=>[(0,dI .u32 gF),(2,dI .i64 GG)]) fun (gF,GG)=>⟨[],[],0⟩) y) ?_ ?_
 replace h:=hy
 refine ra hx ?_
 refine cdh h rfl (fun cE h=>?_) (fun cE h=>?_)
 refine ra hx ?_
 refine rb hx ?_
 cases h
 exact pe0 h0 []
 refine AW.skip ?_
 cases h
 exact pe0 h0 []
 obtain⟨gF,GG⟩:=y
 rintro ex tm' hp' ⟨rfl,hw⟩
 refine AW.weak hw (AW.seq ?_)
 obtain⟨y,hy,h⟩:=ah h
 refine jn ((PE cx .normal (fun (lP,De)=>[(0,dI .u32 lP),(2,dI .i64 De)]) fun (lP,De)=>⟨[],[],0⟩) y) ?_ ?_
 replace h:=hy
 refine ra hx ?_
 refine cdh h rfl (fun a8 h=>?_) (fun a8 h=>?_)
 refine ra hx ?_
 refine rb hx ?_
 cases h
 exact pe0 h0 []
 refine AW.skip ?_
 cases h
 exact pe0 h0 []
 obtain⟨lP,De⟩:=y
 rintro ex tm' hp' ⟨rfl,hw⟩
 refine AW.weak hw (rs hx fun K hK=>?_)
 iterate 3 refine sa ?_
 obtain⟨Bu,h⟩:=az h
 refine s1 (T_ixS Bu tb_9) ?_
 iterate 2 refine sa ?_
 obtain⟨x6,td,h⟩:=ah h
 replace td:=cP td
 refine s2 (d2:=dI .i64 x6) l9 (gv (congrArg (dI .i64) td)) ?_
 refine .nil (hK _ _ (AW.ret ?_))
 cases h
 exact rv1
def oK(bm:ay):Option Int:=bnd (e6 bm.vW) fun x1=>bnd (S:=Bool) (bnd (dU [bm]) fun x3=>cnd (!x3) (some (true)) (some (decide (x1=(0:Int))))) fun be=>cnd be (some (0:Int)) (gd (0≤i64.wrap (x1 - (1:Int))∧i64.wrap (x1 - (1:Int))<16) (bnd (m5 ((bm.vW)[(i64.wrap (x1 - (1:Int))).toNat]!)) fun fb=>some (i64.wrap ((i64.wrap ((32:Int)*(i64.wrap (x1 - (1:Int)))))+fb))))
theorem Fa {bm:ay}{r:Int}(h:oK bm=some r):aB prog 180 [dG an bm] (dI .i64 r):=by
 refine bC (rs:=[.tmp 2]) (fun cx hx h0=>?_) func180
 unfold oK at h
 refine ra hx ?_
 refine rs hx fun K hK=>?_
 refine sa ?_
 refine s1 (aA (bi bm) aH) ?_
 refine scb h kP fun x1 h=>?_
 refine sa ?_
 refine .nil (hK _ _ ?_)
 iterate 2 refine AW.seq ?_
 obtain⟨be,hy,h⟩:=ah h
 refine jn ((PE cx .normal (fun be=>[(1,.pt 0 0),(3,dI .i64 x1),(14,dB be)]) fun be=>⟨[(0,dC (an.f bm))],[],1⟩) be) ?_ ?_
 replace h:=hy
 refine rq hx fun K hK=>?_
 refine s1 (d:=dG an bm) (aA (ao.id _ _) qza0) ?_
 refine s1 (qI ([bm]:List ay) an rj qza0) ?_
 refine scb h g6 fun x3 h=>?_
 iterate 2 refine sa ?_
 rcases aW (!x3) with iO|iO
 replace h:=aY iO h
 iterate 2 refine aJ rfl rfl iO ?_
 refine s1 (am iO) ?_
 refine .nil (hK _ _ ?_)
 cases h
 exact pe0 h0 [0]
 replace h:=aZ iO h
 iterate 2 refine ga iO ?_
 refine s1 (au iO) ?_
 refine .nil (hK _ _ ?_)
 cases h
 exact pe0 h0 [0]
 rintro ex tm' hp' ⟨rfl,hw⟩
 refine AW.weak hw (cdh h rfl (fun nh h=>?_) (fun nh h=>?_))
 refine ra hx ?_
 refine AW.ret ?_
 cases h
 exact rv1
 refine AW.skip (rs hx fun K hK=>?_)
 iterate 6 refine sa ?_
 obtain⟨FM,h⟩:=az h
 have FH:(i64.wrap (x1 - (1:Int))).toNat<16:=by omega
 refine s1 (c7 FM aH aP) ?_
 refine s1 (bg (ao.comp (bi bm) (ao.vec (cI .u32) bm.vW (i64.wrap (x1 - (1:Int))).toNat FH) (fun _=>rfl)) aP) ?_
 refine scb h yd fun fb h=>?_
 iterate 2 refine sa ?_
 refine .nil (hK _ _ (AW.ret ?_))
 cases h
 exact rv1
def lV(bm:ay):Option (Int×Bool):=bnd (S:=Bool) (bnd (dU [bm]) fun x1=>cnd (!x1) (some (true)) (bnd (oK bm) fun x4=>some (decide ((64:Int)<x4)))) fun a7=>cnd a7 (some ((0:Int),false)) (bnd (some (ior .u64 (xm .u64 (u64.wrap ((bm.vW)[((1:Int)).toNat]!)) (32:Int)) (u64.wrap ((bm.vW)[((0:Int)).toNat]!)))) fun fb=>bnd (S:=Bool) (cnd bm.vNeg (some (decide (fb≤(9223372036854775808:Int)))) (some (false))) fun E3=>cnd E3 (some (i64.wrap (u64.wrap (0 - fb)),true)) (bnd (S:=Bool) (cnd (!bm.vNeg) (some (decide (fb<(9223372036854775808:Int)))) (some (false))) fun ip=>cnd ip (some (i64.wrap (fb),true)) (some ((0:Int),false))))
theorem wD {bm:ay}{r:Int×Bool}(h:lV bm=some r):aB prog 176 [dG an bm] (.tu [dI .i64 r.1,dB r.2]):=by
 refine bC (rs:=[.tmp 2,.tmp 3]) (fun cx hx h0=>?_) func176
 unfold lV at h
 refine ra hx ?_
 iterate 2 refine AW.seq ?_
 obtain⟨a7,hy,h⟩:=ah h
 refine jn ((PE cx .normal (fun a7=>[(1,.pt 0 0),(13,dB a7)]) fun a7=>⟨[(0,dC (an.f bm))],[],1⟩) a7) ?_ ?_
 replace h:=hy
 refine rq hx fun K hK=>?_
 refine s1 (d:=dG an bm) (aA (ao.id _ _) qza0) ?_
 refine s1 (qI ([bm]:List ay) an rj qza0) ?_
 refine scb h g6 fun x1 h=>?_
 iterate 2 refine sa ?_
 rcases aW (!x1) with a8|a8
 replace h:=aY a8 h
 iterate 3 refine aJ rfl rfl a8 ?_
 refine s1 (am a8) ?_
 refine .nil (hK _ _ ?_)
 cases h
 exact pe0 h0 [0]
 replace h:=aZ a8 h
 refine g1 (d:=dG an bm) a8 (aA (ao.id _ _) qza0) ?_
 obtain⟨x4,pk,h⟩:=ah h
 refine g1 a8 (cj rfl (Fa pk) (by simp only[bN,cl,cF,cZ,ck,cr];exact aM _ _) (lA (dT _ _) lAn) (.inl rfl)) ?_
 refine ga a8 ?_
 refine s1 (au a8) ?_
 refine .nil (hK _ _ ?_)
 cases h
 exact pe0 h0 [0]
 rintro ex tm' hp' ⟨rfl,hw⟩
 refine AW.weak hw (cdh h rfl (fun nh h=>?_) (fun nh h=>?_))
 refine ra hx ?_
 refine AW.ret ?_
 cases h
 exact rv2
 refine AW.skip (rs hx fun K hK=>?_)
 refine sa ?_
 have OQ:((1:Int)).toNat<16:=by omega
 refine s1 (c7 (by decide:0≤(1:Int)∧(1:Int)<((16:Nat):Int)) aH aP) ?_
 refine s1 (bg (ao.comp (bi bm) (ao.vec (cI .u32) bm.vW ((1:Int)).toNat OQ) (fun _=>rfl)) aP) ?_
 iterate 3 refine sa ?_
 have FH:((0:Int)).toNat<16:=by omega
 refine s1 (c7 (by decide:0≤(0:Int)∧(0:Int)<((16:Nat):Int)) aH aP) ?_
 refine s1 (bg (ao.comp (bi bm) (ao.vec (cI .u32) bm.vW ((0:Int)).toNat FH) (fun _=>rfl)) aP) ?_
 iterate 2 refine sa ?_
 obtain⟨fb,ww,h⟩:=ah h
 replace ww:=cP ww
 refine s2 (d2:=dI .u64 fb) l9 (gv (congrArg (dI .u64) ww)) ?_
 refine .nil (hK _ _ (AW.seq (AW.block (AW.seq ?_))))
 obtain⟨E3,hy,h⟩:=ah h
 refine jn ((PE cx .normal (fun E3=>[(1,.pt 0 0),(4,dI .u64 fb),(24,dB E3)]) fun E3=>⟨[(0,dC (an.f bm))],[],1⟩) E3) ?_ ?_
 replace h:=hy
 refine rq hx fun K hK=>?_
 refine sa ?_
 refine s1 (bg (bj bm) fF) ?_
 refine sa ?_
 rcases aW bm.vNeg with mw|mw
 replace h:=aY mw h
 iterate 2 refine ga mw ?_
 refine s1 (am mw) ?_
 refine sa ?_
 refine .nil (hK _ _ ?_)
 cases h
 exact pe0 h0 [0]
 replace h:=aZ mw h
 iterate 2 refine aJ rfl rfl mw ?_
 refine s1 (au mw) ?_
 refine sa ?_
 refine .nil (hK _ _ ?_)
 cases h
 exact pe0 h0 [0]
 rintro ex tm' hp' ⟨rfl,hw⟩
 refine AW.weak hw (cdh h rfl (fun oH h=>?_) (fun oH h=>?_))
 refine ra hx ?_
 refine AW.ret ?_
 cases h
 exact rv2
 refine AW.seq ?_
 obtain⟨ip,hy,h⟩:=ah h
 refine jn ((PE cx .normal (fun ip=>[(4,dI .u64 fb),(34,dB ip)]) fun ip=>⟨[],[],0⟩) ip) ?_ ?_
 replace h:=hy
 refine rq hx fun K hK=>?_
 refine sa ?_
 refine s1 (bg (bj bm) fF) ?_
 iterate 2 refine sa ?_
 rcases aW (!bm.vNeg) with sH|sH
 replace h:=aY sH h
 iterate 2 refine ga sH ?_
 refine s1 (am sH) ?_
 refine sa ?_
 refine .nil (hK _ _ ?_)
 cases h
 exact pe0 h0 []
 replace h:=aZ sH h
 iterate 2 refine aJ rfl rfl sH ?_
 refine s1 (au sH) ?_
 refine sa ?_
 refine .nil (hK _ _ ?_)
 cases h
 exact pe0 h0 []
 rintro ex tm' hp' ⟨rfl,hw⟩
 refine AW.weak hw (cdh h rfl (fun oG h=>?_) (fun oG h=>?_))
 refine ra hx ?_
 refine AW.ret ?_
 cases h
 exact rv2
 refine AW.skip (ra hx ?_)
 refine AW.ret ?_
 cases h
 exact rv2
def gp(bm:Int):Option Bool:=some (decide (bm≠bm))
theorem rh {bm:Int}{r:Bool}(h:gp bm=some r):aB prog 181 [dI .u32 bm] (dB r):=by
 refine bC (rs:=[.tmp 2]) (fun cx hx h0=>?_) func181
 unfold gp at h
 iterate 2 refine ra hx ?_
 refine AW.ret ?_
 cases h
 exact rv1
def gB(bm:Int)(lx:Int):Option Int:=bnd (gp bm) fun x1=>bnd (gp lx) fun x3=>cnd x1 (cnd x3 (some (0:Int)) (some (-1:Int))) (cnd x3 (some (1:Int)) (cnd (decide (bm<lx)) (some (-1:Int)) (cnd (decide (lx<bm)) (some (1:Int)) (some (0:Int)))))
theorem u3 {bm:Int}{lx:Int}{r:Int}(h:gB bm lx=some r):aB prog 178 [dI .u32 bm,dI .u32 lx] (dI .i64 r):=by
 refine bC (rs:=[.tmp 4]) (fun cx hx h0=>?_) func178
 unfold gB at h
 refine ra hx ?_
 refine rs hx fun K hK=>?_
 refine sa ?_
 refine scb h rh fun x1 h=>?_
 refine sa ?_
 refine .nil (hK _ _ (rs hx fun K hK=>?_))
 refine sa ?_
 refine scb h rh fun x3 h=>?_
 refine sa ?_
 refine .nil (hK _ _ (AW.seq (ra hx ?_)))
 refine cdh h rfl (fun iO h=>?_) (fun iO h=>?_)
 refine AW.seq (ra hx ?_)
 refine cdh h rfl (fun bU h=>?_) (fun bU h=>?_)
 refine ra hx ?_
 refine AW.ret ?_
 cases h
 exact rv1
 refine AW.skip (ra hx ?_)
 refine AW.ret ?_
 cases h
 exact rv1
 refine AW.skip (AW.seq (ra hx ?_))
 refine cdh h rfl (fun nh h=>?_) (fun nh h=>?_)
 refine ra hx ?_
 refine AW.ret ?_
 cases h
 exact rv1
 refine AW.skip (AW.seq (ra hx ?_))
 refine cdh h rfl (fun py h=>?_) (fun py h=>?_)
 refine ra hx ?_
 refine AW.ret ?_
 cases h
 exact rv1
 refine AW.skip (AW.seq (ra hx ?_))
 refine cdh h rfl (fun v9 h=>?_) (fun v9 h=>?_)
 refine ra hx ?_
 refine AW.ret ?_
 cases h
 exact rv1
 refine AW.skip (ra hx ?_)
 refine AW.ret ?_
 cases h
 exact rv1
def jX(aS:Vector Int 16)(aU:Vector Int 16):Int→Option (Int⊕(Int⊕Unit)):=fun be=>cnd (decide ((0:Int)≤be)) (gd (0≤be∧be<16) (gd (0≤be∧be<16) (cnd (decide (((aS)[(be).toNat]!)≠((aU)[(be).toNat]!))) (gd (0≤be∧be<16) (gd (0≤be∧be<16) (bnd (gB ((aS)[(be).toNat]!) ((aU)[(be).toNat]!)) fun qx=>some (.inr (.inl qx))))) (some (.inl (i64.wrap (be - (1:Int)))))))) (some (.inr (.inr ())))
def lT(aS:Vector Int 16)(aU:Vector Int 16):Option Int:=bnd (bf (jX aS aU) (15:Int)) fun y13=>match y13 with| .inl r=>some r| .inr ()=>some (0:Int)
theorem wB {aS:Vector Int 16}{aU:Vector Int 16}{r:Int}(h:lT aS aU=some r):aB prog 161 [dG al_cV aS,dG al_cV aU] (dI .i64 r):=by
 refine bC (rs:=[.tmp 4]) (fun cx hx h0=>?_) func161
 unfold lT at h
 refine ra hx ?_
 refine AW.seq (ra hx ?_)
 refine AW.block ?_
 obtain⟨y,hy,h⟩:=ah h
 refine lp (S:=Int) (X:=Int⊕Unit) (fun be=>[(2,.pt 0 0),(3,.pt 1 0),(5,dI .i64 be)]) (fun be=>⟨[(0,dC (al_cV.f aS)),(1,dC (al_cV.f aU))],[],2⟩) (PS (PR [.tmp 4] fun r=>dI .i64 r) (PE cx (.exit 0) (fun ()=>[]) fun ()=>⟨[],[],0⟩)) hy ?_ ?_ ?_
 exact wk h0 [0,1] (wR rfl (wR rfl (wR rfl wTn))) (vC rfl (vC rfl wVn)) wLn
 clear hy h
 rintro be y h
 dsimp only[jX] at h
 refine AW.seq (ra hx ?_)
 refine cdh h rfl (fun cE h=>?_) (fun cE h=>?_)
 refine AW.skip (AW.seq (AW.block (rsd [] hx fun K hK=>?_)))
 refine sa ?_
 obtain⟨pg,h⟩:=az h
 have rz:(be).toNat<16:=by omega
 refine s1 (c7 pg aH aP) ?_
 refine s1 (bg (ao.comp (ao.id _ _) (ao.vec (cI .u32) aS (be).toNat rz) (fun _=>rfl)) aP) ?_
 refine sa ?_
 obtain⟨Bv,h⟩:=az h
 have Mr:(be).toNat<16:=by omega
 refine s1 (c7 Bv aH aP) ?_
 refine s1 (bg (ao.comp (ao.id _ _) (ao.vec (cI .u32) aU (be).toNat Mr) (fun _=>rfl)) aP) ?_
 refine sa ?_
 refine .nil (hK _ _ (cdh h rfl (fun bU h=>?_) (fun bU h=>?_)))
 refine rsd [178] hx fun K hK=>?_
 refine sa ?_
 obtain⟨Pa,h⟩:=az h
 have OQ:(be).toNat<16:=by omega
 refine s1 (c7 Pa aH aP) ?_
 refine s1 (bg (ao.comp (ao.id _ _) (ao.vec (cI .u32) aS (be).toNat OQ) (fun _=>rfl)) aP) ?_
 refine sa ?_
 obtain⟨hc9,h⟩:=az h
 have hn10:(be).toNat<16:=by omega
 refine s1 (c7 hc9 aH aP) ?_
 refine s1 (bg (ao.comp (ao.id _ _) (ao.vec (cI .u32) aU (be).toNat hn10) (fun _=>rfl)) aP) ?_
 refine cqb h u3 fun qx h=>?_
 refine sa ?_
 refine .nil (hK _ _ (AW.ret ?_))
 cases h
 refine PS.r ⟨by nofun,PS.l (PR.i ?_)⟩
 exact rv1
 refine AW.skip (rb hx ?_)
 cases h
 exact PS.l (pe0 h0 [0,1])
 refine AW.exit ?_
 try dsimp only
 try simp only[aO,reduceIte,Nat.reduceEqDiff,reduceCtorEq]
 cases h
 exact PS.r ⟨by nofun,PS.r (PE.i (wk h0 [] wTn wVn wLn))⟩
 rcases y with r|⟨⟩
 rintro ex tm' hp' ⟨rfl,hw⟩
 cases h
 exact hw
 rintro ex tm' hp' ⟨rfl,hw⟩
 try dsimp only
 try simp only[aO,reduceIte,Nat.reduceEqDiff,reduceCtorEq]
 refine AW.weak hw (ra hx ?_)
 refine AW.ret ?_
 cases h
 exact rv1
def jW(aS:Vector Int 16)(aU:Vector Int 16):Int×Int×(Vector Int 16)→Option ((Int×Int×(Vector Int 16))⊕(Int×(Vector Int 16))):=fun (d6,bP,eD)=>cnd (decide (bP<(16:Int))) (gd (0≤bP∧bP<16) (gd (0≤bP∧bP<16) (bnd (some (u64.wrap (d6+(u64.wrap ((u64.wrap ((aS)[(bP).toNat]!))+(u64.wrap ((aU)[(bP).toNat]!))))))) fun x6=>gd (0≤bP∧bP<16) (some (.inl (mv .u64 x6 (32:Int),i64.wrap (bP+(1:Int)),(eD).set! (bP).toNat (u32.wrap (x6)))))))) (some (.inr (d6,eD)))
def oI(aS:Vector Int 16)(aU:Vector Int 16):Option ((Vector Int 16)×Bool):=bnd (bf (jW aS aU) ((0:Int),(0:Int),(cw))) fun (cJ,ls)=>some (ls,decide (cJ=(0:Int)))
theorem E8 {aS:Vector Int 16}{aU:Vector Int 16}{r:(Vector Int 16)×Bool}(h:oI aS aU=some r):aB prog 160 [dG al_cV aS,dG al_cV aU] (.tu [dG al_cV r.1,dB r.2]):=by
 refine bC (rs:=[.cell 4 30,.tmp 5]) (fun cx hx h0=>?_) func160
 unfold oI at h
 refine rs hx fun K hK=>?_
 iterate 2 refine sa ?_
 refine s1 (bq (F:=al_cV.f (cw)) aH) ?_
 refine sa ?_
 refine .nil (hK _ _ (rs hx fun K hK=>?_))
 refine s1 (bq (F:=al_cV.f (cw)) aH) ?_
 refine .nil (hK _ _ (ra hx ?_))
 refine AW.seq (ra hx ?_)
 refine AW.block ?_
 obtain⟨y,hy,h⟩:=ah h
 refine lp (S:=Int×Int×(Vector Int 16)) (X:=Int×(Vector Int 16)) (fun (d6,bP,eD)=>[(2,.pt 0 0),(3,.pt 1 0),(4,.pt 2 0),(6,.pt 3 0),(7,dI .u64 d6),(9,dI .i64 bP)]) (fun (d6,bP,eD)=>⟨[(0,dC (al_cV.f aS)),(1,dC (al_cV.f aU)),(2,dC (al_cV.f (cw))),(3,dC (al_cV.f eD))],[],4⟩) (PE cx (.exit 0) (fun (cJ,ls)=>[(4,.pt 0 0),(6,.pt 1 0),(7,dI .u64 cJ)]) fun (cJ,ls)=>⟨[(0,dC (al_cV.f (cw))),(1,dC (al_cV.f ls))],[],2⟩) hy ?_ ?_ ?_
 exact wk h0 [0,1,2,3] (wR rfl (wR rfl (wR rfl (wR rfl (wR rfl (wR rfl wTn)))))) (vC rfl (vC rfl (vC rfl (vC rfl wVn)))) wLn
 clear hy h
 rintro⟨d6,bP,eD⟩ y h
 dsimp only[jW] at h
 refine ra hx ?_
 refine AW.seq (cdh h rfl (fun cE h=>?_) (fun cE h=>?_))
 refine AW.skip (AW.seq (AW.block (ra hx ?_)))
 refine rsd [] hx fun K hK=>?_
 iterate 2 refine sa ?_
 obtain⟨pg,h⟩:=az h
 have rz:(bP).toNat<16:=by omega
 refine s1 (c7 pg aH aP) ?_
 refine s1 (bg (ao.comp (ao.id _ _) (ao.vec (cI .u32) aS (bP).toNat rz) (fun _=>rfl)) aP) ?_
 iterate 2 refine sa ?_
 obtain⟨Bv,h⟩:=az h
 have Mr:(bP).toNat<16:=by omega
 refine s1 (c7 Bv aH aP) ?_
 refine s1 (bg (ao.comp (ao.id _ _) (ao.vec (cI .u32) aU (bP).toNat Mr) (fun _=>rfl)) aP) ?_
 iterate 3 refine sa ?_
 obtain⟨x6,td,h⟩:=ah h
 replace td:=cP td
 refine s2 (d2:=dI .u64 x6) l9 (gv (congrArg (dI .u64) td)) ?_
 refine .nil (hK _ _ (rs hx fun K hK=>?_))
 iterate 3 refine sa ?_
 obtain⟨FM,h⟩:=az h
 have FH:(bP).toNat<16:=by omega
 refine s1 (c7 FM aH aP) ?_
 refine s0 (aN (b':=u32.wrap (x6)) (ao.comp (ao.id _ _) (ao.vec (cI .u32) eD (bP).toNat FH) (fun _=>rfl)) aP) ?_
 refine .nil (hK _ _ ?_)
 iterate 2 refine rb hx ?_
 cases h
 exact PS.l (pe0 h0 [0,1,2,3])
 refine AW.exit ?_
 try dsimp only
 try simp only[aO,reduceIte,Nat.reduceEqDiff,reduceCtorEq]
 cases h
 exact PS.r ⟨by nofun,PE.i (wk h0 [2,3] (wR rfl (wR rfl (wR rfl wTn))) (vC rfl (vC rfl wVn)) wLn)⟩
 obtain⟨cJ,ls⟩:=y
 rintro ex tm' hp' ⟨rfl,hw⟩
 try dsimp only
 try simp only[aO,reduceIte,Nat.reduceEqDiff,reduceCtorEq]
 refine AW.weak hw (rs hx fun K hK=>?_)
 refine s1 (d:=dG al_cV ls) (aA (ao.id _ _) aH) ?_
 iterate 2 refine sa ?_
 refine s0 (aN (b':=ls) (ao.id _ _) aH) ?_
 refine sa ?_
 refine .nil (hK _ _ (AW.ret ?_))
 cases h
 exact rv2
def i8(aS:Vector Int 16)(aU:Vector Int 16):Int×Int×(Vector Int 16)→Option ((Int×Int×(Vector Int 16))⊕((Vector Int 16))):=fun (d6,bP,eD)=>cnd (decide (bP<(16:Int))) (gd (0≤bP∧bP<16) (gd (0≤bP∧bP<16) (bnd (some (u64.wrap ((u64.wrap ((u64.wrap ((aS)[(bP).toNat]!)) - (u64.wrap ((aU)[(bP).toNat]!)))) - d6))) fun x6=>gd (0≤bP∧bP<16) (some (.inl (mv .u64 x6 (63:Int),i64.wrap (bP+(1:Int)),(eD).set! (bP).toNat (u32.wrap (x6)))))))) (some (.inr eD))
def ik(aS:Vector Int 16)(aU:Vector Int 16):Option (Vector Int 16):=bnd (bf (i8 aS aU) ((0:Int),(0:Int),(cw))) fun cJ=>some cJ
theorem sC {aS:Vector Int 16}{aU:Vector Int 16}{r:Vector Int 16}(h:ik aS aU=some r):aB prog 162 [dG al_cV aS,dG al_cV aU] (dG al_cV r):=by
 refine bC (rs:=[.cell 4 30]) (fun cx hx h0=>?_) func162
 unfold ik at h
 refine rs hx fun K hK=>?_
 iterate 2 refine sa ?_
 refine s1 (bq (F:=al_cV.f (cw)) aH) ?_
 refine .nil (hK _ _ (rs hx fun K hK=>?_))
 refine s1 (bq (F:=al_cV.f (cw)) aH) ?_
 refine .nil (hK _ _ (ra hx ?_))
 refine AW.seq (ra hx ?_)
 refine AW.block ?_
 obtain⟨cJ,hy,h⟩:=ah h
 refine lp (S:=Int×Int×(Vector Int 16)) (X:=(Vector Int 16)) (fun (d6,bP,eD)=>[(2,.pt 0 0),(3,.pt 1 0),(4,.pt 2 0),(5,.pt 3 0),(6,dI .u64 d6),(9,dI .i64 bP)]) (fun (d6,bP,eD)=>⟨[(0,dC (al_cV.f aS)),(1,dC (al_cV.f aU)),(2,dC (al_cV.f (cw))),(3,dC (al_cV.f eD))],[],4⟩) (PE cx (.exit 0) (fun cJ=>[(4,.pt 0 0),(5,.pt 1 0)]) fun cJ=>⟨[(0,dC (al_cV.f (cw))),(1,dC (al_cV.f cJ))],[],2⟩) hy ?_ ?_ ?_
 exact wk h0 [0,1,2,3] (wR rfl (wR rfl (wR rfl (wR rfl (wR rfl (wR rfl wTn)))))) (vC rfl (vC rfl (vC rfl (vC rfl wVn)))) wLn
 clear hy h
 rintro⟨d6,bP,eD⟩ y h
 dsimp only[i8] at h
 refine ra hx ?_
 refine AW.seq (cdh h rfl (fun cE h=>?_) (fun cE h=>?_))
 refine AW.skip (AW.seq (AW.block (ra hx ?_)))
 refine rsd [] hx fun K hK=>?_
 refine sa ?_
 obtain⟨pg,h⟩:=az h
 have rz:(bP).toNat<16:=by omega
 refine s1 (c7 pg aH aP) ?_
 refine s1 (bg (ao.comp (ao.id _ _) (ao.vec (cI .u32) aS (bP).toNat rz) (fun _=>rfl)) aP) ?_
 iterate 2 refine sa ?_
 obtain⟨Bv,h⟩:=az h
 have Mr:(bP).toNat<16:=by omega
 refine s1 (c7 Bv aH aP) ?_
 refine s1 (bg (ao.comp (ao.id _ _) (ao.vec (cI .u32) aU (bP).toNat Mr) (fun _=>rfl)) aP) ?_
 iterate 4 refine sa ?_
 obtain⟨x6,td,h⟩:=ah h
 replace td:=cP td
 refine s2 (d2:=dI .u64 x6) l9 (gv (congrArg (dI .u64) td)) ?_
 refine .nil (hK _ _ (rs hx fun K hK=>?_))
 iterate 3 refine sa ?_
 obtain⟨FM,h⟩:=az h
 have FH:(bP).toNat<16:=by omega
 refine s1 (c7 FM aH aP) ?_
 refine s0 (aN (b':=u32.wrap (x6)) (ao.comp (ao.id _ _) (ao.vec (cI .u32) eD (bP).toNat FH) (fun _=>rfl)) aP) ?_
 refine .nil (hK _ _ ?_)
 iterate 2 refine rb hx ?_
 cases h
 exact PS.l (pe0 h0 [0,1,2,3])
 refine AW.exit ?_
 try dsimp only
 try simp only[aO,reduceIte,Nat.reduceEqDiff,reduceCtorEq]
 cases h
 exact PS.r ⟨by nofun,PE.i (wk h0 [2,3] (wR rfl (wR rfl wTn)) (vC rfl (vC rfl wVn)) wLn)⟩
 rintro ex tm' hp' ⟨rfl,hw⟩
 try dsimp only
 try simp only[aO,reduceIte,Nat.reduceEqDiff,reduceCtorEq]
 refine AW.weak hw (rs hx fun K hK=>?_)
 refine s1 (d:=dG al_cV cJ) (aA (ao.id _ _) aH) ?_
 refine s0 (aN (b':=cJ) (ao.id _ _) aH) ?_
 refine .nil (hK _ _ (AW.ret ?_))
 cases h
 exact rv1
def jb(aS:ay)(aU:ay):Option ay:=bnd (dU [aS,aU]) fun x1=>cnd (!x1) (bnd (eN) fun x4=>some x4) (cnd (aS.vNeg == aU.vNeg) (bnd (oI aS.vW aU.vW) fun x7=>cnd (!x7.2) (bnd (eN) fun fb=>some fb) (bnd (b8 aS.vNeg x7.1) fun ii=>some ii)) (bnd (lT aS.vW aU.vW) fun og=>cnd (decide ((0:Int)≤og)) (bnd (ik aS.vW aU.vW) fun ny=>bnd (b8 aS.vNeg ny) fun sP=>some sP) (bnd (ik aU.vW aS.vW) fun uP=>bnd (b8 aU.vNeg uP) fun sO=>some sO)))
theorem Av {aS:ay}{aU:ay}{r:ay}(h:jb aS aU=some r):aB prog 127 [dG an aS,dG an aU] (dG an r):=by
 refine bC (rs:=[.cell 4 32]) (fun cx hx h0=>?_) func127
 unfold jb at h
 refine rs hx fun K hK=>?_
 iterate 2 refine sa ?_
 refine s1 (bq (F:=an.f bu) qza0) ?_
 refine .nil (hK _ _ (AW.seq (rs hx fun K hK=>?_)))
 refine s1 (d:=dG an aS) (aA (ao.id _ _) qza0) ?_
 refine s1 (d:=dG an aU) (aA (ao.id _ _) qza0) ?_
 refine s1 (qI ([aS,aU]:List ay) an rj qza0) ?_
 refine scb h g6 fun x1 h=>?_
 refine sa ?_
 refine .nil (hK _ _ (cdh h rfl (fun a8 h=>?_) (fun a8 h=>?_)))
 refine rs hx fun K hK=>?_
 refine scb h ij fun x4 h=>?_
 refine s0 (aN (b':=x4) (ao.id _ _) qza0) ?_
 refine .nil (hK _ _ (AW.ret ?_))
 cases h
 exact rv1
 refine AW.skip (AW.seq (rs hx fun K hK=>?_))
 refine sa ?_
 refine s1 (bg (bj aS) fF) ?_
 refine sa ?_
 refine s1 (bg (bj aU) fF) ?_
 refine sa ?_
 refine .nil (hK _ _ (cdh h rfl (fun bU h=>?_) (fun bU h=>?_)))
 refine rs hx fun K hK=>?_
 refine sa ?_
 refine s1 (aA (bi aS) aH) ?_
 refine sa ?_
 refine s1 (aA (bi aU) aH) ?_
 refine scb h E8 fun x7 h=>?_
 iterate 3 refine sa ?_
 refine s1 (bq (F:=al_cV.f (cw)) aH) ?_
 refine s0 (aN (b':=x7.1) (ao.id _ _) aH) ?_
 refine sa ?_
 refine .nil (hK _ _ (AW.seq (ra hx ?_)))
 refine cdh h rfl (fun v9 h=>?_) (fun v9 h=>?_)
 refine rs hx fun K hK=>?_
 refine scb h ij fun fb h=>?_
 refine s0 (aN (b':=fb) (ao.id _ _) qza0) ?_
 refine .nil (hK _ _ (AW.ret ?_))
 cases h
 exact rv1
 refine AW.skip (rs hx fun K hK=>?_)
 refine sa ?_
 refine s1 (bg (bj aS) fF) ?_
 refine s1 (d:=dG al_cV x7.1) (aA (ao.id _ _) aH) ?_
 refine scb h d7 fun ii h=>?_
 refine s0 (aN (b':=ii) (ao.id _ _) qza0) ?_
 refine .nil (hK _ _ (AW.ret ?_))
 cases h
 exact rv1
 refine AW.skip (AW.seq (rs hx fun K hK=>?_))
 refine sa ?_
 refine s1 (aA (bi aS) aH) ?_
 refine sa ?_
 refine s1 (aA (bi aU) aH) ?_
 refine scb h wB fun og h=>?_
 refine sa ?_
 refine .nil (hK _ _ (cdh h rfl (fun FT h=>?_) (fun FT h=>?_)))
 refine rsd [162,111] hx fun K hK=>?_
 refine sa ?_
 refine s1 (bg (bj aS) fF) ?_
 refine sa ?_
 refine s1 (aA (bi aS) aH) ?_
 refine sa ?_
 refine s1 (aA (bi aU) aH) ?_
 refine cqb h sC fun ny h=>?_
 refine cqb h d7 fun sP h=>?_
 refine s0 (aN (b':=sP) (ao.id _ _) qza0) ?_
 refine .nil (hK _ _ (AW.ret ?_))
 cases h
 exact rv1
 refine AW.skip (rsd [162,111] hx fun K hK=>?_)
 refine sa ?_
 refine s1 (bg (bj aU) fF) ?_
 refine sa ?_
 refine s1 (aA (bi aU) aH) ?_
 refine sa ?_
 refine s1 (aA (bi aS) aH) ?_
 refine cqb h sC fun uP h=>?_
 refine cqb h d7 fun sO h=>?_
 refine s0 (aN (b':=sO) (ao.id _ _) qza0) ?_
 refine .nil (hK _ _ (AW.ret ?_))
 cases h
 exact rv1
def mz(bm:ay):Option ay:=bnd (dU [bm]) fun x1=>cnd (!x1) (bnd (eN) fun x4=>some x4) (bnd (b8 (!bm.vNeg) bm.vW) fun x6=>some x6)
theorem uR {bm:ay}{r:ay}(h:mz bm=some r):aB prog 66 [dG an bm] (dG an r):=by
 refine bC (rs:=[.cell 2 32]) (fun cx hx h0=>?_) func66
 unfold mz at h
 refine rs hx fun K hK=>?_
 refine sa ?_
 refine s1 (bq (F:=an.f bu) qza0) ?_
 refine .nil (hK _ _ (AW.seq (rs hx fun K hK=>?_)))
 refine s1 (d:=dG an bm) (aA (ao.id _ _) qza0) ?_
 refine s1 (qI ([bm]:List ay) an rj qza0) ?_
 refine scb h g6 fun x1 h=>?_
 refine sa ?_
 refine .nil (hK _ _ (cdh h rfl (fun a8 h=>?_) (fun a8 h=>?_)))
 refine rs hx fun K hK=>?_
 refine scb h ij fun x4 h=>?_
 refine s0 (aN (b':=x4) (ao.id _ _) qza0) ?_
 refine .nil (hK _ _ (AW.ret ?_))
 cases h
 exact rv1
 refine AW.skip (rs hx fun K hK=>?_)
 refine sa ?_
 refine s1 (bg (bj bm) fF) ?_
 iterate 2 refine sa ?_
 refine s1 (aA (bi bm) aH) ?_
 refine scb h d7 fun x6 h=>?_
 refine s0 (aN (b':=x6) (ao.id _ _) qza0) ?_
 refine .nil (hK _ _ (AW.ret ?_))
 cases h
 exact rv1
def n7(aS:ay)(aU:ay):Option ay:=bnd (mz aU) fun x1=>bnd (jb aS x1) fun x3=>some x3
theorem G7 {aS:ay}{aU:ay}{r:ay}(h:n7 aS aU=some r):aB prog 177 [dG an aS,dG an aU] (dG an r):=by
 refine bC (rs:=[.cell 4 32]) (fun cx hx h0=>?_) func177
 unfold n7 at h
 refine rs hx fun K hK=>?_
 iterate 2 refine sa ?_
 refine s1 (bq (F:=an.f bu) qza0) ?_
 refine .nil (hK _ _ (rsd [66,127] hx fun K hK=>?_))
 refine s1 (d:=dG an aS) (aA (ao.id _ _) qza0) ?_
 refine s1 (d:=dG an aU) (aA (ao.id _ _) qza0) ?_
 refine cqb h uR fun x1 h=>?_
 refine cqb h Av fun x3 h=>?_
 refine s0 (aN (b':=x3) (ao.id _ _) qza0) ?_
 refine .nil (hK _ _ (AW.ret ?_))
 cases h
 exact rv1
def g9(bm:ay):Option Int:=bnd (S:=Bool) (bnd (dU [bm]) fun x1=>cnd (!x1) (some (true)) (some (decide (bm.vW=#v[(0:Int),0,0,0,0,0,0,0,0,0,0,0,0,0,0,0])))) fun jy=>cnd jy (some (0:Int)) (cnd bm.vNeg (some (-1:Int)) (some (1:Int)))
theorem ol {bm:ay}{r:Int}(h:g9 bm=some r):aB prog 92 [dG an bm] (dI .i64 r):=by
 refine bC (rs:=[.tmp 2]) (fun cx hx h0=>?_) func92
 unfold g9 at h
 refine ra hx ?_
 refine AW.seq (AW.block (AW.seq ?_))
 obtain⟨jy,hy,h⟩:=ah h
 refine jn ((PE cx .normal (fun jy=>[(1,.pt 0 0),(3,dB jy)]) fun jy=>⟨[(0,dC (an.f bm))],[],1⟩) jy) ?_ ?_
 replace h:=hy
 refine rq hx fun K hK=>?_
 refine s1 (d:=dG an bm) (aA (ao.id _ _) qza0) ?_
 refine s1 (qI ([bm]:List ay) an rj qza0) ?_
 refine scb h g6 fun x1 h=>?_
 iterate 2 refine sa ?_
 rcases aW (!x1) with a8|a8
 replace h:=aY a8 h
 iterate 4 refine aJ rfl rfl a8 ?_
 refine s1 (am a8) ?_
 refine sa ?_
 refine .nil (hK _ _ ?_)
 cases h
 exact pe0 h0 [0]
 replace h:=aZ a8 h
 refine ga a8 ?_
 refine g1 a8 (aA (bi bm) aH) ?_
 refine g1 (d:=dG al_cV (#v[(0:Int),0,0,0,0,0,0,0,0,0,0,0,0,0,0,0])) a8 (mO aH aP) ?_
 refine g1 a8 (xH tok 2 (by decide) (EqC.arr (EqC.int (d:=0) aP) aH aP) aH) ?_
 refine s1 (au a8) ?_
 refine sa ?_
 refine .nil (hK _ _ ?_)
 cases h
 exact pe0 h0 [0]
 rintro ex tm' hp' ⟨rfl,hw⟩
 refine AW.weak hw (cdh h rfl (fun iO h=>?_) (fun iO h=>?_))
 refine ra hx ?_
 refine AW.ret ?_
 cases h
 exact rv1
 refine rs hx fun K hK=>?_
 refine sa ?_
 refine s1 (bg (bj bm) fF) ?_
 refine sa ?_
 refine .nil (hK _ _ (cdh h rfl (fun bU h=>?_) (fun bU h=>?_)))
 refine ra hx ?_
 refine AW.ret ?_
 cases h
 exact rv1
 refine AW.skip (ra hx ?_)
 refine AW.ret ?_
 cases h
 exact rv1
def my(qC:Vector Int 16)(ce:Int):Int×Int×(Vector Int 16)→Option ((Int×Int×(Vector Int 16))⊕(Int×(Vector Int 16))):=fun (d6,bP,eD)=>cnd (decide (bP<(16:Int))) (gd (0≤bP∧bP<16) (gd (0≤ce) (bnd (some (ior .u64 d6 (xm .u64 (u64.wrap ((qC)[(bP).toNat]!)) ce))) fun x5=>gd (0≤bP∧bP<16) (some (.inl (mv .u64 x5 (32:Int),i64.wrap (bP+(1:Int)),(eD).set! (bP).toNat (u32.wrap (x5)))))))) (some (.inr (d6,eD)))
def pN(qC:Vector Int 16)(ce:Int):Option ((Vector Int 16)×Int):=bnd (bf (my qC ce) ((0:Int),(0:Int),(cw))) fun (cJ,ls)=>some (ls,u32.wrap (cJ))
theorem BE {qC:Vector Int 16}{ce:Int}{r:(Vector Int 16)×Int}(h:pN qC ce=some r):aB prog 165 [dG al_cV qC,dI .i64 ce] (.tu [dG al_cV r.1,dI .u32 r.2]):=by
 refine bC (rs:=[.cell 4 30,.tmp 5]) (fun cx hx h0=>?_) func165
 unfold pN at h
 refine rs hx fun K hK=>?_
 refine sa ?_
 refine s1 (bq (F:=al_cV.f (cw)) aH) ?_
 refine sa ?_
 refine .nil (hK _ _ (rs hx fun K hK=>?_))
 refine s1 (bq (F:=al_cV.f (cw)) aH) ?_
 refine .nil (hK _ _ (ra hx ?_))
 refine AW.seq (ra hx ?_)
 refine AW.block ?_
 obtain⟨y,hy,h⟩:=ah h
 refine lp (S:=Int×Int×(Vector Int 16)) (X:=Int×(Vector Int 16)) (fun (d6,bP,eD)=>[(1,dI .i64 ce),(2,.pt 0 0),(4,.pt 1 0),(6,.pt 2 0),(7,dI .u64 d6),(9,dI .i64 bP)]) (fun (d6,bP,eD)=>⟨[(0,dC (al_cV.f qC)),(1,dC (al_cV.f (cw))),(2,dC (al_cV.f eD))],[],3⟩) (PE cx (.exit 0) (fun (cJ,ls)=>[(4,.pt 0 0),(6,.pt 1 0),(7,dI .u64 cJ)]) fun (cJ,ls)=>⟨[(0,dC (al_cV.f (cw))),(1,dC (al_cV.f ls))],[],2⟩) hy ?_ ?_ ?_
 exact wk h0 [0,1,2] (wR rfl (wR rfl (wR rfl (wR rfl (wR rfl (wR rfl wTn)))))) (vC rfl (vC rfl (vC rfl wVn))) wLn
 clear hy h
 rintro⟨d6,bP,eD⟩ y h
 dsimp only[my] at h
 refine ra hx ?_
 refine AW.seq (cdh h rfl (fun cE h=>?_) (fun cE h=>?_))
 refine AW.skip (AW.seq (AW.block (ra hx ?_)))
 refine rs hx fun K hK=>?_
 iterate 2 refine sa ?_
 obtain⟨pg,h⟩:=az h
 have rz:(bP).toNat<16:=by omega
 refine s1 (c7 pg aH aP) ?_
 refine s1 (bg (ao.comp (ao.id _ _) (ao.vec (cI .u32) qC (bP).toNat rz) (fun _=>rfl)) aP) ?_
 iterate 2 refine sa ?_
 obtain⟨Bv,h⟩:=az h
 refine s1 (Qm Bv) ?_
 refine sa ?_
 obtain⟨x5,FB,h⟩:=ah h
 replace FB:=cP FB
 refine s2 (d2:=dI .u64 x5) l9 (gv (congrArg (dI .u64) FB)) ?_
 refine .nil (hK _ _ (rs hx fun K hK=>?_))
 iterate 3 refine sa ?_
 obtain⟨Pa,h⟩:=az h
 have OQ:(bP).toNat<16:=by omega
 refine s1 (c7 Pa aH aP) ?_
 refine s0 (aN (b':=u32.wrap (x5)) (ao.comp (ao.id _ _) (ao.vec (cI .u32) eD (bP).toNat OQ) (fun _=>rfl)) aP) ?_
 refine .nil (hK _ _ ?_)
 iterate 2 refine rb hx ?_
 cases h
 exact PS.l (pe0 h0 [0,1,2])
 refine AW.exit ?_
 try dsimp only
 try simp only[aO,reduceIte,Nat.reduceEqDiff,reduceCtorEq]
 cases h
 exact PS.r ⟨by nofun,PE.i (wk h0 [1,2] (wR rfl (wR rfl (wR rfl wTn))) (vC rfl (vC rfl wVn)) wLn)⟩
 obtain⟨cJ,ls⟩:=y
 rintro ex tm' hp' ⟨rfl,hw⟩
 try dsimp only
 try simp only[aO,reduceIte,Nat.reduceEqDiff,reduceCtorEq]
 refine AW.weak hw (rs hx fun K hK=>?_)
 refine s1 (d:=dG al_cV ls) (aA (ao.id _ _) aH) ?_
 iterate 2 refine sa ?_
 refine s0 (aN (b':=ls) (ao.id _ _) aH) ?_
 refine sa ?_
 refine .nil (hK _ _ (AW.ret ?_))
 cases h
 exact rv2
def lD(qC:Vector Int 16)(ce:Int):Int×(Vector Int 16)→Option ((Int×(Vector Int 16))⊕((Vector Int 16))):=fun (aL,a6)=>cnd (decide (aL<(16:Int))) (bnd (S:=Int) (cnd (decide ((i64.wrap (aL+(1:Int)))<(16:Int))) (gd (0≤i64.wrap (aL+(1:Int))∧i64.wrap (aL+(1:Int))<16) (bnd (some (u64.wrap ((qC)[(i64.wrap (aL+(1:Int))).toNat]!))) fun x5=>some (x5))) (some ((0:Int)))) fun bQ=>gd (0≤aL∧aL<16) (gd (0≤ce) (gd (0≤aL∧aL<16) (bnd (some ((a6).set! (aL).toNat (u32.wrap (mv .u64 (ior .u64 (xm .u64 bQ (32:Int)) (u64.wrap ((qC)[(aL).toNat]!))) ce)))) fun lw=>some (.inl (i64.wrap (aL+(1:Int)),lw)))))) (some (.inr a6))
def oJ(qC:Vector Int 16)(ce:Int):Option (Vector Int 16):=bnd (bf (lD qC ce) ((0:Int),(cw))) fun aD=>some aD
theorem E9 {qC:Vector Int 16}{ce:Int}{r:Vector Int 16}(h:oJ qC ce=some r):aB prog 169 [dG al_cV qC,dI .i64 ce] (dG al_cV r):=by
 refine bC (rs:=[.cell 4 30]) (fun cx hx h0=>?_) func169
 unfold oJ at h
 refine rs hx fun K hK=>?_
 refine sa ?_
 refine s1 (bq (F:=al_cV.f (cw)) aH) ?_
 refine .nil (hK _ _ (rs hx fun K hK=>?_))
 refine s1 (bq (F:=al_cV.f (cw)) aH) ?_
 refine .nil (hK _ _ (AW.seq (ra hx ?_)))
 refine AW.block ?_
 obtain⟨aD,hy,h⟩:=ah h
 refine lp (S:=Int×(Vector Int 16)) (X:=(Vector Int 16)) (fun (aL,a6)=>[(1,dI .i64 ce),(2,.pt 0 0),(4,.pt 1 0),(5,.pt 2 0),(8,dI .i64 aL)]) (fun (aL,a6)=>⟨[(0,dC (al_cV.f qC)),(1,dC (al_cV.f (cw))),(2,dC (al_cV.f a6))],[],3⟩) (PE cx (.exit 0) (fun aD=>[(4,.pt 0 0),(5,.pt 1 0)]) fun aD=>⟨[(0,dC (al_cV.f (cw))),(1,dC (al_cV.f aD))],[],2⟩) hy ?_ ?_ ?_
 exact wk h0 [0,1,2] (wR rfl (wR rfl (wR rfl (wR rfl (wR rfl wTn))))) (vC rfl (vC rfl (vC rfl wVn))) wLn
 clear hy h
 rintro⟨aL,a6⟩ y h
 dsimp only[lD] at h
 refine ra hx ?_
 refine AW.seq (cdh h rfl (fun cE h=>?_) (fun cE h=>?_))
 refine AW.skip (AW.seq (AW.block ?_))
 iterate 2 refine ra hx ?_
 refine AW.seq ?_
 obtain⟨bQ,hy,h⟩:=ah h
 refine jn ((PE cx .normal (fun bQ=>[(1,dI .i64 ce),(2,.pt 0 0),(4,.pt 1 0),(5,.pt 2 0),(6,dI .i64 aL),(7,dI .u64 bQ),(8,dI .i64 aL)]) fun bQ=>⟨[(0,dC (al_cV.f qC)),(1,dC (al_cV.f (cw))),(2,dC (al_cV.f a6))],[],3⟩) bQ) ?_ ?_
 replace h:=hy
 refine ra hx ?_
 refine cdh h rfl (fun mm h=>?_) (fun mm h=>?_)
 refine rq hx fun K hK=>?_
 iterate 2 refine sa ?_
 obtain⟨Pb,h⟩:=az h
 have hn4:(i64.wrap (aL+(1:Int))).toNat<16:=by omega
 refine s1 (c7 Pb aH aP) ?_
 refine s1 (bg (ao.comp (ao.id _ _) (ao.vec (cI .u32) qC (i64.wrap (aL+(1:Int))).toNat hn4) (fun _=>rfl)) aP) ?_
 refine sa ?_
 obtain⟨x5,FB,h⟩:=ah h
 replace FB:=cP FB
 refine s2 (d2:=dI .u64 x5) l9 (gv (congrArg (dI .u64) FB)) ?_
 refine .nil (hK _ _ ?_)
 cases h
 exact pe0 h0 [0,1,2]
 refine AW.skip ?_
 cases h
 exact pe0 h0 [0,1,2]
 rintro ex tm' hp' ⟨rfl,hw⟩
 refine AW.weak hw (rq hx fun K hK=>?_)
 iterate 4 refine sa ?_
 obtain⟨FM,h⟩:=az h
 have FH:(aL).toNat<16:=by omega
 refine s1 (c7 FM aH aP) ?_
 refine s1 (bg (ao.comp (ao.id _ _) (ao.vec (cI .u32) qC (aL).toNat FH) (fun _=>rfl)) aP) ?_
 iterate 3 refine sa ?_
 obtain⟨z3,h⟩:=az h
 refine s1 (Ql z3) ?_
 refine sa ?_
 obtain⟨vb,h⟩:=az h
 have zY:(aL).toNat<16:=by omega
 refine s1 (c7 vb aH aP) ?_
 obtain⟨lw,B7,h⟩:=ah h
 replace B7:=cP B7
 refine s0 (kD (b':=u32.wrap (mv .u64 (ior .u64 (xm .u64 bQ (32:Int)) (u64.wrap ((qC)[(aL).toNat]!))) ce)) (ao.comp (ao.id _ _) (ao.vec (cI .u32) a6 (aL).toNat zY) (fun _=>rfl)) aP B7) ?_
 refine .nil (hK _ _ (rb hx ?_))
 cases h
 exact PS.l (pe0 h0 [0,1,2])
 refine AW.exit ?_
 try dsimp only
 try simp only[aO,reduceIte,Nat.reduceEqDiff,reduceCtorEq]
 cases h
 exact PS.r ⟨by nofun,PE.i (wk h0 [1,2] (wR rfl (wR rfl wTn)) (vC rfl (vC rfl wVn)) wLn)⟩
 rintro ex tm' hp' ⟨rfl,hw⟩
 try dsimp only
 try simp only[aO,reduceIte,Nat.reduceEqDiff,reduceCtorEq]
 refine AW.weak hw (rs hx fun K hK=>?_)
 refine s1 (d:=dG al_cV aD) (aA (ao.id _ _) aH) ?_
 refine s0 (aN (b':=aD) (ao.id _ _) aH) ?_
 refine .nil (hK _ _ (AW.ret ?_))
 cases h
 exact rv1
def jV(aS:Vector Int 16)(aU:Int):Int×Int×(Vector Int 16)→Option ((Int×Int×(Vector Int 16))⊕(Int×(Vector Int 16))):=fun (aL,a6,lr)=>cnd (decide ((0:Int)≤a6)) (gd (0≤a6∧a6<16) (bnd (some (ior .u64 (xm .u64 aL (32:Int)) (u64.wrap ((aS)[(a6).toNat]!)))) fun x4=>gd (u64.wrap (aU)≠0) (gd (0≤a6∧a6<16) (bnd (some ((lr).set! (a6).toNat (u32.wrap (u64.wrap (Int.tdiv x4 (u64.wrap (aU))))))) fun x9=>gd (u64.wrap (aU)≠0) (some (.inl (Int.tmod x4 (u64.wrap (aU)),i64.wrap (a6 - (1:Int)),x9))))))) (some (.inr (aL,lr)))
def nA(aS:Vector Int 16)(aU:Int):Option ((Vector Int 16)×Int):=bnd (bf (jV aS aU) ((0:Int),(15:Int),(cw))) fun (aD,iG)=>some (iG,u32.wrap (aD))
theorem DH {aS:Vector Int 16}{aU:Int}{r:(Vector Int 16)×Int}(h:nA aS aU=some r):aB prog 163 [dG al_cV aS,dI .u32 aU] (.tu [dG al_cV r.1,dI .u32 r.2]):=by
 refine bC (rs:=[.cell 4 30,.tmp 5]) (fun cx hx h0=>?_) func163
 unfold nA at h
 refine rs hx fun K hK=>?_
 refine sa ?_
 refine s1 (bq (F:=al_cV.f (cw)) aH) ?_
 refine sa ?_
 refine .nil (hK _ _ (ra hx ?_))
 refine AW.seq (ra hx ?_)
 refine AW.block ?_
 obtain⟨y,hy,h⟩:=ah h
 refine lp (S:=Int×Int×(Vector Int 16)) (X:=Int×(Vector Int 16)) (fun (aL,a6,lr)=>[(1,dI .u32 aU),(2,.pt 0 0),(4,.pt 1 0),(6,dI .u64 aL),(7,dI .i64 a6)]) (fun (aL,a6,lr)=>⟨[(0,dC (al_cV.f aS)),(1,dC (al_cV.f lr))],[],2⟩) (PE cx (.exit 0) (fun (aD,iG)=>[(4,.pt 0 0),(6,dI .u64 aD)]) fun (aD,iG)=>⟨[(0,dC (al_cV.f iG))],[],1⟩) hy ?_ ?_ ?_
 exact wk h0 [0,1] (wR rfl (wR rfl (wR rfl (wR rfl (wR rfl wTn))))) (vC rfl (vC rfl wVn)) wLn
 clear hy h
 rintro⟨aL,a6,lr⟩ y h
 dsimp only[jV] at h
 refine AW.seq (ra hx ?_)
 refine cdh h rfl (fun cE h=>?_) (fun cE h=>?_)
 refine AW.skip (AW.seq (AW.block (rs hx fun K hK=>?_)))
 iterate 3 refine sa ?_
 obtain⟨pg,h⟩:=az h
 have rz:(a6).toNat<16:=by omega
 refine s1 (c7 pg aH aP) ?_
 refine s1 (bg (ao.comp (ao.id _ _) (ao.vec (cI .u32) aS (a6).toNat rz) (fun _=>rfl)) aP) ?_
 iterate 2 refine sa ?_
 obtain⟨x4,pk,h⟩:=ah h
 replace pk:=cP pk
 refine s2 (d2:=dI .u64 x4) l9 (gv (congrArg (dI .u64) pk)) ?_
 refine .nil (hK _ _ (rs hx fun K hK=>?_))
 iterate 4 refine sa ?_
 obtain⟨Mz,h⟩:=az h
 refine s1 (E4 Mz) ?_
 refine sa ?_
 obtain⟨Pa,h⟩:=az h
 have OQ:(a6).toNat<16:=by omega
 refine s1 (c7 Pa aH aP) ?_
 obtain⟨x9,xq,h⟩:=ah h
 replace xq:=cP xq
 refine s0 (kD (b':=u32.wrap (u64.wrap (Int.tdiv x4 (u64.wrap (aU))))) (ao.comp (ao.id _ _) (ao.vec (cI .u32) lr (a6).toNat OQ) (fun _=>rfl)) aP xq) ?_
 refine .nil (hK _ _ (rq hx fun K hK=>?_))
 iterate 3 refine sa ?_
 obtain⟨vb,h⟩:=az h
 refine s1 (Dg vb) ?_
 refine sa ?_
 refine .nil (hK _ _ (rb hx ?_))
 cases h
 exact PS.l (pe0 h0 [0,1])
 refine AW.exit ?_
 try dsimp only
 try simp only[aO,reduceIte,Nat.reduceEqDiff,reduceCtorEq]
 cases h
 exact PS.r ⟨by nofun,PE.i (wk h0 [1] (wR rfl (wR rfl wTn)) (vC rfl wVn) wLn)⟩
 obtain⟨aD,iG⟩:=y
 rintro ex tm' hp' ⟨rfl,hw⟩
 try dsimp only
 try simp only[aO,reduceIte,Nat.reduceEqDiff,reduceCtorEq]
 refine AW.weak hw (rs hx fun K hK=>?_)
 refine s1 (d:=dG al_cV iG) (aA (ao.id _ _) aH) ?_
 iterate 2 refine sa ?_
 refine s0 (aN (b':=iG) (ao.id _ _) aH) ?_
 refine sa ?_
 refine .nil (hK _ _ (AW.ret ?_))
 cases h
 exact rv2
section
section
variable {b A B k m d:Nat}
theorem pW(hb:0<b):((A % b ^ k+B % b ^ k) / b ^ k+dg b A k+dg b B k) % b=dg b (A+B) k∧((A % b ^ k+B % b ^ k) / b ^ k+dg b A k+dg b B k) / b=(A % b ^ (k+1)+B % b ^ (k+1)) / b ^ (k+1):=by
 have hp:0<b ^ k:=dP hb
 have hs:A % b ^ (k+1)+B % b ^ (k+1)=(A % b ^ k+B % b ^ k)+b ^ k*(dg b A k+dg b B k):=by
  rw[gS,gS,yE];omega
 have h1:(A % b ^ (k+1)+B % b ^ (k+1)) / b ^ k=(A % b ^ k+B % b ^ k) / b ^ k+dg b A k+dg b B k:=by
  rw[hs,CI _ _ hp];omega
 refine⟨?_,?_⟩
 ·have e:A+B=(A % b ^ (k+1)+B % b ^ (k+1))+b ^ k*(b*(A / b ^ (k+1)+B / b ^ (k+1))):=by
   have e1:=oV A (b ^ (k+1))
   have e2:=oV B (b ^ (k+1))
   have e3:b ^ k*(b*(A / b ^ (k+1)+B / b ^ (k+1)))=b ^ (k+1)*(A / b ^ (k+1))+b ^ (k+1)*(B / b ^ (k+1)):=by
    rw[←jx,←fe,yE]
   omega
  unfold dg
  rw[e,CI _ _ hp,h1]
  unfold dg
  rw[ES]
 ·rw[fe,←lN,←fe,h1]
theorem oQ(hb:0<b):(A % b ^ k+B % b ^ k) / b ^ k≤1:=by
 have hp:0<b ^ k:=dP hb
 have h1:=ey A hp
 have h2:=ey B hp
 have:(A % b ^ k+B % b ^ k) / b ^ k<2:=(pz hp).2 (by omega)
 omega
theorem EA(hb:0<b):(A % b ^ k*m / b ^ k+dg b A k*m) % b=dg b (A*m) k∧(A % b ^ k*m / b ^ k+dg b A k*m) / b=A % b ^ (k+1)*m / b ^ (k+1):=by
 have hp:0<b ^ k:=dP hb
 have hs:A % b ^ (k+1)*m=A % b ^ k*m+b ^ k*(dg b A k*m):=by
  rw[gS,cO,jx]
 have h1:A % b ^ (k+1)*m / b ^ k=A % b ^ k*m / b ^ k+dg b A k*m:=by
  rw[hs,CI _ _ hp]
 refine⟨?_,?_⟩
 ·have e:A*m=A % b ^ (k+1)*m+b ^ k*(b*(A / b ^ (k+1)*m)):=by
   have e1:=oV A (b ^ (k+1))
   have e3:b ^ k*(b*(A / b ^ (k+1)*m))=b ^ (k+1)*(A / b ^ (k+1))*m:=by
    rw[←jx,←fe,←jx]
   rw[e3,←cO]
   congr 1
   omega
  have h2:dg b (A*m) k=A*m / b ^ k % b:=rfl
  rw[h2,e,CI _ _ hp,h1,ES]
 ·rw[fe,←lN,←fe,h1]
theorem zJ(hb:0<b)(hm:0<m):A % b ^ k*m / b ^ k<m:=by
 have hp:0<b ^ k:=dP hb
 rw[pz hp,cY]
 exact Nat.mul_lt_mul_of_pos_left (ey A hp) hm
theorem xi(hb:0<b)(hd:0<d):(A / b ^ (k+1) % d*b+dg b A k) / d=dg b (A / d) k∧(A / b ^ (k+1) % d*b+dg b A k) % d=A / b ^ k % d:=by
 have e:=c9 (b:=b) (A:=A) (k:=k)
 have hR:=oV (A / b ^ (k+1)) d
 generalize hr:A / b ^ (k+1) % d=r at hR ⊢
 generalize ht:A / b ^ (k+1) / d=t at hR
 have hrd:r<d:=by rw[←hr];exact ey _ hd
 have ha:dg b A k<b:=PG hb
 generalize dg b A k=a at e ha ⊢
 have e2:A / b ^ k=r*b+a+d*(t*b):=by
  rw[e,←hR,cO,jx];omega
 have cg:(r*b+a) / d<b:=by
  rw[pz hd]
  have:(r+1)*b≤d*b:=c6 _ hrd
  rw[cO,fm,cY d b] at this
  omega
 refine⟨?_,?_⟩
 ·have:dg b (A / d) k=A / b ^ k / d % b:=by unfold dg;rw[lN,cY,←lN]
  rw[this,e2,CI _ _ hd,Ki,gL cg]
 ·rw[e2,ES]
end
abbrev W(A:Nat):Vector Int 16:=vN 4294967296 16 A
theorem gN {A k:Nat}(h:k<16):(W A)[k]! =(dg 4294967296 A k:Int):=jB h
theorem dgl {A k:Nat}:dg 4294967296 A k<4294967296:=PG (by decide)
theorem G_plus {A B:Nat}(hA:A<4294967296 ^ 16)(hB:B<4294967296 ^ 16):oI (W A) (W B)=some (W (A+B),decide (A+B<4294967296 ^ 16)):=by
 have hl:=rr (b:=jW (W A) (W B)) (s0:=((0:Int),(0:Int),cw)) (fun k=>(((A % 4294967296 ^ k+B % 4294967296 ^ k) / 4294967296 ^ k:Nat),(k:Int),vN 4294967296 16 ((A+B) % 4294967296 ^ k))) 16 (((A % 4294967296 ^ 16+B % 4294967296 ^ 16) / 4294967296 ^ 16:Nat),vN 4294967296 16 ((A+B) % 4294967296 ^ 16))
  (by simp only[kz,qN,rY];rfl)
  (fun k hk=>by
   have hc:=oQ (b:=4294967296) (A:=A) (B:=B) (k:=k) (by decide)
   obtain⟨h1,h2⟩:=pW (b:=4294967296) (A:=A) (B:=B) (k:=k) (by decide)
   have ha:=@dgl A k
   have hb:=@dgl B k
   dsimp only[jW]
   rw[bF _ _,aI,aI,ab,aI,bh,gN hk,gN hk,iu,iu,←oc,iu,←oc,iu,wM,zx,←nq,h1,h2,Bl (by decide) hk,cG,oc]
   rfl)
  (by
   dsimp only[jW]
   rw[bA _ _])
 unfold oI
 rw[hl,ab,gL hA,gL hB,Ff (by decide)]
 dsimp only
 congr 2
 have:((((A+B) / 4294967296 ^ 16:Nat):Int)=0)↔A+B<4294967296 ^ 16:=by
  rw[Int.natCast_eq_zero,GD (by decide)]
 exact mJ.2 this
theorem GP {A B:Nat}(hBA:B≤A):ik (W A) (W B)=some (W (A - B)):=by
 obtain⟨D,rfl⟩:∃D,A=D+B:=⟨A - B,by omega⟩
 rw[Al]
 have hl:=rr (b:=i8 (W (D+B)) (W B)) (s0:=((0:Int),(0:Int),cw)) (fun k=>(((D % 4294967296 ^ k+B % 4294967296 ^ k) / 4294967296 ^ k:Nat),(k:Int),vN 4294967296 16 (D % 4294967296 ^ k))) 16 (vN 4294967296 16 (D % 4294967296 ^ 16))
  (by simp only[kz,qN,rY];rfl)
  (fun k hk=>by
   have hc:=oQ (b:=4294967296) (A:=D) (B:=B) (k:=k) (by decide)
   obtain⟨h1,h2⟩:=pW (b:=4294967296) (A:=D) (B:=B) (k:=k) (by decide)
   have ha:=@dgl D k
   have hb:=@dgl B k
   have hd:=@dgl (D+B) k
   generalize (D % 4294967296 ^ k+B % 4294967296 ^ k) / 4294967296 ^ k=c at h1 h2 hc ⊢
   generalize (D % 4294967296 ^ (k+1)+B % 4294967296 ^ (k+1)) / 4294967296 ^ (k+1)=c' at h2 ⊢
   dsimp only[i8]
   rw[bF _ _,aI,aI,ab,aI,bh,gN hk,gN hk,iu,iu,cG]
   have hx:∃x:Nat,u64.wrap (u64.wrap ((dg 4294967296 (D+B) k:Int) - (dg 4294967296 B k:Int)) - (c:Int))=(x:Int)∧x / 9223372036854775808=c'∧x % 4294967296=dg 4294967296 D k:=by
    rw[IntKind.wrap_u64,IntKind.wrap_u64]
    refine⟨((((dg 4294967296 (D+B) k:Int) - (dg 4294967296 B k:Int)) % 18446744073709551616 - (c:Int)) % 18446744073709551616).toNat,by omega,by omega,by omega⟩
   obtain⟨x,DZ,zV,Mm⟩:=hx
   rw[DZ,NA,zx,zV,Mm,Bl (by decide) hk]
   rfl)
  (by
   dsimp only[i8]
   rw[bA _ _])
 unfold ik
 rw[hl,ab,Ff (by decide)]
theorem G_up {A s:Nat}(hs:s<32):pN (W A) (s:Int)=some (W (A*2 ^ s),((A % 4294967296 ^ 16*2 ^ s / 4294967296 ^ 16:Nat):Int)):=by
 have JC:2 ^ s≤2 ^ 31:=na (by decide) (by omega)
 have hs3:0<2 ^ s:=dP (by decide)
 have hl:=rr (b:=my (W A) (s:Int)) (s0:=((0:Int),(0:Int),cw)) (fun k=>((A % 4294967296 ^ k*2 ^ s / 4294967296 ^ k:Nat),(k:Int),vN 4294967296 16 (A*2 ^ s % 4294967296 ^ k))) 16 ((A % 4294967296 ^ 16*2 ^ s / 4294967296 ^ 16:Nat),vN 4294967296 16 (A*2 ^ s % 4294967296 ^ 16))
  (by simp only[kz,qN,rY,gb,Nat.zero_div];rfl)
  (fun k hk=>by
   have hc:=zJ (b:=4294967296) (A:=A) (k:=k) (m:=2 ^ s) (by decide) hs3
   obtain⟨h1,h2⟩:=EA (b:=4294967296) (A:=A) (k:=k) (m:=2 ^ s) (by decide)
   have ha:=@dgl A k
   have hm:dg 4294967296 A k*2 ^ s≤4294967295*2 ^ s:=c6 _ (by omega)
   generalize A % 4294967296 ^ k*2 ^ s / 4294967296 ^ k=c at h1 h2 hc ⊢
   generalize A % 4294967296 ^ (k+1)*2 ^ s / 4294967296 ^ (k+1)=c' at h2 ⊢
   dsimp only[my]
   rw[bF _ _,aI,aI,ab,aI,bh,gN hk,iu,Ou _ _ (by omega) (by omega),Ov,ior_n hc (by omega),wM,zx,cG,qr _ c,h1,h2,Bl (by decide) hk]
   rfl)
  (by
   dsimp only[my]
   rw[bA _ _])
 have hc:A % 4294967296 ^ 16*2 ^ s / 4294967296 ^ 16<2 ^ s:=zJ (by decide) hs3
 unfold pN
 rw[hl,ab,Ff (by decide)]
 dsimp only
 rw[zw]
theorem G_down {A s:Nat}(hA:A<4294967296 ^ 16)(hs:s<32):oJ (W A) (s:Int)=some (W (A / 2 ^ s)):=by
 have JC:2 ^ s≤2 ^ 31:=na (by decide) (by omega)
 have hs3:0<2 ^ s:=dP (by decide)
 have hl:=rr (b:=lD (W A) (s:Int)) (s0:=((0:Int),cw)) (fun k=>((k:Int),vN 4294967296 16 (A / 2 ^ s % 4294967296 ^ k))) 16 (vN 4294967296 16 (A / 2 ^ s % 4294967296 ^ 16))
  (by simp only[kz,qN,rY];rfl)
  (fun k hk=>by
   have ha:=@dgl A k
   have ha1:=@dgl A (k+1)
   have hd:(dg 4294967296 A (k+1)*4294967296+dg 4294967296 A k) / 2 ^ s % 4294967296=dg 4294967296 (A / 2 ^ s) k:=by
    have e1:dg 4294967296 (A / 2 ^ s) k=A / 4294967296 ^ k / 2 ^ s % 4294967296:=by
     unfold dg;rw[lN,cY,←lN]
    have e2:A / 4294967296 ^ k=(dg 4294967296 A (k+1)*4294967296+dg 4294967296 A k)+2 ^ s*(4294967296*(2 ^ (32 - s)*(A / 4294967296 ^ (k+2)))):=by
     have e3:=c9 (b:=4294967296) (A:=A) (k:=k)
     have e4:=c9 (b:=4294967296) (A:=A) (k:=k+1)
     have e5:2 ^ s*(4294967296*(2 ^ (32 - s)*(A / 4294967296 ^ (k+2))))=2 ^ s*2 ^ (32 - s)*4294967296*(A / 4294967296 ^ (k+2)):=by
      simp only[jx,ET]
     rw[e5,←lO,show s+(32 - s)=32 from by omega,e3,e4,show k+1+1=k+2 from rfl,show (2:Nat) ^ 32=4294967296 from rfl]
     generalize A / 4294967296 ^ (k+2)=q
     generalize dg 4294967296 A (k+1)=d1
     generalize dg 4294967296 A k=d0
     omega
    rw[e1,e2,CI _ _ hs3,ES]
   dsimp only[lD]
   rw[bF _ _]
   have hnext:(bnd (S:=Int) (cnd (decide ((i64.wrap ((k:Int)+(1:Int)))<(16:Int))) (gd (0≤i64.wrap ((k:Int)+(1:Int))∧i64.wrap ((k:Int)+(1:Int))<16) (bnd (some (u64.wrap ((W A)[(i64.wrap ((k:Int)+(1:Int))).toNat]!))) fun x5=>some (x5))) (some ((0:Int)))) (fun a=>some a))=some ((dg 4294967296 A (k+1):Nat):Int):=by
    rw[cG]
    by_cases hk1:k+1<16
    ·rw[bF _ _,aI,ab,show ((k:Int)+1).toNat=k+1 from by omega,gN hk1,iu,ab]
    ·rw[bA _ _,ab,mh (cm hA (na (by decide) (by omega)))]
     rfl
   rw[oT] at hnext
   rw[hnext,ab,aI,aI,aI,ab,bh,gN hk,iu,Hw ha1,HU ha ha1,zR .u64 _ _ (by show s≤64;omega),zx,hd,Bl (by decide) hk,cG]
   rfl)
  (by
   dsimp only[lD]
   rw[bA _ _])
 unfold oJ
 rw[hl,ab,Ff (by decide)]
theorem G_short {A d:Nat}(hA:A<4294967296 ^ 16)(hd:0<d)(H7:d<4294967296):nA (W A) (d:Int)=some (W (A / d),((A % d:Nat):Int)):=by
 have hl:=Ok (b:=jV (W A) (d:Int)) (s0:=((0:Int),(15:Int),cw)) (fun k=>((A / 4294967296 ^ k % d:Nat),(k:Int) - 1,vN 4294967296 16 (A / d / 4294967296 ^ k*4294967296 ^ k))) 16 ((A / 4294967296 ^ 0 % d:Nat),vN 4294967296 16 (A / d / 4294967296 ^ 0*4294967296 ^ 0))
  (by
   have h1:A / d<4294967296 ^ 16:=qza1 (pR _ _) hA
   simp only[gD hA,gD h1,gb,rY,Nat.zero_mod];rfl)
  (fun k hk=>by
   have ha:=@dgl A k
   have hq:=@dgl (A / d) k
   obtain⟨h1,h2⟩:=xi (b:=4294967296) (A:=A) (k:=k) (d:=d) (by decide) hd
   have hr:A / 4294967296 ^ (k+1) % d<d:=ey _ hd
   generalize A / 4294967296 ^ (k+1) % d=r at h1 h2 hr ⊢
   generalize A / 4294967296 ^ k % d=r' at h2 ⊢
   have ed:u64.wrap (d:Int)=(d:Int):=iu
   dsimp only[jV]
   rw[bF _ _,aI,ab,ed,aI,aI,ab,aI,show (((k+1:Nat):Int) - 1).toNat=k from by omega,gN hk,iu,Hw (by omega),HU ha (by omega),←sM,←sL,h1,h2,iu,zw hq,KT (by decide) hk,cG]
   congr 4
   omega)
  (by
   dsimp only[jV]
   rw[bA _ _])
 rw[kz,rF,rF,uc] at hl
 have hr:A % d<d:=ey _ hd
 unfold nA
 rw[hl,ab]
 dsimp only
 rw[zw]
end
def LIM:Nat:=4294967296 ^ 16
theorem Dr:LIM=4294967296 ^ 16:=rfl
theorem wq:0<LIM:=by decide
theorem W_zero:W 0=cw:=rY
theorem z16:(#v[(0:Int),0,0,0,0,0,0,0,0,0,0,0,0,0,0,0]:Vector Int 16)=W 0:=by
 rw[W_zero];rfl
theorem r16:cw=W 0:=rY.symm
theorem Df {A B:Nat}(hA:A<LIM)(hB:B<LIM):W A=W B↔A=B:=⟨vN_inj hA hB,fun h=>by rw[h]⟩
def HB(A B:Nat):Int:=if A<B then -1 else if B<A then 1 else 0
theorem G_cmp(x y:Int):gB x y=some (if x<y then -1 else if y<x then 1 else 0):=by
 have hn:∀z:Int,gp z=some false:=fun z=>by unfold gp;simp
 unfold gB
 rw[hn,hn,ab,ab,a9,a9,fU,fU]
 split
 ·rfl
 ·split <;> rfl
theorem AB {A B k:Nat}(he:A / 4294967296 ^ (k+1)=B / 4294967296 ^ (k+1))(h:dg 4294967296 A k<dg 4294967296 B k):A<B:=by
 have e1:=c9 (b:=4294967296) (A:=A) (k:=k)
 have e2:=c9 (b:=4294967296) (A:=B) (k:=k)
 have h1:A / 4294967296 ^ k<B / 4294967296 ^ k:=by
  rw[e1,e2,he];exact vw h _
 rcases cc A B with h2|h2
 ·exact h2
 ·exact absurd (KC h2) (Nat.not_le.2 h1)
theorem LO {A B:Nat}(hA:A<LIM)(hB:B<LIM):lT (W A) (W B)=some (HB A B):=by
 rw[Dr] at hA hB
 obtain⟨x,hl,hx⟩:=wS (b:=jX (W A) (W B)) (fun s=>∃k:Nat,s=(k:Int) - 1∧k≤16∧A / 4294967296 ^ k=B / 4294967296 ^ k) (fun s=>(s+1).toNat) (fun x=>match x with| .inl r=>r=HB A B| .inr _=>A=B)
  (by
   rintro s ⟨k,rfl,hk,he⟩
   cases k with
   |zero=>
    right
    refine⟨(Sum.inr ():Int⊕Unit),?_,?_⟩
    ·dsimp only[jX]
     rw[bA _ _]
    ·simpa using he
   |succ k=>
    have uJ:k<16:=by omega
    have e:((k+1:Nat):Int) - 1=(k:Int):=by omega
    rw[e]
    dsimp only[jX]
    rw[bF _ _,aI,aI,bh,gN uJ,gN uJ]
    by_cases hd:dg 4294967296 A k=dg 4294967296 B k
    ·left
     refine⟨(k:Int) - 1,?_,⟨k,rfl,by omega,?_⟩,by omega⟩
     ·rw[bA _ _ (by rw[hd];simp),cG]
     ·rw[c9 (b:=4294967296) (A:=A) (k:=k),c9 (b:=4294967296) (A:=B) (k:=k),he,hd]
    ·right
     refine⟨(Sum.inl (HB A B):Int⊕Unit),?_,rfl⟩
     rw[bF _ _,aI,aI,G_cmp,ab]
     congr 3
     unfold HB
     rcases Nat.lt_or_gt_of_ne hd with h|h
     ·have:=AB he h
      rw[ifp_,aQ this]
     ·have:=AB he.symm h
      rw[ifn_,ifp_,ifn_,aQ this]) (15:Int) ⟨16,rfl,bI _,by rw[gD hA,gD hB]⟩
 unfold lT
 rw[hl,ab]
 cases x with
 |inl r=>obtain rfl:r=_:=hx;rfl
 |inr u=>
  obtain rfl:A=B:=hx
  unfold HB
  simp
def szp(b A n:Nat):Prop:=A<b ^ n∧(0<n→b ^ (n - 1)≤A)
theorem Nv {b A n m:Nat}(hb:0<b)(h:szp b A n)(h':szp b A m):n=m:=by
 have key:∀{n m:Nat},szp b A n→szp b A m→m≤n:=by
  intro n m h h'
  rcases cc n m with h1|h1
  ·have h2:=h'.2 (by omega)
   have h3:b ^ n≤b ^ (m - 1):=na hb (by omega)
   have:=h.1
   omega
  ·exact h1
 have:=key h h'
 have:=key h' h
 omega
theorem I9 {b A n k:Nat}(hb:0<b)(h:szp b A n)(hA:A<b ^ k):n≤k:=by
 rcases cc k n with h1|h1
 ·have h2:=h.2 (by omega)
  have h3:b ^ k≤b ^ (n - 1):=na hb (by omega)
  omega
 ·exact h1
theorem Aq {A:Nat}(hA:A<LIM):∃n:Nat,n≤16∧e6 (W A)=some (n:Int)∧szp 4294967296 A n:=by
 rw[Dr] at hA
 obtain⟨x,hl,n,rfl,hn,hs⟩:=wS (b:=lB (W A)) (fun s=>∃n:Nat,s=(n:Int)∧n≤16∧A<4294967296 ^ n) (fun s=>s.toNat) (fun x=>∃n:Nat,x=(n:Int)∧n≤16∧szp 4294967296 A n)
  (by
   rintro s ⟨n,rfl,hn,cg⟩
   cases n with
   |zero=>
    right
    refine⟨_,?_,0,rfl,by omega,cg,fun h=>by omega⟩
    dsimp only[lB]
    rw[bA _ _,ab,a9]
   |succ k=>
    have hk:k<16:=by omega
    have e:i64.wrap (((k+1:Nat):Int) - 1)=(k:Int):=by rw[cG];omega
    dsimp only[lB]
    rw[bF _ _,e,aI,ab,bh,gN hk,fU]
    by_cases hd:dg 4294967296 A k=0
    ·left
     refine⟨(k:Int),by rw[ifp_],⟨k,rfl,by omega,?_⟩,by omega⟩
     unfold dg at hd
     have h1:A / 4294967296 ^ k<4294967296:=by
      rw[pz (dP (by decide)),cY,←fe];exact cg
     rw[gL h1] at hd
     exact (GD (dP (by decide))).1 hd
    ·right
     refine⟨_,by rw[ifn_],k+1,rfl,hn,cg,fun _=>?_⟩
     rcases cc A (4294967296 ^ k) with h|h
     ·exact absurd (mh h) hd
     ·exact h) (16:Int) ⟨16,rfl,bI _,hA⟩
 refine⟨n,hn,?_,hs⟩
 unfold e6
 rw[hl,ab]
def Eh:ay:=⟨true,false,W 0⟩
def enc(z:Int):ay:=if z.natAbs<LIM then⟨false,decide (z<0),W z.natAbs⟩ else Eh
theorem rD {z:Int}(h:z.natAbs<LIM):enc z=⟨false,decide (z<0),W z.natAbs⟩:=aQ h
theorem Cu {z:Int}(h:¬z.natAbs<LIM):enc z=Eh:=aV h
def cV(x:ay):Bool:=!x.vBad&&(!decide (x.vW=W 0)||!x.vNeg)
def okI(x:ay):Prop:=∀j:Nat,j<16→0≤x.vW[j]!∧x.vW[j]! <4294967296
theorem vZ(z:Int):okI (enc z):=by
 have key:∀(A j:Nat),j<16→0≤(W A)[j]!∧(W A)[j]! <4294967296:=fun A j hj=>by
  rw[gN hj];have:=@dgl A j;omega
 unfold enc
 split
 ·exact key _
 ·exact key 0
theorem bD {z:Int}(h:z.natAbs<LIM):cV (enc z)=true:=by
 rw[rD h]
 unfold cV
 dsimp only
 by_cases hz:z=0
 ·subst hz;simp
 ·have:¬W z.natAbs=W 0:=fun e=>hz (by have:=(Df h wq).1 e;omega)
  simp[this]
theorem rA {x:ay}(h:okI x)(hg:cV x=true):∃z:Int,z.natAbs<LIM∧x=enc z:=by
 obtain⟨A,hA,hv⟩:=vN_of (b:=4294967296) (n:=16) (by decide) x.vW (fun j hj=>h j hj)
 obtain⟨bad,neg,w⟩:=x
 dsimp only at hv
 subst hv
 unfold cV at hg
 simp only[cr,Bool.or_eq_true,xC,decide_eq_false_iff_not] at hg
 obtain⟨rfl,hg⟩:=hg
 have Lj:A<LIM:=hA
 cases neg with
 |false=>
  refine⟨(A:Int),Lj,?_⟩
  rw[rD (by simpa using Lj)]
  simp
 |true=>
  refine⟨-(A:Int),by simpa using Lj,?_⟩
  have h0:A≠0:=by
   rintro rfl
   rcases hg with h|h
   ·exact h rfl
   ·cases h
  rw[rD (by simpa using Lj)]
  have:-(A:Int)<0:=by omega
  simp[this,yH h0]
theorem z5:cV Eh=false:=rfl
theorem yA {z y:Int}(hz:z.natAbs<LIM)(hy:y.natAbs<LIM)(h:enc z=enc y):z=y:=by
 rw[rD hz,rD hy] at h
 simp only[ay.mk.injEq,true_and] at h
 obtain⟨h1,h2⟩:=h
 have h3:=(Df hz hy).1 h2
 have h4:=mJ.1 h1
 omega
theorem PA {A:Nat}(hA:A<LIM)(neg:Bool):(⟨false,neg&&!decide (A=0),W A⟩:ay)=enc (bif neg then -(A:Int) else A):=by
 cases neg with
 |false=>rw[rD (by simpa using hA)];simp
 |true=>
  rw[rD (by simpa using hA)]
  simp only[CO,ig,Int.natAbs_neg,dY,ay.mk.injEq,true_and,and_true]
  by_cases h:A=0
  ·subst h;simp
  ·have:-(A:Int)<0:=by omega
   simp[h,this,yH h]
theorem LR(x:ay):lU x=some (if x.vBad then decide (x.vW=W 0)&&!x.vNeg else !decide (x.vW=W 0)||!x.vNeg):=by
 unfold lU
 rw[ab,z16]
 cases x.vBad <;> cases decide (x.vW=W 0) <;> rfl
theorem QP {l:List ay}(hl:l.length<1000000):dU l=some (l.all cV):=by
 obtain⟨x,h1,hx⟩:=wS (b:=nJ l) (fun s=>∃n:Nat,s=(n:Int)∧n≤l.length∧(l.take n).all cV=true) (fun s=>l.length - s.toNat) (fun x=>match x with| .inl r=>r=false∧l.all cV=false| .inr _=>l.all cV=true)
  (by
   rintro s ⟨n,rfl,hn,ha⟩
   dsimp only[nJ]
   by_cases cg:n<l.length
   ·rw[bF _ _,aI,bh,LR,ab]
    have hg:cnd (l[n]!.vBad) (some true) (some (!(if l[n]!.vBad then decide (l[n]!.vW=W 0)&&!l[n]!.vNeg else !decide (l[n]!.vW=W 0)||!l[n]!.vNeg)))=some (!cV l[n]!):=by
     unfold cV
     cases l[n]!.vBad <;> rfl
    rw[hg,ab]
    have B8:(l.take (n+1)).all cV=((l.take n).all cV&&cV l[n]!):=by
     rw[iR l n cg,List.take_succ_eq_append_getElem cg,yI]
     simp
    cases hgb:cV l[n]! with
    |true=>
     left
     refine⟨((n+1:Nat):Int),?_,⟨n+1,rfl,cg,by rw[B8,ha,hgb];rfl⟩,by omega⟩
     rw[fc,a9,cG]
     rfl
    |false=>
     right
     refine⟨_,rfl,rfl,?_⟩
     rw[←rI (n+1) l,yI,B8,hgb]
     simp
   ·right
    refine⟨_,by rw[bA _ _],?_⟩
    rw[kO (by omega)] at ha
    exact ha) (0:Int) ⟨0,rfl,fH _,by simp⟩
 unfold dU
 rw[h1,ab]
 cases x with
 |inl r=>obtain⟨rfl,h2⟩:=hx;rw[h2]
 |inr u=>rw[show l.all cV=true from hx]
theorem jz {A:Nat}(hA:A<LIM)(neg:Bool):b8 neg (W A)=some (enc (bif neg then -(A:Int) else A)):=by
 unfold b8
 rw[z16,←PA hA]
 cases neg with
 |true=>
  rw[ew,ab]
  simp only[ab,Df hA wq,CO,CY]
 |false=>rfl
theorem LW:eN=some Eh:=by unfold eN;rw[r16];rfl
theorem all2g(x y:ay):([x,y].all cV)=(cV x&&cV y):=by simp
theorem all1g(x:ay):([x].all cV)=cV x:=by simp
theorem ui(x y:ay):dU [x,y]=some (cV x&&cV y):=by rw[QP (by simp),all2g]
theorem qza7(x:ay):dU [x]=some (cV x):=by rw[QP (by simp),all1g]
theorem m9 {z:Int}(h:z.natAbs<LIM):(enc z).vW=W z.natAbs:=by rw[rD h]
theorem iL {z:Int}(h:z.natAbs<LIM):(enc z).vNeg=decide (z<0):=by rw[rD h]
theorem G_Add {a c:Int}(ha:a.natAbs<LIM)(hc:c.natAbs<LIM):jb (enc a) (enc c)=some (enc (a+c)):=by
 unfold jb
 rw[ui,bD ha,bD hc,ab]
 simp only[ck,fc,a9,m9 ha,m9 hc,iL ha,iL hc]
 rw[G_plus (by rw[←Dr];exact ha) (by rw[←Dr];exact hc),ab,LO ha hc,ab,←Dr]
 dsimp only
 by_cases hs:decide (a<0)=decide (c<0)
 ·have IX:=mJ.1 hs
  rw[hs,vA,ew]
  by_cases cg:a.natAbs+c.natAbs<LIM
  ·rw[iP cg,fc,a9,jz cg,ab]
   congr 2
   by_cases h:c<0
   ·simp only[h,o0,ig];omega
   ·simp only[h,oZ,cond_false];omega
  ·rw[gX cg,pU,ew,LW,ab,Cu (by omega)]
 ·have IX:¬((a<0)↔(c<0)):=fun h=>hs (mJ.2 h)
  have hb:(decide (a<0) == decide (c<0))=false:=Ai.2 hs
  rw[hb,a9]
  unfold HB
  by_cases h1:a.natAbs<c.natAbs
  ·rw[aQ h1,bA _ _,GP (oW h1),ab,jz (by omega),ab]
   congr 2
   by_cases h:c<0
   ·simp only[h,o0,ig];omega
   ·simp only[h,oZ,cond_false];omega
  ·have h2:(0:Int)≤(if a.natAbs<c.natAbs then -1 else if c.natAbs<a.natAbs then 1 else 0):=by
    rw[aV h1];split <;> omega
   rw[bF _ _ h2,GP (by omega),ab,jz (by omega),ab]
   congr 2
   by_cases h:a<0
   ·simp only[h,o0,ig];omega
   ·simp only[h,oZ,cond_false];omega
theorem MX {x y:ay}(h:(cV x&&cV y)=false):jb x y=some Eh:=by
 unfold jb
 rw[ui,h,ab,pU,ew,LW,ab]
theorem QT {a:Int}(ha:a.natAbs<LIM):mz (enc a)=some (enc (-a)):=by
 unfold mz
 rw[qza7,bD ha,ab,fc,a9,m9 ha,iL ha,jz ha,ab]
 congr 2
 by_cases h:a<0
 ·simp only[h,o0,fc,cond_false];omega
 ·simp only[h,oZ,pU,ig];omega
theorem G_Sub {a c:Int}(ha:a.natAbs<LIM)(hc:c.natAbs<LIM):n7 (enc a) (enc c)=some (enc (a - c)):=by
 unfold n7
 rw[QT hc,ab,G_Add ha (by omega),ab]
 rfl
theorem Ar {a:Int}(ha:a.natAbs<LIM):g9 (enc a)=some a.sign:=by
 unfold g9
 rw[qza7,bD ha,ab,fc,a9,ab,m9 ha,iL ha,z16]
 simp only[Df ha wq]
 rcases Kx a 0 with h|h|h
 ·rw[bA _ _,bF _ _ h,Kv h]
 ·subst h;rfl
 ·rw[bA _ _,bA _ _,CX h]
end
end Go.Proofs.YtgfcnncojhkcoaaGreat
